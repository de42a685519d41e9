/- Texts put together: SxT, SxTa, SxTb. -/
import Derived.Defers
import Derived.Recover
import Derived.WalkKit
import Derived.Test.YtkogbobplhebaaaGreatDoorQd
set_option linter.unusedVariables false
set_option linter.unusedSimpArgs false
set_option linter.unusedSectionVars false
/- SX: a function that begins with a deferred closure. -/
namespace Go.SX

section
variable {P : Program} {E : Env} {S : SP}

/-- The closure g, run as a deferred call of a frame that returns, does nothing. -/
def Idle (P : Program) (g n : Nat) : Prop :=
  ∀ (cv : List Value) (w : World), cv.length = n → (callFunc g ⟨cv⟩).run P w = .ok (.enter g ⟨cv⟩) w ∧ CallsD P g ⟨cv⟩ .returning w fun e u' w' => (∃ v, e = .returned v) ∧ u' = .returning ∧ w' = w

theorem spec_of_vc_defer (hE : EOk P E) (hR : ∀ f svs objs X r objs', E.raw f svs objs X r objs' → SpecG P f svs objs X r objs') (hmix : P.follows .mixedOrders = true) (hS : ∀ f svs objs r objs', S f svs objs r objs' → SpecX P f svs objs r objs')
    {f : Nat} {fn : Func} {R0 rest : Code} {rid d g : Nat} {o0 o1 : Oper} {caps : List Operand} {ts : Array TypeId} (hf : P.funcs[f]? = some fn)
    (hbd : fn.body = some (.seq R0 (.seq (.region rid #[o0, o1] false) rest)))
    (h00 : o0.dst = some d) (h01 : o0.guard = none) (h02 : o0.op = .makeFunc (.func g) #[] ⟨caps⟩)
    (h10 : o1.dst = none) (h11 : o1.guard = none) (h12 : o1.op = .defer { callee := .value (.tmp d), args := #[], argTypes := ts })
    (hd : ltN d fn.ntmps = true) (hidle : Idle P g caps.length)
    {svs : List SV} {objs : Objs} {r : SV} {objs' : Objs} (hn : leN svs.length fn.ntmps = true) (ho : borNames objs = true)
    (h : vc S E R0 (st0 fn.ntmps svs objs) fun ex st => match ex with
      | .normal => vc S E rest (putDst st (some d) .any) fun ex st => match ex with
        | .normal => RetVC E fn.results.toList st r objs'
        | .ret => RetVC E fn.results.toList st r objs'
        | _ => False
      | _ => False) : Spec P f svs objs r objs' := by
  intro η G vs w hsep hob hs htab
  have hlen := SVRels.length hs
  have hn : svs.length ≤ fn.ntmps := by simpa [leN_iff, ltN_iff] using hn
  refine calls_of_wp_defers hf hbd ?_
  have hbor : ∀ k o, η k = some o → isBor k = true := by
    intro k o hk
    have := hob k
    rw [hk] at this
    cases hl : lookN k objs with
    | none => rw [hl] at this; exact this.elim
    | some x => exact borNames_spec ho (lookN_mem hl)
  refine wp_seq (vc_sound hE hR hmix hS hbor (N := fn.ntmps) R0 _ _ _ _ _ h ⟨?_, η, G, ⟨?_, rfl, ?_, hob, hsep, htab⟩, Evol.refl η G w⟩ ?_)
  · simp [st0]; omega
  · simp [st0, hlen]
  · intro t
    simp only [getT, st0]
    rw [nthD_append]
    split
    · rename_i ht
      obtain ⟨v, hv, hr⟩ := SVRels.nth t hs ht
      have : (vs.toArray ++ Array.replicate (fn.ntmps - vs.toArray.size) undef).getD t undef = v := by
        have ht' : t < vs.length := by omega
        simp only [Array.getD_eq_getD_getElem?, Array.getElem?_append]
        rw [if_pos (by simpa [leN_iff, ltN_iff] using ht')]
        simp [hv]
      exact this ▸ hr
    · rw [nthD_replicate]; simp [SVRel]
  · intro ex st a w1 hk hh
    cases ex <;> simp only [Exit.then] at hk ⊢
    case normal =>
      refine wp_seq (wp_region ?_)
      obtain ⟨hl, η1, G1, H, hev⟩ := hh
      have hd' : d < a.tmps.size := by rw [H.sz, hl]; simpa [ltN_iff] using hd
      obtain ⟨cv, hcv⟩ : ∃ cv, cv = caps.map a.eval := ⟨_, rfl⟩
      have hcl : cv.length = caps.length := by rw [hcv, List.length_map]
      have e0 : (execOp a.eval o0).run P w1 = .ok (.value (.func (.func g) #[] ⟨cv⟩)) w1 := by
        rw [hcv]; simp [execOp, h02, Instr.makeFunc]
      have hev1 : (a.put (some d) (.func (.func g) #[] ⟨cv⟩)).eval (.tmp d) = .func (.func g) #[] ⟨cv⟩ := by
        simp [Act.eval, Act.put, Array.getD_eq_getD_getElem?, hd']
      have e1 : (execOp (a.put (some d) (.func (.func g) #[] ⟨cv⟩)).eval o1).run P w1 = .ok (.defer { target := .fn (.func g) ⟨cv⟩, args := #[] }) w1 := by
        simp [execOp, h12, resolve, hev1, Deferred.ofValue]
      have hr : List.range (#[o0, o1] : Array Oper).size = [0, 1] := rfl
      rw [hr]
      show wpOp P #[o0, o1] _ 0 (wpOp P #[o0, o1] _ 1 (fun a w => Exit.then _ _ .normal a w)) a w1
      have w0 : ∀ y, Region.wanted o0 y = true := fun y => by simp [Region.wanted, h01]
      have w1' : ∀ y, Region.wanted o1 y = true := fun y => by simp [Region.wanted, h11]
      unfold wpOp
      simp only [List.getElem?_toArray, List.getElem?_cons_zero, w0, if_true]
      refine .inl ?_
      unfold Oper.wp
      rw [e0, Oper.upon_value, h00]
      rw [show ([o0, o1] : List Oper)[1]? = some o1 from rfl]
      simp only [w1', if_true]
      refine .inl ?_
      rw [e1, Oper.upon_defer, h10]
      simp only [Act.put, Exit.then]
      have hp := holds_put (dst := some d) H (After.pure H (sv := .any) (v := .func (.func g) #[] ⟨cv⟩) (by simp [SVRel])) [] []
      have hfs := fs_put st [] (some d) .any [] []
      simp only [updObjs] at hfs
      have hlp := put_len st st.objs (some d) .any
      have hpH : Holds ({ target := .fn (.func g) ⟨cv⟩, args := #[] } :: a.defers) η1 G1 (putDst st (some d) .any).tmps.length (getT (putDst st (some d) .any)) (getO (putDst st (some d) .any))
          { tmps := a.tmps.setIfInBounds d (.func (.func g) #[] ⟨cv⟩), defers := { target := .fn (.func g) ⟨cv⟩, args := #[] } :: a.defers } w1 := by
        have e1 : (getT (putDst st (some d) .any)) = (FR.app st.tmps.length ⟨some d, .any, [], [], []⟩ (fs st)).1 := congrArg Prod.fst hfs
        have e2 : (getO (putDst st (some d) .any)) = (FR.app st.tmps.length ⟨some d, .any, [], [], []⟩ (fs st)).2 := congrArg Prod.snd hfs
        rw [e1, e2, hlp]
        exact ⟨hp.sz, rfl, hp.tm, hp.ob, hp.sp, hp.tb⟩
      have hdf : a.defers = [] := H.df
      refine vc_sound hE hR hmix hS hbor (N := fn.ntmps) (dl := { target := .fn (.func g) ⟨cv⟩, args := #[] } :: a.defers) rest _ _ _ _ _ hk ⟨by rw [hlp, hl], η1, G1, hpH, hev⟩ ?_
      have fin : ∀ st a' w', Here ({ target := .fn (.func g) ⟨cv⟩, args := #[] } :: a.defers) η G w fn.ntmps st a' w' → RetVC E fn.results.toList st r objs' →
          Leaves P fn a'.tmps (fun e w' => ∃ η' G' v, e = .returned v ∧ SVRel η' G' w' r v ∧ (∀ k, ObjOpt η' G' w' (lookN k objs') (η' k)) ∧ Sep η' G' w' ∧ Evol η G w η' G' w') a'.defers .returning w' := by
        intro st a' w' hh hr
        obtain ⟨h1, v, h2, η', G', h3, h4, h5, h6⟩ := ret_sound hE hbor hh hr
        rw [h1, hdf]
        obtain ⟨hi, hc⟩ := hidle cv w' hcl
        refine leaves_cons (f := g) (args := ⟨cv⟩) (by simp) (by simpa [invoke] using hi) (hc.mono ?_)
        rintro e u' w'' ⟨⟨v', rfl⟩, rfl, rfl⟩
        exact ⟨v, h2, η', G', v, rfl, h3, h4, h5, h6⟩
      intro ex st' a' w' hk' hh'
      cases ex <;> simp only at hk'
      case normal => exact fin _ _ _ hh' hk'
      case ret => exact fin _ _ _ hh' hk'
      all_goals exact hk'.elim
    all_goals exact hk.elim
end
end Go.SX

/- SX: functions that panic; closures that recover. -/
namespace Go.SX

section
variable {P : Program} {E : Env} {S : SP}

/-- Its start, seen as a state. -/
theorem here_start {svs : List SV} {objs : Objs} {vs : List Value} {n : Nat} {η : OEnv} {G : Nat → Prop} {w : World} {dl : List Deferred} (hs : SVRels η G w svs vs) (hsep : Sep η G w) (hob : ∀ k, ObjOpt η G w (lookN k objs) (η k)) (htab : TabOk η w) (hn : svs.length ≤ n) :
    Here dl η G w n (st0 n svs objs) { tmps := vs.toArray ++ Array.replicate (n - vs.toArray.size) undef, defers := dl } w := by
  have hlen := SVRels.length hs
  refine ⟨by simp [st0]; omega, η, G, ⟨by simp [st0, hlen], rfl, ?_, hob, hsep, htab⟩, Evol.refl η G w⟩
  intro t
  simp only [getT, st0]
  rw [nthD_append]
  split
  · rename_i ht
    obtain ⟨v, hv, hr⟩ := SVRels.nth t hs ht
    have : (vs.toArray ++ Array.replicate (n - vs.toArray.size) undef).getD t undef = v := by
      have ht' : t < vs.length := by omega
      simp only [Array.getD_eq_getD_getElem?, Array.getElem?_append]
      rw [if_pos (by simpa [leN_iff, ltN_iff] using ht')]
      simp [hv]
    exact this ▸ hr
  · rw [nthD_replicate]; simp [SVRel]

theorem bor_of {η : OEnv} {G : Nat → Prop} {w : World} {objs : Objs} (hob : ∀ k, ObjOpt η G w (lookN k objs) (η k)) (ho : borNames objs = true) : ∀ k o, η k = some o → isBor k = true := by
  intro k o hk
  have := hob k
  rw [hk] at this
  cases hl : lookN k objs with
  | none => rw [hl] at this; exact this.elim
  | some x => exact borNames_spec ho (lookN_mem hl)

/-- A function that panics. -/
theorem pan_of_vc (hE : EOk P E) (hR : ∀ f svs objs X r objs', E.raw f svs objs X r objs' → SpecG P f svs objs X r objs') (hmix : P.follows .mixedOrders = true) (hS : ∀ f svs objs r objs', S f svs objs r objs' → SpecX P f svs objs r objs')
    {f : Nat} {fn : Func} {body : Code} (hf : P.funcs[f]? = some fn) (hbd : fn.body = some body) (hfn : FnOk P f) {svs : List SV} {objs : Objs} {objs' : Objs}
    (hn : leN svs.length fn.ntmps = true) (ho : borNames objs = true) (h : FnPan S E body fn.ntmps svs objs objs') : SpecX P (rawC 12 f) svs objs (.tup []) objs' := by
  intro η G vs w hsep hob hs htab
  rw [runs_pans]
  refine ⟨run_callFunc hfn _ _, ?_⟩
  have hn : svs.length ≤ fn.ntmps := by simpa [leN_iff, ltN_iff] using hn
  have hbor := bor_of hob ho
  refine calls_of_wp hf hbd ?_
  refine vc_sound hE hR hmix hS hbor (N := fn.ntmps) body _ _ _ _ _ h (here_start hs hsep hob htab hn) ?_
  intro ex st a w hk hh
  cases ex <;> simp only at hk
  case panic ch =>
    obtain ⟨hch, ρ, frz, h2, h3⟩ := hk
    obtain ⟨_, η1, G1, H, hev⟩ := hh
    obtain ⟨l1, l2, l3⟩ := le_state H h2 h3.h
    exact ⟨H.df, by rw [hch.h], leE η1 ρ objs', inG η1 G1 frz, by simp [SVRel, SVRels, undef], l1, l2, hev.le hbor l3⟩
  all_goals exact hk.elim

/-- A closure that begins with 'recover', run while its caller panics. -/
theorem rec_of_vc (hE : EOk P E) (hR : ∀ f svs objs X r objs', E.raw f svs objs X r objs' → SpecG P f svs objs X r objs') (hmix : P.follows .mixedOrders = true) (hS : ∀ f svs objs r objs', S f svs objs r objs' → SpecX P f svs objs r objs')
    {f : Nat} {fn : Func} {rest : Code} {rid d e : Nat} {o0 o1 : Oper} {ts : Array TypeId} (hf : P.funcs[f]? = some fn) (hbd : fn.body = some (.seq (.region rid #[o0, o1] false) rest)) (hfn : FnOk P f)
    (h00 : o0.dst = some d) (h01 : o0.guard = none) (h02 : o0.op = .call { callee := .builtin .recover, args := #[], argTypes := ts })
    (h10 : o1.dst = some e) (h11 : o1.guard = none) (h12 : o1.op = .assign (.tmp d)) (hd : ltN d fn.ntmps = true)
    {svs : List SV} {objs : Objs} {objs' : Objs}
    (hn : leN svs.length fn.ntmps = true) (ho : borNames objs = true)
    (h : vc S E rest (putDst (putDst (st0 fn.ntmps svs objs) (some d) (.val mineV)) (some e) (.val mineV)) fun ex st => match ex with
      | .normal => RetVC E fn.results.toList st (.tup []) objs'
      | .ret => RetVC E fn.results.toList st (.tup []) objs'
      | _ => False) : SpecX P (rawC 13 f) svs objs (.tup []) objs' := by
  intro η G vs w hsep hob hs htab
  rw [runs_rec]
  refine ⟨run_callFunc hfn _ _, ?_⟩
  have hn : svs.length ≤ fn.ntmps := by simpa [leN_iff, ltN_iff] using hn
  have hbor := bor_of hob ho
  refine callsD_of_wpS hf hbd fun c₀ cs hu => ?_
  apply wpS_seq
  apply wpS_region
  have hr : List.range (#[o0, o1] : Array Oper).size = [0, 1] := rfl
  rw [hr]
  have w0 : ∀ y, Region.wanted o0 y = true := fun y => by simp [Region.wanted, h01]
  have w1 : ∀ y, Region.wanted o1 y = true := fun y => by simp [Region.wanted, h11]
  have e0 : ∀ a : Act, (execOp a.eval o0).run P w = .ok .recover w := fun a => by simp [execOp, h02, resolve, invoke, builtin]
  have hrec : recoverD (c₀ :: cs) = some (mineV, { c₀ with mode := .panicking [{ v := mineV, recovered := true }] } :: cs) := by
    simp [recoverD, hu, panCh]
  obtain ⟨hl, η1, G1, H, hev⟩ := here_start (dl := []) (n := fn.ntmps) hs hsep hob htab hn
  simp only [wpOpsS, List.getElem?_toArray, List.getElem?_cons_zero, w0, if_true, e0, hrec]
  rw [show ([o0, o1] : List Oper)[1]? = some o1 from rfl]
  simp only [w1, if_true]
  have hd' : d < fn.ntmps := by simpa [ltN_iff] using hd
  have e1 : ∀ a : Act, a.tmps.size = fn.ntmps → (execOp (a.put o0.dst mineV).eval o1).run P w = .ok (.value mineV) w := fun a ha => by
    rw [h00]
    simp [execOp, h12, Act.eval, Act.put, Array.getD_eq_getD_getElem?, ha, hd']
  rw [e1 _ (by rw [H.sz, hl])]
  simp only [Oper.upon]
  rw [h00, h10]
  refine wpS_of_wp ?_
  have p1 := holds_put (dst := some d) H (After.pure H (sv := .val mineV) (v := mineV) (by simp [SVRel])) [] []
  have f1 := fs_put (st0 fn.ntmps svs objs) [] (some d) (.val mineV) [] []
  have q1 := put_len (st0 fn.ntmps svs objs) (st0 fn.ntmps svs objs).objs (some d) (.val mineV)
  simp only [updObjs] at f1
  have p1' : Holds [] η1 G1 (putDst (st0 fn.ntmps svs objs) (some d) (.val mineV)).tmps.length (getT (putDst (st0 fn.ntmps svs objs) (some d) (.val mineV))) (getO (putDst (st0 fn.ntmps svs objs) (some d) (.val mineV)))
      (Act.put { tmps := vs.toArray ++ Array.replicate (fn.ntmps - vs.toArray.size) undef, defers := [] } (some d) mineV) w := by
    have a1 : (getT (putDst (st0 fn.ntmps svs objs) (some d) (.val mineV))) = (FR.app (st0 fn.ntmps svs objs).tmps.length ⟨some d, .val mineV, [], [], []⟩ (fs (st0 fn.ntmps svs objs))).1 := congrArg Prod.fst f1
    have a2 : (getO (putDst (st0 fn.ntmps svs objs) (some d) (.val mineV))) = (FR.app (st0 fn.ntmps svs objs).tmps.length ⟨some d, .val mineV, [], [], []⟩ (fs (st0 fn.ntmps svs objs))).2 := congrArg Prod.snd f1
    rw [a1, a2, q1]
    exact ⟨p1.sz, p1.df, p1.tm, p1.ob, p1.sp, p1.tb⟩
  obtain ⟨st1, hst1⟩ : ∃ st1, st1 = putDst (st0 fn.ntmps svs objs) (some d) (.val mineV) := ⟨_, rfl⟩
  rw [← hst1] at p1' h q1
  have p2 := holds_put (dst := some e) p1' (After.pure p1' (sv := .val mineV) (v := mineV) (by simp [SVRel])) [] []
  have f2 := fs_put st1 [] (some e) (.val mineV) [] []
  have q2 := put_len st1 st1.objs (some e) (.val mineV)
  simp only [updObjs] at f2
  have p2' : Holds [] η1 G1 (putDst st1 (some e) (.val mineV)).tmps.length (getT (putDst st1 (some e) (.val mineV))) (getO (putDst st1 (some e) (.val mineV)))
      (Act.put (Act.put { tmps := vs.toArray ++ Array.replicate (fn.ntmps - vs.toArray.size) undef, defers := [] } (some d) mineV) (some e) mineV) w := by
    have a1 : (getT (putDst st1 (some e) (.val mineV))) = (FR.app st1.tmps.length ⟨some e, .val mineV, [], [], []⟩ (fs st1)).1 := congrArg Prod.fst f2
    have a2 : (getO (putDst st1 (some e) (.val mineV))) = (FR.app st1.tmps.length ⟨some e, .val mineV, [], [], []⟩ (fs st1)).2 := congrArg Prod.snd f2
    rw [a1, a2, q2]
    exact ⟨p2.sz, p2.df, p2.tm, p2.ob, p2.sp, p2.tb⟩
  refine vc_sound hE hR hmix hS hbor (N := fn.ntmps) rest _ _ _ _ _ h ⟨by rw [q2, q1, hl], η1, G1, p2', hev⟩ ?_
  intro ex st a w' hk hh
  cases ex <;> simp only at hk
  case normal =>
    obtain ⟨h1, v, h2, η', G', h3, h4, h5, h6⟩ := ret_sound hE hbor hh hk
    exact ⟨h1, _, rfl, v, h2, ⟨v, rfl⟩, rfl, η', G', by simp [SVRel, SVRels, undef], h4, h5, h6⟩
  case ret =>
    obtain ⟨h1, v, h2, η', G', h3, h4, h5, h6⟩ := ret_sound hE hbor hh hk
    exact ⟨h1, _, rfl, v, h2, ⟨v, rfl⟩, rfl, η', G', by simp [SVRel, SVRels, undef], h4, h5, h6⟩
  all_goals exact hk.elim
end
end Go.SX

/- SX: a function that begins with a deferred closure that recovers. -/
namespace Go.SX

/- The function's own first objects get names of borrowed ones: so the rest keeps them. -/
def renL (l : List (Nat × Nat)) : SV → SV
  | .loc k off => match lookN k l with
    | some k' => .loc k' off
    | none => .any
  | s => bif namesOnly [] s then s else .any
def renLs (l : List (Nat × Nat)) : List SV → List SV
  | [] => []
  | s :: r => renL l s :: renLs l r
def renObj (l : List (Nat × Nat)) : Option TObj → TObj
  | some (.cells T cs) => .cells T (renLs l cs)
  | _ => .dead
def renOs (l : List (Nat × Nat)) (ob : Nat → Option TObj) : List (Nat × Nat) → Objs
  | [] => []
  | (k, k') :: r => (k', renObj l (ob k)) :: renOs l ob r
def renSt (l : List (Nat × Nat)) (st : St) : St := ⟨renLs l st.tmps, renOs l (getO st) l⟩
def swapL : List (Nat × Nat) → List (Nat × Nat)
  | [] => []
  | (k, k') :: r => (k', k) :: swapL r
def isCells : Option TObj → Bool
  | some (.cells _ _) => true
  | _ => false
def allCells (ob : Nat → Option TObj) : List (Nat × Nat) → Bool
  | [] => true
  | (k, _) :: r => isCells (ob k) && allCells ob r
/-- Are the new names borrowed ones, and all names different? -/
def renOk (l : List (Nat × Nat)) : Prop := (∀ k k', (k, k') ∈ l → isBor k' = true ∧ lookN k' (swapL l) = some k) ∧ ∀ k k' j, lookN k' (swapL l) = some k → lookN j (swapL l) = some k → k' = j

def recVC (S : SP) (d g : Nat) (ob : Nat → Option TObj) (svs : List SV) (K : Objs → Prop) : Prop :=
  match selObjs ob (selOf ob true svs) (selOf ob true svs) 0 with
  | none => False
  | some objs =>
    CallVC S d (rawC 13 g) (convSVs ob (selOf ob true svs) svs) (selOf ob true svs)
      (borSVs ob (selOf ob true svs) svs ++ borObjs ob (selOf ob true svs) (selOf ob true svs)) objs ob fun _ upd _ => K upd

section
variable {P : Program} {E : Env} {S : SP} {η : OEnv} {G : Nat → Prop} {w : World} {l : List (Nat × Nat)}

def renE (l : List (Nat × Nat)) (η : OEnv) : OEnv := fun j => match lookN j (swapL l) with
  | some k => η k
  | none => none

theorem renLs_len : ∀ (cs : List SV), (renLs l cs).length = cs.length
  | [] => rfl
  | _ :: r => by simp [renLs, renLs_len r]
theorem renLs_at : ∀ (cs : List SV) (t : Nat), nthD (renLs l cs) t .any = renL l (nthD cs t .any)
  | [], t => by simp [renLs, nthD, renL, namesOnly]
  | _ :: _, 0 => rfl
  | _ :: r, t + 1 => by simpa [renLs, nthD] using renLs_at r t
theorem renL_rel (hl : renOk l) {s : SV} {v : Value} (h : SVRel η G w s v) : SVRel (renE l η) G w (renL l s) v := by
  have other : (∀ k off, s ≠ .loc k off) → SVRel (renE l η) G w (renL l s) v := by
    intro hne
    have e : renL l s = bif namesOnly [] s then s else .any := by
      cases s <;> first | rfl | exact absurd rfl (hne _ _)
    rw [e]
    cases hn : namesOnly [] s with
    | false => simp [SVRel]
    | true => exact names_rel (fun k hk => by cases hk) (fun _ h => h) s v hn h
  cases s with
  | loc k off =>
    simp only [renL]
    cases hk : lookN k l with
    | none => simp [SVRel]
    | some k' =>
      obtain ⟨o, ho, hh⟩ := h
      exact ⟨o, by simp only [renE, (hl.1 k k' (lookN_mem hk)).2]; exact ho, hh⟩
  | _ => exact other (fun _ _ e => by cases e)
theorem renLs_rel (hl : renOk l) : ∀ {cs : List SV} {vs : List Value}, SVRels η G w cs vs → SVRels (renE l η) G w (renLs l cs) vs
  | [], [], _ => trivial
  | [], _ :: _, h => h.elim
  | _ :: _, [], h => h.elim
  | _ :: _, _ :: _, h => ⟨renL_rel hl h.1, renLs_rel hl h.2⟩
theorem renOs_look {ob : Nat → Option TObj} {j : Nat} : ∀ (m : List (Nat × Nat)), lookN j (renOs l ob m) = (lookN j (swapL m)).map fun k => renObj l (ob k)
  | [] => rfl
  | (k, k') :: r => by
    simp only [renOs, swapL, lookN]
    cases eqN k' j with
    | true => rfl
    | false => exact renOs_look r
theorem allCells_at {ob : Nat → Option TObj} : ∀ {m : List (Nat × Nat)} {j k : Nat}, allCells ob m = true → lookN j (swapL m) = some k → ∃ T cs, ob k = some (.cells T cs)
  | [], _, _, _, h => by cases h
  | (k0, k1) :: r, j, k, ha, h => by
    simp only [allCells, Bool.and_eq_true] at ha
    simp only [swapL, lookN] at h
    cases he : eqN k1 j with
    | true =>
      rw [he] at h
      simp only [cond_true, Option.some.injEq] at h
      subst h
      have h1 := ha.1
      unfold isCells at h1
      split at h1
      · exact ⟨_, _, by assumption⟩
      · cases h1
    | false => rw [he] at h; exact allCells_at ha.2 h

theorem ren_holds {dl : List Deferred} {st : St} {a : Act} (hl : renOk l) (hc : allCells (getO st) l = true) (H : Holds dl η G st.tmps.length (getT st) (getO st) a w) :
    Holds dl (renE l η) G (renSt l st).tmps.length (getT (renSt l st)) (getO (renSt l st)) a w := by
  refine ⟨by rw [H.sz]; exact (renLs_len _).symm, H.df, fun t => ?_, fun j => ?_, ?_, ⟨H.tb.sz, H.tb.tp, fun j o h => by
    unfold renE at h
    split at h
    · exact H.tb.out _ o h
    · cases h⟩⟩
  · show SVRel (renE l η) G w (nthD (renLs l st.tmps) t .any) _
    rw [renLs_at]; exact renL_rel hl (H.tm t)
  · show ObjOpt (renE l η) G w (lookN j (renOs l (getO st) l)) (renE l η j)
    rw [renOs_look]
    unfold renE
    cases hj : lookN j (swapL l) with
    | none => trivial
    | some k =>
      obtain ⟨T, cs, hob⟩ := allCells_at hc hj
      have hh := H.ob k
      rw [hob] at hh
      show ObjOpt _ G w (some (renObj l (getO st k))) (η k)
      rw [hob]
      cases hk : η k with
      | none => rw [hk] at hh; exact hh.elim
      | some o =>
        rw [hk] at hh
        obtain ⟨h1, h2, b, vs, h3, h4, h5⟩ := hh
        exact ⟨h1, h2, b, vs, h3, h4, renLs_rel hl h5⟩
  · have back : ∀ {j o}, renE l η j = some o → ∃ k, lookN j (swapL l) = some k ∧ η k = some o := by
      intro j o h
      unfold renE at h
      split at h
      · exact ⟨_, by assumption, h⟩
      · cases h
    refine ⟨fun j o h => ?_, fun j o j' o' h h' hne => ?_, fun j o h => ?_, H.sp.glt⟩
    · obtain ⟨k, _, hk⟩ := back h; exact H.sp.lt k o hk
    · obtain ⟨k, q, hk⟩ := back h
      obtain ⟨k', q', hk'⟩ := back h'
      exact H.sp.dj k o k' o' hk hk' fun e => hne (by subst e; exact hl.2 _ _ _ q q')
    · obtain ⟨k, _, hk⟩ := back h; exact H.sp.mi k o hk
theorem ren_evol {η₀ : OEnv} {G₀ : Nat → Prop} {w₀ : World} (h0 : ∀ k, η₀ k = none) (hev : Evol η₀ G₀ w₀ η G w) : Evol η₀ G₀ w₀ (renE l η) G w :=
  ⟨hev.os, hev.tape, hev.out, hev.size, hev.keep, fun k o h => (by rw [h0] at h; cases h), hev.g, hev.g', fun j o h b hb => by
    unfold renE at h
    split at h
    · exact hev.blk _ o h b hb
    · cases h⟩

theorem spec_of_vc_rec (hE : EOk P E) (hR : ∀ f svs objs X r objs', E.raw f svs objs X r objs' → SpecG P f svs objs X r objs') (hmix : P.follows .mixedOrders = true) (hS : ∀ f svs objs r objs', S f svs objs r objs' → SpecX P f svs objs r objs')
    {f : Nat} {fn : Func} {R0 rest : Code} {rid d g : Nat} {o0 o1 : Oper} {caps : List Operand} {ts : Array TypeId} (l : List (Nat × Nat)) (hl : renOk l) (hf : P.funcs[f]? = some fn)
    (hbd : fn.body = some (.seq R0 (.seq (.region rid #[o0, o1] false) rest)))
    (h00 : o0.dst = some d) (h01 : o0.guard = none) (h02 : o0.op = .makeFunc (.func g) #[] ⟨caps⟩)
    (h10 : o1.dst = none) (h11 : o1.guard = none) (h12 : o1.op = .defer { callee := .value (.tmp d), args := #[], argTypes := ts })
    (hd : ltN d fn.ntmps = true) (hidle : Idle P g caps.length)
    {svs : List SV} {r : SV} {objs' : Objs} (hn : leN svs.length fn.ntmps = true)
    (h : vc S E R0 (st0 fn.ntmps svs []) fun ex st => match ex with
      | .normal => (Hold fun _ => allCells (getO st) l = true) ∧ vc S E rest (putDst (renSt l st) (some d) .any) fun ex st' => match ex with
        | .normal => RetVC E fn.results.toList st' r objs'
        | .ret => RetVC E fn.results.toList st' r objs'
        | .panic ch => (Hold fun _ => ch = panCh) ∧ recVC S 0 g (getO st') (caps.map (opnd (getT (renSt l st)))) fun upd => RetVC E fn.results.toList ⟨st'.tmps, updObjs st'.objs upd⟩ r objs'
        | _ => False
      | _ => False) : Spec P f svs [] r objs' := by
  intro η G vs w hsep hob hs htab
  have hn : svs.length ≤ fn.ntmps := by simpa [leN_iff, ltN_iff] using hn
  have h0 : ∀ k, η k = none := fun k => by
    have := hob k
    cases hk : η k with
    | none => rfl
    | some o => rw [hk] at this; exact this.elim
  have hbor : ∀ k o, η k = some o → isBor k = true := fun k o hk => by rw [h0] at hk; cases hk
  refine calls_of_wp_defers hf hbd ?_
  refine wp_seq (vc_sound hE hR hmix hS hbor (N := fn.ntmps) R0 _ _ _ _ _ h (here_start hs hsep hob htab hn) ?_)
  intro ex st a w1 hk hh
  cases ex <;> simp only [Exit.then] at hk ⊢
  case normal =>
    obtain ⟨hcl, hk⟩ := hk
    refine wp_seq (wp_region ?_)
    obtain ⟨hlen, η1, G1, H1, hev1⟩ := hh
    have H := ren_holds hl hcl.h H1
    have hev : Evol η G w (renE l η1) G1 w1 := ren_evol h0 hev1
    have hlR : (renSt l st).tmps.length = fn.ntmps := (renLs_len _).trans hlen
    obtain ⟨st1, hst1⟩ : ∃ st1, st1 = renSt l st := ⟨_, rfl⟩
    rw [← hst1] at H hk hlR
    have hbor1 : ∀ k o, renE l η1 k = some o → isBor k = true := fun k o hk => by
      unfold renE at hk
      split at hk
      · rename_i k0 hk0
        have hm : ∀ {m : List (Nat × Nat)}, lookN k (swapL m) = some k0 → (k0, k) ∈ m := by
          intro m
          induction m with
          | nil => intro h; cases h
          | cons x r ih =>
            intro h
            obtain ⟨x1, x2⟩ := x
            simp only [swapL, lookN] at h
            cases he : eqN x2 k with
            | true =>
              rw [he] at h
              simp only [cond_true, Option.some.injEq] at h
              rw [← h, ← eqN_eq he]; exact List.mem_cons_self
            | false => rw [he] at h; exact List.mem_cons_of_mem _ (ih h)
        exact (hl.1 k0 k (hm hk0)).1
      · cases hk
    obtain ⟨η2, hη2⟩ : ∃ η2, η2 = renE l η1 := ⟨_, rfl⟩
    rw [← hη2] at H hev hbor1
    have hd' : d < a.tmps.size := by rw [H.sz, hlR]; simpa [ltN_iff] using hd
    obtain ⟨cv, hcv⟩ : ∃ cv, cv = caps.map a.eval := ⟨_, rfl⟩
    have hcl : cv.length = caps.length := by rw [hcv, List.length_map]
    have hcaps : SVRels η2 G1 w1 (caps.map (opnd (getT st1))) cv := by
      rw [hcv]
      have all : ∀ c : List Operand, SVRels η2 G1 w1 (c.map (opnd (getT st1))) (c.map a.eval) := by
        intro c
        induction c with
        | nil => exact trivial
        | cons y c ih => exact ⟨opnd_rel H y, ih⟩
      exact all _
    have e0 : (execOp a.eval o0).run P w1 = .ok (.value (.func (.func g) #[] ⟨cv⟩)) w1 := by
      rw [hcv]; simp [execOp, h02, Instr.makeFunc]
    have hev1 : (a.put (some d) (.func (.func g) #[] ⟨cv⟩)).eval (.tmp d) = .func (.func g) #[] ⟨cv⟩ := by
      simp [Act.eval, Act.put, Array.getD_eq_getD_getElem?, hd']
    have e1 : (execOp (a.put (some d) (.func (.func g) #[] ⟨cv⟩)).eval o1).run P w1 = .ok (.defer { target := .fn (.func g) ⟨cv⟩, args := #[] }) w1 := by
      simp [execOp, h12, resolve, hev1, Deferred.ofValue]
    have hr : List.range (#[o0, o1] : Array Oper).size = [0, 1] := rfl
    rw [hr]
    show wpOp P #[o0, o1] _ 0 (wpOp P #[o0, o1] _ 1 (fun a w => Exit.then _ _ .normal a w)) a w1
    have w0 : ∀ y, Region.wanted o0 y = true := fun y => by simp [Region.wanted, h01]
    have w1' : ∀ y, Region.wanted o1 y = true := fun y => by simp [Region.wanted, h11]
    unfold wpOp
    simp only [List.getElem?_toArray, List.getElem?_cons_zero, w0, if_true]
    refine .inl ?_
    unfold Oper.wp
    rw [e0, Oper.upon_value, h00]
    rw [show ([o0, o1] : List Oper)[1]? = some o1 from rfl]
    simp only [w1', if_true]
    refine .inl ?_
    rw [e1, Oper.upon_defer, h10]
    simp only [Act.put, Exit.then]
    have hp := holds_put (dst := some d) H (After.pure H (sv := .any) (v := .func (.func g) #[] ⟨cv⟩) (by simp [SVRel])) [] []
    have hfs := fs_put st1 [] (some d) .any [] []
    simp only [updObjs] at hfs
    have hlp := put_len st1 st1.objs (some d) .any
    obtain ⟨dl, hdl⟩ : ∃ dl, dl = ({ target := .fn (.func g) ⟨cv⟩, args := #[] } :: a.defers : List Deferred) := ⟨_, rfl⟩
    rw [← hdl]
    have hpH : Holds dl η2 G1 (putDst st1 (some d) .any).tmps.length (getT (putDst st1 (some d) .any)) (getO (putDst st1 (some d) .any))
        { tmps := a.tmps.setIfInBounds d (.func (.func g) #[] ⟨cv⟩), defers := dl } w1 := by
      have e1 : (getT (putDst st1 (some d) .any)) = (FR.app st1.tmps.length ⟨some d, .any, [], [], []⟩ (fs st1)).1 := congrArg Prod.fst hfs
      have e2 : (getO (putDst st1 (some d) .any)) = (FR.app st1.tmps.length ⟨some d, .any, [], [], []⟩ (fs st1)).2 := congrArg Prod.snd hfs
      rw [e1, e2, hlp]
      exact ⟨hp.sz, rfl, hp.tm, hp.ob, hp.sp, hp.tb⟩
    have hdf : a.defers = [] := H.df
    refine vc_sound hE hR hmix hS hbor1 (N := fn.ntmps) (dl := dl) rest _ _ _ _ _ hk ⟨by rw [hlp, hlR], η2, G1, hpH, Evol.refl _ _ _⟩ ?_
    have fin : ∀ st a' w', Here dl η2 G1 w1 fn.ntmps st a' w' → RetVC E fn.results.toList st r objs' →
        Leaves P fn a'.tmps (fun e w' => ∃ η' G' v, e = .returned v ∧ SVRel η' G' w' r v ∧ (∀ k, ObjOpt η' G' w' (lookN k objs') (η' k)) ∧ Sep η' G' w' ∧ Evol η G w η' G' w') a'.defers .returning w' := by
      intro st a' w' hh hr
      obtain ⟨h1, v, h2, η', G', h3, h4, h5, h6⟩ := ret_sound hE hbor1 hh hr
      rw [h1, hdl, hdf]
      obtain ⟨hi, hc⟩ := hidle cv w' hcl
      refine leaves_cons (f := g) (args := ⟨cv⟩) (by simp) (by simpa [invoke] using hi) (hc.mono ?_)
      rintro e u' w'' ⟨⟨v', rfl⟩, rfl, rfl⟩
      exact ⟨v, h2, η', G', v, rfl, h3, h4, h5, hev.trans h6⟩
    intro ex st' a' w' hk' hh'
    cases ex <;> simp only at hk'
    case normal => exact fin _ _ _ hh' hk'
    case ret => exact fin _ _ _ hh' hk'
    case panic ch =>
      obtain ⟨hch, hk'⟩ := hk'
      obtain ⟨hl', η3, G3, H3, hev3⟩ := hh'
      unfold recVC at hk'
      split at hk'
      · exact hk'.elim
      · rename_i objs hsel
        obtain ⟨rr, oo, hs2, hok, hK⟩ := hk'.h
        have hcaps3 : SVRels η3 G3 w' (caps.map (opnd (getT st1))) cv := SVRels.mono (hev3.mono H.sp) _ _ hcaps
        have hcall := call_sound (P := P) (f := rawC 13 g) (d := 0) H3 hcaps3 (sel := selOf (getO st') true (caps.map (opnd (getT st1)))) (objs := objs) (objs' := oo) (r := rr) hsel rfl (hS _ _ _ _ _ hs2) hok.h
        rw [runs_rec] at hcall
        obtain ⟨hi, hc⟩ := hcall
        show Leaves P fn a'.tmps _ a'.defers (.panicking ch) w'
        rw [H3.df, hdl, hdf, hch.h]
        refine leaves_cons (f := g) (args := ⟨cv⟩) (by simp) (by simpa [invoke] using hi) (hc.mono ?_)
        rintro e u' w'' ⟨⟨v', rfl⟩, rfl, η4, G4, hA⟩
        have h5 := holds_put (dst := none) H3 hA [] []
        have hp := fs_put st' (backU (selOf (getO st') true (caps.map (opnd (getT st1)))) (borSVs (getO st') (selOf (getO st') true (caps.map (opnd (getT st1)))) (caps.map (opnd (getT st1))) ++ borObjs (getO st') (selOf (getO st') true (caps.map (opnd (getT st1)))) (selOf (getO st') true (caps.map (opnd (getT st1))))) 0 rr oo) none .any [] []
        have e2 : getO ⟨st'.tmps, updObjs st'.objs (backU (selOf (getO st') true (caps.map (opnd (getT st1)))) (borSVs (getO st') (selOf (getO st') true (caps.map (opnd (getT st1)))) (caps.map (opnd (getT st1))) ++ borObjs (getO st') (selOf (getO st') true (caps.map (opnd (getT st1)))) (selOf (getO st') true (caps.map (opnd (getT st1))))) 0 rr oo)⟩ = updF (getO st') (backU (selOf (getO st') true (caps.map (opnd (getT st1)))) (borSVs (getO st') (selOf (getO st') true (caps.map (opnd (getT st1)))) (caps.map (opnd (getT st1))) ++ borObjs (getO st') (selOf (getO st') true (caps.map (opnd (getT st1)))) (selOf (getO st') true (caps.map (opnd (getT st1))))) 0 rr oo) := congrArg Prod.snd hp
        have H4 : Holds dl η4 G4 st'.tmps.length (getT ⟨st'.tmps, updObjs st'.objs (backU (selOf (getO st') true (caps.map (opnd (getT st1)))) (borSVs (getO st') (selOf (getO st') true (caps.map (opnd (getT st1)))) (caps.map (opnd (getT st1))) ++ borObjs (getO st') (selOf (getO st') true (caps.map (opnd (getT st1)))) (selOf (getO st') true (caps.map (opnd (getT st1))))) 0 rr oo)⟩) (getO ⟨st'.tmps, updObjs st'.objs (backU (selOf (getO st') true (caps.map (opnd (getT st1)))) (borSVs (getO st') (selOf (getO st') true (caps.map (opnd (getT st1)))) (caps.map (opnd (getT st1))) ++ borObjs (getO st') (selOf (getO st') true (caps.map (opnd (getT st1)))) (selOf (getO st') true (caps.map (opnd (getT st1))))) 0 rr oo)⟩) a' w'' := by
          rw [e2]; exact h5
        obtain ⟨h1, v, h2, η', G', h3, h4, h5, h6⟩ := ret_sound hE hbor1 (st := ⟨st'.tmps, updObjs st'.objs (backU (selOf (getO st') true (caps.map (opnd (getT st1)))) (borSVs (getO st') (selOf (getO st') true (caps.map (opnd (getT st1)))) (caps.map (opnd (getT st1))) ++ borObjs (getO st') (selOf (getO st') true (caps.map (opnd (getT st1)))) (selOf (getO st') true (caps.map (opnd (getT st1))))) 0 rr oo)⟩) ⟨hl', η4, G4, H4, hev3.trans hA.ev⟩ hK
        show Leaves P fn a'.tmps _ [] (settle (.panicking [{ v := mineV, recovered := true }])) w''
        exact ⟨v, h2, η', G', v, rfl, h3, h4, h5, hev.trans h6⟩
    all_goals exact hk'.elim
  all_goals exact hk.elim
end
end Go.SX

