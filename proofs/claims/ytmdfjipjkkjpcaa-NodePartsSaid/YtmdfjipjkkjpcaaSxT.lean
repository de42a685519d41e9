/- SX: a function that begins with a deferred closure. -/
import Derived.Defers
import Derived.Recover
import Derived.WalkKit
import Derived.Test.YtmdfjipjkkjpcaaSxS
namespace Go.SX

section
variable {P : Program} {E : Env} {S : SP}

/-- The closure g, run as a deferred call of a frame that returns, does nothing. -/
def Idle (P : Program) (g n : Nat) : Prop :=
  ∀ (cv : List Value) (w : World), cv.length = n → (callFunc g ⟨cv⟩).run P w = .ok (.enter g ⟨cv⟩) w ∧ CallsD P g ⟨cv⟩ .returning w fun e u' w' => (∃ v, e = .returned v) ∧ u' = .returning ∧ w' = w

theorem spec_of_vc_defer (hE : EOk P E) (hmix : P.follows .mixedOrders = true) (hS : ∀ f svs objs r objs', S f svs objs r objs' → SpecX P f svs objs r objs')
    {f : Nat} {fn : Func} {R0 rest : Code} {rid d g : Nat} {o0 o1 : Oper} {caps : List Operand} {ts : Array TypeId} (hf : P.funcs[f]? = some fn)
    (hbd : fn.body = some (.seq R0 (.seq (.region rid #[o0, o1] false) rest)))
    (h00 : o0.dst = some d) (h01 : o0.guard = none) (h02 : o0.op = .makeFunc (.func g) #[] ⟨caps⟩)
    (h10 : o1.dst = none) (h11 : o1.guard = none) (h12 : o1.op = .defer { callee := .value (.tmp d), args := #[], argTypes := ts })
    (hd : ltN d fn.ntmps = true) (hidle : Idle P g caps.length)
    {svs : List SV} {objs : Objs} {r : SV} {objs' : Objs} (hn : leN svs.length fn.ntmps = true) (ho : borNames objs = true)
    (h : vc S E R0 (st0 fn.ntmps svs objs) fun ex st => match ex with
      | .normal => vc S E rest (putDst st (some d) .any) fun ex st => match ex with
        | .normal => RetVC E fn.results.toList st r objs'
        | .ret => RetVC E fn.results.toList st r objs'
        | _ => False
      | _ => False) : Spec P f svs objs r objs' := by
  intro η G vs w hsep hob hs
  have hlen := SVRels.length hs
  have hn : svs.length ≤ fn.ntmps := by simpa [leN_iff, ltN_iff] using hn
  refine calls_of_wp_defers hf hbd ?_
  have hbor : ∀ k o, η k = some o → isBor k = true := by
    intro k o hk
    have := hob k
    rw [hk] at this
    cases hl : lookN k objs with
    | none => rw [hl] at this; exact this.elim
    | some x => exact borNames_spec ho (lookN_mem hl)
  refine wp_seq (vc_sound hE hmix hS hbor (N := fn.ntmps) R0 _ _ _ _ _ h ⟨?_, η, G, ⟨?_, rfl, ?_, hob, hsep⟩, Evol.refl η G w⟩ ?_)
  · simp [st0]; omega
  · simp [st0, hlen]
  · intro t
    simp only [getT, st0]
    rw [nthD_append]
    split
    · rename_i ht
      obtain ⟨v, hv, hr⟩ := SVRels.nth t hs ht
      have : (vs.toArray ++ Array.replicate (fn.ntmps - vs.toArray.size) undef).getD t undef = v := by
        have ht' : t < vs.length := by omega
        simp only [Array.getD_eq_getD_getElem?, Array.getElem?_append]
        rw [if_pos (by simpa [leN_iff, ltN_iff] using ht')]
        simp [hv]
      exact this ▸ hr
    · rw [nthD_replicate]; simp [SVRel]
  · intro ex st a w1 hk hh
    cases ex <;> simp only [Exit.then] at hk ⊢
    case normal =>
      refine wp_seq (wp_region ?_)
      obtain ⟨hl, η1, G1, H, hev⟩ := hh
      have hd' : d < a.tmps.size := by rw [H.sz, hl]; simpa [ltN_iff] using hd
      obtain ⟨cv, hcv⟩ : ∃ cv, cv = caps.map a.eval := ⟨_, rfl⟩
      have hcl : cv.length = caps.length := by rw [hcv, List.length_map]
      have e0 : (execOp a.eval o0).run P w1 = .ok (.value (.func (.func g) #[] ⟨cv⟩)) w1 := by
        rw [hcv]; simp [execOp, h02, Instr.makeFunc]
      have hev1 : (a.put (some d) (.func (.func g) #[] ⟨cv⟩)).eval (.tmp d) = .func (.func g) #[] ⟨cv⟩ := by
        simp [Act.eval, Act.put, Array.getD_eq_getD_getElem?, hd']
      have e1 : (execOp (a.put (some d) (.func (.func g) #[] ⟨cv⟩)).eval o1).run P w1 = .ok (.defer { target := .fn (.func g) ⟨cv⟩, args := #[] }) w1 := by
        simp [execOp, h12, resolve, hev1, Deferred.ofValue]
      have hr : List.range (#[o0, o1] : Array Oper).size = [0, 1] := rfl
      rw [hr]
      show wpOp P #[o0, o1] _ 0 (wpOp P #[o0, o1] _ 1 (fun a w => Exit.then _ _ .normal a w)) a w1
      have w0 : ∀ y, Region.wanted o0 y = true := fun y => by simp [Region.wanted, h01]
      have w1' : ∀ y, Region.wanted o1 y = true := fun y => by simp [Region.wanted, h11]
      unfold wpOp
      simp only [List.getElem?_toArray, List.getElem?_cons_zero, w0, if_true]
      refine .inl ?_
      unfold Oper.wp
      rw [e0, Oper.upon_value, h00]
      rw [show ([o0, o1] : List Oper)[1]? = some o1 from rfl]
      simp only [w1', if_true]
      refine .inl ?_
      rw [e1, Oper.upon_defer, h10]
      simp only [Act.put, Exit.then]
      have hp := holds_put (dst := some d) H (After.pure H (sv := .any) (v := .func (.func g) #[] ⟨cv⟩) (by simp [SVRel])) [] []
      have hfs := fs_put st [] (some d) .any [] []
      simp only [updObjs] at hfs
      have hlp := put_len st st.objs (some d) .any
      have hpH : Holds ({ target := .fn (.func g) ⟨cv⟩, args := #[] } :: a.defers) η1 G1 (putDst st (some d) .any).tmps.length (getT (putDst st (some d) .any)) (getO (putDst st (some d) .any))
          { tmps := a.tmps.setIfInBounds d (.func (.func g) #[] ⟨cv⟩), defers := { target := .fn (.func g) ⟨cv⟩, args := #[] } :: a.defers } w1 := by
        have e1 : (getT (putDst st (some d) .any)) = (FR.app st.tmps.length ⟨some d, .any, [], [], []⟩ (fs st)).1 := congrArg Prod.fst hfs
        have e2 : (getO (putDst st (some d) .any)) = (FR.app st.tmps.length ⟨some d, .any, [], [], []⟩ (fs st)).2 := congrArg Prod.snd hfs
        rw [e1, e2, hlp]
        exact ⟨hp.sz, rfl, hp.tm, hp.ob, hp.sp⟩
      have hdf : a.defers = [] := H.df
      refine vc_sound hE hmix hS hbor (N := fn.ntmps) (dl := { target := .fn (.func g) ⟨cv⟩, args := #[] } :: a.defers) rest _ _ _ _ _ hk ⟨by rw [hlp, hl], η1, G1, hpH, hev⟩ ?_
      have fin : ∀ st a' w', Here ({ target := .fn (.func g) ⟨cv⟩, args := #[] } :: a.defers) η G w fn.ntmps st a' w' → RetVC E fn.results.toList st r objs' →
          Leaves P fn a'.tmps (fun e w' => ∃ η' G' v, e = .returned v ∧ SVRel η' G' w' r v ∧ (∀ k, ObjOpt η' G' w' (lookN k objs') (η' k)) ∧ Sep η' G' w' ∧ Evol η G w η' G' w') a'.defers .returning w' := by
        intro st a' w' hh hr
        obtain ⟨h1, v, h2, η', G', h3, h4, h5, h6⟩ := ret_sound hE hbor hh hr
        rw [h1, hdf]
        obtain ⟨hi, hc⟩ := hidle cv w' hcl
        refine leaves_cons (f := g) (args := ⟨cv⟩) (by simp) (by simpa [invoke] using hi) (hc.mono ?_)
        rintro e u' w'' ⟨⟨v', rfl⟩, rfl, rfl⟩
        exact ⟨v, h2, η', G', v, rfl, h3, h4, h5, h6⟩
      intro ex st' a' w' hk' hh'
      cases ex <;> simp only at hk'
      case normal => exact fin _ _ _ hh' hk'
      case ret => exact fin _ _ _ hh' hk'
      all_goals exact hk'.elim
    all_goals exact hk.elim
end
end Go.SX
