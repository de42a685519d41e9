/- SX: closures that recover and look at once at what they took. -/
import Derived.Test.YtkogbobplhebaaaGreatDoorQf
set_option linter.unusedVariables false
set_option linter.unusedSimpArgs false
set_option linter.unusedSectionVars false
namespace Go.SX

/-- Operations without calls, one behind the other. -/
def vcTail (E : Env) : List Oper → St → (St → Prop) → Prop
  | [], st, K => K st
  | o :: r, st, K => match o.guard with
    | some _ => False
    | none => match evOp E (o.dst.getD 0) [] (getT st) (getO st) o.op with
      | .bad => False
      | .ok sv upd _ .no => vcTail E r (putDst ⟨st.tmps, updObjs st.objs upd⟩ o.dst sv) K
      | .ok sv upd _ (.need p) => Hold p ∧ vcTail E r (putDst ⟨st.tmps, updObjs st.objs upd⟩ o.dst sv) K

section
variable {P : Program} {E : Env} {S : SP}

theorem tail_run (hE : EOk P E) {ops : Array Oper} {cs : List Frame} {Q : Exit → Act → List Frame → World → Prop} :
    ∀ (rest : List Oper) (i : Nat) (st : St) (K : St → Prop), ops.toList.drop i = rest → vcTail E rest st K →
      ∀ (η : OEnv) (G : Nat → Prop) (a : Act) (w : World), Holds [] η G st.tmps.length (getT st) (getO st) a w →
      (∀ st' η' G' a' w', K st' → st'.tmps.length = st.tmps.length → Holds [] η' G' st'.tmps.length (getT st') (getO st') a' w' → Evol η G w η' G' w' → Q .normal a' cs w') → wpOpsS P ops Q (List.range' i rest.length) a cs w
  | [], i, st, K, _, h, η, G, a, w, H, hK => by simpa [wpOpsS] using hK st η G a w h rfl H (Evol.refl _ _ _)
  | o :: rest, i, st, K, hd, h, η, G, a, w, H, hK => by
      obtain ⟨ho, hd'⟩ := drop_cons hd
      simp only [vcTail] at h
      simp only [List.length_cons, List.range'_succ]
      cases hg : o.guard with
      | some x => rw [hg] at h; exact h.elim
      | none =>
      rw [hg] at h
      have step : ∀ (sv : SV) (upd : Objs) (rd : List Nat) (obl : Obl), evOp E (o.dst.getD 0) [] (getT st) (getO st) o.op = .ok sv upd rd obl → obl.holds → vcTail E rest (putDst ⟨st.tmps, updObjs st.objs upd⟩ o.dst sv) K →
          wpOpsS P ops Q (i :: List.range' (i + 1) rest.length) a cs w := by
        intro sv upd rd obl hev hob h
        have hk : KnOk o.op [] a := fun t b _ hb => by simp [lookN] at hb
        obtain ⟨n, v, η', G', w', hrun, hn, hA⟩ := evOp_sound hE H hk hev hob
        have hput := holds_put (dst := o.dst) H hA (slotsOf ops.toList o) rd
        have hp := fs_put st upd o.dst sv (slotsOf ops.toList o) rd
        have hl := put_len st (updObjs st.objs upd) o.dst sv
        have H' : Holds [] η' G' (putDst ⟨st.tmps, updObjs st.objs upd⟩ o.dst sv).tmps.length (getT (putDst ⟨st.tmps, updObjs st.objs upd⟩ o.dst sv)) (getO (putDst ⟨st.tmps, updObjs st.objs upd⟩ o.dst sv)) (a.put o.dst v) w' := by
          rw [hl]
          have e1 := congrArg Prod.fst hp
          have e2 := congrArg Prod.snd hp
          have e1 : getT (putDst ⟨st.tmps, updObjs st.objs upd⟩ o.dst sv) = _ := e1
          have e2 : getO (putDst ⟨st.tmps, updObjs st.objs upd⟩ o.dst sv) = _ := e2
          rw [e1, e2]
          exact hput
        have ih := tail_run hE rest (i + 1) _ K hd' h η' G' _ w' H' fun st' η'' G'' a'' w'' hk hlen H'' hev' => hK st' η'' G'' a'' w'' hk (hlen.trans hl) H'' (hA.ev.trans hev')
        have hw : Region.wanted o (yielded ops a.tmps) = true := by simp [Region.wanted, hg]
        simp only [wpOpsS, ho, hw, if_true, hrun]
        rcases hn with rfl | ⟨rfl, rfl⟩
        · exact ih
        · exact ih
      cases hev : evOp E (o.dst.getD 0) [] (getT st) (getO st) o.op with
      | bad => rw [hev] at h; exact h.elim
      | ok sv upd rd obl =>
        rw [hev] at h
        cases obl with
        | no => exact step sv upd rd .no hev trivial h
        | need p => exact step sv upd rd (.need p) hev h.1.h h.2

/-- A closure that begins with 'x, is := recover().(T)', run while its caller panics. -/
theorem rec_of_vc2 (hE : EOk P E) (hR : ∀ f svs objs X r objs', E.raw f svs objs X r objs' → SpecG P f svs objs X r objs') (hmix : P.follows .mixedOrders = true) (hS : ∀ f svs objs r objs', S f svs objs r objs' → SpecX P f svs objs r objs')
    {f : Nat} {fn : Func} {rest : Code} {rid d e : Nat} {o0 o1 : Oper} {tl : List Oper} {ts : Array TypeId} (hf : P.funcs[f]? = some fn) (hbd : fn.body = some (.seq (.region rid ⟨o0 :: o1 :: tl⟩ false) rest)) (hfn : FnOk P f)
    (h00 : o0.dst = some d) (h01 : o0.guard = none) (h02 : o0.op = .call { callee := .builtin .recover, args := #[], argTypes := ts })
    (h10 : o1.dst = some e) (h11 : o1.guard = none) (h12 : ∀ (a : Act) (w : World), a.eval (.tmp d) = mineV → (execOp a.eval o1).run P w = .ok (.value (.tuple #[.agg #[], .bool true])) w) (hd : ltN d fn.ntmps = true)
    {svs : List SV} {objs : Objs} {objs' : Objs}
    (hn : leN svs.length fn.ntmps = true) (ho : borNames objs = true)
    (h : vcTail E tl (putDst (putDst (st0 fn.ntmps svs objs) (some d) (.val mineV)) (some e) (.tup [.agg [], .bool .t])) fun st => vc S E rest st fun ex st => match ex with
      | .normal => RetVC E fn.results.toList st (.tup []) objs'
      | .ret => RetVC E fn.results.toList st (.tup []) objs'
      | _ => False) : SpecX P (rawC 13 f) svs objs (.tup []) objs' := by
  intro η G vs w hsep hob hs htab
  rw [runs_rec]
  refine ⟨run_callFunc hfn _ _, ?_⟩
  have hn : svs.length ≤ fn.ntmps := by simpa [leN_iff, ltN_iff] using hn
  have hbor := bor_of hob ho
  refine callsD_of_wpS hf hbd fun c₀ cs hu => ?_
  apply wpS_seq
  apply wpS_region
  have hr : List.range (⟨o0 :: o1 :: tl⟩ : Array Oper).size = 0 :: 1 :: List.range' 2 tl.length := by
    rw [List.range_eq_range']
    rfl
  rw [hr]
  have w0 : ∀ y, Region.wanted o0 y = true := fun y => by simp [Region.wanted, h01]
  have w1 : ∀ y, Region.wanted o1 y = true := fun y => by simp [Region.wanted, h11]
  have e0 : ∀ a : Act, (execOp a.eval o0).run P w = .ok .recover w := fun a => by simp [execOp, h02, resolve, invoke, builtin]
  have hrec : recoverD (c₀ :: cs) = some (mineV, { c₀ with mode := .panicking [{ v := mineV, recovered := true }] } :: cs) := by
    simp [recoverD, hu, panCh]
  obtain ⟨hl, η1, G1, H, hev0⟩ := here_start (dl := []) (n := fn.ntmps) hs hsep hob htab hn
  obtain ⟨ops, hops⟩ : ∃ ops : Array Oper, ops = ⟨o0 :: o1 :: tl⟩ := ⟨_, rfl⟩
  have g0 : ops[0]? = some o0 := by rw [hops]; rfl
  have g1 : ops[1]? = some o1 := by rw [hops]; rfl
  have g2 : ops.toList.drop 2 = tl := by rw [hops]; rfl
  rw [← hops]
  have hd' : d < fn.ntmps := by simpa [ltN_iff] using hd
  simp only [wpOpsS, g0, w0, if_true, e0, hrec, g1, w1]
  have hev : (Act.put { tmps := vs.toArray ++ Array.replicate (fn.ntmps - vs.toArray.size) undef, defers := [] } o0.dst mineV).eval (.tmp d) = mineV := by
    rw [h00]
    have hsz : d < (vs.toArray ++ Array.replicate (fn.ntmps - vs.toArray.size) undef).size := by have := H.sz; simp only at this; rw [this, hl]; exact hd'
    simp only [Act.eval, Act.put, Array.getD_eq_getD_getElem?, Array.getElem?_setIfInBounds_self, hsz, if_true]
    rfl
  rw [h12 _ _ hev]
  simp only [Oper.upon]
  rw [h00, h10]
  have p1 := holds_put (dst := some d) H (After.pure H (sv := .val mineV) (v := mineV) (by simp [SVRel])) [] []
  have f1 := fs_put (st0 fn.ntmps svs objs) [] (some d) (.val mineV) [] []
  have q1 := put_len (st0 fn.ntmps svs objs) (st0 fn.ntmps svs objs).objs (some d) (.val mineV)
  simp only [updObjs] at f1
  have p1' : Holds [] η1 G1 (putDst (st0 fn.ntmps svs objs) (some d) (.val mineV)).tmps.length (getT (putDst (st0 fn.ntmps svs objs) (some d) (.val mineV))) (getO (putDst (st0 fn.ntmps svs objs) (some d) (.val mineV)))
      (Act.put { tmps := vs.toArray ++ Array.replicate (fn.ntmps - vs.toArray.size) undef, defers := [] } (some d) mineV) w := by
    have a1 : (getT (putDst (st0 fn.ntmps svs objs) (some d) (.val mineV))) = (FR.app (st0 fn.ntmps svs objs).tmps.length ⟨some d, .val mineV, [], [], []⟩ (fs (st0 fn.ntmps svs objs))).1 := congrArg Prod.fst f1
    have a2 : (getO (putDst (st0 fn.ntmps svs objs) (some d) (.val mineV))) = (FR.app (st0 fn.ntmps svs objs).tmps.length ⟨some d, .val mineV, [], [], []⟩ (fs (st0 fn.ntmps svs objs))).2 := congrArg Prod.snd f1
    rw [a1, a2, q1]
    exact ⟨p1.sz, p1.df, p1.tm, p1.ob, p1.sp, p1.tb⟩
  obtain ⟨st1, hst1⟩ : ∃ st1, st1 = putDst (st0 fn.ntmps svs objs) (some d) (.val mineV) := ⟨_, rfl⟩
  rw [← hst1] at p1' h q1
  have rr : SVRel η1 G1 w (.tup [.agg [], .bool .t]) (.tuple #[.agg #[], .bool true]) := ⟨[.agg #[], .bool true], rfl, ⟨[], rfl, trivial⟩, rfl, trivial⟩
  have p2 := holds_put (dst := some e) p1' (After.pure p1' (sv := .tup [.agg [], .bool .t]) (v := .tuple #[.agg #[], .bool true]) rr) [] []
  have f2 := fs_put st1 [] (some e) (.tup [.agg [], .bool .t]) [] []
  have q2 := put_len st1 st1.objs (some e) (.tup [.agg [], .bool .t])
  simp only [updObjs] at f2
  have p2' : Holds [] η1 G1 (putDst st1 (some e) (.tup [.agg [], .bool .t])).tmps.length (getT (putDst st1 (some e) (.tup [.agg [], .bool .t]))) (getO (putDst st1 (some e) (.tup [.agg [], .bool .t])))
      (Act.put (Act.put { tmps := vs.toArray ++ Array.replicate (fn.ntmps - vs.toArray.size) undef, defers := [] } (some d) mineV) (some e) (.tuple #[.agg #[], .bool true])) w := by
    have a1 : (getT (putDst st1 (some e) (.tup [.agg [], .bool .t]))) = (FR.app st1.tmps.length ⟨some e, .tup [.agg [], .bool .t], [], [], []⟩ (fs st1)).1 := congrArg Prod.fst f2
    have a2 : (getO (putDst st1 (some e) (.tup [.agg [], .bool .t]))) = (FR.app st1.tmps.length ⟨some e, .tup [.agg [], .bool .t], [], [], []⟩ (fs st1)).2 := congrArg Prod.snd f2
    rw [a1, a2, q2]
    exact ⟨p2.sz, p2.df, p2.tm, p2.ob, p2.sp, p2.tb⟩
  refine tail_run hE tl 2 _ _ g2 h η1 G1 _ w p2' ?_
  intro st2 η2 G2 a2 w2 hk2 hlen2 H2 hev2
  show Code.wpS _ _ _ _ _ _
  refine wpS_of_wp ?_
  refine vc_sound hE hR hmix hS hbor (N := fn.ntmps) rest _ _ _ _ _ hk2 ⟨by rw [hlen2, q2, q1, hl], η2, G2, H2, hev0.trans hev2⟩ ?_
  intro ex st a w' hk hh
  cases ex <;> simp only at hk
  case normal =>
    obtain ⟨h1, v, h2, η', G', h3, h4, h5, h6⟩ := ret_sound hE hbor hh hk
    exact ⟨h1, _, rfl, v, h2, ⟨v, rfl⟩, rfl, η', G', by simp [SVRel, SVRels, undef], h4, h5, h6⟩
  case ret =>
    obtain ⟨h1, v, h2, η', G', h3, h4, h5, h6⟩ := ret_sound hE hbor hh hk
    exact ⟨h1, _, rfl, v, h2, ⟨v, rfl⟩, rfl, η', G', by simp [SVRel, SVRels, undef], h4, h5, h6⟩
  all_goals exact hk.elim

/-- Memory that has grown, and is else as it was. -/
structure Grow (w w' : World) : Prop where
  os : w'.os = w.os
  tape : w'.tape = w.tape
  out : w'.output = w.output
  size : w.heap.size ≤ w'.heap.size
  keep : ∀ b, b < w.heap.size → w'.heap[b]? = w.heap[b]?
theorem Grow.evol {w w' : World} (h : Grow w w') {η : OEnv} {G : Nat → Prop} (s : Sep η G w) : Evol η G w η G w' :=
  ⟨h.os, h.tape, h.out, h.size, fun b hb _ => h.keep b hb, fun k o ho => ⟨o, ho, fun hd => ⟨hd, rfl, Ext.refl _, fun b hb => ⟨hb, h.keep b (s.lt k o ho b (by simp [hb])).1⟩⟩⟩, fun _ h => h, fun _ h => .inl h, fun k o ho b hb => .inr ⟨k, o, ho, hb⟩⟩
theorem Grow.holds {w w' : World} (h : Grow w w') {dl : List Deferred} {η : OEnv} {G : Nat → Prop} {N : Nat} {get : Nat → SV} {ob : Nat → Option TObj} {a : Act} (H : Holds dl η G N get ob a w) : Holds dl η G N get ob a w' := by
  have hev := h.evol H.sp
  have hM := hev.mono H.sp
  refine ⟨H.sz, H.df, fun t => SVRel.mono hM _ _ (H.tm t), fun k => ?_, ⟨fun k o hk b hb => ⟨Nat.lt_of_lt_of_le (H.sp.lt k o hk b hb).1 h.size, (H.sp.lt k o hk b hb).2⟩, H.sp.dj, H.sp.mi, fun b hb => Nat.lt_of_lt_of_le (H.sp.glt b hb) h.size⟩, H.tb.evol hev⟩
  have := H.ob k
  cases h1 : ob k with
  | none => cases h2 : η k with
    | none => trivial
    | some o => rw [h1, h2] at this; exact this.elim
  | some x => cases h2 : η k with
    | none => rw [h1, h2] at this; exact this.elim
    | some o => rw [h1, h2] at this; exact ObjRel.mono hM (fun b hb => h.keep b (H.sp.lt k o h2 b (by simp [hb])).1) this
theorem Grow.here {w w' : World} (h : Grow w w') {dl : List Deferred} {η₀ : OEnv} {G₀ : Nat → Prop} {w₀ : World} {N : Nat} {st : St} {a : Act} (hh : Here dl η₀ G₀ w₀ N st a w) : Here dl η₀ G₀ w₀ N st a w' := by
  obtain ⟨h1, η, G, H, hev⟩ := hh
  exact ⟨h1, η, G, h.holds H, hev.trans (h.evol H.sp)⟩
theorem TabOk.nil {η : OEnv} {w : World} (h : TabOk η w) : TabOk (fun _ => none) w := ⟨h.sz, h.tp, fun k o h => by cases h⟩

/-- The closure g, run as a deferred call of a frame that returns, makes memory at most. -/
def Idle2 (P : Program) (g n : Nat) : Prop :=
  ∀ (cv : List Value) (w : World), cv.length = n → TabOk (fun _ => none) w → (callFunc g ⟨cv⟩).run P w = .ok (.enter g ⟨cv⟩) w ∧ CallsD P g ⟨cv⟩ .returning w fun e u' w' => (∃ v, e = .returned v) ∧ u' = .returning ∧ Grow w w'

theorem anys_rel {η : OEnv} {G : Nat → Prop} {w : World} : ∀ (vs : List Value), SVRels η G w (List.replicate vs.length .any) vs
  | [] => trivial
  | v :: vs => ⟨trivial, anys_rel vs⟩

theorem idle_of_vc (hE : EOk P E) (hR : ∀ f svs objs X r objs', E.raw f svs objs X r objs' → SpecG P f svs objs X r objs') (hmix : P.follows .mixedOrders = true) (hS : ∀ f svs objs r objs', S f svs objs r objs' → SpecX P f svs objs r objs')
    {f : Nat} {fn : Func} {rest : Code} {rid d e n : Nat} {o0 o1 : Oper} {tl : List Oper} {ts : Array TypeId} (hf : P.funcs[f]? = some fn) (hbd : fn.body = some (.seq (.region rid ⟨o0 :: o1 :: tl⟩ false) rest)) (hfn : FnOk P f)
    (h00 : o0.dst = some d) (h01 : o0.guard = none) (h02 : o0.op = .call { callee := .builtin .recover, args := #[], argTypes := ts })
    (h10 : o1.dst = some e) (h11 : o1.guard = none) (h12 : ∀ (a : Act) (w : World), a.eval (.tmp d) = .nilIface → (execOp a.eval o1).run P w = .ok (.value (.tuple #[.agg #[], .bool false])) w) (hd : ltN d fn.ntmps = true) (hres : fn.results.toList = [])
    (hn : leN n fn.ntmps = true)
    (h : vcTail E tl (putDst (putDst (st0 fn.ntmps (List.replicate n .any) []) (some d) (.val .nilIface)) (some e) (.tup [.agg [], .bool .f])) fun st => vc S E rest st fun ex st => match ex with
      | .normal => RetVC E fn.results.toList st (.tup []) []
      | .ret => RetVC E fn.results.toList st (.tup []) []
      | _ => False) : Idle2 P f n := by
  intro vs w hvl htab
  refine ⟨run_callFunc hfn _ _, ?_⟩
  subst hvl
  obtain ⟨η, hη⟩ : ∃ η : OEnv, η = fun _ => none := ⟨_, rfl⟩
  obtain ⟨G, hG⟩ : ∃ G : Nat → Prop, G = fun _ => False := ⟨_, rfl⟩
  have hsep : Sep η G w := by
    subst hη hG
    exact ⟨fun k o h => (by cases h), fun k o k' o' h => (by cases h), fun k o h => (by cases h), fun b h => h.elim⟩
  have hob : ∀ k, ObjOpt η G w (lookN k []) (η k) := fun k => by subst hη; exact trivial
  have hs := anys_rel (η := η) (G := G) (w := w) vs
  have htab : TabOk η w := by subst hη; exact htab
  have hn : (List.replicate vs.length SV.any).length ≤ fn.ntmps := by rw [List.length_replicate]; simpa [leN_iff, ltN_iff] using hn
  have hbor : ∀ k o, η k = some o → isBor k = true := fun k o h => by subst hη; cases h
  refine callsD_of_wpS hf hbd fun c₀ cs hu => ?_
  apply wpS_seq
  apply wpS_region
  have hr : List.range (⟨o0 :: o1 :: tl⟩ : Array Oper).size = 0 :: 1 :: List.range' 2 tl.length := by
    rw [List.range_eq_range']
    rfl
  rw [hr]
  have w0 : ∀ y, Region.wanted o0 y = true := fun y => by simp [Region.wanted, h01]
  have w1 : ∀ y, Region.wanted o1 y = true := fun y => by simp [Region.wanted, h11]
  have e0 : ∀ a : Act, (execOp a.eval o0).run P w = .ok .recover w := fun a => by simp [execOp, h02, resolve, invoke, builtin]
  have hrec : recoverD (c₀ :: cs) = none := by
    simp [recoverD, hu]
  obtain ⟨hl, η1, G1, H, hev0⟩ := here_start (objs := []) (dl := []) (n := fn.ntmps) hs hsep hob htab hn
  obtain ⟨ops, hops⟩ : ∃ ops : Array Oper, ops = ⟨o0 :: o1 :: tl⟩ := ⟨_, rfl⟩
  have g0 : ops[0]? = some o0 := by rw [hops]; rfl
  have g1 : ops[1]? = some o1 := by rw [hops]; rfl
  have g2 : ops.toList.drop 2 = tl := by rw [hops]; rfl
  rw [← hops]
  have hd' : d < fn.ntmps := by simpa [ltN_iff] using hd
  simp only [wpOpsS, g0, w0, if_true, e0, hrec, g1, w1]
  have hev : (Act.put { tmps := vs.toArray ++ Array.replicate (fn.ntmps - vs.toArray.size) undef, defers := [] } o0.dst .nilIface).eval (.tmp d) = .nilIface := by
    rw [h00]
    have hsz : d < (vs.toArray ++ Array.replicate (fn.ntmps - vs.toArray.size) undef).size := by have := H.sz; simp only at this; rw [this, hl]; exact hd'
    simp only [Act.eval, Act.put, Array.getD_eq_getD_getElem?, Array.getElem?_setIfInBounds_self, hsz, if_true]
    rfl
  rw [h12 _ _ hev]
  simp only [Oper.upon]
  rw [h00, h10]
  obtain ⟨st, hst⟩ : ∃ st, st = st0 fn.ntmps (List.replicate vs.length .any) [] := ⟨_, rfl⟩
  rw [← hst] at H h hl
  have p1 := holds_put (dst := some d) H (After.pure H (sv := .val .nilIface) (v := .nilIface) (by simp [SVRel])) [] []
  have f1 := fs_put st [] (some d) (.val .nilIface) [] []
  have q1 := put_len st st.objs (some d) (.val .nilIface)
  simp only [updObjs] at f1
  have p1' : Holds [] η1 G1 (putDst st (some d) (.val .nilIface)).tmps.length (getT (putDst st (some d) (.val .nilIface))) (getO (putDst st (some d) (.val .nilIface)))
      (Act.put { tmps := vs.toArray ++ Array.replicate (fn.ntmps - vs.toArray.size) undef, defers := [] } (some d) .nilIface) w := by
    have a1 : (getT (putDst st (some d) (.val .nilIface))) = (FR.app st.tmps.length ⟨some d, .val .nilIface, [], [], []⟩ (fs st)).1 := congrArg Prod.fst f1
    have a2 : (getO (putDst st (some d) (.val .nilIface))) = (FR.app st.tmps.length ⟨some d, .val .nilIface, [], [], []⟩ (fs st)).2 := congrArg Prod.snd f1
    rw [a1, a2, q1]
    exact ⟨p1.sz, p1.df, p1.tm, p1.ob, p1.sp, p1.tb⟩
  obtain ⟨st1, hst1⟩ : ∃ st1, st1 = putDst st (some d) (.val .nilIface) := ⟨_, rfl⟩
  rw [← hst1] at p1' h q1
  have rr : SVRel η1 G1 w (.tup [.agg [], .bool .f]) (.tuple #[.agg #[], .bool false]) := ⟨[.agg #[], .bool false], rfl, ⟨[], rfl, trivial⟩, rfl, trivial⟩
  have p2 := holds_put (dst := some e) p1' (After.pure p1' (sv := .tup [.agg [], .bool .f]) (v := .tuple #[.agg #[], .bool false]) rr) [] []
  have f2 := fs_put st1 [] (some e) (.tup [.agg [], .bool .f]) [] []
  have q2 := put_len st1 st1.objs (some e) (.tup [.agg [], .bool .f])
  simp only [updObjs] at f2
  have p2' : Holds [] η1 G1 (putDst st1 (some e) (.tup [.agg [], .bool .f])).tmps.length (getT (putDst st1 (some e) (.tup [.agg [], .bool .f]))) (getO (putDst st1 (some e) (.tup [.agg [], .bool .f])))
      (Act.put (Act.put { tmps := vs.toArray ++ Array.replicate (fn.ntmps - vs.toArray.size) undef, defers := [] } (some d) .nilIface) (some e) (.tuple #[.agg #[], .bool false])) w := by
    have a1 : (getT (putDst st1 (some e) (.tup [.agg [], .bool .f]))) = (FR.app st1.tmps.length ⟨some e, .tup [.agg [], .bool .f], [], [], []⟩ (fs st1)).1 := congrArg Prod.fst f2
    have a2 : (getO (putDst st1 (some e) (.tup [.agg [], .bool .f]))) = (FR.app st1.tmps.length ⟨some e, .tup [.agg [], .bool .f], [], [], []⟩ (fs st1)).2 := congrArg Prod.snd f2
    rw [a1, a2, q2]
    exact ⟨p2.sz, p2.df, p2.tm, p2.ob, p2.sp, p2.tb⟩
  refine tail_run hE tl 2 _ _ g2 h η1 G1 _ w p2' ?_
  intro st2 η2 G2 a2 w2 hk2 hlen2 H2 hev2
  show Code.wpS _ _ _ _ _ _
  refine wpS_of_wp ?_
  refine vc_sound hE hR hmix hS hbor (N := fn.ntmps) rest _ _ _ _ _ hk2 ⟨by rw [hlen2, q2, q1, hl], η2, G2, H2, hev0.trans hev2⟩ ?_
  have grow : ∀ {η' : OEnv} {G' : Nat → Prop} {w' : World}, Evol η G w η' G' w' → Grow w w' := fun e => ⟨e.os, e.tape, e.out, e.size, fun b hb => e.keep b hb fun k o hk => by subst hη; cases hk⟩
  intro ex st a w' hk hh
  cases ex <;> simp only at hk
  case normal =>
    obtain ⟨h1, v, h2, η', G', h3, h4, h5, h6⟩ := ret_sound hE hbor hh hk
    exact ⟨h1, _, rfl, v, h2, ⟨v, rfl⟩, hu, grow h6⟩
  case ret =>
    obtain ⟨h1, v, h2, η', G', h3, h4, h5, h6⟩ := ret_sound hE hbor hh hk
    exact ⟨h1, _, rfl, v, h2, ⟨v, rfl⟩, hu, grow h6⟩
  all_goals exact hk.elim

/-- A function that begins with a deferred closure, which recovers, or does nothing that counts. -/
theorem spec_of_vc_rec2 (hE : EOk P E) (hR : ∀ f svs objs X r objs', E.raw f svs objs X r objs' → SpecG P f svs objs X r objs') (hmix : P.follows .mixedOrders = true) (hS : ∀ f svs objs r objs', S f svs objs r objs' → SpecX P f svs objs r objs')
    {f : Nat} {fn : Func} {R0 rest : Code} {rid d g : Nat} {o0 o1 : Oper} {caps : List Operand} {ts : Array TypeId} (l : List (Nat × Nat)) (hl : renOk l) (hf : P.funcs[f]? = some fn)
    (hbd : fn.body = some (.seq R0 (.seq (.region rid #[o0, o1] false) rest)))
    (h00 : o0.dst = some d) (h01 : o0.guard = none) (h02 : o0.op = .makeFunc (.func g) #[] ⟨caps⟩)
    (h10 : o1.dst = none) (h11 : o1.guard = none) (h12 : o1.op = .defer { callee := .value (.tmp d), args := #[], argTypes := ts })
    (hd : ltN d fn.ntmps = true) (hidle : Idle2 P g caps.length)
    {svs : List SV} {r : SV} {objs' : Objs} (hn : leN svs.length fn.ntmps = true)
    (h : vc S E R0 (st0 fn.ntmps svs []) fun ex st => match ex with
      | .normal => (Hold fun _ => allCells (getO st) l = true) ∧ vc S E rest (putDst (renSt l st) (some d) .any) fun ex st' => match ex with
        | .normal => RetVC E fn.results.toList st' r objs'
        | .ret => RetVC E fn.results.toList st' r objs'
        | .panic ch => (Hold fun _ => ch = panCh) ∧ recVC S 0 g (getO st') (caps.map (opnd (getT (renSt l st)))) fun upd => RetVC E fn.results.toList ⟨st'.tmps, updObjs st'.objs upd⟩ r objs'
        | _ => False
      | _ => False) : Spec P f svs [] r objs' := by
  intro η G vs w hsep hob hs htab
  have hn : svs.length ≤ fn.ntmps := by simpa [leN_iff, ltN_iff] using hn
  have h0 : ∀ k, η k = none := fun k => by
    have := hob k
    cases hk : η k with
    | none => rfl
    | some o => rw [hk] at this; exact this.elim
  have hbor : ∀ k o, η k = some o → isBor k = true := fun k o hk => by rw [h0] at hk; cases hk
  refine calls_of_wp_defers hf hbd ?_
  refine wp_seq (vc_sound hE hR hmix hS hbor (N := fn.ntmps) R0 _ _ _ _ _ h (here_start hs hsep hob htab hn) ?_)
  intro ex st a w1 hk hh
  cases ex <;> simp only [Exit.then] at hk ⊢
  case normal =>
    obtain ⟨hcl, hk⟩ := hk
    refine wp_seq (wp_region ?_)
    obtain ⟨hlen, η1, G1, H1, hev1⟩ := hh
    have H := ren_holds hl hcl.h H1
    have hev : Evol η G w (renE l η1) G1 w1 := ren_evol h0 hev1
    have hlR : (renSt l st).tmps.length = fn.ntmps := (renLs_len _).trans hlen
    obtain ⟨st1, hst1⟩ : ∃ st1, st1 = renSt l st := ⟨_, rfl⟩
    rw [← hst1] at H hk hlR
    have hbor1 : ∀ k o, renE l η1 k = some o → isBor k = true := fun k o hk => by
      unfold renE at hk
      split at hk
      · rename_i k0 hk0
        have hm : ∀ {m : List (Nat × Nat)}, lookN k (swapL m) = some k0 → (k0, k) ∈ m := by
          intro m
          induction m with
          | nil => intro h; cases h
          | cons x r ih =>
            intro h
            obtain ⟨x1, x2⟩ := x
            simp only [swapL, lookN] at h
            cases he : eqN x2 k with
            | true =>
              rw [he] at h
              simp only [cond_true, Option.some.injEq] at h
              rw [← h, ← eqN_eq he]; exact List.mem_cons_self
            | false => rw [he] at h; exact List.mem_cons_of_mem _ (ih h)
        exact (hl.1 k0 k (hm hk0)).1
      · cases hk
    obtain ⟨η2, hη2⟩ : ∃ η2, η2 = renE l η1 := ⟨_, rfl⟩
    rw [← hη2] at H hev hbor1
    have hd' : d < a.tmps.size := by rw [H.sz, hlR]; simpa [ltN_iff] using hd
    obtain ⟨cv, hcv⟩ : ∃ cv, cv = caps.map a.eval := ⟨_, rfl⟩
    have hcl : cv.length = caps.length := by rw [hcv, List.length_map]
    have hcaps : SVRels η2 G1 w1 (caps.map (opnd (getT st1))) cv := by
      rw [hcv]
      have all : ∀ c : List Operand, SVRels η2 G1 w1 (c.map (opnd (getT st1))) (c.map a.eval) := by
        intro c
        induction c with
        | nil => exact trivial
        | cons y c ih => exact ⟨opnd_rel H y, ih⟩
      exact all _
    have e0 : (execOp a.eval o0).run P w1 = .ok (.value (.func (.func g) #[] ⟨cv⟩)) w1 := by
      rw [hcv]; simp [execOp, h02, Instr.makeFunc]
    have hev1 : (a.put (some d) (.func (.func g) #[] ⟨cv⟩)).eval (.tmp d) = .func (.func g) #[] ⟨cv⟩ := by
      simp [Act.eval, Act.put, Array.getD_eq_getD_getElem?, hd']
    have e1 : (execOp (a.put (some d) (.func (.func g) #[] ⟨cv⟩)).eval o1).run P w1 = .ok (.defer { target := .fn (.func g) ⟨cv⟩, args := #[] }) w1 := by
      simp [execOp, h12, resolve, hev1, Deferred.ofValue]
    have hr : List.range (#[o0, o1] : Array Oper).size = [0, 1] := rfl
    rw [hr]
    show wpOp P #[o0, o1] _ 0 (wpOp P #[o0, o1] _ 1 (fun a w => Exit.then _ _ .normal a w)) a w1
    have w0 : ∀ y, Region.wanted o0 y = true := fun y => by simp [Region.wanted, h01]
    have w1' : ∀ y, Region.wanted o1 y = true := fun y => by simp [Region.wanted, h11]
    unfold wpOp
    simp only [List.getElem?_toArray, List.getElem?_cons_zero, w0, if_true]
    refine .inl ?_
    unfold Oper.wp
    rw [e0, Oper.upon_value, h00]
    rw [show ([o0, o1] : List Oper)[1]? = some o1 from rfl]
    simp only [w1', if_true]
    refine .inl ?_
    rw [e1, Oper.upon_defer, h10]
    simp only [Act.put, Exit.then]
    have hp := holds_put (dst := some d) H (After.pure H (sv := .any) (v := .func (.func g) #[] ⟨cv⟩) (by simp [SVRel])) [] []
    have hfs := fs_put st1 [] (some d) .any [] []
    simp only [updObjs] at hfs
    have hlp := put_len st1 st1.objs (some d) .any
    obtain ⟨dl, hdl⟩ : ∃ dl, dl = ({ target := .fn (.func g) ⟨cv⟩, args := #[] } :: a.defers : List Deferred) := ⟨_, rfl⟩
    rw [← hdl]
    have hpH : Holds dl η2 G1 (putDst st1 (some d) .any).tmps.length (getT (putDst st1 (some d) .any)) (getO (putDst st1 (some d) .any))
        { tmps := a.tmps.setIfInBounds d (.func (.func g) #[] ⟨cv⟩), defers := dl } w1 := by
      have e1 : (getT (putDst st1 (some d) .any)) = (FR.app st1.tmps.length ⟨some d, .any, [], [], []⟩ (fs st1)).1 := congrArg Prod.fst hfs
      have e2 : (getO (putDst st1 (some d) .any)) = (FR.app st1.tmps.length ⟨some d, .any, [], [], []⟩ (fs st1)).2 := congrArg Prod.snd hfs
      rw [e1, e2, hlp]
      exact ⟨hp.sz, rfl, hp.tm, hp.ob, hp.sp, hp.tb⟩
    have hdf : a.defers = [] := H.df
    refine vc_sound hE hR hmix hS hbor1 (N := fn.ntmps) (dl := dl) rest _ _ _ _ _ hk ⟨by rw [hlp, hlR], η2, G1, hpH, Evol.refl _ _ _⟩ ?_
    have fin : ∀ st a' w', Here dl η2 G1 w1 fn.ntmps st a' w' → RetVC E fn.results.toList st r objs' →
        Leaves P fn a'.tmps (fun e w' => ∃ η' G' v, e = .returned v ∧ SVRel η' G' w' r v ∧ (∀ k, ObjOpt η' G' w' (lookN k objs') (η' k)) ∧ Sep η' G' w' ∧ Evol η G w η' G' w') a'.defers .returning w' := by
      intro st a' w' hh hr
      have h1 : a'.defers = dl := hh.2.choose_spec.choose_spec.1.df
      have htb : TabOk (fun _ => none) w' := hh.2.choose_spec.choose_spec.1.tb.nil
      rw [h1, hdl, hdf]
      obtain ⟨hi, hc⟩ := hidle cv w' hcl htb
      refine leaves_cons (f := g) (args := ⟨cv⟩) (by simp) (by simpa [invoke] using hi) (hc.mono ?_)
      rintro e u' w'' ⟨⟨v', rfl⟩, rfl, hgr⟩
      obtain ⟨h1, v, h2, η', G', h3, h4, h5, h6⟩ := ret_sound hE hbor1 (hgr.here hh) hr
      exact ⟨v, h2, η', G', v, rfl, h3, h4, h5, hev.trans h6⟩
    intro ex st' a' w' hk' hh'
    cases ex <;> simp only at hk'
    case normal => exact fin _ _ _ hh' hk'
    case ret => exact fin _ _ _ hh' hk'
    case panic ch =>
      obtain ⟨hch, hk'⟩ := hk'
      obtain ⟨hl', η3, G3, H3, hev3⟩ := hh'
      unfold recVC at hk'
      split at hk'
      · exact hk'.elim
      · rename_i objs hsel
        obtain ⟨rr, oo, hs2, hok, hK⟩ := hk'.h
        have hcaps3 : SVRels η3 G3 w' (caps.map (opnd (getT st1))) cv := SVRels.mono (hev3.mono H.sp) _ _ hcaps
        have hcall := call_sound (P := P) (f := rawC 13 g) (d := 0) H3 hcaps3 (sel := selOf (getO st') true (caps.map (opnd (getT st1)))) (objs := objs) (objs' := oo) (r := rr) hsel rfl (hS _ _ _ _ _ hs2) hok.h
        rw [runs_rec] at hcall
        obtain ⟨hi, hc⟩ := hcall
        show Leaves P fn a'.tmps _ a'.defers (.panicking ch) w'
        rw [H3.df, hdl, hdf, hch.h]
        refine leaves_cons (f := g) (args := ⟨cv⟩) (by simp) (by simpa [invoke] using hi) (hc.mono ?_)
        rintro e u' w'' ⟨⟨v', rfl⟩, rfl, η4, G4, hA⟩
        have h5 := holds_put (dst := none) H3 hA [] []
        have hp := fs_put st' (backU (selOf (getO st') true (caps.map (opnd (getT st1)))) (borSVs (getO st') (selOf (getO st') true (caps.map (opnd (getT st1)))) (caps.map (opnd (getT st1))) ++ borObjs (getO st') (selOf (getO st') true (caps.map (opnd (getT st1)))) (selOf (getO st') true (caps.map (opnd (getT st1))))) 0 rr oo) none .any [] []
        have e2 : getO ⟨st'.tmps, updObjs st'.objs (backU (selOf (getO st') true (caps.map (opnd (getT st1)))) (borSVs (getO st') (selOf (getO st') true (caps.map (opnd (getT st1)))) (caps.map (opnd (getT st1))) ++ borObjs (getO st') (selOf (getO st') true (caps.map (opnd (getT st1)))) (selOf (getO st') true (caps.map (opnd (getT st1))))) 0 rr oo)⟩ = updF (getO st') (backU (selOf (getO st') true (caps.map (opnd (getT st1)))) (borSVs (getO st') (selOf (getO st') true (caps.map (opnd (getT st1)))) (caps.map (opnd (getT st1))) ++ borObjs (getO st') (selOf (getO st') true (caps.map (opnd (getT st1)))) (selOf (getO st') true (caps.map (opnd (getT st1))))) 0 rr oo) := congrArg Prod.snd hp
        have H4 : Holds dl η4 G4 st'.tmps.length (getT ⟨st'.tmps, updObjs st'.objs (backU (selOf (getO st') true (caps.map (opnd (getT st1)))) (borSVs (getO st') (selOf (getO st') true (caps.map (opnd (getT st1)))) (caps.map (opnd (getT st1))) ++ borObjs (getO st') (selOf (getO st') true (caps.map (opnd (getT st1)))) (selOf (getO st') true (caps.map (opnd (getT st1))))) 0 rr oo)⟩) (getO ⟨st'.tmps, updObjs st'.objs (backU (selOf (getO st') true (caps.map (opnd (getT st1)))) (borSVs (getO st') (selOf (getO st') true (caps.map (opnd (getT st1)))) (caps.map (opnd (getT st1))) ++ borObjs (getO st') (selOf (getO st') true (caps.map (opnd (getT st1)))) (selOf (getO st') true (caps.map (opnd (getT st1))))) 0 rr oo)⟩) a' w'' := by
          rw [e2]; exact h5
        obtain ⟨h1, v, h2, η', G', h3, h4, h5, h6⟩ := ret_sound hE hbor1 (st := ⟨st'.tmps, updObjs st'.objs (backU (selOf (getO st') true (caps.map (opnd (getT st1)))) (borSVs (getO st') (selOf (getO st') true (caps.map (opnd (getT st1)))) (caps.map (opnd (getT st1))) ++ borObjs (getO st') (selOf (getO st') true (caps.map (opnd (getT st1)))) (selOf (getO st') true (caps.map (opnd (getT st1))))) 0 rr oo)⟩) ⟨hl', η4, G4, H4, hev3.trans hA.ev⟩ hK
        show Leaves P fn a'.tmps _ [] (settle (.panicking [{ v := mineV, recovered := true }])) w''
        exact ⟨v, h2, η', G', v, rfl, h3, h4, h5, hev.trans h6⟩
    all_goals exact hk'.elim
  all_goals exact hk.elim
end
end Go.SX

