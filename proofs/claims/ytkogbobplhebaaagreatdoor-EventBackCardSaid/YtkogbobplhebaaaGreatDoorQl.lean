/- Texts put together: Dt, De, Df, Dg, Dh, Du, Dv, Dw, Di, Dj, Dx, Dy. -/
import Derived.Laws.MakeOwn
import Derived.Test.YtkogbobplhebaaaGreatDoorQj
import Derived.Test.YtkogbobplhebaaaGreatDoorQk
import Derived.Test.YtkogbobplhebaaaGreatDoorQg
set_option linter.unusedVariables false
set_option linter.unusedSimpArgs false
set_option linter.unusedSectionVars false
/- Events: must, whole; the closure that takes a panic off. -/
namespace Go.Proofs.YtkogbobplhebaaaGreatDoor
open Go.SX Go.Ev

/-- The same, but that must and whole may panic. -/
def E4 : Env := ⟨tiN, rwN, ConG, fun _ => false, fun f => eqN f 34 || eqN f 39⟩
theorem fieldsOk4 : ∀ (fs : List (Nat × Nat)) (l : List Field), fieldsOk Tryz.prog E fs l → fieldsOk Tryz.prog E4 fs l
  | [], [], _ => trivial
  | [], _ :: _, h => h.elim
  | _ :: _, [], h => h.elim
  | (_, _) :: fs, _ :: r, ⟨h1, h2, h3, h4⟩ => ⟨h1, h2, h3, fieldsOk4 fs r h4⟩
theorem tdOk4 {td : TD} {d : TypeDesc} (h : TDOk Tryz.prog E td d) : TDOk Tryz.prog E4 td d := by
  cases td with
  | struct fs =>
    obtain ⟨fields, h1, h2⟩ := h
    exact ⟨fields, h1, fieldsOk4 _ _ h2⟩
  | _ => exact h
theorem eok4 : EOk Tryz.prog E4 := fun T ti h => by
  obtain ⟨h1, ⟨d, h2, h3⟩, h4⟩ := eok T ti h
  exact ⟨h1, ⟨d, h2, tdOk4 h3⟩, h4⟩
theorem raw4 : ∀ f svs objs X r objs', E4.raw f svs objs X r objs' → SpecG Tryz.prog f svs objs X r objs' := fun _ _ _ _ _ _ h => ConG.spec h
theorem con_pan {f : Nat} {fn : Func} {body : Code} (hf : Tryz.prog.funcs[f]? = some fn) (hb : fn.body = some body) (hname : (fn.name == "runtime.NumGoroutine") = false) {svs : List SV} {objs : Objs} {objs' : Objs} (n : Nat)
    (hn : fn.ntmps = n) (hl : leN svs.length n = true) (ho : borNames objs = true) (h : FnPan Con E4 body n svs objs objs') : Con (rawC 12 f) svs objs (.tup []) objs' := by
  subst hn
  exact ⟨pan_of_vc eok4 raw4 mixed (fun _ _ _ _ _ h => h.spec) hf hb ⟨fn, body, hf, hb, hname⟩ hl ho h⟩
theorem con_of4 {f : Nat} {fn : Func} {body : Code} (hf : Tryz.prog.funcs[f]? = some fn) (hb : fn.body = some body) (hname : (fn.name == "runtime.NumGoroutine") = false) {svs : List SV} {objs : Objs} {r : SV} {objs' : Objs} (n : Nat) (res : List ResultVar)
    (hn : fn.ntmps = n) (hres : fn.results.toList = res) (hl : leN svs.length n = true) (ho : borNames objs = true) (h : FnVC Con E4 body n res svs objs r objs') (hlt : f < 4096 := by decide) : Con f svs objs r objs' := by
  subst hn; subst hres
  exact ⟨specX_of (spec_of_vc eok4 raw4 mixed (fun _ _ _ _ _ h => h.spec) hf hb hl ho h) ⟨fn, body, hf, hb, hname⟩ hlt⟩

set_option maxRecDepth 20000 in
set_option maxHeartbeats 4000000 in
theorem con34 {b : Bool} (hb : b = true) : Con 34 [.bool (.s fun _ => b)] [] (.tup []) [] := by
  refine con_of4 Tryz.func34 rfl rfl 6 _ rfl rfl rfl rfl ?_
  cbv
  refine And.intro ?_ ?_
  · intro g
    have g := bnot_t g
    have g9 : False := by rw [hb] at g; cases g
    cbv
    exact g9.elim
  · intro g
    clear g
    cbv
    refine ⟨[], [], ?_⟩
    cbv
    and_intros
    all_goals first | exact trivial | exact ⟨rfl⟩ | exact ⟨by kernel_rfl⟩
set_option maxRecDepth 20000 in
set_option maxHeartbeats 4000000 in
theorem pan34 {b : Bool} (hb : b = false) : Con (rawC 12 34) [.bool (.s fun _ => b)] [] (.tup []) [] := by
  refine con_pan Tryz.func34 rfl rfl 6 rfl rfl rfl ?_
  cbv
  refine And.intro ?_ ?_
  · intro g
    clear g
    cbv
    refine ⟨⟨rfl⟩, ⟨rfl⟩, [], [], ?_⟩
    cbv
    and_intros
    all_goals first | exact trivial | exact ⟨rfl⟩ | exact ⟨by kernel_rfl⟩
  · intro g
    have g := bnot_f g
    have g9 : False := by rw [hb] at g; cases g
    cbv
    exact g9.elim

set_option maxRecDepth 20000 in
set_option maxHeartbeats 4000000 in
theorem con39 {b : List UInt8} (hb : b.length < 1000000000) {v : Val} (hv : decV b = some v) : Con 39 [.dat (.bytes fun _ => b)] [] (valSV 10 v) [] := by
  have c94 := con94 hb
  rw [hv] at c94
  have c94 : Con 94 [.dat (.bytes fun _ => b)] [] (.tup [valSV 10 v, .int .u16 (.s fun _ => 0)]) [] := c94
  have c34 := con34 (b := decide ((0 : Int) = 0)) rfl
  obtain ⟨rv, hrv⟩ : ∃ q, q = (rowsG 10).1 := ⟨_, rfl⟩
  obtain ⟨rf, hrf⟩ : ∃ q, q = (rowsG 10).2 := ⟨_, rfl⟩
  unfold valSV at c94 ⊢
  rw [← hrv, ← hrf] at c94 ⊢
  clear hrv hrf
  obtain ⟨Y, hY⟩ : ∃ Y, Y = v.bytes := ⟨_, rfl⟩
  obtain ⟨L, hL⟩ : ∃ L, L = v.list := ⟨_, rfl⟩
  obtain ⟨F, hF⟩ : ∃ F, F = v.fields := ⟨_, rfl⟩
  unfold valG at c94 ⊢
  rw [← hY, ← hL, ← hF] at c94 ⊢
  clear hY hL hF
  refine con_of4 Tryz.func39 rfl rfl 14 _ rfl rfl rfl rfl ?_
  cbv
  refine ⟨_, _, c94, ⟨by kernel_rfl⟩, ?_⟩
  cbv
  refine .inl ⟨_, _, c34, ⟨by kernel_rfl⟩, ?_⟩
  cbv
  refine ⟨[], [], ?_⟩
  cbv
  and_intros
  all_goals first | exact trivial | exact ⟨rfl⟩ | exact ⟨rfl, fun _ _ _ _ => rfl⟩ | exact ⟨by kernel_rfl⟩
set_option maxRecDepth 20000 in
set_option maxHeartbeats 4000000 in
theorem pan39 {b : List UInt8} (hb : b.length < 1000000000) (hv : decV b = none) : Con (rawC 12 39) [.dat (.bytes fun _ => b)] [] (.tup []) [] := by
  have c94 := con94 hb
  rw [hv] at c94
  have c94 : Con 94 [.dat (.bytes fun _ => b)] [] (.tup [valSV 10 zeroV, .int .u16 (.s fun _ => 50)]) [] := c94
  have c34 := pan34 (b := decide ((50 : Int) = 0)) rfl
  obtain ⟨rv, hrv⟩ : ∃ q, q = (rowsG 10).1 := ⟨_, rfl⟩
  obtain ⟨rf, hrf⟩ : ∃ q, q = (rowsG 10).2 := ⟨_, rfl⟩
  unfold valSV at c94
  rw [← hrv, ← hrf] at c94
  clear hrv hrf
  unfold valG at c94
  refine con_pan Tryz.func39 rfl rfl 14 rfl rfl rfl ?_
  cbv
  refine ⟨_, _, c94, ⟨by kernel_rfl⟩, ?_⟩
  cbv
  refine .inr ⟨_, _, c34, ⟨by kernel_rfl⟩, ?_⟩
  cbv
  refine ⟨⟨rfl⟩, [], [], ?_⟩
  cbv
  and_intros
  all_goals first | exact trivial | exact ⟨rfl⟩ | exact ⟨rfl, fun _ _ _ _ => rfl⟩ | exact ⟨by kernel_rfl⟩
end Go.Proofs.YtkogbobplhebaaaGreatDoor

/- Events: value.All, and what it ranges over. -/
namespace Go.Proofs.YtkogbobplhebaaaGreatDoor
open Go.SX Go.Ev

section
variable {σ : Type}
/-- A step that keeps whether it went on. -/
def pstep (step : σ → Val → σ × Bool) (s : σ × Bool) (x : Val) : (σ × Bool) × Bool := (step s.1 x, (step s.1 x).2)
variable {step : σ → Val → σ × Bool}
mutual
theorem walkV_p : ∀ (v : Val) (s : σ), walkV (pstep step) v (s, true) = (walkV step v s, (walkV step v s).2)
  | .mk k b i t y l f, s => by
      simp only [walkV]
      have e : pstep step (s, true) (.mk k b i t y l f) = (step s (.mk k b i t y l f), (step s (.mk k b i t y l f)).2) := rfl
      rw [e]
      obtain ⟨s1, b1⟩ := step s (.mk k b i t y l f)
      cases b1 with
      | false => rfl
      | true =>
        simp only [if_true]
        rw [walkL_p l s1]
        obtain ⟨s2, b2⟩ := walkL step l s1
        cases b2 with
        | false => rfl
        | true =>
          simp only [if_true]
          rw [walkF_p f s2]
theorem walkL_p : ∀ (l : List Val) (s : σ), walkL (pstep step) l (s, true) = (walkL step l s, (walkL step l s).2)
  | [], s => rfl
  | v :: r, s => by
      simp only [walkL]
      rw [walkV_p v s]
      obtain ⟨s1, b1⟩ := walkV step v s
      cases b1 with
      | false => rfl
      | true =>
        simp only [if_true]
        rw [walkL_p r s1]
theorem walkF_p : ∀ (l : List (List UInt8 × Val)) (s : σ), walkF (pstep step) l (s, true) = (walkF step l s, (walkF step l s).2)
  | [], s => rfl
  | (_, v) :: r, s => by
      simp only [walkF]
      rw [walkV_p v s]
      obtain ⟨s1, b1⟩ := walkV step v s
      cases b1 with
      | false => rfl
      | true =>
        simp only [if_true]
        rw [walkF_p r s1]
end
end

noncomputable def rf176 : List (Code × Code) := rfs (Tryz.f176.body.getD .skip)
def peB (b : Bool) : Option Code := if b then none else some .ret
theorem peB_none (b : Bool) : b = (peB b).isNone := by cases b <;> rfl
theorem peB_or (b : Bool) : peB b = none ∨ peB b = some .ret := by cases b; exact .inr rfl; exact .inl rfl
def ob176 (y : Value) (Q : World → Value → List Nat → Prop) : Objs := [(1000, .cust none (fun _ => Q)), (1001, .cells 240 [.rv 1000 (fun _ => y)])]

set_option maxRecDepth 20000 in
set_option maxHeartbeats 4000000 in
/-- One round of All's. -/
theorem yield176 {σ : Type} {y : Value} {Φ : σ → World → Value → List Nat → Prop} {step : σ → Val → σ × Bool} {al : σ → Prop} (hy : YieldOk y Φ step al)
    {r : RI} (hsz : r.tmps.size = 15) (h2 : r.ps = #[7, 8]) (h3 : r.assign = (rf176.getD 0 (.skip, .skip)).1) (h4 : r.body = (rf176.getD 0 (.skip, .skip)).2) {η0 : OEnv} {w00 : World} (hi : ∀ k o, η0 k = some o → o.inner = []) (hn : ∀ k o, η0 k = some o → k = 1000 ∨ k = 1001)
    (hk2 : SVRel η0 (fun _ => False) w00 (.loc 1001 0) (r.tmps.getD 2 undef)) :
    YieldOk (.func (.yield r.rcd) #[] #[]) (fun s : σ × Bool => RΦ r η0 (peB s.2) (ob176 y (Φ s.1))) (pstep step) (fun s => al s.1 ∧ s.2 = true) := by
  refine ⟨fun d x n s hs hd hx => ?_, fun x s h h' => ⟨hy.keep x s.1 h.1 h', h'⟩⟩
  obtain ⟨s, b0⟩ := s
  obtain ⟨hal, rfl⟩ : al s ∧ b0 = true := hs
  have ca := hy.con d x n s hal hd hx
  have cc := con128 d x hd hx
  show Con yieldC _ [(1000, .cust none (fun _ => RΦ r η0 none (ob176 y (Φ s))))] (.bool (.s fun _ => (step s x).2)) [(1000, .cust none (fun _ => RΦ r η0 (peB (step s x).2) (ob176 y (Φ (step s x).1))))]
  obtain ⟨b, hb⟩ : ∃ b, b = (step s x).2 := ⟨_, rfl⟩
  obtain ⟨s', hs'⟩ : ∃ q, q = (step s x).1 := ⟨_, rfl⟩
  rw [← hb, ← hs'] at ca ⊢
  refine ⟨yield_sound (S := Con) (E := E) eok rawOk mixed conOk h2 (keep := slots 15 [(2, .loc 1001 0)]) (w00 := w00) (peB_none b) hi (fun k o hk => ?_) rfl (by rw [slots_len, hsz]) ⟨rfl, ?_⟩ (fun k z hk => ?_) (fun t => ?_) ?_⟩
  · rcases hn k o hk with rfl | rfl <;> rfl
  · rfl
  · unfold ob176 at hk
    simp only [lookN] at hk
    cases e1 : eqN 1000 k with
    | true => rw [← eqN_eq e1]; exact ⟨rfl, rfl⟩
    | false =>
      rw [e1] at hk
      cases e2 : eqN 1001 k with
      | true => rw [← eqN_eq e2]; exact ⟨rfl, rfl⟩
      | false => rw [e2] at hk; cases hk
  · refine slots_rel (fun t s hm => ?_) t
    simp only [List.mem_cons, List.not_mem_nil, or_false, Prod.mk.injEq] at hm
    obtain ⟨rfl, rfl⟩ := hm
    exact hk2
  · rw [h3, h4]
    have yes : b = false → peB b = some .ret := fun h => by rw [h]; rfl
    have no : b = true → peB b = none := fun h => by rw [h]; rfl
    obtain ⟨pe', hp⟩ : ∃ p, p = peB b := ⟨_, rfl⟩
    rw [← hp] at yes no ⊢
    unfold valSV at ca cc ⊢
    obtain ⟨rv, hrv⟩ : ∃ q, q = (rowsG d).1 := ⟨_, rfl⟩
    obtain ⟨rf, hrf⟩ : ∃ q, q = (rowsG d).2 := ⟨_, rfl⟩
    rw [← hrv, ← hrf] at ca cc ⊢
    obtain ⟨Y, hY⟩ : ∃ Y, Y = x.bytes := ⟨_, rfl⟩
    obtain ⟨L, hL⟩ : ∃ L, L = x.list := ⟨_, rfl⟩
    obtain ⟨F, hF⟩ : ∃ F, F = x.fields := ⟨_, rfl⟩
    unfold valG at ca cc ⊢
    rw [← hY, ← hL, ← hF] at ca cc ⊢
    unfold ob176
    clear hp hrv hrf hY hL hF hb hs'
    cbv
    refine ⟨_, _, cc, ⟨by kernel_rfl⟩, ?_⟩
    cbv
    refine ⟨_, _, ca, ⟨by kernel_rfl⟩, ?_⟩
    cbv
    refine ⟨⟨by kernel_rfl⟩, fun g => ?_, fun g => ?_⟩
    · have e2 := yes (bnot_t g)
      cbv
      refine ⟨⟨e2⟩, [], ?_⟩
      cbv
      and_intros
      all_goals first | exact trivial | exact ⟨rfl, fun _ _ _ h => h⟩ | exact ⟨rfl, rfl⟩ | exact ⟨rfl⟩ | exact ⟨by kernel_rfl⟩
    · have e2 := no (bnot_f g)
      cbv
      refine ⟨⟨e2⟩, [], ?_⟩
      cbv
      and_intros
      all_goals first | exact trivial | exact ⟨rfl, fun _ _ _ h => h⟩ | exact ⟨rfl, rfl⟩ | exact ⟨rfl⟩ | exact ⟨by kernel_rfl⟩

theorem hit176 {σ : Type} {y : Value} {Φ : σ → World → Value → List Nat → Prop} {step : σ → Val → σ × Bool} {al : σ → Prop} (hy : YieldOk y Φ step al) {d : Nat} {v : Val} (hd : v.depth ≤ d) (hv : v.All Sml) (hdn : d < 100000) {s : σ} (ha : al s) {tmps : Array Value} (hsz : tmps.size = 15) {w : World} (r : RI) (η0 : OEnv) (h1 : r.tmps = tmps) (h2 : r.ps = #[7, 8]) (h3 : r.assign = (rf176.getD 0 (.skip, .skip)).1) (h4 : r.body = (rf176.getD 0 (.skip, .skip)).2)
    (hi : ∀ k o, η0 k = some o → o.inner = []) (hn : ∀ k o, η0 k = some o → k = 1000 ∨ k = 1001) (hk2 : SVRel η0 (fun _ => False) w (.loc 1001 0) (tmps.getD 2 undef)) :
    SpecX Tryz.prog 159 [.rv 1000 (fun _ => .func (.yield r.rcd) #[] #[]), .loc 1001 0] [(1000, RJ r η0 none (ob176 y (Φ s))), (1001, .cells 27 (valL (rowsG d).1 (rowsG d).2 v))] (.tup [])
      [(1000, RJ r η0 (peB (walkV step v s).2) (ob176 y (Φ (walkV step v s).1))), (1001, .cells 27 (valL (rowsG d).1 (rowsG d).2 v))] := by
  subst h1
  have h := (con159 (yield176 hy hsz h2 h3 h4 hi hn hk2) d v (s, true) ⟨ha, rfl⟩ hd hv hdn).spec
  rw [walkV_p] at h
  exact h

set_option maxRecDepth 20000 in
set_option maxHeartbeats 4000000 in
/-- The closure that All makes. -/
theorem con176 {σ : Type} {y : Value} {Φ : σ → World → Value → List Nat → Prop} {step : σ → Val → σ × Bool} {al : σ → Prop} (hy : YieldOk y Φ step al) {d : Nat} {v : Val} (hd : v.depth ≤ d) (hv : v.All Sml) (hdn : d < 100000) {s : σ} (ha : al s) :
    Con 176 [.rv 1000 (fun _ => y), .loc 1001 0] [(1000, .cust none (fun _ => Φ s)), (1001, .cells 27 (valL (rowsG d).1 (rowsG d).2 v))] (.tup []) [(1000, .cust none (fun _ => Φ (walkV step v s).1)), (1001, .cells 27 (valL (rowsG d).1 (rowsG d).2 v))] := by
  have H1 := @hit176 σ y Φ step al hy d v hd hv hdn s ha
  obtain ⟨b, hb⟩ : ∃ b, b = (walkV step v s).2 := ⟨_, rfl⟩
  obtain ⟨s', hs'⟩ : ∃ q, q = (walkV step v s).1 := ⟨_, rfl⟩
  rw [← hs'] at H1 ⊢
  rw [← hb] at H1
  obtain ⟨rv, hrv⟩ : ∃ q, q = (rowsG d).1 := ⟨_, rfl⟩
  obtain ⟨rf, hrf⟩ : ∃ q, q = (rowsG d).2 := ⟨_, rfl⟩
  have c130 := con130 (rv := rv) (rf := rf) (v := v)
  rw [← hrv, ← hrf] at H1 ⊢
  obtain ⟨Y, hY⟩ : ∃ Y, Y = v.bytes := ⟨_, rfl⟩
  obtain ⟨L, hL⟩ : ∃ L, L = v.list := ⟨_, rfl⟩
  obtain ⟨F, hF⟩ : ∃ F, F = v.fields := ⟨_, rfl⟩
  clear hrv hrf hb hs'
  unfold valG valL at c130
  unfold valL at H1 ⊢
  rw [← hY, ← hL, ← hF] at c130 H1 ⊢
  refine ⟨specX_of (spec_of_marks Tryz.func176 rfl (by kernel_rfl) rfl ?_) ⟨_, _, Tryz.func176, rfl, rfl⟩ (by decide)⟩
  intro η G w a hbor hh
  refine seq_vc eok rawOk mixed conOk hbor hh fun Z hZ => ?_
  clear hh
  cbv
  refine ⟨fun a w1 hh => ?_⟩
  rw [hZ]; clear hZ Z
  refine seq_vc eok rawOk mixed conOk hbor hh fun Z hZ => ?_
  clear hh
  cbv
  refine ⟨_, _, c130, ⟨by kernel_rfl⟩, ?_⟩
  cbv
  refine ⟨fun a w1 hh => ?_⟩
  rw [hZ]; clear hZ Z
  refine wpIn_block ?_
  refine rf_vc (f := 159) ⟨_, _, Tryz.func159, rfl, rfl⟩ (by decide) hh 3600 900 27 [(1000, 1000), (2, 1001)] (ob176 y (Φ s)) (ob176 y (Φ s')) (peB b) rfl rfl (by kernel_rfl) (by kernel_rfl) ?_ ?_ (peB_or b) ?_
  · exact ⟨⟨fun _ _ _ _ h => h⟩, ⟨fun _ _ _ _ h => h⟩, trivial⟩
  · intro r η0 h1 h2 h3 h4 h5 h6 h7
    refine H1 (here_sz hh) r η0 h1 h2 h3 h4 h5 (fun k o hk => ?_) (h7 2 2 0 rfl 1001 rfl)
    have := h6 k o hk
    simpa [valsL] using this
  · intro d1 a w2 hh
    have fin : bodyPostM (fen none) 0 Tryz.prog Tryz.f176 (REnd η G w (.tup []) [(1000, .cust none (fun _ => Φ s')), (1001, .cells 27 [.int .u8 (.s fun _ => v.kind), .bool (.s fun _ => v.bool), .int .i64 (.s fun _ => v.int), .str fun _ => v.text, .dat (.bytes fun _ => Y), .dat (.sl 7 (fun _ => L.length) (rv fun _ => L)), .dat (.sl 8 (fun _ => F.length) (rf fun _ => F))])]) .ret a w2 := by
      refine post1' (E := E) eok 900 hbor hh rfl ?_
      clear hh
      cbv
      refine ⟨[], [], ?_⟩
      cbv
      and_intros
      all_goals first | exact trivial | exact ⟨rfl, fun _ _ _ h => h⟩ | exact ⟨rfl, fun _ _ _ _ => rfl⟩ | exact ⟨rfl⟩ | exact ⟨by kernel_rfl⟩
    exact ⟨fun _ => fin, fun _ => fin⟩

set_option maxRecDepth 20000 in
set_option maxHeartbeats 4000000 in
/-- value.All. -/
theorem con147 {d : Nat} {v : Val} (hd : v.depth ≤ d) (hv : v.All Sml) : Con 147 [valSV d v] [] (.fn 176 [.loc 2000 0]) [(2000, .cells 27 (valL (rowsG d).1 (rowsG d).2 v))] := by
  have cc := con128 d v hd hv
  unfold valSV at cc ⊢
  obtain ⟨rv, hrv⟩ : ∃ q, q = (rowsG d).1 := ⟨_, rfl⟩
  obtain ⟨rf, hrf⟩ : ∃ q, q = (rowsG d).2 := ⟨_, rfl⟩
  rw [← hrv, ← hrf] at cc ⊢
  obtain ⟨Y, hY⟩ : ∃ Y, Y = v.bytes := ⟨_, rfl⟩
  obtain ⟨L, hL⟩ : ∃ L, L = v.list := ⟨_, rfl⟩
  obtain ⟨F, hF⟩ : ∃ F, F = v.fields := ⟨_, rfl⟩
  refine con_of Tryz.func147 rfl rfl 6 _ rfl rfl rfl rfl ?_
  unfold valG at cc ⊢
  unfold valL
  rw [← hY, ← hL, ← hF] at cc ⊢
  cbv
  refine ⟨_, _, cc, ⟨by kernel_rfl⟩, ?_⟩
  cbv
  refine ⟨[(2000, some 1)], [], ?_⟩
  cbv
  and_intros
  all_goals first | exact trivial | exact ⟨rfl⟩ | exact ⟨rfl, fun _ _ _ _ => rfl⟩ | exact ⟨by kernel_rfl⟩

/- key.keyed. -/
noncomputable def rf116 : List (Code × Code) := rfs (Tryz.f116.body.getD .skip)
def kstep (_ : Bool) (x : Val) : Bool × Bool := (decide (x.kind ≠ 7), decide (x.kind ≠ 7))
def ob116 : Objs := [(1001, .cells 4 [.bool .f])]
set_option maxRecDepth 20000 in
set_option maxHeartbeats 4000000 in
theorem yield116 {r : RI} (hsz : r.tmps.size = 12) (h2 : r.ps = #[7, 8]) (h3 : r.assign = (rf116.getD 0 (.skip, .skip)).1) (h4 : r.body = (rf116.getD 0 (.skip, .skip)).2) {η0 : OEnv} {w00 : World} (hi : ∀ k o, η0 k = some o → o.inner = []) (hn : ∀ k o, η0 k = some o → k = 1001)
    (hk2 : SVRel η0 (fun _ => False) w00 (.loc 1001 0) (r.tmps.getD 2 undef)) :
    YieldOk (.func (.yield r.rcd) #[] #[]) (fun b => RΦ r η0 (peB b) ob116) kstep (fun b => b = true) := by
  refine ⟨fun d x n s hs hd hx => ?_, fun x s h h' => h'⟩
  obtain rfl : s = true := hs
  show Con yieldC _ [(1000, .cust none (fun _ => RΦ r η0 none ob116))] (.bool (.s fun _ => decide (x.kind ≠ 7))) [(1000, .cust none (fun _ => RΦ r η0 (peB (decide (x.kind ≠ 7))) ob116))]
  obtain ⟨b, hb⟩ : ∃ b, b = decide (x.kind ≠ 7) := ⟨_, rfl⟩
  rw [← hb]
  refine ⟨yield_sound (S := Con) (E := E) eok rawOk mixed conOk h2 (keep := slots 12 [(2, .loc 1001 0)]) (w00 := w00) (peB_none b) hi (fun k o hk => ?_) rfl (by rw [slots_len, hsz]) ⟨rfl, ?_⟩ (fun k z hk => ?_) (fun t => ?_) ?_⟩
  · rw [hn k o hk]; rfl
  · rfl
  · unfold ob116 at hk
    simp only [lookN] at hk
    cases e1 : eqN 1001 k with
    | true => rw [← eqN_eq e1]; exact ⟨rfl, rfl⟩
    | false => rw [e1] at hk; cases hk
  · refine slots_rel (fun t s hm => ?_) t
    simp only [List.mem_cons, List.not_mem_nil, or_false, Prod.mk.injEq] at hm
    obtain ⟨rfl, rfl⟩ := hm
    exact hk2
  · rw [h3, h4]
    have yes : x.kind = 7 → peB b = some .ret := fun h => by rw [hb, decide_eq_false (fun h' => h' h)]; rfl
    have no : ¬ x.kind = 7 → peB b = none := fun h => by rw [hb, decide_eq_true h]; rfl
    obtain ⟨pe', hp⟩ : ∃ p, p = peB b := ⟨_, rfl⟩
    rw [← hp] at yes no ⊢
    unfold valSV
    obtain ⟨rv, hrv⟩ : ∃ q, q = (rowsG d).1 := ⟨_, rfl⟩
    obtain ⟨rf, hrf⟩ : ∃ q, q = (rowsG d).2 := ⟨_, rfl⟩
    rw [← hrv, ← hrf]
    obtain ⟨Y, hY⟩ : ∃ Y, Y = x.bytes := ⟨_, rfl⟩
    obtain ⟨L, hL⟩ : ∃ L, L = x.list := ⟨_, rfl⟩
    obtain ⟨F, hF⟩ : ∃ F, F = x.fields := ⟨_, rfl⟩
    unfold valG
    rw [← hY, ← hL, ← hF]
    unfold ob116
    clear hp hrv hrf hY hL hF hb
    cbv
    refine ⟨fun g => ?_, fun g => ?_⟩
    · have e2 := yes (of_decide_eq_true g)
      cbv
      refine ⟨⟨e2⟩, [], ?_⟩
      cbv
      and_intros
      all_goals first | exact trivial | exact ⟨rfl⟩ | exact ⟨by kernel_rfl⟩
    · have e2 := no (of_decide_eq_false g)
      cbv
      refine ⟨⟨e2⟩, [], ?_⟩
      cbv
      and_intros
      all_goals first | exact trivial | exact ⟨rfl⟩ | exact ⟨by kernel_rfl⟩

theorem hit116 {d : Nat} {v : Val} (hd : v.depth ≤ d) (hv : v.All Sml) (hdn : d < 100000) {tmps : Array Value} (hsz : tmps.size = 12) {w : World} (r : RI) (η0 : OEnv) (h1 : r.tmps = tmps) (h2 : r.ps = #[7, 8]) (h3 : r.assign = (rf116.getD 0 (.skip, .skip)).1) (h4 : r.body = (rf116.getD 0 (.skip, .skip)).2)
    (hi : ∀ k o, η0 k = some o → o.inner = []) (hn : ∀ k o, η0 k = some o → k = 1001) (hk2 : SVRel η0 (fun _ => False) w (.loc 1001 0) (tmps.getD 2 undef)) :
    SpecX Tryz.prog 176 [.rv 1000 (fun _ => .func (.yield r.rcd) #[] #[]), .loc 1001 0] [(1000, RJ r η0 none ob116), (1001, .cells 27 (valL (rowsG d).1 (rowsG d).2 v))] (.tup [])
      [(1000, RJ r η0 (peB (walkV kstep v true).1) ob116), (1001, .cells 27 (valL (rowsG d).1 (rowsG d).2 v))] := by
  subst h1
  exact (con176 (s := true) (yield116 hsz h2 h3 h4 hi hn hk2) hd hv hdn rfl).spec

/-- No map is in it. -/
def keyedB (v : Val) : Bool := (walkV kstep v true).1
set_option maxRecDepth 20000 in
set_option maxHeartbeats 4000000 in
theorem con116 {d : Nat} {v : Val} (hd : v.depth ≤ d) (hv : v.All Sml) (hdn : d < 100000) : Con 116 [valSV d v] [] (.bool (.s fun _ => keyedB v)) [] := by
  have H1 := @hit116 d v hd hv hdn
  have c147 := con147 hd hv
  show Con 116 _ [] (.bool (.s fun _ => (walkV kstep v true).1)) []
  obtain ⟨b, hb⟩ : ∃ b, b = (walkV kstep v true).1 := ⟨_, rfl⟩
  rw [← hb] at H1 ⊢
  unfold valSV at c147 ⊢
  obtain ⟨rv, hrv⟩ : ∃ q, q = (rowsG d).1 := ⟨_, rfl⟩
  obtain ⟨rf, hrf⟩ : ∃ q, q = (rowsG d).2 := ⟨_, rfl⟩
  rw [← hrv, ← hrf] at H1 c147 ⊢
  obtain ⟨Y, hY⟩ : ∃ Y, Y = v.bytes := ⟨_, rfl⟩
  obtain ⟨L, hL⟩ : ∃ L, L = v.list := ⟨_, rfl⟩
  obtain ⟨F, hF⟩ : ∃ F, F = v.fields := ⟨_, rfl⟩
  clear hrv hrf hb
  unfold valG valL at c147
  unfold valG
  unfold valL at H1
  rw [← hY, ← hL, ← hF] at c147 H1 ⊢
  refine ⟨specX_of (spec_of_marks Tryz.func116 rfl (by kernel_rfl) rfl ?_) ⟨_, _, Tryz.func116, rfl, rfl⟩ (by decide)⟩
  intro η G w a hbor hh
  refine seq_vc eok rawOk mixed conOk hbor hh fun Z hZ => ?_
  clear hh
  cbv
  refine ⟨fun a w1 hh => ?_⟩
  rw [hZ]; clear hZ Z
  refine wpIn_seq ?_
  refine seq_vc eok rawOk mixed conOk hbor hh fun Z hZ => ?_
  clear hh
  cbv
  refine ⟨_, _, c147, ⟨by kernel_rfl⟩, ?_⟩
  cbv
  refine ⟨fun a w1 hh => ?_⟩
  rw [hZ]; clear hZ Z
  refine wpIn_block ?_
  refine rf_vc (f := 176) ⟨_, _, Tryz.func176, rfl, rfl⟩ (by decide) hh 3600 900 27 [(2, 1001)] ob116 ob116 (peB b) rfl rfl (by kernel_rfl) (by kernel_rfl) ?_ ?_ (peB_or b) ?_
  · exact ⟨⟨fun _ _ _ _ h => h⟩, trivial⟩
  · intro r η0 h1 h2 h3 h4 h5 h6 h7
    refine H1 (here_sz hh) r η0 h1 h2 h3 h4 h5 (fun k o hk => ?_) (h7 2 2 0 rfl 1001 rfl)
    have := h6 k o hk
    simpa [valsL] using this
  · intro d1 a w2 hh
    refine ⟨fun g => ?_, fun g => ?_⟩
    · have e1 : true = b := by cases b with
        | true => rfl
        | false => cases g
      show Code.wpIn _ _ _ _ _ _ _
      refine last_vc eok rawOk mixed conOk hbor hh fun Z hZ => ?_
      clear hh
      cbv
      refine ⟨fun a w1 hh => ?_⟩
      rw [hZ]; clear hZ Z
      refine post1' (E := E) eok 900 hbor hh rfl ?_
      clear hh
      cbv
      refine ⟨[], [], ?_⟩
      cbv
      and_intros
      all_goals first | exact trivial | exact ⟨e1⟩ | exact ⟨rfl⟩ | exact ⟨by kernel_rfl⟩
    · have e1 : false = b := by cases b with
        | false => rfl
        | true => cases g
      refine post1' (E := E) eok 900 hbor hh rfl ?_
      clear hh
      cbv
      refine ⟨[], [], ?_⟩
      cbv
      and_intros
      all_goals first | exact trivial | exact ⟨e1⟩ | exact ⟨rfl⟩ | exact ⟨by kernel_rfl⟩
end Go.Proofs.YtkogbobplhebaaaGreatDoor

/- Events: key.write: what put leads to. -/
namespace Go.Proofs.YtkogbobplhebaaaGreatDoor
open Go.SX Go.Ev

abbrev pIn (bs : List UInt8) : Objs := [(1000, .cells 23 [.own 1001]), (1001, .barr 5 fun _ => bs)]
abbrev pOut (bs : List UInt8) : Objs := [(1000, .cells 23 [.own 2000]), (1001, .dead), (2000, .barr 5 fun _ => bs)]
def toB (z : Int) : UInt8 := UInt8.ofNat z.toNat
set_option maxRecDepth 20000 in
set_option maxHeartbeats 1000000 in
theorem con117 {bs : List UInt8} {z : Int} (hz : 0 ≤ z ∧ z < 256) (hl : bs.length < 1000000000000) : Con 117 [.int .u8 (.s fun _ => z), .loc 1000 0] (pIn bs) (.tup []) (pOut (bs ++ [toB z])) := by
  have hlo : lenOk (bs.length + 1) 1 := by unfold lenOk; omega
  obtain ⟨R, hR⟩ : ∃ R, R = bs ++ [toB z] := ⟨_, rfl⟩
  have e1 : bs ++ [UInt8.ofNat z.toNat] = R := hR.symm
  rw [← hR]
  refine con_of Tryz.func117 rfl rfl 7 _ rfl rfl rfl rfl ?_
  cbv
  refine ⟨⟨⟨hz, trivial⟩, hlo⟩, [(2000, some 6)], [], ?_⟩
  cbv
  and_intros
  all_goals first | exact trivial | exact ⟨e1⟩ | exact ⟨rfl⟩ | exact ⟨by kernel_rfl⟩
theorem con117m {bs b1 : List UInt8} {z : Int} (hb : b1 = bs ++ [toB z]) (hz : 0 ≤ z ∧ z < 256) (hl : bs.length < 1000000000000) : Con 117 [.int .u8 (.s fun _ => z), .loc 1000 0] (pIn bs) (.tup []) (pOut b1) := by
  subst hb; exact con117 hz hl
theorem con117l {bs b1 : List UInt8} {z : Int} (hb : b1 = bs ++ [toB z]) (hz : 0 ≤ z ∧ z < 256) (hl : bs.length < 1000000000000) : Con 117 [.int .u8 (.l z), .loc 1000 0] (pIn bs) (.tup []) (pOut b1) := by
  subst hb
  refine (con117 hz hl).args fun η G w vs h => ?_
  match vs, h with
  | [], h => exact h.elim
  | v0 :: vs, h =>
    obtain ⟨h0, h1⟩ := h
    refine ⟨?_, h1⟩
    simp only [SVRel, IE.den_l, IE.den_s] at h0 ⊢
    exact h0

/- What key.write writes. -/
def int8 (z : Int) : Int := IntKind.u64.wrap (BitVec.ofInt IntKind.u64.bits (IntKind.u64.wrap z) ^^^ BitVec.ofInt IntKind.u64.bits 9223372036854775808).toNat
def by8 (t : Int) (e : Int) : Int := IntKind.u8.wrap (t.fdiv (2 ^ min e.toNat IntKind.u64.bits))
def be8 (t : Int) : Nat → List UInt8
  | 0 => []
  | k + 1 => toB (by8 t (8 * ((k + 1 : Nat) : Int) - 8)) :: be8 t k
def esc : List UInt8 → List UInt8
  | [] => []
  | b :: r => (if b = 0 then [b, toB 255] else [b]) ++ esc r
mutual
def keyV : Val → List UInt8
  | .mk k b i t y l _ => if k = 1 then [toB 16] else if k = 2 then (if b then [toB 33] else [toB 32]) else if k = 3 then toB 48 :: be8 (int8 i) 8
    else if k = 4 then toB 64 :: (esc t ++ [toB 0, toB 1]) else if k = 5 then toB 80 :: (esc y ++ [toB 0, toB 1]) else if k = 6 then toB 96 :: (keyL l ++ [toB 1]) else []
def keyL : List Val → List UInt8
  | [] => []
  | v :: r => keyV v ++ keyL r
end
theorem keyV_eq (v : Val) : keyV v = if v.kind = 1 then [toB 16] else if v.kind = 2 then (if v.bool then [toB 33] else [toB 32]) else if v.kind = 3 then toB 48 :: be8 (int8 v.int) 8
    else if v.kind = 4 then toB 64 :: (esc v.text ++ [toB 0, toB 1]) else if v.kind = 5 then toB 80 :: (esc v.bytes ++ [toB 0, toB 1]) else if v.kind = 6 then toB 96 :: (keyL v.list ++ [toB 1]) else [] := by
  cases v; simp only [keyV, Val.kind, Val.bool, Val.int, Val.text, Val.bytes, Val.list]; rfl
theorem keyL_next {l : List Val} {i : Nat} (hi : i < l.length) : keyL (l.drop i) = keyV (l.getD i default) ++ keyL (l.drop (i + 1)) := by rw [drop_at hi]; simp only [keyL]
theorem esc_next {l : List UInt8} {i : Nat} (hi : i < l.length) : esc (l.drop i) = (if l.getD i 0 = 0 then [l.getD i 0, toB 255] else [l.getD i 0]) ++ esc (l.drop (i + 1)) := by rw [show l.drop i = l.getD i 0 :: l.drop (i + 1) from drop_at hi]; simp only [esc]
theorem toB_b (b : UInt8) : toB (b.toNat : Int) = b := by unfold toB; simp

set_option maxRecDepth 20000 in
set_option maxHeartbeats 8000000 in
theorem con119s {rv : RowG Val} {rf : RowG Fld} {v : Val} {bs : List UInt8} (hint : -9223372036854775808 ≤ v.int ∧ v.int < 9223372036854775808) (hkd : 0 ≤ v.kind ∧ v.kind < 256) (hsz : v.text.length < 100000000000 ∧ v.bytes.length < 100000000000 ∧ v.list.length < 100000000000) (hl : bs.length + (keyV v).length < 100000000000)
    (ih : ∀ x ∈ v.list, ∀ b : List UInt8, b.length + (keyV x).length < 100000000000 → Con 119 [valG rv rf x, .fn 117 [.loc 1000 0]] (pIn b) (.tup []) (pOut (b ++ keyV x))) :
    Con 119 [valG (stepV rv rf) (stepF rv rf) v, .fn 117 [.loc 1000 0]] (pIn bs) (.tup []) (pOut (bs ++ keyV v)) := by
  obtain ⟨R, hR⟩ : ∃ R, R = bs ++ keyV v := ⟨_, rfl⟩
  have hRl : R.length < 100000000000 := by rw [hR, List.length_append]; exact hl
  have hb0 : bs.length < 100000000000 := by omega
  have hE := keyV_eq v
  rw [← hR]
  obtain ⟨Y, hY⟩ : ∃ Y, Y = v.bytes := ⟨_, rfl⟩
  obtain ⟨L, hL⟩ : ∃ L, L = v.list := ⟨_, rfl⟩
  obtain ⟨F, hF⟩ : ∃ F, F = v.fields := ⟨_, rfl⟩
  obtain ⟨X0, hX0⟩ : ∃ X, X = v.text := ⟨_, rfl⟩
  rw [← hY, ← hL, ← hX0] at hE
  rw [← hY, ← hL, ← hX0] at hsz
  rw [← hL] at ih
  refine con_of Tryz.func119 rfl rfl 92 _ rfl rfl rfl rfl ?_
  unfold valG
  rw [← hX0, ← hY, ← hL, ← hF]
  cbv
  refine ⟨⟨by kernel_rfl⟩, ?_⟩
  refine And.intro ?_ ?_
  · intro g
    have h1 : v.kind = 1 := of_decide_eq_true g
    clear g
    rw [if_pos h1] at hE
    rw [hE] at hR hl
    have c1 := con117l (z := 16) hR (by decide) (by omega)
    have e1 : R = R := rfl
    cbv
    refine ⟨_, _, c1, ⟨by kernel_rfl⟩, ?_⟩
    cbv
    refine ⟨[(2000, some 6000)], [], ?_⟩
    cbv
    and_intros
    all_goals first | exact trivial | exact ⟨e1⟩ | exact ⟨rfl⟩ | exact ⟨by kernel_rfl⟩
  · intro g
    have h1 : ¬ v.kind = 1 := of_decide_eq_false g
    clear g
    cbv
    refine And.intro ?_ ?_
    · intro g
      have h2 : v.kind = 2 := of_decide_eq_true g
      clear g
      rw [if_neg h1, if_pos h2] at hE
      rw [hE] at hR hl
      cbv
      refine And.intro ?_ ?_
      · intro g
        have g : v.bool = true := g
        simp only [g, if_true, Bool.false_eq_true, if_false] at hR
        have c1 := con117l (z := 33) hR (by decide) (by omega)
        have e1 : R = R := rfl
        clear g
        cbv
        refine ⟨_, _, c1, ⟨by kernel_rfl⟩, ?_⟩
        cbv
        refine ⟨[(2000, some 6400)], [], ?_⟩
        cbv
        and_intros
        all_goals first | exact trivial | exact ⟨e1⟩ | exact ⟨rfl⟩ | exact ⟨by kernel_rfl⟩
      · intro g
        have g : v.bool = false := g
        simp only [g, if_true, Bool.false_eq_true, if_false] at hR
        have c1 := con117l (z := 32) hR (by decide) (by omega)
        have e1 : R = R := rfl
        clear g
        cbv
        refine ⟨_, _, c1, ⟨by kernel_rfl⟩, ?_⟩
        cbv
        refine ⟨[(2000, some 6600)], [], ?_⟩
        cbv
        and_intros
        all_goals first | exact trivial | exact ⟨e1⟩ | exact ⟨rfl⟩ | exact ⟨by kernel_rfl⟩
    · intro g
      have h2 : ¬ v.kind = 2 := of_decide_eq_false g
      clear g
      cbv
      refine And.intro ?_ ?_
      · intro g
        have h3 : v.kind = 3 := of_decide_eq_true g
        clear g
        rw [if_neg h1, if_neg h2, if_pos h3] at hE
        rw [hE] at hR hl
        obtain ⟨b1, hb1⟩ : ∃ b, b = bs ++ [toB 48] := ⟨_, rfl⟩
        have c1 := con117l (z := 48) hb1 (by decide) (by omega)
        obtain ⟨T, hT⟩ : ∃ T, T = int8 v.int := ⟨_, rfl⟩
        have hT' := hT
        unfold int8 at hT'
        have hR0 : b1 ++ be8 T 8 = R := by rw [hR, hb1, hT, List.append_assoc]; rfl
        cbv
        refine ⟨_, _, c1, ⟨by kernel_rfl⟩, ?_⟩
        cbv
        refine ⟨Nat × List UInt8, [500], fun x => [(6, .int .u64 (.s fun _ => T)), (7, .int .i64 (.s fun _ => 8 * (x.1 : Int) - 8))], fun x => [(1000, .cells 23 [.own 500]), (1001, .dead), (500, .barr 5 fun _ => x.2)],
          fun x => x.1 ≤ 8 ∧ x.2 ++ be8 T x.1 = R, fun x => x.1, (8, b1), [(500, some 6800)], ⟨Nat.le_refl _, hR0⟩, ⟨?_⟩, fun x hx => ?_⟩
        · cbv
          and_intros
          all_goals first | exact trivial | exact ⟨hT'.symm⟩ | exact ⟨rfl⟩ | exact ⟨by kernel_rfl⟩
        · obtain ⟨j, out⟩ := x
          obtain ⟨hj, hx⟩ : j ≤ 8 ∧ out ++ be8 T j = R := hx
          have hlen : out.length ≤ R.length := by rw [← hx, List.length_append]; omega
          cbv
          refine And.intro ?_ ?_
          · intro g
            have g : (0 : Int) ≤ 8 * (j : Int) - 8 := of_decide_eq_true g
            obtain ⟨i, rfl⟩ : ∃ i, j = i + 1 := ⟨j - 1, by omega⟩
            obtain ⟨Z, hZ⟩ : ∃ Z, Z = by8 T (8 * ((i + 1 : Nat) : Int) - 8) := ⟨_, rfl⟩
            have hZr : 0 ≤ Z ∧ Z < 256 := by rw [hZ]; unfold by8; rw [IntKind.wrap_u8]; omega
            have eZ := hZ
            unfold by8 at eZ
            obtain ⟨o2, ho2⟩ : ∃ o, o = out ++ [toB Z] := ⟨_, rfl⟩
            have c2 := con117m ho2 hZr (by omega)
            have hinv : o2 ++ be8 T i = R := by rw [← hx, ho2, hZ, List.append_assoc]; rfl
            have hi : i ≤ 8 := by omega
            have hnn : 0 ≤ 8 * ((i + 1 : Nat) : Int) - 8 := by omega
            have hms : i < i + 1 := by omega
            have bm : bound64 (8 * ((i + 1 : Nat) : Int) - 8 - 8) := by unfold bound64; omega
            have em : 8 * ((i + 1 : Nat) : Int) - 8 - 8 = 8 * (i : Int) - 8 := by omega
            rw [eZ] at c2
            clear hZ eZ hZr ho2
            cbv
            refine ⟨⟨hnn⟩, ?_⟩
            refine ⟨_, _, c2, ⟨by kernel_rfl⟩, ?_⟩
            cbv
            refine ⟨⟨bm⟩, (i, o2), [(500, some 8200)], ⟨hi, hinv⟩, hms, ⟨?_⟩, ⟨?_⟩⟩
            · kernel_rfl
            · cbv
              and_intros
              all_goals first | exact trivial | exact ⟨em⟩ | exact ⟨rfl⟩ | exact ⟨by kernel_rfl⟩
          · intro g
            have g : ¬ (0 : Int) ≤ 8 * (j : Int) - 8 := of_decide_eq_false g
            have e1 : out = R := by
              obtain rfl : j = 0 := by omega
              rw [← hx]; exact (List.append_nil _).symm
            clear g
            cbv
            refine ⟨[(2000, some 500)], [], ?_⟩
            cbv
            and_intros
            all_goals first | exact trivial | exact ⟨e1⟩ | exact ⟨rfl⟩ | exact ⟨by kernel_rfl⟩
      · intro g
        have h3 : ¬ v.kind = 3 := of_decide_eq_false g
        clear g
        cbv
        refine And.intro ?_ ?_
        · intro g
          have h4 : v.kind = 4 := of_decide_eq_true g
          clear g
          rw [if_neg h1, if_neg h2, if_neg h3, if_pos h4] at hE
          rw [hE] at hR hl
          obtain ⟨b1, hb1⟩ : ∃ b, b = bs ++ [toB 64] := ⟨_, rfl⟩
          have c1 := con117l (z := 64) hb1 (by decide) (by omega)
          have hXl := hsz.1
          have hR0 : b1 ++ (esc (X0.drop 0) ++ [toB 0, toB 1]) = R := by rw [hR, hb1, List.drop_zero, List.append_assoc]; rfl
          cbv
          refine ⟨⟨by kernel_rfl⟩, ?_⟩
          refine ⟨_, _, c1, ⟨by kernel_rfl⟩, ?_⟩
          cbv
          have lo : lenOk X0.length 1 := by unfold lenOk; omega
          refine ⟨⟨lo⟩, ?_⟩
          refine ⟨Nat × List UInt8, [500], fun x => [(61, .int .i64 (.s fun _ => (x.1 : Int)))], fun x => [(1000, .cells 23 [.own 500]), (1001, .dead), (59, .barr 0 fun _ => X0), (500, .barr 5 fun _ => x.2)],
            fun x => x.1 ≤ X0.length ∧ x.2 ++ (esc (X0.drop x.1) ++ [toB 0, toB 1]) = R, fun x => X0.length - x.1, (0, b1), [(500, some 8700)], ⟨Nat.zero_le _, hR0⟩, ⟨?_⟩, fun x hx => ?_⟩
          · cbv
            and_intros
            all_goals first | exact trivial | exact ⟨rfl⟩ | exact ⟨by kernel_rfl⟩
          · obtain ⟨j, out⟩ := x
            obtain ⟨hj, hx⟩ : j ≤ X0.length ∧ out ++ (esc (X0.drop j) ++ [toB 0, toB 1]) = R := hx
            have hlen : out.length + 2 ≤ R.length := by rw [← hx, List.length_append, List.length_append]; simp only [List.length_cons, List.length_nil]; omega
            cbv
            refine And.intro ?_ ?_
            · intro g
              have g : (j : Int) < (X0.length : Int) := of_decide_eq_true g
              have hlt : j < X0.length := by omega
              have o1 : indexObl (j : Int) X0.length := ⟨by omega, g⟩
              have bi : bound64 ((j : Int) + 1) := by unfold bound64; omega
              have ei : (j : Int) + 1 = ((j + 1 : Nat) : Int) := by omega
              have hms : X0.length - (j + 1) < X0.length - j := by omega
              have hnx := esc_next hlt
              obtain ⟨bb, hbb⟩ : ∃ b, b = X0.getD j 0 := ⟨_, rfl⟩
              have hbr : 0 ≤ (bb.toNat : Int) ∧ (bb.toNat : Int) < 256 := by have := bb.toNat_lt; omega
              obtain ⟨o2, ho2⟩ : ∃ o, o = out ++ [toB (bb.toNat : Int)] := ⟨_, rfl⟩
              have c2 := con117m ho2 hbr (by omega)
              have ho2' := ho2
              rw [toB_b] at ho2'
              have hol : o2.length = out.length + 1 := by rw [ho2, List.length_append]; rfl
              have hz0 : (bb.toNat : Int) = 0 → bb = 0 := fun h => UInt8.toNat_inj.1 (by simpa using h)
              have hz1 : ¬ (bb.toNat : Int) = 0 → ¬ bb = 0 := fun h h' => h (by rw [h']; rfl)
              rw [← hbb] at hnx
              rw [hbb] at c2
              obtain ⟨o3, ho3⟩ : ∃ o, o = o2 ++ [toB 255] := ⟨_, rfl⟩
              have c3 := con117l (z := 255) ho3 (by decide) (by omega)
              have y0 : (X0.getD j 0).toNat = (0 : Int) → j + 1 ≤ X0.length ∧ o3 ++ (esc (X0.drop (j + 1)) ++ [toB 0, toB 1]) = R := fun h => by
                rw [← hbb] at h
                rw [← hx, hnx, if_pos (hz0 h), ho3, ho2']; exact ⟨hlt, by simp⟩
              have y1 : ¬ (X0.getD j 0).toNat = (0 : Int) → j + 1 ≤ X0.length ∧ o2 ++ (esc (X0.drop (j + 1)) ++ [toB 0, toB 1]) = R := fun h => by
                rw [← hbb] at h
                rw [← hx, hnx, if_neg (hz1 h), ho2']; exact ⟨hlt, by simp⟩
              clear hbb hnx hz0 hz1 ho2 ho2' ho3
              cbv
              refine ⟨⟨o1⟩, ?_⟩
              refine ⟨_, _, c2, ⟨by kernel_rfl⟩, ?_⟩
              cbv
              refine And.intro ?_ ?_
              · intro g
                have y0 := y0 (of_decide_eq_true g)
                clear g
                cbv
                refine ⟨_, _, c3, ⟨by kernel_rfl⟩, ?_⟩
                cbv
                refine ⟨⟨bi⟩, (j + 1, o3), [(500, some 10100)], y0, hms, ⟨?_⟩, ⟨?_⟩⟩
                · kernel_rfl
                · cbv
                  and_intros
                  all_goals first | exact trivial | exact ⟨ei⟩ | exact ⟨rfl⟩ | exact ⟨by kernel_rfl⟩
              · intro g
                have y1 := y1 (of_decide_eq_false g)
                clear g
                cbv
                refine ⟨⟨bi⟩, (j + 1, o2), [(500, some 9700)], y1, hms, ⟨?_⟩, ⟨?_⟩⟩
                · kernel_rfl
                · cbv
                  and_intros
                  all_goals first | exact trivial | exact ⟨ei⟩ | exact ⟨rfl⟩ | exact ⟨by kernel_rfl⟩
            · intro g
              have g : ¬ (j : Int) < (X0.length : Int) := of_decide_eq_false g
              rw [List.drop_of_length_le (by omega)] at hx
              obtain ⟨o2, ho2⟩ : ∃ o, o = out ++ [toB 0] := ⟨_, rfl⟩
              have c2 := con117l (z := 0) ho2 (by decide) (by omega)
              have e2 : R = o2 ++ [toB 1] := by rw [← hx, ho2, List.append_assoc]; rfl
              have hol : o2.length < 100000000000 := by rw [ho2, List.length_append]; simp only [List.length_cons, List.length_nil]; omega
              have c3 := con117l (z := 1) e2 (by decide) (by omega)
              have e1 : R = R := rfl
              clear g
              cbv
              refine ⟨_, _, c2, ⟨by kernel_rfl⟩, ?_⟩
              cbv
              refine ⟨_, _, c3, ⟨by kernel_rfl⟩, ?_⟩
              cbv
              refine ⟨[(2000, some 10600)], [], ?_⟩
              cbv
              and_intros
              all_goals first | exact trivial | exact ⟨e1⟩ | exact ⟨rfl⟩ | exact ⟨by kernel_rfl⟩
        · intro g
          have h4 : ¬ v.kind = 4 := of_decide_eq_false g
          clear g
          cbv
          refine And.intro ?_ ?_
          · intro g
            have h5 : v.kind = 5 := of_decide_eq_true g
            clear g
            rw [if_neg h1, if_neg h2, if_neg h3, if_neg h4, if_pos h5] at hE
            rw [hE] at hR hl
            obtain ⟨b1, hb1⟩ : ∃ b, b = bs ++ [toB 80] := ⟨_, rfl⟩
            have c1 := con117l (z := 80) hb1 (by decide) (by omega)
            have hXl := hsz.2.1
            have hR0 : b1 ++ (esc (Y.drop 0) ++ [toB 0, toB 1]) = R := by rw [hR, hb1, List.drop_zero, List.append_assoc]; rfl
            cbv
            refine ⟨_, _, c1, ⟨by kernel_rfl⟩, ?_⟩
            cbv
            have lo : lenOk Y.length 1 := by unfold lenOk; omega
            refine ⟨⟨lo⟩, ?_⟩
            refine ⟨Nat × List UInt8, [500], fun x => [(61, .int .i64 (.s fun _ => (x.1 : Int)))], fun x => [(1000, .cells 23 [.own 500]), (1001, .dead), (59, .barr 0 fun _ => Y), (500, .barr 5 fun _ => x.2)],
              fun x => x.1 ≤ Y.length ∧ x.2 ++ (esc (Y.drop x.1) ++ [toB 0, toB 1]) = R, fun x => Y.length - x.1, (0, b1), [(500, some 8700)], ⟨Nat.zero_le _, hR0⟩, ⟨?_⟩, fun x hx => ?_⟩
            · cbv
              and_intros
              all_goals first | exact trivial | exact ⟨rfl⟩ | exact ⟨by kernel_rfl⟩
            · obtain ⟨j, out⟩ := x
              obtain ⟨hj, hx⟩ : j ≤ Y.length ∧ out ++ (esc (Y.drop j) ++ [toB 0, toB 1]) = R := hx
              have hlen : out.length + 2 ≤ R.length := by rw [← hx, List.length_append, List.length_append]; simp only [List.length_cons, List.length_nil]; omega
              cbv
              refine And.intro ?_ ?_
              · intro g
                have g : (j : Int) < (Y.length : Int) := of_decide_eq_true g
                have hlt : j < Y.length := by omega
                have o1 : indexObl (j : Int) Y.length := ⟨by omega, g⟩
                have bi : bound64 ((j : Int) + 1) := by unfold bound64; omega
                have ei : (j : Int) + 1 = ((j + 1 : Nat) : Int) := by omega
                have hms : Y.length - (j + 1) < Y.length - j := by omega
                have hnx := esc_next hlt
                obtain ⟨bb, hbb⟩ : ∃ b, b = Y.getD j 0 := ⟨_, rfl⟩
                have hbr : 0 ≤ (bb.toNat : Int) ∧ (bb.toNat : Int) < 256 := by have := bb.toNat_lt; omega
                obtain ⟨o2, ho2⟩ : ∃ o, o = out ++ [toB (bb.toNat : Int)] := ⟨_, rfl⟩
                have c2 := con117m ho2 hbr (by omega)
                have ho2' := ho2
                rw [toB_b] at ho2'
                have hol : o2.length = out.length + 1 := by rw [ho2, List.length_append]; rfl
                have hz0 : (bb.toNat : Int) = 0 → bb = 0 := fun h => UInt8.toNat_inj.1 (by simpa using h)
                have hz1 : ¬ (bb.toNat : Int) = 0 → ¬ bb = 0 := fun h h' => h (by rw [h']; rfl)
                rw [← hbb] at hnx
                rw [hbb] at c2
                obtain ⟨o3, ho3⟩ : ∃ o, o = o2 ++ [toB 255] := ⟨_, rfl⟩
                have c3 := con117l (z := 255) ho3 (by decide) (by omega)
                have y0 : (Y.getD j 0).toNat = (0 : Int) → j + 1 ≤ Y.length ∧ o3 ++ (esc (Y.drop (j + 1)) ++ [toB 0, toB 1]) = R := fun h => by
                  rw [← hbb] at h
                  rw [← hx, hnx, if_pos (hz0 h), ho3, ho2']; exact ⟨hlt, by simp⟩
                have y1 : ¬ (Y.getD j 0).toNat = (0 : Int) → j + 1 ≤ Y.length ∧ o2 ++ (esc (Y.drop (j + 1)) ++ [toB 0, toB 1]) = R := fun h => by
                  rw [← hbb] at h
                  rw [← hx, hnx, if_neg (hz1 h), ho2']; exact ⟨hlt, by simp⟩
                clear hbb hnx hz0 hz1 ho2 ho2' ho3
                cbv
                refine ⟨⟨o1⟩, ?_⟩
                refine ⟨_, _, c2, ⟨by kernel_rfl⟩, ?_⟩
                cbv
                refine And.intro ?_ ?_
                · intro g
                  have y0 := y0 (of_decide_eq_true g)
                  clear g
                  cbv
                  refine ⟨_, _, c3, ⟨by kernel_rfl⟩, ?_⟩
                  cbv
                  refine ⟨⟨bi⟩, (j + 1, o3), [(500, some 10100)], y0, hms, ⟨?_⟩, ⟨?_⟩⟩
                  · kernel_rfl
                  · cbv
                    and_intros
                    all_goals first | exact trivial | exact ⟨ei⟩ | exact ⟨rfl⟩ | exact ⟨by kernel_rfl⟩
                · intro g
                  have y1 := y1 (of_decide_eq_false g)
                  clear g
                  cbv
                  refine ⟨⟨bi⟩, (j + 1, o2), [(500, some 9700)], y1, hms, ⟨?_⟩, ⟨?_⟩⟩
                  · kernel_rfl
                  · cbv
                    and_intros
                    all_goals first | exact trivial | exact ⟨ei⟩ | exact ⟨rfl⟩ | exact ⟨by kernel_rfl⟩
              · intro g
                have g : ¬ (j : Int) < (Y.length : Int) := of_decide_eq_false g
                rw [List.drop_of_length_le (by omega)] at hx
                obtain ⟨o2, ho2⟩ : ∃ o, o = out ++ [toB 0] := ⟨_, rfl⟩
                have c2 := con117l (z := 0) ho2 (by decide) (by omega)
                have e2 : R = o2 ++ [toB 1] := by rw [← hx, ho2, List.append_assoc]; rfl
                have hol : o2.length < 100000000000 := by rw [ho2, List.length_append]; simp only [List.length_cons, List.length_nil]; omega
                have c3 := con117l (z := 1) e2 (by decide) (by omega)
                have e1 : R = R := rfl
                clear g
                cbv
                refine ⟨_, _, c2, ⟨by kernel_rfl⟩, ?_⟩
                cbv
                refine ⟨_, _, c3, ⟨by kernel_rfl⟩, ?_⟩
                cbv
                refine ⟨[(2000, some 10600)], [], ?_⟩
                cbv
                and_intros
                all_goals first | exact trivial | exact ⟨e1⟩ | exact ⟨rfl⟩ | exact ⟨by kernel_rfl⟩
          · intro g
            have h5 : ¬ v.kind = 5 := of_decide_eq_false g
            clear g
            cbv
            refine And.intro ?_ ?_
            · intro g
              have h6 : v.kind = 6 := of_decide_eq_true g
              clear g
              rw [if_neg h1, if_neg h2, if_neg h3, if_neg h4, if_neg h5, if_pos h6] at hE
              rw [hE] at hR hl
              obtain ⟨b1, hb1⟩ : ∃ b, b = bs ++ [toB 96] := ⟨_, rfl⟩
              have c1 := con117l (z := 96) hb1 (by decide) (by omega)
              have hXl := hsz.2.2
              have hR0 : b1 ++ (keyL (L.drop 0) ++ [toB 1]) = R := by rw [hR, hb1, List.drop_zero, List.append_assoc]; rfl
              cbv
              refine ⟨_, _, c1, ⟨by kernel_rfl⟩, ?_⟩
              cbv
              refine ⟨Nat × List UInt8, [500], fun x => [(82, .int .i64 (.s fun _ => (x.1 : Int)))], fun x => [(1000, .cells 23 [.own 500]), (1001, .dead), (500, .barr 5 fun _ => x.2)],
                fun x => x.1 ≤ L.length ∧ x.2 ++ (keyL (L.drop x.1) ++ [toB 1]) = R, fun x => L.length - x.1, (0, b1), [(500, some 10800)], ⟨Nat.zero_le _, hR0⟩, ⟨?_⟩, fun x hx => ?_⟩
              · cbv
                and_intros
                all_goals first | exact trivial | exact ⟨rfl⟩ | exact ⟨by kernel_rfl⟩
              · obtain ⟨j, out⟩ := x
                obtain ⟨hj, hx⟩ : j ≤ L.length ∧ out ++ (keyL (L.drop j) ++ [toB 1]) = R := hx
                have hlen : out.length + (keyL (L.drop j)).length + 1 = R.length := by rw [← hx, List.length_append, List.length_append]; simp only [List.length_cons, List.length_nil]; omega
                cbv
                refine And.intro ?_ ?_
                · intro g
                  have g : (j : Int) < (L.length : Int) := of_decide_eq_true g
                  have hlt : j < L.length := by omega
                  have o1 : indexObl (j : Int) L.length := ⟨by omega, g⟩
                  have bi : bound64 ((j : Int) + 1) := by unfold bound64; omega
                  have ei : (j : Int) + 1 = ((j + 1 : Nat) : Int) := by omega
                  have hms : L.length - (j + 1) < L.length - j := by omega
                  have hnx := keyL_next hlt
                  have hnl : (keyL (L.drop j)).length = (keyV (L.getD j default)).length + (keyL (L.drop (j + 1))).length := by rw [hnx, List.length_append]
                  have c2 := ih (L.getD j default) (getD_in hlt) out (by omega)
                  obtain ⟨o2, ho2⟩ : ∃ o, o = out ++ keyV (L.getD j default) := ⟨_, rfl⟩
                  rw [← ho2] at c2
                  have y1 : j + 1 ≤ L.length ∧ o2 ++ (keyL (L.drop (j + 1)) ++ [toB 1]) = R := by rw [← hx, hnx, ho2]; exact ⟨hlt, by simp⟩
                  clear hnx ho2 g
                  unfold valG at c2
                  cbv
                  refine ⟨⟨o1⟩, ?_⟩
                  refine ⟨_, _, c2, ⟨by kernel_rfl⟩, ?_⟩
                  cbv
                  refine ⟨⟨bi⟩, (j + 1, o2), [(500, some 11800)], y1, hms, ⟨?_⟩, ⟨?_⟩⟩
                  · kernel_rfl
                  · cbv
                    and_intros
                    all_goals first | exact trivial | exact ⟨ei⟩ | exact ⟨rfl⟩ | exact ⟨by kernel_rfl⟩
                · intro g
                  have g : ¬ (j : Int) < (L.length : Int) := of_decide_eq_false g
                  rw [List.drop_of_length_le (by omega)] at hx
                  have e2 : R = out ++ [toB 1] := by rw [← hx]; rfl
                  have c2 := con117l (z := 1) e2 (by decide) (by omega)
                  have e1 : R = R := rfl
                  clear g
                  cbv
                  refine ⟨_, _, c2, ⟨by kernel_rfl⟩, ?_⟩
                  cbv
                  refine ⟨[(2000, some 12100)], [], ?_⟩
                  cbv
                  and_intros
                  all_goals first | exact trivial | exact ⟨e1⟩ | exact ⟨rfl⟩ | exact ⟨by kernel_rfl⟩
            · intro g
              have h6 : ¬ v.kind = 6 := of_decide_eq_false g
              clear g
              cbv
              rw [if_neg h1, if_neg h2, if_neg h3, if_neg h4, if_neg h5, if_neg h6] at hE
              have e1 : bs = R := by rw [hR, hE, List.append_nil]
              refine ⟨[(2000, some 1001)], [], ?_⟩
              cbv
              and_intros
              all_goals first | exact trivial | exact ⟨e1⟩ | exact ⟨rfl⟩ | exact ⟨by kernel_rfl⟩

/-- key.write. -/
theorem con119 : ∀ (d : Nat) (v : Val) (bs : List UInt8), v.depth ≤ d → v.All Sane → v.All Sml → bs.length + (keyV v).length < 100000000000 → Con 119 [valSV d v, .fn 117 [.loc 1000 0]] (pIn bs) (.tup []) (pOut (bs ++ keyV v))
  | 0, v, _, hd, _, _, _ => (no_depth hd).elim
  | d + 1, v, bs, hd, hv, hs, hl => by
    obtain ⟨⟨_, hint, hk⟩, aL, aF, dL, dF⟩ := layers hd hv
    obtain ⟨⟨f1, f2, f3, f4, f5⟩, sL, _, _, _⟩ := layers hd hs
    rw [valSV_next]
    exact con119s hint hk ⟨by omega, by omega, by omega⟩ hl fun x hx b hb => con119 d x b (dL x hx) (all_in aL hx) (all_in sL hx) hb
end Go.Proofs.YtkogbobplhebaaaGreatDoor

/- Events: key.One. -/
namespace Go.SX
/-- A list that is not there is one without bytes. -/
theorem specX_nil {P : Program} {f T e : Nat} {svs : List SV} {bs : List UInt8} (hn : namesOnlys [1000] svs = true)
    (h : SpecX P f svs [(1000, .cells T [.own 1001]), (1001, .barr e fun _ => [])] (.tup []) [(1000, .cells T [.own 2000]), (1001, .dead), (2000, .barr e fun _ => bs)]) :
    SpecX P f svs [(1000, .cells T [.nil])] (.tup []) [(1000, .cells T [.own 2000]), (2000, .barr e fun _ => bs)] := by
  intro η G vs w hsep hob hs htab
  have none_of : ∀ k, k ≠ 1000 → η k = none := fun k hk => by
    have := hob k
    have h1 : eqN 1000 k = false := decide_eq_false fun h => hk h.symm
    simp only [lookN, h1, cond_false] at this
    cases h : η k with
    | none => rfl
    | some o => rw [h] at this; exact this.elim
  have h0 := hob 1000
  rw [show lookN 1000 [((1000 : Nat), TObj.cells T [.nil])] = some (.cells T [.nil]) from rfl] at h0
  cases ho : η 1000 with
  | none => rw [ho] at h0; exact h0.elim
  | some o =>
  rw [ho] at h0
  obtain ⟨η2, hη2⟩ : ∃ e : OEnv, e = fun k => if k = 1001 then some ⟨.slice none 0 0, [], [], false⟩ else η k := ⟨_, rfl⟩
  have q1 : η2 1001 = some ⟨.slice none 0 0, [], [], false⟩ := by rw [hη2]; exact if_pos rfl
  have q2 : ∀ k, k ≠ 1001 → η2 k = η k := fun k hk => by rw [hη2]; exact if_neg hk
  have n1 : η 1001 = none := none_of 1001 (by decide)
  have hM : Mono η G w η2 G w := ⟨fun _ h => h, fun _ _ => rfl, fun k o hk => ⟨o, by rw [q2 k (fun e => by rw [e, n1] at hk; cases hk)]; exact hk, fun hd => ⟨hd, rfl, Ext.refl _, fun b hb => ⟨hb, rfl⟩⟩⟩⟩
  have old : ∀ k o, η2 k = some o → ∀ b ∈ o.main ++ o.inner, η k = some o := fun k o hk b hb => by
    by_cases e : k = 1001
    · rw [e, q1] at hk; cases hk; cases hb
    · rw [q2 k e] at hk; exact hk
  refine (h η2 G vs w ⟨fun k o hk b hb => hsep.lt k o (old k o hk b hb) b hb, fun k o k' o' h1 h2 hne b hb hb' => hsep.dj k o k' o' (old k o h1 b hb) (old k' o' h2 b hb') hne b hb hb', fun k o hk b hb => hsep.mi k o (old k o hk b (by simp [hb])) b hb, hsep.glt⟩ (fun k => ?_) (SVRels.mono hM svs vs hs) ⟨htab.sz, htab.tp, fun k o hk b hb => htab.out k o (old k o hk b hb) b hb⟩).mono ?_
  · by_cases e : k = 1000
    · subst e
      rw [q2 1000 (by decide), ho]
      show ObjRel η2 G w (.cells T [.own 1001]) o
      have h0 : ObjRel η G w (.cells T [.nil]) o := h0
      simp only [ObjRel] at h0 ⊢
      obtain ⟨a1, a2, b, vs', a3, a4, a5⟩ := h0
      refine ⟨a1, a2, b, vs', a3, a4, ?_⟩
      match vs', a5 with
      | [], a5 => exact a5.elim
      | [v], a5 =>
        simp only [SVRels, SVRel] at a5 ⊢
        obtain ⟨rfl, -⟩ := a5
        exact ⟨⟨_, q1, rfl, fun _ => rfl⟩, trivial⟩
      | _ :: _ :: _, a5 => exact a5.2.elim
    · by_cases e' : k = 1001
      · subst e'
        rw [q1]
        exact ⟨rfl, rfl, .inl ⟨rfl, rfl, rfl⟩⟩
      · rw [q2 k e', none_of k e]
        have h1 : eqN 1000 k = false := decide_eq_false fun h => e h.symm
        have h2 : eqN 1001 k = false := decide_eq_false fun h => e' h.symm
        simp only [lookN, h1, h2, cond_false]
        trivial
  · rintro v w' ⟨η', G', hv, hob', hsep', E⟩
    obtain ⟨η3, hη3⟩ : ∃ e : OEnv, e = fun k => if k = 1001 then none else η' k := ⟨_, rfl⟩
    have p1 : η3 1001 = none := by rw [hη3]; exact if_pos rfl
    have p2 : ∀ k, k ≠ 1001 → η3 k = η' k := fun k hk => by rw [hη3]; exact if_neg hk
    have sub : ∀ k o, η3 k = some o → η' k = some o := fun k o hk => by
      by_cases e : k = 1001
      · rw [e, p1] at hk; cases hk
      · rw [p2 k e] at hk; exact hk
    refine ⟨η3, G', ?_, fun k => ?_, ⟨fun k o hk => hsep'.lt k o (sub k o hk), fun k o k' o' h1 h2 => hsep'.dj k o k' o' (sub k o h1) (sub k' o' h2), fun k o hk => hsep'.mi k o (sub k o hk), hsep'.glt⟩, ?_⟩
    · simp only [SVRel] at hv ⊢
      obtain ⟨vs, h1, h2⟩ := hv
      refine ⟨vs, h1, ?_⟩
      cases vs with
      | nil => exact trivial
      | cons v vs => exact h2.elim
    · by_cases e : k = 1001
      · subst e; rw [p1]; trivial
      · rw [p2 k e]
        have h1 := hob' k
        by_cases e0 : k = 1000
        · subst e0
          cases ho' : η' 1000 with
          | none => rw [ho'] at h1; exact h1.elim
          | some o' =>
            rw [ho'] at h1
            show ObjRel η3 G' w' (.cells T [.own 2000]) o'
            have h1 : ObjRel η' G' w' (.cells T [.own 2000]) o' := h1
            simp only [ObjRel] at h1 ⊢
            obtain ⟨a1, a2, b, vs', a3, a4, a5⟩ := h1
            refine ⟨a1, a2, b, vs', a3, a4, ?_⟩
            match vs', a5 with
            | [], a5 => exact a5.elim
            | [v], a5 =>
              simp only [SVRels, SVRel] at a5 ⊢
              rw [p2 2000 (by decide)]
              exact a5
            | _ :: _ :: _, a5 => exact a5.2.elim
        · by_cases e2 : k = 2000
          · subst e2
            cases ho' : η' 2000 with
            | none => rw [ho'] at h1; exact h1.elim
            | some o' => rw [ho'] at h1; exact h1
          · have b0 : eqN 1000 k = false := decide_eq_false fun h => e0 h.symm
            have b1 : eqN 1001 k = false := decide_eq_false fun h => e h.symm
            have b2 : eqN 2000 k = false := decide_eq_false fun h => e2 h.symm
            simp only [lookN, b0, b1, b2, cond_false] at h1 ⊢
            cases ho' : η' k with
            | none => trivial
            | some o' => rw [ho'] at h1; exact h1.elim
    · have inη : ∀ b, (∃ k o, η2 k = some o ∧ b ∈ o.main ++ o.inner) → ∃ k o, η k = some o ∧ b ∈ o.main ++ o.inner := fun b ⟨k, o, hk, hb⟩ => ⟨k, o, old k o hk b hb, hb⟩
      refine ⟨E.os, E.tape, E.out, E.size, fun b hb hn => E.keep b hb fun k o hk hm => hn k o (old k o hk b hm) hm, fun k o hk => ?_, E.g, fun b hb => ?_, fun k o hk b hb => ?_⟩
      · have hk1 : k ≠ 1001 := fun e => by rw [e, n1] at hk; cases hk
        obtain ⟨o', h1, h2⟩ := E.obj k o (by rw [q2 k hk1]; exact hk)
        exact ⟨o', by rw [p2 k hk1]; exact h1, h2⟩
      · rcases E.g' b hb with h | h | h
        · exact .inl h
        · exact .inr (.inl h)
        · exact .inr (.inr (inη b h))
      · rcases E.blk k o (sub k o hk) b hb with h | h
        · exact .inl h
        · exact .inr (inη b h)
end Go.SX
namespace Go.Proofs.YtkogbobplhebaaaGreatDoor
open Go.SX Go.Ev

theorem con119n (d : Nat) (v : Val) (hd : v.depth ≤ d) (hv : v.All Sane) (hs : v.All Sml) (hl : (keyV v).length < 100000000000) : Con 119 [valSV d v, .fn 117 [.loc 1000 0]] [(1000, .cells 23 [.nil])] (.tup []) [(1000, .cells 23 [.own 2000]), (2000, .barr 5 fun _ => keyV v)] :=
  ⟨specX_nil rfl (con119 d v [] hd hv hs (by rw [List.length_nil, Nat.zero_add]; exact hl)).spec⟩

/-- What One answers. -/
def keyE (v : Val) : Int := if checkE v ≠ 0 then 40 else if keyedB v = false then 41 else if 160 < (keyV v).length then 42 else 0

set_option maxRecDepth 20000 in
set_option maxHeartbeats 4000000 in
theorem con80_bad {d : Nat} {v : Val} (hd : v.depth ≤ d) (hv : v.All Sane) (hs : v.All Sml) (hdn : d < 100000) (hl : (keyV v).length < 100000000000) (hk : keyE v ≠ 0) :
    Con 80 [valSV d v, .bool .f] [] (.tup [.nil, .int .u16 (.s fun _ => keyE v)]) [] := by
  have c84 := con84 hd hs hdn
  have c116 := con116 hd hs hdn
  have c119 := con119n d v hd hv hs hl
  obtain ⟨r, hr⟩ : ∃ r, r = keyE v := ⟨_, rfl⟩
  rw [← hr] at hk ⊢
  unfold keyE at hr
  obtain ⟨ce, hce⟩ : ∃ q, q = checkE v := ⟨_, rfl⟩
  obtain ⟨kb, hkb⟩ : ∃ q, q = keyedB v := ⟨_, rfl⟩
  obtain ⟨kv, hkv⟩ : ∃ q, q = keyV v := ⟨_, rfl⟩
  rw [← hce, ← hkb, ← hkv] at hr
  rw [← hce] at c84
  rw [← hkb] at c116
  rw [← hkv] at c119
  unfold valSV at c84 c116 c119 ⊢
  obtain ⟨rv, hrv⟩ : ∃ q, q = (rowsG d).1 := ⟨_, rfl⟩
  obtain ⟨rf, hrf⟩ : ∃ q, q = (rowsG d).2 := ⟨_, rfl⟩
  rw [← hrv, ← hrf] at c84 c116 c119 ⊢
  obtain ⟨Y, hY⟩ : ∃ Y, Y = v.bytes := ⟨_, rfl⟩
  obtain ⟨L, hL⟩ : ∃ L, L = v.list := ⟨_, rfl⟩
  obtain ⟨F, hF⟩ : ∃ F, F = v.fields := ⟨_, rfl⟩
  unfold valG at c84 c116 c119 ⊢
  rw [← hY, ← hL, ← hF] at c84 c116 c119 ⊢
  clear hrv hrf hce hkb hkv
  refine con_of Tryz.func80 rfl rfl 29 _ rfl rfl rfl rfl ?_
  cbv
  refine ⟨_, _, c84, ⟨by kernel_rfl⟩, ?_⟩
  cbv
  refine And.intro ?_ ?_
  · intro g
    have g : ¬ ce = 0 := of_decide_eq_false (bnot_t g)
    have e1 : (40 : Int) = r := by rw [hr, if_pos g]
    cbv
    refine ⟨[], [], ?_⟩
    cbv
    and_intros
    all_goals first | exact trivial | exact ⟨e1⟩ | exact ⟨rfl⟩ | exact ⟨by kernel_rfl⟩
  intro g
  have g : ce = 0 := of_decide_eq_true (bnot_f g)
  rw [if_neg (fun h => h g)] at hr
  cbv
  refine ⟨_, _, c116, ⟨by kernel_rfl⟩, ?_⟩
  cbv
  refine And.intro ?_ ?_
  · intro g
    have e1 : (41 : Int) = r := by rw [hr, if_pos (bnot_t g)]
    cbv
    refine ⟨[], [], ?_⟩
    cbv
    and_intros
    all_goals first | exact trivial | exact ⟨e1⟩ | exact ⟨rfl⟩ | exact ⟨by kernel_rfl⟩
  intro g
  rw [if_neg (by rw [bnot_f g]; decide)] at hr
  have hlen : 160 < kv.length := by
    by_cases h : 160 < kv.length
    · exact h
    · rw [if_neg h] at hr; exact absurd hr hk
  have e1 : (42 : Int) = r := by rw [hr, if_pos hlen]
  cbv
  refine ⟨_, _, c119, ⟨by kernel_rfl⟩, ?_⟩
  cbv
  refine And.intro ?_ ?_
  · intro g
    clear g
    cbv
    refine ⟨[], [], ?_⟩
    cbv
    and_intros
    all_goals first | exact trivial | exact ⟨e1⟩ | exact ⟨rfl⟩ | exact ⟨by kernel_rfl⟩
  intro g
  have g : ¬ (160 : Int) < (kv.length : Int) := of_decide_eq_false g
  omega

set_option maxRecDepth 20000 in
set_option maxHeartbeats 4000000 in
theorem con80_ok {d : Nat} {v : Val} (hd : v.depth ≤ d) (hv : v.All Sane) (hs : v.All Sml) (hdn : d < 100000) (hl : (keyV v).length < 100000000000) (hk : keyE v = 0) :
    Con 80 [valSV d v, .bool .f] [] (.tup [.dat (.bytes fun _ => keyV v), .int .u16 (.l 0)]) [] := by
  have c84 := con84 hd hs hdn
  have c116 := con116 hd hs hdn
  have c119 := con119n d v hd hv hs hl
  unfold keyE at hk
  obtain ⟨ce, hce⟩ : ∃ q, q = checkE v := ⟨_, rfl⟩
  obtain ⟨kb, hkb⟩ : ∃ q, q = keyedB v := ⟨_, rfl⟩
  obtain ⟨kv, hkv⟩ : ∃ q, q = keyV v := ⟨_, rfl⟩
  rw [← hce, ← hkb, ← hkv] at hk
  rw [← hce] at c84
  rw [← hkb] at c116
  rw [← hkv] at c119
  have k1 : ce = 0 := by
    by_cases h : ce = 0
    · exact h
    · rw [if_pos h] at hk; cases hk
  rw [if_neg (fun h => h k1)] at hk
  have k2 : kb = true := by
    cases kb with
    | true => rfl
    | false => simp at hk
  rw [if_neg (by rw [k2]; decide)] at hk
  have k3 : ¬ 160 < kv.length := by
    intro h; rw [if_pos h] at hk; cases hk
  have c88 := con88 (bs := kv)
  rw [← hkv]
  unfold valSV at c84 c116 c119 ⊢
  obtain ⟨rv, hrv⟩ : ∃ q, q = (rowsG d).1 := ⟨_, rfl⟩
  obtain ⟨rf, hrf⟩ : ∃ q, q = (rowsG d).2 := ⟨_, rfl⟩
  rw [← hrv, ← hrf] at c84 c116 c119 ⊢
  obtain ⟨Y, hY⟩ : ∃ Y, Y = v.bytes := ⟨_, rfl⟩
  obtain ⟨L, hL⟩ : ∃ L, L = v.list := ⟨_, rfl⟩
  obtain ⟨F, hF⟩ : ∃ F, F = v.fields := ⟨_, rfl⟩
  unfold valG at c84 c116 c119 ⊢
  rw [← hY, ← hL, ← hF] at c84 c116 c119 ⊢
  clear hrv hrf hce hkb hkv
  refine con_of Tryz.func80 rfl rfl 29 _ rfl rfl rfl rfl ?_
  cbv
  refine ⟨_, _, c84, ⟨by kernel_rfl⟩, ?_⟩
  cbv
  refine And.intro ?_ ?_
  · intro g
    exact absurd k1 (of_decide_eq_false (bnot_t g))
  intro g
  clear g
  cbv
  refine ⟨_, _, c116, ⟨by kernel_rfl⟩, ?_⟩
  cbv
  refine And.intro ?_ ?_
  · intro g
    have := bnot_t g
    rw [k2] at this; cases this
  intro g
  clear g
  cbv
  refine ⟨_, _, c119, ⟨by kernel_rfl⟩, ?_⟩
  cbv
  refine And.intro ?_ ?_
  · intro g
    have g : (160 : Int) < (kv.length : Int) := of_decide_eq_true g
    omega
  intro g
  clear g
  cbv
  refine ⟨_, _, c88, ⟨by kernel_rfl⟩, ?_⟩
  cbv
  refine ⟨[], [5800], ?_⟩
  cbv
  and_intros
  all_goals first | exact trivial | exact ⟨rfl⟩ | exact ⟨rfl, fun _ _ _ h => h⟩ | exact ⟨by kernel_rfl⟩
/-- key.One, where the error says that there is none: no bytes. -/
def keyR (v : Val) : List UInt8 := if keyE v = 0 then keyV v else []
theorem con80 {d : Nat} {v : Val} (hd : v.depth ≤ d) (hv : v.All Sane) (hs : v.All Sml) (hdn : d < 100000) (hl : (keyV v).length < 100000000000) :
    Con 80 [valSV d v, .bool .f] [] (.tup [.dat (.bytes fun _ => keyR v), .int .u16 (.s fun _ => keyE v)]) [] := by
  by_cases h : keyE v = 0
  · have e : keyR v = keyV v := if_pos h
    rw [e, h]
    refine (con80_ok hd hv hs hdn hl h).res (Eqv.tup (.cons (Eqv.refl _) (.cons (fun η G w x hx => ?_) .nil)))
    simp only [SVRel, IE.den_l, IE.den_s] at hx ⊢; exact hx
  · have e : keyR v = [] := if_neg h
    rw [e]
    refine (con80_bad hd hv hs hdn hl h).res (Eqv.tup (.cons (fun η G w x hx => ?_) (.cons (Eqv.refl _) .nil)))
    simp only [SVRel, DVRel] at hx ⊢
    exact ⟨none, 0, hx, Nat.le_refl _, fun i x hx => by simp at hx⟩
end Go.Proofs.YtkogbobplhebaaaGreatDoor

/- Events: event.may. -/
namespace Go.Proofs.YtkogbobplhebaaaGreatDoor
open Go.SX Go.Ev

def dvEq (a b : DV) : Prop := ∀ (w : World) (S : Nat → Prop) (v : Value), DVRel w S a v → DVRel w S b v
mutual
theorem All.triv : ∀ (v : Val), v.All (fun _ => True)
  | .mk _ _ _ _ _ l f => ⟨trivial, AllL.triv l, AllF.triv f⟩
theorem AllL.triv : ∀ (l : List Val), AllL (fun _ => True) l
  | [] => trivial
  | v :: r => ⟨All.triv v, AllL.triv r⟩
theorem AllF.triv : ∀ (l : List (List UInt8 × Val)), AllF (fun _ => True) l
  | [] => trivial
  | (_, v) :: r => ⟨All.triv v, AllF.triv r⟩
end
theorem encG_up : ∀ (d : Nat) (v : Val), v.depth ≤ d → ∀ j, dvEq (encG (rowsG d).1 (rowsG d).2 (fun _ => v) j) (encG (rowsG (d + 1)).1 (rowsG (d + 1)).2 (fun _ => v) j)
  | 0, v, hd => (no_depth hd).elim
  | d + 1, v, hd => by
    obtain ⟨_, _, _, dL, dF⟩ := layers (P := fun _ => True) hd (by
      exact All.triv v)
    intro j w S x
    match j with
    | 0 => exact fun h => h
    | 1 => exact fun h => h
    | 2 => exact fun h => h
    | 3 => exact fun h => h
    | 4 => exact fun h => h
    | 5 =>
      intro h
      show DVRel w S (.sl 7 (fun _ => v.list.length) (stepV (rowsG (d + 1)).1 (rowsG (d + 1)).2 fun _ => v.list)) x
      have h : DVRel w S (.sl 7 (fun _ => v.list.length) (stepV (rowsG d).1 (rowsG d).2 fun _ => v.list)) x := h
      simp only [DVRel] at h ⊢
      obtain ⟨a, c, h1, h2, h3⟩ := h
      refine ⟨a, c, h1, h2, fun i hi => ?_⟩
      obtain ⟨b, o, h4, h5, h6⟩ := h3 i hi
      refine ⟨b, o, h4, h5, fun j hj => ?_⟩
      obtain ⟨u, h7, h8⟩ := h6 j hj
      exact ⟨u, h7, encG_up d (v.list.getD i default) (dL _ (getD_in hi)) j w S u h8⟩
    | j + 6 =>
      intro h
      show DVRel w S (.sl 8 (fun _ => v.fields.length) (stepF (rowsG (d + 1)).1 (rowsG (d + 1)).2 fun _ => v.fields)) x
      have h : DVRel w S (.sl 8 (fun _ => v.fields.length) (stepF (rowsG d).1 (rowsG d).2 fun _ => v.fields)) x := h
      simp only [DVRel] at h ⊢
      obtain ⟨a, c, h1, h2, h3⟩ := h
      refine ⟨a, c, h1, h2, fun i hi => ?_⟩
      obtain ⟨b, o, h4, h5, h6⟩ := h3 i hi
      refine ⟨b, o, h4, h5, fun j hj => ?_⟩
      obtain ⟨u, h7, h8⟩ := h6 j hj
      refine ⟨u, h7, ?_⟩
      match j with
      | 0 => exact h8
      | j + 1 => exact encG_up d (v.fields.getD i default).2 (dF _ (getD_in hi)) j w S u h8
theorem valSV_up {d : Nat} {v : Val} (hd : v.depth ≤ d) : Eqv (valSV d v) (valSV (d + 1) v) := by
  have h := encG_up d v hd
  refine Eqv.agg (.cons (Eqv.refl _) (.cons (Eqv.refl _) (.cons (Eqv.refl _) (.cons (Eqv.refl _) (.cons (Eqv.refl _) (.cons (fun η G w x hx => ?_) (.cons (fun η G w x hx => ?_) .nil)))))))
  · exact h 5 w G x hx
  · exact h 6 w G x hx
/-- A value of no kind, as it is built. -/
def zeroSV : SV := .agg [.int .u8 (.l 0), .bool .f, .int .i64 (.l 0), .str fun _ => [], .nil, .nil, .nil]
theorem zero_eqv {rv : RowG Val} {rf : RowG Fld} : Eqv zeroSV (valG rv rf zeroV) := by
  refine Eqv.agg (.cons (fun η G w v h => ?_) (.cons (fun η G w v h => ?_) (.cons (fun η G w v h => ?_) (.cons (fun η G w v h => ?_) (.cons (fun η G w v h => ?_) (.cons (fun η G w v h => ?_) (.cons (fun η G w v h => ?_) .nil)))))))
  · simp only [SVRel, IE.den_l, IE.den_s] at h ⊢; exact h
  · simp only [SVRel] at h ⊢; exact h
  · simp only [SVRel, IE.den_l, IE.den_s] at h ⊢; exact h
  · simp only [SVRel] at h ⊢; exact h
  · simp only [SVRel, DVRel] at h ⊢
    exact ⟨none, 0, h, Nat.le_refl _, fun i x hx => by simp [zeroV, Val.bytes] at hx⟩
  · simp only [SVRel, DVRel] at h ⊢
    exact ⟨none, 0, h, Nat.le_refl _, fun i hi => by simp [zeroV, Val.list] at hi⟩
  · simp only [SVRel, DVRel] at h ⊢
    exact ⟨none, 0, h, Nat.le_refl _, fun i hi => by simp [zeroV, Val.fields] at hi⟩

def evSV (d : Nat) (e : Evt) : SV := evG (rowsG d).1 (rowsG d).2 e
def idB : List UInt8 := [95, 105, 100]
/-- What may answers. -/
noncomputable def mayB (e : Evt) : Bool :=
  if keyE e.key ≠ 0 then false else if 60 < (keyV e.key).length then false else if nameC e.coll = false then false
  else if e.kind = 2 then same e.doc zeroV else if e.kind = 1 then (if (getV e.doc idB).2 = false then false else if same (getV e.doc idB).1 e.key = false then false else decide (checkE e.doc = 0)) else false

set_option maxRecDepth 20000 in
set_option maxHeartbeats 8000000 in
theorem con25s {rv : RowG Val} {rf : RowG Fld} {e : Evt} {r bn bs bg bi : Bool} {ke ce : Int} {kv kr : List UInt8} {gv : SV}
    (hn : r = if ke ≠ 0 then false else if 60 < kv.length then false else if bn = false then false else if e.kind = 2 then bs else if e.kind = 1 then (if bg = false then false else if bi = false then false else decide (ce = 0)) else false)
    (hkr : ke = 0 → kr = kv) (c80 : Con 80 [valG rv rf e.key, .bool .f] [] (.tup [.dat (.bytes fun _ => kr), .int .u16 (.s fun _ => ke)]) [])
    (c81 : Con 81 [.str fun _ => e.coll] [] (.bool (.s fun _ => bn)) [])
    (c82 : Con 82 [valG rv rf e.doc, zeroSV] [] (.bool (.s fun _ => bs)) [])
    (c83 : Con 83 [valG rv rf e.doc, .str fun _ => idB] [] (.tup [gv, .bool (.s fun _ => bg)]) [])
    (c82b : Con 82 [gv, valG rv rf e.key] [] (.bool (.s fun _ => bi)) [])
    (hgv : ∃ a b c d e f g, gv = .agg [.int .u8 (.s fun _ => a), .bool (.s fun _ => b), .int .i64 (.s fun _ => c), .str (fun _ => d), .dat e, .dat f, .dat g])
    (c84 : Con 84 [valG rv rf e.doc] [] (.int .u16 (.s fun _ => ce)) []) :
    Con 25 [evG rv rf e] [] (.bool (.s fun _ => r)) [] := by
  obtain ⟨kd, cl, ky, dc⟩ := e
  obtain ⟨a1, a2, a3, a4, a5, a6, a7, rfl⟩ := hgv
  have hn : r = if ke ≠ 0 then false else if 60 < kv.length then false else if bn = false then false else if kd = 2 then bs else if kd = 1 then (if bg = false then false else if bi = false then false else decide (ce = 0)) else false := hn
  have c80 : Con 80 [valG rv rf ky, .bool .f] [] (.tup [.dat (.bytes fun _ => kr), .int .u16 (.s fun _ => ke)]) [] := c80
  have c81 : Con 81 [.str fun _ => cl] [] (.bool (.s fun _ => bn)) [] := c81
  have c82 : Con 82 [valG rv rf dc, zeroSV] [] (.bool (.s fun _ => bs)) [] := c82
  have c83 : Con 83 [valG rv rf dc, .str fun _ => idB] [] (.tup [_, .bool (.s fun _ => bg)]) [] := c83
  have c82b : Con 82 [_, valG rv rf ky] [] (.bool (.s fun _ => bi)) [] := c82b
  have c84 : Con 84 [valG rv rf dc] [] (.int .u16 (.s fun _ => ce)) [] := c84
  obtain ⟨Y, hY⟩ : ∃ Y, Y = ky.bytes := ⟨_, rfl⟩
  obtain ⟨L, hL⟩ : ∃ L, L = ky.list := ⟨_, rfl⟩
  obtain ⟨F, hF⟩ : ∃ F, F = ky.fields := ⟨_, rfl⟩
  obtain ⟨Y2, hY2⟩ : ∃ Y, Y = dc.bytes := ⟨_, rfl⟩
  obtain ⟨L2, hL2⟩ : ∃ L, L = dc.list := ⟨_, rfl⟩
  obtain ⟨F2, hF2⟩ : ∃ F, F = dc.fields := ⟨_, rfl⟩
  refine con_of Tryz.func25 rfl rfl 55 _ rfl rfl rfl rfl ?_
  unfold evG valL
  unfold zeroSV at c82
  unfold idB at c83
  unfold valG at c80 c82 c83 c82b c84
  rw [← hY2, ← hL2, ← hF2] at c82 c83 c84
  rw [← hY, ← hL, ← hF] at c80 c82b
  show FnVC Con E _ _ _ [SV.agg (SV.int .u8 (.s fun _ => kd) :: SV.str (fun _ => cl) :: ([.int .u8 (.s fun _ => ky.kind), .bool (.s fun _ => ky.bool), .int .i64 (.s fun _ => ky.int), .str fun _ => ky.text, .dat (.bytes fun _ => ky.bytes),
  .dat (.sl 7 (fun _ => ky.list.length) (rv fun _ => ky.list)), .dat (.sl 8 (fun _ => ky.fields.length) (rf fun _ => ky.fields))] ++ [.int .u8 (.s fun _ => dc.kind), .bool (.s fun _ => dc.bool), .int .i64 (.s fun _ => dc.int), .str fun _ => dc.text, .dat (.bytes fun _ => dc.bytes),
  .dat (.sl 7 (fun _ => dc.list.length) (rv fun _ => dc.list)), .dat (.sl 8 (fun _ => dc.fields.length) (rf fun _ => dc.fields))]))] [] _ []
  rw [← hY, ← hL, ← hF, ← hY2, ← hL2, ← hF2]
  cbv
  refine ⟨_, _, c80, ⟨by kernel_rfl⟩, ?_⟩
  cbv
  iterate 6 (all_goals try (refine And.intro ?_ ?_ <;> (intro g; (try (replace g := of_decide_eq_true g)); (try (replace g := of_decide_eq_false g)); (try (replace g := of_decide_eq_false (bnot_t g))); (try (replace g := of_decide_eq_true (bnot_f g))); (try (replace g : bn = false := bnot_t g)); (try (replace g : bn = true := bnot_f g)); (try (simp only [IE.den_l, IE.den_s] at g)); cbv)))
  all_goals try (exfalso; omega)
  · have e1 : false = r := by rw [hn]; simp [*]
    refine ⟨[], [], ?_⟩
    cbv
    and_intros
    all_goals first | exact trivial | exact ⟨e1⟩ | exact ⟨rfl⟩ | exact ⟨by kernel_rfl⟩
  · rename_i h0
    replace g : (60 : Int) < (kr.length : Int) := g
    have hl : 60 < kv.length := by rw [← hkr h0]; omega
    · have e1 : false = r := by rw [hn]; simp [*]
      refine ⟨[], [], ?_⟩
      cbv
      and_intros
      all_goals first | exact trivial | exact ⟨e1⟩ | exact ⟨rfl⟩ | exact ⟨by kernel_rfl⟩
  rename_i h0
  replace g : ¬ (60 : Int) < (kr.length : Int) := g
  have hl : ¬ 60 < kv.length := by rw [← hkr h0]; omega
  refine ⟨_, _, c81, ⟨by kernel_rfl⟩, ?_⟩
  cbv
  iterate 6 (all_goals try (refine And.intro ?_ ?_ <;> (intro g; (try (replace g := of_decide_eq_true g)); (try (replace g := of_decide_eq_false g)); (try (replace g := of_decide_eq_false (bnot_t g))); (try (replace g := of_decide_eq_true (bnot_f g))); (try (replace g : bn = false := bnot_t g)); (try (replace g : bn = true := bnot_f g)); (try (replace g : bg = true := g)); (try (replace g : bg = false := g)); (try (replace g : bi = true := g)); (try (replace g : bi = false := g)); (try (simp only [IE.den_l, IE.den_s] at g)); cbv)))
  all_goals try (exfalso; omega)
  · have e1 : false = r := by rw [hn]; simp [*]
    refine ⟨[], [], ?_⟩
    cbv
    and_intros
    all_goals first | exact trivial | exact ⟨e1⟩ | exact ⟨rfl⟩ | exact ⟨by kernel_rfl⟩
  · refine ⟨_, _, c82, ⟨by kernel_rfl⟩, ?_⟩
    cbv
    iterate 6 (all_goals try (refine And.intro ?_ ?_ <;> (intro g; (try (replace g := of_decide_eq_true g)); (try (replace g := of_decide_eq_false g)); (try (replace g := of_decide_eq_false (bnot_t g))); (try (replace g := of_decide_eq_true (bnot_f g))); (try (replace g : bn = false := bnot_t g)); (try (replace g : bn = true := bnot_f g)); (try (replace g : bg = true := g)); (try (replace g : bg = false := g)); (try (replace g : bi = true := g)); (try (replace g : bi = false := g)); (try (simp only [IE.den_l, IE.den_s] at g)); cbv)))
    · have e1 : bs = r := by rw [hn]; simp [*]
      refine ⟨[], [], ?_⟩
      cbv
      and_intros
      all_goals first | exact trivial | exact ⟨e1⟩ | exact ⟨rfl⟩ | exact ⟨by kernel_rfl⟩
  · refine ⟨_, _, c83, ⟨by kernel_rfl⟩, ?_⟩
    cbv
    iterate 6 (all_goals try (refine And.intro ?_ ?_ <;> (intro g; (try (replace g := of_decide_eq_true g)); (try (replace g := of_decide_eq_false g)); (try (replace g := of_decide_eq_false (bnot_t g))); (try (replace g := of_decide_eq_true (bnot_f g))); (try (replace g : bn = false := bnot_t g)); (try (replace g : bn = true := bnot_f g)); (try (replace g : bg = true := g)); (try (replace g : bg = false := g)); (try (replace g : bi = true := g)); (try (replace g : bi = false := g)); (try (simp only [IE.den_l, IE.den_s] at g)); cbv)))
    · refine ⟨_, _, c82b, ⟨by kernel_rfl⟩, ?_⟩
      cbv
      iterate 6 (all_goals try (refine And.intro ?_ ?_ <;> (intro g; (try (replace g := of_decide_eq_true g)); (try (replace g := of_decide_eq_false g)); (try (replace g := of_decide_eq_false (bnot_t g))); (try (replace g := of_decide_eq_true (bnot_f g))); (try (replace g : bn = false := bnot_t g)); (try (replace g : bn = true := bnot_f g)); (try (replace g : bg = true := g)); (try (replace g : bg = false := g)); (try (replace g : bi = true := g)); (try (replace g : bi = false := g)); (try (simp only [IE.den_l, IE.den_s] at g)); cbv)))
      · refine ⟨_, _, c84, ⟨by kernel_rfl⟩, ?_⟩
        cbv
        iterate 6 (all_goals try (refine And.intro ?_ ?_ <;> (intro g; (try (replace g := of_decide_eq_true g)); (try (replace g := of_decide_eq_false g)); (try (replace g := of_decide_eq_false (bnot_t g))); (try (replace g := of_decide_eq_true (bnot_f g))); (try (replace g : bn = false := bnot_t g)); (try (replace g : bn = true := bnot_f g)); (try (replace g : bg = true := g)); (try (replace g : bg = false := g)); (try (replace g : bi = true := g)); (try (replace g : bi = false := g)); (try (simp only [IE.den_l, IE.den_s] at g)); cbv)))
        · have e1 : decide (ce = 0) = r := by rw [hn]; simp [*]
          refine ⟨[], [], ?_⟩
          cbv
          and_intros
          all_goals first | exact trivial | exact ⟨e1⟩ | exact ⟨rfl⟩ | exact ⟨by kernel_rfl⟩
      · have e1 : false = r := by rw [hn]; simp [*]
        refine ⟨[], [], ?_⟩
        cbv
        and_intros
        all_goals first | exact trivial | exact ⟨e1⟩ | exact ⟨rfl⟩ | exact ⟨by kernel_rfl⟩
    · have e1 : false = r := by rw [hn]; simp [*]
      refine ⟨[], [], ?_⟩
      cbv
      and_intros
      all_goals first | exact trivial | exact ⟨e1⟩ | exact ⟨rfl⟩ | exact ⟨by kernel_rfl⟩
  · have e1 : false = r := by rw [hn]; simp [*]
    refine ⟨[], [], ?_⟩
    cbv
    and_intros
    all_goals first | exact trivial | exact ⟨e1⟩ | exact ⟨rfl⟩ | exact ⟨by kernel_rfl⟩

theorem zero_all {P : Val → Prop} (h : P zeroV) : zeroV.All P := ⟨h, trivial, trivial⟩
theorem zero_sml : Sml zeroV := ⟨by decide, by decide, by decide, by decide, fun p hp => by simp [zeroV, Val.fields] at hp⟩
theorem getV_of {P : Val → Prop} {v : Val} {s : List UInt8} {d : Nat} (hd : v.depth ≤ d + 1) (h1 : 1 ≤ d) (hv : v.All P) (h0 : P zeroV) : (getV v s).1.depth ≤ d ∧ (getV v s).1.All P := by
  obtain ⟨_, aL, aF, dL, dF⟩ := layers hd hv
  have hz : zeroV.depth ≤ d := Nat.le_trans (by decide) h1
  unfold getV
  split
  · split
    · exact ⟨hz, zero_all h0⟩
    · rename_i h
      by_cases hi : (fix (fun p => p.1 == s) v.fields 0).toNat < v.fields.length
      · exact ⟨dF _ (getD_in hi), allF_in aF (getD_in hi)⟩
      · have e : v.fields.getD (fix (fun p => p.1 == s) v.fields 0).toNat default = default := by
          rw [List.getD_eq_getElem?_getD, List.getElem?_eq_none (by omega)]; rfl
        rw [e]
        exact ⟨hz, zero_all h0⟩
  · exact ⟨hz, zero_all h0⟩

/-- event.may. -/
theorem con25 {d : Nat} {e : Evt} (h1 : 1 ≤ d) (hk : e.key.depth ≤ d + 1) (hd : e.doc.depth ≤ d + 1) (sk : e.key.All Sane) (mk : e.key.All Sml) (md : e.doc.All Sml) (hdn : d < 99999) (hl : (keyV e.key).length < 100000000000) (hc : e.coll.length < 1000000000) :
    Con 25 [evSV (d + 1) e] [] (.bool (.s fun _ => mayB e)) [] := by
  obtain ⟨g1, g2⟩ := getV_of (s := idB) hd h1 md zero_sml
  refine con25s (ke := keyE e.key) (kv := keyV e.key) (kr := keyR e.key) (bn := nameC e.coll) (bs := same e.doc zeroV) (bg := (getV e.doc idB).2) (bi := same (getV e.doc idB).1 e.key) (ce := checkE e.doc) (gv := valSV (d + 1) (getV e.doc idB).1) rfl (fun h => if_pos h) (con80 hk sk mk (by omega) hl) (con81 (by omega)) ?_ ?_ ?_ ⟨_, _, _, _, _, _, _, rfl⟩ (con84 hd md (by omega))
  · exact (con82 (d + 1) e.doc zeroV hd (All.mono (fun _ h => sml_fits h) md)).args (EqvL.cons (Eqv.refl _) (.cons zero_eqv .nil))
  · exact (con83 d e.doc idB hd md).res (Eqv.tup (.cons (valSV_up g1) (.cons (Eqv.refl _) .nil)))
  · exact con82 (d + 1) _ e.key (by omega) (All.mono (fun _ h => sml_fits h) g2)
end Go.Proofs.YtkogbobplhebaaaGreatDoor

/- Events: the event that bytes are, as a law. -/
namespace Go.Proofs.YtkogbobplhebaaaGreatDoor
open Go.SX Go.Ev

noncomputable def mayO (e : Evt) : Option Evt := if mayB e = true then some e else none
/-- The event that bytes are. -/
noncomputable def decEv (b : List UInt8) : Option Evt := if 8192 < b.length then none else match b with
  | [] => none
  | k :: r => match tDec r with
    | none => none
    | some (c, r1) => match tDec r1 with
      | none => none
      | some (kt, r2) => match decV kt with
        | none => none
        | some v => if k = 1 then (match decV r2 with
            | none => none
            | some d => mayO ⟨1, c, v, d⟩) else if r2 = [] then mayO ⟨(k.toNat : Int), c, v, zeroV⟩ else none
theorem textS_er {s : RS} (h : s.er ≠ 0) : (textS s).1.er ≠ 0 := by
  have hv : varS s = (s, 0) := by unfold varS; rw [if_neg h]
  unfold textS
  rw [hv]
  split
  · exact fail_er (by decide)
  · rw [takeS_er h]; exact h
abbrev rd1 (b : List UInt8) : RS × UInt8 := u8S ⟨b, 0, 0, 0⟩
abbrev rd2 (b : List UInt8) : RS × List UInt8 := textS (rd1 b).1
abbrev rd3 (b : List UInt8) : RS × List UInt8 := textS (rd2 b).1
theorem decEv_long {b : List UInt8} (h : 8192 < b.length) : decEv b = none := by unfold decEv; rw [if_pos h]
theorem decEv_law {b : List UInt8} (hb : b.length ≤ 8192) : ((rd3 b).1.er ≠ 0 ∧ decEv b = none) ∨ ∃ r2, At (rd3 b).1 r2 ∧ (rd3 b).1.b = b ∧
    decEv b = match decV (rd3 b).2 with
        | none => none
        | some v => if (rd1 b).2 = 1 then (match decV r2 with
            | none => none
            | some d => mayO ⟨1, (rd2 b).2, v, d⟩) else if r2 = [] then mayO ⟨((rd1 b).2.toNat : Int), (rd2 b).2, v, zeroV⟩ else none := by
  have h0 : At ⟨b, 0, 0, 0⟩ b := ⟨rfl, rfl, Nat.zero_le _⟩
  have hn : ¬ 8192 < b.length := by omega
  cases b with
  | nil => exact .inl ⟨textS_er (textS_er (u8_er h0)), by unfold decEv; rw [if_neg hn]⟩
  | cons k r =>
    obtain ⟨s1, h1, h2, h3⟩ := at_u8 h0
    have e1 : rd1 (k :: r) = (s1, k) := h1
    have d0 : decEv (k :: r) = match tDec r with
      | none => none
      | some (c, r1) => match tDec r1 with
        | none => none
        | some (kt, r2) => match decV kt with
          | none => none
          | some v => if k = 1 then (match decV r2 with
              | none => none
              | some d => mayO ⟨1, c, v, d⟩) else if r2 = [] then mayO ⟨(k.toNat : Int), c, v, zeroV⟩ else none := by unfold decEv; rw [if_neg hn]
    rw [d0]
    unfold rd3 rd2
    rw [e1]
    show ((textS (textS s1).1).1.er ≠ 0 ∧ _) ∨ _
    cases ht : tDec r with
    | none => exact .inl ⟨textS_er (text_er h2 ht), rfl⟩
    | some p =>
      obtain ⟨c, r1⟩ := p
      obtain ⟨s2, h4, h5, h6⟩ := at_text h2 ht
      rw [h4]
      simp only
      cases ht2 : tDec r1 with
      | none => exact .inl ⟨text_er h5 ht2, rfl⟩
      | some p =>
        obtain ⟨kt, r2⟩ := p
        obtain ⟨s3, h7, h8, h9⟩ := at_text h5 ht2
        rw [h7]
        refine .inr ⟨r2, h8, h9.trans (h6.trans h3), rfl⟩
theorem at_rest {s : RS} {r : List UInt8} (h : At s r) : ∃ s', takeS s ((s.b.length : Int) - s.at_) = (s', r) ∧ At s' [] ∧ s'.b = s.b := by
  have hl := h.len
  have hle := h.le
  obtain ⟨s', h1, h2, h3⟩ := at_take h (n := r.length) (Nat.le_refl _)
  refine ⟨s', ?_, ?_, h3⟩
  · rw [show (s.b.length : Int) - s.at_ = ((r.length : Nat) : Int) by omega, h1, List.take_length]
  · rw [List.drop_length] at h2; exact h2
theorem end_at {s : RS} {r : List UInt8} (h : At s r) : endE s = 0 ↔ r = [] := by
  have hl := h.len
  have hle := h.le
  unfold endE
  rw [if_pos h.er]
  by_cases hr : r = []
  · have : ¬ s.at_ < s.b.length := by rw [hr] at hl; simp at hl; omega
    rw [if_neg this]; exact ⟨fun _ => hr, fun _ => rfl⟩
  · have : s.at_ < s.b.length := by
      have : 0 < r.length := List.length_pos_iff.2 hr
      omega
    rw [if_pos this]; exact ⟨fun h => absurd h (by decide), fun h => absurd h hr⟩
end Go.Proofs.YtkogbobplhebaaaGreatDoor

/- Events: event.Decode. -/
namespace Go.SX
/-- What a function leaves may be forgotten, where its result names none of it. -/
theorem spec_drop {P : Program} {f : Nat} {svs : List SV} {r : SV} {objs' : Objs} (hr : namesOnly [] r = true) (h : Spec P f svs [] r objs') : Spec P f svs [] r [] := by
  intro η G vs w hsep hob hs htab
  have h0 : ∀ k, η k = none := fun k => by
    have := hob k
    cases hk : η k with
    | none => rfl
    | some o => rw [hk] at this; exact this.elim
  refine (h η G vs w hsep hob hs htab).mono ?_
  rintro e w' ⟨η', G', v, rfl, hv, _, hsp, hev⟩
  exact ⟨fun _ => none, G', v, rfl, names_rel (fun k hk => by cases hk) (fun _ h => h) r v hr hv, fun _ => trivial,
    ⟨fun k o h => (by cases h), fun k o k' o' h => (by cases h), fun k o h => (by cases h), hsp.glt⟩,
    hev.os, hev.tape, hev.out, hev.size, hev.keep, fun k o h => (by rw [h0] at h; cases h), hev.g, hev.g', fun j o h => (by cases h)⟩
end Go.SX
namespace Go.Proofs.YtkogbobplhebaaaGreatDoor
open Go.SX Go.Ev

theorem esc_len : ∀ (l : List UInt8), (esc l).length ≤ 2 * l.length
  | [] => Nat.le_refl _
  | b :: r => by
    have := esc_len r
    simp only [esc, List.length_append, List.length_cons]
    split <;> simp only [List.length_cons, List.length_nil] <;> omega
theorem be8_len (t : Int) : ∀ (n : Nat), (be8 t n).length = n
  | 0 => rfl
  | n + 1 => by simp only [be8, List.length_cons, be8_len t n]
mutual
theorem key_len : ∀ (v : Val), (keyV v).length ≤ 9 * (docB v).length
  | .mk k b i t y l f => by
    have h1 := esc_len t
    have h2 := esc_len y
    have h3 := txt_ge t
    have h4 := txt_ge y
    have h5 := keyL_len l
    simp only [keyV, docB]
    split
    · simp
    split
    · split <;> simp
    split
    · have : 1 ≤ (vEnc (zig i)).length := by rw [vEnc.eq_def]; split <;> simp
      simp only [List.length_cons, be8_len]; omega
    split
    · simp only [List.length_cons, List.length_append, List.length_nil]; omega
    split
    · simp only [List.length_cons, List.length_append, List.length_nil]; omega
    split
    · simp only [List.length_cons, List.length_append, List.length_nil]; omega
    · simp
theorem keyL_len : ∀ (l : List Val), (keyL l).length ≤ 9 * (docL l).length
  | [] => Nat.zero_le _
  | v :: r => by
    have := key_len v
    have := keyL_len r
    simp only [keyL, docL, List.length_append]; omega
end
theorem ren23 : renOk [(2, 1002), (3, 1003)] := by
  refine ⟨fun k k' h => ?_, fun k k' j h h' => ?_⟩
  · rcases List.mem_cons.1 h with h | h
    · cases h; exact ⟨rfl, rfl⟩
    · rcases List.mem_cons.1 h with h | h
      · cases h; exact ⟨rfl, rfl⟩
      · cases h
  · have key : ∀ {x}, lookN x (swapL [(2, 1002), (3, 1003)]) = some k → (x = 1002 ∧ k = 2) ∨ (x = 1003 ∧ k = 3) := by
      intro x hx
      simp only [swapL, lookN] at hx
      cases h1 : eqN 1002 x with
      | true => rw [h1] at hx; cases hx; exact .inl ⟨(eqN_eq h1).symm, rfl⟩
      | false =>
        rw [h1] at hx
        cases h2 : eqN 1003 x with
        | true => rw [h2] at hx; cases hx; exact .inr ⟨(eqN_eq h2).symm, rfl⟩
        | false => rw [h2] at hx; cases hx
    rcases key h with ⟨a1, a2⟩ | ⟨a1, a2⟩ <;> rcases key h' with ⟨b1, b2⟩ | ⟨b1, b2⟩ <;> omega

def zeroL : List SV := [.int .u8 (.l 0), .str fun _ => [], .int .u8 (.l 0), .bool .f, .int .i64 (.l 0), .str fun _ => [], .nil, .nil, .nil, .int .u8 (.l 0), .bool .f, .int .i64 (.l 0), .str fun _ => [], .nil, .nil, .nil]
theorem pan34l : Con (rawC 12 34) [.bool .f] [] (.tup []) [] := (pan34 (b := false) rfl).args (EqvL.cons eqv_f1 .nil)
set_option maxRecDepth 20000 in
set_option maxHeartbeats 4000000 in
theorem rec33 {c0 c1 c2 c3 c4 c5 c6 c7 c8 c9 c10 c11 c12 c13 c14 c15 x : SV} : Con (rawC 13 33) [.loc 1000 0, .loc 1001 0] [(1000, .cells 29 [c0, c1, c2, c3, c4, c5, c6, c7, c8, c9, c10, c11, c12, c13, c14, c15]), (1001, .cells 34 [x])] (.tup []) [(1000, .cells 29 zeroL), (1001, .cells 34 [.int .u16 (.l 210)])] := by
  refine ⟨rec_of_vc2 (S := Con) (E := E4) eok4 raw4 mixed (fun _ _ _ _ _ h => h.spec) (fn := Tryz.f33) Tryz.func33 rfl ⟨_, _, Tryz.func33, rfl, rfl⟩ rfl rfl rfl rfl rfl (fun a w h => by simp only [execOp]; rw [h]; kernel_rfl) (by decide) rfl rfl ?_⟩
  cbv
  refine ⟨[], [], ?_⟩
  cbv
  and_intros
  all_goals first | exact trivial | exact ⟨rfl⟩ | exact ⟨by kernel_rfl⟩
set_option maxRecDepth 20000 in
set_option maxHeartbeats 4000000 in
theorem idle33 : Idle2 Tryz.prog 33 2 := by
  refine idle_of_vc (S := Con) (E := E4) eok4 raw4 mixed (fun _ _ _ _ _ h => h.spec) (fn := Tryz.f33) Tryz.func33 rfl ⟨_, _, Tryz.func33, rfl, rfl⟩ rfl rfl rfl rfl rfl (fun a w h => by simp only [execOp]; rw [h]; kernel_rfl) (by decide) rfl rfl ?_
  cbv
  refine ⟨[], [], ?_⟩
  cbv
  and_intros
  all_goals first | exact trivial | exact ⟨rfl⟩ | exact ⟨by kernel_rfl⟩
set_option maxRecDepth 20000 in
set_option maxHeartbeats 8000000 in
theorem con10_a {b : List UInt8} (hlen : ¬ (b.length : Int) ≤ 8192) : Con 10 [.dat (.bytes fun _ => b)] [] (.tup [.agg zeroL, .int .u16 (.l 210)]) [] := by
  refine ⟨specX_of (spec_drop (objs' := [(1002, .dead), (1003, .dead)]) rfl (spec_of_vc_rec2 (E := E4) (S := Con) (fn := Tryz.f10) eok4 raw4 mixed (fun _ _ _ _ _ h => h.spec) [(2, 1002), (3, 1003)] ren23 Tryz.func10 rfl rfl rfl rfl rfl rfl rfl rfl idle33 rfl ?_)) ⟨_, _, Tryz.func10, rfl, rfl⟩ (by decide)⟩
  cbv
  refine ⟨⟨rfl⟩, ?_⟩
  cbv
  refine .inr ⟨_, _, pan34 (b := decide ((b.length : Int) ≤ 8192)) (decide_eq_false hlen), ⟨by kernel_rfl⟩, ?_⟩
  cbv
  refine ⟨⟨rfl⟩, ⟨_, _, rec33, ⟨by kernel_rfl⟩, ?_⟩⟩
  cbv
  refine ⟨[], [], ?_⟩
  cbv
  and_intros
  all_goals first | exact trivial | exact ⟨rfl⟩ | exact ⟨rfl, fun _ _ _ _ => rfl⟩ | exact ⟨by kernel_rfl⟩
set_option maxRecDepth 20000 in
set_option maxHeartbeats 8000000 in
theorem con10_b {b : List UInt8} {b1 b2 b3 tx kt : List UInt8} {a1 a2 a3 : Nat} {e1 f1 e2 f2 e3 f3 K : Int} (hb : b.length < 1000000000000)
    (c36 : Con 36 [.loc 1000 0] [(1000, rdO ⟨b, 0, 0, 0⟩)] (.int .u8 (.s fun _ => K)) [(1000, rdO ⟨b1, a1, e1, f1⟩)])
    (c37 : Con 37 [.loc 1000 0] [(1000, rdO ⟨b1, a1, e1, f1⟩)] (.str fun _ => tx) [(1000, rdO ⟨b2, a2, e2, f2⟩)])
    (c37b : Con 37 [.loc 1000 0] [(1000, rdO ⟨b2, a2, e2, f2⟩)] (.str fun _ => kt) [(1000, rdO ⟨b3, a3, e3, f3⟩)]) (hlen : (b.length : Int) ≤ 8192) (he : ¬ e3 = 0) : Con 10 [.dat (.bytes fun _ => b)] [] (.tup [.agg zeroL, .int .u16 (.l 210)]) [] := by
  refine ⟨specX_of (spec_drop (objs' := [(1002, .dead), (1003, .dead)]) rfl (spec_of_vc_rec2 (E := E4) (S := Con) (fn := Tryz.f10) eok4 raw4 mixed (fun _ _ _ _ _ h => h.spec) [(2, 1002), (3, 1003)] ren23 Tryz.func10 rfl rfl rfl rfl rfl rfl rfl rfl idle33 rfl ?_)) ⟨_, _, Tryz.func10, rfl, rfl⟩ (by decide)⟩
  cbv
  refine ⟨⟨rfl⟩, ?_⟩
  cbv
  refine .inl ⟨_, _, con34 (b := decide ((b.length : Int) ≤ 8192)) (decide_eq_true hlen), ⟨by kernel_rfl⟩, ?_⟩
  cbv
  refine ⟨_, _, con35 hb, ⟨by kernel_rfl⟩, ?_⟩
  cbv
  refine ⟨_, _, c36, ⟨by kernel_rfl⟩, ?_⟩
  cbv
  refine ⟨_, _, c37, ⟨by kernel_rfl⟩, ?_⟩
  cbv
  refine ⟨_, _, c37b, ⟨by kernel_rfl⟩, ?_⟩
  cbv
  refine ⟨_, _, con38, ⟨by kernel_rfl⟩, ?_⟩
  cbv
  refine .inr ⟨_, _, pan34 (b := decide (e3 = 0)) (decide_eq_false he), ⟨by kernel_rfl⟩, ?_⟩
  cbv
  refine ⟨⟨rfl⟩, ⟨_, _, rec33, ⟨by kernel_rfl⟩, ?_⟩⟩
  cbv
  refine ⟨[], [], ?_⟩
  cbv
  and_intros
  all_goals first | exact trivial | exact ⟨rfl⟩ | exact ⟨rfl, fun _ _ _ _ => rfl⟩ | exact ⟨by kernel_rfl⟩
set_option maxRecDepth 20000 in
set_option maxHeartbeats 8000000 in
theorem con10_c {b : List UInt8} {b1 b2 b3 tx kt : List UInt8} {a1 a2 a3 : Nat} {e1 f1 e2 f2 e3 f3 K : Int} (hb : b.length < 1000000000000)
    (c36 : Con 36 [.loc 1000 0] [(1000, rdO ⟨b, 0, 0, 0⟩)] (.int .u8 (.s fun _ => K)) [(1000, rdO ⟨b1, a1, e1, f1⟩)])
    (c37 : Con 37 [.loc 1000 0] [(1000, rdO ⟨b1, a1, e1, f1⟩)] (.str fun _ => tx) [(1000, rdO ⟨b2, a2, e2, f2⟩)])
    (c37b : Con 37 [.loc 1000 0] [(1000, rdO ⟨b2, a2, e2, f2⟩)] (.str fun _ => kt) [(1000, rdO ⟨b3, a3, e3, f3⟩)]) (hlen : (b.length : Int) ≤ 8192) (he : e3 = 0) (hkl : kt.length < 1000000000) (hk : decV kt = none) : Con 10 [.dat (.bytes fun _ => b)] [] (.tup [.agg zeroL, .int .u16 (.l 210)]) [] := by
  refine ⟨specX_of (spec_drop (objs' := [(1002, .dead), (1003, .dead)]) rfl (spec_of_vc_rec2 (E := E4) (S := Con) (fn := Tryz.f10) eok4 raw4 mixed (fun _ _ _ _ _ h => h.spec) [(2, 1002), (3, 1003)] ren23 Tryz.func10 rfl rfl rfl rfl rfl rfl rfl rfl idle33 rfl ?_)) ⟨_, _, Tryz.func10, rfl, rfl⟩ (by decide)⟩
  cbv
  refine ⟨⟨rfl⟩, ?_⟩
  cbv
  refine .inl ⟨_, _, con34 (b := decide ((b.length : Int) ≤ 8192)) (decide_eq_true hlen), ⟨by kernel_rfl⟩, ?_⟩
  cbv
  refine ⟨_, _, con35 hb, ⟨by kernel_rfl⟩, ?_⟩
  cbv
  refine ⟨_, _, c36, ⟨by kernel_rfl⟩, ?_⟩
  cbv
  refine ⟨_, _, c37, ⟨by kernel_rfl⟩, ?_⟩
  cbv
  refine ⟨_, _, c37b, ⟨by kernel_rfl⟩, ?_⟩
  cbv
  refine ⟨_, _, con38, ⟨by kernel_rfl⟩, ?_⟩
  cbv
  refine .inl ⟨_, _, con34 (b := decide (e3 = 0)) (decide_eq_true he), ⟨by kernel_rfl⟩, ?_⟩
  cbv
  refine ⟨⟨(by unfold lenOk; omega : lenOk kt.length 1)⟩, ?_⟩
  refine .inr ⟨_, _, pan39 hkl hk, ⟨by kernel_rfl⟩, ?_⟩
  cbv
  refine ⟨⟨rfl⟩, ⟨_, _, rec33, ⟨by kernel_rfl⟩, ?_⟩⟩
  cbv
  refine ⟨[], [], ?_⟩
  cbv
  and_intros
  all_goals first | exact trivial | exact ⟨rfl⟩ | exact ⟨rfl, fun _ _ _ _ => rfl⟩ | exact ⟨by kernel_rfl⟩
set_option maxRecDepth 20000 in
set_option maxHeartbeats 8000000 in
theorem con10_d {b : List UInt8} {b1 b2 b3 tx kt : List UInt8} {a1 a2 a3 : Nat} {e1 f1 e2 f2 e3 f3 K : Int} (hb : b.length < 1000000000000)
    (c36 : Con 36 [.loc 1000 0] [(1000, rdO ⟨b, 0, 0, 0⟩)] (.int .u8 (.s fun _ => K)) [(1000, rdO ⟨b1, a1, e1, f1⟩)])
    (c37 : Con 37 [.loc 1000 0] [(1000, rdO ⟨b1, a1, e1, f1⟩)] (.str fun _ => tx) [(1000, rdO ⟨b2, a2, e2, f2⟩)])
    (c37b : Con 37 [.loc 1000 0] [(1000, rdO ⟨b2, a2, e2, f2⟩)] (.str fun _ => kt) [(1000, rdO ⟨b3, a3, e3, f3⟩)]) (hlen : (b.length : Int) ≤ 8192) (he : e3 = 0)
    (hkl : kt.length < 1000000000) {rv : RowG Val} {rf : RowG Fld} {v : Val} {Y : List UInt8} {L : List Val} {F : List Fld} (c39 : Con 39 [.dat (.bytes fun _ => kt)] [] (.agg [.int .u8 (.s fun _ => v.kind), .bool (.s fun _ => v.bool), .int .i64 (.s fun _ => v.int), .str fun _ => v.text, .dat (.bytes fun _ => Y), .dat (.sl 7 (fun _ => L.length) (rv fun _ => L)), .dat (.sl 8 (fun _ => F.length) (rf fun _ => F))]) []) (hK : K = 1)
    {bR b4 : List UInt8} {a4 : Nat} {e4 f4 n4 : Int} (c41 : Con 41 [.loc 1000 0] [(1000, rdO ⟨b3, a3, e3, f3⟩)] (.int .i64 (.s fun _ => n4)) [(1000, rdO ⟨b3, a3, e3, f3⟩)])
    (c40 : Con 40 [.loc 1000 0, .int .i64 (.s fun _ => n4)] [(1000, rdO ⟨b3, a3, e3, f3⟩)] (.dat (.bytes fun _ => bR)) [(1000, rdO ⟨b4, a4, e4, f4⟩)]) (hR : bR.length < 1000000000) (hd : decV bR = none) : Con 10 [.dat (.bytes fun _ => b)] [] (.tup [.agg zeroL, .int .u16 (.l 210)]) [] := by
  refine ⟨specX_of (spec_drop (objs' := [(1002, .dead), (1003, .dead)]) rfl (spec_of_vc_rec2 (E := E4) (S := Con) (fn := Tryz.f10) eok4 raw4 mixed (fun _ _ _ _ _ h => h.spec) [(2, 1002), (3, 1003)] ren23 Tryz.func10 rfl rfl rfl rfl rfl rfl rfl rfl idle33 rfl ?_)) ⟨_, _, Tryz.func10, rfl, rfl⟩ (by decide)⟩
  cbv
  refine ⟨⟨rfl⟩, ?_⟩
  cbv
  refine .inl ⟨_, _, con34 (b := decide ((b.length : Int) ≤ 8192)) (decide_eq_true hlen), ⟨by kernel_rfl⟩, ?_⟩
  cbv
  refine ⟨_, _, con35 hb, ⟨by kernel_rfl⟩, ?_⟩
  cbv
  refine ⟨_, _, c36, ⟨by kernel_rfl⟩, ?_⟩
  cbv
  refine ⟨_, _, c37, ⟨by kernel_rfl⟩, ?_⟩
  cbv
  refine ⟨_, _, c37b, ⟨by kernel_rfl⟩, ?_⟩
  cbv
  refine ⟨_, _, con38, ⟨by kernel_rfl⟩, ?_⟩
  cbv
  refine .inl ⟨_, _, con34 (b := decide (e3 = 0)) (decide_eq_true he), ⟨by kernel_rfl⟩, ?_⟩
  cbv
  refine ⟨⟨(by unfold lenOk; omega : lenOk kt.length 1)⟩, ?_⟩
  refine .inl ⟨_, _, c39, ⟨by kernel_rfl⟩, ?_⟩
  cbv
  refine And.intro ?_ ?_
  · intro g
    clear g
    cbv
    refine ⟨_, _, c41, ⟨by kernel_rfl⟩, ?_⟩
    cbv
    refine ⟨_, _, c40, ⟨by kernel_rfl⟩, ?_⟩
    cbv
    refine .inr ⟨_, _, pan39 hR hd, ⟨by kernel_rfl⟩, ?_⟩
    cbv
    refine ⟨⟨rfl⟩, ⟨_, _, rec33, ⟨by kernel_rfl⟩, ?_⟩⟩
    cbv
    refine ⟨[], [], ?_⟩
    cbv
    and_intros
    all_goals first | exact trivial | exact ⟨rfl⟩ | exact ⟨rfl, fun _ _ _ _ => rfl⟩ | exact ⟨by kernel_rfl⟩
  · intro g
    have g9 : False := of_decide_eq_false g hK
    cbv
    exact g9.elim
set_option maxRecDepth 20000 in
set_option maxHeartbeats 8000000 in
theorem con10_e {b : List UInt8} {b1 b2 b3 tx kt : List UInt8} {a1 a2 a3 : Nat} {e1 f1 e2 f2 e3 f3 K : Int} (hb : b.length < 1000000000000)
    (c36 : Con 36 [.loc 1000 0] [(1000, rdO ⟨b, 0, 0, 0⟩)] (.int .u8 (.s fun _ => K)) [(1000, rdO ⟨b1, a1, e1, f1⟩)])
    (c37 : Con 37 [.loc 1000 0] [(1000, rdO ⟨b1, a1, e1, f1⟩)] (.str fun _ => tx) [(1000, rdO ⟨b2, a2, e2, f2⟩)])
    (c37b : Con 37 [.loc 1000 0] [(1000, rdO ⟨b2, a2, e2, f2⟩)] (.str fun _ => kt) [(1000, rdO ⟨b3, a3, e3, f3⟩)]) (hlen : (b.length : Int) ≤ 8192) (he : e3 = 0)
    (hkl : kt.length < 1000000000) {rv : RowG Val} {rf : RowG Fld} {v : Val} {Y : List UInt8} {L : List Val} {F : List Fld} (c39 : Con 39 [.dat (.bytes fun _ => kt)] [] (.agg [.int .u8 (.s fun _ => v.kind), .bool (.s fun _ => v.bool), .int .i64 (.s fun _ => v.int), .str fun _ => v.text, .dat (.bytes fun _ => Y), .dat (.sl 7 (fun _ => L.length) (rv fun _ => L)), .dat (.sl 8 (fun _ => F.length) (rf fun _ => F))]) []) (hK : K = 1)
    {bR b4 : List UInt8} {a4 : Nat} {e4 f4 n4 : Int} (c41 : Con 41 [.loc 1000 0] [(1000, rdO ⟨b3, a3, e3, f3⟩)] (.int .i64 (.s fun _ => n4)) [(1000, rdO ⟨b3, a3, e3, f3⟩)])
    (c40 : Con 40 [.loc 1000 0, .int .i64 (.s fun _ => n4)] [(1000, rdO ⟨b3, a3, e3, f3⟩)] (.dat (.bytes fun _ => bR)) [(1000, rdO ⟨b4, a4, e4, f4⟩)])
    {v2 : Val} {Y2 : List UInt8} {L2 : List Val} {F2 : List Fld} (c39b : Con 39 [.dat (.bytes fun _ => bR)] [] (.agg [.int .u8 (.s fun _ => v2.kind), .bool (.s fun _ => v2.bool), .int .i64 (.s fun _ => v2.int), .str fun _ => v2.text, .dat (.bytes fun _ => Y2), .dat (.sl 7 (fun _ => L2.length) (rv fun _ => L2)), .dat (.sl 8 (fun _ => F2.length) (rf fun _ => F2))]) [])
    {en : Int} (c42 : Con 42 [.loc 1000 0] [(1000, rdO ⟨b4, a4, e4, f4⟩)] (.int .u16 (.s fun _ => en)) [(1000, rdO ⟨b4, a4, e4, f4⟩)])
    {mb : Bool} (c25 : Con 25 [.agg [.int .u8 (.s fun _ => K), .str fun _ => tx, .int .u8 (.s fun _ => v.kind), .bool (.s fun _ => v.bool), .int .i64 (.s fun _ => v.int), .str fun _ => v.text, .dat (.bytes fun _ => Y), .dat (.sl 7 (fun _ => L.length) (rv fun _ => L)), .dat (.sl 8 (fun _ => F.length) (rf fun _ => F)), .int .u8 (.s fun _ => v2.kind), .bool (.s fun _ => v2.bool), .int .i64 (.s fun _ => v2.int), .str fun _ => v2.text, .dat (.bytes fun _ => Y2), .dat (.sl 7 (fun _ => L2.length) (rv fun _ => L2)), .dat (.sl 8 (fun _ => F2.length) (rf fun _ => F2))]] [] (.bool (.s fun _ => mb)) []) (hen : en = 0) (hm : mb = false) : Con 10 [.dat (.bytes fun _ => b)] [] (.tup [.agg zeroL, .int .u16 (.l 210)]) [] := by
  refine ⟨specX_of (spec_drop (objs' := [(1002, .dead), (1003, .dead)]) rfl (spec_of_vc_rec2 (E := E4) (S := Con) (fn := Tryz.f10) eok4 raw4 mixed (fun _ _ _ _ _ h => h.spec) [(2, 1002), (3, 1003)] ren23 Tryz.func10 rfl rfl rfl rfl rfl rfl rfl rfl idle33 rfl ?_)) ⟨_, _, Tryz.func10, rfl, rfl⟩ (by decide)⟩
  cbv
  refine ⟨⟨rfl⟩, ?_⟩
  cbv
  refine .inl ⟨_, _, con34 (b := decide ((b.length : Int) ≤ 8192)) (decide_eq_true hlen), ⟨by kernel_rfl⟩, ?_⟩
  cbv
  refine ⟨_, _, con35 hb, ⟨by kernel_rfl⟩, ?_⟩
  cbv
  refine ⟨_, _, c36, ⟨by kernel_rfl⟩, ?_⟩
  cbv
  refine ⟨_, _, c37, ⟨by kernel_rfl⟩, ?_⟩
  cbv
  refine ⟨_, _, c37b, ⟨by kernel_rfl⟩, ?_⟩
  cbv
  refine ⟨_, _, con38, ⟨by kernel_rfl⟩, ?_⟩
  cbv
  refine .inl ⟨_, _, con34 (b := decide (e3 = 0)) (decide_eq_true he), ⟨by kernel_rfl⟩, ?_⟩
  cbv
  refine ⟨⟨(by unfold lenOk; omega : lenOk kt.length 1)⟩, ?_⟩
  refine .inl ⟨_, _, c39, ⟨by kernel_rfl⟩, ?_⟩
  cbv
  refine And.intro ?_ ?_
  · intro g
    clear g
    cbv
    refine ⟨_, _, c41, ⟨by kernel_rfl⟩, ?_⟩
    cbv
    refine ⟨_, _, c40, ⟨by kernel_rfl⟩, ?_⟩
    cbv
    refine .inl ⟨_, _, c39b, ⟨by kernel_rfl⟩, ?_⟩
    cbv
    refine ⟨_, _, c42, ⟨by kernel_rfl⟩, ?_⟩
    cbv
    refine And.intro ?_ ?_
    · intro g
      clear g
      cbv
      refine ⟨_, _, c25, ⟨by kernel_rfl⟩, ?_⟩
      cbv
      refine .inr ⟨_, _, pan34 (b := mb) hm, ⟨by kernel_rfl⟩, ?_⟩
      cbv
      refine ⟨⟨rfl⟩, ⟨_, _, rec33, ⟨by kernel_rfl⟩, ?_⟩⟩
      cbv
      refine ⟨[], [], ?_⟩
      cbv
      and_intros
      all_goals first | exact trivial | exact ⟨rfl⟩ | exact ⟨rfl, fun _ _ _ _ => rfl⟩ | exact ⟨by kernel_rfl⟩
    · intro g
      have g9 : False := of_decide_eq_false g hen
      cbv
      exact g9.elim
  · intro g
    have g9 : False := of_decide_eq_false g hK
    cbv
    exact g9.elim
set_option maxRecDepth 20000 in
set_option maxHeartbeats 8000000 in
theorem con10_f {b : List UInt8} {b1 b2 b3 tx kt : List UInt8} {a1 a2 a3 : Nat} {e1 f1 e2 f2 e3 f3 K : Int} (hb : b.length < 1000000000000)
    (c36 : Con 36 [.loc 1000 0] [(1000, rdO ⟨b, 0, 0, 0⟩)] (.int .u8 (.s fun _ => K)) [(1000, rdO ⟨b1, a1, e1, f1⟩)])
    (c37 : Con 37 [.loc 1000 0] [(1000, rdO ⟨b1, a1, e1, f1⟩)] (.str fun _ => tx) [(1000, rdO ⟨b2, a2, e2, f2⟩)])
    (c37b : Con 37 [.loc 1000 0] [(1000, rdO ⟨b2, a2, e2, f2⟩)] (.str fun _ => kt) [(1000, rdO ⟨b3, a3, e3, f3⟩)]) (hlen : (b.length : Int) ≤ 8192) (he : e3 = 0)
    (hkl : kt.length < 1000000000) {rv : RowG Val} {rf : RowG Fld} {v : Val} {Y : List UInt8} {L : List Val} {F : List Fld} (c39 : Con 39 [.dat (.bytes fun _ => kt)] [] (.agg [.int .u8 (.s fun _ => v.kind), .bool (.s fun _ => v.bool), .int .i64 (.s fun _ => v.int), .str fun _ => v.text, .dat (.bytes fun _ => Y), .dat (.sl 7 (fun _ => L.length) (rv fun _ => L)), .dat (.sl 8 (fun _ => F.length) (rf fun _ => F))]) []) (hK : K = 1)
    {bR b4 : List UInt8} {a4 : Nat} {e4 f4 n4 : Int} (c41 : Con 41 [.loc 1000 0] [(1000, rdO ⟨b3, a3, e3, f3⟩)] (.int .i64 (.s fun _ => n4)) [(1000, rdO ⟨b3, a3, e3, f3⟩)])
    (c40 : Con 40 [.loc 1000 0, .int .i64 (.s fun _ => n4)] [(1000, rdO ⟨b3, a3, e3, f3⟩)] (.dat (.bytes fun _ => bR)) [(1000, rdO ⟨b4, a4, e4, f4⟩)])
    {v2 : Val} {Y2 : List UInt8} {L2 : List Val} {F2 : List Fld} (c39b : Con 39 [.dat (.bytes fun _ => bR)] [] (.agg [.int .u8 (.s fun _ => v2.kind), .bool (.s fun _ => v2.bool), .int .i64 (.s fun _ => v2.int), .str fun _ => v2.text, .dat (.bytes fun _ => Y2), .dat (.sl 7 (fun _ => L2.length) (rv fun _ => L2)), .dat (.sl 8 (fun _ => F2.length) (rf fun _ => F2))]) [])
    {en : Int} (c42 : Con 42 [.loc 1000 0] [(1000, rdO ⟨b4, a4, e4, f4⟩)] (.int .u16 (.s fun _ => en)) [(1000, rdO ⟨b4, a4, e4, f4⟩)])
    {mb : Bool} (c25 : Con 25 [.agg [.int .u8 (.s fun _ => K), .str fun _ => tx, .int .u8 (.s fun _ => v.kind), .bool (.s fun _ => v.bool), .int .i64 (.s fun _ => v.int), .str fun _ => v.text, .dat (.bytes fun _ => Y), .dat (.sl 7 (fun _ => L.length) (rv fun _ => L)), .dat (.sl 8 (fun _ => F.length) (rf fun _ => F)), .int .u8 (.s fun _ => v2.kind), .bool (.s fun _ => v2.bool), .int .i64 (.s fun _ => v2.int), .str fun _ => v2.text, .dat (.bytes fun _ => Y2), .dat (.sl 7 (fun _ => L2.length) (rv fun _ => L2)), .dat (.sl 8 (fun _ => F2.length) (rf fun _ => F2))]] [] (.bool (.s fun _ => mb)) []) (hen : en = 0) (hm : mb = true) : Con 10 [.dat (.bytes fun _ => b)] [] (.tup [.agg [.int .u8 (.s fun _ => K), .str fun _ => tx, .int .u8 (.s fun _ => v.kind), .bool (.s fun _ => v.bool), .int .i64 (.s fun _ => v.int), .str fun _ => v.text, .dat (.bytes fun _ => Y), .dat (.sl 7 (fun _ => L.length) (rv fun _ => L)), .dat (.sl 8 (fun _ => F.length) (rf fun _ => F)), .int .u8 (.s fun _ => v2.kind), .bool (.s fun _ => v2.bool), .int .i64 (.s fun _ => v2.int), .str fun _ => v2.text, .dat (.bytes fun _ => Y2), .dat (.sl 7 (fun _ => L2.length) (rv fun _ => L2)), .dat (.sl 8 (fun _ => F2.length) (rf fun _ => F2))], .int .u16 (.l 0)]) [] := by
  refine ⟨specX_of (spec_drop (objs' := [(1002, .dead), (1003, .dead)]) rfl (spec_of_vc_rec2 (E := E4) (S := Con) (fn := Tryz.f10) eok4 raw4 mixed (fun _ _ _ _ _ h => h.spec) [(2, 1002), (3, 1003)] ren23 Tryz.func10 rfl rfl rfl rfl rfl rfl rfl rfl idle33 rfl ?_)) ⟨_, _, Tryz.func10, rfl, rfl⟩ (by decide)⟩
  cbv
  refine ⟨⟨rfl⟩, ?_⟩
  cbv
  refine .inl ⟨_, _, con34 (b := decide ((b.length : Int) ≤ 8192)) (decide_eq_true hlen), ⟨by kernel_rfl⟩, ?_⟩
  cbv
  refine ⟨_, _, con35 hb, ⟨by kernel_rfl⟩, ?_⟩
  cbv
  refine ⟨_, _, c36, ⟨by kernel_rfl⟩, ?_⟩
  cbv
  refine ⟨_, _, c37, ⟨by kernel_rfl⟩, ?_⟩
  cbv
  refine ⟨_, _, c37b, ⟨by kernel_rfl⟩, ?_⟩
  cbv
  refine ⟨_, _, con38, ⟨by kernel_rfl⟩, ?_⟩
  cbv
  refine .inl ⟨_, _, con34 (b := decide (e3 = 0)) (decide_eq_true he), ⟨by kernel_rfl⟩, ?_⟩
  cbv
  refine ⟨⟨(by unfold lenOk; omega : lenOk kt.length 1)⟩, ?_⟩
  refine .inl ⟨_, _, c39, ⟨by kernel_rfl⟩, ?_⟩
  cbv
  refine And.intro ?_ ?_
  · intro g
    clear g
    cbv
    refine ⟨_, _, c41, ⟨by kernel_rfl⟩, ?_⟩
    cbv
    refine ⟨_, _, c40, ⟨by kernel_rfl⟩, ?_⟩
    cbv
    refine .inl ⟨_, _, c39b, ⟨by kernel_rfl⟩, ?_⟩
    cbv
    refine ⟨_, _, c42, ⟨by kernel_rfl⟩, ?_⟩
    cbv
    refine And.intro ?_ ?_
    · intro g
      clear g
      cbv
      refine ⟨_, _, c25, ⟨by kernel_rfl⟩, ?_⟩
      cbv
      refine .inl ⟨_, _, con34 (b := mb) hm, ⟨by kernel_rfl⟩, ?_⟩
      cbv
      refine ⟨[], [], ?_⟩
      cbv
      and_intros
      all_goals first | exact trivial | exact ⟨rfl⟩ | exact ⟨rfl, fun _ _ _ _ => rfl⟩ | exact ⟨by kernel_rfl⟩
    · intro g
      have g9 : False := of_decide_eq_false g hen
      cbv
      exact g9.elim
  · intro g
    have g9 : False := of_decide_eq_false g hK
    cbv
    exact g9.elim
set_option maxRecDepth 20000 in
set_option maxHeartbeats 8000000 in
theorem con10_g {b : List UInt8} {b1 b2 b3 tx kt : List UInt8} {a1 a2 a3 : Nat} {e1 f1 e2 f2 e3 f3 K : Int} (hb : b.length < 1000000000000)
    (c36 : Con 36 [.loc 1000 0] [(1000, rdO ⟨b, 0, 0, 0⟩)] (.int .u8 (.s fun _ => K)) [(1000, rdO ⟨b1, a1, e1, f1⟩)])
    (c37 : Con 37 [.loc 1000 0] [(1000, rdO ⟨b1, a1, e1, f1⟩)] (.str fun _ => tx) [(1000, rdO ⟨b2, a2, e2, f2⟩)])
    (c37b : Con 37 [.loc 1000 0] [(1000, rdO ⟨b2, a2, e2, f2⟩)] (.str fun _ => kt) [(1000, rdO ⟨b3, a3, e3, f3⟩)]) (hlen : (b.length : Int) ≤ 8192) (he : e3 = 0)
    (hkl : kt.length < 1000000000) {rv : RowG Val} {rf : RowG Fld} {v : Val} {Y : List UInt8} {L : List Val} {F : List Fld} (c39 : Con 39 [.dat (.bytes fun _ => kt)] [] (.agg [.int .u8 (.s fun _ => v.kind), .bool (.s fun _ => v.bool), .int .i64 (.s fun _ => v.int), .str fun _ => v.text, .dat (.bytes fun _ => Y), .dat (.sl 7 (fun _ => L.length) (rv fun _ => L)), .dat (.sl 8 (fun _ => F.length) (rf fun _ => F))]) []) (hK : ¬ K = 1)
    {en : Int} (c42 : Con 42 [.loc 1000 0] [(1000, rdO ⟨b3, a3, e3, f3⟩)] (.int .u16 (.s fun _ => en)) [(1000, rdO ⟨b3, a3, e3, f3⟩)]) (hen : ¬ en = 0) : Con 10 [.dat (.bytes fun _ => b)] [] (.tup [.agg zeroL, .int .u16 (.l 210)]) [] := by
  refine ⟨specX_of (spec_drop (objs' := [(1002, .dead), (1003, .dead)]) rfl (spec_of_vc_rec2 (E := E4) (S := Con) (fn := Tryz.f10) eok4 raw4 mixed (fun _ _ _ _ _ h => h.spec) [(2, 1002), (3, 1003)] ren23 Tryz.func10 rfl rfl rfl rfl rfl rfl rfl rfl idle33 rfl ?_)) ⟨_, _, Tryz.func10, rfl, rfl⟩ (by decide)⟩
  cbv
  refine ⟨⟨rfl⟩, ?_⟩
  cbv
  refine .inl ⟨_, _, con34 (b := decide ((b.length : Int) ≤ 8192)) (decide_eq_true hlen), ⟨by kernel_rfl⟩, ?_⟩
  cbv
  refine ⟨_, _, con35 hb, ⟨by kernel_rfl⟩, ?_⟩
  cbv
  refine ⟨_, _, c36, ⟨by kernel_rfl⟩, ?_⟩
  cbv
  refine ⟨_, _, c37, ⟨by kernel_rfl⟩, ?_⟩
  cbv
  refine ⟨_, _, c37b, ⟨by kernel_rfl⟩, ?_⟩
  cbv
  refine ⟨_, _, con38, ⟨by kernel_rfl⟩, ?_⟩
  cbv
  refine .inl ⟨_, _, con34 (b := decide (e3 = 0)) (decide_eq_true he), ⟨by kernel_rfl⟩, ?_⟩
  cbv
  refine ⟨⟨(by unfold lenOk; omega : lenOk kt.length 1)⟩, ?_⟩
  refine .inl ⟨_, _, c39, ⟨by kernel_rfl⟩, ?_⟩
  cbv
  refine And.intro ?_ ?_
  · intro g
    have g9 : False := hK (of_decide_eq_true g)
    cbv
    exact g9.elim
  · intro g
    clear g
    cbv
    refine ⟨_, _, c42, ⟨by kernel_rfl⟩, ?_⟩
    cbv
    refine And.intro ?_ ?_
    · intro g
      have g9 : False := hen (of_decide_eq_true g)
      cbv
      exact g9.elim
    · intro g
      clear g
      cbv
      refine .inr ⟨_, _, pan34l, ⟨by kernel_rfl⟩, ?_⟩
      cbv
      refine ⟨⟨rfl⟩, ⟨_, _, rec33, ⟨by kernel_rfl⟩, ?_⟩⟩
      cbv
      refine ⟨[], [], ?_⟩
      cbv
      and_intros
      all_goals first | exact trivial | exact ⟨rfl⟩ | exact ⟨rfl, fun _ _ _ _ => rfl⟩ | exact ⟨by kernel_rfl⟩
set_option maxRecDepth 20000 in
set_option maxHeartbeats 8000000 in
theorem con10_h {b : List UInt8} {b1 b2 b3 tx kt : List UInt8} {a1 a2 a3 : Nat} {e1 f1 e2 f2 e3 f3 K : Int} (hb : b.length < 1000000000000)
    (c36 : Con 36 [.loc 1000 0] [(1000, rdO ⟨b, 0, 0, 0⟩)] (.int .u8 (.s fun _ => K)) [(1000, rdO ⟨b1, a1, e1, f1⟩)])
    (c37 : Con 37 [.loc 1000 0] [(1000, rdO ⟨b1, a1, e1, f1⟩)] (.str fun _ => tx) [(1000, rdO ⟨b2, a2, e2, f2⟩)])
    (c37b : Con 37 [.loc 1000 0] [(1000, rdO ⟨b2, a2, e2, f2⟩)] (.str fun _ => kt) [(1000, rdO ⟨b3, a3, e3, f3⟩)]) (hlen : (b.length : Int) ≤ 8192) (he : e3 = 0)
    (hkl : kt.length < 1000000000) {rv : RowG Val} {rf : RowG Fld} {v : Val} {Y : List UInt8} {L : List Val} {F : List Fld} (c39 : Con 39 [.dat (.bytes fun _ => kt)] [] (.agg [.int .u8 (.s fun _ => v.kind), .bool (.s fun _ => v.bool), .int .i64 (.s fun _ => v.int), .str fun _ => v.text, .dat (.bytes fun _ => Y), .dat (.sl 7 (fun _ => L.length) (rv fun _ => L)), .dat (.sl 8 (fun _ => F.length) (rf fun _ => F))]) []) (hK : ¬ K = 1)
    {en : Int} (c42 : Con 42 [.loc 1000 0] [(1000, rdO ⟨b3, a3, e3, f3⟩)] (.int .u16 (.s fun _ => en)) [(1000, rdO ⟨b3, a3, e3, f3⟩)])
    {mb : Bool} (c25 : Con 25 [.agg [.int .u8 (.s fun _ => K), .str fun _ => tx, .int .u8 (.s fun _ => v.kind), .bool (.s fun _ => v.bool), .int .i64 (.s fun _ => v.int), .str fun _ => v.text, .dat (.bytes fun _ => Y), .dat (.sl 7 (fun _ => L.length) (rv fun _ => L)), .dat (.sl 8 (fun _ => F.length) (rf fun _ => F)), .int .u8 (.l 0), .bool .f, .int .i64 (.l 0), .str fun _ => [], .nil, .nil, .nil]] [] (.bool (.s fun _ => mb)) []) (hen : en = 0) (hm : mb = false) : Con 10 [.dat (.bytes fun _ => b)] [] (.tup [.agg zeroL, .int .u16 (.l 210)]) [] := by
  refine ⟨specX_of (spec_drop (objs' := [(1002, .dead), (1003, .dead)]) rfl (spec_of_vc_rec2 (E := E4) (S := Con) (fn := Tryz.f10) eok4 raw4 mixed (fun _ _ _ _ _ h => h.spec) [(2, 1002), (3, 1003)] ren23 Tryz.func10 rfl rfl rfl rfl rfl rfl rfl rfl idle33 rfl ?_)) ⟨_, _, Tryz.func10, rfl, rfl⟩ (by decide)⟩
  cbv
  refine ⟨⟨rfl⟩, ?_⟩
  cbv
  refine .inl ⟨_, _, con34 (b := decide ((b.length : Int) ≤ 8192)) (decide_eq_true hlen), ⟨by kernel_rfl⟩, ?_⟩
  cbv
  refine ⟨_, _, con35 hb, ⟨by kernel_rfl⟩, ?_⟩
  cbv
  refine ⟨_, _, c36, ⟨by kernel_rfl⟩, ?_⟩
  cbv
  refine ⟨_, _, c37, ⟨by kernel_rfl⟩, ?_⟩
  cbv
  refine ⟨_, _, c37b, ⟨by kernel_rfl⟩, ?_⟩
  cbv
  refine ⟨_, _, con38, ⟨by kernel_rfl⟩, ?_⟩
  cbv
  refine .inl ⟨_, _, con34 (b := decide (e3 = 0)) (decide_eq_true he), ⟨by kernel_rfl⟩, ?_⟩
  cbv
  refine ⟨⟨(by unfold lenOk; omega : lenOk kt.length 1)⟩, ?_⟩
  refine .inl ⟨_, _, c39, ⟨by kernel_rfl⟩, ?_⟩
  cbv
  refine And.intro ?_ ?_
  · intro g
    have g9 : False := hK (of_decide_eq_true g)
    cbv
    exact g9.elim
  · intro g
    clear g
    cbv
    refine ⟨_, _, c42, ⟨by kernel_rfl⟩, ?_⟩
    cbv
    refine And.intro ?_ ?_
    · intro g
      clear g
      cbv
      refine ⟨_, _, c25, ⟨by kernel_rfl⟩, ?_⟩
      cbv
      refine .inr ⟨_, _, pan34 (b := mb) hm, ⟨by kernel_rfl⟩, ?_⟩
      cbv
      refine ⟨⟨rfl⟩, ⟨_, _, rec33, ⟨by kernel_rfl⟩, ?_⟩⟩
      cbv
      refine ⟨[], [], ?_⟩
      cbv
      and_intros
      all_goals first | exact trivial | exact ⟨rfl⟩ | exact ⟨rfl, fun _ _ _ _ => rfl⟩ | exact ⟨by kernel_rfl⟩
    · intro g
      have g9 : False := of_decide_eq_false g hen
      cbv
      exact g9.elim
set_option maxRecDepth 20000 in
set_option maxHeartbeats 8000000 in
theorem con10_i {b : List UInt8} {b1 b2 b3 tx kt : List UInt8} {a1 a2 a3 : Nat} {e1 f1 e2 f2 e3 f3 K : Int} (hb : b.length < 1000000000000)
    (c36 : Con 36 [.loc 1000 0] [(1000, rdO ⟨b, 0, 0, 0⟩)] (.int .u8 (.s fun _ => K)) [(1000, rdO ⟨b1, a1, e1, f1⟩)])
    (c37 : Con 37 [.loc 1000 0] [(1000, rdO ⟨b1, a1, e1, f1⟩)] (.str fun _ => tx) [(1000, rdO ⟨b2, a2, e2, f2⟩)])
    (c37b : Con 37 [.loc 1000 0] [(1000, rdO ⟨b2, a2, e2, f2⟩)] (.str fun _ => kt) [(1000, rdO ⟨b3, a3, e3, f3⟩)]) (hlen : (b.length : Int) ≤ 8192) (he : e3 = 0)
    (hkl : kt.length < 1000000000) {rv : RowG Val} {rf : RowG Fld} {v : Val} {Y : List UInt8} {L : List Val} {F : List Fld} (c39 : Con 39 [.dat (.bytes fun _ => kt)] [] (.agg [.int .u8 (.s fun _ => v.kind), .bool (.s fun _ => v.bool), .int .i64 (.s fun _ => v.int), .str fun _ => v.text, .dat (.bytes fun _ => Y), .dat (.sl 7 (fun _ => L.length) (rv fun _ => L)), .dat (.sl 8 (fun _ => F.length) (rf fun _ => F))]) []) (hK : ¬ K = 1)
    {en : Int} (c42 : Con 42 [.loc 1000 0] [(1000, rdO ⟨b3, a3, e3, f3⟩)] (.int .u16 (.s fun _ => en)) [(1000, rdO ⟨b3, a3, e3, f3⟩)])
    {mb : Bool} (c25 : Con 25 [.agg [.int .u8 (.s fun _ => K), .str fun _ => tx, .int .u8 (.s fun _ => v.kind), .bool (.s fun _ => v.bool), .int .i64 (.s fun _ => v.int), .str fun _ => v.text, .dat (.bytes fun _ => Y), .dat (.sl 7 (fun _ => L.length) (rv fun _ => L)), .dat (.sl 8 (fun _ => F.length) (rf fun _ => F)), .int .u8 (.l 0), .bool .f, .int .i64 (.l 0), .str fun _ => [], .nil, .nil, .nil]] [] (.bool (.s fun _ => mb)) []) (hen : en = 0) (hm : mb = true) : Con 10 [.dat (.bytes fun _ => b)] [] (.tup [.agg [.int .u8 (.s fun _ => K), .str fun _ => tx, .int .u8 (.s fun _ => v.kind), .bool (.s fun _ => v.bool), .int .i64 (.s fun _ => v.int), .str fun _ => v.text, .dat (.bytes fun _ => Y), .dat (.sl 7 (fun _ => L.length) (rv fun _ => L)), .dat (.sl 8 (fun _ => F.length) (rf fun _ => F)), .int .u8 (.l 0), .bool .f, .int .i64 (.l 0), .str fun _ => [], .nil, .nil, .nil], .int .u16 (.l 0)]) [] := by
  refine ⟨specX_of (spec_drop (objs' := [(1002, .dead), (1003, .dead)]) rfl (spec_of_vc_rec2 (E := E4) (S := Con) (fn := Tryz.f10) eok4 raw4 mixed (fun _ _ _ _ _ h => h.spec) [(2, 1002), (3, 1003)] ren23 Tryz.func10 rfl rfl rfl rfl rfl rfl rfl rfl idle33 rfl ?_)) ⟨_, _, Tryz.func10, rfl, rfl⟩ (by decide)⟩
  cbv
  refine ⟨⟨rfl⟩, ?_⟩
  cbv
  refine .inl ⟨_, _, con34 (b := decide ((b.length : Int) ≤ 8192)) (decide_eq_true hlen), ⟨by kernel_rfl⟩, ?_⟩
  cbv
  refine ⟨_, _, con35 hb, ⟨by kernel_rfl⟩, ?_⟩
  cbv
  refine ⟨_, _, c36, ⟨by kernel_rfl⟩, ?_⟩
  cbv
  refine ⟨_, _, c37, ⟨by kernel_rfl⟩, ?_⟩
  cbv
  refine ⟨_, _, c37b, ⟨by kernel_rfl⟩, ?_⟩
  cbv
  refine ⟨_, _, con38, ⟨by kernel_rfl⟩, ?_⟩
  cbv
  refine .inl ⟨_, _, con34 (b := decide (e3 = 0)) (decide_eq_true he), ⟨by kernel_rfl⟩, ?_⟩
  cbv
  refine ⟨⟨(by unfold lenOk; omega : lenOk kt.length 1)⟩, ?_⟩
  refine .inl ⟨_, _, c39, ⟨by kernel_rfl⟩, ?_⟩
  cbv
  refine And.intro ?_ ?_
  · intro g
    have g9 : False := hK (of_decide_eq_true g)
    cbv
    exact g9.elim
  · intro g
    clear g
    cbv
    refine ⟨_, _, c42, ⟨by kernel_rfl⟩, ?_⟩
    cbv
    refine And.intro ?_ ?_
    · intro g
      clear g
      cbv
      refine ⟨_, _, c25, ⟨by kernel_rfl⟩, ?_⟩
      cbv
      refine .inl ⟨_, _, con34 (b := mb) hm, ⟨by kernel_rfl⟩, ?_⟩
      cbv
      refine ⟨[], [], ?_⟩
      cbv
      and_intros
      all_goals first | exact trivial | exact ⟨rfl⟩ | exact ⟨rfl, fun _ _ _ _ => rfl⟩ | exact ⟨by kernel_rfl⟩
    · intro g
      have g9 : False := of_decide_eq_false g hen
      cbv
      exact g9.elim
end Go.Proofs.YtkogbobplhebaaaGreatDoor

/- Events: event.Decode, in one. -/
namespace Go.Proofs.YtkogbobplhebaaaGreatDoor
open Go.SX Go.Ev

theorem eqv_lit {k : IntKind} {n : Int} : Eqv (.int k (.l n)) (.int k (.s fun _ => n)) := fun η G w v h => by simp only [SVRel, IE.den_l, IE.den_s] at h ⊢; exact h
theorem zero_eqvL {rv : RowG Val} {rf : RowG Fld} : EqvL [.int .u8 (.l 0), .bool .f, .int .i64 (.l 0), .str fun _ => [], .nil, .nil, .nil] (valL rv rf zeroV) := by
  refine .cons (fun η G w v h => ?_) (.cons (fun η G w v h => ?_) (.cons (fun η G w v h => ?_) (.cons (fun η G w v h => ?_) (.cons (fun η G w v h => ?_) (.cons (fun η G w v h => ?_) (.cons (fun η G w v h => ?_) .nil))))))
  · simp only [SVRel, IE.den_l, IE.den_s] at h ⊢; exact h
  · simp only [SVRel] at h ⊢; exact h
  · simp only [SVRel, IE.den_l, IE.den_s] at h ⊢; exact h
  · simp only [SVRel] at h ⊢; exact h
  · simp only [SVRel, DVRel] at h ⊢
    exact ⟨none, 0, h, Nat.le_refl _, fun i x hx => by simp [zeroV, Val.bytes] at hx⟩
  · simp only [SVRel, DVRel] at h ⊢
    exact ⟨none, 0, h, Nat.le_refl _, fun i hi => by simp [zeroV, Val.list] at hi⟩
  · simp only [SVRel, DVRel] at h ⊢
    exact ⟨none, 0, h, Nat.le_refl _, fun i hi => by simp [zeroV, Val.fields] at hi⟩
theorem EqvL.app {a a' b b' : List SV} (h : EqvL a a') (k : EqvL b b') : EqvL (a ++ b) (a' ++ b') := by
  intro η G w vs hv
  obtain ⟨v1, v2, rfl, h1, h2⟩ : ∃ v1 v2, vs = v1 ++ v2 ∧ SVRels η G w a v1 ∧ SVRels η G w b v2 := by
    clear h
    induction a generalizing vs with
    | nil => exact ⟨[], vs, rfl, trivial, hv⟩
    | cons s a ih => cases vs with
      | nil => exact hv.elim
      | cons v vs =>
        obtain ⟨v1, v2, h1, h2, h3⟩ := ih vs hv.2
        exact ⟨v :: v1, v2, by rw [h1]; rfl, ⟨hv.1, h2⟩, h3⟩
  have h3 := h η G w v1 h1
  have h4 := k η G w v2 h2
  clear hv h h1 h2
  induction a' generalizing v1 with
  | nil => cases v1 with
    | nil => exact h4
    | cons v vs => exact h3.elim
  | cons s a' ih => cases v1 with
    | nil => exact h3.elim
    | cons v v1 => exact ⟨h3.1, ih v1 h3.2⟩
theorem EqvL.refl : ∀ (l : List SV), EqvL l l := fun _ _ _ _ _ h => h

def zeroE : Evt := ⟨0, [], zeroV, zeroV⟩
noncomputable def decEvE (b : List UInt8) : Evt := (decEv b).getD zeroE
noncomputable def decEvC (b : List UInt8) : Int := if (decEv b).isSome then 0 else 210
theorem con10_no {b : List UInt8} (h : decEv b = none) (c : Con 10 [.dat (.bytes fun _ => b)] [] (.tup [.agg zeroL, .int .u16 (.l 210)]) []) : Con 10 [.dat (.bytes fun _ => b)] [] (.tup [evSV 10 (decEvE b), .int .u16 (.s fun _ => decEvC b)]) [] := by
  have e1 : decEvE b = zeroE := by unfold decEvE; rw [h]; rfl
  have e2 : decEvC b = 210 := by unfold decEvC; rw [h]; rfl
  rw [e1, e2]
  refine c.res (Eqv.tup (.cons ?_ (.cons eqv_lit .nil)))
  exact Eqv.agg (.cons eqv_lit (.cons (Eqv.refl _) (EqvL.app (zero_eqvL (rv := (rowsG 10).1) (rf := (rowsG 10).2)) zero_eqvL)))
theorem con10_yes {b : List UInt8} {e : Evt} (h : decEv b = some e) {l : List SV} (hl : EqvL l (.int .u8 (.s fun _ => e.kind) :: .str (fun _ => e.coll) :: (valL (rowsG 10).1 (rowsG 10).2 e.key ++ valL (rowsG 10).1 (rowsG 10).2 e.doc))) (c : Con 10 [.dat (.bytes fun _ => b)] [] (.tup [.agg l, .int .u16 (.l 0)]) []) : Con 10 [.dat (.bytes fun _ => b)] [] (.tup [evSV 10 (decEvE b), .int .u16 (.s fun _ => decEvC b)]) [] := by
  have e1 : decEvE b = e := by unfold decEvE; rw [h]; rfl
  have e2 : decEvC b = 0 := by unfold decEvC; rw [h]; rfl
  rw [e1, e2]
  exact c.res (Eqv.tup (.cons (Eqv.agg hl) (.cons eqv_lit .nil)))

/-- What is known of a value that is read. -/
theorem decV_all {b : List UInt8} {v : Val} (h : decV b = some v) : b = docB v ∧ b.length ≤ 8192 ∧ checkE v = 0 ∧ v.All Go.Ev.Own ∧ v.depth ≤ 9 ∧ v.All Sml ∧ v.All Sane ∧ (keyV v).length < 100000000000 := by
  unfold decV at h
  split at h
  · cases h
  · rename_i hl
    split at h
    · rename_i v' hr
      split at h
      · rename_i hc
        cases h
        obtain ⟨e, o, d, s1, s2⟩ := rd_all hr (by omega)
        rw [List.append_nil] at e
        have := key_len v
        exact ⟨e, by omega, hc, o, d, s1, s2, by rw [← e] at this; omega⟩
      · cases h
    · cases h
theorem zero_sane : Sane zeroV := ⟨sml_fits zero_sml, by decide, by decide, by decide⟩
theorem con10_go {b : List UInt8} (hlen : b.length ≤ 8192) {s1 s2 s3 : RS} {kb : UInt8} {tx kt : List UInt8} (h1 : u8S ⟨b, 0, 0, 0⟩ = (s1, kb)) (h2 : textS s1 = (s2, tx)) (h3 : textS s2 = (s3, kt)) :
    Con 10 [.dat (.bytes fun _ => b)] [] (.tup [evSV 10 (decEvE b), .int .u16 (.s fun _ => decEvC b)]) [] := by
  have hb : b.length < 1000000000000 := by omega
  have hl : (b.length : Int) ≤ 8192 := by omega
  have ok0 : RS.Ok ⟨b, 0, 0, 0⟩ := ⟨Nat.zero_le _, by show b.length < _; omega⟩
  have ok1 : s1.Ok := by have := (goes_u8 ok0).1.ok; rw [h1] at this; exact this
  have ok2 : s2.Ok := by have := (goes_text ok1).ok; rw [h2] at this; exact this
  have ok3 : s3.Ok := by have := (goes_text ok2).ok; rw [h3] at this; exact this
  have tl : tx.length < 1000000000 := by have := text_len ok1; rw [h2] at this; exact this
  have kl : kt.length < 1000000000 := by have := text_len ok2; rw [h3] at this; exact this
  have c36 := con36 ok0
  rw [h1] at c36
  have c37 := con37 ok1
  rw [h2] at c37
  have c37b := con37 ok2
  rw [h3] at c37b
  have r1 : rd1 b = (s1, kb) := h1
  have r2 : rd2 b = (s2, tx) := by unfold rd2; rw [r1]; exact h2
  have r3 : rd3 b = (s3, kt) := by unfold rd3; rw [r2]; exact h3
  have law := decEv_law hlen
  rw [r1, r2, r3] at law
  simp only at law
  obtain ⟨b1, a1, e1, f1⟩ := s1
  obtain ⟨b2, a2, e2, f2⟩ := s2
  rcases law with ⟨her, hno⟩ | ⟨r2, hAt, hsb, hev⟩
  · obtain ⟨b3, a3, e3, f3⟩ := s3
    exact con10_no hno (con10_b hb c36 c37 c37b hl her)
  · cases hv : decV kt with
    | none =>
      rw [hv] at hev
      have he := hAt.er
      obtain ⟨b3, a3, e3, f3⟩ := s3
      exact con10_no hev (con10_c hb c36 c37 c37b hl he kl hv)
    | some v =>
      rw [hv] at hev
      simp only at hev
      obtain ⟨_, _, _, _, vd, vs, vn, vk⟩ := decV_all hv
      have c39 := con39 kl hv
      have he := hAt.er
      by_cases hk : kb = 1
      · rw [if_pos hk] at hev
        have hK : (kb.toNat : Int) = 1 := by rw [hk]; rfl
        obtain ⟨s4, q1, q2, q3⟩ := at_rest hAt
        have rl : r2.length ≤ 8192 := by rw [hAt.len, hsb]; omega
        have c41 := con41 ok3
        have c40 := con40 (n := (s3.b.length : Int) - s3.at_) ok3 (by have := ok3.sm; omega)
        rw [q1] at c40
        have c42 := con42 (s := s4)
        have hen := (end_at q2).2 rfl
        obtain ⟨b3, a3, e3, f3⟩ := s3
        obtain ⟨b4, a4, e4, f4⟩ := s4
        cases hd : decV r2 with
        | none =>
          rw [hd] at hev
          exact con10_no hev (con10_d (bR := r2) hb c36 c37 c37b hl he kl c39 hK c41 c40 (by omega) hd)
        | some v2 =>
          rw [hd] at hev
          simp only at hev
          obtain ⟨_, _, _, _, dd, ds, dn, dk⟩ := decV_all hd
          have c39b := con39 (b := r2) (by omega) hd
          have c25 := con25 (d := 9) (e := ⟨(kb.toNat : Int), tx, v, v2⟩) (by decide) (by show v.depth ≤ _; omega) (by show v2.depth ≤ _; omega) vn vs ds (by decide) vk tl
          have eE : (⟨(kb.toNat : Int), tx, v, v2⟩ : Evt) = ⟨1, tx, v, v2⟩ := by rw [hK]
          cases hm : mayB ⟨(kb.toNat : Int), tx, v, v2⟩ with
          | false =>
            refine con10_no ?_ (con10_e hb c36 c37 c37b hl he kl c39 hK c41 c40 c39b c42 c25 hen hm)
            rw [hev]; unfold mayO; rw [← eE, hm]; rfl
          | true =>
            refine con10_yes (e := ⟨(kb.toNat : Int), tx, v, v2⟩) ?_ (EqvL.refl _) (con10_f hb c36 c37 c37b hl he kl c39 hK c41 c40 c39b c42 c25 hen hm)
            rw [hev]; unfold mayO; rw [← eE, hm]; rfl
      · rw [if_neg hk] at hev
        have hK : ¬ (kb.toNat : Int) = 1 := fun h => hk (UInt8.toNat_inj.1 (by show kb.toNat = 1; omega))
        have c42 := con42 (s := s3)
        have hen := end_at hAt
        obtain ⟨b3, a3, e3, f3⟩ := s3
        by_cases hr : r2 = []
        · rw [if_pos hr] at hev
          have hen := hen.2 hr
          have c25 := (con25 (d := 9) (e := ⟨(kb.toNat : Int), tx, v, zeroV⟩) (by decide) (by show v.depth ≤ _; omega) (by show zeroV.depth ≤ _; decide) vn vs (zero_all zero_sml) (by decide) vk tl).args
            (svs' := [.agg (.int .u8 (.s fun _ => (kb.toNat : Int)) :: .str (fun _ => tx) :: (valL (rowsG 10).1 (rowsG 10).2 v ++ [.int .u8 (.l 0), .bool .f, .int .i64 (.l 0), .str fun _ => [], .nil, .nil, .nil]))])
            (EqvL.cons (Eqv.agg (.cons (Eqv.refl _) (.cons (Eqv.refl _) (EqvL.app (EqvL.refl _) zero_eqvL)))) .nil)
          cases hm : mayB ⟨(kb.toNat : Int), tx, v, zeroV⟩ with
          | false =>
            refine con10_no ?_ (con10_h hb c36 c37 c37b hl he kl c39 hK c42 c25 hen hm)
            rw [hev]; unfold mayO; rw [hm]; rfl
          | true =>
            refine con10_yes (e := ⟨(kb.toNat : Int), tx, v, zeroV⟩) ?_ (.cons (Eqv.refl _) (.cons (Eqv.refl _) (EqvL.app (EqvL.refl _) zero_eqvL))) (con10_i hb c36 c37 c37b hl he kl c39 hK c42 c25 hen hm)
            rw [hev]; unfold mayO; rw [hm]; rfl
        · rw [if_neg hr] at hev
          exact con10_no hev (con10_g hb c36 c37 c37b hl he kl c39 hK c42 fun h => hr (hen.1 h))
/-- event.Decode. -/
theorem con10 {b : List UInt8} : Con 10 [.dat (.bytes fun _ => b)] [] (.tup [evSV 10 (decEvE b), .int .u16 (.s fun _ => decEvC b)]) [] := by
  by_cases hlen : b.length ≤ 8192
  · exact con10_go hlen rfl rfl rfl
  · exact con10_no (decEv_long (by omega)) (con10_a (by omega))
end Go.Proofs.YtkogbobplhebaaaGreatDoor

/- Events: doc.Encode, wide, Encode. -/
namespace Go.SX
/-- Bytes made: each is zero. -/
theorem raw_zeros {P : Program} {T e n : Nat} {i : TypeInfo} (ht : P.underlying T = some (.slice e)) (hi : P.info? e = some i) (hz : i.zero = some (.int .u8 0)) (hsz : i.size = 1) (hb : i.bytes = 1) (hn : n ≤ 1000000) :
    SpecG P (rawC 7 T) [.int .i64 (.l (n : Int)), .int .i64 (.l (n : Int))] [] Unit (fun _ => .own 2000) (fun _ => [(2000, .barr e fun _ => List.replicate n 0)]) := by
  intro η G vs w hsep hob hs htab
  match vs, hs with
  | [v0, v1], hs =>
    simp only [SVRels, SVRel, IE.den_l] at hs
    obtain ⟨rfl, rfl, -⟩ := hs
    unfold RunsX
    rw [rawSem_rawC (by omega)]
    have hr := run_make (P := P) w T e i (.int .u8 0) ht hi hz .i64 .i64 n n (by omega) (Int.le_refl _) (by rw [hb]; omega) (by omega)
    refine ⟨_, _, hr, (), ?_⟩
    simp only [Int.toNat_natCast]
    refine raw_own (objs := []) (w' := w.alloc (.cells (madeCells (Value.int .u8 0).cells (n * i.size)) e)) (o := ⟨.slice (some ⟨w.heap.size, 0, none⟩) n n, [w.heap.size], [], false⟩) (by simp [namesOf]) hsep hob htab
      ⟨rfl, rfl, rfl, by simp, fun b hb _ => old_alloc w _ _ hb, fun b hb => by simp at hb; subst hb; exact ⟨by simp, .inl (Nat.le_refl _)⟩, by simp⟩ rfl ?_
    refine ⟨rfl, rfl, .inr ⟨w.heap.size, n, madeCells (Value.int .u8 0).cells (n * i.size), (e, 0, 0), ?_, rfl, World.alloc_heap_new w _, ⟨⟨fun _ => by rw [size_madeCells, hsz], by rw [size_madeCells, hsz]; exact Nat.le_refl _⟩, .inr rfl⟩, ?_, ?_, ?_⟩⟩
    · simp
    · simp
    · unfold maxLen; omega
    · intro j x hx
      have hj : j < n := by
        have := (List.getElem?_eq_some_iff.1 hx).1
        simpa using this
      have hx0 : x = 0 := by
        rw [List.getElem?_replicate, if_pos hj] at hx; exact (Option.some.inj hx).symm
      subst hx0
      simp [madeCells, hsz, hj, Value.cells, Nat.mod_one]
  | [], h => exact h.elim
  | [_], h => exact h.2.elim
  | _ :: _ :: _ :: _, h => exact h.2.2.elim
end Go.SX
namespace Go.Proofs.YtkogbobplhebaaaGreatDoor
open Go.SX Go.Ev

set_option maxRecDepth 20000 in
set_option maxHeartbeats 1000000 in
theorem con31o {bs : List UInt8} : Con 31 [.loc 1000 0] (wIn bs) (.int .i64 (.s fun _ => (bs.length : Int))) (wIn bs) := by
  refine con_of Tryz.func31 rfl rfl 8 _ rfl rfl rfl rfl ?_
  cbv
  refine ⟨[], [], ?_⟩
  cbv
  and_intros
  all_goals first | exact trivial | exact ⟨rfl⟩ | exact ⟨by kernel_rfl⟩
set_option maxRecDepth 20000 in
set_option maxHeartbeats 1000000 in
theorem con32o {bs : List UInt8} (hl : bs.length < 1000000000000) : Con 32 [.loc 1000 0] (wIn bs) (.own 2000) [(1000, .cells 141 [.own 1001]), (1001, .barr 5 fun _ => bs), (2000, clipT bs)] := by
  refine con_of Tryz.func32 rfl rfl 9 _ rfl rfl rfl rfl ?_
  cbv
  refine ⟨_, _, con89 hl, ⟨by kernel_rfl⟩, ?_⟩
  cbv
  refine ⟨_, _, con88, ⟨by kernel_rfl⟩, ?_⟩
  cbv
  refine ⟨[(2000, some 3800)], [], ?_⟩
  cbv
  and_intros
  all_goals first | exact trivial | exact ⟨rfl⟩ | exact ⟨rfl, fun _ _ _ h => h⟩ | exact ⟨by kernel_rfl⟩

def docE (v : Val) : Int := if checkE v ≠ 0 then checkE v else if 8192 < (docB v).length then 51 else 0
def docR (v : Val) : List UInt8 := if docE v = 0 then docB v else []
set_option maxRecDepth 20000 in
set_option maxHeartbeats 4000000 in
/-- doc.Encode. -/
theorem con87 {d : Nat} {v : Val} (hd : v.depth ≤ d) (hv : v.All Sane) (hs : v.All Sml) (hdn : d < 100000) (hl : (docB v).length < 10000000000) :
    Con 87 [valSV d v] [] (.tup [.dat (.bytes fun _ => docR v), .int .u16 (.s fun _ => docE v)]) [] := by
  have c84 := con84 hd hs hdn
  have c132 := con132 d v [] hd hv (by rw [List.length_nil]; omega)
  rw [List.nil_append] at c132
  obtain ⟨e, he⟩ : ∃ q, q = docE v := ⟨_, rfl⟩
  obtain ⟨r, hr⟩ : ∃ q, q = docR v := ⟨_, rfl⟩
  rw [← he, ← hr]
  unfold docR at hr
  rw [← he] at hr
  unfold docE at he
  obtain ⟨ce, hce⟩ : ∃ q, q = checkE v := ⟨_, rfl⟩
  obtain ⟨db, hdb⟩ : ∃ q, q = docB v := ⟨_, rfl⟩
  rw [← hce, ← hdb] at he
  rw [← hdb] at hr c132 hl
  rw [← hce] at c84
  have c31 := con31o (bs := db)
  have c32 := con32o (bs := db) (by omega)
  have c26 := con26
  have k1 : ¬ ce = 0 → e = ce ∧ r = [] := fun h => by
    rw [if_pos h] at he
    exact ⟨he, by rw [hr, he, if_neg h]⟩
  have k2 : ce = 0 → (8192 : Int) < (db.length : Int) → e = 51 ∧ r = [] := fun h h2 => by
    rw [if_neg (fun h' => h' h), if_pos (by omega)] at he
    exact ⟨he, by rw [hr, he, if_neg (by decide)]⟩
  have k3 : ce = 0 → ¬ (8192 : Int) < (db.length : Int) → e = 0 ∧ r = db := fun h h2 => by
    rw [if_neg (fun h' => h' h), if_neg (by omega)] at he
    exact ⟨he, by rw [hr, if_pos he]⟩
  unfold valSV at c84 c132 ⊢
  obtain ⟨rv, hrv⟩ : ∃ q, q = (rowsG d).1 := ⟨_, rfl⟩
  obtain ⟨rf, hrf⟩ : ∃ q, q = (rowsG d).2 := ⟨_, rfl⟩
  rw [← hrv, ← hrf] at c84 c132 ⊢
  obtain ⟨Y, hY⟩ : ∃ Y, Y = v.bytes := ⟨_, rfl⟩
  obtain ⟨L, hL⟩ : ∃ L, L = v.list := ⟨_, rfl⟩
  obtain ⟨F, hF⟩ : ∃ F, F = v.fields := ⟨_, rfl⟩
  unfold valG at c84 c132 ⊢
  rw [← hY, ← hL, ← hF] at c84 c132 ⊢
  clear hrv hrf hce hdb hr he
  refine con_of Tryz.func87 rfl rfl 20 _ rfl rfl rfl rfl ?_
  cbv
  refine ⟨_, _, c84, ⟨by kernel_rfl⟩, ?_⟩
  cbv
  iterate 4 (all_goals try (refine And.intro ?_ ?_ <;> (intro g; (try (replace g := of_decide_eq_true g)); (try (replace g := of_decide_eq_false g)); (try (replace g := of_decide_eq_false (bnot_t g))); (try (replace g := of_decide_eq_true (bnot_f g))); (try (replace g : mb = false := bnot_t g)); (try (replace g : mb = true := bnot_f g)); (try (simp only [IE.den_l, IE.den_s] at g)); cbv)))
  · obtain ⟨e1, e2⟩ := k1 g
    subst e1 e2
    refine ⟨[], [], ?_⟩
    cbv
    and_intros
    all_goals first | exact trivial | exact ⟨rfl⟩ | exact ⟨rfl, fun _ _ _ h => h⟩ | exact ⟨by kernel_rfl⟩
  refine ⟨_, _, c26, ⟨by kernel_rfl⟩, ?_⟩
  cbv
  refine ⟨_, _, c132, ⟨by kernel_rfl⟩, ?_⟩
  cbv
  refine ⟨_, _, c31, ⟨by kernel_rfl⟩, ?_⟩
  cbv
  iterate 4 (all_goals try (refine And.intro ?_ ?_ <;> (intro g; (try (replace g := of_decide_eq_true g)); (try (replace g := of_decide_eq_false g)); (try (replace g := of_decide_eq_false (bnot_t g))); (try (replace g := of_decide_eq_true (bnot_f g))); (try (replace g : mb = false := bnot_t g)); (try (replace g : mb = true := bnot_f g)); (try (simp only [IE.den_l, IE.den_s] at g)); cbv)))
  · rename_i g0
    obtain ⟨e1, e2⟩ := k2 g0 g
    subst e1 e2
    refine ⟨[], [], ?_⟩
    cbv
    and_intros
    all_goals first | exact trivial | exact ⟨rfl⟩ | exact ⟨rfl, fun _ _ _ h => h⟩ | exact ⟨by kernel_rfl⟩
  · rename_i g0
    obtain ⟨e1, e2⟩ := k3 g0 g
    subst e1 e2
    refine ⟨_, _, c32, ⟨by kernel_rfl⟩, ?_⟩
    cbv
    refine ⟨[], [4900], ?_⟩
    cbv
    and_intros
    all_goals first | exact trivial | exact ⟨rfl⟩ | exact ⟨rfl, fun _ _ _ h => h⟩ | exact ⟨by kernel_rfl⟩

theorem r7 : ConG (rawC 7 23) [.int .i64 (.l 8193), .int .i64 (.l 8193)] [] Unit (fun _ => .own 2000) (fun _ => [(2000, .barr 5 fun _ => List.replicate 8193 0)]) := by
  have h5 := info5
  cases hi : Tryz.prog.info? 5 with
  | none => rw [hi] at h5; cases h5
  | some i =>
    rw [hi] at h5
    simp only [Option.map_some, Option.some.injEq, Prod.mk.injEq] at h5
    exact ⟨raw_zeros (n := 8193) Tryz.underlying23 hi h5.2.2 h5.1 h5.2.1 (by decide)⟩
def wideB (v : Val) : List UInt8 := if docE v = 0 then docB v else List.replicate 8193 0
set_option maxRecDepth 20000 in
set_option maxHeartbeats 4000000 in
/-- event.wide. -/
theorem con29 {d : Nat} {v : Val} (hd : v.depth ≤ d) (hv : v.All Sane) (hs : v.All Sml) (hdn : d < 100000) (hl : (docB v).length < 10000000000) :
    Con 29 [valSV d v] [] (.dat (.bytes fun _ => wideB v)) [] := by
  have c87 := con87 hd hv hs hdn hl
  unfold docR at c87
  obtain ⟨w, hw⟩ : ∃ q, q = wideB v := ⟨_, rfl⟩
  rw [← hw]
  unfold wideB at hw
  obtain ⟨e, he⟩ : ∃ q, q = docE v := ⟨_, rfl⟩
  obtain ⟨db, hdb⟩ : ∃ q, q = docB v := ⟨_, rfl⟩
  rw [← he, ← hdb] at hw c87
  obtain ⟨r, hr⟩ : ∃ q, q = if e = 0 then db else [] := ⟨_, rfl⟩
  rw [← hr] at c87
  have k1 : e = 0 → r = w := fun h => by rw [hr, hw, if_pos h, if_pos h]
  have k2 : ¬ e = 0 → List.replicate 8193 0 = w := fun h => by rw [hw, if_neg h]
  unfold valSV at c87 ⊢
  obtain ⟨rv, hrv⟩ : ∃ q, q = (rowsG d).1 := ⟨_, rfl⟩
  obtain ⟨rf, hrf⟩ : ∃ q, q = (rowsG d).2 := ⟨_, rfl⟩
  rw [← hrv, ← hrf] at c87 ⊢
  obtain ⟨Y, hY⟩ : ∃ Y, Y = v.bytes := ⟨_, rfl⟩
  obtain ⟨L, hL⟩ : ∃ L, L = v.list := ⟨_, rfl⟩
  obtain ⟨F, hF⟩ : ∃ F, F = v.fields := ⟨_, rfl⟩
  unfold valG at c87 ⊢
  rw [← hY, ← hL, ← hF] at c87 ⊢
  clear hrv hrf hdb hr he hw
  refine con_of Tryz.func29 rfl rfl 14 _ rfl rfl rfl rfl ?_
  cbv
  refine ⟨_, _, c87, ⟨by kernel_rfl⟩, ?_⟩
  cbv
  iterate 4 (all_goals try (refine And.intro ?_ ?_ <;> (intro g; (try (replace g := of_decide_eq_true g)); (try (replace g := of_decide_eq_false g)); (try (replace g := of_decide_eq_false (bnot_t g))); (try (replace g := of_decide_eq_true (bnot_f g))); (try (replace g : mb = false := bnot_t g)); (try (replace g : mb = true := bnot_f g)); (try (simp only [IE.den_l, IE.den_s] at g)); cbv)))
  · have e1 := k1 g
    refine ⟨[], [], ?_⟩
    cbv
    and_intros
    all_goals first | exact trivial | exact ⟨e1⟩ | exact ⟨rfl⟩ | exact ⟨rfl, fun _ _ _ h => h⟩ | exact ⟨by kernel_rfl⟩
  · have e1 := k2 g
    obtain ⟨zs, hzs⟩ : ∃ q : List UInt8, q = List.replicate 8193 0 := ⟨_, rfl⟩
    have r7 := r7
    rw [← hzs] at e1 r7
    refine ⟨Unit, _, _, r7, ⟨by kernel_rfl⟩, fun _ => ⟨⟨by kernel_rfl⟩, ?_⟩⟩
    cbv
    refine ⟨[], [4300], ?_⟩
    cbv
    and_intros
    all_goals first | exact trivial | exact ⟨e1⟩ | exact ⟨rfl⟩ | exact ⟨rfl, fun _ _ _ h => h⟩ | exact ⟨by kernel_rfl⟩

end Go.Proofs.YtkogbobplhebaaaGreatDoor

/- Events: Encode. -/
namespace Go.Proofs.YtkogbobplhebaaaGreatDoor
open Go.SX Go.Ev

theorem con27z {bs b1 : List UInt8} {z : Int} (hb : b1 = bs ++ [toB z]) (hz : 0 ≤ z ∧ z < 256) (hl : bs.length < 1000000000000) : Con 27 [.loc 1000 0, .int .u8 (.s fun _ => z)] (wIn bs) (.tup []) (wOut b1) := by
  subst hb
  have h := con27 (bs := bs) (n := z.toNat) (by omega) hl
  have e : ((z.toNat : Nat) : Int) = z := by omega
  rw [e] at h
  exact h
theorem con30m {bs xs b1 : List UInt8} (hb : b1 = bs ++ xs) (hl : bs.length + xs.length < 1000000000000) : Con 30 [.loc 1000 0, .dat (.bytes fun _ => xs)] (wIn bs) (.tup []) (wOut b1) := by
  subst hb; exact con30 hl
/-- An event's bytes. -/
def evB (e : Evt) : List UInt8 := (([toB e.kind] ++ txt e.coll) ++ txt (wideB e.key)) ++ (if e.kind = 1 then wideB e.doc else [])
noncomputable def encE (e : Evt) : Int := if mayB e = false then 210 else if 8192 < (evB e).length then 51 else 0
noncomputable def encR (e : Evt) : List UInt8 := if encE e = 0 then evB e else []
theorem txt_le {s : List UInt8} (h : s.length < 1000000000000) : (txt s).length ≤ s.length + 10 := by
  have hvl := vEnc_len 9 s.length (by omega)
  unfold txt; rw [List.length_append]; omega

set_option maxRecDepth 20000 in
set_option maxHeartbeats 8000000 in
theorem con9s {rv : RowG Val} {rf : RowG Fld} {e : Evt} {mb : Bool} {wk wd : List UInt8} {ec : Int} {er : List UInt8} (hkd : 0 ≤ e.kind ∧ e.kind < 256) (hcl : e.coll.length < 10000000000) (hwk : wk.length < 100000000000) (hwk' : wk.length < 90000000000) (hwd : wd.length < 100000000000)
    (hec : ec = if mb = false then 210 else if 8192 < ((([toB e.kind] ++ txt e.coll) ++ txt wk) ++ (if e.kind = 1 then wd else [])).length then 51 else 0)
    (her : er = if ec = 0 then ((([toB e.kind] ++ txt e.coll) ++ txt wk) ++ (if e.kind = 1 then wd else [])) else [])
    (c25 : Con 25 [evG rv rf e] [] (.bool (.s fun _ => mb)) [])
    (c29k : Con 29 [valG rv rf e.key] [] (.dat (.bytes fun _ => wk)) []) (c29d : Con 29 [valG rv rf e.doc] [] (.dat (.bytes fun _ => wd)) []) :
    Con 9 [evG rv rf e] [] (.tup [.dat (.bytes fun _ => er), .int .u16 (.s fun _ => ec)]) [] := by
  obtain ⟨kd, cl, ky, dc⟩ := e
  have hkd : 0 ≤ kd ∧ kd < 256 := hkd
  have hcl : cl.length < 10000000000 := hcl
  have hec : ec = if mb = false then 210 else if 8192 < ((([toB kd] ++ txt cl) ++ txt wk) ++ (if kd = 1 then wd else [])).length then 51 else 0 := hec
  have her : er = if ec = 0 then ((([toB kd] ++ txt cl) ++ txt wk) ++ (if kd = 1 then wd else [])) else [] := her
  have c29k : Con 29 [valG rv rf ky] [] (.dat (.bytes fun _ => wk)) [] := c29k
  have c29d : Con 29 [valG rv rf dc] [] (.dat (.bytes fun _ => wd)) [] := c29d
  have t1 := txt_le (s := cl) (by omega)
  have t2 := txt_le (s := wk) (by omega)
  obtain ⟨b1, hb1⟩ : ∃ b, b = [] ++ [toB kd] := ⟨_, rfl⟩
  obtain ⟨b2, hb2⟩ : ∃ b, b = b1 ++ txt cl := ⟨_, rfl⟩
  obtain ⟨b3, hb3⟩ : ∃ b, b = b2 ++ txt wk := ⟨_, rfl⟩
  obtain ⟨b4, hb4⟩ : ∃ b, b = b3 ++ wd := ⟨_, rfl⟩
  have l1 : b1.length = 1 := by rw [hb1]; rfl
  have l2 : b2.length = 1 + (txt cl).length := by rw [hb2, List.length_append, l1]
  have l3 : b3.length = 1 + (txt cl).length + (txt wk).length := by rw [hb3, List.length_append, l2]
  have l4 : b4.length = 1 + (txt cl).length + (txt wk).length + wd.length := by rw [hb4, List.length_append, l3]
  have c26 := con26
  have c27 := con27z hb1 hkd (by simp)
  have c28 := con28m hb2 (by omega) (by omega)
  have c28b := con28m hb3 (by omega) (by omega)
  have c30 := con30m hb4 (by omega)
  have eY : kd = 1 → ((([toB kd] ++ txt cl) ++ txt wk) ++ (if kd = 1 then wd else [])) = b4 := fun h => by rw [if_pos h, hb4, hb3, hb2, hb1]; rfl
  have eN : ¬ kd = 1 → ((([toB kd] ++ txt cl) ++ txt wk) ++ (if kd = 1 then wd else [])) = b3 := fun h => by rw [if_neg h, hb3, hb2, hb1, List.append_nil]; rfl
  clear hb1 hb2 hb3 hb4
  obtain ⟨B, hB⟩ : ∃ B, B = ((([toB kd] ++ txt cl) ++ txt wk) ++ (if kd = 1 then wd else [])) := ⟨_, rfl⟩
  rw [← hB] at hec her eY eN
  clear hB
  have k0 : mb = false → ec = 210 ∧ er = [] := fun h => by
    rw [if_pos h] at hec
    exact ⟨hec, by rw [her, hec, if_neg (by decide)]⟩
  have k1 : mb = true → (8192 : Int) < (B.length : Int) → ec = 51 ∧ er = [] := fun h h2 => by
    rw [if_neg (by rw [h]; decide), if_pos (by omega)] at hec
    exact ⟨hec, by rw [her, hec, if_neg (by decide)]⟩
  have k2 : mb = true → ¬ (8192 : Int) < (B.length : Int) → ec = 0 ∧ er = B := fun h h2 => by
    rw [if_neg (by rw [h]; decide), if_neg (by omega)] at hec
    exact ⟨hec, by rw [her, if_pos hec]⟩
  clear hec her
  obtain ⟨Y, hY⟩ : ∃ Y, Y = ky.bytes := ⟨_, rfl⟩
  obtain ⟨L, hL⟩ : ∃ L, L = ky.list := ⟨_, rfl⟩
  obtain ⟨F, hF⟩ : ∃ F, F = ky.fields := ⟨_, rfl⟩
  obtain ⟨Y2, hY2⟩ : ∃ Y, Y = dc.bytes := ⟨_, rfl⟩
  obtain ⟨L2, hL2⟩ : ∃ L, L = dc.list := ⟨_, rfl⟩
  obtain ⟨F2, hF2⟩ : ∃ F, F = dc.fields := ⟨_, rfl⟩
  refine con_of Tryz.func9 rfl rfl 36 _ rfl rfl rfl rfl ?_
  unfold valG at c29k c29d
  rw [← hY2, ← hL2, ← hF2] at c29d
  rw [← hY, ← hL, ← hF] at c29k
  show FnVC Con E _ _ _ [SV.agg (SV.int .u8 (.s fun _ => kd) :: SV.str (fun _ => cl) :: ([.int .u8 (.s fun _ => ky.kind), .bool (.s fun _ => ky.bool), .int .i64 (.s fun _ => ky.int), .str fun _ => ky.text, .dat (.bytes fun _ => ky.bytes), .dat (.sl 7 (fun _ => ky.list.length) (rv fun _ => ky.list)), .dat (.sl 8 (fun _ => ky.fields.length) (rf fun _ => ky.fields))] ++ [.int .u8 (.s fun _ => dc.kind), .bool (.s fun _ => dc.bool), .int .i64 (.s fun _ => dc.int), .str fun _ => dc.text, .dat (.bytes fun _ => dc.bytes), .dat (.sl 7 (fun _ => dc.list.length) (rv fun _ => dc.list)), .dat (.sl 8 (fun _ => dc.fields.length) (rf fun _ => dc.fields))]))] [] _ []
  have c25 : Con 25 [SV.agg (SV.int .u8 (.s fun _ => kd) :: SV.str (fun _ => cl) :: ([.int .u8 (.s fun _ => ky.kind), .bool (.s fun _ => ky.bool), .int .i64 (.s fun _ => ky.int), .str fun _ => ky.text, .dat (.bytes fun _ => ky.bytes), .dat (.sl 7 (fun _ => ky.list.length) (rv fun _ => ky.list)), .dat (.sl 8 (fun _ => ky.fields.length) (rf fun _ => ky.fields))] ++ [.int .u8 (.s fun _ => dc.kind), .bool (.s fun _ => dc.bool), .int .i64 (.s fun _ => dc.int), .str fun _ => dc.text, .dat (.bytes fun _ => dc.bytes), .dat (.sl 7 (fun _ => dc.list.length) (rv fun _ => dc.list)), .dat (.sl 8 (fun _ => dc.fields.length) (rf fun _ => dc.fields))]))] [] (.bool (.s fun _ => mb)) [] := c25
  rw [← hY, ← hL, ← hF, ← hY2, ← hL2, ← hF2] at c25 ⊢
  simp only [List.cons_append, List.nil_append] at c25
  clear hY hL hF hY2 hL2 hF2
  cbv
  refine ⟨_, _, c25, ⟨by kernel_rfl⟩, ?_⟩
  cbv
  iterate 4 (all_goals try (refine And.intro ?_ ?_ <;> (intro g; (try (replace g := of_decide_eq_true g)); (try (replace g := of_decide_eq_false g)); (try (replace g := of_decide_eq_false (bnot_t g))); (try (replace g := of_decide_eq_true (bnot_f g))); (try (replace g : mb = false := bnot_t g)); (try (replace g : mb = true := bnot_f g)); (try (simp only [IE.den_l, IE.den_s] at g)); cbv)))
  · obtain ⟨e1, e2⟩ := k0 g
    subst e1 e2
    refine ⟨[], [], ?_⟩
    cbv
    and_intros
    all_goals first | exact trivial | exact ⟨rfl⟩ | exact ⟨rfl, fun _ _ _ h => h⟩ | exact ⟨by kernel_rfl⟩
  have gm : mb = true := g
  clear g
  refine ⟨_, _, c26, ⟨by kernel_rfl⟩, ?_⟩
  cbv
  refine ⟨_, _, c27, ⟨by kernel_rfl⟩, ?_⟩
  cbv
  refine ⟨_, _, c28, ⟨by kernel_rfl⟩, ?_⟩
  cbv
  refine ⟨_, _, c29k, ⟨by kernel_rfl⟩, ?_⟩
  cbv
  refine ⟨_, _, c28b, ⟨by kernel_rfl⟩, ?_⟩
  cbv
  iterate 4 (all_goals try (refine And.intro ?_ ?_ <;> (intro g; (try (replace g := of_decide_eq_true g)); (try (replace g := of_decide_eq_false g)); (try (replace g := of_decide_eq_false (bnot_t g))); (try (replace g := of_decide_eq_true (bnot_f g))); (try (replace g : mb = false := bnot_t g)); (try (replace g : mb = true := bnot_f g)); (try (simp only [IE.den_l, IE.den_s] at g)); cbv)))
  · have g1 : kd = 1 := g
    have eY := eY g1
    subst eY
    clear g
    refine ⟨_, _, c29d, ⟨by kernel_rfl⟩, ?_⟩
    cbv
    refine ⟨_, _, c30, ⟨by kernel_rfl⟩, ?_⟩
    cbv
    refine ⟨_, _, con31o, ⟨by kernel_rfl⟩, ?_⟩
    cbv
    iterate 4 (all_goals try (refine And.intro ?_ ?_ <;> (intro g; (try (replace g := of_decide_eq_true g)); (try (replace g := of_decide_eq_false g)); (try (replace g := of_decide_eq_false (bnot_t g))); (try (replace g := of_decide_eq_true (bnot_f g))); (try (replace g : mb = false := bnot_t g)); (try (replace g : mb = true := bnot_f g)); (try (simp only [IE.den_l, IE.den_s] at g)); cbv)))
    · obtain ⟨e1, e2⟩ := k1 gm g
      subst e1 e2
      refine ⟨[], [], ?_⟩
      cbv
      and_intros
      all_goals first | exact trivial | exact ⟨rfl⟩ | exact ⟨rfl, fun _ _ _ h => h⟩ | exact ⟨by kernel_rfl⟩
    · obtain ⟨e1, e2⟩ := k2 gm g
      subst e1 e2
      refine ⟨_, _, (con32o (by omega)), ⟨by kernel_rfl⟩, ?_⟩
      cbv
      refine ⟨[], [6500], ?_⟩
      cbv
      and_intros
      all_goals first | exact trivial | exact ⟨rfl⟩ | exact ⟨rfl, fun _ _ _ h => h⟩ | exact ⟨by kernel_rfl⟩
  · have eN := eN g
    subst eN
    clear g
    refine ⟨_, _, con31o, ⟨by kernel_rfl⟩, ?_⟩
    cbv
    iterate 4 (all_goals try (refine And.intro ?_ ?_ <;> (intro g; (try (replace g := of_decide_eq_true g)); (try (replace g := of_decide_eq_false g)); (try (replace g := of_decide_eq_false (bnot_t g))); (try (replace g := of_decide_eq_true (bnot_f g))); (try (replace g : mb = false := bnot_t g)); (try (replace g : mb = true := bnot_f g)); (try (simp only [IE.den_l, IE.den_s] at g)); cbv)))
    · obtain ⟨e1, e2⟩ := k1 gm g
      subst e1 e2
      refine ⟨[], [], ?_⟩
      cbv
      and_intros
      all_goals first | exact trivial | exact ⟨rfl⟩ | exact ⟨rfl, fun _ _ _ h => h⟩ | exact ⟨by kernel_rfl⟩
    · obtain ⟨e1, e2⟩ := k2 gm g
      subst e1 e2
      refine ⟨_, _, (con32o (by omega)), ⟨by kernel_rfl⟩, ?_⟩
      cbv
      refine ⟨[], [6500], ?_⟩
      cbv
      and_intros
      all_goals first | exact trivial | exact ⟨rfl⟩ | exact ⟨rfl, fun _ _ _ h => h⟩ | exact ⟨by kernel_rfl⟩

theorem wideB_le {v : Val} {n : Nat} (h : (docB v).length < n) (hn : 8193 < n) : (wideB v).length < n := by
  unfold wideB; split
  · exact h
  · rw [List.length_replicate]; exact hn
/-- event.Encode. -/
theorem con9 {d : Nat} {e : Evt} (h1 : 1 ≤ d) (hkd : 0 ≤ e.kind ∧ e.kind < 256) (hk : e.key.depth ≤ d + 1) (hd : e.doc.depth ≤ d + 1) (sk : e.key.All Sane) (sd : e.doc.All Sane) (mk : e.key.All Sml) (md : e.doc.All Sml) (hdn : d < 99999) (hl : (keyV e.key).length < 100000000000)
    (hlk : (docB e.key).length < 10000000000) (hld : (docB e.doc).length < 10000000000) (hc : e.coll.length < 1000000000) :
    Con 9 [evSV (d + 1) e] [] (.tup [.dat (.bytes fun _ => encR e), .int .u16 (.s fun _ => encE e)]) [] :=
  con9s (mb := mayB e) (wk := wideB e.key) (wd := wideB e.doc) hkd (by omega) (by have := wideB_le hlk (by decide); omega) (by have := wideB_le hlk (by decide); omega) (by have := wideB_le hld (by decide); omega) rfl rfl
    (con25 h1 hk hd sk mk md hdn hl hc) (con29 hk sk mk (by omega) hlk) (con29 hd sd md (by omega) hld)
end Go.Proofs.YtkogbobplhebaaaGreatDoor

/- Events: what is written is read again; what is read is what was written: the laws. -/
namespace Go.Proofs.YtkogbobplhebaaaGreatDoor
open Go.SX Go.Ev

mutual
theorem deep_ok : ∀ (v : Val) (m : Nat), deepV m v = false → v.depth ≤ m
  | v, 0, h => by cases v; cases h
  | .mk k b i t y l f, m + 1, h => by
    simp only [deepV, Val.list, Val.fields, Bool.or_eq_false_iff] at h
    have h1 := deepL_ok l m h.1
    have h2 := deepF_ok f m h.2
    simp only [Val.depth]; omega
theorem deepL_ok : ∀ (l : List Val) (m : Nat), (l.any fun x => deepV m x) = false → depthL l ≤ m
  | [], _, _ => Nat.zero_le _
  | v :: r, m, h => by
    simp only [List.any_cons, Bool.or_eq_false_iff] at h
    have h1 := deep_ok v m h.1
    have h2 := deepL_ok r m h.2
    simp only [depthL]; omega
theorem deepF_ok : ∀ (l : List (List UInt8 × Val)) (m : Nat), (l.any fun p => deepV m p.2) = false → depthF l ≤ m
  | [], _, _ => Nat.zero_le _
  | (n, v) :: r, m, h => by
    simp only [List.any_cons, Bool.or_eq_false_iff] at h
    have h1 := deep_ok v m h.1
    have h2 := deepF_ok r m h.2
    simp only [depthF]; omega
end
mutual
theorem est_ok : ∀ (v : Val) (s : Int), (walkV estep v s).1 = 0 → v.All (fun x => ownE x = 0) ∧ (walkV estep v s).2 = true
  | .mk k b i t y l f, s, h => by
    by_cases h0 : ownE (.mk k b i t y l f) = 0
    · have e1 : estep s (.mk k b i t y l f) = (0, true) := by unfold estep; rw [h0]; rfl
      simp only [walkV, e1, if_true] at h ⊢
      by_cases h1 : (walkL estep l 0).2 = true
      · rw [if_pos h1] at h ⊢
        by_cases h2 : (walkL estep l 0).1 = 0
        · obtain ⟨a1, a2⟩ := estL_ok l 0 h2
          rw [h2] at h ⊢
          obtain ⟨b1, b2⟩ := estF_ok f 0 h
          exact ⟨⟨h0, a1, b1⟩, b2⟩
        · obtain ⟨b1, b2⟩ := estF_ok f _ h
          have := estL_end l 0 rfl h1
          exact absurd this h2
      · rw [if_neg h1] at h
        exact absurd (estL_ok l 0 h).2 h1
    · have e1 : estep s (.mk k b i t y l f) = (ownE (.mk k b i t y l f), false) := by unfold estep; rw [decide_eq_false h0]
      simp only [walkV, e1] at h
      exact absurd h h0
theorem estL_ok : ∀ (l : List Val) (s : Int), (walkL estep l s).1 = 0 → AllL (fun x => ownE x = 0) l ∧ (walkL estep l s).2 = true
  | [], _, _ => ⟨trivial, rfl⟩
  | v :: r, s, h => by
    simp only [walkL] at h ⊢
    by_cases h1 : (walkV estep v s).2 = true
    · rw [if_pos h1] at h ⊢
      obtain ⟨b1, b2⟩ := estL_ok r _ h
      have h0 := est_end v s h1
      exact ⟨⟨(est_ok v s h0).1, b1⟩, b2⟩
    · rw [if_neg h1] at h
      exact absurd (est_ok v s h).2 h1
theorem estF_ok : ∀ (l : List (List UInt8 × Val)) (s : Int), (walkF estep l s).1 = 0 → AllF (fun x => ownE x = 0) l ∧ (walkF estep l s).2 = true
  | [], _, _ => ⟨trivial, rfl⟩
  | (n, v) :: r, s, h => by
    simp only [walkF] at h ⊢
    by_cases h1 : (walkV estep v s).2 = true
    · rw [if_pos h1] at h ⊢
      obtain ⟨b1, b2⟩ := estF_ok r _ h
      have h0 := est_end v s h1
      exact ⟨⟨(est_ok v s h0).1, b1⟩, b2⟩
    · rw [if_neg h1] at h
      exact absurd (est_ok v s h).2 h1
theorem est_end : ∀ (v : Val) (s : Int), (walkV estep v s).2 = true → (walkV estep v s).1 = 0
  | .mk k b i t y l f, s, h => by
    by_cases h0 : ownE (.mk k b i t y l f) = 0
    · have e1 : estep s (.mk k b i t y l f) = (0, true) := by unfold estep; rw [h0]; rfl
      simp only [walkV, e1, if_true] at h ⊢
      by_cases h1 : (walkL estep l 0).2 = true
      · rw [if_pos h1] at h ⊢
        exact estF_end f _ (estL_end l 0 rfl h1) h
      · rw [if_neg h1] at h; cases h
    · have e1 : estep s (.mk k b i t y l f) = (ownE (.mk k b i t y l f), false) := by unfold estep; rw [decide_eq_false h0]
      simp only [walkV, e1, Bool.false_eq_true, if_false] at h
theorem estL_end : ∀ (l : List Val) (s : Int), s = 0 → (walkL estep l s).2 = true → (walkL estep l s).1 = 0
  | [], _, h, _ => h
  | v :: r, s, _, h => by
    simp only [walkL] at h ⊢
    by_cases h1 : (walkV estep v s).2 = true
    · rw [if_pos h1] at h ⊢
      exact estL_end r _ (est_end v s h1) h
    · rw [if_neg h1] at h; cases h
theorem estF_end : ∀ (l : List (List UInt8 × Val)) (s : Int), s = 0 → (walkF estep l s).2 = true → (walkF estep l s).1 = 0
  | [], _, h, _ => h
  | (n, v) :: r, s, _, h => by
    simp only [walkF] at h ⊢
    by_cases h1 : (walkV estep v s).2 = true
    · rw [if_pos h1] at h ⊢
      exact estF_end r _ (est_end v s h1) h
    · rw [if_neg h1] at h; cases h
end
theorem own_of {v : Val} (h : ownE v = 0) : Go.Ev.Own v := by
  have hs : Shape v := by
    by_cases hs : Shape v
    · exact hs
    · unfold ownE at h; rw [if_pos hs] at h; cases h
  obtain ⟨h1, h2, h3, h4, h5, h6, h7, h8⟩ := hs
  have h1 : v.bool = (bareV v).bool := by simpa using h1
  have h3 : v.text = (bareV v).text := by simpa using h3
  refine ⟨⟨h7, h8⟩, fun hk => ?_, fun hk => ?_, fun hk => ?_, fun hk => ?_, fun hk => ?_, fun hk => ?_⟩
  · rw [h1]; unfold bareV; simp [hk, Val.bool]
  · rw [h2]; unfold bareV; simp [hk, Val.int]
  · rw [h3]; unfold bareV; simp [hk, Val.text]
  · rcases h4 with h | h
    · exact List.length_eq_zero_iff.1 (by omega)
    · exact absurd h hk
  · rcases h5 with h | h
    · exact List.length_eq_zero_iff.1 (by omega)
    · exact absurd h hk
  · rcases h6 with h | h
    · exact List.length_eq_zero_iff.1 (by omega)
    · exact absurd h hk
theorem check_ok {v : Val} (h : checkE v = 0) : v.depth ≤ 8 ∧ v.All Go.Ev.Own := by
  unfold checkE at h
  split at h
  · cases h
  · rename_i hd
    split at h
    · cases h
    · exact ⟨deep_ok v 8 (by simpa using hd), All.mono (fun _ h => own_of h) (est_ok v 0 h).1⟩
theorem good_of {v : Val} (h : checkE v = 0) (hs : v.All Sane) (hm : v.All Sml) : v.All Go.Ev.Good :=
  All.mono (fun v h => ⟨h.1, h.2.1.2.1, by have := h.2.2.1; omega, by have := h.2.2.2.1; omega, by have := h.2.2.2.2.1; omega, by have := h.2.2.2.2.2.1; omega, fun p hp => by have := h.2.2.2.2.2.2 p hp; omega⟩) (all_and (check_ok h).2 (all_and hs hm))
/-- A value that is written is read as it was. -/
theorem decV_doc {v : Val} (h : checkE v = 0) (hs : v.All Sane) (hm : v.All Sml) (hl : (docB v).length ≤ 8192) : decV (docB v) = some v := by
  have e := doc_rdV (v := v) (d := 9) (r := []) (good_of h hs hm) (by have := (check_ok h).1; omega)
  rw [List.append_nil] at e
  unfold decV
  rw [if_neg (by omega), e]
  show (if checkE v = 0 then some v else none) = some v
  rw [if_pos h]
theorem may_kind {e : Evt} (h : mayB e = true) : (e.kind = 1 ∨ e.kind = 2) ∧ checkE e.key = 0 ∧ (e.kind = 2 → e.doc = zeroV) ∧ (e.kind = 1 → checkE e.doc = 0) := by
  unfold mayB at h
  split at h
  · cases h
  rename_i h1
  have h1 : keyE e.key = 0 := Classical.not_not.1 h1
  have hk : checkE e.key = 0 := by
    unfold keyE at h1
    split at h1
    · cases h1
    · rename_i h2; exact Classical.not_not.1 h2
  split at h
  · cases h
  split at h
  · cases h
  split at h
  · rename_i h2
    exact ⟨.inr h2, hk, fun _ => same_eq h, fun h3 => by omega⟩
  · rename_i h2
    split at h
    · rename_i h3
      split at h
      · cases h
      split at h
      · cases h
      exact ⟨.inl h3, hk, fun h4 => absurd h4 h2, fun _ => of_decide_eq_true h⟩
    · cases h
theorem wide_doc {v : Val} (hc : checkE v = 0) (hl : (wideB v).length ≤ 8192) : wideB v = docB v ∧ (docB v).length ≤ 8192 := by
  unfold wideB at hl ⊢
  split at hl
  · rename_i h
    rw [if_pos h]
    refine ⟨rfl, hl⟩
  · rw [List.length_replicate] at hl; omega
theorem wide_of {v : Val} (hc : checkE v = 0) (hl : (docB v).length ≤ 8192) : wideB v = docB v := by
  unfold wideB
  rw [if_pos]
  unfold docE
  rw [if_neg (by rw [hc]; decide), if_neg (by omega)]
theorem enc_ok {e : Evt} (h : encE e = 0) : mayB e = true ∧ (evB e).length ≤ 8192 := by
  unfold encE at h
  split at h
  · cases h
  · rename_i h1
    split at h
    · cases h
    · exact ⟨by simpa using h1, by omega⟩
theorem txt_lt {s : List UInt8} {n : Nat} (h : (txt s).length ≤ n) : s.length ≤ n := by have := txt_ge s; omega
/-- An event that is written is read as it was. -/
theorem decEv_enc {e : Evt} (h : encE e = 0) (sk : e.key.All Sane) (mk : e.key.All Sml) (sd : e.doc.All Sane) (md : e.doc.All Sml) : decEv (evB e) = some e := by
  obtain ⟨hm, hl⟩ := enc_ok h
  obtain ⟨hk, ck, hz, cd⟩ := may_kind hm
  obtain ⟨kd, cl, ky, dc⟩ := e
  have hk : kd = 1 ∨ kd = 2 := hk
  have ck : checkE ky = 0 := ck
  have hz : kd = 2 → dc = zeroV := hz
  have cd : kd = 1 → checkE dc = 0 := cd
  have eB : evB ⟨kd, cl, ky, dc⟩ = toB kd :: (txt cl ++ (txt (wideB ky) ++ (if kd = 1 then wideB dc else []))) := by
    unfold evB; simp only [List.append_assoc, List.singleton_append, List.cons_append, List.nil_append]
  rw [eB] at hl ⊢
  simp only [List.length_cons, List.length_append] at hl
  have lc : cl.length ≤ 8192 := txt_lt (s := cl) (by omega)
  have lk : (wideB ky).length ≤ 8192 := txt_lt (s := wideB ky) (by omega)
  obtain ⟨wk, lk'⟩ := wide_doc ck lk
  have dk := decV_doc ck sk mk lk'
  unfold decEv
  rw [if_neg (by simp only [List.length_cons, List.length_append]; omega)]
  simp only
  rw [tDec_txt (by omega)]
  simp only
  rw [tDec_txt (by omega)]
  simp only
  rw [wk, dk]
  simp only
  rcases hk with rfl | rfl
  · have c1 := cd rfl
    have l2 : (wideB dc).length ≤ 8192 := by rw [if_pos rfl] at hl; omega
    obtain ⟨wd, ld⟩ := wide_doc c1 l2
    have dd := decV_doc c1 sd md ld
    rw [if_pos (by decide), if_pos rfl, wd, dd]
    simp only
    unfold mayO
    rw [if_pos hm]
  · rw [if_neg (show ¬ (2 : Int) = 1 by decide), if_neg (show ¬ toB 2 = 1 by decide), if_pos rfl]
    obtain rfl := hz rfl
    show mayO ⟨(((toB 2).toNat : Nat) : Int), cl, ky, zeroV⟩ = _
    unfold mayO
    rw [show (((toB 2).toNat : Nat) : Int) = 2 from rfl, if_pos hm]
/-- Bytes that are read are those of that event. -/
theorem enc_decEv {b : List UInt8} {e : Evt} (h : decEv b = some e) : encE e = 0 ∧ evB e = b ∧ mayB e = true ∧ b.length ≤ 8192 ∧ (∃ kt, decV kt = some e.key) ∧ (e.doc = zeroV ∨ ∃ db, decV db = some e.doc) ∧ e.coll.length ≤ 8192 := by
  have h0 := h
  unfold decEv at h
  split at h
  · cases h
  rename_i hl
  split at h
  · cases h
  rename_i k r
  split at h
  · cases h
  rename_i c r1 t1
  split at h
  · cases h
  rename_i kt r2 t2
  split at h
  · cases h
  rename_i v hv
  have q1 := txt_tDec t1
  have q2 := txt_tDec t2
  obtain ⟨ek, lk, ck, _⟩ := decV_all hv
  have fin : ∀ (x : Evt) (tl : List UInt8), mayO x = some e → x.kind = (k.toNat : Int) → x.coll = c → x.key = v → (if x.kind = 1 then wideB x.doc else []) = r2 → encE e = 0 ∧ evB e = k :: r ∧ mayB e = true := by
    intro x _ hx hk hc hv hd
    unfold mayO at hx
    split at hx
    · rename_i hm
      cases hx
      have eB : evB e = k :: r := by
        unfold evB
        rw [hd, hk, hc, hv, toB_b, wide_of ck (by rw [← ek]; omega), ← ek, q1, q2]
        simp only [List.append_assoc, List.singleton_append, List.cons_append, List.nil_append]
      refine ⟨?_, eB, hm⟩
      unfold encE
      rw [eB, if_neg (by rw [hm]; decide), if_neg (by omega)]
    · cases hx
  have lc : c.length ≤ 8192 := by
    have := txt_ge c
    have : (txt c).length ≤ r.length := by rw [q1, List.length_append]; omega
    simp only [List.length_cons] at hl
    omega
  split at h
  · rename_i hk
    split at h
    · cases h
    rename_i d hd
    obtain ⟨ed, ld, cd, _⟩ := decV_all hd
    obtain ⟨a1, a2, a3⟩ := fin ⟨1, c, v, d⟩ [] h (by rw [hk]; rfl) rfl rfl (by rw [if_pos rfl, wide_of cd (by rw [← ed]; omega), ← ed])
    unfold mayO at h
    split at h
    · cases h
      exact ⟨a1, a2, a3, by omega, ⟨kt, hv⟩, .inr ⟨r2, hd⟩, lc⟩
    · cases h
  · rename_i hk
    split at h
    · rename_i hr
      have hkn : ¬ ((k.toNat : Nat) : Int) = 1 := fun h => hk (UInt8.toNat_inj.1 (by show k.toNat = 1; omega))
      obtain ⟨a1, a2, a3⟩ := fin ⟨(k.toNat : Int), c, v, zeroV⟩ [] h rfl rfl rfl (by rw [if_neg hkn, hr])
      unfold mayO at h
      split at h
      · cases h
        exact ⟨a1, a2, a3, by omega, ⟨kt, hv⟩, .inl rfl, lc⟩
      · cases h
    · cases h
end Go.Proofs.YtkogbobplhebaaaGreatDoor

/- Events: the sample, and what is known of it. -/
namespace Go.Proofs.YtkogbobplhebaaaGreatDoor
open Go.SX Go.Ev

def oneV : Val := .mk 3 false 1 [] [] [] []
def sampleE : Evt := ⟨1, [97], oneV, .mk 7 false 0 [] [] [] [(idB, oneV)]⟩
def sampleB : List UInt8 := [1, 1, 97, 2, 4, 2, 8, 1, 3, 95, 105, 100, 4, 2]
def oneL : List SV := [.int .u8 (.l 3), .bool .f, .int .i64 (.l 1), .str fun _ => [], .nil, .nil, .nil]

set_option maxRecDepth 20000 in
set_option maxHeartbeats 4000000 in
theorem con54 : Con 54 [] [] (.agg [.int .u8 (.l 1), .str (fun _ => [97]), .int .u8 (.l 3), .bool .f, .int .i64 (.l 1), .str (fun _ => []), .nil, .nil, .nil, .int .u8 (.l 7), .bool .f, .int .i64 (.l 0), .str (fun _ => []), .nil, .nil, .csl 2000 8 1])
    [(2000, .cells 132 [.str (fun _ => [95, 105, 100]), .int .u8 (.l 3), .bool .f, .int .i64 (.l 1), .str (fun _ => []), .nil, .nil, .nil])] := by
  refine con_of Tryz.func54 rfl rfl 9 _ rfl rfl rfl rfl ?_
  cbv
  refine ⟨[(2000, some 6)], [], ?_⟩
  cbv
  and_intros
  all_goals first | exact trivial | exact ⟨rfl⟩ | exact ⟨by kernel_rfl⟩

theorem nil_bytes {w : World} {S : Nat → Prop} {r : (Unit → Nat) → Nat → DV} {u : Value} (h : DVRel w S (.sl 0 (fun _ => 0) r) u) : DVRel w S (.bytes fun _ => []) u := by
  simp only [DVRel] at h ⊢
  obtain ⟨a, c, h1, h2, _⟩ := h
  exact ⟨a, c, h1, h2, fun i x hx => by simp at hx⟩
theorem nil_sl {w : World} {S : Nat → Prop} {n : Nat} {r r' : (Unit → Nat) → Nat → DV} {u : Value} (h : DVRel w S (.sl 0 (fun _ => 0) r) u) : DVRel w S (.sl n (fun _ => 0) r') u := by
  simp only [DVRel] at h ⊢
  obtain ⟨a, c, h1, h2, _⟩ := h
  exact ⟨a, c, h1, h2, fun i hi => absurd hi (Nat.not_lt_zero _)⟩
def nilDV : DV := .sl 0 (fun _ => 0) fun _ _ => .bool fun _ => false
def sampleDs : List DV := [.str fun _ => [95, 105, 100], .int .u8 fun _ => 3, .bool fun _ => false, .int .i64 fun _ => 1, .str fun _ => [], nilDV, nilDV, nilDV]
theorem sample_row {rv : RowG Val} {rf : RowG Fld} : dvEq (.sl 8 (fun _ => 1) (litRow 8 sampleDs)) (.sl 8 (fun _ => 1) (stepF (stepV rv rf) (stepF rv rf) fun _ => [(idB, oneV)])) := by
  intro w S v h
  simp only [DVRel] at h ⊢
  obtain ⟨a, c, h1, h2, h3⟩ := h
  refine ⟨a, c, h1, h2, fun i hi => ?_⟩
  obtain ⟨b, o, h4, h5, h6⟩ := h3 i hi
  refine ⟨b, o, h4, h5, fun j hj => ?_⟩
  obtain ⟨u, h7, h8⟩ := h6 j hj
  refine ⟨u, h7, ?_⟩
  obtain rfl : i = 0 := by omega
  match j, hj, h8 with
  | 0, _, h8 => exact h8
  | 1, _, h8 => exact h8
  | 2, _, h8 => exact h8
  | 3, _, h8 => exact h8
  | 4, _, h8 => exact h8
  | 5, _, h8 => exact nil_bytes h8
  | 6, _, h8 => exact nil_sl h8
  | 7, _, h8 => exact nil_sl h8
  | j + 8, hj, _ => omega
def sampleSV : SV := .agg [.int .u8 (.l 1), .str (fun _ => [97]), .int .u8 (.l 3), .bool .f, .int .i64 (.l 1), .str (fun _ => []), .nil, .nil, .nil, .int .u8 (.l 7), .bool .f, .int .i64 (.l 0), .str (fun _ => []), .nil, .nil, .dat (.sl 8 (fun _ => 1) (litRow 8 sampleDs))]
theorem eqv_nilB : Eqv .nil (.dat (.bytes fun _ => [])) := fun η G w v h => by
  simp only [SVRel, DVRel] at h ⊢
  exact ⟨none, 0, h, Nat.le_refl _, fun i x hx => by simp at hx⟩
theorem eqv_nilS {n : Nat} {r : (Unit → Nat) → Nat → DV} : Eqv .nil (.dat (.sl n (fun _ => 0) r)) := fun η G w v h => by
  simp only [SVRel, DVRel] at h ⊢
  exact ⟨none, 0, h, Nat.le_refl _, fun i hi => absurd hi (Nat.not_lt_zero _)⟩
theorem eqv_fls : Eqv (.bool .f) (.bool (.s fun _ => false)) := eqv_f1
theorem sample_eqv {d : Nat} : Eqv sampleSV (evSV (d + 2) sampleE) := by
  refine Eqv.agg ?_
  show EqvL _ [.int .u8 (.s fun _ => 1), .str (fun _ => [97]), .int .u8 (.s fun _ => 3), .bool (.s fun _ => false), .int .i64 (.s fun _ => 1), .str (fun _ => []), .dat (.bytes fun _ => []), .dat (.sl 7 (fun _ => 0) ((rowsG (d + 2)).1 fun _ => [])), .dat (.sl 8 (fun _ => 0) ((rowsG (d + 2)).2 fun _ => [])),
    .int .u8 (.s fun _ => 7), .bool (.s fun _ => false), .int .i64 (.s fun _ => 0), .str (fun _ => []), .dat (.bytes fun _ => []), .dat (.sl 7 (fun _ => 0) ((rowsG (d + 2)).1 fun _ => [])), .dat (.sl 8 (fun _ => 1) (stepF (stepV (rowsG d).1 (rowsG d).2) (stepF (rowsG d).1 (rowsG d).2) fun _ => [(idB, oneV)]))]
  exact .cons eqv_lit (.cons (Eqv.refl _) (.cons eqv_lit (.cons eqv_f1 (.cons eqv_lit (.cons (Eqv.refl _) (.cons eqv_nilB (.cons eqv_nilS (.cons eqv_nilS (.cons eqv_lit (.cons eqv_f1 (.cons eqv_lit (.cons (Eqv.refl _) (.cons eqv_nilB (.cons eqv_nilS (.cons (fun η G w v h => sample_row w _ v h) .nil)))))))))))))))
theorem lit_bytes (l : List UInt8) : Eqv (.dat (.sl 1 (fun _ => l.length) (litRow 1 (l.map fun b => DV.int .u8 fun _ => (b.toNat : Int))))) (.dat (.bytes fun _ => l)) := fun η G w v h => by
  simp only [SVRel, DVRel] at h ⊢
  obtain ⟨a, c, h1, h2, h3⟩ := h
  refine ⟨a, c, h1, h2, fun i x hx => ?_⟩
  have hi : i < l.length := by
    rw [List.getElem?_eq_some_iff] at hx; exact hx.1
  obtain ⟨b, o, h4, h5, h6⟩ := h3 i hi
  obtain ⟨u, h7, h8⟩ := h6 0 (by decide)
  refine ⟨b, o, h4, h5, ?_⟩
  have key : ∀ (l : List UInt8) (i : Nat) (x : UInt8), l[i]? = some x → nthD (l.map fun b => DV.int .u8 fun _ => (b.toNat : Int)) i (.bool fun _ => false) = DV.int .u8 fun _ => (x.toNat : Int) := by
    intro l
    induction l with
    | nil => intro i x h; simp at h
    | cons y l ih =>
      intro i x h
      cases i with
      | zero => simp at h; subst h; rfl
      | succ i => simpa [nthD] using ih i x (by simpa using h)
  have e := key l i x hx
  have h8 : DVRel w G (nthD (l.map fun b => DV.int .u8 fun _ => (b.toNat : Int)) (i * 1 + 0) (.bool fun _ => false)) u := h8
  rw [show i * 1 + 0 = i by omega, e] at h8
  simp only [DVRel] at h8
  rw [show o + i = o + i * 1 + 0 by omega, h7, h8]
theorem one_check : checkE oneV = 0 := by decide +kernel
theorem doc_check : checkE sampleE.doc = 0 := by decide +kernel
theorem sample_may : mayB sampleE = true := by
  have h1 : keyE sampleE.key = 0 := by decide +kernel
  have h2 : ¬ 60 < (keyV sampleE.key).length := by decide +kernel
  have h3 : nameC sampleE.coll = true := by decide +kernel
  have h4 : getV sampleE.doc idB = (oneV, true) := rfl
  unfold mayB
  rw [if_neg (fun h => h h1), if_neg h2, if_neg (by rw [h3]; decide), if_neg (by decide), if_pos (show sampleE.kind = 1 from rfl), h4, if_neg (by decide)]
  show (if same oneV oneV = false then false else decide (checkE sampleE.doc = 0)) = true
  rw [same_self, if_neg (by decide), doc_check]; rfl
theorem vEnc_lt {n : Nat} (h : n < 128) : vEnc n = [UInt8.ofNat n] := by rw [vEnc.eq_def, if_pos h]
theorem one_doc : docB oneV = [4, 2] := by
  show 4 :: vEnc (zig 1) = _
  rw [vEnc_lt (by decide)]; rfl
theorem sample_doc : docB sampleE.doc = [8, 1, 3, 95, 105, 100, 4, 2] := by
  show 8 :: (vEnc 1 ++ (txt idB ++ docB oneV ++ [])) = _
  rw [one_doc, vEnc_lt (by decide)]
  unfold txt
  rw [vEnc_lt (by decide)]; rfl
theorem sample_bytes : evB sampleE = sampleB := by
  have w1 : wideB oneV = [4, 2] := by rw [wide_of one_check (by rw [one_doc]; decide), one_doc]
  have w2 : wideB sampleE.doc = [8, 1, 3, 95, 105, 100, 4, 2] := by rw [wide_of doc_check (by rw [sample_doc]; decide), sample_doc]
  unfold evB
  rw [w2]
  show ((([toB 1] ++ txt [97]) ++ txt (wideB oneV)) ++ _) = _
  rw [w1]
  unfold txt
  rw [vEnc_lt (by decide), vEnc_lt (by decide)]; rfl
theorem sample_enc : encE sampleE = 0 ∧ encR sampleE = sampleB := by
  have h : encE sampleE = 0 := by
    unfold encE
    rw [sample_bytes, if_neg (by rw [sample_may]; decide), if_neg (by decide)]
  exact ⟨h, by unfold encR; rw [if_pos h, sample_bytes]⟩
theorem one_all {P : Val → Prop} (h : P oneV) : oneV.All P := ⟨h, trivial, trivial⟩
theorem sample_all {P : Val → Prop} (h : P oneV) (h2 : P sampleE.doc) : sampleE.doc.All P := ⟨h2, trivial, one_all h, trivial⟩
theorem one_sml : Sml oneV := ⟨by decide, by decide, by decide, by decide, fun p hp => by cases hp⟩
theorem sdoc_sml : Sml sampleE.doc := ⟨by decide, by decide, by decide, by decide, fun p hp => by
  rcases List.mem_cons.1 hp with rfl | hp
  · decide
  · cases hp⟩
theorem one_sane : Sane oneV := ⟨sml_fits one_sml, by decide, by decide, by decide⟩
theorem sdoc_sane : Sane sampleE.doc := ⟨sml_fits sdoc_sml, by decide, by decide, by decide⟩
theorem sample_dec : decEv sampleB = some sampleE := by
  rw [← sample_bytes]
  exact decEv_enc sample_enc.1 (one_all one_sane) (one_all one_sml) (sample_all one_sane sdoc_sane) (sample_all one_sml sdoc_sml)
theorem con9_sample : Con 9 [sampleSV] [] (.tup [.dat (.bytes fun _ => sampleB), .int .u16 (.s fun _ => 0)]) [] := by
  have h := con9 (d := 9) (e := sampleE) (by decide) (by decide) (by decide) (by decide) (one_all one_sane) (sample_all one_sane sdoc_sane) (one_all one_sml) (sample_all one_sml sdoc_sml) (by decide) (by decide +kernel) (by decide +kernel) (by rw [sample_doc]; decide) (by decide)
  rw [sample_enc.1, sample_enc.2] at h
  exact h.args (EqvL.cons sample_eqv .nil)
theorem con10_sample : Con 10 [.dat (.bytes fun _ => sampleB)] [] (.tup [evSV 10 sampleE, .int .u16 (.s fun _ => 0)]) [] := by
  have h := con10 (b := sampleB)
  have e1 : decEvE sampleB = sampleE := by unfold decEvE; rw [sample_dec]; rfl
  have e2 : decEvC sampleB = 0 := by unfold decEvC; rw [sample_dec]; rfl
  rw [e1, e2] at h
  exact h
/-- SameEvent, at a layer. -/
theorem con20 {d : Nat} {a b : Evt} (hk : a.key.depth ≤ d) (hd : a.doc.depth ≤ d) (fk : a.key.All Fits) (fd : a.doc.All Fits) : Con 20 [evSV d a, evSV d b] [] (.bool (.s fun _ => same a b)) [] :=
  con20s (con53 d a.key b.key hk fk) (con53 d a.doc b.doc hd fd)
end Go.Proofs.YtkogbobplhebaaaGreatDoor

