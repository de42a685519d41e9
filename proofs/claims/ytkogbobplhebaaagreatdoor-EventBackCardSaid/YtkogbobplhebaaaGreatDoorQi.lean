/- Texts put together: SxTc, SxTd, SxTe, SxTf. -/
import Derived.RangeFuncRecord
import Derived.RangeFuncNested
import Derived.ScopeJumps
import Derived.Test.YtkogbobplhebaaaGreatDoorQf
set_option linter.unusedVariables false
set_option linter.unusedSimpArgs false
set_option linter.unusedSectionVars false
/- SX: a range over a function: a round, as a contract of yield. -/
namespace Go.SX

/-- No shared data is in it, no blocks within. -/
def flatO : TObj → Bool
  | .cells _ cs => datFrees cs
  | .barr _ _ => true
  | .setI _ _ => true
  | .cust _ _ => true
  | _ => false
def flatOs : Objs → Bool
  | [] => true
  | (_, x) :: r => flatO x && flatOs r
theorem flatOs_at {k : Nat} {x : TObj} : ∀ {l : Objs}, flatOs l = true → lookN k l = some x → flatO x = true
  | [], _, h => by simp [lookN] at h
  | (j, y) :: r, h, hl => by
      simp only [flatOs, Bool.and_eq_true] at h
      simp only [lookN] at hl
      cases hb : eqN j k with
      | true => rw [hb] at hl; simp at hl; rw [← hl]; exact h.1
      | false => rw [hb] at hl; exact flatOs_at h.2 hl

section
variable {η : OEnv} {G G' : Nat → Prop} {w : World}
mutual
theorem SVRel.gfree : ∀ (s : SV) (v : Value), datFree s = true → SVRel η G w s v → SVRel η G' w s v
  | .any, _, _, h => by simp [SVRel]
  | .nil, _, _, h => by simpa [SVRel] using h
  | .int _ _, _, _, h => by simpa [SVRel] using h
  | .bool _, _, _, h => by simpa [SVRel] using h
  | .str _, _, _, h => by simpa [SVRel] using h
  | .val _, _, _, h => by simpa [SVRel] using h
  | .dat _, _, hf, _ => by simp [datFree] at hf
  | .view _ _, _, _, h => by simpa [SVRel] using h
  | .own _, _, _, h => by simpa [SVRel] using h
  | .csl _ _ _, _, _, h => by simpa [SVRel] using h
  | .loc _ _, _, _, h => by simpa [SVRel] using h
  | .op _ _ _ _, _, _, h => by simpa [SVRel] using h
  | .ep none _ _ _, _, hf, _ => by simp [datFree] at hf
  | .ep (some _) _ _ _, _, _, h => by simpa [SVRel] using h
  | .agg cs, v, hf, h => by
      simp only [SVRel] at h ⊢
      obtain ⟨vs, hv, h⟩ := h
      exact ⟨vs, hv, SVRels.gfree cs vs (by simpa [datFree] using hf) h⟩
  | .tup cs, v, hf, h => by
      simp only [SVRel] at h ⊢
      obtain ⟨vs, hv, h⟩ := h
      exact ⟨vs, hv, SVRels.gfree cs vs (by simpa [datFree] using hf) h⟩
  | .fn _ cs, v, hf, h => by
      simp only [SVRel] at h ⊢
      obtain ⟨vs, hv, h⟩ := h
      exact ⟨vs, hv, SVRels.gfree cs vs (by simpa [datFree] using hf) h⟩
  | .nn _, _, hf, _ => by simp [datFree] at hf
  | .ifc _ _, _, hf, _ => by simp [datFree] at hf
  | .rv _ _, _, _, h => by simpa [SVRel] using h
theorem SVRels.gfree : ∀ (s : List SV) (v : List Value), datFrees s = true → SVRels η G w s v → SVRels η G' w s v
  | [], [], _, _ => by simp [SVRels]
  | [], _ :: _, _, h => by simp [SVRels] at h
  | _ :: _, [], _, h => by simp [SVRels] at h
  | c :: cs, v :: vs, hf, h => by
      simp only [datFrees, Bool.and_eq_true] at hf
      simp only [SVRels] at h ⊢
      exact ⟨SVRel.gfree c v hf.1 h.1, SVRels.gfree cs vs hf.2 h.2⟩
end
theorem ObjRel.gfree {x : TObj} {o : OInfo} (hf : flatO x = true) (h : ObjRel η G w x o) : ObjRel η G' w x o ∧ o.inner = [] ∧ o.dead = false := by
  cases x with
  | cells T cs =>
    simp only [ObjRel] at h ⊢
    obtain ⟨h0, h1, b, vs, hm, hh, hs⟩ := h
    exact ⟨⟨h0, h1, b, vs, hm, hh, SVRels.gfree cs vs hf hs⟩, h1, h0⟩
  | barr T bs => exact ⟨h, h.2.1, h.1⟩
  | setI k ks => exact ⟨h, h.2.1, h.1⟩
  | cust d Φ => exact ⟨h, h.2.1, h.1⟩
  | _ => simp [flatO] at hf
end

/-- What a loop's record knows. -/
structure RI where
  fn : FuncId
  tmps : Array Value
  ps : Array Tmp
  assign : Code
  body : Code
  rcd : Nat
  dblk : Nat
def RI.loop (r : RI) (st : LoopState) (pe : Option Code) : Loop := { state := st, pending := pe, fn := r.fn, tmps := r.tmps, params := r.ps, assign := r.assign, body := r.body, defers := r.dblk }
def pendSt (pe : Option Code) : LoopState := if pe.isNone then .ready else .done

/-- Objects in blocks of S; those that were there at the start ('η0') are what they were. -/
structure RAt (η0 : OEnv) (objs : Objs) (w : World) (S : Nat → Prop) (ηS : OEnv) : Prop where
  ob : ∀ k, ObjOpt ηS (fun _ => False) w (lookN k objs) (ηS k)
  ins : ∀ k o, ηS k = some o → o.inner = [] ∧ ∀ b ∈ o.main, S b
  dj : ∀ k o k' o', ηS k = some o → ηS k' = some o' → k ≠ k' → ∀ b ∈ o.main, b ∉ o'.main
  old : ∀ k o0, η0 k = some o0 → ∃ o, ηS k = some o ∧ (o.dead = false → o0.dead = false ∧ o.val = o0.val ∧ Ext o0.main o.main)

theorem mono_flat {ηS : OEnv} {w w' : World} {G' : Nat → Prop} (hi : ∀ k o, ηS k = some o → o.inner = []) : Mono ηS (fun _ => False) w ηS G' w' :=
  ⟨fun _ h => h.elim, fun _ h => h.elim, fun k o ho => ⟨o, ho, fun hd => ⟨hd, rfl, Ext.refl _, fun b hb => by rw [hi k o ho] at hb; cases hb⟩⟩⟩
theorem RAt.keep {η0 : OEnv} {objs : Objs} {w w' : World} {S : Nat → Prop} {ηS : OEnv} (h : RAt η0 objs w S ηS) {S' : Nat → Prop} (hS : ∀ b, S b → S' b) (hw : ∀ b, S b → w'.heap[b]? = w.heap[b]?) : RAt η0 objs w' S' ηS := by
  refine ⟨fun k => ?_, fun k o ho => ⟨(h.ins k o ho).1, fun b hb => hS b ((h.ins k o ho).2 b hb)⟩, h.dj, h.old⟩
  have := h.ob k
  cases h1 : lookN k objs with
  | none => rw [h1] at this; cases h2 : ηS k with
    | none => trivial
    | some o => rw [h2] at this; exact this.elim
  | some x => rw [h1] at this; cases h2 : ηS k with
    | none => rw [h2] at this; exact this.elim
    | some o =>
      rw [h2] at this
      obtain ⟨hi, hm⟩ := h.ins k o h2
      exact ObjRel.mono (mono_flat fun k o ho => (h.ins k o ho).1) (fun b hb => by rw [hi, List.append_nil] at hb; exact hw b (hm b hb)) this

/-- What a loop under way is, in memory. -/
def RΦ (r : RI) (η0 : OEnv) (pe : Option Code) (objs : Objs) (w : World) (_v : Value) (B : List Nat) : Prop :=
  w.heap[r.rcd]? = some (.loop (r.loop (pendSt pe) pe)) ∧ w.heap[r.dblk]? = some (.deferred (some [])) ∧ r.rcd ∈ B ∧ r.dblk ∈ B ∧ r.rcd ≠ r.dblk ∧ ∃ ηS, RAt η0 objs w (fun b => b ∈ B ∧ b ≠ r.rcd ∧ b ≠ r.dblk) ηS
theorem RΦ.keep {r : RI} {η0 : OEnv} {pe : Option Code} {objs : Objs} {w w' : World} {v : Value} {B : List Nat} (h : RΦ r η0 pe objs w v B) (hw : ∀ b ∈ B, w'.heap[b]? = w.heap[b]?) : RΦ r η0 pe objs w' v B := by
  obtain ⟨h1, h2, h3, h4, h5, ηS, h6⟩ := h
  exact ⟨by rw [hw _ h3]; exact h1, by rw [hw _ h4]; exact h2, h3, h4, h5, ηS, h6.keep (fun _ h => h) fun b hb => hw b hb.1⟩
abbrev RJ (r : RI) (η0 : OEnv) (pe : Option Code) (objs : Objs) : TObj := .cust none (fun _ => RΦ r η0 pe objs)

/-- What a round's body comes to: no jump, or a return. -/
def RoundK (pe' : Option Code) (objs' : Objs) (ex : Exit) (st : St) : Prop :=
  match ex with
  | .normal => (Hold fun _ => pe' = none) ∧ ∃ frz, leObjs [] (namesOf objs') frz (getO st) objs' ∧ Hold fun _ => leNames [] frz objs' st.objs = true
  | .ret => (Hold fun _ => pe' = some .ret) ∧ ∃ frz, leObjs [] (namesOf objs') frz (getO st) objs' ∧ Hold fun _ => leNames [] frz objs' st.objs = true
  | _ => False
def AssignK (S : SP) (E : Env) (body : Code) (pe' : Option Code) (objs' : Objs) (ex : Exit) (st : St) : Prop :=
  match ex with
  | .normal => vc S E body st (RoundK pe' objs')
  | _ => False

theorem set_getD (a : Array Value) (d : Nat) (v : Value) (t : Nat) : (a.setIfInBounds d v).getD t undef = if t = d ∧ d < a.size then v else a.getD t undef := by
  simp only [Array.getD_eq_getD_getElem?, Array.getElem?_setIfInBounds]
  by_cases h : t = d
  · subst h
    by_cases hl : t < a.size
    · simp [hl]
    · simp [hl]
  · have : ¬ d = t := fun e => h e.symm
    simp [h, this]
theorem putL_len {α : Type} : ∀ (l : List α) (k : Nat) (v : α), (putL l k v).length = l.length
  | [], _, _ => by simp [putL]
  | _ :: _, 0, _ => by simp [putL]
  | x :: l, k + 1, v => by simp [putL, putL_len l k v]

/-- What lies outside of some blocks stays. -/
structure Fr (D : Nat → Prop) (w w' : World) : Prop where
  os : w'.os = w.os
  tape : w'.tape = w.tape
  out : w'.output = w.output
  size : w.heap.size ≤ w'.heap.size
  keep : ∀ b, b < w.heap.size → ¬ D b → w'.heap[b]? = w.heap[b]?
theorem Fr.trans {D : Nat → Prop} {a b c : World} (h : Fr D a b) (k : Fr D b c) : Fr D a c :=
  ⟨k.os.trans h.os, k.tape.trans h.tape, k.out.trans h.out, Nat.le_trans h.size k.size, fun x hx hd => (k.keep x (Nat.lt_of_lt_of_le hx h.size) hd).trans (h.keep x hx hd)⟩
theorem Fr.put {D : Nat → Prop} {w : World} {l : Nat} {o : Obj} (hl : D l) : Fr D w (w.putObj l o) :=
  ⟨rfl, rfl, rfl, by simp, fun b _ hb => World.putObj_heap_other fun e => hb (e ▸ hl)⟩

/-- A block of no object's is changed. -/
theorem Holds.other {dl : List Deferred} {η : OEnv} {G : Nat → Prop} {N : Nat} {get : Nat → SV} {ob : Nat → Option TObj} {a : Act} {w w' : World} (H : Holds dl η G N get ob a w)
    (hG : ∀ b, G b → w'.heap[b]? = w.heap[b]?) (hη : ∀ k o, η k = some o → ∀ b ∈ o.main ++ o.inner, w'.heap[b]? = w.heap[b]?) (hs : w.heap.size ≤ w'.heap.size) (ht : ∀ b, b < tabN → w'.heap[b]? = w.heap[b]?) : Holds dl η G N get ob a w' := by
  have hM : Mono η G w η G w' := ⟨fun _ h => h, hG, fun k o ho => ⟨o, ho, fun hd => ⟨hd, rfl, Ext.refl _, fun b hb => ⟨hb, hη k o ho b (by simp [hb])⟩⟩⟩⟩
  refine ⟨H.sz, H.df, fun t => SVRel.mono hM _ _ (H.tm t), fun k => ?_, ⟨fun k o ho b hb => ⟨Nat.lt_of_lt_of_le (H.sp.lt k o ho b hb).1 hs, (H.sp.lt k o ho b hb).2⟩, H.sp.dj, H.sp.mi, fun b hb => Nat.lt_of_lt_of_le (H.sp.glt b hb) hs⟩,
    ⟨Nat.le_trans H.tb.sz hs, H.tb.tp.keep ht, H.tb.out⟩⟩
  have := H.ob k
  cases h1 : ob k with
  | none => rw [h1] at this; cases h2 : η k with
    | none => trivial
    | some o => rw [h2] at this; exact this.elim
  | some x => rw [h1] at this; cases h2 : η k with
    | none => rw [h2] at this; exact this.elim
    | some o => rw [h2] at this; exact ObjRel.mono hM (hη k o h2) this

section
variable {P : Program} {E : Env} {S : SP}

theorem yield_sound (hE : EOk P E) (hR : ∀ f svs objs X r objs', E.raw f svs objs X r objs' → SpecG P f svs objs X r objs') (hmix : P.follows .mixedOrders = true) (hS : ∀ f svs objs r objs', S f svs objs r objs' → SpecX P f svs objs r objs')
    {r : RI} {p1 p2 : Nat} (hps : r.ps = #[p1, p2]) {η0 : OEnv} {objs objs' : Objs} {pe' : Option Code} {a1 a2 : SV} {keep : List SV} {b : Bool} {w00 : World} (hb : b = pe'.isNone)
    (hi0 : ∀ k o, η0 k = some o → o.inner = []) (hn0 : ∀ k o, η0 k = some o → memN k (namesOf objs') = true)
    (hflat : flatOs objs' = true) (hl : keep.length = r.tmps.size) (hna : namesOnly [] a1 = true ∧ namesOnly [] a2 = true) (hborn : ∀ k x, lookN k objs = some x → isBor k = true ∧ memN k (namesOf objs') = true)
    (hkeep : ∀ t, SVRel η0 (fun _ => False) w00 (nthD keep t .any) (r.tmps.getD t undef)) (hvc : vc S E r.assign ⟨putL (putL keep p1 a1) p2 a2, objs⟩ (AssignK S E r.body pe' objs')) :
    SpecX P yieldC [.rv 1000 (fun _ => .func (.yield r.rcd) #[] #[]), a1, a2] [(1000, RJ r η0 none objs)] (.bool (.s fun _ => b)) [(1000, RJ r η0 pe' objs')] := by
  intro η G vs w hsep hob hs htab
  match vs, hs with
  | [v0, v1, v2], hs =>
    simp only [SVRels] at hs
    obtain ⟨h0, ha1, ha2, -⟩ := hs
    simp only [SVRel] at h0
    obtain ⟨rfl, -⟩ := h0
    rw [runs_yield]
    have hk := hob 1000
    rw [show lookN 1000 [((1000 : Nat), RJ r η0 none objs)] = some (RJ r η0 none objs) from rfl] at hk
    have hnone : ∀ k, k ≠ 1000 → η k = none := fun k hk' => by
      have := hob k
      rw [show lookN k [((1000 : Nat), RJ r η0 none objs)] = none by
        have : eqN 1000 k = false := decide_eq_false fun e => hk' e.symm
        simp [lookN, this]] at this
      cases h : η k with
      | none => rfl
      | some o => rw [h] at this; exact this.elim
    cases ho : η 1000 with
    | none => rw [ho] at hk; exact hk.elim
    | some o =>
      rw [ho] at hk
      obtain ⟨hd, hin, hq⟩ := hk
      obtain ⟨hrec, hdb, mr, md, hne, ηS, hat⟩ := (hq w fun _ _ => rfl).1
      have olt : ∀ c ∈ o.main, c < w.heap.size ∧ ¬ G c := fun c hc => hsep.lt 1000 o ho c (by simp [hc])
      have hrl : r.rcd < w.heap.size := (olt _ mr).1
      refine ⟨r.rcd, [v1, v2], rfl, r.fn, _, r.assign, r.body, run_yield hrec (by show 2 = r.ps.size; rw [hps]; rfl), ?_⟩
      refine roundIn_of_wpIn (F := Fence.wide) (n := 0) trivial ?_
      have htm : ((r.loop (pendSt none) none).params.zip #[v1, v2]).foldl (fun tmps (x : Tmp × Value) => tmps.setIfInBounds x.1 x.2) (r.loop (pendSt none) none).tmps = (r.tmps.setIfInBounds p1 v1).setIfInBounds p2 v2 := by
        show (r.ps.zip #[v1, v2]).foldl _ r.tmps = _
        rw [hps]; simp
      rw [htm]
      -- the round's start
      have iS : ∀ k o, ηS k = some o → o.inner = [] := fun k o ho => (hat.ins k o ho).1
      have hMS : Mono ηS (fun _ => False) w ηS G w := mono_flat iS
      have hobS : ∀ k, ObjOpt ηS G w (lookN k objs) (ηS k) := fun k => by
        have := hat.ob k
        cases h1 : lookN k objs with
        | none => rw [h1] at this; cases h2 : ηS k with
          | none => trivial
          | some o => rw [h2] at this; exact this.elim
        | some x => rw [h1] at this; cases h2 : ηS k with
          | none => rw [h2] at this; exact this.elim
          | some o => rw [h2] at this; exact ObjRel.mono hMS (fun _ _ => rfl) this
      have hsepS : Sep ηS G w := by
        refine ⟨fun k o' ho' c hc => ?_, fun k o1 k' o2 h1 h2 hne c hc => ?_, fun k o' ho' c _ hc => ?_, hsep.glt⟩
        · rw [iS k o' ho', List.append_nil] at hc
          exact olt c ((hat.ins k o' ho').2 c hc).1
        · rw [iS k o1 h1, List.append_nil] at hc
          rw [iS k' o2 h2, List.append_nil]
          exact hat.dj k o1 k' o2 h1 h2 hne c hc
        · rw [iS k o' ho'] at hc; cases hc
      have htabS : TabOk ηS w := ⟨htab.sz, htab.tp, fun k o' ho' c hc => by
          rw [iS k o' ho', List.append_nil] at hc
          exact htab.out 1000 o ho c (by simp [((hat.ins k o' ho').2 c hc).1])⟩
      have hM0 : Mono η0 (fun _ => False) w00 ηS G w := ⟨fun _ h => h.elim, fun _ h => h.elim, fun k o0 h0 => by
          obtain ⟨o', h1, h2⟩ := hat.old k o0 h0
          exact ⟨o', h1, fun hd => ⟨(h2 hd).1, (h2 hd).2.1, (h2 hd).2.2, fun c hc => by rw [hi0 k o0 h0] at hc; cases hc⟩⟩⟩
      have hz1 : ∀ (a : SV) (v : Value), namesOnly [] a = true → SVRel η G w a v → SVRel ηS G w a v := fun a v hn hv => names_rel (l := []) (fun k hk => by cases hk) (fun _ h => h) a v hn hv
      have hst : Here [] ηS G w r.tmps.size ⟨putL (putL keep p1 a1) p2 a2, objs⟩ { tmps := (r.tmps.setIfInBounds p1 v1).setIfInBounds p2 v2, defers := [] } w := by
        refine ⟨by simp [putL_len, hl], ηS, G, ⟨by simp [putL_len, hl], rfl, fun t => ?_, hobS, hsepS, htabS⟩, Evol.refl _ _ _⟩
        show SVRel ηS G w (nthD (putL (putL keep p1 a1) p2 a2) t .any) _
        rw [set_getD, nthD_putL, putL_len, hl]
        simp only [Array.size_setIfInBounds]
        split
        · exact hz1 _ _ hna.2 ha2
        · rw [set_getD, nthD_putL, hl]
          split
          · exact hz1 _ _ hna.1 ha1
          · exact SVRel.mono hM0 _ _ (hkeep t)
      have hborS : ∀ k o, ηS k = some o → isBor k = true := fun k o' ho' => by
        have := hobS k
        rw [ho'] at this
        cases h1 : lookN k objs with
        | none => rw [h1] at this; exact this.elim
        | some x => exact (hborn k x h1).1
      refine vc_soundIn (ro := some r.rcd) (nn := 0) hE hR hmix hS hborS r.assign _ _ _ _ _ hvc hst ?_
      intro ex st1 x1 w1 hk1 hh1
      cases ex <;> simp only [AssignK] at hk1
      case normal =>
        obtain ⟨hlen1, η1, G1, H1, E1⟩ := hh1
        have hrS : ∀ k o', ηS k = some o' → r.rcd ∉ o'.main ++ o'.inner := fun k o' ho' hc => by
          rw [iS k o' ho', List.append_nil] at hc
          exact ((hat.ins k o' ho').2 _ hc).2.1 rfl
        have hdS : ∀ k o', ηS k = some o' → r.dblk ∉ o'.main ++ o'.inner := fun k o' ho' hc => by
          rw [iS k o' ho', List.append_nil] at hc
          exact ((hat.ins k o' ho').2 _ hc).2.2 rfl
        have hdl : r.dblk < w.heap.size := (olt _ md).1
        have hr1 : w1.heap[r.rcd]? = some (.loop (r.loop (pendSt none) none)) := (E1.keep _ hrl hrS).trans hrec
        -- what was in no object of the round's is in none of the later ones
        have out1 : ∀ c, c < w.heap.size → (∀ k o', ηS k = some o' → c ∉ o'.main ++ o'.inner) → ¬ G c → (∀ k o', η1 k = some o' → c ∉ o'.main ++ o'.inner) ∧ ¬ G1 c := fun c hc hcS hcG => by
          refine ⟨fun k o' ho' hm => ?_, fun hg => ?_⟩
          · rcases E1.blk k o' ho' c hm with h | ⟨k0, o0, h0, hm0⟩
            · omega
            · exact hcS k0 o0 h0 hm0
          · rcases E1.g' c hg with h | h | ⟨k0, o0, h0, hm0⟩
            · exact hcG h
            · omega
            · exact hcS k0 o0 h0 hm0
        obtain ⟨hr1o, hr1g⟩ := out1 _ hrl hrS (olt _ mr).2
        refine ⟨_, run_beginRound hr1 rfl, ?_⟩
        obtain ⟨w2, hw2⟩ : ∃ w2, w2 = w1.putObj r.rcd (.loop { r.loop (pendSt none) none with state := .busy }) := ⟨_, rfl⟩
        rw [← hw2]
        have hoth : ∀ c, c ≠ r.rcd → w2.heap[c]? = w1.heap[c]? := fun c hc => by rw [hw2]; exact World.putObj_heap_other hc
        have htabr : tabN ≤ r.rcd := htab.out 1000 o ho _ (by simp [mr])
        have H2 : Holds [] η1 G1 st1.tmps.length (getT st1) (getO st1) x1 w2 :=
          H1.other (fun c hc => hoth c fun e => hr1g (e ▸ hc)) (fun k o' ho' c hc => hoth c fun e => hr1o k o' ho' (e ▸ hc)) (by rw [hw2]; simp) (fun c hc => hoth c (by omega))
        obtain ⟨w0, hw0⟩ : ∃ w0, w0 = w.putObj r.rcd (.loop { r.loop (pendSt none) none with state := .busy }) := ⟨_, rfl⟩
        have hoth0 : ∀ c, c ≠ r.rcd → w0.heap[c]? = w.heap[c]? := fun c hc => by rw [hw0]; exact World.putObj_heap_other hc
        have hsz0 : w0.heap.size = w.heap.size := by rw [hw0]; simp
        have hsz2 : w2.heap.size = w1.heap.size := by rw [hw2]; simp
        have E2 : Evol ηS G w0 η1 G1 w2 := by
          refine ⟨?_, ?_, ?_, by rw [hsz0, hsz2]; exact E1.size, fun c hc hn => ?_, fun k o' ho' => ?_, E1.g, fun c hc => ?_, fun k o' ho' c hc => ?_⟩
          · rw [hw0, hw2]; exact E1.os
          · rw [hw0, hw2]; exact E1.tape
          · rw [hw0, hw2]; exact E1.out
          · rw [hsz0] at hc
            by_cases e : c = r.rcd
            · rw [e, hw2, hw0, World.putObj_heap_same hrl, World.putObj_heap_same (Nat.lt_of_lt_of_le hrl E1.size)]
            · rw [hoth c e, hoth0 c e]; exact E1.keep c hc hn
          · obtain ⟨o2, h1, h2⟩ := E1.obj k o' ho'
            exact ⟨o2, h1, fun hd => ⟨(h2 hd).1, (h2 hd).2.1, (h2 hd).2.2.1, fun c hc => by rw [iS k o' ho'] at hc; cases hc⟩⟩
          · rw [hsz0]; exact E1.g' c hc
          · rw [hsz0]; exact E1.blk k o' ho' c hc
        refine vc_soundIn (ro := some r.rcd) (nn := 0) hE hR hmix hS hborS r.body _ _ _ _ _ hk1 ⟨hlen1, η1, G1, H2, E2⟩ ?_
        intro ex st3 x3 w3 hk3 hh3
        obtain ⟨hlen3, η3, G3, H3, E3⟩ := hh3
        have fin : ∀ (frz : List Nat), leObjs [] (namesOf objs') frz (getO st3) objs' → (Hold fun _ => leNames [] frz objs' st3.objs = true) →
            ∃ v w', (Instr.endRound r.rcd pe').run P w3 = .ok v w' ∧ ∃ v', Ending.returned v = .returned v' ∧ ∃ η' G', SVRel η' G' w' (.bool (.s fun _ => b)) v' ∧ (∀ k, ObjOpt η' G' w' (lookN k [((1000 : Nat), RJ r η0 pe' objs')]) (η' k)) ∧ Sep η' G' w' ∧ Evol η G w η' G' w' := by
          intro frz hle hnm
          obtain ⟨l1, l2, l3⟩ := le_state H3 hle hnm.h
          obtain ⟨η4, hη4⟩ : ∃ e, e = leE η3 [] objs' := ⟨_, rfl⟩
          obtain ⟨G4, hG4⟩ : ∃ e, e = inG η3 G3 frz := ⟨_, rfl⟩
          rw [← hη4, ← hG4] at l1 l2 l3
          have hr3 : w3.heap[r.rcd]? = some (.loop { r.loop (pendSt none) none with state := .busy }) := by
            rw [E3.keep _ (by rw [hsz0]; exact hrl) hrS, hw0]; exact World.putObj_heap_same hrl
          have hrun := run_endRound (P := P) pe' hr3
          refine ⟨_, _, hrun, _, rfl, ?_⟩
          obtain ⟨w4, hw4⟩ : ∃ w4, w4 = w3.putObj r.rcd (.loop (r.loop (pendSt pe') pe')) := ⟨_, rfl⟩
          have hw4' : w3.putObj r.rcd (.loop { (show Loop from { r.loop (pendSt none) none with state := .busy }) with state := if pe'.isNone then .ready else .done, pending := pe' }) = w4 := hw4.symm
          show ∃ η' G', SVRel η' G' (w3.putObj r.rcd (.loop { (show Loop from { r.loop (pendSt none) none with state := .busy }) with state := if pe'.isNone then .ready else .done, pending := pe' })) _ _ ∧ _
          rw [hw4']
          have hs3 : w.heap.size ≤ w3.heap.size := by have := E3.size; rw [hsz0] at this; exact this
          have hsz4 : w4.heap.size = w3.heap.size := by rw [hw4]; simp
          have hoth4 : ∀ c, c ≠ r.rcd → w4.heap[c]? = w3.heap[c]? := fun c hc => by rw [hw4]; exact World.putObj_heap_other hc
          have h4 : ∀ k o4, η4 k = some o4 → ∃ x, lookN k objs' = some x ∧ ObjRel η4 G4 w3 x o4 ∧ flatO x = true := fun k o4 hk => by
            have := l1 k
            rw [hk] at this
            cases hx : lookN k objs' with
            | none => rw [hx] at this; exact this.elim
            | some x => rw [hx] at this; exact ⟨x, rfl, this, flatOs_at hflat hx⟩
          have i4 : ∀ k o4, η4 k = some o4 → o4.inner = [] ∧ o4.dead = false := fun k o4 hk => by
            obtain ⟨x, _, hx, hf⟩ := h4 k o4 hk
            exact (hx.gfree (G' := G4) hf).2
          -- whence a block of a later object comes
          have from3 : ∀ k o3, η3 k = some o3 → ∀ c ∈ o3.main ++ o3.inner, w.heap.size ≤ c ∨ ∃ k0 o0, ηS k0 = some o0 ∧ c ∈ o0.main := fun k o3 h3 c hc => by
            rcases E3.blk k o3 h3 c hc with h | ⟨k0, o0, h0, hm0⟩
            · left; rw [hsz0] at h; exact h
            · right; rw [iS k0 o0 h0, List.append_nil] at hm0; exact ⟨k0, o0, h0, hm0⟩
          have from4 : ∀ k o4, η4 k = some o4 → ∀ c ∈ o4.main, w.heap.size ≤ c ∨ ∃ k0 o0, ηS k0 = some o0 ∧ c ∈ o0.main := fun k o4 h4' c hc => by
            obtain ⟨k0, o0, h0, hm0⟩ := l3.blk k o4 h4' c (by simp [hc])
            exact from3 k0 o0 h0 c hm0
          have inD : ∀ k0 o0, ηS k0 = some o0 → ∀ c ∈ o0.main, c ∈ o.main ∧ c ≠ r.rcd ∧ c ≠ r.dblk := fun k0 o0 h0 c hc => (hat.ins k0 o0 h0).2 c hc
          have ne4 : ∀ k o4, η4 k = some o4 → ∀ c ∈ o4.main, c ≠ r.rcd ∧ c ≠ r.dblk := fun k o4 h4' c hc => by
            rcases from4 k o4 h4' c hc with h | ⟨k0, o0, h0, hm0⟩
            · exact ⟨by omega, by omega⟩
            · exact (inD k0 o0 h0 c hm0).2
          -- an object that was there is there
          have kept : ∀ k o1, ηS k = some o1 → ∃ o4, η4 k = some o4 ∧ o1.dead = false ∧ o4.val = o1.val ∧ Ext o1.main o4.main := fun k o1 h1 => by
            obtain ⟨o3, h3, h3'⟩ := E3.obj k o1 h1
            have hm : memN k (namesOf objs') = true := by
              have := hobS k
              rw [h1] at this
              cases hx : lookN k objs with
              | none => rw [hx] at this; exact this.elim
              | some x => exact (hborn k x hx).2
            obtain ⟨o4, h4', e4⟩ := leE_ren (η := η3) (ρ := []) hm rfl h3
            rw [← hη4] at h4'
            obtain rfl := e4 (i4 k o4 h4').2
            obtain ⟨q1, q2, q3, _⟩ := h3' (i4 k _ h4').2
            exact ⟨_, h4', q1, q2, q3⟩
          have notG4 : ∀ c ∈ o.main, ¬ G4 c := fun c hc hg => by
            have hS : (∃ k0 o0, ηS k0 = some o0 ∧ c ∈ o0.main) → False := fun ⟨k0, o0, h0, hm0⟩ => by
              obtain ⟨o4, h4', _, _, hx⟩ := kept k0 o0 h0
              exact (l2.lt k0 o4 h4' c (by simp [hx.mem hm0])).2 hg
            have h3 : G3 c → False := fun hg => by
              rcases E3.g' c hg with h | h | ⟨k0, o0, h0, hm0⟩
              · exact (olt c hc).2 h
              · rw [hsz0] at h; have := (olt c hc).1; omega
              · rw [iS k0 o0 h0, List.append_nil] at hm0; exact hS ⟨k0, o0, h0, hm0⟩
            rcases l3.g' c hg with h | ⟨k0, o0, h0, hm0⟩
            · exact h3 h
            · rcases from3 k0 o0 h0 c hm0 with h | h
              · have := (olt c hc).1; omega
              · exact hS h
          obtain ⟨ext, hext⟩ : ∃ ext : List Nat, ext = objs'.flatMap fun p => match η4 p.1 with | some o4 => o4.main | none => [] := ⟨_, rfl⟩
          have ext_in : ∀ c ∈ ext, ∃ k o4, η4 k = some o4 ∧ c ∈ o4.main := fun c hc => by
            rw [hext] at hc
            obtain ⟨p, _, hp⟩ := List.mem_flatMap.1 hc
            cases h : η4 p.1 with
            | none => rw [h] at hp; cases hp
            | some o4 => rw [h] at hp; exact ⟨p.1, o4, h, hp⟩
          have ext_of : ∀ k o4, η4 k = some o4 → ∀ c ∈ o4.main, c ∈ ext := fun k o4 h4' c hc => by
            obtain ⟨x, hx, _⟩ := h4 k o4 h4'
            rw [hext]
            exact List.mem_flatMap.2 ⟨(k, x), lookN_mem hx, by simp only [h4']; exact hc⟩
          have hΦ : RΦ r η0 pe' objs' w4 o.val (o.main ++ ext) := by
            refine ⟨by rw [hw4]; exact World.putObj_heap_same (Nat.lt_of_lt_of_le hrl hs3), ?_, by simp [mr], by simp [md], hne, η4, ?_⟩
            · rw [hoth4 _ (fun e => hne e.symm), E3.keep _ (by rw [hsz0]; exact hdl) hdS, hoth0 _ (fun e => hne e.symm)]; exact hdb
            · refine ⟨fun k => ?_, fun k o4 hk => ⟨(i4 k o4 hk).1, fun c hc => ⟨by simp [ext_of k o4 hk c hc], ne4 k o4 hk c hc⟩⟩, fun k o1 k' o2 h1 h2 hne' c hc hc' => l2.dj k o1 k' o2 h1 h2 hne' c (by simp [hc]) (by simp [hc']), fun k o0 h0 => ?_⟩
              · have := l1 k
                cases hx : lookN k objs' with
                | none => rw [hx] at this; cases hk : η4 k with
                  | none => trivial
                  | some o4 => rw [hk] at this; exact this.elim
                | some x => rw [hx] at this; cases hk : η4 k with
                  | none => rw [hk] at this; exact this.elim
                  | some o4 =>
                    rw [hk] at this
                    have hg := (ObjRel.gfree (G' := fun _ => False) (flatOs_at hflat hx) this).1
                    exact ObjRel.mono (mono_flat fun k o ho => (i4 k o ho).1) (fun c hc => by rw [(i4 k o4 hk).1, List.append_nil] at hc; exact hoth4 c (ne4 k o4 hk c hc).1) hg
              · obtain ⟨o1, h1, h1'⟩ := hat.old k o0 h0
                obtain ⟨o4, h4', d1, v1, x1⟩ := kept k o1 h1
                obtain ⟨d2, v2, x2⟩ := h1' d1
                exact ⟨o4, h4', fun _ => ⟨d2, v1.trans v2, x2.trans x1⟩⟩
          obtain ⟨ηN, hN⟩ : ∃ e : OEnv, e = fun k => if k = 1000 then some ⟨o.val, o.main ++ ext, [], false⟩ else none := ⟨_, rfl⟩
          have hN1 : ηN 1000 = some ⟨o.val, o.main ++ ext, [], false⟩ := by rw [hN]; exact if_pos rfl
          have hN2 : ∀ k, k ≠ 1000 → ηN k = none := fun k hk => by rw [hN]; exact if_neg hk
          refine ⟨ηN, G4, ?_, fun k => ?_, ?_, ?_⟩
          · simp only [SVRel, BE.den_s, hb]
          · by_cases e : k = 1000
            · subst e
              rw [hN1]
              exact ⟨rfl, rfl, fun w' hw' => ⟨hΦ.keep hw', fun x hx => by cases hx⟩⟩
            · rw [hN2 k e]
              have : eqN 1000 k = false := decide_eq_false fun h => e h.symm
              simp only [lookN, this, cond_false]
              trivial
          · refine ⟨fun k o' ho' c hc => ?_, fun k o1 k' o2 h1 h2 hne' => ?_, fun k o' ho' c _ hc => ?_, fun c hc => by rw [hsz4]; exact l2.glt c hc⟩
            · by_cases e : k = 1000
              · rw [e, hN1] at ho'
                cases ho'
                rw [hsz4]
                simp only [List.append_nil, List.mem_append] at hc
                rcases hc with hc | hc
                · exact ⟨Nat.lt_of_lt_of_le (olt c hc).1 hs3, notG4 c hc⟩
                · obtain ⟨k, o4, h4', hm⟩ := ext_in c hc
                  exact l2.lt k o4 h4' c (by simp [hm])
              · rw [hN2 k e] at ho'; cases ho'
            · by_cases e1 : k = 1000
              · by_cases e2 : k' = 1000
                · exact absurd (e1.trans e2.symm) hne'
                · rw [hN2 k' e2] at h2; cases h2
              · rw [hN2 k e1] at h1; cases h1
            · by_cases e : k = 1000
              · rw [e, hN1] at ho'; cases ho'; cases hc
              · rw [hN2 k e] at ho'; cases ho'
          · have stay : ∀ c, c < w.heap.size → c ∉ o.main → w4.heap[c]? = w.heap[c]? := fun c hc hn => by
              have e : c ≠ r.rcd := fun e => hn (e ▸ mr)
              rw [hoth4 c e, E3.keep c (by rw [hsz0]; exact hc) (fun k0 o0 h0 hm0 => by rw [iS k0 o0 h0, List.append_nil] at hm0; exact hn (inD k0 o0 h0 c hm0).1), hoth0 c e]
            refine ⟨?_, ?_, ?_, by rw [hsz4]; exact hs3, fun c hc hn => stay c hc fun hm => hn 1000 o ho (by simp [hm]), fun k o' ho' => ?_, fun c hc => l3.g c (E3.g c hc), fun c hc => ?_, fun k o' ho' c hc => ?_⟩
            · rw [hw4]; exact (E3.os).trans (by rw [hw0]; rfl)
            · rw [hw4]; exact (E3.tape).trans (by rw [hw0]; rfl)
            · rw [hw4]; exact (E3.out).trans (by rw [hw0]; rfl)
            · by_cases e : k = 1000
              · subst e
                rw [ho] at ho'; cases ho'
                exact ⟨_, hN1, fun _ => ⟨hd, rfl, ⟨ext, rfl⟩, fun c hc => by rw [hin] at hc; cases hc⟩⟩
              · rw [hnone k e] at ho'; cases ho'
            · have hS : (∃ k0 o0, ηS k0 = some o0 ∧ c ∈ o0.main) → G c ∨ w.heap.size ≤ c ∨ ∃ k o, η k = some o ∧ c ∈ o.main ++ o.inner := fun ⟨k0, o0, h0, hm0⟩ => .inr (.inr ⟨1000, o, ho, by simp [(inD k0 o0 h0 c hm0).1]⟩)
              rcases l3.g' c hc with h | ⟨k0, o0, h0, hm0⟩
              · rcases E3.g' c h with h | h | ⟨k0, o0, h0, hm0⟩
                · exact .inl h
                · right; left; rw [hsz0] at h; exact h
                · rw [iS k0 o0 h0, List.append_nil] at hm0; exact hS ⟨k0, o0, h0, hm0⟩
              · rcases from3 k0 o0 h0 c hm0 with h | h
                · exact .inr (.inl h)
                · exact hS h
            · by_cases e : k = 1000
              · rw [e, hN1] at ho'
                cases ho'
                simp only [List.append_nil, List.mem_append] at hc
                rcases hc with hc | hc
                · exact .inr ⟨1000, o, ho, by simp [hc]⟩
                · obtain ⟨k, o4, h4', hm⟩ := ext_in c hc
                  rcases from4 k o4 h4' c hm with h | ⟨k0, o0, h0, hm0⟩
                  · exact .inl h
                  · exact .inr ⟨1000, o, ho, by simp [(inD k0 o0 h0 c hm0).1]⟩
              · rw [hN2 k e] at ho'; cases ho'
        cases ex <;> simp only [RoundK] at hk3
        case normal =>
          obtain ⟨hp, frz, hle, hnm⟩ := hk3
          obtain ⟨v, w', h1, h2⟩ := fin frz hle hnm
          rw [hp.h] at h1
          exact ⟨v, w', h1, h2⟩
        case ret =>
          obtain ⟨hp, frz, hle, hnm⟩ := hk3
          obtain ⟨v, w', h1, h2⟩ := fin frz hle hnm
          rw [hp.h] at h1
          exact ⟨v, w', h1, h2⟩
        all_goals exact hk3.elim
      all_goals exact hk1.elim
  | [], h => exact h.elim
  | [_], h => exact h.2.elim
  | [_, _], h => exact h.2.2.elim
  | _ :: _ :: _ :: _ :: _, h => exact h.2.2.2.elim
end
end Go.SX

/- SX: a range over a function: the statement. -/
namespace Go.SX

/-- It names no object. -/
def nmFree : TObj → Bool
  | .cells _ cs => namesOnlys [] cs
  | _ => true
theorem SVRels.nfree {η η' : OEnv} {G : Nat → Prop} {w : World} : ∀ (s : List SV) (v : List Value), namesOnlys [] s = true → SVRels η G w s v → SVRels η' G w s v
  | [], [], _, _ => by simp [SVRels]
  | [], _ :: _, _, h => by simp [SVRels] at h
  | _ :: _, [], _, h => by simp [SVRels] at h
  | c :: cs, v :: vs, hf, h => by
      simp only [namesOnlys, Bool.and_eq_true] at hf
      simp only [SVRels] at h ⊢
      exact ⟨names_rel (l := []) (fun k hk => by cases hk) (fun _ h => h) c v hf.1 h.1, SVRels.nfree cs vs hf.2 h.2⟩
theorem ObjRel.nfree {η η' : OEnv} {G : Nat → Prop} {w : World} {x : TObj} {o : OInfo} (hn : nmFree x = true) (h : ObjRel η G w x o) : ObjRel η' G w x o := by
  cases x with
  | cells T cs =>
    simp only [ObjRel] at h ⊢
    obtain ⟨h0, h1, b, vs, hm, hh, hs⟩ := h
    exact ⟨h0, h1, b, vs, hm, hh, SVRels.nfree cs vs hn hs⟩
  | _ => exact h

/-- Whence a name of the round's comes: (the caller's, the round's). -/
def bkN : List (Nat × Nat) → Nat → Option Nat
  | [], _ => none
  | (c, k) :: r, j => bif eqN k j then some c else bkN r j
/-- A loop's mark: its block for deferred calls. -/
def mΦ (d : Nat) (w : World) (_v : Value) (B : List Nat) : Prop := B = [d] ∧ w.heap[d]? = some (.deferred (some []))
abbrev mT (d : Nat) : TObj := .cust none (fun _ => mΦ d)
def m0Φ (d : Nat) (_w : World) (_v : Value) (B : List Nat) : Prop := B = [d]
abbrev m0T (d : Nat) : TObj := .cust none (fun _ => m0Φ d)
abbrev markD (d : Nat) : Deferred := { target := .collected d, args := #[] }

section
variable {P : Program} {E : Env} {S : SP}

theorem rangeFunc_sound {f : Nat} (hfok : FnOk P f) (hflt : f < 4096) {g : Operand} {ps : Array Tmp} {assign body : Code} {dl : List Deferred} {η₀ : OEnv} {G₀ : Nat → Prop} {w₀ : World} {N : Nat} {st : St} {a : Act} {w : World}
    (hh : Here dl η₀ G₀ w₀ N st a w) {K m TK : Nat} {box : List SV} (hg : opnd (getT st) g = .fn f [.loc K 0]) (hK : getO st K = some (.cells TK box)) (hbox : namesOnlys [] box = true)
    {l : List (Nat × Nat)} {objs objs1 : Objs} {pe : Option Code} (hm : getO st m = none)
    (ho : ∀ k x, lookN k objs = some x → ∃ c y, bkN l k = some c ∧ getO st c = some y ∧ (∀ (η : OEnv) (G : Nat → Prop) (w : World) (o : OInfo), ObjRel η G w y o → ObjRel η G w x o) ∧ flatO x = true ∧ nmFree x = true) (ho' : ∀ k c, bkN l k = some c → ∃ x, lookN k objs = some x)
    (hl1 : ∀ c k, lookN c l = some k ↔ bkN l k = some c) (hlK : lookN K l = none) (hlm : lookN m l = none)
    (ho1 : ∀ k x, lookN k objs1 = some x → (∃ c, bkN l k = some c) ∧ flatO x = true ∧ nmFree x = true) (ho1' : ∀ k c, bkN l k = some c → ∃ x, lookN k objs1 = some x)
    (hit : ∀ (r : RI) (η0 : OEnv), r.tmps = a.tmps → r.ps = ps → r.assign = assign → r.body = body → (∀ k o, η0 k = some o → o.inner = []) → (∀ k o, η0 k = some o → ∃ x, lookN k objs1 = some x) →
      (∀ t k off, getT st t = .loc k off → ∀ j, bkN l j = some k → SVRel η0 (fun _ => False) w (.loc j off) (a.tmps.getD t undef)) →
      SpecX P f [.rv 1000 (fun _ => .func (.yield r.rcd) #[] #[]), .loc 1001 0] [(1000, RJ r η0 none objs), (1001, .cells TK box)] (.tup []) [(1000, RJ r η0 pe objs1), (1001, .cells TK box)])
    {O' : Nat → Objs} (hO : ∀ d c, lookN c (O' d) = if c = m then some (mT d) else match lookN c l with | some k => lookN k objs1 | none => getO st c)
    (hpe : pe = none ∨ pe = some .ret) {nn : Nat} {Q : Exit → Act → World → Prop}
    (hQ : ∀ d a' w', Here (markD d :: dl) η₀ G₀ w₀ N ⟨st.tmps, O' d⟩ a' w' → (pe = none → Q .normal a' w') ∧ (pe = some .ret → Q .ret a' w')) :
    (Code.rangeFunc g ps assign body).wpIn Fence.wide nn P Q a w := by
  obtain ⟨hlen, η, G, H, hev⟩ := hh
  have hfr := opnd_rel H g
  rw [hg] at hfr
  simp only [SVRel] at hfr
  obtain ⟨cvs, hgv, hcvs⟩ := hfr
  rw [fnV_lt hflt] at hgv
  match cvs, hcvs with
  | [vp], hcvs =>
    simp only [SVRels] at hcvs
    have hvp := hcvs.1
    obtain ⟨oK, hoK, hrK⟩ := obj_of H hK
    have hrK' := hrK
    simp only [ObjRel] at hrK
    obtain ⟨dK, iK, bK, vsK, mK, hhK, hsK⟩ := hrK
    refine wpIn_rangeFunc ?_
    intro fn _
    obtain ⟨r, hr⟩ : ∃ r : RI, r = ⟨fn, a.tmps, ps, assign, body, w.heap.size + 1, w.heap.size⟩ := ⟨_, rfl⟩
    obtain ⟨w1, hw1⟩ : ∃ w1, w1 = (w.alloc (.deferred (some []))).alloc (.loop (r.loop .ready none)) := ⟨_, rfl⟩
    have hsz1 : w1.heap.size = w.heap.size + 2 := by rw [hw1]; simp
    have hold1 : ∀ b, b < w.heap.size → w1.heap[b]? = w.heap[b]? := fun b hb => by rw [hw1, old_alloc _ _ _ (by simp; omega), old_alloc _ _ _ hb]
    have hL1 : w1.heap[w.heap.size + 1]? = some (.loop (r.loop .ready none)) := by
      rw [hw1]
      have := World.alloc_heap_new (w.alloc (.deferred (some []))) (.loop (r.loop .ready none)); rwa [World.size_alloc] at this
    have hD1 : w1.heap[w.heap.size]? = some (.deferred (some [])) := by
      rw [hw1, old_alloc _ _ _ (by simp)]; exact World.alloc_heap_new w _
    -- the loop's own objects
    obtain ⟨η0, hη0⟩ : ∃ e : OEnv, e = fun k => (bkN l k).bind η := ⟨_, rfl⟩
    have h0 : ∀ k o, η0 k = some o → ∃ c x, bkN l k = some c ∧ η c = some o ∧ lookN k objs = some x ∧ True ∧ flatO x = true ∧ nmFree x = true ∧ ObjRel η G w x o := fun k o hk => by
      rw [hη0] at hk
      cases hb : bkN l k with
      | none => simp [hb] at hk
      | some c =>
        simp [hb] at hk
        obtain ⟨x, hx⟩ := ho' k c hb
        obtain ⟨c', y, hc', hgo, hcv, hf, hn⟩ := ho k x hx
        rw [hb] at hc'; cases hc'
        obtain ⟨o', ho', hr'⟩ := obj_of H hgo
        rw [hk] at ho'; cases ho'
        exact ⟨c, x, rfl, hk, hx, trivial, hf, hn, hcv _ _ _ _ hr'⟩
    have h0i : ∀ k o, η0 k = some o → o.inner = [] ∧ o.dead = false := fun k o hk => by
      obtain ⟨c, x, _, _, _, _, hf, _, hr'⟩ := h0 k o hk
      exact (hr'.gfree (G' := G) hf).2
    have lt0 : ∀ k o, η0 k = some o → ∀ b ∈ o.main, b < w.heap.size ∧ ¬ G b := fun k o hk b hb => by
      obtain ⟨c, _, _, hc, _⟩ := h0 k o hk
      exact H.sp.lt c o hc b (by simp [hb])
    obtain ⟨sm, hsm⟩ : ∃ sm : List Nat, sm = l.flatMap fun p => match η p.1 with | some o => o.main | none => [] := ⟨_, rfl⟩
    have bk_mem : ∀ (l : List (Nat × Nat)) k c, bkN l k = some c → (c, k) ∈ l := by
      intro l
      induction l with
      | nil => intro k c h; simp [bkN] at h
      | cons p l ih =>
        intro k c h
        obtain ⟨c', k'⟩ := p
        simp only [bkN] at h
        cases hb : eqN k' k with
        | true => rw [hb] at h; simp at h; rw [eqN_eq hb, h]; simp
        | false => rw [hb] at h; exact List.mem_cons_of_mem _ (ih k c h)
    have sm_of : ∀ k o, η0 k = some o → ∀ b ∈ o.main, b ∈ sm := fun k o hk b hb => by
      obtain ⟨c, _, hb', hc, _⟩ := h0 k o hk
      rw [hsm]
      exact List.mem_flatMap.2 ⟨(c, k), bk_mem l k c hb', by simp only [hc]; exact hb⟩
    have lk_in : ∀ c, (∃ k, (c, k) ∈ l) → ∃ k, lookN c l = some k := fun c ⟨k, hk⟩ => by
      cases h : lookN c l with
      | some k => exact ⟨k, rfl⟩
      | none => exact absurd hk (lookN_none.1 h k)
    have sm_in : ∀ b ∈ sm, ∃ k o, η0 k = some o ∧ b ∈ o.main := fun b hb => by
      rw [hsm] at hb
      obtain ⟨p, hp, hb⟩ := List.mem_flatMap.1 hb
      cases hc : η p.1 with
      | none => rw [hc] at hb; cases hb
      | some o =>
        rw [hc] at hb
        obtain ⟨k, hk⟩ := lk_in p.1 ⟨p.2, hp⟩
        have hk := (hl1 _ _).1 hk
        exact ⟨k, o, by rw [hη0]; simp [hk, hc], hb⟩
    obtain ⟨ηc, hηc⟩ : ∃ e : OEnv, e = fun k => if k = 1000 then some ⟨undef, (w.heap.size + 1) :: w.heap.size :: sm, [], false⟩ else if k = 1001 then some oK else none := ⟨_, rfl⟩
    have hc0 : ηc 1000 = some ⟨undef, (w.heap.size + 1) :: w.heap.size :: sm, [], false⟩ := by rw [hηc]; exact if_pos rfl
    have hc1 : ηc 1001 = some oK := by rw [hηc]; rfl
    have hc2 : ∀ k, k ≠ 1000 → k ≠ 1001 → ηc k = none := fun k h h' => by rw [hηc]; show (if _ then _ else if _ then _ else _) = _; rw [if_neg h, if_neg h']
    have hcK : ∀ b ∈ oK.main ++ oK.inner, b < w.heap.size ∧ ¬ G b := fun b hb => H.sp.lt K oK hoK b hb
    -- no block of the loop's objects is one of K's
    have smK : ∀ b ∈ sm, b ∉ oK.main ++ oK.inner := fun b hb hb' => by
      obtain ⟨k, o, hk, hm'⟩ := sm_in b hb
      obtain ⟨c, _, hb0, hc, _⟩ := h0 k o hk
      refine H.sp.dj c o K oK hc hoK (fun e => ?_) b (by simp [hm']) hb'
      have := (hl1 c k).2 hb0
      rw [e, hlK] at this; cases this
    have sm_lt : ∀ b ∈ sm, b < w.heap.size ∧ ¬ G b := fun b hb => by
      obtain ⟨k, o, hk, hm'⟩ := sm_in b hb
      exact lt0 k o hk b hm'
    have hat1 : RAt η0 objs w1 (fun b => b ∈ (w.heap.size + 1) :: w.heap.size :: sm ∧ b ≠ w.heap.size + 1 ∧ b ≠ w.heap.size) η0 := by
      refine ⟨fun k => ?_, fun k o hk => ⟨(h0i k o hk).1, fun b hb => ⟨by simp [sm_of k o hk b hb], ?_, ?_⟩⟩, fun k o k' o' h1 h2 hne b hb hb' => ?_, fun k o hk => ⟨o, hk, fun _ => ⟨(h0i k o hk).2, rfl, Ext.refl _⟩⟩⟩
      · cases hx : lookN k objs with
        | none =>
          cases hk : η0 k with
          | none => trivial
          | some o =>
            obtain ⟨_, x, _, _, hx', _⟩ := h0 k o hk
            rw [hx] at hx'; cases hx'
        | some x =>
          obtain ⟨c, y, hb0, hgo, hcv, hf, hn⟩ := ho k x hx
          obtain ⟨o, hoc, hr'⟩ := obj_of H hgo
          replace hr' := hcv _ _ _ _ hr'
          have hk : η0 k = some o := by rw [hη0]; simp [hb0, hoc]
          rw [hk]
          have h2 := ObjRel.nfree (η' := η0) hn (hr'.gfree (G' := fun _ => False) hf).1
          refine ObjRel.mono (mono_flat fun k o ho => (h0i k o ho).1) (fun b hb => ?_) h2
          rw [(h0i k o hk).1, List.append_nil] at hb
          exact hold1 b (lt0 k o hk b hb).1
      · have := (lt0 k o hk b hb).1; omega
      · have := (lt0 k o hk b hb).1; omega
      · obtain ⟨c, _, hb1, hc, _⟩ := h0 k o h1
        obtain ⟨c', _, hb2, hc', _⟩ := h0 k' o' h2
        refine H.sp.dj c o c' o' hc hc' (fun e => hne ?_) b (by simp [hb]) (by simp [hb'])
        have e1 := (hl1 c k).2 hb1
        have e2 := (hl1 c' k').2 hb2
        rw [e, e2] at e1; exact (Option.some.inj e1).symm
    have hrr : r.rcd = w.heap.size + 1 ∧ r.dblk = w.heap.size := by rw [hr]; exact ⟨rfl, rfl⟩
    have hΦ1 : RΦ r η0 none objs w1 undef ((w.heap.size + 1) :: w.heap.size :: sm) :=
      ⟨by rw [hrr.1]; exact hL1, by rw [hrr.2]; exact hD1, by simp [hrr.1], by simp [hrr.2], by rw [hrr.1, hrr.2]; omega, η0, by rw [hrr.1, hrr.2]; exact hat1⟩
    have hsepc : Sep ηc G w1 := by
      refine ⟨fun k o hk b hb => ?_, fun k o k' o' h1 h2 hne b hb hb' => ?_, fun k o hk b hb hb' => ?_, fun b hb => by have := H.sp.glt b hb; omega⟩
      · by_cases e : k = 1000
        · rw [e, hc0] at hk; cases hk
          simp only [List.append_nil, List.mem_cons] at hb
          rcases hb with rfl | rfl | hb
          · exact ⟨by omega, fun hg => by have := H.sp.glt _ hg; omega⟩
          · exact ⟨by omega, fun hg => by have := H.sp.glt _ hg; omega⟩
          · exact ⟨by have := (sm_lt b hb).1; omega, (sm_lt b hb).2⟩
        · by_cases e' : k = 1001
          · rw [e', hc1] at hk; cases hk
            exact ⟨by have := (hcK b hb).1; omega, (hcK b hb).2⟩
          · rw [hc2 k e e'] at hk; cases hk
      · have key : ∀ b, b ∈ (w.heap.size + 1) :: w.heap.size :: sm → b ∉ oK.main ++ oK.inner := fun b hb hb' => by
          have := (hcK b hb').1
          simp only [List.mem_cons] at hb
          rcases hb with rfl | rfl | hb
          · omega
          · omega
          · exact smK b hb hb'
        by_cases e : k = 1000
        · by_cases e' : k' = 1000
          · exact hne (e.trans e'.symm)
          · by_cases e2 : k' = 1001
            · rw [e, hc0] at h1; rw [e2, hc1] at h2; cases h1; cases h2
              exact key b (by simpa using hb) hb'
            · rw [hc2 k' e' e2] at h2; cases h2
        · by_cases e1 : k = 1001
          · by_cases e' : k' = 1000
            · rw [e1, hc1] at h1; rw [e', hc0] at h2; cases h1; cases h2
              exact key b (by simpa using hb') hb
            · by_cases e2 : k' = 1001
              · exact hne (e1.trans e2.symm)
              · rw [hc2 k' e' e2] at h2; cases h2
          · rw [hc2 k e e1] at h1; cases h1
      · by_cases e : k = 1000
        · rw [e, hc0] at hk; cases hk; cases hb'
        · by_cases e' : k = 1001
          · rw [e', hc1] at hk; cases hk; exact H.sp.mi K oK hoK b hb hb'
          · rw [hc2 k e e'] at hk; cases hk
    have hobc : ∀ k, ObjOpt ηc G w1 (lookN k [(1000, RJ r η0 none objs), (1001, .cells TK box)]) (ηc k) := fun k => by
      by_cases e : k = 1000
      · subst e
        rw [hc0]
        exact ⟨rfl, rfl, fun w' hw' => ⟨hΦ1.keep hw', fun x hx => by cases hx⟩⟩
      · by_cases e' : k = 1001
        · subst e'
          rw [hc1]
          show ObjRel ηc G w1 (.cells TK box) oK
          refine ObjRel.mono (w := w) (η := ηc) (G := G) ⟨fun _ h => h, fun b hb => hold1 b (H.sp.glt b hb), fun k o ho => ⟨o, ho, fun hd => ⟨hd, rfl, Ext.refl _, fun b hb => ⟨hb, ?_⟩⟩⟩⟩ (fun b hb => hold1 b (hcK b hb).1) (ObjRel.nfree (η' := ηc) hbox hrK')
          by_cases e : k = 1000
          · rw [e, hc0] at ho; cases ho; cases hb
          · by_cases e' : k = 1001
            · rw [e', hc1] at ho; cases ho; exact hold1 b (hcK b (by simp [hb])).1
            · rw [hc2 k e e'] at ho; cases ho
        · rw [hc2 k e e']
          have h1 : eqN 1000 k = false := decide_eq_false fun h => e h.symm
          have h2 : eqN 1001 k = false := decide_eq_false fun h => e' h.symm
          simp only [lookN, h1, h2, cond_false]
          trivial
    have htabc : TabOk ηc w1 := by
      refine ⟨by have := H.tb.sz; omega, H.tb.tp.keep fun b hb => hold1 b (Nat.lt_of_lt_of_le hb H.tb.sz), fun k o hk b hb => ?_⟩
      have hz := H.tb.sz
      by_cases e : k = 1000
      · rw [e, hc0] at hk; cases hk
        simp only [List.append_nil, List.mem_cons] at hb
        rcases hb with rfl | rfl | hb
        · omega
        · omega
        · obtain ⟨k, o, hk, hm'⟩ := sm_in b hb
          obtain ⟨c, _, _, hc, _⟩ := h0 k o hk
          exact H.tb.out c o hc b (by simp [hm'])
      · by_cases e' : k = 1001
        · rw [e', hc1] at hk; cases hk; exact H.tb.out K oK hoK b hb
        · rw [hc2 k e e'] at hk; cases hk
    have hcall := hit r η0 (by rw [hr]) (by rw [hr]) (by rw [hr]) (by rw [hr]) (fun k o hk => (h0i k o hk).1)
      (fun k o hk => by obtain ⟨c, _, hb0, _⟩ := h0 k o hk; exact ho1' k c hb0)
      (fun t k off ht j hj => by
        have := H.tm t
        rw [ht] at this
        simp only [SVRel] at this ⊢
        obtain ⟨o, h1, h2, h3⟩ := this
        exact ⟨o, by rw [hη0]; simp [hj, h1], h2, h3⟩)
      ηc G [.func (.yield r.rcd) #[] #[], vp] w1 hsepc hobc (by
        simp only [SVRel] at hvp
        obtain ⟨o, h1, h2, h3⟩ := hvp
        rw [hoK] at h1; cases h1
        refine ⟨⟨rfl, rfl⟩, ⟨_, hc1, h2, h3⟩, trivial⟩) htabc
    rw [runs_calls hflt] at hcall
    refine ⟨w.heap.size + 1, [markD w.heap.size], w1, { target := .fn (.func f) ⟨[vp]⟩, args := #[.func (.yield (w.heap.size + 1)) #[] #[]] }, w1, f, #[.func (.yield (w.heap.size + 1)) #[] #[]] ++ ⟨[vp]⟩, w1, ?_, ?_, fun _ _ => trivial, ?_, fun h => by simp [Fence.wide] at h, ?_⟩
    · rw [hw1, hr]; exact run_enterLoop_outer _ _ _ _ _
    · simp only [resolve, hgv]
      simp [go_sem]
    · simp [invoke, go_sem, run_callFunc hfok]
    have hcall' : Calls P f (#[.func (.yield (w.heap.size + 1)) #[] #[]] ++ ⟨[vp]⟩) w1 fun e w' => ∃ v, e = .returned v ∧ ∃ η' G', SVRel η' G' w' (.tup []) v ∧ (∀ k, ObjOpt η' G' w' (lookN k [(1000, RJ r η0 pe objs1), (1001, .cells TK box)]) (η' k)) ∧ Sep η' G' w' ∧ Evol ηc G w1 η' G' w' := by
      have e1 : (#[.func (.yield (w.heap.size + 1)) #[] #[]] ++ ⟨[vp]⟩ : Array Value) = ⟨[.func (.yield r.rcd) #[] #[], vp]⟩ := by rw [hrr.1]; rfl
      rw [e1]
      rcases hcall with ⟨_, h⟩ | ⟨v, w', h, _⟩
      · exact h
      · rw [run_callFunc hfok] at h; cases h
    refine callsIn_wide.2 (hcall'.mono ?_)
    rintro e w3 ⟨v, rfl, η', G', -, hob3, hsep3, E⟩
    -- what the loop's record knows behind the call
    have h1000 := hob3 1000
    rw [show lookN 1000 [((1000 : Nat), RJ r η0 pe objs1), (1001, .cells TK box)] = some (RJ r η0 pe objs1) from rfl] at h1000
    have h1001 := hob3 1001
    rw [show lookN 1001 [((1000 : Nat), RJ r η0 pe objs1), (1001, .cells TK box)] = some (.cells TK box) from rfl] at h1001
    cases ho3 : η' 1000 with
    | none => rw [ho3] at h1000; exact h1000.elim
    | some o3 =>
    cases hoK3 : η' 1001 with
    | none => rw [hoK3] at h1001; exact h1001.elim
    | some oK3 =>
    rw [ho3] at h1000
    rw [hoK3] at h1001
    obtain ⟨hd3, hin3, hq3⟩ := h1000
    obtain ⟨hrec3, hdb3, mr3, md3, hne3, ηS, hat3⟩ := (hq3 w3 fun _ _ => rfl).1
    have hK3 : ObjRel η' G' w3 (.cells TK box) oK3 := h1001
    have hK3' := hK3
    simp only [ObjRel] at hK3'
    obtain ⟨dK3, iK3, bK3, vsK3, mK3, hhK3, hsK3⟩ := hK3'
    have hrun := run_endLoop (P := P) hrec3 (by show pendSt pe ≠ .busy; unfold pendSt; split <;> simp)
    obtain ⟨w4, hw4⟩ : ∃ w4, w4 = w3.putObj r.rcd (.loop { r.loop (pendSt pe) pe with state := .exhausted }) := ⟨_, rfl⟩
    rw [← hw4] at hrun
    have hsz4 : w4.heap.size = w3.heap.size := by rw [hw4]; simp
    have hoth4 : ∀ c, c ≠ r.rcd → w4.heap[c]? = w3.heap[c]? := fun c hc => by rw [hw4]; exact World.putObj_heap_other hc
    have hs3 : w.heap.size + 2 ≤ w3.heap.size := by have := E.size; omega
    rw [show (w.heap.size + 1 : Nat) = r.rcd from hrr.1.symm]
    refine ⟨pe, w4, hrun, ?_⟩
    -- the new state
    obtain ⟨η5, hη5⟩ : ∃ e : OEnv, e = fun c => if c = m then some ⟨undef, [r.dblk], [], false⟩ else match lookN c l with | some k => ηS k | none => if c = K then some oK3 else η c := ⟨_, rfl⟩
    have hmK : m ≠ K := fun e => by rw [e, hK] at hm; cases hm
    have hηm : η m = none := by
      have := H.ob m
      rw [hm] at this
      cases h : η m with
      | none => rfl
      | some o => rw [h] at this; exact this.elim
    have h5m : η5 m = some ⟨undef, [r.dblk], [], false⟩ := by rw [hη5]; exact if_pos rfl
    have h5l : ∀ c k, lookN c l = some k → η5 c = ηS k := fun c k h => by
      have : c ≠ m := fun e => by rw [e, hlm] at h; cases h
      rw [hη5]; simp only [if_neg this, h]
    have h5K : η5 K = some oK3 := by
      rw [hη5]; simp only [if_neg (Ne.symm hmK), hlK, if_true]
    have h5o : ∀ c, c ≠ m → lookN c l = none → c ≠ K → η5 c = η c := fun c h1 h2 h3 => by
      rw [hη5]; simp only [if_neg h1, h2, if_neg h3]
    have lk0 : ∀ c k, lookN c l = some k → η0 k = η c := fun c k h => by
      rw [hη0]; simp [(hl1 c k).1 h]
    -- where a block of the callee's objects comes from
    have inC : ∀ b, (∃ k o, ηc k = some o ∧ b ∈ o.main ++ o.inner) → w.heap.size ≤ b ∨ (∃ c o, η c = some o ∧ (c = K ∨ ∃ k, lookN c l = some k) ∧ b ∈ o.main ++ o.inner) := by
      rintro b ⟨k, o, hk, hb⟩
      by_cases e : k = 1000
      · rw [e, hc0] at hk; cases hk
        simp only [List.append_nil, List.mem_cons] at hb
        rcases hb with rfl | rfl | hb
        · left; omega
        · left; omega
        · obtain ⟨k, o, hk, hm'⟩ := sm_in b hb
          obtain ⟨c, _, hb0, hc, _⟩ := h0 k o hk
          exact .inr ⟨c, o, hc, .inr ⟨k, (hl1 c k).2 hb0⟩, by simp [hm']⟩
      · by_cases e' : k = 1001
        · rw [e', hc1] at hk; cases hk
          exact .inr ⟨K, oK, hoK, .inl rfl, hb⟩
        · rw [hc2 k e e'] at hk; cases hk
    have outC : ∀ b, b < w.heap.size → (∀ c o, η c = some o → (c = K ∨ ∃ k, lookN c l = some k) → b ∉ o.main ++ o.inner) → (∀ k o, ηc k = some o → b ∉ o.main ++ o.inner) := fun b hb hn k o hk hm' => by
      rcases inC b ⟨k, o, hk, hm'⟩ with h | ⟨c, o, h1, h2, h3⟩
      · omega
      · exact hn c o h1 h2 h3
    have stay : ∀ b, b < w.heap.size → (∀ c o, η c = some o → (c = K ∨ ∃ k, lookN c l = some k) → b ∉ o.main ++ o.inner) → w4.heap[b]? = w.heap[b]? := fun b hb hn => by
      rw [hoth4 b (by rw [hrr.1]; omega), E.keep b (by omega) (outC b hb hn), hold1 b hb]
    have from3 : ∀ k o, η' k = some o → ∀ b ∈ o.main ++ o.inner, w.heap.size ≤ b ∨ (∃ c o, η c = some o ∧ (c = K ∨ ∃ k, lookN c l = some k) ∧ b ∈ o.main ++ o.inner) := fun k o hk b hb => by
      rcases E.blk k o hk b hb with h | h
      · left; omega
      · exact inC b h
    have fromG : ∀ b, G' b → G b ∨ w.heap.size ≤ b ∨ (∃ c o, η c = some o ∧ (c = K ∨ ∃ k, lookN c l = some k) ∧ b ∈ o.main ++ o.inner) := fun b hb => by
      rcases E.g' b hb with h | h | h
      · exact .inl h
      · right; left; omega
      · exact .inr (inC b h)
    -- the other objects
    have oth : ∀ c o, η c = some o → c ≠ K → lookN c l = none → ∀ b ∈ o.main ++ o.inner, b < w.heap.size ∧ ¬ G b ∧ (∀ c' o', η c' = some o' → (c' = K ∨ ∃ k, lookN c' l = some k) → b ∉ o'.main ++ o'.inner) := fun c o hc h1 h2 b hb => by
      refine ⟨(H.sp.lt c o hc b hb).1, (H.sp.lt c o hc b hb).2, fun c' o' hc' hk hb' => ?_⟩
      refine H.sp.dj c o c' o' hc hc' (fun e => ?_) b hb hb'
      rcases hk with rfl | ⟨k, hk⟩
      · exact h1 e
      · rw [← e, h2] at hk; cases hk
    have oth' : ∀ c o, η c = some o → c ≠ K → lookN c l = none → ∀ b ∈ o.main ++ o.inner, w4.heap[b]? = w.heap[b]? ∧ ¬ G' b ∧ ∀ k o', η' k = some o' → b ∉ o'.main ++ o'.inner := fun c o hc h1 h2 b hb => by
      obtain ⟨hlt, hg, hn⟩ := oth c o hc h1 h2 b hb
      refine ⟨stay b hlt hn, fun hg' => ?_, fun k o' hk hb' => ?_⟩
      · rcases fromG b hg' with h | h | ⟨c', o', q1, q2, q3⟩
        · exact hg h
        · omega
        · exact hn c' o' q1 q2 q3
      · rcases from3 k o' hk b hb' with h | ⟨c', o', q1, q2, q3⟩
        · omega
        · exact hn c' o' q1 q2 q3
    -- the four kinds of objects
    have kind : ∀ c o, η5 c = some o → (c = m ∧ o = ⟨undef, [r.dblk], [], false⟩) ∨ (∃ k, lookN c l = some k ∧ c ≠ m ∧ ηS k = some o) ∨ (c = K ∧ o = oK3) ∨ (c ≠ m ∧ c ≠ K ∧ lookN c l = none ∧ η c = some o) := fun c o hc => by
      by_cases e : c = m
      · rw [e, h5m] at hc; cases hc; exact .inl ⟨e, rfl⟩
      · cases hk : lookN c l with
        | some k => rw [h5l c k hk] at hc; exact .inr (.inl ⟨k, rfl, e, hc⟩)
        | none =>
          by_cases e' : c = K
          · rw [e', h5K] at hc; cases hc; exact .inr (.inr (.inl ⟨e', rfl⟩))
          · rw [h5o c e hk e'] at hc; exact .inr (.inr (.inr ⟨e, e', rfl, hc⟩))
    have iS : ∀ k o, ηS k = some o → o.inner = [] := fun k o hk => (hat3.ins k o hk).1
    have mS : ∀ k o, ηS k = some o → ∀ b ∈ o.main, b ∈ o3.main ∧ b ≠ r.rcd ∧ b ≠ r.dblk := fun k o hk b hb => (hat3.ins k o hk).2 b hb
    -- blocks of the loop's
    have b3 : ∀ b ∈ o3.main, b < w3.heap.size ∧ ¬ G' b := fun b hb => hsep3.lt 1000 o3 ho3 b (by simp [hb])
    have bK : ∀ b ∈ oK3.main ++ oK3.inner, b < w3.heap.size ∧ ¬ G' b ∧ b ∉ o3.main := fun b hb => ⟨(hsep3.lt 1001 oK3 hoK3 b hb).1, (hsep3.lt 1001 oK3 hoK3 b hb).2, fun hb' => hsep3.dj 1001 oK3 1000 o3 hoK3 ho3 (by decide) b hb (by simp [hb'])⟩
    have hM : Mono η G w η5 G' w4 := by
      refine ⟨E.g, fun b hb => stay b (H.sp.glt b hb) fun c o hc _ hm' => (H.sp.lt c o hc b hm').2 hb, fun c o hc => ?_⟩
      by_cases e : c = m
      · rw [e, hηm] at hc; cases hc
      · cases hk : lookN c l with
        | some k =>
          obtain ⟨o', h1, h2⟩ := hat3.old k o (by rw [lk0 c k hk]; exact hc)
          refine ⟨o', by rw [h5l c k hk]; exact h1, fun hd => ⟨(h2 hd).1, (h2 hd).2.1, (h2 hd).2.2, fun b hb => ?_⟩⟩
          rw [(h0i k o (by rw [lk0 c k hk]; exact hc)).1] at hb; cases hb
        | none =>
          by_cases e' : c = K
          · rw [e', hoK] at hc; cases hc
            obtain ⟨o', h1, h2⟩ := E.obj 1001 oK hc1
            rw [hoK3] at h1; cases h1
            exact ⟨oK3, by rw [e']; exact h5K, fun hd => ⟨(h2 hd).1, (h2 hd).2.1, (h2 hd).2.2.1, fun b hb => by rw [iK] at hb; cases hb⟩⟩
          · exact ⟨o, by rw [h5o c e hk e']; exact hc, fun hd => ⟨hd, rfl, Ext.refl _, fun b hb => ⟨hb, (oth' c o hc e' hk b (by simp [hb])).1⟩⟩⟩
    have hEv : Evol η G w η5 G' w4 := by
      refine ⟨?_, ?_, ?_, by omega, fun b hb hn => stay b hb fun c o hc _ => hn c o hc, fun k o hk => hM.obj k o hk, E.g, fun b hb => ?_, fun c o hc b hb => ?_⟩
      · rw [hw4]; show w3.os = w.os; rw [E.os, hw1]; rfl
      · rw [hw4]; show w3.tape = w.tape; rw [E.tape, hw1]; rfl
      · rw [hw4]; show w3.output = w.output; rw [E.out, hw1]; rfl
      · rcases fromG b hb with h | h | ⟨c, o, h1, _, h3⟩
        · exact .inl h
        · exact .inr (.inl h)
        · exact .inr (.inr ⟨c, o, h1, h3⟩)
      · have fin : (w.heap.size ≤ b ∨ (∃ c o, η c = some o ∧ (c = K ∨ ∃ k, lookN c l = some k) ∧ b ∈ o.main ++ o.inner)) → w.heap.size ≤ b ∨ ∃ k₀ o₀, η k₀ = some o₀ ∧ b ∈ o₀.main ++ o₀.inner := by
          rintro (h | ⟨c, o, h1, _, h3⟩)
          · exact .inl h
          · exact .inr ⟨c, o, h1, h3⟩
        rcases kind c o hc with ⟨_, rfl⟩ | ⟨k, hk, _, hS⟩ | ⟨_, rfl⟩ | ⟨_, _, _, hc⟩
        · simp only [List.append_nil, List.mem_singleton] at hb; left; omega
        · rw [iS k o hS, List.append_nil] at hb
          exact fin (from3 1000 o3 ho3 b (by simp [(mS k o hS b hb).1]))
        · exact fin (from3 1001 _ hoK3 b hb)
        · exact .inr ⟨c, o, hc, hb⟩
    have hSep5 : Sep η5 G' w4 := by
      have lt5 : ∀ c o, η5 c = some o → ∀ b ∈ o.main ++ o.inner, b < w4.heap.size ∧ ¬ G' b := fun c o hc b hb => by
        rw [hsz4]
        rcases kind c o hc with ⟨_, rfl⟩ | ⟨k, hk, _, hS⟩ | ⟨_, rfl⟩ | ⟨_, h1, h2, hc⟩
        · simp only [List.append_nil, List.mem_singleton] at hb; rw [hb]; exact b3 _ md3
        · rw [iS k o hS, List.append_nil] at hb; exact b3 b (mS k o hS b hb).1
        · exact ⟨(bK b hb).1, (bK b hb).2.1⟩
        · exact ⟨by have := (oth c o hc h1 h2 b hb).1; omega, (oth' c o hc h1 h2 b hb).2.1⟩
      have in3 : ∀ c o, η5 c = some o → c ≠ K → (c = m ∨ ∃ k, lookN c l = some k) → ∀ b ∈ o.main ++ o.inner, b ∈ o3.main := fun c o hc hcK hk b hb => by
        rcases kind c o hc with ⟨_, rfl⟩ | ⟨k, hk, _, hS⟩ | ⟨e, rfl⟩ | ⟨h0, h1, h2, hc⟩
        · simp only [List.append_nil, List.mem_singleton] at hb; rw [hb]; exact md3
        · rw [iS k o hS, List.append_nil] at hb; exact (mS k o hS b hb).1
        · exact absurd e hcK
        · rcases hk with e | ⟨k, hk⟩
          · exact absurd e h0
          · rw [h2] at hk; cases hk
      -- one of each two kinds
      have two : ∀ c o c' o', η5 c = some o → η5 c' = some o' → c ≠ c' → ∀ b, b ∈ o.main ++ o.inner → b ∈ o'.main ++ o'.inner → False := by
        intro c o c' o' hc hc' hne b hb hb'
        have hc0 := hc; have hc0' := hc'
        rcases kind c o hc with ⟨e, q⟩ | ⟨k, hk, hcm, hS⟩ | ⟨e, q⟩ | ⟨n1, n2, n3, hc⟩ <;> rcases kind c' o' hc' with ⟨e', q'⟩ | ⟨k', hk', hcm', hS'⟩ | ⟨e', q'⟩ | ⟨n1', n2', n3', hc'⟩
        · exact hne (e.trans e'.symm)
        · rw [q] at hb
          simp only [List.append_nil, List.mem_singleton] at hb
          rw [iS k' o' hS', List.append_nil] at hb'
          exact (mS k' o' hS' b hb').2.2 hb
        · have h3 := in3 c o hc0 (by rw [e]; exact hmK) (.inl e) b hb
          rw [q'] at hb'
          exact (bK b hb').2.2 h3
        · have h3 := in3 c o hc0 (by rw [e]; exact hmK) (.inl e) b hb
          exact (oth' c' o' hc' n2' n3' b hb').2.2 1000 o3 ho3 (by simp [h3])
        · rw [q'] at hb'
          simp only [List.append_nil, List.mem_singleton] at hb'
          rw [iS k o hS, List.append_nil] at hb
          exact (mS k o hS b hb).2.2 hb'
        · rw [iS k o hS, List.append_nil] at hb
          rw [iS k' o' hS', List.append_nil] at hb'
          refine hat3.dj k o k' o' hS hS' (fun e => hne ?_) b hb hb'
          have e1 := (hl1 c k).1 hk
          have e2 := (hl1 c' k').1 hk'
          rw [e, e2] at e1; exact (Option.some.inj e1).symm
        · rw [iS k o hS, List.append_nil] at hb
          rw [q'] at hb'
          exact (bK b hb').2.2 (mS k o hS b hb).1
        · rw [iS k o hS, List.append_nil] at hb
          exact (oth' c' o' hc' n2' n3' b hb').2.2 1000 o3 ho3 (by simp [(mS k o hS b hb).1])
        · have h3 := in3 c' o' hc0' (by rw [e']; exact hmK) (.inl e') b hb'
          rw [q] at hb
          exact (bK b hb).2.2 h3
        · rw [iS k' o' hS', List.append_nil] at hb'
          rw [q] at hb
          exact (bK b hb).2.2 (mS k' o' hS' b hb').1
        · exact hne (e.trans e'.symm)
        · rw [q] at hb
          exact (oth' c' o' hc' n2' n3' b hb').2.2 1001 oK3 hoK3 hb
        · have h3 := in3 c' o' hc0' (by rw [e']; exact hmK) (.inl e') b hb'
          exact (oth' c o hc n2 n3 b hb).2.2 1000 o3 ho3 (by simp [h3])
        · rw [iS k' o' hS', List.append_nil] at hb'
          exact (oth' c o hc n2 n3 b hb).2.2 1000 o3 ho3 (by simp [(mS k' o' hS' b hb').1])
        · rw [q'] at hb'
          exact (oth' c o hc n2 n3 b hb).2.2 1001 oK3 hoK3 hb'
        · exact H.sp.dj c o c' o' hc hc' hne b hb hb'
      refine ⟨lt5, fun k o k' o' h1 h2 hne b hb hb' => two k o k' o' h1 h2 hne b hb hb', fun c o hc b hb hb' => ?_, fun b hb => by rw [hsz4]; exact hsep3.glt b hb⟩
      rcases kind c o hc with ⟨_, rfl⟩ | ⟨k, hk, _, hS⟩ | ⟨_, rfl⟩ | ⟨_, h1, h2, hc⟩
      · cases hb'
      · rw [iS k o hS] at hb'; cases hb'
      · rw [iK3] at hb'; cases hb'
      · exact H.sp.mi c o hc b hb hb'
    have hob5 : ∀ c, ObjOpt η5 G' w4 (lookN c (O' r.dblk)) (η5 c) := fun c => by
      rw [hO]
      by_cases e : c = m
      · rw [if_pos e, e, h5m]
        refine ⟨rfl, rfl, fun w' hw' => ⟨⟨rfl, ?_⟩, fun x hx => by cases hx⟩⟩
        rw [hw' r.dblk (by simp), hoth4 _ (fun e => hne3 e.symm)]; exact hdb3
      · rw [if_neg e]
        cases hk : lookN c l with
        | some k =>
          show ObjOpt η5 G' w4 (lookN k objs1) (η5 c)
          rw [h5l c k hk]
          have := hat3.ob k
          cases hx : lookN k objs1 with
          | none => rw [hx] at this; cases hS : ηS k with
            | none => trivial
            | some o => rw [hS] at this; exact this.elim
          | some x => rw [hx] at this; cases hS : ηS k with
            | none => rw [hS] at this; exact this.elim
            | some o =>
              rw [hS] at this
              obtain ⟨_, hf, hn⟩ := ho1 k x hx
              have h2 : ObjRel ηS (fun _ => False) w4 x o := ObjRel.mono (mono_flat iS) (fun b hb => by
                rw [iS k o hS, List.append_nil] at hb
                exact hoth4 b (mS k o hS b hb).2.1) this
              exact ObjRel.nfree hn (h2.gfree hf).1
        | none =>
          show ObjOpt η5 G' w4 (getO st c) (η5 c)
          by_cases e' : c = K
          · rw [e', h5K, hK]
            have hcl : ∀ b, b ∈ o3.main ∨ b ∈ oK3.main ++ oK3.inner → True := fun _ _ => trivial
            have h2 : ObjRel η5 G' w3 (.cells TK box) oK3 := ObjRel.nfree hbox hK3
            simp only [ObjRel] at h2 ⊢
            obtain ⟨q1, q2, b, vs, q3, q4, q5⟩ := h2
            refine ⟨q1, q2, b, vs, q3, ?_, ?_⟩
            · rw [hoth4 b (fun e => (bK b (by simp [q3])).2.2 (e ▸ mr3))]; exact q4
            · have hnr : ∀ (s : SV) (v : Value), namesOnly [] s = true → SVRel η' G' w3 s v → SVRel η' G' w4 s v := fun s v _ hv => by
                refine SVRel.mono ⟨fun _ h => h, fun b hb => hoth4 b fun e => (b3 _ mr3).2 (e ▸ hb), fun k o hk => ⟨o, hk, fun hd => ⟨hd, rfl, Ext.refl _, fun b hb => ⟨hb, hoth4 b fun e => ?_⟩⟩⟩⟩ s v hv
                by_cases e0 : k = 1000
                · rw [e0, ho3] at hk; cases hk; rw [hin3] at hb; cases hb
                · exact hsep3.dj k o 1000 o3 hk ho3 e0 b (by simp [hb]) (by simp [e, mr3])
              have hsK := SVRels.mono (η := η') (G := G') (w := w3) (η' := η') (G' := G') (w' := w4) ⟨fun _ h => h, fun b hb => hoth4 b fun e => (b3 _ mr3).2 (e ▸ hb), fun k o hk => ⟨o, hk, fun hd => ⟨hd, rfl, Ext.refl _, fun b hb => ⟨hb, hoth4 b fun e => by
                by_cases e0 : k = 1000
                · rw [e0, ho3] at hk; cases hk; rw [hin3] at hb; cases hb
                · exact hsep3.dj k o 1000 o3 hk ho3 e0 b (by simp [hb]) (by simp [e, mr3])⟩⟩⟩⟩ box vsK3 hsK3
              rw [mK3] at q3
              cases q3
              rw [hhK3] at q4
              cases q4
              exact SVRels.nfree box _ hbox hsK
          · rw [h5o c e hk e']
            have := H.ob c
            cases hx : getO st c with
            | none => rw [hx] at this; cases hc : η c with
              | none => trivial
              | some o => rw [hc] at this; exact this.elim
            | some x => rw [hx] at this; cases hc : η c with
              | none => rw [hc] at this; exact this.elim
              | some o =>
                rw [hc] at this
                exact ObjRel.mono hM (fun b hb => (oth' c o hc e' hk b hb).1) this
    have hfin : Here (markD r.dblk :: dl) η₀ G₀ w₀ N ⟨st.tmps, O' r.dblk⟩ { a with defers := markD r.dblk :: a.defers } w4 :=
      ⟨hlen, η5, G', ⟨H.sz, by rw [H.df], fun t => SVRel.mono hM _ _ (H.tm t), hob5, hSep5, H.tb.evol hEv⟩, hev.trans hEv⟩
    have hmk : ({ a with defers := [markD w.heap.size] ++ a.defers } : Act) = { a with defers := markD r.dblk :: a.defers } := by rw [hrr.2]; rfl
    rw [hmk]
    obtain ⟨hQ1, hQ2⟩ := hQ r.dblk _ w4 hfin
    rcases hpe with rfl | rfl
    · exact hQ1 rfl
    · exact wpIn_ret (hQ2 rfl)
  | [], h => exact h.elim
  | _ :: _ :: _, h => exact h.2.elim
end
end Go.SX

/- SX: functions that range over functions: their marks; their contracts. -/
namespace Go.SX
section
variable {P : Program} {E : Env} {S : SP}

/-- A mark is come to. -/
theorem here_mark {dl : List Deferred} {η₀ : OEnv} {G₀ : Nat → Prop} {w₀ : World} {N d m : Nat} {st : St} {a : Act} {w : World} (hh : Here (markD d :: dl) η₀ G₀ w₀ N st a w) (hm : getO st m = some (mT d))
    {O' : Objs} (hO : ∀ c, lookN c O' = if c = m then some (m0T d) else getO st c) : ∃ w', (Instr.takeDeferred d).run P w = .ok [] w' ∧ Here dl η₀ G₀ w₀ N ⟨st.tmps, O'⟩ { a with defers := dl } w' := by
  obtain ⟨hlen, η, G, H, hev⟩ := hh
  obtain ⟨o, ho, hr⟩ := obj_of H hm
  obtain ⟨hd, hi, hq⟩ := hr
  obtain ⟨hB, hw⟩ := (hq w fun _ _ => rfl).1
  have hlt := H.sp.lt m o ho d (by simp [hB])
  refine ⟨_, run_takeDeferred hw, ?_⟩
  obtain ⟨w', hw'⟩ : ∃ w', w' = w.putObj d (.deferred none) := ⟨_, rfl⟩
  rw [← hw']
  have hoth : ∀ c, c ≠ d → w'.heap[c]? = w.heap[c]? := fun c hc => by rw [hw']; exact World.putObj_heap_other hc
  have hno : ∀ k o', η k = some o' → k ≠ m → d ∉ o'.main ++ o'.inner := fun k o' hk hne hc => H.sp.dj m o k o' ho hk (Ne.symm hne) d (by simp [hB]) hc
  have hM : Mono η G w η G w' := ⟨fun _ h => h, fun b hb => hoth b fun e => hlt.2 (e ▸ hb), fun k o' hk => ⟨o', hk, fun hd => ⟨hd, rfl, Ext.refl _, fun b hb => ⟨hb, hoth b fun e => by
    by_cases h : k = m
    · rw [h, ho] at hk; cases hk; rw [hi] at hb; cases hb
    · exact hno k o' hk h (by simp [← e, hb])⟩⟩⟩⟩
  have hEv : Evol η G w η G w' := by
    refine ⟨by rw [hw']; rfl, by rw [hw']; rfl, by rw [hw']; rfl, by rw [hw']; simp, fun b hb hn => hoth b fun e => hn m o ho (by simp [hB, e]), hM.obj, fun _ h => h, fun b hb => .inl hb, fun k o' hk b hb => .inr ⟨k, o', hk, hb⟩⟩
  refine ⟨hlen, η, G, ⟨H.sz, rfl, fun t => SVRel.mono hM _ _ (H.tm t), fun c => ?_, ⟨fun k o' hk b hb => ⟨Nat.lt_of_lt_of_le (H.sp.lt k o' hk b hb).1 hEv.size, (H.sp.lt k o' hk b hb).2⟩, H.sp.dj, H.sp.mi, fun b hb => Nat.lt_of_lt_of_le (H.sp.glt b hb) hEv.size⟩, H.tb.evol hEv⟩, hev.trans hEv⟩
  show ObjOpt η G w' (lookN c O') (η c)
  rw [hO]
  by_cases e : c = m
  · rw [if_pos e, e, ho]
    exact ⟨hd, hi, fun w2 _ => ⟨hB, fun x hx => by cases hx⟩⟩
  · rw [if_neg e]
    have := H.ob c
    cases hx : getO st c with
    | none => rw [hx] at this; cases hc : η c with
      | none => trivial
      | some o => rw [hc] at this; exact this.elim
    | some x => rw [hx] at this; cases hc : η c with
      | none => rw [hc] at this; exact this.elim
      | some o' =>
        rw [hc] at this
        exact ObjRel.mono hM (fun b hb => hoth b fun e' => hno c o' hc e (e' ▸ hb)) this

/-- What a contract says of a call's end. -/
def REnd (η : OEnv) (G : Nat → Prop) (w : World) (r : SV) (objs' : Objs) (e : Ending) (w' : World) : Prop :=
  ∃ η' G' v, e = .returned v ∧ SVRel η' G' w' r v ∧ (∀ k, ObjOpt η' G' w' (lookN k objs') (η' k)) ∧ Sep η' G' w' ∧ Evol η G w η' G' w'

theorem leave0 (hE : EOk P E) {η₀ : OEnv} {G₀ : Nat → Prop} {w₀ : World} {N : Nat} (hb : ∀ k o, η₀ k = some o → isBor k = true) {st : St} {a : Act} {w : World} (hh : Here [] η₀ G₀ w₀ N st a w) {fn : Func} {r : SV} {objs' : Objs}
    (h : RetVC E fn.results.toList st r objs') {F : Fence} {n : Nat} : LeavesInM F n P fn a.tmps (REnd η₀ G₀ w₀ r objs') [] .returning w := by
  obtain ⟨h1, v, h2, η', G', h3, h4, h5, h6⟩ := ret_sound hE hb hh h
  exact ⟨v, h2, η', G', v, rfl, h3, h4, h5, h6⟩
theorem leave1 (hE : EOk P E) {η₀ : OEnv} {G₀ : Nat → Prop} {w₀ : World} {N d m : Nat} (hb : ∀ k o, η₀ k = some o → isBor k = true) {st : St} {a : Act} {w : World} (hh : Here [markD d] η₀ G₀ w₀ N st a w) (hm : getO st m = some (mT d))
    {O' : Objs} (hO : ∀ c, lookN c O' = if c = m then some (m0T d) else getO st c) {fn : Func} {r : SV} {objs' : Objs}
    (h : RetVC E fn.results.toList ⟨st.tmps, O'⟩ r objs') {F : Fence} {n : Nat} : LeavesInM F n P fn a.tmps (REnd η₀ G₀ w₀ r objs') [markD d] .returning w := by
  obtain ⟨w', h1, h2⟩ := here_mark (P := P) hh hm hO
  exact ⟨by simp, .inl ⟨d, w', rfl, h1, leave0 hE hb h2 h⟩⟩
theorem leave2 (hE : EOk P E) {η₀ : OEnv} {G₀ : Nat → Prop} {w₀ : World} {N d m d' m' : Nat} (hb : ∀ k o, η₀ k = some o → isBor k = true) {st : St} {a : Act} {w : World} (hh : Here [markD d, markD d'] η₀ G₀ w₀ N st a w) (hm : getO st m = some (mT d)) (hm' : getO st m' = some (mT d')) (hne : m' ≠ m)
    {O1 O' : Objs} (hO1 : ∀ c, lookN c O1 = if c = m then some (m0T d) else getO st c) (hO : ∀ c, lookN c O' = if c = m' then some (m0T d') else lookN c O1) {fn : Func} {r : SV} {objs' : Objs}
    (h : RetVC E fn.results.toList ⟨st.tmps, O'⟩ r objs') {F : Fence} {n : Nat} : LeavesInM F n P fn a.tmps (REnd η₀ G₀ w₀ r objs') [markD d, markD d'] .returning w := by
  obtain ⟨w', h1, h2⟩ := here_mark (P := P) hh hm hO1
  refine ⟨by simp, .inl ⟨d, w', rfl, h1, ?_⟩⟩
  exact leave1 hE hb h2 (m := m') (st := ⟨st.tmps, O1⟩) (a := { a with defers := [markD d'] }) (by show lookN m' O1 = _; rw [hO1, if_neg hne]; exact hm') (O' := O') hO h

/-- A contract, by a walk that the caller makes. -/
theorem spec_of_marks {f : Nat} {fn : Func} {body : Code} (hf : P.funcs[f]? = some fn) (hbd : fn.body = some body) {svs : List SV} {objs : Objs} {r : SV} {objs' : Objs}
    (hn : leN svs.length fn.ntmps = true) (ho : borNames objs = true)
    (h : ∀ (η : OEnv) (G : Nat → Prop) (w : World) (a : Act), (∀ k o, η k = some o → isBor k = true) → Here [] η G w fn.ntmps (st0 fn.ntmps svs objs) a w → body.wpIn (fen none) 0 P (bodyPostM (fen none) 0 P fn (REnd η G w r objs')) a w) : Spec P f svs objs r objs' := by
  intro η G vs w hsep hob hs htab
  have hlen := SVRels.length hs
  have hn : svs.length ≤ fn.ntmps := by simpa [leN_iff, ltN_iff] using hn
  have hbor : ∀ k o, η k = some o → isBor k = true := by
    intro k o hk
    have := hob k
    rw [hk] at this
    cases hl : lookN k objs with
    | none => rw [hl] at this; exact this.elim
    | some x => exact borNames_spec ho (lookN_mem hl)
  refine (callsIn_wide (n := 0)).1 (callsIn_of_wp_marks hf hbd trivial ?_)
  refine h η G w _ hbor ⟨?_, η, G, ⟨?_, rfl, ?_, hob, hsep, htab⟩, Evol.refl η G w⟩
  · simp [st0]; omega
  · simp [st0, hlen]
  · intro t
    simp only [getT, st0]
    rw [nthD_append]
    split
    · rename_i ht
      obtain ⟨v, hv, hr⟩ := SVRels.nth t hs ht
      have : (vs.toArray ++ Array.replicate (fn.ntmps - vs.toArray.size) undef).getD t undef = v := by
        have ht' : t < vs.length := by omega
        simp only [Array.getD_eq_getD_getElem?, Array.getElem?_append]
        rw [if_pos (by simpa [leN_iff, ltN_iff] using ht')]
        simp [hv]
      exact this ▸ hr
    · rw [nthD_replicate]; simp [SVRel]

/-- What goes on behind a piece of code. -/
structure KW (dl : List Deferred) (η₀ : OEnv) (G₀ : Nat → Prop) (w₀ : World) (N : Nat) (Z : Exit → Act → World → Prop) (ex : Exit) (st : St) : Prop where
  h : ∀ a w, Here dl η₀ G₀ w₀ N st a w → Z ex a w
theorem seq_vc (hE : EOk P E) (hR : ∀ f svs objs X r objs', E.raw f svs objs X r objs' → SpecG P f svs objs X r objs') (hmix : P.follows .mixedOrders = true) (hS : ∀ f svs objs r objs', S f svs objs r objs' → SpecX P f svs objs r objs')
    {dl : List Deferred} {η₀ : OEnv} {G₀ : Nat → Prop} {w₀ : World} (hb : ∀ k o, η₀ k = some o → isBor k = true) {N nn : Nat} {A rest : Code} {Q : Exit → Act → World → Prop} {st : St} {a : Act} {w : World} (hh : Here dl η₀ G₀ w₀ N st a w)
    (h : ∀ Z : Exit → Act → World → Prop, Z = Exit.then (fun a w => rest.wpIn (fen none) nn P Q a w) Q → vc S E A st (KW dl η₀ G₀ w₀ N Z)) : (A.seq rest).wpIn (fen none) nn P Q a w :=
  wpIn_seq (vc_soundIn hE hR hmix hS hb (ro := none) A st _ _ a w (h _ rfl) hh fun _ _ _ _ hk hh => hk.h _ _ hh)
theorem last_vc (hE : EOk P E) (hR : ∀ f svs objs X r objs', E.raw f svs objs X r objs' → SpecG P f svs objs X r objs') (hmix : P.follows .mixedOrders = true) (hS : ∀ f svs objs r objs', S f svs objs r objs' → SpecX P f svs objs r objs')
    {dl : List Deferred} {η₀ : OEnv} {G₀ : Nat → Prop} {w₀ : World} (hb : ∀ k o, η₀ k = some o → isBor k = true) {N nn : Nat} {A : Code} {Q : Exit → Act → World → Prop} {st : St} {a : Act} {w : World} (hh : Here dl η₀ G₀ w₀ N st a w)
    (h : ∀ Z : Exit → Act → World → Prop, Z = Q → vc S E A st (KW dl η₀ G₀ w₀ N Z)) : A.wpIn (fen none) nn P Q a w :=
  vc_soundIn hE hR hmix hS hb (ro := none) A st _ _ a w (h _ rfl) hh fun _ _ _ _ hk hh => hk.h _ _ hh
theorem here_df {dl : List Deferred} {η₀ : OEnv} {G₀ : Nat → Prop} {w₀ : World} {N : Nat} {st : St} {a : Act} {w : World} (hh : Here dl η₀ G₀ w₀ N st a w) : a.defers = dl := by
  obtain ⟨_, _, _, H, _⟩ := hh
  exact H.df
theorem here_sz {dl : List Deferred} {η₀ : OEnv} {G₀ : Nat → Prop} {w₀ : World} {N : Nat} {st : St} {a : Act} {w : World} (hh : Here dl η₀ G₀ w₀ N st a w) : a.tmps.size = N := by
  obtain ⟨hl, _, _, H, _⟩ := hh
  exact H.sz.trans hl
theorem post0 (hE : EOk P E) {η₀ : OEnv} {G₀ : Nat → Prop} {w₀ : World} {N : Nat} (hb : ∀ k o, η₀ k = some o → isBor k = true) {st : St} {a : Act} {w : World} (hh : Here [] η₀ G₀ w₀ N st a w) {fn : Func} {r : SV} {objs' : Objs}
    (h : RetVC E fn.results.toList st r objs') {F : Fence} {n : Nat} : bodyPostM F n P fn (REnd η₀ G₀ w₀ r objs') .ret a w := by
  show LeavesInM _ _ _ _ _ _ a.defers _ _
  rw [here_df hh]; exact leave0 hE hb hh h
theorem post1 (hE : EOk P E) {η₀ : OEnv} {G₀ : Nat → Prop} {w₀ : World} {N d m : Nat} (hb : ∀ k o, η₀ k = some o → isBor k = true) {st : St} {a : Act} {w : World} (hh : Here [markD d] η₀ G₀ w₀ N st a w) (hm : getO st m = some (mT d))
    (O' : Objs) (hO : ∀ c, lookN c O' = if c = m then some (m0T d) else getO st c) {fn : Func} {r : SV} {objs' : Objs}
    (h : RetVC E fn.results.toList ⟨st.tmps, O'⟩ r objs') {F : Fence} {n : Nat} : bodyPostM F n P fn (REnd η₀ G₀ w₀ r objs') .ret a w := by
  show LeavesInM _ _ _ _ _ _ a.defers _ _
  rw [here_df hh]; exact leave1 hE hb hh hm hO h
theorem post2 (hE : EOk P E) {η₀ : OEnv} {G₀ : Nat → Prop} {w₀ : World} {N d m d' m' : Nat} (hb : ∀ k o, η₀ k = some o → isBor k = true) {st : St} {a : Act} {w : World} (hh : Here [markD d, markD d'] η₀ G₀ w₀ N st a w) (hm : getO st m = some (mT d)) (hm' : getO st m' = some (mT d')) (hne : m' ≠ m)
    (O1 O' : Objs) (hO1 : ∀ c, lookN c O1 = if c = m then some (m0T d) else getO st c) (hO : ∀ c, lookN c O' = if c = m' then some (m0T d') else lookN c O1) {fn : Func} {r : SV} {objs' : Objs}
    (h : RetVC E fn.results.toList ⟨st.tmps, O'⟩ r objs') {F : Fence} {n : Nat} : bodyPostM F n P fn (REnd η₀ G₀ w₀ r objs') .ret a w := by
  show LeavesInM _ _ _ _ _ _ a.defers _ _
  rw [here_df hh]; exact leave2 hE hb hh hm hm' hne hO1 hO h
/-- The ranges over functions in a piece of code. -/
def rfs : Code → List (Code × Code)
  | .seq x y => rfs x ++ rfs y
  | .cond _ x y => rfs x ++ rfs y
  | .block _ x => rfs x
  | .loop x => rfs x
  | .rangeFunc _ _ x y => [(x, y)]
  | _ => []
/-- Slots of which only these are known. -/
def slots (n : Nat) (l : List (Nat × SV)) : List SV := putAll (List.replicate n .any) l
theorem slots_len {n : Nat} {l : List (Nat × SV)} : (slots n l).length = n := by
  unfold slots
  have : ∀ (l : List (Nat × SV)) (ts : List SV), (putAll ts l).length = ts.length := by
    intro l
    induction l with
    | nil => intro ts; rfl
    | cons p l ih => intro ts; obtain ⟨k, s⟩ := p; rw [putAll, ih, putL_len]
  rw [this]; simp
theorem slots_rel {η : OEnv} {G : Nat → Prop} {w : World} {n : Nat} {l : List (Nat × SV)} {tmps : Array Value} (h : ∀ t s, (t, s) ∈ l → SVRel η G w s (tmps.getD t undef)) (t : Nat) : SVRel η G w (nthD (slots n l) t .any) (tmps.getD t undef) := by
  unfold slots
  rcases putAll_at l (List.replicate n .any) t with e | ⟨s, hm, e⟩
  · rw [e, nthD_replicate]; simp [SVRel]
  · rw [e]; exact h t s hm
theorem RΦ.conv {r : RI} {η0 : OEnv} {pe : Option Code} {objs objs' : Objs} {w : World} {v : Value} {B : List Nat} (h : RΦ r η0 pe objs w v B) (hc : ∀ k (η : OEnv) (w : World), ObjOpt η (fun _ => False) w (lookN k objs) (η k) → ObjOpt η (fun _ => False) w (lookN k objs') (η k)) : RΦ r η0 pe objs' w v B := by
  obtain ⟨h1, h2, h3, h4, h5, ηS, h6⟩ := h
  exact ⟨h1, h2, h3, h4, h5, ηS, fun k => hc k ηS w (h6.ob k), h6.ins, h6.dj, h6.old⟩
end
end Go.SX

/- SX: a range over a function, with its side conditions as checks. -/
namespace Go.SX

/-- The one object is the other, too. -/
structure CV (y x : TObj) : Prop where
  h : ∀ (η : OEnv) (G : Nat → Prop) (w : World) (o : OInfo), ObjRel η G w y o → ObjRel η G w x o
theorem cv_int {T : Nat} {k : IntKind} {e e' : IE} (h : e.den = e'.den) : CV (.cells T [.int k e]) (.cells T [.int k e']) := ⟨fun η G w o h0 => by
  simp only [ObjRel] at h0 ⊢
  obtain ⟨a, b, c, vs, d, f, g⟩ := h0
  refine ⟨a, b, c, vs, d, f, ?_⟩
  match vs, g with
  | [], g => exact g.elim
  | [v], g =>
    simp only [SVRels, SVRel] at g ⊢
    rw [← h]; exact g
  | _ :: _ :: _, g => exact g.2.elim⟩
def convs (l : List (Nat × Nat)) (st : Objs) : Objs → Prop
  | [] => True
  | (k, x) :: r => (match bkN l k with
    | some c => (match lookN c st with
      | some y => CV y x
      | none => False)
    | none => False) ∧ convs l st r
theorem convs_at {l : List (Nat × Nat)} {st : Objs} : ∀ {objs : Objs} {k : Nat} {x : TObj}, convs l st objs → lookN k objs = some x → ∃ c y, bkN l k = some c ∧ lookN c st = some y ∧ CV y x
  | [], _, _, _, h => by simp [lookN] at h
  | (j, z) :: r, k, x, hc, h => by
      simp only [convs] at hc
      simp only [lookN] at h
      cases hb : eqN j k with
      | false => rw [hb] at h; exact convs_at hc.2 h
      | true =>
        rw [hb] at h
        simp at h
        rw [← eqN_eq hb, ← h]
        have hc := hc.1
        split at hc
        · rename_i c hc'
          split at hc
          · rename_i y hy
            exact ⟨c, y, hc', hy, hc⟩
          · exact hc.elim
        · exact hc.elim

def keysL (l : List (Nat × Nat)) : List Nat := l.map (·.1)
def valsL (l : List (Nat × Nat)) : List Nat := l.map (·.2)
theorem bk_mem : ∀ {l : List (Nat × Nat)} {k c : Nat}, bkN l k = some c → (c, k) ∈ l
  | [], k, c, h => by simp [bkN] at h
  | (c', k') :: l, k, c, h => by
      simp only [bkN] at h
      cases hb : eqN k' k with
      | true => rw [hb] at h; simp at h; rw [eqN_eq hb, h]; simp
      | false => rw [hb] at h; exact List.mem_cons_of_mem _ (bk_mem h)
theorem mem_bk : ∀ {l : List (Nat × Nat)} {k c : Nat}, (valsL l).Nodup → (c, k) ∈ l → bkN l k = some c
  | [], k, c, _, h => by cases h
  | (c', k') :: l, k, c, hn, h => by
      simp only [valsL, List.map_cons, List.nodup_cons] at hn
      simp only [bkN]
      rcases List.mem_cons.1 h with e | h
      · cases e
        have : eqN k' k' = true := by simp [eqN]
        rw [this]; rfl
      · have : eqN k' k = false := decide_eq_false fun e => hn.1 (e ▸ List.mem_map.2 ⟨(c, k), h, rfl⟩)
        rw [this]
        exact mem_bk hn.2 h
theorem mem_look : ∀ {l : List (Nat × Nat)} {k c : Nat}, (keysL l).Nodup → (c, k) ∈ l → lookN c l = some k
  | [], k, c, _, h => by cases h
  | (c', k') :: l, k, c, hn, h => by
      simp only [keysL, List.map_cons, List.nodup_cons] at hn
      simp only [lookN]
      rcases List.mem_cons.1 h with e | h
      · cases e
        have : eqN c' c' = true := by simp [eqN]
        rw [this]; rfl
      · have : eqN c' c = false := decide_eq_false fun e => hn.1 (e ▸ List.mem_map.2 ⟨(c, k), h, rfl⟩)
        rw [this]
        exact mem_look hn.2 h

/-- The objects behind a loop. -/
def reO (l : List (Nat × Nat)) (objs1 : Objs) : Objs → Objs
  | [] => []
  | (c, x) :: r => (c, match lookN c l with
    | some k => (match lookN k objs1 with
      | some y => y
      | none => x)
    | none => x) :: reO l objs1 r
def afterO (m : Nat) (l : List (Nat × Nat)) (objs1 st : Objs) (d : Nat) : Objs := (m, mT d) :: reO l objs1 st
theorem reO_none {l : List (Nat × Nat)} {objs1 : Objs} {c : Nat} (h : lookN c l = none) : ∀ {st : Objs}, lookN c (reO l objs1 st) = lookN c st
  | [] => rfl
  | (j, x) :: r => by
      simp only [reO, lookN]
      cases hb : eqN j c with
      | true => rw [eqN_eq hb, h]; rfl
      | false => exact reO_none h
theorem reO_some {l : List (Nat × Nat)} {objs1 : Objs} {c k : Nat} {y : TObj} (h : lookN c l = some k) (h1 : lookN k objs1 = some y) : ∀ {st : Objs}, (∃ x, lookN c st = some x) → lookN c (reO l objs1 st) = some y
  | [], ⟨x, hx⟩ => by simp [lookN] at hx
  | (j, x) :: r, ⟨z, hz⟩ => by
      simp only [reO, lookN] at hz ⊢
      cases hb : eqN j c with
      | true => rw [eqN_eq hb, h]; simp only [h1, cond_true]
      | false => rw [hb] at hz; exact reO_some h h1 ⟨z, hz⟩

def allN (p : Nat → Bool) : List Nat → Bool
  | [] => true
  | k :: r => p k && allN p r
theorem allN_at {p : Nat → Bool} : ∀ {l : List Nat} {k : Nat}, allN p l = true → k ∈ l → p k = true
  | [], _, _, h => by cases h
  | j :: r, k, ha, h => by
      simp only [allN, Bool.and_eq_true] at ha
      rcases List.mem_cons.1 h with rfl | h
      · exact ha.1
      · exact allN_at ha.2 h
def flatNm : Objs → Bool
  | [] => true
  | (_, x) :: r => (flatO x && nmFree x) && flatNm r
theorem flatNm_at {k : Nat} {x : TObj} : ∀ {l : Objs}, flatNm l = true → lookN k l = some x → flatO x = true ∧ nmFree x = true
  | [], _, h => by simp [lookN] at h
  | (j, y) :: r, h, hl => by
      simp only [flatNm, Bool.and_eq_true] at h
      simp only [lookN] at hl
      cases hb : eqN j k with
      | true => rw [hb] at hl; simp at hl; rw [← hl]; exact h.1
      | false => rw [hb] at hl; exact flatNm_at h.2 hl
def isSomeN (l : Objs) (k : Nat) : Bool := match lookN k l with
  | some _ => true
  | none => false
/-- The side conditions of a loop. -/
def rfOk (l : List (Nat × Nat)) (objs objs1 st : Objs) (K m : Nat) : Bool :=
  (nodupB (keysL l) && nodupB (valsL l)) && ((!memN K (keysL l) && !memN m (keysL l)) && (!memN m (namesOf st) && ((flatNm objs && flatNm objs1) && ((allN (isSomeN objs) (valsL l) && allN (isSomeN objs1) (valsL l)) && allN (fun k => memN k (valsL l)) (namesOf objs1)))))

theorem isSomeN_iff {l : Objs} {k : Nat} (h : isSomeN l k = true) : ∃ x, lookN k l = some x := by
  unfold isSomeN at h
  cases hk : lookN k l with
  | none => rw [hk] at h; cases h
  | some x => exact ⟨x, rfl⟩
theorem look_names {α : Type} {k : Nat} {x : α} : ∀ {l : List (Nat × α)}, lookN k l = some x → k ∈ l.map (·.1) := fun h => List.mem_map.2 ⟨(k, x), lookN_mem h, rfl⟩
theorem namesOf_map : ∀ (l : Objs), namesOf l = l.map (·.1)
  | [] => rfl
  | (k, x) :: r => by simp only [namesOf, List.map_cons]; rw [← namesOf_map r]

/-- A mark that was come to. -/
def offM (m d : Nat) : Objs → Objs
  | [] => []
  | (k, x) :: r => (k, bif eqN k m then m0T d else x) :: offM m d r
theorem offM_look {m d c : Nat} : ∀ {st : Objs}, (∃ x, lookN m st = some x) → lookN c (offM m d st) = if c = m then some (m0T d) else lookN c st
  | [], ⟨x, hx⟩ => by simp [lookN] at hx
  | (k, x) :: r, ⟨z, hz⟩ => by
      simp only [offM, lookN] at hz ⊢
      cases hb : eqN k c with
      | true =>
        rw [eqN_eq hb]
        by_cases e : c = m
        · rw [if_pos e, e]
          have : eqN m m = true := by simp [eqN]
          rw [this]; rfl
        · rw [if_neg e]
          have : eqN c m = false := decide_eq_false e
          rw [this]; rfl
      | false =>
        simp only [cond_false]
        by_cases e : c = m
        · rw [← e, hb] at hz
          rw [e] at hz ⊢
          exact offM_look ⟨z, hz⟩
        · rw [if_neg e]
          have key : ∀ (st : Objs), lookN c (offM m d st) = lookN c st := by
            intro st
            induction st with
            | nil => rfl
            | cons p st ih =>
              obtain ⟨j, y⟩ := p
              simp only [offM, lookN]
              rw [ih]
              cases hj : eqN j c with
              | false => rfl
              | true =>
                have : eqN j m = false := decide_eq_false fun h => e (by rw [← eqN_eq hj, h])
                rw [this]; rfl
          exact key r

section
variable {P : Program} {E : Env} {S : SP}
theorem post1' (hE : EOk P E) {η₀ : OEnv} {G₀ : Nat → Prop} {w₀ : World} {N d : Nat} (m : Nat) (hb : ∀ k o, η₀ k = some o → isBor k = true) {st : St} {a : Act} {w : World} (hh : Here [markD d] η₀ G₀ w₀ N st a w) (hm : getO st m = some (mT d))
    {fn : Func} {r : SV} {objs' : Objs} (h : RetVC E fn.results.toList ⟨st.tmps, offM m d st.objs⟩ r objs') {F : Fence} {n : Nat} : bodyPostM F n P fn (REnd η₀ G₀ w₀ r objs') .ret a w :=
  post1 hE hb hh hm _ (fun _ => offM_look ⟨_, hm⟩) h
theorem post2' (hE : EOk P E) {η₀ : OEnv} {G₀ : Nat → Prop} {w₀ : World} {N d d' : Nat} (m m' : Nat) (hb : ∀ k o, η₀ k = some o → isBor k = true) {st : St} {a : Act} {w : World} (hh : Here [markD d, markD d'] η₀ G₀ w₀ N st a w) (hm : getO st m = some (mT d)) (hm' : getO st m' = some (mT d')) (hne : m' ≠ m)
    {fn : Func} {r : SV} {objs' : Objs} (h : RetVC E fn.results.toList ⟨st.tmps, offM m' d' (offM m d st.objs)⟩ r objs') {F : Fence} {n : Nat} : bodyPostM F n P fn (REnd η₀ G₀ w₀ r objs') .ret a w :=
  post2 hE hb hh hm hm' hne (offM m d st.objs) (offM m' d' (offM m d st.objs)) (fun _ => offM_look ⟨_, hm⟩) (fun _ => offM_look ⟨_, by rw [offM_look ⟨_, hm⟩, if_neg hne]; exact hm'⟩) h
theorem rf_vc {f : Nat} (hfok : FnOk P f) (hflt : f < 4096) {g : Operand} {ps : Array Tmp} {assign body : Code} {dl : List Deferred} {η₀ : OEnv} {G₀ : Nat → Prop} {w₀ : World} {N : Nat} {st : St} {a : Act} {w : World}
    (hh : Here dl η₀ G₀ w₀ N st a w) (K m TK : Nat) (l : List (Nat × Nat)) (objs objs1 : Objs) (pe : Option Code) {box : List SV} (hg : opnd (getT st) g = .fn f [.loc K 0]) (hK : getO st K = some (.cells TK box)) (hbox : namesOnlys [] box = true)
    (hok : rfOk l objs objs1 st.objs K m = true) (hcv : convs l st.objs objs)
    (hit : ∀ (r : RI) (η0 : OEnv), r.tmps = a.tmps → r.ps = ps → r.assign = assign → r.body = body → (∀ k o, η0 k = some o → o.inner = []) → (∀ k o, η0 k = some o → k ∈ valsL l) →
      (∀ t k off, getT st t = .loc k off → ∀ j, bkN l j = some k → SVRel η0 (fun _ => False) w (.loc j off) (a.tmps.getD t undef)) →
      SpecX P f [.rv 1000 (fun _ => .func (.yield r.rcd) #[] #[]), .loc 1001 0] [(1000, RJ r η0 none objs), (1001, .cells TK box)] (.tup []) [(1000, RJ r η0 pe objs1), (1001, .cells TK box)])
    (hpe : pe = none ∨ pe = some .ret) {nn : Nat} {Q : Exit → Act → World → Prop}
    (hQ : ∀ d a' w', Here (markD d :: dl) η₀ G₀ w₀ N ⟨st.tmps, afterO m l objs1 st.objs d⟩ a' w' → (pe = none → Q .normal a' w') ∧ (pe = some .ret → Q .ret a' w')) :
    (Code.rangeFunc g ps assign body).wpIn (fen none) nn P Q a w := by
  simp only [rfOk, Bool.and_eq_true, Bool.not_eq_true'] at hok
  obtain ⟨⟨q1, q2⟩, ⟨q3, q4⟩, q5, ⟨q6, q7⟩, ⟨q8, q9⟩, q10⟩ := hok
  have n1 := nodupB_iff q1
  have n2 := nodupB_iff q2
  have nK : lookN K l = none := by
    cases h : lookN K l with
    | none => rfl
    | some k => exact absurd (look_names h) (memN_false.1 q3)
  have nm : lookN m l = none := by
    cases h : lookN m l with
    | none => rfl
    | some k => exact absurd (look_names h) (memN_false.1 q4)
  have hm : getO st m = none := by
    show lookN m st.objs = none
    cases h : lookN m st.objs with
    | none => rfl
    | some k => exact absurd (by rw [namesOf_map]; exact look_names h) (memN_false.1 q5)
  have bkv : ∀ k c, bkN l k = some c → k ∈ valsL l := fun k c h => List.mem_map.2 ⟨(c, k), bk_mem h, rfl⟩
  have vbk : ∀ k, k ∈ valsL l → ∃ c, bkN l k = some c := fun k h => by
    obtain ⟨⟨c, k'⟩, h1, rfl⟩ := List.mem_map.1 h
    exact ⟨c, mem_bk n2 h1⟩
  have e1 : ∀ k c, bkN l k = some c → ∃ x, lookN k objs = some x := fun k c h => isSomeN_iff (allN_at q8 (bkv k c h))
  have e2 : ∀ k c, bkN l k = some c → ∃ x, lookN k objs1 = some x := fun k c h => isSomeN_iff (allN_at q9 (bkv k c h))
  have hl1 : ∀ c k, lookN c l = some k ↔ bkN l k = some c := fun c k => ⟨fun h => mem_bk n2 (lookN_mem h), fun h => mem_look n1 (bk_mem h)⟩
  refine rangeFunc_sound hfok hflt hh (l := l) (objs := objs) (objs1 := objs1) (pe := pe) (m := m) hg hK hbox hm ?_ e1 hl1 nK nm ?_ e2 ?_ (O' := afterO m l objs1 st.objs) ?_ hpe hQ
  · intro k x hx
    obtain ⟨c, y, h1, h2, h3⟩ := convs_at hcv hx
    obtain ⟨h4, h5⟩ := flatNm_at q6 hx
    exact ⟨c, y, h1, h2, h3.h, h4, h5⟩
  · intro k x hx
    obtain ⟨h4, h5⟩ := flatNm_at q7 hx
    exact ⟨vbk k (memN_iff.1 (allN_at q10 (by rw [namesOf_map]; exact look_names hx))), h4, h5⟩
  · intro r η0 h1 h2 h3 h4 h5 h6 h7
    exact hit r η0 h1 h2 h3 h4 h5 (fun k o hk => by
      obtain ⟨x, hx⟩ := h6 k o hk
      exact memN_iff.1 (allN_at q10 (by rw [namesOf_map]; exact look_names hx))) h7
  · intro d c
    by_cases e : c = m
    · rw [if_pos e, e]
      show (bif eqN m m then _ else _) = _
      have : eqN m m = true := by simp [eqN]
      rw [this]; rfl
    · rw [if_neg e]
      show (bif eqN m c then _ else lookN c (reO l objs1 st.objs)) = _
      have : eqN m c = false := decide_eq_false fun h => e h.symm
      rw [this, cond_false]
      cases hk : lookN c l with
      | none => exact reO_none hk
      | some k =>
        obtain ⟨y, hy⟩ := e2 k c ((hl1 c k).1 hk)
        obtain ⟨x, hx⟩ := e1 k c ((hl1 c k).1 hk)
        obtain ⟨c', z, h1, h2, _⟩ := convs_at hcv hx
        rw [(hl1 c k).1 hk] at h1
        cases h1
        show lookN c (reO l objs1 st.objs) = lookN k objs1
        rw [hy]
        exact reO_some hk hy ⟨z, h2⟩
end
section
variable {P : Program} {E : Env} {S : SP}
/-- A scope in which the run may jump ahead, to one label. -/
theorem scope_fwd {c rest : Code} (l : Nat) (hf : findLabel c l = some rest) {Q : Exit → Act → World → Prop} {a : Act} {w : World} {n : Nat}
    (h : c.wpIn (fen none) n P (Exit.jump l (fun a w => rest.wpIn (fen none) n P (Exit.noGoto Q) a w) Q) a w) : (Code.scope c).wpIn (fen none) n P Q a w := by
  refine wpIn_wide.2 (wp_scope_jumps l (fun a w => rest.wpIn (fen none) n P (Exit.noGoto Q) a w) (fun _ _ => 0) hf (wpIn_wide.1 h) fun a w h => ?_)
  have h := wpIn_wide.1 h
  intro b k cs
  obtain ⟨e, a1, w1, hq, harr⟩ := h b k cs
  refine ⟨e, a1, w1, ?_, harr⟩
  cases e <;> first | exact hq | exact hq.elim
/-- A contract, by a walk that the caller makes, of a function without marks. -/
theorem spec_of_wp {f : Nat} {fn : Func} {body : Code} (hf : P.funcs[f]? = some fn) (hbd : fn.body = some body) {svs : List SV} {objs : Objs} {r : SV} {objs' : Objs}
    (hn : leN svs.length fn.ntmps = true) (ho : borNames objs = true)
    (h : ∀ (η : OEnv) (G : Nat → Prop) (w : World) (a : Act), (∀ k o, η k = some o → isBor k = true) → Here [] η G w fn.ntmps (st0 fn.ntmps svs objs) a w → body.wpIn (fen none) 0 P (bodyPostM (fen none) 0 P fn (REnd η G w r objs')) a w) : Spec P f svs objs r objs' :=
  spec_of_marks hf hbd hn ho h
end
end Go.SX

