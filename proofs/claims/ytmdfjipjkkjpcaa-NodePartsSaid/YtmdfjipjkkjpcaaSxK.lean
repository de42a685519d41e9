/- SX: calls: from a callee's contract to the caller's state. -/
import Derived.Test.YtmdfjipjkkjpcaaSxJ
namespace Go.SX

/-- A function's contract, over symbolic values. -/
def Spec (P : Program) (f : Nat) (svs : List SV) (objs : Objs) (r : SV) (objs' : Objs) : Prop :=
  ∀ (η : OEnv) (G : Nat → Prop) (vs : List Value) (w : World), Sep η G w → (∀ k, ObjOpt η G w (lookN k objs) (η k)) → SVRels η G w svs vs →
    Calls P f ⟨vs⟩ w fun e w' => ∃ η' G' v, e = .returned v ∧ SVRel η' G' w' r v ∧ (∀ k, ObjOpt η' G' w' (lookN k objs') (η' k)) ∧ Sep η' G' w' ∧ Evol η G w η' G' w'

def FnOk (P : Program) (f : Nat) : Prop := ∃ fn body, P.funcs[f]? = some fn ∧ fn.body = some body ∧ (fn.name == "runtime.NumGoroutine") = false

theorem run_callFunc {P : Program} {f : Nat} (h : FnOk P f) (args : Array Value) (w : World) : (callFunc f args).run P w = .ok (.enter f args) w := by
  obtain ⟨fn, body, hf, hb, hn⟩ := h
  have hr : (program : Sem Program).run P w = .ok P w := rfl
  unfold callFunc
  rw [Sem.run_bind, hr, Result.andThen_ok]
  simp only [hf, hn, hb]
  rfl

/-- A call that ends: by the callee's code, or (a function without a body) at once. -/
def CallsX (P : Program) (f : Nat) (args : Array Value) (w : World) (R : Value → World → Prop) : Prop :=
  ((callFunc f args).run P w = .ok (.enter f args) w ∧ Calls P f args w fun e w' => ∃ v, e = .returned v ∧ R v w') ∨ ∃ v w', (callFunc f args).run P w = .ok (.value v) w' ∧ R v w'

theorem CallsX.mono {P : Program} {f : Nat} {args : Array Value} {w : World} {R R' : Value → World → Prop} (h : CallsX P f args w R) (hr : ∀ v w', R v w' → R' v w') : CallsX P f args w R' := by
  rcases h with ⟨h1, h2⟩ | ⟨v, w', h1, h2⟩
  · exact .inl ⟨h1, h2.mono fun e w' ⟨v, he, hR⟩ => ⟨v, he, hr v w' hR⟩⟩
  · exact .inr ⟨v, w', h1, hr v w' h2⟩

/-- A contract of a call. -/
def SpecX (P : Program) (f : Nat) (svs : List SV) (objs : Objs) (r : SV) (objs' : Objs) : Prop :=
  ∀ (η : OEnv) (G : Nat → Prop) (vs : List Value) (w : World), Sep η G w → (∀ k, ObjOpt η G w (lookN k objs) (η k)) → SVRels η G w svs vs →
    CallsX P f ⟨vs⟩ w fun v w' => ∃ η' G', SVRel η' G' w' r v ∧ (∀ k, ObjOpt η' G' w' (lookN k objs') (η' k)) ∧ Sep η' G' w' ∧ Evol η G w η' G' w'

theorem specX_of {P : Program} {f : Nat} {svs : List SV} {objs : Objs} {r : SV} {objs' : Objs} (h : Spec P f svs objs r objs') (hf : FnOk P f) : SpecX P f svs objs r objs' := by
  intro η G vs w h1 h2 h3
  refine .inl ⟨run_callFunc hf _ _, (h η G vs w h1 h2 h3).mono ?_⟩
  rintro e w' ⟨η', G', v, rfl, h⟩
  exact ⟨v, rfl, η', G', h⟩

theorem memN_iff {k : Nat} : ∀ {l : List Nat}, memN k l = true ↔ k ∈ l
  | [] => by simp [memN]
  | j :: r => by
      simp only [memN]
      cases h : eqN j k with
      | true => simp [eqN_eq h]
      | false =>
        have : j ≠ k := eqN_ne h
        simp only [cond_false, memN_iff, List.mem_cons]
        exact ⟨.inr, fun h => h.resolve_left (Ne.symm this)⟩

theorem memN_false {k : Nat} {l : List Nat} : memN k l = false ↔ k ∉ l := by
  rw [← memN_iff]; simp

theorem nodupB_iff : ∀ {l : List Nat}, nodupB l = true → l.Nodup
  | [], _ => .nil
  | k :: r, h => by
      simp only [nodupB, Bool.and_eq_true, Bool.not_eq_true', memN_false] at h
      exact List.nodup_cons.2 ⟨h.1, nodupB_iff h.2⟩

theorem posOf_spec {k : Nat} : ∀ {l : List Nat} {s i : Nat}, posOf k l s = some i → ∃ j, i = s + j ∧ j < l.length ∧ nthD l j 0 = k
  | [], _, _, h => by simp [posOf] at h
  | x :: l, s, i, h => by
      simp only [posOf] at h
      cases hb : eqN x k with
      | true => rw [hb] at h; simp at h; exact ⟨0, by omega, by simp, by simpa [nthD] using eqN_eq hb⟩
      | false =>
        rw [hb] at h
        obtain ⟨j, h1, h2, h3⟩ := posOf_spec h
        exact ⟨j + 1, by omega, by simp; omega, by simpa [nthD] using h3⟩

theorem posOf_none {k : Nat} : ∀ {l : List Nat} {s : Nat}, posOf k l s = none ↔ k ∉ l
  | [], _ => by simp [posOf]
  | x :: l, s => by
      simp only [posOf]
      cases hb : eqN x k with
      | true => simp [eqN_eq hb]
      | false =>
        have := eqN_ne hb
        simp only [cond_false, posOf_none, List.mem_cons, not_or]
        exact ⟨fun h => ⟨Ne.symm this, h⟩, fun h => h.2⟩

theorem nthD_mem : ∀ {l : List Nat} {i : Nat}, i < l.length → nthD l i 0 ∈ l
  | [], _, h => by simp at h
  | x :: l, 0, _ => by simp [nthD]
  | x :: l, i + 1, h => by simpa [nthD] using .inr (nthD_mem (by simpa [leN_iff, ltN_iff] using h))

theorem posOf_nth : ∀ {l : List Nat} {i s : Nat}, l.Nodup → i < l.length → posOf (nthD l i 0) l s = some (s + i)
  | [], _, _, _, h => by simp at h
  | x :: l, 0, s, _, _ => by simp [nthD, posOf, eqN_refl]
  | x :: l, i + 1, s, hn, h => by
      have hm : nthD l i 0 ∈ l := nthD_mem (by simpa [leN_iff, ltN_iff] using h)
      have hx : x ∉ l := (List.nodup_cons.1 hn).1
      have hne : eqN x (nthD l i 0) = false := by
        cases hb : eqN x (nthD l i 0) with
        | true => exact absurd (eqN_eq hb ▸ hm) hx
        | false => rfl
      simp only [nthD, posOf, hne, cond_false]
      rw [posOf_nth (List.nodup_cons.1 hn).2 (by simpa [leN_iff, ltN_iff] using h)]
      congr 1; omega

theorem lookN_none {α : Type} {k : Nat} : ∀ {l : List (Nat × α)}, lookN k l = none ↔ ∀ x, (k, x) ∉ l
  | [] => by simp [lookN]
  | (j, y) :: r => by
      simp only [lookN]
      cases hb : eqN j k with
      | true =>
        have := eqN_eq hb
        subst this
        simp only [cond_true]
        exact ⟨fun h => (by cases h), fun h => absurd (List.mem_cons_self) (h y)⟩
      | false =>
        have hne := eqN_ne hb
        simp only [cond_false, lookN_none, List.mem_cons, Prod.mk.injEq, not_or, not_and]
        exact ⟨fun h x => ⟨fun e => absurd e.symm hne, h x⟩, fun h x => (h x).2⟩

theorem lookN_mem {α : Type} {k : Nat} {x : α} : ∀ {l : List (Nat × α)}, lookN k l = some x → (k, x) ∈ l
  | [], h => by simp [lookN] at h
  | (j, y) :: r, h => by
      simp only [lookN] at h
      cases hb : eqN j k with
      | true => rw [hb] at h; simp at h; rw [← h, eqN_eq hb]; simp
      | false => rw [hb] at h; exact List.mem_cons_of_mem _ (lookN_mem h)

section
variable {η : OEnv} {G : Nat → Prop} {N : Nat} {dl : List Deferred} {get : Nat → SV} {ob : Nat → Option TObj} {a : Act} {w : World}

def inE (η : OEnv) (sel : List Nat) : OEnv := fun k => if 1000 ≤ k ∧ k < 1000 + sel.length then η (nthD sel (k - 1000) 0) else none
def inG (η : OEnv) (G : Nat → Prop) (bor : List Nat) : Nat → Prop := fun b => G b ∨ ∃ k ∈ bor, ∃ o, η k = some o ∧ b ∈ o.main ++ o.inner

theorem inE_pos {sel : List Nat} {k i : Nat} (h : posOf k sel 0 = some i) : inE η sel (1000 + i) = η k := by
  obtain ⟨j, h1, h2, h3⟩ := posOf_spec h
  simp only [Nat.zero_add] at h1
  subst h1
  unfold inE
  rw [if_pos ⟨by omega, by omega⟩, show 1000 + i - 1000 = i by omega, h3]

theorem inE_some {sel : List Nat} {k : Nat} {o : OInfo} (h : inE η sel k = some o) : ∃ i, k = 1000 + i ∧ i < sel.length ∧ η (nthD sel i 0) = some o := by
  unfold inE at h
  split at h
  · rename_i hk
    exact ⟨k - 1000, by omega, by omega, h⟩
  · cases h

theorem own_dv (H : Holds dl η G N get ob a w) {k : Nat} {v : Value} {d : DV} {bor : List Nat} (hk : k ∈ bor) (h : SVRel η G w (.own k) v) (hd : svDV ob (.own k) = some d) : DVRel w (inG η G bor) d v := by
  simp only [SVRel] at h
  obtain ⟨o, ho, h1, hv⟩ := h
  have hin : ∀ b ∈ o.main ++ o.inner, inG η G bor b := fun b hb => .inr ⟨k, hk, o, ho, hb⟩
  simp only [svDV] at hd
  split at hd
  · rename_i T bs hob
    cases hd
    obtain ⟨o', ho', hr⟩ := obj_of H hob
    rw [ho] at ho'; cases ho'
    simp only [ObjRel] at hr
    obtain ⟨hdd, _, hq⟩ := hr
    rw [hv hdd]
    simp only [DVRel]
    rcases hq with ⟨h1, h2, _⟩ | ⟨b, c, cs, T', h1, h2, h3, h4, h5, _, h6⟩
    · have : bs () = [] := List.eq_nil_of_length_eq_zero h2
      exact ⟨none, 0, by rw [h1, this]; rfl, by omega, by simp [this]⟩
    · exact ⟨_, c, h1, h5, fun i x hx => ⟨b, 0, rfl, hin b (by simp [h2]), by rw [Nat.zero_add, cell_cells h3]; exact h6 i x hx⟩⟩
  · rename_i T wd n row hob
    cases hd
    obtain ⟨o', ho', hr⟩ := obj_of H hob
    rw [ho] at ho'; cases ho'
    simp only [ObjRel] at hr
    obtain ⟨hdd, _, hq⟩ := hr
    rw [hv hdd]
    simp only [DVRel]
    rcases hq with ⟨h1, h2, _⟩ | ⟨b, c, cs, T', h1, h2, h3, h4, h5, _, h6⟩
    · exact ⟨none, 0, by rw [h1, h2], by omega, fun i hi => by omega⟩
    · refine ⟨_, c, h1, h5, fun i hi => ⟨b, 0, rfl, hin b (by simp [h2]), fun j hj => ?_⟩⟩
      obtain ⟨u, hu, hd⟩ := h6 i j hi hj
      exact ⟨u, by rw [Nat.zero_add, cell_cells h3]; exact hu, DVRel.mono (fun b hb => .inl hb) (fun _ _ => rfl) _ _ hd⟩
  · rename_i T wd n row hob
    cases hd
    obtain ⟨o', ho', hr⟩ := obj_of H hob
    rw [ho] at ho'; cases ho'
    simp only [ObjRel] at hr
    obtain ⟨hdd, Bs, hB, hN, hq⟩ := hr
    rw [hv hdd]
    simp only [DVRel]
    rcases hq with ⟨h1, h2, _⟩ | ⟨b, c, cs, T', h1, h2, h3, h4, h5, _, h6⟩
    · exact ⟨none, 0, by rw [h1, h2], by omega, fun i hi => by omega⟩
    · refine ⟨_, c, h1, h5, fun i hi => ⟨b, 0, rfl, hin b (by simp [h2]), fun j hj => ?_⟩⟩
      obtain ⟨u, hu, hd⟩ := h6 i j hi hj
      exact ⟨u, by rw [Nat.zero_add, cell_cells h3]; exact hu, ORel.toDV _ _ _ (fun b hb => hin b (by simp [hB i j b hi hj hb])) hd⟩
  · cases hd

theorem view_dv (H : Holds dl η G N get ob a w) {k : Nat} {v : Value} {d : DV} {bor : List Nat} (hk : k ∈ bor) (hal : aliveO (ob k) = true) (h : SVRel η G w (.view k d) v) : DVRel w (inG η G bor) d v := by
  simp only [SVRel] at h
  obtain ⟨o, ho, h1, hv⟩ := h
  exact DVRel.mono (fun b hb => .inr ⟨k, hk, o, ho, by simp [hb]⟩) (fun _ _ => rfl) _ _ (hv (alive_of H hal ho))

theorem svDV_rel (H : Holds dl η G N get ob a w) {s : SV} {v : Value} {d : DV} {bor : List Nat} (hb : ∀ k, (s = .own k ∨ ∃ d, s = .view k d) → k ∈ bor) (h : SVRel η G w s v) (hd : svDV ob s = some d) : DVRel w (inG η G bor) d v := by
  cases s with
  | own k => exact own_dv H (hb k (.inl rfl)) h hd
  | view k d' =>
    simp only [svDV] at hd
    cases hal : aliveO (ob k) with
    | false => rw [hal] at hd; cases hd
    | true => rw [hal] at hd; cases hd; exact view_dv H (hb k (.inr ⟨_, rfl⟩)) hal h
  | dat d' => simp only [svDV, Option.some.injEq] at hd; subst hd; simp only [SVRel] at h; exact DVRel.mono (fun b hb => .inl hb) (fun _ _ => rfl) _ _ h
  | int k e => simp only [svDV, Option.some.injEq] at hd; subst hd; simpa [SVRel, DVRel] using h
  | bool e => simp only [svDV, Option.some.injEq] at hd; subst hd; simpa [SVRel, DVRel] using h
  | str bs => simp only [svDV, Option.some.injEq] at hd; subst hd; simpa [SVRel, DVRel] using h
  | _ => simp [svDV] at hd

theorem svDVs_rel (H : Holds dl η G N get ob a w) {bor : List Nat} : ∀ {cs : List SV} {vs : List Value} {ds : List DV}, (∀ s ∈ cs, ∀ k, (s = .own k ∨ ∃ d, s = .view k d) → k ∈ bor) → SVRels η G w cs vs → svDVs ob cs = some ds →
    ds.length = cs.length ∧ ∀ i v, vs[i]? = some v → DVRel w (inG η G bor) (nthD ds i (.bool fun _ => false)) v
  | [], [], ds, _, _, h => by simp [svDVs] at h; subst h; simp
  | [], _ :: _, _, _, h, _ => by simp [SVRels] at h
  | _ :: _, [], _, _, h, _ => by simp [SVRels] at h
  | c :: cs, v :: vs, ds, hb, h, hd => by
      simp only [SVRels] at h
      simp only [svDVs] at hd
      split at hd
      · rename_i d ds' h1 h2
        cases hd
        obtain ⟨h3, h4⟩ := svDVs_rel H (fun s hs => hb s (by simp [hs])) h.2 h2
        refine ⟨by simp [h3], fun i u hu => ?_⟩
        cases i with
        | zero => simp at hu; subst hu; simpa [nthD] using svDV_rel H (hb c (by simp)) h.1 h1
        | succ i => simpa [nthD] using h4 i u (by simpa [leN_iff, ltN_iff] using hu)
      · cases hd

theorem csl_dv (H : Holds dl η G N get ob a w) {bor : List Nat} {k T wd n : Nat} {cs : List SV} {ds : List DV} {v : Value} (hkb : k ∈ bor) (hob : ob k = some (.cells T cs)) (hl : ds.length = n * wd) (h : SVRel η G w (.csl k wd n) v)
    (hrel : ∀ vs, SVRels η G w cs vs → ds.length = cs.length ∧ ∀ i u, vs[i]? = some u → DVRel w (inG η G bor) (nthD ds i (.bool fun _ => false)) u) : DVRel w (inG η G bor) (.sl wd (fun _ => n) (litRow wd ds)) v := by
  simp only [SVRel] at h
  obtain ⟨o, ho, h1, hv⟩ := h
  obtain ⟨o', ho', hr⟩ := obj_of H hob
  rw [ho] at ho'; cases ho'
  simp only [ObjRel] at hr
  obtain ⟨hdd, _, b, vs, hm, hh, hs⟩ := hr
  obtain ⟨b', hm', rfl⟩ := hv hdd
  rw [hm] at hm'; cases hm'
  obtain ⟨hlen, hrel⟩ := hrel vs hs
  have hvl := SVRels.length hs
  simp only [DVRel]
  refine ⟨_, n, rfl, Nat.le_refl _, fun i hi => ⟨b, 0, rfl, .inr ⟨k, hkb, o, ho, by simp [hm]⟩, fun j hj => ?_⟩⟩
  have hlt : i * wd + j < vs.length := by
    have : (i + 1) * wd ≤ n * wd := Nat.mul_le_mul_right _ hi
    rw [Nat.add_mul] at this
    omega
  exact ⟨vs[i * wd + j], by rw [Nat.zero_add, cell_cells hh]; simp [hlt], hrel _ _ (List.getElem?_eq_getElem hlt)⟩

theorem borOne_mem {s : SV} {k : Nat} (h : s = .own k ∨ ∃ d, s = .view k d) : k ∈ borOne s := by
  rcases h with rfl | ⟨d, rfl⟩ <;> simp [borOne]
theorem borOnes_mem {s : SV} {k : Nat} : ∀ {cs : List SV}, s ∈ cs → k ∈ borOne s → k ∈ borOnes cs
  | [], h, _ => by cases h
  | c :: cs, h, hk => by
      simp only [borOnes, List.mem_append]
      rcases List.mem_cons.1 h with rfl | h
      · exact .inl hk
      · exact .inr (borOnes_mem h hk)
theorem borCells_mem {s : SV} {k : Nat} : ∀ {cs : List SV}, s ∈ cs → k ∈ borCell ob s → k ∈ borCells ob cs
  | [], h, _ => by cases h
  | c :: cs, h, hk => by
      simp only [borCells, List.mem_append]
      rcases List.mem_cons.1 h with rfl | h
      · exact .inl hk
      · exact .inr (borCells_mem h hk)

theorem cellDV_rel (H : Holds dl η G N get ob a w) {s : SV} {v : Value} {d : DV} {bor : List Nat} (hb : ∀ k ∈ borCell ob s, k ∈ bor) (h : SVRel η G w s v) (hd : cellDV ob s = some d) : DVRel w (inG η G bor) d v := by
  have rest : (∀ k ∈ borOne s, k ∈ bor) → svDV ob s = some d → DVRel w (inG η G bor) d v := fun hb hd => svDV_rel H (fun k hk => hb k (borOne_mem hk)) h hd
  cases s with
  | csl k wd n =>
    simp only [cellDV] at hd
    split at hd
    · rename_i T cs hob
      split at hd
      · rename_i ds hds
        cases hl : eqN ds.length (n * wd) with
        | false => rw [hl] at hd; cases hd
        | true =>
          rw [hl] at hd
          simp only [cond_true, Option.some.injEq] at hd
          subst hd
          refine csl_dv H (hb k (by simp [borCell])) hob (eqN_eq hl) h fun vs hs => ?_
          exact svDVs_rel (bor := bor) H (fun s hs k' hk' => hb k' (by simp only [borCell, hob, List.mem_cons]; exact .inr (borOnes_mem hs (borOne_mem hk')))) hs hds
      · cases hd
    · cases hd
  | _ => exact rest hb hd

theorem cellDVs_rel (H : Holds dl η G N get ob a w) {bor : List Nat} : ∀ {cs : List SV} {vs : List Value} {ds : List DV}, (∀ k ∈ borCells ob cs, k ∈ bor) → SVRels η G w cs vs → cellDVs ob cs = some ds →
    ds.length = cs.length ∧ ∀ i v, vs[i]? = some v → DVRel w (inG η G bor) (nthD ds i (.bool fun _ => false)) v
  | [], [], ds, _, _, h => by simp [cellDVs] at h; subst h; simp
  | [], _ :: _, _, _, h, _ => by simp [SVRels] at h
  | _ :: _, [], _, _, h, _ => by simp [SVRels] at h
  | c :: cs, v :: vs, ds, hb, h, hd => by
      simp only [SVRels] at h
      simp only [cellDVs] at hd
      split at hd
      · rename_i d ds' h1 h2
        cases hd
        obtain ⟨h3, h4⟩ := cellDVs_rel H (fun k hk => hb k (by simp [borCells, hk])) h.2 h2
        refine ⟨by simp [h3], fun i u hu => ?_⟩
        cases i with
        | zero => simp at hu; subst hu; simpa [nthD] using cellDV_rel H (fun k hk => hb k (by simp [borCells, hk])) h.1 h1
        | succ i => simpa [nthD] using h4 i u (by simpa [leN_iff, ltN_iff] using hu)
      · cases hd

mutual
theorem convSV_rel (H : Holds dl η G N get ob a w) {sel bor : List Nat} : ∀ (s : SV) (v : Value), (∀ k ∈ borSV ob sel s, k ∈ bor) → SVRel η G w s v → SVRel (inE η sel) (inG η G bor) w (convSV ob sel s) v
  | .any, _, _, _ => by simp [convSV, SVRel]
  | .nil, _, _, h => by simpa [convSV, SVRel] using h
  | .int _ _, _, _, h => by simpa [convSV, SVRel] using h
  | .bool _, _, _, h => by simpa [convSV, SVRel] using h
  | .str _, _, _, h => by simpa [convSV, SVRel] using h
  | .val _, _, _, h => by simpa [convSV, SVRel] using h
  | .dat d, _, _, h => by
      simp only [convSV, SVRel] at h ⊢
      exact DVRel.mono (fun b hb => .inl hb) (fun _ _ => rfl) _ _ h
  | .nn d, _, _, h => by
      simp only [convSV, SVRel] at h ⊢
      exact ⟨DVRel.mono (fun b hb => .inl hb) (fun _ _ => rfl) _ _ h.1, h.2⟩
  | .view k d, v, hb, h => by
      simp only [convSV]
      cases hal : aliveO (ob k) with
      | false => simp [SVRel]
      | true => simp only [cond_true, SVRel]; exact view_dv H (hb k (by simp [borSV])) hal h
  | .own k, v, hb, h => by
      simp only [convSV]
      split
      · rename_i i hi
        simp only [SVRel] at h ⊢
        rw [inE_pos hi]
        exact h
      · rename_i hi
        split
        · rename_i d hd
          simp only [SVRel]
          exact own_dv H (hb k (by simp [borSV, hi])) h hd
        · simp [SVRel]
  | .csl k wd n, v, hb, h => by
      simp only [convSV]
      split
      · simp [SVRel]
      · split
        · rename_i T cs hob
          split
          · rename_i ds hds
            cases hl : eqN ds.length (n * wd) with
            | false => simp [SVRel]
            | true =>
              have hl := eqN_eq hl
              have hx : SVRel η G w (.csl k wd n) v := h
              simp only [cond_true, SVRel]
              exact csl_dv H (hb k (by simp [borSV, hob])) hob hl hx fun vs hs => cellDVs_rel (bor := bor) H (fun k' hk' => hb k' (by simp only [borSV, hob, List.mem_cons]; exact .inr hk')) hs hds
          · simp [SVRel]
        · simp [SVRel]
  | .loc k off, v, hb, h => by
      simp only [convSV]
      split
      · rename_i i hi
        simp only [SVRel] at h ⊢
        rw [inE_pos hi]
        exact h
      · simp [SVRel]
  | .op _ _ _ _, _, _, _ => by simp [convSV, SVRel]
  | .ep none _ _ _, _, _, _ => by simp [convSV, SVRel]
  | .ep (some _) _ _ _, _, _, _ => by simp [convSV, SVRel]
  | .agg cs, v, hb, h => by
      simp only [convSV, SVRel] at h ⊢
      obtain ⟨vs, rfl, h⟩ := h
      exact ⟨vs, rfl, convSVs_rel H cs vs (by simpa only [borSV] using hb) h⟩
  | .tup cs, v, hb, h => by
      simp only [convSV, SVRel] at h ⊢
      obtain ⟨vs, rfl, h⟩ := h
      exact ⟨vs, rfl, convSVs_rel H cs vs (by simpa only [borSV] using hb) h⟩
  | .fn f cs, v, hb, h => by
      simp only [convSV, SVRel] at h ⊢
      obtain ⟨vs, rfl, h⟩ := h
      exact ⟨vs, rfl, convSVs_rel H cs vs (by simpa only [borSV] using hb) h⟩
theorem convSVs_rel (H : Holds dl η G N get ob a w) {sel bor : List Nat} : ∀ (s : List SV) (v : List Value), (∀ k ∈ borSVs ob sel s, k ∈ bor) → SVRels η G w s v → SVRels (inE η sel) (inG η G bor) w (convSVs ob sel s) v
  | [], [], _, _ => by simp [convSVs, SVRels]
  | [], _ :: _, _, h => by simp [SVRels] at h
  | _ :: _, [], _, h => by simp [SVRels] at h
  | c :: cs, v :: vs, hb, h => by
      simp only [convSVs, SVRels] at h ⊢
      simp only [borSVs, List.mem_append] at hb
      exact ⟨convSV_rel H c v (fun k hk => hb k (.inl hk)) h.1, convSVs_rel H cs vs (fun k hk => hb k (.inr hk)) h.2⟩
end

end
end Go.SX
