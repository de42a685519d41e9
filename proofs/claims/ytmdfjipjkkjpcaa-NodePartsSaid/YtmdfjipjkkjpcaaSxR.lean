/- SX: weakening a state. -/
import Derived.Test.YtmdfjipjkkjpcaaSxQ
namespace Go.SX

theorem bif_true {b : Bool} {p : Prop} (h : bif b then p else False) : b = true ∧ p := by
  cases b
  · exact h.elim
  · exact ⟨rfl, h⟩

theorem leDV_rel {w : World} {S : Nat → Prop} {d d' : DV} {v : Value} (h : leDV d d') (hv : DVRel w S d' v) : DVRel w S d v := by
  cases d <;> cases d' <;> simp only [leDV] at h
  case int.int =>
    have hk := (bif_true h).1
    replace h := (bif_true h).2
    have := ikeq_eq hk
    subst this
    simp only [DVRel] at hv ⊢
    rw [← h.h]; exact hv
  case bool.bool => simp only [DVRel] at hv ⊢; rw [← h.h]; exact hv
  case str.str => simp only [DVRel] at hv ⊢; rw [← h.h]; exact hv
  case bytes.bytes => simp only [DVRel] at hv ⊢; rw [← h.h]; exact hv
  case sl.sl =>
    have hw := (bif_true h).1
    replace h := (bif_true h).2
    have := eqN_eq hw
    subst this
    obtain ⟨h1, h2⟩ := h.h
    simp only [DVRel] at hv ⊢
    obtain ⟨a, c, e, hc, hr⟩ := hv
    refine ⟨a, c, by rw [← h1]; exact e, by rw [← h1]; exact hc, fun i hi => ?_⟩
    obtain ⟨b, o, ha, hb, hr⟩ := hr i (by rw [h1]; exact hi)
    refine ⟨b, o, ha, hb, fun j hj => ?_⟩
    obtain ⟨u, hu, hd⟩ := hr j hj
    exact ⟨u, hu, by rw [← h2 i hi j hj]; exact hd⟩

theorem renIs_iff {ρ : List (Nat × Option Nat)} {k j : Nat} : renIs ρ k j = true ↔ renN ρ k = some j := by
  unfold renIs
  cases renN ρ k with
  | none => simp
  | some i => simp only [Option.some.injEq]; exact ⟨fun h => eqN_eq h, fun h => by rw [h]; exact eqN_refl j⟩

def nilInfo (d : Bool) : OInfo := ⟨.slice none 0 0, [], [], d⟩

def leE (η : OEnv) (ρ : List (Nat × Option Nat)) (objs : Objs) : OEnv := fun k =>
  match lookN k objs with
  | none => none
  | some .dead => some (nilInfo true)
  | some _ => match renN ρ k with
    | some j => η j
    | none => some (nilInfo false)

section
variable {η : OEnv} {G : Nat → Prop} {N : Nat} {dl : List Deferred} {get : Nat → SV} {ob : Nat → Option TObj} {a : Act} {w : World}

/-- An object of the new state: a dead one, a new empty slice, or an old one. -/
theorem leE_cases {ρ : List (Nat × Option Nat)} {objs : Objs} {k : Nat} {o : OInfo} (h : leE η ρ objs k = some o) : ∃ x, lookN k objs = some x ∧
    ((x = .dead ∧ o = nilInfo true) ∨ (x ≠ .dead ∧ renN ρ k = none ∧ o = nilInfo false) ∨ (x ≠ .dead ∧ ∃ j, renN ρ k = some j ∧ η j = some o)) := by
  unfold leE at h
  split at h
  · cases h
  · rename_i hx; cases h; exact ⟨_, hx, .inl ⟨rfl, rfl⟩⟩
  · rename_i x hne hx
    refine ⟨_, hx, .inr ?_⟩
    split at h
    · rename_i j hj; exact .inr ⟨fun e => hne e, j, hj, h⟩
    · rename_i hj; cases h; exact .inl ⟨fun e => hne e, hj, rfl⟩

theorem leE_ren {ρ : List (Nat × Option Nat)} {objs : Objs} {k j : Nat} {o : OInfo} (hm : memN k (namesOf objs) = true) (hr : renN ρ k = some j) (ho : η j = some o) :
    ∃ o', leE η ρ objs k = some o' ∧ (o'.dead = false → o' = o) := by
  obtain ⟨x, hx⟩ := names_mem.1 (memN_iff.1 hm)
  unfold leE
  cases hl : lookN k objs with
  | none => exact absurd hx (lookN_none.1 hl x)
  | some y =>
    cases y <;> simp only [hr, ho]
    case dead => exact ⟨_, rfl, fun h => by simp [nilInfo] at h⟩
    all_goals exact ⟨o, rfl, fun _ => rfl⟩

theorem leE_new {ρ : List (Nat × Option Nat)} {objs : Objs} {k : Nat} (hm : memN k (namesOf objs) = true) (hr : renN ρ k = none) :
    ∃ o', leE η ρ objs k = some o' ∧ (o'.dead = false → o' = nilInfo false) := by
  obtain ⟨x, hx⟩ := names_mem.1 (memN_iff.1 hm)
  unfold leE
  cases hl : lookN k objs with
  | none => exact absurd hx (lookN_none.1 hl x)
  | some y =>
    cases y <;> simp only [hr]
    case dead => exact ⟨_, rfl, fun h => by simp [nilInfo] at h⟩
    all_goals exact ⟨_, rfl, fun _ => rfl⟩

mutual
theorem leSV_rel (H : Holds dl η G N get ob a w) {ρ : List (Nat × Option Nat)} {frz : List Nat} {objs : Objs} : ∀ (s s' : SV) (v : Value), leSV ρ (namesOf objs) frz ob s s' → SVRel η G w s' v →
    SVRel (leE η ρ objs) (inG η G frz) w s v
  | .any, _, _, _, _ => by simp [SVRel]
  | .nil, s', v, h, hv => by
      cases s' <;> simp only [leSV] at h
      simpa [SVRel] using hv
  | .int k e, s', v, h, hv => by
      cases s' <;> simp only [leSV] at h
      have hk := (bif_true h).1
      replace h := (bif_true h).2
      have := ikeq_eq hk
      subst this
      simp only [SVRel] at hv ⊢
      rw [← h.h]; exact hv
  | .bool e, s', v, h, hv => by
      cases s' <;> simp only [leSV] at h
      simp only [SVRel] at hv ⊢
      rw [← h.h]; exact hv
  | .str e, s', v, h, hv => by
      cases s' <;> simp only [leSV] at h
      simp only [SVRel] at hv ⊢
      rw [← h.h]; exact hv
  | .val e, s', v, h, hv => by
      cases s' <;> simp only [leSV] at h
      simp only [SVRel] at hv ⊢
      rw [← h.h]; exact hv
  | .nn d, s', v, h, hv => by
      cases s' <;> simp only [leSV] at h
  | .dat d, s', v, h, hv => by
      cases s' with
      | dat d' =>
        simp only [leSV] at h
        simp only [SVRel] at hv ⊢
        exact leDV_rel h (DVRel.mono (fun b hb => .inl hb) (fun _ _ => rfl) _ _ hv)
      | nil =>
        simp only [SVRel] at hv
        subst hv
        cases d <;> simp only [leSV] at h
        · simp only [SVRel, DVRel, h.h]; exact ⟨none, 0, rfl, Nat.le_refl _, by simp⟩
        · simp only [SVRel, DVRel, h.h]; exact ⟨none, 0, rfl, Nat.le_refl _, fun i hi => by omega⟩
      | own k =>
        have h : (bif memN k frz then match svDV ob (.own k) with
          | some d' => leDV d d'
          | none => False
          else False) := by cases d <;> exact h
        have hm := (bif_true h).1
        replace h := (bif_true h).2
        cases hd : svDV ob (.own k) with
        | none => rw [hd] at h; exact h.elim
        | some d' =>
          rw [hd] at h
          simp only [SVRel]
          exact leDV_rel h (own_dv H (memN_iff.1 hm) hv hd)
      | _ => cases d <;> simp only [leSV] at h
  | .view _ _, s', _, h, _ => by cases s' <;> simp only [leSV] at h
  | .own k, s', v, h, hv => by
      cases s' with
      | own k' =>
        simp only [leSV] at h
        obtain ⟨h, _⟩ := bif_true h
        simp only [Bool.and_eq_true] at h
        simp only [SVRel] at hv ⊢
        obtain ⟨o, ho, h1, hv⟩ := hv
        obtain ⟨o', ho', hd⟩ := leE_ren h.1 (renIs_iff.1 h.2) ho
        exact ⟨o', ho', h1, fun hdd => by rw [hd hdd]; exact hv (by rw [← hd hdd]; exact hdd)⟩
      | nil =>
        simp only [leSV] at h
        obtain ⟨h, _⟩ := bif_true h
        simp only [Bool.and_eq_true, renNew] at h
        simp only [SVRel] at hv ⊢
        subst hv
        have hn : renN ρ k = none := by
          cases hr : renN ρ k with
          | none => rfl
          | some j => rw [hr] at h; cases h.2
        obtain ⟨o', ho', hd⟩ := leE_new (η := η) h.1 hn
        exact ⟨o', ho', rfl, fun hdd => by rw [hd hdd]; rfl⟩
      | _ => simp only [leSV] at h
  | .csl k wd n, s', v, h, hv => by
      cases s' with
      | csl k' wd' n' =>
        simp only [leSV] at h
        obtain ⟨h, _⟩ := bif_true h
        simp only [Bool.and_eq_true] at h
        obtain ⟨h1, h2, h3, h4⟩ := h
        have := eqN_eq h4
        subst this
        simp only [SVRel] at hv ⊢
        obtain ⟨o, ho, hone, hv⟩ := hv
        obtain ⟨o', ho', hd⟩ := leE_ren h1 (renIs_iff.1 h2) ho
        exact ⟨o', ho', hone, fun hdd => by rw [hd hdd]; exact hv (by rw [← hd hdd]; exact hdd)⟩
      | _ => simp only [leSV] at h
  | .loc k off, s', v, h, hv => by
      cases s' with
      | loc k' off' =>
        simp only [leSV] at h
        obtain ⟨h, _⟩ := bif_true h
        simp only [Bool.and_eq_true] at h
        obtain ⟨h1, h2, h3⟩ := h
        have := eqN_eq h3
        subst this
        simp only [SVRel] at hv ⊢
        obtain ⟨o, ho, hone, hv⟩ := hv
        obtain ⟨o', ho', hd⟩ := leE_ren h1 (renIs_iff.1 h2) ho
        exact ⟨o', ho', hone, fun hdd => by rw [hd hdd]; exact hv (by rw [← hd hdd]; exact hdd)⟩
      | _ => simp only [leSV] at h
  | .op _ _ _ _, s', _, h, _ => by cases s' <;> simp only [leSV] at h
  | .ep _ _ _ _, s', _, h, _ => by cases s' <;> simp only [leSV] at h
  | .agg cs, s', v, h, hv => by
      cases s' <;> simp only [leSV] at h
      simp only [SVRel] at hv ⊢
      obtain ⟨vs, rfl, hv⟩ := hv
      exact ⟨vs, rfl, leSVs_rel H cs _ vs h hv⟩
  | .tup cs, s', v, h, hv => by
      cases s' <;> simp only [leSV] at h
      simp only [SVRel] at hv ⊢
      obtain ⟨vs, rfl, hv⟩ := hv
      exact ⟨vs, rfl, leSVs_rel H cs _ vs h hv⟩
  | .fn f cs, s', v, h, hv => by
      cases s' <;> simp only [leSV] at h
      have hf := (bif_true h).1
      replace h := (bif_true h).2
      have := eqN_eq hf
      subst this
      simp only [SVRel] at hv ⊢
      obtain ⟨vs, rfl, hv⟩ := hv
      exact ⟨vs, rfl, leSVs_rel H cs _ vs h hv⟩
theorem leSVs_rel (H : Holds dl η G N get ob a w) {ρ : List (Nat × Option Nat)} {frz : List Nat} {objs : Objs} : ∀ (s s' : List SV) (v : List Value), leSVs ρ (namesOf objs) frz ob s s' → SVRels η G w s' v →
    SVRels (leE η ρ objs) (inG η G frz) w s v
  | [], [], [], _, _ => by simp [SVRels]
  | [], [], _ :: _, _, h => by simp [SVRels] at h
  | [], _ :: _, _, h, _ => by simp only [leSVs] at h
  | _ :: _, [], _, h, _ => by simp only [leSVs] at h
  | _ :: _, _ :: _, [], _, h => by simp [SVRels] at h
  | c :: cs, c' :: cs', v :: vs, h, hv => by
      simp only [leSVs] at h
      simp only [SVRels] at hv ⊢
      exact ⟨leSV_rel H c c' v h.1 hv.1, leSVs_rel H cs cs' vs h.2 hv.2⟩
end

theorem leObj_rel (H : Holds dl η G N get ob a w) {ρ : List (Nat × Option Nat)} {frz : List Nat} {objs : Objs} {x y : TObj} {o : OInfo} (hx : x ≠ .dead) (h : leObj ρ (namesOf objs) frz ob x y) (hv : ObjRel η G w y o) :
    ObjRel (leE η ρ objs) (inG η G frz) w x o := by
  cases x with
  | dead => exact absurd rfl hx
  | cells T cs =>
    cases y <;> simp only [leObj] at h
    have hT := (bif_true h).1
    replace h := (bif_true h).2
    have := eqN_eq hT
    subst this
    simp only [ObjRel] at hv ⊢
    obtain ⟨h1, h2, b, vs, h3, h4, h5⟩ := hv
    exact ⟨h1, h2, b, vs, h3, h4, leSVs_rel H cs _ vs h h5⟩
  | barr T bs =>
    cases y <;> simp only [leObj] at h
    have hT := (bif_true h).1
    replace h := (bif_true h).2
    have := eqN_eq hT
    subst this
    simp only [ObjRel] at hv ⊢
    rw [← h.h]; exact hv
  | arrS T wd n row =>
    cases y <;> simp only [leObj] at h
    have hw := (bif_true h).1
    replace h := (bif_true h).2
    simp only [Bool.and_eq_true] at hw
    have := eqN_eq hw.1
    subst this
    have := eqN_eq hw.2
    subst this
    obtain ⟨e1, e2⟩ := h.h
    simp only [ObjRel] at hv ⊢
    obtain ⟨h1, h2, h3⟩ := hv
    refine ⟨h1, h2, ?_⟩
    rcases h3 with h | ⟨b, c, cs, T', r1, r2, r3, r4, r5, r6, r7⟩
    · rw [e1] at h; exact .inl h
    · rw [e1] at r1 r5
      refine .inr ⟨b, c, cs, T', r1, r2, r3, r4, r5, r6, fun i j hi hj => ?_⟩
      obtain ⟨u, hu, hd⟩ := r7 i j (by rw [e1]; exact hi) hj
      exact ⟨u, hu, by rw [← e2 i hi j hj]; exact DVRel.mono (fun b hb => .inl hb) (fun _ _ => rfl) _ _ hd⟩
  | arrD T wd n row =>
    cases y <;> simp only [leObj] at h
    have hw := (bif_true h).1
    replace h := (bif_true h).2
    simp only [Bool.and_eq_true] at hw
    have := eqN_eq hw.1
    subst this
    have := eqN_eq hw.2
    subst this
    obtain ⟨e1, e2⟩ := h.h
    simp only [ObjRel] at hv ⊢
    obtain ⟨h1, Bs, h2, h2', h3⟩ := hv
    refine ⟨h1, Bs, fun i j b hi hj hb => h2 i j b (by rw [e1]; exact hi) hj hb, by rw [← e1]; exact h2', ?_⟩
    rcases h3 with h | ⟨b, c, cs, T', r1, r2, r3, r4, r5, r6, r7⟩
    · rw [e1] at h; exact .inl h
    · rw [e1] at r1 r5
      refine .inr ⟨b, c, cs, T', r1, r2, r3, r4, r5, r6, fun i j hi hj => ?_⟩
      obtain ⟨u, hu, hd⟩ := r7 i j (by rw [e1]; exact hi) hj
      exact ⟨u, hu, by rw [← e2 i hi j hj]; exact hd⟩
  | setI k ks =>
    cases y <;> simp only [leObj] at h
    have hk := (bif_true h).1
    replace h := (bif_true h).2
    have := ikeq_eq hk
    subst this
    simp only [ObjRel] at hv ⊢
    rw [← h.h]; exact hv

theorem emptyObj_rel {x : TObj} (h : emptyObj x) (η : OEnv) (G : Nat → Prop) (w : World) : ObjRel η G w x (nilInfo false) := by
  cases x <;> simp only [emptyObj] at h
  case barr T bs => exact ⟨rfl, rfl, .inl ⟨rfl, by rw [h.h]; rfl, rfl⟩⟩
  case arrS T wd n row => exact ⟨rfl, rfl, .inl ⟨rfl, h.h, rfl⟩⟩
  case arrD T wd n row =>
    have hn := h.h
    refine ⟨rfl, fun _ _ => [], fun i j b hi => ?_, ?_, .inl ⟨rfl, hn, rfl⟩⟩
    · rw [hn] at hi; omega
    · rw [hn]; simp

theorem leObjs_at {ρ : List (Nat × Option Nat)} {nm frz : List Nat} : ∀ {objs : Objs} {k : Nat} {x : TObj}, leObjs ρ nm frz ob objs → lookN k objs = some x →
    (renN ρ k = none ∧ emptyObj x) ∨ ∃ j y, renN ρ k = some j ∧ ob j = some y ∧ leObj ρ nm frz ob x y
  | [], k, x, _, h => by simp [lookN] at h
  | (k', x') :: r, k, x, h, hl => by
      simp only [leObjs] at h
      simp only [lookN] at hl
      cases hb : eqN k' k with
      | true =>
        rw [hb] at hl
        simp only [cond_true, Option.some.injEq] at hl
        have := eqN_eq hb
        subst this; subst hl
        have h := h.1
        split at h
        · rename_i hr; exact .inl ⟨hr, h⟩
        · rename_i j hr
          split at h
          · rename_i y hy; exact .inr ⟨j, y, hr, hy, h⟩
          · exact h.elim
      | false => rw [hb] at hl; exact leObjs_at h.2 hl

theorem isDead_iff {x : TObj} : isDead x = true ↔ x = .dead := by cases x <;> simp [isDead]

theorem image_mem {ρ : List (Nat × Option Nat)} : ∀ {objs : Objs} {k j : Nat} {x : TObj}, (k, x) ∈ objs → x ≠ .dead → renN ρ k = some j → j ∈ images ρ objs
  | [], _, _, _, h, _, _ => by cases h
  | (k', x') :: r, k, j, x, h, hx, hr => by
      simp only [images]
      rcases List.mem_cons.1 h with e | h
      · cases e
        have : isDead x' = false := by
          cases hd : isDead x' with
          | true => exact absurd (isDead_iff.1 hd) hx
          | false => rfl
        rw [this, hr]; simp
      · have := image_mem h hx hr
        cases isDead x' with
        | true => exact this
        | false =>
          simp only [cond_false]
          split
          · exact List.mem_cons_of_mem _ this
          · exact this

theorem image_inj {ρ : List (Nat × Option Nat)} : ∀ {objs : Objs}, (images ρ objs).Nodup → ∀ {k k' j : Nat} {x x' : TObj}, (k, x) ∈ objs → x ≠ .dead → (k', x') ∈ objs → x' ≠ .dead → renN ρ k = some j → renN ρ k' = some j → k = k'
  | [], _, _, _, _, _, _, h, _, _, _, _, _ => by cases h
  | (k₀, x₀) :: r, hn, k, k', j, x, x', h, hx, h', hx', hr, hr' => by
      simp only [images] at hn
      have hdead : ∀ {y : TObj}, y ≠ .dead → isDead y = false := fun {y} hy => by
        cases hd : isDead y with
        | true => exact absurd (isDead_iff.1 hd) hy
        | false => rfl
      rcases List.mem_cons.1 h with e | h <;> rcases List.mem_cons.1 h' with e' | h'
      · cases e; cases e'; rfl
      · cases e
        rw [hdead hx, hr] at hn
        exact absurd (image_mem h' hx' hr') (List.nodup_cons.1 hn).1
      · cases e'
        rw [hdead hx', hr'] at hn
        exact absurd (image_mem h hx hr) (List.nodup_cons.1 hn).1
      · refine image_inj ?_ h hx h' hx' hr hr'
        cases hd : isDead x₀ with
        | true => rw [hd] at hn; exact hn
        | false =>
          rw [hd] at hn
          simp only [cond_false] at hn
          split at hn
          · exact (List.nodup_cons.1 hn).2
          · exact hn

/-- What a weakening keeps of the objects. -/
structure LeE (η : OEnv) (G : Nat → Prop) (η' : OEnv) (G' : Nat → Prop) : Prop where
  bor : ∀ k o, isBor k = true → η k = some o → ∃ o', η' k = some o' ∧ (o'.dead = false → o' = o)
  blk : ∀ k o', η' k = some o' → ∀ b ∈ o'.main ++ o'.inner, ∃ k₀ o₀, η k₀ = some o₀ ∧ b ∈ o₀.main ++ o₀.inner
  g : ∀ b, G b → G' b
  g' : ∀ b, G' b → G b ∨ ∃ k o, η k = some o ∧ b ∈ o.main ++ o.inner

theorem borKept_spec {ρ : List (Nat × Option Nat)} {objs : Objs} : ∀ {old : Objs}, borKept ρ objs old = true → ∀ k x, (k, x) ∈ old → isBor k = true → renN ρ k = some k ∧ memN k (namesOf objs) = true
  | [], _, _, _, h, _ => by cases h
  | (k', x') :: r, h, k, x, hm, hb => by
      simp only [borKept, Bool.and_eq_true, Bool.or_eq_true, Bool.not_eq_true'] at h
      rcases List.mem_cons.1 hm with e | hm
      · cases e
        have := h.1.resolve_left (by rw [hb]; simp)
        exact ⟨renIs_iff.1 this.1, this.2⟩
      · exact borKept_spec h.2 k x hm hb

theorem le_state {st : St} (H : Holds dl η G st.tmps.length (getT st) (getO st) a w) {ρ : List (Nat × Option Nat)} {frz : List Nat} {objs : Objs}
    (ho : leObjs ρ (namesOf objs) frz (getO st) objs) (hn : leNames ρ frz objs st.objs = true) :
    (∀ k, ObjOpt (leE η ρ objs) (inG η G frz) w (lookN k objs) (leE η ρ objs k)) ∧ Sep (leE η ρ objs) (inG η G frz) w ∧ LeE η G (leE η ρ objs) (inG η G frz) := by
  simp only [leNames, Bool.and_eq_true] at hn
  obtain ⟨hn1, hn2, hn3, hn4, hn5⟩ := hn
  have hn2 := nodupB_iff hn2
  have hblk : ∀ k o', leE η ρ objs k = some o' → ∀ b ∈ o'.main ++ o'.inner, ∃ j, renN ρ k = some j ∧ η j = some o' ∧ ∃ x, (k, x) ∈ objs ∧ x ≠ .dead := by
    intro k o' hk b hb
    obtain ⟨x, hx, h⟩ := leE_cases hk
    rcases h with ⟨_, rfl⟩ | ⟨_, _, rfl⟩ | ⟨hnd, j, h1, h2⟩
    · simp [nilInfo] at hb
    · simp [nilInfo] at hb
    · exact ⟨j, h1, h2, x, lookN_mem hx, hnd⟩
  refine ⟨fun k => ?_, ⟨?_, ?_, ?_, ?_⟩, ⟨?_, ?_, ?_, ?_⟩⟩
  · cases hk : leE η ρ objs k with
    | none =>
      unfold leE at hk
      cases hl : lookN k objs with
      | none => trivial
      | some x =>
        exfalso
        rw [hl] at hk
        by_cases hx : x = .dead
        · subst hx; simp at hk
        · rcases leObjs_at ho hl with ⟨h1, _⟩ | ⟨j, y, h1, h2, _⟩
          · cases x <;> simp [h1] at hk
          · obtain ⟨o, hj, _⟩ := obj_of H h2
            cases x <;> simp [h1, hj] at hk
    | some o =>
      obtain ⟨x, hx, h⟩ := leE_cases hk
      rw [hx]
      rcases h with ⟨rfl, rfl⟩ | ⟨hd, hr, rfl⟩ | ⟨hd, j, hr, hj⟩
      · exact ⟨rfl, rfl, rfl⟩
      · rcases leObjs_at ho hx with ⟨_, h⟩ | ⟨j, y, h1, _⟩
        · exact emptyObj_rel h _ _ _
        · rw [hr] at h1; cases h1
      · rcases leObjs_at ho hx with ⟨h1, _⟩ | ⟨j', y, h1, h2, h3⟩
        · rw [hr] at h1; cases h1
        · rw [hr] at h1; cases h1
          obtain ⟨o', ho', hrel⟩ := obj_of H h2
          rw [hj] at ho'; cases ho'
          exact leObj_rel H hd h3 hrel
  · intro k o hk b hb
    obtain ⟨j, h1, h2, x, hx, hnd⟩ := hblk k o hk b hb
    refine ⟨(H.sp.lt j o h2 b hb).1, ?_⟩
    rintro (hg | ⟨f, hf, o', ho', hb'⟩)
    · exact (H.sp.lt j o h2 b hb).2 hg
    · exact H.sp.dj j o f o' h2 ho' (fun e => apartB_spec hn3 f hf (e ▸ image_mem hx hnd h1)) b hb hb'
  · intro k o k' o' hk hk' hne b hb hb'
    obtain ⟨j, h1, h2, x, hx, hnd⟩ := hblk k o hk b hb
    obtain ⟨j', h1', h2', x', hx', hnd'⟩ := hblk k' o' hk' b hb'
    exact H.sp.dj j o j' o' h2 h2' (fun e => hne (image_inj hn2 hx hnd hx' hnd' h1 (e ▸ h1'))) b hb hb'
  · intro k o hk b hb
    obtain ⟨j, h1, h2, x, hx, hnd⟩ := hblk k o hk b (by simp [hb])
    exact H.sp.mi j o h2 b hb
  · rintro b (hg | ⟨f, hf, o', ho', hb'⟩)
    · exact H.sp.glt b hg
    · exact (H.sp.lt f o' ho' b hb').1
  · intro k o hb hk
    have := H.ob k
    rw [hk] at this
    cases hx : getO st k with
    | none => rw [hx] at this; exact this.elim
    | some x =>
      obtain ⟨h1, h2⟩ := borKept_spec hn4 k x (lookN_mem hx) hb
      exact leE_ren h2 h1 hk
  · intro k o hk b hb
    obtain ⟨j, h1, h2, x, hx, hnd⟩ := hblk k o hk b hb
    exact ⟨j, o, h2, hb⟩
  · exact fun b hb => .inl hb
  · rintro b (hg | ⟨f, hf, o', ho', hb'⟩)
    · exact .inl hg
    · exact .inr ⟨f, o', ho', hb'⟩

theorem Evol.le {η₀ η η' : OEnv} {G₀ G G' : Nat → Prop} {w₀ w : World} (hb : ∀ k o, η₀ k = some o → isBor k = true) (e : Evol η₀ G₀ w₀ η G w) (l : LeE η G η' G') : Evol η₀ G₀ w₀ η' G' w := by
  refine ⟨e.os, e.tape, e.out, e.size, e.keep, ?_, fun b h => l.g b (e.g b h), ?_, ?_⟩
  · intro k o ho
    obtain ⟨o', ho', h⟩ := e.obj k o ho
    obtain ⟨o'', ho'', h'⟩ := l.bor k o' (hb k o ho) ho'
    exact ⟨o'', ho'', fun hd => (by have e := h' hd; subst e; exact h hd)⟩
  · intro b h
    rcases l.g' b h with h | ⟨k, o, ho, hm⟩
    · exact e.g' b h
    · rcases e.blk k o ho b hm with h | h
      · exact .inr (.inl h)
      · exact .inr (.inr h)
  · intro k o ho b hm
    obtain ⟨k₀, o₀, h₀, hm₀⟩ := l.blk k o ho b hm
    exact e.blk k₀ o₀ h₀ b hm₀
end
end Go.SX
