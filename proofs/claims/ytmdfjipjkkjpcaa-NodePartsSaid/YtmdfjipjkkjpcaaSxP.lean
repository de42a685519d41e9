/- SX: regions, third part: any order that the edges allow comes to what the text's order comes to. -/
import Derived.Test.YtmdfjipjkkjpcaaSxO
namespace Go.SX

def stD (N : Nat) (D : Nat → Bool) : Nat → FS → List FR → FS
  | _, F, [] => F
  | i, F, r :: rs => stD N D (i + 1) (if D i then r.app N F else F) rs

theorem app_slot (N : Nat) (r : FR) (F : FS) (t : Nat) : (r.app N F).1 t = if r.dst = some t ∧ t < N then r.sv else F.1 t := by
  cases hd : r.dst with
  | none => simp [FR.app, hd]
  | some d =>
    simp only [FR.app, hd, Option.some.injEq]
    by_cases h : t = d
    · subst h; simp
    · have : ¬ d = t := fun e => h e.symm
      simp [h, this]

theorem updF_base {ob ob' : Nat → Option TObj} : ∀ (upd : Objs) (k : Nat), ob k = ob' k → updF ob upd k = updF ob' upd k
  | [], _, h => h
  | (j, x) :: r, k, h => updF_base r k (by split <;> simp_all)

theorem updF_not {ob : Nat → Option TObj} : ∀ (upd : Objs) (k : Nat), k ∉ namesOf upd → updF ob upd k = ob k
  | [], _, _ => rfl
  | (j, x) :: r, k, h => by
      simp only [namesOf, List.mem_cons, not_or] at h
      simp only [updF]
      rw [updF_not r k h.2, if_neg h.1]

theorem updF_in {ob ob' : Nat → Option TObj} : ∀ (upd : Objs) (k : Nat), k ∈ namesOf upd → updF ob upd k = updF ob' upd k
  | [], _, h => by cases h
  | (j, x) :: r, k, h => by
      simp only [updF]
      by_cases hk : k = j
      · exact updF_base r k (by simp [hk])
      · simp only [namesOf, List.mem_cons] at h
        exact updF_in r k (h.resolve_left hk)

theorem app_obj_not (N : Nat) (r : FR) (F : FS) (k : Nat) (h : k ∉ namesOf r.upd) : (r.app N F).2 k = F.2 k := updF_not _ _ h
theorem app_obj_in (N : Nat) (r : FR) (F F' : FS) (k : Nat) (h : k ∈ namesOf r.upd) : (r.app N F).2 k = (r.app N F').2 k := updF_in _ _ h

theorem stD_slot {N : Nat} {D D' : Nat → Bool} {t : Nat} : ∀ (rs : List FR) (i : Nat) (F F' : FS), F.1 t = F'.1 t → (∀ j r, rs[j]? = some r → r.dst = some t → D (i + j) = D' (i + j)) →
    (stD N D i F rs).1 t = (stD N D' i F' rs).1 t
  | [], _, _, _, h, _ => h
  | r :: rs, i, F, F', h, hw => by
      simp only [stD]
      refine stD_slot rs (i + 1) _ _ ?_ fun j r' hj hr => by have := hw (j + 1) r' (by simpa [leN_iff, ltN_iff] using hj) hr; rwa [show i + (j + 1) = i + 1 + j by omega] at this
      by_cases hd : r.dst = some t
      · have := hw 0 r rfl hd
        simp only [Nat.add_zero] at this
        rw [this]
        cases D' i <;> simp [app_slot, h]
      · cases D i <;> cases D' i <;> simp [app_slot, h, hd]

theorem stD_obj {N : Nat} {D D' : Nat → Bool} {k : Nat} : ∀ (rs : List FR) (i : Nat) (F F' : FS), F.2 k = F'.2 k → (∀ j r, rs[j]? = some r → k ∈ namesOf r.upd → D (i + j) = D' (i + j)) →
    (stD N D i F rs).2 k = (stD N D' i F' rs).2 k
  | [], _, _, _, h, _ => h
  | r :: rs, i, F, F', h, hw => by
      simp only [stD]
      refine stD_obj rs (i + 1) _ _ ?_ fun j r' hj hr => by have := hw (j + 1) r' (by simpa [leN_iff, ltN_iff] using hj) hr; rwa [show i + (j + 1) = i + 1 + j by omega] at this
      by_cases hd : k ∈ namesOf r.upd
      · have := hw 0 r rfl hd
        simp only [Nat.add_zero] at this
        rw [this]
        cases D' i
        · exact h
        · exact app_obj_in N r F F' k hd
      · cases D i <;> cases D' i <;> simp [app_obj_not, h, hd]

theorem stD_none {N : Nat} : ∀ (rs : List FR) (i : Nat) (F : FS), stD N (fun _ => false) i F rs = F
  | [], _, _ => rfl
  | r :: rs, i, F => by simp only [stD]; exact stD_none rs _ _

theorem stD_big {N : Nat} {D : Nat → Bool} {t : Nat} (hN : ¬ t < N) : ∀ (rs : List FR) (i : Nat) (F : FS), (stD N D i F rs).1 t = F.1 t
  | [], _, _ => rfl
  | r :: rs, i, F => by simp only [stD]; rw [stD_big hN rs]; cases D i <;> simp [app_slot, hN]

/-- The last writer of a slot. -/
theorem stD_last {N : Nat} {D : Nat → Bool} {t : Nat} {r : FR} (hN : t < N) : ∀ (rs : List FR) (i m : Nat) (F : FS), rs[m]? = some r → r.dst = some t → D (i + m) = true → (∀ j r', rs[j]? = some r' → r'.dst = some t → m < j → D (i + j) = false) →
    (stD N D i F rs).1 t = r.sv
  | [], _, _, _, h, _, _, _ => by simp at h
  | x :: rs, i, 0, F, h, hd, hD, hl => by
      simp only [List.getElem?_cons_zero, Option.some.injEq] at h
      subst h
      simp only [stD]
      simp only [Nat.add_zero] at hD
      rw [hD, if_pos rfl]
      have : (stD N D (i + 1) (x.app N F) rs).1 t = (stD N (fun _ => false) (i + 1) (x.app N F) rs).1 t :=
        stD_slot rs (i + 1) _ _ rfl fun j r' hj hr => by have := hl (j + 1) r' (by simpa [leN_iff, ltN_iff] using hj) hr (by omega); rwa [show i + (j + 1) = i + 1 + j by omega] at this
      rw [this, stD_none]
      simp [app_slot, hd, hN]
  | x :: rs, i, m + 1, F, h, hd, hD, hl => by
      simp only [stD]
      exact stD_last hN rs (i + 1) m _ (by simpa [leN_iff, ltN_iff] using h) hd (by rwa [show i + 1 + m = i + (m + 1) by omega])
          (fun j r' hj hr hm => by have := hl (j + 1) r' (by simpa [leN_iff, ltN_iff] using hj) hr (by omega); rwa [show i + (j + 1) = i + 1 + j by omega] at this)

theorem stD_lastO {N : Nat} {D : Nat → Bool} {k : Nat} {r : FR} : ∀ (rs : List FR) (i m : Nat) (F F' : FS), rs[m]? = some r → k ∈ namesOf r.upd → D (i + m) = true → (∀ j r', rs[j]? = some r' → k ∈ namesOf r'.upd → m < j → D (i + j) = false) →
    (stD N D i F rs).2 k = (r.app N F').2 k
  | [], _, _, _, _, h, _, _, _ => by simp at h
  | x :: rs, i, 0, F, F', h, hd, hD, hl => by
      simp only [List.getElem?_cons_zero, Option.some.injEq] at h
      subst h
      simp only [stD]
      simp only [Nat.add_zero] at hD
      rw [hD, if_pos rfl]
      have : (stD N D (i + 1) (x.app N F) rs).2 k = (stD N (fun _ => false) (i + 1) (x.app N F) rs).2 k :=
        stD_obj rs (i + 1) _ _ rfl fun j r' hj hr => by have := hl (j + 1) r' (by simpa [leN_iff, ltN_iff] using hj) hr (by omega); rwa [show i + (j + 1) = i + 1 + j by omega] at this
      rw [this]
      rw [stD_none]
      exact app_obj_in N x F F' k hd
  | x :: rs, i, m + 1, F, F', h, hd, hD, hl => by
      simp only [stD]
      exact stD_lastO (N := N) (D := D) (k := k) (r := r) rs (i + 1) m _ F' (by simpa [leN_iff, ltN_iff] using h) hd (by rwa [show i + 1 + m = i + (m + 1) by omega])
          (fun j r' hj hr hm => by have := hl (j + 1) r' (by simpa [leN_iff, ltN_iff] using hj) hr (by omega); rwa [show i + (j + 1) = i + 1 + j by omega] at this)

theorem stD_all {N : Nat} {D : Nat → Bool} : ∀ (rs : List FR) (i : Nat) (F : FS), (∀ j, j < rs.length → D (i + j) = true) → stD N D i F rs = endF N F rs
  | [], _, _, _ => rfl
  | r :: rs, i, F, h => by
      simp only [stD, endF]
      rw [show D i = true from by simpa [leN_iff, ltN_iff] using h 0 (by simp), if_pos rfl]
      exact stD_all rs (i + 1) _ fun j hj => by have := h (j + 1) (by simpa [leN_iff, ltN_iff] using hj); rwa [show i + (j + 1) = i + 1 + j by omega] at this

theorem stD_lt {N : Nat} : ∀ (rs : List FR) (i m : Nat) (F : FS), stD N (fun j => decide (j < i + m)) i F rs = endF N F (rs.take m)
  | [], i, m, F => by cases m <;> rfl
  | r :: rs, i, 0, F => by
      simp only [stD, List.take_zero, endF]
      rw [if_neg (by simp)]
      have hnone : ∀ (rs : List FR) (s : Nat) (F : FS), i ≤ s → stD N (fun j => decide (j < i + 0)) s F rs = F := by
        intro rs
        induction rs with
        | nil => intro s F _; rfl
        | cons r rs ih => intro s F hs; simp only [stD]; rw [if_neg (by simp; omega)]; exact ih _ _ (by omega)
      exact hnone rs (i + 1) F (by omega)
  | r :: rs, i, m + 1, F => by
      simp only [stD, List.take_succ_cons, endF]
      rw [if_pos (by simp)]
      have := stD_lt (N := N) rs (i + 1) m (r.app N F)
      rw [show i + 1 + m = i + (m + 1) by omega] at this
      exact this

section
variable {P : Program}

theorem runs_at {ops : Array Oper} {N : Nat} : ∀ (rs : List FR) (i : Nat) (F : FS), Runs P ops N i F rs → ∀ (m : Nat) (r : FR), rs[m]? = some r → OpRec P ops N (i + m) (endF N F (rs.take m)) r
  | [], _, _, _, m, r, h => by simp at h
  | x :: rs, i, F, hr, 0, r, h => by
      simp only [List.getElem?_cons_zero, Option.some.injEq] at h
      subst h
      exact hr.1
  | x :: rs, i, F, hr, m + 1, r, h => by
      have := runs_at rs (i + 1) _ hr.2 m r (by simpa [leN_iff, ltN_iff] using h)
      rw [show i + 1 + m = i + (m + 1) by omega] at this
      exact this

/-- What the check of a region's edges says. -/
structure DrawOk (ops : Array Oper) (rs : List FR) (pre : Nat → Nat → Prop) : Prop where
  len : rs.length = ops.size
  on : ∀ i o, ops[i]? = some o → ∀ e ∈ o.after, Region.binds .any e = true → e.on < i
  prd : ∀ i j, pre i j → ∃ o e, ops[j]? = some o ∧ e ∈ o.after ∧ Region.binds .any e = true ∧ (e.on = i ∨ pre i e.on)
  slotRead : ∀ i j p q t, i < j → rs[i]? = some p → rs[j]? = some q → p.dst = some t → t ∈ q.rs → pre i j
  slotRead' : ∀ i j p q t, i < j → rs[i]? = some p → rs[j]? = some q → q.dst = some t → t ∈ p.rs → pre i j
  slotSlot : ∀ i j p q t, i < j → rs[i]? = some p → rs[j]? = some q → p.dst = some t → q.dst = some t → pre i j
  objRead : ∀ i j p q k, i < j → rs[i]? = some p → rs[j]? = some q → k ∈ namesOf p.upd → k ∈ q.rd ∨ k ∈ namesOf q.upd → pre i j
  objRead' : ∀ i j p q k, i < j → rs[i]? = some p → rs[j]? = some q → k ∈ namesOf q.upd → k ∈ p.rd ∨ k ∈ namesOf p.upd → pre i j

theorem ready_mem {ops : Array Oper} {listed : Array Bool} {i : Nat} : i ∈ Region.ready .any ops listed ↔ i < ops.size ∧ listed.getD i true = false ∧ ∃ o, ops[i]? = some o ∧ ∀ e ∈ o.after, Region.binds .any e = true → listed.getD e.on false = true := by
  unfold Region.ready
  simp only [List.mem_filter, List.mem_range, Bool.and_eq_true, Bool.not_eq_true']
  constructor
  · rintro ⟨h1, h2, h3⟩
    refine ⟨h1, h2, ?_⟩
    rw [Array.getElem?_eq_getElem h1] at h3 ⊢
    refine ⟨_, rfl, fun e he hb => ?_⟩
    simp only [Option.map_some, Option.getD_some, Array.all_eq_true_iff_forall_mem, Bool.or_eq_true, Bool.not_eq_true'] at h3
    rcases h3 e he with h | h
    · rw [hb] at h; cases h
    · exact h
  · rintro ⟨h1, h2, o, h3, h4⟩
    refine ⟨h1, h2, ?_⟩
    rw [h3]
    simp only [Option.map_some, Option.getD_some, Array.all_eq_true_iff_forall_mem, Bool.or_eq_true, Bool.not_eq_true']
    intro e he
    cases hb : Region.binds .any e with
    | false => exact .inl rfl
    | true => exact .inr (h4 e he hb)

theorem draw_go {ops : Array Oper} {N : Nat} {dl : List Deferred} {F : FS} {rs : List FR} {pre : Nat → Nat → Prop} (hd : DrawOk ops rs pre) (hr : Runs P ops N 0 F rs) {Q : Exit → Act → World → Prop} :
    ∀ (fuel : Nat) (U : List Nat) (listed : Array Bool) (a : Act) (w : World) (η : OEnv) (G : Nat → Prop), U.Nodup → U.length ≤ fuel → listed.size = ops.size → (∀ i, i < ops.size → (listed.getD i false = false ↔ i ∈ U)) →
      (∀ j o, ops[j]? = some o → listed.getD j false = true → ∀ e ∈ o.after, Region.binds .any e = true → listed.getD e.on false = true) →
      Holds dl η G N (stD N (fun i => listed.getD i false) 0 F rs).1 (stD N (fun i => listed.getD i false) 0 F rs).2 a w →
      (∀ η' G' a' w', Holds dl η' G' N (endF N F rs).1 (endF N F rs).2 a' w' → Evol η G w η' G' w' → Q .normal a' w') → wpAny P .any ops Q fuel listed a w := by
  intro fuel
  have hget : ∀ (listed : Array Bool) (i : Nat), listed.size = ops.size → i < ops.size → listed.getD i true = listed.getD i false := by
    intro listed i hs hi
    simp [Array.getD_eq_getD_getElem?, Array.getElem?_eq_getElem (show i < listed.size by omega)]
  -- all are listed where none is ready
  have hall : ∀ (listed : Array Bool), listed.size = ops.size → Region.ready .any ops listed = [] → ∀ i, i < ops.size → listed.getD i false = true := by
    intro listed hs hrd i
    induction i using Nat.strongRecOn with
    | _ i ih =>
      intro hi
      cases hl : listed.getD i false with
      | true => rfl
      | false =>
        exfalso
        have : i ∈ Region.ready .any ops listed := by
          refine ready_mem.2 ⟨hi, by rw [hget listed i hs hi]; exact hl, ops[i], Array.getElem?_eq_getElem hi, fun e he hb => ?_⟩
          have hon := hd.on i _ (Array.getElem?_eq_getElem hi) e he hb
          exact ih e.on hon (by omega)
        rw [hrd] at this; cases this
  have hend : ∀ (listed : Array Bool), (∀ i, i < ops.size → listed.getD i false = true) → stD N (fun i => listed.getD i false) 0 F rs = endF N F rs := by
    intro listed h
    exact stD_all rs 0 F fun j hj => by rw [Nat.zero_add]; exact h j (by rw [← hd.len]; exact hj)
  induction fuel with
  | zero =>
    intro U listed a w η G hU hlen hs hiff hcl H hK
    have hU0 : U = [] := List.eq_nil_of_length_eq_zero (by omega)
    have hl : ∀ i, i < ops.size → listed.getD i false = true := by
      intro i hi
      cases hb : listed.getD i false with
      | true => rfl
      | false => have := (hiff i hi).1 hb; rw [hU0] at this; cases this
    refine ⟨?_, ?_⟩
    · cases hrd : Region.ready .any ops listed with
      | nil => rfl
      | cons i l =>
        have : i ∈ Region.ready .any ops listed := by rw [hrd]; simp
        obtain ⟨h1, h2, _⟩ := ready_mem.1 this
        rw [hget listed i hs h1, hl i h1] at h2; cases h2
    · rw [hend listed hl] at H
      exact hK η G a w H (Evol.refl _ _ _)
  | succ fuel ih =>
    intro U listed a w η G hU hlen hs hiff hcl H hK
    refine ⟨fun hrd => ?_, fun i hi => ?_⟩
    · rw [hend listed (hall listed hs hrd)] at H
      exact hK η G a w H (Evol.refl _ _ _)
    · obtain ⟨hi1, hi2, o, ho, hpreds⟩ := ready_mem.1 hi
      rw [hget listed i hs hi1] at hi2
      have hlt : i < rs.length := by rw [hd.len]; exact hi1
      have hri : rs[i]? = some rs[i] := List.getElem?_eq_getElem hlt
      -- what stands ahead of a listed one is listed
      have hpre : ∀ j, listed.getD j false = true → ∀ x, pre x j → listed.getD x false = true := by
        intro j
        induction j using Nat.strongRecOn with
        | _ j ihj =>
          intro hj x hx
          obtain ⟨o', e, ho', he, hb, h⟩ := hd.prd x j hx
          have hon := hd.on j o' ho' e he hb
          have hle := hcl j o' ho' hj e he hb
          rcases h with h | h
          · rw [← h]; exact hle
          · exact ihj e.on hon hle x h
      have hprei : ∀ x, pre x i → listed.getD x false = true := by
        intro x hx
        obtain ⟨o', e, ho', he, hb, h⟩ := hd.prd x i hx
        rw [ho] at ho'; cases ho'
        have hle := hpreds e he hb
        rcases h with h | h
        · rw [← h]; exact hle
        · exact hpre e.on hle x h
      -- whoever must come ahead of i is listed, whoever must come behind is not
      have hahead : ∀ j, j ≠ i → (j < i → pre j i) → (i < j → pre i j) → listed.getD j false = decide (j < i) := by
        intro j hne h1 h2
        rcases Nat.lt_or_gt_of_ne hne with h | h
        · rw [hprei j (h1 h)]; simp [h]
        · cases hb : listed.getD j false with
          | false => simp; omega
          | true => have := hpre j hb i (h2 h); rw [hi2] at this; cases this
      have hrec := runs_at rs 0 F hr i _ hri
      rw [Nat.zero_add, ← stD_lt rs 0 i F, Nat.zero_add] at hrec
      refine hrec (stD N (fun j => listed.getD j false) 0 F rs) (fun t ht => ?_) (fun k hk => ?_) Q _ η G a w H fun η' G' a' w' H' hev => ?_
      · refine stD_slot rs 0 F F rfl fun j r hj hw => ?_
        rw [Nat.zero_add]
        by_cases hji : j = i
        · subst hji; rw [hi2]; simp
        · exact hahead j hji (fun h => hd.slotRead j i r _ t h hj hri hw ht) (fun h => hd.slotRead' i j _ r t h hri hj hw ht)
      · refine stD_obj rs 0 F F rfl fun j r hj hw => ?_
        rw [Nat.zero_add]
        by_cases hji : j = i
        · subst hji; rw [hi2]; simp
        · exact hahead j hji (fun h => hd.objRead j i r _ k h hj hri hw (.inl hk)) (fun h => hd.objRead' i j _ r k h hri hj hw (.inl hk))
      · -- the state with i listed
        have hnew : ∀ j, (listed.setIfInBounds i true).getD j false = if j = i then true else listed.getD j false := by
          intro j
          simp only [Array.getD_eq_getD_getElem?, Array.getElem?_setIfInBounds]
          by_cases h : j = i
          · subst h; simp [hs, hi1]
          · have : ¬ i = j := fun e => h e.symm
            simp [h, this]
        have hstate : stD N (fun j => (listed.setIfInBounds i true).getD j false) 0 F rs = (rs[i]).app N (stD N (fun j => listed.getD j false) 0 F rs) := by
          refine Prod.ext (funext fun t => ?_) (funext fun k => ?_)
          · by_cases ht : (rs[i]).dst = some t
            · by_cases hN : t < N
              · rw [app_slot, if_pos ⟨ht, hN⟩]
                exact stD_last hN rs 0 i F hri ht (by rw [Nat.zero_add, hnew]; simp) fun j r' hj hw hlt' => by
                  rw [Nat.zero_add, hnew, if_neg (by omega)]
                  have := hahead j (by omega) (fun h => by omega) (fun h => hd.slotSlot i j _ r' t h hri hj ht hw)
                  rw [this]; simp; omega
              · rw [app_slot, if_neg (fun h => hN h.2), stD_big hN, stD_big hN]
            · rw [app_slot, if_neg (fun h => ht h.1)]
              exact stD_slot rs 0 F F rfl fun j r hj hw => by
                rw [Nat.zero_add, hnew]
                by_cases hji : j = i
                · subst hji; rw [hri] at hj; cases hj; exact absurd hw ht
                · simp [hji]
          · by_cases hk : k ∈ namesOf (rs[i]).upd
            · exact stD_lastO rs 0 i F _ hri hk (by rw [Nat.zero_add, hnew]; simp) fun j r' hj hw hlt' => by
                rw [Nat.zero_add, hnew, if_neg (by omega)]
                have := hahead j (by omega) (fun h => by omega) (fun h => hd.objRead i j _ r' k h hri hj hk (.inr hw))
                rw [this]; simp; omega
            · rw [app_obj_not _ _ _ _ hk]
              exact stD_obj rs 0 F F rfl fun j r hj hw => by
                rw [Nat.zero_add, hnew]
                by_cases hji : j = i
                · subst hji; rw [hri] at hj; cases hj; exact absurd hw hk
                · simp [hji]
        refine ih (U.erase i) (listed.setIfInBounds i true) a' w' η' G' (hU.erase i) ?_ (by simpa [leN_iff, ltN_iff] using hs) (fun j hj => ?_) (fun j o' ho' hj e he hb => ?_) (by rw [hstate]; exact H') (fun η'' G'' a'' w'' H'' hev' => hK _ _ _ _ H'' (hev.trans hev'))
        · have hiU := (hiff i hi1).1 hi2
          rw [List.length_erase_of_mem hiU]
          omega
        · rw [hnew]
          by_cases hji : j = i
          · subst hji; simp [hU.mem_erase_iff]
          · rw [if_neg hji, hiff j hj, hU.mem_erase_iff]
            exact ⟨fun h => ⟨hji, h⟩, fun h => h.2⟩
        · rw [hnew] at hj ⊢
          by_cases hje : e.on = i
          · rw [if_pos hje]
          · rw [if_neg hje]
            by_cases hji : j = i
            · subst hji; rw [ho] at ho'; cases ho'; exact hpreds e he hb
            · rw [if_neg hji] at hj; exact hcl j o' ho' hj e he hb
end
end Go.SX
