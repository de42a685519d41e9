/- SX: calls, second part: the caller's state behind the call. -/
import Derived.Test.YtmdfjipjkkjpcaaSxK
namespace Go.SX

def invN (sel : List Nat) (d k : Nat) : Option Nat :=
  match posOf k sel 0 with
  | some i => some (1000 + i)
  | none => if 3000 + d * 100 ≤ k ∧ k < 3000 + d * 100 + 100 then some (2000 + (k - (3000 + d * 100))) else none

def outE (η η' : OEnv) (sel : List Nat) (d : Nat) : OEnv := fun k =>
  match invN sel d k with
  | some j => match η' j with
    | some o => some o
    | none => η k
  | none => η k

theorem inv_back {sel : List Nat} {d k j : Nat} (hl : sel.length < 900) (h : invN sel d k = some j) : backN sel d j = k := by
  unfold invN at h
  split at h
  · rename_i i hi
    cases h
    obtain ⟨i', h1, h2, h3⟩ := posOf_spec hi
    simp only [Nat.zero_add] at h1
    subst h1
    unfold backN
    have : leN 2000 (1000 + i) = false := by
      cases hb : leN 2000 (1000 + i) with
      | false => rfl
      | true => have := leN_le hb; omega
    rw [this]
    simp only [cond_false]
    rw [show 1000 + i - 1000 = i by omega, h3]
  · split at h
    · cases h
      unfold backN
      rename_i hk
      have : leN 2000 (2000 + (k - (3000 + d * 100))) = true := leN_of (by omega)
      rw [this]
      simp only [cond_true]
      omega
    · cases h

mutual
theorem backSV_rel {η η' : OEnv} {G G' : Nat → Prop} {w : World} {sel : List Nat} {d : Nat} (hE : ∀ k o, η k = some o → η' (backN sel d k) = some o) :
    ∀ (s : SV) (v : Value), (datFree s = true ∨ ∀ b, G b → G' b) → SVRel η G w s v → SVRel η' G' w (backSV sel d s) v
  | .any, _, _, _ => by simp [backSV, SVRel]
  | .nil, _, _, h => by simpa [backSV, SVRel] using h
  | .int _ _, _, _, h => by simpa [backSV, SVRel] using h
  | .bool _, _, _, h => by simpa [backSV, SVRel] using h
  | .str _, _, _, h => by simpa [backSV, SVRel] using h
  | .val _, _, _, h => by simpa [backSV, SVRel] using h
  | .dat x, _, hg, h => by
      simp only [backSV, SVRel] at h ⊢
      exact DVRel.mono (hg.resolve_left (by simp [datFree])) (fun _ _ => rfl) _ _ h
  | .nn x, _, hg, h => by
      simp only [backSV, SVRel] at h ⊢
      exact ⟨DVRel.mono (hg.resolve_left (by simp [datFree])) (fun _ _ => rfl) _ _ h.1, h.2⟩
  | .view k x, _, _, h => by
      simp only [backSV, SVRel] at h ⊢
      obtain ⟨o, ho, h⟩ := h
      exact ⟨o, hE k o ho, h⟩
  | .own k, _, _, h => by
      simp only [backSV, SVRel] at h ⊢
      obtain ⟨o, ho, h⟩ := h
      exact ⟨o, hE k o ho, h⟩
  | .csl k _ _, _, _, h => by
      simp only [backSV, SVRel] at h ⊢
      obtain ⟨o, ho, h⟩ := h
      exact ⟨o, hE k o ho, h⟩
  | .loc k _, _, _, h => by
      simp only [backSV, SVRel] at h ⊢
      obtain ⟨o, ho, h⟩ := h
      exact ⟨o, hE k o ho, h⟩
  | .op k _ _ _, _, _, h => by
      simp only [backSV, SVRel] at h ⊢
      obtain ⟨o, ho, h⟩ := h
      exact ⟨o, hE k o ho, h⟩
  | .ep none _ _ _, _, hg, h => by
      simp only [backSV, SVRel] at h ⊢
      obtain ⟨b, o, hv, hb, hc⟩ := h
      have hg' := hg.resolve_left (by simp [datFree])
      exact ⟨b, o, hv, hg' b hb, fun j hj => by obtain ⟨u, hu, hd⟩ := hc j hj; exact ⟨u, hu, DVRel.mono hg' (fun _ _ => rfl) _ _ hd⟩⟩
  | .ep (some k) _ _ _, _, _, h => by
      simp only [backSV, SVRel] at h ⊢
      obtain ⟨o, ho, h⟩ := h
      exact ⟨o, hE k o ho, h⟩
  | .agg cs, v, hg, h => by
      simp only [backSV, SVRel] at h ⊢
      obtain ⟨vs, rfl, h⟩ := h
      exact ⟨vs, rfl, backSVs_rel hE cs vs (by simpa only [datFree] using hg) h⟩
  | .tup cs, v, hg, h => by
      simp only [backSV, SVRel] at h ⊢
      obtain ⟨vs, rfl, h⟩ := h
      exact ⟨vs, rfl, backSVs_rel hE cs vs (by simpa only [datFree] using hg) h⟩
  | .fn f cs, v, hg, h => by
      simp only [backSV, SVRel] at h ⊢
      obtain ⟨vs, rfl, h⟩ := h
      exact ⟨vs, rfl, backSVs_rel hE cs vs (by simpa only [datFree] using hg) h⟩
theorem backSVs_rel {η η' : OEnv} {G G' : Nat → Prop} {w : World} {sel : List Nat} {d : Nat} (hE : ∀ k o, η k = some o → η' (backN sel d k) = some o) :
    ∀ (s : List SV) (v : List Value), (datFrees s = true ∨ ∀ b, G b → G' b) → SVRels η G w s v → SVRels η' G' w (backSVs sel d s) v
  | [], [], _, _ => by simp [backSVs, SVRels]
  | [], _ :: _, _, h => by simp [SVRels] at h
  | _ :: _, [], _, h => by simp [SVRels] at h
  | c :: cs, v :: vs, hg, h => by
      simp only [backSVs, SVRels] at h ⊢
      simp only [datFrees, Bool.and_eq_true] at hg
      exact ⟨backSV_rel hE c v (hg.imp (·.1) id) h.1, backSVs_rel hE cs vs (hg.imp (·.2) id) h.2⟩
end

theorem backObj_rel {η η' : OEnv} {G G' : Nat → Prop} {w : World} {sel : List Nat} {d : Nat} (hE : ∀ k o, η k = some o → η' (backN sel d k) = some o) {x : TObj} {o : OInfo}
    (hg : datFreeO x = true ∨ ∀ b, G b → G' b) (h : ObjRel η G w x o) : ObjRel η' G' w (backObj sel d x) o := by
  cases x with
  | cells T cs =>
    simp only [backObj, ObjRel] at h ⊢
    obtain ⟨h1, h2, b, vs, h3, h4, h5⟩ := h
    exact ⟨h1, h2, b, vs, h3, h4, backSVs_rel hE cs vs (by simpa only [datFreeO] using hg) h5⟩
  | arrS T wd n row =>
    simp only [backObj, ObjRel] at h ⊢
    obtain ⟨h1, h2, h3⟩ := h
    have hg' := hg.resolve_left (by simp [datFreeO])
    refine ⟨h1, h2, ?_⟩
    rcases h3 with h | ⟨b, c, cs, T', r1, r2, r3, r4, r5, r6, r7⟩
    · exact .inl h
    · exact .inr ⟨b, c, cs, T', r1, r2, r3, r4, r5, r6, fun i j hi hj => by obtain ⟨u, hu, hd⟩ := r7 i j hi hj; exact ⟨u, hu, DVRel.mono hg' (fun _ _ => rfl) _ _ hd⟩⟩
  | barr T bs => simpa only [backObj, ObjRel] using h
  | arrD T wd n row => simpa only [backObj, ObjRel] using h
  | setI k ks => simpa only [backObj, ObjRel] using h
  | dead => simpa only [backObj, ObjRel] using h

theorem look_back {sel : List Nat} {d : Nat} (hl : sel.length < 900) (k : Nat) : ∀ (l : Objs), (∀ j x, (j, x) ∈ l → invN sel d (backN sel d j) = some j) →
    lookN k (backObjs sel d l) = match invN sel d k with | some j => (lookN j l).map (backObj sel d) | none => none
  | [], _ => by cases invN sel d k <;> simp [backObjs, lookN]
  | (j, x) :: r, h => by
      have ih := look_back hl k r (fun j x hx => h j x (by simp [hx]))
      simp only [backObjs, lookN]
      cases hb : eqN (backN sel d j) k with
      | true =>
        have e := eqN_eq hb
        have := h j x (by simp)
        rw [e] at this
        simp only [cond_true, this, eqN_refl, Option.map_some]
      | false =>
        have hne := eqN_ne hb
        simp only [cond_false, ih]
        cases hi : invN sel d k with
        | none => rfl
        | some j' =>
          have hjj : eqN j j' = false := by
            cases hb' : eqN j j' with
            | false => rfl
            | true => exact absurd (by rw [eqN_eq hb']; exact inv_back hl hi) hne
          simp only [hjj, cond_false]

theorem updF_nodup {ob : Nat → Option TObj} : ∀ (l : Objs), (namesOf l).Nodup → ∀ k, updF ob l k = match lookN k l with | some x => some x | none => ob k
  | [], _, k => rfl
  | (j, x) :: r, hn, k => by
      simp only [namesOf, List.nodup_cons] at hn
      simp only [updF, lookN]
      rw [updF_nodup r hn.2 k]
      cases hb : eqN j k with
      | true =>
        have e := eqN_eq hb
        subst e
        have : lookN j r = none := lookN_none.2 fun x hx => hn.1 (by
          clear hn hb
          induction r with
          | nil => cases hx
          | cons y r ih => rcases List.mem_cons.1 hx with rfl | h; · simp [namesOf]
                           · obtain ⟨y1, y2⟩ := y; simp only [namesOf, List.mem_cons]; exact .inr (ih h))
        simp [this]
      | false =>
        have hne := eqN_ne hb
        simp only [cond_false, if_neg (Ne.symm hne)]

theorem names_mem {j : Nat} : ∀ {l : Objs}, j ∈ namesOf l ↔ ∃ x, (j, x) ∈ l
  | [] => by simp [namesOf]
  | (k, y) :: r => by
      simp only [namesOf, List.mem_cons, names_mem (l := r), Prod.mk.injEq]
      exact ⟨fun h => h.elim (fun e => ⟨y, .inl ⟨e, rfl⟩⟩) (fun ⟨x, hx⟩ => ⟨x, .inr hx⟩), fun ⟨x, hx⟩ => hx.elim (fun e => .inl e.1) (fun hx => .inr ⟨x, hx⟩)⟩

theorem names_back_nodup {sel : List Nat} {d : Nat} : ∀ (l : Objs), (namesOf l).Nodup → (∀ j x, (j, x) ∈ l → invN sel d (backN sel d j) = some j) → (namesOf (backObjs sel d l)).Nodup
  | [], _, _ => by simp [backObjs, namesOf]
  | (j, x) :: r, hn, h => by
      simp only [namesOf, List.nodup_cons] at hn
      simp only [backObjs, namesOf, List.nodup_cons]
      refine ⟨fun hm => ?_, names_back_nodup r hn.2 fun j x hx => h j x (by simp [hx])⟩
      have key : ∀ l : Objs, backN sel d j ∈ namesOf (backObjs sel d l) → ∃ j' x', (j', x') ∈ l ∧ backN sel d j' = backN sel d j := by
        intro l
        induction l with
        | nil => simp [backObjs, namesOf]
        | cons y l ih =>
          obtain ⟨y1, y2⟩ := y
          simp only [backObjs, namesOf, List.mem_cons]
          rintro (e | e)
          · exact ⟨y1, y2, .inl rfl, e.symm⟩
          · obtain ⟨j', x', h1, h2⟩ := ih e; exact ⟨j', x', .inr h1, h2⟩
      obtain ⟨j', x', h1, h2⟩ := key r hm
      have e1 := h j x (by simp)
      have e2 := h j' x' (by simp [h1])
      rw [h2, e1] at e2
      cases e2
      exact hn.1 (names_mem.2 ⟨x', h1⟩)

theorem sel_some {ob : Nat → Option TObj} {sel : List Nat} : ∀ {l : List Nat} {i : Nat} {objs : Objs}, selObjs ob sel l i = some objs → (∀ k ∈ l, ∃ x, ob k = some x) ∧
    ∀ k, lookN k objs = if 1000 + i ≤ k ∧ k < 1000 + i + l.length then (ob (nthD l (k - (1000 + i)) 0)).map (convObj ob sel) else none
  | [], i, objs, h => by
      simp only [selObjs, Option.some.injEq] at h
      subst h
      refine ⟨by simp, fun k => ?_⟩
      rw [if_neg (by simp only [List.length_nil]; omega)]
      rfl
  | k :: r, i, objs, h => by
      simp only [selObjs] at h
      split at h
      · rename_i x l hx hl
        cases h
        obtain ⟨h1, h2⟩ := sel_some hl
        refine ⟨?_, fun j => ?_⟩
        · simp only [List.mem_cons, forall_eq_or_imp]; exact ⟨⟨x, hx⟩, h1⟩
        · simp only [lookN, List.length_cons]
          cases hb : eqN (1000 + i) j with
          | true =>
            have := eqN_eq hb
            subst this
            rw [if_pos ⟨Nat.le_refl _, by omega⟩]
            simp [nthD, hx]
          | false =>
            have hne := eqN_ne hb
            simp only [cond_false, h2 j]
            by_cases hc : 1000 + (i + 1) ≤ j ∧ j < 1000 + (i + 1) + r.length
            · rw [if_pos hc, if_pos ⟨by omega, by omega⟩]
              rw [show j - (1000 + i) = (j - (1000 + (i + 1))) + 1 by omega]
              simp [nthD]
            · rw [if_neg hc, if_neg (by omega)]
      · cases h

theorem bor_obj {ob : Nat → Option TObj} {sel : List Nat} : ∀ {l : List Nat} {k : Nat} {x : TObj}, k ∈ l → ob k = some x → ∀ j ∈ borObj ob sel x, j ∈ borObjs ob sel l
  | [], _, _, h, _, _, _ => by cases h
  | y :: l, k, x, h, hx, j, hj => by
      simp only [borObjs]
      rcases List.mem_cons.1 h with rfl | h
      · rw [hx]; exact List.mem_append.2 (.inl hj)
      · have := bor_obj h hx j hj
        split
        · exact List.mem_append.2 (.inr this)
        · exact this

theorem noneO_spec {ob : Nat → Option TObj} : ∀ {l : List Nat}, noneO ob l = true → ∀ k ∈ l, ob k = none
  | [], _, _, h => by cases h
  | x :: l, h, k, hk => by
      simp only [noneO, Bool.and_eq_true] at h
      rcases List.mem_cons.1 hk with rfl | hk
      · cases hx : ob k with
        | none => rfl
        | some y => rw [hx] at h; cases h.1
      · exact noneO_spec h.2 k hk

theorem new_mem {d : Nat} : ∀ {l : Objs} {j : Nat} {x : TObj}, (j, x) ∈ l → 2000 ≤ j → 3000 + d * 100 + (j - 2000) ∈ newNames d l
  | [], _, _, h, _ => by cases h
  | (k, y) :: l, j, x, h, hj => by
      simp only [newNames]
      rcases List.mem_cons.1 h with e | h
      · cases e
        rw [leN_of hj]
        simp
      · have := new_mem (d := d) h hj
        cases leN 2000 k
        · exact this
        · exact List.mem_cons_of_mem _ this

theorem namesIn_spec {n : Nat} : ∀ {l : Objs}, namesIn n l = true → ∀ j x, (j, x) ∈ l → (2000 ≤ j ∧ j < 2100) ∨ (j < 2000 ∧ 1000 ≤ j ∧ j < 1000 + n)
  | [], _, _, _, h => by cases h
  | (k, y) :: l, h, j, x, hx => by
      simp only [namesIn, Bool.and_eq_true] at h
      rcases List.mem_cons.1 hx with e | hx
      · simp only [Prod.mk.injEq] at e
        obtain ⟨rfl, rfl⟩ := e
        have h1 := h.1
        cases hb : leN 2000 j with
        | true => rw [hb] at h1; exact .inl ⟨leN_le hb, by simpa [ltN_iff] using h1⟩
        | false =>
          rw [hb] at h1
          simp only [cond_false, Bool.and_eq_true] at h1
          refine .inr ⟨Nat.lt_of_not_le fun hle => ?_, leN_le h1.1, by simpa [ltN_iff] using h1.2⟩
          rw [leN_of hle] at hb; cases hb
      · exact namesIn_spec h.2 j x hx

theorem hasAll_spec {objs : Objs} : ∀ {n : Nat}, hasAll objs n = true → ∀ i, i < n → ∃ x, lookN (1000 + i) objs = some x
  | 0, _, _, h => by omega
  | n + 1, h, i, hi => by
      simp only [hasAll, Bool.and_eq_true] at h
      by_cases e : i = n
      · subst e
        cases hx : lookN (1000 + i) objs with
        | some x => exact ⟨x, rfl⟩
        | none => rw [hx] at h; cases h.1
      · exact hasAll_spec h.2 i (by omega)

theorem apartB_spec {l : List Nat} : ∀ {r : List Nat}, apartB l r = true → ∀ k ∈ r, k ∉ l
  | [], _, _, h => by cases h
  | x :: r, h, k, hk => by
      simp only [apartB, Bool.and_eq_true, Bool.not_eq_true', memN_false] at h
      rcases List.mem_cons.1 hk with rfl | hk
      · exact h.1
      · exact apartB_spec h.2 k hk

theorem allFree_spec : ∀ {l : Objs}, allFreeO l = true → ∀ j x, (j, x) ∈ l → datFreeO x = true
  | [], _, _, _, h => by cases h
  | (k, y) :: l, h, j, x, hx => by
      simp only [allFreeO, Bool.and_eq_true] at h
      rcases List.mem_cons.1 hx with e | hx
      · cases e; exact h.1
      · exact allFree_spec h.2 j x hx
end Go.SX
