/- Texts put together: SxL, SxM, SxN, SxO. -/
import Derived.Test.YtmdfjipjkkjpcaaUd
/- SX: calls, second part: the caller's state behind the call. -/
namespace Go.SX

def invN (sel : List Nat) (d k : Nat) : Option Nat :=
  match posOf k sel 0 with
  | some i => some (1000 + i)
  | none => if 3000 + d * 100 ≤ k ∧ k < 3000 + d * 100 + 100 then some (2000 + (k - (3000 + d * 100))) else none

def outE (η η' : OEnv) (sel : List Nat) (d : Nat) : OEnv := fun k =>
  match invN sel d k with
  | some j => match η' j with
    | some o => some o
    | none => η k
  | none => η k

theorem inv_back {sel : List Nat} {d k j : Nat} (hl : sel.length < 900) (h : invN sel d k = some j) : backN sel d j = k := by
  unfold invN at h
  split at h
  · rename_i i hi
    cases h
    obtain ⟨i', h1, h2, h3⟩ := posOf_spec hi
    simp only [Nat.zero_add] at h1
    subst h1
    unfold backN
    have : leN 2000 (1000 + i) = false := by
      cases hb : leN 2000 (1000 + i) with
      | false => rfl
      | true => have := leN_le hb; omega
    rw [this]
    simp only [cond_false]
    rw [show 1000 + i - 1000 = i by omega, h3]
  · split at h
    · cases h
      unfold backN
      rename_i hk
      have : leN 2000 (2000 + (k - (3000 + d * 100))) = true := leN_of (by omega)
      rw [this]
      simp only [cond_true]
      omega
    · cases h

mutual
theorem backSV_rel {η η' : OEnv} {G G' : Nat → Prop} {w : World} {sel : List Nat} {d : Nat} (hE : ∀ k o, η k = some o → η' (backN sel d k) = some o) :
    ∀ (s : SV) (v : Value), (datFree s = true ∨ ∀ b, G b → G' b) → SVRel η G w s v → SVRel η' G' w (backSV sel d s) v
  | .any, _, _, _ => by simp [backSV, SVRel]
  | .nil, _, _, h => by simpa [backSV, SVRel] using h
  | .int _ _, _, _, h => by simpa [backSV, SVRel] using h
  | .bool _, _, _, h => by simpa [backSV, SVRel] using h
  | .str _, _, _, h => by simpa [backSV, SVRel] using h
  | .val _, _, _, h => by simpa [backSV, SVRel] using h
  | .rv _ _, _, _, h => by simpa [backSV, SVRel] using h
  | .dat x, _, hg, h => by
      simp only [backSV, SVRel] at h ⊢
      exact DVRel.mono (hg.resolve_left (by simp [datFree])) (fun _ _ => rfl) _ _ h
  | .nn x, _, hg, h => by
      simp only [backSV, SVRel] at h ⊢
      exact ⟨DVRel.mono (hg.resolve_left (by simp [datFree])) (fun _ _ => rfl) _ _ h.1, h.2⟩
  | .view k x, _, _, h => by
      simp only [backSV, SVRel] at h ⊢
      obtain ⟨o, ho, h⟩ := h
      exact ⟨o, hE k o ho, h⟩
  | .own k, _, _, h => by
      simp only [backSV, SVRel] at h ⊢
      obtain ⟨o, ho, h⟩ := h
      exact ⟨o, hE k o ho, h⟩
  | .csl k _ _, _, _, h => by
      simp only [backSV, SVRel] at h ⊢
      obtain ⟨o, ho, h⟩ := h
      exact ⟨o, hE k o ho, h⟩
  | .loc k _, _, _, h => by
      simp only [backSV, SVRel] at h ⊢
      obtain ⟨o, ho, h⟩ := h
      exact ⟨o, hE k o ho, h⟩
  | .op k _ _ _, _, _, h => by
      simp only [backSV, SVRel] at h ⊢
      obtain ⟨o, ho, h⟩ := h
      exact ⟨o, hE k o ho, h⟩
  | .ep none _ _ _, _, hg, h => by
      simp only [backSV, SVRel] at h ⊢
      obtain ⟨b, o, hv, hb, hc⟩ := h
      have hg' := hg.resolve_left (by simp [datFree])
      exact ⟨b, o, hv, hg' b hb, fun j hj => by obtain ⟨u, hu, hd⟩ := hc j hj; exact ⟨u, hu, DVRel.mono hg' (fun _ _ => rfl) _ _ hd⟩⟩
  | .ep (some k) _ _ _, _, _, h => by
      simp only [backSV, SVRel] at h ⊢
      obtain ⟨o, ho, h⟩ := h
      exact ⟨o, hE k o ho, h⟩
  | .agg cs, v, hg, h => by
      simp only [backSV, SVRel] at h ⊢
      obtain ⟨vs, rfl, h⟩ := h
      exact ⟨vs, rfl, backSVs_rel hE cs vs (by simpa only [datFree] using hg) h⟩
  | .tup cs, v, hg, h => by
      simp only [backSV, SVRel] at h ⊢
      obtain ⟨vs, rfl, h⟩ := h
      exact ⟨vs, rfl, backSVs_rel hE cs vs (by simpa only [datFree] using hg) h⟩
  | .fn f cs, v, hg, h => by
      simp only [backSV, SVRel] at h ⊢
      obtain ⟨vs, rfl, h⟩ := h
      exact ⟨vs, rfl, backSVs_rel hE cs vs (by simpa only [datFree] using hg) h⟩
theorem backSVs_rel {η η' : OEnv} {G G' : Nat → Prop} {w : World} {sel : List Nat} {d : Nat} (hE : ∀ k o, η k = some o → η' (backN sel d k) = some o) :
    ∀ (s : List SV) (v : List Value), (datFrees s = true ∨ ∀ b, G b → G' b) → SVRels η G w s v → SVRels η' G' w (backSVs sel d s) v
  | [], [], _, _ => by simp [backSVs, SVRels]
  | [], _ :: _, _, h => by simp [SVRels] at h
  | _ :: _, [], _, h => by simp [SVRels] at h
  | c :: cs, v :: vs, hg, h => by
      simp only [backSVs, SVRels] at h ⊢
      simp only [datFrees, Bool.and_eq_true] at hg
      exact ⟨backSV_rel hE c v (hg.imp (·.1) id) h.1, backSVs_rel hE cs vs (hg.imp (·.2) id) h.2⟩
end

theorem backObj_rel {η η' : OEnv} {G G' : Nat → Prop} {w : World} {sel : List Nat} {d : Nat} (hE : ∀ k o, η k = some o → η' (backN sel d k) = some o) {x : TObj} {o : OInfo}
    (hg : datFreeO x = true ∨ ∀ b, G b → G' b) (h : ObjRel η G w x o) : ObjRel η' G' w (backObj sel d x) o := by
  cases x with
  | cells T cs =>
    simp only [backObj, ObjRel] at h ⊢
    obtain ⟨h1, h2, b, vs, h3, h4, h5⟩ := h
    exact ⟨h1, h2, b, vs, h3, h4, backSVs_rel hE cs vs (by simpa only [datFreeO] using hg) h5⟩
  | arrS T wd n row =>
    simp only [backObj, ObjRel] at h ⊢
    obtain ⟨h1, h2, h3⟩ := h
    have hg' := hg.resolve_left (by simp [datFreeO])
    refine ⟨h1, h2, ?_⟩
    rcases h3 with h | ⟨b, c, cs, T', r1, r2, r3, r4, r5, r6, r7⟩
    · exact .inl h
    · exact .inr ⟨b, c, cs, T', r1, r2, r3, r4, r5, r6, fun i j hi hj => by obtain ⟨u, hu, hd⟩ := r7 i j hi hj; exact ⟨u, hu, DVRel.mono hg' (fun _ _ => rfl) _ _ hd⟩⟩
  | barr T bs => simpa only [backObj, ObjRel] using h
  | arrD T wd n row => simpa only [backObj, ObjRel] using h
  | setI k ks => simpa only [backObj, ObjRel] using h
  | cust d Φ => simpa only [backObj, ObjRel] using h
  | kn d Φ => simpa only [backObj, ObjRel] using h
  | dead => simpa only [backObj, ObjRel] using h

theorem look_back {sel : List Nat} {d : Nat} (hl : sel.length < 900) (k : Nat) : ∀ (l : Objs), (∀ j x, (j, x) ∈ l → invN sel d (backN sel d j) = some j) →
    lookN k (backObjs sel d l) = match invN sel d k with | some j => (lookN j l).map (backObj sel d) | none => none
  | [], _ => by cases invN sel d k <;> simp [backObjs, lookN]
  | (j, x) :: r, h => by
      have ih := look_back hl k r (fun j x hx => h j x (by simp [hx]))
      simp only [backObjs, lookN]
      cases hb : eqN (backN sel d j) k with
      | true =>
        have e := eqN_eq hb
        have := h j x (by simp)
        rw [e] at this
        simp only [cond_true, this, eqN_refl, Option.map_some]
      | false =>
        have hne := eqN_ne hb
        simp only [cond_false, ih]
        cases hi : invN sel d k with
        | none => rfl
        | some j' =>
          have hjj : eqN j j' = false := by
            cases hb' : eqN j j' with
            | false => rfl
            | true => exact absurd (by rw [eqN_eq hb']; exact inv_back hl hi) hne
          simp only [hjj, cond_false]

theorem updF_nodup {ob : Nat → Option TObj} : ∀ (l : Objs), (namesOf l).Nodup → ∀ k, updF ob l k = match lookN k l with | some x => some x | none => ob k
  | [], _, k => rfl
  | (j, x) :: r, hn, k => by
      simp only [namesOf, List.nodup_cons] at hn
      simp only [updF, lookN]
      rw [updF_nodup r hn.2 k]
      cases hb : eqN j k with
      | true =>
        have e := eqN_eq hb
        subst e
        have : lookN j r = none := lookN_none.2 fun x hx => hn.1 (by
          clear hn hb
          induction r with
          | nil => cases hx
          | cons y r ih => rcases List.mem_cons.1 hx with rfl | h; · simp [namesOf]
                           · obtain ⟨y1, y2⟩ := y; simp only [namesOf, List.mem_cons]; exact .inr (ih h))
        simp [this]
      | false =>
        have hne := eqN_ne hb
        simp only [cond_false, if_neg (Ne.symm hne)]

theorem names_mem {j : Nat} : ∀ {l : Objs}, j ∈ namesOf l ↔ ∃ x, (j, x) ∈ l
  | [] => by simp [namesOf]
  | (k, y) :: r => by
      simp only [namesOf, List.mem_cons, names_mem (l := r), Prod.mk.injEq]
      exact ⟨fun h => h.elim (fun e => ⟨y, .inl ⟨e, rfl⟩⟩) (fun ⟨x, hx⟩ => ⟨x, .inr hx⟩), fun ⟨x, hx⟩ => hx.elim (fun e => .inl e.1) (fun hx => .inr ⟨x, hx⟩)⟩

theorem names_back_nodup {sel : List Nat} {d : Nat} : ∀ (l : Objs), (namesOf l).Nodup → (∀ j x, (j, x) ∈ l → invN sel d (backN sel d j) = some j) → (namesOf (backObjs sel d l)).Nodup
  | [], _, _ => by simp [backObjs, namesOf]
  | (j, x) :: r, hn, h => by
      simp only [namesOf, List.nodup_cons] at hn
      simp only [backObjs, namesOf, List.nodup_cons]
      refine ⟨fun hm => ?_, names_back_nodup r hn.2 fun j x hx => h j x (by simp [hx])⟩
      have key : ∀ l : Objs, backN sel d j ∈ namesOf (backObjs sel d l) → ∃ j' x', (j', x') ∈ l ∧ backN sel d j' = backN sel d j := by
        intro l
        induction l with
        | nil => simp [backObjs, namesOf]
        | cons y l ih =>
          obtain ⟨y1, y2⟩ := y
          simp only [backObjs, namesOf, List.mem_cons]
          rintro (e | e)
          · exact ⟨y1, y2, .inl rfl, e.symm⟩
          · obtain ⟨j', x', h1, h2⟩ := ih e; exact ⟨j', x', .inr h1, h2⟩
      obtain ⟨j', x', h1, h2⟩ := key r hm
      have e1 := h j x (by simp)
      have e2 := h j' x' (by simp [h1])
      rw [h2, e1] at e2
      cases e2
      exact hn.1 (names_mem.2 ⟨x', h1⟩)

theorem sel_some {ob : Nat → Option TObj} {sel : List Nat} : ∀ {l : List Nat} {i : Nat} {objs : Objs}, selObjs ob sel l i = some objs → (∀ k ∈ l, ∃ x, ob k = some x) ∧
    ∀ k, lookN k objs = if 1000 + i ≤ k ∧ k < 1000 + i + l.length then (ob (nthD l (k - (1000 + i)) 0)).map (convObj ob sel) else none
  | [], i, objs, h => by
      simp only [selObjs, Option.some.injEq] at h
      subst h
      refine ⟨by simp, fun k => ?_⟩
      rw [if_neg (by simp only [List.length_nil]; omega)]
      rfl
  | k :: r, i, objs, h => by
      simp only [selObjs] at h
      split at h
      · rename_i x l hx hl
        cases h
        obtain ⟨h1, h2⟩ := sel_some hl
        refine ⟨?_, fun j => ?_⟩
        · simp only [List.mem_cons, forall_eq_or_imp]; exact ⟨⟨x, hx⟩, h1⟩
        · simp only [lookN, List.length_cons]
          cases hb : eqN (1000 + i) j with
          | true =>
            have := eqN_eq hb
            subst this
            rw [if_pos ⟨Nat.le_refl _, by omega⟩]
            simp [nthD, hx]
          | false =>
            have hne := eqN_ne hb
            simp only [cond_false, h2 j]
            by_cases hc : 1000 + (i + 1) ≤ j ∧ j < 1000 + (i + 1) + r.length
            · rw [if_pos hc, if_pos ⟨by omega, by omega⟩]
              rw [show j - (1000 + i) = (j - (1000 + (i + 1))) + 1 by omega]
              simp [nthD]
            · rw [if_neg hc, if_neg (by omega)]
      · cases h

theorem bor_obj {ob : Nat → Option TObj} {sel : List Nat} : ∀ {l : List Nat} {k : Nat} {x : TObj}, k ∈ l → ob k = some x → ∀ j ∈ borObj ob sel x, j ∈ borObjs ob sel l
  | [], _, _, h, _, _, _ => by cases h
  | y :: l, k, x, h, hx, j, hj => by
      simp only [borObjs]
      rcases List.mem_cons.1 h with rfl | h
      · rw [hx]; exact List.mem_append.2 (.inl hj)
      · have := bor_obj h hx j hj
        split
        · exact List.mem_append.2 (.inr this)
        · exact this

theorem noneO_spec {ob : Nat → Option TObj} : ∀ {l : List Nat}, noneO ob l = true → ∀ k ∈ l, ob k = none
  | [], _, _, h => by cases h
  | x :: l, h, k, hk => by
      simp only [noneO, Bool.and_eq_true] at h
      rcases List.mem_cons.1 hk with rfl | hk
      · cases hx : ob k with
        | none => rfl
        | some y => rw [hx] at h; cases h.1
      · exact noneO_spec h.2 k hk

theorem new_mem {d : Nat} : ∀ {l : Objs} {j : Nat} {x : TObj}, (j, x) ∈ l → 2000 ≤ j → 3000 + d * 100 + (j - 2000) ∈ newNames d l
  | [], _, _, h, _ => by cases h
  | (k, y) :: l, j, x, h, hj => by
      simp only [newNames]
      rcases List.mem_cons.1 h with e | h
      · cases e
        rw [leN_of hj]
        simp
      · have := new_mem (d := d) h hj
        cases leN 2000 k
        · exact this
        · exact List.mem_cons_of_mem _ this

theorem namesIn_spec {n : Nat} : ∀ {l : Objs}, namesIn n l = true → ∀ j x, (j, x) ∈ l → (2000 ≤ j ∧ j < 2100) ∨ (j < 2000 ∧ 1000 ≤ j ∧ j < 1000 + n)
  | [], _, _, _, h => by cases h
  | (k, y) :: l, h, j, x, hx => by
      simp only [namesIn, Bool.and_eq_true] at h
      rcases List.mem_cons.1 hx with e | hx
      · simp only [Prod.mk.injEq] at e
        obtain ⟨rfl, rfl⟩ := e
        have h1 := h.1
        cases hb : leN 2000 j with
        | true => rw [hb] at h1; exact .inl ⟨leN_le hb, by simpa [ltN_iff] using h1⟩
        | false =>
          rw [hb] at h1
          simp only [cond_false, Bool.and_eq_true] at h1
          refine .inr ⟨Nat.lt_of_not_le fun hle => ?_, leN_le h1.1, by simpa [ltN_iff] using h1.2⟩
          rw [leN_of hle] at hb; cases hb
      · exact namesIn_spec h.2 j x hx

theorem hasAll_spec {objs : Objs} : ∀ {n : Nat}, hasAll objs n = true → ∀ i, i < n → ∃ x, lookN (1000 + i) objs = some x
  | 0, _, _, h => by omega
  | n + 1, h, i, hi => by
      simp only [hasAll, Bool.and_eq_true] at h
      by_cases e : i = n
      · subst e
        cases hx : lookN (1000 + i) objs with
        | some x => exact ⟨x, rfl⟩
        | none => rw [hx] at h; cases h.1
      · exact hasAll_spec h.2 i (by omega)

theorem apartB_spec {l : List Nat} : ∀ {r : List Nat}, apartB l r = true → ∀ k ∈ r, k ∉ l
  | [], _, _, h => by cases h
  | x :: r, h, k, hk => by
      simp only [apartB, Bool.and_eq_true, Bool.not_eq_true', memN_false] at h
      rcases List.mem_cons.1 hk with rfl | hk
      · exact h.1
      · exact apartB_spec h.2 k hk

theorem allFree_spec : ∀ {l : Objs}, allFreeO l = true → ∀ j x, (j, x) ∈ l → datFreeO x = true
  | [], _, _, _, h => by cases h
  | (k, y) :: l, h, j, x, hx => by
      simp only [allFreeO, Bool.and_eq_true] at h
      rcases List.mem_cons.1 hx with e | hx
      · cases e; exact h.1
      · exact allFree_spec h.2 j x hx
end Go.SX

/- SX: calls, third part: the call's rule. -/
namespace Go.SX

section
variable {P : Program} {η : OEnv} {G : Nat → Prop} {N : Nat} {dl : List Deferred} {get : Nat → SV} {ob : Nat → Option TObj} {a : Act} {w : World}

theorem conv_obj (H : Holds dl η G N get ob a w) {sel bor : List Nat} {x : TObj} {o : OInfo} (hb : ∀ k ∈ borObj ob sel x, k ∈ bor) (h : ObjRel η G w x o) :
    ObjRel (inE η sel) (inG η G bor) w (convObj ob sel x) o := by
  cases x with
  | cells T cs =>
    simp only [convObj, ObjRel] at h ⊢
    obtain ⟨h1, h2, b, vs, h3, h4, h5⟩ := h
    exact ⟨h1, h2, b, vs, h3, h4, convSVs_rel H cs vs (by simpa only [borObj] using hb) h5⟩
  | arrS T wd n row =>
    simp only [convObj, ObjRel] at h ⊢
    obtain ⟨h1, h2, h3⟩ := h
    refine ⟨h1, h2, ?_⟩
    rcases h3 with h | ⟨b, c, cs, T', r1, r2, r3, r4, r5, r6, r7⟩
    · exact .inl h
    · exact .inr ⟨b, c, cs, T', r1, r2, r3, r4, r5, r6, fun i j hi hj => by obtain ⟨u, hu, hd⟩ := r7 i j hi hj; exact ⟨u, hu, DVRel.mono (fun b hb => .inl hb) (fun _ _ => rfl) _ _ hd⟩⟩
  | barr T bs => simpa only [convObj, ObjRel] using h
  | arrD T wd n row => simpa only [convObj, ObjRel] using h
  | setI k ks => simpa only [convObj, ObjRel] using h
  | cust d Φ => simpa only [convObj, ObjRel] using h
  | kn d Φ => simpa only [convObj, ObjRel] using h
  | dead => simpa only [convObj, ObjRel] using h

theorem call_soundG (H : Holds dl η G N get ob a w) {f d : Nat} {svs : List SV} {vs : List Value} (hs : SVRels η G w svs vs) {sel bor : List Nat} {objs : Objs} {X : Type} {objs' : X → Objs} {r : X → SV}
    (hsel : selObjs ob sel sel 0 = some objs) (hbor : bor = borSVs ob sel svs ++ borObjs ob sel sel) (hS : SpecG P f (convSVs ob sel svs) objs X r objs') (hpre : callPre sel bor = true) (hok : ∀ x, callOk sel bor d ob (r x) (objs' x) = true) :
    RunsX P f ⟨vs⟩ w fun v w' => ∃ x η' G', After η G w ob (backSV sel d (r x)) (backObjs sel d (objs' x)) v η' G' w' := by
  simp only [callPre, Bool.and_eq_true] at hpre
  obtain ⟨hlen, hnd, hap⟩ := hpre
  have hlen : sel.length < 900 := by simpa [ltN_iff] using hlen
  have hnd := nodupB_iff hnd
  obtain ⟨hs1, hs2⟩ := sel_some hsel
  simp only [Nat.add_zero] at hs2
  -- the callee's side
  have hη : ∀ k ∈ sel, ∃ o, η k = some o := by
    intro k hk
    obtain ⟨x, hx⟩ := hs1 k hk
    obtain ⟨o, ho, _⟩ := obj_of H hx
    exact ⟨o, ho⟩
  have hsep : Sep (inE η sel) (inG η G bor) w := by
    refine ⟨?_, ?_, ?_, ?_⟩
    · intro k o ho b hb
      obtain ⟨i, rfl, hi, ho⟩ := inE_some ho
      refine ⟨(H.sp.lt _ _ ho b hb).1, ?_⟩
      rintro (hg | ⟨k', hk', o', ho', hb'⟩)
      · exact (H.sp.lt _ _ ho b hb).2 hg
      · exact H.sp.dj _ _ _ _ ho ho' (fun e => apartB_spec hap k' hk' (e ▸ nthD_mem hi)) b hb hb'
    · intro k o k' o' ho ho' hne b hb
      obtain ⟨i, rfl, hi, ho⟩ := inE_some ho
      obtain ⟨j, rfl, hj, ho'⟩ := inE_some ho'
      refine H.sp.dj _ _ _ _ ho ho' (fun e => hne ?_) b hb
      have e1 := posOf_nth (s := 0) hnd hi
      have e2 := posOf_nth (s := 0) hnd hj
      rw [e, e2] at e1
      simp only [Option.some.injEq] at e1
      omega
    · intro k o ho
      obtain ⟨i, rfl, hi, ho⟩ := inE_some ho
      exact H.sp.mi _ _ ho
    · rintro b (hg | ⟨k', hk', o', ho', hb'⟩)
      · exact H.sp.glt b hg
      · exact (H.sp.lt _ _ ho' b hb').1
  have hobj : ∀ k, ObjOpt (inE η sel) (inG η G bor) w (lookN k objs) (inE η sel k) := by
    intro k
    rw [hs2 k]
    unfold inE
    by_cases hk : 1000 ≤ k ∧ k < 1000 + sel.length
    · rw [if_pos hk, if_pos hk]
      have hi : k - 1000 < sel.length := by omega
      obtain ⟨x, hx⟩ := hs1 _ (nthD_mem hi)
      obtain ⟨o, ho, hr⟩ := obj_of H hx
      rw [hx, ho]
      exact conv_obj H (fun j hj => by rw [hbor]; exact List.mem_append.2 (.inr (bor_obj (nthD_mem hi) hx j hj))) hr
    · rw [if_neg hk, if_neg hk]
      trivial
  have hsv := convSVs_rel (sel := sel) (bor := bor) H svs vs (fun k hk => by rw [hbor]; exact List.mem_append.2 (.inl hk)) hs
  refine (hS (inE η sel) (inG η G bor) vs w hsep hobj hsv).mono ?_
  rintro v w' ⟨x, η', G', hr, hob', hsp', hev⟩
  have hok := hok x
  refine ⟨x, ?_⟩
  generalize r x = r at *
  generalize objs' x = objs' at *
  simp only [callOk, Bool.and_eq_true, Bool.or_eq_true] at hok
  obtain ⟨-, -, hin, hnames, hall, hfree, hnone⟩ := hok
  have hnames := nodupB_iff hnames
  -- names
  have hname : ∀ j x, (j, x) ∈ objs' → invN sel d (backN sel d j) = some j := by
    intro j x hx
    rcases namesIn_spec hin j x hx with ⟨h1, h2⟩ | ⟨h1, h2, h3⟩
    · have hbn : backN sel d j = 3000 + d * 100 + (j - 2000) := by unfold backN; rw [leN_of h1]; rfl
      have hno := noneO_spec hnone _ (new_mem (d := d) hx h1)
      have hns : 3000 + d * 100 + (j - 2000) ∉ sel := fun hm => by
        obtain ⟨y, hy⟩ := hs1 _ hm
        rw [hno] at hy; cases hy
      unfold invN
      rw [hbn, posOf_none.2 hns]
      simp only []
      rw [if_pos ⟨by omega, by omega⟩]
      simp only [Option.some.injEq]; omega
    · have hbn : backN sel d j = nthD sel (j - 1000) 0 := by
        unfold backN
        have : leN 2000 j = false := by
          cases hb : leN 2000 j with
          | false => rfl
          | true => have := leN_le hb; omega
        rw [this]; rfl
      unfold invN
      rw [hbn, posOf_nth hnd (by omega)]
      simp only []
      simp only [Option.some.injEq]; omega
  have hlook : ∀ k, lookN k (backObjs sel d objs') = match invN sel d k with | some j => (lookN j objs').map (backObj sel d) | none => none := fun k => look_back hlen k objs' hname
  have hupd : ∀ k, updF ob (backObjs sel d objs') k = match lookN k (backObjs sel d objs') with | some x => some x | none => ob k := updF_nodup _ (names_back_nodup objs' hnames hname)
  -- the callee's objects among the caller's
  have hE : ∀ j o, η' j = some o → outE η η' sel d (backN sel d j) = some o := by
    intro j o ho
    have := hob' j
    rw [ho] at this
    cases hl : lookN j objs' with
    | none => rw [hl] at this; exact this.elim
    | some x =>
      unfold outE
      rw [hname j x (lookN_mem hl)]
      simp only [ho]
  -- an object of the caller's: the callee's, or an old one that the callee has not had
  have hcases : ∀ k o, outE η η' sel d k = some o → (∃ j, invN sel d k = some j ∧ η' j = some o) ∨ (η k = some o ∧ k ∉ sel ∧ updF ob (backObjs sel d objs') k = ob k) := by
    intro k o ho
    unfold outE at ho
    cases hi : invN sel d k with
    | none =>
      rw [hi] at ho
      refine .inr ⟨ho, fun hm => ?_, by rw [hupd, hlook, hi]⟩
      unfold invN at hi
      cases hp : posOf k sel 0 with
      | none => exact posOf_none.1 hp hm
      | some i => rw [hp] at hi; cases hi
    | some j =>
      rw [hi] at ho
      simp only [] at ho
      cases hj : η' j with
      | some o' => rw [hj] at ho; cases ho; exact .inl ⟨j, rfl, hj⟩
      | none =>
        rw [hj] at ho
        have hl : lookN j objs' = none := by
          have := hob' j
          rw [hj] at this
          cases hl : lookN j objs' with
          | none => rfl
          | some x => rw [hl] at this; exact this.elim
        refine .inr ⟨ho, fun hm => ?_, by rw [hupd, hlook, hi]; simp only [hl]; rfl⟩
        unfold invN at hi
        cases hp : posOf k sel 0 with
        | none => exact posOf_none.1 hp hm
        | some i =>
          rw [hp] at hi
          simp only [Option.some.injEq] at hi
          obtain ⟨i', h1, h2, h3⟩ := posOf_spec hp
          simp only [Nat.zero_add] at h1; subst h1
          obtain ⟨x, hx⟩ := hasAll_spec hall i h2
          rw [hi, hl] at hx; cases hx
  have hblkc : ∀ j o b, η' j = some o → b ∈ o.main ++ o.inner → w.heap.size ≤ b ∨ ∃ k ∈ sel, ∃ o, η k = some o ∧ b ∈ o.main ++ o.inner := by
    intro j o b ho hb
    rcases hev.blk j o ho b hb with h | ⟨k₀, o₀, h₀, hb₀⟩
    · exact .inl h
    · obtain ⟨i, rfl, hi, ho⟩ := inE_some h₀
      exact .inr ⟨_, nthD_mem hi, o₀, ho, hb₀⟩
  -- what the caller has and the callee has not is as it was
  have hold : ∀ k o, η k = some o → k ∉ sel → ∀ b ∈ o.main ++ o.inner, w'.heap[b]? = w.heap[b]? := by
    intro k o ho hk b hb
    refine hev.keep b (H.sp.lt k o ho b hb).1 fun k' o' ho' hb' => ?_
    obtain ⟨i, rfl, hi, ho'⟩ := inE_some ho'
    exact H.sp.dj k o _ o' ho ho' (fun e => hk (e ▸ nthD_mem hi)) b hb hb'
  have hselobj : ∀ k o, η k = some o → k ∈ sel → ∃ j o', invN sel d k = some j ∧ η' j = some o' ∧
      (o'.dead = false → o.dead = false ∧ o'.val = o.val ∧ Ext o.main o'.main ∧ ∀ b ∈ o.inner, b ∈ o'.inner ∧ w'.heap[b]? = w.heap[b]?) := by
    intro k o ho hk
    cases hp : posOf k sel 0 with
    | none => exact absurd hk (posOf_none.1 hp)
    | some i =>
      have he := inE_pos (η := η) hp
      obtain ⟨o', ho', hh⟩ := hev.obj (1000 + i) o (he.trans ho)
      exact ⟨1000 + i, o', by unfold invN; rw [hp], ho', hh⟩
  -- the shared data
  have hG' : ∀ b, G b → G' b := fun b hb => hev.g b (.inl hb)
  obtain ⟨Gn, hGn1, hGn2, hGn3⟩ : ∃ Gn : Nat → Prop, (∀ b, G b → Gn b) ∧ (∀ b, Gn b → G' b ∧ (G b ∨ bor = [])) ∧ ((∀ b, G' b → Gn b) ∨ (datFree r = true ∧ allFreeO objs' = true)) := by
    by_cases hb : bor = []
    · exact ⟨G', hG', fun b h => ⟨h, .inr hb⟩, .inl fun _ h => h⟩
    · refine ⟨G, fun _ h => h, fun b h => ⟨hG' b h, .inl h⟩, .inr ?_⟩
      rcases hfree with h | h
      · cases bor with
        | nil => exact absurd rfl hb
        | cons x l => cases h
      · simpa using h
  have hGold : ∀ b, Gn b → G b ∨ w.heap.size ≤ b ∨ ∃ k ∈ sel, ∃ o, η k = some o ∧ b ∈ o.main ++ o.inner := by
    intro b hb
    obtain ⟨h1, h2 | h2⟩ := hGn2 b hb
    · exact .inl h2
    · rcases hev.g' b h1 with h | h | ⟨k, o, ho, hb⟩
      · rcases h with h | ⟨k, hk, _⟩
        · exact .inl h
        · rw [h2] at hk; cases hk
      · exact .inr (.inl h)
      · obtain ⟨i, rfl, hi, ho⟩ := inE_some ho
        exact .inr (.inr ⟨_, nthD_mem hi, o, ho, hb⟩)
  have hEv : Evol η G w (outE η η' sel d) Gn w' := by
    refine ⟨hev.os, hev.tape, hev.out, hev.size, ?_, ?_, hGn1, ?_, ?_⟩
    · intro b hb hn
      refine hev.keep b hb fun k o ho hm => ?_
      obtain ⟨i, rfl, hi, ho⟩ := inE_some ho
      exact hn _ o ho hm
    · intro k o ho
      by_cases hk : k ∈ sel
      · obtain ⟨j, o', h1, h2, h3⟩ := hselobj k o ho hk
        exact ⟨o', by unfold outE; rw [h1]; simp only [h2], h3⟩
      · have hsame : outE η η' sel d k = some o := by
          unfold outE
          cases hi : invN sel d k with
          | none => exact ho
          | some j =>
            simp only []
            cases hj : η' j with
            | none => exact ho
            | some o' =>
              exfalso
              have := hob' j
              rw [hj] at this
              cases hl : lookN j objs' with
              | none => rw [hl] at this; exact this.elim
              | some x =>
                have hx := lookN_mem hl
                have hbk := inv_back hlen hi
                rcases namesIn_spec hin j x hx with ⟨h1, h2⟩ | ⟨h1, h2, h3⟩
                · have hno := noneO_spec hnone _ (new_mem (d := d) hx h1)
                  have hbn : backN sel d j = 3000 + d * 100 + (j - 2000) := by unfold backN; rw [leN_of h1]; rfl
                  rw [← hbn, hbk] at hno
                  rw [none_of H hno] at ho; cases ho
                · have hbn : backN sel d j = nthD sel (j - 1000) 0 := by
                    unfold backN
                    have : leN 2000 j = false := by
                      cases hb : leN 2000 j with
                      | false => rfl
                      | true => have := leN_le hb; omega
                    rw [this]; rfl
                  exact hk (by rw [← hbk, hbn]; exact nthD_mem (by omega))
        exact ⟨o, hsame, fun hd => ⟨hd, rfl, Ext.refl _, fun b hb => ⟨hb, hold k o ho hk b (by simp [hb])⟩⟩⟩
    · intro b hb
      rcases hGold b hb with h | h | ⟨k, _, o, ho, hb⟩
      · exact .inl h
      · exact .inr (.inl h)
      · exact .inr (.inr ⟨k, o, ho, hb⟩)
    · intro k o ho b hb
      rcases hcases k o ho with ⟨j, _, hj⟩ | ⟨hk, _, _⟩
      · rcases hblkc j o b hj hb with h | ⟨k, _, o, ho, hb⟩
        · exact .inl h
        · exact .inr ⟨k, o, ho, hb⟩
      · exact .inr ⟨k, o, hk, hb⟩
  have hM := hEv.mono H.sp
  refine ⟨outE η η' sel d, Gn, ⟨backSV_rel hE r v (hGn3.elim .inr fun h => .inl h.1) hr, fun k => ?_, ⟨?_, ?_, ?_, ?_⟩, hEv⟩⟩
  · cases ho : outE η η' sel d k with
    | some o =>
      rcases hcases k o ho with ⟨j, hi, hj⟩ | ⟨hk, hns, hu⟩
      · have := hob' j
        rw [hj] at this
        cases hl : lookN j objs' with
        | none => rw [hl] at this; exact this.elim
        | some x =>
          rw [hl] at this
          rw [hupd, hlook, hi]
          simp only [hl, Option.map_some]
          exact backObj_rel hE (hGn3.elim .inr fun h => .inl (allFree_spec h.2 j x (lookN_mem hl))) this
      · rw [hu]
        have := H.ob k
        rw [hk] at this
        cases hx : ob k with
        | none => rw [hx] at this; exact this.elim
        | some x => rw [hx] at this; exact ObjRel.mono hM (hold k o hk hns) this
    | none =>
      have hk : η k = none := by
        cases hk : η k with
        | none => rfl
        | some o =>
          obtain ⟨o', ho', _⟩ := hEv.obj k o hk
          rw [ho] at ho'; cases ho'
      have hob0 : ob k = none := by
        have := H.ob k
        rw [hk] at this
        cases hx : ob k with
        | none => rfl
        | some x => rw [hx] at this; exact this.elim
      rw [hupd, hlook]
      cases hi : invN sel d k with
      | none => simp only []; rw [hob0]; trivial
      | some j =>
        have hj : η' j = none := by
          unfold outE at ho
          rw [hi] at ho
          simp only [] at ho
          cases hj : η' j with
          | none => rfl
          | some o => rw [hj] at ho; cases ho
        have := hob' j
        rw [hj] at this
        cases hl : lookN j objs' with
        | none => simp only [hl, Option.map_none]; rw [hob0]; trivial
        | some x => rw [hl] at this; exact this.elim
  · intro k o ho b hb
    rcases hcases k o ho with ⟨j, _, hj⟩ | ⟨hk, hns, _⟩
    · exact ⟨(hsp'.lt j o hj b hb).1, fun hg => (hsp'.lt j o hj b hb).2 (hGn2 b hg).1⟩
    · have := H.sp.lt k o hk b hb
      refine ⟨Nat.lt_of_lt_of_le this.1 hev.size, fun hg => ?_⟩
      rcases hGold b hg with h | h | ⟨k', hk', o', ho', hb'⟩
      · exact this.2 h
      · omega
      · exact H.sp.dj k o k' o' hk ho' (fun e => hns (e ▸ hk')) b hb hb'
  · intro k o k' o' ho ho' hne b hb hb'
    rcases hcases k o ho with ⟨j, hi, hj⟩ | ⟨hk, hns, _⟩ <;> rcases hcases k' o' ho' with ⟨j', hi', hj'⟩ | ⟨hk', hns', _⟩
    · exact hsp'.dj j o j' o' hj hj' (fun e => hne (by rw [← inv_back hlen hi, ← inv_back hlen hi', e])) b hb hb'
    · rcases hblkc j o b hj hb with h | ⟨k₀, h₀, o₀, ho₀, hb₀⟩
      · have := (H.sp.lt k' o' hk' b hb').1; omega
      · exact H.sp.dj k' o' k₀ o₀ hk' ho₀ (fun e => hns' (e ▸ h₀)) b hb' hb₀
    · rcases hblkc j' o' b hj' hb' with h | ⟨k₀, h₀, o₀, ho₀, hb₀⟩
      · have := (H.sp.lt k o hk b hb).1; omega
      · exact H.sp.dj k o k₀ o₀ hk ho₀ (fun e => hns (e ▸ h₀)) b hb hb₀
    · exact H.sp.dj k o k' o' hk hk' hne b hb hb'
  · intro k o ho
    rcases hcases k o ho with ⟨j, _, hj⟩ | ⟨hk, _, _⟩
    · exact hsp'.mi j o hj
    · exact H.sp.mi k o hk
  · intro b hb
    exact hsp'.glt b (hGn2 b hb).1

theorem pre_of_ok {sel bor : List Nat} {d : Nat} {ob : Nat → Option TObj} {r : SV} {objs' : Objs} (h : callOk sel bor d ob r objs' = true) : callPre sel bor = true := by
  simp only [callOk, Bool.and_eq_true] at h
  simp only [callPre, Bool.and_eq_true]
  exact ⟨h.1.1, h.1.2, h.2.1⟩

theorem call_sound (H : Holds dl η G N get ob a w) {f d : Nat} {svs : List SV} {vs : List Value} (hs : SVRels η G w svs vs) {sel bor : List Nat} {objs objs' : Objs} {r : SV}
    (hsel : selObjs ob sel sel 0 = some objs) (hbor : bor = borSVs ob sel svs ++ borObjs ob sel sel) (hS : SpecX P f (convSVs ob sel svs) objs r objs') (hok : callOk sel bor d ob r objs' = true) :
    RunsX P f ⟨vs⟩ w fun v w' => ∃ η' G', After η G w ob (backSV sel d r) (backObjs sel d objs') v η' G' w' :=
  (call_soundG (X := Unit) (r := fun _ => r) (objs' := fun _ => objs') H hs hsel hbor (fun η G vs w h1 h2 h3 => (hS η G vs w h1 h2 h3).mono fun _ _ h => ⟨(), h⟩) (pre_of_ok hok) fun _ => hok).mono fun _ _ ⟨_, h⟩ => h
end
end Go.SX

/- SX: regions: from the operations' text to any order that their edges allow. -/
namespace Go.SX

abbrev FS := (Nat → SV) × (Nat → Option TObj)

/-- What an operation does: the slots and objects that it reads, what it writes. -/
structure FR where
  dst : Option Nat
  sv : SV
  upd : Objs
  rs : List Nat
  rd : List Nat

def FR.app (N : Nat) (r : FR) (F : FS) : FS :=
  (match r.dst with
   | some d => fun t => if t = d ∧ d < N then r.sv else F.1 t
   | none => F.1, updF F.2 r.upd)

def OpRec (P : Program) (ops : Array Oper) (N i : Nat) (F : FS) (r : FR) : Prop :=
  ∀ F' : FS, (∀ t ∈ r.rs, F'.1 t = F.1 t) → (∀ k ∈ r.rd, F'.2 k = F.2 k) → ∀ {dl : List Deferred} (Q : Exit → Act → World → Prop) (K : Act → World → Prop) (η : OEnv) (G : Nat → Prop) (a : Act) (w : World), Holds dl η G N F'.1 F'.2 a w →
    (∀ η' G' a' w', Holds dl η' G' N (r.app N F').1 (r.app N F').2 a' w' → Evol η G w η' G' w' → K a' w') → wpOp P ops Q i K a w

theorem opReads_mem {t : Nat} : ∀ {l : List Operand}, Operand.tmp t ∈ l → t ∈ opReads l
  | [], h => by cases h
  | x :: l, h => by
      rcases List.mem_cons.1 h with rfl | h
      · simp [opReads]
      · have := opReads_mem h
        cases x <;> simp [opReads, this]

theorem dstOf_eq : ∀ (all : List Oper) (j : Nat), dstOf all j = (all[j]?).bind (·.dst)
  | [], j => by simp [dstOf]
  | o :: r, 0 => by simp [dstOf]
  | o :: r, j + 1 => by simpa [dstOf] using dstOf_eq r j

section
variable {P : Program} {E : Env} {η : OEnv} {G : Nat → Prop} {N : Nat} {dl : List Deferred} {get : Nat → SV} {ob : Nat → Option TObj} {a : Act} {w : World}

theorem undef_tup : SVRel η G w (.tup []) undef := by simp [SVRel, SVRels, undef]
theorem undef_rel : SVRel η G w .any undef := by simp [SVRel]

theorem put_get (a : Act) (d : Nat) (v : Value) (t : Nat) : (a.put (some d) v).tmps.getD t undef = if t = d ∧ d < a.tmps.size then v else a.tmps.getD t undef := by
  simp only [Act.put, Array.getD_eq_getD_getElem?, Array.getElem?_setIfInBounds]
  by_cases h : t = d
  · subst h
    by_cases hl : t < a.tmps.size
    · simp [hl]
    · simp [hl]
  · have : ¬ d = t := fun e => h e.symm
    simp [h, this]

theorem holds_put (H : Holds dl η G N get ob a w) {dst : Option Nat} {sv : SV} {upd : Objs} {v : Value} {η' : OEnv} {G' : Nat → Prop} {w' : World} (A : After η G w ob sv upd v η' G' w') (rs rd : List Nat) :
    Holds dl η' G' N (FR.app N ⟨dst, sv, upd, rs, rd⟩ (get, ob)).1 (FR.app N ⟨dst, sv, upd, rs, rd⟩ (get, ob)).2 (a.put dst v) w' := by
  have hM := A.ev.mono H.sp
  cases dst with
  | none =>
    exact ⟨H.sz, H.df, fun t => SVRel.mono hM _ _ (H.tm t), A.ob, A.sp⟩
  | some d =>
    refine ⟨by simp [Act.put, H.sz], H.df, fun t => ?_, A.ob, A.sp⟩
    rw [put_get, H.sz]
    simp only [FR.app]
    split
    · exact A.sv
    · exact SVRel.mono hM _ _ (H.tm t)

/-- Is the operation's guard met? -/
def GuardIs (all : List Oper) (o : Oper) (get : Nat → SV) (v : Bool) : Prop :=
  (∃ j want s, o.guard = some (j, want) ∧ dstOf all j = some s ∧ get s = .tup [] ∧ v = false) ∨ (o.guard = none ∧ v = true) ∨ ∃ j want s e, o.guard = some (j, want) ∧ dstOf all j = some s ∧ get s = .bool e ∧ v = (e.den == want)

theorem guard_wanted (H : Holds dl η G N get ob a w) {ops : Array Oper} {o : Oper} {v : Bool} (hg : GuardIs ops.toList o get v) : Region.wanted o (yielded ops a.tmps) = v := by
  rcases hg with ⟨j, want, s, h1, h2, h3, rfl⟩ | ⟨h, rfl⟩ | ⟨j, want, s, e, h1, h2, h3, rfl⟩
  · have ht := H.tm s
    rw [h3] at ht
    simp only [SVRel] at ht
    obtain ⟨as, ht, -⟩ := ht
    have hy : yielded ops a.tmps j = none := by
      unfold yielded
      rw [dstOf_eq] at h2
      have h2' : (ops[j]?).bind (·.dst) = some s := by simpa [leN_iff, ltN_iff] using h2
      rw [Array.getD_eq_getD_getElem?] at ht
      cases hx : a.tmps[s]? with
      | none => simp [h2', hx]
      | some x =>
        rw [hx] at ht
        simp only [Option.getD_some] at ht
        simp [h2', hx, ht]
    simp [Region.wanted, h1, hy]
  · simp [Region.wanted, h]
  · have ht := H.tm s
    rw [h3] at ht
    simp only [SVRel] at ht
    have hs : a.tmps[s]? = some (.bool e.den) := by
      rw [Array.getD_eq_getD_getElem?] at ht
      cases hx : a.tmps[s]? with
      | none => rw [hx] at ht; simp [undef] at ht
      | some x => rw [hx] at ht; simpa using ht
    rw [dstOf_eq] at h2
    have hy : yielded ops a.tmps j = some e.den := by
      unfold yielded
      have : (ops[j]?).bind (·.dst) = some s := by simpa [leN_iff, ltN_iff] using h2
      simp [this, hs]
    simp [Region.wanted, h1, hy]

theorem GuardIs.congr {all : List Oper} {o : Oper} {get' : Nat → SV} {v : Bool} (hg : GuardIs all o get v) (h : ∀ t ∈ slotsOf all o, get' t = get t) : GuardIs all o get' v := by
  rcases hg with ⟨j, want, s, h1, h2, h3, h4⟩ | h0 | ⟨j, want, s, e, h1, h2, h3, h4⟩
  · exact .inl ⟨j, want, s, h1, h2, by rw [h s (by simp [slotsOf, h1, h2])]; exact h3, h4⟩
  · exact .inr (.inl h0)
  · exact .inr (.inr ⟨j, want, s, e, h1, h2, by rw [h s (by simp [slotsOf, h1, h2])]; exact h3, h4⟩)

def KnF (kn : List (Nat × Bool)) (get : Nat → SV) : Prop := ∀ s b, lookN s kn = some b → ∃ e, get s = .bool e ∧ e.den = b

theorem slots_op {all : List Oper} {o : Oper} {t : Nat} (h : Operand.tmp t ∈ o.op.operands.toList) : t ∈ slotsOf all o := by
  simp only [slotsOf, List.mem_append]
  exact .inl (opReads_mem h)

theorem wpOp_of {ops : Array Oper} {i : Nat} {o : Oper} (ho : ops[i]? = some o) {Q : Exit → Act → World → Prop} {K : Act → World → Prop}
    (hw : Region.wanted o (yielded ops a.tmps) = true) (h : o.wp P a w K Q) : wpOp P ops Q i K a w := by
  unfold wpOp
  rw [ho]
  simp only [hw, if_true]
  exact .inl h

/-- An operation of its own, run. -/
theorem opRec_op (hE : EOk P E) {ops : Array Oper} {i d : Nat} {o : Oper} (ho : ops[i]? = some o) {kn : List (Nat × Bool)} {F : FS} (hkn : KnF kn F.1) (hg : GuardIs ops.toList o F.1 true)
    {sv : SV} {upd : Objs} {rd : List Nat} {obl : Obl} (h : evOp E d kn F.1 F.2 o.op = .ok sv upd rd obl) (hob : obl.holds) :
    OpRec P ops N i F ⟨o.dst, sv, upd, slotsOf ops.toList o, rd⟩ := by
  intro F' h1 h2 dl Q K η G a w H hK
  have e1 : evOp E d kn F'.1 F'.2 o.op = .ok sv upd rd obl := by
    rw [← evOp_congr (get := F.1) fun t ht => (h1 t (slots_op ht)).symm]
    exact evOp_congrO (fun k hk => (h2 k hk).symm) h
  have hk : KnOk o.op kn a := by
    intro t b ht hb
    obtain ⟨e, he, hd⟩ := hkn t b hb
    have := H.tm t
    rw [h1 t (slots_op ht), he] at this
    simp only [SVRel] at this
    rw [this, hd]
  obtain ⟨n, v, η', G', w', hrun, hn, hA⟩ := evOp_sound hE H hk e1 hob
  refine wpOp_of ho (guard_wanted H (hg.congr h1)) ?_
  unfold Oper.wp
  rw [hrun]
  have hput := holds_put (dst := o.dst) H hA (slotsOf ops.toList o) rd
  rcases hn with rfl | ⟨rfl, rfl⟩
  · simp only [Oper.upon]
    exact hK _ _ _ _ hput hA.ev
  · simp only [Oper.upon]
    exact hK _ _ _ _ hput hA.ev

/-- An operation whose guard says no. -/
theorem opRec_skip {ops : Array Oper} {i : Nat} {o : Oper} (ho : ops[i]? = some o) {F : FS} (hg : GuardIs ops.toList o F.1 false) : OpRec P ops N i F ⟨o.dst, .tup [], [], slotsOf ops.toList o, []⟩ := by
  intro F' h1 h2 dl Q K η G a w H hK
  have hw := guard_wanted H (hg.congr h1)
  unfold wpOp
  rw [ho]
  simp only [hw]
  exact hK _ _ _ _ (holds_put H (After.pure H undef_tup) _ _) (Evol.refl _ _ _)

mutual
theorem convSV_congr {ob ob' : Nat → Option TObj} {sel bor : List Nat} (h : ∀ k ∈ bor, ob k = ob' k) : ∀ (s : SV), (∀ k ∈ borSV ob sel s, k ∈ bor) → convSV ob sel s = convSV ob' sel s ∧ borSV ob sel s = borSV ob' sel s
  | .view k d, hb => by
      have := h k (hb k (by simp [borSV]))
      simp [convSV, borSV, this]
  | .own k, hb => by
      simp only [convSV, borSV]
      cases hp : posOf k sel 0 with
      | some i => simp
      | none =>
        have := h k (hb k (by simp [borSV, hp]))
        simp [svDV, this]
  | .csl k wd n, hb => by
      simp only [convSV, borSV]
      cases hp : posOf k sel 0 with
      | some i => simp
      | none =>
      have hk := h k (hb k (by simp [borSV, hp]))
      simp only [← hk]
      cases hob : ob k with
      | none => simp
      | some x =>
        cases x with
        | cells T cs =>
          have hcs : cellDVs ob cs = cellDVs ob' cs ∧ borCells ob cs = borCells ob' cs := by
            have hin : ∀ j ∈ borCells ob cs, ob j = ob' j := by
              intro j hj
              refine h j (hb j ?_)
              simp only [borSV, hp, hob, List.mem_cons]
              exact .inr hj
            clear hob hb
            induction cs with
            | nil => exact ⟨rfl, rfl⟩
            | cons c cs ih =>
              obtain ⟨h1, h2⟩ := ih fun j hj => hin j (by simp [borCells, hj])
              have hc : cellDV ob c = cellDV ob' c ∧ borCell ob c = borCell ob' c := by
                have hj : ∀ j ∈ borCell ob c, ob j = ob' j := fun j hj => hin j (by simp [borCells, hj])
                cases c with
                | own j => simp only [cellDV, svDV, hj j (by simp [borCell, borOne]), borCell]; exact ⟨trivial, trivial⟩
                | view j d => simp only [cellDV, svDV, hj j (by simp [borCell, borOne]), borCell]; exact ⟨trivial, trivial⟩
                | csl j w n =>
                  have hj0 := hj j (by simp [borCell])
                  simp only [cellDV, borCell, ← hj0]
                  cases hoj : ob j with
                  | none => simp
                  | some y =>
                    cases y with
                    | cells T' cs' =>
                      have he : svDVs ob cs' = svDVs ob' cs' := by
                        have hin' : ∀ k ∈ borOnes cs', ob k = ob' k := fun k hk => hj k (by simp only [borCell, hoj, List.mem_cons]; exact .inr hk)
                        clear hoj hj0 hj hin h1 h2 ih
                        induction cs' with
                        | nil => rfl
                        | cons e cs' ih =>
                          have hc : svDV ob e = svDV ob' e := by
                            cases e with
                            | own j => simp only [svDV, hin' j (by simp [borOnes, borOne])]
                            | view j d => simp only [svDV, hin' j (by simp [borOnes, borOne])]
                            | _ => rfl
                          simp only [svDVs, hc, ih fun k hk => hin' k (by simp [borOnes, hk])]
                      simp [he]
                    | _ => simp
                | _ => exact ⟨rfl, rfl⟩
              simp only [cellDVs, borCells, hc.1, hc.2, h1, h2]; exact ⟨trivial, trivial⟩
          simp only [hcs.1, hcs.2, and_self]
        | _ => simp
  | .agg cs, hb => by
      have := convSVs_congr h cs (by simpa only [borSV] using hb)
      simp [convSV, borSV, this.1, this.2]
  | .tup cs, hb => by
      have := convSVs_congr h cs (by simpa only [borSV] using hb)
      simp [convSV, borSV, this.1, this.2]
  | .fn f cs, hb => by
      have := convSVs_congr h cs (by simpa only [borSV] using hb)
      simp [convSV, borSV, this.1, this.2]
  | .any, _ => ⟨rfl, rfl⟩
  | .nil, _ => ⟨rfl, rfl⟩
  | .int _ _, _ => ⟨rfl, rfl⟩
  | .bool _, _ => ⟨rfl, rfl⟩
  | .str _, _ => ⟨rfl, rfl⟩
  | .val _, _ => ⟨rfl, rfl⟩
  | .rv _ _, _ => ⟨rfl, rfl⟩
  | .dat _, _ => ⟨rfl, rfl⟩
  | .nn _, _ => ⟨rfl, rfl⟩
  | .loc _ _, _ => ⟨rfl, rfl⟩
  | .op _ _ _ _, _ => ⟨rfl, rfl⟩
  | .ep _ _ _ _, _ => ⟨rfl, rfl⟩
theorem convSVs_congr {ob ob' : Nat → Option TObj} {sel bor : List Nat} (h : ∀ k ∈ bor, ob k = ob' k) : ∀ (s : List SV), (∀ k ∈ borSVs ob sel s, k ∈ bor) → convSVs ob sel s = convSVs ob' sel s ∧ borSVs ob sel s = borSVs ob' sel s
  | [], _ => ⟨rfl, rfl⟩
  | c :: cs, hb => by
      simp only [borSVs, List.mem_append] at hb
      have h1 := convSV_congr h c fun k hk => hb k (.inl hk)
      have h2 := convSVs_congr h cs fun k hk => hb k (.inr hk)
      simp [convSVs, borSVs, h1.1, h1.2, h2.1, h2.2]
end

theorem selObjs_congr {ob ob' : Nat → Option TObj} {sel bor : List Nat} (h : ∀ k ∈ bor, ob k = ob' k) : ∀ (l : List Nat) (i : Nat), (∀ k ∈ l, ob k = ob' k) → (∀ k ∈ borObjs ob sel l, k ∈ bor) →
    selObjs ob sel l i = selObjs ob' sel l i ∧ borObjs ob sel l = borObjs ob' sel l
  | [], _, _, _ => ⟨rfl, rfl⟩
  | k :: r, i, hl, hb => by
      have hk := hl k (by simp)
      simp only [selObjs, borObjs, ← hk]
      cases hob : ob k with
      | none =>
        simp only [borObjs, hob] at hb
        have ih := selObjs_congr h r (i + 1) (fun k hk => hl k (by simp [hk])) hb
        exact ⟨rfl, ih.2⟩
      | some x =>
        simp only [borObjs, hob, List.mem_append] at hb
        have ih := selObjs_congr h r (i + 1) (fun k hk => hl k (by simp [hk])) (fun j hj => hb j (.inr hj))
        have hx : convObj ob sel x = convObj ob' sel x ∧ borObj ob sel x = borObj ob' sel x := by
          cases x with
          | cells T cs =>
            have := convSVs_congr h cs (fun j hj => hb j (.inl hj))
            simp [convObj, borObj, this.1, this.2]
          | _ => exact ⟨rfl, rfl⟩
        refine ⟨?_, by rw [ih.2]; exact congrArg (· ++ borObjs ob' sel r) hx.2⟩
        simp only [ih.1]
        cases selObjs ob' sel r (i + 1) with
        | none => rfl
        | some l => exact congrArg (fun y => some ((1000 + i, y) :: l)) hx.1

theorem noneO_congr {ob ob' : Nat → Option TObj} : ∀ (l : List Nat), (∀ k ∈ l, ob k = ob' k) → noneO ob l = noneO ob' l
  | [], _ => rfl
  | k :: r, h => by simp only [noneO, h k (by simp), noneO_congr r fun k hk => h k (by simp [hk])]

/-- A call of a function, run. -/
theorem opRec_call {ops : Array Oper} {i : Nat} {o : Oper} (ho : ops[i]? = some o) {F : FS} (hg : GuardIs ops.toList o F.1 true) {x : Operand} {args : Array Operand} {types : Array TypeId}
    (hop : o.op = .call { callee := .value x, args := args, argTypes := types }) {f : Nat} {caps : List SV} (hx : opnd F.1 x = .fn f caps) (hlt : f < 4096)
    {sel bor : List Nat} {objs objs' : Objs} {r : SV} {d : Nat}
    (hsel : selObjs F.2 sel sel 0 = some objs) (hbor : bor = borSVs F.2 sel (args.toList.map (opnd F.1) ++ caps) ++ borObjs F.2 sel sel)
    (hS : SpecX P f (convSVs F.2 sel (args.toList.map (opnd F.1) ++ caps)) objs r objs') (hok : callOk sel bor d F.2 r objs' = true) :
    OpRec P ops N i F ⟨o.dst, backSV sel d r, backObjs sel d objs', slotsOf ops.toList o, sel ++ bor ++ newNames d objs'⟩ := by
  intro F' h1 h2 dl Q K η G a w H hK
  have hopnd : ∀ y ∈ o.op.operands.toList, opnd F'.1 y = opnd F.1 y := fun y hy => opnd_congr fun t ht => h1 t (slots_op (ht ▸ hy))
  have hops : o.op.operands.toList = x :: args.toList := by rw [hop]; simp [Op.operands, Call.operands]
  have hargs : args.toList.map (opnd F'.1) = args.toList.map (opnd F.1) := List.map_congr_left fun y hy => hopnd y (by rw [hops]; simp [hy])
  have hx' : opnd F'.1 x = .fn f caps := by rw [hopnd x (by rw [hops]; simp)]; exact hx
  have hfr := opnd_rel H x
  rw [hx'] at hfr
  simp only [SVRel] at hfr
  obtain ⟨cvs, hev, hcaps⟩ := hfr
  have hall : SVRels η G w (args.toList.map (opnd F'.1) ++ caps) (args.toList.map a.eval ++ cvs) := by
    have happ : ∀ (l : List Operand), SVRels η G w (l.map (opnd F'.1) ++ caps) (l.map a.eval ++ cvs) := by
      intro l
      induction l with
      | nil => exact hcaps
      | cons y l ih => simp only [List.map_cons, List.cons_append, SVRels]; exact ⟨opnd_rel H y, ih⟩
    exact happ _
  rw [hargs] at hall
  simp only [List.mem_append] at h2
  have hbor2 : ∀ k ∈ bor, F.2 k = F'.2 k := fun k hk => (h2 k (.inl (.inr hk))).symm
  have hc1 := convSVs_congr (sel := sel) hbor2 (args.toList.map (opnd F.1) ++ caps) (fun k hk => by rw [hbor]; exact List.mem_append.2 (.inl hk))
  have hc2 := selObjs_congr (sel := sel) hbor2 sel 0 (fun k hk => (h2 k (.inl (.inl hk))).symm) (fun k hk => by rw [hbor]; exact List.mem_append.2 (.inr hk))
  have hok' : callOk sel bor d F'.2 r objs' = true := by
    unfold callOk at hok ⊢
    rw [noneO_congr (ob := F'.2) (ob' := F.2) _ fun k hk => h2 k (.inr hk)]
    exact hok
  have hcall := call_sound (P := P) (f := f) (d := d) (vs := args.toList.map a.eval ++ cvs) H hall (sel := sel) (bor := bor) (objs := objs) (objs' := objs') (r := r)
    (by rw [← hc2.1]; exact hsel) (by rw [hbor, hc1.2, hc2.2]) (by rw [← hc1.1]; exact hS) hok'
  rw [runs_calls hlt] at hcall
  refine wpOp_of ho (guard_wanted H (hg.congr h1)) ?_
  unfold Oper.wp
  have hrun : (execOp a.eval o).run P w = (callFunc f (⟨args.toList.map a.eval ++ cvs⟩ : Array Value)).run P w := by
    have he : execOp a.eval o = (do let d ← resolve a.eval { callee := .value x, args := args, argTypes := types } o.type; invoke d.target d.args) := by simp only [execOp, hop]
    rw [he]
    simp only [resolve, hev, Deferred.ofValue, pure_bind, invoke]
    congr 2
    apply Array.ext'; simp
  rw [hrun]
  rcases hcall with ⟨h1, h2⟩ | ⟨v, w', h1, η', G', hA⟩
  · rw [h1]
    simp only [Oper.upon]
    refine h2.mono ?_
    rintro e w' ⟨v, rfl, η', G', hA⟩
    exact hK _ _ _ _ (holds_put (dst := o.dst) H hA _ _) hA.ev
  · rw [h1]
    simp only [Oper.upon]
    exact hK _ _ _ _ (holds_put (dst := o.dst) H hA _ _) hA.ev

theorem div_add32 (a b : Nat) (h : b < 32) : (a * 32 + b) / 32 = a ∧ (a * 32 + b) % 32 = b := by omega

theorem raw_exec {o : Oper} {f : Nat} (h : rawF o = some f) {ρ : Operand → Value} {w w' : World} {v : Value} : ∃ s, rawSem f = some s ∧ ((s ⟨o.op.operands.toList.map ρ⟩).run P w = .ok v w' →
    (execOp ρ o).run P w = .ok (.value v) w' ∨ ((execOp ρ o).run P w = .ok .skip w' ∧ v = undef)) := by
  unfold rawF at h
  split at h
  · rename_i T x hop
    cases h
    rw [rawSem_rawC (by omega)]
    refine ⟨_, rfl, fun hr => .inl ?_⟩
    have hr : (Instr.loadAt T (ρ x)).run P w = .ok v w' := by simpa [hop, Op.operands] using hr
    simp [execOp, hop, hr]
  · rename_i T p x hop
    cases h
    rw [rawSem_rawC (by omega)]
    refine ⟨_, rfl, fun hr => .inr ?_⟩
    have hr : (do Instr.storeAt T (ρ p) (ρ x); pure undef : Sem Value).run P w = .ok v w' := by simpa [hop, Op.operands] using hr
    rw [Sem.run_bind] at hr
    cases hs : (Instr.storeAt T (ρ p) (ρ x)).run P w with
    | ok u w1 =>
      rw [hs] at hr
      simp only [Result.andThen_ok] at hr
      cases hr
      exact ⟨by simp [execOp, hop, hs], rfl⟩
    | _ => rw [hs] at hr; cases hr
  · rename_i T x i hop
    cases h
    rw [rawSem_rawC (by omega)]
    refine ⟨_, rfl, fun hr => .inl ?_⟩
    have hr : (Instr.indexAt T (ρ x) (ρ i)).run P w = .ok v w' := by simpa [hop, Op.operands] using hr
    simp [execOp, hop, hr]
  · rename_i args types hop
    split at h
    · rename_i T U x y ht ha
      have ha : args = #[x, y] := by apply Array.ext'; simpa using ha
      have ht : types = #[T, U] := by apply Array.ext'; simpa using ht
      subst ha; subst ht
      cases hc : (eqN T U && eqN o.type T) with
      | false => rw [hc] at h; cases h
      | true =>
        rw [hc] at h
        cases h
        simp only [Bool.and_eq_true] at hc
        have := eqN_eq hc.1
        subst this
        rw [rawSem_rawC (by omega)]
        refine ⟨_, rfl, fun hr => .inl ?_⟩
        have hr : (Builtin.append_ #[T, T] o.type #[ρ x, ρ y]).run P w = .ok v w' := by have h0 := hr; simp [hop, Op.operands, Call.operands] at h0; exact h0
        simp [execOp, hop, resolve, invoke, builtin, hr]
    · cases h
  · rename_i args types hop
    split at h
    · rename_i T x ht ha
      have ha : args = #[x] := by apply Array.ext'; simpa using ha
      have ht : types = #[T] := by apply Array.ext'; simpa using ht
      subst ha; subst ht
      cases hc : eqN o.type 3 with
      | false => rw [hc] at h; cases h
      | true =>
        rw [hc] at h
        cases h
        rw [rawSem_rawC (by omega)]
        refine ⟨_, rfl, fun hr => .inl ?_⟩
        have hr : (Builtin.len_ #[T] o.type #[ρ x]).run P w = .ok v w' := by have h0 := hr; simp [hop, Op.operands, Call.operands] at h0; exact h0
        simp [execOp, hop, resolve, invoke, builtin, hr]
    · cases h
  · rename_i args types hop
    split at h
    · rename_i T x ht ha
      have ha : args = #[x] := by apply Array.ext'; simpa using ha
      have ht : types = #[T] := by apply Array.ext'; simpa using ht
      subst ha; subst ht
      cases hc : eqN o.type 3 with
      | false => rw [hc] at h; cases h
      | true =>
        rw [hc] at h
        cases h
        rw [rawSem_rawC (by omega)]
        refine ⟨_, rfl, fun hr => .inl ?_⟩
        have hr : (Builtin.cap_ #[T] o.type #[ρ x]).run P w = .ok v w' := by have h0 := hr; simp [hop, Op.operands, Call.operands] at h0; exact h0
        simp [execOp, hop, resolve, invoke, builtin, hr]
    · cases h
  · rename_i T x y hop
    cases h
    rw [rawSem_rawC (by omega)]
    refine ⟨_, rfl, fun hr => .inl ?_⟩
    have hr : (Instr.sliceAt T (ρ x) none (some (ρ y)) none).run P w = .ok v w' := by simpa [hop, Op.operands] using hr
    simp [execOp, hop, hr]
  · rename_i T x y hop
    cases h
    rw [rawSem_rawC (by omega)]
    refine ⟨_, rfl, fun hr => .inl ?_⟩
    have hr : (Instr.makeSlice T (ρ x) (ρ y)).run P w = .ok v w' := by simpa [hop, Op.operands] using hr
    simp [execOp, hop, hr]
  · rename_i S x fl hop
    cases hc : ltN fl 32 with
    | false => rw [hc] at h; cases h
    | true =>
      rw [hc] at h
      cases h
      rw [rawSem_rawC (by omega)]
      have hlt : fl < 32 := of_decide_eq_true hc
      refine ⟨_, rfl, fun hr => .inl ?_⟩
      obtain ⟨e1, e2⟩ := div_add32 S fl hlt
      have hr : (Instr.fieldAt S (ρ x) fl).run P w = .ok v w' := by simpa [hop, Op.operands, e1, e2] using hr
      simp [execOp, hop, hr]
  · rename_i x U T hop
    cases hc : eqN U 20 with
    | false => rw [hc] at h; cases h
    | true =>
      rw [hc] at h
      cases h
      have := eqN_eq hc
      subst this
      rw [rawSem_rawC (by omega)]
      refine ⟨_, rfl, fun hr => .inl ?_⟩
      have hr : (Instr.typeAssert (ρ x) 20 T true).run P w = .ok v w' := by simpa [hop, Op.operands] using hr
      simp [execOp, hop, hr]
  · rename_i T x hop
    cases h
    rw [rawSem_rawC (by omega)]
    refine ⟨_, rfl, fun hr => .inl ?_⟩
    have hr : (Instr.makeInterface T (ρ x)).run P w = .ok v w' := by simpa [hop, Op.operands] using hr
    simp [execOp, hop, hr]
  · rename_i T x ok hop
    cases h
    rw [rawSem_rawC (by omega)]
    refine ⟨_, rfl, fun hr => .inl ?_⟩
    have hr : (do eqGuard .neq T (.const .nilIface) (.const .nilIface) (ρ x) (ρ (.const .nilIface)); binOp .neq T (ρ x) (ρ (.const .nilIface)) : Sem Value).run P w = .ok v w' := by simpa [hop, Op.operands] using hr
    have he : eqGuard .neq T x (.const .nilIface) (ρ x) (ρ (.const .nilIface)) = eqGuard .neq T (.const .nilIface) (.const .nilIface) (ρ x) (ρ (.const .nilIface)) := by
      unfold eqGuard
      cases ρ x <;> cases ρ (.const .nilIface) <;> simp
    simp only [execOp, hop, he]
    exact congrArg (fun r => r) (by rw [Sem.run_bind, hr]; rfl)
  · cases h

theorem opRec_raw {ops : Array Oper} {i : Nat} {o : Oper} (ho : ops[i]? = some o) {F : FS} (hg : GuardIs ops.toList o F.1 true) {f : Nat} (hraw : rawF o = some f)
    {sel bor : List Nat} {objs objs' : Objs} {r : SV} {d : Nat}
    (hsel : selObjs F.2 sel sel 0 = some objs) (hbor : bor = borSVs F.2 sel (o.op.operands.toList.map (opnd F.1)) ++ borObjs F.2 sel sel)
    (hS : SpecX P f (convSVs F.2 sel (o.op.operands.toList.map (opnd F.1))) objs r objs') (hok : callOk sel bor d F.2 r objs' = true) :
    OpRec P ops N i F ⟨o.dst, backSV sel d r, backObjs sel d objs', slotsOf ops.toList o, sel ++ bor ++ newNames d objs'⟩ := by
  intro F' h1 h2 dl Q K η G a w H hK
  have hopnd : ∀ y ∈ o.op.operands.toList, opnd F'.1 y = opnd F.1 y := fun y hy => opnd_congr fun t ht => h1 t (slots_op (ht ▸ hy))
  have hargs : o.op.operands.toList.map (opnd F'.1) = o.op.operands.toList.map (opnd F.1) := List.map_congr_left hopnd
  have hall : SVRels η G w (o.op.operands.toList.map (opnd F'.1)) (o.op.operands.toList.map a.eval) := by
    have happ : ∀ (l : List Operand), SVRels η G w (l.map (opnd F'.1)) (l.map a.eval) := by
      intro l
      induction l with
      | nil => simp [SVRels]
      | cons y l ih => simp only [List.map_cons, SVRels]; exact ⟨opnd_rel H y, ih⟩
    exact happ _
  rw [hargs] at hall
  simp only [List.mem_append] at h2
  have hbor2 : ∀ k ∈ bor, F.2 k = F'.2 k := fun k hk => (h2 k (.inl (.inr hk))).symm
  have hc1 := convSVs_congr (sel := sel) hbor2 (o.op.operands.toList.map (opnd F.1)) (fun k hk => by rw [hbor]; exact List.mem_append.2 (.inl hk))
  have hc2 := selObjs_congr (sel := sel) hbor2 sel 0 (fun k hk => (h2 k (.inl (.inl hk))).symm) (fun k hk => by rw [hbor]; exact List.mem_append.2 (.inr hk))
  have hok' : callOk sel bor d F'.2 r objs' = true := by
    unfold callOk at hok ⊢
    rw [noneO_congr (ob := F'.2) (ob' := F.2) _ fun k hk => h2 k (.inr hk)]
    exact hok
  have hcall := call_sound (P := P) (f := f) (d := d) (vs := o.op.operands.toList.map a.eval) H hall (sel := sel) (bor := bor) (objs := objs) (objs' := objs') (r := r)
    (by rw [← hc2.1]; exact hsel) (by rw [hbor, hc1.2, hc2.2]) (by rw [← hc1.1]; exact hS) hok'
  refine wpOp_of ho (guard_wanted H (hg.congr h1)) ?_
  unfold Oper.wp
  unfold RunsX at hcall
  obtain ⟨s, hs, hex⟩ := raw_exec (P := P) hraw (ρ := a.eval) (w := w) (w' := w) (v := undef)
  rw [hs] at hcall
  obtain ⟨v, w', hr, η', G', hA⟩ := hcall
  obtain ⟨s', hs', hex⟩ := raw_exec (P := P) hraw (ρ := a.eval) (w := w) (w' := w') (v := v)
  rw [hs] at hs'
  cases hs'
  rcases hex hr with h | ⟨h, rfl⟩
  · rw [h]
    simp only [Oper.upon]
    exact hK _ _ _ _ (holds_put (dst := o.dst) H hA _ _) hA.ev
  · rw [h]
    simp only [Oper.upon]
    exact hK _ _ _ _ (holds_put (dst := o.dst) H hA _ _) hA.ev

theorem call_step {ops : Array Oper} {i : Nat} {o : Oper} (ho : ops[i]? = some o) {F : FS} (hg : GuardIs ops.toList o F.1 true) {x : Operand} {args : Array Operand} {types : Array TypeId}
    (hop : o.op = .call { callee := .value x, args := args, argTypes := types }) {f : Nat} {caps : List SV} (hx : opnd F.1 x = .fn f caps) (hlt : f < 4096)
    {sel bor : List Nat} {objs : Objs} {X : Type} {objs' : X → Objs} {r : X → SV} {d : Nat} {sl : X → List Nat}
    (hsel : selObjs F.2 sel sel 0 = some objs) (hbor : bor = borSVs F.2 sel (args.toList.map (opnd F.1) ++ caps) ++ borObjs F.2 sel sel)
    (hS : SpecG P f (convSVs F.2 sel (args.toList.map (opnd F.1) ++ caps)) objs X r objs') (hpre : callPre sel bor = true) (hok : ∀ x, callOk sel bor d F.2 (r x) (objs' x) = true)
    {Q : Exit → Act → World → Prop} {K : Act → World → Prop} (H : Holds dl η G N F.1 F.2 a w)
    (hK : ∀ x η' G' a' w', Holds dl η' G' N (FR.app N ⟨o.dst, backSV sel d (r x), backObjs sel d (objs' x), slotsOf ops.toList o, sl x⟩ F).1 (FR.app N ⟨o.dst, backSV sel d (r x), backObjs sel d (objs' x), slotsOf ops.toList o, sl x⟩ F).2 a' w' → Evol η G w η' G' w' → K a' w') :
    wpOp P ops Q i K a w := by
  have hfr := opnd_rel H x
  rw [hx] at hfr
  simp only [SVRel] at hfr
  obtain ⟨cvs, hev, hcaps⟩ := hfr
  have hall : SVRels η G w (args.toList.map (opnd F.1) ++ caps) (args.toList.map a.eval ++ cvs) := by
    have happ : ∀ (l : List Operand), SVRels η G w (l.map (opnd F.1) ++ caps) (l.map a.eval ++ cvs) := by
      intro l
      induction l with
      | nil => exact hcaps
      | cons y l ih => simp only [List.map_cons, List.cons_append, SVRels]; exact ⟨opnd_rel H y, ih⟩
    exact happ _
  have hcall := call_soundG (P := P) (f := f) (d := d) (vs := args.toList.map a.eval ++ cvs) H hall (sel := sel) (bor := bor) (objs := objs) (objs' := objs') (r := r) hsel hbor hS hpre hok
  rw [runs_calls hlt] at hcall
  refine wpOp_of ho (guard_wanted H hg) ?_
  unfold Oper.wp
  have hrun : (execOp a.eval o).run P w = (callFunc f (⟨args.toList.map a.eval ++ cvs⟩ : Array Value)).run P w := by
    have he : execOp a.eval o = (do let d ← resolve a.eval { callee := .value x, args := args, argTypes := types } o.type; invoke d.target d.args) := by simp only [execOp, hop]
    rw [he]
    simp only [resolve, hev, Deferred.ofValue, pure_bind, invoke]
    congr 2
    apply Array.ext'; simp
  rw [hrun]
  rcases hcall with ⟨h1, h2⟩ | ⟨v, w', h1, x, η', G', hA⟩
  · rw [h1]
    simp only [Oper.upon]
    refine h2.mono ?_
    rintro e w' ⟨v, rfl, x, η', G', hA⟩
    exact hK x _ _ _ _ (holds_put (dst := o.dst) H hA _ _) hA.ev
  · rw [h1]
    simp only [Oper.upon]
    exact hK x _ _ _ _ (holds_put (dst := o.dst) H hA _ _) hA.ev

/-- A call that panics. -/
theorem pan_step {ops : Array Oper} {i : Nat} {o : Oper} (ho : ops[i]? = some o) {F : FS} (hg : GuardIs ops.toList o F.1 true) {x : Operand} {args : Array Operand} {types : Array TypeId}
    (hop : o.op = .call { callee := .value x, args := args, argTypes := types }) {f : Nat} {caps : List SV} (hx : opnd F.1 x = .fn f caps)
    {sel bor : List Nat} {objs objs' : Objs} {r : SV} {d : Nat}
    (hsel : selObjs F.2 sel sel 0 = some objs) (hbor : bor = borSVs F.2 sel (args.toList.map (opnd F.1) ++ caps) ++ borObjs F.2 sel sel)
    (hS : SpecX P (rawC 12 f) (convSVs F.2 sel (args.toList.map (opnd F.1) ++ caps)) objs r objs') (hok : callOk sel bor d F.2 r objs' = true)
    {Q : Exit → Act → World → Prop} {K : Act → World → Prop} (H : Holds dl η G N F.1 F.2 a w)
    (hK : ∀ η' G' w', Holds dl η' G' N F.1 (updF F.2 (backObjs sel d objs')) a w' → Evol η G w η' G' w' → Q (.panic panCh) a w') :
    wpOp P ops Q i K a w := by
  have hfr := opnd_rel H x
  rw [hx] at hfr
  simp only [SVRel] at hfr
  obtain ⟨cvs, hev, hcaps⟩ := hfr
  have hall : SVRels η G w (args.toList.map (opnd F.1) ++ caps) (args.toList.map a.eval ++ cvs) := by
    have happ : ∀ (l : List Operand), SVRels η G w (l.map (opnd F.1) ++ caps) (l.map a.eval ++ cvs) := by
      intro l
      induction l with
      | nil => exact hcaps
      | cons y l ih => simp only [List.map_cons, List.cons_append, SVRels]; exact ⟨opnd_rel H y, ih⟩
    exact happ _
  have hcall := call_sound (P := P) (f := rawC 12 f) (d := d) (vs := args.toList.map a.eval ++ cvs) H hall (sel := sel) (bor := bor) (objs := objs) (objs' := objs') (r := r) hsel hbor hS hok
  rw [runs_pans] at hcall
  refine wpOp_of ho (guard_wanted H hg) ?_
  unfold Oper.wp
  have hrun : (execOp a.eval o).run P w = (callFunc f (⟨args.toList.map a.eval ++ cvs⟩ : Array Value)).run P w := by
    have he : execOp a.eval o = (do let d ← resolve a.eval { callee := .value x, args := args, argTypes := types } o.type; invoke d.target d.args) := by simp only [execOp, hop]
    rw [he]
    simp only [resolve, hev, Deferred.ofValue, pure_bind, invoke]
    congr 2
    apply Array.ext'; simp
  rw [hrun, hcall.1]
  simp only [Oper.upon]
  refine hcall.2.mono ?_
  rintro e w' ⟨rfl, η', G', hA⟩
  have h1 := holds_put (dst := none) H hA [] []
  exact hK _ _ _ h1 hA.ev

theorem raw_step {ops : Array Oper} {i : Nat} {o : Oper} (ho : ops[i]? = some o) {F : FS} (hg : GuardIs ops.toList o F.1 true) {f : Nat} (hraw : rawF o = some f)
    {sel bor : List Nat} {objs : Objs} {X : Type} {objs' : X → Objs} {r : X → SV} {d : Nat} {sl : X → List Nat}
    (hsel : selObjs F.2 sel sel 0 = some objs) (hbor : bor = borSVs F.2 sel (o.op.operands.toList.map (opnd F.1)) ++ borObjs F.2 sel sel)
    (hS : SpecG P f (convSVs F.2 sel (o.op.operands.toList.map (opnd F.1))) objs X r objs') (hpre : callPre sel bor = true) (hok : ∀ x, callOk sel bor d F.2 (r x) (objs' x) = true)
    {Q : Exit → Act → World → Prop} {K : Act → World → Prop} (H : Holds dl η G N F.1 F.2 a w)
    (hK : ∀ x η' G' a' w', Holds dl η' G' N (FR.app N ⟨o.dst, backSV sel d (r x), backObjs sel d (objs' x), slotsOf ops.toList o, sl x⟩ F).1 (FR.app N ⟨o.dst, backSV sel d (r x), backObjs sel d (objs' x), slotsOf ops.toList o, sl x⟩ F).2 a' w' → Evol η G w η' G' w' → K a' w') :
    wpOp P ops Q i K a w := by
  have hall : SVRels η G w (o.op.operands.toList.map (opnd F.1)) (o.op.operands.toList.map a.eval) := by
    have happ : ∀ (l : List Operand), SVRels η G w (l.map (opnd F.1)) (l.map a.eval) := by
      intro l
      induction l with
      | nil => simp [SVRels]
      | cons y l ih => simp only [List.map_cons, SVRels]; exact ⟨opnd_rel H y, ih⟩
    exact happ _
  have hcall := call_soundG (P := P) (f := f) (d := d) (vs := o.op.operands.toList.map a.eval) H hall (sel := sel) (bor := bor) (objs := objs) (objs' := objs') (r := r) hsel hbor hS hpre hok
  refine wpOp_of ho (guard_wanted H hg) ?_
  unfold Oper.wp
  unfold RunsX at hcall
  obtain ⟨s, hs, -⟩ := raw_exec (P := P) hraw (ρ := a.eval) (w := w) (w' := w) (v := undef)
  rw [hs] at hcall
  obtain ⟨v, w', hr, x, η', G', hA⟩ := hcall
  obtain ⟨s', hs', hex⟩ := raw_exec (P := P) hraw (ρ := a.eval) (w := w) (w' := w') (v := v)
  rw [hs] at hs'
  cases hs'
  rcases hex hr with h | ⟨h, rfl⟩
  · rw [h]
    simp only [Oper.upon]
    exact hK x _ _ _ _ (holds_put (dst := o.dst) H hA _ _) hA.ev
  · rw [h]
    simp only [Oper.upon]
    exact hK x _ _ _ _ (holds_put (dst := o.dst) H hA _ _) hA.ev
end
end Go.SX

/- SX: regions, second part. -/
namespace Go.SX

theorem nthD_putL {α : Type} (d : α) : ∀ (l : List α) (k : Nat) (x : α) (t : Nat), nthD (putL l k x) t d = if t = k ∧ k < l.length then x else nthD l t d
  | [], k, x, t => by simp [putL, nthD]
  | y :: l, 0, x, 0 => by simp [putL, nthD]
  | y :: l, 0, x, t + 1 => by simp [putL, nthD]
  | y :: l, k + 1, x, 0 => by simp [putL, nthD]
  | y :: l, k + 1, x, t + 1 => by simp [putL, nthD, nthD_putL d l k x t]

theorem putL_length {α : Type} : ∀ (l : List α) (k : Nat) (x : α), (putL l k x).length = l.length
  | [], _, _ => rfl
  | _ :: _, 0, _ => rfl
  | _ :: l, k + 1, x => by simp [putL, putL_length l k x]

theorem lookN_setN {α : Type} (k j : Nat) (x : α) : ∀ l : List (Nat × α), lookN k (setN j x l) = if k = j then some x else lookN k l
  | [] => by
      simp only [setN, lookN]
      by_cases h : k = j
      · subst h; simp [eqN_refl]
      · have : eqN j k = false := by
          cases hb : eqN j k with
          | false => rfl
          | true => exact absurd (eqN_eq hb).symm h
        simp [this, h]
  | (i, y) :: r => by
      simp only [setN]
      cases hb : eqN i j with
      | true =>
        have e := eqN_eq hb
        subst e
        simp only [cond_true, lookN]
        by_cases h : k = i
        · subst h; simp [eqN_refl]
        · have : eqN i k = false := by
            cases hb : eqN i k with
            | false => rfl
            | true => exact absurd (eqN_eq hb).symm h
          simp [this, h]
      | false =>
        simp only [cond_false, lookN, lookN_setN k j x r]
        cases hk : eqN i k with
        | true =>
          have e := eqN_eq hk
          subst e
          have : i ≠ j := eqN_ne hb
          simp [this]
        | false => simp

def fs (st : St) : FS := (getT st, getO st)

theorem getO_upd : ∀ (upd objs : Objs), (fun k => lookN k (updObjs objs upd)) = updF (fun k => lookN k objs) upd
  | [], _ => rfl
  | (j, x) :: r, objs => by
      simp only [updObjs, updF]
      rw [getO_upd r]
      congr 1
      funext k
      exact lookN_setN k j x objs

theorem fs_put (st : St) (upd : Objs) (dst : Option Nat) (sv : SV) (rs rd : List Nat) : fs (putDst ⟨st.tmps, updObjs st.objs upd⟩ dst sv) = FR.app st.tmps.length ⟨dst, sv, upd, rs, rd⟩ (fs st) := by
  cases dst with
  | none => exact Prod.ext rfl (getO_upd upd st.objs)
  | some d =>
    refine Prod.ext ?_ (getO_upd upd st.objs)
    funext t
    exact nthD_putL .any st.tmps d sv t

theorem put_len (st : St) (objs : Objs) (dst : Option Nat) (sv : SV) : (putDst ⟨st.tmps, objs⟩ dst sv).tmps.length = st.tmps.length := by
  cases dst <;> simp [putDst, putL_length]

def Runs (P : Program) (ops : Array Oper) (N : Nat) : Nat → FS → List FR → Prop
  | _, _, [] => True
  | i, F, r :: rs => OpRec P ops N i F r ∧ Runs P ops N (i + 1) (r.app N F) rs

def endF (N : Nat) : FS → List FR → FS
  | F, [] => F
  | F, r :: rs => endF N (r.app N F) rs

def Meta (ops : Array Oper) : Nat → List FR → Prop
  | _, [] => True
  | i, r :: rs => (∃ o, ops[i]? = some o ∧ r.dst = o.dst ∧ r.rs = slotsOf ops.toList o) ∧ Meta ops (i + 1) rs

def trOf : Nat → List FR → List TRec → List TRec
  | _, [], acc => acc
  | i, r :: rs, acc => trOf (i + 1) rs (⟨i, r.rd, namesOf r.upd⟩ :: acc)

section
variable {P : Program} {S : SP} {E : Env}

theorem drop_cons {ops : Array Oper} {i : Nat} {o : Oper} {rest : List Oper} (h : ops.toList.drop i = o :: rest) : ops[i]? = some o ∧ ops.toList.drop (i + 1) = rest := by
  constructor
  · have : (ops.toList.drop i)[0]? = some o := by rw [h]; rfl
    rw [List.getElem?_drop] at this
    simpa using this
  · rw [← List.drop_drop, h]; rfl

theorem KnF.drop {kn : List (Nat × Bool)} {st : St} {objs : Objs} {dst : Option Nat} {sv : SV} (h : KnF kn (getT st)) : KnF (dropK dst kn) (getT (putDst ⟨st.tmps, objs⟩ dst sv)) := by
  intro s b hs
  cases dst with
  | none => exact h s b hs
  | some d =>
    simp only [dropK] at hs
    have hk : ∀ l : List (Nat × Bool), lookN s (l.filter fun p => !eqN p.1 d) = some b → s ≠ d ∧ lookN s l = some b := by
      intro l
      induction l with
      | nil => simp [lookN]
      | cons p l ih =>
        intro hl
        rw [List.filter_cons] at hl
        cases hb : eqN p.1 d with
        | true =>
          have e := eqN_eq hb
          simp [hb] at hl
          obtain ⟨h1, h2⟩ := ih hl
          refine ⟨h1, ?_⟩
          obtain ⟨p1, p2⟩ := p
          simp only [lookN]
          have : eqN p1 s = false := by
            cases hb' : eqN p1 s with
            | false => rfl
            | true => exact absurd ((eqN_eq hb').symm.trans e) h1
          rw [this]; exact h2
        | false =>
          simp [hb] at hl
          obtain ⟨p1, p2⟩ := p
          simp only [lookN] at hl ⊢
          cases hb' : eqN p1 s with
          | true => rw [hb'] at hl; exact ⟨fun e => (by rw [← e, hb'] at hb; cases hb), hl⟩
          | false => rw [hb'] at hl; exact ih hl
    obtain ⟨h1, h2⟩ := hk kn hs
    obtain ⟨e, he, hd⟩ := h s b h2
    refine ⟨e, ?_, hd⟩
    simp only [getT, putDst, nthD_putL]
    rw [if_neg (fun hh => h1 hh.1)]
    exact he

theorem KnF.cons {kn : List (Nat × Bool)} {get : Nat → SV} {s : Nat} {b : Bool} {e : BE} (h : KnF kn get) (hs : get s = .bool e) (he : e.den = b) : KnF ((s, b) :: kn) get := by
  intro t c ht
  simp only [lookN] at ht
  cases hb : eqN s t with
  | true =>
    rw [hb] at ht
    simp only [cond_true, Option.some.injEq] at ht
    rw [← eqN_eq hb, ← ht]
    exact ⟨e, hs, he⟩
  | false => rw [hb] at ht; exact h t c ht

/-- A guard, decided. -/
theorem guard_run {all : List Oper} {st : St} {kn : List (Nat × Bool)} {o : Oper} {yes no : List (Nat × Bool) → Prop} (hkn : KnF kn (getT st)) (h : guardVC all st kn o.guard yes no) :
    ∃ kn', KnF kn' (getT st) ∧ ((GuardIs all o (getT st) true ∧ yes kn') ∨ (GuardIs all o (getT st) false ∧ no kn')) := by
  unfold guardVC at h
  split at h
  · rename_i hg
    exact ⟨kn, hkn, .inl ⟨.inr (.inl ⟨hg, rfl⟩), h⟩⟩
  · rename_i j want hg
    split at h
    · exact h.elim
    · rename_i s hs
      have mk : ∀ (e : BE) (kn' : List (Nat × Bool)), KnF kn' (getT st) → getT st s = .bool e → (bif e.den == want then yes kn' else no kn') →
          ∃ kn', KnF kn' (getT st) ∧ ((GuardIs all o (getT st) true ∧ yes kn') ∨ (GuardIs all o (getT st) false ∧ no kn')) := by
        intro e kn' hk he hh
        cases hv : e.den == want with
        | true => rw [hv] at hh; exact ⟨kn', hk, .inl ⟨.inr (.inr ⟨j, want, s, e, hg, hs, he, hv.symm⟩), hh⟩⟩
        | false => rw [hv] at hh; exact ⟨kn', hk, .inr ⟨.inr (.inr ⟨j, want, s, e, hg, hs, he, hv.symm⟩), hh⟩⟩
      split at h
      · rename_i b hb
        obtain ⟨e, he, hd⟩ := hkn s b hb
        exact mk e kn hkn he (by rw [hd]; exact h)
      · split at h
        · rename_i he
          refine mk .t kn hkn he ?_
          cases want <;> exact h
        · rename_i he
          refine mk .f kn hkn he ?_
          cases want <;> exact h
        · rename_i b he
          cases hb : b () with
          | true =>
            refine mk (.s b) ((s, true) :: kn) (hkn.cons he hb) he ?_
            have := h.1 hb
            simp only [BE.den_s, hb]
            cases want <;> exact this
          | false =>
            refine mk (.s b) ((s, false) :: kn) (hkn.cons he hb) he ?_
            have := h.2 hb
            simp only [BE.den_s, hb]
            cases want <;> exact this
        · rename_i he
          exact ⟨kn, hkn, .inr ⟨.inl ⟨j, want, s, hg, hs, he, rfl⟩, h⟩⟩
        · exact h.elim

theorem exec_run (hE : EOk P E) (hS : ∀ f svs objs r objs', S f svs objs r objs' → SpecX P f svs objs r objs') {ops : Array Oper} {i : Nat} {o : Oper} (ho : ops[i]? = some o) {st : St} {kn : List (Nat × Bool)} {K : SV → Objs → List Nat → Prop}
    (hkn : KnF kn (getT st)) (hg : GuardIs ops.toList o (getT st) true) (h : execVC S E o st kn K) :
    ∃ sv upd rd, OpRec P ops st.tmps.length i (fs st) ⟨o.dst, sv, upd, slotsOf ops.toList o, rd⟩ ∧ K sv upd rd := by
  unfold execVC at h
  split at h
  · rename_i x args types hop
    split at h
    · rename_i f caps hx
      have hlt : f < 4096 := by
        cases hb : ltN f 4096 with
        | true => exact of_decide_eq_true hb
        | false => rw [hb] at h; exact h.elim
      rw [show ltN f 4096 = true from decide_eq_true hlt] at h
      simp only [Bool.not_true, cond_false] at h
      unfold callVC at h
      split at h
      · exact h.elim
      · rename_i objs hsel
        obtain ⟨r, objs', hs, hok, hK⟩ := h.h
        have hspec := hS _ _ _ _ _ hs
        exact ⟨_, _, _, opRec_call (F := fs st) ho hg hop hx hlt hsel rfl hspec hok.h, hK⟩
    · exact h.elim
  · split at h
    · split at h
      · exact h.elim
      · rename_i f hraw
        unfold rawCallVC at h
        split at h
        · exact h.elim
        · rename_i objs hsel
          obtain ⟨r, objs', hs, hok, hK⟩ := h.h
          have hspec := hS _ _ _ _ _ hs
          exact ⟨_, _, _, opRec_raw (F := fs st) ho hg hraw hsel rfl hspec hok.h, hK⟩
    · rename_i sv upd rd hev
      exact ⟨sv, upd, rd, opRec_op (F := fs st) hE ho hkn hg hev trivial, h⟩
    · rename_i sv upd rd p hev
      exact ⟨sv, upd, rd, opRec_op (F := fs st) hE ho hkn hg hev h.1.h, h.2⟩

theorem vcOps_run (hE : EOk P E) (hS : ∀ f svs objs r objs', S f svs objs r objs' → SpecX P f svs objs r objs') {ops : Array Oper} :
    ∀ (rest : List Oper) (i : Nat) (st : St) (kn : List (Nat × Bool)) (tr : List TRec) (K : St → List TRec → Prop), ops.toList.drop i = rest → KnF kn (getT st) →
      vcOps S E ops.toList rest i st kn tr K →
      ∃ (rs : List FR) (st' : St), rs.length = rest.length ∧ Runs P ops st.tmps.length i (fs st) rs ∧ fs st' = endF st.tmps.length (fs st) rs ∧ st'.tmps.length = st.tmps.length ∧ Meta ops i rs ∧ K st' (trOf i rs tr)
  | [], i, st, kn, tr, K, _, _, h => ⟨[], st, rfl, trivial, rfl, rfl, trivial, h⟩
  | o :: rest, i, st, kn, tr, K, hd, hkn, h => by
      obtain ⟨ho, hd'⟩ := drop_cons hd
      simp only [vcOps] at h
      obtain ⟨kn', hkn', ⟨hg, h⟩ | ⟨hg, h⟩⟩ := guard_run hkn h
      · obtain ⟨sv, upd, rd, hrec, h⟩ := exec_run hE hS ho hkn' hg h
        obtain ⟨rs, st', h1, h2, h3, h4, h5, h6⟩ := vcOps_run hE hS rest (i + 1) _ _ _ K hd' (hkn'.drop (objs := updObjs st.objs upd) (dst := o.dst) (sv := sv)) h
        rw [put_len] at h2 h3 h4
        rw [fs_put st upd o.dst sv (slotsOf ops.toList o) rd] at h2 h3
        exact ⟨_ :: rs, st', by simp [h1], ⟨hrec, h2⟩, h3, h4, ⟨⟨o, ho, rfl, rfl⟩, h5⟩, h6⟩
      · obtain ⟨rs, st', h1, h2, h3, h4, h5, h6⟩ := vcOps_run hE hS rest (i + 1) _ _ _ K hd' (hkn'.drop (objs := st.objs) (dst := o.dst) (sv := .tup [])) h
        have hp := fs_put st [] o.dst (.tup []) (slotsOf ops.toList o) []
        have hl := put_len st st.objs o.dst (.tup [])
        simp only [updObjs] at hp
        rw [hl] at h2 h3 h4
        rw [hp] at h2 h3
        exact ⟨_ :: rs, st', by simp [h1], ⟨opRec_skip ho hg, h2⟩, h3, h4, ⟨⟨o, ho, rfl, rfl⟩, h5⟩, h6⟩

/-- The operations in the text's order. -/
theorem runs_text {ops : Array Oper} {N : Nat} {dl : List Deferred} {Q : Exit → Act → World → Prop} : ∀ (rs : List FR) (i : Nat) (F : FS), i + rs.length = ops.size → Runs P ops N i F rs → ∀ (η : OEnv) (G : Nat → Prop) (a : Act) (w : World), Holds dl η G N F.1 F.2 a w →
    (∀ η' G' a' w', Holds dl η' G' N (endF N F rs).1 (endF N F rs).2 a' w' → Evol η G w η' G' w' → Q .normal a' w') → wpOps P ops Q (List.range' i rs.length) a w
  | [], i, F, _, _, η, G, a, w, H, hK => by simpa [wpOps] using hK η G a w H (Evol.refl _ _ _)
  | r :: rs, i, F, hl, hr, η, G, a, w, H, hK => by
      simp only [List.length_cons, List.range'_succ]
      rw [wpOps_cons]
      refine hr.1 F (fun _ _ => rfl) (fun _ _ => rfl) Q _ η G a w H fun η' G' a' w' H' hev => ?_
      exact runs_text rs (i + 1) _ (by simp at hl; omega) hr.2 η' G' a' w' H' fun η'' G'' a'' w'' H'' hev' => hK _ _ _ _ H'' (hev.trans hev')

/-- A region whose order is the text's. -/
theorem vcSeq_run (hE : EOk P E) (hR : ∀ f svs objs X r objs', E.raw f svs objs X r objs' → SpecG P f svs objs X r objs') (hS : ∀ f svs objs r objs', S f svs objs r objs' → SpecX P f svs objs r objs') {ops : Array Oper} {Q : Exit → Act → World → Prop} {dl : List Deferred} :
    ∀ (rest : List Oper) (i : Nat) (st : St) (kn : List (Nat × Bool)) (K KP : St → Prop), ops.toList.drop i = rest → KnF kn (getT st) → vcSeq S E ops.toList rest st kn K KP →
      ∀ (η : OEnv) (G : Nat → Prop) (a : Act) (w : World), Holds dl η G st.tmps.length (getT st) (getO st) a w →
      (∀ st' η' G' a' w', K st' → st'.tmps.length = st.tmps.length → Holds dl η' G' st'.tmps.length (getT st') (getO st') a' w' → Evol η G w η' G' w' → Q .normal a' w') →
      (∀ st' η' G' a' w', KP st' → st'.tmps.length = st.tmps.length → Holds dl η' G' st'.tmps.length (getT st') (getO st') a' w' → Evol η G w η' G' w' → Q (.panic panCh) a' w') → wpOps P ops Q (List.range' i rest.length) a w
  | [], i, st, kn, K, KP, _, _, h, η, G, a, w, H, hK, _ => by simpa [wpOps] using hK st η G a w h rfl H (Evol.refl _ _ _)
  | o :: rest, i, st, kn, K, KP, hd, hkn, h, η, G, a, w, H, hK, hKP => by
      obtain ⟨ho, hd'⟩ := drop_cons hd
      simp only [vcSeq] at h
      simp only [List.length_cons, List.range'_succ]
      rw [wpOps_cons]
      have next : ∀ (sv : SV) (upd : Objs) (kn' : List (Nat × Bool)) (rd : List Nat), KnF kn' (getT st) → vcSeq S E ops.toList rest (putDst ⟨st.tmps, updObjs st.objs upd⟩ o.dst sv) (dropK o.dst kn') K KP →
          ∀ η' G' a' w', Holds dl η' G' st.tmps.length (FR.app st.tmps.length ⟨o.dst, sv, upd, slotsOf ops.toList o, rd⟩ (fs st)).1 (FR.app st.tmps.length ⟨o.dst, sv, upd, slotsOf ops.toList o, rd⟩ (fs st)).2 a' w' → Evol η G w η' G' w' →
          wpOps P ops Q (List.range' (i + 1) rest.length) a' w' := by
        intro sv upd kn' rd hkn' h η' G' a' w' H' hev
        have hp := fs_put st upd o.dst sv (slotsOf ops.toList o) rd
        have hl := put_len st (updObjs st.objs upd) o.dst sv
        refine vcSeq_run hE hR hS rest (i + 1) _ _ K KP hd' (hkn'.drop (objs := updObjs st.objs upd) (dst := o.dst) (sv := sv)) h η' G' a' w' ?_ (fun st' η'' G'' a'' w'' hk hlen H'' hev' => hK st' η'' G'' a'' w'' hk (hlen.trans hl) H'' (hev.trans hev')) fun st' η'' G'' a'' w'' hk hlen H'' hev' => hKP st' η'' G'' a'' w'' hk (hlen.trans hl) H'' (hev.trans hev')
        rw [hl]
        rw [← hp] at H'
        exact H'
      obtain ⟨kn', hkn', ⟨hg, h⟩ | ⟨hg, h⟩⟩ := guard_run hkn h
      · unfold execSeq at h
        split at h
        · rename_i x hop
          split at h
          · rename_i v hx
            obtain ⟨hv, hkp⟩ := h
            have hv := hv.h
            have hfr := opnd_rel H x
            rw [hx] at hfr
            simp only [SVRel] at hfr
            refine wpOp_of ho (guard_wanted H hg) ?_
            unfold Oper.wp
            have hrun : (execOp a.eval o).run P w = .halt (.panic mineV) w := by
              simp only [execOp, hop, hfr, hv]
              rfl
            rw [hrun]
            simp only [Oper.upon]
            exact hKP ⟨st.tmps, updObjs st.objs []⟩ η G a w hkp rfl H (Evol.refl _ _ _)
          · exact h.elim
        · rename_i _ x args types hop
          split at h
          · rename_i f caps hx
            have hlt : f < 4096 := by
              cases hb : ltN f 4096 with
              | true => exact of_decide_eq_true hb
              | false => rw [hb] at h; exact h.elim
            rw [show ltN f 4096 = true from decide_eq_true hlt] at h
            simp only [Bool.not_true, cond_false] at h
            cases hpn : E.pn f with
            | true =>
             rw [hpn] at h
             simp only [cond_true] at h
             rcases h with h | h
             · unfold callVC at h
               split at h
               · exact h.elim
               · rename_i objs hsel
                 obtain ⟨r, objs', hs, hok, hK'⟩ := h.h
                 have hspec := hS _ _ _ _ _ hs
                 exact opRec_call (F := fs st) ho hg hop hx hlt hsel rfl hspec hok.h (fs st) (fun _ _ => rfl) (fun _ _ => rfl) Q _ η G a w H fun η' G' a' w' H' hev => next _ _ kn' _ hkn' hK' η' G' a' w' H' hev
             · unfold panVC at h
               split at h
               · exact h.elim
               · rename_i objs hsel
                 obtain ⟨r, objs', hs, hok, hK'⟩ := h.h
                 have hspec := hS _ _ _ _ _ hs
                 refine pan_step (F := fs st) ho hg hop hx hsel rfl hspec hok.h H fun η' G' w' H' hev => hKP ⟨st.tmps, updObjs st.objs (backObjs _ _ objs')⟩ η' G' a w' hK' rfl ?_ hev
                 have hp := fs_put st (backObjs (selOf (getO st) (E.rw f) (args.toList.map (opnd (getT st)) ++ caps)) (o.dst.getD 0) objs') none .any [] []
                 have e1 : getT ⟨st.tmps, updObjs st.objs (backObjs (selOf (getO st) (E.rw f) (args.toList.map (opnd (getT st)) ++ caps)) (o.dst.getD 0) objs')⟩ = getT st := rfl
                 have e2 := congrArg Prod.snd hp
                 rw [e1]
                 have e2 : getO ⟨st.tmps, updObjs st.objs (backObjs (selOf (getO st) (E.rw f) (args.toList.map (opnd (getT st)) ++ caps)) (o.dst.getD 0) objs')⟩ = updF (getO st) (backObjs (selOf (getO st) (E.rw f) (args.toList.map (opnd (getT st)) ++ caps)) (o.dst.getD 0) objs') := e2
                 rw [e2]
                 exact H'
            | false =>
            rw [hpn] at h
            simp only [cond_false] at h
            cases hgh : E.gh f with
            | true =>
              rw [hgh] at h
              simp only [cond_true] at h
              obtain ⟨ex, h⟩ := h
              split at h
              · exact h.elim
              · rename_i objs hsel
                obtain ⟨X, r, objs', hs, hpre, hy⟩ := h.h
                exact call_step (F := fs st) (sl := fun _ => []) ho hg hop hx hlt hsel rfl (hR _ _ _ _ _ _ hs) hpre.h (fun x => (hy x).1.h) H fun x η' G' a' w' H' hev => next _ _ kn' _ hkn' (hy x).2 η' G' a' w' H' hev
            | false =>
              rw [hgh] at h
              simp only [cond_false] at h
              unfold callVC at h
              split at h
              · exact h.elim
              · rename_i objs hsel
                obtain ⟨r, objs', hs, hok, hK'⟩ := h.h
                have hspec := hS _ _ _ _ _ hs
                exact opRec_call (F := fs st) ho hg hop hx hlt hsel rfl hspec hok.h (fs st) (fun _ _ => rfl) (fun _ _ => rfl) Q _ η G a w H fun η' G' a' w' H' hev => next _ _ kn' _ hkn' hK' η' G' a' w' H' hev
          · exact h.elim
        · split at h
          · split at h
            · exact h.elim
            · rename_i f hraw
              unfold rawVC at h
              split at h
              · exact h.elim
              · rename_i objs hsel
                obtain ⟨X, r, objs', hs, hpre, hx⟩ := h.h
                exact raw_step (F := fs st) (sl := fun _ => []) ho hg hraw hsel rfl (hR _ _ _ _ _ _ hs) hpre.h (fun x => (hx x).1.h) H fun x η' G' a' w' H' hev => next _ _ kn' _ hkn' (hx x).2 η' G' a' w' H' hev
          · rename_i sv upd rd hev
            exact opRec_op (F := fs st) hE ho hkn' hg hev trivial (fs st) (fun _ _ => rfl) (fun _ _ => rfl) Q _ η G a w H fun η' G' a' w' H' hev => next _ _ kn' _ hkn' h η' G' a' w' H' hev
          · rename_i sv upd rd p hev
            exact opRec_op (F := fs st) hE ho hkn' hg hev h.1.h (fs st) (fun _ _ => rfl) (fun _ _ => rfl) Q _ η G a w H fun η' G' a' w' H' hev => next _ _ kn' _ hkn' h.2 η' G' a' w' H' hev
      · exact opRec_skip ho hg (fs st) (fun _ _ => rfl) (fun _ _ => rfl) Q _ η G a w H fun η' G' a' w' H' hev => next (.tup []) [] kn' [] hkn' (by simpa only [updObjs] using h) η' G' a' w' H' hev
end
end Go.SX

