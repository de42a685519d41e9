/- SX: calls, third part: the call's rule. -/
import Derived.Test.YtmdfjipjkkjpcaaSxL
namespace Go.SX

section
variable {P : Program} {η : OEnv} {G : Nat → Prop} {N : Nat} {dl : List Deferred} {get : Nat → SV} {ob : Nat → Option TObj} {a : Act} {w : World}

theorem conv_obj (H : Holds dl η G N get ob a w) {sel bor : List Nat} {x : TObj} {o : OInfo} (hb : ∀ k ∈ borObj ob sel x, k ∈ bor) (h : ObjRel η G w x o) :
    ObjRel (inE η sel) (inG η G bor) w (convObj ob sel x) o := by
  cases x with
  | cells T cs =>
    simp only [convObj, ObjRel] at h ⊢
    obtain ⟨h1, h2, b, vs, h3, h4, h5⟩ := h
    exact ⟨h1, h2, b, vs, h3, h4, convSVs_rel H cs vs (by simpa only [borObj] using hb) h5⟩
  | arrS T wd n row =>
    simp only [convObj, ObjRel] at h ⊢
    obtain ⟨h1, h2, h3⟩ := h
    refine ⟨h1, h2, ?_⟩
    rcases h3 with h | ⟨b, c, cs, T', r1, r2, r3, r4, r5, r6, r7⟩
    · exact .inl h
    · exact .inr ⟨b, c, cs, T', r1, r2, r3, r4, r5, r6, fun i j hi hj => by obtain ⟨u, hu, hd⟩ := r7 i j hi hj; exact ⟨u, hu, DVRel.mono (fun b hb => .inl hb) (fun _ _ => rfl) _ _ hd⟩⟩
  | barr T bs => simpa only [convObj, ObjRel] using h
  | arrD T wd n row => simpa only [convObj, ObjRel] using h
  | setI k ks => simpa only [convObj, ObjRel] using h
  | dead => simpa only [convObj, ObjRel] using h

theorem call_sound (H : Holds dl η G N get ob a w) {f d : Nat} {svs : List SV} {vs : List Value} (hs : SVRels η G w svs vs) {sel bor : List Nat} {objs objs' : Objs} {r : SV}
    (hsel : selObjs ob sel sel 0 = some objs) (hbor : bor = borSVs ob sel svs ++ borObjs ob sel sel) (hS : SpecX P f (convSVs ob sel svs) objs r objs') (hok : callOk sel bor d ob r objs' = true) :
    CallsX P f ⟨vs⟩ w fun v w' => ∃ η' G', After η G w ob (backSV sel d r) (backObjs sel d objs') v η' G' w' := by
  simp only [callOk, Bool.and_eq_true, Bool.or_eq_true] at hok
  obtain ⟨⟨hlen, hnd⟩, hap, hin, hnames, hall, hfree, hnone⟩ := hok
  have hlen : sel.length < 900 := by simpa [ltN_iff] using hlen
  have hnd := nodupB_iff hnd
  have hnames := nodupB_iff hnames
  obtain ⟨hs1, hs2⟩ := sel_some hsel
  simp only [Nat.add_zero] at hs2
  -- the callee's side
  have hη : ∀ k ∈ sel, ∃ o, η k = some o := by
    intro k hk
    obtain ⟨x, hx⟩ := hs1 k hk
    obtain ⟨o, ho, _⟩ := obj_of H hx
    exact ⟨o, ho⟩
  have hsep : Sep (inE η sel) (inG η G bor) w := by
    refine ⟨?_, ?_, ?_, ?_⟩
    · intro k o ho b hb
      obtain ⟨i, rfl, hi, ho⟩ := inE_some ho
      refine ⟨(H.sp.lt _ _ ho b hb).1, ?_⟩
      rintro (hg | ⟨k', hk', o', ho', hb'⟩)
      · exact (H.sp.lt _ _ ho b hb).2 hg
      · exact H.sp.dj _ _ _ _ ho ho' (fun e => apartB_spec hap k' hk' (e ▸ nthD_mem hi)) b hb hb'
    · intro k o k' o' ho ho' hne b hb
      obtain ⟨i, rfl, hi, ho⟩ := inE_some ho
      obtain ⟨j, rfl, hj, ho'⟩ := inE_some ho'
      refine H.sp.dj _ _ _ _ ho ho' (fun e => hne ?_) b hb
      have e1 := posOf_nth (s := 0) hnd hi
      have e2 := posOf_nth (s := 0) hnd hj
      rw [e, e2] at e1
      simp only [Option.some.injEq] at e1
      omega
    · intro k o ho
      obtain ⟨i, rfl, hi, ho⟩ := inE_some ho
      exact H.sp.mi _ _ ho
    · rintro b (hg | ⟨k', hk', o', ho', hb'⟩)
      · exact H.sp.glt b hg
      · exact (H.sp.lt _ _ ho' b hb').1
  have hobj : ∀ k, ObjOpt (inE η sel) (inG η G bor) w (lookN k objs) (inE η sel k) := by
    intro k
    rw [hs2 k]
    unfold inE
    by_cases hk : 1000 ≤ k ∧ k < 1000 + sel.length
    · rw [if_pos hk, if_pos hk]
      have hi : k - 1000 < sel.length := by omega
      obtain ⟨x, hx⟩ := hs1 _ (nthD_mem hi)
      obtain ⟨o, ho, hr⟩ := obj_of H hx
      rw [hx, ho]
      exact conv_obj H (fun j hj => by rw [hbor]; exact List.mem_append.2 (.inr (bor_obj (nthD_mem hi) hx j hj))) hr
    · rw [if_neg hk, if_neg hk]
      trivial
  have hsv := convSVs_rel (sel := sel) (bor := bor) H svs vs (fun k hk => by rw [hbor]; exact List.mem_append.2 (.inl hk)) hs
  refine (hS (inE η sel) (inG η G bor) vs w hsep hobj hsv).mono ?_
  rintro v w' ⟨η', G', hr, hob', hsp', hev⟩
  -- names
  have hname : ∀ j x, (j, x) ∈ objs' → invN sel d (backN sel d j) = some j := by
    intro j x hx
    rcases namesIn_spec hin j x hx with ⟨h1, h2⟩ | ⟨h1, h2, h3⟩
    · have hbn : backN sel d j = 3000 + d * 100 + (j - 2000) := by unfold backN; rw [leN_of h1]; rfl
      have hno := noneO_spec hnone _ (new_mem (d := d) hx h1)
      have hns : 3000 + d * 100 + (j - 2000) ∉ sel := fun hm => by
        obtain ⟨y, hy⟩ := hs1 _ hm
        rw [hno] at hy; cases hy
      unfold invN
      rw [hbn, posOf_none.2 hns]
      simp only []
      rw [if_pos ⟨by omega, by omega⟩]
      simp only [Option.some.injEq]; omega
    · have hbn : backN sel d j = nthD sel (j - 1000) 0 := by
        unfold backN
        have : leN 2000 j = false := by
          cases hb : leN 2000 j with
          | false => rfl
          | true => have := leN_le hb; omega
        rw [this]; rfl
      unfold invN
      rw [hbn, posOf_nth hnd (by omega)]
      simp only []
      simp only [Option.some.injEq]; omega
  have hlook : ∀ k, lookN k (backObjs sel d objs') = match invN sel d k with | some j => (lookN j objs').map (backObj sel d) | none => none := fun k => look_back hlen k objs' hname
  have hupd : ∀ k, updF ob (backObjs sel d objs') k = match lookN k (backObjs sel d objs') with | some x => some x | none => ob k := updF_nodup _ (names_back_nodup objs' hnames hname)
  -- the callee's objects among the caller's
  have hE : ∀ j o, η' j = some o → outE η η' sel d (backN sel d j) = some o := by
    intro j o ho
    have := hob' j
    rw [ho] at this
    cases hl : lookN j objs' with
    | none => rw [hl] at this; exact this.elim
    | some x =>
      unfold outE
      rw [hname j x (lookN_mem hl)]
      simp only [ho]
  -- an object of the caller's: the callee's, or an old one that the callee has not had
  have hcases : ∀ k o, outE η η' sel d k = some o → (∃ j, invN sel d k = some j ∧ η' j = some o) ∨ (η k = some o ∧ k ∉ sel ∧ updF ob (backObjs sel d objs') k = ob k) := by
    intro k o ho
    unfold outE at ho
    cases hi : invN sel d k with
    | none =>
      rw [hi] at ho
      refine .inr ⟨ho, fun hm => ?_, by rw [hupd, hlook, hi]⟩
      unfold invN at hi
      cases hp : posOf k sel 0 with
      | none => exact posOf_none.1 hp hm
      | some i => rw [hp] at hi; cases hi
    | some j =>
      rw [hi] at ho
      simp only [] at ho
      cases hj : η' j with
      | some o' => rw [hj] at ho; cases ho; exact .inl ⟨j, rfl, hj⟩
      | none =>
        rw [hj] at ho
        have hl : lookN j objs' = none := by
          have := hob' j
          rw [hj] at this
          cases hl : lookN j objs' with
          | none => rfl
          | some x => rw [hl] at this; exact this.elim
        refine .inr ⟨ho, fun hm => ?_, by rw [hupd, hlook, hi]; simp only [hl]; rfl⟩
        unfold invN at hi
        cases hp : posOf k sel 0 with
        | none => exact posOf_none.1 hp hm
        | some i =>
          rw [hp] at hi
          simp only [Option.some.injEq] at hi
          obtain ⟨i', h1, h2, h3⟩ := posOf_spec hp
          simp only [Nat.zero_add] at h1; subst h1
          obtain ⟨x, hx⟩ := hasAll_spec hall i h2
          rw [hi, hl] at hx; cases hx
  have hblkc : ∀ j o b, η' j = some o → b ∈ o.main ++ o.inner → w.heap.size ≤ b ∨ ∃ k ∈ sel, ∃ o, η k = some o ∧ b ∈ o.main ++ o.inner := by
    intro j o b ho hb
    rcases hev.blk j o ho b hb with h | ⟨k₀, o₀, h₀, hb₀⟩
    · exact .inl h
    · obtain ⟨i, rfl, hi, ho⟩ := inE_some h₀
      exact .inr ⟨_, nthD_mem hi, o₀, ho, hb₀⟩
  -- what the caller has and the callee has not is as it was
  have hold : ∀ k o, η k = some o → k ∉ sel → ∀ b ∈ o.main ++ o.inner, w'.heap[b]? = w.heap[b]? := by
    intro k o ho hk b hb
    refine hev.keep b (H.sp.lt k o ho b hb).1 fun k' o' ho' hb' => ?_
    obtain ⟨i, rfl, hi, ho'⟩ := inE_some ho'
    exact H.sp.dj k o _ o' ho ho' (fun e => hk (e ▸ nthD_mem hi)) b hb hb'
  have hselobj : ∀ k o, η k = some o → k ∈ sel → ∃ j o', invN sel d k = some j ∧ η' j = some o' ∧
      (o'.dead = false → o.dead = false ∧ o'.val = o.val ∧ o'.main = o.main ∧ ∀ b ∈ o.inner, b ∈ o'.inner ∧ w'.heap[b]? = w.heap[b]?) := by
    intro k o ho hk
    cases hp : posOf k sel 0 with
    | none => exact absurd hk (posOf_none.1 hp)
    | some i =>
      have he := inE_pos (η := η) hp
      obtain ⟨o', ho', hh⟩ := hev.obj (1000 + i) o (he.trans ho)
      exact ⟨1000 + i, o', by unfold invN; rw [hp], ho', hh⟩
  -- the shared data
  have hG' : ∀ b, G b → G' b := fun b hb => hev.g b (.inl hb)
  obtain ⟨Gn, hGn1, hGn2, hGn3⟩ : ∃ Gn : Nat → Prop, (∀ b, G b → Gn b) ∧ (∀ b, Gn b → G' b ∧ (G b ∨ bor = [])) ∧ ((∀ b, G' b → Gn b) ∨ (datFree r = true ∧ allFreeO objs' = true)) := by
    by_cases hb : bor = []
    · exact ⟨G', hG', fun b h => ⟨h, .inr hb⟩, .inl fun _ h => h⟩
    · refine ⟨G, fun _ h => h, fun b h => ⟨hG' b h, .inl h⟩, .inr ?_⟩
      rcases hfree with h | h
      · cases bor with
        | nil => exact absurd rfl hb
        | cons x l => cases h
      · simpa using h
  have hGold : ∀ b, Gn b → G b ∨ w.heap.size ≤ b ∨ ∃ k ∈ sel, ∃ o, η k = some o ∧ b ∈ o.main ++ o.inner := by
    intro b hb
    obtain ⟨h1, h2 | h2⟩ := hGn2 b hb
    · exact .inl h2
    · rcases hev.g' b h1 with h | h | ⟨k, o, ho, hb⟩
      · rcases h with h | ⟨k, hk, _⟩
        · exact .inl h
        · rw [h2] at hk; cases hk
      · exact .inr (.inl h)
      · obtain ⟨i, rfl, hi, ho⟩ := inE_some ho
        exact .inr (.inr ⟨_, nthD_mem hi, o, ho, hb⟩)
  have hEv : Evol η G w (outE η η' sel d) Gn w' := by
    refine ⟨hev.os, hev.tape, hev.out, hev.size, ?_, ?_, hGn1, ?_, ?_⟩
    · intro b hb hn
      refine hev.keep b hb fun k o ho hm => ?_
      obtain ⟨i, rfl, hi, ho⟩ := inE_some ho
      exact hn _ o ho hm
    · intro k o ho
      by_cases hk : k ∈ sel
      · obtain ⟨j, o', h1, h2, h3⟩ := hselobj k o ho hk
        exact ⟨o', by unfold outE; rw [h1]; simp only [h2], h3⟩
      · have hsame : outE η η' sel d k = some o := by
          unfold outE
          cases hi : invN sel d k with
          | none => exact ho
          | some j =>
            simp only []
            cases hj : η' j with
            | none => exact ho
            | some o' =>
              exfalso
              have := hob' j
              rw [hj] at this
              cases hl : lookN j objs' with
              | none => rw [hl] at this; exact this.elim
              | some x =>
                have hx := lookN_mem hl
                have hbk := inv_back hlen hi
                rcases namesIn_spec hin j x hx with ⟨h1, h2⟩ | ⟨h1, h2, h3⟩
                · have hno := noneO_spec hnone _ (new_mem (d := d) hx h1)
                  have hbn : backN sel d j = 3000 + d * 100 + (j - 2000) := by unfold backN; rw [leN_of h1]; rfl
                  rw [← hbn, hbk] at hno
                  rw [none_of H hno] at ho; cases ho
                · have hbn : backN sel d j = nthD sel (j - 1000) 0 := by
                    unfold backN
                    have : leN 2000 j = false := by
                      cases hb : leN 2000 j with
                      | false => rfl
                      | true => have := leN_le hb; omega
                    rw [this]; rfl
                  exact hk (by rw [← hbk, hbn]; exact nthD_mem (by omega))
        exact ⟨o, hsame, fun hd => ⟨hd, rfl, rfl, fun b hb => ⟨hb, hold k o ho hk b (by simp [hb])⟩⟩⟩
    · intro b hb
      rcases hGold b hb with h | h | ⟨k, _, o, ho, hb⟩
      · exact .inl h
      · exact .inr (.inl h)
      · exact .inr (.inr ⟨k, o, ho, hb⟩)
    · intro k o ho b hb
      rcases hcases k o ho with ⟨j, _, hj⟩ | ⟨hk, _, _⟩
      · rcases hblkc j o b hj hb with h | ⟨k, _, o, ho, hb⟩
        · exact .inl h
        · exact .inr ⟨k, o, ho, hb⟩
      · exact .inr ⟨k, o, hk, hb⟩
  have hM := hEv.mono H.sp
  refine ⟨outE η η' sel d, Gn, ⟨backSV_rel hE r v (hGn3.elim .inr fun h => .inl h.1) hr, fun k => ?_, ⟨?_, ?_, ?_, ?_⟩, hEv⟩⟩
  · cases ho : outE η η' sel d k with
    | some o =>
      rcases hcases k o ho with ⟨j, hi, hj⟩ | ⟨hk, hns, hu⟩
      · have := hob' j
        rw [hj] at this
        cases hl : lookN j objs' with
        | none => rw [hl] at this; exact this.elim
        | some x =>
          rw [hl] at this
          rw [hupd, hlook, hi]
          simp only [hl, Option.map_some]
          exact backObj_rel hE (hGn3.elim .inr fun h => .inl (allFree_spec h.2 j x (lookN_mem hl))) this
      · rw [hu]
        have := H.ob k
        rw [hk] at this
        cases hx : ob k with
        | none => rw [hx] at this; exact this.elim
        | some x => rw [hx] at this; exact ObjRel.mono hM (hold k o hk hns) this
    | none =>
      have hk : η k = none := by
        cases hk : η k with
        | none => rfl
        | some o =>
          obtain ⟨o', ho', _⟩ := hEv.obj k o hk
          rw [ho] at ho'; cases ho'
      have hob0 : ob k = none := by
        have := H.ob k
        rw [hk] at this
        cases hx : ob k with
        | none => rfl
        | some x => rw [hx] at this; exact this.elim
      rw [hupd, hlook]
      cases hi : invN sel d k with
      | none => simp only []; rw [hob0]; trivial
      | some j =>
        have hj : η' j = none := by
          unfold outE at ho
          rw [hi] at ho
          simp only [] at ho
          cases hj : η' j with
          | none => rfl
          | some o => rw [hj] at ho; cases ho
        have := hob' j
        rw [hj] at this
        cases hl : lookN j objs' with
        | none => simp only [hl, Option.map_none]; rw [hob0]; trivial
        | some x => rw [hl] at this; exact this.elim
  · intro k o ho b hb
    rcases hcases k o ho with ⟨j, _, hj⟩ | ⟨hk, hns, _⟩
    · exact ⟨(hsp'.lt j o hj b hb).1, fun hg => (hsp'.lt j o hj b hb).2 (hGn2 b hg).1⟩
    · have := H.sp.lt k o hk b hb
      refine ⟨Nat.lt_of_lt_of_le this.1 hev.size, fun hg => ?_⟩
      rcases hGold b hg with h | h | ⟨k', hk', o', ho', hb'⟩
      · exact this.2 h
      · omega
      · exact H.sp.dj k o k' o' hk ho' (fun e => hns (e ▸ hk')) b hb hb'
  · intro k o k' o' ho ho' hne b hb hb'
    rcases hcases k o ho with ⟨j, hi, hj⟩ | ⟨hk, hns, _⟩ <;> rcases hcases k' o' ho' with ⟨j', hi', hj'⟩ | ⟨hk', hns', _⟩
    · exact hsp'.dj j o j' o' hj hj' (fun e => hne (by rw [← inv_back hlen hi, ← inv_back hlen hi', e])) b hb hb'
    · rcases hblkc j o b hj hb with h | ⟨k₀, h₀, o₀, ho₀, hb₀⟩
      · have := (H.sp.lt k' o' hk' b hb').1; omega
      · exact H.sp.dj k' o' k₀ o₀ hk' ho₀ (fun e => hns' (e ▸ h₀)) b hb' hb₀
    · rcases hblkc j' o' b hj' hb' with h | ⟨k₀, h₀, o₀, ho₀, hb₀⟩
      · have := (H.sp.lt k o hk b hb).1; omega
      · exact H.sp.dj k o k₀ o₀ hk ho₀ (fun e => hns (e ▸ h₀)) b hb hb₀
    · exact H.sp.dj k o k' o' hk hk' hne b hb hb'
  · intro k o ho
    rcases hcases k o ho with ⟨j, _, hj⟩ | ⟨hk, _, _⟩
    · exact hsp'.mi j o hj
    · exact H.sp.mi k o hk
  · intro b hb
    exact hsp'.glt b (hGn2 b hb).1
end
end Go.SX
