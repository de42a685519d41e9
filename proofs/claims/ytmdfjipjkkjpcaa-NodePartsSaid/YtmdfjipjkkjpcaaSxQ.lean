/- SX: regions, fourth part: the check of a region's edges; the region's rule. -/
import Derived.Test.YtmdfjipjkkjpcaaSxP
namespace Go.SX

theorem anyIn_iff : ∀ {l m : List Nat}, anyIn l m = true ↔ ∃ x ∈ l, x ∈ m
  | [], m => by simp [anyIn]
  | y :: l, m => by simp [anyIn, memN_iff, anyIn_iff (l := l)]

theorem optIn_iff {d : Option Nat} {l : List Nat} : optIn d l = true ↔ ∃ x, d = some x ∧ x ∈ l := by
  cases d <;> simp [optIn, memN_iff]

theorem optEq_iff {d e : Option Nat} : optEq d e = true ↔ ∃ x, d = some x ∧ e = some x := by
  cases d with
  | none => simp [optEq]
  | some x => cases e with
    | none => simp [optEq]
    | some y =>
      simp only [optEq, Option.some.injEq]
      exact ⟨fun h => ⟨x, rfl, (eqN_eq h).symm⟩, fun ⟨z, h1, h2⟩ => by rw [h1, h2]; exact eqN_refl z⟩

def entOf (M : List Nat) (i : Nat) (r : FR) : Ent := ⟨i, r.dst, r.rs, r.rd, namesOf r.upd, nthD M i 0⟩

def entList (M : List Nat) : Nat → List FR → List Ent
  | _, [] => []
  | i, r :: rs => entOf M i r :: entList M (i + 1) rs

def trList : Nat → List FR → List TRec
  | _, [] => []
  | i, r :: rs => ⟨i, r.rd, namesOf r.upd⟩ :: trList (i + 1) rs

theorem revT_eq : ∀ (l acc : List TRec), revT l acc = l.reverse ++ acc
  | [], acc => rfl
  | t :: r, acc => by simp [revT, revT_eq r]

theorem trOf_eq : ∀ (rs : List FR) (i : Nat) (acc : List TRec), trOf i rs acc = (trList i rs).reverse ++ acc
  | [], i, acc => rfl
  | r :: rs, i, acc => by simp [trOf, trList, trOf_eq rs]

theorem ents_eq {ops : Array Oper} {M : List Nat} : ∀ (rs : List FR) (i : Nat), i + rs.length = ops.size → Meta ops i rs → entsOf ops.toList M (ops.toList.drop i) i (trList i rs) = entList M i rs
  | [], i, hl, _ => by
      have : ops.toList.drop i = [] := List.drop_eq_nil_of_le (by simp at hl ⊢; omega)
      rw [this]; rfl
  | r :: rs, i, hl, hm => by
      obtain ⟨⟨o, ho, h1, h2⟩, hm'⟩ := hm
      have hlt : i < ops.toList.length := by simp at hl ⊢; omega
      have hdr : ops.toList.drop i = o :: ops.toList.drop (i + 1) := by
        rw [List.drop_eq_getElem_cons hlt]
        congr 1
        have : ops.toList[i]? = some o := by simpa [leN_iff, ltN_iff] using ho
        rw [List.getElem?_eq_getElem hlt] at this
        simpa using this
      rw [hdr]
      simp only [trList, entsOf, entList, entOf, h1, h2]
      rw [ents_eq rs (i + 1) (by simp at hl; omega) hm']

theorem entList_at {M : List Nat} : ∀ (rs : List FR) (i m : Nat) (r : FR), rs[m]? = some r → (entList M i rs)[m]? = some (entOf M (i + m) r)
  | [], _, m, _, h => by simp at h
  | x :: rs, i, 0, r, h => by simp at h; subst h; rfl
  | x :: rs, i, m + 1, r, h => by
      simp only [entList, List.getElem?_cons_succ]
      rw [entList_at rs (i + 1) m r (by simpa [leN_iff, ltN_iff] using h)]
      congr 2; omega

theorem chkOne_spec {e : Ent} : ∀ {l : List Ent}, chkOne e l = true → ∀ p ∈ l, confl p e = true → Nat.testBit e.mask p.i = true
  | [], _, p, hp, _ => by cases hp
  | x :: l, h, p, hp, hc => by
      simp only [chkOne, Bool.and_eq_true, Bool.or_eq_true, Bool.not_eq_true'] at h
      rcases List.mem_cons.1 hp with rfl | hp
      · exact h.1.resolve_left (by rw [hc]; simp)
      · exact chkOne_spec h.2 p hp hc

theorem chkPairs_spec : ∀ (l prev : List Ent), chkPairs prev l = true → ∀ (j : Nat) (e : Ent), l[j]? = some e → ∀ p, (p ∈ prev ∨ ∃ i, i < j ∧ l[i]? = some p) → confl p e = true → Nat.testBit e.mask p.i = true
  | [], _, _, j, e, h, _, _, _ => by simp at h
  | x :: l, prev, h, 0, e, he, p, hp, hc => by
      simp only [chkPairs, Bool.and_eq_true] at h
      simp only [List.getElem?_cons_zero, Option.some.injEq] at he
      subst he
      rcases hp with hp | ⟨i, hi, _⟩
      · exact chkOne_spec h.1 p hp hc
      · omega
  | x :: l, prev, h, j + 1, e, he, p, hp, hc => by
      simp only [chkPairs, Bool.and_eq_true] at h
      refine chkPairs_spec l (x :: prev) h.2 j e (by simpa [leN_iff, ltN_iff] using he) p ?_ hc
      rcases hp with hp | ⟨i, hi, hpi⟩
      · exact .inl (by simp [hp])
      · cases i with
        | zero => simp at hpi; exact .inl (by simp [hpi])
        | succ i => exact .inr ⟨i, by omega, by simpa [leN_iff, ltN_iff] using hpi⟩

theorem edgesOk_spec {i : Nat} : ∀ {l : List Edge}, edgesOk i l = true → ∀ e ∈ l, Region.binds .any e = true → e.on < i
  | [], _, e, h, _ => by cases h
  | x :: l, h, e, he, hb => by
      simp only [edgesOk, Bool.and_eq_true, Bool.or_eq_true, Bool.not_eq_true'] at h
      rcases List.mem_cons.1 he with rfl | he
      · have := h.1.resolve_left (by rw [hb]; simp)
        simpa [ltN_iff] using this
      · exact edgesOk_spec h.2 e he hb

theorem allEdgesOk_spec : ∀ {l : List Oper} {s : Nat}, allEdgesOk l s = true → ∀ (i : Nat) (o : Oper), l[i]? = some o → ∀ e ∈ o.after, Region.binds .any e = true → e.on < s + i
  | [], _, _, i, o, h, _, _, _ => by simp at h
  | x :: l, s, h, 0, o, ho, e, he, hb => by
      simp only [allEdgesOk, Bool.and_eq_true] at h
      simp only [List.getElem?_cons_zero, Option.some.injEq] at ho
      subst ho
      exact edgesOk_spec h.1 e (by simpa [leN_iff, ltN_iff] using he) hb
  | x :: l, s, h, i + 1, o, ho, e, he, hb => by
      simp only [allEdgesOk, Bool.and_eq_true] at h
      have := allEdgesOk_spec h.2 i o (by simpa [leN_iff, ltN_iff] using ho) e he hb
      omega

theorem maskOf_spec {M : List Nat} {x : Nat} : ∀ {l : List Edge}, Nat.testBit (maskOf M l) x = true → ∃ e ∈ l, Region.binds .any e = true ∧ (e.on = x ∨ Nat.testBit (nthD M e.on 0) x = true)
  | [], h => by simp [maskOf] at h
  | e :: l, h => by
      simp only [maskOf] at h
      cases hb : Region.binds .any e with
      | false =>
        rw [hb] at h
        obtain ⟨e', h1, h2, h3⟩ := maskOf_spec h
        exact ⟨e', by simp [h1], h2, h3⟩
      | true =>
        rw [hb] at h
        simp only [cond_true, Nat.testBit_or, Bool.or_eq_true, Nat.testBit_two_pow] at h
        rcases h with h | h | h
        · exact ⟨e, by simp, hb, .inl (by simpa [leN_iff, ltN_iff] using h)⟩
        · exact ⟨e, by simp, hb, .inr h⟩
        · obtain ⟨e', h1, h2, h3⟩ := maskOf_spec h
          exact ⟨e', by simp [h1], h2, h3⟩

theorem masksOf_len : ∀ (l : List Oper) (acc : List Nat), (masksOf l acc).length = acc.length + l.length
  | [], acc => rfl
  | o :: r, acc => by simp [masksOf, masksOf_len r]; omega

theorem masksOf_pre : ∀ (l : List Oper) (acc : List Nat) (i : Nat), i < acc.length → nthD (masksOf l acc) i 0 = nthD acc i 0
  | [], acc, i, _ => rfl
  | o :: r, acc, i, h => by
      simp only [masksOf]
      rw [masksOf_pre r _ i (by simp; omega), nthD_append]
      simp [h]

theorem maskOf_congr {M M' : List Nat} : ∀ {l : List Edge}, (∀ e ∈ l, Region.binds .any e = true → nthD M e.on 0 = nthD M' e.on 0) → maskOf M l = maskOf M' l
  | [], _ => rfl
  | e :: l, h => by
      simp only [maskOf]
      rw [maskOf_congr (l := l) fun e he => h e (by simp [he])]
      cases hb : Region.binds .any e with
      | false => rfl
      | true => simp only [cond_true]; rw [h e (by simp) hb]

theorem masksOf_at : ∀ (l : List Oper) (acc : List Nat), (∀ (i : Nat) (o : Oper), l[i]? = some o → ∀ e ∈ o.after, Region.binds .any e = true → e.on < acc.length + i) →
    ∀ (i : Nat) (o : Oper), l[i]? = some o → nthD (masksOf l acc) (acc.length + i) 0 = maskOf (masksOf l acc) o.after.toList
  | [], _, _, i, o, h => by simp at h
  | x :: l, acc, he, 0, o, ho => by
      simp only [List.getElem?_cons_zero, Option.some.injEq] at ho
      subst ho
      simp only [masksOf, Nat.add_zero]
      rw [masksOf_pre l _ acc.length (by simp), nthD_append, if_neg (Nat.lt_irrefl _)]
      simp only [Nat.sub_self, nthD]
      refine maskOf_congr fun e hem hb => ?_
      have := he 0 x rfl e (by simpa [leN_iff, ltN_iff] using hem) hb
      simp only [Nat.add_zero] at this
      rw [masksOf_pre l _ e.on (by simp; omega), nthD_append, if_pos this]
  | x :: l, acc, he, i + 1, o, ho => by
      simp only [masksOf]
      have := masksOf_at l (acc ++ [maskOf acc x.after.toList]) (fun i o ho e hem hb => by
        have := he (i + 1) o (by simpa [leN_iff, ltN_iff] using ho) e hem hb
        simp; omega) i o (by simpa [leN_iff, ltN_iff] using ho)
      simp only [List.length_append, List.length_cons, List.length_nil] at this
      rw [show acc.length + (i + 1) = acc.length + (0 + 1) + i by omega]
      exact this

theorem drawOk_of_check {ops : Array Oper} {rs : List FR} (hl : rs.length = ops.size) (hm : Meta ops 0 rs) (h : checkDraw ops.toList (trOf 0 rs []) = true) :
    DrawOk ops rs fun i j => Nat.testBit (nthD (masksOf ops.toList []) j 0) i = true := by
  simp only [checkDraw, Bool.and_eq_true] at h
  obtain ⟨h1, h2⟩ := h
  rw [trOf_eq, revT_eq] at h2
  simp only [List.append_nil, List.reverse_reverse] at h2
  have he := ents_eq (M := masksOf ops.toList []) rs 0 (by omega) hm
  simp only [List.drop_zero] at he
  rw [he] at h2
  have hon : ∀ i o, ops[i]? = some o → ∀ e ∈ o.after, Region.binds .any e = true → e.on < i := by
    intro i o ho e hem hb
    have := allEdgesOk_spec h1 i o (by simpa [leN_iff, ltN_iff] using ho) e hem hb
    omega
  have hpair : ∀ i j p q, i < j → rs[i]? = some p → rs[j]? = some q → confl (entOf (masksOf ops.toList []) i p) (entOf (masksOf ops.toList []) j q) = true → Nat.testBit (nthD (masksOf ops.toList []) j 0) i = true := by
    intro i j p q hij hp hq hc
    have e1 := entList_at (M := masksOf ops.toList []) rs 0 i p hp
    have e2 := entList_at (M := masksOf ops.toList []) rs 0 j q hq
    rw [Nat.zero_add] at e1 e2
    exact chkPairs_spec _ _ h2 j _ e2 _ (.inr ⟨i, hij, e1⟩) hc
  refine ⟨hl, hon, ?_, ?_, ?_, ?_, ?_, ?_⟩
  · intro i j hpre
    cases ho : ops[j]? with
    | none =>
      exfalso
      have hj : ops.size ≤ j := by
        rcases Nat.lt_or_ge j ops.size with h | h
        · rw [Array.getElem?_eq_getElem h] at ho; cases ho
        · exact h
      have : nthD (masksOf ops.toList []) j 0 = 0 := by
        have hlen := masksOf_len ops.toList []
        have : ∀ (l : List Nat) (j : Nat), l.length ≤ j → nthD l j 0 = 0 := by
          intro l
          induction l with
          | nil => intro j _; rfl
          | cons x l ih => intro j hj; cases j with
            | zero => simp at hj
            | succ j => simpa [nthD] using ih j (by simpa [leN_iff, ltN_iff] using hj)
        exact this _ _ (by rw [hlen]; simpa using hj)
      rw [this] at hpre
      simp at hpre
    | some o =>
      have hat := masksOf_at ops.toList [] (fun i o ho e hem hb => by simpa [leN_iff, ltN_iff] using hon i o (by simpa [leN_iff, ltN_iff] using ho) e hem hb) j o (by simpa [leN_iff, ltN_iff] using ho)
      simp only [List.length_nil, Nat.zero_add] at hat
      rw [hat] at hpre
      obtain ⟨e, h1, h2, h3⟩ := maskOf_spec hpre
      exact ⟨o, e, rfl, by simpa [leN_iff, ltN_iff] using h1, h2, h3⟩
  · intro i j p q t hij hp hq hd hr
    exact hpair i j p q hij hp hq (by simp only [confl, entOf, Bool.or_eq_true]; exact .inl (optIn_iff.2 ⟨t, hd, hr⟩))
  · intro i j p q t hij hp hq hd hr
    exact hpair i j p q hij hp hq (by simp only [confl, entOf, Bool.or_eq_true]; exact .inr (.inl (optIn_iff.2 ⟨t, hd, hr⟩)))
  · intro i j p q t hij hp hq hd hr
    exact hpair i j p q hij hp hq (by simp only [confl, entOf, Bool.or_eq_true]; exact .inr (.inr (.inl (optEq_iff.2 ⟨t, hd, hr⟩))))
  · intro i j p q k hij hp hq hd hr
    exact hpair i j p q hij hp hq (by simp only [confl, entOf, Bool.or_eq_true]; exact .inr (.inr (.inr (.inl (anyIn_iff.2 ⟨k, hd, by simpa [leN_iff, ltN_iff] using hr⟩)))))
  · intro i j p q k hij hp hq hd hr
    exact hpair i j p q hij hp hq (by simp only [confl, entOf, Bool.or_eq_true]; exact .inr (.inr (.inr (.inr (anyIn_iff.2 ⟨k, hd, by simpa [leN_iff, ltN_iff] using hr⟩)))))

section
variable {P : Program} {S : SP} {E : Env}

theorem Holds.drew {dl : List Deferred} {η : OEnv} {G : Nat → Prop} {N : Nat} {get : Nat → SV} {ob : Nat → Option TObj} {a : Act} {w : World} (H : Holds dl η G N get ob a w) :
    Holds dl η G N get ob a { w with drawn := w.drawn + 1 } := by
  have hM : Mono η G w η G { w with drawn := w.drawn + 1 } := ⟨fun _ h => h, fun _ _ => rfl, fun k o ho => ⟨o, ho, fun hd => ⟨hd, rfl, rfl, fun b hb => ⟨hb, rfl⟩⟩⟩⟩
  refine ⟨H.sz, H.df, fun t => SVRel.mono hM _ _ (H.tm t), fun k => ?_, ⟨H.sp.lt, H.sp.dj, H.sp.mi, H.sp.glt⟩⟩
  have := H.ob k
  cases h1 : ob k with
  | none => cases h2 : η k with
    | none => trivial
    | some o => rw [h1, h2] at this; exact this.elim
  | some x => cases h2 : η k with
    | none => rw [h1, h2] at this; exact this.elim
    | some o => rw [h1, h2] at this; exact ObjRel.mono hM (fun _ _ => rfl) this

theorem Evol.drew {η : OEnv} {G : Nat → Prop} {w : World} : Evol η G w η G { w with drawn := w.drawn + 1 } :=
  ⟨rfl, rfl, rfl, Nat.le_refl _, fun _ _ _ => rfl, fun _ o ho => ⟨o, ho, fun hd => ⟨hd, rfl, rfl, fun _ hb => ⟨hb, rfl⟩⟩⟩, fun _ h => h, fun _ h => .inl h, fun k o ho b hb => .inr ⟨k, o, ho, hb⟩⟩

/-- The region's rule. -/
theorem region_sound (hE : EOk P E) (hmix : P.follows .mixedOrders = true) (hS : ∀ f svs objs r objs', S f svs objs r objs' → SpecX P f svs objs r objs') {id : Nat} {ops : Array Oper} {draw : Bool} {st : St} {K : St → Prop}
    (h : vcOps S E ops.toList ops.toList 0 st [] [] fun st' tr => bif draw then (Hold fun _ => checkDraw ops.toList tr = true) ∧ K st' else K st')
    {Q : Exit → Act → World → Prop} {dl : List Deferred} {η : OEnv} {G : Nat → Prop} {a : Act} {w : World} (H : Holds dl η G st.tmps.length (getT st) (getO st) a w)
    (hK : ∀ st' η' G' a' w', K st' → st'.tmps.length = st.tmps.length → Holds dl η' G' st'.tmps.length (getT st') (getO st') a' w' → Evol η G w η' G' w' → Q .normal a' w') :
    (Code.region id ops draw).wp P Q a w := by
  obtain ⟨rs, st', h1, h2, h3, h4, h5, h6⟩ := vcOps_run hE hS ops.toList 0 st [] [] _ (by simp) (by intro s b hs; simp [lookN] at hs) h
  have hl : rs.length = ops.size := by simpa [leN_iff, ltN_iff] using h1
  cases draw with
  | false =>
    simp only [cond_false] at h6
    refine wp_region ?_
    have := runs_text (Q := Q) rs 0 (fs st) (by omega) h2 η G a w H fun η' G' a' w' H' hev => by
      rw [← h3] at H'
      exact hK st' η' G' a' w' h6 h4 (by rw [h4]; exact H') hev
    rw [hl] at this
    rw [List.range_eq_range']
    exact this
  | true =>
    simp only [cond_true] at h6
    refine wp_region_any hmix ?_
    refine draw_go (dl := dl) (drawOk_of_check hl h5 h6.1.h) h2 ops.size (List.range ops.size) _ a _ η G List.nodup_range (by simp) (by simp) (fun i hi => ?_) (fun j o ho hj => ?_) ?_ fun η' G' a' w' H' hev => ?_
    · simp [Array.getD_eq_getD_getElem?, hi]
    · exfalso
      simp only [Array.getD_eq_getD_getElem?, Array.getElem?_replicate] at hj
      split at hj <;> simp at hj
    · have hst : stD st.tmps.length (fun i => (Array.replicate ops.size false).getD i false) 0 (fs st) rs = fs st := by
        have : (fun i => (Array.replicate ops.size false).getD i false) = fun _ => false := by
          funext i
          simp only [Array.getD_eq_getD_getElem?, Array.getElem?_replicate]
          split <;> rfl
        rw [this]
        exact stD_none rs 0 (fs st)
      rw [hst]
      exact H.drew
    · rw [← h3] at H'
      exact hK st' η' G' a' w' h6.2 h4 (by rw [h4]; exact H') (Evol.drew.trans hev)
end
end Go.SX
