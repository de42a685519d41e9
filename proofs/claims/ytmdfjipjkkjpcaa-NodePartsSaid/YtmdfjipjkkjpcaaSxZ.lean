/- SX: append, maps, conversions. -/
import Derived.Test.YtmdfjipjkkjpcaaSxY
import Derived.Laws.Closers25b
namespace Go.SX
open Go.ChangeMaps

section
variable {P : Program} {E : Env} {η : OEnv} {G : Nat → Prop} {N : Nat} {dl : List Deferred} {get : Nat → SV} {ob : Nat → Option TObj} {a : Act} {w : World}

def noE : OEnv := fun _ => none

theorem appT_of (hE : EOk P E) (w : World) {T e : Nat} {ti te : TI} (h1 : E.ti T = some ti) (h2 : ti.td = .slice e) (h3 : E.ti e = some te) (hw : 0 < te.size) (hb : 0 < te.bytes) : AppT P T e te.size te.bytes := by
  obtain ⟨d, hd, ht⟩ := (hE T ti h1).desc
  rw [h2] at ht
  simp only [TDOk] at ht
  subst ht
  obtain ⟨i, z, hi1, hi2, hi3, hi4, hi5⟩ := (hE e te h3).info
  refine ⟨hd, ⟨i, z, hi1, hi4, ?_, hi2, hi3⟩, hw, hb⟩
  have := SVRels.length (hi5 noE (fun _ => False) w)
  have hz := (hE e te h3).zlen
  simp at this
  omega

theorem sharedCell_ok {z d : DV} {s : SV} {v : Value} (hs : SVRel η G w s v) (h : sharedCell z s = some d) : DVRel w G d v := by
  cases s with
  | int k e => simp only [sharedCell, Option.some.injEq] at h; subst h; simpa [SVRel, DVRel] using hs
  | bool e => simp only [sharedCell, Option.some.injEq] at h; subst h; simpa [SVRel, DVRel] using hs
  | str e => simp only [sharedCell, Option.some.injEq] at h; subst h; simpa [SVRel, DVRel] using hs
  | dat e => simp only [sharedCell, Option.some.injEq] at h; subst h; simpa [SVRel] using hs
  | nil =>
    simp only [SVRel] at hs; subst hs
    cases z <;> simp only [sharedCell, Option.some.injEq] at h <;> first | cases h; done | skip
    · subst h; exact ⟨none, 0, rfl, Nat.le_refl _, by simp⟩
    · subst h; exact ⟨none, 0, rfl, Nat.le_refl _, fun i hi => absurd hi (Nat.not_lt_zero _)⟩
  | _ => simp [sharedCell] at h

theorem sharedCells_ok : ∀ {zs ds : List DV} {cs : List SV} {vs : List Value}, SVRels η G w cs vs → sharedCells zs cs = some ds → ∀ j v, vs[j]? = some v → DVRel w G (nthD ds j (.bool fun _ => false)) v
  | zs, ds, [], [], _, h => by simp
  | zs, ds, [], _ :: _, h, _ => by simp [SVRels] at h
  | zs, ds, c :: cs, [], h, _ => by simp [SVRels] at h
  | zs, ds, c :: cs, v :: vs, hs, h => by
      simp only [SVRels] at hs
      rw [show sharedCells zs (c :: cs) = (match sharedCell (match zs with | z :: _ => z | [] => .bool fun _ => false) c, sharedCells zs.tail cs with
        | some d, some ds => some (d :: ds)
        | _, _ => none) by cases zs <;> rfl] at h
      split at h
      · rename_i d ds' h1 h2
        simp only [Option.some.injEq] at h; subst h
        intro j u hu
        cases j with
        | zero => simp at hu; subst hu; simpa [nthD] using sharedCell_ok hs.1 h1
        | succ j => simpa [nthD] using sharedCells_ok hs.2 h2 j u (by simpa [leN_iff, ltN_iff] using hu)
      · cases h

theorem one_rows {ds : List DV} {vs : List Value} {wd : Nat} (hl : vs.length = wd) (h : ∀ j v, vs[j]? = some v → DVRel w G (nthD ds j (.bool fun _ => false)) v) : Rows 1 wd vs fun q j u => DVRel w G (oneRow ds (fun _ => q) j) u := by
  intro q j hq hj
  have : q = 0 := by omega
  subst this
  have hv : vs[0 * wd + j]? = some vs[j] := by rw [Nat.zero_mul, Nat.zero_add]; exact List.getElem?_eq_getElem (by omega)
  exact ⟨vs[j], hv, h j _ (List.getElem?_eq_getElem (by omega))⟩

theorem sound_append (hE : EOk P E) (H : Holds dl η G N get ob a w) {T U d : Nat} {x y : SV} {vx vy : Value} (hx : SVRel η G w x vx) (hy : SVRel η G w y vy) {sv : SV} {upd : Objs} {rd : List Nat} {obl : Obl}
    (h : evAppend E d ob T x y = .ok sv upd rd obl) (ho : obl.holds) : AppRes P η G w ob T U vx vy sv upd := by
  unfold evAppend at h
  split at h
  · rename_i ti hd hti
    split at h
    · rename_i e htd
      split at h
      · rename_i te hte
        rcases cond_eq h with ⟨hc, h2⟩ | ⟨_, h2⟩
        · replace h := h2
          simp only [Bool.and_eq_true] at hc
          have hsz := eqN_eq hc.1.2
          have hby := eqN_eq hc.2
          have hT := appT_of hE w hti htd hte (by omega) (by omega)
          rw [hsz, hby] at hT
          split at h
          · rename_i ks bs A hb hA
            simp only [OpRes.ok.injEq] at h; obtain ⟨rfl, rfl, _, rfl⟩ := h
            simp only [Obl.holds, lenOk] at ho
            obtain ⟨hown, hbase, hks⟩ := baseB_ok H hx hb
            obtain ⟨p, c, rfl, hp⟩ := addB_ok H hy hA ho.1
            obtain ⟨i, z, hi, hz, hzs, hs1, hs2⟩ := hT.hi
            obtain ⟨v', w', hr, q1, q2, q3, q4, q5, q6, q7⟩ := run_append_sx T U e i z hT.ht hi hz hzs (by omega) (by omega) vx (bs ()).length ((bs ()).map u8v) (by rw [hs1]; exact hown) p (A.bs ()).length c ((A.bs ()).map u8v) hp (by rw [hs1]; simp) (u8v_one _) (by rw [hs2]; exact ho.2)
            rw [hs1] at q6
            have tk := takes_app hbase q1 q2 q3 q4 q5 q6 q7 [] (by simp)
            refine ⟨v', w', _, G, hr, after_take H hd hks tk (fun hM => ?_) (own_rel (o := ⟨v', v'.ownBlock.toList, [], false⟩) (slice_one q6))⟩
            refine ⟨rfl, rfl, ?_⟩
            have e1 : (bs () ++ A.bs ()).length = (bs ()).length + (A.bs ()).length := List.length_append
            rw [e1]
            refine blk_of q6 [] fun cur ht i x hx => ?_
            rw [Nat.mul_one, ← List.map_append] at ht
            have hlt : i < (bs () ++ A.bs ()).length := (List.getElem?_eq_some_iff.1 hx).1
            have : (cur.toList.take ((bs ()).length + (A.bs ()).length))[i]? = some (u8v x) := by rw [ht, List.getElem?_map, hx]; rfl
            rw [List.getElem?_take, if_pos (by omega)] at this
            simpa [u8v] using this
          · cases h
        · replace h := h2
          have hc := (cond_ok h).1
          replace h := (cond_ok h).2
          simp only [Bool.and_eq_true, ltN_iff] at hc
          have hT := appT_of hE w hti htd hte hc.1 hc.2
          split at h
          · cases h
          · rename_i b hb
            have hB := baseA_ok H hx hb
            unfold evAppA at h
            split at h
            · rename_i wd m row
              have hw := eqN_eq (cond_ok h).1
              replace h := (cond_ok h).2
              subst hw
              simp only [SVRel] at hy
              obtain ⟨news, hl, hrd, hrows⟩ := rd_rows hc.1 hy
              exact sound_appS H hT hd hB hl hrd hrows h ho
            · rename_i k
              split at h
              · rename_i T' wd m row hob
                have hw := eqN_eq (cond_ok h).1
                replace h := (cond_ok h).2
                subst hw
                obtain ⟨news, hl, hrd, hrows⟩ := rd_ownS H hob hy
                exact sound_appS H hT hd hB hl hrd hrows h ho
              · cases h
            · rename_i k wd m
              split at h
              · rename_i T' cs hob
                have hw := (cond_ok h).1
                replace h := (cond_ok h).2
                simp only [Bool.and_eq_true] at hw
                have hm := eqN_eq hw.1.2
                have hcl := eqN_eq hw.2
                have hwd := eqN_eq hw.1.1
                subst hm; subst hwd
                obtain ⟨vs, hrd, hs⟩ := rd_csl H hob hy
                have hvl : vs.length = te.size := by rw [SVRels.length hs, hcl]
                have shared : ∀ ds, sharedCells te.dz cs = some ds → appS d e te.size te.bytes [k] (fun _ => 1) (oneRow ds) b = .ok sv upd rd obl → AppRes P η G w ob T U vx vy sv upd := by
                  intro ds hds h
                  exact sound_appS H hT hd hB (m := fun _ => 1) (by simpa [leN_iff, ltN_iff] using hvl) hrd (one_rows hvl (sharedCells_ok hs hds)) h ho
                split at h
                · rename_i ds ks hdeep
                  split at h
                  · split at h
                    · rename_i ds' hds; exact shared _ hds h
                    · cases h
                  · exact sound_appD H hT hd hB hvl hrd hs hdeep h ho
                · split at h
                  · rename_i ds' hds; exact shared _ hds h
                  · cases h
              · cases h
            · cases h
      · cases h
    · cases h
  · cases h

theorem keyOf_mk {kt : TypeId} {k : IntKind} (hk : P.underlying kt = some (.int k)) {x : Int} (h : k.wrap x = x) : keyOf P kt (.int k x) = some (.int k x) := by
  refine Maps.keyOf_int_mk hk ?_
  have := wrap_within k x
  rw [h] at this
  simp [Lit.wf, this.1, this.2]

theorem setI_obj (H : Holds dl η G N get ob a w) {j : Nat} {k : IntKind} {ks : Unit → List Int} {v : Value} (hob : ob j = some (.setI k ks)) (hx : SVRel η G w (.own j) v) :
    ∃ o b es cl, η j = some o ∧ o.dead = false ∧ o.inner = [] ∧ o.val = v ∧ v = .map (some b) ∧ o.main = [b] ∧ w.heap[b]? = some (.map es cl) ∧ (∀ x ∈ ks (), k.wrap x = x) ∧
      es.toList.map (fun e => (e.key, e.val)) = (ks ()).map fun x => (Value.int k x, Value.bool true) := by
  obtain ⟨o, hk, hr⟩ := obj_of H hob
  simp only [ObjRel] at hr
  obtain ⟨hd, hin, b, es, cl, hv, hm, hh, h1, h2⟩ := hr
  simp only [SVRel] at hx
  obtain ⟨o', hk', _, hv'⟩ := hx
  rw [hk] at hk'; cases hk'
  have hv' := hv' hd
  exact ⟨o, b, es, cl, hk, hd, hin, hv'.symm, by rw [hv', hv], hm, hh, h1, h2⟩

theorem keys_of {k : IntKind} {es : List MapEntry} {l : List Int} (h : es.map (fun e => (e.key, e.val)) = l.map fun x => (Value.int k x, Value.bool true)) : ∀ e ∈ es, ∃ x ∈ l, e.key = .int k x ∧ e.val = .bool true := by
  intro e he
  have : (e.key, e.val) ∈ l.map fun x => (Value.int k x, Value.bool true) := h ▸ List.mem_map.2 ⟨e, he, rfl⟩
  obtain ⟨x, hx, h'⟩ := List.mem_map.1 this
  simp only [Prod.mk.injEq] at h'
  exact ⟨x, hx, h'.1.symm, h'.2.symm⟩

theorem keys_have {k : IntKind} {es : List MapEntry} {l : List Int} (h : es.map (fun e => (e.key, e.val)) = l.map fun x => (Value.int k x, Value.bool true)) {x : Int} (hx : x ∈ l) : ∃ e ∈ es, e.key = .int k x := by
  have : (Value.int k x, Value.bool true) ∈ es.map fun e => (e.key, e.val) := h ▸ List.mem_map.2 ⟨x, hx, rfl⟩
  obtain ⟨e, he, h'⟩ := List.mem_map.1 this
  simp only [Prod.mk.injEq] at h'
  exact ⟨e, he, h'.1⟩

theorem sound_lookup (hE : EOk P E) (H : Holds dl η G N get ob a w) {T : Nat} {x y : SV} {vx vy : Value} (hx : SVRel η G w x vx) (hy : SVRel η G w y vy) {sv : SV} {upd : Objs} {rd : List Nat} {obl : Obl}
    (h : evLookup E T ob x y = .ok sv upd rd obl) (ho : obl.holds) : Looks P η G w (Instr.lookup T vx vy false) sv upd := by
  unfold evLookup at h
  split at h
  · rename_i j k e
    split at h
    · rename_i k' ks ti hob hti
      split at h
      · rename_i k'' htd
        have hc := (cond_ok h).1
        replace h := (cond_ok h).2
        simp only [Bool.and_eq_true] at hc
        have := ikeq_eq hc.1
        subst this
        have := ikeq_eq hc.2
        subst this
        simp only [OpRes.ok.injEq] at h; obtain ⟨rfl, rfl, _, rfl⟩ := h
        simp only [Obl.holds, keyObl] at ho
        obtain ⟨o, b, es, cl, hk, hd, hin, hov, rfl, hm, hh, h1, h2⟩ := setI_obj H hob hx
        simp only [SVRel] at hy
        subst hy
        obtain ⟨d', hd', ht⟩ := (hE T ti hti).desc
        rw [htd] at ht
        obtain ⟨kt, et, rfl, hkt, ji, hj1, hj2⟩ := ht
        have K := Maps.int_keyed hkt
        have hkey := keyOf_mk hkt ho
        have hkeys : ∀ e' ∈ es.toList, ∃ l, keyOf P kt e'.key = some l := by
          intro e' he'
          obtain ⟨x, hx, hxk, _⟩ := keys_of h2 e' he'
          exact ⟨_, by rw [hxk]; exact keyOf_mk hkt (h1 x hx)⟩
        have hz : (zeroValue et).run P w = .ok (.bool false) w := by simp [zeroValue, typeInfo, hj1, hj2]
        refine ⟨rfl, ?_⟩
        rcases K.find w hkey es.toList hkeys with ⟨f1, f2⟩ | ⟨i, e0, f1, f2, f3⟩
        · refine ⟨.bool false, by simp [Instr.lookup, run_underlying hd', MapKept.run_getObj_map hh, K.check w _ hkey, f1, hz, Result.andThen], ?_⟩
          simp only [SVRel, BE.den]
          congr 1
          cases hcn : (ks ()).contains e.den with
          | false => rfl
          | true =>
            exfalso
            obtain ⟨e', he', hk'⟩ := keys_have h2 (List.contains_iff_mem.1 hcn)
            exact f2 e' he' hk'
        · have hmem : e0 ∈ es.toList := List.mem_of_getElem? f2
          obtain ⟨x, hx, hxk, hxv⟩ := keys_of h2 e0 hmem
          refine ⟨.bool true, by simp [Instr.lookup, run_underlying hd', MapKept.run_getObj_map hh, K.check w _ hkey, f1, Result.andThen, hxv], ?_⟩
          simp only [SVRel, BE.den]
          congr 1
          rw [f3] at hxk
          simp only [Value.int.injEq, true_and] at hxk
          rw [hxk]
          exact (List.contains_iff_mem.2 hx).symm
      · cases h
    · cases h
  · cases h

theorem sound_makeMap (hE : EOk P E) (H : Holds dl η G N get ob a w) {T d : Nat} {sv : SV} {upd : Objs} {rd : List Nat} {obl : Obl}
    (h : evMakeMap E d ob T = .ok sv upd rd obl) : ∃ v w' η' G', (Instr.makeMap T none).run P w = .ok v w' ∧ After η G w ob sv upd v η' G' w' := by
  unfold evMakeMap at h
  split at h
  · rename_i ti hd hti
    split at h
    · rename_i k htd
      simp only [OpRes.ok.injEq] at h; obtain ⟨rfl, rfl, _, rfl⟩ := h
      have tk : Takes η w [] (w.alloc (.map #[] 0)) ⟨.map (some w.heap.size), [w.heap.size], [], false⟩ :=
        ⟨rfl, rfl, rfl, by simp, fun b hb _ => heap_alloc_old w _ b hb, fun b hb => by simp at hb; subst hb; exact ⟨by simp, .inl (Nat.le_refl _)⟩, by simp⟩
      refine ⟨.map (some w.heap.size), w.alloc (.map #[] 0), _, G, by simp [Instr.makeMap, newObj, Sem.run], after_take H hd (ks := []) (by simp) tk (fun _ => ?_) (own_rel (o := ⟨.map (some w.heap.size), [w.heap.size], [], false⟩) rfl)⟩
      exact ⟨rfl, rfl, _, _, _, rfl, rfl, heap_alloc_new w _, by simp, by simp⟩
    · cases h
  · cases h

/-- An object of one block, changed. -/
theorem after_upd (H : Holds dl η G N get ob a w) {k : Nat} {b : Nat} {o : OInfo} (ho : η k = some o) (hdead : o.dead = false) (hm : o.main = [b]) (hi : o.inner = []) {w' : World}
    (hos : w'.os = w.os) (htp : w'.tape = w.tape) (hou : w'.output = w.output) (hsz : w'.heap.size = w.heap.size) (hother : ∀ c, c ≠ b → w'.heap[c]? = w.heap[c]?) {X : TObj} (hX : Mono η G w η G w' → ObjRel η G w' X o) (v : Value) :
    After η G w ob .any [(k, X)] v η G w' := by
  have hE : Evol η G w η G w' := by
    refine ⟨hos, htp, hou, by omega, fun c _ hn => hother c fun e => hn k o ho (by rw [e, hm]; simp), ?_, fun _ h => h, fun _ h => .inl h, fun k o ho b hb => .inr ⟨k, o, ho, hb⟩⟩
    intro k' o' ho'
    refine ⟨o', ho', fun h => ⟨h, rfl, rfl, fun c hc => ⟨hc, hother c fun e => ?_⟩⟩⟩
    by_cases hk : k' = k
    · subst hk
      rw [ho] at ho'
      cases ho'
      rw [hi] at hc
      cases hc
    · exact H.sp.dj k' o' k o ho' ho hk c (by simp [hc]) (by rw [e, hm]; simp)
  have hM := hE.mono H.sp
  refine ⟨by simp [SVRel], fun k' => ?_, ⟨fun k o ho b hb => ?_, H.sp.dj, H.sp.mi, fun b hb => ?_⟩, hE⟩
  · by_cases hk : k' = k
    · subst hk
      simp only [updF, if_true, ho, ObjOpt]
      exact hX hM
    · simp only [updF, if_neg hk]
      have := H.ob k'
      cases h1 : ob k' with
      | none => cases h2 : η k' with
        | none => trivial
        | some o => rw [h1, h2] at this; exact this.elim
      | some x => cases h2 : η k' with
        | none => rw [h1, h2] at this; exact this.elim
        | some o' => rw [h1, h2] at this; exact ObjRel.mono hM (fun c hc => hother c fun e => H.sp.dj k' o' k o h2 ho hk c hc (by rw [e, hm]; simp)) this
  · have := H.sp.lt k o ho b hb
    exact ⟨by omega, this.2⟩
  · have := H.sp.glt b hb
    omega

theorem set_keys {k : IntKind} {es : List MapEntry} {l : List Int} (h : es.map (fun e => (e.key, e.val)) = l.map fun x => (Value.int k x, Value.bool true)) {i : Nat} {e0 : MapEntry} {x : Int} (h0 : es[i]? = some e0) (hk : e0.key = .int k x) :
    (es.set i { e0 with key := .int k x, val := .bool true }).map (fun e => (e.key, e.val)) = l.map fun x => (Value.int k x, Value.bool true) := by
  rw [← h, List.map_set]
  obtain ⟨y, _, hy, hv⟩ := keys_of h e0 (List.mem_of_getElem? h0)
  have e1 : (Value.int k x, Value.bool true) = (e0.key, e0.val) := by rw [hk, hv]
  rw [e1]
  apply List.ext_getElem?
  intro j
  rw [List.getElem?_set]
  split
  · rename_i hij
    subst hij
    rw [List.getElem?_map, h0]
    have := (List.getElem?_eq_some_iff.1 h0).1
    simp [this]
  · rfl

theorem run_barr (H : Holds dl η G N get ob a w) {k T : Nat} {bs : Unit → List UInt8} {v : Value} (hob : ob k = some (.barr T bs)) (hy : SVRel η G w (.own k) v) : DVRel w (fun _ => True) (.bytes bs) v := by
  obtain ⟨o, hk, hr⟩ := obj_of H hob
  simp only [ObjRel] at hr
  obtain ⟨hd, hin, hq⟩ := hr
  simp only [SVRel] at hy
  obtain ⟨o', hk', _, hv⟩ := hy
  rw [hk] at hk'; cases hk'
  have hv := hv hd
  subst hv
  simp only [DVRel]
  rcases hq with ⟨hv, hn, _⟩ | ⟨b, c, cs, T', hv, hm, hh, ⟨hs, hT⟩, hc, hcm, hQ⟩
  · exact ⟨none, 0, by rw [hv, hn], by omega, fun i x hx => by rw [List.eq_nil_of_length_eq_zero hn] at hx; simp at hx⟩
  · exact ⟨_, c, hv, hc, fun i x hx => ⟨b, 0, rfl, trivial, by rw [cell_cells hh, Nat.zero_add]; exact hQ i x hx⟩⟩

theorem run_convert_marked {P : Program} {w : World} {t e b T n c : Nat} {vs : List Value} (ht : P.underlying t = some (.slice e)) (he : P.underlying e = some (.int .u8)) (hh : w.heap[b]? = some (.cells ⟨vs⟩ T (0, 0))) :
    ∃ w', (convert t t (.slice (some ⟨b, 0, none⟩) n c)).run P w = .ok (.slice (some ⟨b, 0, none⟩) n c) w' ∧ w'.os = w.os ∧ w'.tape = w.tape ∧ w'.output = w.output ∧ w'.heap.size = w.heap.size ∧
      w'.heap[b]? = some (.cells ⟨vs⟩ T (vs.length, vs.length + 1)) ∧ ∀ b', b' ≠ b → w'.heap[b']? = w.heap[b']? := by
  have hsh : w.shape? b = some (T, vs.length) := by unfold World.shape?; rw [hh]; rfl
  refine ⟨w.freeze ⟨b, vs.length, none⟩ 1, ?_, ?_⟩
  · simp [convert, run_underlying ht, run_underlying he, markStringish, hsh]
  · have hlt : b < w.heap.size := by
      have := Array.getElem?_eq_some_iff.1 hh
      exact this.1
    unfold World.freeze
    rw [if_neg (by decide)]
    refine ⟨rfl, rfl, rfl, by simp, ?_, fun b' hb' => ?_⟩
    · simp [Array.getElem?_modify, hh]
    · simp [Array.getElem?_modify, Ne.symm hb']

theorem u8List_length : ∀ (l : List IE), (u8List l).length = l.length
  | [] => rfl
  | _ :: l => by simp [u8List, u8List_length l]

theorem sound_conv (hE : EOk P E) (H : Holds dl η G N get ob a w) {d src dst : Nat} {x : SV} {v : Value} (hx : SVRel η G w x v) {sv : SV} {upd : Objs} {rd : List Nat} {obl : Obl}
    (h : evConv E d ob src dst x = .ok sv upd rd obl) (ho : obl.holds) : ∃ v' w' η' G', (convert src dst v).run P w = .ok v' w' ∧ After η G w ob sv upd v' η' G' w' := by
  unfold evConv at h
  split at h
  · rename_i k
    split at h
    · rename_i T bs hob
      have hc := (cond_ok h).1
      replace h := (cond_ok h).2
      simp only [Bool.and_eq_true] at hc
      simp only [OpRes.ok.injEq] at h; obtain ⟨rfl, rfl, _, rfl⟩ := h
      exact ⟨_, w, η, G, run_bytes_str (isBytes_run hE hc.1) (isStr_run hE hc.2) (run_barr H hob hx), After.pure H (by simp only [SVRel])⟩
    · cases h
  · rename_i k bs
    have hc := (cond_ok h).1
    replace h := (cond_ok h).2
    simp only [Bool.and_eq_true] at hc
    simp only [OpRes.ok.injEq] at h; obtain ⟨rfl, rfl, _, rfl⟩ := h
    simp only [SVRel] at hx
    obtain ⟨o, hk, _, hv⟩ := hx
    exact ⟨_, w, η, G, run_bytes_str (isBytes_run hE hc.1.1) (isStr_run hE hc.1.2) (hv (alive_of H hc.2 hk)), After.pure H (by simp only [SVRel])⟩
  · rename_i k wd n
    split at h
    · rename_i T cs hd hob
      split at h
      · rename_i l hl
        have hc := (cond_ok h).1
        replace h := (cond_ok h).2
        simp only [Bool.and_eq_true] at hc
        obtain ⟨hB, hsd, hw1, hnl⟩ := hc
        have hsd := eqN_eq hsd
        subst hsd
        have hnl := eqN_eq hnl
        simp only [OpRes.ok.injEq] at h; obtain ⟨rfl, rfl, _, rfl⟩ := h
        simp only [Obl.holds] at ho
        obtain ⟨hu, hln⟩ := ho
        obtain ⟨o, hk, hr⟩ := obj_of H hob
        have hr' := hr
        simp only [ObjRel] at hr'
        obtain ⟨hdead, hin, b, vs, hm, hh, hs⟩ := hr'
        simp only [SVRel] at hx
        obtain ⟨o', hk', _, hv⟩ := hx
        rw [hk] at hk'; cases hk'
        obtain ⟨b', hm', rfl⟩ := hv hdead
        rw [hm] at hm'; cases hm'
        have hvs := u8s_ok hl hu hs
        have hvl : vs.length = n := by rw [hvs, List.length_map, u8List_length, hnl]
        obtain ⟨e, he1, he2⟩ := isBytes_run hE hB
        obtain ⟨w', hrun, h1, h2, h3, h4, h5, h6⟩ := run_convert_marked (n := n) (c := n) he1 he2 hh
        have hlt : b < w.heap.size := (H.sp.lt k o hk b (by simp [hm])).1
        have tk : Takes η w [k] w' ⟨.slice (some ⟨b, 0, none⟩) n n, [b], [], false⟩ := by
          refine ⟨h1, h2, h3, by omega, fun b' hb' hn => h6 b' ?_, fun b' hb' => ?_, by simp⟩
          · intro e; subst e
            exact hn k (by simp) o hk (by simp [hm])
          · simp at hb'; subst hb'
            exact ⟨by omega, .inr ⟨k, by simp, o, hk, by simp [hm]⟩⟩
        refine ⟨_, _, _, G, hrun, after_take H hd (ks := [k]) (by simp [hob]) tk (fun _ => ?_) (own_rel (o := ⟨.slice (some ⟨b, 0, none⟩) n n, [b], [], false⟩) rfl)⟩
        refine ⟨rfl, rfl, .inr ⟨b, n, _, (T, _), by rw [u8List_length, ← hnl], rfl, h5, ⟨by simp [hvl], .inl rfl⟩, by rw [u8List_length, ← hnl]; exact Nat.le_refl _, ?_, fun i x hx => ?_⟩⟩
        · simp only [lenOk] at hln; simp only [maxLen]; omega
        · have : vs[i]? = some (u8v x) := by rw [hvs, List.getElem?_map, hx]; rfl
          simpa [u8v] using this
      · cases h
    · cases h
  · rcases cond_eq h with ⟨hc, h2⟩ | ⟨hc, h2⟩
    · replace h := h2
      unfold evToBytes at h
      split at h
      · rename_i bs si hd hsi _ _ _
        have hb := (cond_ok h).1
        replace h := (cond_ok h).2
        simp only [OpRes.ok.injEq] at h; obtain ⟨rfl, rfl, _, rfl⟩ := h
        simp only [SVRel] at hx
        subst hx
        obtain ⟨ds, hds, _⟩ := (hE src si hsi).desc
        obtain ⟨e, hdd, hde⟩ := isBytes_run hE hb
        have hr := Lib.run_convert_string_bytes (P := P) w src dst e ⟨(bs ()).toArray⟩ hds hdd hde
        have hsz : (⟨(bs ()).toArray⟩ : ByteArray).size = (bs ()).length := by simp [ByteArray.size]
        rw [hsz] at hr
        simp only [Obl.holds, lenOk] at ho
        have hbig : grownCap w (bs ()).length 0 e ≤ maxLen := grownCap_le_maxLen w _ 0 e (by simp only [maxLen]; omega)
        · have tk : Takes η w [] (Lib.bytesWorld w e ⟨(bs ()).toArray⟩) ⟨.slice (some ⟨w.heap.size, 0, none⟩) (bs ()).length (grownCap w (bs ()).length 0 e), [w.heap.size], [], false⟩ :=
            ⟨rfl, rfl, rfl, by rw [Lib.bytesWorld_size]; omega, fun b hb _ => Lib.bytesWorld_at_old w e _ b hb, fun b hb => by simp at hb; subst hb; exact ⟨by rw [Lib.bytesWorld_size]; omega, .inl (Nat.le_refl _)⟩, by simp⟩
          refine ⟨_, _, _, G, hr, after_take H hd (ks := []) (by simp) tk (fun _ => ?_) (own_rel (o := ⟨.slice (some ⟨w.heap.size, 0, none⟩) (bs ()).length (grownCap w (bs ()).length 0 e), [w.heap.size], [], false⟩) rfl)⟩
          refine ⟨rfl, rfl, .inr ⟨w.heap.size, _, _, (e, _), rfl, rfl, Lib.bytesWorld_at_new w e _, ⟨?_, .inl rfl⟩, grownCap_ge w _ 0 e, hbig, fun i x hx => ?_⟩⟩
          · have := grownCap_ge w (bs ()).length 0 e
            simp only [Lib.bytesCells, Array.size_append, Array.size_map, List.size_toArray, Array.size_replicate, hsz]
            omega
          · have hlt : i < (bs ()).length := (List.getElem?_eq_some_iff.1 hx).1
            have hsz' : (Array.map (fun b : UInt8 => Value.int .u8 (b.toNat : Int)) (bs ()).toArray).size = (bs ()).length := by simp
            simp only [Lib.bytesCells]
            rw [Array.getElem?_append_left (by simpa [leN_iff, ltN_iff] using hlt), Array.getElem?_map]
            simp [hx]
      · cases h
    · obtain ⟨rfl, v', hr, hs⟩ := sound_convert hE hx h2
      exact ⟨v', w, η, G, hr, After.pure H hs⟩

theorem sound_mapUpdate (hE : EOk P E) (H : Holds dl η G N get ob a w) {T : Nat} {x y z : SV} {vx vy vz : Value} (hx : SVRel η G w x vx) (hy : SVRel η G w y vy) (hz : SVRel η G w z vz) {sv : SV} {upd : Objs} {rd : List Nat} {obl : Obl}
    (h : evMapUpdate E T ob x y z = .ok sv upd rd obl) (ho : obl.holds) : ∃ w' η' G', (Instr.mapUpdate T vx vy vz).run P w = .ok () w' ∧ After η G w ob sv upd undef η' G' w' := by
  unfold evMapUpdate at h
  split at h
  · rename_i j k e
    split at h
    · rename_i k' ks ti hob hti
      split at h
      · rename_i k'' htd
        have hc := (cond_ok h).1
        replace h := (cond_ok h).2
        simp only [Bool.and_eq_true] at hc
        have := ikeq_eq hc.1
        subst this
        have := ikeq_eq hc.2
        subst this
        simp only [OpRes.ok.injEq] at h; obtain ⟨rfl, rfl, _, rfl⟩ := h
        simp only [Obl.holds, keyObl] at ho
        obtain ⟨o, b, es, cl, hk, hd, hin, hov, rfl, hm, hh, h1, h2⟩ := setI_obj H hob hx
        simp only [SVRel, BE.den] at hy hz
        subst hy; subst hz
        obtain ⟨d', hd', ht⟩ := (hE T ti hti).desc
        rw [htd] at ht
        obtain ⟨kt, et, rfl, hkt, ji, hj1, hj2⟩ := ht
        have K := Maps.int_keyed hkt
        have hkey := keyOf_mk hkt ho
        have hkeys : ∀ e' ∈ es.toList, ∃ l, keyOf P kt e'.key = some l := by
          intro e' he'
          obtain ⟨x, hx, hxk, _⟩ := keys_of h2 e' he'
          exact ⟨_, by rw [hxk]; exact keyOf_mk hkt (h1 x hx)⟩
        have hlt : b < w.heap.size := (Array.getElem?_eq_some_iff.1 hh).1
        have other : ∀ (O : Obj) (c : Nat), c ≠ b → (setBlock w b O).heap[c]? = w.heap[c]? := fun O c hc => by simp [setBlock, Array.getElem?_setIfInBounds, Ne.symm hc]
        have here : ∀ (O : Obj), (setBlock w b O).heap[b]? = some O := fun O => by simp [setBlock, Array.getElem?_setIfInBounds, hlt]
        have fin : ∀ (es' : Array MapEntry) (cl' : Nat), es'.toList.map (fun e => (e.key, e.val)) = (putKey (ks ()) e.den).map (fun x => (Value.int k x, Value.bool true)) →
            After η G w ob .any [(j, .setI k fun _ => putKey (ks ()) e.den)] undef η G (setBlock w b (.map es' cl')) := by
          intro es' cl' hes
          refine after_upd (w' := setBlock w b (.map es' cl')) H hk hd hm hin rfl rfl rfl (by simp [setBlock]) (other _) (fun _ => ?_) _
          refine ⟨hd, hin, b, _, _, hov, hm, here _, fun x hx => ?_, hes⟩
          unfold putKey at hx
          cases hcn : (ks ()).contains e.den with
          | true => rw [hcn] at hx; exact h1 x hx
          | false =>
            rw [hcn] at hx
            simp only [cond_false, List.mem_append, List.mem_singleton] at hx
            rcases hx with hx | rfl
            · exact h1 x hx
            · exact ho
        rcases K.find w hkey es.toList hkeys with ⟨f1, f2⟩ | ⟨i, e0, f1, f2, f3⟩
        · have hnot : (ks ()).contains e.den = false := by
            cases hcn : (ks ()).contains e.den with
            | false => rfl
            | true =>
              obtain ⟨e', he', hk'⟩ := keys_have h2 (List.contains_iff_mem.1 hcn)
              exact absurd hk' (f2 e' he')
          refine ⟨setBlock w b (.map (es.push ⟨.int k e.den, .bool true, cl⟩) (cl + 1)), η, G, by simp [Instr.mapUpdate, run_underlying hd', MapKept.run_getObj_map hh, K.check w false hkey, f1, MapKept.run_setObj_map _ hh, Result.andThen, setBlock], fin _ _ ?_⟩
          have hput : putKey (ks ()) e.den = ks () ++ [e.den] := by unfold putKey; rw [hnot]; rfl
          rw [hput, Array.toList_push, List.map_append, List.map_append, h2]
          rfl
        · have hj : es[i]? = some e0 := by simpa using f2
          have hyes : (ks ()).contains e.den = true := by
            obtain ⟨x, hx, hxk, hxv⟩ := keys_of h2 e0 (List.mem_of_getElem? f2)
            rw [f3] at hxk
            simp only [Value.int.injEq, true_and] at hxk
            rw [hxk]
            exact List.contains_iff_mem.2 hx
          refine ⟨setBlock w b (.map (es.modify i (fun e' => { e' with key := .int k e.den, val := .bool true })) cl), η, G, by simp [Instr.mapUpdate, run_underlying hd', MapKept.run_getObj_map hh, K.check w false hkey, f1, hj, f3, K.stays w hkey, MapKept.run_setObj_map _ hh, Result.andThen, setBlock], fin _ _ ?_⟩
          have hput : putKey (ks ()) e.den = ks () := by unfold putKey; rw [hyes]; rfl
          rw [hput, Array.toList_modify, modify_eq_set _ _ _ _ f2]
          exact set_keys h2 f2 f3
      · cases h
    · cases h
  · cases h
end
end Go.SX
