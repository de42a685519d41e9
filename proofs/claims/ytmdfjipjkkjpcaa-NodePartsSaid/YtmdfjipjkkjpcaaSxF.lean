/- SX, sixth part: loads, stores, fields, what is built, conversions. -/
import Derived.Test.YtmdfjipjkkjpcaaSxE
namespace Go.SX

section
variable {P : Program} {E : Env} {η : OEnv} {G : Nat → Prop} {N : Nat} {dl : List Deferred} {get : Nat → SV} {ob : Nat → Option TObj} {a : Act} {w : World}

theorem run_loadVar_agg {T : Nat} {ti : TI} (hT : TIOk P E T ti) (hag : ti.td.isAgg = true) (b o : Nat) (us : List Value) (hl : us.length = ti.size)
    (h : ∀ j v, us[j]? = some v → w.cell? ⟨b, o + j, none⟩ = some v) : (loadVar T ⟨b, o, none⟩).run P w = .ok (.agg ⟨us⟩) w := by
  have h1 := run_loadCells_list (P := P) w ⟨b, o, none⟩ us (fun j v hj => by rw [add_none]; exact h j v hj)
  rw [hl] at h1
  simp [loadVar, isAgg_run hT, hag, sizeOf_run hT, h1]

theorem run_loadVar_one {T : Nat} {ti : TI} (hT : TIOk P E T ti) (hag : ti.td.isAgg = false) (b o : Nat) (u : Value)
    (h : w.cell? ⟨b, o, none⟩ = some u) : (loadVar T ⟨b, o, none⟩).run P w = .ok u w := by
  simp [loadVar, isAgg_run hT, hag, h]

theorem dvList_map_nil {src : Option Nat} {cells : Nat → DV} : dvList src cells 0 0 = [] := rfl

theorem sound_load (hE : EOk P E) (H : Holds dl η G N get ob a w) {T : Nat} {p : SV} {vp : Value} (hp : SVRel η G w p vp) {sv : SV} {upd : Objs} {rd : List Nat} {obl : Obl}
    (h : evLoad (E.ti T) ob p = .ok sv upd rd obl) : Looks P η G w (Instr.loadAt T vp) sv upd := by
  -- cells that read as data, behind an address
  have key : ∀ (ti : TI) (src : Option Nat) (wd off b q : Nat) (cells : Nat → DV) (S : Nat → Prop) (rd' : List Nat), TIOk P E T ti → (∀ d v, DVRel w S d v → SVRel η G w (dvSV src d) v) →
      (∀ j, j < wd → ∃ u, w.cell? ⟨b, q + j, none⟩ = some u ∧ DVRel w S (cells j) u) → vp = .pointer (some ⟨b, q + off, none⟩) →
      (bif ti.td.isAgg then bif leN (off + ti.size) wd then OpRes.ok (.agg (dvList src cells off ti.size)) [] rd' .no else .bad
        else bif ltN off wd then OpRes.ok (dvSV src (cells off)) [] rd' .no else .bad) = .ok sv upd rd obl → Looks P η G w (Instr.loadAt T vp) sv upd := by
    intro ti src wd off b q cells S rd' hT hS hc hvp h
    subst hvp
    rcases cond_eq h with ⟨hag, h2⟩ | ⟨hag, h2⟩
    · replace h := h2
      have hl := (cond_ok h).1
      replace h := (cond_ok h).2
      simp only [OpRes.ok.injEq] at h; obtain ⟨rfl, rfl, _, rfl⟩ := h
      have hle : off + ti.size ≤ wd := by simpa [leN_iff, ltN_iff] using hl
      obtain ⟨us, h1, h2, h3⟩ := dvList_rel hS hc ti.size off hle
      have hr := run_loadVar_agg (w := w) hT hag b (q + off) us h1 (fun j v hj => by rw [Nat.add_assoc]; exact h2 j v hj)
      refine ⟨rfl, _, hr, ?_⟩
      simp only [SVRel]
      exact ⟨us, rfl, h3⟩
    · replace h := h2
      have hl := (cond_ok h).1
      replace h := (cond_ok h).2
      simp only [OpRes.ok.injEq] at h; obtain ⟨rfl, rfl, _, rfl⟩ := h
      have hlt : off < wd := by simpa [ltN_iff] using hl
      obtain ⟨u, hu, hd⟩ := hc off hlt
      have hr := run_loadVar_one (w := w) hT hag b (q + off) u hu
      exact ⟨rfl, u, hr, hS _ _ hd⟩
  unfold evLoad at h
  split at h
  · rename_i ti k off hti
    have hT := hE T ti hti
    simp only [SVRel] at hp
    obtain ⟨o, hk, h1c, hv⟩ := hp
    split at h
    · rename_i T' cs hob
      obtain ⟨o', hk', hr⟩ := obj_of H hob
      rw [hk] at hk'; cases hk'
      simp only [ObjRel] at hr
      obtain ⟨hd, hin, b, vs, hm, hh, hs⟩ := hr
      obtain ⟨b', hm', rfl⟩ := hv hd
      rw [hm] at hm'; cases hm'
      rcases cond_eq h with ⟨hag, h2⟩ | ⟨hag, h2⟩
      · replace h := h2
        have hl := (cond_ok h).1
        replace h := (cond_ok h).2
        simp only [OpRes.ok.injEq] at h; obtain ⟨rfl, rfl, _, rfl⟩ := h
        have hle : off + ti.size ≤ cs.length := by simpa [leN_iff, ltN_iff] using hl
        have hvl := SVRels.length hs
        have hsub := SVRels.sub off ti.size hs
        have hr := run_loadVar_agg (w := w) hT hag b off ((vs.drop off).take ti.size) (by simp; omega) (fun j v hj => by
          rw [cell_cells hh]
          rw [List.getElem?_take] at hj
          split at hj
          · simpa using hj
          · cases hj)
        refine ⟨rfl, _, hr, ?_⟩
        simp only [SVRel]
        exact ⟨_, rfl, hsub⟩
      · replace h := h2
        have hl := (cond_ok h).1
        replace h := (cond_ok h).2
        simp only [OpRes.ok.injEq] at h; obtain ⟨rfl, rfl, _, rfl⟩ := h
        have hlt : off < cs.length := by simpa [ltN_iff] using hl
        obtain ⟨u, hu, hr⟩ := SVRels.nth off hs hlt
        have hrun := run_loadVar_one (w := w) hT hag b off u (by rw [cell_cells hh]; simpa using hu)
        exact ⟨rfl, u, hrun, hr⟩
    · cases h
  · rename_i ti wd cells off hti
    simp only [SVRel] at hp
    obtain ⟨b, q, hvp, hG, hc⟩ := hp
    exact key ti none wd off b q cells G [] (hE T ti hti) (fun d v hd => dvSV_none hd) hc hvp h
  · rename_i ti k wd cells off hti
    simp only [SVRel] at hp
    obtain ⟨o, hk, h1c, hv⟩ := hp
    have hal := (cond_ok h).1
    replace h := (cond_ok h).2
    obtain ⟨b, q, hvp, hb, hc⟩ := hv (alive_of H hal hk)
    exact key ti (some k) wd off b q cells _ [k] (hE T ti hti) (fun d v hd => dvSV_some hk hd) hc hvp h
  · rename_i ti k wd i off hti
    have hT := hE T ti hti
    simp only [SVRel] at hp
    obtain ⟨o, hk, h1c, hv⟩ := hp
    split at h
    · rename_i T' bs hob
      obtain ⟨o', hk', hr⟩ := obj_of H hob
      rw [hk] at hk'; cases hk'
      simp only [ObjRel] at hr
      obtain ⟨hd, hin, hq⟩ := hr
      obtain ⟨b, hm, ⟨n, c, hval, hi⟩, hvp⟩ := hv hd
      · have hag := (cond_ok h).1
        replace h := (cond_ok h).2
        simp only [Bool.and_eq_true, Bool.not_eq_true'] at hag
        obtain ⟨hag, hw1, ho0⟩ := hag
        have hw1 := eqN_eq hw1
        have ho0 := eqN_eq ho0
        subst hw1; subst ho0
        simp only [OpRes.ok.injEq] at h; obtain ⟨rfl, rfl, _, rfl⟩ := h
        rcases hq with ⟨h1, _⟩ | ⟨b', c', cs, T'', h1, h2, h3, h4, h5, _, h6⟩
        · rw [h1] at hval; cases hval
        · rw [h1] at hval; cases hval
          have hget := h6 (i ()) _ (List.getElem?_eq_getElem hi)
          subst hvp
          have hr := run_loadVar_one (w := w) hT hag b (i () * 1 + 0) _ (by rw [cell_cells h3, Nat.add_zero, Nat.mul_one]; exact hget)
          refine ⟨rfl, _, hr, ?_⟩
          simp [SVRel, List.getD, List.getElem?_eq_getElem hi]
    · rename_i T' wd' n row hob
      obtain ⟨o', hk', hr⟩ := obj_of H hob
      rw [hk] at hk'; cases hk'
      simp only [ObjRel] at hr
      obtain ⟨hd, hin, hq⟩ := hr
      obtain ⟨b, hm, ⟨n', c, hval, hi⟩, hvp⟩ := hv hd
      have hw := (cond_ok h).1
      replace h := (cond_ok h).2
      have hw := eqN_eq hw
      subst hw
      rcases hq with ⟨h1, _⟩ | ⟨b', c', cs, T'', h1, h2, h3, h4, h5, _, h6⟩
      · rw [h1] at hval; cases hval
      · rw [h1] at hval; cases hval
        exact key ti none wd off b (i () * wd) (row fun _ => i ()) G [k] hT (fun d v hd => dvSV_none hd)
          (fun j hj => by obtain ⟨u, hu, hd⟩ := h6 (i ()) j hi hj; exact ⟨u, by rw [cell_cells h3]; exact hu, hd⟩) hvp h
    · rename_i T' wd' n row hob
      obtain ⟨o', hk', hr⟩ := obj_of H hob
      rw [hk] at hk'; cases hk'
      simp only [ObjRel] at hr
      obtain ⟨hd, Bs, hB, hN, hq⟩ := hr
      obtain ⟨b, hm, ⟨n', c, hval, hi⟩, hvp⟩ := hv hd
      have hw := (cond_ok h).1
      replace h := (cond_ok h).2
      have hw := eqN_eq hw
      subst hw
      rcases hq with ⟨h1, _⟩ | ⟨b', c', cs, T'', h1, h2, h3, h4, h5, _, h6⟩
      · rw [h1] at hval; cases hval
      · rw [h1] at hval; cases hval
        exact key ti (some k) wd off b (i () * wd) (row fun _ => i ()) _ [k] hT (fun d v hd => dvSV_some hk hd)
          (fun j hj => by obtain ⟨u, hu, hd⟩ := h6 (i ()) j hi hj; exact ⟨u, by rw [cell_cells h3]; exact hu, ORel.toDV _ _ _ (fun b hb => hB _ _ _ hi hj hb) hd⟩) hvp h
    · cases h
  · cases h

theorem fieldsOk_at : ∀ {fs : List (Nat × Nat)} {fields : List Field} (i : Nat), fieldsOk P E fs fields → i < fs.length →
    ∃ f j, fields[i]? = some f ∧ f.type = (nthD fs i (0, 0)).1 ∧ f.offset = (nthD fs i (0, 0)).2 ∧ P.info? f.type = some j ∧ j.size = szOf E f.type ∧ j.size ≠ 0
  | [], _, i, _, h => by simp at h
  | _ :: _, [], _, h, _ => by simp [fieldsOk] at h
  | (T, o) :: fs, f :: r, 0, h, _ => by
      simp only [fieldsOk] at h
      obtain ⟨h1, h2, ⟨j, h3, h4, h5⟩, _⟩ := h
      exact ⟨f, j, rfl, by simpa [nthD] using h1, by simpa [nthD] using h2, by rw [h1]; exact h3, by rw [h1]; exact h4, h5⟩
  | p :: fs, f :: r, i + 1, h, hi => by
      simp only [fieldsOk] at h
      simpa [nthD] using fieldsOk_at i h.2.2.2 (by simpa [leN_iff, ltN_iff] using hi)

theorem sound_fieldAddr (hE : EOk P E) {S f : Nat} {p : SV} {vp : Value} (hp : SVRel η G w p vp) (H : Holds dl η G N get ob a w) {sv : SV} {upd : Objs} {rd : List Nat} {obl : Obl}
    (h : evFieldAddr ob (E.ti S) p f = .ok sv upd rd obl) : Looks P η G w (Instr.fieldAt S vp f) sv upd := by
  unfold evFieldAddr at h
  split at h
  · rename_i ti hti
    split at h
    · rename_i fs htd
      have hl := (cond_ok h).1
      replace h := (cond_ok h).2
      obtain ⟨d, hd, ht⟩ := (hE S ti hti).desc
      rw [htd] at ht
      obtain ⟨fields, rfl, hf⟩ := ht
      obtain ⟨fd, j, h1, h2, h3, h4, h5, h6⟩ := fieldsOk_at f hf (by simpa [ltN_iff] using hl)
      have hrun : ∀ b o, (Instr.fieldAt S (.pointer (some ⟨b, o, none⟩)) f).run P w = .ok (.pointer (some ⟨b, o + (nthD fs f (0, 0)).2, none⟩)) w := by
        intro b o
        simp [Instr.fieldAt, run_underlying hd, h1, Instr.sureAddr, fieldPlace, sizeOf, typeInfo, h4, h6, add_none, h3]
      split at h
      · rename_i k off
        simp only [SVRel] at hp
        obtain ⟨o, hk, h1c, hv⟩ := hp
        have hal := (cond_ok h).1
        replace h := (cond_ok h).2
        simp only [OpRes.ok.injEq] at h; obtain ⟨rfl, rfl, _, rfl⟩ := h
        obtain ⟨b, hm, rfl⟩ := hv (alive_of H hal hk)
        refine ⟨rfl, _, hrun b off, ?_⟩
        simp only [SVRel]
        exact ⟨o, hk, rfl, fun _ => ⟨b, hm, rfl⟩⟩
      · rename_i wd cells off
        simp only [SVRel] at hp
        obtain ⟨b, o, rfl, hb, hc⟩ := hp
        simp only [plain, OpRes.ok.injEq] at h; obtain ⟨rfl, rfl, _, rfl⟩ := h
        refine ⟨rfl, _, hrun b _, ?_⟩
        simp only [SVRel]
        exact ⟨b, o, by rw [Nat.add_assoc], hb, hc⟩
      · rename_i k wd cells off
        simp only [SVRel] at hp
        obtain ⟨oi, hk, h1c, hv⟩ := hp
        have hal := (cond_ok h).1
        replace h := (cond_ok h).2
        simp only [OpRes.ok.injEq] at h; obtain ⟨rfl, rfl, _, rfl⟩ := h
        obtain ⟨b, o, rfl, hb, hc⟩ := hv (alive_of H hal hk)
        refine ⟨rfl, _, hrun b _, ?_⟩
        simp only [SVRel]
        exact ⟨oi, hk, rfl, fun _ => ⟨b, o, by rw [Nat.add_assoc], hb, hc⟩⟩
      · rename_i k wd i off
        simp only [SVRel] at hp
        obtain ⟨o, hk, h1c, hv⟩ := hp
        have hal := (cond_ok h).1
        replace h := (cond_ok h).2
        simp only [OpRes.ok.injEq] at h; obtain ⟨rfl, rfl, _, rfl⟩ := h
        obtain ⟨b, hm, hn, rfl⟩ := hv (alive_of H hal hk)
        refine ⟨rfl, _, hrun b _, ?_⟩
        simp only [SVRel]
        exact ⟨o, hk, rfl, fun _ => ⟨b, hm, hn, by rw [Nat.add_assoc]⟩⟩
      · cases h
    · cases h
  · cases h

theorem allOne_rel : ∀ {cs : List SV} {vs : List Value}, SVRels η G w cs vs → allOne cs = true → ∀ v ∈ vs, v.oneCell' = true
  | [], [], _, _, v, hv => by simp at hv
  | [], _ :: _, h, _, _, _ => by simp [SVRels] at h
  | _ :: _, [], h, _, _, _ => by simp [SVRels] at h
  | c :: cs, u :: vs, h, h1, v, hv => by
      simp only [SVRels] at h
      simp only [allOne, Bool.and_eq_true] at h1
      rcases List.mem_cons.1 hv with rfl | hv
      · exact (svOne_rel h.1 h1.1).1
      · exact allOne_rel h.2 h1.2 v hv

theorem box_rel {sv : SV} {v : Value} (h : SVRel η G w sv v) (h1 : svBox sv = true) : SVRels η G w (svCells sv) v.cells.toList := by
  cases sv with
  | agg cs =>
    simp only [SVRel] at h
    obtain ⟨vs, rfl, h⟩ := h
    simpa [svCells, Value.cells] using h
  | _ =>
    obtain ⟨_, h2, h3⟩ := svOne_rel h (by simpa [svBox] using h1)
    rw [h2, h3]
    simp only [SVRels]
    exact ⟨h, trivial⟩

theorem store_cells {sv : SV} {v : Value} (h : SVRel η G w sv v) (h1 : allOne (svCells sv) = true) : SVRels η G w (svCells sv) v.cells.toList := by
  refine box_rel h ?_
  cases sv with
  | agg cs => rfl
  | _ => simpa [svCells, allOne, svBox] using h1

/-- Behind a store. -/
theorem sound_store (hE : EOk P E) (H : Holds dl η G N get ob a w) {T : Nat} {p x : SV} {vp vx : Value} (hp : SVRel η G w p vp) (hx : SVRel η G w x vx) {sv : SV} {upd : Objs} {rd : List Nat} {obl : Obl}
    (h : evStore (E.ti T) ob p x = .ok sv upd rd obl) : ∃ w' η' G', (Instr.storeAt T vp vx).run P w = .ok () w' ∧ After η G w ob sv upd undef η' G' w' := by
  unfold evStore at h
  split at h
  · rename_i ti k off hti
    have hT := hE T ti hti
    simp only [SVRel] at hp
    obtain ⟨o, hk, h1c, hv⟩ := hp
    split at h
    · rename_i T' cs hob
      obtain ⟨o', hk', hr⟩ := obj_of H hob
      rw [hk] at hk'; cases hk'
      simp only [ObjRel] at hr
      obtain ⟨hd, hin, b, vs, hm, hh, hs⟩ := hr
      obtain ⟨b', hm', rfl⟩ := hv hd
      rw [hm] at hm'; cases hm'
      have hl := (cond_ok h).1
      replace h := (cond_ok h).2
      simp only [Bool.and_eq_true] at hl
      obtain ⟨hl1, hl2, hl3⟩ := hl
      have hl1 := eqN_eq hl1
      have hl2 : off + ti.size ≤ cs.length := by simpa [leN_iff, ltN_iff] using hl2
      simp only [OpRes.ok.injEq] at h; obtain ⟨rfl, rfl, _, rfl⟩ := h
      have hxc := store_cells hx hl3
      have hlen := SVRels.length hxc
      have hvl := SVRels.length hs
      have hst := run_storeCells_at P b off T' vx.cells.toList 0 ⟨vs⟩ w hh (by simp at hlen hvl ⊢; omega) (allOne_rel hxc hl3)
      simp only [Nat.add_zero] at hst
      refine ⟨_, η, G, ?_, after_set H off hk hd hm hin hh hs hxc (by omega) undef⟩
      have hsz : vx.cells.size = ti.size := by simp at hlen; omega
      simp [Instr.storeAt, Instr.sureAddr, storeVar, sizeOf_run hT, hsz]
      simpa [hsz] using hst
    · cases h
  · cases h

theorem sound_alloc (hE : EOk P E) (H : Holds dl η G N get ob a w) {T d : Nat} {old : Value} {sv : SV} {upd : Objs} {rd : List Nat} {obl : Obl}
    (h : evAlloc E d ob T = .ok sv upd rd obl) : ∃ v w' η' G', (Instr.alloc T true old).run P w = .ok v w' ∧ After η G w ob sv upd v η' G' w' := by
  unfold evAlloc at h
  split at h
  · rename_i ti hti hob
    obtain ⟨i, z, h1, h2, h3, h4, h5⟩ := (hE T ti hti).info
    simp only [OpRes.ok.injEq] at h; obtain ⟨rfl, rfl, _, rfl⟩ := h
    refine ⟨.pointer (some ⟨w.heap.size, 0, none⟩), _, _, G, ?_, after_new H hob T (vs := z.cells.toList) (h5 η G w) ?_⟩
    · simp [Instr.alloc, zeroValue, typeInfo, h1, h4, newVar, newRow, newObj, Sem.run]
    · simp only [SVRel]
      exact ⟨_, updE_same _ _ _, rfl, fun _ => ⟨_, rfl, rfl⟩⟩
  · cases h

theorem sound_box (H : Holds dl η G N get ob a w) {T d : Nat} {x : SV} {vx : Value} (hx : SVRel η G w x vx) {sv : SV} {upd : Objs} {rd : List Nat} {obl : Obl}
    (h : evBox d ob T x = .ok sv upd rd obl) : ∃ v w' η' G', (Instr.box T vx).run P w = .ok v w' ∧ After η G w ob sv upd v η' G' w' := by
  unfold evBox at h
  split at h
  · rename_i hob
    have hb := (cond_ok h).1
    replace h := (cond_ok h).2
    simp only [OpRes.ok.injEq] at h; obtain ⟨rfl, rfl, _, rfl⟩ := h
    refine ⟨.pointer (some ⟨w.heap.size, 0, none⟩), _, _, G, ?_, after_new H hob T (vs := vx.cells.toList) (box_rel hx hb) ?_⟩
    · simp [Instr.box, newVar, newRow, newObj, Sem.run]
    · simp only [SVRel]
      exact ⟨_, updE_same _ _ _, rfl, fun _ => ⟨_, rfl, rfl⟩⟩
  · cases h
end
end Go.SX
