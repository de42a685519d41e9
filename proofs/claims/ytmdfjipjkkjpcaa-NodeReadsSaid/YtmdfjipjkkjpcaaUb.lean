/- Texts put together: SxE, SxF, SxG, SxH, SxU, SxW. -/
import Derived.Laws.AppendOwn
import Derived.Lib.ConvBytes
import Derived.Maps.Keyed
import Derived.Test.YtmdfjipjkkjpcaaUa
/- SX, fifth part: addresses, loads and stores. -/
namespace Go.SX

section
variable {P : Program} {E : Env} {η : OEnv} {G : Nat → Prop} {N : Nat} {dl : List Deferred} {get : Nat → SV} {ob : Nat → Option TObj} {a : Act} {w : World}

theorem add_none (b o n : Nat) : (⟨b, o, none⟩ : Addr).add n = ⟨b, o + n, none⟩ := by
  unfold Addr.add; split <;> simp_all

theorem oneCell_ptr (x : Option Addr) : (Value.pointer x).oneCell' = true := rfl

theorem ORel.toDV {w : World} {S : Nat → Prop} : ∀ (d : DV) (v : Value) (B : List Nat), (∀ b ∈ B, S b) → ORel w d v B → DVRel w S d v
  | .int _ _, _, _, _, h => by simp only [ORel] at h; simpa only [DVRel] using h.1
  | .bool _, _, _, _, h => by simp only [ORel] at h; simpa only [DVRel] using h.1
  | .str _, _, _, _, h => by simp only [ORel] at h; simpa only [DVRel] using h.1
  | .bytes bs, v, B, hB, h => by
      simp only [ORel] at h
      simp only [DVRel]
      rcases h with ⟨rfl, h0, rfl⟩ | ⟨b, c, cs, T, rfl, hh, h1, h2, h3, h4, rfl⟩
      · exact ⟨none, 0, by simp [h0], by simp [h0], by simp [h0]⟩
      · exact ⟨_, c, rfl, h2, fun i x hx => ⟨b, 0, rfl, hB b (by simp), by rw [Nat.zero_add, cell_cells hh]; exact h4 i x hx⟩⟩
  | .sl wd n row, v, B, hB, h => by
      simp only [ORel] at h
      simp only [DVRel]
      rcases h with ⟨rfl, h0, rfl⟩ | ⟨b, c, cs, T, Bs, rfl, hh, h1, h2, h3, h4, rfl, hN⟩
      · exact ⟨none, 0, by simp [h0], by simp [h0], fun i hi => by omega⟩
      · refine ⟨_, c, rfl, h2, fun i hi => ⟨b, 0, rfl, hB b (by simp), fun j hj => ?_⟩⟩
        obtain ⟨u, hu, hd⟩ := h4 i j hi hj
        exact ⟨u, by rw [Nat.zero_add, cell_cells hh]; exact hu, ORel.toDV (row (fun _ => i) j) u _ (fun b' hb' => hB b' (List.mem_cons_of_mem _ (mem_flat hi hj hb'))) hd⟩
  | .rb _ _, _, _, _, h => h.elim
  | .rs _ _ _ _ _, _, _, _, h => h.elim

theorem dv_one {S : Nat → Prop} {d : DV} {v : Value} (h : DVRel w S d v) : v.oneCell' = true := by
  cases d <;> simp only [DVRel] at h
  case int => subst h; rfl
  case bool => subst h; rfl
  case str => subst h; rfl
  case bytes => obtain ⟨_, _, rfl, _⟩ := h; rfl
  case sl => obtain ⟨_, _, rfl, _⟩ := h; rfl
  case rb => obtain ⟨_, _, rfl, _⟩ := h; rfl
  case rs => obtain ⟨_, _, rfl, _⟩ := h; rfl

theorem dvSV_none {d : DV} {v : Value} (h : DVRel w G d v) : SVRel η G w (dvSV none d) v := by
  cases d <;> simpa only [dvSV, SVRel, IE.den_s, BE.den_s, DVRel] using h

theorem dvSV_some {k : Nat} {o : OInfo} {d : DV} {v : Value} (hk : η k = some o) (h : DVRel w (fun b => b ∈ o.inner) d v) : SVRel η G w (dvSV (some k) d) v := by
  have h1 := dv_one h
  cases d
  case int => simpa only [dvSV, SVRel, IE.den_s, DVRel] using h
  case bool => simpa only [dvSV, SVRel, BE.den_s, DVRel] using h
  case str => simpa only [dvSV, SVRel, DVRel] using h
  all_goals
    simp only [dvSV, SVRel]
    exact ⟨o, hk, h1, fun _ => h⟩

/-- Cells that read as data, one behind the other. -/
theorem dvList_rel {src : Option Nat} {S : Nat → Prop} (hS : ∀ d v, DVRel w S d v → SVRel η G w (dvSV src d) v) {get' : Nat → Option Value} {cells : Nat → DV} {wd : Nat}
    (h : ∀ j, j < wd → ∃ u, get' j = some u ∧ DVRel w S (cells j) u) : ∀ (n off : Nat), off + n ≤ wd →
    ∃ us : List Value, us.length = n ∧ (∀ j v, us[j]? = some v → get' (off + j) = some v) ∧ SVRels η G w (dvList src cells off n) us
  | 0, off, _ => ⟨[], rfl, by simp, by simp [dvList, SVRels]⟩
  | n + 1, off, hl => by
      obtain ⟨u, hu, hd⟩ := h off (by omega)
      obtain ⟨us, h1, h2, h3⟩ := dvList_rel hS h n (off + 1) (by omega)
      refine ⟨u :: us, by simp [h1], fun j v hj => ?_, by simp only [dvList, SVRels]; exact ⟨hS _ _ hd, h3⟩⟩
      cases j with
      | zero => simp at hj; subst hj; simpa using hu
      | succ j => simp at hj; have := h2 j v hj; rwa [show off + 1 + j = off + (j + 1) by omega] at this

theorem own_val {o : OInfo} {T₀ wd n : Nat} {Q : Array Value → Prop} (h : ownsBlk w o T₀ wd n Q) (hn : 0 < n) :
    ∃ (b c : Nat) (cs : Array Value) (T : Nat × Nat × Nat), o.val = .slice (some ⟨b, 0, none⟩) n c ∧ o.main = [b] ∧ w.heap[b]? = some (.cells cs T.1 T.2) ∧ c * wd ≤ cs.size ∧ n ≤ c ∧ Q cs := by
  rcases h with ⟨_, h, _⟩ | ⟨b, c, cs, T, h1, h2, h3, h4, h5, _, h6⟩
  · omega
  · exact ⟨b, c, cs, T, h1, h2, h3, Nat.le_of_eq h4.1.symm, h5, h6⟩

theorem run_indexAt {T e : Nat} {te : TI} (hE : EOk P E) (hT : P.underlying T = some (.slice e)) (he : E.ti e = some te) (b o n c : Nat) (k : IntKind) (z : Int) (h0 : 0 ≤ z) (h1 : z < n) :
    (Instr.indexAt T (.slice (some ⟨b, o, none⟩) n c) (.int k z)).run P w = .ok (.pointer (some ⟨b, o + z.toNat * te.size, none⟩)) w := by
  simp [Instr.indexAt, asIntOf, run_underlying hT, sizeOf_run (hE e te he), h0, h1, add_none]

theorem sound_indexAddr (hE : EOk P E) (H : Holds dl η G N get ob a w) {T : Nat} {x i : SV} {vx vi : Value} (hx : SVRel η G w x vx) (hi : SVRel η G w i vi) {sv : SV} {upd : Objs} {rd : List Nat} {obl : Obl}
    (h : evIndexAddr E T ob x i = .ok sv upd rd obl) (ho : obl.holds) : Looks P η G w (Instr.indexAt T vx vi) sv upd := by
  unfold evIndexAddr at h
  split at h
  · rename_i wd n row k z
    rcases cond_eq h with ⟨hw, h⟩ | ⟨_, h⟩
    · obtain ⟨e, te, hT, he, hs⟩ := elIs_run hE hw
      simp only [OpRes.ok.injEq] at h; obtain ⟨rfl, rfl, _, rfl⟩ := h
      simp only [Obl.holds, indexObl] at ho
      simp only [SVRel, DVRel] at hx hi
      subst hi
      obtain ⟨p, c, rfl, hc, hr⟩ := hx
      obtain ⟨b, o, rfl, hb, hr⟩ := hr z.den.toNat (by omega)
      refine ⟨rfl, _, run_indexAt hE hT he b o _ c k z.den ho.1 ho.2, ?_⟩
      simp only [SVRel]
      exact ⟨b, o + z.den.toNat * te.size, rfl, hb, by rw [hs]; exact hr⟩
    · cases h
  · rename_i bs k z
    rcases cond_eq h with ⟨hw, h⟩ | ⟨_, h⟩
    · obtain ⟨e, te, hT, he, hs⟩ := elIs_run hE hw
      simp only [OpRes.ok.injEq] at h; obtain ⟨rfl, rfl, _, rfl⟩ := h
      simp only [Obl.holds, indexObl] at ho
      simp only [SVRel, DVRel] at hx hi
      subst hi
      obtain ⟨p, c, rfl, hc, hr⟩ := hx
      have hlt : z.den.toNat < (bs ()).length := by omega
      obtain ⟨b, o, rfl, hb, hr⟩ := hr z.den.toNat _ (List.getElem?_eq_getElem hlt)
      refine ⟨rfl, _, run_indexAt hE hT he b o _ c k z.den ho.1 ho.2, ?_⟩
      simp only [SVRel]
      refine ⟨b, o + z.den.toNat * te.size, rfl, hb, fun j hj => ⟨_, by rw [hs, Nat.mul_one, show o + z.den.toNat + j = o + z.den.toNat by omega]; exact hr, ?_⟩⟩
      simp [byteRow, DVRel, List.getD, List.getElem?_eq_getElem hlt]
    · cases h
  · rename_i k wd n row ki z
    rcases cond_eq h with ⟨hw, h⟩ | ⟨_, h⟩
    · simp only [Bool.and_eq_true] at hw
      obtain ⟨e, te, hT, he, hs⟩ := elIs_run hE hw.1
      simp only [OpRes.ok.injEq] at h; obtain ⟨rfl, rfl, _, rfl⟩ := h
      simp only [Obl.holds, indexObl] at ho
      simp only [SVRel] at hx hi
      subst hi
      obtain ⟨oi, hk, h1c, hv⟩ := hx
      have hd := alive_of H hw.2 hk
      have hx := hv hd
      simp only [DVRel] at hx
      obtain ⟨p, c, rfl, hc, hr⟩ := hx
      obtain ⟨b, o, rfl, hb, hr⟩ := hr z.den.toNat (by omega)
      refine ⟨rfl, _, run_indexAt hE hT he b o _ c ki z.den ho.1 ho.2, ?_⟩
      simp only [SVRel]
      exact ⟨oi, hk, rfl, fun _ => ⟨b, o + z.den.toNat * te.size, rfl, hb, by rw [hs]; exact hr⟩⟩
    · cases h
  · rename_i k bs ki z
    rcases cond_eq h with ⟨hw, h⟩ | ⟨_, h⟩
    · simp only [Bool.and_eq_true] at hw
      obtain ⟨e, te, hT, he, hs⟩ := elIs_run hE hw.1
      simp only [OpRes.ok.injEq] at h; obtain ⟨rfl, rfl, _, rfl⟩ := h
      simp only [Obl.holds, indexObl] at ho
      simp only [SVRel] at hx hi
      subst hi
      obtain ⟨oi, hk, h1c, hv⟩ := hx
      have hd := alive_of H hw.2 hk
      have hx := hv hd
      simp only [DVRel] at hx
      obtain ⟨p, c, rfl, hc, hr⟩ := hx
      have hlt : z.den.toNat < (bs ()).length := by omega
      obtain ⟨b, o, rfl, hb, hr⟩ := hr z.den.toNat _ (List.getElem?_eq_getElem hlt)
      refine ⟨rfl, _, run_indexAt hE hT he b o _ c ki z.den ho.1 ho.2, ?_⟩
      simp only [SVRel]
      refine ⟨oi, hk, rfl, fun _ => ⟨b, o + z.den.toNat * te.size, rfl, hb, fun j hj => ⟨_, by rw [hs, Nat.mul_one, show o + z.den.toNat + j = o + z.den.toNat by omega]; exact hr, ?_⟩⟩⟩
      simp [byteRow, DVRel, List.getD, List.getElem?_eq_getElem hlt]
    · cases h
  · rename_i k ki z
    simp only [SVRel] at hx hi
    subst hi
    obtain ⟨o, hk, h1c, hv⟩ := hx
    split at h
    · rename_i T' wd n row hob
      obtain ⟨o', hk', hr⟩ := obj_of H hob
      rw [hk] at hk'; cases hk'
      simp only [ObjRel] at hr
      obtain ⟨hd, _, hq⟩ := hr
      rcases cond_eq h with ⟨hw, h⟩ | ⟨_, h⟩
      · obtain ⟨e, te, hT, he, hs⟩ := elIs_run hE hw
        simp only [OpRes.ok.injEq] at h; obtain ⟨rfl, rfl, _, rfl⟩ := h
        simp only [Obl.holds, indexObl] at ho
        obtain ⟨b, c, cs, T'', hval, hm, hh, _, hnc, _⟩ := own_val hq (by omega)
        rw [(hv hd).trans hval]
        refine ⟨rfl, _, run_indexAt hE hT he b 0 _ c ki z.den ho.1 ho.2, ?_⟩
        simp only [SVRel]
        exact ⟨o, hk, rfl, fun _ => ⟨b, ⟨[], hm⟩, ⟨_, c, hval, by omega⟩, by simp [hs]⟩⟩
      · cases h
    · rename_i T' wd n row hob
      obtain ⟨o', hk', hr⟩ := obj_of H hob
      rw [hk] at hk'; cases hk'
      simp only [ObjRel] at hr
      obtain ⟨hd, _, _, _, _, hq⟩ := hr
      rcases cond_eq h with ⟨hw, h⟩ | ⟨_, h⟩
      · obtain ⟨e, te, hT, he, hs⟩ := elIs_run hE hw
        simp only [OpRes.ok.injEq] at h; obtain ⟨rfl, rfl, _, rfl⟩ := h
        simp only [Obl.holds, indexObl] at ho
        obtain ⟨b, c, cs, T'', hval, hm, hh, _, hnc, _⟩ := own_val hq (by omega)
        rw [(hv hd).trans hval]
        refine ⟨rfl, _, run_indexAt hE hT he b 0 _ c ki z.den ho.1 ho.2, ?_⟩
        simp only [SVRel]
        exact ⟨o, hk, rfl, fun _ => ⟨b, ⟨[], hm⟩, ⟨_, c, hval, by omega⟩, by simp [hs]⟩⟩
      · cases h
    · rename_i T' bs hob
      obtain ⟨o', hk', hr⟩ := obj_of H hob
      rw [hk] at hk'; cases hk'
      simp only [ObjRel] at hr
      obtain ⟨hd, _, hq⟩ := hr
      rcases cond_eq h with ⟨hw, h⟩ | ⟨_, h⟩
      · obtain ⟨e, te, hT, he, hs⟩ := elIs_run hE hw
        simp only [OpRes.ok.injEq] at h; obtain ⟨rfl, rfl, _, rfl⟩ := h
        simp only [Obl.holds, indexObl] at ho
        obtain ⟨b, c, cs, T'', hval, hm, hh, _, hnc, _⟩ := own_val hq (by omega)
        rw [(hv hd).trans hval]
        refine ⟨rfl, _, run_indexAt hE hT he b 0 _ c ki z.den ho.1 ho.2, ?_⟩
        simp only [SVRel]
        exact ⟨o, hk, rfl, fun _ => ⟨b, ⟨[], hm⟩, ⟨_, c, hval, by omega⟩, by simp [hs]⟩⟩
      · cases h
    · cases h
  · rename_i k wd n ki z
    simp only [SVRel] at hx hi
    subst hi
    obtain ⟨o, hk, h1c, hv⟩ := hx
    split at h
    · rename_i T' cs hob
      obtain ⟨o', hk', hr⟩ := obj_of H hob
      rw [hk] at hk'; cases hk'
      simp only [ObjRel] at hr
      obtain ⟨b, hm, rfl⟩ := hv hr.1
      rcases cond_eq h with ⟨hw, h⟩ | ⟨_, h⟩
      · simp only [Bool.and_eq_true] at hw
        obtain ⟨e, te, hT, he, hs⟩ := elIs_run hE hw.2
        simp only [OpRes.ok.injEq] at h; obtain ⟨rfl, rfl, _, rfl⟩ := h
        have hz : z < n := by simpa [ltN_iff] using hw.1
        refine ⟨rfl, _, run_indexAt hE hT he b 0 _ n ki (.ofNat z) (by simp) (by simpa using hz), ?_⟩
        simp only [SVRel]
        exact ⟨o, hk, rfl, fun _ => ⟨b, hm, by simp [hs]⟩⟩
      · cases h
    · cases h
  · cases h

theorem sound_indexAddrR (hE : EOk P E) (H : Holds dl η G N get ob a w) {T : Nat} {x i : SV} {vx vi : Value} (hx : SVRel η G w x vx) (hi : SVRel η G w i vi) {sv : SV} {upd : Objs} {rd : List Nat} {obl : Obl}
    (h : evIndexAddrR E T ob x i = .ok sv upd rd obl) (ho : obl.holds) : Looks P η G w (Instr.indexAt T vx vi) sv upd := by
  unfold evIndexAddrR at h
  split at h
  · rename_i wd n NN row all
    split at h
    · rename_i k z
      rcases cond_eq h with ⟨hw, h⟩ | ⟨_, h⟩
      · obtain ⟨e, te, hT, he, hs⟩ := elIs_run hE hw
        simp only [OpRes.ok.injEq] at h; obtain ⟨rfl, rfl, _, rfl⟩ := h
        simp only [Obl.holds, indexObl] at ho
        simp only [SVRel, DVRel] at hx hi
        subst hi
        obtain ⟨b, o, rfl, hb, hn, hr, -⟩ := hx
        refine ⟨rfl, _, run_indexAt hE hT he b o _ _ k z.den ho.1 ho.2, ?_⟩
        simp only [SVRel]
        exact ⟨b, o + z.den.toNat * te.size, rfl, hb, by rw [hs]; exact hr z.den.toNat (by omega)⟩
      · cases h
    · cases h
  · exact sound_indexAddr hE H hx hi h ho
end
end Go.SX

/- SX, sixth part: loads, stores, fields, what is built, conversions. -/
namespace Go.SX

section
variable {P : Program} {E : Env} {η : OEnv} {G : Nat → Prop} {N : Nat} {dl : List Deferred} {get : Nat → SV} {ob : Nat → Option TObj} {a : Act} {w : World}

theorem run_loadVar_agg {T : Nat} {ti : TI} (hT : TIOk P E T ti) (hag : ti.td.isAgg = true) (b o : Nat) (us : List Value) (hl : us.length = ti.size)
    (h : ∀ j v, us[j]? = some v → w.cell? ⟨b, o + j, none⟩ = some v) : (loadVar T ⟨b, o, none⟩).run P w = .ok (.agg ⟨us⟩) w := by
  have h1 := run_loadCells_list (P := P) w ⟨b, o, none⟩ us (fun j v hj => by rw [add_none]; exact h j v hj)
  rw [hl] at h1
  simp [loadVar, isAgg_run hT, hag, sizeOf_run hT, h1]

theorem run_loadVar_one {T : Nat} {ti : TI} (hT : TIOk P E T ti) (hag : ti.td.isAgg = false) (b o : Nat) (u : Value)
    (h : w.cell? ⟨b, o, none⟩ = some u) : (loadVar T ⟨b, o, none⟩).run P w = .ok u w := by
  simp [loadVar, isAgg_run hT, hag, h]

theorem dvList_map_nil {src : Option Nat} {cells : Nat → DV} : dvList src cells 0 0 = [] := rfl

theorem sound_load (hE : EOk P E) (H : Holds dl η G N get ob a w) {T : Nat} {p : SV} {vp : Value} (hp : SVRel η G w p vp) {sv : SV} {upd : Objs} {rd : List Nat} {obl : Obl}
    (h : evLoad (E.ti T) ob p = .ok sv upd rd obl) : Looks P η G w (Instr.loadAt T vp) sv upd := by
  -- cells that read as data, behind an address
  have key : ∀ (ti : TI) (src : Option Nat) (wd off b q : Nat) (cells : Nat → DV) (S : Nat → Prop) (rd' : List Nat), TIOk P E T ti → (∀ d v, DVRel w S d v → SVRel η G w (dvSV src d) v) →
      (∀ j, j < wd → ∃ u, w.cell? ⟨b, q + j, none⟩ = some u ∧ DVRel w S (cells j) u) → vp = .pointer (some ⟨b, q + off, none⟩) →
      (bif ti.td.isAgg then bif leN (off + ti.size) wd then OpRes.ok (.agg (dvList src cells off ti.size)) [] rd' .no else .bad
        else bif ltN off wd then OpRes.ok (dvSV src (cells off)) [] rd' .no else .bad) = .ok sv upd rd obl → Looks P η G w (Instr.loadAt T vp) sv upd := by
    intro ti src wd off b q cells S rd' hT hS hc hvp h
    subst hvp
    rcases cond_eq h with ⟨hag, h2⟩ | ⟨hag, h2⟩
    · replace h := h2
      have hl := (cond_ok h).1
      replace h := (cond_ok h).2
      simp only [OpRes.ok.injEq] at h; obtain ⟨rfl, rfl, _, rfl⟩ := h
      have hle : off + ti.size ≤ wd := by simpa [leN_iff, ltN_iff] using hl
      obtain ⟨us, h1, h2, h3⟩ := dvList_rel hS hc ti.size off hle
      have hr := run_loadVar_agg (w := w) hT hag b (q + off) us h1 (fun j v hj => by rw [Nat.add_assoc]; exact h2 j v hj)
      refine ⟨rfl, _, hr, ?_⟩
      simp only [SVRel]
      exact ⟨us, rfl, h3⟩
    · replace h := h2
      have hl := (cond_ok h).1
      replace h := (cond_ok h).2
      simp only [OpRes.ok.injEq] at h; obtain ⟨rfl, rfl, _, rfl⟩ := h
      have hlt : off < wd := by simpa [ltN_iff] using hl
      obtain ⟨u, hu, hd⟩ := hc off hlt
      have hr := run_loadVar_one (w := w) hT hag b (q + off) u hu
      exact ⟨rfl, u, hr, hS _ _ hd⟩
  unfold evLoad at h
  split at h
  · rename_i ti k off hti
    have hT := hE T ti hti
    simp only [SVRel] at hp
    obtain ⟨o, hk, h1c, hv⟩ := hp
    split at h
    · rename_i T' cs hob
      obtain ⟨o', hk', hr⟩ := obj_of H hob
      rw [hk] at hk'; cases hk'
      simp only [ObjRel] at hr
      obtain ⟨hd, hin, b, vs, hm, hh, hs⟩ := hr
      obtain ⟨b', hm', rfl⟩ := hv hd
      first | (rw [hm] at hm'; cases hm'; done) | (rw [hm] at hm'; cases hm') | (obtain rfl := OInfo.at_one hm hm')
      rcases cond_eq h with ⟨hag, h2⟩ | ⟨hag, h2⟩
      · replace h := h2
        have hl := (cond_ok h).1
        replace h := (cond_ok h).2
        simp only [OpRes.ok.injEq] at h; obtain ⟨rfl, rfl, _, rfl⟩ := h
        have hle : off + ti.size ≤ cs.length := by simpa [leN_iff, ltN_iff] using hl
        have hvl := SVRels.length hs
        have hsub := SVRels.sub off ti.size hs
        have hr := run_loadVar_agg (w := w) hT hag b off ((vs.drop off).take ti.size) (by simp; omega) (fun j v hj => by
          rw [cell_cells hh]
          rw [List.getElem?_take] at hj
          split at hj
          · simpa using hj
          · cases hj)
        refine ⟨rfl, _, hr, ?_⟩
        simp only [SVRel]
        exact ⟨_, rfl, hsub⟩
      · replace h := h2
        have hl := (cond_ok h).1
        replace h := (cond_ok h).2
        simp only [OpRes.ok.injEq] at h; obtain ⟨rfl, rfl, _, rfl⟩ := h
        have hlt : off < cs.length := by simpa [ltN_iff] using hl
        obtain ⟨u, hu, hr⟩ := SVRels.nth off hs hlt
        have hrun := run_loadVar_one (w := w) hT hag b off u (by rw [cell_cells hh]; simpa using hu)
        exact ⟨rfl, u, hrun, hr⟩
    · cases h
  · rename_i ti wd cells off hti
    simp only [SVRel] at hp
    obtain ⟨b, q, hvp, hG, hc⟩ := hp
    exact key ti none wd off b q cells G [] (hE T ti hti) (fun d v hd => dvSV_none hd) hc hvp h
  · rename_i ti k wd cells off hti
    simp only [SVRel] at hp
    obtain ⟨o, hk, h1c, hv⟩ := hp
    have hal := (cond_ok h).1
    replace h := (cond_ok h).2
    obtain ⟨b, q, hvp, hb, hc⟩ := hv (alive_of H hal hk)
    exact key ti (some k) wd off b q cells _ [k] (hE T ti hti) (fun d v hd => dvSV_some hk hd) hc hvp h
  · rename_i ti k wd i off hti
    have hT := hE T ti hti
    simp only [SVRel] at hp
    obtain ⟨o, hk, h1c, hv⟩ := hp
    split at h
    · rename_i T' bs hob
      obtain ⟨o', hk', hr⟩ := obj_of H hob
      rw [hk] at hk'; cases hk'
      simp only [ObjRel] at hr
      obtain ⟨hd, hin, hq⟩ := hr
      obtain ⟨b, hm, ⟨n, c, hval, hi⟩, hvp⟩ := hv hd
      · have hag := (cond_ok h).1
        replace h := (cond_ok h).2
        simp only [Bool.and_eq_true, Bool.not_eq_true'] at hag
        obtain ⟨hag, hw1, ho0⟩ := hag
        have hw1 := eqN_eq hw1
        have ho0 := eqN_eq ho0
        subst hw1; subst ho0
        simp only [OpRes.ok.injEq] at h; obtain ⟨rfl, rfl, _, rfl⟩ := h
        rcases hq with ⟨h1, _⟩ | ⟨b', c', cs, T'', h1, h2, h3, h4, h5, _, h6⟩
        · rw [h1] at hval; cases hval
        · rw [h1] at hval; cases hval
          have hget := h6 (i ()) _ (List.getElem?_eq_getElem hi)
          subst hvp
          have hr := run_loadVar_one (w := w) hT hag b (i () * 1 + 0) _ (by rw [cell_cells h3, Nat.add_zero, Nat.mul_one]; exact hget)
          refine ⟨rfl, _, hr, ?_⟩
          simp [SVRel, List.getD, List.getElem?_eq_getElem hi]
    · rename_i T' wd' n row hob
      obtain ⟨o', hk', hr⟩ := obj_of H hob
      rw [hk] at hk'; cases hk'
      simp only [ObjRel] at hr
      obtain ⟨hd, hin, hq⟩ := hr
      obtain ⟨b, hm, ⟨n', c, hval, hi⟩, hvp⟩ := hv hd
      have hw := (cond_ok h).1
      replace h := (cond_ok h).2
      have hw := eqN_eq hw
      subst hw
      rcases hq with ⟨h1, _⟩ | ⟨b', c', cs, T'', h1, h2, h3, h4, h5, _, h6⟩
      · rw [h1] at hval; cases hval
      · rw [h1] at hval; cases hval
        exact key ti none wd off b (i () * wd) (row fun _ => i ()) G [k] hT (fun d v hd => dvSV_none hd)
          (fun j hj => by obtain ⟨u, hu, hd⟩ := h6 (i ()) j hi hj; exact ⟨u, by rw [cell_cells h3]; exact hu, hd⟩) hvp h
    · rename_i T' wd' n row hob
      obtain ⟨o', hk', hr⟩ := obj_of H hob
      rw [hk] at hk'; cases hk'
      simp only [ObjRel] at hr
      obtain ⟨hd, _, Bs, hB, hN, hq⟩ := hr
      obtain ⟨b, hm, ⟨n', c, hval, hi⟩, hvp⟩ := hv hd
      have hw := (cond_ok h).1
      replace h := (cond_ok h).2
      have hw := eqN_eq hw
      subst hw
      rcases hq with ⟨h1, _⟩ | ⟨b', c', cs, T'', h1, h2, h3, h4, h5, _, h6⟩
      · rw [h1] at hval; cases hval
      · rw [h1] at hval; cases hval
        exact key ti (some k) wd off b (i () * wd) (row fun _ => i ()) _ [k] hT (fun d v hd => dvSV_some hk hd)
          (fun j hj => by obtain ⟨u, hu, hd⟩ := h6 (i ()) j hi hj; exact ⟨u, by rw [cell_cells h3]; exact hu, ORel.toDV _ _ _ (fun b hb => hB _ _ _ hi hj hb) hd⟩) hvp h
    · cases h
  · cases h

theorem fieldsOk_at : ∀ {fs : List (Nat × Nat)} {fields : List Field} (i : Nat), fieldsOk P E fs fields → i < fs.length →
    ∃ f j, fields[i]? = some f ∧ f.type = (nthD fs i (0, 0)).1 ∧ f.offset = (nthD fs i (0, 0)).2 ∧ P.info? f.type = some j ∧ j.size = szOf E f.type ∧ j.size ≠ 0
  | [], _, i, _, h => by simp at h
  | _ :: _, [], _, h, _ => by simp [fieldsOk] at h
  | (T, o) :: fs, f :: r, 0, h, _ => by
      simp only [fieldsOk] at h
      obtain ⟨h1, h2, ⟨j, h3, h4, h5⟩, _⟩ := h
      exact ⟨f, j, rfl, by simpa [nthD] using h1, by simpa [nthD] using h2, by rw [h1]; exact h3, by rw [h1]; exact h4, h5⟩
  | p :: fs, f :: r, i + 1, h, hi => by
      simp only [fieldsOk] at h
      simpa [nthD] using fieldsOk_at i h.2.2.2 (by simpa [leN_iff, ltN_iff] using hi)

theorem sound_fieldAddr (hE : EOk P E) {S f : Nat} {p : SV} {vp : Value} (hp : SVRel η G w p vp) (H : Holds dl η G N get ob a w) {sv : SV} {upd : Objs} {rd : List Nat} {obl : Obl}
    (h : evFieldAddr ob (E.ti S) p f = .ok sv upd rd obl) : Looks P η G w (Instr.fieldAt S vp f) sv upd := by
  unfold evFieldAddr at h
  split at h
  · rename_i ti hti
    split at h
    · rename_i fs htd
      have hl := (cond_ok h).1
      replace h := (cond_ok h).2
      obtain ⟨d, hd, ht⟩ := (hE S ti hti).desc
      rw [htd] at ht
      obtain ⟨fields, rfl, hf⟩ := ht
      obtain ⟨fd, j, h1, h2, h3, h4, h5, h6⟩ := fieldsOk_at f hf (by simpa [ltN_iff] using hl)
      have hrun : ∀ b o, (Instr.fieldAt S (.pointer (some ⟨b, o, none⟩)) f).run P w = .ok (.pointer (some ⟨b, o + (nthD fs f (0, 0)).2, none⟩)) w := by
        intro b o
        simp [Instr.fieldAt, run_underlying hd, h1, Instr.sureAddr, fieldPlace, sizeOf, typeInfo, h4, h6, add_none, h3]
      split at h
      · rename_i k off
        simp only [SVRel] at hp
        obtain ⟨o, hk, h1c, hv⟩ := hp
        have hal := (cond_ok h).1
        replace h := (cond_ok h).2
        simp only [OpRes.ok.injEq] at h; obtain ⟨rfl, rfl, _, rfl⟩ := h
        obtain ⟨b, hm, rfl⟩ := hv (alive_of H hal hk)
        refine ⟨rfl, _, hrun b off, ?_⟩
        simp only [SVRel]
        exact ⟨o, hk, rfl, fun _ => ⟨b, hm, rfl⟩⟩
      · rename_i wd cells off
        simp only [SVRel] at hp
        obtain ⟨b, o, rfl, hb, hc⟩ := hp
        simp only [plain, OpRes.ok.injEq] at h; obtain ⟨rfl, rfl, _, rfl⟩ := h
        refine ⟨rfl, _, hrun b _, ?_⟩
        simp only [SVRel]
        exact ⟨b, o, by rw [Nat.add_assoc], hb, hc⟩
      · rename_i k wd cells off
        simp only [SVRel] at hp
        obtain ⟨oi, hk, h1c, hv⟩ := hp
        have hal := (cond_ok h).1
        replace h := (cond_ok h).2
        simp only [OpRes.ok.injEq] at h; obtain ⟨rfl, rfl, _, rfl⟩ := h
        obtain ⟨b, o, rfl, hb, hc⟩ := hv (alive_of H hal hk)
        refine ⟨rfl, _, hrun b _, ?_⟩
        simp only [SVRel]
        exact ⟨oi, hk, rfl, fun _ => ⟨b, o, by rw [Nat.add_assoc], hb, hc⟩⟩
      · rename_i k wd i off
        simp only [SVRel] at hp
        obtain ⟨o, hk, h1c, hv⟩ := hp
        have hal := (cond_ok h).1
        replace h := (cond_ok h).2
        simp only [OpRes.ok.injEq] at h; obtain ⟨rfl, rfl, _, rfl⟩ := h
        obtain ⟨b, hm, hn, rfl⟩ := hv (alive_of H hal hk)
        refine ⟨rfl, _, hrun b _, ?_⟩
        simp only [SVRel]
        exact ⟨o, hk, rfl, fun _ => ⟨b, hm, hn, by rw [Nat.add_assoc]⟩⟩
      · cases h
    · cases h
  · cases h

theorem allOne_rel : ∀ {cs : List SV} {vs : List Value}, SVRels η G w cs vs → allOne cs = true → ∀ v ∈ vs, v.oneCell' = true
  | [], [], _, _, v, hv => by simp at hv
  | [], _ :: _, h, _, _, _ => by simp [SVRels] at h
  | _ :: _, [], h, _, _, _ => by simp [SVRels] at h
  | c :: cs, u :: vs, h, h1, v, hv => by
      simp only [SVRels] at h
      simp only [allOne, Bool.and_eq_true] at h1
      rcases List.mem_cons.1 hv with rfl | hv
      · exact (svOne_rel h.1 h1.1).1
      · exact allOne_rel h.2 h1.2 v hv

theorem box_rel {sv : SV} {v : Value} (h : SVRel η G w sv v) (h1 : svBox sv = true) : SVRels η G w (svCells sv) v.cells.toList := by
  cases sv with
  | agg cs =>
    simp only [SVRel] at h
    obtain ⟨vs, rfl, h⟩ := h
    simpa [svCells, Value.cells] using h
  | _ =>
    obtain ⟨_, h2, h3⟩ := svOne_rel h (by simpa [svBox] using h1)
    rw [h2, h3]
    simp only [SVRels]
    exact ⟨h, trivial⟩

theorem store_cells {sv : SV} {v : Value} (h : SVRel η G w sv v) (h1 : allOne (svCells sv) = true) : SVRels η G w (svCells sv) v.cells.toList := by
  refine box_rel h ?_
  cases sv with
  | agg cs => rfl
  | _ => simpa [svCells, allOne, svBox] using h1

/-- Behind a store. -/
theorem sound_store (hE : EOk P E) (H : Holds dl η G N get ob a w) {T : Nat} {p x : SV} {vp vx : Value} (hp : SVRel η G w p vp) (hx : SVRel η G w x vx) {sv : SV} {upd : Objs} {rd : List Nat} {obl : Obl}
    (h : evStore (E.ti T) ob p x = .ok sv upd rd obl) : ∃ w' η' G', (Instr.storeAt T vp vx).run P w = .ok () w' ∧ After η G w ob sv upd undef η' G' w' := by
  unfold evStore at h
  split at h
  · rename_i ti k off hti
    have hT := hE T ti hti
    simp only [SVRel] at hp
    obtain ⟨o, hk, h1c, hv⟩ := hp
    split at h
    · rename_i T' cs hob
      obtain ⟨o', hk', hr⟩ := obj_of H hob
      rw [hk] at hk'; cases hk'
      simp only [ObjRel] at hr
      obtain ⟨hd, hin, b, vs, hm, hh, hs⟩ := hr
      obtain ⟨b', hm', rfl⟩ := hv hd
      first | (rw [hm] at hm'; cases hm'; done) | (rw [hm] at hm'; cases hm') | (obtain rfl := OInfo.at_one hm hm')
      have hl := (cond_ok h).1
      replace h := (cond_ok h).2
      simp only [Bool.and_eq_true] at hl
      obtain ⟨hl1, hl2, hl3⟩ := hl
      have hl1 := eqN_eq hl1
      have hl2 : off + ti.size ≤ cs.length := by simpa [leN_iff, ltN_iff] using hl2
      simp only [OpRes.ok.injEq] at h; obtain ⟨rfl, rfl, _, rfl⟩ := h
      have hxc := store_cells hx hl3
      have hlen := SVRels.length hxc
      have hvl := SVRels.length hs
      have hst := run_storeCells_at P b off T' vx.cells.toList 0 ⟨vs⟩ w hh (by simp at hlen hvl ⊢; omega) (allOne_rel hxc hl3)
      simp only [Nat.add_zero] at hst
      refine ⟨_, η, G, ?_, after_set H off hk hd hm hin hh hs hxc (by omega) undef⟩
      have hsz : vx.cells.size = ti.size := by simp at hlen; omega
      simp [Instr.storeAt, Instr.sureAddr, storeVar, sizeOf_run hT, hsz]
      simpa [hsz] using hst
    · cases h
  · cases h

theorem sound_alloc (hE : EOk P E) (H : Holds dl η G N get ob a w) {T d : Nat} {old : Value} {sv : SV} {upd : Objs} {rd : List Nat} {obl : Obl}
    (h : evAlloc E d ob T = .ok sv upd rd obl) : ∃ v w' η' G', (Instr.alloc T true old).run P w = .ok v w' ∧ After η G w ob sv upd v η' G' w' := by
  unfold evAlloc at h
  split at h
  · rename_i ti hti hob
    obtain ⟨i, z, h1, h2, h3, h4, h5⟩ := (hE T ti hti).info
    simp only [OpRes.ok.injEq] at h; obtain ⟨rfl, rfl, _, rfl⟩ := h
    refine ⟨.pointer (some ⟨w.heap.size, 0, none⟩), _, _, G, ?_, after_new H hob T (vs := z.cells.toList) (h5 η G w) ?_⟩
    · simp [Instr.alloc, zeroValue, typeInfo, h1, h4, newVar, newRow, newObj, Sem.run]
    · simp only [SVRel]
      exact ⟨_, updE_same _ _ _, rfl, fun _ => ⟨_, ⟨[], rfl⟩, rfl⟩⟩
  · cases h

theorem sound_box (H : Holds dl η G N get ob a w) {T d : Nat} {x : SV} {vx : Value} (hx : SVRel η G w x vx) {sv : SV} {upd : Objs} {rd : List Nat} {obl : Obl}
    (h : evBox d ob T x = .ok sv upd rd obl) : ∃ v w' η' G', (Instr.box T vx).run P w = .ok v w' ∧ After η G w ob sv upd v η' G' w' := by
  unfold evBox at h
  split at h
  · rename_i hob
    have hb := (cond_ok h).1
    replace h := (cond_ok h).2
    simp only [OpRes.ok.injEq] at h; obtain ⟨rfl, rfl, _, rfl⟩ := h
    refine ⟨.pointer (some ⟨w.heap.size, 0, none⟩), _, _, G, ?_, after_new H hob T (vs := vx.cells.toList) (box_rel hx hb) ?_⟩
    · simp [Instr.box, newVar, newRow, newObj, Sem.run]
    · simp only [SVRel]
      exact ⟨_, updE_same _ _ _, rfl, fun _ => ⟨_, ⟨[], rfl⟩, rfl⟩⟩
  · cases h
end
end Go.SX

/- SX, seventh part: conversions, slices, what is built, and all operations together. -/
namespace Go.SX

section
variable {P : Program} {E : Env} {η : OEnv} {G : Nat → Prop} {N : Nat} {dl : List Deferred} {get : Nat → SV} {ob : Nat → Option TObj} {a : Act} {w : World}

def OptRel (η : OEnv) (G : Nat → Prop) (w : World) : Option SV → Option Value → Prop
  | none, none => True
  | some s, some v => SVRel η G w s v
  | _, _ => False

theorem fold_push : ∀ (bs : List UInt8) (s : ByteArray), (bs.map fun x => (x.toNat : Int)).foldl (fun r n => r.push (UInt8.ofNat n.toNat)) s = ⟨s.data ++ bs.toArray⟩
  | [], s => by simp
  | b :: bs, s => by
      simp only [List.map_cons, List.foldl_cons]
      rw [fold_push bs]
      simp [ByteArray.push]

theorem isBytes_run (hE : EOk P E) {T : Nat} (h : isBytes E T = true) : ∃ e, P.underlying T = some (.slice e) ∧ P.underlying e = some (.int .u8) := by
  unfold isBytes at h
  split at h
  · rename_i s hs
    split at h
    · rename_i e hse
      split at h
      · rename_i te hte
        split at h
        · rename_i htd
          obtain ⟨d, hd, ht⟩ := (hE T s hs).desc
          rw [hse] at ht
          simp only [TDOk] at ht
          obtain ⟨d', hd', ht'⟩ := (hE e te hte).desc
          rw [htd] at ht'
          simp only [TDOk] at ht'
          exact ⟨e, by rw [hd, ht], by rw [hd', ht']⟩
        · cases h
      · cases h
    · cases h
  · cases h

theorem run_bytes_str {src dst : Nat} (hs : ∃ e, P.underlying src = some (.slice e) ∧ P.underlying e = some (.int .u8)) (hd : P.underlying dst = some .string)
    {S : Nat → Prop} {bs : Unit → List UInt8} {v : Value} (h : DVRel w S (.bytes bs) v) : (convert src dst v).run P w = .ok (.string ⟨(bs ()).toArray⟩) w := by
  obtain ⟨e, h1, h2⟩ := hs
  simp only [DVRel] at h
  obtain ⟨p, c, rfl, hc, hr⟩ := h
  rw [run_convert_bytes_string w src dst e p _ c h1 h2 hd]
  cases p with
  | none =>
    have : bs () = [] := by
      cases hb : bs () with
      | nil => rfl
      | cons x r => obtain ⟨_, _, h0, _⟩ := hr 0 x (by simp [hb]); cases h0
    simp [Conv.bytesToString, this, ByteArray.empty, ByteArray.emptyWithCapacity]
    rfl
  | some q =>
    have hl : (loadCells q (bs ()).length).run P w = .ok (((bs ()).map fun x => (x.toNat : Int)).map (Value.int .u8)).toArray w := by
      have := run_loadCells_list (P := P) w q (((bs ()).map fun x => (x.toNat : Int)).map (Value.int .u8)) (fun j v hj => by
        simp only [List.map_map, List.getElem?_map] at hj
        cases hb : (bs ())[j]? with
        | none => rw [hb] at hj; cases hj
        | some x =>
          rw [hb] at hj
          obtain ⟨b, o, hq, _, hcell⟩ := hr j x hb
          cases hq
          rw [add_none, hcell]
          simpa using hj)
      simpa using this
    rw [run_bytesToString w q _ c _ hl, fold_push]
    simp [ByteArray.empty, ByteArray.emptyWithCapacity]
    rfl

theorem sound_convert (hE : EOk P E) {src dst : Nat} {x : SV} {v : Value} (hx : SVRel η G w x v) {sv : SV} {upd : Objs} {rd : List Nat} {obl : Obl}
    (h : evConvert E src dst x = .ok sv upd rd obl) : Looks P η G w (convert src dst v) sv upd := by
  unfold evConvert at h
  split at h
  · rename_i s d hs hd
    obtain ⟨ds, hds, _⟩ := (hE src s hs).desc
    obtain ⟨dd, hdd, ht⟩ := (hE dst d hd).desc
    split at h
    · rename_i k htd
      rw [htd] at ht
      simp only [TDOk] at ht
      subst ht
      split at h
      · simp only [SVRel] at hx
        subst hx
        simp only [plain, OpRes.ok.injEq] at h; obtain ⟨rfl, rfl, _, rfl⟩ := h
        rename_i e0 _
        refine ⟨rfl, .int k (k.wrap e0.den), ?_, by simp only [SVRel, IE.den_s]⟩
        simp [convert, run_underlying hds, run_underlying hdd, Conv.intToInt]
      · cases h
    · rename_i htd
      rw [htd] at ht
      simp only [TDOk] at ht
      subst ht
      split at h
      · simp only [SVRel] at hx
        subst hx
        simp only [plain, OpRes.ok.injEq] at h; obtain ⟨rfl, rfl, _, rfl⟩ := h
        refine ⟨rfl, .string _, ?_, by simp only [SVRel]; rfl⟩
        simp [convert, run_underlying hds, run_underlying hdd]
      · have hb := (cond_ok h).1
        replace h := (cond_ok h).2
        simp only [SVRel] at hx
        simp only [plain, OpRes.ok.injEq] at h; obtain ⟨rfl, rfl, _, rfl⟩ := h
        exact ⟨rfl, _, run_bytes_str (isBytes_run hE hb) hdd hx, by simp only [SVRel]⟩
      · have hb := (cond_ok h).1
        replace h := (cond_ok h).2
        simp only [SVRel] at hx
        subst hx
        simp only [plain, OpRes.ok.injEq] at h; obtain ⟨rfl, rfl, _, rfl⟩ := h
        refine ⟨rfl, _, run_bytes_str (isBytes_run hE hb) hdd (S := fun _ => True) (bs := fun _ => []) ?_, by simp only [SVRel]⟩
        simp only [DVRel]
        exact ⟨none, 0, rfl, Nat.le_refl _, by simp⟩
      · cases h
    · cases h
  · cases h

theorem sound_not {x : SV} {v : Value} (hx : SVRel η G w x v) {sv : SV} {upd : Objs} {rd : List Nat} {obl : Obl}
    (h : evNot x = .ok sv upd rd obl) : Looks P η G w (Op.unary .not v) sv upd := by
  unfold evNot at h
  split at h
  all_goals first
    | (simp only [SVRel] at hx; subst hx; simp only [plain, OpRes.ok.injEq] at h; obtain ⟨rfl, rfl, _, rfl⟩ := h; exact ⟨rfl, _, by simp [Op.unary]; rfl, by simp [SVRel]⟩)
    | cases h

theorem sound_nilCheck (H : Holds dl η G N get ob a w) {x : SV} {v : Value} (hx : SVRel η G w x v) {sv : SV} {upd : Objs} {rd : List Nat} {obl : Obl}
    (h : evNilCheck ob x = .ok sv upd rd obl) : upd = [] ∧ (∃ p, v = .pointer (some p)) ∧ SVRel η G w sv v := by
  unfold evNilCheck at h
  split at h
  · have hal := (cond_ok h).1
    replace h := (cond_ok h).2
    simp only [OpRes.ok.injEq] at h; obtain ⟨rfl, rfl, _, rfl⟩ := h
    refine ⟨rfl, ?_, hx⟩
    simp only [SVRel] at hx
    obtain ⟨o, hk, h1, hv⟩ := hx
    obtain ⟨b, _, rfl⟩ := hv (alive_of H hal hk)
    exact ⟨_, rfl⟩
  · cases h

theorem sound_extract {x : SV} {v : Value} {i : Nat} (hx : SVRel η G w x v) {sv : SV} {upd : Objs} {rd : List Nat} {obl : Obl}
    (h : evExtract x i = .ok sv upd rd obl) : Looks P η G w (Instr.extract v i) sv upd := by
  unfold evExtract at h
  split at h
  · have hl := (cond_ok h).1
    replace h := (cond_ok h).2
    simp only [plain, OpRes.ok.injEq] at h; obtain ⟨rfl, rfl, _, rfl⟩ := h
    simp only [SVRel] at hx
    obtain ⟨vs, rfl, hs⟩ := hx
    obtain ⟨u, hu, hr⟩ := SVRels.nth i hs (by simpa [ltN_iff] using hl)
    exact ⟨rfl, u, by simp [Instr.extract, hu], hr⟩
  · cases h

theorem sound_minMax {mx : Bool} {x y : SV} {vx vy : Value} (hx : SVRel η G w x vx) (hy : SVRel η G w y vy) {sv : SV} {upd : Objs} {rd : List Nat} {obl : Obl}
    (h : evMinMax mx [x, y] = .ok sv upd rd obl) : Looks P η G w (bif mx then Builtin.max2 vx vy else Builtin.min2 vx vy) sv upd := by
  unfold evMinMax at h
  split at h
  · rename_i k e k' e' heq
    simp only [List.cons.injEq, and_true] at heq
    obtain ⟨rfl, rfl⟩ := heq
    have hk := ikeq_eq (cond_ok h).1
    replace h := (cond_ok h).2
    subst hk
    simp only [SVRel] at hx hy
    subst hx; subst hy
    simp only [plain, OpRes.ok.injEq] at h; obtain ⟨rfl, rfl, _, rfl⟩ := h
    cases mx
    · exact ⟨rfl, _, by simp only [cond_false, Builtin.min2, Sem.run_pure]; rfl, by simp only [SVRel, IE.den_s, cond_false]⟩
    · exact ⟨rfl, _, by simp only [cond_true, Builtin.max2, Sem.run_pure]; rfl, by simp only [SVRel, IE.den_s, cond_true]⟩
  · cases h

theorem sound_index (hE : EOk P E) {T : Nat} {x i : SV} {vx vi : Value} (hx : SVRel η G w x vx) (hi : SVRel η G w i vi) {sv : SV} {upd : Objs} {rd : List Nat} {obl : Obl}
    (h : evIndex E T x i = .ok sv upd rd obl) (ho : obl.holds) : Looks P η G w (Instr.index T vx vi) sv upd := by
  unfold evIndex at h
  split at h
  · rename_i bs k z
    have hT := isStr_run hE (cond_ok h).1
    replace h := (cond_ok h).2
    simp only [OpRes.ok.injEq] at h; obtain ⟨rfl, rfl, _, rfl⟩ := h
    simp only [Obl.holds, indexObl] at ho
    simp only [SVRel] at hx hi
    subst hx; subst hi
    have hlt : z.den.toNat < (bs ()).length := by omega
    have hg : (⟨(bs ()).toArray⟩ : ByteArray)[z.den.toNat]? = some (bs ())[z.den.toNat] := by
      have hs : z.den.toNat < (⟨(bs ()).toArray⟩ : ByteArray).size := by simpa [ByteArray.size] using hlt
      rw [getElem?_pos (⟨(bs ()).toArray⟩ : ByteArray) z.den.toNat hs]
      rfl
    refine ⟨rfl, .int .u8 ((bs ())[z.den.toNat].toNat : Int), ?_, ?_⟩
    · simp [Instr.index, asIntOf, run_underlying hT, ho.1, hg]
    · simp [SVRel, List.getD, List.getElem?_eq_getElem hlt]
  · cases h

theorem loI_rel {lo : Option SV} {vl : Option Value} {l : IE} (hr : OptRel η G w lo vl) (h : loI lo = some l) :
    (lo = none ∧ vl = none ∧ l = .l 0) ∨ ∃ k, vl = some (.int k l.den) := by
  cases lo with
  | none => cases vl with
    | none => simp [loI] at h; exact .inl ⟨rfl, rfl, h.symm⟩
    | some v => exact hr.elim
  | some s => cases vl with
    | none => exact hr.elim
    | some v =>
      cases s <;> simp only [loI] at h <;> first | cases h | skip
      simp only [OptRel, SVRel] at hr
      exact .inr ⟨_, by rw [hr]⟩

theorem hiI_rel {n : Unit → Nat} {hi : Option SV} {vh : Option Value} {l : IE} (hr : OptRel η G w hi vh) (h : hiI n hi = some l) :
    (hi = none ∧ vh = none ∧ l.den = n ()) ∨ ∃ k, vh = some (.int k l.den) := by
  cases hi with
  | none => cases vh with
    | none => simp [hiI] at h; subst h; exact .inl ⟨rfl, rfl, rfl⟩
    | some v => exact hr.elim
  | some s => cases vh with
    | none => exact hr.elim
    | some v =>
      cases s <;> simp only [hiI] at h <;> first | cases h | skip
      simp only [OptRel, SVRel] at hr
      exact .inr ⟨_, by rw [hr]⟩

theorem run_bounds {sl : Bool} {n c : Nat} {lo hi : Option SV} {vl vh : Option Value} {l h : IE} (hl : loI lo = some l) (hh : hiI (fun _ => n) hi = some h)
    (hrl : OptRel η G w lo vl)
    (hrh : OptRel η G w hi vh) (ho : sliceObl l.den h.den n) (hc : n ≤ c) :
    (Instr.sliceBounds sl n c vl vh none).run P w = .ok (l.den.toNat, h.den.toNat, c) w := by
  obtain ⟨o1, o2, o3⟩ := ho
  have h1 : (0 : Int) ≤ h.den := by omega
  have h2 : h.den ≤ (c : Int) := by omega
  rcases loI_rel hrl hl with ⟨_, rfl, rfl⟩ | ⟨k, rfl⟩ <;> rcases hiI_rel hrh hh with ⟨_, rfl, he⟩ | ⟨k', rfl⟩
  · simp [Instr.sliceBounds, he]
  · simp [Instr.sliceBounds, Instr.sliceBound, asIntOf, h1, h2]
  · have o2' : l.den ≤ (n : Int) := by omega
    simp [Instr.sliceBounds, Instr.sliceBound, asIntOf, he, o1, o2']
  · have e : l.den ≤ ((h.den.toNat : Nat) : Int) := by omega
    have e' : ¬ max h.den 0 < l.den := by omega
    simp [Instr.sliceBounds, Instr.sliceBound, asIntOf, h1, h2, o1, o2, e']

theorem sound_slice (hE : EOk P E) {T : Nat} {x : SV} {vx : Value} {lo hi : Option SV} {vl vh vm : Option Value} {mx : Option SV}
    (hx : SVRel η G w x vx) (hrl : OptRel η G w lo vl)
    (hrh : OptRel η G w hi vh) (hrm : OptRel η G w mx vm)
    {sv : SV} {upd : Objs} {rd : List Nat} {obl : Obl}
    (h : evSlice E T x lo hi mx = .ok sv upd rd obl) (ho : obl.holds) : Looks P η G w (Instr.sliceAt T vx vl vh vm) sv upd := by
  unfold evSlice at h
  split at h
  · cases h
  · have hvm : vm = none := by cases vm with
      | none => rfl
      | some v => exact hrm.elim
    subst hvm
    split at h
    · rename_i bs
      cases hw : elIs E T 1 with
      | false => rw [hw] at h; cases h
      | true =>
        rw [hw] at h
        simp only [Bool.not_true, cond_false] at h
        obtain ⟨e, te, hT, he, hs⟩ := elIs_run hE hw
        split at h
        · rename_i l u hl hu
          simp only [OpRes.ok.injEq] at h; obtain ⟨rfl, rfl, _, rfl⟩ := h
          simp only [Obl.holds] at ho
          simp only [SVRel, DVRel] at hx
          obtain ⟨p, c, rfl, hc, hr⟩ := hx
          have hb := run_bounds (P := P) (w := w) (sl := true) (c := c) hl hu hrl hrh ho hc
          obtain ⟨o1, o2, o3⟩ := ho
          refine ⟨rfl, .slice (if c = l.den.toNat then p else p.map (·.add (l.den.toNat * te.size))) (u.den.toNat - l.den.toNat) (c - l.den.toNat), ?_, ?_⟩
          · simp [Instr.sliceAt, Instr.slice, run_underlying hT, hb, sizeOf_run (hE e te he)]
          · simp only [SVRel, DVRel, cutB]
            have hlen : (((bs ()).drop l.den.toNat).take (u.den.toNat - l.den.toNat)).length = u.den.toNat - l.den.toNat := by simp; omega
            refine ⟨_, _, by rw [hlen], by rw [hlen]; omega, fun i x hix => ?_⟩
            rw [List.getElem?_take] at hix
            split at hix
            · rw [List.getElem?_drop] at hix
              obtain ⟨b, o, rfl, hb', hcell⟩ := hr _ x hix
              have hne : c ≠ l.den.toNat := by omega
              refine ⟨b, o + l.den.toNat, by simp [hne, hs, add_none], hb', by rw [Nat.add_assoc]; exact hcell⟩
            · cases hix
        · cases h
    · rename_i wd n row
      cases hw : elIs E T wd with
      | false => rw [hw] at h; cases h
      | true =>
        rw [hw] at h
        simp only [Bool.not_true, cond_false] at h
        obtain ⟨e, te, hT, he, hs⟩ := elIs_run hE hw
        split at h
        · rename_i l u hl hu
          simp only [OpRes.ok.injEq] at h; obtain ⟨rfl, rfl, _, rfl⟩ := h
          simp only [Obl.holds] at ho
          simp only [SVRel, DVRel] at hx
          obtain ⟨p, c, rfl, hc, hr⟩ := hx
          have hb := run_bounds (P := P) (w := w) (sl := true) (n := n ()) (c := c) hl hu hrl hrh ho hc
          obtain ⟨o1, o2, o3⟩ := ho
          refine ⟨rfl, .slice (if c = l.den.toNat then p else p.map (·.add (l.den.toNat * te.size))) (u.den.toNat - l.den.toNat) (c - l.den.toNat), ?_, ?_⟩
          · simp [Instr.sliceAt, Instr.slice, run_underlying hT, hb, sizeOf_run (hE e te he)]
          · simp only [SVRel, DVRel]
            refine ⟨_, _, rfl, by omega, fun i hi' => ?_⟩
            obtain ⟨b, o, rfl, hb', hr⟩ := hr (l.den.toNat + i) (by omega)
            have hne : c ≠ l.den.toNat := by omega
            refine ⟨b, o + l.den.toNat * wd, by simp [hne, hs, add_none], hb', fun j hj => ?_⟩
            obtain ⟨v, hv, hd⟩ := hr j hj
            exact ⟨v, by rw [show o + l.den.toNat * wd + i * wd + j = o + (l.den.toNat + i) * wd + j by rw [Nat.add_mul]; omega]; exact hv, hd⟩
        · cases h
    · rename_i bs
      cases hw : isStr E T with
      | false => rw [hw] at h; cases h
      | true =>
        rw [hw] at h
        simp only [Bool.not_true, cond_false] at h
        have hT := isStr_run hE hw
        split at h
        · rename_i l u hl hu
          simp only [OpRes.ok.injEq] at h; obtain ⟨rfl, rfl, _, rfl⟩ := h
          simp only [Obl.holds] at ho
          simp only [SVRel] at hx
          subst hx
          have hb := run_bounds (P := P) (w := w) (sl := false) (n := (bs ()).length) (c := (bs ()).length) hl hu hrl hrh ho (Nat.le_refl _)
          refine ⟨rfl, .string ((⟨(bs ()).toArray⟩ : ByteArray).extract l.den.toNat u.den.toNat), ?_, ?_⟩
          · have hsz : (⟨(bs ()).toArray⟩ : ByteArray).size = (bs ()).length := by simp [ByteArray.size]
            simp [Instr.sliceAt, Instr.slice, run_underlying hT, hsz, hb]
          · simp only [SVRel, cutB, Value.string.injEq]
            apply ByteArray.ext
            simp [ByteArray.data_extract, List.take_drop]
        · cases h
    · cases h

theorem run_cut {n c : Nat} {k : IntKind} {z : Int} (h0 : 0 ≤ z) (h1 : z ≤ c) (w : World) : (Instr.sliceBounds true n c none (some (.int k z)) none).run P w = .ok (0, z.toNat, c) w := by
  simp [Instr.sliceBounds, Instr.sliceBound, asInt, asIntOf, h0, h1]

theorem sound_sliceR (hE : EOk P E) {T : Nat} {x : SV} {vx : Value} {lo hi : Option SV} {vl vh vm : Option Value} {mx : Option SV}
    (hx : SVRel η G w x vx) (hrl : OptRel η G w lo vl)
    (hrh : OptRel η G w hi vh) (hrm : OptRel η G w mx vm)
    {sv : SV} {upd : Objs} {rd : List Nat} {obl : Obl}
    (h : evSliceR E T x lo hi mx = .ok sv upd rd obl) (ho : obl.holds) : Looks P η G w (Instr.sliceAt T vx vl vh vm) sv upd := by
  unfold evSliceR at h
  split at h
  · rename_i bs tail
    split at h
    · rename_i k z
      rcases cond_eq h with ⟨hw, h⟩ | ⟨_, h⟩
      · obtain ⟨e, te, hT, he, hs⟩ := elIs_run hE hw
        simp only [OpRes.ok.injEq] at h; obtain ⟨rfl, rfl, _, rfl⟩ := h
        simp only [Obl.holds] at ho
        cases vl with
        | some _ => exact hrl.elim
        | none =>
        cases vm with
        | some _ => exact hrm.elim
        | none =>
        cases vh with
        | none => exact hrh.elim
        | some vh =>
        have hrh : SVRel η G w (.int k z) vh := hrh
        simp only [SVRel] at hrh
        subst hrh
        simp only [SVRel, DVRel] at hx
        obtain ⟨b, o, rfl, hb, hr⟩ := hx
        have hb' := run_cut (P := P) (n := (bs ()).length) (c := (bs ()).length + (tail ()).length) (k := k) ho.1 (by omega) w
        refine ⟨rfl, .slice (some ⟨b, o, none⟩) z.den.toNat ((bs ()).length + (tail ()).length), ?_, ?_⟩
        · simp [Instr.sliceAt, Instr.slice, run_underlying hT, hb', sizeOf_run (hE e te he)]
          intro _; rw [add_none]; rfl
        · simp only [SVRel, DVRel]
          have hlen : ((bs () ++ tail ()).take z.den.toNat).length = z.den.toNat := by simp; omega
          refine ⟨_, _, by rw [hlen], by rw [hlen]; omega, fun i x hix => ?_⟩
          rw [List.getElem?_take] at hix
          split at hix
          · exact ⟨b, o, rfl, hb, hr i x hix⟩
          · cases hix
      · cases h
    · cases h
  · rename_i wd n NN row all
    split at h
    · rename_i k z
      rcases cond_eq h with ⟨hw, h⟩ | ⟨_, h⟩
      · obtain ⟨e, te, hT, he, hs⟩ := elIs_run hE hw
        simp only [OpRes.ok.injEq] at h; obtain ⟨rfl, rfl, _, rfl⟩ := h
        simp only [Obl.holds] at ho
        cases vl with
        | some _ => exact hrl.elim
        | none =>
        cases vm with
        | some _ => exact hrm.elim
        | none =>
        cases vh with
        | none => exact hrh.elim
        | some vh =>
        have hrh : SVRel η G w (.int k z) vh := hrh
        simp only [SVRel] at hrh
        subst hrh
        simp only [SVRel, DVRel] at hx
        obtain ⟨b, o, rfl, hb, hn, -, hr⟩ := hx
        have hb' := run_cut (P := P) (n := n ()) (c := NN ()) (k := k) ho.1 ho.2 w
        refine ⟨rfl, .slice (some ⟨b, o, none⟩) z.den.toNat (NN ()), ?_, ?_⟩
        · simp [Instr.sliceAt, Instr.slice, run_underlying hT, hb', sizeOf_run (hE e te he)]
          intro _; rw [add_none]; rfl
        · simp only [SVRel, DVRel]
          exact ⟨_, _, rfl, by omega, fun i hi => ⟨b, o, rfl, hb, hr i (by omega)⟩⟩
      · cases h
    · cases h
  · exact sound_slice hE hx hrl hrh hrm h ho
end
end Go.SX

/- SX, eighth part: what is built; all operations together. -/
namespace Go.SX

section
variable {P : Program} {E : Env} {η : OEnv} {G : Nat → Prop} {N : Nat} {dl : List Deferred} {get : Nat → SV} {ob : Nat → Option TObj} {a : Act} {w : World}

theorem fold_set (off : Nat) : ∀ (us : List Value) (s : Nat) (cells : Array Value), off + s + us.length ≤ cells.size →
    (us.zipIdx s).foldl (fun (cs : Array Value) (p : Value × Nat) => cs.setIfInBounds (off + p.2) p.1) cells = (cells.toList.take (off + s) ++ us ++ cells.toList.drop (off + s + us.length)).toArray
  | [], s, cells, _ => by simp
  | u :: us, s, cells, h => by
      simp only [List.zipIdx_cons, List.foldl_cons]
      rw [fold_set off us (s + 1) _ (by simp at h ⊢; omega)]
      congr 1
      simp only [Array.toList_setIfInBounds, List.length_cons]
      have := list_seg_step cells.toList (off + s) u us (by simp at h ⊢; omega)
      rw [show off + (s + 1) = off + s + 1 by omega]
      exact this

theorem fill_rel {n : Nat} {place : Nat → Nat × Nat} {place' : Nat → Option (Nat × Nat)} (hp : ∀ i, i < n → place' i = some (place i)) (H : Holds dl η G N get ob a w) :
    ∀ (parts : List (Nat × Operand)) (cs cs' : List SV) (vs : List Value), fillParts get n place parts cs = some cs' → SVRels η G w cs vs →
      ∃ vs', Instr.fill place' ⟨vs⟩ (parts.map fun p => (p.1, a.eval p.2)) = some ⟨vs'⟩ ∧ SVRels η G w cs' vs'
  | [], cs, cs', vs, h, hs => by simp [fillParts] at h; subst h; exact ⟨vs, rfl, hs⟩
  | (i, x) :: r, cs, cs', vs, h, hs => by
      simp only [fillParts] at h
      rcases hc : (ltN i n && (eqN (svCells (opnd get x)).length (place i).2 && (leN ((place i).1 + (place i).2) cs.length && svBox (opnd get x)))) with _ | _
      · rw [hc] at h; cases h
      · rw [hc] at h
        simp only [cond_true] at h
        simp only [Bool.and_eq_true] at hc
        obtain ⟨h1, h2, h3, h4⟩ := hc
        have h1 : i < n := by simpa [ltN_iff] using h1
        have h2 := eqN_eq h2
        have h3 : (place i).1 + (place i).2 ≤ cs.length := by simpa [leN_iff, ltN_iff] using h3
        have hb := box_rel (opnd_rel H x) h4
        have hlen := SVRels.length hb
        have hvl := SVRels.length hs
        have hsz : (a.eval x).cells.size = (place i).2 := by simp at hlen; omega
        have hspl := SVRels.splice (place i).1 hs hb (by omega)
        obtain ⟨vs', hv, hr⟩ := fill_rel hp H r _ cs' _ h hspl
        refine ⟨vs', ?_, hr⟩
        have hfold := fold_set (place i).1 (a.eval x).cells.toList 0 ⟨vs⟩ (by simp at hsz ⊢; omega)
        simp only [Nat.add_zero] at hfold
        have hfold' : Array.foldl (fun (cs : Array Value) (p : Value × Nat) => cs.setIfInBounds ((place i).1 + p.2) p.1) ⟨vs⟩ (a.eval x).cells.zipIdx =
            (vs.take (place i).1 ++ (a.eval x).cells.toList ++ vs.drop ((place i).1 + (a.eval x).cells.toList.length)).toArray := by
          rw [← hfold, ← Array.foldl_toList, Array.toList_zipIdx]
        have hcond : ¬ ((a.eval x).cells.size ≠ (place i).2 || decide ((place i).1 + (a.eval x).cells.size > vs.length)) = true := by
          simp [hsz]; omega
        simp only [List.map_cons, Instr.fill, hp i h1]
        have e1 : (decide ((a.eval x).cells.size ≠ (place i).2) || decide ((place i).1 + (a.eval x).cells.size > (Array.mk vs).size)) = false := by
          simp [hsz]; omega
        simp only [e1]
        exact (congrArg (fun c => Instr.fill place' c (r.map fun p => (p.1, a.eval p.2))) hfold').trans hv

theorem fields_places {fs : List (Nat × Nat)} {fields : List Field} (h : fieldsOk P E fs fields) :
    fields.mapM (fun f => (P.info? f.type).map fun i => (f.offset, i.size)) = some (fs.map fun p => (p.2, szOf E p.1)) := by
  induction fs generalizing fields with
  | nil => cases fields with
    | nil => rfl
    | cons f r => exact h.elim
  | cons p fs ih => cases fields with
    | nil => exact h.elim
    | cons f r =>
      obtain ⟨T, o⟩ := p
      obtain ⟨h1, h2, ⟨j, h3, h4, h5⟩, h6⟩ := h
      simp [List.mapM_cons, h1, h3, h2, h4, ih h6]

theorem map_nthD {α β : Type} (f : α → β) (d : α) : ∀ (l : List α) (i : Nat), i < l.length → (l.map f)[i]? = some (f (nthD l i d))
  | [], i, h => by simp at h
  | x :: l, 0, _ => rfl
  | x :: l, i + 1, h => by simpa [nthD] using map_nthD f d l i (by simpa [leN_iff, ltN_iff] using h)

theorem sound_build (hE : EOk P E) (H : Holds dl η G N get ob a w) {T : Nat} {parts : List (Nat × Operand)} {sv : SV} {upd : Objs} {rd : List Nat} {obl : Obl}
    (h : evBuild E get T parts = .ok sv upd rd obl) : Looks P η G w (Instr.build T (parts.map fun p => (p.1, a.eval p.2)).toArray) sv upd := by
  unfold evBuild at h
  split at h
  · rename_i ti hti
    split at h
    · rename_i fs htd
      split at h
      · rename_i cs hf
        simp only [plain, OpRes.ok.injEq] at h; obtain ⟨rfl, rfl, _, rfl⟩ := h
        obtain ⟨i, z, hi1, hi2, hi3, hi4, hi5⟩ := (hE T ti hti).info
        obtain ⟨d, hd, ht⟩ := (hE T ti hti).desc
        rw [htd] at ht
        obtain ⟨fields, rfl, hfo⟩ := ht
        have hpl := fields_places hfo
        obtain ⟨vs', hv, hr⟩ := fill_rel (place' := fun i => ((fs.map fun p => (p.2, szOf E p.1)).toArray)[i]?) (place := fun i => ((nthD fs i (0, 0)).2, szOf E (nthD fs i (0, 0)).1))
          (fun i hi => by
            have := map_nthD (fun p : Nat × Nat => (p.2, szOf E p.1)) (0, 0) fs i hi
            simpa using this) H parts ti.zero cs z.cells.toList hf (hi5 η G w)
        refine ⟨rfl, .agg ⟨vs'⟩, run_build w T _ ⟨vs'⟩ ?_, by simp only [SVRel]; exact ⟨vs', rfl, hr⟩⟩
        unfold Program.built
        rw [hi1, hd]
        simp only [hi4, hpl]
        exact hv
      · cases h
    · cases h
  · cases h

theorem SVRels.of_nth : ∀ {cs : List SV} {vs : List Value}, vs.length = cs.length → (∀ i v, vs[i]? = some v → SVRel η G w (nthD cs i .any) v) → SVRels η G w cs vs
  | [], [], _, _ => by simp [SVRels]
  | [], _ :: _, h, _ => by simp at h
  | _ :: _, [], h, _ => by simp at h
  | c :: cs, v :: vs, h, hn => by
      simp only [SVRels]
      exact ⟨by simpa [nthD] using hn 0 v rfl, SVRels.of_nth (by simpa [leN_iff, ltN_iff] using h) fun i u hu => by simpa [nthD] using hn (i + 1) u (by simpa [leN_iff, ltN_iff] using hu)⟩

theorem repL_length {α : Type} (n : Nat) (l : List α) : (repL n l).length = n * l.length := by
  induction n with
  | zero => simp [repL]
  | succ n ih => simp [repL, ih, Nat.add_mul, Nat.add_comm]

theorem nthD_append {α : Type} (d : α) : ∀ (l r : List α) (i : Nat), nthD (l ++ r) i d = if i < l.length then nthD l i d else nthD r (i - l.length) d
  | [], r, i => by simp
  | x :: l, r, 0 => by simp [nthD]
  | x :: l, r, i + 1 => by simp [nthD, nthD_append d l r i]

theorem nthD_repL {α : Type} (d : α) (l : List α) (hl : 0 < l.length) : ∀ (n i : Nat), i < n * l.length → nthD (repL n l) i d = nthD l (i % l.length) d
  | 0, i, h => by simp at h
  | n + 1, i, h => by
      simp only [repL, nthD_append]
      split
      · rename_i hi; rw [Nat.mod_eq_of_lt hi]
      · rename_i hi
        rw [nthD_repL d l hl n (i - l.length) (by rw [Nat.add_mul] at h; omega)]
        exact congrArg (nthD l · d) (Nat.mod_eq_sub_mod (by omega)).symm

theorem sound_buildSlice (hE : EOk P E) (H : Holds dl η G N get ob a w) {T d len : Nat} {parts : List (Nat × Operand)} {sv : SV} {upd : Objs} {rd : List Nat} {obl : Obl}
    (h : evBuildSlice E d get ob T len parts = .ok sv upd rd obl) : ∃ v w' η' G', (Instr.buildSlice T len (parts.map fun p => (p.1, a.eval p.2)).toArray).run P w = .ok v w' ∧ After η G w ob sv upd v η' G' w' := by
  unfold evBuildSlice at h
  split at h
  · rename_i ti hti
    split at h
    · rename_i e htd
      split at h
      · rename_i te hte hob
        split at h
        · rename_i cs hf
          have hb := (cond_ok h).1
          replace h := (cond_ok h).2
          have hb : len * te.size ≤ 1000000 := by simpa [leN_iff, ltN_iff] using hb
          simp only [OpRes.ok.injEq] at h; obtain ⟨rfl, rfl, _, rfl⟩ := h
          obtain ⟨i, z, hi1, hi2, hi3, hi4, hi5⟩ := (hE e te hte).info
          have hzl := (hE e te hte).zlen
          obtain ⟨d', hd, ht⟩ := (hE T ti hti).desc
          rw [htd] at ht
          simp only [TDOk] at ht
          subst ht
          have hzs := SVRels.length (hi5 η G w)
          have hzsz : z.cells.size = te.size := by simp at hzs; omega
          -- the cells ahead of the parts
          have hrep : ∀ (zero : Array Value), (len * te.size = 0 → zero = #[]) → (len * te.size ≠ 0 → zero = z.cells) →
              SVRels η G w (repL len te.zero) ((Array.range (len * te.size)).map fun i => zero[i % zero.size]!).toList := by
            intro zero h0 h1
            refine SVRels.of_nth (by simp [repL_length, hzl]) fun i v hv => ?_
            simp only [Array.toList_map, Array.toList_range, List.getElem?_map] at hv
            by_cases hlt : i < len * te.size
            · rw [List.getElem?_range hlt] at hv
              simp only [Option.map_some, Option.some.injEq] at hv
              have hpos : 0 < te.size := Nat.pos_of_ne_zero fun e => by rw [e] at hlt; simp at hlt
              rw [h1 (by omega)] at hv
              rw [nthD_repL .any te.zero (by omega) len i (by rw [hzl]; exact hlt), hzl]
              obtain ⟨u, hu, hr⟩ := SVRels.nth (i % te.size) (hi5 η G w) (by rw [hzl]; exact Nat.mod_lt _ hpos)
              have hm := Nat.mod_lt i hpos
              rw [hzsz, getElem!_pos z.cells _ (by omega)] at hv
              simp only [Array.getElem?_toList, Array.getElem?_eq_getElem (show i % te.size < z.cells.size by omega)] at hu
              cases hu
              rw [← hv]; exact hr
            · rw [List.getElem?_eq_none (by simp; omega)] at hv; cases hv
          obtain ⟨zero, hz0, hz1, hzr⟩ : ∃ zero : Array Value, (len * te.size = 0 → zero = #[]) ∧ (len * te.size ≠ 0 → zero = z.cells) ∧
              (if len * te.size = 0 then (pure #[] : Sem (Array Value)) else do pure (← zeroValue e).cells).run P w = .ok zero w := by
            by_cases hz : len * te.size = 0
            · exact ⟨#[], fun _ => rfl, fun h => absurd hz h, by simp [hz]⟩
            · exact ⟨z.cells, fun h => absurd h hz, fun _ => rfl, by simp [hz, zeroValue, typeInfo, hi1, hi4]⟩
          obtain ⟨vs', hv, hr⟩ := fill_rel (place' := fun i => some (i * te.size, te.size)) (place := fun i => (i * te.size, te.size)) (fun i _ => rfl) H parts _ cs _ hf (hrep zero hz0 hz1)
          have hbig : ¬ (len * te.size > 2 ^ 24) := by omega
          refine ⟨.slice (some ⟨w.heap.size, 0, none⟩) len len, _, _, G, ?_, after_new H hob e (vs := vs') hr ?_⟩
          · have hv' : Instr.fill (fun i => some (i * te.size, te.size)) ((Array.range (len * te.size)).map fun i => zero[i % zero.size]!) (parts.map fun p => (p.1, a.eval p.2)) = some ⟨vs'⟩ := hv
            have hbig' : ¬ (16777216 < len * te.size) := by omega
            by_cases hz : len * te.size = 0
            · have hz' := hz0 hz
              subst hz'
              simp [hz] at hv'
              simp [Instr.buildSlice, run_underlying hd, sizeOf_run (hE e te hte), hz, hv', newRow, newObj, Sem.run]
            · have hz' := hz1 hz
              subst hz'
              have hzv : (zeroValue e).run P w = .ok z w := by simp [zeroValue, typeInfo, hi1, hi4]
              simp only [Instr.buildSlice, Sem.run_bind, run_underlying hd, Result.andThen_ok, sizeOf_run (hE e te hte), hbig, if_false, hz, hzv, Sem.run_pure]
              rw [hv']
              simp [newRow, newObj, Sem.run]
          · simp only [SVRel]
            exact ⟨_, updE_same _ _ _, rfl, fun _ => ⟨_, ⟨[], rfl⟩, rfl⟩⟩
        · cases h
      · cases h
    · cases h
  · cases h
end
end Go.SX

/- SX: append. -/
namespace Go.SX

/-- A row that is the call's own, as 'append' takes it. -/
def OwnsV (w : World) (e size : Nat) (v : Value) (n : Nat) (xs : List Value) : Prop :=
  xs.length = n * size ∧ ((v = .slice none 0 0 ∧ n = 0) ∨
    ∃ g cap cur, v = .slice (some ⟨g, 0, none⟩) n cap ∧ w.heap[g]? = some (.cells cur e (0, 0)) ∧ n ≤ cap ∧ cap ≤ maxLen ∧ cur.size = cap * size ∧ cur.toList.take (n * size) = xs)

theorem run_append_zero {P : Program} {t ty e : TypeId} {i : TypeInfo} (ht : P.underlying t = some (.slice e)) (hi : P.info? e = some i) {w : World} {v : Value} {p : Option Addr} {n c c' : Nat} (hv : v = .slice p n c) (hn : n ≤ c) (p' : Option Addr) :
    (Builtin.append_ #[t, t] ty #[v, .slice p' 0 c']).run P w = .ok v w := by
  subst hv
  cases p <;> simp [Builtin.append_, run_underlying ht, sizeOf, typeInfo, hi, Builtin.lenOf, Builtin.firstCells, hn, loadCells, loadCellsFrom, storeCells] <;> cases p' <;> simp [loadCells, loadCellsFrom, storeCells]

theorem run_append_sx {P : Program} {w : World} (t ty e : TypeId) (i : TypeInfo) (z : Value) (ht : P.underlying t = some (.slice e)) (hi : P.info? e = some i) (hz : i.zero = some z)
    (hzs : z.cells.size = i.size) (hsz : 0 < i.size) (hbz : 0 < i.bytes)
    (v : Value) (n : Nat) (xs : List Value) (hown : OwnsV w e i.size v n xs)
    (p : Option Addr) (m c : Nat) (news : List Value) (hp : m ≠ 0 → ∃ a, p = some a ∧ ∀ j u, news[j]? = some u → w.cell? (a.add j) = some u) (hl : news.length = m * i.size) (h1 : ∀ u ∈ news, u.oneCell' = true)
    (hbytes : (n + m) * i.bytes ≤ 140737488355328) :
    ∃ v' w', (Builtin.append_ #[t, t] ty #[v, .slice p m c]).run P w = .ok v' w' ∧ w'.os = w.os ∧ w'.tape = w.tape ∧ w'.output = w.output ∧ w.heap.size ≤ w'.heap.size ∧
      (∀ b, b < w.heap.size → v.ownBlock ≠ some b → w'.heap[b]? = w.heap[b]?) ∧ OwnsV w' e i.size v' (n + m) (xs ++ news) ∧ (∀ g, v'.ownBlock = some g → w.heap.size ≤ g ∨ v.ownBlock = some g) := by
  have h63 : n + m ≤ maxLen := by
    have : (n + m) * 1 ≤ (n + m) * i.bytes := Nat.mul_le_mul_left _ hbz
    simp only [maxLen]; omega
  by_cases hm : m = 0
  · subst hm
    have hn0 : news = [] := List.eq_nil_of_length_eq_zero (by simpa [leN_iff, ltN_iff] using hl)
    subst hn0
    have hv : ∃ p n c, v = .slice p n c ∧ n ≤ c := by
      rcases hown.2 with ⟨rfl, rfl⟩ | ⟨g, cap, cur, rfl, _, h, _⟩
      · exact ⟨none, 0, 0, rfl, Nat.le_refl _⟩
      · exact ⟨_, _, _, rfl, h⟩
    obtain ⟨p', n', c', hv, hle⟩ := hv
    exact ⟨v, w, run_append_zero ht hi hv hle p, rfl, rfl, rfl, Nat.le_refl _, fun _ _ _ => rfl, by simpa [leN_iff, ltN_iff] using hown, fun g hg => .inr hg⟩
  · obtain ⟨a, rfl, hnews⟩ := hp hm
    obtain ⟨hxl, hown⟩ := hown
    have hlen : (xs ++ news).length = (n + m) * i.size := by rw [List.length_append, hxl, hl, Nat.add_mul]
    have grown : ∀ (old : Nat), old < n + m →
        OwnsV (w.drew.alloc (.cells (xs.toArray ++ news.toArray ++ Builtin.zeroCells z.cells (grownCap w (n + m) old e - (n + m))) e)) e i.size
          (.slice (some ⟨w.heap.size, 0, none⟩) (n + m) (grownCap w (n + m) old e)) (n + m) (xs ++ news) := by
      intro old ho
      have hge := grownCap_ge w (n + m) old e
      refine ⟨hlen, .inr ⟨w.heap.size, _, _, rfl, heap_alloc_new w.drew _, hge, grownCap_le_maxLen w (n + m) old e h63, ?_, ?_⟩⟩
      · simp only [Array.size_append, List.size_toArray, size_zeroCells, hzs, hxl, hl, ← Nat.add_mul]
        congr 1
        omega
      · simp only [Array.toList_append, List.append_assoc]
        rw [← List.append_assoc, ← hlen]
        exact List.take_left
    rcases hown with ⟨rfl, rfl⟩ | ⟨g, cap, cur, rfl, hg, hnc, hcm, hcs, htake⟩
    · have hx : xs = [] := List.eq_nil_of_length_eq_zero (by simpa [leN_iff, ltN_iff] using hxl)
      subst hx
      have hr := run_append_nil (P := P) w t ty e i z ht hi hz a m c news hl hnews (by omega) (by simp only [maxLen] at h63; omega) (by have hb := hbytes; simp only [Nat.zero_add] at hb; omega)
      have hgr := grown 0 (by omega)
      simp only [Nat.zero_add, List.nil_append, Array.empty_append] at hgr ⊢
      refine ⟨_, _, hr, rfl, rfl, rfl, by simp, fun b hb _ => heap_alloc_old w.drew _ b hb, hgr, fun g hg => .inl ?_⟩
      simp [Value.ownBlock] at hg
      omega
    · by_cases hroom : n + m ≤ cap
      · have hfit : n * i.size + news.length ≤ cur.size := by rw [hl, hcs, ← Nat.add_mul]; exact Nat.mul_le_mul_right _ hroom
        have hr := run_append_room (P := P) w t ty e i ht hi g n cap cur hg a m c news hl hnews h1 hroom hfit
        refine ⟨_, _, hr, rfl, rfl, rfl, by simp, fun k _ hk => setRow_other w g k _ (fun e => hk (by simp [Value.ownBlock, e])), ⟨hlen, .inr ⟨g, cap, _, rfl, setRow_heap w g cur _ e _ hg, hroom, hcm, ?_, ?_⟩⟩, fun g' hg' => .inr ?_⟩
        · simp only [List.size_toArray, List.length_append, List.length_take, List.length_drop, Array.length_toList]
          omega
        · rw [htake, ← hlen]
          exact List.take_left
        · simpa [Value.ownBlock] using hg'
      · have holds : ∀ j u, xs[j]? = some u → w.cell? ((⟨g, 0, none⟩ : Addr).add j) = some u := by
          intro j u hu
          have hadd : (⟨g, 0, none⟩ : Addr).add j = ⟨g, j, none⟩ := by unfold Addr.add; split <;> simp_all
          rw [hadd, cell_of_row w g j cur e (0, 0) hg]
          rw [← htake, List.getElem?_take] at hu
          split at hu
          · simpa using hu
          · cases hu
        have hr := run_append_grow (P := P) w t ty e i z ht hi hz ⟨g, 0, none⟩ n cap xs hxl holds a m c news hl hnews (by omega) (by simp only [maxLen] at h63; omega) (growslice_fits (by omega) hbytes)
        refine ⟨_, _, hr, rfl, rfl, rfl, by simp, fun b hb _ => heap_alloc_old w.drew _ b hb, grown cap (by omega), fun g' hg' => .inl ?_⟩
        simp [Value.ownBlock] at hg'
        omega

section
variable {P : Program} {E : Env} {η : OEnv} {G : Nat → Prop} {N : Nat} {dl : List Deferred} {get : Nat → SV} {ob : Nat → Option TObj} {a : Act} {w : World}

def deadInfo : OInfo := ⟨.slice none 0 0, [], [], true⟩

def killE (η : OEnv) (ks : List Nat) : OEnv := fun k => if k ∈ ks then (η k).map fun _ => deadInfo else η k

theorem killE_in {ks : List Nat} {k : Nat} {o : OInfo} (h : killE η ks k = some o) : (k ∈ ks ∧ o = deadInfo ∧ ∃ o₀, η k = some o₀) ∨ (k ∉ ks ∧ η k = some o) := by
  unfold killE at h
  split at h
  · rename_i hk
    cases hη : η k with
    | none => rw [hη] at h; cases h
    | some o₀ => rw [hη] at h; cases h; exact .inl ⟨hk, rfl, o₀, rfl⟩
  · rename_i hk; exact .inr ⟨hk, h⟩

theorem killE_some {ks : List Nat} {k : Nat} {o : OInfo} (h : η k = some o) : ∃ o', killE η ks k = some o' ∧ (o'.dead = false → k ∉ ks ∧ o' = o) := by
  unfold killE
  split
  · rename_i hk; rw [h]; exact ⟨deadInfo, rfl, fun h => by simp [deadInfo] at h⟩
  · rename_i hk; exact ⟨o, h, fun _ => ⟨hk, rfl⟩⟩

/-- Objects are taken, a new one is made of their blocks and of new ones. -/
structure Takes (η : OEnv) (w : World) (ks : List Nat) (w' : World) (o : OInfo) : Prop where
  os : w'.os = w.os
  tape : w'.tape = w.tape
  out : w'.output = w.output
  size : w.heap.size ≤ w'.heap.size
  keep : ∀ b, b < w.heap.size → (∀ k ∈ ks, ∀ o, η k = some o → b ∉ o.main ++ o.inner) → w'.heap[b]? = w.heap[b]?
  blk : ∀ b ∈ o.main ++ o.inner, b < w'.heap.size ∧ (w.heap.size ≤ b ∨ ∃ k ∈ ks, ∃ o', η k = some o' ∧ b ∈ o'.main ++ o'.inner)
  mi : ∀ b ∈ o.main, b ∉ o.inner

theorem Takes.evol (H : Holds dl η G N get ob a w) {d : Nat} (hd : ob d = none) {ks : List Nat} {w' : World} {o : OInfo} (T : Takes η w ks w' o) : Evol η G w (updE (killE η ks) d o) G w' := by
  have hn := none_of H hd
  refine ⟨T.os, T.tape, T.out, T.size, fun b hb hn => T.keep b hb fun k _ o ho => hn k o ho, ?_, fun _ h => h, fun _ h => .inl h, ?_⟩
  · intro k o₀ ho
    have hk : k ≠ d := fun e => by rw [e, hn] at ho; cases ho
    obtain ⟨o', ho', hd'⟩ := killE_some (ks := ks) ho
    refine ⟨o', by rw [updE_other _ _ hk]; exact ho', fun hdd => ?_⟩
    obtain ⟨hnk, rfl⟩ := hd' hdd
    refine ⟨hdd, rfl, Ext.refl _, fun b hb => ⟨hb, T.keep b (H.sp.lt k _ ho b (by simp [hb])).1 fun k' hk' o' ho' hm => ?_⟩⟩
    exact H.sp.dj k _ k' o' ho ho' (fun e => hnk (e ▸ hk')) b (by simp [hb]) hm
  · intro k o₁ ho b hb
    by_cases hk : k = d
    · subst hk
      rw [updE_same] at ho
      cases ho
      rcases (T.blk b hb).2 with h | ⟨k', hk', o', ho', hb'⟩
      · exact .inl h
      · exact .inr ⟨k', o', ho', hb'⟩
    · rw [updE_other _ _ hk] at ho
      rcases killE_in ho with ⟨_, rfl, _⟩ | ⟨_, ho⟩
      · simp [deadInfo] at hb
      · exact .inr ⟨k, o₁, ho, hb⟩

theorem updF_append (ob : Nat → Option TObj) : ∀ (l m : Objs), updF ob (l ++ m) = updF (updF ob l) m
  | [], m => rfl
  | (k, x) :: l, m => by simp only [List.cons_append, updF]; exact updF_append _ l m

theorem updF_kill (ob : Nat → Option TObj) : ∀ (ks : List Nat) (k : Nat), updF ob (killN ks) k = if k ∈ ks then some .dead else ob k
  | [], k => by simp [killN, updF]
  | j :: r, k => by
      simp only [killN, updF]
      rw [updF_kill _ r k]
      by_cases h : k ∈ r
      · simp [h]
      · by_cases h' : k = j
        · simp [h, h']
        · simp [h, h']

theorem after_take (H : Holds dl η G N get ob a w) {d : Nat} (hd : ob d = none) {ks : List Nat} (hks : ∀ k ∈ ks, ob k ≠ none) {w' : World} {o : OInfo} (T : Takes η w ks w' o) {X : TObj}
    (hX : Mono η G w (updE (killE η ks) d o) G w' → ObjRel (updE (killE η ks) d o) G w' X o) {sv : SV} {v : Value} (hsv : SVRel (updE (killE η ks) d o) G w' sv v) :
    After η G w ob sv (killN ks ++ [(d, X)]) v (updE (killE η ks) d o) G w' := by
  have hev := T.evol H hd
  have hM := hev.mono H.sp
  have hn := none_of H hd
  refine ⟨hsv, fun k => ?_, ⟨?_, ?_, ?_, ?_⟩, hev⟩
  · rw [updF_append]
    simp only [updF]
    by_cases hk : k = d
    · subst hk
      simp only [if_true, updE_same, ObjOpt]
      exact hX hM
    · simp only [if_neg hk, updE_other _ _ hk, updF_kill]
      have hob := H.ob k
      by_cases hkk : k ∈ ks
      · rw [if_pos hkk]
        unfold killE
        rw [if_pos hkk]
        cases h1 : ob k with
        | none => exact absurd h1 (hks k hkk)
        | some x =>
          rw [h1] at hob
          cases h2 : η k with
          | none => rw [h2] at hob; exact hob.elim
          | some o₀ => simp only [Option.map_some, ObjOpt, ObjRel, deadInfo]; exact ⟨trivial, trivial, trivial⟩
      · rw [if_neg hkk]
        unfold killE
        rw [if_neg hkk]
        cases h1 : ob k with
        | none => cases h2 : η k with
          | none => trivial
          | some o => rw [h1, h2] at hob; exact hob.elim
        | some x => cases h2 : η k with
          | none => rw [h1, h2] at hob; exact hob.elim
          | some o₀ =>
            rw [h1, h2] at hob
            refine ObjRel.mono hM (fun b hb => T.keep b (H.sp.lt k o₀ h2 b hb).1 fun k' hk' o' ho' hm => ?_) hob
            exact H.sp.dj k o₀ k' o' h2 ho' (fun e => hkk (e ▸ hk')) b hb hm
  · intro k o₁ ho b hb
    by_cases hk : k = d
    · subst hk
      rw [updE_same] at ho
      cases ho
      obtain ⟨h1, h2⟩ := T.blk b hb
      refine ⟨h1, fun hg => ?_⟩
      rcases h2 with h2 | ⟨k', _, o', ho', hb'⟩
      · exact absurd (H.sp.glt b hg) (by omega)
      · exact (H.sp.lt k' o' ho' b hb').2 hg
    · rw [updE_other _ _ hk] at ho
      rcases killE_in ho with ⟨_, rfl, _⟩ | ⟨_, ho⟩
      · simp [deadInfo] at hb
      · have := H.sp.lt k o₁ ho b hb
        exact ⟨by have := T.size; omega, this.2⟩
  · intro k o₁ k' o₂ ho ho' hne b hb hb'
    by_cases hk : k = d
    · subst hk
      rw [updE_same] at ho
      cases ho
      rw [updE_other _ _ (Ne.symm hne)] at ho'
      rcases killE_in ho' with ⟨_, rfl, _⟩ | ⟨hnk, ho'⟩
      · simp [deadInfo] at hb'
      · rcases (T.blk b hb).2 with h | ⟨k₁, hk₁, o₃, ho₃, hb₃⟩
        · exact absurd (H.sp.lt k' o₂ ho' b hb').1 (by omega)
        · exact H.sp.dj k₁ o₃ k' o₂ ho₃ ho' (fun e => hnk (e ▸ hk₁)) b hb₃ hb'
    · rw [updE_other _ _ hk] at ho
      rcases killE_in ho with ⟨_, rfl, _⟩ | ⟨hnk, ho⟩
      · simp [deadInfo] at hb
      · by_cases hk' : k' = d
        · subst hk'
          rw [updE_same] at ho'
          cases ho'
          rcases (T.blk b hb').2 with h | ⟨k₁, hk₁, o₃, ho₃, hb₃⟩
          · exact absurd (H.sp.lt k o₁ ho b hb).1 (by omega)
          · exact H.sp.dj k₁ o₃ k o₁ ho₃ ho (fun e => hnk (e ▸ hk₁)) b hb₃ hb
        · rw [updE_other _ _ hk'] at ho'
          rcases killE_in ho' with ⟨_, rfl, _⟩ | ⟨_, ho'⟩
          · simp [deadInfo] at hb'
          · exact H.sp.dj k o₁ k' o₂ ho ho' hne b hb hb'
  · intro k o₁ ho b hb
    by_cases hk : k = d
    · subst hk
      rw [updE_same] at ho
      cases ho
      exact T.mi b hb
    · rw [updE_other _ _ hk] at ho
      rcases killE_in ho with ⟨_, rfl, _⟩ | ⟨_, ho⟩
      · simp [deadInfo] at hb
      · exact H.sp.mi k o₁ ho b hb
  · intro b hb
    have := H.sp.glt b hb
    have := T.size
    omega
end
end Go.SX

/- SX: append, sound. -/
namespace Go.SX

section
variable {P : Program} {E : Env} {η : OEnv} {G : Nat → Prop} {N : Nat} {dl : List Deferred} {get : Nat → SV} {ob : Nat → Option TObj} {a : Act} {w : World}

def u8v (x : UInt8) : Value := .int .u8 (x.toNat : Int)

theorem take_bytes {cs : Array Value} {bs : List UInt8} (h : ∀ (i : Nat) (x : UInt8), bs[i]? = some x → cs[i]? = some (.int .u8 (x.toNat : Int))) (hs : bs.length ≤ cs.size) : cs.toList.take (bs.length * 1) = bs.map u8v := by
  apply List.ext_getElem?
  intro i
  rw [Nat.mul_one, List.getElem?_take, List.getElem?_map]
  split
  · rename_i hi
    have := h i bs[i] (List.getElem?_eq_getElem hi)
    rw [List.getElem?_eq_getElem hi]
    simpa [u8v] using this
  · rename_i hi
    rw [List.getElem?_eq_none (by omega)]; rfl

/-- The blocks of a row that objects own. -/
def BaseOf (η : OEnv) (ks : List Nat) (v : Value) : Prop := ∀ g, v.ownBlock = some g → ∃ k ∈ ks, ∃ o, η k = some o ∧ o.main = [g]

theorem base_blk (H : Holds dl η G N get ob a w) {k e wd n : Nat} {o : OInfo} {Q : Array Value → Prop} (hk : η k = some o) (hq : ownsBlk w o e wd n Q) (he : 0 < e) :
    ∃ xs, OwnsV w e wd o.val n xs ∧ BaseOf η [k] o.val ∧ (n = 0 ∨ ∃ cs : Array Value, Q cs ∧ cs.toList.take (n * wd) = xs ∧ n * wd ≤ cs.size) := by
  rcases hq with ⟨hv, hn, _⟩ | ⟨b, c, cs, T, hv, hm, hh, ⟨hs, hT⟩, hc, hcm, hQ⟩
  · refine ⟨[], ⟨by simp [hn], .inl ⟨hv, hn⟩⟩, fun g hg => ?_, .inl hn⟩
    rw [hv] at hg; cases hg
  · have hT := hT.resolve_left (by omega)
    subst hT
    have hle : n * wd ≤ cs.size := by rw [hs]; exact Nat.mul_le_mul_right _ hc
    refine ⟨cs.toList.take (n * wd), ⟨by simp; omega, .inr ⟨b, c, cs, hv, hh, hc, hcm, hs, rfl⟩⟩, fun g hg => ?_, .inr ⟨cs, hQ, rfl, hle⟩⟩
    rw [hv] at hg
    simp [Value.ownBlock] at hg
    subst hg
    exact ⟨k, by simp, o, hk, hm⟩

theorem base_csl (H : Holds dl η G N get ob a w) {k T wd : Nat} {v : Value} (hob : ob k = some (.cells T [])) (hx : SVRel η G w (.csl k wd 0) v) (sz : Nat) : OwnsV w T sz v 0 [] ∧ BaseOf η [k] v := by
  obtain ⟨o, hk, hr⟩ := obj_of H hob
  simp only [ObjRel] at hr
  obtain ⟨hd, hin, b, vs, hm, hh, hs⟩ := hr
  simp only [SVRel] at hx
  obtain ⟨o', hk', _, hv⟩ := hx
  rw [hk] at hk'; cases hk'
  obtain ⟨b', hm', rfl⟩ := hv hd
  first | (rw [hm] at hm'; cases hm'; done) | (rw [hm] at hm'; cases hm') | (obtain rfl := OInfo.at_one hm hm')
  have hl := SVRels.length hs
  have hvs : vs = [] := List.eq_nil_of_length_eq_zero (by simpa [leN_iff, ltN_iff] using hl)
  subst hvs
  refine ⟨⟨by simp, .inr ⟨b, 0, #[], rfl, hh, Nat.le_refl _, Nat.zero_le _, by simp, by simp⟩⟩, fun g hg => ?_⟩
  simp [Value.ownBlock] at hg
  subst hg
  exact ⟨k, by simp, o, hk, hm⟩

theorem baseB_ok (H : Holds dl η G N get ob a w) {e : Nat} {x : SV} {v : Value} (hx : SVRel η G w x v) {ks : List Nat} {bs : Unit → List UInt8} (h : baseB e ob x = some (ks, bs)) :
    OwnsV w e 1 v (bs ()).length ((bs ()).map u8v) ∧ BaseOf η ks v ∧ (∀ k ∈ ks, ob k ≠ none) := by
  unfold baseB at h
  split at h
  · cases h
    simp only [SVRel] at hx
    subst hx
    exact ⟨⟨by simp, .inl ⟨rfl, rfl⟩⟩, (fun g hg => by cases hg), by simp⟩
  · rename_i k
    split at h
    · rename_i T bs' hob
      cases hc : (eqN T e && ltN 0 e) with
      | false => rw [hc] at h; cases h
      | true =>
        rw [hc] at h
        simp only [cond_true, Option.some.injEq, Prod.mk.injEq] at h
        obtain ⟨rfl, rfl⟩ := h
        simp only [Bool.and_eq_true] at hc
        have := eqN_eq hc.1
        subst this
        have he : 0 < T := by simpa [ltN_iff] using hc.2
        obtain ⟨o, hk, hr⟩ := obj_of H hob
        simp only [ObjRel] at hr
        obtain ⟨hd, hin, hq⟩ := hr
        simp only [SVRel] at hx
        obtain ⟨o', hk', _, hv⟩ := hx
        rw [hk] at hk'; cases hk'
        have hv := hv hd
        subst hv
        obtain ⟨xs, h1, h2, h3⟩ := base_blk H hk hq he
        refine ⟨?_, h2, by simp [hob]⟩
        have hxs : xs = (bs' ()).map u8v := by
          rcases h3 with h0 | ⟨cs, hQ, ht, hle⟩
          · have : xs = [] := List.eq_nil_of_length_eq_zero (by rw [h1.1, h0])
            rw [this, List.eq_nil_of_length_eq_zero h0]; rfl
          · rw [← ht, take_bytes hQ (by omega)]
        rw [← hxs]; exact h1
    · cases h
  · rename_i k wd n
    split at h
    · rename_i T hob
      cases hc : (eqN T e && ltN 0 e && eqN n 0 && eqN wd 1) with
      | false => rw [hc] at h; cases h
      | true =>
        rw [hc] at h
        simp only [cond_true, Option.some.injEq, Prod.mk.injEq] at h
        obtain ⟨rfl, rfl⟩ := h
        simp only [Bool.and_eq_true] at hc
        have := eqN_eq hc.1.1.1
        subst this
        have := eqN_eq hc.1.2
        subst this
        obtain ⟨h1, h2⟩ := base_csl H hob hx 1
        exact ⟨h1, h2, by simp [hob]⟩
    · cases h
  · cases h

theorem add_at (b o j : Nat) : (⟨b, o, none⟩ : Addr).add j = ⟨b, o + j, none⟩ := add_none b o j

/-- A slice whose cells can be read. -/
def Rd (w : World) (v : Value) (m : Nat) (news : List Value) : Prop := ∃ p c, v = .slice p m c ∧ (m ≠ 0 → ∃ a, p = some a ∧ ∀ j u, news[j]? = some u → w.cell? (a.add j) = some u)

theorem rd_bytes {S : Nat → Prop} {bs : Unit → List UInt8} {v : Value} (h : DVRel w S (.bytes bs) v) : Rd w v (bs ()).length ((bs ()).map u8v) := by
  simp only [DVRel] at h
  obtain ⟨p, c, rfl, hc, hr⟩ := h
  refine ⟨p, c, rfl, fun hm => ?_⟩
  have h0 : 0 < (bs ()).length := by omega
  obtain ⟨b, o, rfl, _, _⟩ := hr 0 _ (List.getElem?_eq_getElem h0)
  refine ⟨_, rfl, fun j u hj => ?_⟩
  rw [List.getElem?_map] at hj
  cases hx : (bs ())[j]? with
  | none => rw [hx] at hj; cases hj
  | some x =>
    rw [hx] at hj
    cases hj
    obtain ⟨b', o', he, _, hcell⟩ := hr j x hx
    cases he
    rw [add_at]; exact hcell

theorem rd_csl (H : Holds dl η G N get ob a w) {k T wd n : Nat} {cs : List SV} {v : Value} (hob : ob k = some (.cells T cs)) (hx : SVRel η G w (.csl k wd n) v) : ∃ vs, Rd w v n vs ∧ SVRels η G w cs vs := by
  obtain ⟨o, hk, hr⟩ := obj_of H hob
  simp only [ObjRel] at hr
  obtain ⟨hd, hin, b, vs, hm, hh, hs⟩ := hr
  simp only [SVRel] at hx
  obtain ⟨o', hk', _, hv⟩ := hx
  rw [hk] at hk'; cases hk'
  obtain ⟨b', hm', rfl⟩ := hv hd
  first | (rw [hm] at hm'; cases hm'; done) | (rw [hm] at hm'; cases hm') | (obtain rfl := OInfo.at_one hm hm')
  refine ⟨vs, ⟨_, _, rfl, fun _ => ⟨_, rfl, fun j u hj => ?_⟩⟩, hs⟩
  rw [add_at, cell_cells hh]
  simpa using hj

theorem u8s_ok : ∀ {cs : List SV} {l : List IE} {vs : List Value}, u8s cs = some l → u8Obl l → SVRels η G w cs vs → vs = (u8List l).map u8v
  | [], l, [], h, _, _ => by simp [u8s] at h; subst h; rfl
  | [], _, _ :: _, _, _, h => by simp [SVRels] at h
  | c :: cs, l, [], _, _, h => by simp [SVRels] at h
  | c :: cs, l, v :: vs, h, ho, hs => by
      unfold u8s at h
      split at h
      · rename_i heq; cases heq
      · rename_i e r heq
        cases heq
        split at h
        · rename_i l' hl
          cases h
          simp only [SVRels] at hs
          simp only [u8Obl] at ho
          rw [u8s_ok hl ho.2 hs.2]
          have hv := hs.1
          simp only [SVRel] at hv
          subst hv
          simp only [u8List, List.map_cons, List.cons.injEq, and_true, u8v]
          congr 1
          simp only [UInt8.toNat_ofNat']
          omega
        · cases h
      · cases h

theorem addB_ok (H : Holds dl η G N get ob a w) {y : SV} {v : Value} (hy : SVRel η G w y v) {A : Add} (h : addB ob y = some A) (ho : A.obl ()) : Rd w v (A.bs ()).length ((A.bs ()).map u8v) := by
  unfold addB at h
  split at h
  · cases h
    simp only [SVRel] at hy
    subst hy
    exact ⟨none, 0, rfl, fun h => absurd rfl h⟩
  · cases h
    simp only [SVRel] at hy
    exact rd_bytes hy
  · cases h
    simp only [SVRel] at hy
    exact rd_bytes hy.1
  · rename_i k bs
    cases hal : aliveO (ob k) with
    | false => rw [hal] at h; cases h
    | true =>
      rw [hal] at h
      cases h
      simp only [SVRel] at hy
      obtain ⟨o, hk, _, hv⟩ := hy
      exact rd_bytes (hv (alive_of H hal hk))
  · rename_i k
    split at h
    · rename_i T bs hob
      cases h
      exact rd_bytes (own_dv' H hob hy)
    · cases h
  · rename_i k wd n
    split at h
    · rename_i T cs hob
      split at h
      · rename_i l hl
        cases hc : (eqN wd 1 && eqN n l.length) with
        | false => rw [hc] at h; cases h
        | true =>
          rw [hc] at h
          cases h
          simp only [Bool.and_eq_true] at hc
          have hn := eqN_eq hc.2
          obtain ⟨vs, h1, h2⟩ := rd_csl H hob hy
          have := u8s_ok hl ho h2
          subst this
          have hlen : (u8List l).length = l.length := by clear h2 hl ho hob hn h1 hc; induction l <;> simp_all [u8List]
          simp only [hlen, ← hn]
          exact h1
      · cases h
    · cases h
  · cases h
where
  own_dv' {k T : Nat} {bs : Unit → List UInt8} {v : Value} (H : Holds dl η G N get ob a w) (hob : ob k = some (.barr T bs)) (hy : SVRel η G w (.own k) v) : DVRel w (fun _ => True) (.bytes bs) v := by
    obtain ⟨o, hk, hr⟩ := obj_of H hob
    simp only [ObjRel] at hr
    obtain ⟨hd, hin, hq⟩ := hr
    simp only [SVRel] at hy
    obtain ⟨o', hk', _, hv⟩ := hy
    rw [hk] at hk'; cases hk'
    have hv := hv hd
    subst hv
    simp only [DVRel]
    rcases hq with ⟨hv, hn, _⟩ | ⟨b, c, cs, T', hv, hm, hh, ⟨hs, hT⟩, hc, hcm, hQ⟩
    · exact ⟨none, 0, by rw [hv, hn], by omega, fun i x hx => by rw [List.eq_nil_of_length_eq_zero hn] at hx; simp at hx⟩
    · exact ⟨_, c, hv, hc, fun i x hx => ⟨b, 0, rfl, trivial, by rw [cell_cells hh, Nat.zero_add]; exact hQ i x hx⟩⟩

theorem blk_of {w : World} {e sz n : Nat} {v : Value} {xs : List Value} (h : OwnsV w e sz v n xs) (inner : List Nat) {Q : Array Value → Prop} (hQ : ∀ cur : Array Value, cur.toList.take (n * sz) = xs → Q cur) :
    ownsBlk w ⟨v, v.ownBlock.toList, inner, false⟩ e sz n Q := by
  rcases h.2 with ⟨rfl, hn⟩ | ⟨g, cap, cur, rfl, hg, hc, hcm, hs, ht⟩
  · exact .inl ⟨rfl, hn, rfl⟩
  · exact .inr ⟨g, cap, cur, (e, 0, 0), rfl, rfl, hg, ⟨hs, .inr rfl⟩, hc, hcm, hQ cur ht⟩

theorem slice_one {v : Value} {e sz n : Nat} {xs : List Value} (h : OwnsV w e sz v n xs) : v.oneCell' = true := by
  rcases h.2 with ⟨rfl, _⟩ | ⟨g, cap, cur, rfl, _⟩ <;> rfl

theorem own_rel {η' : OEnv} {G' : Nat → Prop} {w' : World} {d : Nat} {o : OInfo} (h1 : o.val.oneCell' = true) : SVRel (updE η' d o) G' w' (.own d) o.val := by
  simp only [SVRel]
  exact ⟨o, updE_same _ _ _, h1, fun _ => rfl⟩

/-- What 'append' leaves, as taken objects. -/
theorem takes_app {ks : List Nat} {v v' : Value} {w' : World} {e sz n : Nat} {xs : List Value} (hb : BaseOf η ks v) (hos : w'.os = w.os) (htp : w'.tape = w.tape) (hou : w'.output = w.output) (hsz : w.heap.size ≤ w'.heap.size)
    (hkeep : ∀ b, b < w.heap.size → v.ownBlock ≠ some b → w'.heap[b]? = w.heap[b]?) (hown : OwnsV w' e sz v' n xs) (hg : ∀ g, v'.ownBlock = some g → w.heap.size ≤ g ∨ v.ownBlock = some g) (inner : List Nat)
    (hin : ∀ b ∈ inner, (b < w'.heap.size ∧ (w.heap.size ≤ b ∨ ∃ k ∈ ks, ∃ o', η k = some o' ∧ b ∈ o'.main ++ o'.inner)) ∧ v'.ownBlock ≠ some b) : Takes η w ks w' ⟨v', v'.ownBlock.toList, inner, false⟩ := by
  refine ⟨hos, htp, hou, hsz, fun b hlt hn => hkeep b hlt fun e => ?_, fun b hb' => ?_, fun b hb' hbi => ?_⟩
  · obtain ⟨k, hk, o, ho, hm⟩ := hb b e
    exact hn k hk o ho (by simp [hm])
  · rcases List.mem_append.1 hb' with hb' | hb'
    · simp only [Option.mem_toList, Option.mem_def] at hb'
      refine ⟨?_, ?_⟩
      · rcases hown.2 with ⟨rfl, _⟩ | ⟨g, cap, cur, rfl, hgg, _⟩
        · cases hb'
        · simp [Value.ownBlock] at hb'; subst hb'; exact (Array.getElem?_eq_some_iff.1 hgg).1
      · rcases hg b hb' with h | h
        · exact .inl h
        · obtain ⟨k, hk, o, ho, hm⟩ := hb b h
          exact .inr ⟨k, hk, o, ho, by simp [hm]⟩
    · exact (hin b hb').1
  · simp only [Option.mem_toList, Option.mem_def] at hb'
    exact (hin b hbi).2 hb'

theorem u8v_one (l : List UInt8) : ∀ u ∈ l.map u8v, u.oneCell' = true := by
  intro u hu
  obtain ⟨x, _, rfl⟩ := List.mem_map.1 hu
  rfl
end
end Go.SX

