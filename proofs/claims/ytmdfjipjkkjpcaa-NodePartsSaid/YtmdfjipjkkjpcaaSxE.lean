/- SX, fifth part: addresses, loads and stores. -/
import Derived.Test.YtmdfjipjkkjpcaaSxD
namespace Go.SX

section
variable {P : Program} {E : Env} {η : OEnv} {G : Nat → Prop} {N : Nat} {dl : List Deferred} {get : Nat → SV} {ob : Nat → Option TObj} {a : Act} {w : World}

theorem add_none (b o n : Nat) : (⟨b, o, none⟩ : Addr).add n = ⟨b, o + n, none⟩ := by
  unfold Addr.add; split <;> simp_all

theorem oneCell_ptr (x : Option Addr) : (Value.pointer x).oneCell' = true := rfl

theorem ORel.toDV {w : World} {S : Nat → Prop} : ∀ (d : DV) (v : Value) (B : List Nat), (∀ b ∈ B, S b) → ORel w d v B → DVRel w S d v
  | .int _ _, _, _, _, h => by simp only [ORel] at h; simpa only [DVRel] using h.1
  | .bool _, _, _, _, h => by simp only [ORel] at h; simpa only [DVRel] using h.1
  | .str _, _, _, _, h => by simp only [ORel] at h; simpa only [DVRel] using h.1
  | .bytes bs, v, B, hB, h => by
      simp only [ORel] at h
      simp only [DVRel]
      rcases h with ⟨rfl, h0, rfl⟩ | ⟨b, c, cs, T, rfl, hh, h1, h2, h3, h4, rfl⟩
      · exact ⟨none, 0, by simp [h0], by simp [h0], by simp [h0]⟩
      · exact ⟨_, c, rfl, h2, fun i x hx => ⟨b, 0, rfl, hB b (by simp), by rw [Nat.zero_add, cell_cells hh]; exact h4 i x hx⟩⟩
  | .sl wd n row, v, B, hB, h => by
      simp only [ORel] at h
      simp only [DVRel]
      rcases h with ⟨rfl, h0, rfl⟩ | ⟨b, c, cs, T, Bs, rfl, hh, h1, h2, h3, h4, rfl, hN⟩
      · exact ⟨none, 0, by simp [h0], by simp [h0], fun i hi => by omega⟩
      · refine ⟨_, c, rfl, h2, fun i hi => ⟨b, 0, rfl, hB b (by simp), fun j hj => ?_⟩⟩
        obtain ⟨u, hu, hd⟩ := h4 i j hi hj
        exact ⟨u, by rw [Nat.zero_add, cell_cells hh]; exact hu, ORel.toDV (row (fun _ => i) j) u _ (fun b' hb' => hB b' (List.mem_cons_of_mem _ (mem_flat hi hj hb'))) hd⟩

theorem dv_one {S : Nat → Prop} {d : DV} {v : Value} (h : DVRel w S d v) : v.oneCell' = true := by
  cases d <;> simp only [DVRel] at h
  case int => subst h; rfl
  case bool => subst h; rfl
  case str => subst h; rfl
  case bytes => obtain ⟨_, _, rfl, _⟩ := h; rfl
  case sl => obtain ⟨_, _, rfl, _⟩ := h; rfl

theorem dvSV_none {d : DV} {v : Value} (h : DVRel w G d v) : SVRel η G w (dvSV none d) v := by
  cases d <;> simpa only [dvSV, SVRel, IE.den_s, BE.den_s, DVRel] using h

theorem dvSV_some {k : Nat} {o : OInfo} {d : DV} {v : Value} (hk : η k = some o) (h : DVRel w (fun b => b ∈ o.inner) d v) : SVRel η G w (dvSV (some k) d) v := by
  have h1 := dv_one h
  cases d
  case int => simpa only [dvSV, SVRel, IE.den_s, DVRel] using h
  case bool => simpa only [dvSV, SVRel, BE.den_s, DVRel] using h
  case str => simpa only [dvSV, SVRel, DVRel] using h
  all_goals
    simp only [dvSV, SVRel]
    exact ⟨o, hk, h1, fun _ => h⟩

/-- Cells that read as data, one behind the other. -/
theorem dvList_rel {src : Option Nat} {S : Nat → Prop} (hS : ∀ d v, DVRel w S d v → SVRel η G w (dvSV src d) v) {get' : Nat → Option Value} {cells : Nat → DV} {wd : Nat}
    (h : ∀ j, j < wd → ∃ u, get' j = some u ∧ DVRel w S (cells j) u) : ∀ (n off : Nat), off + n ≤ wd →
    ∃ us : List Value, us.length = n ∧ (∀ j v, us[j]? = some v → get' (off + j) = some v) ∧ SVRels η G w (dvList src cells off n) us
  | 0, off, _ => ⟨[], rfl, by simp, by simp [dvList, SVRels]⟩
  | n + 1, off, hl => by
      obtain ⟨u, hu, hd⟩ := h off (by omega)
      obtain ⟨us, h1, h2, h3⟩ := dvList_rel hS h n (off + 1) (by omega)
      refine ⟨u :: us, by simp [h1], fun j v hj => ?_, by simp only [dvList, SVRels]; exact ⟨hS _ _ hd, h3⟩⟩
      cases j with
      | zero => simp at hj; subst hj; simpa using hu
      | succ j => simp at hj; have := h2 j v hj; rwa [show off + 1 + j = off + (j + 1) by omega] at this

theorem own_val {o : OInfo} {T₀ wd n : Nat} {Q : Array Value → Prop} (h : ownsBlk w o T₀ wd n Q) (hn : 0 < n) :
    ∃ (b c : Nat) (cs : Array Value) (T : Nat × Nat × Nat), o.val = .slice (some ⟨b, 0, none⟩) n c ∧ o.main = [b] ∧ w.heap[b]? = some (.cells cs T.1 T.2) ∧ c * wd ≤ cs.size ∧ n ≤ c ∧ Q cs := by
  rcases h with ⟨_, h, _⟩ | ⟨b, c, cs, T, h1, h2, h3, h4, h5, _, h6⟩
  · omega
  · exact ⟨b, c, cs, T, h1, h2, h3, Nat.le_of_eq h4.1.symm, h5, h6⟩

theorem run_indexAt {T e : Nat} {te : TI} (hE : EOk P E) (hT : P.underlying T = some (.slice e)) (he : E.ti e = some te) (b o n c : Nat) (k : IntKind) (z : Int) (h0 : 0 ≤ z) (h1 : z < n) :
    (Instr.indexAt T (.slice (some ⟨b, o, none⟩) n c) (.int k z)).run P w = .ok (.pointer (some ⟨b, o + z.toNat * te.size, none⟩)) w := by
  simp [Instr.indexAt, asIntOf, run_underlying hT, sizeOf_run (hE e te he), h0, h1, add_none]

theorem sound_indexAddr (hE : EOk P E) (H : Holds dl η G N get ob a w) {T : Nat} {x i : SV} {vx vi : Value} (hx : SVRel η G w x vx) (hi : SVRel η G w i vi) {sv : SV} {upd : Objs} {rd : List Nat} {obl : Obl}
    (h : evIndexAddr E T ob x i = .ok sv upd rd obl) (ho : obl.holds) : Looks P η G w (Instr.indexAt T vx vi) sv upd := by
  unfold evIndexAddr at h
  split at h
  · rename_i wd n row k z
    rcases cond_eq h with ⟨hw, h⟩ | ⟨_, h⟩
    · obtain ⟨e, te, hT, he, hs⟩ := elIs_run hE hw
      simp only [OpRes.ok.injEq] at h; obtain ⟨rfl, rfl, _, rfl⟩ := h
      simp only [Obl.holds, indexObl] at ho
      simp only [SVRel, DVRel] at hx hi
      subst hi
      obtain ⟨p, c, rfl, hc, hr⟩ := hx
      obtain ⟨b, o, rfl, hb, hr⟩ := hr z.den.toNat (by omega)
      refine ⟨rfl, _, run_indexAt hE hT he b o _ c k z.den ho.1 ho.2, ?_⟩
      simp only [SVRel]
      exact ⟨b, o + z.den.toNat * te.size, rfl, hb, by rw [hs]; exact hr⟩
    · cases h
  · rename_i bs k z
    rcases cond_eq h with ⟨hw, h⟩ | ⟨_, h⟩
    · obtain ⟨e, te, hT, he, hs⟩ := elIs_run hE hw
      simp only [OpRes.ok.injEq] at h; obtain ⟨rfl, rfl, _, rfl⟩ := h
      simp only [Obl.holds, indexObl] at ho
      simp only [SVRel, DVRel] at hx hi
      subst hi
      obtain ⟨p, c, rfl, hc, hr⟩ := hx
      have hlt : z.den.toNat < (bs ()).length := by omega
      obtain ⟨b, o, rfl, hb, hr⟩ := hr z.den.toNat _ (List.getElem?_eq_getElem hlt)
      refine ⟨rfl, _, run_indexAt hE hT he b o _ c k z.den ho.1 ho.2, ?_⟩
      simp only [SVRel]
      refine ⟨b, o + z.den.toNat * te.size, rfl, hb, fun j hj => ⟨_, by rw [hs, Nat.mul_one, show o + z.den.toNat + j = o + z.den.toNat by omega]; exact hr, ?_⟩⟩
      simp [byteRow, DVRel, List.getD, List.getElem?_eq_getElem hlt]
    · cases h
  · rename_i k wd n row ki z
    rcases cond_eq h with ⟨hw, h⟩ | ⟨_, h⟩
    · simp only [Bool.and_eq_true] at hw
      obtain ⟨e, te, hT, he, hs⟩ := elIs_run hE hw.1
      simp only [OpRes.ok.injEq] at h; obtain ⟨rfl, rfl, _, rfl⟩ := h
      simp only [Obl.holds, indexObl] at ho
      simp only [SVRel] at hx hi
      subst hi
      obtain ⟨oi, hk, h1c, hv⟩ := hx
      have hd := alive_of H hw.2 hk
      have hx := hv hd
      simp only [DVRel] at hx
      obtain ⟨p, c, rfl, hc, hr⟩ := hx
      obtain ⟨b, o, rfl, hb, hr⟩ := hr z.den.toNat (by omega)
      refine ⟨rfl, _, run_indexAt hE hT he b o _ c ki z.den ho.1 ho.2, ?_⟩
      simp only [SVRel]
      exact ⟨oi, hk, rfl, fun _ => ⟨b, o + z.den.toNat * te.size, rfl, hb, by rw [hs]; exact hr⟩⟩
    · cases h
  · rename_i k bs ki z
    rcases cond_eq h with ⟨hw, h⟩ | ⟨_, h⟩
    · simp only [Bool.and_eq_true] at hw
      obtain ⟨e, te, hT, he, hs⟩ := elIs_run hE hw.1
      simp only [OpRes.ok.injEq] at h; obtain ⟨rfl, rfl, _, rfl⟩ := h
      simp only [Obl.holds, indexObl] at ho
      simp only [SVRel] at hx hi
      subst hi
      obtain ⟨oi, hk, h1c, hv⟩ := hx
      have hd := alive_of H hw.2 hk
      have hx := hv hd
      simp only [DVRel] at hx
      obtain ⟨p, c, rfl, hc, hr⟩ := hx
      have hlt : z.den.toNat < (bs ()).length := by omega
      obtain ⟨b, o, rfl, hb, hr⟩ := hr z.den.toNat _ (List.getElem?_eq_getElem hlt)
      refine ⟨rfl, _, run_indexAt hE hT he b o _ c ki z.den ho.1 ho.2, ?_⟩
      simp only [SVRel]
      refine ⟨oi, hk, rfl, fun _ => ⟨b, o + z.den.toNat * te.size, rfl, hb, fun j hj => ⟨_, by rw [hs, Nat.mul_one, show o + z.den.toNat + j = o + z.den.toNat by omega]; exact hr, ?_⟩⟩⟩
      simp [byteRow, DVRel, List.getD, List.getElem?_eq_getElem hlt]
    · cases h
  · rename_i k ki z
    simp only [SVRel] at hx hi
    subst hi
    obtain ⟨o, hk, h1c, hv⟩ := hx
    split at h
    · rename_i T' wd n row hob
      obtain ⟨o', hk', hr⟩ := obj_of H hob
      rw [hk] at hk'; cases hk'
      simp only [ObjRel] at hr
      obtain ⟨hd, _, hq⟩ := hr
      rcases cond_eq h with ⟨hw, h⟩ | ⟨_, h⟩
      · obtain ⟨e, te, hT, he, hs⟩ := elIs_run hE hw
        simp only [OpRes.ok.injEq] at h; obtain ⟨rfl, rfl, _, rfl⟩ := h
        simp only [Obl.holds, indexObl] at ho
        obtain ⟨b, c, cs, T'', hval, hm, hh, _, hnc, _⟩ := own_val hq (by omega)
        rw [(hv hd).trans hval]
        refine ⟨rfl, _, run_indexAt hE hT he b 0 _ c ki z.den ho.1 ho.2, ?_⟩
        simp only [SVRel]
        exact ⟨o, hk, rfl, fun _ => ⟨b, hm, ⟨_, c, hval, by omega⟩, by simp [hs]⟩⟩
      · cases h
    · rename_i T' wd n row hob
      obtain ⟨o', hk', hr⟩ := obj_of H hob
      rw [hk] at hk'; cases hk'
      simp only [ObjRel] at hr
      obtain ⟨hd, _, _, _, hq⟩ := hr
      rcases cond_eq h with ⟨hw, h⟩ | ⟨_, h⟩
      · obtain ⟨e, te, hT, he, hs⟩ := elIs_run hE hw
        simp only [OpRes.ok.injEq] at h; obtain ⟨rfl, rfl, _, rfl⟩ := h
        simp only [Obl.holds, indexObl] at ho
        obtain ⟨b, c, cs, T'', hval, hm, hh, _, hnc, _⟩ := own_val hq (by omega)
        rw [(hv hd).trans hval]
        refine ⟨rfl, _, run_indexAt hE hT he b 0 _ c ki z.den ho.1 ho.2, ?_⟩
        simp only [SVRel]
        exact ⟨o, hk, rfl, fun _ => ⟨b, hm, ⟨_, c, hval, by omega⟩, by simp [hs]⟩⟩
      · cases h
    · rename_i T' bs hob
      obtain ⟨o', hk', hr⟩ := obj_of H hob
      rw [hk] at hk'; cases hk'
      simp only [ObjRel] at hr
      obtain ⟨hd, _, hq⟩ := hr
      rcases cond_eq h with ⟨hw, h⟩ | ⟨_, h⟩
      · obtain ⟨e, te, hT, he, hs⟩ := elIs_run hE hw
        simp only [OpRes.ok.injEq] at h; obtain ⟨rfl, rfl, _, rfl⟩ := h
        simp only [Obl.holds, indexObl] at ho
        obtain ⟨b, c, cs, T'', hval, hm, hh, _, hnc, _⟩ := own_val hq (by omega)
        rw [(hv hd).trans hval]
        refine ⟨rfl, _, run_indexAt hE hT he b 0 _ c ki z.den ho.1 ho.2, ?_⟩
        simp only [SVRel]
        exact ⟨o, hk, rfl, fun _ => ⟨b, hm, ⟨_, c, hval, by omega⟩, by simp [hs]⟩⟩
      · cases h
    · cases h
  · rename_i k wd n ki z
    simp only [SVRel] at hx hi
    subst hi
    obtain ⟨o, hk, h1c, hv⟩ := hx
    split at h
    · rename_i T' cs hob
      obtain ⟨o', hk', hr⟩ := obj_of H hob
      rw [hk] at hk'; cases hk'
      simp only [ObjRel] at hr
      obtain ⟨b, hm, rfl⟩ := hv hr.1
      rcases cond_eq h with ⟨hw, h⟩ | ⟨_, h⟩
      · simp only [Bool.and_eq_true] at hw
        obtain ⟨e, te, hT, he, hs⟩ := elIs_run hE hw.2
        simp only [OpRes.ok.injEq] at h; obtain ⟨rfl, rfl, _, rfl⟩ := h
        have hz : z < n := by simpa [ltN_iff] using hw.1
        refine ⟨rfl, _, run_indexAt hE hT he b 0 _ n ki (.ofNat z) (by simp) (by simpa using hz), ?_⟩
        simp only [SVRel]
        exact ⟨o, hk, rfl, fun _ => ⟨b, hm, by simp [hs]⟩⟩
      · cases h
    · cases h
  · cases h

end
end Go.SX
