/- SX, seventh part: conversions, slices, what is built, and all operations together. -/
import Derived.Test.YtmdfjipjkkjpcaaSxF
namespace Go.SX

section
variable {P : Program} {E : Env} {η : OEnv} {G : Nat → Prop} {N : Nat} {dl : List Deferred} {get : Nat → SV} {ob : Nat → Option TObj} {a : Act} {w : World}

def OptRel (η : OEnv) (G : Nat → Prop) (w : World) : Option SV → Option Value → Prop
  | none, none => True
  | some s, some v => SVRel η G w s v
  | _, _ => False

theorem fold_push : ∀ (bs : List UInt8) (s : ByteArray), (bs.map fun x => (x.toNat : Int)).foldl (fun r n => r.push (UInt8.ofNat n.toNat)) s = ⟨s.data ++ bs.toArray⟩
  | [], s => by simp
  | b :: bs, s => by
      simp only [List.map_cons, List.foldl_cons]
      rw [fold_push bs]
      simp [ByteArray.push]

theorem isBytes_run (hE : EOk P E) {T : Nat} (h : isBytes E T = true) : ∃ e, P.underlying T = some (.slice e) ∧ P.underlying e = some (.int .u8) := by
  unfold isBytes at h
  split at h
  · rename_i s hs
    split at h
    · rename_i e hse
      split at h
      · rename_i te hte
        split at h
        · rename_i htd
          obtain ⟨d, hd, ht⟩ := (hE T s hs).desc
          rw [hse] at ht
          simp only [TDOk] at ht
          obtain ⟨d', hd', ht'⟩ := (hE e te hte).desc
          rw [htd] at ht'
          simp only [TDOk] at ht'
          exact ⟨e, by rw [hd, ht], by rw [hd', ht']⟩
        · cases h
      · cases h
    · cases h
  · cases h

theorem run_bytes_str {src dst : Nat} (hs : ∃ e, P.underlying src = some (.slice e) ∧ P.underlying e = some (.int .u8)) (hd : P.underlying dst = some .string)
    {S : Nat → Prop} {bs : Unit → List UInt8} {v : Value} (h : DVRel w S (.bytes bs) v) : (convert src dst v).run P w = .ok (.string ⟨(bs ()).toArray⟩) w := by
  obtain ⟨e, h1, h2⟩ := hs
  simp only [DVRel] at h
  obtain ⟨p, c, rfl, hc, hr⟩ := h
  rw [run_convert_bytes_string w src dst e p _ c h1 h2 hd]
  cases p with
  | none =>
    have : bs () = [] := by
      cases hb : bs () with
      | nil => rfl
      | cons x r => obtain ⟨_, _, h0, _⟩ := hr 0 x (by simp [hb]); cases h0
    simp [Conv.bytesToString, this, ByteArray.empty, ByteArray.emptyWithCapacity]
    rfl
  | some q =>
    have hl : (loadCells q (bs ()).length).run P w = .ok (((bs ()).map fun x => (x.toNat : Int)).map (Value.int .u8)).toArray w := by
      have := run_loadCells_list (P := P) w q (((bs ()).map fun x => (x.toNat : Int)).map (Value.int .u8)) (fun j v hj => by
        simp only [List.map_map, List.getElem?_map] at hj
        cases hb : (bs ())[j]? with
        | none => rw [hb] at hj; cases hj
        | some x =>
          rw [hb] at hj
          obtain ⟨b, o, hq, _, hcell⟩ := hr j x hb
          cases hq
          rw [add_none, hcell]
          simpa using hj)
      simpa using this
    rw [run_bytesToString w q _ c _ hl, fold_push]
    simp [ByteArray.empty, ByteArray.emptyWithCapacity]
    rfl

theorem sound_convert (hE : EOk P E) {src dst : Nat} {x : SV} {v : Value} (hx : SVRel η G w x v) {sv : SV} {upd : Objs} {rd : List Nat} {obl : Obl}
    (h : evConvert E src dst x = .ok sv upd rd obl) : Looks P η G w (convert src dst v) sv upd := by
  unfold evConvert at h
  split at h
  · rename_i s d hs hd
    obtain ⟨ds, hds, _⟩ := (hE src s hs).desc
    obtain ⟨dd, hdd, ht⟩ := (hE dst d hd).desc
    split at h
    · rename_i k htd
      rw [htd] at ht
      simp only [TDOk] at ht
      subst ht
      split at h
      · simp only [SVRel] at hx
        subst hx
        simp only [plain, OpRes.ok.injEq] at h; obtain ⟨rfl, rfl, _, rfl⟩ := h
        rename_i e0 _
        refine ⟨rfl, .int k (k.wrap e0.den), ?_, by simp only [SVRel, IE.den_s]⟩
        simp [convert, run_underlying hds, run_underlying hdd, Conv.intToInt]
      · cases h
    · rename_i htd
      rw [htd] at ht
      simp only [TDOk] at ht
      subst ht
      split at h
      · simp only [SVRel] at hx
        subst hx
        simp only [plain, OpRes.ok.injEq] at h; obtain ⟨rfl, rfl, _, rfl⟩ := h
        refine ⟨rfl, .string _, ?_, by simp only [SVRel]; rfl⟩
        simp [convert, run_underlying hds, run_underlying hdd]
      · have hb := (cond_ok h).1
        replace h := (cond_ok h).2
        simp only [SVRel] at hx
        simp only [plain, OpRes.ok.injEq] at h; obtain ⟨rfl, rfl, _, rfl⟩ := h
        exact ⟨rfl, _, run_bytes_str (isBytes_run hE hb) hdd hx, by simp only [SVRel]⟩
      · have hb := (cond_ok h).1
        replace h := (cond_ok h).2
        simp only [SVRel] at hx
        subst hx
        simp only [plain, OpRes.ok.injEq] at h; obtain ⟨rfl, rfl, _, rfl⟩ := h
        refine ⟨rfl, _, run_bytes_str (isBytes_run hE hb) hdd (S := fun _ => True) (bs := fun _ => []) ?_, by simp only [SVRel]⟩
        simp only [DVRel]
        exact ⟨none, 0, rfl, Nat.le_refl _, by simp⟩
      · cases h
    · cases h
  · cases h

theorem sound_not {x : SV} {v : Value} (hx : SVRel η G w x v) {sv : SV} {upd : Objs} {rd : List Nat} {obl : Obl}
    (h : evNot x = .ok sv upd rd obl) : Looks P η G w (Op.unary .not v) sv upd := by
  unfold evNot at h
  split at h
  all_goals first
    | (simp only [SVRel] at hx; subst hx; simp only [plain, OpRes.ok.injEq] at h; obtain ⟨rfl, rfl, _, rfl⟩ := h; exact ⟨rfl, _, by simp [Op.unary]; rfl, by simp [SVRel]⟩)
    | cases h

theorem sound_nilCheck (H : Holds dl η G N get ob a w) {x : SV} {v : Value} (hx : SVRel η G w x v) {sv : SV} {upd : Objs} {rd : List Nat} {obl : Obl}
    (h : evNilCheck ob x = .ok sv upd rd obl) : upd = [] ∧ (∃ p, v = .pointer (some p)) ∧ SVRel η G w sv v := by
  unfold evNilCheck at h
  split at h
  · have hal := (cond_ok h).1
    replace h := (cond_ok h).2
    simp only [OpRes.ok.injEq] at h; obtain ⟨rfl, rfl, _, rfl⟩ := h
    refine ⟨rfl, ?_, hx⟩
    simp only [SVRel] at hx
    obtain ⟨o, hk, h1, hv⟩ := hx
    obtain ⟨b, _, rfl⟩ := hv (alive_of H hal hk)
    exact ⟨_, rfl⟩
  · cases h

theorem sound_extract {x : SV} {v : Value} {i : Nat} (hx : SVRel η G w x v) {sv : SV} {upd : Objs} {rd : List Nat} {obl : Obl}
    (h : evExtract x i = .ok sv upd rd obl) : Looks P η G w (Instr.extract v i) sv upd := by
  unfold evExtract at h
  split at h
  · have hl := (cond_ok h).1
    replace h := (cond_ok h).2
    simp only [plain, OpRes.ok.injEq] at h; obtain ⟨rfl, rfl, _, rfl⟩ := h
    simp only [SVRel] at hx
    obtain ⟨vs, rfl, hs⟩ := hx
    obtain ⟨u, hu, hr⟩ := SVRels.nth i hs (by simpa [ltN_iff] using hl)
    exact ⟨rfl, u, by simp [Instr.extract, hu], hr⟩
  · cases h

theorem sound_minMax {mx : Bool} {x y : SV} {vx vy : Value} (hx : SVRel η G w x vx) (hy : SVRel η G w y vy) {sv : SV} {upd : Objs} {rd : List Nat} {obl : Obl}
    (h : evMinMax mx [x, y] = .ok sv upd rd obl) : Looks P η G w (bif mx then Builtin.max2 vx vy else Builtin.min2 vx vy) sv upd := by
  unfold evMinMax at h
  split at h
  · rename_i k e k' e' heq
    simp only [List.cons.injEq, and_true] at heq
    obtain ⟨rfl, rfl⟩ := heq
    have hk := ikeq_eq (cond_ok h).1
    replace h := (cond_ok h).2
    subst hk
    simp only [SVRel] at hx hy
    subst hx; subst hy
    simp only [plain, OpRes.ok.injEq] at h; obtain ⟨rfl, rfl, _, rfl⟩ := h
    cases mx
    · exact ⟨rfl, _, by simp only [cond_false, Builtin.min2, Sem.run_pure]; rfl, by simp only [SVRel, IE.den_s, cond_false]⟩
    · exact ⟨rfl, _, by simp only [cond_true, Builtin.max2, Sem.run_pure]; rfl, by simp only [SVRel, IE.den_s, cond_true]⟩
  · cases h

theorem sound_index (hE : EOk P E) {T : Nat} {x i : SV} {vx vi : Value} (hx : SVRel η G w x vx) (hi : SVRel η G w i vi) {sv : SV} {upd : Objs} {rd : List Nat} {obl : Obl}
    (h : evIndex E T x i = .ok sv upd rd obl) (ho : obl.holds) : Looks P η G w (Instr.index T vx vi) sv upd := by
  unfold evIndex at h
  split at h
  · rename_i bs k z
    have hT := isStr_run hE (cond_ok h).1
    replace h := (cond_ok h).2
    simp only [OpRes.ok.injEq] at h; obtain ⟨rfl, rfl, _, rfl⟩ := h
    simp only [Obl.holds, indexObl] at ho
    simp only [SVRel] at hx hi
    subst hx; subst hi
    have hlt : z.den.toNat < (bs ()).length := by omega
    have hg : (⟨(bs ()).toArray⟩ : ByteArray)[z.den.toNat]? = some (bs ())[z.den.toNat] := by
      have hs : z.den.toNat < (⟨(bs ()).toArray⟩ : ByteArray).size := by simpa [ByteArray.size] using hlt
      rw [getElem?_pos (⟨(bs ()).toArray⟩ : ByteArray) z.den.toNat hs]
      rfl
    refine ⟨rfl, .int .u8 ((bs ())[z.den.toNat].toNat : Int), ?_, ?_⟩
    · simp [Instr.index, asIntOf, run_underlying hT, ho.1, hg]
    · simp [SVRel, List.getD, List.getElem?_eq_getElem hlt]
  · cases h

theorem loI_rel {lo : Option SV} {vl : Option Value} {l : IE} (hr : OptRel η G w lo vl) (h : loI lo = some l) :
    (lo = none ∧ vl = none ∧ l = .l 0) ∨ ∃ k, vl = some (.int k l.den) := by
  cases lo with
  | none => cases vl with
    | none => simp [loI] at h; exact .inl ⟨rfl, rfl, h.symm⟩
    | some v => exact hr.elim
  | some s => cases vl with
    | none => exact hr.elim
    | some v =>
      cases s <;> simp only [loI] at h <;> first | cases h | skip
      simp only [OptRel, SVRel] at hr
      exact .inr ⟨_, by rw [hr]⟩

theorem hiI_rel {n : Unit → Nat} {hi : Option SV} {vh : Option Value} {l : IE} (hr : OptRel η G w hi vh) (h : hiI n hi = some l) :
    (hi = none ∧ vh = none ∧ l.den = n ()) ∨ ∃ k, vh = some (.int k l.den) := by
  cases hi with
  | none => cases vh with
    | none => simp [hiI] at h; subst h; exact .inl ⟨rfl, rfl, rfl⟩
    | some v => exact hr.elim
  | some s => cases vh with
    | none => exact hr.elim
    | some v =>
      cases s <;> simp only [hiI] at h <;> first | cases h | skip
      simp only [OptRel, SVRel] at hr
      exact .inr ⟨_, by rw [hr]⟩

theorem run_bounds {sl : Bool} {n c : Nat} {lo hi : Option SV} {vl vh : Option Value} {l h : IE} (hl : loI lo = some l) (hh : hiI (fun _ => n) hi = some h)
    (hrl : OptRel η G w lo vl)
    (hrh : OptRel η G w hi vh) (ho : sliceObl l.den h.den n) (hc : n ≤ c) :
    (Instr.sliceBounds sl n c vl vh none).run P w = .ok (l.den.toNat, h.den.toNat, c) w := by
  obtain ⟨o1, o2, o3⟩ := ho
  have h1 : (0 : Int) ≤ h.den := by omega
  have h2 : h.den ≤ (c : Int) := by omega
  rcases loI_rel hrl hl with ⟨_, rfl, rfl⟩ | ⟨k, rfl⟩ <;> rcases hiI_rel hrh hh with ⟨_, rfl, he⟩ | ⟨k', rfl⟩
  · simp [Instr.sliceBounds, he]
  · simp [Instr.sliceBounds, Instr.sliceBound, asIntOf, h1, h2]
  · have o2' : l.den ≤ (n : Int) := by omega
    simp [Instr.sliceBounds, Instr.sliceBound, asIntOf, he, o1, o2']
  · have e : l.den ≤ ((h.den.toNat : Nat) : Int) := by omega
    have e' : ¬ max h.den 0 < l.den := by omega
    simp [Instr.sliceBounds, Instr.sliceBound, asIntOf, h1, h2, o1, o2, e']

theorem sound_slice (hE : EOk P E) {T : Nat} {x : SV} {vx : Value} {lo hi : Option SV} {vl vh vm : Option Value} {mx : Option SV}
    (hx : SVRel η G w x vx) (hrl : OptRel η G w lo vl)
    (hrh : OptRel η G w hi vh) (hrm : OptRel η G w mx vm)
    {sv : SV} {upd : Objs} {rd : List Nat} {obl : Obl}
    (h : evSlice E T x lo hi mx = .ok sv upd rd obl) (ho : obl.holds) : Looks P η G w (Instr.sliceAt T vx vl vh vm) sv upd := by
  unfold evSlice at h
  split at h
  · cases h
  · have hvm : vm = none := by cases vm with
      | none => rfl
      | some v => exact hrm.elim
    subst hvm
    split at h
    · rename_i bs
      cases hw : elIs E T 1 with
      | false => rw [hw] at h; cases h
      | true =>
        rw [hw] at h
        simp only [Bool.not_true, cond_false] at h
        obtain ⟨e, te, hT, he, hs⟩ := elIs_run hE hw
        split at h
        · rename_i l u hl hu
          simp only [OpRes.ok.injEq] at h; obtain ⟨rfl, rfl, _, rfl⟩ := h
          simp only [Obl.holds] at ho
          simp only [SVRel, DVRel] at hx
          obtain ⟨p, c, rfl, hc, hr⟩ := hx
          have hb := run_bounds (P := P) (w := w) (sl := true) (c := c) hl hu hrl hrh ho hc
          obtain ⟨o1, o2, o3⟩ := ho
          refine ⟨rfl, .slice (if c = l.den.toNat then p else p.map (·.add (l.den.toNat * te.size))) (u.den.toNat - l.den.toNat) (c - l.den.toNat), ?_, ?_⟩
          · simp [Instr.sliceAt, Instr.slice, run_underlying hT, hb, sizeOf_run (hE e te he)]
          · simp only [SVRel, DVRel, cutB]
            have hlen : (((bs ()).drop l.den.toNat).take (u.den.toNat - l.den.toNat)).length = u.den.toNat - l.den.toNat := by simp; omega
            refine ⟨_, _, by rw [hlen], by rw [hlen]; omega, fun i x hix => ?_⟩
            rw [List.getElem?_take] at hix
            split at hix
            · rw [List.getElem?_drop] at hix
              obtain ⟨b, o, rfl, hb', hcell⟩ := hr _ x hix
              have hne : c ≠ l.den.toNat := by omega
              refine ⟨b, o + l.den.toNat, by simp [hne, hs, add_none], hb', by rw [Nat.add_assoc]; exact hcell⟩
            · cases hix
        · cases h
    · rename_i wd n row
      cases hw : elIs E T wd with
      | false => rw [hw] at h; cases h
      | true =>
        rw [hw] at h
        simp only [Bool.not_true, cond_false] at h
        obtain ⟨e, te, hT, he, hs⟩ := elIs_run hE hw
        split at h
        · rename_i l u hl hu
          simp only [OpRes.ok.injEq] at h; obtain ⟨rfl, rfl, _, rfl⟩ := h
          simp only [Obl.holds] at ho
          simp only [SVRel, DVRel] at hx
          obtain ⟨p, c, rfl, hc, hr⟩ := hx
          have hb := run_bounds (P := P) (w := w) (sl := true) (n := n ()) (c := c) hl hu hrl hrh ho hc
          obtain ⟨o1, o2, o3⟩ := ho
          refine ⟨rfl, .slice (if c = l.den.toNat then p else p.map (·.add (l.den.toNat * te.size))) (u.den.toNat - l.den.toNat) (c - l.den.toNat), ?_, ?_⟩
          · simp [Instr.sliceAt, Instr.slice, run_underlying hT, hb, sizeOf_run (hE e te he)]
          · simp only [SVRel, DVRel]
            refine ⟨_, _, rfl, by omega, fun i hi' => ?_⟩
            obtain ⟨b, o, rfl, hb', hr⟩ := hr (l.den.toNat + i) (by omega)
            have hne : c ≠ l.den.toNat := by omega
            refine ⟨b, o + l.den.toNat * wd, by simp [hne, hs, add_none], hb', fun j hj => ?_⟩
            obtain ⟨v, hv, hd⟩ := hr j hj
            exact ⟨v, by rw [show o + l.den.toNat * wd + i * wd + j = o + (l.den.toNat + i) * wd + j by rw [Nat.add_mul]; omega]; exact hv, hd⟩
        · cases h
    · rename_i bs
      cases hw : isStr E T with
      | false => rw [hw] at h; cases h
      | true =>
        rw [hw] at h
        simp only [Bool.not_true, cond_false] at h
        have hT := isStr_run hE hw
        split at h
        · rename_i l u hl hu
          simp only [OpRes.ok.injEq] at h; obtain ⟨rfl, rfl, _, rfl⟩ := h
          simp only [Obl.holds] at ho
          simp only [SVRel] at hx
          subst hx
          have hb := run_bounds (P := P) (w := w) (sl := false) (n := (bs ()).length) (c := (bs ()).length) hl hu hrl hrh ho (Nat.le_refl _)
          refine ⟨rfl, .string ((⟨(bs ()).toArray⟩ : ByteArray).extract l.den.toNat u.den.toNat), ?_, ?_⟩
          · have hsz : (⟨(bs ()).toArray⟩ : ByteArray).size = (bs ()).length := by simp [ByteArray.size]
            simp [Instr.sliceAt, Instr.slice, run_underlying hT, hsz, hb]
          · simp only [SVRel, cutB, Value.string.injEq]
            apply ByteArray.ext
            simp [ByteArray.data_extract, List.take_drop]
        · cases h
    · cases h
end
end Go.SX
