/- SX, eighth part: what is built; all operations together. -/
import Derived.Test.YtmdfjipjkkjpcaaSxG
namespace Go.SX

section
variable {P : Program} {E : Env} {η : OEnv} {G : Nat → Prop} {N : Nat} {dl : List Deferred} {get : Nat → SV} {ob : Nat → Option TObj} {a : Act} {w : World}

theorem fold_set (off : Nat) : ∀ (us : List Value) (s : Nat) (cells : Array Value), off + s + us.length ≤ cells.size →
    (us.zipIdx s).foldl (fun (cs : Array Value) (p : Value × Nat) => cs.setIfInBounds (off + p.2) p.1) cells = (cells.toList.take (off + s) ++ us ++ cells.toList.drop (off + s + us.length)).toArray
  | [], s, cells, _ => by simp
  | u :: us, s, cells, h => by
      simp only [List.zipIdx_cons, List.foldl_cons]
      rw [fold_set off us (s + 1) _ (by simp at h ⊢; omega)]
      congr 1
      simp only [Array.toList_setIfInBounds, List.length_cons]
      have := list_seg_step cells.toList (off + s) u us (by simp at h ⊢; omega)
      rw [show off + (s + 1) = off + s + 1 by omega]
      exact this

theorem fill_rel {n : Nat} {place : Nat → Nat × Nat} {place' : Nat → Option (Nat × Nat)} (hp : ∀ i, i < n → place' i = some (place i)) (H : Holds dl η G N get ob a w) :
    ∀ (parts : List (Nat × Operand)) (cs cs' : List SV) (vs : List Value), fillParts get n place parts cs = some cs' → SVRels η G w cs vs →
      ∃ vs', Instr.fill place' ⟨vs⟩ (parts.map fun p => (p.1, a.eval p.2)) = some ⟨vs'⟩ ∧ SVRels η G w cs' vs'
  | [], cs, cs', vs, h, hs => by simp [fillParts] at h; subst h; exact ⟨vs, rfl, hs⟩
  | (i, x) :: r, cs, cs', vs, h, hs => by
      simp only [fillParts] at h
      rcases hc : (ltN i n && (eqN (svCells (opnd get x)).length (place i).2 && (leN ((place i).1 + (place i).2) cs.length && svBox (opnd get x)))) with _ | _
      · rw [hc] at h; cases h
      · rw [hc] at h
        simp only [cond_true] at h
        simp only [Bool.and_eq_true] at hc
        obtain ⟨h1, h2, h3, h4⟩ := hc
        have h1 : i < n := by simpa [ltN_iff] using h1
        have h2 := eqN_eq h2
        have h3 : (place i).1 + (place i).2 ≤ cs.length := by simpa [leN_iff, ltN_iff] using h3
        have hb := box_rel (opnd_rel H x) h4
        have hlen := SVRels.length hb
        have hvl := SVRels.length hs
        have hsz : (a.eval x).cells.size = (place i).2 := by simp at hlen; omega
        have hspl := SVRels.splice (place i).1 hs hb (by omega)
        obtain ⟨vs', hv, hr⟩ := fill_rel hp H r _ cs' _ h hspl
        refine ⟨vs', ?_, hr⟩
        have hfold := fold_set (place i).1 (a.eval x).cells.toList 0 ⟨vs⟩ (by simp at hsz ⊢; omega)
        simp only [Nat.add_zero] at hfold
        have hfold' : Array.foldl (fun (cs : Array Value) (p : Value × Nat) => cs.setIfInBounds ((place i).1 + p.2) p.1) ⟨vs⟩ (a.eval x).cells.zipIdx =
            (vs.take (place i).1 ++ (a.eval x).cells.toList ++ vs.drop ((place i).1 + (a.eval x).cells.toList.length)).toArray := by
          rw [← hfold, ← Array.foldl_toList, Array.toList_zipIdx]
        have hcond : ¬ ((a.eval x).cells.size ≠ (place i).2 || decide ((place i).1 + (a.eval x).cells.size > vs.length)) = true := by
          simp [hsz]; omega
        simp only [List.map_cons, Instr.fill, hp i h1]
        have e1 : (decide ((a.eval x).cells.size ≠ (place i).2) || decide ((place i).1 + (a.eval x).cells.size > (Array.mk vs).size)) = false := by
          simp [hsz]; omega
        simp only [e1]
        exact (congrArg (fun c => Instr.fill place' c (r.map fun p => (p.1, a.eval p.2))) hfold').trans hv

theorem fields_places {fs : List (Nat × Nat)} {fields : List Field} (h : fieldsOk P E fs fields) :
    fields.mapM (fun f => (P.info? f.type).map fun i => (f.offset, i.size)) = some (fs.map fun p => (p.2, szOf E p.1)) := by
  induction fs generalizing fields with
  | nil => cases fields with
    | nil => rfl
    | cons f r => exact h.elim
  | cons p fs ih => cases fields with
    | nil => exact h.elim
    | cons f r =>
      obtain ⟨T, o⟩ := p
      obtain ⟨h1, h2, ⟨j, h3, h4, h5⟩, h6⟩ := h
      simp [List.mapM_cons, h1, h3, h2, h4, ih h6]

theorem map_nthD {α β : Type} (f : α → β) (d : α) : ∀ (l : List α) (i : Nat), i < l.length → (l.map f)[i]? = some (f (nthD l i d))
  | [], i, h => by simp at h
  | x :: l, 0, _ => rfl
  | x :: l, i + 1, h => by simpa [nthD] using map_nthD f d l i (by simpa [leN_iff, ltN_iff] using h)

theorem sound_build (hE : EOk P E) (H : Holds dl η G N get ob a w) {T : Nat} {parts : List (Nat × Operand)} {sv : SV} {upd : Objs} {rd : List Nat} {obl : Obl}
    (h : evBuild E get T parts = .ok sv upd rd obl) : Looks P η G w (Instr.build T (parts.map fun p => (p.1, a.eval p.2)).toArray) sv upd := by
  unfold evBuild at h
  split at h
  · rename_i ti hti
    split at h
    · rename_i fs htd
      split at h
      · rename_i cs hf
        simp only [plain, OpRes.ok.injEq] at h; obtain ⟨rfl, rfl, _, rfl⟩ := h
        obtain ⟨i, z, hi1, hi2, hi3, hi4, hi5⟩ := (hE T ti hti).info
        obtain ⟨d, hd, ht⟩ := (hE T ti hti).desc
        rw [htd] at ht
        obtain ⟨fields, rfl, hfo⟩ := ht
        have hpl := fields_places hfo
        obtain ⟨vs', hv, hr⟩ := fill_rel (place' := fun i => ((fs.map fun p => (p.2, szOf E p.1)).toArray)[i]?) (place := fun i => ((nthD fs i (0, 0)).2, szOf E (nthD fs i (0, 0)).1))
          (fun i hi => by
            have := map_nthD (fun p : Nat × Nat => (p.2, szOf E p.1)) (0, 0) fs i hi
            simpa using this) H parts ti.zero cs z.cells.toList hf (hi5 η G w)
        refine ⟨rfl, .agg ⟨vs'⟩, run_build w T _ ⟨vs'⟩ ?_, by simp only [SVRel]; exact ⟨vs', rfl, hr⟩⟩
        unfold Program.built
        rw [hi1, hd]
        simp only [hi4, hpl]
        exact hv
      · cases h
    · cases h
  · cases h

theorem SVRels.of_nth : ∀ {cs : List SV} {vs : List Value}, vs.length = cs.length → (∀ i v, vs[i]? = some v → SVRel η G w (nthD cs i .any) v) → SVRels η G w cs vs
  | [], [], _, _ => by simp [SVRels]
  | [], _ :: _, h, _ => by simp at h
  | _ :: _, [], h, _ => by simp at h
  | c :: cs, v :: vs, h, hn => by
      simp only [SVRels]
      exact ⟨by simpa [nthD] using hn 0 v rfl, SVRels.of_nth (by simpa [leN_iff, ltN_iff] using h) fun i u hu => by simpa [nthD] using hn (i + 1) u (by simpa [leN_iff, ltN_iff] using hu)⟩

theorem repL_length {α : Type} (n : Nat) (l : List α) : (repL n l).length = n * l.length := by
  induction n with
  | zero => simp [repL]
  | succ n ih => simp [repL, ih, Nat.add_mul, Nat.add_comm]

theorem nthD_append {α : Type} (d : α) : ∀ (l r : List α) (i : Nat), nthD (l ++ r) i d = if i < l.length then nthD l i d else nthD r (i - l.length) d
  | [], r, i => by simp
  | x :: l, r, 0 => by simp [nthD]
  | x :: l, r, i + 1 => by simp [nthD, nthD_append d l r i]

theorem nthD_repL {α : Type} (d : α) (l : List α) (hl : 0 < l.length) : ∀ (n i : Nat), i < n * l.length → nthD (repL n l) i d = nthD l (i % l.length) d
  | 0, i, h => by simp at h
  | n + 1, i, h => by
      simp only [repL, nthD_append]
      split
      · rename_i hi; rw [Nat.mod_eq_of_lt hi]
      · rename_i hi
        rw [nthD_repL d l hl n (i - l.length) (by rw [Nat.add_mul] at h; omega)]
        exact congrArg (nthD l · d) (Nat.mod_eq_sub_mod (by omega)).symm

theorem sound_buildSlice (hE : EOk P E) (H : Holds dl η G N get ob a w) {T d len : Nat} {parts : List (Nat × Operand)} {sv : SV} {upd : Objs} {rd : List Nat} {obl : Obl}
    (h : evBuildSlice E d get ob T len parts = .ok sv upd rd obl) : ∃ v w' η' G', (Instr.buildSlice T len (parts.map fun p => (p.1, a.eval p.2)).toArray).run P w = .ok v w' ∧ After η G w ob sv upd v η' G' w' := by
  unfold evBuildSlice at h
  split at h
  · rename_i ti hti
    split at h
    · rename_i e htd
      split at h
      · rename_i te hte hob
        split at h
        · rename_i cs hf
          have hb := (cond_ok h).1
          replace h := (cond_ok h).2
          have hb : len * te.size ≤ 1000000 := by simpa [leN_iff, ltN_iff] using hb
          simp only [OpRes.ok.injEq] at h; obtain ⟨rfl, rfl, _, rfl⟩ := h
          obtain ⟨i, z, hi1, hi2, hi3, hi4, hi5⟩ := (hE e te hte).info
          have hzl := (hE e te hte).zlen
          obtain ⟨d', hd, ht⟩ := (hE T ti hti).desc
          rw [htd] at ht
          simp only [TDOk] at ht
          subst ht
          have hzs := SVRels.length (hi5 η G w)
          have hzsz : z.cells.size = te.size := by simp at hzs; omega
          -- the cells ahead of the parts
          have hrep : ∀ (zero : Array Value), (len * te.size = 0 → zero = #[]) → (len * te.size ≠ 0 → zero = z.cells) →
              SVRels η G w (repL len te.zero) ((Array.range (len * te.size)).map fun i => zero[i % zero.size]!).toList := by
            intro zero h0 h1
            refine SVRels.of_nth (by simp [repL_length, hzl]) fun i v hv => ?_
            simp only [Array.toList_map, Array.toList_range, List.getElem?_map] at hv
            by_cases hlt : i < len * te.size
            · rw [List.getElem?_range hlt] at hv
              simp only [Option.map_some, Option.some.injEq] at hv
              have hpos : 0 < te.size := Nat.pos_of_ne_zero fun e => by rw [e] at hlt; simp at hlt
              rw [h1 (by omega)] at hv
              rw [nthD_repL .any te.zero (by omega) len i (by rw [hzl]; exact hlt), hzl]
              obtain ⟨u, hu, hr⟩ := SVRels.nth (i % te.size) (hi5 η G w) (by rw [hzl]; exact Nat.mod_lt _ hpos)
              have hm := Nat.mod_lt i hpos
              rw [hzsz, getElem!_pos z.cells _ (by omega)] at hv
              simp only [Array.getElem?_toList, Array.getElem?_eq_getElem (show i % te.size < z.cells.size by omega)] at hu
              cases hu
              rw [← hv]; exact hr
            · rw [List.getElem?_eq_none (by simp; omega)] at hv; cases hv
          obtain ⟨zero, hz0, hz1, hzr⟩ : ∃ zero : Array Value, (len * te.size = 0 → zero = #[]) ∧ (len * te.size ≠ 0 → zero = z.cells) ∧
              (if len * te.size = 0 then (pure #[] : Sem (Array Value)) else do pure (← zeroValue e).cells).run P w = .ok zero w := by
            by_cases hz : len * te.size = 0
            · exact ⟨#[], fun _ => rfl, fun h => absurd hz h, by simp [hz]⟩
            · exact ⟨z.cells, fun h => absurd h hz, fun _ => rfl, by simp [hz, zeroValue, typeInfo, hi1, hi4]⟩
          obtain ⟨vs', hv, hr⟩ := fill_rel (place' := fun i => some (i * te.size, te.size)) (place := fun i => (i * te.size, te.size)) (fun i _ => rfl) H parts _ cs _ hf (hrep zero hz0 hz1)
          have hbig : ¬ (len * te.size > 2 ^ 24) := by omega
          refine ⟨.slice (some ⟨w.heap.size, 0, none⟩) len len, _, _, G, ?_, after_new H hob e (vs := vs') hr ?_⟩
          · have hv' : Instr.fill (fun i => some (i * te.size, te.size)) ((Array.range (len * te.size)).map fun i => zero[i % zero.size]!) (parts.map fun p => (p.1, a.eval p.2)) = some ⟨vs'⟩ := hv
            have hbig' : ¬ (16777216 < len * te.size) := by omega
            by_cases hz : len * te.size = 0
            · have hz' := hz0 hz
              subst hz'
              simp [hz] at hv'
              simp [Instr.buildSlice, run_underlying hd, sizeOf_run (hE e te hte), hz, hv', newRow, newObj, Sem.run]
            · have hz' := hz1 hz
              subst hz'
              have hzv : (zeroValue e).run P w = .ok z w := by simp [zeroValue, typeInfo, hi1, hi4]
              simp only [Instr.buildSlice, Sem.run_bind, run_underlying hd, Result.andThen_ok, sizeOf_run (hE e te hte), hbig, if_false, hz, hzv, Sem.run_pure]
              rw [hv']
              simp [newRow, newObj, Sem.run]
          · simp only [SVRel]
            exact ⟨_, updE_same _ _ _, rfl, fun _ => ⟨_, rfl, rfl⟩⟩
        · cases h
      · cases h
    · cases h
  · cases h
end
end Go.SX
