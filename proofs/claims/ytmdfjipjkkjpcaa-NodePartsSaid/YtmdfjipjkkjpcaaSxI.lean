/- SX, ninth part: all operations together. -/
import Derived.Test.YtmdfjipjkkjpcaaSxZ
namespace Go.SX

section
variable {P : Program} {E : Env} {η : OEnv} {G : Nat → Prop} {N : Nat} {dl : List Deferred} {get : Nat → SV} {ob : Nat → Option TObj} {a : Act} {w : World}

def KnOk (o : Op) (kn : List (Nat × Bool)) (a : Act) : Prop := ∀ t b, Operand.tmp t ∈ o.operands.toList → lookN t kn = some b → a.tmps.getD t undef = .bool b

def OpOk (P : Program) (o : Oper) (a : Act) (η : OEnv) (G : Nat → Prop) (w : World) (ob : Nat → Option TObj) (sv : SV) (upd : Objs) : Prop :=
  ∃ n v η' G' w', (execOp a.eval o).run P w = .ok n w' ∧ (n = .value v ∨ (n = .skip ∧ v = undef)) ∧ After η G w ob sv upd v η' G' w'

theorem opOk_of_looks (H : Holds dl η G N get ob a w) {o : Oper} {s : Sem Value} {sv : SV} {upd : Objs} (he : execOp a.eval o = do pure (.value (← s))) (h : Looks P η G w s sv upd) : OpOk P o a η G w ob sv upd := by
  obtain ⟨rfl, v, hr, hs⟩ := h
  exact ⟨.value v, v, η, G, w, by rw [he]; simp [hr], .inl rfl, After.pure H hs⟩

theorem opOk_of_val {o : Oper} {s : Sem Value} {sv : SV} {upd : Objs} (he : execOp a.eval o = do pure (.value (← s)))
    (h : ∃ v w' η' G', s.run P w = .ok v w' ∧ After η G w ob sv upd v η' G' w') : OpOk P o a η G w ob sv upd := by
  obtain ⟨v, w', η', G', hr, hs⟩ := h
  exact ⟨.value v, v, η', G', w', by rw [he]; simp [hr], .inl rfl, hs⟩

theorem SVRels.map (H : Holds dl η G N get ob a w) : ∀ (xs : List Operand), SVRels η G w (xs.map (opnd get)) (xs.map a.eval)
  | [] => by simp [SVRels]
  | x :: xs => by
      simp only [List.map_cons, SVRels]
      exact ⟨opnd_rel H x, SVRels.map H xs⟩

theorem optSV_rel (H : Holds dl η G N get ob a w) (x : Option Operand) : OptRel η G w (optSV get x) (x.map a.eval) := by
  cases x with
  | none => trivial
  | some x => exact opnd_rel H x

theorem evPick_rel {kn : List (Nat × Bool)} (H : Holds dl η G N get ob a w) {c x y : Operand} (hkn : KnOk (.pick c x y) kn a) {sv : SV} {upd : Objs} {rd : List Nat} {obl : Obl}
    (h : evPick kn get c x y = .ok sv upd rd obl) : upd = [] ∧ ∃ b, a.eval c = .bool b ∧ SVRel η G w sv (if b then a.eval x else a.eval y) := by
  have hc := opnd_rel H c
  unfold evPick at h
  split at h
  · rename_i hk
    simp only [plain, OpRes.ok.injEq] at h; obtain ⟨rfl, rfl, _, rfl⟩ := h
    cases c <;> simp only [knOf] at hk <;> first | cases hk | exact ⟨rfl, true, hkn _ _ (by simp [Op.operands]) hk, opnd_rel H x⟩
  · rename_i hk
    simp only [plain, OpRes.ok.injEq] at h; obtain ⟨rfl, rfl, _, rfl⟩ := h
    cases c <;> simp only [knOf] at hk <;> first | cases hk | exact ⟨rfl, false, hkn _ _ (by simp [Op.operands]) hk, opnd_rel H y⟩
  · split at h
    · rename_i hs
      rw [hs] at hc
      simp only [SVRel, BE.den_t] at hc
      simp only [plain, OpRes.ok.injEq] at h; obtain ⟨rfl, rfl, _, rfl⟩ := h
      exact ⟨rfl, true, hc, opnd_rel H x⟩
    · rename_i hs
      rw [hs] at hc
      simp only [SVRel, BE.den_f] at hc
      simp only [plain, OpRes.ok.injEq] at h; obtain ⟨rfl, rfl, _, rfl⟩ := h
      exact ⟨rfl, false, hc, opnd_rel H y⟩
    · cases h

theorem map_parts (parts : Array (Nat × Operand)) (ρ : Operand → Value) : (parts.map fun (i, x) => (i, ρ x)) = (parts.toList.map fun p => (p.1, ρ p.2)).toArray := by
  apply Array.ext'
  simp

theorem evOp_sound (hE : EOk P E) (H : Holds dl η G N get ob a w) {kn : List (Nat × Bool)} {d : Nat} {o : Oper} (hkn : KnOk o.op kn a) {sv : SV} {upd : Objs} {rd : List Nat} {obl : Obl}
    (h : evOp E d kn get ob o.op = .ok sv upd rd obl) (ho : obl.holds) : OpOk P o a η G w ob sv upd := by
  cases hop : o.op with
  | move x | assign x =>
    rw [hop] at h
    simp only [evOp, plain, OpRes.ok.injEq] at h; obtain ⟨rfl, rfl, _, rfl⟩ := h
    exact ⟨.value (a.eval x), a.eval x, η, G, w, by simp [execOp, hop], .inl rfl, After.pure H (opnd_rel H x)⟩
  | pick c x y =>
    rw [hop] at h hkn
    simp only [evOp] at h
    obtain ⟨rfl, b, hb, hr⟩ := evPick_rel H hkn h
    refine ⟨.value (if b then a.eval x else a.eval y), _, η, G, w, ?_, .inl rfl, After.pure H hr⟩
    simp [execOp, hop, hb, asBool]
  | alloc T =>
    rw [hop] at h
    simp only [evOp] at h
    exact opOk_of_val (by simp only [execOp, hop]) (sound_alloc (old := .tuple #[]) hE H h)
  | box T x =>
    rw [hop] at h
    simp only [evOp] at h
    exact opOk_of_val (by simp only [execOp, hop]) (sound_box H (opnd_rel H x) h)
  | build T parts =>
    rw [hop] at h
    simp only [evOp] at h
    exact opOk_of_looks H (by simp only [execOp, hop, map_parts]) (sound_build hE H h)
  | buildSlice T len parts =>
    rw [hop] at h
    simp only [evOp] at h
    exact opOk_of_val (by simp only [execOp, hop, map_parts]) (sound_buildSlice hE H h)
  | load T p =>
    rw [hop] at h
    simp only [evOp] at h
    exact opOk_of_looks H (by simp only [execOp, hop]) (sound_load hE H (opnd_rel H p) h)
  | store T p x =>
    rw [hop] at h
    simp only [evOp] at h
    obtain ⟨w', η', G', hr, hs⟩ := sound_storeO hE H (opnd_rel H p) (opnd_rel H x) h ho
    exact ⟨.skip, undef, η', G', w', by simp [execOp, hop, hr], .inr ⟨rfl, rfl⟩, hs⟩
  | nilCheck x =>
    rw [hop] at h
    simp only [evOp] at h
    obtain ⟨rfl, ⟨p, hp⟩, hr⟩ := sound_nilCheck H (opnd_rel H x) h
    rw [hp] at hr
    exact ⟨.value (.pointer (some p)), _, η, G, w, by simp [execOp, hop, hp], .inl rfl, After.pure H hr⟩
  | binOp op T x y U =>
    rw [hop] at h
    simp only [evOp] at h
    exact opOk_of_looks H (by simp only [execOp, hop]) (sound_bin (x := x) (y := y) hE (opnd_rel H x) (opnd_rel H y) h ho)
  | unOp op T x =>
    rw [hop] at h
    cases op <;> simp only [evOp] at h <;> first | cases h | skip
    exact opOk_of_looks H (by simp only [execOp, hop]) (sound_not (opnd_rel H x) h)
  | convert s d x =>
    rw [hop] at h
    simp only [evOp] at h
    exact opOk_of_val (by simp only [execOp, hop]) (sound_conv hE H (opnd_rel H x) h ho)
  | makeMap T r =>
    rw [hop] at h
    cases r with
    | none =>
      simp only [evOp] at h
      exact opOk_of_val (by simp only [execOp, hop, Option.map_none]) (sound_makeMap hE H h)
    | some r => simp only [evOp] at h; cases h
  | lookup T m k c =>
    rw [hop] at h
    cases c with
    | false =>
      simp only [evOp] at h
      exact opOk_of_looks H (by simp only [execOp, hop]) (sound_lookup hE H (opnd_rel H m) (opnd_rel H k) h ho)
    | true => simp only [evOp] at h; cases h
  | mapUpdate T m k v =>
    rw [hop] at h
    simp only [evOp] at h
    obtain ⟨w', η', G', hr, hs⟩ := sound_mapUpdate hE H (opnd_rel H m) (opnd_rel H k) (opnd_rel H v) h ho
    exact ⟨.skip, undef, η', G', w', by simp [execOp, hop, hr], .inr ⟨rfl, rfl⟩, hs⟩
  | fieldAddr S p f =>
    rw [hop] at h
    simp only [evOp] at h
    exact opOk_of_looks H (by simp only [execOp, hop]) (sound_fieldAddr hE (opnd_rel H p) H h)
  | indexAddr T x i =>
    rw [hop] at h
    simp only [evOp] at h
    exact opOk_of_looks H (by simp only [execOp, hop]) (sound_indexAddr hE H (opnd_rel H x) (opnd_rel H i) h ho)
  | index T x i =>
    rw [hop] at h
    simp only [evOp] at h
    exact opOk_of_looks H (by simp only [execOp, hop]) (sound_index hE (opnd_rel H x) (opnd_rel H i) h ho)
  | extract t i =>
    rw [hop] at h
    simp only [evOp] at h
    exact opOk_of_looks H (by simp only [execOp, hop]) (sound_extract (opnd_rel H t) h)
  | slice T x lo hi mx =>
    rw [hop] at h
    simp only [evOp] at h
    exact opOk_of_looks H (by simp only [execOp, hop]) (sound_slice hE (opnd_rel H x) (optSV_rel H lo) (optSV_rel H hi) (optSV_rel H mx) h ho)
  | makeFunc fn first caps =>
    rw [hop] at h
    cases fn with
    | func f =>
     simp only [evOp] at h
     split at h
     · rename_i hf
       simp only [plain, OpRes.ok.injEq] at h; obtain ⟨rfl, rfl, _, rfl⟩ := h
       have hf0 : first = #[] := by apply Array.ext'; simpa using hf
       subst hf0
       refine ⟨.value (.func (.func f) #[] (caps.map a.eval)), _, η, G, w, by simp [execOp, hop, Instr.makeFunc], .inl rfl, After.pure H ?_⟩
       simp only [SVRel]
       exact ⟨caps.toList.map a.eval, by simp; apply Array.ext'; simp, SVRels.map H caps.toList⟩
     · cases h
    | _ => simp only [evOp] at h; cases h
  | call c =>
    rw [hop] at h
    obtain ⟨callee, args, types⟩ := c
    cases callee with
    | builtin b =>
      simp only [evOp] at h
      unfold evBuiltin at h
      split at h
      · rename_i x y hargs
        have ha : args = #[x, y] := by apply Array.ext'; simpa using hargs
        subst ha
        split at h
        · rename_i T U htypes
          have hTU := eqN_eq (cond_ok h).1
          replace h := (cond_ok h).2
          subst hTU
          have ht : types = #[T, T] := by apply Array.ext'; simpa using htypes
          subst ht
          exact opOk_of_val (s := Builtin.append_ #[T, T] o.type #[a.eval x, a.eval y]) (by simp [execOp, hop, resolve, invoke, builtin]) (sound_append hE H (opnd_rel H x) (opnd_rel H y) h ho)
        · cases h
      · rename_i x hargs
        have ha : args = #[x] := by apply Array.ext'; simpa using hargs
        subst ha
        exact opOk_of_looks H (s := Builtin.len_ types o.type #[a.eval x]) (by simp [execOp, hop, resolve, invoke, builtin]) (sound_len hE H (opnd_rel H x) h)
      · rename_i x y hargs
        have ha : args = #[x, y] := by apply Array.ext'; simpa using hargs
        subst ha
        exact opOk_of_looks H (s := Builtin.max2 (a.eval x) (a.eval y)) (by simp [execOp, hop, resolve, invoke, builtin, Builtin.max_]) (sound_minMax (opnd_rel H x) (opnd_rel H y) h)
      · rename_i x y hargs
        have ha : args = #[x, y] := by apply Array.ext'; simpa using hargs
        subst ha
        exact opOk_of_looks H (s := Builtin.min2 (a.eval x) (a.eval y)) (by simp [execOp, hop, resolve, invoke, builtin, Builtin.min_]) (sound_minMax (mx := false) (opnd_rel H x) (opnd_rel H y) h)
      · cases h
    | value f => simp only [evOp] at h; cases h
    | invoke r m => simp only [evOp] at h; cases h
  | _ => rw [hop] at h; simp only [evOp] at h; cases h
end
end Go.SX
