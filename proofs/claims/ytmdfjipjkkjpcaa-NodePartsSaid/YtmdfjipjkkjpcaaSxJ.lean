/- SX: an operation's symbolic execution hangs on what it reads alone. -/
import Derived.Test.YtmdfjipjkkjpcaaSxI
import Derived.Test.YtmdfjipjkkjpcaaSxV
namespace Go.SX

section
variable {E : Env} {get get' : Nat → SV} {ob ob' : Nat → Option TObj}

theorem opnd_congr {x : Operand} (h : ∀ t, x = .tmp t → get t = get' t) : opnd get x = opnd get' x := by
  cases x <;> first | exact h _ rfl | rfl

theorem fillParts_congr (n : Nat) (place : Nat → Nat × Nat) : ∀ (parts : List (Nat × Operand)) (cs : List SV), (∀ p ∈ parts, ∀ t, p.2 = .tmp t → get t = get' t) →
    fillParts get n place parts cs = fillParts get' n place parts cs
  | [], _, _ => rfl
  | (i, x) :: r, cs, h => by
      simp only [fillParts]
      rw [opnd_congr (get := get) (get' := get') (fun t ht => h (i, x) (by simp) t ht), fillParts_congr n place r _ (fun p hp => h p (by simp [hp]))]

theorem evOp_congr {d : Nat} {kn : List (Nat × Bool)} {o : Op} (h : ∀ t, Operand.tmp t ∈ o.operands.toList → get t = get' t) : evOp E d kn get ob o = evOp E d kn get' ob o := by
  have hx : ∀ x : Operand, x ∈ o.operands.toList → opnd get x = opnd get' x := fun x hx => opnd_congr fun t ht => h t (ht ▸ hx)
  cases o with
  | move x | assign x | load T x | nilCheck x | fieldAddr T x f | extract x i | convert s t x => simp only [evOp, hx x (by simp [Op.operands])]
  | box T x => simp only [evOp, hx x (by simp [Op.operands])]
  | unOp op T x => cases op <;> simp only [evOp, hx x (by simp [Op.operands])]
  | pick c x y => simp only [evOp, evPick, hx c (by simp [Op.operands]), hx x (by simp [Op.operands]), hx y (by simp [Op.operands])]
  | makeMap T r => cases r <;> rfl
  | lookup T x y c => cases c <;> simp only [evOp, hx x (by simp [Op.operands]), hx y (by simp [Op.operands])]
  | mapUpdate T x y z => simp only [evOp, hx x (by simp [Op.operands]), hx y (by simp [Op.operands]), hx z (by simp [Op.operands])]
  | store T x y | indexAddr T x y | index T x y | binOp op T x y U => simp only [evOp, hx x (by simp [Op.operands]), hx y (by simp [Op.operands])]
  | build T parts =>
    simp only [evOp, evBuild]
    split
    · split
      · rw [fillParts_congr _ _ _ _ (get := get) (get' := get') (fun p hp t ht => h t (by simp only [Op.operands]; simp; exact ⟨p.1, by rw [← ht]; simpa using hp⟩))]
      · rfl
    · rfl
  | buildSlice T n parts =>
    simp only [evOp, evBuildSlice]
    split
    · split
      · split
        · rw [fillParts_congr _ _ _ _ (get := get) (get' := get') (fun p hp t ht => h t (by simp only [Op.operands]; simp; exact ⟨p.1, by rw [← ht]; simpa using hp⟩))]
        · rfl
      · rfl
    · rfl
  | slice T x lo hi mx =>
    have ho : ∀ y : Option Operand, (∀ z, y = some z → z ∈ (Op.slice T x lo hi mx).operands.toList) → optSV get y = optSV get' y := by
      intro y hy
      cases y with
      | none => rfl
      | some z => simp only [optSV, hx z (hy z rfl)]
    simp only [evOp, hx x (by simp [Op.operands]), ho lo (by rintro z rfl; simp [Op.operands]), ho hi (by rintro z rfl; simp [Op.operands]), ho mx (by rintro z rfl; simp [Op.operands])]
  | makeFunc fn first caps =>
    cases fn <;> simp only [evOp]
    have : caps.toList.map (opnd get) = caps.toList.map (opnd get') := List.map_congr_left fun x hx' => hx x (by simp [Op.operands]; exact .inr (by simpa [leN_iff, ltN_iff] using hx'))
    rw [this]
  | call c =>
    obtain ⟨callee, args, types⟩ := c
    cases callee with
    | builtin b =>
      simp only [evOp]
      have hm : ∀ x ∈ args.toList, opnd get x = opnd get' x := fun x hx' => hx x (by simpa [Op.operands, Call.operands] using hx')
      unfold evBuiltin
      split <;> first | rfl | (rename_i heq; rw [heq] at hm; simp only [List.forall_mem_cons] at hm; simp only [hm])
    | value f => rfl
    | invoke r m => rfl
  | _ => rfl

theorem bif_congr {b b' : Bool} {x y : OpRes} {sv : SV} {upd : Objs} {rd : List Nat} {obl : Obl} (h : (bif b then x else .bad) = .ok sv upd rd obl) (hb : b = true → x = .ok sv upd rd obl → b' = true ∧ y = .ok sv upd rd obl) :
    (bif b' then y else .bad) = .ok sv upd rd obl := by
  have h1 := (cond_ok h).1
  have h2 := (cond_ok h).2
  obtain ⟨h3, h4⟩ := hb h1 h2
  rw [h3]
  exact h4

section
variable {sv : SV} {upd : Objs} {rd : List Nat} {obl : Obl} (hr : ∀ k ∈ rd, ob k = ob' k)
include hr

theorem evLen_congrO {x : SV} (h : evLen ob x = .ok sv upd rd obl) : evLen ob' x = .ok sv upd rd obl := by
  cases x with
  | own k =>
    simp only [evLen] at h ⊢
    have hm : k ∈ rd := by
      revert h; split <;> intro h <;> first | (cases h; done) | (simp only [OpRes.ok.injEq] at h; rw [← h.2.2.1]; simp)
    rw [← hr k hm]; exact h
  | csl k wd n =>
    simp only [evLen] at h ⊢
    have hm : k ∈ rd := by
      revert h; split <;> intro h <;> first | (cases h; done) | (simp only [OpRes.ok.injEq] at h; rw [← h.2.2.1]; simp)
    rw [← hr k hm]; exact h
  | view k d =>
    cases d <;> simp only [evLen] at h ⊢ <;> first | exact h | skip
    all_goals
      have hm : k ∈ rd := by
        have h2 := (cond_ok h).2
        simp only [OpRes.ok.injEq] at h2; rw [← h2.2.2.1]; simp
      rw [← hr k hm]; exact h
  | dat d => cases d <;> exact h
  | _ => exact h

theorem evLenT_congrO {types : List Nat} {x : SV} (h : evLenT E types ob x = .ok sv upd rd obl) : evLenT E types ob' x = .ok sv upd rd obl := by
  rcases types with _ | ⟨T, _ | ⟨_, _⟩⟩
  · exact h
  · cases x <;> (simp only [evLenT] at h ⊢; exact bif_congr h fun h1 h2 => ⟨h1, evLen_congrO hr h2⟩)
  · exact h

theorem evIndexAddr_congrO {T : Nat} {x i : SV} (h : evIndexAddr E T ob x i = .ok sv upd rd obl) : evIndexAddr E T ob' x i = .ok sv upd rd obl := by
  unfold evIndexAddr at h ⊢
  split
  all_goals simp only [] at h ⊢
  · exact h
  · exact h
  · rename_i k wd n row ki z
    have hm : k ∈ rd := by
      have h2 := (cond_ok h).2
      simp only [OpRes.ok.injEq] at h2; rw [← h2.2.2.1]; simp
    rw [← hr k hm]; exact h
  · rename_i k bs ki z
    have hm : k ∈ rd := by
      have h2 := (cond_ok h).2
      simp only [OpRes.ok.injEq] at h2; rw [← h2.2.2.1]; simp
    rw [← hr k hm]; exact h
  · rename_i k ki z
    have hm : k ∈ rd := by
      revert h; split <;> intro h <;> first | (cases h; done) | (have h2 := (cond_ok h).2; simp only [OpRes.ok.injEq] at h2; rw [← h2.2.2.1]; simp)
    rw [← hr k hm]; exact h
  · rename_i k wd n ki z
    have hm : k ∈ rd := by
      revert h; split <;> intro h <;> first | (cases h; done) | (have h2 := (cond_ok h).2; simp only [OpRes.ok.injEq] at h2; rw [← h2.2.2.1]; simp)
    rw [← hr k hm]; exact h
  · exact h

theorem evLoad_congrO {ti : Option TI} {p : SV} (h : evLoad ti ob p = .ok sv upd rd obl) : evLoad ti ob' p = .ok sv upd rd obl := by
  cases ti with
  | none => simp [evLoad] at h
  | some ti =>
    cases p with
    | loc k off =>
      simp only [evLoad] at h ⊢
      have hm : k ∈ rd := by
        revert h; split <;> intro h
        · rcases cond_eq h with ⟨_, h⟩ | ⟨_, h⟩ <;> (have h2 := (cond_ok h).2; simp only [OpRes.ok.injEq] at h2; rw [← h2.2.2.1]; simp)
        · cases h
      rw [← hr k hm]; exact h
    | ep src wd cells off =>
      cases src with
      | none => simp only [evLoad] at h ⊢; exact h
      | some k =>
        simp only [evLoad] at h ⊢
        have hm : k ∈ rd := by
          have h := (cond_ok h).2
          rcases cond_eq h with ⟨_, h⟩ | ⟨_, h⟩ <;> (have h2 := (cond_ok h).2; simp only [OpRes.ok.injEq] at h2; rw [← h2.2.2.1]; simp)
        rw [← hr k hm]; exact h
    | op k wd i off =>
      simp only [evLoad] at h ⊢
      have hm : k ∈ rd := by
        revert h; split <;> intro h
        · have h2 := (cond_ok h).2; simp only [OpRes.ok.injEq] at h2; rw [← h2.2.2.1]; simp
        · have h := (cond_ok h).2
          rcases cond_eq h with ⟨_, h⟩ | ⟨_, h⟩ <;> (have h2 := (cond_ok h).2; simp only [OpRes.ok.injEq] at h2; rw [← h2.2.2.1]; simp)
        · have h := (cond_ok h).2
          rcases cond_eq h with ⟨_, h⟩ | ⟨_, h⟩ <;> (have h2 := (cond_ok h).2; simp only [OpRes.ok.injEq] at h2; rw [← h2.2.2.1]; simp)
        · cases h
      rw [← hr k hm]; exact h
    | _ => simp [evLoad] at h

theorem evFieldAddr_congrO {ti : Option TI} {p : SV} {f : Nat} (h : evFieldAddr ob ti p f = .ok sv upd rd obl) : evFieldAddr ob' ti p f = .ok sv upd rd obl := by
  cases ti with
  | none => simp [evFieldAddr] at h
  | some ti =>
    simp only [evFieldAddr] at h ⊢
    split at h
    · rename_i fs htd
      refine bif_congr h fun h1 h2 => ⟨h1, ?_⟩
      cases p with
      | loc k off =>
        simp only [] at h2 ⊢
        have hm : k ∈ rd := by
          have h2 := (cond_ok h2).2
          simp only [OpRes.ok.injEq] at h2; rw [← h2.2.2.1]; simp
        rw [← hr k hm]; exact h2
      | op k wd i off =>
        simp only [] at h2 ⊢
        have hm : k ∈ rd := by
          have h2 := (cond_ok h2).2
          simp only [OpRes.ok.injEq] at h2; rw [← h2.2.2.1]; simp
        rw [← hr k hm]; exact h2
      | ep src wd cells off =>
        cases src with
        | none => exact h2
        | some k =>
          simp only [] at h2 ⊢
          have hm : k ∈ rd := by
            have h2 := (cond_ok h2).2
            simp only [OpRes.ok.injEq] at h2; rw [← h2.2.2.1]; simp
          rw [← hr k hm]; exact h2
      | _ => exact h2
    · cases h

theorem evStore_congrO {ti : Option TI} {p x : SV} (h : evStore ti ob p x = .ok sv upd rd obl) : evStore ti ob' p x = .ok sv upd rd obl := by
  cases ti with
  | none => simp [evStore] at h
  | some ti =>
    cases p with
    | loc k off =>
      simp only [evStore] at h ⊢
      have hm : k ∈ rd := by
        revert h; split <;> intro h
        · have h2 := (cond_ok h).2; simp only [OpRes.ok.injEq] at h2; rw [← h2.2.2.1]; simp
        · cases h
      rw [← hr k hm]; exact h
    | _ => simp [evStore] at h

theorem evNilCheck_congrO {x : SV} (h : evNilCheck ob x = .ok sv upd rd obl) : evNilCheck ob' x = .ok sv upd rd obl := by
  cases x with
  | loc k off =>
    simp only [evNilCheck] at h ⊢
    have hm : k ∈ rd := by
      have h2 := (cond_ok h).2
      simp only [OpRes.ok.injEq] at h2; rw [← h2.2.2.1]; simp
    rw [← hr k hm]; exact h
  | _ => exact h

theorem evAlloc_congrO {d T : Nat} (h : evAlloc E d ob T = .ok sv upd rd obl) : evAlloc E d ob' T = .ok sv upd rd obl := by
  unfold evAlloc at h ⊢
  have hm : d ∈ rd := by
    revert h; split <;> intro h
    · simp only [OpRes.ok.injEq] at h; rw [← h.2.2.1]; simp
    · cases h
  rw [← hr d hm]; exact h

theorem evBox_congrO {d T : Nat} {x : SV} (h : evBox d ob T x = .ok sv upd rd obl) : evBox d ob' T x = .ok sv upd rd obl := by
  unfold evBox at h ⊢
  have hm : d ∈ rd := by
    revert h; split <;> intro h
    · have h2 := (cond_ok h).2; simp only [OpRes.ok.injEq] at h2; rw [← h2.2.2.1]; simp
    · cases h
  rw [← hr d hm]; exact h

theorem evBuildSlice_congrO {d T n : Nat} {parts : List (Nat × Operand)} (h : evBuildSlice E d get ob T n parts = .ok sv upd rd obl) : evBuildSlice E d get ob' T n parts = .ok sv upd rd obl := by
  have hm : d ∈ rd := by
    unfold evBuildSlice at h
    split at h
    · split at h
      · split at h
        · split at h
          · have h2 := (cond_ok h).2; simp only [OpRes.ok.injEq] at h2; rw [← h2.2.2.1]; simp
          · cases h
        · cases h
      · cases h
    · cases h
  unfold evBuildSlice at h ⊢
  rw [← hr d hm]; exact h

omit hr in
theorem baseB_congr {e : Nat} {x : SV} {ks : List Nat} {bs : Unit → List UInt8} (h : baseB e ob x = some (ks, bs)) (hk : ∀ k ∈ ks, ob k = ob' k) : baseB e ob' x = some (ks, bs) := by
  cases x with
  | own k =>
    have hm : k ∈ ks := by
      simp only [baseB] at h
      split at h
      · cases hc : (eqN _ e && ltN 0 e) <;> rw [hc] at h <;> simp at h
        rw [← h.1]; simp
      · cases h
    simp only [baseB, ← hk k hm] at h ⊢; exact h
  | csl k w n =>
    have hm : k ∈ ks := by
      simp only [baseB] at h
      split at h
      · cases hc : (eqN _ e && ltN 0 e && eqN n 0 && eqN w 1) <;> rw [hc] at h <;> simp at h
        rw [← h.1]; simp
      · cases h
    simp only [baseB, ← hk k hm] at h ⊢; exact h
  | _ => exact h

omit hr in
theorem addB_congr {y : SV} {A : Add} (h : addB ob y = some A) (hk : ∀ k ∈ A.rd, ob k = ob' k) : addB ob' y = some A := by
  cases y with
  | own k =>
    have hm : k ∈ A.rd := by
      simp only [addB] at h
      split at h
      · cases h; simp
      · cases h
    simp only [addB, ← hk k hm] at h ⊢; exact h
  | csl k w n =>
    have hm : k ∈ A.rd := by
      simp only [addB] at h
      split at h
      · split at h
        · cases hc : (eqN w 1 && eqN n _) <;> rw [hc] at h <;> simp at h
          rw [← h]; simp
        · cases h
      · cases h
    simp only [addB, ← hk k hm] at h ⊢; exact h
  | view k d =>
    cases d with
    | bytes bs =>
      have hm : k ∈ A.rd := by
        simp only [addB] at h
        cases hc : aliveO (ob k) <;> rw [hc] at h <;> simp at h
        rw [← h]; simp
      simp only [addB, ← hk k hm] at h ⊢; exact h
    | _ => exact h
  | dat d => cases d <;> exact h
  | nn d => cases d <;> exact h
  | _ => exact h

def baN : BA → List Nat
  | .nil ks => ks
  | .sh k _ _ => [k]
  | .dp k _ _ => [k]

omit hr in
theorem baseA_congr {e w : Nat} {x : SV} {b : BA} (h : baseA e w ob x = some b) (hk : ∀ k ∈ baN b, ob k = ob' k) : baseA e w ob' x = some b := by
  cases x with
  | own k =>
    have hm : k ∈ baN b := by
      simp only [baseA] at h
      split at h
      · cases hc : (eqN _ e && ltN 0 e && eqN w _) <;> rw [hc] at h <;> simp at h
        rw [← h]; simp [baN]
      · cases hc : (eqN _ e && ltN 0 e && eqN w _) <;> rw [hc] at h <;> simp at h
        rw [← h]; simp [baN]
      · cases h
    simp only [baseA, ← hk k hm] at h ⊢; exact h
  | csl k w' n =>
    have hm : k ∈ baN b := by
      simp only [baseA] at h
      split at h
      · cases hc : (eqN _ e && ltN 0 e && eqN n 0 && eqN w w') <;> rw [hc] at h <;> simp at h
        rw [← h]; simp [baN]
      · cases h
    simp only [baseA, ← hk k hm] at h ⊢; exact h
  | _ => exact h

omit hr in
theorem deepCell_congr {z : DV} {s : SV} {d : DV} {ks : List Nat} (h : deepCell ob z s = some (d, ks)) (hk : ∀ k ∈ ks, ob k = ob' k) : deepCell ob' z s = some (d, ks) := by
  cases s with
  | own k =>
    have hm : k ∈ ks := by
      simp only [deepCell] at h
      split at h
      · simp only [Option.some.injEq, Prod.mk.injEq] at h; rw [← h.2]; simp
      · simp only [Option.some.injEq, Prod.mk.injEq] at h; rw [← h.2]; simp
      · cases h
    simp only [deepCell, ← hk k hm] at h ⊢; exact h
  | _ => exact h

omit hr in
theorem deepCells_cons (zs : List DV) (c : SV) (cs : List SV) : deepCells ob zs (c :: cs) = (match deepCell ob (match zs with | z :: _ => z | [] => .bool fun _ => false) c, deepCells ob zs.tail cs with
    | some (d, k), some (ds, ks) => some (d :: ds, k :: ks)
    | _, _ => none) := by cases zs <;> rfl

omit hr in
theorem deepCells_congr : ∀ {zs : List DV} {cs : List SV} {ds : List DV} {ks : List (List Nat)}, deepCells ob zs cs = some (ds, ks) → (∀ k ∈ flatN ks, ob k = ob' k) → deepCells ob' zs cs = some (ds, ks)
  | zs, [], ds, ks, h, _ => by cases zs <;> exact h
  | zs, c :: cs, ds, ks, h, hk => by
      rw [deepCells_cons] at h ⊢
      split at h
      · rename_i d k ds' ks' h1 h2
        simp only [Option.some.injEq, Prod.mk.injEq] at h; obtain ⟨rfl, rfl⟩ := h
        simp only [flatN, List.mem_append] at hk
        rw [deepCell_congr h1 fun k hm => hk k (.inl hm), deepCells_congr h2 fun k hm => hk k (.inr hm)]
      · cases h

omit hr in
theorem deep_shared : ∀ {zs zs' : List DV} {cs : List SV} {ds : List DV}, sharedCells zs' cs = some ds → deepCells ob zs cs = deepCells ob' zs cs
  | zs, _, [], _, _ => by cases zs <;> rfl
  | zs, zs', c :: cs, ds, h => by
      rw [show sharedCells zs' (c :: cs) = (match sharedCell (match zs' with | z :: _ => z | [] => .bool fun _ => false) c, sharedCells zs'.tail cs with
        | some d, some ds => some (d :: ds)
        | _, _ => none) by cases zs' <;> rfl] at h
      split at h
      · rename_i d ds' h1 h2
        rw [deepCells_cons, deepCells_cons, deep_shared (zs := zs.tail) h2]
        cases c <;> first | rfl | (simp [sharedCell] at h1; done)
      · cases h

omit hr in
theorem appS_rd {d e w bytes : Nat} {r : List Nat} {m : Unit → Nat} {new : (Unit → Nat) → Nat → DV} {b : BA} (h : appS d e w bytes r m new b = .ok sv upd rd obl) : d ∈ rd ∧ (∀ k ∈ baN b, k ∈ rd) ∧ ∀ k ∈ r, k ∈ rd := by
  cases b <;> simp only [appS, OpRes.ok.injEq] at h <;> first | (cases h; done) | (obtain ⟨_, _, rfl, _⟩ := h; simp [baN]; try (intros; simp_all))

omit hr in
theorem appD_rd {d e w bytes : Nat} {r : List Nat} {ds : List DV} {ks : List (List Nat)} {b : BA} (h : appD d e w bytes r ds ks b = .ok sv upd rd obl) : d ∈ rd ∧ (∀ k ∈ baN b, k ∈ rd) ∧ (∀ k ∈ r, k ∈ rd) ∧ ∀ k ∈ flatN ks, k ∈ rd := by
  cases b with
  | nil k0 =>
    simp only [appD] at h
    replace h := (cond_ok h).2
    simp only [OpRes.ok.injEq] at h; obtain ⟨_, _, rfl, _⟩ := h
    refine ⟨by simp, fun k hk => ?_, fun k hk => ?_, fun k hk => ?_⟩ <;> simp_all [baN]
  | dp k n row =>
    simp only [appD] at h
    replace h := (cond_ok h).2
    simp only [OpRes.ok.injEq] at h; obtain ⟨_, _, rfl, _⟩ := h
    refine ⟨by simp, fun k hk => ?_, fun k hk => ?_, fun k hk => ?_⟩ <;> simp_all [baN]
  | sh k n row => simp [appD] at h

theorem evAppA_congr {d e : Nat} {te : TI} {b : BA} {y : SV} (h : evAppA d e te ob b y = .ok sv upd rd obl) : (d ∈ rd ∧ ∀ k ∈ baN b, k ∈ rd) ∧ evAppA d e te ob' b y = .ok sv upd rd obl := by
  unfold evAppA at h ⊢
  split at h
  · exact ⟨⟨(appS_rd (cond_ok h).2).1, (appS_rd (cond_ok h).2).2.1⟩, h⟩
  · rename_i k
    split at h
    · rename_i T' wd m row hob
      have h3 := appS_rd (cond_ok h).2
      refine ⟨⟨h3.1, h3.2.1⟩, ?_⟩
      have hob' : ob' k = some (.arrS T' wd m row) := by rw [← hr k (h3.2.2 k (by simp))]; exact hob
      simp only [hob']; exact h
    · cases h
  · rename_i k wd m
    split at h
    · rename_i T' cs hob
      have hw := (cond_ok h).1
      replace h := (cond_ok h).2
      have shared : ∀ ds, sharedCells te.dz cs = some ds → appS d e te.size te.bytes [k] (fun _ => 1) (oneRow ds) b = .ok sv upd rd obl → (d ∈ rd ∧ ∀ k ∈ baN b, k ∈ rd) ∧ ob' k = some (.cells T' cs) ∧ deepCells ob' te.dz cs = deepCells ob te.dz cs := by
        intro ds hds h
        have h3 := appS_rd h
        exact ⟨⟨h3.1, h3.2.1⟩, by rw [← hr k (h3.2.2 k (by simp))]; exact hob, (deep_shared hds).symm⟩
      split at h
      · rename_i ds ks hdeep
        split at h
        · split at h
          · rename_i ds' hds
            obtain ⟨s1, s2, s3⟩ := shared _ hds h
            refine ⟨s1, ?_⟩
            simp only [s2, hw, cond_true, s3, hdeep, hds]; exact h
          · cases h
        · rename_i hnb
          have h3 := appD_rd h
          refine ⟨⟨h3.1, h3.2.1⟩, ?_⟩
          have hob' : ob' k = some (.cells T' cs) := by rw [← hr k (h3.2.2.1 k (by simp))]; exact hob
          simp only [hob', hw, cond_true, deepCells_congr hdeep fun k hk => hr k (h3.2.2.2 k hk)]
          cases b <;> first | exact h | exact absurd rfl (hnb _ _ _)
      · rename_i hdeep
        split at h
        · rename_i ds' hds
          obtain ⟨s1, s2, s3⟩ := shared _ hds h
          refine ⟨s1, ?_⟩
          simp only [s2, hw, cond_true, s3, hdeep, hds]; exact h
        · cases h
    · cases h
  · cases h

theorem evAppend_congrO {d T : Nat} {x y : SV} (h : evAppend E d ob T x y = .ok sv upd rd obl) : evAppend E d ob' T x y = .ok sv upd rd obl := by
  unfold evAppend at h ⊢
  split at h
  · rename_i ti hd hti
    split at h
    · rename_i e htd
      split at h
      · rename_i te hte
        rcases cond_eq h with ⟨hc, h2⟩ | ⟨hc, h2⟩
        · replace h := h2
          split at h
          · rename_i ks bs A hb hA
            have hrd : d :: ks ++ A.rd = rd := by simp only [OpRes.ok.injEq] at h; exact h.2.2.1
            have hd' : ob' d = none := by rw [← hr d (by rw [← hrd]; simp)]; exact hd
            rw [hd', hti]
            simp only [htd, hte, hc, cond_true]
            rw [baseB_congr hb fun k hk => hr k (by rw [← hrd]; simp [hk]), addB_congr hA fun k hk => hr k (by rw [← hrd]; simp [hk])]
            exact h
          · cases h
        · replace h := h2
          have hc2 := (cond_ok h).1
          replace h := (cond_ok h).2
          split at h
          · cases h
          · rename_i b hb
            obtain ⟨s1, s2⟩ := evAppA_congr hr h
            have hd' : ob' d = none := by rw [← hr d s1.1]; exact hd
            rw [hd', hti]
            simp only [htd, hte, hc, hc2, cond_true, cond_false]
            rw [baseA_congr hb fun k hk => hr k (s1.2 k hk)]
            exact s2
      · cases h
    · cases h
  · cases h

theorem evLookup_congrO {T : Nat} {x y : SV} (h : evLookup E T ob x y = .ok sv upd rd obl) : evLookup E T ob' x y = .ok sv upd rd obl := by
  cases x with
  | own j =>
    cases y with
    | int k e =>
      have hm : j ∈ rd := by
        simp only [evLookup] at h
        split at h
        · split at h
          · have h2 := (cond_ok h).2; simp only [OpRes.ok.injEq] at h2; rw [← h2.2.2.1]; simp
          · cases h
        · cases h
      simp only [evLookup, ← hr j hm] at h ⊢; exact h
    | _ => exact h
  | _ => exact h

theorem evMapUpdate_congrO {T : Nat} {x y z : SV} (h : evMapUpdate E T ob x y z = .ok sv upd rd obl) : evMapUpdate E T ob' x y z = .ok sv upd rd obl := by
  unfold evMapUpdate at h ⊢
  split at h
  · rename_i j k e
    have hm : j ∈ rd := by
      split at h
      · split at h
        · have h2 := (cond_ok h).2; simp only [OpRes.ok.injEq] at h2; rw [← h2.2.2.1]; simp
        · cases h
      · cases h
    rw [← hr j hm]; exact h
  · cases h

theorem evMakeMap_congrO {d T : Nat} (h : evMakeMap E d ob T = .ok sv upd rd obl) : evMakeMap E d ob' T = .ok sv upd rd obl := by
  have hm : d ∈ rd := by
    unfold evMakeMap at h
    split at h
    · split at h
      · simp only [OpRes.ok.injEq] at h; rw [← h.2.2.1]; simp
      · cases h
    · cases h
  unfold evMakeMap at h ⊢
  rw [← hr d hm]; exact h

theorem evConv_congrO {d s t : Nat} {x : SV} (h : evConv E d ob s t x = .ok sv upd rd obl) : evConv E d ob' s t x = .ok sv upd rd obl := by
  have rest : ∀ x, (bif isSlT E t then evToBytes E d ob s t x else evConvert E s t x) = .ok sv upd rd obl → (bif isSlT E t then evToBytes E d ob' s t x else evConvert E s t x) = .ok sv upd rd obl := by
    intro x h
    rcases cond_eq h with ⟨hc, h2⟩ | ⟨hc, h2⟩
    · rw [hc]
      have hm : d ∈ rd := by
        unfold evToBytes at h2
        split at h2
        · have h2 := (cond_ok h2).2; simp only [OpRes.ok.injEq] at h2; rw [← h2.2.2.1]; simp
        · cases h2
      simp only [cond_true]
      unfold evToBytes at h2 ⊢
      rw [← hr d hm]; exact h2
    · rw [hc]; exact h2
  cases x with
  | own k =>
    have hm : k ∈ rd := by
      simp only [evConv] at h
      split at h
      · have h2 := (cond_ok h).2; simp only [OpRes.ok.injEq] at h2; rw [← h2.2.2.1]; simp
      · cases h
    simp only [evConv, ← hr k hm] at h ⊢; exact h
  | view k d =>
    cases d with
    | bytes bs =>
      have hm : k ∈ rd := by
        simp only [evConv] at h
        have h2 := (cond_ok h).2; simp only [OpRes.ok.injEq] at h2; rw [← h2.2.2.1]; simp
      simp only [evConv, ← hr k hm] at h ⊢; exact h
    | _ => exact rest _ h
  | csl k w n =>
    have hm : d ∈ rd ∧ k ∈ rd := by
      simp only [evConv] at h
      split at h
      · split at h
        · have h2 := (cond_ok h).2; simp only [OpRes.ok.injEq] at h2; rw [← h2.2.2.1]; simp
        · cases h
      · cases h
    simp only [evConv, ← hr k hm.2, ← hr d hm.1] at h ⊢; exact h
  | _ => exact rest _ h

theorem evStoreO_congrO {ti : Option TI} {p x : SV} (h : evStoreO ti ob p x = .ok sv upd rd obl) : evStoreO ti ob' p x = .ok sv upd rd obl := by
  cases p with
  | op k w i off =>
    simp only [evStoreO] at h ⊢
    cases ti with
    | none => cases h
    | some ti =>
      cases hob : ob k with
      | none => rw [hob] at h; cases h
      | some X =>
        rw [hob] at h
        cases X with
        | arrD T w' n row =>
          dsimp only at h
          cases hd : deepCell ob (row (fun _ => i ()) off) x with
          | none => rw [hd] at h; cases h
          | some q =>
            obtain ⟨d, ks⟩ := q
            rw [hd] at h
            dsimp only at h
            have h2 := (cond_ok h).2
            simp only [OpRes.ok.injEq] at h2
            have hrd : rd = k :: ks := h2.2.2.1.symm
            subst hrd
            rw [← hr k (by simp), hob]
            dsimp only
            rw [deepCell_congr hd fun j hj => hr j (by simp [hj])]
            exact h
        | _ => cases h
  | _ => exact evStore_congrO hr h

theorem evOp_congrO {d : Nat} {kn : List (Nat × Bool)} {o : Op} (h : evOp E d kn get ob o = .ok sv upd rd obl) :
    evOp E d kn get ob' o = .ok sv upd rd obl := by
  cases o with
  | alloc T => exact evAlloc_congrO hr h
  | box T x => exact evBox_congrO hr h
  | load T p => exact evLoad_congrO hr h
  | store T p x => exact evStoreO_congrO hr h
  | fieldAddr S p f => exact evFieldAddr_congrO hr h
  | nilCheck x => exact evNilCheck_congrO hr h
  | indexAddr T x i => exact evIndexAddr_congrO hr h
  | buildSlice T n parts => exact evBuildSlice_congrO hr h
  | convert s t x => exact evConv_congrO hr h
  | makeMap T r => cases r with
    | none => exact evMakeMap_congrO hr h
    | some r => exact h
  | lookup T x y c => cases c with
    | false => exact evLookup_congrO hr h
    | true => exact h
  | mapUpdate T x y z => exact evMapUpdate_congrO hr h
  | unOp op T x => cases op <;> exact h
  | makeFunc fn first caps => cases fn <;> exact h
  | call c =>
    obtain ⟨callee, args, types⟩ := c
    cases callee with
    | builtin b =>
      simp only [evOp] at h ⊢
      cases b with
      | append =>
        rcases hargs : args.toList with _ | ⟨x, _ | ⟨y, _ | ⟨z, r⟩⟩⟩
        · rw [hargs] at h; exact h
        · rw [hargs] at h; exact h
        · rw [hargs] at h
          simp only [evBuiltin] at h ⊢
          split at h
          · exact bif_congr h fun h1 h2 => ⟨h1, evAppend_congrO hr h2⟩
          · cases h
        · rw [hargs] at h; exact h
      | len =>
        rcases hargs : args.toList with _ | ⟨x, _ | ⟨y, r⟩⟩
        · rw [hargs] at h; exact h
        · rw [hargs] at h; exact evLenT_congrO hr h
        · rw [hargs] at h; exact h
      | max | min => rcases hargs : args.toList with _ | ⟨x, _ | ⟨y, _ | ⟨z, r⟩⟩⟩ <;> (rw [hargs] at h; exact h)
      | _ => exact h
    | value f => exact h
    | invoke r m => exact h
  | _ => exact h
end
end
end Go.SX
