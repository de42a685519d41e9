/- Texts put together: SxN, SxO, SxP, SxQ, SxR, SxS. -/
import Derived.Deep.LoopGhost
import Derived.Test.YtkogbobplhebaaaGreatDoorQc
set_option linter.unusedVariables false
set_option linter.unusedSimpArgs false
set_option linter.unusedSectionVars false
/- SX: regions: from the operations' text to any order that their edges allow. -/
namespace Go.SX

abbrev FS := (Nat → SV) × (Nat → Option TObj)

/-- What an operation does: the slots and objects that it reads, what it writes. -/
structure FR where
  dst : Option Nat
  sv : SV
  upd : Objs
  rs : List Nat
  rd : List Nat

def FR.app (N : Nat) (r : FR) (F : FS) : FS :=
  (match r.dst with
   | some d => fun t => if t = d ∧ d < N then r.sv else F.1 t
   | none => F.1, updF F.2 r.upd)

/-- The fence of whatever frame: of an activation's, or of a round's. -/
def fen (ro : Option Nat) : Fence := { Fence.wide with round := ro }
theorem calls_fen {ro : Option Nat} {n : Nat} {P : Program} {f : FuncId} {args : Array Value} {w : World} {R : Ending → World → Prop} (h : Calls P f args w R) : CallsIn (fen ro) n P f args w R := (callsIn_wide (n := n)).2 h
theorem fen_depth {ro : Option Nat} {n : Nat} : (fen ro).depth.isSome = true → 1 ≤ n := fun h => by simp [fen, Fence.wide] at h
theorem round_fen {ro : Option Nat} {n l f : Nat} {P : Program} {tmps : Array Value} {assign body : Code} {w : World} {R : Ending → World → Prop} (h : RoundIn Fence.wide 0 P l f tmps assign body w R) : RoundIn (fen ro) n P l f tmps assign body w R :=
  ⟨h.1, fun c cs _ => h.2 c cs (room_wide _)⟩

def OpRec (P : Program) (ops : Array Oper) (N i : Nat) (F : FS) (r : FR) : Prop :=
  ∀ F' : FS, (∀ t ∈ r.rs, F'.1 t = F.1 t) → (∀ k ∈ r.rd, F'.2 k = F.2 k) → ∀ {dl : List Deferred} {ro : Option Nat} {nn : Nat} (Q : Exit → Act → World → Prop) (K : Act → World → Prop) (η : OEnv) (G : Nat → Prop) (a : Act) (w : World), Holds dl η G N F'.1 F'.2 a w →
    (∀ η' G' a' w', Holds dl η' G' N (r.app N F').1 (r.app N F').2 a' w' → Evol η G w η' G' w' → K a' w') → wpOpIn (fen ro) nn P ops Q i K a w

theorem opReads_mem {t : Nat} : ∀ {l : List Operand}, Operand.tmp t ∈ l → t ∈ opReads l
  | [], h => by cases h
  | x :: l, h => by
      rcases List.mem_cons.1 h with rfl | h
      · simp [opReads]
      · have := opReads_mem h
        cases x <;> simp [opReads, this]

theorem dstOf_eq : ∀ (all : List Oper) (j : Nat), dstOf all j = (all[j]?).bind (·.dst)
  | [], j => by simp [dstOf]
  | o :: r, 0 => by simp [dstOf]
  | o :: r, j + 1 => by simpa [dstOf] using dstOf_eq r j

section
variable {P : Program} {E : Env} {η : OEnv} {G : Nat → Prop} {N : Nat} {dl : List Deferred} {get : Nat → SV} {ob : Nat → Option TObj} {a : Act} {w : World}

theorem undef_tup : SVRel η G w (.tup []) undef := by simp [SVRel, SVRels, undef]
theorem undef_rel : SVRel η G w .any undef := by simp [SVRel]

theorem put_get (a : Act) (d : Nat) (v : Value) (t : Nat) : (a.put (some d) v).tmps.getD t undef = if t = d ∧ d < a.tmps.size then v else a.tmps.getD t undef := by
  simp only [Act.put, Array.getD_eq_getD_getElem?, Array.getElem?_setIfInBounds]
  by_cases h : t = d
  · subst h
    by_cases hl : t < a.tmps.size
    · simp [hl]
    · simp [hl]
  · have : ¬ d = t := fun e => h e.symm
    simp [h, this]

theorem holds_put (H : Holds dl η G N get ob a w) {dst : Option Nat} {sv : SV} {upd : Objs} {v : Value} {η' : OEnv} {G' : Nat → Prop} {w' : World} (A : After η G w ob sv upd v η' G' w') (rs rd : List Nat) :
    Holds dl η' G' N (FR.app N ⟨dst, sv, upd, rs, rd⟩ (get, ob)).1 (FR.app N ⟨dst, sv, upd, rs, rd⟩ (get, ob)).2 (a.put dst v) w' := by
  have hM := A.ev.mono H.sp
  cases dst with
  | none =>
    exact ⟨H.sz, H.df, fun t => SVRel.mono hM _ _ (H.tm t), A.ob, A.sp, H.tb.evol A.ev⟩
  | some d =>
    refine ⟨by simp [Act.put, H.sz], H.df, fun t => ?_, A.ob, A.sp, H.tb.evol A.ev⟩
    rw [put_get, H.sz]
    simp only [FR.app]
    split
    · exact A.sv
    · exact SVRel.mono hM _ _ (H.tm t)

/-- Is the operation's guard met? -/
def GuardIs (all : List Oper) (o : Oper) (get : Nat → SV) (v : Bool) : Prop :=
  (∃ j want s, o.guard = some (j, want) ∧ dstOf all j = some s ∧ get s = .tup [] ∧ v = false) ∨ (o.guard = none ∧ v = true) ∨ ∃ j want s e, o.guard = some (j, want) ∧ dstOf all j = some s ∧ get s = .bool e ∧ v = (e.den == want)

theorem guard_wanted (H : Holds dl η G N get ob a w) {ops : Array Oper} {o : Oper} {v : Bool} (hg : GuardIs ops.toList o get v) : Region.wanted o (yielded ops a.tmps) = v := by
  rcases hg with ⟨j, want, s, h1, h2, h3, rfl⟩ | ⟨h, rfl⟩ | ⟨j, want, s, e, h1, h2, h3, rfl⟩
  · have ht := H.tm s
    rw [h3] at ht
    simp only [SVRel] at ht
    obtain ⟨us, ht, -⟩ := ht
    have hy : yielded ops a.tmps j = none := by
      unfold yielded
      rw [dstOf_eq] at h2
      have h2' : (ops[j]?).bind (·.dst) = some s := by simpa [leN_iff, ltN_iff] using h2
      rw [Array.getD_eq_getD_getElem?] at ht
      cases hx : a.tmps[s]? with
      | none => simp [h2', hx]
      | some x =>
        rw [hx] at ht
        simp only [Option.getD_some] at ht
        simp [h2', hx, ht]
    simp [Region.wanted, h1, hy]
  · simp [Region.wanted, h]
  · have ht := H.tm s
    rw [h3] at ht
    simp only [SVRel] at ht
    have hs : a.tmps[s]? = some (.bool e.den) := by
      rw [Array.getD_eq_getD_getElem?] at ht
      cases hx : a.tmps[s]? with
      | none => rw [hx] at ht; simp [undef] at ht
      | some x => rw [hx] at ht; simpa using ht
    rw [dstOf_eq] at h2
    have hy : yielded ops a.tmps j = some e.den := by
      unfold yielded
      have : (ops[j]?).bind (·.dst) = some s := by simpa [leN_iff, ltN_iff] using h2
      simp [this, hs]
    simp [Region.wanted, h1, hy]

theorem GuardIs.congr {all : List Oper} {o : Oper} {get' : Nat → SV} {v : Bool} (hg : GuardIs all o get v) (h : ∀ t ∈ slotsOf all o, get' t = get t) : GuardIs all o get' v := by
  rcases hg with ⟨j, want, s, h1, h2, h3, h4⟩ | h0 | ⟨j, want, s, e, h1, h2, h3, h4⟩
  · exact .inl ⟨j, want, s, h1, h2, by rw [h s (by simp [slotsOf, h1, h2])]; exact h3, h4⟩
  · exact .inr (.inl h0)
  · exact .inr (.inr ⟨j, want, s, e, h1, h2, by rw [h s (by simp [slotsOf, h1, h2])]; exact h3, h4⟩)

def KnF (kn : List (Nat × Bool)) (get : Nat → SV) : Prop := ∀ s b, lookN s kn = some b → ∃ e, get s = .bool e ∧ e.den = b

theorem slots_op {all : List Oper} {o : Oper} {t : Nat} (h : Operand.tmp t ∈ o.op.operands.toList) : t ∈ slotsOf all o := by
  simp only [slotsOf, List.mem_append]
  exact .inl (opReads_mem h)

theorem wpOp_of {ops : Array Oper} {i : Nat} {o : Oper} (ho : ops[i]? = some o) {ro : Option Nat} {nn : Nat} {Q : Exit → Act → World → Prop} {K : Act → World → Prop}
    (hw : Region.wanted o (yielded ops a.tmps) = true) (hnd : ∀ c, o.op ≠ .defer c) (h : o.uponIn (fen ro) nn P a K Q ((execOp a.eval o).run P w)) : wpOpIn (fen ro) nn P ops Q i K a w := by
  unfold wpOpIn
  rw [ho]
  simp only [hw, if_true]
  refine ⟨fun _ _ => trivial, ?_⟩
  rw [Oper.semAt_eq _ _ _ hnd]
  exact h
theorem rawF_nd {o : Oper} {f : Nat} (h : rawF o = some f) : ∀ c, o.op ≠ .defer c := by
  intro c hc
  unfold rawF at h
  rw [hc] at h
  cases h

/-- An operation of its own, run. -/
theorem opRec_op (hE : EOk P E) {ops : Array Oper} {i d : Nat} {o : Oper} (ho : ops[i]? = some o) {kn : List (Nat × Bool)} {F : FS} (hkn : KnF kn F.1) (hg : GuardIs ops.toList o F.1 true)
    {sv : SV} {upd : Objs} {rd : List Nat} {obl : Obl} (h : evOp E d kn F.1 F.2 o.op = .ok sv upd rd obl) (hob : obl.holds) :
    OpRec P ops N i F ⟨o.dst, sv, upd, slotsOf ops.toList o, rd⟩ := by
  intro F' h1 h2 dl ro nn Q K η G a w H hK
  have e1 : evOp E d kn F'.1 F'.2 o.op = .ok sv upd rd obl := by
    rw [← evOp_congr (get := F.1) fun t ht => (h1 t (slots_op ht)).symm]
    exact evOp_congrO (fun k hk => (h2 k hk).symm) h
  have hk : KnOk o.op kn a := by
    intro t b ht hb
    obtain ⟨e, he, hd⟩ := hkn t b hb
    have := H.tm t
    rw [h1 t (slots_op ht), he] at this
    simp only [SVRel] at this
    rw [this, hd]
  obtain ⟨n, v, η', G', w', hrun, hn, hA⟩ := evOp_sound hE H hk e1 hob
  refine wpOp_of ho (guard_wanted H (hg.congr h1)) (fun c hc => by rw [hc] at h; simp [evOp] at h) ?_
  rw [hrun]
  have hput := holds_put (dst := o.dst) H hA (slotsOf ops.toList o) rd
  rcases hn with rfl | ⟨rfl, rfl⟩
  · exact hK _ _ _ _ hput hA.ev
  · exact hK _ _ _ _ hput hA.ev

/-- An operation whose guard says no. -/
theorem opRec_skip {ops : Array Oper} {i : Nat} {o : Oper} (ho : ops[i]? = some o) {F : FS} (hg : GuardIs ops.toList o F.1 false) : OpRec P ops N i F ⟨o.dst, .tup [], [], slotsOf ops.toList o, []⟩ := by
  intro F' h1 h2 dl ro nn Q K η G a w H hK
  have hw := guard_wanted H (hg.congr h1)
  unfold wpOpIn
  rw [ho]
  simp only [hw]
  refine ⟨fun _ _ => trivial, ?_⟩
  exact hK _ _ _ _ (holds_put H (After.pure H undef_tup) _ _) (Evol.refl _ _ _)

mutual
theorem convSV_congr {ob ob' : Nat → Option TObj} {sel bor : List Nat} (h : ∀ k ∈ bor, ob k = ob' k) : ∀ (s : SV), (∀ k ∈ borSV ob sel s, k ∈ bor) → convSV ob sel s = convSV ob' sel s ∧ borSV ob sel s = borSV ob' sel s
  | .view k d, hb => by
      have := h k (hb k (by simp [borSV]))
      simp [convSV, borSV, this]
  | .own k, hb => by
      simp only [convSV, borSV]
      cases hp : posOf k sel 0 with
      | some i => simp
      | none =>
        have := h k (hb k (by simp [borSV, hp]))
        simp [svDV, this]
  | .csl k wd n, hb => by
      simp only [convSV, borSV]
      cases hp : posOf k sel 0 with
      | some i => simp
      | none =>
      have hk := h k (hb k (by simp [borSV, hp]))
      simp only [← hk]
      cases hob : ob k with
      | none => simp
      | some x =>
        cases x with
        | cells T cs =>
          have hcs : cellDVs ob cs = cellDVs ob' cs ∧ borCells ob cs = borCells ob' cs := by
            have hin : ∀ j ∈ borCells ob cs, ob j = ob' j := by
              intro j hj
              refine h j (hb j ?_)
              simp only [borSV, hp, hob, List.mem_cons]
              exact .inr hj
            clear hob hb
            induction cs with
            | nil => exact ⟨rfl, rfl⟩
            | cons c cs ih =>
              obtain ⟨h1, h2⟩ := ih fun j hj => hin j (by simp [borCells, hj])
              have hc : cellDV ob c = cellDV ob' c ∧ borCell ob c = borCell ob' c := by
                have hj : ∀ j ∈ borCell ob c, ob j = ob' j := fun j hj => hin j (by simp [borCells, hj])
                cases c with
                | own j => simp only [cellDV, svDV, hj j (by simp [borCell, borOne]), borCell]; exact ⟨trivial, trivial⟩
                | view j d => simp only [cellDV, svDV, hj j (by simp [borCell, borOne]), borCell]; exact ⟨trivial, trivial⟩
                | csl j w n =>
                  have hj0 := hj j (by simp [borCell])
                  simp only [cellDV, borCell, ← hj0]
                  cases hoj : ob j with
                  | none => simp
                  | some y =>
                    cases y with
                    | cells T' cs' =>
                      have he : svDVs ob cs' = svDVs ob' cs' := by
                        have hin' : ∀ k ∈ borOnes cs', ob k = ob' k := fun k hk => hj k (by simp only [borCell, hoj, List.mem_cons]; exact .inr hk)
                        clear hoj hj0 hj hin h1 h2 ih
                        induction cs' with
                        | nil => rfl
                        | cons e cs' ih =>
                          have hc : svDV ob e = svDV ob' e := by
                            cases e with
                            | own j => simp only [svDV, hin' j (by simp [borOnes, borOne])]
                            | view j d => simp only [svDV, hin' j (by simp [borOnes, borOne])]
                            | _ => rfl
                          simp only [svDVs, hc, ih fun k hk => hin' k (by simp [borOnes, hk])]
                      simp [he]
                    | _ => simp
                | _ => exact ⟨rfl, rfl⟩
              simp only [cellDVs, borCells, hc.1, hc.2, h1, h2]; exact ⟨trivial, trivial⟩
          simp only [hcs.1, hcs.2, and_self]
        | _ => simp
  | .agg cs, hb => by
      have := convSVs_congr h cs (by simpa only [borSV] using hb)
      simp [convSV, borSV, this.1, this.2]
  | .tup cs, hb => by
      have := convSVs_congr h cs (by simpa only [borSV] using hb)
      simp [convSV, borSV, this.1, this.2]
  | .fn f cs, hb => by
      have := convSVs_congr h cs (by simpa only [borSV] using hb)
      simp [convSV, borSV, this.1, this.2]
  | .any, _ => ⟨rfl, rfl⟩
  | .nil, _ => ⟨rfl, rfl⟩
  | .int _ _, _ => ⟨rfl, rfl⟩
  | .bool _, _ => ⟨rfl, rfl⟩
  | .str _, _ => ⟨rfl, rfl⟩
  | .val _, _ => ⟨rfl, rfl⟩
  | .rv _ _, _ => ⟨rfl, rfl⟩
  | .dat _, _ => ⟨rfl, rfl⟩
  | .nn _, _ => ⟨rfl, rfl⟩
  | .ifc _ _, _ => ⟨rfl, rfl⟩
  | .loc _ _, _ => ⟨rfl, rfl⟩
  | .op _ _ _ _, _ => ⟨rfl, rfl⟩
  | .ep _ _ _ _, _ => ⟨rfl, rfl⟩
theorem convSVs_congr {ob ob' : Nat → Option TObj} {sel bor : List Nat} (h : ∀ k ∈ bor, ob k = ob' k) : ∀ (s : List SV), (∀ k ∈ borSVs ob sel s, k ∈ bor) → convSVs ob sel s = convSVs ob' sel s ∧ borSVs ob sel s = borSVs ob' sel s
  | [], _ => ⟨rfl, rfl⟩
  | c :: cs, hb => by
      simp only [borSVs, List.mem_append] at hb
      have h1 := convSV_congr h c fun k hk => hb k (.inl hk)
      have h2 := convSVs_congr h cs fun k hk => hb k (.inr hk)
      simp [convSVs, borSVs, h1.1, h1.2, h2.1, h2.2]
end

theorem selObjs_congr {ob ob' : Nat → Option TObj} {sel bor : List Nat} (h : ∀ k ∈ bor, ob k = ob' k) : ∀ (l : List Nat) (i : Nat), (∀ k ∈ l, ob k = ob' k) → (∀ k ∈ borObjs ob sel l, k ∈ bor) →
    selObjs ob sel l i = selObjs ob' sel l i ∧ borObjs ob sel l = borObjs ob' sel l
  | [], _, _, _ => ⟨rfl, rfl⟩
  | k :: r, i, hl, hb => by
      have hk := hl k (by simp)
      simp only [selObjs, borObjs, ← hk]
      cases hob : ob k with
      | none =>
        simp only [borObjs, hob] at hb
        have ih := selObjs_congr h r (i + 1) (fun k hk => hl k (by simp [hk])) hb
        exact ⟨rfl, ih.2⟩
      | some x =>
        simp only [borObjs, hob, List.mem_append] at hb
        have ih := selObjs_congr h r (i + 1) (fun k hk => hl k (by simp [hk])) (fun j hj => hb j (.inr hj))
        have hx : convObj ob sel x = convObj ob' sel x ∧ borObj ob sel x = borObj ob' sel x := by
          cases x with
          | cells T cs =>
            have := convSVs_congr h cs (fun j hj => hb j (.inl hj))
            simp [convObj, borObj, this.1, this.2]
          | _ => exact ⟨rfl, rfl⟩
        refine ⟨?_, by rw [ih.2]; exact congrArg (· ++ borObjs ob' sel r) hx.2⟩
        simp only [ih.1]
        cases selObjs ob' sel r (i + 1) with
        | none => rfl
        | some l => exact congrArg (fun y => some ((1000 + i, y) :: l)) hx.1

theorem noneO_congr {ob ob' : Nat → Option TObj} : ∀ (l : List Nat), (∀ k ∈ l, ob k = ob' k) → noneO ob l = noneO ob' l
  | [], _ => rfl
  | k :: r, h => by simp only [noneO, h k (by simp), noneO_congr r fun k hk => h k (by simp [hk])]

/-- A call of a function, run. -/
theorem opRec_call {ops : Array Oper} {i : Nat} {o : Oper} (ho : ops[i]? = some o) {F : FS} (hg : GuardIs ops.toList o F.1 true) {x : Operand} {args : Array Operand} {types : Array TypeId}
    (hop : o.op = .call { callee := .value x, args := args, argTypes := types }) {f : Nat} {caps : List SV} (hx : opnd F.1 x = .fn f caps) (hlt : f < 4096)
    {sel bor : List Nat} {objs objs' : Objs} {r : SV} {d : Nat}
    (hsel : selObjs F.2 sel sel 0 = some objs) (hbor : bor = borSVs F.2 sel (args.toList.map (opnd F.1) ++ caps) ++ borObjs F.2 sel sel)
    (hS : SpecX P f (convSVs F.2 sel (args.toList.map (opnd F.1) ++ caps)) objs r objs') (hok : callOk sel bor d F.2 r objs' = true) :
    OpRec P ops N i F ⟨o.dst, backSV sel d r, backU sel bor d r objs', slotsOf ops.toList o, sel ++ bor ++ newNames d objs'⟩ := by
  intro F' h1 h2 dl ro nn Q K η G a w H hK
  have hopnd : ∀ y ∈ o.op.operands.toList, opnd F'.1 y = opnd F.1 y := fun y hy => opnd_congr fun t ht => h1 t (slots_op (ht ▸ hy))
  have hops : o.op.operands.toList = x :: args.toList := by rw [hop]; simp [Op.operands, Call.operands]
  have hargs : args.toList.map (opnd F'.1) = args.toList.map (opnd F.1) := List.map_congr_left fun y hy => hopnd y (by rw [hops]; simp [hy])
  have hx' : opnd F'.1 x = .fn f caps := by rw [hopnd x (by rw [hops]; simp)]; exact hx
  have hfr := opnd_rel H x
  rw [hx'] at hfr
  simp only [SVRel] at hfr
  obtain ⟨cvs, hev, hcaps⟩ := hfr
  rw [fnV_lt hlt] at hev
  have hall : SVRels η G w (args.toList.map (opnd F'.1) ++ caps) (args.toList.map a.eval ++ cvs) := by
    have happ : ∀ (l : List Operand), SVRels η G w (l.map (opnd F'.1) ++ caps) (l.map a.eval ++ cvs) := by
      intro l
      induction l with
      | nil => exact hcaps
      | cons y l ih => simp only [List.map_cons, List.cons_append, SVRels]; exact ⟨opnd_rel H y, ih⟩
    exact happ _
  rw [hargs] at hall
  simp only [List.mem_append] at h2
  have hbor2 : ∀ k ∈ bor, F.2 k = F'.2 k := fun k hk => (h2 k (.inl (.inr hk))).symm
  have hc1 := convSVs_congr (sel := sel) hbor2 (args.toList.map (opnd F.1) ++ caps) (fun k hk => by rw [hbor]; exact List.mem_append.2 (.inl hk))
  have hc2 := selObjs_congr (sel := sel) hbor2 sel 0 (fun k hk => (h2 k (.inl (.inl hk))).symm) (fun k hk => by rw [hbor]; exact List.mem_append.2 (.inr hk))
  have hok' : callOk sel bor d F'.2 r objs' = true := by
    unfold callOk at hok ⊢
    rw [noneO_congr (ob := F'.2) (ob' := F.2) _ fun k hk => h2 k (.inr hk)]
    exact hok
  have hcall := call_sound (P := P) (f := f) (d := d) (vs := args.toList.map a.eval ++ cvs) H hall (sel := sel) (bor := bor) (objs := objs) (objs' := objs') (r := r)
    (by rw [← hc2.1]; exact hsel) (by rw [hbor, hc1.2, hc2.2]) (by rw [← hc1.1]; exact hS) hok'
  rw [runs_calls hlt] at hcall
  refine wpOp_of ho (guard_wanted H (hg.congr h1)) (fun c hc => by rw [hop] at hc; cases hc) ?_
  have hrun : (execOp a.eval o).run P w = (callFunc f (⟨args.toList.map a.eval ++ cvs⟩ : Array Value)).run P w := by
    have he : execOp a.eval o = (do let d ← resolve a.eval { callee := .value x, args := args, argTypes := types } o.type; invoke d.target d.args) := by simp only [execOp, hop]
    rw [he]
    simp only [resolve, hev, Deferred.ofValue, pure_bind, invoke]
    congr 2
    apply Array.ext'; simp
  rw [hrun]
  rcases hcall with ⟨h1, h2⟩ | ⟨v, w', h1, η', G', hA⟩
  · rw [h1]
    refine ⟨fen_depth, calls_fen (h2.mono ?_)⟩
    rintro e w' ⟨v, rfl, η', G', hA⟩
    exact hK _ _ _ _ (holds_put (dst := o.dst) H hA _ _) hA.ev
  · rw [h1]
    exact hK _ _ _ _ (holds_put (dst := o.dst) H hA _ _) hA.ev

/-- A call of yield. -/
theorem opRec_yield {ops : Array Oper} {i : Nat} {o : Oper} (ho : ops[i]? = some o) {F : FS} (hg : GuardIs ops.toList o F.1 true) {x : Operand} {args : Array Operand} {types : Array TypeId}
    (hop : o.op = .call { callee := .value x, args := args, argTypes := types }) {k0 : Nat} {v0 : Unit → Value} (hx : opnd F.1 x = .rv k0 v0)
    {sel bor : List Nat} {objs objs' : Objs} {r : SV} {d : Nat}
    (hsel : selObjs F.2 sel sel 0 = some objs) (hbor : bor = borSVs F.2 sel (.rv k0 v0 :: args.toList.map (opnd F.1)) ++ borObjs F.2 sel sel)
    (hS : SpecX P yieldC (convSVs F.2 sel (.rv k0 v0 :: args.toList.map (opnd F.1))) objs r objs') (hok : callOk sel bor d F.2 r objs' = true) :
    OpRec P ops N i F ⟨o.dst, backSV sel d r, backU sel bor d r objs', slotsOf ops.toList o, sel ++ bor ++ newNames d objs'⟩ := by
  intro F' h1 h2 dl ro nn Q K η G a w H hK
  have hopnd : ∀ y ∈ o.op.operands.toList, opnd F'.1 y = opnd F.1 y := fun y hy => opnd_congr fun t ht => h1 t (slots_op (ht ▸ hy))
  have hopl : o.op.operands.toList = x :: args.toList := by rw [hop]; simp [Op.operands, Call.operands]
  have hxa : opnd F'.1 x = .rv k0 v0 := by rw [hopnd x (by rw [hopl]; simp)]; exact hx
  have hargs : args.toList.map (opnd F'.1) = args.toList.map (opnd F.1) := List.map_congr_left fun y hy => hopnd y (by rw [hopl]; simp; exact .inr (by simpa using hy))
  have hfr := opnd_rel H x
  rw [hxa] at hfr
  have hall : SVRels η G w (.rv k0 v0 :: args.toList.map (opnd F'.1)) (a.eval x :: args.toList.map a.eval) := by
    have happ : ∀ (l : List Operand), SVRels η G w (l.map (opnd F'.1)) (l.map a.eval) := by
      intro l
      induction l with
      | nil => simp [SVRels]
      | cons y l ih => simp only [List.map_cons, SVRels]; exact ⟨opnd_rel H y, ih⟩
    exact ⟨hfr, happ _⟩
  rw [hargs] at hall
  simp only [List.mem_append] at h2
  have hbor2 : ∀ k ∈ bor, F.2 k = F'.2 k := fun k hk => (h2 k (.inl (.inr hk))).symm
  have hc1 := convSVs_congr (sel := sel) hbor2 (.rv k0 v0 :: args.toList.map (opnd F.1)) (fun k hk => by rw [hbor]; exact List.mem_append.2 (.inl hk))
  have hc2 := selObjs_congr (sel := sel) hbor2 sel 0 (fun k hk => (h2 k (.inl (.inl hk))).symm) (fun k hk => by rw [hbor]; exact List.mem_append.2 (.inr hk))
  have hok' : callOk sel bor d F'.2 r objs' = true := by
    unfold callOk at hok ⊢
    rw [noneO_congr (ob := F'.2) (ob' := F.2) _ fun k hk => h2 k (.inr hk)]
    exact hok
  have hcall := call_sound (P := P) (f := yieldC) (d := d) (vs := a.eval x :: args.toList.map a.eval) H hall (sel := sel) (bor := bor) (objs := objs) (objs' := objs') (r := r)
    (by rw [← hc2.1]; exact hsel) (by rw [hbor, hc1.2, hc2.2]) (by rw [← hc1.1]; exact hS) hok'
  rw [runs_yield] at hcall
  obtain ⟨l, rest, hl, fn, tmps, assign, body, hy, hR⟩ := hcall
  obtain ⟨hev, hrest⟩ : a.eval x = .func (.yield l) #[] #[] ∧ args.toList.map a.eval = rest := by simpa using hl
  refine wpOp_of ho (guard_wanted H (hg.congr h1)) (fun c hc => by rw [hop] at hc; cases hc) ?_
  have hrun : (execOp a.eval o).run P w = (Instr.yield l ⟨rest⟩).run P w := by
    have he : execOp a.eval o = (do let d ← resolve a.eval { callee := .value x, args := args, argTypes := types } o.type; invoke d.target d.args) := by simp only [execOp, hop]
    rw [he]
    simp only [resolve, hev, Deferred.ofValue, pure_bind, invoke]
    congr 2
    rw [← hrest]
    apply Array.ext'; simp
  rw [hrun, hy]
  refine ⟨fen_depth, round_fen (hR.mono ?_)⟩
  rintro e w' ⟨v, rfl, η', G', hA⟩
  exact hK _ _ _ _ (holds_put (dst := o.dst) H hA _ _) hA.ev

theorem div_add32 (a b : Nat) (h : b < 32) : (a * 32 + b) / 32 = a ∧ (a * 32 + b) % 32 = b := by omega

theorem raw_exec {o : Oper} {f : Nat} (h : rawF o = some f) {ρ : Operand → Value} {w w' : World} {v : Value} : ∃ s, rawSem f = some s ∧ ((s ⟨o.op.operands.toList.map ρ⟩).run P w = .ok v w' →
    (execOp ρ o).run P w = .ok (.value v) w' ∨ ((execOp ρ o).run P w = .ok .skip w' ∧ v = undef)) := by
  unfold rawF at h
  split at h
  · rename_i T x hop
    cases h
    rw [rawSem_rawC (by omega)]
    refine ⟨_, rfl, fun hr => .inl ?_⟩
    have hr : (Instr.loadAt T (ρ x)).run P w = .ok v w' := by simpa [hop, Op.operands] using hr
    simp [execOp, hop, hr]
  · rename_i T p x hop
    cases h
    rw [rawSem_rawC (by omega)]
    refine ⟨_, rfl, fun hr => .inr ?_⟩
    have hr : (do Instr.storeAt T (ρ p) (ρ x); pure undef : Sem Value).run P w = .ok v w' := by simpa [hop, Op.operands] using hr
    rw [Sem.run_bind] at hr
    cases hs : (Instr.storeAt T (ρ p) (ρ x)).run P w with
    | ok u w1 =>
      rw [hs] at hr
      simp only [Result.andThen_ok] at hr
      cases hr
      exact ⟨by simp [execOp, hop, hs], rfl⟩
    | _ => rw [hs] at hr; cases hr
  · rename_i T x i hop
    cases h
    rw [rawSem_rawC (by omega)]
    refine ⟨_, rfl, fun hr => .inl ?_⟩
    have hr : (Instr.indexAt T (ρ x) (ρ i)).run P w = .ok v w' := by simpa [hop, Op.operands] using hr
    simp [execOp, hop, hr]
  · rename_i args types hop
    split at h
    · rename_i T U x y ht ha
      have ha : args = #[x, y] := by apply Array.ext'; simpa using ha
      have ht : types = #[T, U] := by apply Array.ext'; simpa using ht
      subst ha; subst ht
      cases hc : (eqN T U && eqN o.type T) with
      | false => rw [hc] at h; cases h
      | true =>
        rw [hc] at h
        cases h
        simp only [Bool.and_eq_true] at hc
        have := eqN_eq hc.1
        subst this
        rw [rawSem_rawC (by omega)]
        refine ⟨_, rfl, fun hr => .inl ?_⟩
        have hr : (Builtin.append_ #[T, T] o.type #[ρ x, ρ y]).run P w = .ok v w' := by have h0 := hr; simp [hop, Op.operands, Call.operands] at h0; exact h0
        simp [execOp, hop, resolve, invoke, builtin, hr]
    · cases h
  · rename_i args types hop
    split at h
    · rename_i T x ht ha
      have ha : args = #[x] := by apply Array.ext'; simpa using ha
      have ht : types = #[T] := by apply Array.ext'; simpa using ht
      subst ha; subst ht
      cases hc : eqN o.type 3 with
      | false => rw [hc] at h; cases h
      | true =>
        rw [hc] at h
        cases h
        rw [rawSem_rawC (by omega)]
        refine ⟨_, rfl, fun hr => .inl ?_⟩
        have hr : (Builtin.len_ #[T] o.type #[ρ x]).run P w = .ok v w' := by have h0 := hr; simp [hop, Op.operands, Call.operands] at h0; exact h0
        simp [execOp, hop, resolve, invoke, builtin, hr]
    · cases h
  · rename_i args types hop
    split at h
    · rename_i T x ht ha
      have ha : args = #[x] := by apply Array.ext'; simpa using ha
      have ht : types = #[T] := by apply Array.ext'; simpa using ht
      subst ha; subst ht
      cases hc : eqN o.type 3 with
      | false => rw [hc] at h; cases h
      | true =>
        rw [hc] at h
        cases h
        rw [rawSem_rawC (by omega)]
        refine ⟨_, rfl, fun hr => .inl ?_⟩
        have hr : (Builtin.cap_ #[T] o.type #[ρ x]).run P w = .ok v w' := by have h0 := hr; simp [hop, Op.operands, Call.operands] at h0; exact h0
        simp [execOp, hop, resolve, invoke, builtin, hr]
    · cases h
  · rename_i T x y hop
    cases h
    rw [rawSem_rawC (by omega)]
    refine ⟨_, rfl, fun hr => .inl ?_⟩
    have hr : (Instr.sliceAt T (ρ x) none (some (ρ y)) none).run P w = .ok v w' := by simpa [hop, Op.operands] using hr
    simp [execOp, hop, hr]
  · rename_i T x y z hop
    cases h
    rw [rawSem_rawC (by omega)]
    refine ⟨_, rfl, fun hr => .inl ?_⟩
    have hr : (Instr.sliceAt T (ρ x) none (some (ρ y)) (some (ρ z))).run P w = .ok v w' := by simpa [hop, Op.operands] using hr
    simp [execOp, hop, hr]
  · rename_i T x y hop
    cases h
    rw [rawSem_rawC (by omega)]
    refine ⟨_, rfl, fun hr => .inl ?_⟩
    have hr : (Instr.makeSlice T (ρ x) (ρ y)).run P w = .ok v w' := by simpa [hop, Op.operands] using hr
    simp [execOp, hop, hr]
  · rename_i S x fl hop
    cases hc : ltN fl 32 with
    | false => rw [hc] at h; cases h
    | true =>
      rw [hc] at h
      cases h
      rw [rawSem_rawC (by omega)]
      have hlt : fl < 32 := of_decide_eq_true hc
      refine ⟨_, rfl, fun hr => .inl ?_⟩
      obtain ⟨e1, e2⟩ := div_add32 S fl hlt
      have hr : (Instr.fieldAt S (ρ x) fl).run P w = .ok v w' := by simpa [hop, Op.operands, e1, e2] using hr
      simp [execOp, hop, hr]
  · rename_i x U T hop
    cases hc : eqN U 20 with
    | false => rw [hc] at h; cases h
    | true =>
      rw [hc] at h
      cases h
      have := eqN_eq hc
      subst this
      rw [rawSem_rawC (by omega)]
      refine ⟨_, rfl, fun hr => .inl ?_⟩
      have hr : (Instr.typeAssert (ρ x) 20 T true).run P w = .ok v w' := by simpa [hop, Op.operands] using hr
      simp [execOp, hop, hr]
  · rename_i T x hop
    cases h
    rw [rawSem_rawC (by omega)]
    refine ⟨_, rfl, fun hr => .inl ?_⟩
    have hr : (Instr.makeInterface T (ρ x)).run P w = .ok v w' := by simpa [hop, Op.operands] using hr
    simp [execOp, hop, hr]
  · rename_i T x ok hop
    cases h
    rw [rawSem_rawC (by omega)]
    refine ⟨_, rfl, fun hr => .inl ?_⟩
    have hr : (do eqGuard .neq T (.const .nilIface) (.const .nilIface) (ρ x) (ρ (.const .nilIface)); binOp .neq T (ρ x) (ρ (.const .nilIface)) : Sem Value).run P w = .ok v w' := by simpa [hop, Op.operands] using hr
    have he : eqGuard .neq T x (.const .nilIface) (ρ x) (ρ (.const .nilIface)) = eqGuard .neq T (.const .nilIface) (.const .nilIface) (ρ x) (ρ (.const .nilIface)) := by
      unfold eqGuard
      cases ρ x <;> cases ρ (.const .nilIface) <;> simp
    simp only [execOp, hop, he]
    exact congrArg (fun r => r) (by rw [Sem.run_bind, hr]; rfl)
  · rename_i T x hop
    cases h
    rw [rawSem_rawC (by omega)]
    refine ⟨_, rfl, fun hr => .inl ?_⟩
    have hr : (Instr.range T (ρ x)).run P w = .ok v w' := by simpa [hop, Op.operands] using hr
    simp [execOp, hop, hr]
  · rename_i x hop
    cases h
    rw [rawSem_rawC (by omega)]
    refine ⟨_, rfl, fun hr => .inl ?_⟩
    have hr : (Instr.next (ρ x) true o.type).run P w = .ok v w' := by simpa [hop, Op.operands] using hr
    simp [execOp, hop, hr]
  · cases h

theorem opRec_raw {ops : Array Oper} {i : Nat} {o : Oper} (ho : ops[i]? = some o) {F : FS} (hg : GuardIs ops.toList o F.1 true) {f : Nat} (hraw : rawF o = some f)
    {sel bor : List Nat} {objs objs' : Objs} {r : SV} {d : Nat}
    (hsel : selObjs F.2 sel sel 0 = some objs) (hbor : bor = borSVs F.2 sel (o.op.operands.toList.map (opnd F.1)) ++ borObjs F.2 sel sel)
    (hS : SpecX P f (convSVs F.2 sel (o.op.operands.toList.map (opnd F.1))) objs r objs') (hok : callOk sel bor d F.2 r objs' = true) :
    OpRec P ops N i F ⟨o.dst, backSV sel d r, backU sel bor d r objs', slotsOf ops.toList o, sel ++ bor ++ newNames d objs'⟩ := by
  intro F' h1 h2 dl ro nn Q K η G a w H hK
  have hopnd : ∀ y ∈ o.op.operands.toList, opnd F'.1 y = opnd F.1 y := fun y hy => opnd_congr fun t ht => h1 t (slots_op (ht ▸ hy))
  have hargs : o.op.operands.toList.map (opnd F'.1) = o.op.operands.toList.map (opnd F.1) := List.map_congr_left hopnd
  have hall : SVRels η G w (o.op.operands.toList.map (opnd F'.1)) (o.op.operands.toList.map a.eval) := by
    have happ : ∀ (l : List Operand), SVRels η G w (l.map (opnd F'.1)) (l.map a.eval) := by
      intro l
      induction l with
      | nil => simp [SVRels]
      | cons y l ih => simp only [List.map_cons, SVRels]; exact ⟨opnd_rel H y, ih⟩
    exact happ _
  rw [hargs] at hall
  simp only [List.mem_append] at h2
  have hbor2 : ∀ k ∈ bor, F.2 k = F'.2 k := fun k hk => (h2 k (.inl (.inr hk))).symm
  have hc1 := convSVs_congr (sel := sel) hbor2 (o.op.operands.toList.map (opnd F.1)) (fun k hk => by rw [hbor]; exact List.mem_append.2 (.inl hk))
  have hc2 := selObjs_congr (sel := sel) hbor2 sel 0 (fun k hk => (h2 k (.inl (.inl hk))).symm) (fun k hk => by rw [hbor]; exact List.mem_append.2 (.inr hk))
  have hok' : callOk sel bor d F'.2 r objs' = true := by
    unfold callOk at hok ⊢
    rw [noneO_congr (ob := F'.2) (ob' := F.2) _ fun k hk => h2 k (.inr hk)]
    exact hok
  have hcall := call_sound (P := P) (f := f) (d := d) (vs := o.op.operands.toList.map a.eval) H hall (sel := sel) (bor := bor) (objs := objs) (objs' := objs') (r := r)
    (by rw [← hc2.1]; exact hsel) (by rw [hbor, hc1.2, hc2.2]) (by rw [← hc1.1]; exact hS) hok'
  refine wpOp_of ho (guard_wanted H (hg.congr h1)) (rawF_nd hraw) ?_
  unfold RunsX at hcall
  obtain ⟨s, hs, hex⟩ := raw_exec (P := P) hraw (ρ := a.eval) (w := w) (w' := w) (v := undef)
  rw [hs] at hcall
  obtain ⟨v, w', hr, η', G', hA⟩ := hcall
  obtain ⟨s', hs', hex⟩ := raw_exec (P := P) hraw (ρ := a.eval) (w := w) (w' := w') (v := v)
  rw [hs] at hs'
  cases hs'
  rcases hex hr with h | ⟨h, rfl⟩
  · rw [h]
    exact hK _ _ _ _ (holds_put (dst := o.dst) H hA _ _) hA.ev
  · rw [h]
    exact hK _ _ _ _ (holds_put (dst := o.dst) H hA _ _) hA.ev

theorem call_step {ops : Array Oper} {i : Nat} {o : Oper} (ho : ops[i]? = some o) {F : FS} (hg : GuardIs ops.toList o F.1 true) {x : Operand} {args : Array Operand} {types : Array TypeId}
    (hop : o.op = .call { callee := .value x, args := args, argTypes := types }) {f : Nat} {caps : List SV} (hx : opnd F.1 x = .fn f caps) (hlt : f < 4096)
    {sel bor : List Nat} {objs : Objs} {X : Type} {objs' : X → Objs} {r : X → SV} {d : Nat} {sl : X → List Nat}
    (hsel : selObjs F.2 sel sel 0 = some objs) (hbor : bor = borSVs F.2 sel (args.toList.map (opnd F.1) ++ caps) ++ borObjs F.2 sel sel)
    (hS : SpecG P f (convSVs F.2 sel (args.toList.map (opnd F.1) ++ caps)) objs X r objs') (hpre : callPre sel bor = true) (hok : ∀ x, callOk sel bor d F.2 (r x) (objs' x) = true)
    {ro : Option Nat} {nn : Nat} {Q : Exit → Act → World → Prop} {K : Act → World → Prop} (H : Holds dl η G N F.1 F.2 a w)
    (hK : ∀ x η' G' a' w', Holds dl η' G' N (FR.app N ⟨o.dst, backSV sel d (r x), backU sel bor d (r x) (objs' x), slotsOf ops.toList o, sl x⟩ F).1 (FR.app N ⟨o.dst, backSV sel d (r x), backU sel bor d (r x) (objs' x), slotsOf ops.toList o, sl x⟩ F).2 a' w' → Evol η G w η' G' w' → K a' w') :
    wpOpIn (fen ro) nn P ops Q i K a w := by
  have hfr := opnd_rel H x
  rw [hx] at hfr
  simp only [SVRel] at hfr
  obtain ⟨cvs, hev, hcaps⟩ := hfr
  rw [fnV_lt hlt] at hev
  have hall : SVRels η G w (args.toList.map (opnd F.1) ++ caps) (args.toList.map a.eval ++ cvs) := by
    have happ : ∀ (l : List Operand), SVRels η G w (l.map (opnd F.1) ++ caps) (l.map a.eval ++ cvs) := by
      intro l
      induction l with
      | nil => exact hcaps
      | cons y l ih => simp only [List.map_cons, List.cons_append, SVRels]; exact ⟨opnd_rel H y, ih⟩
    exact happ _
  have hcall := call_soundG (P := P) (f := f) (d := d) (vs := args.toList.map a.eval ++ cvs) H hall (sel := sel) (bor := bor) (objs := objs) (objs' := objs') (r := r) hsel hbor hS hpre hok
  rw [runs_calls hlt] at hcall
  refine wpOp_of ho (guard_wanted H hg) (fun c hc => by rw [hop] at hc; cases hc) ?_
  have hrun : (execOp a.eval o).run P w = (callFunc f (⟨args.toList.map a.eval ++ cvs⟩ : Array Value)).run P w := by
    have he : execOp a.eval o = (do let d ← resolve a.eval { callee := .value x, args := args, argTypes := types } o.type; invoke d.target d.args) := by simp only [execOp, hop]
    rw [he]
    simp only [resolve, hev, Deferred.ofValue, pure_bind, invoke]
    congr 2
    apply Array.ext'; simp
  rw [hrun]
  rcases hcall with ⟨h1, h2⟩ | ⟨v, w', h1, x, η', G', hA⟩
  · rw [h1]
    refine ⟨fen_depth, calls_fen (h2.mono ?_)⟩
    rintro e w' ⟨v, rfl, x, η', G', hA⟩
    exact hK x _ _ _ _ (holds_put (dst := o.dst) H hA _ _) hA.ev
  · rw [h1]
    exact hK x _ _ _ _ (holds_put (dst := o.dst) H hA _ _) hA.ev

theorem SVRels.cut {η : OEnv} {G : Nat → Prop} {w : World} : ∀ (n : Nat) {s : List SV} {v : List Value}, SVRels η G w s v → SVRels η G w (s.take n) (v.take n) ∧ SVRels η G w (s.drop n) (v.drop n)
  | 0, s, v, h => ⟨trivial, h⟩
  | n + 1, [], [], h => ⟨trivial, trivial⟩
  | n + 1, [], _ :: _, h => h.elim
  | n + 1, _ :: _, [], h => h.elim
  | n + 1, c :: s, x :: v, h => by
      obtain ⟨h1, h2⟩ := SVRels.cut n h.2
      exact ⟨⟨h.1, h1⟩, h2⟩
theorem SVRels.join {η : OEnv} {G : Nat → Prop} {w : World} : ∀ {s s' : List SV} {v v' : List Value}, SVRels η G w s v → SVRels η G w s' v' → SVRels η G w (s ++ s') (v ++ v')
  | [], _, [], _, _, h => h
  | [], _, _ :: _, _, h, _ => h.elim
  | _ :: _, _, [], _, h, _ => h.elim
  | c :: s, s', x :: v, v', h, h' => ⟨h.1, SVRels.join h.2 h'⟩
/-- A call of a function's value that has first arguments. -/
theorem bcall_step {ops : Array Oper} {i : Nat} {o : Oper} (ho : ops[i]? = some o) {F : FS} (hg : GuardIs ops.toList o F.1 true) {x : Operand} {args : Array Operand} {types : Array TypeId}
    (hop : o.op = .call { callee := .value x, args := args, argTypes := types }) {f : Nat} {caps : List SV} (hx : opnd F.1 x = .fn f caps) 
    {sel bor : List Nat} {objs : Objs} {X : Type} {objs' : X → Objs} {r : X → SV} {d : Nat} {sl : X → List Nat}
    (hsel : selObjs F.2 sel sel 0 = some objs) (hbor : bor = borSVs F.2 sel (caps.take (f / 4096) ++ args.toList.map (opnd F.1) ++ caps.drop (f / 4096)) ++ borObjs F.2 sel sel)
    (hS : SpecG P (f % 4096) (convSVs F.2 sel (caps.take (f / 4096) ++ args.toList.map (opnd F.1) ++ caps.drop (f / 4096))) objs X r objs') (hpre : callPre sel bor = true) (hok : ∀ x, callOk sel bor d F.2 (r x) (objs' x) = true)
    {ro : Option Nat} {nn : Nat} {Q : Exit → Act → World → Prop} {K : Act → World → Prop} (H : Holds dl η G N F.1 F.2 a w)
    (hK : ∀ x η' G' a' w', Holds dl η' G' N (FR.app N ⟨o.dst, backSV sel d (r x), backU sel bor d (r x) (objs' x), slotsOf ops.toList o, sl x⟩ F).1 (FR.app N ⟨o.dst, backSV sel d (r x), backU sel bor d (r x) (objs' x), slotsOf ops.toList o, sl x⟩ F).2 a' w' → Evol η G w η' G' w' → K a' w') :
    wpOpIn (fen ro) nn P ops Q i K a w := by
  have hfr := opnd_rel H x
  rw [hx] at hfr
  simp only [SVRel] at hfr
  obtain ⟨cvs, hev, hcaps⟩ := hfr
  unfold fnV at hev
  have htd : SVRels η G w (caps.take (f / 4096)) (cvs.take (f / 4096)) ∧ SVRels η G w (caps.drop (f / 4096)) (cvs.drop (f / 4096)) := SVRels.cut (f / 4096) hcaps
  have hall : SVRels η G w (caps.take (f / 4096) ++ args.toList.map (opnd F.1) ++ caps.drop (f / 4096)) (cvs.take (f / 4096) ++ args.toList.map a.eval ++ cvs.drop (f / 4096)) := by
    have happ : ∀ (l : List Operand), SVRels η G w (l.map (opnd F.1) ++ caps.drop (f / 4096)) (l.map a.eval ++ cvs.drop (f / 4096)) := by
      intro l
      induction l with
      | nil => exact htd.2
      | cons y l ih => simp only [List.map_cons, List.cons_append, SVRels]; exact ⟨opnd_rel H y, ih⟩
    rw [List.append_assoc, List.append_assoc]
    exact SVRels.join htd.1 (happ _)
  have hcall := call_soundG (P := P) (f := f % 4096) (d := d) (vs := cvs.take (f / 4096) ++ args.toList.map a.eval ++ cvs.drop (f / 4096)) H hall (sel := sel) (bor := bor) (objs := objs) (objs' := objs') (r := r) hsel hbor hS hpre hok
  rw [runs_calls (Nat.mod_lt _ (by decide))] at hcall
  refine wpOp_of ho (guard_wanted H hg) (fun c hc => by rw [hop] at hc; cases hc) ?_
  have hrun : (execOp a.eval o).run P w = (callFunc (f % 4096) (⟨cvs.take (f / 4096) ++ args.toList.map a.eval ++ cvs.drop (f / 4096)⟩ : Array Value)).run P w := by
    have he : execOp a.eval o = (do let d ← resolve a.eval { callee := .value x, args := args, argTypes := types } o.type; invoke d.target d.args) := by simp only [execOp, hop]
    rw [he]
    simp only [resolve, hev, Deferred.ofValue, pure_bind, invoke]
    congr 2
    apply Array.ext'; simp
  rw [hrun]
  rcases hcall with ⟨h1, h2⟩ | ⟨v, w', h1, x, η', G', hA⟩
  · rw [h1]
    refine ⟨fen_depth, calls_fen (h2.mono ?_)⟩
    rintro e w' ⟨v, rfl, x, η', G', hA⟩
    exact hK x _ _ _ _ (holds_put (dst := o.dst) H hA _ _) hA.ev
  · rw [h1]
    exact hK x _ _ _ _ (holds_put (dst := o.dst) H hA _ _) hA.ev

/-- A call that panics. -/
theorem pan_step {ops : Array Oper} {i : Nat} {o : Oper} (ho : ops[i]? = some o) {F : FS} (hg : GuardIs ops.toList o F.1 true) {x : Operand} {args : Array Operand} {types : Array TypeId}
    (hop : o.op = .call { callee := .value x, args := args, argTypes := types }) {f : Nat} {caps : List SV} (hx : opnd F.1 x = .fn f caps) (hlt : f < 4096)
    {sel bor : List Nat} {objs objs' : Objs} {r : SV} {d : Nat}
    (hsel : selObjs F.2 sel sel 0 = some objs) (hbor : bor = borSVs F.2 sel (args.toList.map (opnd F.1) ++ caps) ++ borObjs F.2 sel sel)
    (hS : SpecX P (rawC 12 f) (convSVs F.2 sel (args.toList.map (opnd F.1) ++ caps)) objs r objs') (hok : callOk sel bor d F.2 r objs' = true)
    {ro : Option Nat} {nn : Nat} {Q : Exit → Act → World → Prop} {K : Act → World → Prop} (H : Holds dl η G N F.1 F.2 a w)
    (hK : ∀ η' G' w', Holds dl η' G' N F.1 (updF F.2 (backU sel bor d r objs')) a w' → Evol η G w η' G' w' → Q (.panic panCh) a w') :
    wpOpIn (fen ro) nn P ops Q i K a w := by
  have hfr := opnd_rel H x
  rw [hx] at hfr
  simp only [SVRel] at hfr
  obtain ⟨cvs, hev, hcaps⟩ := hfr
  rw [fnV_lt hlt] at hev
  have hall : SVRels η G w (args.toList.map (opnd F.1) ++ caps) (args.toList.map a.eval ++ cvs) := by
    have happ : ∀ (l : List Operand), SVRels η G w (l.map (opnd F.1) ++ caps) (l.map a.eval ++ cvs) := by
      intro l
      induction l with
      | nil => exact hcaps
      | cons y l ih => simp only [List.map_cons, List.cons_append, SVRels]; exact ⟨opnd_rel H y, ih⟩
    exact happ _
  have hcall := call_sound (P := P) (f := rawC 12 f) (d := d) (vs := args.toList.map a.eval ++ cvs) H hall (sel := sel) (bor := bor) (objs := objs) (objs' := objs') (r := r) hsel hbor hS hok
  rw [runs_pans] at hcall
  refine wpOp_of ho (guard_wanted H hg) (fun c hc => by rw [hop] at hc; cases hc) ?_
  have hrun : (execOp a.eval o).run P w = (callFunc f (⟨args.toList.map a.eval ++ cvs⟩ : Array Value)).run P w := by
    have he : execOp a.eval o = (do let d ← resolve a.eval { callee := .value x, args := args, argTypes := types } o.type; invoke d.target d.args) := by simp only [execOp, hop]
    rw [he]
    simp only [resolve, hev, Deferred.ofValue, pure_bind, invoke]
    congr 2
    apply Array.ext'; simp
  rw [hrun, hcall.1]
  refine ⟨fen_depth, calls_fen (hcall.2.mono ?_)⟩
  rintro e w' ⟨rfl, η', G', hA⟩
  have h1 := holds_put (dst := none) H hA [] []
  exact hK _ _ _ h1 hA.ev

theorem raw_step {ops : Array Oper} {i : Nat} {o : Oper} (ho : ops[i]? = some o) {F : FS} (hg : GuardIs ops.toList o F.1 true) {f : Nat} (hraw : rawF o = some f)
    {sel bor : List Nat} {objs : Objs} {X : Type} {objs' : X → Objs} {r : X → SV} {d : Nat} {sl : X → List Nat}
    (hsel : selObjs F.2 sel sel 0 = some objs) (hbor : bor = borSVs F.2 sel (o.op.operands.toList.map (opnd F.1)) ++ borObjs F.2 sel sel)
    (hS : SpecG P f (convSVs F.2 sel (o.op.operands.toList.map (opnd F.1))) objs X r objs') (hpre : callPre sel bor = true) (hok : ∀ x, callOk sel bor d F.2 (r x) (objs' x) = true)
    {ro : Option Nat} {nn : Nat} {Q : Exit → Act → World → Prop} {K : Act → World → Prop} (H : Holds dl η G N F.1 F.2 a w)
    (hK : ∀ x η' G' a' w', Holds dl η' G' N (FR.app N ⟨o.dst, backSV sel d (r x), backU sel bor d (r x) (objs' x), slotsOf ops.toList o, sl x⟩ F).1 (FR.app N ⟨o.dst, backSV sel d (r x), backU sel bor d (r x) (objs' x), slotsOf ops.toList o, sl x⟩ F).2 a' w' → Evol η G w η' G' w' → K a' w') :
    wpOpIn (fen ro) nn P ops Q i K a w := by
  have hall : SVRels η G w (o.op.operands.toList.map (opnd F.1)) (o.op.operands.toList.map a.eval) := by
    have happ : ∀ (l : List Operand), SVRels η G w (l.map (opnd F.1)) (l.map a.eval) := by
      intro l
      induction l with
      | nil => simp [SVRels]
      | cons y l ih => simp only [List.map_cons, SVRels]; exact ⟨opnd_rel H y, ih⟩
    exact happ _
  have hcall := call_soundG (P := P) (f := f) (d := d) (vs := o.op.operands.toList.map a.eval) H hall (sel := sel) (bor := bor) (objs := objs) (objs' := objs') (r := r) hsel hbor hS hpre hok
  refine wpOp_of ho (guard_wanted H hg) (rawF_nd hraw) ?_
  unfold RunsX at hcall
  obtain ⟨s, hs, -⟩ := raw_exec (P := P) hraw (ρ := a.eval) (w := w) (w' := w) (v := undef)
  rw [hs] at hcall
  obtain ⟨v, w', hr, x, η', G', hA⟩ := hcall
  obtain ⟨s', hs', hex⟩ := raw_exec (P := P) hraw (ρ := a.eval) (w := w) (w' := w') (v := v)
  rw [hs] at hs'
  cases hs'
  rcases hex hr with h | ⟨h, rfl⟩
  · rw [h]
    exact hK x _ _ _ _ (holds_put (dst := o.dst) H hA _ _) hA.ev
  · rw [h]
    exact hK x _ _ _ _ (holds_put (dst := o.dst) H hA _ _) hA.ev
end
end Go.SX

/- SX: regions, second part. -/
namespace Go.SX

theorem nthD_putL {α : Type} (d : α) : ∀ (l : List α) (k : Nat) (x : α) (t : Nat), nthD (putL l k x) t d = if t = k ∧ k < l.length then x else nthD l t d
  | [], k, x, t => by simp [putL, nthD]
  | y :: l, 0, x, 0 => by simp [putL, nthD]
  | y :: l, 0, x, t + 1 => by simp [putL, nthD]
  | y :: l, k + 1, x, 0 => by simp [putL, nthD]
  | y :: l, k + 1, x, t + 1 => by simp [putL, nthD, nthD_putL d l k x t]

theorem putL_length {α : Type} : ∀ (l : List α) (k : Nat) (x : α), (putL l k x).length = l.length
  | [], _, _ => rfl
  | _ :: _, 0, _ => rfl
  | _ :: l, k + 1, x => by simp [putL, putL_length l k x]

theorem lookN_setN {α : Type} (k j : Nat) (x : α) : ∀ l : List (Nat × α), lookN k (setN j x l) = if k = j then some x else lookN k l
  | [] => by
      simp only [setN, lookN]
      by_cases h : k = j
      · subst h; simp [eqN_refl]
      · have : eqN j k = false := by
          cases hb : eqN j k with
          | false => rfl
          | true => exact absurd (eqN_eq hb).symm h
        simp [this, h]
  | (i, y) :: r => by
      simp only [setN]
      cases hb : eqN i j with
      | true =>
        have e := eqN_eq hb
        subst e
        simp only [cond_true, lookN]
        by_cases h : k = i
        · subst h; simp [eqN_refl]
        · have : eqN i k = false := by
            cases hb : eqN i k with
            | false => rfl
            | true => exact absurd (eqN_eq hb).symm h
          simp [this, h]
      | false =>
        simp only [cond_false, lookN, lookN_setN k j x r]
        cases hk : eqN i k with
        | true =>
          have e := eqN_eq hk
          subst e
          have : i ≠ j := eqN_ne hb
          simp [this]
        | false => simp

def fs (st : St) : FS := (getT st, getO st)

theorem getO_upd : ∀ (upd objs : Objs), (fun k => lookN k (updObjs objs upd)) = updF (fun k => lookN k objs) upd
  | [], _ => rfl
  | (j, x) :: r, objs => by
      simp only [updObjs, updF]
      rw [getO_upd r]
      congr 1
      funext k
      exact lookN_setN k j x objs

theorem fs_put (st : St) (upd : Objs) (dst : Option Nat) (sv : SV) (rs rd : List Nat) : fs (putDst ⟨st.tmps, updObjs st.objs upd⟩ dst sv) = FR.app st.tmps.length ⟨dst, sv, upd, rs, rd⟩ (fs st) := by
  cases dst with
  | none => exact Prod.ext rfl (getO_upd upd st.objs)
  | some d =>
    refine Prod.ext ?_ (getO_upd upd st.objs)
    funext t
    exact nthD_putL .any st.tmps d sv t

theorem put_len (st : St) (objs : Objs) (dst : Option Nat) (sv : SV) : (putDst ⟨st.tmps, objs⟩ dst sv).tmps.length = st.tmps.length := by
  cases dst <;> simp [putDst, putL_length]

def Runs (P : Program) (ops : Array Oper) (N : Nat) : Nat → FS → List FR → Prop
  | _, _, [] => True
  | i, F, r :: rs => OpRec P ops N i F r ∧ Runs P ops N (i + 1) (r.app N F) rs

def endF (N : Nat) : FS → List FR → FS
  | F, [] => F
  | F, r :: rs => endF N (r.app N F) rs

def Meta (ops : Array Oper) : Nat → List FR → Prop
  | _, [] => True
  | i, r :: rs => (∃ o, ops[i]? = some o ∧ r.dst = o.dst ∧ r.rs = slotsOf ops.toList o) ∧ Meta ops (i + 1) rs

def trOf : Nat → List FR → List TRec → List TRec
  | _, [], acc => acc
  | i, r :: rs, acc => trOf (i + 1) rs (⟨i, r.rd, namesOf r.upd⟩ :: acc)

section
variable {P : Program} {S : SP} {E : Env}

theorem drop_cons {ops : Array Oper} {i : Nat} {o : Oper} {rest : List Oper} (h : ops.toList.drop i = o :: rest) : ops[i]? = some o ∧ ops.toList.drop (i + 1) = rest := by
  constructor
  · have : (ops.toList.drop i)[0]? = some o := by rw [h]; rfl
    rw [List.getElem?_drop] at this
    simpa using this
  · rw [← List.drop_drop, h]; rfl

theorem KnF.drop {kn : List (Nat × Bool)} {st : St} {objs : Objs} {dst : Option Nat} {sv : SV} (h : KnF kn (getT st)) : KnF (dropK dst kn) (getT (putDst ⟨st.tmps, objs⟩ dst sv)) := by
  intro s b hs
  cases dst with
  | none => exact h s b hs
  | some d =>
    simp only [dropK] at hs
    have hk : ∀ l : List (Nat × Bool), lookN s (l.filter fun p => !eqN p.1 d) = some b → s ≠ d ∧ lookN s l = some b := by
      intro l
      induction l with
      | nil => simp [lookN]
      | cons p l ih =>
        intro hl
        rw [List.filter_cons] at hl
        cases hb : eqN p.1 d with
        | true =>
          have e := eqN_eq hb
          simp [hb] at hl
          obtain ⟨h1, h2⟩ := ih hl
          refine ⟨h1, ?_⟩
          obtain ⟨p1, p2⟩ := p
          simp only [lookN]
          have : eqN p1 s = false := by
            cases hb' : eqN p1 s with
            | false => rfl
            | true => exact absurd ((eqN_eq hb').symm.trans e) h1
          rw [this]; exact h2
        | false =>
          simp [hb] at hl
          obtain ⟨p1, p2⟩ := p
          simp only [lookN] at hl ⊢
          cases hb' : eqN p1 s with
          | true => rw [hb'] at hl; exact ⟨fun e => (by rw [← e, hb'] at hb; cases hb), hl⟩
          | false => rw [hb'] at hl; exact ih hl
    obtain ⟨h1, h2⟩ := hk kn hs
    obtain ⟨e, he, hd⟩ := h s b h2
    refine ⟨e, ?_, hd⟩
    simp only [getT, putDst, nthD_putL]
    rw [if_neg (fun hh => h1 hh.1)]
    exact he

theorem KnF.cons {kn : List (Nat × Bool)} {get : Nat → SV} {s : Nat} {b : Bool} {e : BE} (h : KnF kn get) (hs : get s = .bool e) (he : e.den = b) : KnF ((s, b) :: kn) get := by
  intro t c ht
  simp only [lookN] at ht
  cases hb : eqN s t with
  | true =>
    rw [hb] at ht
    simp only [cond_true, Option.some.injEq] at ht
    rw [← eqN_eq hb, ← ht]
    exact ⟨e, hs, he⟩
  | false => rw [hb] at ht; exact h t c ht

/-- A guard, decided. -/
theorem guard_run {all : List Oper} {st : St} {kn : List (Nat × Bool)} {o : Oper} {yes no : List (Nat × Bool) → Prop} (hkn : KnF kn (getT st)) (h : guardVC all st kn o.guard yes no) :
    ∃ kn', KnF kn' (getT st) ∧ ((GuardIs all o (getT st) true ∧ yes kn') ∨ (GuardIs all o (getT st) false ∧ no kn')) := by
  unfold guardVC at h
  split at h
  · rename_i hg
    exact ⟨kn, hkn, .inl ⟨.inr (.inl ⟨hg, rfl⟩), h⟩⟩
  · rename_i j want hg
    split at h
    · exact h.elim
    · rename_i s hs
      have mk : ∀ (e : BE) (kn' : List (Nat × Bool)), KnF kn' (getT st) → getT st s = .bool e → (bif e.den == want then yes kn' else no kn') →
          ∃ kn', KnF kn' (getT st) ∧ ((GuardIs all o (getT st) true ∧ yes kn') ∨ (GuardIs all o (getT st) false ∧ no kn')) := by
        intro e kn' hk he hh
        cases hv : e.den == want with
        | true => rw [hv] at hh; exact ⟨kn', hk, .inl ⟨.inr (.inr ⟨j, want, s, e, hg, hs, he, hv.symm⟩), hh⟩⟩
        | false => rw [hv] at hh; exact ⟨kn', hk, .inr ⟨.inr (.inr ⟨j, want, s, e, hg, hs, he, hv.symm⟩), hh⟩⟩
      split at h
      · rename_i b hb
        obtain ⟨e, he, hd⟩ := hkn s b hb
        exact mk e kn hkn he (by rw [hd]; exact h)
      · split at h
        · rename_i he
          refine mk .t kn hkn he ?_
          cases want <;> exact h
        · rename_i he
          refine mk .f kn hkn he ?_
          cases want <;> exact h
        · rename_i b he
          cases hb : b () with
          | true =>
            refine mk (.s b) ((s, true) :: kn) (hkn.cons he hb) he ?_
            have := h.1 hb
            simp only [BE.den_s, hb]
            cases want <;> exact this
          | false =>
            refine mk (.s b) ((s, false) :: kn) (hkn.cons he hb) he ?_
            have := h.2 hb
            simp only [BE.den_s, hb]
            cases want <;> exact this
        · rename_i he
          exact ⟨kn, hkn, .inr ⟨.inl ⟨j, want, s, hg, hs, he, rfl⟩, h⟩⟩
        · exact h.elim

theorem exec_run (hE : EOk P E) (hS : ∀ f svs objs r objs', S f svs objs r objs' → SpecX P f svs objs r objs') {ops : Array Oper} {i : Nat} {o : Oper} (ho : ops[i]? = some o) {st : St} {kn : List (Nat × Bool)} {K : SV → Objs → List Nat → Prop}
    (hkn : KnF kn (getT st)) (hg : GuardIs ops.toList o (getT st) true) (h : execVC S E o st kn K) :
    ∃ sv upd rd, OpRec P ops st.tmps.length i (fs st) ⟨o.dst, sv, upd, slotsOf ops.toList o, rd⟩ ∧ K sv upd rd := by
  unfold execVC at h
  split at h
  · rename_i x args types hop
    split at h
    · rename_i f caps hx
      have hlt : f < 4096 := by
        cases hb : ltN f 4096 with
        | true => exact of_decide_eq_true hb
        | false => rw [hb] at h; exact h.elim
      rw [show ltN f 4096 = true from decide_eq_true hlt] at h
      simp only [Bool.not_true, cond_false] at h
      unfold callVC at h
      split at h
      · exact h.elim
      · rename_i objs hsel
        obtain ⟨r, objs', hs, hok, hK⟩ := h.h
        have hspec := hS _ _ _ _ _ hs
        exact ⟨_, _, _, opRec_call (F := fs st) ho hg hop hx hlt hsel rfl hspec hok.h, hK⟩
    · rename_i k0 v0 hx
      unfold rawCallVC at h
      split at h
      · exact h.elim
      · rename_i objs hsel
        obtain ⟨r, objs', hs, hok, hK⟩ := h.h
        have hspec := hS _ _ _ _ _ hs
        exact ⟨_, _, _, opRec_yield (F := fs st) ho hg hop hx hsel rfl hspec hok.h, hK⟩
    · exact h.elim
  · split at h
    · split at h
      · exact h.elim
      · rename_i f hraw
        unfold rawCallVC at h
        split at h
        · exact h.elim
        · rename_i objs hsel
          obtain ⟨r, objs', hs, hok, hK⟩ := h.h
          have hspec := hS _ _ _ _ _ hs
          exact ⟨_, _, _, opRec_raw (F := fs st) ho hg hraw hsel rfl hspec hok.h, hK⟩
    · rename_i sv upd rd hev
      exact ⟨sv, upd, rd, opRec_op (F := fs st) hE ho hkn hg hev trivial, h⟩
    · rename_i sv upd rd p hev
      exact ⟨sv, upd, rd, opRec_op (F := fs st) hE ho hkn hg hev h.1.h, h.2⟩

theorem vcOps_run (hE : EOk P E) (hS : ∀ f svs objs r objs', S f svs objs r objs' → SpecX P f svs objs r objs') {ops : Array Oper} :
    ∀ (rest : List Oper) (i : Nat) (st : St) (kn : List (Nat × Bool)) (tr : List TRec) (K : St → List TRec → Prop), ops.toList.drop i = rest → KnF kn (getT st) →
      vcOps S E ops.toList rest i st kn tr K →
      ∃ (rs : List FR) (st' : St), rs.length = rest.length ∧ Runs P ops st.tmps.length i (fs st) rs ∧ fs st' = endF st.tmps.length (fs st) rs ∧ st'.tmps.length = st.tmps.length ∧ Meta ops i rs ∧ K st' (trOf i rs tr)
  | [], i, st, kn, tr, K, _, _, h => ⟨[], st, rfl, trivial, rfl, rfl, trivial, h⟩
  | o :: rest, i, st, kn, tr, K, hd, hkn, h => by
      obtain ⟨ho, hd'⟩ := drop_cons hd
      simp only [vcOps] at h
      obtain ⟨kn', hkn', ⟨hg, h⟩ | ⟨hg, h⟩⟩ := guard_run hkn h
      · obtain ⟨sv, upd, rd, hrec, h⟩ := exec_run hE hS ho hkn' hg h
        obtain ⟨rs, st', h1, h2, h3, h4, h5, h6⟩ := vcOps_run hE hS rest (i + 1) _ _ _ K hd' (hkn'.drop (objs := updObjs st.objs upd) (dst := o.dst) (sv := sv)) h
        rw [put_len] at h2 h3 h4
        rw [fs_put st upd o.dst sv (slotsOf ops.toList o) rd] at h2 h3
        exact ⟨_ :: rs, st', by simp [h1], ⟨hrec, h2⟩, h3, h4, ⟨⟨o, ho, rfl, rfl⟩, h5⟩, h6⟩
      · obtain ⟨rs, st', h1, h2, h3, h4, h5, h6⟩ := vcOps_run hE hS rest (i + 1) _ _ _ K hd' (hkn'.drop (objs := st.objs) (dst := o.dst) (sv := .tup [])) h
        have hp := fs_put st [] o.dst (.tup []) (slotsOf ops.toList o) []
        have hl := put_len st st.objs o.dst (.tup [])
        simp only [updObjs] at hp
        rw [hl] at h2 h3 h4
        rw [hp] at h2 h3
        exact ⟨_ :: rs, st', by simp [h1], ⟨opRec_skip ho hg, h2⟩, h3, h4, ⟨⟨o, ho, rfl, rfl⟩, h5⟩, h6⟩

/-- The operations in the text's order. -/
theorem runs_text {ops : Array Oper} {N : Nat} {dl : List Deferred} {ro : Option Nat} {nn : Nat} {Q : Exit → Act → World → Prop} : ∀ (rs : List FR) (i : Nat) (F : FS), i + rs.length = ops.size → Runs P ops N i F rs → ∀ (η : OEnv) (G : Nat → Prop) (a : Act) (w : World), Holds dl η G N F.1 F.2 a w →
    (∀ η' G' a' w', Holds dl η' G' N (endF N F rs).1 (endF N F rs).2 a' w' → Evol η G w η' G' w' → Q .normal a' w') → wpOpsIn (fen ro) nn P ops Q (List.range' i rs.length) a w
  | [], i, F, _, _, η, G, a, w, H, hK => by simpa [wpOpsIn] using hK η G a w H (Evol.refl _ _ _)
  | r :: rs, i, F, hl, hr, η, G, a, w, H, hK => by
      simp only [List.length_cons, List.range'_succ]
      rw [wpOpsIn_cons]
      refine hr.1 F (fun _ _ => rfl) (fun _ _ => rfl) Q _ η G a w H fun η' G' a' w' H' hev => ?_
      exact runs_text rs (i + 1) _ (by simp at hl; omega) hr.2 η' G' a' w' H' fun η'' G'' a'' w'' H'' hev' => hK _ _ _ _ H'' (hev.trans hev')

/-- A region whose order is the text's. -/
theorem vcSeq_run (hE : EOk P E) (hR : ∀ f svs objs X r objs', E.raw f svs objs X r objs' → SpecG P f svs objs X r objs') (hS : ∀ f svs objs r objs', S f svs objs r objs' → SpecX P f svs objs r objs') {ops : Array Oper} {ro : Option Nat} {nn : Nat} {Q : Exit → Act → World → Prop} {dl : List Deferred} :
    ∀ (rest : List Oper) (i : Nat) (st : St) (kn : List (Nat × Bool)) (K KP : St → Prop), ops.toList.drop i = rest → KnF kn (getT st) → vcSeq S E ops.toList rest st kn K KP →
      ∀ (η : OEnv) (G : Nat → Prop) (a : Act) (w : World), Holds dl η G st.tmps.length (getT st) (getO st) a w →
      (∀ st' η' G' a' w', K st' → st'.tmps.length = st.tmps.length → Holds dl η' G' st'.tmps.length (getT st') (getO st') a' w' → Evol η G w η' G' w' → Q .normal a' w') →
      (∀ st' η' G' a' w', KP st' → st'.tmps.length = st.tmps.length → Holds dl η' G' st'.tmps.length (getT st') (getO st') a' w' → Evol η G w η' G' w' → Q (.panic panCh) a' w') → wpOpsIn (fen ro) nn P ops Q (List.range' i rest.length) a w
  | [], i, st, kn, K, KP, _, _, h, η, G, a, w, H, hK, _ => by simpa [wpOpsIn] using hK st η G a w h rfl H (Evol.refl _ _ _)
  | o :: rest, i, st, kn, K, KP, hd, hkn, h, η, G, a, w, H, hK, hKP => by
      obtain ⟨ho, hd'⟩ := drop_cons hd
      simp only [vcSeq] at h
      simp only [List.length_cons, List.range'_succ]
      rw [wpOpsIn_cons]
      have next : ∀ (sv : SV) (upd : Objs) (kn' : List (Nat × Bool)) (rd : List Nat), KnF kn' (getT st) → vcSeq S E ops.toList rest (putDst ⟨st.tmps, updObjs st.objs upd⟩ o.dst sv) (dropK o.dst kn') K KP →
          ∀ η' G' a' w', Holds dl η' G' st.tmps.length (FR.app st.tmps.length ⟨o.dst, sv, upd, slotsOf ops.toList o, rd⟩ (fs st)).1 (FR.app st.tmps.length ⟨o.dst, sv, upd, slotsOf ops.toList o, rd⟩ (fs st)).2 a' w' → Evol η G w η' G' w' →
          wpOpsIn (fen ro) nn P ops Q (List.range' (i + 1) rest.length) a' w' := by
        intro sv upd kn' rd hkn' h η' G' a' w' H' hev
        have hp := fs_put st upd o.dst sv (slotsOf ops.toList o) rd
        have hl := put_len st (updObjs st.objs upd) o.dst sv
        refine vcSeq_run hE hR hS rest (i + 1) _ _ K KP hd' (hkn'.drop (objs := updObjs st.objs upd) (dst := o.dst) (sv := sv)) h η' G' a' w' ?_ (fun st' η'' G'' a'' w'' hk hlen H'' hev' => hK st' η'' G'' a'' w'' hk (hlen.trans hl) H'' (hev.trans hev')) fun st' η'' G'' a'' w'' hk hlen H'' hev' => hKP st' η'' G'' a'' w'' hk (hlen.trans hl) H'' (hev.trans hev')
        rw [hl]
        rw [← hp] at H'
        exact H'
      obtain ⟨kn', hkn', ⟨hg, h⟩ | ⟨hg, h⟩⟩ := guard_run hkn h
      · unfold execSeq at h
        split at h
        · rename_i x hop
          split at h
          · rename_i v hx
            obtain ⟨hv, hkp⟩ := h
            have hv := hv.h
            have hfr := opnd_rel H x
            rw [hx] at hfr
            simp only [SVRel] at hfr
            refine wpOp_of ho (guard_wanted H hg) (fun c hc => by rw [hop] at hc; cases hc) ?_
            have hrun : (execOp a.eval o).run P w = .halt (.panic mineV) w := by
              simp only [execOp, hop, hfr, hv]
              rfl
            rw [hrun]
            exact hKP ⟨st.tmps, updObjs st.objs []⟩ η G a w hkp rfl H (Evol.refl _ _ _)
          · exact h.elim
        · rename_i _ x args types hop
          split at h
          · rename_i f caps hx
            cases hb : ltN f 4096 with
            | false =>
              rw [hb] at h
              simp only [Bool.not_false, cond_true] at h
              unfold bcallVC callVC at h
              split at h
              · exact h.elim
              · rename_i objs hsel
                obtain ⟨r, objs', hs, hok, hK'⟩ := h.h
                have hspec := hS _ _ _ _ _ hs
                exact bcall_step (F := fs st) (X := Unit) (r := fun _ => r) (objs' := fun _ => objs') (sl := fun _ => []) ho hg hop hx hsel rfl (fun η G vs w h1 h2 h3 h4 => (hspec η G vs w h1 h2 h3 h4).mono fun _ _ h => ⟨(), h⟩) (pre_of_ok hok.h) (fun _ => hok.h) H fun x η' G' a' w' H' hev => next _ _ kn' _ hkn' hK' η' G' a' w' H' hev
            | true =>
            have hlt : f < 4096 := of_decide_eq_true hb
            rw [hb] at h
            simp only [Bool.not_true, cond_false] at h
            cases hpn : E.pn f with
            | true =>
             rw [hpn] at h
             simp only [cond_true] at h
             rcases h with h | h
             · unfold callVC at h
               split at h
               · exact h.elim
               · rename_i objs hsel
                 obtain ⟨r, objs', hs, hok, hK'⟩ := h.h
                 have hspec := hS _ _ _ _ _ hs
                 exact opRec_call (F := fs st) ho hg hop hx hlt hsel rfl hspec hok.h (fs st) (fun _ _ => rfl) (fun _ _ => rfl) Q _ η G a w H fun η' G' a' w' H' hev => next _ _ kn' _ hkn' hK' η' G' a' w' H' hev
             · unfold panVC at h
               split at h
               · exact h.elim
               · rename_i objs hsel
                 obtain ⟨r, objs', hs, hok, hK'⟩ := h.h
                 have hspec := hS _ _ _ _ _ hs
                 obtain ⟨U, hU⟩ : ∃ U, U = backU (selOf (getO st) (E.rw f) (args.toList.map (opnd (getT st)) ++ caps)) (borSVs (getO st) (selOf (getO st) (E.rw f) (args.toList.map (opnd (getT st)) ++ caps)) (args.toList.map (opnd (getT st)) ++ caps) ++ borObjs (getO st) (selOf (getO st) (E.rw f) (args.toList.map (opnd (getT st)) ++ caps)) (selOf (getO st) (E.rw f) (args.toList.map (opnd (getT st)) ++ caps))) (o.dst.getD 0) r objs' := ⟨_, rfl⟩
                 rw [← hU] at hK'
                 refine pan_step (F := fs st) ho hg hop hx hlt hsel rfl hspec hok.h H fun η' G' w' H' hev => hKP ⟨st.tmps, updObjs st.objs U⟩ η' G' a w' hK' rfl ?_ hev
                 have hp := fs_put st U none .any [] []
                 have e1 : getT ⟨st.tmps, updObjs st.objs U⟩ = getT st := rfl
                 rw [e1]
                 have e2 : getO ⟨st.tmps, updObjs st.objs U⟩ = updF (getO st) U := congrArg Prod.snd hp
                 rw [e2, hU]
                 exact H'
            | false =>
            rw [hpn] at h
            simp only [cond_false] at h
            cases hgh : E.gh f with
            | true =>
              rw [hgh] at h
              simp only [cond_true] at h
              obtain ⟨ex, h⟩ := h
              split at h
              · exact h.elim
              · rename_i objs hsel
                obtain ⟨X, r, objs', hs, hpre, hy⟩ := h.h
                exact call_step (F := fs st) (sl := fun _ => []) ho hg hop hx hlt hsel rfl (hR _ _ _ _ _ _ hs) hpre.h (fun x => (hy x).1.h) H fun x η' G' a' w' H' hev => next _ _ kn' _ hkn' (hy x).2 η' G' a' w' H' hev
            | false =>
              rw [hgh] at h
              simp only [cond_false] at h
              unfold callVC at h
              split at h
              · exact h.elim
              · rename_i objs hsel
                obtain ⟨r, objs', hs, hok, hK'⟩ := h.h
                have hspec := hS _ _ _ _ _ hs
                exact opRec_call (F := fs st) ho hg hop hx hlt hsel rfl hspec hok.h (fs st) (fun _ _ => rfl) (fun _ _ => rfl) Q _ η G a w H fun η' G' a' w' H' hev => next _ _ kn' _ hkn' hK' η' G' a' w' H' hev
          · rename_i k0 v0 hx
            unfold rawCallVC at h
            split at h
            · exact h.elim
            · rename_i objs hsel
              obtain ⟨r, objs', hs, hok, hK'⟩ := h.h
              have hspec := hS _ _ _ _ _ hs
              exact opRec_yield (F := fs st) ho hg hop hx hsel rfl hspec hok.h (fs st) (fun _ _ => rfl) (fun _ _ => rfl) Q _ η G a w H fun η' G' a' w' H' hev => next _ _ kn' _ hkn' hK' η' G' a' w' H' hev
          · exact h.elim
        · split at h
          · split at h
            · exact h.elim
            · rename_i f hraw
              unfold rawVC at h
              split at h
              · exact h.elim
              · rename_i objs hsel
                obtain ⟨X, r, objs', hs, hpre, hx⟩ := h.h
                exact raw_step (F := fs st) (sl := fun _ => []) ho hg hraw hsel rfl (hR _ _ _ _ _ _ hs) hpre.h (fun x => (hx x).1.h) H fun x η' G' a' w' H' hev => next _ _ kn' _ hkn' (hx x).2 η' G' a' w' H' hev
          · rename_i sv upd rd hev
            exact opRec_op (F := fs st) hE ho hkn' hg hev trivial (fs st) (fun _ _ => rfl) (fun _ _ => rfl) Q _ η G a w H fun η' G' a' w' H' hev => next _ _ kn' _ hkn' h η' G' a' w' H' hev
          · rename_i sv upd rd p hev
            exact opRec_op (F := fs st) hE ho hkn' hg hev h.1.h (fs st) (fun _ _ => rfl) (fun _ _ => rfl) Q _ η G a w H fun η' G' a' w' H' hev => next _ _ kn' _ hkn' h.2 η' G' a' w' H' hev
      · exact opRec_skip ho hg (fs st) (fun _ _ => rfl) (fun _ _ => rfl) Q _ η G a w H fun η' G' a' w' H' hev => next (.tup []) [] kn' [] hkn' (by simpa only [updObjs] using h) η' G' a' w' H' hev
end
end Go.SX

/- SX: regions, third part: any order that the edges allow comes to what the text's order comes to. -/
namespace Go.SX

def stD (N : Nat) (D : Nat → Bool) : Nat → FS → List FR → FS
  | _, F, [] => F
  | i, F, r :: rs => stD N D (i + 1) (if D i then r.app N F else F) rs

theorem app_slot (N : Nat) (r : FR) (F : FS) (t : Nat) : (r.app N F).1 t = if r.dst = some t ∧ t < N then r.sv else F.1 t := by
  cases hd : r.dst with
  | none => simp [FR.app, hd]
  | some d =>
    simp only [FR.app, hd, Option.some.injEq]
    by_cases h : t = d
    · subst h; simp
    · have : ¬ d = t := fun e => h e.symm
      simp [h, this]

theorem updF_base {ob ob' : Nat → Option TObj} : ∀ (upd : Objs) (k : Nat), ob k = ob' k → updF ob upd k = updF ob' upd k
  | [], _, h => h
  | (j, x) :: r, k, h => updF_base r k (by split <;> simp_all)

theorem updF_not {ob : Nat → Option TObj} : ∀ (upd : Objs) (k : Nat), k ∉ namesOf upd → updF ob upd k = ob k
  | [], _, _ => rfl
  | (j, x) :: r, k, h => by
      simp only [namesOf, List.mem_cons, not_or] at h
      simp only [updF]
      rw [updF_not r k h.2, if_neg h.1]

theorem updF_in {ob ob' : Nat → Option TObj} : ∀ (upd : Objs) (k : Nat), k ∈ namesOf upd → updF ob upd k = updF ob' upd k
  | [], _, h => by cases h
  | (j, x) :: r, k, h => by
      simp only [updF]
      by_cases hk : k = j
      · exact updF_base r k (by simp [hk])
      · simp only [namesOf, List.mem_cons] at h
        exact updF_in r k (h.resolve_left hk)

theorem app_obj_not (N : Nat) (r : FR) (F : FS) (k : Nat) (h : k ∉ namesOf r.upd) : (r.app N F).2 k = F.2 k := updF_not _ _ h
theorem app_obj_in (N : Nat) (r : FR) (F F' : FS) (k : Nat) (h : k ∈ namesOf r.upd) : (r.app N F).2 k = (r.app N F').2 k := updF_in _ _ h

theorem stD_slot {N : Nat} {D D' : Nat → Bool} {t : Nat} : ∀ (rs : List FR) (i : Nat) (F F' : FS), F.1 t = F'.1 t → (∀ j r, rs[j]? = some r → r.dst = some t → D (i + j) = D' (i + j)) →
    (stD N D i F rs).1 t = (stD N D' i F' rs).1 t
  | [], _, _, _, h, _ => h
  | r :: rs, i, F, F', h, hw => by
      simp only [stD]
      refine stD_slot rs (i + 1) _ _ ?_ fun j r' hj hr => by have := hw (j + 1) r' (by simpa [leN_iff, ltN_iff] using hj) hr; rwa [show i + (j + 1) = i + 1 + j by omega] at this
      by_cases hd : r.dst = some t
      · have := hw 0 r rfl hd
        simp only [Nat.add_zero] at this
        rw [this]
        cases D' i <;> simp [app_slot, h]
      · cases D i <;> cases D' i <;> simp [app_slot, h, hd]

theorem stD_obj {N : Nat} {D D' : Nat → Bool} {k : Nat} : ∀ (rs : List FR) (i : Nat) (F F' : FS), F.2 k = F'.2 k → (∀ j r, rs[j]? = some r → k ∈ namesOf r.upd → D (i + j) = D' (i + j)) →
    (stD N D i F rs).2 k = (stD N D' i F' rs).2 k
  | [], _, _, _, h, _ => h
  | r :: rs, i, F, F', h, hw => by
      simp only [stD]
      refine stD_obj rs (i + 1) _ _ ?_ fun j r' hj hr => by have := hw (j + 1) r' (by simpa [leN_iff, ltN_iff] using hj) hr; rwa [show i + (j + 1) = i + 1 + j by omega] at this
      by_cases hd : k ∈ namesOf r.upd
      · have := hw 0 r rfl hd
        simp only [Nat.add_zero] at this
        rw [this]
        cases D' i
        · exact h
        · exact app_obj_in N r F F' k hd
      · cases D i <;> cases D' i <;> simp [app_obj_not, h, hd]

theorem stD_none {N : Nat} : ∀ (rs : List FR) (i : Nat) (F : FS), stD N (fun _ => false) i F rs = F
  | [], _, _ => rfl
  | r :: rs, i, F => by simp only [stD]; exact stD_none rs _ _

theorem stD_big {N : Nat} {D : Nat → Bool} {t : Nat} (hN : ¬ t < N) : ∀ (rs : List FR) (i : Nat) (F : FS), (stD N D i F rs).1 t = F.1 t
  | [], _, _ => rfl
  | r :: rs, i, F => by simp only [stD]; rw [stD_big hN rs]; cases D i <;> simp [app_slot, hN]

/-- The last writer of a slot. -/
theorem stD_last {N : Nat} {D : Nat → Bool} {t : Nat} {r : FR} (hN : t < N) : ∀ (rs : List FR) (i m : Nat) (F : FS), rs[m]? = some r → r.dst = some t → D (i + m) = true → (∀ j r', rs[j]? = some r' → r'.dst = some t → m < j → D (i + j) = false) →
    (stD N D i F rs).1 t = r.sv
  | [], _, _, _, h, _, _, _ => by simp at h
  | x :: rs, i, 0, F, h, hd, hD, hl => by
      simp only [List.getElem?_cons_zero, Option.some.injEq] at h
      subst h
      simp only [stD]
      simp only [Nat.add_zero] at hD
      rw [hD, if_pos rfl]
      have : (stD N D (i + 1) (x.app N F) rs).1 t = (stD N (fun _ => false) (i + 1) (x.app N F) rs).1 t :=
        stD_slot rs (i + 1) _ _ rfl fun j r' hj hr => by have := hl (j + 1) r' (by simpa [leN_iff, ltN_iff] using hj) hr (by omega); rwa [show i + (j + 1) = i + 1 + j by omega] at this
      rw [this, stD_none]
      simp [app_slot, hd, hN]
  | x :: rs, i, m + 1, F, h, hd, hD, hl => by
      simp only [stD]
      exact stD_last hN rs (i + 1) m _ (by simpa [leN_iff, ltN_iff] using h) hd (by rwa [show i + 1 + m = i + (m + 1) by omega])
          (fun j r' hj hr hm => by have := hl (j + 1) r' (by simpa [leN_iff, ltN_iff] using hj) hr (by omega); rwa [show i + (j + 1) = i + 1 + j by omega] at this)

theorem stD_lastO {N : Nat} {D : Nat → Bool} {k : Nat} {r : FR} : ∀ (rs : List FR) (i m : Nat) (F F' : FS), rs[m]? = some r → k ∈ namesOf r.upd → D (i + m) = true → (∀ j r', rs[j]? = some r' → k ∈ namesOf r'.upd → m < j → D (i + j) = false) →
    (stD N D i F rs).2 k = (r.app N F').2 k
  | [], _, _, _, _, h, _, _, _ => by simp at h
  | x :: rs, i, 0, F, F', h, hd, hD, hl => by
      simp only [List.getElem?_cons_zero, Option.some.injEq] at h
      subst h
      simp only [stD]
      simp only [Nat.add_zero] at hD
      rw [hD, if_pos rfl]
      have : (stD N D (i + 1) (x.app N F) rs).2 k = (stD N (fun _ => false) (i + 1) (x.app N F) rs).2 k :=
        stD_obj rs (i + 1) _ _ rfl fun j r' hj hr => by have := hl (j + 1) r' (by simpa [leN_iff, ltN_iff] using hj) hr (by omega); rwa [show i + (j + 1) = i + 1 + j by omega] at this
      rw [this]
      rw [stD_none]
      exact app_obj_in N x F F' k hd
  | x :: rs, i, m + 1, F, F', h, hd, hD, hl => by
      simp only [stD]
      exact stD_lastO (N := N) (D := D) (k := k) (r := r) rs (i + 1) m _ F' (by simpa [leN_iff, ltN_iff] using h) hd (by rwa [show i + 1 + m = i + (m + 1) by omega])
          (fun j r' hj hr hm => by have := hl (j + 1) r' (by simpa [leN_iff, ltN_iff] using hj) hr (by omega); rwa [show i + (j + 1) = i + 1 + j by omega] at this)

theorem stD_all {N : Nat} {D : Nat → Bool} : ∀ (rs : List FR) (i : Nat) (F : FS), (∀ j, j < rs.length → D (i + j) = true) → stD N D i F rs = endF N F rs
  | [], _, _, _ => rfl
  | r :: rs, i, F, h => by
      simp only [stD, endF]
      rw [show D i = true from by simpa [leN_iff, ltN_iff] using h 0 (by simp), if_pos rfl]
      exact stD_all rs (i + 1) _ fun j hj => by have := h (j + 1) (by simpa [leN_iff, ltN_iff] using hj); rwa [show i + (j + 1) = i + 1 + j by omega] at this

theorem stD_lt {N : Nat} : ∀ (rs : List FR) (i m : Nat) (F : FS), stD N (fun j => decide (j < i + m)) i F rs = endF N F (rs.take m)
  | [], i, m, F => by cases m <;> rfl
  | r :: rs, i, 0, F => by
      simp only [stD, List.take_zero, endF]
      rw [if_neg (by simp)]
      have hnone : ∀ (rs : List FR) (s : Nat) (F : FS), i ≤ s → stD N (fun j => decide (j < i + 0)) s F rs = F := by
        intro rs
        induction rs with
        | nil => intro s F _; rfl
        | cons r rs ih => intro s F hs; simp only [stD]; rw [if_neg (by simp; omega)]; exact ih _ _ (by omega)
      exact hnone rs (i + 1) F (by omega)
  | r :: rs, i, m + 1, F => by
      simp only [stD, List.take_succ_cons, endF]
      rw [if_pos (by simp)]
      have := stD_lt (N := N) rs (i + 1) m (r.app N F)
      rw [show i + 1 + m = i + (m + 1) by omega] at this
      exact this

section
variable {P : Program}

theorem runs_at {ops : Array Oper} {N : Nat} : ∀ (rs : List FR) (i : Nat) (F : FS), Runs P ops N i F rs → ∀ (m : Nat) (r : FR), rs[m]? = some r → OpRec P ops N (i + m) (endF N F (rs.take m)) r
  | [], _, _, _, m, r, h => by simp at h
  | x :: rs, i, F, hr, 0, r, h => by
      simp only [List.getElem?_cons_zero, Option.some.injEq] at h
      subst h
      exact hr.1
  | x :: rs, i, F, hr, m + 1, r, h => by
      have := runs_at rs (i + 1) _ hr.2 m r (by simpa [leN_iff, ltN_iff] using h)
      rw [show i + 1 + m = i + (m + 1) by omega] at this
      exact this

/-- What the check of a region's edges says. -/
structure DrawOk (ops : Array Oper) (rs : List FR) (pre : Nat → Nat → Prop) : Prop where
  len : rs.length = ops.size
  on : ∀ i o, ops[i]? = some o → ∀ e ∈ o.after, Region.binds .any e = true → e.on < i
  prd : ∀ i j, pre i j → ∃ o e, ops[j]? = some o ∧ e ∈ o.after ∧ Region.binds .any e = true ∧ (e.on = i ∨ pre i e.on)
  slotRead : ∀ i j p q t, i < j → rs[i]? = some p → rs[j]? = some q → p.dst = some t → t ∈ q.rs → pre i j
  slotRead' : ∀ i j p q t, i < j → rs[i]? = some p → rs[j]? = some q → q.dst = some t → t ∈ p.rs → pre i j
  slotSlot : ∀ i j p q t, i < j → rs[i]? = some p → rs[j]? = some q → p.dst = some t → q.dst = some t → pre i j
  objRead : ∀ i j p q k, i < j → rs[i]? = some p → rs[j]? = some q → k ∈ namesOf p.upd → k ∈ q.rd ∨ k ∈ namesOf q.upd → pre i j
  objRead' : ∀ i j p q k, i < j → rs[i]? = some p → rs[j]? = some q → k ∈ namesOf q.upd → k ∈ p.rd ∨ k ∈ namesOf p.upd → pre i j

theorem ready_mem {ops : Array Oper} {listed : Array Bool} {i : Nat} : i ∈ Region.ready .any ops listed ↔ i < ops.size ∧ listed.getD i true = false ∧ ∃ o, ops[i]? = some o ∧ ∀ e ∈ o.after, Region.binds .any e = true → listed.getD e.on false = true := by
  unfold Region.ready
  simp only [List.mem_filter, List.mem_range, Bool.and_eq_true, Bool.not_eq_true']
  constructor
  · rintro ⟨h1, h2, h3⟩
    refine ⟨h1, h2, ?_⟩
    rw [Array.getElem?_eq_getElem h1] at h3 ⊢
    refine ⟨_, rfl, fun e he hb => ?_⟩
    simp only [Option.map_some, Option.getD_some, Array.all_eq_true_iff_forall_mem, Bool.or_eq_true, Bool.not_eq_true'] at h3
    rcases h3 e he with h | h
    · rw [hb] at h; cases h
    · exact h
  · rintro ⟨h1, h2, o, h3, h4⟩
    refine ⟨h1, h2, ?_⟩
    rw [h3]
    simp only [Option.map_some, Option.getD_some, Array.all_eq_true_iff_forall_mem, Bool.or_eq_true, Bool.not_eq_true']
    intro e he
    cases hb : Region.binds .any e with
    | false => exact .inl rfl
    | true => exact .inr (h4 e he hb)

theorem draw_go {ops : Array Oper} {N : Nat} {dl : List Deferred} {F : FS} {rs : List FR} {pre : Nat → Nat → Prop} (hd : DrawOk ops rs pre) (hr : Runs P ops N 0 F rs) {ro : Option Nat} {nn : Nat} {Q : Exit → Act → World → Prop} :
    ∀ (fuel : Nat) (U : List Nat) (listed : Array Bool) (a : Act) (w : World) (η : OEnv) (G : Nat → Prop), U.Nodup → U.length ≤ fuel → listed.size = ops.size → (∀ i, i < ops.size → (listed.getD i false = false ↔ i ∈ U)) →
      (∀ j o, ops[j]? = some o → listed.getD j false = true → ∀ e ∈ o.after, Region.binds .any e = true → listed.getD e.on false = true) →
      Holds dl η G N (stD N (fun i => listed.getD i false) 0 F rs).1 (stD N (fun i => listed.getD i false) 0 F rs).2 a w →
      (∀ η' G' a' w', Holds dl η' G' N (endF N F rs).1 (endF N F rs).2 a' w' → Evol η G w η' G' w' → Q .normal a' w') → wpAnyIn (fen ro) nn P .any ops Q fuel listed a w := by
  intro fuel
  have hget : ∀ (listed : Array Bool) (i : Nat), listed.size = ops.size → i < ops.size → listed.getD i true = listed.getD i false := by
    intro listed i hs hi
    simp [Array.getD_eq_getD_getElem?, Array.getElem?_eq_getElem (show i < listed.size by omega)]
  -- all are listed where none is ready
  have hall : ∀ (listed : Array Bool), listed.size = ops.size → Region.ready .any ops listed = [] → ∀ i, i < ops.size → listed.getD i false = true := by
    intro listed hs hrd i
    induction i using Nat.strongRecOn with
    | _ i ih =>
      intro hi
      cases hl : listed.getD i false with
      | true => rfl
      | false =>
        exfalso
        have : i ∈ Region.ready .any ops listed := by
          refine ready_mem.2 ⟨hi, by rw [hget listed i hs hi]; exact hl, ops[i], Array.getElem?_eq_getElem hi, fun e he hb => ?_⟩
          have hon := hd.on i _ (Array.getElem?_eq_getElem hi) e he hb
          exact ih e.on hon (by omega)
        rw [hrd] at this; cases this
  have hend : ∀ (listed : Array Bool), (∀ i, i < ops.size → listed.getD i false = true) → stD N (fun i => listed.getD i false) 0 F rs = endF N F rs := by
    intro listed h
    exact stD_all rs 0 F fun j hj => by rw [Nat.zero_add]; exact h j (by rw [← hd.len]; exact hj)
  induction fuel with
  | zero =>
    intro U listed a w η G hU hlen hs hiff hcl H hK
    have hU0 : U = [] := List.eq_nil_of_length_eq_zero (by omega)
    have hl : ∀ i, i < ops.size → listed.getD i false = true := by
      intro i hi
      cases hb : listed.getD i false with
      | true => rfl
      | false => have := (hiff i hi).1 hb; rw [hU0] at this; cases this
    refine ⟨?_, ?_⟩
    · cases hrd : Region.ready .any ops listed with
      | nil => rfl
      | cons i l =>
        have : i ∈ Region.ready .any ops listed := by rw [hrd]; simp
        obtain ⟨h1, h2, _⟩ := ready_mem.1 this
        rw [hget listed i hs h1, hl i h1] at h2; cases h2
    · rw [hend listed hl] at H
      exact hK η G a w H (Evol.refl _ _ _)
  | succ fuel ih =>
    intro U listed a w η G hU hlen hs hiff hcl H hK
    refine ⟨fun hrd => ?_, fun i hi => ?_⟩
    · rw [hend listed (hall listed hs hrd)] at H
      exact hK η G a w H (Evol.refl _ _ _)
    · obtain ⟨hi1, hi2, o, ho, hpreds⟩ := ready_mem.1 hi
      rw [hget listed i hs hi1] at hi2
      have hlt : i < rs.length := by rw [hd.len]; exact hi1
      have hri : rs[i]? = some rs[i] := List.getElem?_eq_getElem hlt
      -- what stands ahead of a listed one is listed
      have hpre : ∀ j, listed.getD j false = true → ∀ x, pre x j → listed.getD x false = true := by
        intro j
        induction j using Nat.strongRecOn with
        | _ j ihj =>
          intro hj x hx
          obtain ⟨o', e, ho', he, hb, h⟩ := hd.prd x j hx
          have hon := hd.on j o' ho' e he hb
          have hle := hcl j o' ho' hj e he hb
          rcases h with h | h
          · rw [← h]; exact hle
          · exact ihj e.on hon hle x h
      have hprei : ∀ x, pre x i → listed.getD x false = true := by
        intro x hx
        obtain ⟨o', e, ho', he, hb, h⟩ := hd.prd x i hx
        rw [ho] at ho'; cases ho'
        have hle := hpreds e he hb
        rcases h with h | h
        · rw [← h]; exact hle
        · exact hpre e.on hle x h
      -- whoever must come ahead of i is listed, whoever must come behind is not
      have hahead : ∀ j, j ≠ i → (j < i → pre j i) → (i < j → pre i j) → listed.getD j false = decide (j < i) := by
        intro j hne h1 h2
        rcases Nat.lt_or_gt_of_ne hne with h | h
        · rw [hprei j (h1 h)]; simp [h]
        · cases hb : listed.getD j false with
          | false => simp; omega
          | true => have := hpre j hb i (h2 h); rw [hi2] at this; cases this
      have hrec := runs_at rs 0 F hr i _ hri
      rw [Nat.zero_add, ← stD_lt rs 0 i F, Nat.zero_add] at hrec
      refine hrec (stD N (fun j => listed.getD j false) 0 F rs) (fun t ht => ?_) (fun k hk => ?_) Q _ η G a w H fun η' G' a' w' H' hev => ?_
      · refine stD_slot rs 0 F F rfl fun j r hj hw => ?_
        rw [Nat.zero_add]
        by_cases hji : j = i
        · subst hji; rw [hi2]; simp
        · exact hahead j hji (fun h => hd.slotRead j i r _ t h hj hri hw ht) (fun h => hd.slotRead' i j _ r t h hri hj hw ht)
      · refine stD_obj rs 0 F F rfl fun j r hj hw => ?_
        rw [Nat.zero_add]
        by_cases hji : j = i
        · subst hji; rw [hi2]; simp
        · exact hahead j hji (fun h => hd.objRead j i r _ k h hj hri hw (.inl hk)) (fun h => hd.objRead' i j _ r k h hri hj hw (.inl hk))
      · -- the state with i listed
        have hnew : ∀ j, (listed.setIfInBounds i true).getD j false = if j = i then true else listed.getD j false := by
          intro j
          simp only [Array.getD_eq_getD_getElem?, Array.getElem?_setIfInBounds]
          by_cases h : j = i
          · subst h; simp [hs, hi1]
          · have : ¬ i = j := fun e => h e.symm
            simp [h, this]
        have hstate : stD N (fun j => (listed.setIfInBounds i true).getD j false) 0 F rs = (rs[i]).app N (stD N (fun j => listed.getD j false) 0 F rs) := by
          refine Prod.ext (funext fun t => ?_) (funext fun k => ?_)
          · by_cases ht : (rs[i]).dst = some t
            · by_cases hN : t < N
              · rw [app_slot, if_pos ⟨ht, hN⟩]
                exact stD_last hN rs 0 i F hri ht (by rw [Nat.zero_add, hnew]; simp) fun j r' hj hw hlt' => by
                  rw [Nat.zero_add, hnew, if_neg (by omega)]
                  have := hahead j (by omega) (fun h => by omega) (fun h => hd.slotSlot i j _ r' t h hri hj ht hw)
                  rw [this]; simp; omega
              · rw [app_slot, if_neg (fun h => hN h.2), stD_big hN, stD_big hN]
            · rw [app_slot, if_neg (fun h => ht h.1)]
              exact stD_slot rs 0 F F rfl fun j r hj hw => by
                rw [Nat.zero_add, hnew]
                by_cases hji : j = i
                · subst hji; rw [hri] at hj; cases hj; exact absurd hw ht
                · simp [hji]
          · by_cases hk : k ∈ namesOf (rs[i]).upd
            · exact stD_lastO rs 0 i F _ hri hk (by rw [Nat.zero_add, hnew]; simp) fun j r' hj hw hlt' => by
                rw [Nat.zero_add, hnew, if_neg (by omega)]
                have := hahead j (by omega) (fun h => by omega) (fun h => hd.objRead i j _ r' k h hri hj hk (.inr hw))
                rw [this]; simp; omega
            · rw [app_obj_not _ _ _ _ hk]
              exact stD_obj rs 0 F F rfl fun j r hj hw => by
                rw [Nat.zero_add, hnew]
                by_cases hji : j = i
                · subst hji; rw [hri] at hj; cases hj; exact absurd hw hk
                · simp [hji]
        refine ih (U.erase i) (listed.setIfInBounds i true) a' w' η' G' (hU.erase i) ?_ (by simpa [leN_iff, ltN_iff] using hs) (fun j hj => ?_) (fun j o' ho' hj e he hb => ?_) (by rw [hstate]; exact H') (fun η'' G'' a'' w'' H'' hev' => hK _ _ _ _ H'' (hev.trans hev'))
        · have hiU := (hiff i hi1).1 hi2
          rw [List.length_erase_of_mem hiU]
          omega
        · rw [hnew]
          by_cases hji : j = i
          · subst hji; simp [hU.mem_erase_iff]
          · rw [if_neg hji, hiff j hj, hU.mem_erase_iff]
            exact ⟨fun h => ⟨hji, h⟩, fun h => h.2⟩
        · rw [hnew] at hj ⊢
          by_cases hje : e.on = i
          · rw [if_pos hje]
          · rw [if_neg hje]
            by_cases hji : j = i
            · subst hji; rw [ho] at ho'; cases ho'; exact hpreds e he hb
            · rw [if_neg hji] at hj; exact hcl j o' ho' hj e he hb
end
end Go.SX

/- SX: regions, fourth part: the check of a region's edges; the region's rule. -/
namespace Go.SX

theorem anyIn_iff : ∀ {l m : List Nat}, anyIn l m = true ↔ ∃ x ∈ l, x ∈ m
  | [], m => by simp [anyIn]
  | y :: l, m => by simp [anyIn, memN_iff, anyIn_iff (l := l)]

theorem optIn_iff {d : Option Nat} {l : List Nat} : optIn d l = true ↔ ∃ x, d = some x ∧ x ∈ l := by
  cases d <;> simp [optIn, memN_iff]

theorem optEq_iff {d e : Option Nat} : optEq d e = true ↔ ∃ x, d = some x ∧ e = some x := by
  cases d with
  | none => simp [optEq]
  | some x => cases e with
    | none => simp [optEq]
    | some y =>
      simp only [optEq, Option.some.injEq]
      exact ⟨fun h => ⟨x, rfl, (eqN_eq h).symm⟩, fun ⟨z, h1, h2⟩ => by rw [h1, h2]; exact eqN_refl z⟩

def entOf (M : List Nat) (i : Nat) (r : FR) : Ent := ⟨i, r.dst, r.rs, r.rd, namesOf r.upd, nthD M i 0⟩

def entList (M : List Nat) : Nat → List FR → List Ent
  | _, [] => []
  | i, r :: rs => entOf M i r :: entList M (i + 1) rs

def trList : Nat → List FR → List TRec
  | _, [] => []
  | i, r :: rs => ⟨i, r.rd, namesOf r.upd⟩ :: trList (i + 1) rs

theorem revT_eq : ∀ (l acc : List TRec), revT l acc = l.reverse ++ acc
  | [], acc => rfl
  | t :: r, acc => by simp [revT, revT_eq r]

theorem trOf_eq : ∀ (rs : List FR) (i : Nat) (acc : List TRec), trOf i rs acc = (trList i rs).reverse ++ acc
  | [], i, acc => rfl
  | r :: rs, i, acc => by simp [trOf, trList, trOf_eq rs]

theorem ents_eq {ops : Array Oper} {M : List Nat} : ∀ (rs : List FR) (i : Nat), i + rs.length = ops.size → Meta ops i rs → entsOf ops.toList M (ops.toList.drop i) i (trList i rs) = entList M i rs
  | [], i, hl, _ => by
      have : ops.toList.drop i = [] := List.drop_eq_nil_of_le (by simp at hl ⊢; omega)
      rw [this]; rfl
  | r :: rs, i, hl, hm => by
      obtain ⟨⟨o, ho, h1, h2⟩, hm'⟩ := hm
      have hlt : i < ops.toList.length := by simp at hl ⊢; omega
      have hdr : ops.toList.drop i = o :: ops.toList.drop (i + 1) := by
        rw [List.drop_eq_getElem_cons hlt]
        congr 1
        have : ops.toList[i]? = some o := by simpa [leN_iff, ltN_iff] using ho
        rw [List.getElem?_eq_getElem hlt] at this
        simpa using this
      rw [hdr]
      simp only [trList, entsOf, entList, entOf, h1, h2]
      rw [ents_eq rs (i + 1) (by simp at hl; omega) hm']

theorem entList_at {M : List Nat} : ∀ (rs : List FR) (i m : Nat) (r : FR), rs[m]? = some r → (entList M i rs)[m]? = some (entOf M (i + m) r)
  | [], _, m, _, h => by simp at h
  | x :: rs, i, 0, r, h => by simp at h; subst h; rfl
  | x :: rs, i, m + 1, r, h => by
      simp only [entList, List.getElem?_cons_succ]
      rw [entList_at rs (i + 1) m r (by simpa [leN_iff, ltN_iff] using h)]
      congr 2; omega

theorem chkOne_spec {e : Ent} : ∀ {l : List Ent}, chkOne e l = true → ∀ p ∈ l, confl p e = true → Nat.testBit e.mask p.i = true
  | [], _, p, hp, _ => by cases hp
  | x :: l, h, p, hp, hc => by
      simp only [chkOne, Bool.and_eq_true, Bool.or_eq_true, Bool.not_eq_true'] at h
      rcases List.mem_cons.1 hp with rfl | hp
      · exact h.1.resolve_left (by rw [hc]; simp)
      · exact chkOne_spec h.2 p hp hc

theorem chkPairs_spec : ∀ (l prev : List Ent), chkPairs prev l = true → ∀ (j : Nat) (e : Ent), l[j]? = some e → ∀ p, (p ∈ prev ∨ ∃ i, i < j ∧ l[i]? = some p) → confl p e = true → Nat.testBit e.mask p.i = true
  | [], _, _, j, e, h, _, _, _ => by simp at h
  | x :: l, prev, h, 0, e, he, p, hp, hc => by
      simp only [chkPairs, Bool.and_eq_true] at h
      simp only [List.getElem?_cons_zero, Option.some.injEq] at he
      subst he
      rcases hp with hp | ⟨i, hi, _⟩
      · exact chkOne_spec h.1 p hp hc
      · omega
  | x :: l, prev, h, j + 1, e, he, p, hp, hc => by
      simp only [chkPairs, Bool.and_eq_true] at h
      refine chkPairs_spec l (x :: prev) h.2 j e (by simpa [leN_iff, ltN_iff] using he) p ?_ hc
      rcases hp with hp | ⟨i, hi, hpi⟩
      · exact .inl (by simp [hp])
      · cases i with
        | zero => simp at hpi; exact .inl (by simp [hpi])
        | succ i => exact .inr ⟨i, by omega, by simpa [leN_iff, ltN_iff] using hpi⟩

theorem edgesOk_spec {i : Nat} : ∀ {l : List Edge}, edgesOk i l = true → ∀ e ∈ l, Region.binds .any e = true → e.on < i
  | [], _, e, h, _ => by cases h
  | x :: l, h, e, he, hb => by
      simp only [edgesOk, Bool.and_eq_true, Bool.or_eq_true, Bool.not_eq_true'] at h
      rcases List.mem_cons.1 he with rfl | he
      · have := h.1.resolve_left (by rw [hb]; simp)
        simpa [ltN_iff] using this
      · exact edgesOk_spec h.2 e he hb

theorem allEdgesOk_spec : ∀ {l : List Oper} {s : Nat}, allEdgesOk l s = true → ∀ (i : Nat) (o : Oper), l[i]? = some o → ∀ e ∈ o.after, Region.binds .any e = true → e.on < s + i
  | [], _, _, i, o, h, _, _, _ => by simp at h
  | x :: l, s, h, 0, o, ho, e, he, hb => by
      simp only [allEdgesOk, Bool.and_eq_true] at h
      simp only [List.getElem?_cons_zero, Option.some.injEq] at ho
      subst ho
      exact edgesOk_spec h.1 e (by simpa [leN_iff, ltN_iff] using he) hb
  | x :: l, s, h, i + 1, o, ho, e, he, hb => by
      simp only [allEdgesOk, Bool.and_eq_true] at h
      have := allEdgesOk_spec h.2 i o (by simpa [leN_iff, ltN_iff] using ho) e he hb
      omega

theorem maskOf_spec {M : List Nat} {x : Nat} : ∀ {l : List Edge}, Nat.testBit (maskOf M l) x = true → ∃ e ∈ l, Region.binds .any e = true ∧ (e.on = x ∨ Nat.testBit (nthD M e.on 0) x = true)
  | [], h => by simp [maskOf] at h
  | e :: l, h => by
      simp only [maskOf] at h
      cases hb : Region.binds .any e with
      | false =>
        rw [hb] at h
        obtain ⟨e', h1, h2, h3⟩ := maskOf_spec h
        exact ⟨e', by simp [h1], h2, h3⟩
      | true =>
        rw [hb] at h
        simp only [cond_true, Nat.testBit_or, Bool.or_eq_true, Nat.testBit_two_pow] at h
        rcases h with h | h | h
        · exact ⟨e, by simp, hb, .inl (by simpa [leN_iff, ltN_iff] using h)⟩
        · exact ⟨e, by simp, hb, .inr h⟩
        · obtain ⟨e', h1, h2, h3⟩ := maskOf_spec h
          exact ⟨e', by simp [h1], h2, h3⟩

theorem masksOf_len : ∀ (l : List Oper) (acc : List Nat), (masksOf l acc).length = acc.length + l.length
  | [], acc => rfl
  | o :: r, acc => by simp [masksOf, masksOf_len r]; omega

theorem masksOf_pre : ∀ (l : List Oper) (acc : List Nat) (i : Nat), i < acc.length → nthD (masksOf l acc) i 0 = nthD acc i 0
  | [], acc, i, _ => rfl
  | o :: r, acc, i, h => by
      simp only [masksOf]
      rw [masksOf_pre r _ i (by simp; omega), nthD_append]
      simp [h]

theorem maskOf_congr {M M' : List Nat} : ∀ {l : List Edge}, (∀ e ∈ l, Region.binds .any e = true → nthD M e.on 0 = nthD M' e.on 0) → maskOf M l = maskOf M' l
  | [], _ => rfl
  | e :: l, h => by
      simp only [maskOf]
      rw [maskOf_congr (l := l) fun e he => h e (by simp [he])]
      cases hb : Region.binds .any e with
      | false => rfl
      | true => simp only [cond_true]; rw [h e (by simp) hb]

theorem masksOf_at : ∀ (l : List Oper) (acc : List Nat), (∀ (i : Nat) (o : Oper), l[i]? = some o → ∀ e ∈ o.after, Region.binds .any e = true → e.on < acc.length + i) →
    ∀ (i : Nat) (o : Oper), l[i]? = some o → nthD (masksOf l acc) (acc.length + i) 0 = maskOf (masksOf l acc) o.after.toList
  | [], _, _, i, o, h => by simp at h
  | x :: l, acc, he, 0, o, ho => by
      simp only [List.getElem?_cons_zero, Option.some.injEq] at ho
      subst ho
      simp only [masksOf, Nat.add_zero]
      rw [masksOf_pre l _ acc.length (by simp), nthD_append, if_neg (Nat.lt_irrefl _)]
      simp only [Nat.sub_self, nthD]
      refine maskOf_congr fun e hem hb => ?_
      have := he 0 x rfl e (by simpa [leN_iff, ltN_iff] using hem) hb
      simp only [Nat.add_zero] at this
      rw [masksOf_pre l _ e.on (by simp; omega), nthD_append, if_pos this]
  | x :: l, acc, he, i + 1, o, ho => by
      simp only [masksOf]
      have := masksOf_at l (acc ++ [maskOf acc x.after.toList]) (fun i o ho e hem hb => by
        have := he (i + 1) o (by simpa [leN_iff, ltN_iff] using ho) e hem hb
        simp; omega) i o (by simpa [leN_iff, ltN_iff] using ho)
      simp only [List.length_append, List.length_cons, List.length_nil] at this
      rw [show acc.length + (i + 1) = acc.length + (0 + 1) + i by omega]
      exact this

theorem drawOk_of_check {ops : Array Oper} {rs : List FR} (hl : rs.length = ops.size) (hm : Meta ops 0 rs) (h : checkDraw ops.toList (trOf 0 rs []) = true) :
    DrawOk ops rs fun i j => Nat.testBit (nthD (masksOf ops.toList []) j 0) i = true := by
  simp only [checkDraw, Bool.and_eq_true] at h
  obtain ⟨h1, h2⟩ := h
  rw [trOf_eq, revT_eq] at h2
  simp only [List.append_nil, List.reverse_reverse] at h2
  have he := ents_eq (M := masksOf ops.toList []) rs 0 (by omega) hm
  simp only [List.drop_zero] at he
  rw [he] at h2
  have hon : ∀ i o, ops[i]? = some o → ∀ e ∈ o.after, Region.binds .any e = true → e.on < i := by
    intro i o ho e hem hb
    have := allEdgesOk_spec h1 i o (by simpa [leN_iff, ltN_iff] using ho) e hem hb
    omega
  have hpair : ∀ i j p q, i < j → rs[i]? = some p → rs[j]? = some q → confl (entOf (masksOf ops.toList []) i p) (entOf (masksOf ops.toList []) j q) = true → Nat.testBit (nthD (masksOf ops.toList []) j 0) i = true := by
    intro i j p q hij hp hq hc
    have e1 := entList_at (M := masksOf ops.toList []) rs 0 i p hp
    have e2 := entList_at (M := masksOf ops.toList []) rs 0 j q hq
    rw [Nat.zero_add] at e1 e2
    exact chkPairs_spec _ _ h2 j _ e2 _ (.inr ⟨i, hij, e1⟩) hc
  refine ⟨hl, hon, ?_, ?_, ?_, ?_, ?_, ?_⟩
  · intro i j hpre
    cases ho : ops[j]? with
    | none =>
      exfalso
      have hj : ops.size ≤ j := by
        rcases Nat.lt_or_ge j ops.size with h | h
        · rw [Array.getElem?_eq_getElem h] at ho; cases ho
        · exact h
      have : nthD (masksOf ops.toList []) j 0 = 0 := by
        have hlen := masksOf_len ops.toList []
        have : ∀ (l : List Nat) (j : Nat), l.length ≤ j → nthD l j 0 = 0 := by
          intro l
          induction l with
          | nil => intro j _; rfl
          | cons x l ih => intro j hj; cases j with
            | zero => simp at hj
            | succ j => simpa [nthD] using ih j (by simpa [leN_iff, ltN_iff] using hj)
        exact this _ _ (by rw [hlen]; simpa using hj)
      rw [this] at hpre
      simp at hpre
    | some o =>
      have hat := masksOf_at ops.toList [] (fun i o ho e hem hb => by simpa [leN_iff, ltN_iff] using hon i o (by simpa [leN_iff, ltN_iff] using ho) e hem hb) j o (by simpa [leN_iff, ltN_iff] using ho)
      simp only [List.length_nil, Nat.zero_add] at hat
      rw [hat] at hpre
      obtain ⟨e, h1, h2, h3⟩ := maskOf_spec hpre
      exact ⟨o, e, rfl, by simpa [leN_iff, ltN_iff] using h1, h2, h3⟩
  · intro i j p q t hij hp hq hd hr
    exact hpair i j p q hij hp hq (by simp only [confl, entOf, Bool.or_eq_true]; exact .inl (optIn_iff.2 ⟨t, hd, hr⟩))
  · intro i j p q t hij hp hq hd hr
    exact hpair i j p q hij hp hq (by simp only [confl, entOf, Bool.or_eq_true]; exact .inr (.inl (optIn_iff.2 ⟨t, hd, hr⟩)))
  · intro i j p q t hij hp hq hd hr
    exact hpair i j p q hij hp hq (by simp only [confl, entOf, Bool.or_eq_true]; exact .inr (.inr (.inl (optEq_iff.2 ⟨t, hd, hr⟩))))
  · intro i j p q k hij hp hq hd hr
    exact hpair i j p q hij hp hq (by simp only [confl, entOf, Bool.or_eq_true]; exact .inr (.inr (.inr (.inl (anyIn_iff.2 ⟨k, hd, by simpa [leN_iff, ltN_iff] using hr⟩)))))
  · intro i j p q k hij hp hq hd hr
    exact hpair i j p q hij hp hq (by simp only [confl, entOf, Bool.or_eq_true]; exact .inr (.inr (.inr (.inr (anyIn_iff.2 ⟨k, hd, by simpa [leN_iff, ltN_iff] using hr⟩)))))

section
variable {P : Program} {S : SP} {E : Env}

theorem Holds.drew {dl : List Deferred} {η : OEnv} {G : Nat → Prop} {N : Nat} {get : Nat → SV} {ob : Nat → Option TObj} {a : Act} {w : World} (H : Holds dl η G N get ob a w) :
    Holds dl η G N get ob a { w with drawn := w.drawn + 1 } := by
  have hM : Mono η G w η G { w with drawn := w.drawn + 1 } := ⟨fun _ h => h, fun _ _ => rfl, fun k o ho => ⟨o, ho, fun hd => ⟨hd, rfl, Ext.refl _, fun b hb => ⟨hb, rfl⟩⟩⟩⟩
  refine ⟨H.sz, H.df, fun t => SVRel.mono hM _ _ (H.tm t), fun k => ?_, ⟨H.sp.lt, H.sp.dj, H.sp.mi, H.sp.glt⟩, ⟨H.tb.sz, H.tb.tp.keep fun _ _ => rfl, H.tb.out⟩⟩
  have := H.ob k
  cases h1 : ob k with
  | none => cases h2 : η k with
    | none => trivial
    | some o => rw [h1, h2] at this; exact this.elim
  | some x => cases h2 : η k with
    | none => rw [h1, h2] at this; exact this.elim
    | some o => rw [h1, h2] at this; exact ObjRel.mono hM (fun _ _ => rfl) this

theorem Evol.drew {η : OEnv} {G : Nat → Prop} {w : World} : Evol η G w η G { w with drawn := w.drawn + 1 } :=
  ⟨rfl, rfl, rfl, Nat.le_refl _, fun _ _ _ => rfl, fun _ o ho => ⟨o, ho, fun hd => ⟨hd, rfl, Ext.refl _, fun _ hb => ⟨hb, rfl⟩⟩⟩, fun _ h => h, fun _ h => .inl h, fun k o ho b hb => .inr ⟨k, o, ho, hb⟩⟩

/-- The region's rule. -/
theorem region_sound (hE : EOk P E) (hmix : P.follows .mixedOrders = true) (hS : ∀ f svs objs r objs', S f svs objs r objs' → SpecX P f svs objs r objs') {id : Nat} {ops : Array Oper} {draw : Bool} {st : St} {K KP : St → Prop}
    (hR : ∀ f svs objs X r objs', E.raw f svs objs X r objs' → SpecG P f svs objs X r objs')
    (h : match draw with
      | true => vcOps S E ops.toList ops.toList 0 st [] [] fun st' tr => (Hold fun _ => checkDraw ops.toList tr = true) ∧ K st'
      | false => vcSeq S E ops.toList ops.toList st [] K KP)
    {ro : Option Nat} {nn : Nat} {Q : Exit → Act → World → Prop} {dl : List Deferred} {η : OEnv} {G : Nat → Prop} {a : Act} {w : World} (H : Holds dl η G st.tmps.length (getT st) (getO st) a w)
    (hK : ∀ st' η' G' a' w', K st' → st'.tmps.length = st.tmps.length → Holds dl η' G' st'.tmps.length (getT st') (getO st') a' w' → Evol η G w η' G' w' → Q .normal a' w')
    (hKP : ∀ st' η' G' a' w', KP st' → st'.tmps.length = st.tmps.length → Holds dl η' G' st'.tmps.length (getT st') (getO st') a' w' → Evol η G w η' G' w' → Q (.panic panCh) a' w') :
    (Code.region id ops draw).wpIn (fen ro) nn P Q a w := by
  cases draw with
  | false =>
    refine wpIn_region ?_
    have := vcSeq_run (ro := ro) (nn := nn) (Q := Q) hE hR hS ops.toList 0 st [] K KP (by simp) (by intro s b hs; simp [lookN] at hs) h η G a w H hK hKP
    simp only [Array.length_toList] at this
    rw [List.range_eq_range']
    exact this
  | true =>
    obtain ⟨rs, st', h1, h2, h3, h4, h5, h6⟩ := vcOps_run hE hS ops.toList 0 st [] [] _ (by simp) (by intro s b hs; simp [lookN] at hs) h
    have hl : rs.length = ops.size := by simpa [leN_iff, ltN_iff] using h1
    refine wpIn_region_any hmix ?_
    refine draw_go (dl := dl) (drawOk_of_check hl h5 h6.1.h) h2 ops.size (List.range ops.size) _ a _ η G List.nodup_range (by simp) (by simp) (fun i hi => ?_) (fun j o ho hj => ?_) ?_ fun η' G' a' w' H' hev => ?_
    · simp [Array.getD_eq_getD_getElem?, hi]
    · exfalso
      simp only [Array.getD_eq_getD_getElem?, Array.getElem?_replicate] at hj
      split at hj <;> simp at hj
    · have hst : stD st.tmps.length (fun i => (Array.replicate ops.size false).getD i false) 0 (fs st) rs = fs st := by
        have : (fun i => (Array.replicate ops.size false).getD i false) = fun _ => false := by
          funext i
          simp only [Array.getD_eq_getD_getElem?, Array.getElem?_replicate]
          split <;> rfl
        rw [this]
        exact stD_none rs 0 (fs st)
      rw [hst]
      exact H.drew
    · rw [← h3] at H'
      exact hK st' η' G' a' w' h6.2 h4 (by rw [h4]; exact H') (Evol.drew.trans hev)
end
end Go.SX

/- SX: weakening a state. -/
namespace Go.SX

theorem bif_true {b : Bool} {p : Prop} (h : bif b then p else False) : b = true ∧ p := by
  cases b
  · exact h.elim
  · exact ⟨rfl, h⟩

theorem leDV_rel {w : World} {S : Nat → Prop} {d d' : DV} {v : Value} (h : leDV d d') (hv : DVRel w S d' v) : DVRel w S d v := by
  cases d <;> cases d' <;> simp only [leDV] at h
  case int.int =>
    have hk := (bif_true h).1
    replace h := (bif_true h).2
    have := ikeq_eq hk
    subst this
    simp only [DVRel] at hv ⊢
    rw [← h.h]; exact hv
  case bool.bool => simp only [DVRel] at hv ⊢; rw [← h.h]; exact hv
  case str.str => simp only [DVRel] at hv ⊢; rw [← h.h]; exact hv
  case bytes.bytes => simp only [DVRel] at hv ⊢; rw [← h.h]; exact hv
  case sl.sl =>
    have hw := (bif_true h).1
    replace h := (bif_true h).2
    have := eqN_eq hw
    subst this
    obtain ⟨h1, h2⟩ := h.h
    simp only [DVRel] at hv ⊢
    obtain ⟨a, c, e, hc, hr⟩ := hv
    refine ⟨a, c, by rw [← h1]; exact e, by rw [← h1]; exact hc, fun i hi => ?_⟩
    obtain ⟨b, o, ha, hb, hr⟩ := hr i (by rw [h1]; exact hi)
    refine ⟨b, o, ha, hb, fun j hj => ?_⟩
    obtain ⟨u, hu, hd⟩ := hr j hj
    exact ⟨u, hu, by rw [← h2 i hi j hj]; exact hd⟩

theorem renIs_iff {ρ : List (Nat × Option Nat)} {k j : Nat} : renIs ρ k j = true ↔ renN ρ k = some j := by
  unfold renIs
  cases renN ρ k with
  | none => simp
  | some i => simp only [Option.some.injEq]; exact ⟨fun h => eqN_eq h, fun h => by rw [h]; exact eqN_refl j⟩

def nilInfo (d : Bool) : OInfo := ⟨.slice none 0 0, [], [], d⟩

def leE (η : OEnv) (ρ : List (Nat × Option Nat)) (objs : Objs) : OEnv := fun k =>
  match lookN k objs with
  | none => none
  | some .dead => some (nilInfo true)
  | some _ => match renN ρ k with
    | some j => η j
    | none => some (nilInfo false)

section
variable {η : OEnv} {G : Nat → Prop} {N : Nat} {dl : List Deferred} {get : Nat → SV} {ob : Nat → Option TObj} {a : Act} {w : World}

/-- An object of the new state: a dead one, a new empty slice, or an old one. -/
theorem leE_cases {ρ : List (Nat × Option Nat)} {objs : Objs} {k : Nat} {o : OInfo} (h : leE η ρ objs k = some o) : ∃ x, lookN k objs = some x ∧
    ((x = .dead ∧ o = nilInfo true) ∨ (x ≠ .dead ∧ renN ρ k = none ∧ o = nilInfo false) ∨ (x ≠ .dead ∧ ∃ j, renN ρ k = some j ∧ η j = some o)) := by
  unfold leE at h
  split at h
  · cases h
  · rename_i hx; cases h; exact ⟨_, hx, .inl ⟨rfl, rfl⟩⟩
  · rename_i x hne hx
    refine ⟨_, hx, .inr ?_⟩
    split at h
    · rename_i j hj; exact .inr ⟨fun e => hne e, j, hj, h⟩
    · rename_i hj; cases h; exact .inl ⟨fun e => hne e, hj, rfl⟩

theorem leE_ren {ρ : List (Nat × Option Nat)} {objs : Objs} {k j : Nat} {o : OInfo} (hm : memN k (namesOf objs) = true) (hr : renN ρ k = some j) (ho : η j = some o) :
    ∃ o', leE η ρ objs k = some o' ∧ (o'.dead = false → o' = o) := by
  obtain ⟨x, hx⟩ := names_mem.1 (memN_iff.1 hm)
  unfold leE
  cases hl : lookN k objs with
  | none => exact absurd hx (lookN_none.1 hl x)
  | some y =>
    cases y <;> simp only [hr, ho]
    case dead => exact ⟨_, rfl, fun h => by simp [nilInfo] at h⟩
    all_goals exact ⟨o, rfl, fun _ => rfl⟩

theorem leE_new {ρ : List (Nat × Option Nat)} {objs : Objs} {k : Nat} (hm : memN k (namesOf objs) = true) (hr : renN ρ k = none) :
    ∃ o', leE η ρ objs k = some o' ∧ (o'.dead = false → o' = nilInfo false) := by
  obtain ⟨x, hx⟩ := names_mem.1 (memN_iff.1 hm)
  unfold leE
  cases hl : lookN k objs with
  | none => exact absurd hx (lookN_none.1 hl x)
  | some y =>
    cases y <;> simp only [hr]
    case dead => exact ⟨_, rfl, fun h => by simp [nilInfo] at h⟩
    all_goals exact ⟨_, rfl, fun _ => rfl⟩

mutual
theorem leSV_rel (H : Holds dl η G N get ob a w) {ρ : List (Nat × Option Nat)} {frz : List Nat} {objs : Objs} : ∀ (s s' : SV) (v : Value), leSV ρ (namesOf objs) frz ob s s' → SVRel η G w s' v →
    SVRel (leE η ρ objs) (inG η G frz) w s v
  | .any, _, _, _, _ => by simp [SVRel]
  | .nil, s', v, h, hv => by
      cases s' <;> simp only [leSV] at h
      simpa [SVRel] using hv
  | .int k e, s', v, h, hv => by
      cases s' <;> simp only [leSV] at h
      have hk := (bif_true h).1
      replace h := (bif_true h).2
      have := ikeq_eq hk
      subst this
      simp only [SVRel] at hv ⊢
      rw [← h.h]; exact hv
  | .bool e, s', v, h, hv => by
      cases s' <;> simp only [leSV] at h
      simp only [SVRel] at hv ⊢
      rw [← h.h]; exact hv
  | .str e, s', v, h, hv => by
      cases s' <;> simp only [leSV] at h
      simp only [SVRel] at hv ⊢
      rw [← h.h]; exact hv
  | .val e, s', v, h, hv => by
      cases s' <;> simp only [leSV] at h
      simp only [SVRel] at hv ⊢
      rw [← h.h]; exact hv
  | .nn d, s', v, h, hv => by
      cases s' <;> simp only [leSV] at h
  | .ifc T d, s', v, h, hv => by
      cases s' <;> simp only [leSV] at h
      have hk := (bif_true h).1
      replace h := (bif_true h).2
      have := eqN_eq hk
      subst this
      simp only [SVRel] at hv ⊢
      obtain ⟨u, hu, hv⟩ := hv
      exact ⟨u, hu, leDV_rel h (DVRel.mono (fun b hb => .inl hb) (fun _ _ => rfl) _ _ hv)⟩
  | .rv k e, s', v, h, hv => by
      cases s' <;> simp only [leSV] at h
      · simp only [SVRel] at hv ⊢
        subst hv
        rw [h.h]; exact ⟨rfl, rfl⟩
      · simp only [SVRel] at hv ⊢
        rw [← h.h]; exact hv
  | .dat d, s', v, h, hv => by
      cases s' with
      | dat d' =>
        simp only [leSV] at h
        simp only [SVRel] at hv ⊢
        exact leDV_rel h (DVRel.mono (fun b hb => .inl hb) (fun _ _ => rfl) _ _ hv)
      | nil =>
        simp only [SVRel] at hv
        subst hv
        cases d <;> simp only [leSV] at h
        · simp only [SVRel, DVRel, h.h]; exact ⟨none, 0, rfl, Nat.le_refl _, by simp⟩
        · simp only [SVRel, DVRel, h.h]; exact ⟨none, 0, rfl, Nat.le_refl _, fun i hi => by omega⟩
      | own k =>
        have h : (bif memN k frz then match svDV ob (.own k) with
          | some d' => leDV d d'
          | none => False
          else False) := by cases d <;> exact h
        have hm := (bif_true h).1
        replace h := (bif_true h).2
        cases hd : svDV ob (.own k) with
        | none => rw [hd] at h; exact h.elim
        | some d' =>
          rw [hd] at h
          simp only [SVRel]
          exact leDV_rel h (own_dv H (memN_iff.1 hm) hv hd)
      | _ => cases d <;> simp only [leSV] at h
  | .view _ _, s', _, h, _ => by cases s' <;> simp only [leSV] at h
  | .own k, s', v, h, hv => by
      cases s' with
      | own k' =>
        simp only [leSV] at h
        obtain ⟨h, _⟩ := bif_true h
        simp only [Bool.and_eq_true] at h
        simp only [SVRel] at hv ⊢
        obtain ⟨o, ho, h1, hv⟩ := hv
        obtain ⟨o', ho', hd⟩ := leE_ren h.1 (renIs_iff.1 h.2) ho
        exact ⟨o', ho', h1, fun hdd => by rw [hd hdd]; exact hv (by rw [← hd hdd]; exact hdd)⟩
      | nil =>
        simp only [leSV] at h
        obtain ⟨h, _⟩ := bif_true h
        simp only [Bool.and_eq_true, renNew] at h
        simp only [SVRel] at hv ⊢
        subst hv
        have hn : renN ρ k = none := by
          cases hr : renN ρ k with
          | none => rfl
          | some j => rw [hr] at h; cases h.2
        obtain ⟨o', ho', hd⟩ := leE_new (η := η) h.1 hn
        exact ⟨o', ho', rfl, fun hdd => by rw [hd hdd]; rfl⟩
      | _ => simp only [leSV] at h
  | .csl k wd n, s', v, h, hv => by
      cases s' with
      | csl k' wd' n' =>
        simp only [leSV] at h
        obtain ⟨h, _⟩ := bif_true h
        simp only [Bool.and_eq_true] at h
        obtain ⟨h1, h2, h3, h4⟩ := h
        have := eqN_eq h4
        subst this
        simp only [SVRel] at hv ⊢
        obtain ⟨o, ho, hone, hv⟩ := hv
        obtain ⟨o', ho', hd⟩ := leE_ren h1 (renIs_iff.1 h2) ho
        exact ⟨o', ho', hone, fun hdd => by rw [hd hdd]; exact hv (by rw [← hd hdd]; exact hdd)⟩
      | _ => simp only [leSV] at h
  | .loc k off, s', v, h, hv => by
      cases s' with
      | loc k' off' =>
        simp only [leSV] at h
        obtain ⟨h, _⟩ := bif_true h
        simp only [Bool.and_eq_true] at h
        obtain ⟨h1, h2, h3⟩ := h
        have := eqN_eq h3
        subst this
        simp only [SVRel] at hv ⊢
        obtain ⟨o, ho, hone, hv⟩ := hv
        obtain ⟨o', ho', hd⟩ := leE_ren h1 (renIs_iff.1 h2) ho
        exact ⟨o', ho', hone, fun hdd => by rw [hd hdd]; exact hv (by rw [← hd hdd]; exact hdd)⟩
      | _ => simp only [leSV] at h
  | .op _ _ _ _, s', _, h, _ => by cases s' <;> simp only [leSV] at h
  | .ep _ _ _ _, s', _, h, _ => by cases s' <;> simp only [leSV] at h
  | .agg cs, s', v, h, hv => by
      cases s' <;> simp only [leSV] at h
      simp only [SVRel] at hv ⊢
      obtain ⟨vs, rfl, hv⟩ := hv
      exact ⟨vs, rfl, leSVs_rel H cs _ vs h hv⟩
  | .tup cs, s', v, h, hv => by
      cases s' <;> simp only [leSV] at h
      simp only [SVRel] at hv ⊢
      obtain ⟨vs, rfl, hv⟩ := hv
      exact ⟨vs, rfl, leSVs_rel H cs _ vs h hv⟩
  | .fn f cs, s', v, h, hv => by
      cases s' <;> simp only [leSV] at h
      have hf := (bif_true h).1
      replace h := (bif_true h).2
      have := eqN_eq hf
      subst this
      simp only [SVRel] at hv ⊢
      obtain ⟨vs, rfl, hv⟩ := hv
      exact ⟨vs, rfl, leSVs_rel H cs _ vs h hv⟩
theorem leSVs_rel (H : Holds dl η G N get ob a w) {ρ : List (Nat × Option Nat)} {frz : List Nat} {objs : Objs} : ∀ (s s' : List SV) (v : List Value), leSVs ρ (namesOf objs) frz ob s s' → SVRels η G w s' v →
    SVRels (leE η ρ objs) (inG η G frz) w s v
  | [], [], [], _, _ => by simp [SVRels]
  | [], [], _ :: _, _, h => by simp [SVRels] at h
  | [], _ :: _, _, h, _ => by simp only [leSVs] at h
  | _ :: _, [], _, h, _ => by simp only [leSVs] at h
  | _ :: _, _ :: _, [], _, h => by simp [SVRels] at h
  | c :: cs, c' :: cs', v :: vs, h, hv => by
      simp only [leSVs] at h
      simp only [SVRels] at hv ⊢
      exact ⟨leSV_rel H c c' v h.1 hv.1, leSVs_rel H cs cs' vs h.2 hv.2⟩
end

theorem leObj_rel (H : Holds dl η G N get ob a w) {ρ : List (Nat × Option Nat)} {frz : List Nat} {objs : Objs} {x y : TObj} {o : OInfo} (hx : x ≠ .dead) (h : leObj ρ (namesOf objs) frz ob x y) (hv : ObjRel η G w y o) :
    ObjRel (leE η ρ objs) (inG η G frz) w x o := by
  cases x with
  | dead => exact absurd rfl hx
  | cells T cs =>
    cases y <;> simp only [leObj] at h
    have hT := (bif_true h).1
    replace h := (bif_true h).2
    have := eqN_eq hT
    subst this
    simp only [ObjRel] at hv ⊢
    obtain ⟨h1, h2, b, vs, h3, h4, h5⟩ := hv
    exact ⟨h1, h2, b, vs, h3, h4, leSVs_rel H cs _ vs h h5⟩
  | barr T bs =>
    cases y <;> simp only [leObj] at h
    have hT := (bif_true h).1
    replace h := (bif_true h).2
    have := eqN_eq hT
    subst this
    simp only [ObjRel] at hv ⊢
    rw [← h.h]; exact hv
  | arrS T wd n row =>
    cases y <;> simp only [leObj] at h
    have hw := (bif_true h).1
    replace h := (bif_true h).2
    simp only [Bool.and_eq_true] at hw
    have := eqN_eq hw.1
    subst this
    have := eqN_eq hw.2
    subst this
    obtain ⟨e1, e2⟩ := h.h
    simp only [ObjRel] at hv ⊢
    obtain ⟨h1, h2, h3⟩ := hv
    refine ⟨h1, h2, ?_⟩
    rcases h3 with h | ⟨b, c, cs, T', r1, r2, r3, r4, r5, r6, r7⟩
    · rw [e1] at h; exact .inl h
    · rw [e1] at r1 r5
      refine .inr ⟨b, c, cs, T', r1, r2, r3, r4, r5, r6, fun i j hi hj => ?_⟩
      obtain ⟨u, hu, hd⟩ := r7 i j (by rw [e1]; exact hi) hj
      exact ⟨u, hu, by rw [← e2 i hi j hj]; exact DVRel.mono (fun b hb => .inl hb) (fun _ _ => rfl) _ _ hd⟩
  | arrD T wd n row =>
    cases y <;> simp only [leObj] at h
    have hw := (bif_true h).1
    replace h := (bif_true h).2
    simp only [Bool.and_eq_true] at hw
    have := eqN_eq hw.1
    subst this
    have := eqN_eq hw.2
    subst this
    obtain ⟨e1, e2⟩ := h.h
    simp only [ObjRel] at hv ⊢
    obtain ⟨h1, hty, Bs, h2, h2', h3⟩ := hv
    refine ⟨h1, hty, Bs, fun i j b hi hj hb => h2 i j b (by rw [e1]; exact hi) hj hb, by rw [← e1]; exact h2', ?_⟩
    rcases h3 with h | ⟨b, c, cs, T', r1, r2, r3, r4, r5, r6, r7⟩
    · rw [e1] at h; exact .inl h
    · rw [e1] at r1 r5
      refine .inr ⟨b, c, cs, T', r1, r2, r3, r4, r5, r6, fun i j hi hj => ?_⟩
      obtain ⟨u, hu, hd⟩ := r7 i j (by rw [e1]; exact hi) hj
      exact ⟨u, hu, by rw [← e2 i hi j hj]; exact hd⟩
  | setI k ks =>
    cases y <;> simp only [leObj] at h
    have hk := (bif_true h).1
    replace h := (bif_true h).2
    have := ikeq_eq hk
    subst this
    simp only [ObjRel] at hv ⊢
    rw [← h.h]; exact hv
  | cust d Φ =>
    cases y <;> simp only [leObj] at h
    obtain ⟨rfl, hΦ⟩ := h.h
    simp only [ObjRel] at hv ⊢
    obtain ⟨h1, h2, h3⟩ := hv
    exact ⟨h1, h2, fun w' hw' => ⟨hΦ _ _ _ (h3 w' hw').1, (h3 w' hw').2⟩⟩
  | kn d Φ =>
    cases y <;> simp only [leObj] at h
    obtain ⟨rfl, hΦ⟩ := h.h
    simp only [ObjRel] at hv ⊢
    obtain ⟨h1, h3⟩ := hv
    exact ⟨h1, fun w' hw' => ⟨hΦ _ _ _ (h3 w' hw').1, (h3 w' hw').2⟩⟩

theorem emptyObj_rel {x : TObj} (h : emptyObj x) (η : OEnv) (G : Nat → Prop) (w : World) : ObjRel η G w x (nilInfo false) := by
  cases x <;> simp only [emptyObj] at h
  case barr T bs => exact ⟨rfl, rfl, .inl ⟨rfl, by rw [h.h]; rfl, rfl⟩⟩
  case arrS T wd n row => exact ⟨rfl, rfl, .inl ⟨rfl, h.h, rfl⟩⟩
  case arrD T wd n row =>
    have hn := h.h
    refine ⟨rfl, fun _ b hb => (by cases hb), fun _ _ => [], fun i j b hi => ?_, ?_, .inl ⟨rfl, hn, rfl⟩⟩
    · rw [hn] at hi; omega
    · rw [hn]; simp

theorem leObjs_at {ρ : List (Nat × Option Nat)} {nm frz : List Nat} : ∀ {objs : Objs} {k : Nat} {x : TObj}, leObjs ρ nm frz ob objs → lookN k objs = some x →
    (renN ρ k = none ∧ emptyObj x) ∨ ∃ j y, renN ρ k = some j ∧ ob j = some y ∧ leObj ρ nm frz ob x y
  | [], k, x, _, h => by simp [lookN] at h
  | (k', x') :: r, k, x, h, hl => by
      simp only [leObjs] at h
      simp only [lookN] at hl
      cases hb : eqN k' k with
      | true =>
        rw [hb] at hl
        simp only [cond_true, Option.some.injEq] at hl
        have := eqN_eq hb
        subst this; subst hl
        have h := h.1
        split at h
        · rename_i hr; exact .inl ⟨hr, h⟩
        · rename_i j hr
          split at h
          · rename_i y hy; exact .inr ⟨j, y, hr, hy, h⟩
          · exact h.elim
      | false => rw [hb] at hl; exact leObjs_at h.2 hl

theorem isDead_iff {x : TObj} : isDead x = true ↔ x = .dead := by cases x <;> simp [isDead]

theorem image_mem {ρ : List (Nat × Option Nat)} : ∀ {objs : Objs} {k j : Nat} {x : TObj}, (k, x) ∈ objs → x ≠ .dead → renN ρ k = some j → j ∈ images ρ objs
  | [], _, _, _, h, _, _ => by cases h
  | (k', x') :: r, k, j, x, h, hx, hr => by
      simp only [images]
      rcases List.mem_cons.1 h with e | h
      · cases e
        have : isDead x' = false := by
          cases hd : isDead x' with
          | true => exact absurd (isDead_iff.1 hd) hx
          | false => rfl
        rw [this, hr]; simp
      · have := image_mem h hx hr
        cases isDead x' with
        | true => exact this
        | false =>
          simp only [cond_false]
          split
          · exact List.mem_cons_of_mem _ this
          · exact this

theorem image_inj {ρ : List (Nat × Option Nat)} : ∀ {objs : Objs}, (images ρ objs).Nodup → ∀ {k k' j : Nat} {x x' : TObj}, (k, x) ∈ objs → x ≠ .dead → (k', x') ∈ objs → x' ≠ .dead → renN ρ k = some j → renN ρ k' = some j → k = k'
  | [], _, _, _, _, _, _, h, _, _, _, _, _ => by cases h
  | (k₀, x₀) :: r, hn, k, k', j, x, x', h, hx, h', hx', hr, hr' => by
      simp only [images] at hn
      have hdead : ∀ {y : TObj}, y ≠ .dead → isDead y = false := fun {y} hy => by
        cases hd : isDead y with
        | true => exact absurd (isDead_iff.1 hd) hy
        | false => rfl
      rcases List.mem_cons.1 h with e | h <;> rcases List.mem_cons.1 h' with e' | h'
      · cases e; cases e'; rfl
      · cases e
        rw [hdead hx, hr] at hn
        exact absurd (image_mem h' hx' hr') (List.nodup_cons.1 hn).1
      · cases e'
        rw [hdead hx', hr'] at hn
        exact absurd (image_mem h hx hr) (List.nodup_cons.1 hn).1
      · refine image_inj ?_ h hx h' hx' hr hr'
        cases hd : isDead x₀ with
        | true => rw [hd] at hn; exact hn
        | false =>
          rw [hd] at hn
          simp only [cond_false] at hn
          split at hn
          · exact (List.nodup_cons.1 hn).2
          · exact hn

/-- What a weakening keeps of the objects. -/
structure LeE (η : OEnv) (G : Nat → Prop) (η' : OEnv) (G' : Nat → Prop) : Prop where
  bor : ∀ k o, isBor k = true → η k = some o → ∃ o', η' k = some o' ∧ (o'.dead = false → o' = o)
  blk : ∀ k o', η' k = some o' → ∀ b ∈ o'.main ++ o'.inner, ∃ k₀ o₀, η k₀ = some o₀ ∧ b ∈ o₀.main ++ o₀.inner
  g : ∀ b, G b → G' b
  g' : ∀ b, G' b → G b ∨ ∃ k o, η k = some o ∧ b ∈ o.main ++ o.inner

theorem LeE.tab {η : OEnv} {G : Nat → Prop} {η' : OEnv} {G' : Nat → Prop} {w : World} (L : LeE η G η' G') (h : TabOk η w) : TabOk η' w :=
  ⟨h.sz, h.tp, fun k o hk b hb => by obtain ⟨k0, o0, h0, hb0⟩ := L.blk k o hk b hb; exact h.out k0 o0 h0 b hb0⟩

theorem borKept_spec {ρ : List (Nat × Option Nat)} {objs : Objs} : ∀ {old : Objs}, borKept ρ objs old = true → ∀ k x, (k, x) ∈ old → isBor k = true → renN ρ k = some k ∧ memN k (namesOf objs) = true
  | [], _, _, _, h, _ => by cases h
  | (k', x') :: r, h, k, x, hm, hb => by
      simp only [borKept, Bool.and_eq_true, Bool.or_eq_true, Bool.not_eq_true'] at h
      rcases List.mem_cons.1 hm with e | hm
      · cases e
        have := h.1.resolve_left (by rw [hb]; simp)
        exact ⟨renIs_iff.1 this.1, this.2⟩
      · exact borKept_spec h.2 k x hm hb

theorem le_state {st : St} (H : Holds dl η G st.tmps.length (getT st) (getO st) a w) {ρ : List (Nat × Option Nat)} {frz : List Nat} {objs : Objs}
    (ho : leObjs ρ (namesOf objs) frz (getO st) objs) (hn : leNames ρ frz objs st.objs = true) :
    (∀ k, ObjOpt (leE η ρ objs) (inG η G frz) w (lookN k objs) (leE η ρ objs k)) ∧ Sep (leE η ρ objs) (inG η G frz) w ∧ LeE η G (leE η ρ objs) (inG η G frz) := by
  simp only [leNames, Bool.and_eq_true] at hn
  obtain ⟨hn1, hn2, hn3, hn4, hn5⟩ := hn
  have hn2 := nodupB_iff hn2
  have hblk : ∀ k o', leE η ρ objs k = some o' → ∀ b ∈ o'.main ++ o'.inner, ∃ j, renN ρ k = some j ∧ η j = some o' ∧ ∃ x, (k, x) ∈ objs ∧ x ≠ .dead := by
    intro k o' hk b hb
    obtain ⟨x, hx, h⟩ := leE_cases hk
    rcases h with ⟨_, rfl⟩ | ⟨_, _, rfl⟩ | ⟨hnd, j, h1, h2⟩
    · simp [nilInfo] at hb
    · simp [nilInfo] at hb
    · exact ⟨j, h1, h2, x, lookN_mem hx, hnd⟩
  refine ⟨fun k => ?_, ⟨?_, ?_, ?_, ?_⟩, ⟨?_, ?_, ?_, ?_⟩⟩
  · cases hk : leE η ρ objs k with
    | none =>
      unfold leE at hk
      cases hl : lookN k objs with
      | none => trivial
      | some x =>
        exfalso
        rw [hl] at hk
        by_cases hx : x = .dead
        · subst hx; simp at hk
        · rcases leObjs_at ho hl with ⟨h1, _⟩ | ⟨j, y, h1, h2, _⟩
          · cases x <;> simp [h1] at hk
          · obtain ⟨o, hj, _⟩ := obj_of H h2
            cases x <;> simp [h1, hj] at hk
    | some o =>
      obtain ⟨x, hx, h⟩ := leE_cases hk
      rw [hx]
      rcases h with ⟨rfl, rfl⟩ | ⟨hd, hr, rfl⟩ | ⟨hd, j, hr, hj⟩
      · exact ⟨rfl, rfl, rfl⟩
      · rcases leObjs_at ho hx with ⟨_, h⟩ | ⟨j, y, h1, _⟩
        · exact emptyObj_rel h _ _ _
        · rw [hr] at h1; cases h1
      · rcases leObjs_at ho hx with ⟨h1, _⟩ | ⟨j', y, h1, h2, h3⟩
        · rw [hr] at h1; cases h1
        · rw [hr] at h1; cases h1
          obtain ⟨o', ho', hrel⟩ := obj_of H h2
          rw [hj] at ho'; cases ho'
          exact leObj_rel H hd h3 hrel
  · intro k o hk b hb
    obtain ⟨j, h1, h2, x, hx, hnd⟩ := hblk k o hk b hb
    refine ⟨(H.sp.lt j o h2 b hb).1, ?_⟩
    rintro (hg | ⟨f, hf, o', ho', hb'⟩)
    · exact (H.sp.lt j o h2 b hb).2 hg
    · exact H.sp.dj j o f o' h2 ho' (fun e => apartB_spec hn3 f hf (e ▸ image_mem hx hnd h1)) b hb hb'
  · intro k o k' o' hk hk' hne b hb hb'
    obtain ⟨j, h1, h2, x, hx, hnd⟩ := hblk k o hk b hb
    obtain ⟨j', h1', h2', x', hx', hnd'⟩ := hblk k' o' hk' b hb'
    exact H.sp.dj j o j' o' h2 h2' (fun e => hne (image_inj hn2 hx hnd hx' hnd' h1 (e ▸ h1'))) b hb hb'
  · intro k o hk b hb
    obtain ⟨j, h1, h2, x, hx, hnd⟩ := hblk k o hk b (by simp [hb])
    exact H.sp.mi j o h2 b hb
  · rintro b (hg | ⟨f, hf, o', ho', hb'⟩)
    · exact H.sp.glt b hg
    · exact (H.sp.lt f o' ho' b hb').1
  · intro k o hb hk
    have := H.ob k
    rw [hk] at this
    cases hx : getO st k with
    | none => rw [hx] at this; exact this.elim
    | some x =>
      obtain ⟨h1, h2⟩ := borKept_spec hn4 k x (lookN_mem hx) hb
      exact leE_ren h2 h1 hk
  · intro k o hk b hb
    obtain ⟨j, h1, h2, x, hx, hnd⟩ := hblk k o hk b hb
    exact ⟨j, o, h2, hb⟩
  · exact fun b hb => .inl hb
  · rintro b (hg | ⟨f, hf, o', ho', hb'⟩)
    · exact .inl hg
    · exact .inr ⟨f, o', ho', hb'⟩

theorem Evol.le {η₀ η η' : OEnv} {G₀ G G' : Nat → Prop} {w₀ w : World} (hb : ∀ k o, η₀ k = some o → isBor k = true) (e : Evol η₀ G₀ w₀ η G w) (l : LeE η G η' G') : Evol η₀ G₀ w₀ η' G' w := by
  refine ⟨e.os, e.tape, e.out, e.size, e.keep, ?_, fun b h => l.g b (e.g b h), ?_, ?_⟩
  · intro k o ho
    obtain ⟨o', ho', h⟩ := e.obj k o ho
    obtain ⟨o'', ho'', h'⟩ := l.bor k o' (hb k o ho) ho'
    exact ⟨o'', ho'', fun hd => (by have e := h' hd; subst e; exact h hd)⟩
  · intro b h
    rcases l.g' b h with h | ⟨k, o, ho, hm⟩
    · exact e.g' b h
    · rcases e.blk k o ho b hm with h | h
      · exact .inr (.inl h)
      · exact .inr (.inr h)
  · intro k o ho b hm
    obtain ⟨k₀, o₀, h₀, hm₀⟩ := l.blk k o ho b hm
    exact e.blk k₀ o₀ h₀ b hm₀
end
end Go.SX

/- SX: loops, ends, and the soundness of 'vc'. -/
namespace Go.SX

section
variable {P : Program} {E : Env} {S : SP} {η : OEnv} {G : Nat → Prop} {N : Nat} {dl : List Deferred} {get : Nat → SV} {ob : Nat → Option TObj} {a : Act} {w : World}

mutual
theorem names_rel {η' : OEnv} {G' : Nat → Prop} {l : List Nat} (hη : ∀ k ∈ l, ∀ o, η k = some o → ∃ o', η' k = some o' ∧ (o'.dead = false → o' = o)) (hG : ∀ b, G b → G' b) :
    ∀ (s : SV) (v : Value), namesOnly l s = true → SVRel η G w s v → SVRel η' G' w s v
  | .any, _, _, _ => by simp [SVRel]
  | .nil, _, _, h => by simpa [SVRel] using h
  | .int _ _, _, _, h => by simpa [SVRel] using h
  | .bool _, _, _, h => by simpa [SVRel] using h
  | .str _, _, _, h => by simpa [SVRel] using h
  | .val _, _, _, h => by simpa [SVRel] using h
  | .rv _ _, _, _, h => by simpa [SVRel] using h
  | .dat d, v, _, h => by
      simp only [SVRel] at h ⊢
      exact DVRel.mono hG (fun _ _ => rfl) d v h
  | .nn d, v, _, h => by
      simp only [SVRel] at h ⊢
      exact ⟨DVRel.mono hG (fun _ _ => rfl) d v h.1, h.2⟩
  | .ifc T d, v, _, h => by
      simp only [SVRel] at h ⊢
      obtain ⟨u, hu, h⟩ := h
      exact ⟨u, hu, DVRel.mono hG (fun _ _ => rfl) d u h⟩
  | .view k d, v, hn, h => by
      simp only [SVRel] at h ⊢
      obtain ⟨o, ho, h1c, h⟩ := h
      obtain ⟨o', ho', h'⟩ := hη k (memN_iff.1 hn) o ho
      exact ⟨o', ho', h1c, fun hd => by have e := h' hd; subst e; exact h hd⟩
  | .own k, v, hn, h => by
      simp only [SVRel] at h ⊢
      obtain ⟨o, ho, h1c, h⟩ := h
      obtain ⟨o', ho', h'⟩ := hη k (memN_iff.1 hn) o ho
      exact ⟨o', ho', h1c, fun hd => by have e := h' hd; subst e; exact h hd⟩
  | .csl k _ n, v, hn, h => by
      simp only [SVRel] at h ⊢
      obtain ⟨o, ho, h1c, h⟩ := h
      obtain ⟨o', ho', h'⟩ := hη k (memN_iff.1 hn) o ho
      exact ⟨o', ho', h1c, fun hd => by have e := h' hd; subst e; exact h hd⟩
  | .loc k off, v, hn, h => by
      simp only [SVRel] at h ⊢
      obtain ⟨o, ho, h1c, h⟩ := h
      obtain ⟨o', ho', h'⟩ := hη k (memN_iff.1 hn) o ho
      exact ⟨o', ho', h1c, fun hd => by have e := h' hd; subst e; exact h hd⟩
  | .op k wd i off, v, hn, h => by
      simp only [SVRel] at h ⊢
      obtain ⟨o, ho, h1c, h⟩ := h
      obtain ⟨o', ho', h'⟩ := hη k (memN_iff.1 hn) o ho
      exact ⟨o', ho', h1c, fun hd => by have e := h' hd; subst e; exact h hd⟩
  | .ep none wd cells off, v, _, h => by
      simp only [SVRel] at h ⊢
      obtain ⟨b, o, hv, hb, h⟩ := h
      refine ⟨b, o, hv, hG b hb, fun j hj => ?_⟩
      obtain ⟨u, hu, hd⟩ := h j hj
      exact ⟨u, hu, DVRel.mono hG (fun _ _ => rfl) _ _ hd⟩
  | .ep (some k) wd cells off, v, hn, h => by
      simp only [SVRel] at h ⊢
      obtain ⟨o, ho, h1c, h⟩ := h
      obtain ⟨o', ho', h'⟩ := hη k (memN_iff.1 hn) o ho
      exact ⟨o', ho', h1c, fun hd => by have e := h' hd; subst e; exact h hd⟩
  | .agg cs, v, hn, h => by
      simp only [SVRel] at h ⊢
      obtain ⟨vs, hv, h⟩ := h
      exact ⟨vs, hv, namess_rel hη hG cs vs hn h⟩
  | .tup cs, v, hn, h => by
      simp only [SVRel] at h ⊢
      obtain ⟨vs, hv, h⟩ := h
      exact ⟨vs, hv, namess_rel hη hG cs vs hn h⟩
  | .fn f cs, v, hn, h => by
      simp only [SVRel] at h ⊢
      obtain ⟨vs, hv, h⟩ := h
      exact ⟨vs, hv, namess_rel hη hG cs vs hn h⟩
theorem namess_rel {η' : OEnv} {G' : Nat → Prop} {l : List Nat} (hη : ∀ k ∈ l, ∀ o, η k = some o → ∃ o', η' k = some o' ∧ (o'.dead = false → o' = o)) (hG : ∀ b, G b → G' b) :
    ∀ (s : List SV) (v : List Value), namesOnlys l s = true → SVRels η G w s v → SVRels η' G' w s v
  | [], [], _, _ => by simp [SVRels]
  | [], _ :: _, _, h => by simp [SVRels] at h
  | _ :: _, [], _, h => by simp [SVRels] at h
  | c :: cs, v :: vs, hn, h => by
      simp only [namesOnlys, Bool.and_eq_true] at hn
      simp only [SVRels] at h ⊢
      exact ⟨names_rel hη hG c v hn.1 h.1, namess_rel hη hG cs vs hn.2 h.2⟩
end

theorem keepT_length (W l : List Nat) : ∀ (i : Nat) (ts : List SV), (keepT W l i ts).length = ts.length
  | _, [] => rfl
  | i, _ :: r => by simp [keepT, keepT_length W l (i + 1) r]

theorem keepT_at (W l : List Nat) : ∀ (i : Nat) (ts : List SV) (t : Nat), nthD (keepT W l i ts) t .any = .any ∨ (nthD (keepT W l i ts) t .any = nthD ts t .any ∧ namesOnly l (nthD ts t .any) = true)
  | _, [], _ => .inl (by simp [keepT, nthD])
  | i, s :: r, 0 => by
      simp only [keepT, keep1_eq, nthD]
      cases memN i W <;> cases h : namesOnly l s <;> simp [h]
  | i, s :: r, t + 1 => by
      simpa only [keepT, keep1_eq, nthD] using keepT_at W l (i + 1) r t

theorem putAll_length : ∀ (upd : List (Nat × SV)) (ts : List SV), (putAll ts upd).length = ts.length
  | [], _ => rfl
  | (k, s) :: r, ts => by rw [putAll, putAll_length r, putL_length]

theorem putAll_at : ∀ (upd : List (Nat × SV)) (ts : List SV) (t : Nat), nthD (putAll ts upd) t .any = nthD ts t .any ∨ ∃ s, (t, s) ∈ upd ∧ nthD (putAll ts upd) t .any = s
  | [], _, _ => .inl rfl
  | (k, s) :: r, ts, t => by
      rw [putAll]
      rcases putAll_at r (putL ts k s) t with h | ⟨s', hm, h⟩
      · rw [h, nthD_putL]
        split
        · rename_i hk; exact .inr ⟨s, by rw [hk.1]; simp, rfl⟩
        · exact .inl rfl
      · exact .inr ⟨s', List.mem_cons_of_mem _ hm, h⟩

theorem leSlots_at {ρ : List (Nat × Option Nat)} {nm : List Nat} {ts : List SV} : ∀ {upd : List (Nat × SV)} {t : Nat} {s : SV}, leSlots ρ nm ts ob upd → (t, s) ∈ upd → leSV ρ nm [] ob s (nthD ts t .any)
  | [], _, _, _, h => by cases h
  | (k, s') :: r, t, s, h, hm => by
      simp only [leSlots] at h
      rcases List.mem_cons.1 hm with e | hm
      · cases e; exact h.1
      · exact leSlots_at h.2 hm

theorem renOnly_spec {lp : List Nat} : ∀ {ρ : List (Nat × Option Nat)} {k : Nat}, renOnly lp ρ = true → k ∉ lp → renN ρ k = some k
  | [], k, _, _ => rfl
  | (j, x) :: r, k, h, hk => by
      simp only [renOnly, Bool.and_eq_true] at h
      have hne : eqN j k = false := by
        cases hb : eqN j k with
        | true => exact absurd (eqN_eq hb ▸ memN_iff.1 h.1) hk
        | false => rfl
      have := renOnly_spec (ρ := r) h.2 hk
      unfold renN at this ⊢
      simp only [lookN, hne, cond_false]
      exact this

/-- A state of a function, seen from its start. -/
structure Here (dl : List Deferred) (η₀ : OEnv) (G₀ : Nat → Prop) (w₀ : World) (N : Nat) (st : St) (a : Act) (w : World) : Prop where
  len : st.tmps.length = N
  h : ∃ η G, Holds dl η G st.tmps.length (getT st) (getO st) a w ∧ Evol η₀ G₀ w₀ η G w

theorem here_le {η₀ : OEnv} {G₀ : Nat → Prop} {w₀ : World} (hb : ∀ k o, η₀ k = some o → isBor k = true) {st : St} (h : Here dl η₀ G₀ w₀ N st a w) {W lp : List Nat} {ρ : List (Nat × Option Nat)} {upd : List (Nat × SV)} {objs : Objs}
    (hl : LeL W lp ρ st upd objs) : Here dl η₀ G₀ w₀ N (mkInv W lp st.tmps upd objs) a w := by
  obtain ⟨hlen, η, G, H, hev⟩ := h
  obtain ⟨hs, ho, hh⟩ := hl.h
  have hh := hh.h
  simp only [Bool.and_eq_true] at hh
  obtain ⟨hn, hr⟩ := hh
  obtain ⟨h1, h2, h3⟩ := le_state H ho hn
  refine ⟨by simp [mkInv, putAll_length, keepT_length, hlen], leE η ρ objs, inG η G [], ⟨?_, H.df, ?_, h1, h2, h3.tab H.tb⟩, hev.le hb h3⟩
  · simp only [mkInv, putAll_length, keepT_length]; exact H.sz
  · intro t
    simp only [getT, mkInv]
    rcases putAll_at upd (keepT W (minusN (namesOf objs) lp) 0 st.tmps) t with h | ⟨s, hm, h⟩
    · rw [h]
      rcases keepT_at W (minusN (namesOf objs) lp) 0 st.tmps t with h | ⟨h, hno⟩
      · rw [h]; simp [SVRel]
      · rw [h]
        refine names_rel ?_ h3.g _ _ hno (H.tm t)
        intro k hk o hko
        simp only [minusN, List.mem_filter, Bool.not_eq_true', memN_false] at hk
        exact leE_ren (memN_iff.2 hk.1) (renOnly_spec hr hk.2) hko
    · rw [h]
      exact leSV_rel H s _ _ (leSlots_at hs hm) (H.tm t)

theorem nthD_ext : ∀ {ts ts' : List SV}, ts.length = ts'.length → (∀ t, nthD ts t .any = nthD ts' t .any) → ts = ts'
  | [], [], _, _ => rfl
  | [], _ :: _, h, _ => by simp at h
  | _ :: _, [], h, _ => by simp at h
  | x :: r, y :: r', h, he => by
      have h0 := he 0
      simp only [nthD] at h0
      rw [h0, nthD_ext (ts := r) (ts' := r') (by simpa using h) fun t => by have := he (t + 1); simpa only [nthD] using this]

theorem putAll_ext : ∀ (upd : List (Nat × SV)) {ts ts' : List SV}, ts.length = ts'.length → (∀ t, t ∉ keysOf upd → nthD ts t .any = nthD ts' t .any) → putAll ts upd = putAll ts' upd
  | [], ts, ts', hl, h => nthD_ext hl fun t => h t (by simp [keysOf])
  | (k, s) :: r, ts, ts', hl, h => by
      rw [putAll, putAll]
      refine putAll_ext r (by rw [putL_length, putL_length, hl]) fun t ht => ?_
      rw [nthD_putL, nthD_putL, hl]
      split
      · rfl
      · rename_i hk
        by_cases hkt : t = k
        · have hlt : ¬ k < ts'.length := fun hlt => hk ⟨hkt, by omega⟩
          have e1 : ∀ (l : List SV) (i : Nat), ¬ i < l.length → nthD l i .any = .any := by
            intro l
            induction l with
            | nil => intro i _; rfl
            | cons x l ih => intro i hi; cases i with
              | zero => simp at hi
              | succ i => simp only [nthD]; exact ih i (by simpa using hi)
          rw [hkt, e1 ts k (by omega), e1 ts' k hlt]
        · exact h t (by simp [keysOf, hkt, ht])

theorem keepT_nth (W l : List Nat) : ∀ (i : Nat) (ts : List SV) (t : Nat), nthD (keepT W l i ts) t .any = bif memN (i + t) W then .any else bif namesOnly l (nthD ts t .any) then nthD ts t .any else .any
  | i, [], t => by simp only [keepT, nthD]; cases memN (i + t) W <;> simp [namesOnly]
  | i, s :: r, 0 => by simp only [keepT, keep1_eq, nthD, Nat.add_zero]
  | i, s :: r, t + 1 => by
      simp only [keepT, keep1_eq, nthD]
      rw [keepT_nth W l (i + 1) r t, show i + 1 + t = i + (t + 1) by omega]

theorem keep_eq {W lp : List Nat} {ts ts' : List SV} {upd : List (Nat × SV)} {objs : Objs} (h : keepT (keysOf upd ++ W) (minusN (namesOf objs) lp) 0 ts' = keepT (keysOf upd ++ W) (minusN (namesOf objs) lp) 0 ts) : mkInv W lp ts' upd objs = mkInv W lp ts upd objs := by
  have key : ∀ ts : List SV, putAll (keepT W (minusN (namesOf objs) lp) 0 ts) upd = putAll (keepT (keysOf upd ++ W) (minusN (namesOf objs) lp) 0 ts) upd := fun ts => putAll_ext upd (by rw [keepT_length, keepT_length]) fun t ht => by
    rw [keepT_nth, keepT_nth]
    have : memN (0 + t) (keysOf upd ++ W) = memN (0 + t) W := by
      have : ∀ l : List Nat, 0 + t ∉ l → memN (0 + t) (l ++ W) = memN (0 + t) W := by
        intro l
        induction l with
        | nil => intro _; rfl
        | cons x l ih =>
          intro hx
          simp only [List.mem_cons, not_or] at hx
          have : eqN x (0 + t) = false := by
            cases hb : eqN x (0 + t) with
            | true => exact absurd (eqN_eq hb).symm hx.1
            | false => rfl
          simp only [List.cons_append, memN, this, cond_false]
          exact ih hx.2
      exact this _ (by simpa using ht)
    rw [this]
  simp only [mkInv, key, h]

/-- What is gone on with at an exit. -/
def Goes (dl : List Deferred) (η₀ : OEnv) (G₀ : Nat → Prop) (w₀ : World) (N : Nat) (K : Exit → St → Prop) (Q : Exit → Act → World → Prop) : Prop := ∀ ex st a w, K ex st → Here dl η₀ G₀ w₀ N st a w → Q ex a w

def borNames : Objs → Bool
  | [] => true
  | (k, _) :: r => isBor k && borNames r

theorem borNames_spec : ∀ {objs : Objs} {k : Nat} {x : TObj}, borNames objs = true → (k, x) ∈ objs → isBor k = true
  | [], _, _, _, h => by cases h
  | (j, y) :: r, k, x, h, hm => by
      simp only [borNames, Bool.and_eq_true] at h
      rcases List.mem_cons.1 hm with e | hm
      · cases e; exact h.1
      · exact borNames_spec h.2 hm

theorem vc_soundIn (hE : EOk P E) (hR : ∀ f svs objs X r objs', E.raw f svs objs X r objs' → SpecG P f svs objs X r objs') (hmix : P.follows .mixedOrders = true) (hS : ∀ f svs objs r objs', S f svs objs r objs' → SpecX P f svs objs r objs')
    {η₀ : OEnv} {G₀ : Nat → Prop} {w₀ : World} (hb : ∀ k o, η₀ k = some o → isBor k = true) {ro : Option Nat} {nn : Nat} : ∀ (c : Code) (st : St) (K : Exit → St → Prop) (Q : Exit → Act → World → Prop) (a : Act) (w : World),
      vc S E c st K → Here dl η₀ G₀ w₀ N st a w → Goes dl η₀ G₀ w₀ N K Q → c.wpIn (fen ro) nn P Q a w
  | .skip, st, K, Q, a, w, h, hh, hg => wpIn_skip (hg _ _ _ _ (by simpa only [vc] using h) hh)
  | .region id ops draw, st, K, Q, a, w, h, hh, hg => by
      obtain ⟨hlen, η, G, H, hev⟩ := hh
      simp only [vc] at h
      exact region_sound hE hmix hS hR (K := K .normal) (KP := K (.panic panCh)) (draw := draw) (by cases draw <;> exact h) H (fun st' η' G' a' w' hK hl' H' hev' => hg _ _ _ _ hK ⟨by omega, η', G', H', hev.trans hev'⟩) fun st' η' G' a' w' hK hl' H' hev' => hg _ _ _ _ hK ⟨by omega, η', G', H', hev.trans hev'⟩
  | .seq x y, st, K, Q, a, w, h, hh, hg => by
      simp only [vc] at h
      refine wpIn_seq (vc_soundIn hE hR hmix hS hb x st _ _ a w h hh ?_)
      intro ex st' a' w' hk hh'
      cases ex <;> simp only [Exit.then, seqK] at hk ⊢
      case normal => exact vc_soundIn hE hR hmix hS hb y st' K Q a' w' hk hh' hg
      all_goals exact hg _ _ _ _ hk hh'
  | .cond c x y, st, K, Q, a, w, h, hh, hg => by
      simp only [vc] at h
      obtain ⟨hlen, η, G, H, hev⟩ := id hh
      have hr := opnd_rel H c
      split at h
      · rename_i hc; rw [hc] at hr
        exact wpIn_cond_true (by simpa [SVRel, BE.den] using hr) (vc_soundIn hE hR hmix hS hb x st K Q a w h hh hg)
      · rename_i hc; rw [hc] at hr
        exact wpIn_cond_false (by simpa [SVRel, BE.den] using hr) (vc_soundIn hE hR hmix hS hb y st K Q a w h hh hg)
      · rename_i b hc; rw [hc] at hr
        refine wpIn_cond_split (t := b ()) (by simpa [SVRel, BE.den] using hr) (fun e => ?_) (fun e => ?_)
        · exact vc_soundIn hE hR hmix hS hb x st K Q a w (h.1 e) hh hg
        · exact vc_soundIn hE hR hmix hS hb y st K Q a w (h.2 e) hh hg
      · exact h.elim
  | .block id x, st, K, Q, a, w, h, hh, hg => by
      simp only [vc] at h
      refine wpIn_block (vc_soundIn hE hR hmix hS hb x st _ _ a w h hh ?_)
      intro ex st' a' w' hk hh'
      cases ex <;> simp only [Exit.inBlock, blockK] at hk ⊢
      case exit i =>
        cases hi : eqN i id with
        | true =>
          rw [hi] at hk
          rw [if_pos (eqN_eq hi)]
          exact hg _ _ _ _ hk hh'
        | false =>
          rw [hi] at hk
          rw [if_neg (eqN_ne hi)]
          exact hg _ _ _ _ hk hh'
      all_goals exact hg _ _ _ _ hk hh'
  | .loop x, st, K, Q, a, w, h, hh, hg => by
      simp only [vc] at h
      obtain ⟨α, lp, upd, objs, I, m, x₀, ρ₀, hI, hl, hround⟩ := h.h
      refine wpIn_loop_ghost (fun n a w => ∃ y, m y = n ∧ I y ∧ Here dl η₀ G₀ w₀ N (mkInv (writes x) lp st.tmps (upd y) (objs y)) a w) (m x₀) ⟨x₀, rfl, hI, here_le hb hh hl⟩ ?_
      rintro n a w ⟨y, rfl, hIy, hhy⟩
      refine vc_soundIn hE hR hmix hS hb x _ _ _ a w (hround y hIy) hhy ?_
      intro ex st' a' w' hk hh'
      cases ex <;> simp only [Exit.then, loopK] at hk ⊢
      case normal =>
        obtain ⟨x', ρ, hI', hm, hkeep, hl'⟩ := hk
        refine ⟨m x', hm, x', rfl, hI', ?_⟩
        rw [← keep_eq hkeep.h]
        exact here_le hb hh' hl'
      all_goals exact hg _ _ _ _ hk hh'
  | .exit id, st, K, Q, a, w, h, hh, hg => wpIn_exit (hg _ _ _ _ (by simpa only [vc] using h) hh)
  | .ret, st, K, Q, a, w, h, hh, hg => wpIn_ret (hg _ _ _ _ (by simpa only [vc] using h) hh)
  | .goto l, st, K, Q, a, w, h, hh, hg => wpIn_goto (hg _ _ _ _ (by simpa only [vc] using h) hh)
  | .label l, st, K, Q, a, w, h, hh, hg => wpIn_label (hg _ _ _ _ (by simpa only [vc] using h) hh)
  | .scope _, _, _, _, _, _, h, _, _ => by simp [vc] at h
  | .refuse _, _, _, _, _, _, h, _, _ => by simp [vc] at h
  | .rangeFunc _ _ _ _, _, _, _, _, _, h, _, _ => by simp [vc] at h


theorem vc_sound (hE : EOk P E) (hR : ∀ f svs objs X r objs', E.raw f svs objs X r objs' → SpecG P f svs objs X r objs') (hmix : P.follows .mixedOrders = true) (hS : ∀ f svs objs r objs', S f svs objs r objs' → SpecX P f svs objs r objs')
    {η₀ : OEnv} {G₀ : Nat → Prop} {w₀ : World} (hb : ∀ k o, η₀ k = some o → isBor k = true) (c : Code) (st : St) (K : Exit → St → Prop) (Q : Exit → Act → World → Prop) (a : Act) (w : World)
    (h : vc S E c st K) (hh : Here dl η₀ G₀ w₀ N st a w) (hg : Goes dl η₀ G₀ w₀ N K Q) : c.wp P Q a w :=
  wpIn_wide.1 (vc_soundIn hE hR hmix hS hb (ro := none) (nn := 0) c st K Q a w h hh hg)

def resRun (tmps : Array Value) (rv : ResultVar) : Sem Value :=
  match rv with
  | .tmp t => pure (tmps.getD t undef)
  | .cell x t => do loadVar t (← asAddr (tmps.getD x undef))

theorem resSV_run (hE : EOk P E) {st : St} (H : Holds dl η G N (getT st) (getO st) a w) {rv : ResultVar} {s : SV} (h : resSV E st rv = some s) :
    ∃ v, (resRun a.tmps rv).run P w = .ok v w ∧ SVRel η G w s v := by
  cases rv with
  | tmp t =>
    simp only [resSV, Option.some.injEq] at h
    subst h
    exact ⟨_, rfl, H.tm t⟩
  | cell x T =>
    unfold resSV at h
    simp only at h
    split at h
    · rename_i ti k off hti hx
      split at h
      · rename_i T' cs hob
        have hp := H.tm x
        rw [hx] at hp
        have hlook : ∃ rd, evLoad (E.ti T) (getO st) (.loc k off) = .ok s [] rd .no := by
          simp only [evLoad, hti, hob]
          cases hag : ti.td.isAgg with
          | true =>
            rw [hag] at h
            simp only [cond_true] at h ⊢
            cases hle : leN (off + ti.size) cs.length with
            | true => rw [hle] at h; simp only [cond_true, Option.some.injEq] at h; subst h; exact ⟨_, rfl⟩
            | false => rw [hle] at h; cases h
          | false =>
            rw [hag] at h
            simp only [cond_false] at h ⊢
            cases hle : ltN off cs.length with
            | true => rw [hle] at h; simp only [cond_true, Option.some.injEq] at h; subst h; exact ⟨_, rfl⟩
            | false => rw [hle] at h; cases h
        obtain ⟨rd, hl⟩ := hlook
        obtain ⟨_, v, hrun, hv⟩ := sound_load hE H hp hl
        obtain ⟨o, hk, hr⟩ := obj_of H hob
        simp only [ObjRel] at hr
        simp only [SVRel] at hp
        obtain ⟨o', hk', _, hp⟩ := hp
        rw [hk] at hk'; cases hk'
        obtain ⟨b, _, hvp⟩ := hp hr.1
        refine ⟨v, ?_, hv⟩
        rw [hvp] at hrun
        simp only [resRun, hvp]
        simpa [Instr.loadAt, asAddr, Instr.sureAddr] using hrun
      · cases h
    · cases h

theorem resSVs_run (hE : EOk P E) {st : St} (H : Holds dl η G N (getT st) (getO st) a w) : ∀ {rs : List ResultVar} {ss : List SV}, resSVs E st rs = some ss →
    ∃ vs, (rs.mapM (resRun a.tmps)).run P w = .ok vs w ∧ SVRels η G w ss vs
  | [], ss, h => by
      simp only [resSVs, Option.some.injEq] at h
      subst h
      exact ⟨[], rfl, by simp [SVRels]⟩
  | r :: rs, ss, h => by
      simp only [resSVs] at h
      split at h
      · rename_i s ss' h1 h2
        cases h
        obtain ⟨v, hv, hr⟩ := resSV_run hE H h1
        obtain ⟨vs, hvs, hrs⟩ := resSVs_run hE H h2
        refine ⟨v :: vs, ?_, by simp only [SVRels]; exact ⟨hr, hrs⟩⟩
        rw [List.mapM_cons]
        rw [Sem.run_bind, hv]
        simp only [Result.andThen_ok]
        rw [Sem.run_bind, hvs]
        rfl
      · cases h

theorem oneOrTup_rel {ss : List SV} {vs : List Value} (h : SVRels η G w ss vs) : SVRel η G w (oneOrTup ss) (if h : vs.toArray.size = 1 then vs.toArray[0] else .tuple vs.toArray) := by
  match ss, vs, h with
  | [], [], _ => simp [oneOrTup, SVRel, SVRels]
  | [s], [v], h => simpa [oneOrTup, SVRels] using h
  | s :: s' :: ss, v :: v' :: vs, h =>
    simp only [oneOrTup, SVRel]
    refine ⟨v :: v' :: vs, ?_, h⟩
    simp
  | [], _ :: _, h => simp [SVRels] at h
  | [_], [], h => simp [SVRels] at h
  | [_], _ :: _ :: _, h => simp [SVRels] at h
  | _ :: _ :: _, [], h => simp [SVRels] at h
  | _ :: _ :: _, [_], h => simp [SVRels] at h

theorem ret_sound (hE : EOk P E) {η₀ : OEnv} {G₀ : Nat → Prop} {w₀ : World} (hb : ∀ k o, η₀ k = some o → isBor k = true) {st : St} (hh : Here dl η₀ G₀ w₀ N st a w) {fn : Func} {r : SV} {objs' : Objs}
    (h : RetVC E fn.results.toList st r objs') :
    a.defers = dl ∧ ∃ v, (results fn a.tmps).run P w = .ok v w ∧ ∃ η' G', SVRel η' G' w r v ∧ (∀ k, ObjOpt η' G' w (lookN k objs') (η' k)) ∧ Sep η' G' w ∧ Evol η₀ G₀ w₀ η' G' w := by
  obtain ⟨_, η, G, H, hev⟩ := hh
  unfold RetVC at h
  split at h
  · exact h.elim
  · rename_i ss hss
    obtain ⟨ρ, frz, h1, h2, h3⟩ := h
    obtain ⟨vs, hvs, hr⟩ := resSVs_run hE H hss
    obtain ⟨l1, l2, l3⟩ := le_state H h2 h3.h
    refine ⟨H.df, if h : vs.toArray.size = 1 then vs.toArray[0] else .tuple vs.toArray, ?_, leE η ρ objs', inG η G frz, leSV_rel H _ _ _ h1 (oneOrTup_rel hr), l1, l2, hev.le hb l3⟩
    show (do let vs ← fn.results.mapM (resRun a.tmps); pure (if h : vs.size = 1 then vs[0] else .tuple vs) : Sem Value).run P w = _
    rw [Sem.run_bind, Array.mapM_eq_mapM_toList, Sem.run_map, hvs]
    rfl

theorem nthD_replicate {α : Type} (d : α) : ∀ (n t : Nat), nthD (List.replicate n d) t d = d
  | 0, _ => rfl
  | n + 1, 0 => rfl
  | n + 1, t + 1 => by simpa [List.replicate_succ, nthD] using nthD_replicate d n t

/-- ████ A FUNCTION'S CONTRACT, off its symbolic execution. ████ -/
theorem spec_of_vc (hE : EOk P E) (hR : ∀ f svs objs X r objs', E.raw f svs objs X r objs' → SpecG P f svs objs X r objs') (hmix : P.follows .mixedOrders = true) (hS : ∀ f svs objs r objs', S f svs objs r objs' → SpecX P f svs objs r objs')
    {f : Nat} {fn : Func} {body : Code} (hf : P.funcs[f]? = some fn) (hbd : fn.body = some body) {svs : List SV} {objs : Objs} {r : SV} {objs' : Objs}
    (hn : leN svs.length fn.ntmps = true) (ho : borNames objs = true) (h : FnVC S E body fn.ntmps fn.results.toList svs objs r objs') : Spec P f svs objs r objs' := by
  intro η G vs w hsep hob hs htab
  have hlen := SVRels.length hs
  have hn : svs.length ≤ fn.ntmps := by simpa [leN_iff, ltN_iff] using hn
  refine calls_of_wp hf hbd ?_
  have hbor : ∀ k o, η k = some o → isBor k = true := by
    intro k o hk
    have := hob k
    rw [hk] at this
    cases hl : lookN k objs with
    | none => rw [hl] at this; exact this.elim
    | some x => exact borNames_spec ho (lookN_mem hl)
  refine vc_sound hE hR hmix hS hbor (N := fn.ntmps) body _ _ _ _ _ h ⟨?_, η, G, ⟨?_, rfl, ?_, hob, hsep, htab⟩, Evol.refl η G w⟩ ?_
  · simp [st0]; omega
  · simp [st0, hlen]
  · intro t
    simp only [getT, st0]
    rw [nthD_append]
    split
    · rename_i ht
      obtain ⟨v, hv, hr⟩ := SVRels.nth t hs ht
      have : (vs.toArray ++ Array.replicate (fn.ntmps - vs.toArray.size) undef).getD t undef = v := by
        have ht' : t < vs.length := by omega
        simp only [Array.getD_eq_getD_getElem?, Array.getElem?_append]
        rw [if_pos (by simpa [leN_iff, ltN_iff] using ht')]
        simp [hv]
      exact this ▸ hr
    · rw [nthD_replicate]; simp [SVRel]
  · intro ex st a w hk hh
    cases ex <;> simp only at hk
    case normal =>
      obtain ⟨h1, v, h2, η', G', h3, h4, h5, h6⟩ := ret_sound hE hbor hh hk
      exact ⟨h1, v, h2, η', G', v, rfl, h3, h4, h5, h6⟩
    case ret =>
      obtain ⟨h1, v, h2, η', G', h3, h4, h5, h6⟩ := ret_sound hE hbor hh hk
      exact ⟨h1, v, h2, η', G', v, rfl, h3, h4, h5, h6⟩
    all_goals exact hk.elim
end
/- THE TYPES -/

theorem tiOk_of {P : Program} {E : Env} {T : Nat} {ti : TI} {z : Value} {d : TypeDesc} (h : (P.info? T).map (fun i => (i.size, i.bytes, i.zero)) = some (ti.size, ti.bytes, some z))
    (hz : ∀ η G w, SVRels η G w ti.zero z.cells.toList) (hd : P.underlying T = some d) (ht : TDOk P E ti.td d) (hl : ti.zero.length = ti.size) : TIOk P E T ti := by
  refine ⟨?_, ⟨d, hd, ht⟩, hl⟩
  cases hi : P.info? T with
  | none => rw [hi] at h; cases h
  | some i =>
    rw [hi] at h
    simp only [Option.map_some, Option.some.injEq, Prod.mk.injEq] at h
    exact ⟨i, z, rfl, h.1, h.2.1, h.2.2, hz⟩

theorem info_size {P : Program} {E : Env} {T a b : Nat} {z : Option Value} (h : (P.info? T).map (fun i => (i.size, i.bytes, i.zero)) = some (a, b, z)) (hs : szOf E T = a) (h0 : a ≠ 0) : ∃ j, P.info? T = some j ∧ j.size = szOf E T ∧ j.size ≠ 0 := by
  cases hi : P.info? T with
  | none => rw [hi] at h; cases h
  | some i =>
    rw [hi] at h
    simp only [Option.map_some, Option.some.injEq, Prod.mk.injEq] at h
    exact ⟨i, rfl, by rw [hs, h.1], by rw [h.1]; exact h0⟩

theorem info_zero {P : Program} {T a b : Nat} {z : Value} (h : (P.info? T).map (fun i => (i.size, i.bytes, i.zero)) = some (a, b, some z)) : ∃ j, P.info? T = some j ∧ j.zero = some z := by
  cases hi : P.info? T with
  | none => rw [hi] at h; cases h
  | some i =>
    rw [hi] at h
    simp only [Option.map_some, Option.some.injEq, Prod.mk.injEq] at h
    exact ⟨i, rfl, h.2.2⟩

end Go.SX

