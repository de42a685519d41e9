/- SX: regions: from the operations' text to any order that their edges allow. -/
import Derived.Test.YtmdfjipjkkjpcaaSxM
namespace Go.SX

abbrev FS := (Nat → SV) × (Nat → Option TObj)

/-- What an operation does: the slots and objects that it reads, what it writes. -/
structure FR where
  dst : Option Nat
  sv : SV
  upd : Objs
  rs : List Nat
  rd : List Nat

def FR.app (N : Nat) (r : FR) (F : FS) : FS :=
  (match r.dst with
   | some d => fun t => if t = d ∧ d < N then r.sv else F.1 t
   | none => F.1, updF F.2 r.upd)

def OpRec (P : Program) (ops : Array Oper) (N i : Nat) (F : FS) (r : FR) : Prop :=
  ∀ F' : FS, (∀ t ∈ r.rs, F'.1 t = F.1 t) → (∀ k ∈ r.rd, F'.2 k = F.2 k) → ∀ {dl : List Deferred} (Q : Exit → Act → World → Prop) (K : Act → World → Prop) (η : OEnv) (G : Nat → Prop) (a : Act) (w : World), Holds dl η G N F'.1 F'.2 a w →
    (∀ η' G' a' w', Holds dl η' G' N (r.app N F').1 (r.app N F').2 a' w' → Evol η G w η' G' w' → K a' w') → wpOp P ops Q i K a w

theorem opReads_mem {t : Nat} : ∀ {l : List Operand}, Operand.tmp t ∈ l → t ∈ opReads l
  | [], h => by cases h
  | x :: l, h => by
      rcases List.mem_cons.1 h with rfl | h
      · simp [opReads]
      · have := opReads_mem h
        cases x <;> simp [opReads, this]

theorem dstOf_eq : ∀ (all : List Oper) (j : Nat), dstOf all j = (all[j]?).bind (·.dst)
  | [], j => by simp [dstOf]
  | o :: r, 0 => by simp [dstOf]
  | o :: r, j + 1 => by simpa [dstOf] using dstOf_eq r j

section
variable {P : Program} {E : Env} {η : OEnv} {G : Nat → Prop} {N : Nat} {dl : List Deferred} {get : Nat → SV} {ob : Nat → Option TObj} {a : Act} {w : World}

theorem undef_tup : SVRel η G w (.tup []) undef := by simp [SVRel, SVRels, undef]
theorem undef_rel : SVRel η G w .any undef := by simp [SVRel]

theorem put_get (a : Act) (d : Nat) (v : Value) (t : Nat) : (a.put (some d) v).tmps.getD t undef = if t = d ∧ d < a.tmps.size then v else a.tmps.getD t undef := by
  simp only [Act.put, Array.getD_eq_getD_getElem?, Array.getElem?_setIfInBounds]
  by_cases h : t = d
  · subst h
    by_cases hl : t < a.tmps.size
    · simp [hl]
    · simp [hl]
  · have : ¬ d = t := fun e => h e.symm
    simp [h, this]

theorem holds_put (H : Holds dl η G N get ob a w) {dst : Option Nat} {sv : SV} {upd : Objs} {v : Value} {η' : OEnv} {G' : Nat → Prop} {w' : World} (A : After η G w ob sv upd v η' G' w') (rs rd : List Nat) :
    Holds dl η' G' N (FR.app N ⟨dst, sv, upd, rs, rd⟩ (get, ob)).1 (FR.app N ⟨dst, sv, upd, rs, rd⟩ (get, ob)).2 (a.put dst v) w' := by
  have hM := A.ev.mono H.sp
  cases dst with
  | none =>
    exact ⟨H.sz, H.df, fun t => SVRel.mono hM _ _ (H.tm t), A.ob, A.sp⟩
  | some d =>
    refine ⟨by simp [Act.put, H.sz], H.df, fun t => ?_, A.ob, A.sp⟩
    rw [put_get, H.sz]
    simp only [FR.app]
    split
    · exact A.sv
    · exact SVRel.mono hM _ _ (H.tm t)

/-- Is the operation's guard met? -/
def GuardIs (all : List Oper) (o : Oper) (get : Nat → SV) (v : Bool) : Prop :=
  (∃ j want s, o.guard = some (j, want) ∧ dstOf all j = some s ∧ get s = .tup [] ∧ v = false) ∨ (o.guard = none ∧ v = true) ∨ ∃ j want s e, o.guard = some (j, want) ∧ dstOf all j = some s ∧ get s = .bool e ∧ v = (e.den == want)

theorem guard_wanted (H : Holds dl η G N get ob a w) {ops : Array Oper} {o : Oper} {v : Bool} (hg : GuardIs ops.toList o get v) : Region.wanted o (yielded ops a.tmps) = v := by
  rcases hg with ⟨j, want, s, h1, h2, h3, rfl⟩ | ⟨h, rfl⟩ | ⟨j, want, s, e, h1, h2, h3, rfl⟩
  · have ht := H.tm s
    rw [h3] at ht
    simp only [SVRel] at ht
    obtain ⟨as, ht, -⟩ := ht
    have hy : yielded ops a.tmps j = none := by
      unfold yielded
      rw [dstOf_eq] at h2
      have h2' : (ops[j]?).bind (·.dst) = some s := by simpa [leN_iff, ltN_iff] using h2
      rw [Array.getD_eq_getD_getElem?] at ht
      cases hx : a.tmps[s]? with
      | none => simp [h2', hx]
      | some x =>
        rw [hx] at ht
        simp only [Option.getD_some] at ht
        simp [h2', hx, ht]
    simp [Region.wanted, h1, hy]
  · simp [Region.wanted, h]
  · have ht := H.tm s
    rw [h3] at ht
    simp only [SVRel] at ht
    have hs : a.tmps[s]? = some (.bool e.den) := by
      rw [Array.getD_eq_getD_getElem?] at ht
      cases hx : a.tmps[s]? with
      | none => rw [hx] at ht; simp [undef] at ht
      | some x => rw [hx] at ht; simpa using ht
    rw [dstOf_eq] at h2
    have hy : yielded ops a.tmps j = some e.den := by
      unfold yielded
      have : (ops[j]?).bind (·.dst) = some s := by simpa [leN_iff, ltN_iff] using h2
      simp [this, hs]
    simp [Region.wanted, h1, hy]

theorem GuardIs.congr {all : List Oper} {o : Oper} {get' : Nat → SV} {v : Bool} (hg : GuardIs all o get v) (h : ∀ t ∈ slotsOf all o, get' t = get t) : GuardIs all o get' v := by
  rcases hg with ⟨j, want, s, h1, h2, h3, h4⟩ | h0 | ⟨j, want, s, e, h1, h2, h3, h4⟩
  · exact .inl ⟨j, want, s, h1, h2, by rw [h s (by simp [slotsOf, h1, h2])]; exact h3, h4⟩
  · exact .inr (.inl h0)
  · exact .inr (.inr ⟨j, want, s, e, h1, h2, by rw [h s (by simp [slotsOf, h1, h2])]; exact h3, h4⟩)

def KnF (kn : List (Nat × Bool)) (get : Nat → SV) : Prop := ∀ s b, lookN s kn = some b → ∃ e, get s = .bool e ∧ e.den = b

theorem slots_op {all : List Oper} {o : Oper} {t : Nat} (h : Operand.tmp t ∈ o.op.operands.toList) : t ∈ slotsOf all o := by
  simp only [slotsOf, List.mem_append]
  exact .inl (opReads_mem h)

theorem wpOp_of {ops : Array Oper} {i : Nat} {o : Oper} (ho : ops[i]? = some o) {Q : Exit → Act → World → Prop} {K : Act → World → Prop}
    (hw : Region.wanted o (yielded ops a.tmps) = true) (h : o.wp P a w K Q) : wpOp P ops Q i K a w := by
  unfold wpOp
  rw [ho]
  simp only [hw, if_true]
  exact .inl h

/-- An operation of its own, run. -/
theorem opRec_op (hE : EOk P E) {ops : Array Oper} {i d : Nat} {o : Oper} (ho : ops[i]? = some o) {kn : List (Nat × Bool)} {F : FS} (hkn : KnF kn F.1) (hg : GuardIs ops.toList o F.1 true)
    {sv : SV} {upd : Objs} {rd : List Nat} {obl : Obl} (h : evOp E d kn F.1 F.2 o.op = .ok sv upd rd obl) (hob : obl.holds) :
    OpRec P ops N i F ⟨o.dst, sv, upd, slotsOf ops.toList o, rd⟩ := by
  intro F' h1 h2 dl Q K η G a w H hK
  have e1 : evOp E d kn F'.1 F'.2 o.op = .ok sv upd rd obl := by
    rw [← evOp_congr (get := F.1) fun t ht => (h1 t (slots_op ht)).symm]
    exact evOp_congrO (fun k hk => (h2 k hk).symm) h
  have hk : KnOk o.op kn a := by
    intro t b ht hb
    obtain ⟨e, he, hd⟩ := hkn t b hb
    have := H.tm t
    rw [h1 t (slots_op ht), he] at this
    simp only [SVRel] at this
    rw [this, hd]
  obtain ⟨n, v, η', G', w', hrun, hn, hA⟩ := evOp_sound hE H hk e1 hob
  refine wpOp_of ho (guard_wanted H (hg.congr h1)) ?_
  unfold Oper.wp
  rw [hrun]
  have hput := holds_put (dst := o.dst) H hA (slotsOf ops.toList o) rd
  rcases hn with rfl | ⟨rfl, rfl⟩
  · simp only [Oper.upon]
    exact hK _ _ _ _ hput hA.ev
  · simp only [Oper.upon]
    exact hK _ _ _ _ hput hA.ev

/-- An operation whose guard says no. -/
theorem opRec_skip {ops : Array Oper} {i : Nat} {o : Oper} (ho : ops[i]? = some o) {F : FS} (hg : GuardIs ops.toList o F.1 false) : OpRec P ops N i F ⟨o.dst, .tup [], [], slotsOf ops.toList o, []⟩ := by
  intro F' h1 h2 dl Q K η G a w H hK
  have hw := guard_wanted H (hg.congr h1)
  unfold wpOp
  rw [ho]
  simp only [hw]
  exact hK _ _ _ _ (holds_put H (After.pure H undef_tup) _ _) (Evol.refl _ _ _)

mutual
theorem convSV_congr {ob ob' : Nat → Option TObj} {sel bor : List Nat} (h : ∀ k ∈ bor, ob k = ob' k) : ∀ (s : SV), (∀ k ∈ borSV ob sel s, k ∈ bor) → convSV ob sel s = convSV ob' sel s ∧ borSV ob sel s = borSV ob' sel s
  | .view k d, hb => by
      have := h k (hb k (by simp [borSV]))
      simp [convSV, borSV, this]
  | .own k, hb => by
      simp only [convSV, borSV]
      cases hp : posOf k sel 0 with
      | some i => simp
      | none =>
        have := h k (hb k (by simp [borSV, hp]))
        simp [svDV, this]
  | .csl k wd n, hb => by
      have hk := h k (hb k (by simp [borSV]))
      simp only [convSV, borSV, ← hk]
      cases hob : ob k with
      | none => simp
      | some x =>
        cases x with
        | cells T cs =>
          have hcs : cellDVs ob cs = cellDVs ob' cs ∧ borCells ob cs = borCells ob' cs := by
            have hin : ∀ j ∈ borCells ob cs, ob j = ob' j := by
              intro j hj
              refine h j (hb j ?_)
              simp only [borSV, hob, List.mem_cons]
              exact .inr hj
            clear hob hb
            induction cs with
            | nil => exact ⟨rfl, rfl⟩
            | cons c cs ih =>
              obtain ⟨h1, h2⟩ := ih fun j hj => hin j (by simp [borCells, hj])
              have hc : cellDV ob c = cellDV ob' c ∧ borCell ob c = borCell ob' c := by
                have hj : ∀ j ∈ borCell ob c, ob j = ob' j := fun j hj => hin j (by simp [borCells, hj])
                cases c with
                | own j => simp only [cellDV, svDV, hj j (by simp [borCell, borOne]), borCell]; exact ⟨trivial, trivial⟩
                | view j d => simp only [cellDV, svDV, hj j (by simp [borCell, borOne]), borCell]; exact ⟨trivial, trivial⟩
                | csl j w n =>
                  have hj0 := hj j (by simp [borCell])
                  simp only [cellDV, borCell, ← hj0]
                  cases hoj : ob j with
                  | none => simp
                  | some y =>
                    cases y with
                    | cells T' cs' =>
                      have he : svDVs ob cs' = svDVs ob' cs' := by
                        have hin' : ∀ k ∈ borOnes cs', ob k = ob' k := fun k hk => hj k (by simp only [borCell, hoj, List.mem_cons]; exact .inr hk)
                        clear hoj hj0 hj hin h1 h2 ih
                        induction cs' with
                        | nil => rfl
                        | cons e cs' ih =>
                          have hc : svDV ob e = svDV ob' e := by
                            cases e with
                            | own j => simp only [svDV, hin' j (by simp [borOnes, borOne])]
                            | view j d => simp only [svDV, hin' j (by simp [borOnes, borOne])]
                            | _ => rfl
                          simp only [svDVs, hc, ih fun k hk => hin' k (by simp [borOnes, hk])]
                      simp [he]
                    | _ => simp
                | _ => exact ⟨rfl, rfl⟩
              simp only [cellDVs, borCells, hc.1, hc.2, h1, h2]; exact ⟨trivial, trivial⟩
          simp only [hcs.1, hcs.2, and_self]
        | _ => simp
  | .agg cs, hb => by
      have := convSVs_congr h cs (by simpa only [borSV] using hb)
      simp [convSV, borSV, this.1, this.2]
  | .tup cs, hb => by
      have := convSVs_congr h cs (by simpa only [borSV] using hb)
      simp [convSV, borSV, this.1, this.2]
  | .fn f cs, hb => by
      have := convSVs_congr h cs (by simpa only [borSV] using hb)
      simp [convSV, borSV, this.1, this.2]
  | .any, _ => ⟨rfl, rfl⟩
  | .nil, _ => ⟨rfl, rfl⟩
  | .int _ _, _ => ⟨rfl, rfl⟩
  | .bool _, _ => ⟨rfl, rfl⟩
  | .str _, _ => ⟨rfl, rfl⟩
  | .val _, _ => ⟨rfl, rfl⟩
  | .dat _, _ => ⟨rfl, rfl⟩
  | .nn _, _ => ⟨rfl, rfl⟩
  | .loc _ _, _ => ⟨rfl, rfl⟩
  | .op _ _ _ _, _ => ⟨rfl, rfl⟩
  | .ep _ _ _ _, _ => ⟨rfl, rfl⟩
theorem convSVs_congr {ob ob' : Nat → Option TObj} {sel bor : List Nat} (h : ∀ k ∈ bor, ob k = ob' k) : ∀ (s : List SV), (∀ k ∈ borSVs ob sel s, k ∈ bor) → convSVs ob sel s = convSVs ob' sel s ∧ borSVs ob sel s = borSVs ob' sel s
  | [], _ => ⟨rfl, rfl⟩
  | c :: cs, hb => by
      simp only [borSVs, List.mem_append] at hb
      have h1 := convSV_congr h c fun k hk => hb k (.inl hk)
      have h2 := convSVs_congr h cs fun k hk => hb k (.inr hk)
      simp [convSVs, borSVs, h1.1, h1.2, h2.1, h2.2]
end

theorem selObjs_congr {ob ob' : Nat → Option TObj} {sel bor : List Nat} (h : ∀ k ∈ bor, ob k = ob' k) : ∀ (l : List Nat) (i : Nat), (∀ k ∈ l, ob k = ob' k) → (∀ k ∈ borObjs ob sel l, k ∈ bor) →
    selObjs ob sel l i = selObjs ob' sel l i ∧ borObjs ob sel l = borObjs ob' sel l
  | [], _, _, _ => ⟨rfl, rfl⟩
  | k :: r, i, hl, hb => by
      have hk := hl k (by simp)
      simp only [selObjs, borObjs, ← hk]
      cases hob : ob k with
      | none =>
        simp only [borObjs, hob] at hb
        have ih := selObjs_congr h r (i + 1) (fun k hk => hl k (by simp [hk])) hb
        exact ⟨rfl, ih.2⟩
      | some x =>
        simp only [borObjs, hob, List.mem_append] at hb
        have ih := selObjs_congr h r (i + 1) (fun k hk => hl k (by simp [hk])) (fun j hj => hb j (.inr hj))
        have hx : convObj ob sel x = convObj ob' sel x ∧ borObj ob sel x = borObj ob' sel x := by
          cases x with
          | cells T cs =>
            have := convSVs_congr h cs (fun j hj => hb j (.inl hj))
            simp [convObj, borObj, this.1, this.2]
          | _ => exact ⟨rfl, rfl⟩
        refine ⟨?_, by rw [ih.2]; exact congrArg (· ++ borObjs ob' sel r) hx.2⟩
        simp only [ih.1]
        cases selObjs ob' sel r (i + 1) with
        | none => rfl
        | some l => exact congrArg (fun y => some ((1000 + i, y) :: l)) hx.1

theorem noneO_congr {ob ob' : Nat → Option TObj} : ∀ (l : List Nat), (∀ k ∈ l, ob k = ob' k) → noneO ob l = noneO ob' l
  | [], _ => rfl
  | k :: r, h => by simp only [noneO, h k (by simp), noneO_congr r fun k hk => h k (by simp [hk])]

/-- A call of a function, run. -/
theorem opRec_call {ops : Array Oper} {i : Nat} {o : Oper} (ho : ops[i]? = some o) {F : FS} (hg : GuardIs ops.toList o F.1 true) {x : Operand} {args : Array Operand} {types : Array TypeId}
    (hop : o.op = .call { callee := .value x, args := args, argTypes := types }) {f : Nat} {caps : List SV} (hx : opnd F.1 x = .fn f caps)
    {sel bor : List Nat} {objs objs' : Objs} {r : SV} {d : Nat}
    (hsel : selObjs F.2 sel sel 0 = some objs) (hbor : bor = borSVs F.2 sel (args.toList.map (opnd F.1) ++ caps) ++ borObjs F.2 sel sel)
    (hS : SpecX P f (convSVs F.2 sel (args.toList.map (opnd F.1) ++ caps)) objs r objs') (hok : callOk sel bor d F.2 r objs' = true) :
    OpRec P ops N i F ⟨o.dst, backSV sel d r, backObjs sel d objs', slotsOf ops.toList o, sel ++ bor ++ newNames d objs'⟩ := by
  intro F' h1 h2 dl Q K η G a w H hK
  have hopnd : ∀ y ∈ o.op.operands.toList, opnd F'.1 y = opnd F.1 y := fun y hy => opnd_congr fun t ht => h1 t (slots_op (ht ▸ hy))
  have hops : o.op.operands.toList = x :: args.toList := by rw [hop]; simp [Op.operands, Call.operands]
  have hargs : args.toList.map (opnd F'.1) = args.toList.map (opnd F.1) := List.map_congr_left fun y hy => hopnd y (by rw [hops]; simp [hy])
  have hx' : opnd F'.1 x = .fn f caps := by rw [hopnd x (by rw [hops]; simp)]; exact hx
  have hfr := opnd_rel H x
  rw [hx'] at hfr
  simp only [SVRel] at hfr
  obtain ⟨cvs, hev, hcaps⟩ := hfr
  have hall : SVRels η G w (args.toList.map (opnd F'.1) ++ caps) (args.toList.map a.eval ++ cvs) := by
    have happ : ∀ (l : List Operand), SVRels η G w (l.map (opnd F'.1) ++ caps) (l.map a.eval ++ cvs) := by
      intro l
      induction l with
      | nil => exact hcaps
      | cons y l ih => simp only [List.map_cons, List.cons_append, SVRels]; exact ⟨opnd_rel H y, ih⟩
    exact happ _
  rw [hargs] at hall
  simp only [List.mem_append] at h2
  have hbor2 : ∀ k ∈ bor, F.2 k = F'.2 k := fun k hk => (h2 k (.inl (.inr hk))).symm
  have hc1 := convSVs_congr (sel := sel) hbor2 (args.toList.map (opnd F.1) ++ caps) (fun k hk => by rw [hbor]; exact List.mem_append.2 (.inl hk))
  have hc2 := selObjs_congr (sel := sel) hbor2 sel 0 (fun k hk => (h2 k (.inl (.inl hk))).symm) (fun k hk => by rw [hbor]; exact List.mem_append.2 (.inr hk))
  have hok' : callOk sel bor d F'.2 r objs' = true := by
    unfold callOk at hok ⊢
    rw [noneO_congr (ob := F'.2) (ob' := F.2) _ fun k hk => h2 k (.inr hk)]
    exact hok
  have hcall := call_sound (P := P) (f := f) (d := d) (vs := args.toList.map a.eval ++ cvs) H hall (sel := sel) (bor := bor) (objs := objs) (objs' := objs') (r := r)
    (by rw [← hc2.1]; exact hsel) (by rw [hbor, hc1.2, hc2.2]) (by rw [← hc1.1]; exact hS) hok'
  refine wpOp_of ho (guard_wanted H (hg.congr h1)) ?_
  unfold Oper.wp
  have hrun : (execOp a.eval o).run P w = (callFunc f (⟨args.toList.map a.eval ++ cvs⟩ : Array Value)).run P w := by
    have he : execOp a.eval o = (do let d ← resolve a.eval { callee := .value x, args := args, argTypes := types } o.type; invoke d.target d.args) := by simp only [execOp, hop]
    rw [he]
    simp only [resolve, hev, Deferred.ofValue, pure_bind, invoke]
    congr 2
    apply Array.ext'; simp
  rw [hrun]
  rcases hcall with ⟨h1, h2⟩ | ⟨v, w', h1, η', G', hA⟩
  · rw [h1]
    simp only [Oper.upon]
    refine h2.mono ?_
    rintro e w' ⟨v, rfl, η', G', hA⟩
    exact hK _ _ _ _ (holds_put (dst := o.dst) H hA _ _) hA.ev
  · rw [h1]
    simp only [Oper.upon]
    exact hK _ _ _ _ (holds_put (dst := o.dst) H hA _ _) hA.ev
end
end Go.SX
