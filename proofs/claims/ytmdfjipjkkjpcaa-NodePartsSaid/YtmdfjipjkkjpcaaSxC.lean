/- SX, third part: each operation does in the world what its symbolic execution says. -/
import Derived.Test.YtmdfjipjkkjpcaaSxB
namespace Go.SX

def updF (ob : Nat → Option TObj) : Objs → Nat → Option TObj
  | [] => ob
  | (k, x) :: r => updF (fun j => if j = k then some x else ob j) r

def updE (η : OEnv) (d : Nat) (o : OInfo) : OEnv := fun k => if k = d then some o else η k

theorem updE_same (η : OEnv) (d : Nat) (o : OInfo) : updE η d o d = some o := by simp [updE]
theorem updE_other (η : OEnv) {d k : Nat} (o : OInfo) (h : k ≠ d) : updE η d o k = η k := by simp [updE, h]

/-- What holds behind an operation that yields v. -/
structure After (η : OEnv) (G : Nat → Prop) (w : World) (ob : Nat → Option TObj) (sv : SV) (upd : Objs) (v : Value) (η' : OEnv) (G' : Nat → Prop) (w' : World) : Prop where
  sv : SVRel η' G' w' sv v
  ob : ∀ k, ObjOpt η' G' w' (updF ob upd k) (η' k)
  sp : Sep η' G' w'
  ev : Evol η G w η' G' w'

section
variable {η : OEnv} {G : Nat → Prop} {N : Nat} {dl : List Deferred} {get : Nat → SV} {ob : Nat → Option TObj} {a : Act} {w : World}

theorem After.pure (H : Holds dl η G N get ob a w) {sv : SV} {v : Value} (h : SVRel η G w sv v) : After η G w ob sv [] v η G w :=
  ⟨h, H.ob, H.sp, Evol.refl η G w⟩

theorem SVRels.nth : ∀ {cs : List SV} {vs : List Value} (i : Nat), SVRels η G w cs vs → i < cs.length → ∃ v, vs[i]? = some v ∧ SVRel η G w (nthD cs i .any) v
  | [], _, i, _, h => by simp at h
  | c :: cs, [], _, h, _ => by simp [SVRels] at h
  | c :: cs, v :: vs, 0, h, _ => ⟨v, rfl, by simp only [SVRels] at h; simpa [nthD] using h.1⟩
  | c :: cs, v :: vs, i + 1, h, hi => by
      simp only [SVRels] at h
      obtain ⟨u, hu, hr⟩ := SVRels.nth i h.2 (by simpa using hi)
      exact ⟨u, by simpa using hu, by simpa [nthD] using hr⟩

theorem SVRels.length : ∀ {cs : List SV} {vs : List Value}, SVRels η G w cs vs → vs.length = cs.length
  | [], [], _ => rfl
  | [], _ :: _, h => by simp [SVRels] at h
  | _ :: _, [], h => by simp [SVRels] at h
  | _ :: cs, _ :: vs, h => by
      simp only [SVRels] at h
      simp [SVRels.length h.2]

theorem SVRels.sub : ∀ {cs : List SV} {vs : List Value} (o n : Nat), SVRels η G w cs vs → SVRels η G w (sub cs o n) ((vs.drop o).take n)
  | cs, vs, o, 0, _ => by cases cs <;> simp [SX.sub, SVRels]
  | [], [], o, n + 1, _ => by simp [SX.sub, SVRels]
  | [], _ :: _, _, _ + 1, h => by simp [SVRels] at h
  | _ :: _, [], _, _ + 1, h => by simp [SVRels] at h
  | c :: cs, v :: vs, 0, n + 1, h => by
      simp only [SVRels] at h
      have := SVRels.sub 0 n h.2
      simp only [List.drop_zero] at this
      simp only [SX.sub, List.drop_zero, List.take_succ_cons, SVRels]
      exact ⟨h.1, this⟩
  | c :: cs, v :: vs, o + 1, n + 1, h => by
      simp only [SVRels] at h
      simpa only [SX.sub, List.drop_succ_cons] using SVRels.sub o (n + 1) h.2

theorem sub_length : ∀ (cs : List SV) (o n : Nat), o + n ≤ cs.length → (SX.sub cs o n).length = n
  | _, _, 0, _ => by simp [SX.sub]
  | [], o, n + 1, h => by simp at h
  | c :: cs, 0, n + 1, h => by simp only [SX.sub, List.length_cons]; rw [sub_length cs 0 n (by simp at h ⊢; omega)]
  | c :: cs, o + 1, n + 1, h => by simp only [SX.sub]; exact sub_length cs o (n + 1) (by simp at h; omega)

theorem SVRels.splice : ∀ {cs : List SV} {vs : List Value} (o : Nat) {xs : List SV} {us : List Value}, SVRels η G w cs vs → SVRels η G w xs us → o + xs.length ≤ cs.length →
    SVRels η G w (splice cs o xs) (vs.take o ++ us ++ vs.drop (o + us.length))
  | cs, vs, 0, [], [], h, _, _ => by cases cs <;> simpa [SX.splice] using h
  | _, _, 0, [], _ :: _, _, h, _ => by simp [SVRels] at h
  | _, _, 0, _ :: _, [], _, h, _ => by simp [SVRels] at h
  | [], _, 0, x :: xs, u :: us, _, _, h => by simp at h
  | c :: cs, [], 0, x :: xs, u :: us, h, _, _ => by simp [SVRels] at h
  | c :: cs, v :: vs, 0, x :: xs, u :: us, h, h2, h3 => by
      simp only [SVRels] at h h2
      have := SVRels.splice 0 h.2 h2.2 (by simp at h3 ⊢; omega)
      simp only [List.take_zero, List.nil_append, Nat.zero_add] at this
      simp only [SX.splice, List.take_zero, List.nil_append, Nat.zero_add, List.length_cons, List.drop_succ_cons, List.cons_append, SVRels]
      exact ⟨h2.1, this⟩
  | [], [], o + 1, [], [], _, _, h => by simp at h
  | [], [], o + 1, x :: xs, us, _, _, h => by simp at h
  | [], _ :: _, o + 1, xs, us, h, _, _ => by simp [SVRels] at h
  | [], [], o + 1, [], _ :: _, _, h, _ => by simp [SVRels] at h
  | c :: cs, [], o + 1, xs, us, h, _, _ => by simp [SVRels] at h
  | c :: cs, v :: vs, o + 1, xs, us, h, h2, h3 => by
      simp only [SVRels] at h
      have := SVRels.splice o h.2 h2 (by simp at h3; omega)
      have e : o + 1 + us.length = (o + us.length) + 1 := by omega
      simp only [SX.splice, List.take_succ_cons, e, List.drop_succ_cons, List.cons_append, SVRels]
      exact ⟨h.1, this⟩

theorem constSV_rel (v : Value) : SVRel η G w (constSV v) v := by
  unfold constSV
  split <;> simp [SVRel, IE.den, BE.den]

theorem opnd_rel (H : Holds dl η G N get ob a w) (x : Operand) : SVRel η G w (opnd get x) (a.eval x) := by
  cases x with
  | tmp t => exact H.tm t
  | const v => exact constSV_rel v
  | global g => simp [opnd, SVRel]
  | func f => simp [opnd, SVRel, SVRels, Act.eval]

theorem dead_of {η : OEnv} {k : Nat} {x : TObj} {o : OInfo} (hk : η k = some o) (h : ObjOpt η G w (some x) (η k)) : ObjRel η G w x o := by
  rw [hk] at h; exact h

theorem obj_of {k : Nat} {x : TObj} (H : Holds dl η G N get ob a w) (h : ob k = some x) : ∃ o, η k = some o ∧ ObjRel η G w x o := by
  have := H.ob k
  rw [h] at this
  cases hk : η k with
  | none => rw [hk] at this; exact this.elim
  | some o => rw [hk] at this; exact ⟨o, rfl, this⟩

theorem alive_of {k : Nat} {o : OInfo} (H : Holds dl η G N get ob a w) (h : aliveO (ob k) = true) (hk : η k = some o) : o.dead = false := by
  have := H.ob k
  rw [hk] at this
  cases hob : ob k with
  | none => rw [hob] at this; exact this.elim
  | some x =>
    rw [hob] at this h
    cases x <;> first | (simp [aliveO] at h; done) | (simp only [ObjOpt, ObjRel] at this; exact this.1)

theorem none_of {k : Nat} (H : Holds dl η G N get ob a w) (h : ob k = none) : η k = none := by
  have := H.ob k
  rw [h] at this
  cases hk : η k with
  | none => rfl
  | some o => rw [hk] at this; exact this.elim

/-- A new block of cells, as an object of its own. -/
theorem after_new (H : Holds dl η G N get ob a w) {d : Nat} (hd : ob d = none) (T : Nat) {cs : List SV} {vs : List Value} (hs : SVRels η G w cs vs) {sv : SV} {v : Value}
    (hsv : SVRel (updE η d ⟨.pointer (some ⟨w.heap.size, 0, none⟩), [w.heap.size], [], false⟩) G (w.alloc (.cells ⟨vs⟩ T)) sv v) :
    After η G w ob sv [(d, .cells T cs)] v (updE η d ⟨.pointer (some ⟨w.heap.size, 0, none⟩), [w.heap.size], [], false⟩) G (w.alloc (.cells ⟨vs⟩ T)) := by
  have hn := none_of H hd
  have hold : ∀ b, b < w.heap.size → (w.alloc (.cells ⟨vs⟩ T)).heap[b]? = w.heap[b]? := fun b hb => heap_alloc_old w _ b hb
  have hE : Evol η G w (updE η d ⟨.pointer (some ⟨w.heap.size, 0, none⟩), [w.heap.size], [], false⟩) G (w.alloc (.cells ⟨vs⟩ T)) := by
    refine ⟨rfl, rfl, rfl, by simp, fun b hb _ => hold b hb, ?_, fun _ h => h, fun _ h => .inl h, ?_⟩
    · intro k o ho
      have hk : k ≠ d := fun e => by rw [e, hn] at ho; cases ho
      exact ⟨o, by rw [updE_other _ _ hk]; exact ho, fun h => ⟨h, rfl, rfl, fun b hb => ⟨hb, hold b (H.sp.lt k o ho b (by simp [hb])).1⟩⟩⟩
    · intro k o ho b hb
      by_cases hk : k = d
      · subst hk
        rw [updE_same] at ho
        cases ho
        simp at hb
        exact .inl (by omega)
      · rw [updE_other _ _ hk] at ho
        exact .inr ⟨k, o, ho, hb⟩
  have hM := hE.mono H.sp
  refine ⟨hsv, fun k => ?_, ⟨?_, ?_, ?_, ?_⟩, hE⟩
  · by_cases hk : k = d
    · subst hk
      simp only [updF, if_true, updE_same, ObjOpt, ObjRel]
      exact ⟨trivial, trivial, _, vs, rfl, heap_alloc_new w _, SVRels.mono hM cs vs hs⟩
    · simp only [updF, if_neg hk, updE_other _ _ hk]
      have := H.ob k
      cases h1 : ob k with
      | none => cases h2 : η k with
        | none => trivial
        | some o => rw [h1, h2] at this; exact this.elim
      | some x => cases h2 : η k with
        | none => rw [h1, h2] at this; exact this.elim
        | some o => rw [h1, h2] at this; exact ObjRel.mono hM (fun b hb => hold b (H.sp.lt k o h2 b hb).1) this
  · intro k o ho b hb
    by_cases hk : k = d
    · subst hk
      rw [updE_same] at ho
      cases ho
      simp at hb
      subst hb
      exact ⟨by simp, fun hg => Nat.lt_irrefl _ (H.sp.glt _ hg)⟩
    · rw [updE_other _ _ hk] at ho
      have := H.sp.lt k o ho b hb
      exact ⟨by simp; omega, this.2⟩
  · intro k o k' o' ho ho' hne b hb hb'
    by_cases hk : k = d
    · subst hk
      rw [updE_same] at ho
      cases ho
      rw [updE_other _ _ (Ne.symm hne)] at ho'
      simp at hb
      subst hb
      exact Nat.lt_irrefl _ (H.sp.lt k' o' ho' _ hb').1
    · rw [updE_other _ _ hk] at ho
      by_cases hk' : k' = d
      · subst hk'
        rw [updE_same] at ho'
        cases ho'
        simp at hb'
        subst hb'
        exact Nat.lt_irrefl _ (H.sp.lt k o ho _ hb).1
      · rw [updE_other _ _ hk'] at ho'
        exact H.sp.dj k o k' o' ho ho' hne b hb hb'
  · intro k o ho b hb
    by_cases hk : k = d
    · subst hk
      rw [updE_same] at ho
      cases ho
      simp
    · rw [updE_other _ _ hk] at ho
      exact H.sp.mi k o ho b hb
  · intro b hb
    have := H.sp.glt b hb
    simp; omega

/-- A store into a block of cells. -/
theorem after_set (H : Holds dl η G N get ob a w) {k : Nat} {T : Nat} {cs xs : List SV} {vs us : List Value} {b : Nat} {o : OInfo} (off : Nat)
    (ho : η k = some o) (hdead : o.dead = false) (hm : o.main = [b]) (hi : o.inner = []) (hh : w.heap[b]? = some (.cells ⟨vs⟩ T (0, 0))) (hs : SVRels η G w cs vs) (hx : SVRels η G w xs us)
    (hlen : off + xs.length ≤ cs.length) (v : Value) :
    After η G w ob .any [(k, .cells T (splice cs off xs))] v η G (w.setRow b (vs.take off ++ us ++ vs.drop (off + us.length)).toArray) := by
  have hother : ∀ c, c ≠ b → (w.setRow b (vs.take off ++ us ++ vs.drop (off + us.length)).toArray).heap[c]? = w.heap[c]? := fun c hc => setRow_other w b c _ hc
  have hE : Evol η G w η G (w.setRow b (vs.take off ++ us ++ vs.drop (off + us.length)).toArray) := by
    refine ⟨rfl, rfl, rfl, by simp, fun c _ hn => hother c fun e => hn k o ho (by rw [e, hm]; simp), ?_, fun _ h => h, fun _ h => .inl h, fun k o ho b hb => .inr ⟨k, o, ho, hb⟩⟩
    intro k' o' ho'
    refine ⟨o', ho', fun h => ⟨h, rfl, rfl, fun c hc => ⟨hc, hother c fun e => ?_⟩⟩⟩
    by_cases hk : k' = k
    · subst hk
      rw [ho] at ho'
      cases ho'
      rw [hi] at hc
      cases hc
    · exact H.sp.dj k' o' k o ho' ho hk c (by simp [hc]) (by rw [e, hm]; simp)
  have hM := hE.mono H.sp
  refine ⟨by simp [SVRel], fun k' => ?_, ⟨fun k o ho b hb => ?_, H.sp.dj, H.sp.mi, fun b hb => ?_⟩, hE⟩
  · by_cases hk : k' = k
    · subst hk
      simp only [updF, if_true, ho, ObjOpt, ObjRel]
      exact ⟨hdead, hi, b, _, hm, setRow_heap w b _ _ T (0, 0) hh, SVRels.mono hM _ _ (SVRels.splice off hs hx hlen)⟩
    · simp only [updF, if_neg hk]
      have := H.ob k'
      cases h1 : ob k' with
      | none => cases h2 : η k' with
        | none => trivial
        | some o => rw [h1, h2] at this; exact this.elim
      | some x => cases h2 : η k' with
        | none => rw [h1, h2] at this; exact this.elim
        | some o' => rw [h1, h2] at this; exact ObjRel.mono hM (fun c hc => hother c fun e => H.sp.dj k' o' k o h2 ho hk c hc (by rw [e, hm]; simp)) this
  · simpa using H.sp.lt k o ho b hb
  · simpa using H.sp.glt b hb
end
end Go.SX
