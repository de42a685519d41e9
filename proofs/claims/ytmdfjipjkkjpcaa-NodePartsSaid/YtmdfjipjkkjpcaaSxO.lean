/- SX: regions, second part. -/
import Derived.Test.YtmdfjipjkkjpcaaSxN
namespace Go.SX

theorem nthD_putL {α : Type} (d : α) : ∀ (l : List α) (k : Nat) (x : α) (t : Nat), nthD (putL l k x) t d = if t = k ∧ k < l.length then x else nthD l t d
  | [], k, x, t => by simp [putL, nthD]
  | y :: l, 0, x, 0 => by simp [putL, nthD]
  | y :: l, 0, x, t + 1 => by simp [putL, nthD]
  | y :: l, k + 1, x, 0 => by simp [putL, nthD]
  | y :: l, k + 1, x, t + 1 => by simp [putL, nthD, nthD_putL d l k x t]

theorem putL_length {α : Type} : ∀ (l : List α) (k : Nat) (x : α), (putL l k x).length = l.length
  | [], _, _ => rfl
  | _ :: _, 0, _ => rfl
  | _ :: l, k + 1, x => by simp [putL, putL_length l k x]

theorem lookN_setN {α : Type} (k j : Nat) (x : α) : ∀ l : List (Nat × α), lookN k (setN j x l) = if k = j then some x else lookN k l
  | [] => by
      simp only [setN, lookN]
      by_cases h : k = j
      · subst h; simp [eqN_refl]
      · have : eqN j k = false := by
          cases hb : eqN j k with
          | false => rfl
          | true => exact absurd (eqN_eq hb).symm h
        simp [this, h]
  | (i, y) :: r => by
      simp only [setN]
      cases hb : eqN i j with
      | true =>
        have e := eqN_eq hb
        subst e
        simp only [cond_true, lookN]
        by_cases h : k = i
        · subst h; simp [eqN_refl]
        · have : eqN i k = false := by
            cases hb : eqN i k with
            | false => rfl
            | true => exact absurd (eqN_eq hb).symm h
          simp [this, h]
      | false =>
        simp only [cond_false, lookN, lookN_setN k j x r]
        cases hk : eqN i k with
        | true =>
          have e := eqN_eq hk
          subst e
          have : i ≠ j := eqN_ne hb
          simp [this]
        | false => simp

def fs (st : St) : FS := (getT st, getO st)

theorem getO_upd : ∀ (upd objs : Objs), (fun k => lookN k (updObjs objs upd)) = updF (fun k => lookN k objs) upd
  | [], _ => rfl
  | (j, x) :: r, objs => by
      simp only [updObjs, updF]
      rw [getO_upd r]
      congr 1
      funext k
      exact lookN_setN k j x objs

theorem fs_put (st : St) (upd : Objs) (dst : Option Nat) (sv : SV) (rs rd : List Nat) : fs (putDst ⟨st.tmps, updObjs st.objs upd⟩ dst sv) = FR.app st.tmps.length ⟨dst, sv, upd, rs, rd⟩ (fs st) := by
  cases dst with
  | none => exact Prod.ext rfl (getO_upd upd st.objs)
  | some d =>
    refine Prod.ext ?_ (getO_upd upd st.objs)
    funext t
    exact nthD_putL .any st.tmps d sv t

theorem put_len (st : St) (objs : Objs) (dst : Option Nat) (sv : SV) : (putDst ⟨st.tmps, objs⟩ dst sv).tmps.length = st.tmps.length := by
  cases dst <;> simp [putDst, putL_length]

def Runs (P : Program) (ops : Array Oper) (N : Nat) : Nat → FS → List FR → Prop
  | _, _, [] => True
  | i, F, r :: rs => OpRec P ops N i F r ∧ Runs P ops N (i + 1) (r.app N F) rs

def endF (N : Nat) : FS → List FR → FS
  | F, [] => F
  | F, r :: rs => endF N (r.app N F) rs

def Meta (ops : Array Oper) : Nat → List FR → Prop
  | _, [] => True
  | i, r :: rs => (∃ o, ops[i]? = some o ∧ r.dst = o.dst ∧ r.rs = slotsOf ops.toList o) ∧ Meta ops (i + 1) rs

def trOf : Nat → List FR → List TRec → List TRec
  | _, [], acc => acc
  | i, r :: rs, acc => trOf (i + 1) rs (⟨i, r.rd, namesOf r.upd⟩ :: acc)

section
variable {P : Program} {S : SP} {E : Env}

theorem drop_cons {ops : Array Oper} {i : Nat} {o : Oper} {rest : List Oper} (h : ops.toList.drop i = o :: rest) : ops[i]? = some o ∧ ops.toList.drop (i + 1) = rest := by
  constructor
  · have : (ops.toList.drop i)[0]? = some o := by rw [h]; rfl
    rw [List.getElem?_drop] at this
    simpa using this
  · rw [← List.drop_drop, h]; rfl

theorem KnF.drop {kn : List (Nat × Bool)} {st : St} {objs : Objs} {dst : Option Nat} {sv : SV} (h : KnF kn (getT st)) : KnF (dropK dst kn) (getT (putDst ⟨st.tmps, objs⟩ dst sv)) := by
  intro s b hs
  cases dst with
  | none => exact h s b hs
  | some d =>
    simp only [dropK] at hs
    have hk : ∀ l : List (Nat × Bool), lookN s (l.filter fun p => !eqN p.1 d) = some b → s ≠ d ∧ lookN s l = some b := by
      intro l
      induction l with
      | nil => simp [lookN]
      | cons p l ih =>
        intro hl
        rw [List.filter_cons] at hl
        cases hb : eqN p.1 d with
        | true =>
          have e := eqN_eq hb
          simp [hb] at hl
          obtain ⟨h1, h2⟩ := ih hl
          refine ⟨h1, ?_⟩
          obtain ⟨p1, p2⟩ := p
          simp only [lookN]
          have : eqN p1 s = false := by
            cases hb' : eqN p1 s with
            | false => rfl
            | true => exact absurd ((eqN_eq hb').symm.trans e) h1
          rw [this]; exact h2
        | false =>
          simp [hb] at hl
          obtain ⟨p1, p2⟩ := p
          simp only [lookN] at hl ⊢
          cases hb' : eqN p1 s with
          | true => rw [hb'] at hl; exact ⟨fun e => (by rw [← e, hb'] at hb; cases hb), hl⟩
          | false => rw [hb'] at hl; exact ih hl
    obtain ⟨h1, h2⟩ := hk kn hs
    obtain ⟨e, he, hd⟩ := h s b h2
    refine ⟨e, ?_, hd⟩
    simp only [getT, putDst, nthD_putL]
    rw [if_neg (fun hh => h1 hh.1)]
    exact he

theorem KnF.cons {kn : List (Nat × Bool)} {get : Nat → SV} {s : Nat} {b : Bool} {e : BE} (h : KnF kn get) (hs : get s = .bool e) (he : e.den = b) : KnF ((s, b) :: kn) get := by
  intro t c ht
  simp only [lookN] at ht
  cases hb : eqN s t with
  | true =>
    rw [hb] at ht
    simp only [cond_true, Option.some.injEq] at ht
    rw [← eqN_eq hb, ← ht]
    exact ⟨e, hs, he⟩
  | false => rw [hb] at ht; exact h t c ht

/-- A guard, decided. -/
theorem guard_run {all : List Oper} {st : St} {kn : List (Nat × Bool)} {o : Oper} {yes no : List (Nat × Bool) → Prop} (hkn : KnF kn (getT st)) (h : guardVC all st kn o.guard yes no) :
    ∃ kn', KnF kn' (getT st) ∧ ((GuardIs all o (getT st) true ∧ yes kn') ∨ (GuardIs all o (getT st) false ∧ no kn')) := by
  unfold guardVC at h
  split at h
  · rename_i hg
    exact ⟨kn, hkn, .inl ⟨.inr (.inl ⟨hg, rfl⟩), h⟩⟩
  · rename_i j want hg
    split at h
    · exact h.elim
    · rename_i s hs
      have mk : ∀ (e : BE) (kn' : List (Nat × Bool)), KnF kn' (getT st) → getT st s = .bool e → (bif e.den == want then yes kn' else no kn') →
          ∃ kn', KnF kn' (getT st) ∧ ((GuardIs all o (getT st) true ∧ yes kn') ∨ (GuardIs all o (getT st) false ∧ no kn')) := by
        intro e kn' hk he hh
        cases hv : e.den == want with
        | true => rw [hv] at hh; exact ⟨kn', hk, .inl ⟨.inr (.inr ⟨j, want, s, e, hg, hs, he, hv.symm⟩), hh⟩⟩
        | false => rw [hv] at hh; exact ⟨kn', hk, .inr ⟨.inr (.inr ⟨j, want, s, e, hg, hs, he, hv.symm⟩), hh⟩⟩
      split at h
      · rename_i b hb
        obtain ⟨e, he, hd⟩ := hkn s b hb
        exact mk e kn hkn he (by rw [hd]; exact h)
      · split at h
        · rename_i he
          refine mk .t kn hkn he ?_
          cases want <;> exact h
        · rename_i he
          refine mk .f kn hkn he ?_
          cases want <;> exact h
        · rename_i b he
          cases hb : b () with
          | true =>
            refine mk (.s b) ((s, true) :: kn) (hkn.cons he hb) he ?_
            have := h.1 hb
            simp only [BE.den_s, hb]
            cases want <;> exact this
          | false =>
            refine mk (.s b) ((s, false) :: kn) (hkn.cons he hb) he ?_
            have := h.2 hb
            simp only [BE.den_s, hb]
            cases want <;> exact this
        · rename_i he
          exact ⟨kn, hkn, .inr ⟨.inl ⟨j, want, s, hg, hs, he, rfl⟩, h⟩⟩
        · exact h.elim

theorem exec_run (hE : EOk P E) (hS : ∀ f svs objs r objs', S f svs objs r objs' → SpecX P f svs objs r objs') {ops : Array Oper} {i : Nat} {o : Oper} (ho : ops[i]? = some o) {st : St} {kn : List (Nat × Bool)} {K : SV → Objs → List Nat → Prop}
    (hkn : KnF kn (getT st)) (hg : GuardIs ops.toList o (getT st) true) (h : execVC S E o st kn K) :
    ∃ sv upd rd, OpRec P ops st.tmps.length i (fs st) ⟨o.dst, sv, upd, slotsOf ops.toList o, rd⟩ ∧ K sv upd rd := by
  unfold execVC at h
  split at h
  · rename_i x args types hop
    split at h
    · rename_i f caps hx
      unfold callVC at h
      split at h
      · exact h.elim
      · rename_i objs hsel
        obtain ⟨r, objs', hs, hok, hK⟩ := h.h
        have hspec := hS _ _ _ _ _ hs
        exact ⟨_, _, _, opRec_call (F := fs st) ho hg hop hx hsel rfl hspec hok.h, hK⟩
    · exact h.elim
  · split at h
    · exact h.elim
    · rename_i sv upd rd hev
      exact ⟨sv, upd, rd, opRec_op (F := fs st) hE ho hkn hg hev trivial, h⟩
    · rename_i sv upd rd p hev
      exact ⟨sv, upd, rd, opRec_op (F := fs st) hE ho hkn hg hev h.1.h, h.2⟩

theorem vcOps_run (hE : EOk P E) (hS : ∀ f svs objs r objs', S f svs objs r objs' → SpecX P f svs objs r objs') {ops : Array Oper} :
    ∀ (rest : List Oper) (i : Nat) (st : St) (kn : List (Nat × Bool)) (tr : List TRec) (K : St → List TRec → Prop), ops.toList.drop i = rest → KnF kn (getT st) →
      vcOps S E ops.toList rest i st kn tr K →
      ∃ (rs : List FR) (st' : St), rs.length = rest.length ∧ Runs P ops st.tmps.length i (fs st) rs ∧ fs st' = endF st.tmps.length (fs st) rs ∧ st'.tmps.length = st.tmps.length ∧ Meta ops i rs ∧ K st' (trOf i rs tr)
  | [], i, st, kn, tr, K, _, _, h => ⟨[], st, rfl, trivial, rfl, rfl, trivial, h⟩
  | o :: rest, i, st, kn, tr, K, hd, hkn, h => by
      obtain ⟨ho, hd'⟩ := drop_cons hd
      simp only [vcOps] at h
      obtain ⟨kn', hkn', ⟨hg, h⟩ | ⟨hg, h⟩⟩ := guard_run hkn h
      · obtain ⟨sv, upd, rd, hrec, h⟩ := exec_run hE hS ho hkn' hg h
        obtain ⟨rs, st', h1, h2, h3, h4, h5, h6⟩ := vcOps_run hE hS rest (i + 1) _ _ _ K hd' (hkn'.drop (objs := updObjs st.objs upd) (dst := o.dst) (sv := sv)) h
        rw [put_len] at h2 h3 h4
        rw [fs_put st upd o.dst sv (slotsOf ops.toList o) rd] at h2 h3
        exact ⟨_ :: rs, st', by simp [h1], ⟨hrec, h2⟩, h3, h4, ⟨⟨o, ho, rfl, rfl⟩, h5⟩, h6⟩
      · obtain ⟨rs, st', h1, h2, h3, h4, h5, h6⟩ := vcOps_run hE hS rest (i + 1) _ _ _ K hd' (hkn'.drop (objs := st.objs) (dst := o.dst) (sv := .tup [])) h
        have hp := fs_put st [] o.dst (.tup []) (slotsOf ops.toList o) []
        have hl := put_len st st.objs o.dst (.tup [])
        simp only [updObjs] at hp
        rw [hl] at h2 h3 h4
        rw [hp] at h2 h3
        exact ⟨_ :: rs, st', by simp [h1], ⟨opRec_skip ho hg, h2⟩, h3, h4, ⟨⟨o, ho, rfl, rfl⟩, h5⟩, h6⟩

/-- The operations in the text's order. -/
theorem runs_text {ops : Array Oper} {N : Nat} {dl : List Deferred} {Q : Exit → Act → World → Prop} : ∀ (rs : List FR) (i : Nat) (F : FS), i + rs.length = ops.size → Runs P ops N i F rs → ∀ (η : OEnv) (G : Nat → Prop) (a : Act) (w : World), Holds dl η G N F.1 F.2 a w →
    (∀ η' G' a' w', Holds dl η' G' N (endF N F rs).1 (endF N F rs).2 a' w' → Evol η G w η' G' w' → Q .normal a' w') → wpOps P ops Q (List.range' i rs.length) a w
  | [], i, F, _, _, η, G, a, w, H, hK => by simpa [wpOps] using hK η G a w H (Evol.refl _ _ _)
  | r :: rs, i, F, hl, hr, η, G, a, w, H, hK => by
      simp only [List.length_cons, List.range'_succ]
      rw [wpOps_cons]
      refine hr.1 F (fun _ _ => rfl) (fun _ _ => rfl) Q _ η G a w H fun η' G' a' w' H' hev => ?_
      exact runs_text rs (i + 1) _ (by simp at hl; omega) hr.2 η' G' a' w' H' fun η'' G'' a'' w'' H'' hev' => hK _ _ _ _ H'' (hev.trans hev')
end
end Go.SX
