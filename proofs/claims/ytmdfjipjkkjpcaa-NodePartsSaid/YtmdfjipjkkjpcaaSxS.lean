/- SX: loops, ends, and the soundness of 'vc'. -/
import Derived.Deep.LoopGhost
import Derived.Test.YtmdfjipjkkjpcaaSxR
namespace Go.SX

section
variable {P : Program} {E : Env} {S : SP} {η : OEnv} {G : Nat → Prop} {N : Nat} {dl : List Deferred} {get : Nat → SV} {ob : Nat → Option TObj} {a : Act} {w : World}

mutual
theorem names_rel {η' : OEnv} {G' : Nat → Prop} {l : List Nat} (hη : ∀ k ∈ l, ∀ o, η k = some o → ∃ o', η' k = some o' ∧ (o'.dead = false → o' = o)) (hG : ∀ b, G b → G' b) :
    ∀ (s : SV) (v : Value), namesOnly l s = true → SVRel η G w s v → SVRel η' G' w s v
  | .any, _, _, _ => by simp [SVRel]
  | .nil, _, _, h => by simpa [SVRel] using h
  | .int _ _, _, _, h => by simpa [SVRel] using h
  | .bool _, _, _, h => by simpa [SVRel] using h
  | .str _, _, _, h => by simpa [SVRel] using h
  | .val _, _, _, h => by simpa [SVRel] using h
  | .dat d, v, _, h => by
      simp only [SVRel] at h ⊢
      exact DVRel.mono hG (fun _ _ => rfl) d v h
  | .nn d, v, _, h => by
      simp only [SVRel] at h ⊢
      exact ⟨DVRel.mono hG (fun _ _ => rfl) d v h.1, h.2⟩
  | .view k d, v, hn, h => by
      simp only [SVRel] at h ⊢
      obtain ⟨o, ho, h1c, h⟩ := h
      obtain ⟨o', ho', h'⟩ := hη k (memN_iff.1 hn) o ho
      exact ⟨o', ho', h1c, fun hd => by have e := h' hd; subst e; exact h hd⟩
  | .own k, v, hn, h => by
      simp only [SVRel] at h ⊢
      obtain ⟨o, ho, h1c, h⟩ := h
      obtain ⟨o', ho', h'⟩ := hη k (memN_iff.1 hn) o ho
      exact ⟨o', ho', h1c, fun hd => by have e := h' hd; subst e; exact h hd⟩
  | .csl k _ n, v, hn, h => by
      simp only [SVRel] at h ⊢
      obtain ⟨o, ho, h1c, h⟩ := h
      obtain ⟨o', ho', h'⟩ := hη k (memN_iff.1 hn) o ho
      exact ⟨o', ho', h1c, fun hd => by have e := h' hd; subst e; exact h hd⟩
  | .loc k off, v, hn, h => by
      simp only [SVRel] at h ⊢
      obtain ⟨o, ho, h1c, h⟩ := h
      obtain ⟨o', ho', h'⟩ := hη k (memN_iff.1 hn) o ho
      exact ⟨o', ho', h1c, fun hd => by have e := h' hd; subst e; exact h hd⟩
  | .op k wd i off, v, hn, h => by
      simp only [SVRel] at h ⊢
      obtain ⟨o, ho, h1c, h⟩ := h
      obtain ⟨o', ho', h'⟩ := hη k (memN_iff.1 hn) o ho
      exact ⟨o', ho', h1c, fun hd => by have e := h' hd; subst e; exact h hd⟩
  | .ep none wd cells off, v, _, h => by
      simp only [SVRel] at h ⊢
      obtain ⟨b, o, hv, hb, h⟩ := h
      refine ⟨b, o, hv, hG b hb, fun j hj => ?_⟩
      obtain ⟨u, hu, hd⟩ := h j hj
      exact ⟨u, hu, DVRel.mono hG (fun _ _ => rfl) _ _ hd⟩
  | .ep (some k) wd cells off, v, hn, h => by
      simp only [SVRel] at h ⊢
      obtain ⟨o, ho, h1c, h⟩ := h
      obtain ⟨o', ho', h'⟩ := hη k (memN_iff.1 hn) o ho
      exact ⟨o', ho', h1c, fun hd => by have e := h' hd; subst e; exact h hd⟩
  | .agg cs, v, hn, h => by
      simp only [SVRel] at h ⊢
      obtain ⟨vs, hv, h⟩ := h
      exact ⟨vs, hv, namess_rel hη hG cs vs hn h⟩
  | .tup cs, v, hn, h => by
      simp only [SVRel] at h ⊢
      obtain ⟨vs, hv, h⟩ := h
      exact ⟨vs, hv, namess_rel hη hG cs vs hn h⟩
  | .fn f cs, v, hn, h => by
      simp only [SVRel] at h ⊢
      obtain ⟨vs, hv, h⟩ := h
      exact ⟨vs, hv, namess_rel hη hG cs vs hn h⟩
theorem namess_rel {η' : OEnv} {G' : Nat → Prop} {l : List Nat} (hη : ∀ k ∈ l, ∀ o, η k = some o → ∃ o', η' k = some o' ∧ (o'.dead = false → o' = o)) (hG : ∀ b, G b → G' b) :
    ∀ (s : List SV) (v : List Value), namesOnlys l s = true → SVRels η G w s v → SVRels η' G' w s v
  | [], [], _, _ => by simp [SVRels]
  | [], _ :: _, _, h => by simp [SVRels] at h
  | _ :: _, [], _, h => by simp [SVRels] at h
  | c :: cs, v :: vs, hn, h => by
      simp only [namesOnlys, Bool.and_eq_true] at hn
      simp only [SVRels] at h ⊢
      exact ⟨names_rel hη hG c v hn.1 h.1, namess_rel hη hG cs vs hn.2 h.2⟩
end

theorem keepT_length (W l : List Nat) : ∀ (i : Nat) (ts : List SV), (keepT W l i ts).length = ts.length
  | _, [] => rfl
  | i, _ :: r => by simp [keepT, keepT_length W l (i + 1) r]

theorem keepT_at (W l : List Nat) : ∀ (i : Nat) (ts : List SV) (t : Nat), nthD (keepT W l i ts) t .any = .any ∨ (nthD (keepT W l i ts) t .any = nthD ts t .any ∧ namesOnly l (nthD ts t .any) = true)
  | _, [], _ => .inl (by simp [keepT, nthD])
  | i, s :: r, 0 => by
      simp only [keepT, nthD]
      cases memN i W <;> cases h : namesOnly l s <;> simp [h]
  | i, s :: r, t + 1 => by
      simpa only [keepT, nthD] using keepT_at W l (i + 1) r t

theorem putAll_length : ∀ (upd : List (Nat × SV)) (ts : List SV), (putAll ts upd).length = ts.length
  | [], _ => rfl
  | (k, s) :: r, ts => by rw [putAll, putAll_length r, putL_length]

theorem putAll_at : ∀ (upd : List (Nat × SV)) (ts : List SV) (t : Nat), nthD (putAll ts upd) t .any = nthD ts t .any ∨ ∃ s, (t, s) ∈ upd ∧ nthD (putAll ts upd) t .any = s
  | [], _, _ => .inl rfl
  | (k, s) :: r, ts, t => by
      rw [putAll]
      rcases putAll_at r (putL ts k s) t with h | ⟨s', hm, h⟩
      · rw [h, nthD_putL]
        split
        · rename_i hk; exact .inr ⟨s, by rw [hk.1]; simp, rfl⟩
        · exact .inl rfl
      · exact .inr ⟨s', List.mem_cons_of_mem _ hm, h⟩

theorem leSlots_at {ρ : List (Nat × Option Nat)} {nm : List Nat} {ts : List SV} : ∀ {upd : List (Nat × SV)} {t : Nat} {s : SV}, leSlots ρ nm ts ob upd → (t, s) ∈ upd → leSV ρ nm [] ob s (nthD ts t .any)
  | [], _, _, _, h => by cases h
  | (k, s') :: r, t, s, h, hm => by
      simp only [leSlots] at h
      rcases List.mem_cons.1 hm with e | hm
      · cases e; exact h.1
      · exact leSlots_at h.2 hm

theorem renOnly_spec {lp : List Nat} : ∀ {ρ : List (Nat × Option Nat)} {k : Nat}, renOnly lp ρ = true → k ∉ lp → renN ρ k = some k
  | [], k, _, _ => rfl
  | (j, x) :: r, k, h, hk => by
      simp only [renOnly, Bool.and_eq_true] at h
      have hne : eqN j k = false := by
        cases hb : eqN j k with
        | true => exact absurd (eqN_eq hb ▸ memN_iff.1 h.1) hk
        | false => rfl
      have := renOnly_spec (ρ := r) h.2 hk
      unfold renN at this ⊢
      simp only [lookN, hne, cond_false]
      exact this

/-- A state of a function, seen from its start. -/
structure Here (dl : List Deferred) (η₀ : OEnv) (G₀ : Nat → Prop) (w₀ : World) (N : Nat) (st : St) (a : Act) (w : World) : Prop where
  len : st.tmps.length = N
  h : ∃ η G, Holds dl η G st.tmps.length (getT st) (getO st) a w ∧ Evol η₀ G₀ w₀ η G w

theorem here_le {η₀ : OEnv} {G₀ : Nat → Prop} {w₀ : World} (hb : ∀ k o, η₀ k = some o → isBor k = true) {st : St} (h : Here dl η₀ G₀ w₀ N st a w) {W lp : List Nat} {ρ : List (Nat × Option Nat)} {upd : List (Nat × SV)} {objs : Objs}
    (hl : LeL W lp ρ st upd objs) : Here dl η₀ G₀ w₀ N (mkInv W lp st.tmps upd objs) a w := by
  obtain ⟨hlen, η, G, H, hev⟩ := h
  obtain ⟨hs, ho, hh⟩ := hl.h
  have hh := hh.h
  simp only [Bool.and_eq_true] at hh
  obtain ⟨hn, hr⟩ := hh
  obtain ⟨h1, h2, h3⟩ := le_state H ho hn
  refine ⟨by simp [mkInv, putAll_length, keepT_length, hlen], leE η ρ objs, inG η G [], ⟨?_, H.df, ?_, h1, h2⟩, hev.le hb h3⟩
  · simp only [mkInv, putAll_length, keepT_length]; exact H.sz
  · intro t
    simp only [getT, mkInv]
    rcases putAll_at upd (keepT W (minusN (namesOf objs) lp) 0 st.tmps) t with h | ⟨s, hm, h⟩
    · rw [h]
      rcases keepT_at W (minusN (namesOf objs) lp) 0 st.tmps t with h | ⟨h, hno⟩
      · rw [h]; simp [SVRel]
      · rw [h]
        refine names_rel ?_ h3.g _ _ hno (H.tm t)
        intro k hk o hko
        simp only [minusN, List.mem_filter, Bool.not_eq_true', memN_false] at hk
        exact leE_ren (memN_iff.2 hk.1) (renOnly_spec hr hk.2) hko
    · rw [h]
      exact leSV_rel H s _ _ (leSlots_at hs hm) (H.tm t)

theorem nthD_ext : ∀ {ts ts' : List SV}, ts.length = ts'.length → (∀ t, nthD ts t .any = nthD ts' t .any) → ts = ts'
  | [], [], _, _ => rfl
  | [], _ :: _, h, _ => by simp at h
  | _ :: _, [], h, _ => by simp at h
  | x :: r, y :: r', h, he => by
      have h0 := he 0
      simp only [nthD] at h0
      rw [h0, nthD_ext (ts := r) (ts' := r') (by simpa using h) fun t => by have := he (t + 1); simpa only [nthD] using this]

theorem putAll_ext : ∀ (upd : List (Nat × SV)) {ts ts' : List SV}, ts.length = ts'.length → (∀ t, t ∉ keysOf upd → nthD ts t .any = nthD ts' t .any) → putAll ts upd = putAll ts' upd
  | [], ts, ts', hl, h => nthD_ext hl fun t => h t (by simp [keysOf])
  | (k, s) :: r, ts, ts', hl, h => by
      rw [putAll, putAll]
      refine putAll_ext r (by rw [putL_length, putL_length, hl]) fun t ht => ?_
      rw [nthD_putL, nthD_putL, hl]
      split
      · rfl
      · rename_i hk
        by_cases hkt : t = k
        · have hlt : ¬ k < ts'.length := fun hlt => hk ⟨hkt, by omega⟩
          have e1 : ∀ (l : List SV) (i : Nat), ¬ i < l.length → nthD l i .any = .any := by
            intro l
            induction l with
            | nil => intro i _; rfl
            | cons x l ih => intro i hi; cases i with
              | zero => simp at hi
              | succ i => simp only [nthD]; exact ih i (by simpa using hi)
          rw [hkt, e1 ts k (by omega), e1 ts' k hlt]
        · exact h t (by simp [keysOf, hkt, ht])

theorem keepT_nth (W l : List Nat) : ∀ (i : Nat) (ts : List SV) (t : Nat), nthD (keepT W l i ts) t .any = bif memN (i + t) W then .any else bif namesOnly l (nthD ts t .any) then nthD ts t .any else .any
  | i, [], t => by simp only [keepT, nthD]; cases memN (i + t) W <;> simp [namesOnly]
  | i, s :: r, 0 => by simp only [keepT, nthD, Nat.add_zero]
  | i, s :: r, t + 1 => by
      simp only [keepT, nthD]
      rw [keepT_nth W l (i + 1) r t, show i + 1 + t = i + (t + 1) by omega]

theorem keep_eq {W lp : List Nat} {ts ts' : List SV} {upd : List (Nat × SV)} {objs : Objs} (h : keepT (keysOf upd ++ W) (minusN (namesOf objs) lp) 0 ts' = keepT (keysOf upd ++ W) (minusN (namesOf objs) lp) 0 ts) : mkInv W lp ts' upd objs = mkInv W lp ts upd objs := by
  have key : ∀ ts : List SV, putAll (keepT W (minusN (namesOf objs) lp) 0 ts) upd = putAll (keepT (keysOf upd ++ W) (minusN (namesOf objs) lp) 0 ts) upd := fun ts => putAll_ext upd (by rw [keepT_length, keepT_length]) fun t ht => by
    rw [keepT_nth, keepT_nth]
    have : memN (0 + t) (keysOf upd ++ W) = memN (0 + t) W := by
      have : ∀ l : List Nat, 0 + t ∉ l → memN (0 + t) (l ++ W) = memN (0 + t) W := by
        intro l
        induction l with
        | nil => intro _; rfl
        | cons x l ih =>
          intro hx
          simp only [List.mem_cons, not_or] at hx
          have : eqN x (0 + t) = false := by
            cases hb : eqN x (0 + t) with
            | true => exact absurd (eqN_eq hb).symm hx.1
            | false => rfl
          simp only [List.cons_append, memN, this, cond_false]
          exact ih hx.2
      exact this _ (by simpa using ht)
    rw [this]
  simp only [mkInv, key, h]

/-- What is gone on with at an exit. -/
def Goes (dl : List Deferred) (η₀ : OEnv) (G₀ : Nat → Prop) (w₀ : World) (N : Nat) (K : Exit → St → Prop) (Q : Exit → Act → World → Prop) : Prop := ∀ ex st a w, K ex st → Here dl η₀ G₀ w₀ N st a w → Q ex a w

def borNames : Objs → Bool
  | [] => true
  | (k, _) :: r => isBor k && borNames r

theorem borNames_spec : ∀ {objs : Objs} {k : Nat} {x : TObj}, borNames objs = true → (k, x) ∈ objs → isBor k = true
  | [], _, _, _, h => by cases h
  | (j, y) :: r, k, x, h, hm => by
      simp only [borNames, Bool.and_eq_true] at h
      rcases List.mem_cons.1 hm with e | hm
      · cases e; exact h.1
      · exact borNames_spec h.2 hm

theorem vc_sound (hE : EOk P E) (hmix : P.follows .mixedOrders = true) (hS : ∀ f svs objs r objs', S f svs objs r objs' → SpecX P f svs objs r objs')
    {η₀ : OEnv} {G₀ : Nat → Prop} {w₀ : World} (hb : ∀ k o, η₀ k = some o → isBor k = true) : ∀ (c : Code) (st : St) (K : Exit → St → Prop) (Q : Exit → Act → World → Prop) (a : Act) (w : World),
      vc S E c st K → Here dl η₀ G₀ w₀ N st a w → Goes dl η₀ G₀ w₀ N K Q → c.wp P Q a w
  | .skip, st, K, Q, a, w, h, hh, hg => wp_skip (hg _ _ _ _ (by simpa only [vc] using h) hh)
  | .region id ops draw, st, K, Q, a, w, h, hh, hg => by
      obtain ⟨hlen, η, G, H, hev⟩ := hh
      simp only [vc] at h
      exact region_sound hE hmix hS (K := K .normal) h H fun st' η' G' a' w' hK hl' H' hev' => hg _ _ _ _ hK ⟨by omega, η', G', H', hev.trans hev'⟩
  | .seq x y, st, K, Q, a, w, h, hh, hg => by
      simp only [vc] at h
      refine wp_seq (vc_sound hE hmix hS hb x st _ _ a w h hh ?_)
      intro ex st' a' w' hk hh'
      cases ex <;> simp only [Exit.then, seqK] at hk ⊢
      case normal => exact vc_sound hE hmix hS hb y st' K Q a' w' hk hh' hg
      all_goals exact hg _ _ _ _ hk hh'
  | .cond c x y, st, K, Q, a, w, h, hh, hg => by
      simp only [vc] at h
      obtain ⟨hlen, η, G, H, hev⟩ := id hh
      have hr := opnd_rel H c
      split at h
      · rename_i hc; rw [hc] at hr
        exact wp_cond_true (by simpa [SVRel, BE.den] using hr) (vc_sound hE hmix hS hb x st K Q a w h hh hg)
      · rename_i hc; rw [hc] at hr
        exact wp_cond_false (by simpa [SVRel, BE.den] using hr) (vc_sound hE hmix hS hb y st K Q a w h hh hg)
      · rename_i b hc; rw [hc] at hr
        refine wp_cond_split (t := b ()) (by simpa [SVRel, BE.den] using hr) (fun e => ?_) (fun e => ?_)
        · exact vc_sound hE hmix hS hb x st K Q a w (h.1 e) hh hg
        · exact vc_sound hE hmix hS hb y st K Q a w (h.2 e) hh hg
      · exact h.elim
  | .block id x, st, K, Q, a, w, h, hh, hg => by
      simp only [vc] at h
      refine wp_block (vc_sound hE hmix hS hb x st _ _ a w h hh ?_)
      intro ex st' a' w' hk hh'
      cases ex <;> simp only [Exit.inBlock, blockK] at hk ⊢
      case exit i =>
        cases hi : eqN i id with
        | true =>
          rw [hi] at hk
          rw [if_pos (eqN_eq hi)]
          exact hg _ _ _ _ hk hh'
        | false =>
          rw [hi] at hk
          rw [if_neg (eqN_ne hi)]
          exact hg _ _ _ _ hk hh'
      all_goals exact hg _ _ _ _ hk hh'
  | .loop x, st, K, Q, a, w, h, hh, hg => by
      simp only [vc] at h
      obtain ⟨α, lp, upd, objs, I, m, x₀, ρ₀, hI, hl, hround⟩ := h.h
      refine wp_loop_ghost (fun n a w => ∃ y, m y = n ∧ I y ∧ Here dl η₀ G₀ w₀ N (mkInv (writes x) lp st.tmps (upd y) (objs y)) a w) (m x₀) ⟨x₀, rfl, hI, here_le hb hh hl⟩ ?_
      rintro n a w ⟨y, rfl, hIy, hhy⟩
      refine vc_sound hE hmix hS hb x _ _ _ a w (hround y hIy) hhy ?_
      intro ex st' a' w' hk hh'
      cases ex <;> simp only [Exit.then, loopK] at hk ⊢
      case normal =>
        obtain ⟨x', ρ, hI', hm, hkeep, hl'⟩ := hk
        refine ⟨m x', hm, x', rfl, hI', ?_⟩
        rw [← keep_eq hkeep.h]
        exact here_le hb hh' hl'
      all_goals exact hg _ _ _ _ hk hh'
  | .exit id, st, K, Q, a, w, h, hh, hg => wp_exit (hg _ _ _ _ (by simpa only [vc] using h) hh)
  | .ret, st, K, Q, a, w, h, hh, hg => wp_ret (hg _ _ _ _ (by simpa only [vc] using h) hh)
  | .goto _, _, _, _, _, _, h, _, _ => by simp [vc] at h
  | .label _, _, _, _, _, _, h, _, _ => by simp [vc] at h
  | .scope _, _, _, _, _, _, h, _, _ => by simp [vc] at h
  | .refuse _, _, _, _, _, _, h, _, _ => by simp [vc] at h
  | .rangeFunc _ _ _ _, _, _, _, _, _, h, _, _ => by simp [vc] at h

def resRun (tmps : Array Value) (rv : ResultVar) : Sem Value :=
  match rv with
  | .tmp t => pure (tmps.getD t undef)
  | .cell x t => do loadVar t (← asAddr (tmps.getD x undef))

theorem resSV_run (hE : EOk P E) {st : St} (H : Holds dl η G N (getT st) (getO st) a w) {rv : ResultVar} {s : SV} (h : resSV E st rv = some s) :
    ∃ v, (resRun a.tmps rv).run P w = .ok v w ∧ SVRel η G w s v := by
  cases rv with
  | tmp t =>
    simp only [resSV, Option.some.injEq] at h
    subst h
    exact ⟨_, rfl, H.tm t⟩
  | cell x T =>
    unfold resSV at h
    simp only at h
    split at h
    · rename_i ti k off hti hx
      split at h
      · rename_i T' cs hob
        have hp := H.tm x
        rw [hx] at hp
        have hlook : ∃ rd, evLoad (E.ti T) (getO st) (.loc k off) = .ok s [] rd .no := by
          simp only [evLoad, hti, hob]
          cases hag : ti.td.isAgg with
          | true =>
            rw [hag] at h
            simp only [cond_true] at h ⊢
            cases hle : leN (off + ti.size) cs.length with
            | true => rw [hle] at h; simp only [cond_true, Option.some.injEq] at h; subst h; exact ⟨_, rfl⟩
            | false => rw [hle] at h; cases h
          | false =>
            rw [hag] at h
            simp only [cond_false] at h ⊢
            cases hle : ltN off cs.length with
            | true => rw [hle] at h; simp only [cond_true, Option.some.injEq] at h; subst h; exact ⟨_, rfl⟩
            | false => rw [hle] at h; cases h
        obtain ⟨rd, hl⟩ := hlook
        obtain ⟨_, v, hrun, hv⟩ := sound_load hE H hp hl
        obtain ⟨o, hk, hr⟩ := obj_of H hob
        simp only [ObjRel] at hr
        simp only [SVRel] at hp
        obtain ⟨o', hk', _, hp⟩ := hp
        rw [hk] at hk'; cases hk'
        obtain ⟨b, _, hvp⟩ := hp hr.1
        refine ⟨v, ?_, hv⟩
        rw [hvp] at hrun
        simp only [resRun, hvp]
        simpa [Instr.loadAt, asAddr, Instr.sureAddr] using hrun
      · cases h
    · cases h

theorem resSVs_run (hE : EOk P E) {st : St} (H : Holds dl η G N (getT st) (getO st) a w) : ∀ {rs : List ResultVar} {ss : List SV}, resSVs E st rs = some ss →
    ∃ vs, (rs.mapM (resRun a.tmps)).run P w = .ok vs w ∧ SVRels η G w ss vs
  | [], ss, h => by
      simp only [resSVs, Option.some.injEq] at h
      subst h
      exact ⟨[], rfl, by simp [SVRels]⟩
  | r :: rs, ss, h => by
      simp only [resSVs] at h
      split at h
      · rename_i s ss' h1 h2
        cases h
        obtain ⟨v, hv, hr⟩ := resSV_run hE H h1
        obtain ⟨vs, hvs, hrs⟩ := resSVs_run hE H h2
        refine ⟨v :: vs, ?_, by simp only [SVRels]; exact ⟨hr, hrs⟩⟩
        rw [List.mapM_cons]
        rw [Sem.run_bind, hv]
        simp only [Result.andThen_ok]
        rw [Sem.run_bind, hvs]
        rfl
      · cases h

theorem oneOrTup_rel {ss : List SV} {vs : List Value} (h : SVRels η G w ss vs) : SVRel η G w (oneOrTup ss) (if h : vs.toArray.size = 1 then vs.toArray[0] else .tuple vs.toArray) := by
  match ss, vs, h with
  | [], [], _ => simp [oneOrTup, SVRel, SVRels]
  | [s], [v], h => simpa [oneOrTup, SVRels] using h
  | s :: s' :: ss, v :: v' :: vs, h =>
    simp only [oneOrTup, SVRel]
    refine ⟨v :: v' :: vs, ?_, h⟩
    simp
  | [], _ :: _, h => simp [SVRels] at h
  | [_], [], h => simp [SVRels] at h
  | [_], _ :: _ :: _, h => simp [SVRels] at h
  | _ :: _ :: _, [], h => simp [SVRels] at h
  | _ :: _ :: _, [_], h => simp [SVRels] at h

theorem ret_sound (hE : EOk P E) {η₀ : OEnv} {G₀ : Nat → Prop} {w₀ : World} (hb : ∀ k o, η₀ k = some o → isBor k = true) {st : St} (hh : Here dl η₀ G₀ w₀ N st a w) {fn : Func} {r : SV} {objs' : Objs}
    (h : RetVC E fn.results.toList st r objs') :
    a.defers = dl ∧ ∃ v, (results fn a.tmps).run P w = .ok v w ∧ ∃ η' G', SVRel η' G' w r v ∧ (∀ k, ObjOpt η' G' w (lookN k objs') (η' k)) ∧ Sep η' G' w ∧ Evol η₀ G₀ w₀ η' G' w := by
  obtain ⟨_, η, G, H, hev⟩ := hh
  unfold RetVC at h
  split at h
  · exact h.elim
  · rename_i ss hss
    obtain ⟨ρ, frz, h1, h2, h3⟩ := h
    obtain ⟨vs, hvs, hr⟩ := resSVs_run hE H hss
    obtain ⟨l1, l2, l3⟩ := le_state H h2 h3.h
    refine ⟨H.df, if h : vs.toArray.size = 1 then vs.toArray[0] else .tuple vs.toArray, ?_, leE η ρ objs', inG η G frz, leSV_rel H _ _ _ h1 (oneOrTup_rel hr), l1, l2, hev.le hb l3⟩
    show (do let vs ← fn.results.mapM (resRun a.tmps); pure (if h : vs.size = 1 then vs[0] else .tuple vs) : Sem Value).run P w = _
    rw [Sem.run_bind, Array.mapM_eq_mapM_toList, Sem.run_map, hvs]
    rfl

theorem nthD_replicate {α : Type} (d : α) : ∀ (n t : Nat), nthD (List.replicate n d) t d = d
  | 0, _ => rfl
  | n + 1, 0 => rfl
  | n + 1, t + 1 => by simpa [List.replicate_succ, nthD] using nthD_replicate d n t

/-- ████ A FUNCTION'S CONTRACT, off its symbolic execution. ████ -/
theorem spec_of_vc (hE : EOk P E) (hmix : P.follows .mixedOrders = true) (hS : ∀ f svs objs r objs', S f svs objs r objs' → SpecX P f svs objs r objs')
    {f : Nat} {fn : Func} {body : Code} (hf : P.funcs[f]? = some fn) (hbd : fn.body = some body) {svs : List SV} {objs : Objs} {r : SV} {objs' : Objs}
    (hn : leN svs.length fn.ntmps = true) (ho : borNames objs = true) (h : FnVC S E body fn.ntmps fn.results.toList svs objs r objs') : Spec P f svs objs r objs' := by
  intro η G vs w hsep hob hs
  have hlen := SVRels.length hs
  have hn : svs.length ≤ fn.ntmps := by simpa [leN_iff, ltN_iff] using hn
  refine calls_of_wp hf hbd ?_
  have hbor : ∀ k o, η k = some o → isBor k = true := by
    intro k o hk
    have := hob k
    rw [hk] at this
    cases hl : lookN k objs with
    | none => rw [hl] at this; exact this.elim
    | some x => exact borNames_spec ho (lookN_mem hl)
  refine vc_sound hE hmix hS hbor (N := fn.ntmps) body _ _ _ _ _ h ⟨?_, η, G, ⟨?_, rfl, ?_, hob, hsep⟩, Evol.refl η G w⟩ ?_
  · simp [st0]; omega
  · simp [st0, hlen]
  · intro t
    simp only [getT, st0]
    rw [nthD_append]
    split
    · rename_i ht
      obtain ⟨v, hv, hr⟩ := SVRels.nth t hs ht
      have : (vs.toArray ++ Array.replicate (fn.ntmps - vs.toArray.size) undef).getD t undef = v := by
        have ht' : t < vs.length := by omega
        simp only [Array.getD_eq_getD_getElem?, Array.getElem?_append]
        rw [if_pos (by simpa [leN_iff, ltN_iff] using ht')]
        simp [hv]
      exact this ▸ hr
    · rw [nthD_replicate]; simp [SVRel]
  · intro ex st a w hk hh
    cases ex <;> simp only at hk
    case normal =>
      obtain ⟨h1, v, h2, η', G', h3, h4, h5, h6⟩ := ret_sound hE hbor hh hk
      exact ⟨h1, v, h2, η', G', v, rfl, h3, h4, h5, h6⟩
    case ret =>
      obtain ⟨h1, v, h2, η', G', h3, h4, h5, h6⟩ := ret_sound hE hbor hh hk
      exact ⟨h1, v, h2, η', G', v, rfl, h3, h4, h5, h6⟩
    all_goals exact hk.elim
end
/- THE TYPES -/

theorem tiOk_of {P : Program} {E : Env} {T : Nat} {ti : TI} {z : Value} {d : TypeDesc} (h : (P.info? T).map (fun i => (i.size, i.bytes, i.zero)) = some (ti.size, ti.bytes, some z))
    (hz : ∀ η G w, SVRels η G w ti.zero z.cells.toList) (hd : P.underlying T = some d) (ht : TDOk P E ti.td d) (hl : ti.zero.length = ti.size) : TIOk P E T ti := by
  refine ⟨?_, ⟨d, hd, ht⟩, hl⟩
  cases hi : P.info? T with
  | none => rw [hi] at h; cases h
  | some i =>
    rw [hi] at h
    simp only [Option.map_some, Option.some.injEq, Prod.mk.injEq] at h
    exact ⟨i, z, rfl, h.1, h.2.1, h.2.2, hz⟩

theorem info_size {P : Program} {E : Env} {T a b : Nat} {z : Option Value} (h : (P.info? T).map (fun i => (i.size, i.bytes, i.zero)) = some (a, b, z)) (hs : szOf E T = a) (h0 : a ≠ 0) : ∃ j, P.info? T = some j ∧ j.size = szOf E T ∧ j.size ≠ 0 := by
  cases hi : P.info? T with
  | none => rw [hi] at h; cases h
  | some i =>
    rw [hi] at h
    simp only [Option.map_some, Option.some.injEq, Prod.mk.injEq] at h
    exact ⟨i, rfl, by rw [hs, h.1], by rw [h.1]; exact h0⟩

theorem info_zero {P : Program} {T a b : Nat} {z : Value} (h : (P.info? T).map (fun i => (i.size, i.bytes, i.zero)) = some (a, b, some z)) : ∃ j, P.info? T = some j ∧ j.zero = some z := by
  cases hi : P.info? T with
  | none => rw [hi] at h; cases h
  | some i =>
    rw [hi] at h
    simp only [Option.map_some, Option.some.injEq, Prod.mk.injEq] at h
    exact ⟨i, rfl, h.2.2⟩

end Go.SX
