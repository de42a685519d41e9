/- SX: append, of rows. -/
import Derived.Test.YtmdfjipjkkjpcaaSxW
namespace Go.SX

section
variable {P : Program} {E : Env} {η : OEnv} {G : Nat → Prop} {N : Nat} {dl : List Deferred} {get : Nat → SV} {ob : Nat → Option TObj} {a : Act} {w : World}

theorem row_lt {i j n wd : Nat} (hi : i < n) (hj : j < wd) : i * wd + j < n * wd := by
  have : (i + 1) * wd ≤ n * wd := Nat.mul_le_mul_right _ hi
  rw [Nat.add_mul] at this
  omega

def Rows (n wd : Nat) (xs : List Value) (R : Nat → Nat → Value → Prop) : Prop := ∀ i j, i < n → j < wd → ∃ u, xs[i * wd + j]? = some u ∧ R i j u

theorem Rows.app {n m wd : Nat} {xs ys : List Value} {R S : Nat → Nat → Value → Prop} (hl : xs.length = n * wd) (h : Rows n wd xs R) (h' : Rows m wd ys S) {T : Nat → Nat → Value → Prop}
    (h1 : ∀ i j u, i < n → j < wd → R i j u → T i j u) (h2 : ∀ i j u, i < m → j < wd → S i j u → T (n + i) j u) : Rows (n + m) wd (xs ++ ys) T := by
  intro i j hi hj
  by_cases hn : i < n
  · obtain ⟨u, hu, hr⟩ := h i j hn hj
    have := row_lt hn hj
    exact ⟨u, by rw [List.getElem?_append_left (by omega)]; exact hu, h1 i j u hn hj hr⟩
  · obtain ⟨u, hu, hr⟩ := h' (i - n) j (by omega) hj
    refine ⟨u, ?_, by have := h2 (i - n) j u (by omega) hj hr; rwa [show n + (i - n) = i by omega] at this⟩
    rw [show i * wd + j = xs.length + ((i - n) * wd + j) by
      have : i = n + (i - n) := by omega
      rw [hl]; conv => lhs; rw [this, Nat.add_mul]
      omega]
    rw [List.getElem?_append_right (by omega)]
    simpa using hu

theorem Rows.cur {n wd : Nat} {xs : List Value} {R : Nat → Nat → Value → Prop} (h : Rows n wd xs R) {cur : Array Value} (ht : cur.toList.take (n * wd) = xs) : ∀ i j, i < n → j < wd → ∃ u, cur[i * wd + j]? = some u ∧ R i j u := by
  intro i j hi hj
  obtain ⟨u, hu, hr⟩ := h i j hi hj
  rw [← ht, List.getElem?_take, if_pos (row_lt hi hj)] at hu
  exact ⟨u, by simpa [leN_iff, ltN_iff] using hu, hr⟩

theorem Rows.of_cur {n wd : Nat} {xs : List Value} {R : Nat → Nat → Value → Prop} {cur : Array Value} (h : ∀ i j, i < n → j < wd → ∃ u, cur[i * wd + j]? = some u ∧ R i j u) (ht : cur.toList.take (n * wd) = xs) : Rows n wd xs R := by
  intro i j hi hj
  obtain ⟨u, hu, hr⟩ := h i j hi hj
  exact ⟨u, by rw [← ht, List.getElem?_take, if_pos (row_lt hi hj)]; simpa using hu, hr⟩

/-- Data of the objects that are taken. -/
structure DeepOk (η : OEnv) (w : World) (d : DV) (v : Value) (ks B : List Nat) : Prop where
  rel : ORel w d v B
  nd : B.Nodup
  from_ : ∀ b ∈ B, ∃ k ∈ ks, ∃ o, η k = some o ∧ b ∈ o.main ++ o.inner

theorem deepCell_ok (H : Holds dl η G N get ob a w) {z d : DV} {s : SV} {ks : List Nat} {v : Value} (hs : SVRel η G w s v) (h : deepCell ob z s = some (d, ks)) : v.oneCell' = true ∧ (∀ k ∈ ks, ob k ≠ none) ∧ ∃ B, DeepOk η w d v ks B := by
  cases s with
  | int k e =>
    simp only [deepCell, Option.some.injEq, Prod.mk.injEq] at h; obtain ⟨rfl, rfl⟩ := h
    simp only [SVRel] at hs; subst hs
    exact ⟨rfl, by simp, [], ⟨by simp [ORel], .nil, by simp⟩⟩
  | bool e =>
    simp only [deepCell, Option.some.injEq, Prod.mk.injEq] at h; obtain ⟨rfl, rfl⟩ := h
    simp only [SVRel] at hs; subst hs
    exact ⟨rfl, by simp, [], ⟨by simp [ORel], .nil, by simp⟩⟩
  | str e =>
    simp only [deepCell, Option.some.injEq, Prod.mk.injEq] at h; obtain ⟨rfl, rfl⟩ := h
    simp only [SVRel] at hs; subst hs
    exact ⟨rfl, by simp, [], ⟨by simp [ORel], .nil, by simp⟩⟩
  | nil =>
    simp only [SVRel] at hs; subst hs
    cases z <;> simp only [deepCell, Option.some.injEq, Prod.mk.injEq] at h <;> first | cases h; done | skip
    · obtain ⟨rfl, rfl⟩ := h
      exact ⟨rfl, by simp, [], ⟨.inl ⟨rfl, rfl, rfl⟩, .nil, by simp⟩⟩
    · obtain ⟨rfl, rfl⟩ := h
      exact ⟨rfl, by simp, [], ⟨.inl ⟨rfl, rfl, rfl⟩, .nil, by simp⟩⟩
  | own k =>
    simp only [deepCell] at h
    simp only [SVRel] at hs
    obtain ⟨o, hk, h1, hv⟩ := hs
    split at h
    · rename_i T bs hob
      simp only [Option.some.injEq, Prod.mk.injEq] at h; obtain ⟨rfl, rfl⟩ := h
      obtain ⟨o', hk', hr⟩ := obj_of H hob
      rw [hk] at hk'; cases hk'
      simp only [ObjRel] at hr
      obtain ⟨hd, hin, hq⟩ := hr
      have hv := hv hd
      subst hv
      refine ⟨h1, by simp [hob], ?_⟩
      rcases hq with ⟨hv, hn, _⟩ | ⟨b, c, cs, T', hv, hm, hh, ⟨hs, hT⟩, hc, hcm, hQ⟩
      · exact ⟨[], ⟨.inl ⟨hv, List.eq_nil_of_length_eq_zero hn, rfl⟩, .nil, by simp⟩⟩
      · exact ⟨[b], ⟨.inr ⟨b, c, cs, T', hv, hh, by omega, hc, hcm, hQ, rfl⟩, by simp, fun b' hb' => ⟨k, by simp, o, hk, by simp at hb'; simp [hm, hb']⟩⟩⟩
    · rename_i T wd n row hob
      simp only [Option.some.injEq, Prod.mk.injEq] at h; obtain ⟨rfl, rfl⟩ := h
      obtain ⟨o', hk', hr⟩ := obj_of H hob
      rw [hk] at hk'; cases hk'
      simp only [ObjRel] at hr
      obtain ⟨hd, Bs, hB, hN, hq⟩ := hr
      have hv := hv hd
      subst hv
      refine ⟨h1, by simp [hob], ?_⟩
      rcases hq with ⟨hv, hn, _⟩ | ⟨b, c, cs, T', hv, hm, hh, ⟨hs, hT⟩, hc, hcm, hQ⟩
      · exact ⟨[], ⟨.inl ⟨hv, hn, rfl⟩, .nil, by simp⟩⟩
      · have hsub : ∀ b' ∈ (List.range (n ())).flatMap (fun i => (List.range wd).flatMap (Bs i)), b' ∈ o.inner := by
          intro b' hb'
          obtain ⟨i, hi, hb'⟩ := List.mem_flatMap.1 hb'
          obtain ⟨j, hj, hb'⟩ := List.mem_flatMap.1 hb'
          exact hB i j b' (List.mem_range.1 hi) (List.mem_range.1 hj) hb'
        have hnd : (b :: (List.range (n ())).flatMap (fun i => (List.range wd).flatMap (Bs i))).Nodup :=
          List.nodup_cons.2 ⟨fun hm' => H.sp.mi k o hk b (by simp [hm]) (hsub b hm'), hN⟩
        refine ⟨_, ⟨.inr ⟨b, c, cs, T', Bs, hv, hh, by omega, hc, hcm, hQ, rfl, hnd⟩, hnd, fun b' hb' => ⟨k, by simp, o, hk, ?_⟩⟩⟩
        rcases List.mem_cons.1 hb' with rfl | hb'
        · simp [hm]
        · exact List.mem_append_right _ (hsub b' hb')
    · cases h
  | _ => simp [deepCell] at h

theorem deepCells_ok (H : Holds dl η G N get ob a w) : ∀ {zs ds : List DV} {cs : List SV} {ks : List (List Nat)} {vs : List Value}, SVRels η G w cs vs → deepCells ob zs cs = some (ds, ks) →
    (∀ v ∈ vs, v.oneCell' = true) ∧ (∀ k ∈ flatN ks, ob k ≠ none) ∧ ∃ Bl : List (List Nat), Bl.length = vs.length ∧ ks.length = vs.length ∧ ∀ j v, vs[j]? = some v → DeepOk η w (nthD ds j (.bool fun _ => false)) v (ks.getD j []) (Bl.getD j [])
  | zs, ds, [], ks, [], _, h => by
      have h : ds = [] ∧ ks = [] := by cases zs <;> simp [deepCells] at h <;> exact h
      obtain ⟨rfl, rfl⟩ := h
      exact ⟨by simp, by simp [flatN], [], rfl, rfl, by simp⟩
  | zs, ds, [], ks, _ :: _, h, _ => by simp [SVRels] at h
  | zs, ds, c :: cs, ks, [], h, _ => by simp [SVRels] at h
  | zs, ds, c :: cs, ks, v :: vs, hs, h => by
      simp only [SVRels] at hs
      rw [show deepCells ob zs (c :: cs) = (match deepCell ob (match zs with | z :: _ => z | [] => .bool fun _ => false) c, deepCells ob zs.tail cs with
        | some (d, k), some (ds, ks) => some (d :: ds, k :: ks)
        | _, _ => none) by cases zs <;> rfl] at h
      split at h
      · rename_i d k ds' ks' h1 h2
        simp only [Option.some.injEq, Prod.mk.injEq] at h; obtain ⟨rfl, rfl⟩ := h
        obtain ⟨o1, k1, B, hB⟩ := deepCell_ok H hs.1 h1
        obtain ⟨o2, k2, Bl, hl, hl', hBl⟩ := deepCells_ok H hs.2 h2
        refine ⟨?_, ?_, B :: Bl, by simp [hl], by simp [hl'], ?_⟩
        · intro u hu
          rcases List.mem_cons.1 hu with rfl | hu
          · exact o1
          · exact o2 u hu
        · intro u hu
          simp only [flatN, List.mem_append] at hu
          rcases hu with hu | hu
          · exact k1 u hu
          · exact k2 u hu
        · intro j u hu
          cases j with
          | zero => simp at hu; subst hu; simpa [nthD] using hB
          | succ j => simpa [nthD] using hBl j u (by simpa [leN_iff, ltN_iff] using hu)
      · cases h

theorem mem_flatN {k : Nat} : ∀ {ks : List (List Nat)}, k ∈ flatN ks ↔ ∃ l ∈ ks, k ∈ l
  | [] => by simp [flatN]
  | l :: ks => by simp [flatN, mem_flatN (ks := ks)]

theorem nodupN_iff : ∀ {l : List Nat}, nodupN l = true → l.Nodup
  | [], _ => .nil
  | k :: r, h => by
      simp only [nodupN, Bool.and_eq_true, Bool.not_eq_true'] at h
      refine List.nodup_cons.2 ⟨fun hm => ?_, nodupN_iff h.2⟩
      have : memN k r = true := by
        have hall : ∀ {l : List Nat}, k ∈ l → memN k l = true := by
          intro l
          induction l with
          | nil => intro h; cases h
          | cons x l ih =>
            intro h
            simp only [memN]
            rcases List.mem_cons.1 h with rfl | h
            · simp [eqN_refl]
            · cases eqN x k <;> simp [ih h]
        exact hall hm
      rw [this] at h; cases h.1

theorem flatMap_nodup {n : Nat} {f : Nat → List Nat} (h1 : ∀ i, i < n → (f i).Nodup) (h2 : ∀ i j, i < n → j < n → i ≠ j → ∀ b ∈ f i, b ∉ f j) : ((List.range n).flatMap f).Nodup := by
  induction n with
  | zero => simp
  | succ n ih =>
    rw [List.range_succ, List.flatMap_append, List.flatMap_singleton]
    refine List.nodup_append.2 ⟨ih (fun i hi => h1 i (by omega)) (fun i j hi hj => h2 i j (by omega) (by omega)), h1 n (by omega), fun b hb c hc e => ?_⟩
    subst e
    obtain ⟨i, hi, hb⟩ := List.mem_flatMap.1 hb
    have := List.mem_range.1 hi
    exact h2 i n (by omega) (by omega) (by omega) b hb hc

theorem flat_disj : ∀ {ks : List (List Nat)}, (flatN ks).Nodup → ∀ (i j : Nat), i ≠ j → ∀ k ∈ ks.getD i [], k ∉ ks.getD j []
  | [], _, i, j, _, k, hk => by simp at hk
  | l :: ks, h, i, j, hne, k, hk => by
      simp only [flatN] at h
      obtain ⟨h1, h2, h3⟩ := List.nodup_append.1 h
      have hin : ∀ (i : Nat) (k : Nat), k ∈ ks.getD i [] → k ∈ flatN ks := by
        intro i k hk
        rw [mem_flatN]
        rw [List.getD_eq_getElem?_getD] at hk
        cases hl : ks[i]? with
        | none => rw [hl] at hk; simp at hk
        | some l' => rw [hl] at hk; exact ⟨l', List.mem_of_getElem? hl, hk⟩
      cases i with
      | zero => cases j with
        | zero => exact absurd rfl hne
        | succ j =>
          simp only [List.getD_cons_zero] at hk
          simp only [List.getD_cons_succ]
          exact fun hj => h3 k hk k (hin j k hj) rfl
      | succ i => cases j with
        | zero =>
          simp only [List.getD_cons_succ] at hk
          simp only [List.getD_cons_zero]
          exact fun hj => h3 k hj k (hin i k hk) rfl
        | succ j =>
          simp only [List.getD_cons_succ] at hk ⊢
          exact flat_disj h2 i j (by omega) k hk

/-- An object takes others' blocks into its own. -/
theorem after_absorb (H : Holds dl η G N get ob a w) {k : Nat} {o : OInfo} (hk : η k = some o) {ks : List Nat} (hkk : k ∉ ks) (hks : ∀ j ∈ ks, ob j ≠ none) (hkob : ob k ≠ none) {w' : World}
    (hos : w'.os = w.os) (htp : w'.tape = w.tape) (hou : w'.output = w.output) (hsz : w'.heap.size = w.heap.size) (hother : ∀ c, c ∉ o.main → w'.heap[c]? = w.heap[c]?)
    (extra : List Nat) (hex : ∀ b ∈ extra, ∃ j ∈ ks, ∃ o', η j = some o' ∧ b ∈ o'.main ++ o'.inner) (hd : o.dead = false) {X : TObj}
    (hX : Mono η G w (updE (killE η ks) k { o with inner := o.inner ++ extra }) G w' → ObjRel (updE (killE η ks) k { o with inner := o.inner ++ extra }) G w' X { o with inner := o.inner ++ extra }) (v : Value) :
    After η G w ob .any (killN ks ++ [(k, X)]) v (updE (killE η ks) k { o with inner := o.inner ++ extra }) G w' := by
  have hexk : ∀ b ∈ extra, b ∉ o.main ++ o.inner := fun b hb hm => by
    obtain ⟨j, hj, o', ho', hm'⟩ := hex b hb
    exact H.sp.dj j o' k o ho' hk (fun e => hkk (e ▸ hj)) b hm' hm
  have hev : Evol η G w (updE (killE η ks) k { o with inner := o.inner ++ extra }) G w' := by
    refine ⟨hos, htp, hou, by omega, fun b _ hn => hother b fun hm => hn k o hk (by simp [hm]), ?_, fun _ h => h, fun _ h => .inl h, ?_⟩
    · intro j oj hj
      by_cases hjk : j = k
      · subst hjk
        rw [hk] at hj; cases hj
        exact ⟨_, updE_same _ _ _, fun _ => ⟨hd, rfl, rfl, fun b hb => ⟨by simp [hb], hother b fun hm => H.sp.mi j o hk b hm hb⟩⟩⟩
      · obtain ⟨o', ho', hd'⟩ := killE_some (ks := ks) hj
        refine ⟨o', by rw [updE_other _ _ hjk]; exact ho', fun hdd => ?_⟩
        obtain ⟨hnk, rfl⟩ := hd' hdd
        refine ⟨hdd, rfl, rfl, fun b hb => ⟨hb, hother b fun hm => ?_⟩⟩
        exact H.sp.dj j _ k o hj hk hjk b (by simp [hb]) (by simp [hm])
    · intro j oj hj b hb
      by_cases hjk : j = k
      · subst hjk
        rw [updE_same] at hj; cases hj
        simp only [List.mem_append] at hb
        rcases hb with hb | hb | hb
        · exact .inr ⟨j, o, hk, by simp [hb]⟩
        · exact .inr ⟨j, o, hk, by simp [hb]⟩
        · obtain ⟨j', _, o', ho', hm'⟩ := hex b hb
          exact .inr ⟨j', o', ho', hm'⟩
      · rw [updE_other _ _ hjk] at hj
        rcases killE_in hj with ⟨_, rfl, _⟩ | ⟨_, hj⟩
        · simp [deadInfo] at hb
        · exact .inr ⟨j, oj, hj, hb⟩
  have hM := hev.mono H.sp
  refine ⟨by simp [SVRel], fun j => ?_, ⟨?_, ?_, ?_, ?_⟩, hev⟩
  · rw [updF_append]
    simp only [updF]
    by_cases hjk : j = k
    · subst hjk
      simp only [if_true, updE_same, ObjOpt]
      exact hX hM
    · simp only [if_neg hjk, updE_other _ _ hjk, updF_kill]
      have hob := H.ob j
      by_cases hjs : j ∈ ks
      · rw [if_pos hjs]
        unfold killE
        rw [if_pos hjs]
        cases h1 : ob j with
        | none => exact absurd h1 (hks j hjs)
        | some x =>
          rw [h1] at hob
          cases h2 : η j with
          | none => rw [h2] at hob; exact hob.elim
          | some o₀ => simp only [Option.map_some, ObjOpt, ObjRel, deadInfo]; exact ⟨trivial, trivial, trivial⟩
      · rw [if_neg hjs]
        unfold killE
        rw [if_neg hjs]
        cases h1 : ob j with
        | none => cases h2 : η j with
          | none => trivial
          | some o => rw [h1, h2] at hob; exact hob.elim
        | some x => cases h2 : η j with
          | none => rw [h1, h2] at hob; exact hob.elim
          | some o₀ =>
            rw [h1, h2] at hob
            exact ObjRel.mono hM (fun b hb => hother b fun hm => H.sp.dj j o₀ k o h2 hk hjk b hb (by simp [hm])) hob
  · intro j oj hj b hb
    by_cases hjk : j = k
    · subst hjk
      rw [updE_same] at hj; cases hj
      simp only [List.mem_append] at hb
      rcases hb with hb | hb | hb
      · have := H.sp.lt j o hk b (by simp [hb]); exact ⟨by omega, this.2⟩
      · have := H.sp.lt j o hk b (by simp [hb]); exact ⟨by omega, this.2⟩
      · obtain ⟨j', _, o', ho', hm'⟩ := hex b hb
        have := H.sp.lt j' o' ho' b hm'; exact ⟨by omega, this.2⟩
    · rw [updE_other _ _ hjk] at hj
      rcases killE_in hj with ⟨_, rfl, _⟩ | ⟨_, hj⟩
      · simp [deadInfo] at hb
      · have := H.sp.lt j oj hj b hb; exact ⟨by omega, this.2⟩
  · have key : ∀ j oj, η j = some oj → j ≠ k → j ∉ ks → ∀ b ∈ oj.main ++ oj.inner, b ∉ o.main ++ (o.inner ++ extra) := by
      intro j oj hj hne hnk b hb hm
      simp only [List.mem_append] at hm
      rcases hm with hm | hm | hm
      · exact H.sp.dj j oj k o hj hk hne b hb (by simp [hm])
      · exact H.sp.dj j oj k o hj hk hne b hb (by simp [hm])
      · obtain ⟨j', hj', o', ho', hm'⟩ := hex b hm
        exact H.sp.dj j oj j' o' hj ho' (fun e => hnk (e ▸ hj')) b hb hm'
    intro j oj j' oj' hj hj' hne b hb hb'
    by_cases hjk : j = k
    · subst hjk
      rw [updE_same] at hj; cases hj
      rw [updE_other _ _ (Ne.symm hne)] at hj'
      rcases killE_in hj' with ⟨_, rfl, _⟩ | ⟨hnk, hj'⟩
      · simp [deadInfo] at hb'
      · exact key j' oj' hj' (Ne.symm hne) hnk b hb' hb
    · rw [updE_other _ _ hjk] at hj
      rcases killE_in hj with ⟨_, rfl, _⟩ | ⟨hnk, hj⟩
      · simp [deadInfo] at hb
      · by_cases hjk' : j' = k
        · subst hjk'
          rw [updE_same] at hj'; cases hj'
          exact key j oj hj hjk hnk b hb hb'
        · rw [updE_other _ _ hjk'] at hj'
          rcases killE_in hj' with ⟨_, rfl, _⟩ | ⟨_, hj'⟩
          · simp [deadInfo] at hb'
          · exact H.sp.dj j oj j' oj' hj hj' hne b hb hb'
  · intro j oj hj b hb
    by_cases hjk : j = k
    · subst hjk
      rw [updE_same] at hj; cases hj
      simp only [List.mem_append, not_or]
      exact ⟨H.sp.mi j o hk b hb, fun h => hexk b h (by simp [hb])⟩
    · rw [updE_other _ _ hjk] at hj
      rcases killE_in hj with ⟨_, rfl, _⟩ | ⟨_, hj⟩
      · simp [deadInfo] at hb
      · exact H.sp.mi j oj hj b hb
  · intro b hb
    have := H.sp.glt b hb
    omega

theorem put_at {cs : Array Value} {q : Nat} (h : q < cs.size) (v : Value) (p : Nat) : (cs.toList.take q ++ [v] ++ cs.toList.drop (q + 1)).toArray[p]? = if p = q then some v else cs[p]? := by
  simp only [List.getElem?_toArray, List.append_assoc]
  by_cases h1 : p < q
  · rw [List.getElem?_append_left (by simp; omega), List.getElem?_take, if_pos h1, if_neg (by omega)]
    simp
  · rw [List.getElem?_append_right (by simp; omega)]
    by_cases h2 : p = q
    · subst h2
      simp [Nat.min_eq_left (Nat.le_of_lt h)]
    · rw [if_neg h2, List.length_take, Array.length_toList, Nat.min_eq_left (Nat.le_of_lt h)]
      obtain ⟨r, rfl⟩ : ∃ r, p = q + 1 + r := ⟨p - (q + 1), by omega⟩
      rw [show q + 1 + r - q = r + 1 by omega]
      simp

theorem sound_storeO (hE : EOk P E) (H : Holds dl η G N get ob a w) {T : Nat} {p x : SV} {vp vx : Value} (hp : SVRel η G w p vp) (hx : SVRel η G w x vx) {sv : SV} {upd : Objs} {rd : List Nat} {obl : Obl}
    (h : evStoreO (E.ti T) ob p x = .ok sv upd rd obl) (ho : obl.holds) : ∃ w' η' G', (Instr.storeAt T vp vx).run P w = .ok () w' ∧ After η G w ob sv upd undef η' G' w' := by
  cases p with
  | op k wd i off =>
    simp only [evStoreO] at h
    split at h
    · rename_i ti T' w' n row hti hob
      split at h
      · rename_i d ks hdeep
        have hc := (cond_ok h).1
        replace h := (cond_ok h).2
        simp only [Bool.and_eq_true] at hc
        obtain ⟨c1, c2, c3, c4, c5, c6⟩ := hc
        have := eqN_eq c1
        subst this
        have c2 : off < wd := by simpa [ltN_iff] using c2
        have c3 := eqN_eq c3
        have c5 : 0 < T' := by simpa [ltN_iff] using c5
        obtain ⟨n1, n2⟩ := List.nodup_cons.1 (nodupN_iff c6)
        simp only [OpRes.ok.injEq] at h; obtain ⟨rfl, rfl, _, rfl⟩ := h
        simp only [Obl.holds] at ho
        obtain ⟨s1, s2⟩ := ho
        have hT := hE T ti hti
        obtain ⟨o, hk, hr⟩ := obj_of H hob
        simp only [ObjRel] at hr
        obtain ⟨hd, Bs, hB, hN, hq⟩ := hr
        simp only [SVRel] at hp
        obtain ⟨o', hk', _, hv⟩ := hp
        rw [hk] at hk'; cases hk'
        obtain ⟨b, hm, ⟨n0, c0, hval, hi⟩, rfl⟩ := hv hd
        rcases hq with ⟨_, _, hm0⟩ | ⟨b', c, cs, T2, hval', hm', hh, ⟨hs, hT2⟩, hc, hcm, hQ⟩
        · rw [hm] at hm0; cases hm0
        rw [hm] at hm'; cases hm'
        have hn0 : n () = n0 := by rw [hval'] at hval; exact (Value.slice.inj hval).2.1
        rw [← hn0] at hi
        have hT2 := hT2.resolve_left (by omega)
        subst hT2
        obtain ⟨h1, hkob, B, hDB⟩ := deepCell_ok H hx hdeep
        have hlt : i () * wd + off < cs.size := by
          rw [hs]
          have h1 := row_lt hi c2
          have h2 := Nat.mul_le_mul_right wd hc
          omega
        have hcell := one_cells h1
        have hst := run_storeCells_at P b (i () * wd + off) T' [vx] 0 cs w hh (by simp; omega) (by simpa using h1)
        simp only [Nat.add_zero, List.length_cons, List.length_nil, Nat.zero_add] at hst
        refine ⟨w.setRow b (cs.toList.take (i () * wd + off) ++ [vx] ++ cs.toList.drop (i () * wd + off + 1)).toArray, _, G, ?_, after_absorb (w' := w.setRow b (cs.toList.take (i () * wd + off) ++ [vx] ++ cs.toList.drop (i () * wd + off + 1)).toArray) H hk n1 hkob (by simp [hob]) rfl rfl rfl (by simp) (fun c hc => setRow_other w b c _ fun e => hc (by rw [e, hm]; simp)) B (fun b' hb' => hDB.from_ b' hb') hd (fun hM => ?_) undef⟩
        · simp [Instr.storeAt, Instr.sureAddr, storeVar, sizeOf_run hT, hcell, c3]
          simpa using hst
        have hall : ∀ i' j b', i' < n () → j < wd → b' ∈ Bs i' j → b' ∈ o.inner := hB
        have hkeep : ∀ b' ∈ o.inner, (w.setRow b (cs.toList.take (i () * wd + off) ++ [vx] ++ cs.toList.drop (i () * wd + off + 1)).toArray).heap[b']? = w.heap[b']? := fun b' hb' => setRow_other w b b' _ fun e => H.sp.mi k o hk b (by simp [hm]) (e ▸ hb')
        have hkeep' : ∀ b' ∈ B, (w.setRow b (cs.toList.take (i () * wd + off) ++ [vx] ++ cs.toList.drop (i () * wd + off + 1)).toArray).heap[b']? = w.heap[b']? := fun b' hb' => setRow_other w b b' _ fun e => by
          obtain ⟨j, hj, oj, hoj, hmj⟩ := hDB.from_ b' hb'
          exact H.sp.dj j oj k o hoj hk (fun e => n1 (e ▸ hj)) b' hmj (by rw [e, hm]; simp)
        refine ⟨hd, fun i' j => if i' = i () ∧ j = off then B else Bs i' j, fun i' j b' hi' hj hb' => ?_, ?_, .inr ⟨b, c, _, (T', 0, 0), hval', hm, setRow_heap w b cs _ T' (0, 0) hh, ⟨?_, .inr rfl⟩, hc, hcm, fun i' j hi' hj => ?_⟩⟩
        · dsimp only at hb'
          split at hb'
          · exact List.mem_append_right _ hb'
          · exact List.mem_append_left _ (hB i' j b' hi' hj hb')
        · have hBdis : ∀ b' ∈ B, ∀ i' j, i' < n () → j < wd → b' ∉ Bs i' j := fun b' hb' i' j hi' hj hbb => by
            obtain ⟨j', hj', oj, hoj, hmj⟩ := hDB.from_ b' hb'
            exact H.sp.dj j' oj k o hoj hk (fun e => n1 (e ▸ hj')) b' hmj (by simp [hB i' j b' hi' hj hbb])
          refine flatMap_nodup (fun i' hi' => flatMap_nodup (fun j hj => ?_) fun j j' hj hj' hne b' hb' hb2 => ?_) fun i' i2 hi' hi2 hne b' hb' hb2 => ?_
          · dsimp only
            split
            · exact hDB.nd
            · exact nodup_at (nodup_at hN hi') hj
          · dsimp only at hb' hb2
            split at hb' <;> split at hb2
            · rename_i e1 e2; exact hne (e1.2.trans e2.2.symm)
            · exact hBdis b' hb' i' j' hi' hj' hb2
            · exact hBdis b' hb2 i' j hi' hj hb'
            · exact nodup_dj (nodup_at hN hi') hj hj' hne b' hb' hb2
          · obtain ⟨j, hj, hb'⟩ := List.mem_flatMap.1 hb'
            obtain ⟨j', hj', hb2⟩ := List.mem_flatMap.1 hb2
            have hj := List.mem_range.1 hj
            have hj' := List.mem_range.1 hj'
            dsimp only at hb' hb2
            split at hb' <;> split at hb2
            · rename_i e1 e2; exact hne (e1.1.trans e2.1.symm)
            · exact hBdis b' hb' i2 j' hi2 hj' hb2
            · exact hBdis b' hb2 i' j hi' hj hb'
            · exact nodup_dj hN hi' hi2 hne b' (List.mem_flatMap.2 ⟨j, List.mem_range.2 hj, hb'⟩) (List.mem_flatMap.2 ⟨j', List.mem_range.2 hj', hb2⟩)
        · simp only [List.size_toArray, List.length_append, List.length_take, List.length_drop, List.length_cons, List.length_nil, Array.length_toList]
          omega
        · simp only [put_at hlt]
          by_cases he : i' = i () ∧ j = off
          · obtain ⟨e1, e2⟩ := he
            subst e2
            subst e1
            refine ⟨vx, by rw [if_pos rfl], ?_⟩
            have e : putRow row i j d (fun _ => i ()) j = d := s1
            simp only [and_self, if_true]
            rw [e]
            exact ORel.mono _ _ _ hkeep' hDB.rel
          · have hne : ¬ i' * wd + j = i () * wd + off := fun e => by
              have e1 : i' = i () := by
                have h1 : (i' * wd + j) / wd = i' := by rw [Nat.mul_comm, Nat.mul_add_div (by omega), Nat.div_eq_of_lt hj]; omega
                have h2 : (i () * wd + off) / wd = i () := by rw [Nat.mul_comm, Nat.mul_add_div (by omega), Nat.div_eq_of_lt c2]; omega
                rw [← h1, e, h2]
              exact he ⟨e1, by rw [e1] at e; omega⟩
            obtain ⟨u, hu, hr⟩ := hQ i' j hi' hj
            refine ⟨u, by rw [if_neg hne]; exact hu, ?_⟩
            rw [if_neg he]
            have e : putRow row i off d (fun _ => i') j = row (fun _ => i') j := by
              by_cases h1 : i' = i ()
              · have h2 : j ≠ off := fun e => he ⟨h1, e⟩
                have h3 : eqN j off = false := by
                  cases hb : eqN j off with
                  | true => exact absurd (eqN_eq hb) h2
                  | false => rfl
                simp only [putRow, h3, cond_false]
              · exact s2 i' hi' h1 j hj
            rw [e]
            exact ORel.mono _ _ _ (fun b' hb' => hkeep b' (hB i' j b' hi' hj hb')) hr
      · cases h
    · cases h
  | _ => exact sound_store hE H hp hx h
where
  nodup_at {n : Nat} {f : Nat → List Nat} (h : ((List.range n).flatMap f).Nodup) {i : Nat} (hi : i < n) : (f i).Nodup := by
    induction n with
    | zero => omega
    | succ n ih =>
      rw [List.range_succ, List.flatMap_append, List.flatMap_singleton] at h
      obtain ⟨h1, h2, h3⟩ := List.nodup_append.1 h
      by_cases e1 : i < n
      · exact ih h1 e1
      · have : i = n := by omega
        subst this
        exact h2
  nodup_dj {n : Nat} {f : Nat → List Nat} (h : ((List.range n).flatMap f).Nodup) {i j : Nat} (hi : i < n) (hj : j < n) (hne : i ≠ j) : ∀ b ∈ f i, b ∉ f j := by
    induction n with
    | zero => omega
    | succ n ih =>
      rw [List.range_succ, List.flatMap_append, List.flatMap_singleton] at h
      obtain ⟨h1, h2, h3⟩ := List.nodup_append.1 h
      have mem : ∀ q, q < n → ∀ b ∈ f q, b ∈ (List.range n).flatMap f := fun q hq b hb => List.mem_flatMap.2 ⟨q, List.mem_range.2 hq, hb⟩
      intro b hb hb'
      by_cases e1 : i < n
      · by_cases e2 : j < n
        · exact ih h1 e1 e2 b hb hb'
        · have : j = n := by omega
          subst this
          exact h3 b (mem i e1 b hb) b hb' rfl
      · have : i = n := by omega
        subst this
        exact h3 b (mem j (by omega) b hb') b hb rfl
end
end Go.SX
