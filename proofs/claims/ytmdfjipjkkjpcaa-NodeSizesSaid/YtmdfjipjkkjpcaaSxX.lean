/- SX: append, of rows. -/
import Derived.Test.YtmdfjipjkkjpcaaSxW
namespace Go.SX

section
variable {P : Program} {E : Env} {η : OEnv} {G : Nat → Prop} {N : Nat} {dl : List Deferred} {get : Nat → SV} {ob : Nat → Option TObj} {a : Act} {w : World}

theorem row_lt {i j n wd : Nat} (hi : i < n) (hj : j < wd) : i * wd + j < n * wd := by
  have : (i + 1) * wd ≤ n * wd := Nat.mul_le_mul_right _ hi
  rw [Nat.add_mul] at this
  omega

def Rows (n wd : Nat) (xs : List Value) (R : Nat → Nat → Value → Prop) : Prop := ∀ i j, i < n → j < wd → ∃ u, xs[i * wd + j]? = some u ∧ R i j u

theorem Rows.app {n m wd : Nat} {xs ys : List Value} {R S : Nat → Nat → Value → Prop} (hl : xs.length = n * wd) (h : Rows n wd xs R) (h' : Rows m wd ys S) {T : Nat → Nat → Value → Prop}
    (h1 : ∀ i j u, i < n → j < wd → R i j u → T i j u) (h2 : ∀ i j u, i < m → j < wd → S i j u → T (n + i) j u) : Rows (n + m) wd (xs ++ ys) T := by
  intro i j hi hj
  by_cases hn : i < n
  · obtain ⟨u, hu, hr⟩ := h i j hn hj
    have := row_lt hn hj
    exact ⟨u, by rw [List.getElem?_append_left (by omega)]; exact hu, h1 i j u hn hj hr⟩
  · obtain ⟨u, hu, hr⟩ := h' (i - n) j (by omega) hj
    refine ⟨u, ?_, by have := h2 (i - n) j u (by omega) hj hr; rwa [show n + (i - n) = i by omega] at this⟩
    rw [show i * wd + j = xs.length + ((i - n) * wd + j) by
      have : i = n + (i - n) := by omega
      rw [hl]; conv => lhs; rw [this, Nat.add_mul]
      omega]
    rw [List.getElem?_append_right (by omega)]
    simpa using hu

theorem Rows.cur {n wd : Nat} {xs : List Value} {R : Nat → Nat → Value → Prop} (h : Rows n wd xs R) {cur : Array Value} (ht : cur.toList.take (n * wd) = xs) : ∀ i j, i < n → j < wd → ∃ u, cur[i * wd + j]? = some u ∧ R i j u := by
  intro i j hi hj
  obtain ⟨u, hu, hr⟩ := h i j hi hj
  rw [← ht, List.getElem?_take, if_pos (row_lt hi hj)] at hu
  exact ⟨u, by simpa [leN_iff, ltN_iff] using hu, hr⟩

theorem Rows.of_cur {n wd : Nat} {xs : List Value} {R : Nat → Nat → Value → Prop} {cur : Array Value} (h : ∀ i j, i < n → j < wd → ∃ u, cur[i * wd + j]? = some u ∧ R i j u) (ht : cur.toList.take (n * wd) = xs) : Rows n wd xs R := by
  intro i j hi hj
  obtain ⟨u, hu, hr⟩ := h i j hi hj
  exact ⟨u, by rw [← ht, List.getElem?_take, if_pos (row_lt hi hj)]; simpa using hu, hr⟩

/-- Data of the objects that are taken. -/
structure DeepOk (η : OEnv) (w : World) (d : DV) (v : Value) (ks B : List Nat) : Prop where
  rel : ORel w d v B
  nd : B.Nodup
  from_ : ∀ b ∈ B, ∃ k ∈ ks, ∃ o, η k = some o ∧ b ∈ o.main ++ o.inner

theorem deepCell_ok (H : Holds dl η G N get ob a w) {z d : DV} {s : SV} {ks : List Nat} {v : Value} (hs : SVRel η G w s v) (h : deepCell ob z s = some (d, ks)) : v.oneCell' = true ∧ (∀ k ∈ ks, ob k ≠ none) ∧ ∃ B, DeepOk η w d v ks B := by
  cases s with
  | int k e =>
    simp only [deepCell, Option.some.injEq, Prod.mk.injEq] at h; obtain ⟨rfl, rfl⟩ := h
    simp only [SVRel] at hs; subst hs
    exact ⟨rfl, by simp, [], ⟨by simp [ORel], .nil, by simp⟩⟩
  | bool e =>
    simp only [deepCell, Option.some.injEq, Prod.mk.injEq] at h; obtain ⟨rfl, rfl⟩ := h
    simp only [SVRel] at hs; subst hs
    exact ⟨rfl, by simp, [], ⟨by simp [ORel], .nil, by simp⟩⟩
  | str e =>
    simp only [deepCell, Option.some.injEq, Prod.mk.injEq] at h; obtain ⟨rfl, rfl⟩ := h
    simp only [SVRel] at hs; subst hs
    exact ⟨rfl, by simp, [], ⟨by simp [ORel], .nil, by simp⟩⟩
  | nil =>
    simp only [SVRel] at hs; subst hs
    cases z <;> simp only [deepCell, Option.some.injEq, Prod.mk.injEq] at h <;> first | cases h; done | skip
    · obtain ⟨rfl, rfl⟩ := h
      exact ⟨rfl, by simp, [], ⟨.inl ⟨rfl, rfl, rfl⟩, .nil, by simp⟩⟩
    · obtain ⟨rfl, rfl⟩ := h
      exact ⟨rfl, by simp, [], ⟨.inl ⟨rfl, rfl, rfl⟩, .nil, by simp⟩⟩
  | own k =>
    simp only [deepCell] at h
    simp only [SVRel] at hs
    obtain ⟨o, hk, h1, hv⟩ := hs
    split at h
    · rename_i T bs hob
      simp only [Option.some.injEq, Prod.mk.injEq] at h; obtain ⟨rfl, rfl⟩ := h
      obtain ⟨o', hk', hr⟩ := obj_of H hob
      rw [hk] at hk'; cases hk'
      simp only [ObjRel] at hr
      obtain ⟨hd, hin, hq⟩ := hr
      have hv := hv hd
      subst hv
      refine ⟨h1, by simp [hob], ?_⟩
      rcases hq with ⟨hv, hn, _⟩ | ⟨b, c, cs, T', hv, hm, hh, ⟨hs, hT⟩, hc, hcm, hQ⟩
      · exact ⟨[], ⟨.inl ⟨hv, List.eq_nil_of_length_eq_zero hn, rfl⟩, .nil, by simp⟩⟩
      · exact ⟨[b], ⟨.inr ⟨b, c, cs, T', hv, hh, by omega, hc, hcm, hQ, rfl⟩, by simp, fun b' hb' => ⟨k, by simp, o, hk, by simp at hb'; simp [hm, hb']⟩⟩⟩
    · rename_i T wd n row hob
      simp only [Option.some.injEq, Prod.mk.injEq] at h; obtain ⟨rfl, rfl⟩ := h
      obtain ⟨o', hk', hr⟩ := obj_of H hob
      rw [hk] at hk'; cases hk'
      simp only [ObjRel] at hr
      obtain ⟨hd, Bs, hB, hN, hq⟩ := hr
      have hv := hv hd
      subst hv
      refine ⟨h1, by simp [hob], ?_⟩
      rcases hq with ⟨hv, hn, _⟩ | ⟨b, c, cs, T', hv, hm, hh, ⟨hs, hT⟩, hc, hcm, hQ⟩
      · exact ⟨[], ⟨.inl ⟨hv, hn, rfl⟩, .nil, by simp⟩⟩
      · have hsub : ∀ b' ∈ (List.range (n ())).flatMap (fun i => (List.range wd).flatMap (Bs i)), b' ∈ o.inner := by
          intro b' hb'
          obtain ⟨i, hi, hb'⟩ := List.mem_flatMap.1 hb'
          obtain ⟨j, hj, hb'⟩ := List.mem_flatMap.1 hb'
          exact hB i j b' (List.mem_range.1 hi) (List.mem_range.1 hj) hb'
        have hnd : (b :: (List.range (n ())).flatMap (fun i => (List.range wd).flatMap (Bs i))).Nodup :=
          List.nodup_cons.2 ⟨fun hm' => H.sp.mi k o hk b (by simp [hm]) (hsub b hm'), hN⟩
        refine ⟨_, ⟨.inr ⟨b, c, cs, T', Bs, hv, hh, by omega, hc, hcm, hQ, rfl, hnd⟩, hnd, fun b' hb' => ⟨k, by simp, o, hk, ?_⟩⟩⟩
        rcases List.mem_cons.1 hb' with rfl | hb'
        · simp [hm]
        · exact List.mem_append_right _ (hsub b' hb')
    · cases h
  | _ => simp [deepCell] at h

theorem deepCells_ok (H : Holds dl η G N get ob a w) : ∀ {zs ds : List DV} {cs : List SV} {ks : List (List Nat)} {vs : List Value}, SVRels η G w cs vs → deepCells ob zs cs = some (ds, ks) →
    (∀ v ∈ vs, v.oneCell' = true) ∧ (∀ k ∈ flatN ks, ob k ≠ none) ∧ ∃ Bl : List (List Nat), Bl.length = vs.length ∧ ks.length = vs.length ∧ ∀ j v, vs[j]? = some v → DeepOk η w (nthD ds j (.bool fun _ => false)) v (ks.getD j []) (Bl.getD j [])
  | zs, ds, [], ks, [], _, h => by
      have h : ds = [] ∧ ks = [] := by cases zs <;> simp [deepCells] at h <;> exact h
      obtain ⟨rfl, rfl⟩ := h
      exact ⟨by simp, by simp [flatN], [], rfl, rfl, by simp⟩
  | zs, ds, [], ks, _ :: _, h, _ => by simp [SVRels] at h
  | zs, ds, c :: cs, ks, [], h, _ => by simp [SVRels] at h
  | zs, ds, c :: cs, ks, v :: vs, hs, h => by
      simp only [SVRels] at hs
      rw [show deepCells ob zs (c :: cs) = (match deepCell ob (match zs with | z :: _ => z | [] => .bool fun _ => false) c, deepCells ob zs.tail cs with
        | some (d, k), some (ds, ks) => some (d :: ds, k :: ks)
        | _, _ => none) by cases zs <;> rfl] at h
      split at h
      · rename_i d k ds' ks' h1 h2
        simp only [Option.some.injEq, Prod.mk.injEq] at h; obtain ⟨rfl, rfl⟩ := h
        obtain ⟨o1, k1, B, hB⟩ := deepCell_ok H hs.1 h1
        obtain ⟨o2, k2, Bl, hl, hl', hBl⟩ := deepCells_ok H hs.2 h2
        refine ⟨?_, ?_, B :: Bl, by simp [hl], by simp [hl'], ?_⟩
        · intro u hu
          rcases List.mem_cons.1 hu with rfl | hu
          · exact o1
          · exact o2 u hu
        · intro u hu
          simp only [flatN, List.mem_append] at hu
          rcases hu with hu | hu
          · exact k1 u hu
          · exact k2 u hu
        · intro j u hu
          cases j with
          | zero => simp at hu; subst hu; simpa [nthD] using hB
          | succ j => simpa [nthD] using hBl j u (by simpa [leN_iff, ltN_iff] using hu)
      · cases h

theorem mem_flatN {k : Nat} : ∀ {ks : List (List Nat)}, k ∈ flatN ks ↔ ∃ l ∈ ks, k ∈ l
  | [] => by simp [flatN]
  | l :: ks => by simp [flatN, mem_flatN (ks := ks)]

theorem nodupN_iff : ∀ {l : List Nat}, nodupN l = true → l.Nodup
  | [], _ => .nil
  | k :: r, h => by
      simp only [nodupN, Bool.and_eq_true, Bool.not_eq_true'] at h
      refine List.nodup_cons.2 ⟨fun hm => ?_, nodupN_iff h.2⟩
      have : memN k r = true := by
        have hall : ∀ {l : List Nat}, k ∈ l → memN k l = true := by
          intro l
          induction l with
          | nil => intro h; cases h
          | cons x l ih =>
            intro h
            simp only [memN]
            rcases List.mem_cons.1 h with rfl | h
            · simp [eqN_refl]
            · cases eqN x k <;> simp [ih h]
        exact hall hm
      rw [this] at h; cases h.1

theorem flatMap_nodup {n : Nat} {f : Nat → List Nat} (h1 : ∀ i, i < n → (f i).Nodup) (h2 : ∀ i j, i < n → j < n → i ≠ j → ∀ b ∈ f i, b ∉ f j) : ((List.range n).flatMap f).Nodup := by
  induction n with
  | zero => simp
  | succ n ih =>
    rw [List.range_succ, List.flatMap_append, List.flatMap_singleton]
    refine List.nodup_append.2 ⟨ih (fun i hi => h1 i (by omega)) (fun i j hi hj => h2 i j (by omega) (by omega)), h1 n (by omega), fun b hb c hc e => ?_⟩
    subst e
    obtain ⟨i, hi, hb⟩ := List.mem_flatMap.1 hb
    have := List.mem_range.1 hi
    exact h2 i n (by omega) (by omega) (by omega) b hb hc

theorem flat_disj : ∀ {ks : List (List Nat)}, (flatN ks).Nodup → ∀ (i j : Nat), i ≠ j → ∀ k ∈ ks.getD i [], k ∉ ks.getD j []
  | [], _, i, j, _, k, hk => by simp at hk
  | l :: ks, h, i, j, hne, k, hk => by
      simp only [flatN] at h
      obtain ⟨h1, h2, h3⟩ := List.nodup_append.1 h
      have hin : ∀ (i : Nat) (k : Nat), k ∈ ks.getD i [] → k ∈ flatN ks := by
        intro i k hk
        rw [mem_flatN]
        rw [List.getD_eq_getElem?_getD] at hk
        cases hl : ks[i]? with
        | none => rw [hl] at hk; simp at hk
        | some l' => rw [hl] at hk; exact ⟨l', List.mem_of_getElem? hl, hk⟩
      cases i with
      | zero => cases j with
        | zero => exact absurd rfl hne
        | succ j =>
          simp only [List.getD_cons_zero] at hk
          simp only [List.getD_cons_succ]
          exact fun hj => h3 k hk k (hin j k hj) rfl
      | succ i => cases j with
        | zero =>
          simp only [List.getD_cons_succ] at hk
          simp only [List.getD_cons_zero]
          exact fun hj => h3 k hj k (hin i k hk) rfl
        | succ j =>
          simp only [List.getD_cons_succ] at hk ⊢
          exact flat_disj h2 i j (by omega) k hk
end
end Go.SX
