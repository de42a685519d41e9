/- SX: append. -/
import Derived.Test.YtmdfjipjkkjpcaaSxH
import Derived.Laws.AppendOwn
import Derived.Lib.ConvBytes
import Derived.Maps.Keyed
namespace Go.SX

/-- A row that is the call's own, as 'append' takes it. -/
def OwnsV (w : World) (e size : Nat) (v : Value) (n : Nat) (xs : List Value) : Prop :=
  xs.length = n * size ∧ ((v = .slice none 0 0 ∧ n = 0) ∨
    ∃ g cap cur, v = .slice (some ⟨g, 0, none⟩) n cap ∧ w.heap[g]? = some (.cells cur e (0, 0)) ∧ n ≤ cap ∧ cap ≤ maxLen ∧ cur.size = cap * size ∧ cur.toList.take (n * size) = xs)

theorem run_append_zero {P : Program} {t ty e : TypeId} {i : TypeInfo} (ht : P.underlying t = some (.slice e)) (hi : P.info? e = some i) {w : World} {v : Value} {p : Option Addr} {n c c' : Nat} (hv : v = .slice p n c) (hn : n ≤ c) (p' : Option Addr) :
    (Builtin.append_ #[t, t] ty #[v, .slice p' 0 c']).run P w = .ok v w := by
  subst hv
  cases p <;> simp [Builtin.append_, run_underlying ht, sizeOf, typeInfo, hi, Builtin.lenOf, Builtin.firstCells, hn, loadCells, loadCellsFrom, storeCells] <;> cases p' <;> simp [loadCells, loadCellsFrom, storeCells]

theorem run_append_sx {P : Program} {w : World} (t ty e : TypeId) (i : TypeInfo) (z : Value) (ht : P.underlying t = some (.slice e)) (hi : P.info? e = some i) (hz : i.zero = some z)
    (hzs : z.cells.size = i.size) (hsz : 0 < i.size) (hbz : 0 < i.bytes)
    (v : Value) (n : Nat) (xs : List Value) (hown : OwnsV w e i.size v n xs)
    (p : Option Addr) (m c : Nat) (news : List Value) (hp : m ≠ 0 → ∃ a, p = some a ∧ ∀ j u, news[j]? = some u → w.cell? (a.add j) = some u) (hl : news.length = m * i.size) (h1 : ∀ u ∈ news, u.oneCell' = true)
    (hbytes : (n + m) * i.bytes ≤ 140737488355328) :
    ∃ v' w', (Builtin.append_ #[t, t] ty #[v, .slice p m c]).run P w = .ok v' w' ∧ w'.os = w.os ∧ w'.tape = w.tape ∧ w'.output = w.output ∧ w.heap.size ≤ w'.heap.size ∧
      (∀ b, b < w.heap.size → v.ownBlock ≠ some b → w'.heap[b]? = w.heap[b]?) ∧ OwnsV w' e i.size v' (n + m) (xs ++ news) ∧ (∀ g, v'.ownBlock = some g → w.heap.size ≤ g ∨ v.ownBlock = some g) := by
  have h63 : n + m ≤ maxLen := by
    have : (n + m) * 1 ≤ (n + m) * i.bytes := Nat.mul_le_mul_left _ hbz
    simp only [maxLen]; omega
  by_cases hm : m = 0
  · subst hm
    have hn0 : news = [] := List.eq_nil_of_length_eq_zero (by simpa [leN_iff, ltN_iff] using hl)
    subst hn0
    have hv : ∃ p n c, v = .slice p n c ∧ n ≤ c := by
      rcases hown.2 with ⟨rfl, rfl⟩ | ⟨g, cap, cur, rfl, _, h, _⟩
      · exact ⟨none, 0, 0, rfl, Nat.le_refl _⟩
      · exact ⟨_, _, _, rfl, h⟩
    obtain ⟨p', n', c', hv, hle⟩ := hv
    exact ⟨v, w, run_append_zero ht hi hv hle p, rfl, rfl, rfl, Nat.le_refl _, fun _ _ _ => rfl, by simpa [leN_iff, ltN_iff] using hown, fun g hg => .inr hg⟩
  · obtain ⟨a, rfl, hnews⟩ := hp hm
    obtain ⟨hxl, hown⟩ := hown
    have hlen : (xs ++ news).length = (n + m) * i.size := by rw [List.length_append, hxl, hl, Nat.add_mul]
    have grown : ∀ (old : Nat), old < n + m →
        OwnsV (w.drew.alloc (.cells (xs.toArray ++ news.toArray ++ Builtin.zeroCells z.cells (grownCap w (n + m) old e - (n + m))) e)) e i.size
          (.slice (some ⟨w.heap.size, 0, none⟩) (n + m) (grownCap w (n + m) old e)) (n + m) (xs ++ news) := by
      intro old ho
      have hge := grownCap_ge w (n + m) old e
      refine ⟨hlen, .inr ⟨w.heap.size, _, _, rfl, heap_alloc_new w.drew _, hge, grownCap_le_maxLen w (n + m) old e h63, ?_, ?_⟩⟩
      · simp only [Array.size_append, List.size_toArray, size_zeroCells, hzs, hxl, hl, ← Nat.add_mul]
        congr 1
        omega
      · simp only [Array.toList_append, List.append_assoc]
        rw [← List.append_assoc, ← hlen]
        exact List.take_left
    rcases hown with ⟨rfl, rfl⟩ | ⟨g, cap, cur, rfl, hg, hnc, hcm, hcs, htake⟩
    · have hx : xs = [] := List.eq_nil_of_length_eq_zero (by simpa [leN_iff, ltN_iff] using hxl)
      subst hx
      have hr := run_append_nil (P := P) w t ty e i z ht hi hz a m c news hl hnews (by omega) (by simp only [maxLen] at h63; omega) (by have hb := hbytes; simp only [Nat.zero_add] at hb; omega)
      have hgr := grown 0 (by omega)
      simp only [Nat.zero_add, List.nil_append, Array.empty_append] at hgr ⊢
      refine ⟨_, _, hr, rfl, rfl, rfl, by simp, fun b hb _ => heap_alloc_old w.drew _ b hb, hgr, fun g hg => .inl ?_⟩
      simp [Value.ownBlock] at hg
      omega
    · by_cases hroom : n + m ≤ cap
      · have hfit : n * i.size + news.length ≤ cur.size := by rw [hl, hcs, ← Nat.add_mul]; exact Nat.mul_le_mul_right _ hroom
        have hr := run_append_room (P := P) w t ty e i ht hi g n cap cur hg a m c news hl hnews h1 hroom hfit
        refine ⟨_, _, hr, rfl, rfl, rfl, by simp, fun k _ hk => setRow_other w g k _ (fun e => hk (by simp [Value.ownBlock, e])), ⟨hlen, .inr ⟨g, cap, _, rfl, setRow_heap w g cur _ e _ hg, hroom, hcm, ?_, ?_⟩⟩, fun g' hg' => .inr ?_⟩
        · simp only [List.size_toArray, List.length_append, List.length_take, List.length_drop, Array.length_toList]
          omega
        · rw [htake, ← hlen]
          exact List.take_left
        · simpa [Value.ownBlock] using hg'
      · have holds : ∀ j u, xs[j]? = some u → w.cell? ((⟨g, 0, none⟩ : Addr).add j) = some u := by
          intro j u hu
          have hadd : (⟨g, 0, none⟩ : Addr).add j = ⟨g, j, none⟩ := by unfold Addr.add; split <;> simp_all
          rw [hadd, cell_of_row w g j cur e (0, 0) hg]
          rw [← htake, List.getElem?_take] at hu
          split at hu
          · simpa using hu
          · cases hu
        have hr := run_append_grow (P := P) w t ty e i z ht hi hz ⟨g, 0, none⟩ n cap xs hxl holds a m c news hl hnews (by omega) (by simp only [maxLen] at h63; omega) (growslice_fits (by omega) hbytes)
        refine ⟨_, _, hr, rfl, rfl, rfl, by simp, fun b hb _ => heap_alloc_old w.drew _ b hb, grown cap (by omega), fun g' hg' => .inl ?_⟩
        simp [Value.ownBlock] at hg'
        omega

section
variable {P : Program} {E : Env} {η : OEnv} {G : Nat → Prop} {N : Nat} {dl : List Deferred} {get : Nat → SV} {ob : Nat → Option TObj} {a : Act} {w : World}

def deadInfo : OInfo := ⟨.slice none 0 0, [], [], true⟩

def killE (η : OEnv) (ks : List Nat) : OEnv := fun k => if k ∈ ks then (η k).map fun _ => deadInfo else η k

theorem killE_in {ks : List Nat} {k : Nat} {o : OInfo} (h : killE η ks k = some o) : (k ∈ ks ∧ o = deadInfo ∧ ∃ o₀, η k = some o₀) ∨ (k ∉ ks ∧ η k = some o) := by
  unfold killE at h
  split at h
  · rename_i hk
    cases hη : η k with
    | none => rw [hη] at h; cases h
    | some o₀ => rw [hη] at h; cases h; exact .inl ⟨hk, rfl, o₀, rfl⟩
  · rename_i hk; exact .inr ⟨hk, h⟩

theorem killE_some {ks : List Nat} {k : Nat} {o : OInfo} (h : η k = some o) : ∃ o', killE η ks k = some o' ∧ (o'.dead = false → k ∉ ks ∧ o' = o) := by
  unfold killE
  split
  · rename_i hk; rw [h]; exact ⟨deadInfo, rfl, fun h => by simp [deadInfo] at h⟩
  · rename_i hk; exact ⟨o, h, fun _ => ⟨hk, rfl⟩⟩

/-- Objects are taken, a new one is made of their blocks and of new ones. -/
structure Takes (η : OEnv) (w : World) (ks : List Nat) (w' : World) (o : OInfo) : Prop where
  os : w'.os = w.os
  tape : w'.tape = w.tape
  out : w'.output = w.output
  size : w.heap.size ≤ w'.heap.size
  keep : ∀ b, b < w.heap.size → (∀ k ∈ ks, ∀ o, η k = some o → b ∉ o.main ++ o.inner) → w'.heap[b]? = w.heap[b]?
  blk : ∀ b ∈ o.main ++ o.inner, b < w'.heap.size ∧ (w.heap.size ≤ b ∨ ∃ k ∈ ks, ∃ o', η k = some o' ∧ b ∈ o'.main ++ o'.inner)
  mi : ∀ b ∈ o.main, b ∉ o.inner

theorem Takes.evol (H : Holds dl η G N get ob a w) {d : Nat} (hd : ob d = none) {ks : List Nat} {w' : World} {o : OInfo} (T : Takes η w ks w' o) : Evol η G w (updE (killE η ks) d o) G w' := by
  have hn := none_of H hd
  refine ⟨T.os, T.tape, T.out, T.size, fun b hb hn => T.keep b hb fun k _ o ho => hn k o ho, ?_, fun _ h => h, fun _ h => .inl h, ?_⟩
  · intro k o₀ ho
    have hk : k ≠ d := fun e => by rw [e, hn] at ho; cases ho
    obtain ⟨o', ho', hd'⟩ := killE_some (ks := ks) ho
    refine ⟨o', by rw [updE_other _ _ hk]; exact ho', fun hdd => ?_⟩
    obtain ⟨hnk, rfl⟩ := hd' hdd
    refine ⟨hdd, rfl, rfl, fun b hb => ⟨hb, T.keep b (H.sp.lt k _ ho b (by simp [hb])).1 fun k' hk' o' ho' hm => ?_⟩⟩
    exact H.sp.dj k _ k' o' ho ho' (fun e => hnk (e ▸ hk')) b (by simp [hb]) hm
  · intro k o₁ ho b hb
    by_cases hk : k = d
    · subst hk
      rw [updE_same] at ho
      cases ho
      rcases (T.blk b hb).2 with h | ⟨k', hk', o', ho', hb'⟩
      · exact .inl h
      · exact .inr ⟨k', o', ho', hb'⟩
    · rw [updE_other _ _ hk] at ho
      rcases killE_in ho with ⟨_, rfl, _⟩ | ⟨_, ho⟩
      · simp [deadInfo] at hb
      · exact .inr ⟨k, o₁, ho, hb⟩

theorem updF_append (ob : Nat → Option TObj) : ∀ (l m : Objs), updF ob (l ++ m) = updF (updF ob l) m
  | [], m => rfl
  | (k, x) :: l, m => by simp only [List.cons_append, updF]; exact updF_append _ l m

theorem updF_kill (ob : Nat → Option TObj) : ∀ (ks : List Nat) (k : Nat), updF ob (killN ks) k = if k ∈ ks then some .dead else ob k
  | [], k => by simp [killN, updF]
  | j :: r, k => by
      simp only [killN, updF]
      rw [updF_kill _ r k]
      by_cases h : k ∈ r
      · simp [h]
      · by_cases h' : k = j
        · simp [h, h']
        · simp [h, h']

theorem after_take (H : Holds dl η G N get ob a w) {d : Nat} (hd : ob d = none) {ks : List Nat} (hks : ∀ k ∈ ks, ob k ≠ none) {w' : World} {o : OInfo} (T : Takes η w ks w' o) {X : TObj}
    (hX : Mono η G w (updE (killE η ks) d o) G w' → ObjRel (updE (killE η ks) d o) G w' X o) {sv : SV} {v : Value} (hsv : SVRel (updE (killE η ks) d o) G w' sv v) :
    After η G w ob sv (killN ks ++ [(d, X)]) v (updE (killE η ks) d o) G w' := by
  have hev := T.evol H hd
  have hM := hev.mono H.sp
  have hn := none_of H hd
  refine ⟨hsv, fun k => ?_, ⟨?_, ?_, ?_, ?_⟩, hev⟩
  · rw [updF_append]
    simp only [updF]
    by_cases hk : k = d
    · subst hk
      simp only [if_true, updE_same, ObjOpt]
      exact hX hM
    · simp only [if_neg hk, updE_other _ _ hk, updF_kill]
      have hob := H.ob k
      by_cases hkk : k ∈ ks
      · rw [if_pos hkk]
        unfold killE
        rw [if_pos hkk]
        cases h1 : ob k with
        | none => exact absurd h1 (hks k hkk)
        | some x =>
          rw [h1] at hob
          cases h2 : η k with
          | none => rw [h2] at hob; exact hob.elim
          | some o₀ => simp only [Option.map_some, ObjOpt, ObjRel, deadInfo]; exact ⟨trivial, trivial, trivial⟩
      · rw [if_neg hkk]
        unfold killE
        rw [if_neg hkk]
        cases h1 : ob k with
        | none => cases h2 : η k with
          | none => trivial
          | some o => rw [h1, h2] at hob; exact hob.elim
        | some x => cases h2 : η k with
          | none => rw [h1, h2] at hob; exact hob.elim
          | some o₀ =>
            rw [h1, h2] at hob
            refine ObjRel.mono hM (fun b hb => T.keep b (H.sp.lt k o₀ h2 b hb).1 fun k' hk' o' ho' hm => ?_) hob
            exact H.sp.dj k o₀ k' o' h2 ho' (fun e => hkk (e ▸ hk')) b hb hm
  · intro k o₁ ho b hb
    by_cases hk : k = d
    · subst hk
      rw [updE_same] at ho
      cases ho
      obtain ⟨h1, h2⟩ := T.blk b hb
      refine ⟨h1, fun hg => ?_⟩
      rcases h2 with h2 | ⟨k', _, o', ho', hb'⟩
      · exact absurd (H.sp.glt b hg) (by omega)
      · exact (H.sp.lt k' o' ho' b hb').2 hg
    · rw [updE_other _ _ hk] at ho
      rcases killE_in ho with ⟨_, rfl, _⟩ | ⟨_, ho⟩
      · simp [deadInfo] at hb
      · have := H.sp.lt k o₁ ho b hb
        exact ⟨by have := T.size; omega, this.2⟩
  · intro k o₁ k' o₂ ho ho' hne b hb hb'
    by_cases hk : k = d
    · subst hk
      rw [updE_same] at ho
      cases ho
      rw [updE_other _ _ (Ne.symm hne)] at ho'
      rcases killE_in ho' with ⟨_, rfl, _⟩ | ⟨hnk, ho'⟩
      · simp [deadInfo] at hb'
      · rcases (T.blk b hb).2 with h | ⟨k₁, hk₁, o₃, ho₃, hb₃⟩
        · exact absurd (H.sp.lt k' o₂ ho' b hb').1 (by omega)
        · exact H.sp.dj k₁ o₃ k' o₂ ho₃ ho' (fun e => hnk (e ▸ hk₁)) b hb₃ hb'
    · rw [updE_other _ _ hk] at ho
      rcases killE_in ho with ⟨_, rfl, _⟩ | ⟨hnk, ho⟩
      · simp [deadInfo] at hb
      · by_cases hk' : k' = d
        · subst hk'
          rw [updE_same] at ho'
          cases ho'
          rcases (T.blk b hb').2 with h | ⟨k₁, hk₁, o₃, ho₃, hb₃⟩
          · exact absurd (H.sp.lt k o₁ ho b hb).1 (by omega)
          · exact H.sp.dj k₁ o₃ k o₁ ho₃ ho (fun e => hnk (e ▸ hk₁)) b hb₃ hb
        · rw [updE_other _ _ hk'] at ho'
          rcases killE_in ho' with ⟨_, rfl, _⟩ | ⟨_, ho'⟩
          · simp [deadInfo] at hb'
          · exact H.sp.dj k o₁ k' o₂ ho ho' hne b hb hb'
  · intro k o₁ ho b hb
    by_cases hk : k = d
    · subst hk
      rw [updE_same] at ho
      cases ho
      exact T.mi b hb
    · rw [updE_other _ _ hk] at ho
      rcases killE_in ho with ⟨_, rfl, _⟩ | ⟨_, ho⟩
      · simp [deadInfo] at hb
      · exact H.sp.mi k o₁ ho b hb
  · intro b hb
    have := H.sp.glt b hb
    have := T.size
    omega
end
end Go.SX
