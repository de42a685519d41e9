/- Texts put together: SxU, SxW, SxX, SxY, SxZ, SxI. -/
import Derived.Laws.AppendOwn
import Derived.Lib.ConvBytes
import Derived.Maps.Keyed
import Derived.Lib.AppendStr
import Derived.Laws.Closers25b
import Derived.Test.YtkogbobplhebaaaGreatDoorQa
set_option linter.unusedVariables false
set_option linter.unusedSimpArgs false
set_option linter.unusedSectionVars false
/- SX: append. -/
namespace Go.SX

/-- A row that is the call's own, as 'append' takes it. -/
def OwnsV (w : World) (e size : Nat) (v : Value) (n : Nat) (xs : List Value) : Prop :=
  xs.length = n * size ∧ ((v = .slice none 0 0 ∧ n = 0) ∨
    ∃ g cap cur, v = .slice (some ⟨g, 0, none⟩) n cap ∧ w.heap[g]? = some (.cells cur e (0, 0)) ∧ n ≤ cap ∧ cap ≤ maxLen ∧ cur.size = cap * size ∧ cur.toList.take (n * size) = xs)

theorem run_append_zero {P : Program} {t ty e : TypeId} {i : TypeInfo} (ht : P.underlying t = some (.slice e)) (hi : P.info? e = some i) {w : World} {v : Value} {p : Option Addr} {n c c' : Nat} (hv : v = .slice p n c) (hn : n ≤ c) (p' : Option Addr) :
    (Builtin.append_ #[t, t] ty #[v, .slice p' 0 c']).run P w = .ok v w := by
  subst hv
  cases p <;> simp [Builtin.append_, run_underlying ht, sizeOf, typeInfo, hi, Builtin.lenOf, Builtin.firstCells, hn, loadCells, loadCellsFrom, storeCells] <;> cases p' <;> simp [loadCells, loadCellsFrom, storeCells]

theorem run_append_sx {P : Program} {w : World} (t ty e : TypeId) (i : TypeInfo) (z : Value) (ht : P.underlying t = some (.slice e)) (hi : P.info? e = some i) (hz : i.zero = some z)
    (hzs : z.cells.size = i.size) (hsz : 0 < i.size) (hbz : 0 < i.bytes)
    (v : Value) (n : Nat) (xs : List Value) (hown : OwnsV w e i.size v n xs)
    (p : Option Addr) (m c : Nat) (news : List Value) (hp : m ≠ 0 → ∃ a, p = some a ∧ ∀ j u, news[j]? = some u → w.cell? (a.add j) = some u) (hl : news.length = m * i.size) (h1 : ∀ u ∈ news, u.oneCell' = true)
    (hbytes : (n + m) * i.bytes ≤ 140737488355328) :
    ∃ v' w', (Builtin.append_ #[t, t] ty #[v, .slice p m c]).run P w = .ok v' w' ∧ w'.os = w.os ∧ w'.tape = w.tape ∧ w'.output = w.output ∧ w.heap.size ≤ w'.heap.size ∧
      (∀ b, b < w.heap.size → v.ownBlock ≠ some b → w'.heap[b]? = w.heap[b]?) ∧ OwnsV w' e i.size v' (n + m) (xs ++ news) ∧ (∀ g, v'.ownBlock = some g → w.heap.size ≤ g ∨ v.ownBlock = some g) := by
  have h63 : n + m ≤ maxLen := by
    have : (n + m) * 1 ≤ (n + m) * i.bytes := Nat.mul_le_mul_left _ hbz
    simp only [maxLen]; omega
  by_cases hm : m = 0
  · subst hm
    have hn0 : news = [] := List.eq_nil_of_length_eq_zero (by simpa [leN_iff, ltN_iff] using hl)
    subst hn0
    have hv : ∃ p n c, v = .slice p n c ∧ n ≤ c := by
      rcases hown.2 with ⟨rfl, rfl⟩ | ⟨g, cap, cur, rfl, _, h, _⟩
      · exact ⟨none, 0, 0, rfl, Nat.le_refl _⟩
      · exact ⟨_, _, _, rfl, h⟩
    obtain ⟨p', n', c', hv, hle⟩ := hv
    exact ⟨v, w, run_append_zero ht hi hv hle p, rfl, rfl, rfl, Nat.le_refl _, fun _ _ _ => rfl, by simpa [leN_iff, ltN_iff] using hown, fun g hg => .inr hg⟩
  · obtain ⟨a, rfl, hnews⟩ := hp hm
    obtain ⟨hxl, hown⟩ := hown
    have hlen : (xs ++ news).length = (n + m) * i.size := by rw [List.length_append, hxl, hl, Nat.add_mul]
    have grown : ∀ (old : Nat), old < n + m →
        OwnsV (w.drew.alloc (.cells (xs.toArray ++ news.toArray ++ Builtin.zeroCells z.cells (grownCap w (n + m) old e - (n + m))) e)) e i.size
          (.slice (some ⟨w.heap.size, 0, none⟩) (n + m) (grownCap w (n + m) old e)) (n + m) (xs ++ news) := by
      intro old ho
      have hge := grownCap_ge w (n + m) old e
      refine ⟨hlen, .inr ⟨w.heap.size, _, _, rfl, heap_alloc_new w.drew _, hge, grownCap_le_maxLen w (n + m) old e h63, ?_, ?_⟩⟩
      · simp only [Array.size_append, List.size_toArray, size_zeroCells, hzs, hxl, hl, ← Nat.add_mul]
        congr 1
        omega
      · simp only [Array.toList_append, List.append_assoc]
        rw [← List.append_assoc, ← hlen]
        exact List.take_left
    rcases hown with ⟨rfl, rfl⟩ | ⟨g, cap, cur, rfl, hg, hnc, hcm, hcs, htake⟩
    · have hx : xs = [] := List.eq_nil_of_length_eq_zero (by simpa [leN_iff, ltN_iff] using hxl)
      subst hx
      have hr := run_append_nil (P := P) w t ty e i z ht hi hz a m c news hl hnews (by omega) (by simp only [maxLen] at h63; omega) (by have hb := hbytes; simp only [Nat.zero_add] at hb; omega)
      have hgr := grown 0 (by omega)
      simp only [Nat.zero_add, List.nil_append, Array.empty_append] at hgr ⊢
      refine ⟨_, _, hr, rfl, rfl, rfl, by simp, fun b hb _ => old_alloc w.drew _ b hb, hgr, fun g hg => .inl ?_⟩
      simp [Value.ownBlock] at hg
      omega
    · by_cases hroom : n + m ≤ cap
      · have hfit : n * i.size + news.length ≤ cur.size := by rw [hl, hcs, ← Nat.add_mul]; exact Nat.mul_le_mul_right _ hroom
        have hr := run_append_room (P := P) w t ty e i ht hi g n cap cur hg a m c news hl hnews h1 hroom hfit
        refine ⟨_, _, hr, rfl, rfl, rfl, by simp, fun k _ hk => setRow_other w g k _ (fun e => hk (by simp [Value.ownBlock, e])), ⟨hlen, .inr ⟨g, cap, _, rfl, setRow_heap w g cur _ e _ hg, hroom, hcm, ?_, ?_⟩⟩, fun g' hg' => .inr ?_⟩
        · simp only [List.size_toArray, List.length_append, List.length_take, List.length_drop, Array.length_toList]
          omega
        · rw [htake, ← hlen]
          exact List.take_left
        · simpa [Value.ownBlock] using hg'
      · have holds : ∀ j u, xs[j]? = some u → w.cell? ((⟨g, 0, none⟩ : Addr).add j) = some u := by
          intro j u hu
          have hadd : (⟨g, 0, none⟩ : Addr).add j = ⟨g, j, none⟩ := by unfold Addr.add; split <;> simp_all
          rw [hadd, cell_of_row w g j cur e (0, 0) hg]
          rw [← htake, List.getElem?_take] at hu
          split at hu
          · simpa using hu
          · cases hu
        have hr := run_append_grow (P := P) w t ty e i z ht hi hz ⟨g, 0, none⟩ n cap xs hxl holds a m c news hl hnews (by omega) (by simp only [maxLen] at h63; omega) (growslice_fits (by omega) hbytes)
        refine ⟨_, _, hr, rfl, rfl, rfl, by simp, fun b hb _ => old_alloc w.drew _ b hb, grown cap (by omega), fun g' hg' => .inl ?_⟩
        simp [Value.ownBlock] at hg'
        omega

/-- The same, of a text's bytes. -/
theorem run_append_strx {P : Program} {w : World} (t u ty e : TypeId) (i : TypeInfo) (z : Value) (ht : P.underlying t = some (.slice e)) (hu : P.underlying u = some .string) (hi : P.info? e = some i) (hz : i.zero = some z)
    (hzs : z.cells.size = i.size) (hs1 : i.size = 1) (hb1 : i.bytes = 1)
    (v : Value) (n : Nat) (xs : List Value) (hown : OwnsV w e 1 v n xs) (s : ByteArray) (hbytes : (n + s.size) * 1 ≤ 140737488355328) :
    ∃ v' w', (Builtin.append_ #[t, u] ty #[v, .string s]).run P w = .ok v' w' ∧ w'.os = w.os ∧ w'.tape = w.tape ∧ w'.output = w.output ∧ w.heap.size ≤ w'.heap.size ∧
      (∀ b, b < w.heap.size → v.ownBlock ≠ some b → w'.heap[b]? = w.heap[b]?) ∧ OwnsV w' e 1 v' (n + s.size) (xs ++ Lib.strCells s) ∧ (∀ g, v'.ownBlock = some g → w.heap.size ≤ g ∨ v.ownBlock = some g) := by
  have h63 : n + s.size ≤ maxLen := by simp only [maxLen]; omega
  have hsl := Lib.strCells_length s
  obtain ⟨hxl, hown⟩ := hown
  have hlen : (xs ++ Lib.strCells s).length = (n + s.size) * 1 := by rw [List.length_append, hxl, hsl]; omega
  have grown : ∀ (old : Nat), old < n + s.size →
      OwnsV (w.drew.alloc (.cells (xs.toArray ++ (Lib.strCells s).toArray ++ Builtin.zeroCells z.cells (grownCap w (n + s.size) old e - (n + s.size))) e)) e 1
        (.slice (some ⟨w.heap.size, 0, none⟩) (n + s.size) (grownCap w (n + s.size) old e)) (n + s.size) (xs ++ Lib.strCells s) := by
    intro old ho
    have hge := grownCap_ge w (n + s.size) old e
    refine ⟨hlen, .inr ⟨w.heap.size, _, _, rfl, heap_alloc_new w.drew _, hge, grownCap_le_maxLen w (n + s.size) old e h63, ?_, ?_⟩⟩
    · simp only [Array.size_append, List.size_toArray, size_zeroCells, hzs, hs1, hxl, hsl]
      omega
    · simp only [Array.toList_append, List.append_assoc]
      rw [← List.append_assoc, ← hlen]
      exact List.take_left
  rcases hown with ⟨rfl, rfl⟩ | ⟨g, cap, cur, rfl, hg, hnc, hcm, hcs, htake⟩
  · have hx : xs = [] := List.eq_nil_of_length_eq_zero (by simpa [leN_iff, ltN_iff] using hxl)
    subst hx
    by_cases h0 : s.size = 0
    · have hc : Lib.strCells s = [] := List.eq_nil_of_length_eq_zero (by rw [hsl, h0])
      rw [h0, hc]
      refine ⟨.slice none 0 0, w, ?_, rfl, rfl, rfl, Nat.le_refl _, fun _ _ _ => rfl, ⟨rfl, .inl ⟨rfl, rfl⟩⟩, fun g hg => .inr hg⟩
      have hf := Lib.run_firstCells_string (P := P) w i.size s
      rw [h0, hc] at hf
      simp [Builtin.append_, run_underlying ht, run_underlying hu, sizeOf, typeInfo, hi, Builtin.lenOf, h0, hf]
    · have hr := run_append_nil_string (P := P) w t u ty e i z ht hu hi hz s (by omega) (by simp only [maxLen] at h63; omega) (by rw [hb1]; omega)
      have hgr := grown 0 (by omega)
      simp only [Nat.zero_add, List.nil_append, Array.empty_append] at hgr ⊢
      have hcells : (s.data.map (fun b => Value.int .u8 b.toNat)) = (Lib.strCells s).toArray := by apply Array.ext'; simp [Lib.strCells]
      rw [hcells] at hr
      refine ⟨_, _, hr, rfl, rfl, rfl, by simp, fun b hb _ => old_alloc w.drew _ b hb, hgr, fun g hg => .inl ?_⟩
      simp [Value.ownBlock] at hg
      omega
  · by_cases hroom : n + s.size ≤ cap
    · have hr := Lib.run_append_room_string (P := P) w t u ty e i ht hu hi hs1 g n cap cur hg s hroom (by rw [hcs]; omega)
      refine ⟨_, _, hr, rfl, rfl, rfl, by simp, fun k _ hk => setRow_other w g k _ (fun e => hk (by simp [Value.ownBlock, e])), ⟨hlen, .inr ⟨g, cap, _, rfl, setRow_heap w g cur _ e _ hg, hroom, hcm, ?_, ?_⟩⟩, fun g' hg' => .inr ?_⟩
      · simp only [List.size_toArray, List.length_append, List.length_take, List.length_drop, Array.length_toList, hsl]
        omega
      · have ht' : cur.toList.take n = xs := by rw [← htake, Nat.mul_one]
        rw [ht', ← hlen]
        exact List.take_left
      · simpa [Value.ownBlock] using hg'
    · have holds : ∀ j u, xs[j]? = some u → w.cell? ((⟨g, 0, none⟩ : Addr).add j) = some u := by
        intro j u hu
        have hadd : (⟨g, 0, none⟩ : Addr).add j = ⟨g, j, none⟩ := by unfold Addr.add; split <;> simp_all
        rw [hadd, cell_of_row w g j cur e (0, 0) hg]
        rw [← htake, List.getElem?_take] at hu
        split at hu
        · simpa using hu
        · cases hu
      have hr := Lib.run_append_grow_string (P := P) w t u ty e i z ht hu hi hz ⟨g, 0, none⟩ n cap xs (by rw [hs1]; exact hxl) holds s (by omega) (by simp only [maxLen] at h63; omega) (growslice_fits (by omega) (by rw [hb1]; exact hbytes))
      refine ⟨_, _, hr, rfl, rfl, rfl, by simp, fun b hb _ => old_alloc w.drew _ b hb, grown cap (by omega), fun g' hg' => .inl ?_⟩
      simp [Value.ownBlock] at hg'
      omega

section
variable {P : Program} {E : Env} {η : OEnv} {G : Nat → Prop} {N : Nat} {dl : List Deferred} {get : Nat → SV} {ob : Nat → Option TObj} {a : Act} {w : World}

def deadInfo : OInfo := ⟨.slice none 0 0, [], [], true⟩

def killE (η : OEnv) (ks : List Nat) : OEnv := fun k => if k ∈ ks then (η k).map fun _ => deadInfo else η k

theorem killE_in {ks : List Nat} {k : Nat} {o : OInfo} (h : killE η ks k = some o) : (k ∈ ks ∧ o = deadInfo ∧ ∃ o₀, η k = some o₀) ∨ (k ∉ ks ∧ η k = some o) := by
  unfold killE at h
  split at h
  · rename_i hk
    cases hη : η k with
    | none => rw [hη] at h; cases h
    | some o₀ => rw [hη] at h; cases h; exact .inl ⟨hk, rfl, o₀, rfl⟩
  · rename_i hk; exact .inr ⟨hk, h⟩

theorem killE_some {ks : List Nat} {k : Nat} {o : OInfo} (h : η k = some o) : ∃ o', killE η ks k = some o' ∧ (o'.dead = false → k ∉ ks ∧ o' = o) := by
  unfold killE
  split
  · rename_i hk; rw [h]; exact ⟨deadInfo, rfl, fun h => by simp [deadInfo] at h⟩
  · rename_i hk; exact ⟨o, h, fun _ => ⟨hk, rfl⟩⟩

/-- Objects are taken, a new one is made of their blocks and of new ones. -/
structure Takes (η : OEnv) (w : World) (ks : List Nat) (w' : World) (o : OInfo) : Prop where
  os : w'.os = w.os
  tape : w'.tape = w.tape
  out : w'.output = w.output
  size : w.heap.size ≤ w'.heap.size
  keep : ∀ b, b < w.heap.size → (∀ k ∈ ks, ∀ o, η k = some o → b ∉ o.main ++ o.inner) → w'.heap[b]? = w.heap[b]?
  blk : ∀ b ∈ o.main ++ o.inner, b < w'.heap.size ∧ (w.heap.size ≤ b ∨ ∃ k ∈ ks, ∃ o', η k = some o' ∧ b ∈ o'.main ++ o'.inner)
  mi : ∀ b ∈ o.main, b ∉ o.inner

theorem Takes.evol (H : Holds dl η G N get ob a w) {d : Nat} (hd : ob d = none) {ks : List Nat} {w' : World} {o : OInfo} (T : Takes η w ks w' o) : Evol η G w (updE (killE η ks) d o) G w' := by
  have hn := none_of H hd
  refine ⟨T.os, T.tape, T.out, T.size, fun b hb hn => T.keep b hb fun k _ o ho => hn k o ho, ?_, fun _ h => h, fun _ h => .inl h, ?_⟩
  · intro k o₀ ho
    have hk : k ≠ d := fun e => by rw [e, hn] at ho; cases ho
    obtain ⟨o', ho', hd'⟩ := killE_some (ks := ks) ho
    refine ⟨o', by rw [updE_other _ _ hk]; exact ho', fun hdd => ?_⟩
    obtain ⟨hnk, rfl⟩ := hd' hdd
    refine ⟨hdd, rfl, Ext.refl _, fun b hb => ⟨hb, T.keep b (H.sp.lt k _ ho b (by simp [hb])).1 fun k' hk' o' ho' hm => ?_⟩⟩
    exact H.sp.dj k _ k' o' ho ho' (fun e => hnk (e ▸ hk')) b (by simp [hb]) hm
  · intro k o₁ ho b hb
    by_cases hk : k = d
    · subst hk
      rw [updE_same] at ho
      cases ho
      rcases (T.blk b hb).2 with h | ⟨k', hk', o', ho', hb'⟩
      · exact .inl h
      · exact .inr ⟨k', o', ho', hb'⟩
    · rw [updE_other _ _ hk] at ho
      rcases killE_in ho with ⟨_, rfl, _⟩ | ⟨_, ho⟩
      · simp [deadInfo] at hb
      · exact .inr ⟨k, o₁, ho, hb⟩

theorem updF_append (ob : Nat → Option TObj) : ∀ (l m : Objs), updF ob (l ++ m) = updF (updF ob l) m
  | [], m => rfl
  | (k, x) :: l, m => by simp only [List.cons_append, updF]; exact updF_append _ l m

theorem updF_kill (ob : Nat → Option TObj) : ∀ (ks : List Nat) (k : Nat), updF ob (killN ks) k = if k ∈ ks then some .dead else ob k
  | [], k => by simp [killN, updF]
  | j :: r, k => by
      simp only [killN, updF]
      rw [updF_kill _ r k]
      by_cases h : k ∈ r
      · simp [h]
      · by_cases h' : k = j
        · simp [h, h']
        · simp [h, h']

theorem after_take (H : Holds dl η G N get ob a w) {d : Nat} (hd : ob d = none) {ks : List Nat} (hks : ∀ k ∈ ks, ob k ≠ none) {w' : World} {o : OInfo} (T : Takes η w ks w' o) {X : TObj}
    (hX : Mono η G w (updE (killE η ks) d o) G w' → ObjRel (updE (killE η ks) d o) G w' X o) {sv : SV} {v : Value} (hsv : SVRel (updE (killE η ks) d o) G w' sv v) :
    After η G w ob sv (killN ks ++ [(d, X)]) v (updE (killE η ks) d o) G w' := by
  have hev := T.evol H hd
  have hM := hev.mono H.sp
  have hn := none_of H hd
  refine ⟨hsv, fun k => ?_, ⟨?_, ?_, ?_, ?_⟩, hev⟩
  · rw [updF_append]
    simp only [updF]
    by_cases hk : k = d
    · subst hk
      simp only [if_true, updE_same, ObjOpt]
      exact hX hM
    · simp only [if_neg hk, updE_other _ _ hk, updF_kill]
      have hob := H.ob k
      by_cases hkk : k ∈ ks
      · rw [if_pos hkk]
        unfold killE
        rw [if_pos hkk]
        cases h1 : ob k with
        | none => exact absurd h1 (hks k hkk)
        | some x =>
          rw [h1] at hob
          cases h2 : η k with
          | none => rw [h2] at hob; exact hob.elim
          | some o₀ => simp only [Option.map_some, ObjOpt, ObjRel, deadInfo]; exact ⟨trivial, trivial, trivial⟩
      · rw [if_neg hkk]
        unfold killE
        rw [if_neg hkk]
        cases h1 : ob k with
        | none => cases h2 : η k with
          | none => trivial
          | some o => rw [h1, h2] at hob; exact hob.elim
        | some x => cases h2 : η k with
          | none => rw [h1, h2] at hob; exact hob.elim
          | some o₀ =>
            rw [h1, h2] at hob
            refine ObjRel.mono hM (fun b hb => T.keep b (H.sp.lt k o₀ h2 b hb).1 fun k' hk' o' ho' hm => ?_) hob
            exact H.sp.dj k o₀ k' o' h2 ho' (fun e => hkk (e ▸ hk')) b hb hm
  · intro k o₁ ho b hb
    by_cases hk : k = d
    · subst hk
      rw [updE_same] at ho
      cases ho
      obtain ⟨h1, h2⟩ := T.blk b hb
      refine ⟨h1, fun hg => ?_⟩
      rcases h2 with h2 | ⟨k', _, o', ho', hb'⟩
      · exact absurd (H.sp.glt b hg) (by omega)
      · exact (H.sp.lt k' o' ho' b hb').2 hg
    · rw [updE_other _ _ hk] at ho
      rcases killE_in ho with ⟨_, rfl, _⟩ | ⟨_, ho⟩
      · simp [deadInfo] at hb
      · have := H.sp.lt k o₁ ho b hb
        exact ⟨by have := T.size; omega, this.2⟩
  · intro k o₁ k' o₂ ho ho' hne b hb hb'
    by_cases hk : k = d
    · subst hk
      rw [updE_same] at ho
      cases ho
      rw [updE_other _ _ (Ne.symm hne)] at ho'
      rcases killE_in ho' with ⟨_, rfl, _⟩ | ⟨hnk, ho'⟩
      · simp [deadInfo] at hb'
      · rcases (T.blk b hb).2 with h | ⟨k₁, hk₁, o₃, ho₃, hb₃⟩
        · exact absurd (H.sp.lt k' o₂ ho' b hb').1 (by omega)
        · exact H.sp.dj k₁ o₃ k' o₂ ho₃ ho' (fun e => hnk (e ▸ hk₁)) b hb₃ hb'
    · rw [updE_other _ _ hk] at ho
      rcases killE_in ho with ⟨_, rfl, _⟩ | ⟨hnk, ho⟩
      · simp [deadInfo] at hb
      · by_cases hk' : k' = d
        · subst hk'
          rw [updE_same] at ho'
          cases ho'
          rcases (T.blk b hb').2 with h | ⟨k₁, hk₁, o₃, ho₃, hb₃⟩
          · exact absurd (H.sp.lt k o₁ ho b hb).1 (by omega)
          · exact H.sp.dj k₁ o₃ k o₁ ho₃ ho (fun e => hnk (e ▸ hk₁)) b hb₃ hb
        · rw [updE_other _ _ hk'] at ho'
          rcases killE_in ho' with ⟨_, rfl, _⟩ | ⟨_, ho'⟩
          · simp [deadInfo] at hb'
          · exact H.sp.dj k o₁ k' o₂ ho ho' hne b hb hb'
  · intro k o₁ ho b hb
    by_cases hk : k = d
    · subst hk
      rw [updE_same] at ho
      cases ho
      exact T.mi b hb
    · rw [updE_other _ _ hk] at ho
      rcases killE_in ho with ⟨_, rfl, _⟩ | ⟨_, ho⟩
      · simp [deadInfo] at hb
      · exact H.sp.mi k o₁ ho b hb
  · intro b hb
    have := H.sp.glt b hb
    have := T.size
    omega
end
end Go.SX

/- SX: append, sound. -/
namespace Go.SX

section
variable {P : Program} {E : Env} {η : OEnv} {G : Nat → Prop} {N : Nat} {dl : List Deferred} {get : Nat → SV} {ob : Nat → Option TObj} {a : Act} {w : World}

def u8v (x : UInt8) : Value := .int .u8 (x.toNat : Int)

theorem take_bytes {cs : Array Value} {bs : List UInt8} (h : ∀ (i : Nat) (x : UInt8), bs[i]? = some x → cs[i]? = some (.int .u8 (x.toNat : Int))) (hs : bs.length ≤ cs.size) : cs.toList.take (bs.length * 1) = bs.map u8v := by
  apply List.ext_getElem?
  intro i
  rw [Nat.mul_one, List.getElem?_take, List.getElem?_map]
  split
  · rename_i hi
    have := h i bs[i] (List.getElem?_eq_getElem hi)
    rw [List.getElem?_eq_getElem hi]
    simpa [u8v] using this
  · rename_i hi
    rw [List.getElem?_eq_none (by omega)]; rfl

/-- The blocks of a row that objects own. -/
def BaseOf (η : OEnv) (ks : List Nat) (v : Value) : Prop := ∀ g, v.ownBlock = some g → ∃ k ∈ ks, ∃ o, η k = some o ∧ o.main = [g]

theorem base_blk (H : Holds dl η G N get ob a w) {k e wd n : Nat} {o : OInfo} {Q : Array Value → Prop} (hk : η k = some o) (hq : ownsBlk w o true e wd n Q) (he : 0 < e) :
    ∃ xs, OwnsV w e wd o.val n xs ∧ BaseOf η [k] o.val ∧ (n = 0 ∨ ∃ cs : Array Value, Q cs ∧ cs.toList.take (n * wd) = xs ∧ n * wd ≤ cs.size) := by
  rcases hq with ⟨hv, hn, _⟩ | ⟨b, c, cs, T, hv, hm, hh, ⟨hs, hT⟩, hc, hcm, hQ⟩
  · refine ⟨[], ⟨by simp [hn], .inl ⟨hv, hn⟩⟩, fun g hg => ?_, .inl hn⟩
    rw [hv] at hg; cases hg
  · have hT := hT.resolve_left (by omega)
    subst hT
    have hs := hs.1 rfl
    have hle : n * wd ≤ cs.size := by rw [hs]; exact Nat.mul_le_mul_right _ hc
    refine ⟨cs.toList.take (n * wd), ⟨by simp; omega, .inr ⟨b, c, cs, hv, hh, hc, hcm, hs, rfl⟩⟩, fun g hg => ?_, .inr ⟨cs, hQ, rfl, hle⟩⟩
    rw [hv] at hg
    simp [Value.ownBlock] at hg
    subst hg
    exact ⟨k, by simp, o, hk, hm⟩

theorem base_csl (H : Holds dl η G N get ob a w) {k T wd : Nat} {v : Value} (hob : ob k = some (.cells T [])) (hx : SVRel η G w (.csl k wd 0) v) (sz : Nat) : OwnsV w T sz v 0 [] ∧ BaseOf η [k] v := by
  obtain ⟨o, hk, hr⟩ := obj_of H hob
  simp only [ObjRel] at hr
  obtain ⟨hd, hin, b, vs, hm, hh, hs⟩ := hr
  simp only [SVRel] at hx
  obtain ⟨o', hk', _, hv⟩ := hx
  rw [hk] at hk'; cases hk'
  obtain ⟨b', hm', rfl⟩ := hv hd
  first | (rw [hm] at hm'; cases hm'; done) | (rw [hm] at hm'; cases hm') | (obtain rfl := OInfo.at_one hm hm')
  have hl := SVRels.length hs
  have hvs : vs = [] := List.eq_nil_of_length_eq_zero (by simpa [leN_iff, ltN_iff] using hl)
  subst hvs
  refine ⟨⟨by simp, .inr ⟨b, 0, #[], rfl, hh, Nat.le_refl _, Nat.zero_le _, by simp, by simp⟩⟩, fun g hg => ?_⟩
  simp [Value.ownBlock] at hg
  subst hg
  exact ⟨k, by simp, o, hk, hm⟩

theorem baseB_ok (H : Holds dl η G N get ob a w) {e : Nat} {x : SV} {v : Value} (hx : SVRel η G w x v) {ks : List Nat} {bs : Unit → List UInt8} (h : baseB e ob x = some (ks, bs)) :
    OwnsV w e 1 v (bs ()).length ((bs ()).map u8v) ∧ BaseOf η ks v ∧ (∀ k ∈ ks, ob k ≠ none) := by
  unfold baseB at h
  split at h
  · cases h
    simp only [SVRel] at hx
    subst hx
    exact ⟨⟨by simp, .inl ⟨rfl, rfl⟩⟩, (fun g hg => by cases hg), by simp⟩
  · rename_i k
    split at h
    · rename_i T bs' hob
      cases hc : (eqN T e && ltN 0 e) with
      | false => rw [hc] at h; cases h
      | true =>
        rw [hc] at h
        simp only [cond_true, Option.some.injEq, Prod.mk.injEq] at h
        obtain ⟨rfl, rfl⟩ := h
        simp only [Bool.and_eq_true] at hc
        have := eqN_eq hc.1
        subst this
        have he : 0 < T := by simpa [ltN_iff] using hc.2
        obtain ⟨o, hk, hr⟩ := obj_of H hob
        simp only [ObjRel] at hr
        obtain ⟨hd, hin, hq⟩ := hr
        simp only [SVRel] at hx
        obtain ⟨o', hk', _, hv⟩ := hx
        rw [hk] at hk'; cases hk'
        have hv := hv hd
        subst hv
        obtain ⟨xs, h1, h2, h3⟩ := base_blk H hk hq he
        refine ⟨?_, h2, by simp [hob]⟩
        have hxs : xs = (bs' ()).map u8v := by
          rcases h3 with h0 | ⟨cs, hQ, ht, hle⟩
          · have : xs = [] := List.eq_nil_of_length_eq_zero (by rw [h1.1, h0])
            rw [this, List.eq_nil_of_length_eq_zero h0]; rfl
          · rw [← ht, take_bytes hQ (by omega)]
        rw [← hxs]; exact h1
    · cases h
  · rename_i k wd n
    split at h
    · rename_i T hob
      cases hc : (eqN T e && ltN 0 e && eqN n 0 && eqN wd 1) with
      | false => rw [hc] at h; cases h
      | true =>
        rw [hc] at h
        simp only [cond_true, Option.some.injEq, Prod.mk.injEq] at h
        obtain ⟨rfl, rfl⟩ := h
        simp only [Bool.and_eq_true] at hc
        have := eqN_eq hc.1.1.1
        subst this
        have := eqN_eq hc.1.2
        subst this
        obtain ⟨h1, h2⟩ := base_csl H hob hx 1
        exact ⟨h1, h2, by simp [hob]⟩
    · cases h
  · cases h

theorem add_at (b o j : Nat) : (⟨b, o, none⟩ : Addr).add j = ⟨b, o + j, none⟩ := add_none b o j

/-- A slice whose cells can be read. -/
def Rd (w : World) (v : Value) (m : Nat) (news : List Value) : Prop := ∃ p c, v = .slice p m c ∧ (m ≠ 0 → ∃ a, p = some a ∧ ∀ j u, news[j]? = some u → w.cell? (a.add j) = some u)

theorem rd_bytes {S : Nat → Prop} {bs : Unit → List UInt8} {v : Value} (h : DVRel w S (.bytes bs) v) : Rd w v (bs ()).length ((bs ()).map u8v) := by
  simp only [DVRel] at h
  obtain ⟨p, c, rfl, hc, hr⟩ := h
  refine ⟨p, c, rfl, fun hm => ?_⟩
  have h0 : 0 < (bs ()).length := by omega
  obtain ⟨b, o, rfl, _, _⟩ := hr 0 _ (List.getElem?_eq_getElem h0)
  refine ⟨_, rfl, fun j u hj => ?_⟩
  rw [List.getElem?_map] at hj
  cases hx : (bs ())[j]? with
  | none => rw [hx] at hj; cases hj
  | some x =>
    rw [hx] at hj
    cases hj
    obtain ⟨b', o', he, _, hcell⟩ := hr j x hx
    cases he
    rw [add_at]; exact hcell

theorem rd_csl (H : Holds dl η G N get ob a w) {k T wd n : Nat} {cs : List SV} {v : Value} (hob : ob k = some (.cells T cs)) (hx : SVRel η G w (.csl k wd n) v) : ∃ vs, Rd w v n vs ∧ SVRels η G w cs vs := by
  obtain ⟨o, hk, hr⟩ := obj_of H hob
  simp only [ObjRel] at hr
  obtain ⟨hd, hin, b, vs, hm, hh, hs⟩ := hr
  simp only [SVRel] at hx
  obtain ⟨o', hk', _, hv⟩ := hx
  rw [hk] at hk'; cases hk'
  obtain ⟨b', hm', rfl⟩ := hv hd
  first | (rw [hm] at hm'; cases hm'; done) | (rw [hm] at hm'; cases hm') | (obtain rfl := OInfo.at_one hm hm')
  refine ⟨vs, ⟨_, _, rfl, fun _ => ⟨_, rfl, fun j u hj => ?_⟩⟩, hs⟩
  rw [add_at, cell_cells hh]
  simpa using hj

theorem u8s_ok : ∀ {cs : List SV} {l : List IE} {vs : List Value}, u8s cs = some l → u8Obl l → SVRels η G w cs vs → vs = (u8List l).map u8v
  | [], l, [], h, _, _ => by simp [u8s] at h; subst h; rfl
  | [], _, _ :: _, _, _, h => by simp [SVRels] at h
  | c :: cs, l, [], _, _, h => by simp [SVRels] at h
  | c :: cs, l, v :: vs, h, ho, hs => by
      unfold u8s at h
      split at h
      · rename_i heq; cases heq
      · rename_i e r heq
        cases heq
        split at h
        · rename_i l' hl
          cases h
          simp only [SVRels] at hs
          simp only [u8Obl] at ho
          rw [u8s_ok hl ho.2 hs.2]
          have hv := hs.1
          simp only [SVRel] at hv
          subst hv
          simp only [u8List, List.map_cons, List.cons.injEq, and_true, u8v]
          congr 1
          simp only [UInt8.toNat_ofNat']
          omega
        · cases h
      · cases h

theorem addB_ok (H : Holds dl η G N get ob a w) {y : SV} {v : Value} (hy : SVRel η G w y v) {A : Add} (h : addB ob y = some A) (ho : A.obl ()) : Rd w v (A.bs ()).length ((A.bs ()).map u8v) := by
  unfold addB at h
  split at h
  · cases h
    simp only [SVRel] at hy
    subst hy
    exact ⟨none, 0, rfl, fun h => absurd rfl h⟩
  · cases h
    simp only [SVRel] at hy
    exact rd_bytes hy
  · cases h
    simp only [SVRel] at hy
    exact rd_bytes hy.1
  · rename_i k bs
    cases hal : aliveO (ob k) with
    | false => rw [hal] at h; cases h
    | true =>
      rw [hal] at h
      cases h
      simp only [SVRel] at hy
      obtain ⟨o, hk, _, hv⟩ := hy
      exact rd_bytes (hv (alive_of H hal hk))
  · rename_i k
    split at h
    · rename_i T bs hob
      cases h
      exact rd_bytes (own_dv' H hob hy)
    · cases h
  · rename_i k wd n
    split at h
    · rename_i T cs hob
      split at h
      · rename_i l hl
        cases hc : (eqN wd 1 && eqN n l.length) with
        | false => rw [hc] at h; cases h
        | true =>
          rw [hc] at h
          cases h
          simp only [Bool.and_eq_true] at hc
          have hn := eqN_eq hc.2
          obtain ⟨vs, h1, h2⟩ := rd_csl H hob hy
          have := u8s_ok hl ho h2
          subst this
          have hlen : (u8List l).length = l.length := by clear h2 hl ho hob hn h1 hc; induction l <;> simp_all [u8List]
          simp only [hlen, ← hn]
          exact h1
      · cases h
    · cases h
  · cases h
where
  own_dv' {k T : Nat} {bs : Unit → List UInt8} {v : Value} (H : Holds dl η G N get ob a w) (hob : ob k = some (.barr T bs)) (hy : SVRel η G w (.own k) v) : DVRel w (fun _ => True) (.bytes bs) v := by
    obtain ⟨o, hk, hr⟩ := obj_of H hob
    simp only [ObjRel] at hr
    obtain ⟨hd, hin, hq⟩ := hr
    simp only [SVRel] at hy
    obtain ⟨o', hk', _, hv⟩ := hy
    rw [hk] at hk'; cases hk'
    have hv := hv hd
    subst hv
    simp only [DVRel]
    rcases hq with ⟨hv, hn, _⟩ | ⟨b, c, cs, T', hv, hm, hh, ⟨hs, hT⟩, hc, hcm, hQ⟩
    · exact ⟨none, 0, by rw [hv, hn], by omega, fun i x hx => by rw [List.eq_nil_of_length_eq_zero hn] at hx; simp at hx⟩
    · exact ⟨_, c, hv, hc, fun i x hx => ⟨b, 0, rfl, trivial, by rw [cell_cells hh, Nat.zero_add]; exact hQ i x hx⟩⟩

theorem blk_of {w : World} {e sz n : Nat} {v : Value} {xs : List Value} (h : OwnsV w e sz v n xs) (inner : List Nat) {Q : Array Value → Prop} (hQ : ∀ cur : Array Value, cur.toList.take (n * sz) = xs → Q cur) :
    ownsBlk w ⟨v, v.ownBlock.toList, inner, false⟩ true e sz n Q := by
  rcases h.2 with ⟨rfl, hn⟩ | ⟨g, cap, cur, rfl, hg, hc, hcm, hs, ht⟩
  · exact .inl ⟨rfl, hn, rfl⟩
  · exact .inr ⟨g, cap, cur, (e, 0, 0), rfl, rfl, hg, ⟨⟨fun _ => hs, Nat.le_of_eq hs.symm⟩, .inr rfl⟩, hc, hcm, hQ cur ht⟩
theorem blk_sT {w : World} {o : OInfo} {e wd n : Nat} {Q : Array Value → Prop} (h : ownsBlk w o true e wd n Q) : ownsBlk w o (tyOf (sT e)) (baseT (sT e)) wd n Q := by
  unfold sT
  cases he : ltN e 1000 with
  | true => simp only [cond_true, tyOf, baseT, he]; exact h
  | false =>
    rcases h with h | ⟨b, c, cs, T, h1, h2, h3, h4, h5⟩
    · exact .inl h
    · exact .inr ⟨b, c, cs, T, h1, h2, h3, ⟨⟨fun _ => h4.1.1 rfl, h4.1.2⟩, .inl rfl⟩, h5⟩

theorem slice_one {v : Value} {e sz n : Nat} {xs : List Value} (h : OwnsV w e sz v n xs) : v.oneCell' = true := by
  rcases h.2 with ⟨rfl, _⟩ | ⟨g, cap, cur, rfl, _⟩ <;> rfl

theorem own_rel {η' : OEnv} {G' : Nat → Prop} {w' : World} {d : Nat} {o : OInfo} (h1 : o.val.oneCell' = true) : SVRel (updE η' d o) G' w' (.own d) o.val := by
  simp only [SVRel]
  exact ⟨o, updE_same _ _ _, h1, fun _ => rfl⟩

/-- What 'append' leaves, as taken objects. -/
theorem takes_app {ks : List Nat} {v v' : Value} {w' : World} {e sz n : Nat} {xs : List Value} (hb : BaseOf η ks v) (hos : w'.os = w.os) (htp : w'.tape = w.tape) (hou : w'.output = w.output) (hsz : w.heap.size ≤ w'.heap.size)
    (hkeep : ∀ b, b < w.heap.size → v.ownBlock ≠ some b → w'.heap[b]? = w.heap[b]?) (hown : OwnsV w' e sz v' n xs) (hg : ∀ g, v'.ownBlock = some g → w.heap.size ≤ g ∨ v.ownBlock = some g) (inner : List Nat)
    (hin : ∀ b ∈ inner, (b < w'.heap.size ∧ (w.heap.size ≤ b ∨ ∃ k ∈ ks, ∃ o', η k = some o' ∧ b ∈ o'.main ++ o'.inner)) ∧ v'.ownBlock ≠ some b) : Takes η w ks w' ⟨v', v'.ownBlock.toList, inner, false⟩ := by
  refine ⟨hos, htp, hou, hsz, fun b hlt hn => hkeep b hlt fun e => ?_, fun b hb' => ?_, fun b hb' hbi => ?_⟩
  · obtain ⟨k, hk, o, ho, hm⟩ := hb b e
    exact hn k hk o ho (by simp [hm])
  · rcases List.mem_append.1 hb' with hb' | hb'
    · simp only [Option.mem_toList, Option.mem_def] at hb'
      refine ⟨?_, ?_⟩
      · rcases hown.2 with ⟨rfl, _⟩ | ⟨g, cap, cur, rfl, hgg, _⟩
        · cases hb'
        · simp [Value.ownBlock] at hb'; subst hb'; exact (Array.getElem?_eq_some_iff.1 hgg).1
      · rcases hg b hb' with h | h
        · exact .inl h
        · obtain ⟨k, hk, o, ho, hm⟩ := hb b h
          exact .inr ⟨k, hk, o, ho, by simp [hm]⟩
    · exact (hin b hb').1
  · simp only [Option.mem_toList, Option.mem_def] at hb'
    exact (hin b hbi).2 hb'

theorem u8v_one (l : List UInt8) : ∀ u ∈ l.map u8v, u.oneCell' = true := by
  intro u hu
  obtain ⟨x, _, rfl⟩ := List.mem_map.1 hu
  rfl
end
end Go.SX

/- SX: append, of rows. -/
namespace Go.SX

section
variable {P : Program} {E : Env} {η : OEnv} {G : Nat → Prop} {N : Nat} {dl : List Deferred} {get : Nat → SV} {ob : Nat → Option TObj} {a : Act} {w : World}

theorem row_lt {i j n wd : Nat} (hi : i < n) (hj : j < wd) : i * wd + j < n * wd := by
  have : (i + 1) * wd ≤ n * wd := Nat.mul_le_mul_right _ hi
  rw [Nat.add_mul] at this
  omega

def Rows (n wd : Nat) (xs : List Value) (R : Nat → Nat → Value → Prop) : Prop := ∀ i j, i < n → j < wd → ∃ u, xs[i * wd + j]? = some u ∧ R i j u

theorem Rows.app {n m wd : Nat} {xs ys : List Value} {R S : Nat → Nat → Value → Prop} (hl : xs.length = n * wd) (h : Rows n wd xs R) (h' : Rows m wd ys S) {T : Nat → Nat → Value → Prop}
    (h1 : ∀ i j u, i < n → j < wd → R i j u → T i j u) (h2 : ∀ i j u, i < m → j < wd → S i j u → T (n + i) j u) : Rows (n + m) wd (xs ++ ys) T := by
  intro i j hi hj
  by_cases hn : i < n
  · obtain ⟨u, hu, hr⟩ := h i j hn hj
    have := row_lt hn hj
    exact ⟨u, by rw [List.getElem?_append_left (by omega)]; exact hu, h1 i j u hn hj hr⟩
  · obtain ⟨u, hu, hr⟩ := h' (i - n) j (by omega) hj
    refine ⟨u, ?_, by have := h2 (i - n) j u (by omega) hj hr; rwa [show n + (i - n) = i by omega] at this⟩
    rw [show i * wd + j = xs.length + ((i - n) * wd + j) by
      have : i = n + (i - n) := by omega
      rw [hl]; conv => lhs; rw [this, Nat.add_mul]
      omega]
    rw [List.getElem?_append_right (by omega)]
    simpa using hu

theorem Rows.cur {n wd : Nat} {xs : List Value} {R : Nat → Nat → Value → Prop} (h : Rows n wd xs R) {cur : Array Value} (ht : cur.toList.take (n * wd) = xs) : ∀ i j, i < n → j < wd → ∃ u, cur[i * wd + j]? = some u ∧ R i j u := by
  intro i j hi hj
  obtain ⟨u, hu, hr⟩ := h i j hi hj
  rw [← ht, List.getElem?_take, if_pos (row_lt hi hj)] at hu
  exact ⟨u, by simpa [leN_iff, ltN_iff] using hu, hr⟩

theorem Rows.of_cur {n wd : Nat} {xs : List Value} {R : Nat → Nat → Value → Prop} {cur : Array Value} (h : ∀ i j, i < n → j < wd → ∃ u, cur[i * wd + j]? = some u ∧ R i j u) (ht : cur.toList.take (n * wd) = xs) : Rows n wd xs R := by
  intro i j hi hj
  obtain ⟨u, hu, hr⟩ := h i j hi hj
  exact ⟨u, by rw [← ht, List.getElem?_take, if_pos (row_lt hi hj)]; simpa using hu, hr⟩

theorem baseT_reT (ty : Bool) (T : Nat) : baseT (reT ty T) = baseT T := by
  unfold reT baseT
  cases ty with
  | true => rfl
  | false =>
    simp only [cond_false]
    cases h : ltN T 1000 with
    | true =>
      have h1 : ltN (T + 1000) 1000 = false := decide_eq_false (by omega)
      simp only [cond_true, h1, cond_false]; omega
    | false => simp only [cond_false, h]
theorem tyOf_reT {ty : Bool} {T : Nat} (h : tyOf (reT ty T) = true) : ty = true ∧ tyOf T = true := by
  unfold reT at h
  cases ty with
  | true => exact ⟨rfl, h⟩
  | false =>
    simp only [cond_false] at h
    cases h2 : ltN T 1000 with
    | true =>
      rw [h2] at h
      simp only [cond_true] at h
      have h4 : ltN (T + 1000) 1000 = true := h
      have h1 : ltN (T + 1000) 1000 = false := decide_eq_false (by omega)
      rw [h1] at h4; cases h4
    | false =>
      rw [h2] at h
      simp only [cond_false] at h
      have h3 : ltN T 1000 = true := h
      rw [h2] at h3; cases h3
theorem tys_row (H : Holds dl η G N get ob a w) : ∀ {ks : List Nat}, tysOf ob ks = true → ∀ k ∈ ks, ∀ o, η k = some o → ∀ b ∈ o.main ++ o.inner, ∃ cs, w.heap[b]? = some (.cells cs byteT (0, 0))
  | [], _, k, hk, _, _, _, _ => by cases hk
  | k' :: r, h, k, hk, o, ho, b, hb => by
      simp only [tysOf, Bool.and_eq_true] at h
      rcases List.mem_cons.1 hk with rfl | hk
      · have h1 := h.1
        split at h1
        · rename_i T bs hob
          have := eqN_eq h1
          subst this
          obtain ⟨o', ho', hr⟩ := obj_of H hob
          rw [ho] at ho'; cases ho'
          simp only [ObjRel] at hr
          obtain ⟨hd, hin, hq⟩ := hr
          rw [hin, List.append_nil] at hb
          rcases hq with ⟨_, _, hm⟩ | ⟨b', c, cs, T', hv, hm, hh, ⟨hs, hT⟩, _⟩
          · rw [hm] at hb; cases hb
          · rw [hm] at hb
            simp at hb; subst hb
            have hT := hT.resolve_left (by decide)
            subst hT
            exact ⟨cs, hh⟩
        · cases h1
      · exact tys_row H h.2 k hk o ho b hb

/-- Data of the objects that are taken. -/
structure DeepOk (η : OEnv) (w : World) (d : DV) (v : Value) (ks B : List Nat) : Prop where
  rel : ORel w d v B
  nd : B.Nodup
  from_ : ∀ b ∈ B, ∃ k ∈ ks, ∃ o, η k = some o ∧ b ∈ o.main ++ o.inner

theorem deepCell_ok (H : Holds dl η G N get ob a w) {z d : DV} {s : SV} {ks : List Nat} {v : Value} (hs : SVRel η G w s v) (h : deepCell ob z s = some (d, ks)) : v.oneCell' = true ∧ (∀ k ∈ ks, ob k ≠ none) ∧ ∃ B, DeepOk η w d v ks B := by
  cases s with
  | int k e =>
    simp only [deepCell, Option.some.injEq, Prod.mk.injEq] at h; obtain ⟨rfl, rfl⟩ := h
    simp only [SVRel] at hs; subst hs
    exact ⟨rfl, by simp, [], ⟨by simp [ORel], .nil, by simp⟩⟩
  | bool e =>
    simp only [deepCell, Option.some.injEq, Prod.mk.injEq] at h; obtain ⟨rfl, rfl⟩ := h
    simp only [SVRel] at hs; subst hs
    exact ⟨rfl, by simp, [], ⟨by simp [ORel], .nil, by simp⟩⟩
  | str e =>
    simp only [deepCell, Option.some.injEq, Prod.mk.injEq] at h; obtain ⟨rfl, rfl⟩ := h
    simp only [SVRel] at hs; subst hs
    exact ⟨rfl, by simp, [], ⟨by simp [ORel], .nil, by simp⟩⟩
  | nil =>
    simp only [SVRel] at hs; subst hs
    cases z <;> simp only [deepCell, Option.some.injEq, Prod.mk.injEq] at h <;> first | cases h; done | skip
    · obtain ⟨rfl, rfl⟩ := h
      exact ⟨rfl, by simp, [], ⟨.inl ⟨rfl, rfl, rfl⟩, .nil, by simp⟩⟩
    · obtain ⟨rfl, rfl⟩ := h
      exact ⟨rfl, by simp, [], ⟨.inl ⟨rfl, rfl, rfl⟩, .nil, by simp⟩⟩
  | own k =>
    simp only [deepCell] at h
    simp only [SVRel] at hs
    obtain ⟨o, hk, h1, hv⟩ := hs
    split at h
    · rename_i T bs hob
      simp only [Option.some.injEq, Prod.mk.injEq] at h; obtain ⟨rfl, rfl⟩ := h
      obtain ⟨o', hk', hr⟩ := obj_of H hob
      rw [hk] at hk'; cases hk'
      simp only [ObjRel] at hr
      obtain ⟨hd, hin, hq⟩ := hr
      have hv := hv hd
      subst hv
      refine ⟨h1, by simp [hob], ?_⟩
      rcases hq with ⟨hv, hn, _⟩ | ⟨b, c, cs, T', hv, hm, hh, ⟨hs, hT⟩, hc, hcm, hQ⟩
      · exact ⟨[], ⟨.inl ⟨hv, List.eq_nil_of_length_eq_zero hn, rfl⟩, .nil, by simp⟩⟩
      · exact ⟨[b], ⟨.inr ⟨b, c, cs, T', hv, hh, by have := hs.1 rfl; omega, hc, hcm, hQ, rfl⟩, by simp, fun b' hb' => ⟨k, by simp, o, hk, by simp at hb'; simp [hm, hb']⟩⟩⟩
    · rename_i T wd n row hob
      simp only [Option.some.injEq, Prod.mk.injEq] at h; obtain ⟨rfl, rfl⟩ := h
      obtain ⟨o', hk', hr⟩ := obj_of H hob
      rw [hk] at hk'; cases hk'
      simp only [ObjRel] at hr
      obtain ⟨hd, _, Bs, hB, hN, hq⟩ := hr
      have hv := hv hd
      subst hv
      refine ⟨h1, by simp [hob], ?_⟩
      rcases hq with ⟨hv, hn, _⟩ | ⟨b, c, cs, T', hv, hm, hh, ⟨hs, hT⟩, hc, hcm, hQ⟩
      · exact ⟨[], ⟨.inl ⟨hv, hn, rfl⟩, .nil, by simp⟩⟩
      · have hsub : ∀ b' ∈ (List.range (n ())).flatMap (fun i => (List.range wd).flatMap (Bs i)), b' ∈ o.inner := by
          intro b' hb'
          obtain ⟨i, hi, hb'⟩ := List.mem_flatMap.1 hb'
          obtain ⟨j, hj, hb'⟩ := List.mem_flatMap.1 hb'
          exact hB i j b' (List.mem_range.1 hi) (List.mem_range.1 hj) hb'
        have hnd : (b :: (List.range (n ())).flatMap (fun i => (List.range wd).flatMap (Bs i))).Nodup :=
          List.nodup_cons.2 ⟨fun hm' => H.sp.mi k o hk b (by simp [hm]) (hsub b hm'), hN⟩
        refine ⟨_, ⟨.inr ⟨b, c, cs, T', Bs, hv, hh, by omega, hc, hcm, hQ, rfl, hnd⟩, hnd, fun b' hb' => ⟨k, by simp, o, hk, ?_⟩⟩⟩
        rcases List.mem_cons.1 hb' with rfl | hb'
        · simp [hm]
        · exact List.mem_append_right _ (hsub b' hb')
    · cases h
  | _ => simp [deepCell] at h

theorem deepCells_ok (H : Holds dl η G N get ob a w) : ∀ {zs ds : List DV} {cs : List SV} {ks : List (List Nat)} {vs : List Value}, SVRels η G w cs vs → deepCells ob zs cs = some (ds, ks) →
    (∀ v ∈ vs, v.oneCell' = true) ∧ (∀ k ∈ flatN ks, ob k ≠ none) ∧ ∃ Bl : List (List Nat), Bl.length = vs.length ∧ ks.length = vs.length ∧ ∀ j v, vs[j]? = some v → DeepOk η w (nthD ds j (.bool fun _ => false)) v (ks.getD j []) (Bl.getD j [])
  | zs, ds, [], ks, [], _, h => by
      have h : ds = [] ∧ ks = [] := by cases zs <;> simp [deepCells] at h <;> exact h
      obtain ⟨rfl, rfl⟩ := h
      exact ⟨by simp, by simp [flatN], [], rfl, rfl, by simp⟩
  | zs, ds, [], ks, _ :: _, h, _ => by simp [SVRels] at h
  | zs, ds, c :: cs, ks, [], h, _ => by simp [SVRels] at h
  | zs, ds, c :: cs, ks, v :: vs, hs, h => by
      simp only [SVRels] at hs
      rw [show deepCells ob zs (c :: cs) = (match deepCell ob (match zs with | z :: _ => z | [] => .bool fun _ => false) c, deepCells ob zs.tail cs with
        | some (d, k), some (ds, ks) => some (d :: ds, k :: ks)
        | _, _ => none) by cases zs <;> rfl] at h
      split at h
      · rename_i d k ds' ks' h1 h2
        simp only [Option.some.injEq, Prod.mk.injEq] at h; obtain ⟨rfl, rfl⟩ := h
        obtain ⟨o1, k1, B, hB⟩ := deepCell_ok H hs.1 h1
        obtain ⟨o2, k2, Bl, hl, hl', hBl⟩ := deepCells_ok H hs.2 h2
        refine ⟨?_, ?_, B :: Bl, by simp [hl], by simp [hl'], ?_⟩
        · intro u hu
          rcases List.mem_cons.1 hu with rfl | hu
          · exact o1
          · exact o2 u hu
        · intro u hu
          simp only [flatN, List.mem_append] at hu
          rcases hu with hu | hu
          · exact k1 u hu
          · exact k2 u hu
        · intro j u hu
          cases j with
          | zero => simp at hu; subst hu; simpa [nthD] using hB
          | succ j => simpa [nthD] using hBl j u (by simpa [leN_iff, ltN_iff] using hu)
      · cases h

theorem mem_flatN {k : Nat} : ∀ {ks : List (List Nat)}, k ∈ flatN ks ↔ ∃ l ∈ ks, k ∈ l
  | [] => by simp [flatN]
  | l :: ks => by simp [flatN, mem_flatN (ks := ks)]

theorem nodupN_iff : ∀ {l : List Nat}, nodupN l = true → l.Nodup
  | [], _ => .nil
  | k :: r, h => by
      simp only [nodupN, Bool.and_eq_true, Bool.not_eq_true'] at h
      refine List.nodup_cons.2 ⟨fun hm => ?_, nodupN_iff h.2⟩
      have : memN k r = true := by
        have hall : ∀ {l : List Nat}, k ∈ l → memN k l = true := by
          intro l
          induction l with
          | nil => intro h; cases h
          | cons x l ih =>
            intro h
            simp only [memN]
            rcases List.mem_cons.1 h with rfl | h
            · simp [eqN_refl]
            · cases eqN x k <;> simp [ih h]
        exact hall hm
      rw [this] at h; cases h.1

theorem flatMap_nodup {n : Nat} {f : Nat → List Nat} (h1 : ∀ i, i < n → (f i).Nodup) (h2 : ∀ i j, i < n → j < n → i ≠ j → ∀ b ∈ f i, b ∉ f j) : ((List.range n).flatMap f).Nodup := by
  induction n with
  | zero => simp
  | succ n ih =>
    rw [List.range_succ, List.flatMap_append, List.flatMap_singleton]
    refine List.nodup_append.2 ⟨ih (fun i hi => h1 i (by omega)) (fun i j hi hj => h2 i j (by omega) (by omega)), h1 n (by omega), fun b hb c hc e => ?_⟩
    subst e
    obtain ⟨i, hi, hb⟩ := List.mem_flatMap.1 hb
    have := List.mem_range.1 hi
    exact h2 i n (by omega) (by omega) (by omega) b hb hc

theorem flat_disj : ∀ {ks : List (List Nat)}, (flatN ks).Nodup → ∀ (i j : Nat), i ≠ j → ∀ k ∈ ks.getD i [], k ∉ ks.getD j []
  | [], _, i, j, _, k, hk => by simp at hk
  | l :: ks, h, i, j, hne, k, hk => by
      simp only [flatN] at h
      obtain ⟨h1, h2, h3⟩ := List.nodup_append.1 h
      have hin : ∀ (i : Nat) (k : Nat), k ∈ ks.getD i [] → k ∈ flatN ks := by
        intro i k hk
        rw [mem_flatN]
        rw [List.getD_eq_getElem?_getD] at hk
        cases hl : ks[i]? with
        | none => rw [hl] at hk; simp at hk
        | some l' => rw [hl] at hk; exact ⟨l', List.mem_of_getElem? hl, hk⟩
      cases i with
      | zero => cases j with
        | zero => exact absurd rfl hne
        | succ j =>
          simp only [List.getD_cons_zero] at hk
          simp only [List.getD_cons_succ]
          exact fun hj => h3 k hk k (hin j k hj) rfl
      | succ i => cases j with
        | zero =>
          simp only [List.getD_cons_succ] at hk
          simp only [List.getD_cons_zero]
          exact fun hj => h3 k hj k (hin i k hk) rfl
        | succ j =>
          simp only [List.getD_cons_succ] at hk ⊢
          exact flat_disj h2 i j (by omega) k hk

/-- An object takes others' blocks into its own. -/
theorem after_absorb (H : Holds dl η G N get ob a w) {k : Nat} {o : OInfo} (hk : η k = some o) {ks : List Nat} (hkk : k ∉ ks) (hks : ∀ j ∈ ks, ob j ≠ none) (hkob : ob k ≠ none) {w' : World}
    (hos : w'.os = w.os) (htp : w'.tape = w.tape) (hou : w'.output = w.output) (hsz : w'.heap.size = w.heap.size) (hother : ∀ c, c ∉ o.main → w'.heap[c]? = w.heap[c]?)
    (extra : List Nat) (hex : ∀ b ∈ extra, ∃ j ∈ ks, ∃ o', η j = some o' ∧ b ∈ o'.main ++ o'.inner) (hd : o.dead = false) {X : TObj}
    (hX : Mono η G w (updE (killE η ks) k { o with inner := o.inner ++ extra }) G w' → ObjRel (updE (killE η ks) k { o with inner := o.inner ++ extra }) G w' X { o with inner := o.inner ++ extra }) (v : Value) :
    After η G w ob .any (killN ks ++ [(k, X)]) v (updE (killE η ks) k { o with inner := o.inner ++ extra }) G w' := by
  have hexk : ∀ b ∈ extra, b ∉ o.main ++ o.inner := fun b hb hm => by
    obtain ⟨j, hj, o', ho', hm'⟩ := hex b hb
    exact H.sp.dj j o' k o ho' hk (fun e => hkk (e ▸ hj)) b hm' hm
  have hev : Evol η G w (updE (killE η ks) k { o with inner := o.inner ++ extra }) G w' := by
    refine ⟨hos, htp, hou, by omega, fun b _ hn => hother b fun hm => hn k o hk (by simp [hm]), ?_, fun _ h => h, fun _ h => .inl h, ?_⟩
    · intro j oj hj
      by_cases hjk : j = k
      · subst hjk
        rw [hk] at hj; cases hj
        exact ⟨_, updE_same _ _ _, fun _ => ⟨hd, rfl, Ext.refl _, fun b hb => ⟨by simp [hb], hother b fun hm => H.sp.mi j o hk b hm hb⟩⟩⟩
      · obtain ⟨o', ho', hd'⟩ := killE_some (ks := ks) hj
        refine ⟨o', by rw [updE_other _ _ hjk]; exact ho', fun hdd => ?_⟩
        obtain ⟨hnk, rfl⟩ := hd' hdd
        refine ⟨hdd, rfl, Ext.refl _, fun b hb => ⟨hb, hother b fun hm => ?_⟩⟩
        exact H.sp.dj j _ k o hj hk hjk b (by simp [hb]) (by simp [hm])
    · intro j oj hj b hb
      by_cases hjk : j = k
      · subst hjk
        rw [updE_same] at hj; cases hj
        simp only [List.mem_append] at hb
        rcases hb with hb | hb | hb
        · exact .inr ⟨j, o, hk, by simp [hb]⟩
        · exact .inr ⟨j, o, hk, by simp [hb]⟩
        · obtain ⟨j', _, o', ho', hm'⟩ := hex b hb
          exact .inr ⟨j', o', ho', hm'⟩
      · rw [updE_other _ _ hjk] at hj
        rcases killE_in hj with ⟨_, rfl, _⟩ | ⟨_, hj⟩
        · simp [deadInfo] at hb
        · exact .inr ⟨j, oj, hj, hb⟩
  have hM := hev.mono H.sp
  refine ⟨by simp [SVRel], fun j => ?_, ⟨?_, ?_, ?_, ?_⟩, hev⟩
  · rw [updF_append]
    simp only [updF]
    by_cases hjk : j = k
    · subst hjk
      simp only [if_true, updE_same, ObjOpt]
      exact hX hM
    · simp only [if_neg hjk, updE_other _ _ hjk, updF_kill]
      have hob := H.ob j
      by_cases hjs : j ∈ ks
      · rw [if_pos hjs]
        unfold killE
        rw [if_pos hjs]
        cases h1 : ob j with
        | none => exact absurd h1 (hks j hjs)
        | some x =>
          rw [h1] at hob
          cases h2 : η j with
          | none => rw [h2] at hob; exact hob.elim
          | some o₀ => simp only [Option.map_some, ObjOpt, ObjRel, deadInfo]; exact ⟨trivial, trivial, trivial⟩
      · rw [if_neg hjs]
        unfold killE
        rw [if_neg hjs]
        cases h1 : ob j with
        | none => cases h2 : η j with
          | none => trivial
          | some o => rw [h1, h2] at hob; exact hob.elim
        | some x => cases h2 : η j with
          | none => rw [h1, h2] at hob; exact hob.elim
          | some o₀ =>
            rw [h1, h2] at hob
            exact ObjRel.mono hM (fun b hb => hother b fun hm => H.sp.dj j o₀ k o h2 hk hjk b hb (by simp [hm])) hob
  · intro j oj hj b hb
    by_cases hjk : j = k
    · subst hjk
      rw [updE_same] at hj; cases hj
      simp only [List.mem_append] at hb
      rcases hb with hb | hb | hb
      · have := H.sp.lt j o hk b (by simp [hb]); exact ⟨by omega, this.2⟩
      · have := H.sp.lt j o hk b (by simp [hb]); exact ⟨by omega, this.2⟩
      · obtain ⟨j', _, o', ho', hm'⟩ := hex b hb
        have := H.sp.lt j' o' ho' b hm'; exact ⟨by omega, this.2⟩
    · rw [updE_other _ _ hjk] at hj
      rcases killE_in hj with ⟨_, rfl, _⟩ | ⟨_, hj⟩
      · simp [deadInfo] at hb
      · have := H.sp.lt j oj hj b hb; exact ⟨by omega, this.2⟩
  · have key : ∀ j oj, η j = some oj → j ≠ k → j ∉ ks → ∀ b ∈ oj.main ++ oj.inner, b ∉ o.main ++ (o.inner ++ extra) := by
      intro j oj hj hne hnk b hb hm
      simp only [List.mem_append] at hm
      rcases hm with hm | hm | hm
      · exact H.sp.dj j oj k o hj hk hne b hb (by simp [hm])
      · exact H.sp.dj j oj k o hj hk hne b hb (by simp [hm])
      · obtain ⟨j', hj', o', ho', hm'⟩ := hex b hm
        exact H.sp.dj j oj j' o' hj ho' (fun e => hnk (e ▸ hj')) b hb hm'
    intro j oj j' oj' hj hj' hne b hb hb'
    by_cases hjk : j = k
    · subst hjk
      rw [updE_same] at hj; cases hj
      rw [updE_other _ _ (Ne.symm hne)] at hj'
      rcases killE_in hj' with ⟨_, rfl, _⟩ | ⟨hnk, hj'⟩
      · simp [deadInfo] at hb'
      · exact key j' oj' hj' (Ne.symm hne) hnk b hb' hb
    · rw [updE_other _ _ hjk] at hj
      rcases killE_in hj with ⟨_, rfl, _⟩ | ⟨hnk, hj⟩
      · simp [deadInfo] at hb
      · by_cases hjk' : j' = k
        · subst hjk'
          rw [updE_same] at hj'; cases hj'
          exact key j oj hj hjk hnk b hb hb'
        · rw [updE_other _ _ hjk'] at hj'
          rcases killE_in hj' with ⟨_, rfl, _⟩ | ⟨_, hj'⟩
          · simp [deadInfo] at hb'
          · exact H.sp.dj j oj j' oj' hj hj' hne b hb hb'
  · intro j oj hj b hb
    by_cases hjk : j = k
    · subst hjk
      rw [updE_same] at hj; cases hj
      simp only [List.mem_append, not_or]
      exact ⟨H.sp.mi j o hk b hb, fun h => hexk b h (by simp [hb])⟩
    · rw [updE_other _ _ hjk] at hj
      rcases killE_in hj with ⟨_, rfl, _⟩ | ⟨_, hj⟩
      · simp [deadInfo] at hb
      · exact H.sp.mi j oj hj b hb
  · intro b hb
    have := H.sp.glt b hb
    omega

theorem put_at {cs : Array Value} {q : Nat} (h : q < cs.size) (v : Value) (p : Nat) : (cs.toList.take q ++ [v] ++ cs.toList.drop (q + 1)).toArray[p]? = if p = q then some v else cs[p]? := by
  simp only [List.getElem?_toArray, List.append_assoc]
  by_cases h1 : p < q
  · rw [List.getElem?_append_left (by simp; omega), List.getElem?_take, if_pos h1, if_neg (by omega)]
    simp
  · rw [List.getElem?_append_right (by simp; omega)]
    by_cases h2 : p = q
    · subst h2
      simp [Nat.min_eq_left (Nat.le_of_lt h)]
    · rw [if_neg h2, List.length_take, Array.length_toList, Nat.min_eq_left (Nat.le_of_lt h)]
      obtain ⟨r, rfl⟩ : ∃ r, p = q + 1 + r := ⟨p - (q + 1), by omega⟩
      rw [show q + 1 + r - q = r + 1 by omega]
      simp

theorem sharedCell_ok {z d : DV} {s : SV} {v : Value} (hs : SVRel η G w s v) (h : sharedCell z s = some d) : DVRel w G d v := by
  cases s with
  | int k e => simp only [sharedCell, Option.some.injEq] at h; subst h; simpa [SVRel, DVRel] using hs
  | bool e => simp only [sharedCell, Option.some.injEq] at h; subst h; simpa [SVRel, DVRel] using hs
  | str e => simp only [sharedCell, Option.some.injEq] at h; subst h; simpa [SVRel, DVRel] using hs
  | dat e => simp only [sharedCell, Option.some.injEq] at h; subst h; simpa [SVRel] using hs
  | nil =>
    simp only [SVRel] at hs; subst hs
    cases z <;> simp only [sharedCell, Option.some.injEq] at h <;> first | cases h; done | skip
    · subst h; exact ⟨none, 0, rfl, Nat.le_refl _, by simp⟩
    · subst h; exact ⟨none, 0, rfl, Nat.le_refl _, fun i hi => absurd hi (Nat.not_lt_zero _)⟩
  | _ => simp [sharedCell] at h

theorem sharedCells_ok : ∀ {zs ds : List DV} {cs : List SV} {vs : List Value}, SVRels η G w cs vs → sharedCells zs cs = some ds → ∀ j v, vs[j]? = some v → DVRel w G (nthD ds j (.bool fun _ => false)) v
  | zs, ds, [], [], _, h => by simp
  | zs, ds, [], _ :: _, h, _ => by simp [SVRels] at h
  | zs, ds, c :: cs, [], h, _ => by simp [SVRels] at h
  | zs, ds, c :: cs, v :: vs, hs, h => by
      simp only [SVRels] at hs
      rw [show sharedCells zs (c :: cs) = (match sharedCell (match zs with | z :: _ => z | [] => .bool fun _ => false) c, sharedCells zs.tail cs with
        | some d, some ds => some (d :: ds)
        | _, _ => none) by cases zs <;> rfl] at h
      split at h
      · rename_i d ds' h1 h2
        simp only [Option.some.injEq] at h; subst h
        intro j u hu
        cases j with
        | zero => simp at hu; subst hu; simpa [nthD] using sharedCell_ok hs.1 h1
        | succ j => simpa [nthD] using sharedCells_ok hs.2 h2 j u (by simpa [leN_iff, ltN_iff] using hu)
      · cases h
theorem sharedCells_len : ∀ {zs ds : List DV} {cs : List SV}, sharedCells zs cs = some ds → ds.length = cs.length
  | zs, ds, [], h => by
      have : sharedCells zs [] = some [] := by cases zs <;> rfl
      rw [this] at h; cases h; rfl
  | zs, ds, c :: cs, h => by
      rw [show sharedCells zs (c :: cs) = (match sharedCell (match zs with | z :: _ => z | [] => .bool fun _ => false) c, sharedCells zs.tail cs with
        | some d, some ds => some (d :: ds)
        | _, _ => none) by cases zs <;> rfl] at h
      split at h
      · rename_i d ds' h1 h2
        simp only [Option.some.injEq] at h; subst h
        simp [sharedCells_len h2]
      · cases h
theorem put_many {cs : Array Value} {q : Nat} {vs : List Value} (h : q + vs.length ≤ cs.size) (p : Nat) : (cs.toList.take q ++ vs ++ cs.toList.drop (q + vs.length)).toArray[p]? = if q ≤ p ∧ p < q + vs.length then vs[p - q]? else cs[p]? := by
  simp only [List.getElem?_toArray, List.append_assoc]
  by_cases h1 : p < q
  · rw [List.getElem?_append_left (by simp; omega), List.getElem?_take, if_pos h1, if_neg (by omega)]
    simp
  · rw [List.getElem?_append_right (by simp; omega)]
    have hl : (cs.toList.take q).length = q := by simp; omega
    rw [hl]
    by_cases h2 : p < q + vs.length
    · rw [List.getElem?_append_left (by omega), if_pos ⟨by omega, h2⟩]
    · rw [List.getElem?_append_right (by omega), List.getElem?_drop, if_neg (by omega)]
      rw [show q + vs.length + (p - q - vs.length) = p by omega]
      simp

theorem sound_storeO (hE : EOk P E) (H : Holds dl η G N get ob a w) {T : Nat} {p x : SV} {vp vx : Value} (hp : SVRel η G w p vp) (hx : SVRel η G w x vx) {sv : SV} {upd : Objs} {rd : List Nat} {obl : Obl}
    (h : evStoreO (E.ti T) ob p x = .ok sv upd rd obl) (ho : obl.holds) : ∃ w' η' G', (Instr.storeAt T vp vx).run P w = .ok () w' ∧ After η G w ob sv upd undef η' G' w' := by
  cases p with
  | op k wd i off =>
    simp only [evStoreO] at h
    split at h
    · rename_i ti T' w' n row hti hob
      split at h
      · rename_i d ks hdeep
        have hc := (cond_ok h).1
        replace h := (cond_ok h).2
        simp only [Bool.and_eq_true] at hc
        obtain ⟨c1, c2, c3, c4, c5, c6⟩ := hc
        have := eqN_eq c1
        subst this
        have c2 : off < wd := by simpa [ltN_iff] using c2
        have c3 := eqN_eq c3
        obtain ⟨Tb, hTb⟩ : ∃ Tb, Tb = baseT T' := ⟨_, rfl⟩
        rw [← hTb] at c5
        have c5 : 0 < Tb := by simpa [ltN_iff] using c5
        obtain ⟨n1, n2⟩ := List.nodup_cons.1 (nodupN_iff c6)
        simp only [OpRes.ok.injEq] at h; obtain ⟨rfl, rfl, _, rfl⟩ := h
        simp only [Obl.holds] at ho
        obtain ⟨s1, s2⟩ := ho
        have hT := hE T ti hti
        obtain ⟨o, hk, hr⟩ := obj_of H hob
        simp only [ObjRel] at hr
        obtain ⟨hd, hty, Bs, hB, hN, hq⟩ := hr
        rw [← hTb] at hq
        simp only [SVRel] at hp
        obtain ⟨o', hk', _, hv⟩ := hp
        rw [hk] at hk'; cases hk'
        obtain ⟨b0, hm0, ⟨n0, c0, hval, hi⟩, rfl⟩ := hv hd
        rcases hq with ⟨_, _, hm1⟩ | ⟨b, c, cs, T2, hval', hm, hh, ⟨hs, hT2⟩, hc, hcm, hQ⟩
        · obtain ⟨_, hm0⟩ := hm0; rw [hm1] at hm0; cases hm0
        obtain rfl := OInfo.at_one hm hm0
        have hn0 : n () = n0 := by rw [hval'] at hval; exact (Value.slice.inj hval).2.1
        rw [← hn0] at hi
        have hT2 := hT2.resolve_left (by omega)
        subst hT2
        obtain ⟨h1, hkob, B, hDB⟩ := deepCell_ok H hx hdeep
        have hlt : i () * wd + off < cs.size := by
          rw [hs.1 rfl]
          have h1 := row_lt hi c2
          have h2 := Nat.mul_le_mul_right wd hc
          omega
        have hcell := one_cells h1
        have hst := run_storeCells_at P b (i () * wd + off) Tb [vx] 0 cs w hh (by simp; omega) (by simpa using h1)
        simp only [Nat.add_zero, List.length_cons, List.length_nil, Nat.zero_add] at hst
        refine ⟨w.setRow b (cs.toList.take (i () * wd + off) ++ [vx] ++ cs.toList.drop (i () * wd + off + 1)).toArray, _, G, ?_, after_absorb (w' := w.setRow b (cs.toList.take (i () * wd + off) ++ [vx] ++ cs.toList.drop (i () * wd + off + 1)).toArray) H hk n1 hkob (by simp [hob]) rfl rfl rfl (by simp) (fun c hc => setRow_other w b c _ fun e => hc (by rw [e, hm]; simp)) B (fun b' hb' => hDB.from_ b' hb') hd (fun hM => ?_) undef⟩
        · simp [Instr.storeAt, Instr.sureAddr, storeVar, sizeOf_run hT, hcell, c3]
          simpa using hst
        have hall : ∀ i' j b', i' < n () → j < wd → b' ∈ Bs i' j → b' ∈ o.inner := hB
        have hkeep : ∀ b' ∈ o.inner, (w.setRow b (cs.toList.take (i () * wd + off) ++ [vx] ++ cs.toList.drop (i () * wd + off + 1)).toArray).heap[b']? = w.heap[b']? := fun b' hb' => setRow_other w b b' _ fun e => H.sp.mi k o hk b (by simp [hm]) (e ▸ hb')
        have hkeep' : ∀ b' ∈ B, (w.setRow b (cs.toList.take (i () * wd + off) ++ [vx] ++ cs.toList.drop (i () * wd + off + 1)).toArray).heap[b']? = w.heap[b']? := fun b' hb' => setRow_other w b b' _ fun e => by
          obtain ⟨j, hj, oj, hoj, hmj⟩ := hDB.from_ b' hb'
          exact H.sp.dj j oj k o hoj hk (fun e => n1 (e ▸ hj)) b' hmj (by rw [e, hm]; simp)
        refine ⟨hd, fun ht b' hb' => ?_, fun i' j => if i' = i () ∧ j = off then B else Bs i' j, fun i' j b' hi' hj hb' => ?_, ?_, .inr ⟨b, c, _, (Tb, 0, 0), hval', hm, setRow_heap w b cs _ Tb (0, 0) hh, ⟨⟨fun _ => ?_, ?_⟩, .inr (by rw [baseT_reT, hTb])⟩, hc, hcm, fun i' j hi' hj => ?_⟩⟩
        · obtain ⟨t1, t2⟩ := tyOf_reT ht
          rcases List.mem_append.1 hb' with hb' | hb'
          · rw [hkeep b' hb']; exact hty t2 b' hb'
          · rw [hkeep' b' hb']
            obtain ⟨j, hj, oj, hoj, hmj⟩ := hDB.from_ b' hb'
            exact tys_row H t1 j hj oj hoj b' hmj
        · dsimp only at hb'
          split at hb'
          · exact List.mem_append_right _ hb'
          · exact List.mem_append_left _ (hB i' j b' hi' hj hb')
        · have hBdis : ∀ b' ∈ B, ∀ i' j, i' < n () → j < wd → b' ∉ Bs i' j := fun b' hb' i' j hi' hj hbb => by
            obtain ⟨j', hj', oj, hoj, hmj⟩ := hDB.from_ b' hb'
            exact H.sp.dj j' oj k o hoj hk (fun e => n1 (e ▸ hj')) b' hmj (by simp [hB i' j b' hi' hj hbb])
          refine flatMap_nodup (fun i' hi' => flatMap_nodup (fun j hj => ?_) fun j j' hj hj' hne b' hb' hb2 => ?_) fun i' i2 hi' hi2 hne b' hb' hb2 => ?_
          · dsimp only
            split
            · exact hDB.nd
            · exact nodup_at (nodup_at hN hi') hj
          · dsimp only at hb' hb2
            split at hb' <;> split at hb2
            · rename_i e1 e2; exact hne (e1.2.trans e2.2.symm)
            · exact hBdis b' hb' i' j' hi' hj' hb2
            · exact hBdis b' hb2 i' j hi' hj hb'
            · exact nodup_dj (nodup_at hN hi') hj hj' hne b' hb' hb2
          · obtain ⟨j, hj, hb'⟩ := List.mem_flatMap.1 hb'
            obtain ⟨j', hj', hb2⟩ := List.mem_flatMap.1 hb2
            have hj := List.mem_range.1 hj
            have hj' := List.mem_range.1 hj'
            dsimp only at hb' hb2
            split at hb' <;> split at hb2
            · rename_i e1 e2; exact hne (e1.1.trans e2.1.symm)
            · exact hBdis b' hb' i2 j' hi2 hj' hb2
            · exact hBdis b' hb2 i' j hi' hj hb'
            · exact nodup_dj hN hi' hi2 hne b' (List.mem_flatMap.2 ⟨j, List.mem_range.2 hj, hb'⟩) (List.mem_flatMap.2 ⟨j', List.mem_range.2 hj', hb2⟩)
        · simp only [List.size_toArray, List.length_append, List.length_take, List.length_drop, List.length_cons, List.length_nil, Array.length_toList]
          have := hs.1 rfl
          omega
        · simp only [List.size_toArray, List.length_append, List.length_take, List.length_drop, List.length_cons, List.length_nil, Array.length_toList]
          have := hs.2
          omega
        · simp only [put_at hlt]
          by_cases he : i' = i () ∧ j = off
          · obtain ⟨e1, e2⟩ := he
            subst e2
            subst e1
            refine ⟨vx, by rw [if_pos rfl], ?_⟩
            have e : putRow row i j d (fun _ => i ()) j = d := s1
            simp only [and_self, if_true]
            rw [e]
            exact ORel.mono _ _ _ hkeep' hDB.rel
          · have hne : ¬ i' * wd + j = i () * wd + off := fun e => by
              have e1 : i' = i () := by
                have h1 : (i' * wd + j) / wd = i' := by rw [Nat.mul_comm, Nat.mul_add_div (by omega), Nat.div_eq_of_lt hj]; omega
                have h2 : (i () * wd + off) / wd = i () := by rw [Nat.mul_comm, Nat.mul_add_div (by omega), Nat.div_eq_of_lt c2]; omega
                rw [← h1, e, h2]
              exact he ⟨e1, by rw [e1] at e; omega⟩
            obtain ⟨u, hu, hr⟩ := hQ i' j hi' hj
            refine ⟨u, by rw [if_neg hne]; exact hu, ?_⟩
            rw [if_neg he]
            have e : putRow row i off d (fun _ => i') j = row (fun _ => i') j := by
              by_cases h1 : i' = i ()
              · have h2 : j ≠ off := fun e => he ⟨h1, e⟩
                have h3 : eqN j off = false := by
                  cases hb : eqN j off with
                  | true => exact absurd (eqN_eq hb) h2
                  | false => rfl
                simp only [putRow, h3, cond_false]
              · exact s2 i' hi' h1 j hj
            rw [e]
            exact ORel.mono _ _ _ (fun b' hb' => hkeep b' (hB i' j b' hi' hj hb')) hr
      · cases h
    · rename_i ti T' w' n row hti hob
      split at h
      · rename_i d hsh
        have hc := (cond_ok h).1
        replace h := (cond_ok h).2
        simp only [Bool.and_eq_true] at hc
        obtain ⟨c1, c2, c3, c4, c5⟩ := hc
        have := eqN_eq c1
        subst this
        have c2 : off < wd := by simpa [ltN_iff] using c2
        have c3 := eqN_eq c3
        obtain ⟨Tb, hTb⟩ : ∃ Tb, Tb = baseT T' := ⟨_, rfl⟩
        rw [← hTb] at c5
        have c5 : 0 < Tb := by simpa [ltN_iff] using c5
        simp only [OpRes.ok.injEq] at h; obtain ⟨rfl, rfl, _, rfl⟩ := h
        simp only [Obl.holds] at ho
        obtain ⟨s1, s2⟩ := ho
        have hT := hE T ti hti
        obtain ⟨o, hk, hr⟩ := obj_of H hob
        simp only [ObjRel] at hr
        obtain ⟨hd, hin, hq⟩ := hr
        rw [← hTb] at hq
        simp only [SVRel] at hp
        obtain ⟨o', hk', _, hv⟩ := hp
        rw [hk] at hk'; cases hk'
        obtain ⟨b0, hm0, ⟨n0, c0, hval, hi⟩, rfl⟩ := hv hd
        rcases hq with ⟨_, _, hm1⟩ | ⟨b, c, cs, T2, hval', hm, hh, ⟨hs, hT2⟩, hc, hcm, hQ⟩
        · obtain ⟨_, hm0⟩ := hm0; rw [hm1] at hm0; cases hm0
        obtain rfl := OInfo.at_one hm hm0
        have hn0 : n () = n0 := by rw [hval'] at hval; exact (Value.slice.inj hval).2.1
        rw [← hn0] at hi
        have hT2 := hT2.resolve_left (by omega)
        subst hT2
        have hdv := sharedCell_ok hx hsh
        have h1 : vx.oneCell' = true := dv_one hdv
        have hlt : i () * wd + off < cs.size := by
          have h3 := hs.2
          have h1 := row_lt hi c2
          have h2 := Nat.mul_le_mul_right wd hc
          omega
        have hcell := one_cells h1
        have hst := run_storeCells_at P b (i () * wd + off) Tb [vx] 0 cs w hh (by simp; omega) (by simpa using h1)
        simp only [Nat.add_zero, List.length_cons, List.length_nil, Nat.zero_add] at hst
        refine ⟨w.setRow b (cs.toList.take (i () * wd + off) ++ [vx] ++ cs.toList.drop (i () * wd + off + 1)).toArray, _, G, ?_, after_absorb (ks := []) (w' := w.setRow b (cs.toList.take (i () * wd + off) ++ [vx] ++ cs.toList.drop (i () * wd + off + 1)).toArray) H hk (by simp) (by simp) (by simp [hob]) rfl rfl rfl (by simp) (fun c hc => setRow_other w b c _ fun e => hc (by rw [hm, e]; simp)) [] (by simp) hd (fun hM => ?_) _⟩
        · simp [Instr.storeAt, Instr.sureAddr, storeVar, sizeOf_run hT, hcell, c3]
          simpa using hst
        have hkeepG : ∀ b', G b' → (w.setRow b (cs.toList.take (i () * wd + off) ++ [vx] ++ cs.toList.drop (i () * wd + off + 1)).toArray).heap[b']? = w.heap[b']? := fun b' hb' => setRow_other w b b' _ fun e => (H.sp.lt k o hk b (by simp [hm])).2 (e ▸ hb')
        refine ⟨hd, by simp [hin], .inr ⟨b, c, _, (Tb, 0, 0), hval', hm, setRow_heap w b cs _ Tb (0, 0) hh, ⟨⟨fun he => ?_, ?_⟩, .inr (by rw [← hTb])⟩, hc, hcm, fun i' j hi' hj => ?_⟩⟩
        · simp only [List.size_toArray, List.length_append, List.length_take, List.length_drop, List.length_cons, List.length_nil, Array.length_toList]
          have := hs.1 he
          omega
        · simp only [List.size_toArray, List.length_append, List.length_take, List.length_drop, List.length_cons, List.length_nil, Array.length_toList]
          have := hs.2
          omega
        · simp only [put_at hlt]
          by_cases he : i' = i () ∧ j = off
          · obtain ⟨e1, e2⟩ := he
            subst e2
            subst e1
            refine ⟨vx, by rw [if_pos rfl], ?_⟩
            have e : putRow row i j d (fun _ => i ()) j = d := s1
            rw [e]
            exact DVRel.mono (fun _ h => h) hkeepG _ _ hdv
          · have hne : ¬ i' * wd + j = i () * wd + off := fun e => by
              have e1 : i' = i () := by
                have h1 : (i' * wd + j) / wd = i' := by rw [Nat.mul_comm, Nat.mul_add_div (by omega), Nat.div_eq_of_lt hj]; omega
                have h2 : (i () * wd + off) / wd = i () := by rw [Nat.mul_comm, Nat.mul_add_div (by omega), Nat.div_eq_of_lt c2]; omega
                rw [← h1, e, h2]
              exact he ⟨e1, by rw [e1] at e; omega⟩
            obtain ⟨u, hu, hr⟩ := hQ i' j hi' hj
            refine ⟨u, by rw [if_neg hne]; exact hu, ?_⟩
            have e : putRow row i off d (fun _ => i') j = row (fun _ => i') j := by
              by_cases h1 : i' = i ()
              · have h2 : j ≠ off := fun e => he ⟨h1, e⟩
                have h3 : eqN j off = false := by
                  cases hb : eqN j off with
                  | true => exact absurd (eqN_eq hb) h2
                  | false => rfl
                simp only [putRow, h3, cond_false]
              · exact s2 i' hi' h1 j hj
            rw [e]
            exact DVRel.mono (fun _ h => h) hkeepG _ _ hr
      · split at h
        · rename_i xs
          split at h
          · rename_i ds hsh
            have hc := (cond_ok h).1
            replace h := (cond_ok h).2
            simp only [Bool.and_eq_true] at hc
            obtain ⟨c1, c2, c3, c5⟩ := hc
            have := eqN_eq c1
            subst this
            have c2 : off + ti.size ≤ wd := by simpa [leN_iff] using c2
            have c3 := eqN_eq c3
            obtain ⟨Tb, hTb⟩ : ∃ Tb, Tb = baseT T' := ⟨_, rfl⟩
            rw [← hTb] at c5
            have c5 : 0 < Tb := by simpa [ltN_iff] using c5
            simp only [OpRes.ok.injEq] at h; obtain ⟨rfl, rfl, _, rfl⟩ := h
            simp only [Obl.holds] at ho
            have hT := hE T ti hti
            obtain ⟨o, hk, hr⟩ := obj_of H hob
            simp only [ObjRel] at hr
            obtain ⟨hd, hin, hq⟩ := hr
            rw [← hTb] at hq
            simp only [SVRel] at hp
            obtain ⟨o', hk', _, hv⟩ := hp
            rw [hk] at hk'; cases hk'
            obtain ⟨b0, hm0, ⟨n0, c0, hval, hi⟩, rfl⟩ := hv hd
            rcases hq with ⟨_, _, hm1⟩ | ⟨b, c, cs, T2, hval', hm, hh, ⟨hs, hT2⟩, hc, hcm, hQ⟩
            · obtain ⟨_, hm0⟩ := hm0; rw [hm1] at hm0; cases hm0
            obtain rfl := OInfo.at_one hm hm0
            have hn0 : n () = n0 := by rw [hval'] at hval; exact (Value.slice.inj hval).2.1
            rw [← hn0] at hi
            have hT2 := hT2.resolve_left (by omega)
            subst hT2
            simp only [SVRel] at hx
            obtain ⟨us, rfl, hus⟩ := hx
            have hdv := sharedCells_ok hus hsh
            have hul : us.length = ti.size := by rw [c3, sharedCells_len hsh]; exact SVRels.length hus
            have h1 : ∀ v ∈ us, v.oneCell' = true := fun v hv => by
              obtain ⟨j, hj⟩ := List.getElem?_of_mem hv
              exact dv_one (hdv j v hj)
            have hlt : i () * wd + off + us.length ≤ cs.size := by
              have h3 := hs.2
              rw [hul]
              have h1 : (i () + 1) * wd ≤ n () * wd := Nat.mul_le_mul_right wd hi
              have h2 := Nat.mul_le_mul_right wd hc
              rw [Nat.add_mul] at h1
              omega
            have hst := run_storeCells_at P b (i () * wd + off) Tb us 0 cs w hh (by simp; omega) h1
            simp only [Nat.add_zero] at hst
            refine ⟨w.setRow b (cs.toList.take (i () * wd + off) ++ us ++ cs.toList.drop (i () * wd + off + us.length)).toArray, _, G, ?_, after_absorb (ks := []) (w' := w.setRow b (cs.toList.take (i () * wd + off) ++ us ++ cs.toList.drop (i () * wd + off + us.length)).toArray) H hk (by simp) (by simp) (by simp [hob]) rfl rfl rfl (by simp) (fun c hc => setRow_other w b c _ fun e => hc (by rw [hm, e]; simp)) [] (by simp) hd (fun hM => ?_) _⟩
            · simp [Instr.storeAt, Instr.sureAddr, storeVar, sizeOf_run hT, Value.cells, hul]
              simpa [hul] using hst
            have hkeepG : ∀ b', G b' → (w.setRow b (cs.toList.take (i () * wd + off) ++ us ++ cs.toList.drop (i () * wd + off + us.length)).toArray).heap[b']? = w.heap[b']? := fun b' hb' => setRow_other w b b' _ fun e => (H.sp.lt k o hk b (by simp [hm])).2 (e ▸ hb')
            refine ⟨hd, by simp [hin], .inr ⟨b, c, _, (Tb, 0, 0), hval', hm, setRow_heap w b cs _ Tb (0, 0) hh, ⟨⟨fun he => ?_, ?_⟩, .inr (by rw [← hTb])⟩, hc, hcm, fun i' j hi' hj => ?_⟩⟩
            · simp only [List.size_toArray, List.length_append, List.length_take, List.length_drop, Array.length_toList]
              have := hs.1 he
              omega
            · simp only [List.size_toArray, List.length_append, List.length_take, List.length_drop, Array.length_toList]
              have := hs.2
              omega
            · simp only [put_many hlt]
              by_cases he : i () * wd + off ≤ i' * wd + j ∧ i' * wd + j < i () * wd + off + us.length
              · have e1 : i' = i () := by
                  have h1 : (i' * wd + j) / wd = i' := by rw [Nat.mul_comm, Nat.mul_add_div (by omega), Nat.div_eq_of_lt hj]; omega
                  have h2 : (i' * wd + j) / wd = i () := by
                    rw [show i' * wd + j = wd * i () + (i' * wd + j - i () * wd) by rw [Nat.mul_comm wd]; omega, Nat.mul_add_div (by omega), Nat.div_eq_of_lt (by omega)]; omega
                  rw [← h1, h2]
                subst e1
                obtain ⟨q, rfl⟩ : ∃ q, j = off + q := ⟨j - off, by omega⟩
                have hq : q < us.length := by omega
                refine ⟨us[q], by rw [if_pos he, show i () * wd + (off + q) - (i () * wd + off) = q by omega]; exact List.getElem?_eq_getElem hq, ?_⟩
                rw [ho q (by rw [← c3, ← hul]; exact hq)]
                exact DVRel.mono (fun _ h => h) hkeepG _ _ (hdv q _ (List.getElem?_eq_getElem hq))
              · obtain ⟨u, hu, hr⟩ := hQ i' j hi' hj
                exact ⟨u, by rw [if_neg he]; exact hu, DVRel.mono (fun _ h => h) hkeepG _ _ hr⟩
          · cases h
        · cases h
    · cases h
  | _ => exact sound_store hE H hp hx h
where
  nodup_at {n : Nat} {f : Nat → List Nat} (h : ((List.range n).flatMap f).Nodup) {i : Nat} (hi : i < n) : (f i).Nodup := by
    induction n with
    | zero => omega
    | succ n ih =>
      rw [List.range_succ, List.flatMap_append, List.flatMap_singleton] at h
      obtain ⟨h1, h2, h3⟩ := List.nodup_append.1 h
      by_cases e1 : i < n
      · exact ih h1 e1
      · have : i = n := by omega
        subst this
        exact h2
  nodup_dj {n : Nat} {f : Nat → List Nat} (h : ((List.range n).flatMap f).Nodup) {i j : Nat} (hi : i < n) (hj : j < n) (hne : i ≠ j) : ∀ b ∈ f i, b ∉ f j := by
    induction n with
    | zero => omega
    | succ n ih =>
      rw [List.range_succ, List.flatMap_append, List.flatMap_singleton] at h
      obtain ⟨h1, h2, h3⟩ := List.nodup_append.1 h
      have mem : ∀ q, q < n → ∀ b ∈ f q, b ∈ (List.range n).flatMap f := fun q hq b hb => List.mem_flatMap.2 ⟨q, List.mem_range.2 hq, hb⟩
      intro b hb hb'
      by_cases e1 : i < n
      · by_cases e2 : j < n
        · exact ih h1 e1 e2 b hb hb'
        · have : j = n := by omega
          subst this
          exact h3 b (mem i e1 b hb) b hb' rfl
      · have : i = n := by omega
        subst this
        exact h3 b (mem j (by omega) b hb') b hb rfl
end
end Go.SX

/- SX: append, all. -/
namespace Go.SX

section
variable {P : Program} {E : Env} {η : OEnv} {G : Nat → Prop} {N : Nat} {dl : List Deferred} {get : Nat → SV} {ob : Nat → Option TObj} {a : Act} {w : World}

def BAOk (η : OEnv) (G : Nat → Prop) (w : World) (ob : Nat → Option TObj) (e wd : Nat) (v : Value) : BA → Prop
  | .nil ks => OwnsV w e wd v 0 [] ∧ BaseOf η ks v ∧ ∀ k ∈ ks, ob k ≠ none
  | .sh k n row => ∃ xs, OwnsV w e wd v (n ()) xs ∧ BaseOf η [k] v ∧ ob k ≠ none ∧ Rows (n ()) wd xs fun i j u => DVRel w G (row (fun _ => i) j) u
  | .dp ty k n row => ∃ xs o, (ty = true → ∀ b ∈ o.inner, ∃ cs, w.heap[b]? = some (.cells cs byteT (0, 0))) ∧ OwnsV w e wd v (n ()) xs ∧ BaseOf η [k] v ∧ ob k ≠ none ∧ η k = some o ∧ ∃ Bs : Nat → Nat → List Nat, (∀ i j b, i < n () → j < wd → b ∈ Bs i j → b ∈ o.inner) ∧
      ((List.range (n ())).flatMap fun i => (List.range wd).flatMap (Bs i)).Nodup ∧ Rows (n ()) wd xs fun i j u => ORel w (row (fun _ => i) j) u (Bs i j)

theorem baseA_ok (H : Holds dl η G N get ob a w) {e wd : Nat} {x : SV} {v : Value} (hx : SVRel η G w x v) {b : BA} (h : baseA e wd ob x = some b) : BAOk η G w ob e wd v b := by
  unfold baseA at h
  split at h
  · cases h
    simp only [SVRel] at hx
    subst hx
    exact ⟨⟨by simp, .inl ⟨rfl, rfl⟩⟩, (fun g hg => by cases hg), by simp⟩
  · rename_i k
    split at h
    · rename_i T wd' n row hob
      cases hc : (eqN T e && ltN 0 e && (eqN wd wd' && ltN T 1000)) with
      | false => rw [hc] at h; cases h
      | true =>
        rw [hc] at h
        cases h
        simp only [Bool.and_eq_true] at hc
        have := eqN_eq hc.1.1
        subst this
        have := eqN_eq hc.2.1
        subst this
        have hT1 := hc.2.2
        have he : 0 < T := by simpa [ltN_iff] using hc.1.2
        obtain ⟨o, hk, hr⟩ := obj_of H hob
        simp only [ObjRel] at hr
        obtain ⟨hd, hin, hq⟩ := hr
        have eT : tyOf T = true := hT1
        have eB : baseT T = T := by simp only [baseT, hT1, cond_true]
        rw [eT, eB] at hq
        simp only [SVRel] at hx
        obtain ⟨o', hk', _, hv⟩ := hx
        rw [hk] at hk'; cases hk'
        have hv := hv hd
        subst hv
        obtain ⟨xs, h1, h2, h3⟩ := base_blk H hk hq he
        refine ⟨xs, h1, h2, by simp [hob], ?_⟩
        rcases h3 with h0 | ⟨cs, hQ, ht, hle⟩
        · intro i j hi; rw [h0] at hi; omega
        · exact Rows.of_cur hQ ht
    · rename_i T wd' n row hob
      cases hc : (eqN (baseT T) e && ltN 0 e && eqN wd wd') with
      | false => rw [hc] at h; cases h
      | true =>
        rw [hc] at h
        cases h
        simp only [Bool.and_eq_true] at hc
        have := eqN_eq hc.1.1
        subst this
        have := eqN_eq hc.2
        subst this
        have he : 0 < baseT T := by simpa [ltN_iff] using hc.1.2
        obtain ⟨o, hk, hr⟩ := obj_of H hob
        simp only [ObjRel] at hr
        obtain ⟨hd, hty, Bs, hB, hN, hq⟩ := hr
        simp only [SVRel] at hx
        obtain ⟨o', hk', _, hv⟩ := hx
        rw [hk] at hk'; cases hk'
        have hv := hv hd
        subst hv
        obtain ⟨xs, h1, h2, h3⟩ := base_blk H hk hq he
        refine ⟨xs, o, hty, h1, h2, by simp [hob], hk, Bs, hB, hN, ?_⟩
        rcases h3 with h0 | ⟨cs, hQ, ht, hle⟩
        · intro i j hi; rw [h0] at hi; omega
        · exact Rows.of_cur hQ ht
    · cases h
  · rename_i k wd' n
    split at h
    · rename_i T hob
      cases hc : (eqN T e && ltN 0 e && eqN n 0 && eqN wd wd') with
      | false => rw [hc] at h; cases h
      | true =>
        rw [hc] at h
        cases h
        simp only [Bool.and_eq_true] at hc
        have := eqN_eq hc.1.1.1
        subst this
        have := eqN_eq hc.1.2
        subst this
        obtain ⟨h1, h2⟩ := base_csl H hob hx wd
        exact ⟨h1, h2, by simp [hob]⟩
    · cases h
  · cases h

theorem DVRel.one {S : Nat → Prop} {d : DV} {v : Value} (h : DVRel w S d v) : v.oneCell' = true := by
  cases d <;> simp only [DVRel] at h
  · subst h; rfl
  · subst h; rfl
  · subst h; rfl
  · obtain ⟨p, c, rfl, _⟩ := h; rfl
  · obtain ⟨p, c, rfl, _⟩ := h; rfl
  · obtain ⟨b, o, rfl, _⟩ := h; rfl
  · obtain ⟨b, o, rfl, _⟩ := h; rfl

theorem rows_one {n wd : Nat} {xs : List Value} {R : Nat → Nat → Value → Prop} (hw : 0 < wd) (hl : xs.length = n * wd) (h : Rows n wd xs R) (h1 : ∀ i j u, R i j u → u.oneCell' = true) : ∀ u ∈ xs, u.oneCell' = true := by
  intro u hu
  obtain ⟨q, hq, rfl⟩ := List.getElem_of_mem hu
  have hi : q / wd < n := by rw [Nat.div_lt_iff_lt_mul hw]; omega
  obtain ⟨v, hv, hr⟩ := h (q / wd) (q % wd) hi (Nat.mod_lt _ hw)
  rw [show q / wd * wd + q % wd = q by rw [Nat.mul_comm]; exact Nat.div_add_mod q wd, List.getElem?_eq_getElem hq] at hv
  cases hv
  exact h1 _ _ _ hr

theorem rd_rows {S : Nat → Prop} {wd : Nat} {n : Unit → Nat} {row : (Unit → Nat) → Nat → DV} {v : Value} (hw : 0 < wd) (h : DVRel w S (.sl wd n row) v) :
    ∃ news, news.length = n () * wd ∧ Rd w v (n ()) news ∧ Rows (n ()) wd news fun i j u => DVRel w S (row (fun _ => i) j) u := by
  simp only [DVRel] at h
  obtain ⟨p, c, rfl, hc, hr⟩ := h
  by_cases hn : n () = 0
  · exact ⟨[], by simp [hn], ⟨p, c, rfl, fun h => absurd hn h⟩, fun i j hi => by omega⟩
  · obtain ⟨b, o, rfl, _, _⟩ := hr 0 (by omega)
    have hcell : ∀ q, q < n () * wd → ∃ u, w.cell? ⟨b, o + q, none⟩ = some u := by
      intro q hq
      have hi : q / wd < n () := by rw [Nat.div_lt_iff_lt_mul hw]; omega
      obtain ⟨b', o', he, _, hcl⟩ := hr (q / wd) hi
      cases he
      obtain ⟨u, hu, _⟩ := hcl (q % wd) (Nat.mod_lt _ hw)
      rw [Nat.add_assoc, show q / wd * wd + q % wd = q by rw [Nat.mul_comm]; exact Nat.div_add_mod q wd] at hu
      exact ⟨u, hu⟩
    refine ⟨(List.range (n () * wd)).map fun q => (w.cell? ⟨b, o + q, none⟩).getD undef, by simp, ⟨_, c, rfl, fun _ => ⟨_, rfl, fun j u hj => ?_⟩⟩, fun i j hi hj => ?_⟩
    · rw [List.getElem?_map] at hj
      by_cases hlt : j < n () * wd
      · rw [List.getElem?_range hlt] at hj
        obtain ⟨u', hu'⟩ := hcell j hlt
        simp only [Option.map_some, hu', Option.getD_some, Option.some.injEq] at hj
        subst hj
        rw [add_at]; exact hu'
      · rw [List.getElem?_eq_none (by simp; omega)] at hj; cases hj
    · obtain ⟨b', o', he, _, hcl⟩ := hr i hi
      cases he
      obtain ⟨u, hu, hd⟩ := hcl j hj
      refine ⟨u, ?_, hd⟩
      rw [List.getElem?_map, List.getElem?_range (row_lt hi hj)]
      simp only [Option.map_some]
      rw [← Nat.add_assoc, hu]; rfl

theorem rd_ownS (H : Holds dl η G N get ob a w) {k T wd : Nat} {n : Unit → Nat} {row : (Unit → Nat) → Nat → DV} {v : Value} (hob : ob k = some (.arrS T wd n row)) (hx : SVRel η G w (.own k) v) :
    ∃ news, news.length = n () * wd ∧ Rd w v (n ()) news ∧ Rows (n ()) wd news fun i j u => DVRel w G (row (fun _ => i) j) u := by
  obtain ⟨o, hk, hr⟩ := obj_of H hob
  simp only [ObjRel] at hr
  obtain ⟨hd, hin, hq⟩ := hr
  simp only [SVRel] at hx
  obtain ⟨o', hk', _, hv⟩ := hx
  rw [hk] at hk'; cases hk'
  have hv := hv hd
  subst hv
  rcases hq with ⟨hv, hn, _⟩ | ⟨b, c, cs, T', hv, hm, hh, ⟨hs, hT⟩, hc, hcm, hQ⟩
  · exact ⟨[], by simp [hn], ⟨none, 0, by rw [hv, hn], fun h => absurd hn h⟩, fun i j hi => by omega⟩
  · have hle : n () * wd ≤ cs.size := by refine Nat.le_trans ?_ hs.2; exact Nat.mul_le_mul_right _ hc
    refine ⟨cs.toList.take (n () * wd), by simp; omega, ⟨_, c, hv, fun _ => ⟨_, rfl, fun j u hj => ?_⟩⟩, Rows.of_cur hQ rfl⟩
    rw [add_at, cell_cells hh, Nat.zero_add]
    rw [List.getElem?_take] at hj
    split at hj
    · simpa using hj
    · cases hj

/-- What is known of the types. -/
structure AppT (P : Program) (T e wd bytes : Nat) : Prop where
  ht : P.underlying T = some (.slice e)
  hi : ∃ i z, P.info? e = some i ∧ i.zero = some z ∧ z.cells.size = i.size ∧ i.size = wd ∧ i.bytes = bytes
  hw : 0 < wd
  hb : 0 < bytes

def AppRes (P : Program) (η : OEnv) (G : Nat → Prop) (w : World) (ob : Nat → Option TObj) (T U : Nat) (x y : Value) (sv : SV) (upd : Objs) : Prop :=
  ∃ v' w' η' G', (Builtin.append_ #[T, T] U #[x, y]).run P w = .ok v' w' ∧ After η G w ob sv upd v' η' G' w'

theorem sound_appS (H : Holds dl η G N get ob a w) {T U d e wd bytes : Nat} (hT : AppT P T e wd bytes) (hd : ob d = none) {v vy : Value} {b : BA} (hb : BAOk η G w ob e wd v b) {m : Unit → Nat} {new : (Unit → Nat) → Nat → DV} {news : List Value}
    (hl : news.length = m () * wd) (hrd : Rd w vy (m ()) news) (hrows : Rows (m ()) wd news fun i j u => DVRel w G (new (fun _ => i) j) u)
    {rd : List Nat} {sv : SV} {upd : Objs} {rd' : List Nat} {obl : Obl} (h : appS d e wd bytes rd m new b = .ok sv upd rd' obl) (ho : obl.holds) : AppRes P η G w ob T U v vy sv upd := by
  obtain ⟨i, z, hi, hz, hzs, hsz, hby⟩ := hT.hi
  have hw := hT.hw
  have hbp := hT.hb
  subst hsz; subst hby
  have h1 := rows_one hw hl hrows fun i j u h => DVRel.one h
  obtain ⟨p, c, rfl, hp⟩ := hrd
  cases b with
  | nil ks =>
    simp only [appS, OpRes.ok.injEq] at h; obtain ⟨rfl, rfl, _, rfl⟩ := h
    simp only [Obl.holds, lenOk] at ho
    obtain ⟨hown, hbase, hks⟩ := hb
    obtain ⟨v', w', hr, q1, q2, q3, q4, q5, q6, q7⟩ := run_append_sx T U e i z hT.ht hi hz hzs hw hbp v 0 [] hown p (m ()) c news hp hl h1 (by simpa [leN_iff, ltN_iff] using ho)
    simp only [Nat.zero_add, List.nil_append] at q6
    have tk := takes_app hbase q1 q2 q3 q4 q5 q6 q7 [] (by simp)
    refine ⟨v', w', _, G, hr, after_take H hd hks tk (fun hM => ?_) (own_rel (o := ⟨v', v'.ownBlock.toList, [], false⟩) (slice_one q6))⟩
    refine ⟨rfl, rfl, blk_sT (blk_of q6 [] fun cur ht => Rows.cur (fun i j hi hj => ?_) ht)⟩
    obtain ⟨u, hu, hr⟩ := hrows i j hi hj
    exact ⟨u, hu, DVRel.mono hM.g hM.hg _ _ hr⟩
  | sh k n row =>
    simp only [appS, OpRes.ok.injEq] at h; obtain ⟨rfl, rfl, _, rfl⟩ := h
    simp only [Obl.holds, lenOk] at ho
    obtain ⟨xs, hown, hbase, hk, hold⟩ := hb
    obtain ⟨v', w', hr, q1, q2, q3, q4, q5, q6, q7⟩ := run_append_sx T U e i z hT.ht hi hz hzs hw hbp v (n ()) xs hown p (m ()) c news hp hl h1 ho.1
    have tk := takes_app hbase q1 q2 q3 q4 q5 q6 q7 [] (by simp)
    refine ⟨v', w', _, G, hr, after_take H hd (ks := [k]) (by simpa [leN_iff, ltN_iff] using hk) tk (fun hM => ?_) (own_rel (o := ⟨v', v'.ownBlock.toList, [], false⟩) (slice_one q6))⟩
    refine ⟨rfl, rfl, blk_sT (blk_of q6 [] fun cur ht => Rows.cur (Rows.app hown.1 hold hrows (fun i j u hi hj hr => ?_) (fun i j u hi hj hr => ?_)) ht)⟩
    · have := ho.2.1 i hi j hj
      have e : appRow n row new (fun _ => i) j = row (fun _ => i) j := this
      rw [e]
      exact DVRel.mono hM.g hM.hg _ _ hr
    · have := ho.2.2 i hi j hj
      have e : appRow n row new (fun _ => n () + i) j = new (fun _ => i) j := this
      rw [e]
      exact DVRel.mono hM.g hM.hg _ _ hr
  | dp ty k n row => simp [appS] at h

theorem sound_appD (H : Holds dl η G N get ob a w) {T U d e wd bytes : Nat} (hT : AppT P T e wd bytes) (hd : ob d = none) {v vy : Value} {b : BA} (hb : BAOk η G w ob e wd v b) {vs : List Value} (hlen : vs.length = wd) (hrd : Rd w vy 1 vs)
    {cs : List SV} (hcs : SVRels η G w cs vs) {zs ds : List DV} {ks : List (List Nat)} (hdeep : deepCells ob zs cs = some (ds, ks)) {tys : Bool} (htys : tys = true → tysOf ob (flatN ks) = true)
    {rd : List Nat} {sv : SV} {upd : Objs} {rd' : List Nat} {obl : Obl} (h : appD d e wd bytes rd ds ks tys b = .ok sv upd rd' obl) (ho : obl.holds) : AppRes P η G w ob T U v vy sv upd := by
  obtain ⟨i, z, hi, hz, hzs, hsz, hby⟩ := hT.hi
  have hw := hT.hw
  have hbp := hT.hb
  subst hsz; subst hby
  obtain ⟨h1, hkob, Bl, hBl, hksl, hcell⟩ := deepCells_ok H hcs hdeep
  obtain ⟨p, c, rfl, hp⟩ := hrd
  -- what the cells' blocks are
  have hfrom : ∀ j, j < i.size → ∀ b ∈ Bl.getD j [], ∃ k ∈ flatN ks, k ∈ ks.getD j [] ∧ ∃ o, η k = some o ∧ b ∈ o.main ++ o.inner := by
    intro j hj b hb
    obtain ⟨k, hk, o, ho, hm⟩ := (hcell j vs[j] (List.getElem?_eq_getElem (by omega))).from_ b hb
    refine ⟨k, mem_flatN.2 ⟨ks.getD j [], ?_, hk⟩, hk, o, ho, hm⟩
    have hjk : j < ks.length := by omega
    rw [List.getD_eq_getElem?_getD, List.getElem?_eq_getElem hjk]
    exact List.getElem_mem hjk
  have hnd1 : (flatN ks).Nodup → ((List.range i.size).flatMap fun j => Bl.getD j []).Nodup := by
    intro hn
    refine flatMap_nodup (fun j hj => (hcell j vs[j] (List.getElem?_eq_getElem (by omega))).nd) fun j j' hj hj' hne b hb hb' => ?_
    obtain ⟨k, _, hk, o, ho, hm⟩ := hfrom j hj b hb
    obtain ⟨k', _, hk', o', ho', hm'⟩ := hfrom j' hj' b hb'
    by_cases e : k = k'
    · subst e; exact flat_disj hn j j' hne k hk hk'
    · exact H.sp.dj k o k' o' ho ho' e b hm hm'
  have hRow : ∀ (w' : World), (∀ b, (∃ k ∈ flatN ks, ∃ o, η k = some o ∧ b ∈ o.main ++ o.inner) → w'.heap[b]? = w.heap[b]?) → Rows 1 i.size vs fun q j u => ORel w' (oneRow ds (fun _ => q) j) u (Bl.getD j []) := by
    intro w' hw' q j hq hj
    have : q = 0 := by omega
    subst this
    have hv : vs[0 * i.size + j]? = some vs[j] := by rw [Nat.zero_mul, Nat.zero_add]; exact List.getElem?_eq_getElem (by omega)
    refine ⟨vs[j], hv, ?_⟩
    have := hcell j vs[j] (List.getElem?_eq_getElem (by omega))
    refine ORel.mono _ _ _ (fun b hb => hw' b ?_) this.rel
    obtain ⟨k, hk, _, o, ho, hm⟩ := hfrom j hj b hb
    exact ⟨k, hk, o, ho, hm⟩
  cases b with
  | nil k0 =>
    simp only [appD] at h
    have hc0 := (cond_ok h).1
    rw [Bool.and_eq_true] at hc0
    have he5 := of_decide_eq_true hc0.1
    have hbe : baseT e = e := by unfold baseT; rw [hc0.1]; rfl
    have hnd := nodupN_iff hc0.2
    replace h := (cond_ok h).2
    simp only [OpRes.ok.injEq] at h; obtain ⟨rfl, rfl, _, rfl⟩ := h
    simp only [Obl.holds, lenOk] at ho
    obtain ⟨hown, hbase, hks⟩ := hb
    obtain ⟨v', w', hr, q1, q2, q3, q4, q5, q6, q7⟩ := run_append_sx T U e i z hT.ht hi hz hzs hw hbp v 0 [] hown p 1 c vs hp (by omega) h1 (by simpa [leN_iff, ltN_iff] using ho)
    simp only [Nat.zero_add, List.nil_append] at q6
    obtain ⟨n1, n2, n3⟩ := List.nodup_append.1 hnd
    -- taken blocks are not the base's
    have hne : ∀ b, (∃ k ∈ flatN ks, ∃ o, η k = some o ∧ b ∈ o.main ++ o.inner) → v.ownBlock ≠ some b := by
      rintro b ⟨k, hk, o, hko, hm⟩ e
      obtain ⟨k', hk', o', hko', hm'⟩ := hbase b e
      exact H.sp.dj k o k' o' hko hko' (fun e => n3 k' hk' k hk e.symm) b hm (by simp [hm'])
    have hin : ∀ b ∈ (List.range i.size).flatMap fun j => Bl.getD j [], ∃ k ∈ flatN ks, ∃ o, η k = some o ∧ b ∈ o.main ++ o.inner := by
      intro b hb
      obtain ⟨j, hj, hb⟩ := List.mem_flatMap.1 hb
      obtain ⟨k, hk, _, o, ho, hm⟩ := hfrom j (List.mem_range.1 hj) b hb
      exact ⟨k, hk, o, ho, hm⟩
    have hbase' : BaseOf η (k0 ++ flatN ks) v := fun g hg => by obtain ⟨k, hk, r⟩ := hbase g hg; exact ⟨k, by simp [hk], r⟩
    have tk := takes_app hbase' q1 q2 q3 q4 q5 q6 q7 ((List.range i.size).flatMap fun j => Bl.getD j []) (fun b hb => by
      obtain ⟨k, hk, o, ho, hm⟩ := hin b hb
      have hlt := (H.sp.lt k o ho b hm).1
      refine ⟨⟨by omega, .inr ⟨k, by simp [hk], o, ho, hm⟩⟩, fun e => ?_⟩
      rcases q7 b e with h | h
      · omega
      · exact hne b ⟨k, hk, o, ho, hm⟩ h)
    refine ⟨v', w', _, G, hr, after_take H hd (ks := k0 ++ flatN ks) (fun k hk => (List.mem_append.1 hk).elim (hks k) (hkob k)) tk (fun hM => ?_) (own_rel (o := ⟨v', v'.ownBlock.toList, _, false⟩) (slice_one q6))⟩
    have hrw := hRow w' fun b hb => by
      obtain ⟨k, hk, o, ho, hm⟩ := hb
      exact q5 b (H.sp.lt k o ho b hm).1 (hne b ⟨k, hk, o, ho, hm⟩)
    refine ⟨rfl, fun ht b hb => ?_, fun _ j => Bl.getD j [], fun i' j b _ hj hb => List.mem_flatMap.2 ⟨j, List.mem_range.2 hj, hb⟩, ?_, by rw [baseT_reT, hbe]; exact blk_of q6 _ fun cur ht => Rows.cur hrw ht⟩
    · obtain ⟨k, hk, o, ho, hm⟩ := hin b hb
      rw [q5 b (H.sp.lt k o ho b hm).1 (hne b ⟨k, hk, o, ho, hm⟩)]
      exact tys_row H (htys (tyOf_reT ht).1) k hk o ho b hm
    · simpa using hnd1 n2
  | dp ty k n row =>
    simp only [appD] at h
    have hc0 := (cond_ok h).1
    rw [Bool.and_eq_true] at hc0
    have he5 := of_decide_eq_true hc0.1
    have hbe : baseT e = e := by unfold baseT; rw [hc0.1]; rfl
    have hnd := nodupN_iff hc0.2
    replace h := (cond_ok h).2
    simp only [OpRes.ok.injEq] at h; obtain ⟨rfl, rfl, _, rfl⟩ := h
    simp only [Obl.holds, lenOk] at ho
    obtain ⟨xs, o, hty, hown, hbase, hk, hη, Bs, hB, hN, hold⟩ := hb
    obtain ⟨v', w', hr, q1, q2, q3, q4, q5, q6, q7⟩ := run_append_sx T U e i z hT.ht hi hz hzs hw hbp v (n ()) xs hown p 1 c vs hp (by omega) h1 ho.1
    obtain ⟨n1, n2⟩ := List.nodup_cons.1 hnd
    have hbk : ∀ b, v.ownBlock = some b → b ∈ o.main := by
      intro b e
      obtain ⟨k', hk', o', hko', hm'⟩ := hbase b e
      simp at hk'; subst hk'
      rw [hη] at hko'; cases hko'
      simp [hm']
    have hne : ∀ b, (∃ k ∈ flatN ks, ∃ o, η k = some o ∧ b ∈ o.main ++ o.inner) → v.ownBlock ≠ some b := by
      rintro b ⟨k', hk', o', hko', hm'⟩ e
      exact H.sp.dj k' o' k o hko' hη (fun e => n1 (e ▸ hk')) b hm' (by simp [hbk b e])
    have hin : ∀ b ∈ (List.range i.size).flatMap fun j => Bl.getD j [], ∃ k ∈ flatN ks, ∃ o, η k = some o ∧ b ∈ o.main ++ o.inner := by
      intro b hb
      obtain ⟨j, hj, hb⟩ := List.mem_flatMap.1 hb
      obtain ⟨k, hk, _, o, ho, hm⟩ := hfrom j (List.mem_range.1 hj) b hb
      exact ⟨k, hk, o, ho, hm⟩
    have hbase' : BaseOf η (k :: flatN ks) v := fun g hg => by obtain ⟨k', hk', r⟩ := hbase g hg; simp at hk'; subst hk'; exact ⟨k', by simp, r⟩
    have tk := takes_app hbase' q1 q2 q3 q4 q5 q6 q7 (o.inner ++ (List.range i.size).flatMap fun j => Bl.getD j []) (fun b hb => by
      rcases List.mem_append.1 hb with hb | hb
      · have hlt := (H.sp.lt k o hη b (by simp [hb])).1
        refine ⟨⟨by omega, .inr ⟨k, by simp, o, hη, by simp [hb]⟩⟩, fun e => ?_⟩
        rcases q7 b e with h | h
        · omega
        · exact H.sp.mi k o hη b (hbk b h) hb
      · obtain ⟨k', hk', o', ho', hm⟩ := hin b hb
        have hlt := (H.sp.lt k' o' ho' b hm).1
        refine ⟨⟨by omega, .inr ⟨k', by simp [hk'], o', ho', hm⟩⟩, fun e => ?_⟩
        rcases q7 b e with h | h
        · omega
        · exact hne b ⟨k', hk', o', ho', hm⟩ h)
    have hkeepO : ∀ b ∈ o.inner, w'.heap[b]? = w.heap[b]? := fun b hb => q5 b (H.sp.lt k o hη b (by simp [hb])).1 fun e => H.sp.mi k o hη b (hbk b e) hb
    refine ⟨v', w', _, G, hr, after_take H hd (ks := k :: flatN ks) (fun k' hk' => (List.mem_cons.1 hk').elim (fun e => e ▸ hk) (hkob k')) tk (fun hM => ?_) (own_rel (o := ⟨v', v'.ownBlock.toList, _, false⟩) (slice_one q6))⟩
    have hrw := hRow w' fun b hb => by
      obtain ⟨k', hk', o', ho', hm⟩ := hb
      exact q5 b (H.sp.lt k' o' ho' b hm).1 (hne b ⟨k', hk', o', ho', hm⟩)
    have hrw2 : Rows (n () + 1) i.size (xs ++ vs) fun i' j u => ORel w' (appRow n row (oneRow ds) (fun _ => i') j) u (if i' < n () then Bs i' j else Bl.getD j []) := Rows.app hown.1 hold hrw (fun i' j u hi hj hr => by
        have e : appRow n row (oneRow ds) (fun _ => i') j = row (fun _ => i') j := ho.2.1 i' hi j hj
        simp only [if_pos hi]
        rw [e]
        exact ORel.mono _ _ _ (fun b hb => hkeepO b (hB i' j b hi hj hb)) hr) (fun i' j u hi hj hr => by
        have e : appRow n row (oneRow ds) (fun _ => n () + i') j = oneRow ds (fun _ => i') j := ho.2.2 i' hi j hj
        rw [if_neg (by omega), e]
        exact hr)
    refine ⟨rfl, fun ht b hb => ?_, fun i' j => if i' < n () then Bs i' j else Bl.getD j [], fun i' j b _ hj hb => ?_, ?_, by rw [baseT_reT, hbe]; exact blk_of q6 _ fun cur ht => Rows.cur hrw2 ht⟩
    · have ht2 := (tyOf_reT ht).1
      rw [Bool.and_eq_true] at ht2
      rcases List.mem_append.1 hb with hb | hb
      · rw [hkeepO b hb]; exact hty ht2.1 b hb
      · obtain ⟨k', hk', o', ho', hm⟩ := hin b hb
        rw [q5 b (H.sp.lt k' o' ho' b hm).1 (hne b ⟨k', hk', o', ho', hm⟩)]
        exact tys_row H (htys ht2.2) k' hk' o' ho' b hm
    · dsimp only at hb
      split at hb
      · rename_i hi; exact List.mem_append_left _ (hB i' j b hi hj hb)
      · exact List.mem_append_right _ (List.mem_flatMap.2 ⟨j, List.mem_range.2 hj, hb⟩)
    · show ((List.range (n () + 1)).flatMap _).Nodup
      rw [List.range_succ, List.flatMap_append, List.flatMap_singleton]
      have e1 : ((List.range (n ())).flatMap fun i' => (List.range i.size).flatMap fun j => if i' < n () then Bs i' j else Bl.getD j []) = (List.range (n ())).flatMap fun i' => (List.range i.size).flatMap (Bs i') := by
        refine congrArg List.flatten (List.map_congr_left fun i' hi' => ?_)
        have := List.mem_range.1 hi'
        simp [this]
      have e2 : ((List.range i.size).flatMap fun j => if n () < n () then Bs (n ()) j else Bl.getD j []) = (List.range i.size).flatMap fun j => Bl.getD j [] := by simp
      rw [e2]
      refine List.nodup_append.2 ⟨by rw [e1]; exact hN, hnd1 n2, fun b hb c hc e => ?_⟩
      subst e
      rw [e1] at hb
      obtain ⟨i', hi', hb⟩ := List.mem_flatMap.1 hb
      obtain ⟨j, hj, hb⟩ := List.mem_flatMap.1 hb
      have hbi := hB i' j b (List.mem_range.1 hi') (List.mem_range.1 hj) hb
      obtain ⟨k', hk', o', ho', hm⟩ := hin b hc
      exact H.sp.dj k' o' k o ho' hη (fun e => n1 (e ▸ hk')) b hm (by simp [hbi])
  | sh k n row => simp [appD] at h
end
end Go.SX

/- SX: append, maps, conversions. -/
namespace Go.SX
open Go.ChangeMaps

section
variable {P : Program} {E : Env} {η : OEnv} {G : Nat → Prop} {N : Nat} {dl : List Deferred} {get : Nat → SV} {ob : Nat → Option TObj} {a : Act} {w : World}

def noE : OEnv := fun _ => none

theorem appT_of (hE : EOk P E) (w : World) {T e : Nat} {ti te : TI} (h1 : E.ti T = some ti) (h2 : ti.td = .slice e) (h3 : E.ti e = some te) (hw : 0 < te.size) (hb : 0 < te.bytes) : AppT P T e te.size te.bytes := by
  obtain ⟨d, hd, ht⟩ := (hE T ti h1).desc
  rw [h2] at ht
  simp only [TDOk] at ht
  subst ht
  obtain ⟨i, z, hi1, hi2, hi3, hi4, hi5⟩ := (hE e te h3).info
  refine ⟨hd, ⟨i, z, hi1, hi4, ?_, hi2, hi3⟩, hw, hb⟩
  have := SVRels.length (hi5 noE (fun _ => False) w)
  have hz := (hE e te h3).zlen
  simp at this
  omega

theorem sharedCells_okZ : ∀ {zs ds : List DV} {cs : List SV} {vs : List Value}, SVRels η G w cs vs → sharedCells zs cs = some ds → ∀ j v, vs[j]? = some v → DVRel w G (nthD ds j (.bool fun _ => false)) v
  | zs, ds, [], [], _, h => by simp
  | zs, ds, [], _ :: _, h, _ => by simp [SVRels] at h
  | zs, ds, c :: cs, [], h, _ => by simp [SVRels] at h
  | zs, ds, c :: cs, v :: vs, hs, h => by
      simp only [SVRels] at hs
      rw [show sharedCells zs (c :: cs) = (match sharedCell (match zs with | z :: _ => z | [] => .bool fun _ => false) c, sharedCells zs.tail cs with
        | some d, some ds => some (d :: ds)
        | _, _ => none) by cases zs <;> rfl] at h
      split at h
      · rename_i d ds' h1 h2
        simp only [Option.some.injEq] at h; subst h
        intro j u hu
        cases j with
        | zero => simp at hu; subst hu; simpa [nthD] using sharedCell_ok hs.1 h1
        | succ j => simpa [nthD] using sharedCells_okZ hs.2 h2 j u (by simpa [leN_iff, ltN_iff] using hu)
      · cases h

theorem one_rows {ds : List DV} {vs : List Value} {wd : Nat} (hl : vs.length = wd) (h : ∀ j v, vs[j]? = some v → DVRel w G (nthD ds j (.bool fun _ => false)) v) : Rows 1 wd vs fun q j u => DVRel w G (oneRow ds (fun _ => q) j) u := by
  intro q j hq hj
  have : q = 0 := by omega
  subst this
  have hv : vs[0 * wd + j]? = some vs[j] := by rw [Nat.zero_mul, Nat.zero_add]; exact List.getElem?_eq_getElem (by omega)
  exact ⟨vs[j], hv, h j _ (List.getElem?_eq_getElem (by omega))⟩

theorem sound_appendStr (hE : EOk P E) (H : Holds dl η G N get ob a w) {T U V d : Nat} {x y : SV} {vx vy : Value} (hx : SVRel η G w x vx) (hy : SVRel η G w y vy) {sv : SV} {upd : Objs} {rd : List Nat} {obl : Obl}
    (h : evAppStr E d ob T U x y = .ok sv upd rd obl) (ho : obl.holds) : ∃ v' w' η' G', (Builtin.append_ #[T, U] V #[vx, vy]).run P w = .ok v' w' ∧ After η G w ob sv upd v' η' G' w' := by
  unfold evAppStr at h
  split at h
  · rename_i ti hd hti
    split at h
    · rename_i e htd
      split at h
      · rename_i te hte
        have hc := (cond_ok h).1
        replace h := (cond_ok h).2
        simp only [Bool.and_eq_true] at hc
        have hsz := eqN_eq hc.1.2
        have hby := eqN_eq hc.2
        have hT := appT_of hE w hti htd hte (by omega) (by omega)
        rw [hsz, hby] at hT
        split at h
        · rename_i tu htu
          split at h
          · rename_i hts
            split at h
            · rename_i s
              split at h
              · rename_i ks bs hb
                simp only [OpRes.ok.injEq] at h; obtain ⟨rfl, rfl, _, rfl⟩ := h
                simp only [Obl.holds, lenOk] at ho
                obtain ⟨hown, hbase, hks⟩ := baseB_ok H hx hb
                have hvy : vy = .string ⟨(s ()).toArray⟩ := by simpa only [SVRel] using hy
                subst hvy
                have hu : P.underlying U = some .string := by
                  obtain ⟨d', hd', ht'⟩ := (hE U tu htu).desc
                  rw [hts] at ht'
                  simp only [TDOk] at ht'
                  subst ht'
                  exact hd'
                obtain ⟨i, z, hi, hz, hzs, hs1, hs2⟩ := hT.hi
                have hss : (⟨(s ()).toArray⟩ : ByteArray).size = (s ()).length := by simp [ByteArray.size]
                have hcells : Lib.strCells ⟨(s ()).toArray⟩ = (s ()).map u8v := by unfold Lib.strCells u8v; simp
                obtain ⟨v', w', hr, q1, q2, q3, q4, q5, q6, q7⟩ := run_append_strx T U V e i z hT.ht hu hi hz hzs hs1 hs2 vx (bs ()).length ((bs ()).map u8v) hown ⟨(s ()).toArray⟩ (by rw [hss]; exact ho)
                rw [hss, hcells] at q6
                have tk := takes_app hbase q1 q2 q3 q4 q5 q6 q7 [] (by simp)
                refine ⟨v', w', _, G, hr, after_take H hd hks tk (fun hM => ?_) (own_rel (o := ⟨v', v'.ownBlock.toList, [], false⟩) (slice_one q6))⟩
                refine ⟨rfl, rfl, ?_⟩
                have e1 : (bs () ++ s ()).length = (bs ()).length + (s ()).length := List.length_append
                rw [e1]
                refine blk_of q6 [] fun cur ht i x hx => ?_
                rw [Nat.mul_one, ← List.map_append] at ht
                have hlt : i < (bs () ++ s ()).length := (List.getElem?_eq_some_iff.1 hx).1
                have : (cur.toList.take ((bs ()).length + (s ()).length))[i]? = some (u8v x) := by rw [ht, List.getElem?_map, hx]; rfl
                rw [List.getElem?_take, if_pos (by omega)] at this
                simpa [u8v] using this
              · cases h
            · cases h
          · cases h
        · cases h
      · cases h
    · cases h
  · cases h

theorem sound_append (hE : EOk P E) (H : Holds dl η G N get ob a w) {T U d : Nat} {x y : SV} {vx vy : Value} (hx : SVRel η G w x vx) (hy : SVRel η G w y vy) {sv : SV} {upd : Objs} {rd : List Nat} {obl : Obl}
    (h : evAppend E d ob T x y = .ok sv upd rd obl) (ho : obl.holds) : AppRes P η G w ob T U vx vy sv upd := by
  unfold evAppend at h
  split at h
  · rename_i ti hd hti
    split at h
    · rename_i e htd
      split at h
      · rename_i te hte
        rcases cond_eq h with ⟨hc, h2⟩ | ⟨_, h2⟩
        · replace h := h2
          simp only [Bool.and_eq_true] at hc
          have hsz := eqN_eq hc.1.2
          have hby := eqN_eq hc.2
          have hT := appT_of hE w hti htd hte (by omega) (by omega)
          rw [hsz, hby] at hT
          split at h
          · rename_i ks bs A hb hA
            simp only [OpRes.ok.injEq] at h; obtain ⟨rfl, rfl, _, rfl⟩ := h
            simp only [Obl.holds, lenOk] at ho
            obtain ⟨hown, hbase, hks⟩ := baseB_ok H hx hb
            obtain ⟨p, c, rfl, hp⟩ := addB_ok H hy hA ho.1
            obtain ⟨i, z, hi, hz, hzs, hs1, hs2⟩ := hT.hi
            obtain ⟨v', w', hr, q1, q2, q3, q4, q5, q6, q7⟩ := run_append_sx T U e i z hT.ht hi hz hzs (by omega) (by omega) vx (bs ()).length ((bs ()).map u8v) (by rw [hs1]; exact hown) p (A.bs ()).length c ((A.bs ()).map u8v) hp (by rw [hs1]; simp) (u8v_one _) (by rw [hs2]; exact ho.2)
            rw [hs1] at q6
            have tk := takes_app hbase q1 q2 q3 q4 q5 q6 q7 [] (by simp)
            refine ⟨v', w', _, G, hr, after_take H hd hks tk (fun hM => ?_) (own_rel (o := ⟨v', v'.ownBlock.toList, [], false⟩) (slice_one q6))⟩
            refine ⟨rfl, rfl, ?_⟩
            have e1 : (bs () ++ A.bs ()).length = (bs ()).length + (A.bs ()).length := List.length_append
            rw [e1]
            refine blk_of q6 [] fun cur ht i x hx => ?_
            rw [Nat.mul_one, ← List.map_append] at ht
            have hlt : i < (bs () ++ A.bs ()).length := (List.getElem?_eq_some_iff.1 hx).1
            have : (cur.toList.take ((bs ()).length + (A.bs ()).length))[i]? = some (u8v x) := by rw [ht, List.getElem?_map, hx]; rfl
            rw [List.getElem?_take, if_pos (by omega)] at this
            simpa [u8v] using this
          · cases h
        · replace h := h2
          have hc := (cond_ok h).1
          replace h := (cond_ok h).2
          simp only [Bool.and_eq_true, ltN_iff] at hc
          have hT := appT_of hE w hti htd hte hc.1 hc.2
          split at h
          · cases h
          · rename_i b hb
            have hB := baseA_ok H hx hb
            have hy : SVRel η G w (nnD y) vy := by
              cases y <;> first | exact hy | (simp only [nnD, SVRel] at hy ⊢; exact hy.1)
            generalize nnD y = y at h hy
            unfold evAppA at h
            split at h
            · rename_i wd m row
              have hw := eqN_eq (cond_ok h).1
              replace h := (cond_ok h).2
              subst hw
              simp only [SVRel] at hy
              obtain ⟨news, hl, hrd, hrows⟩ := rd_rows hc.1 hy
              exact sound_appS H hT hd hB hl hrd hrows h ho
            · rename_i k
              split at h
              · rename_i T' wd m row hob
                have hw := eqN_eq (cond_ok h).1
                replace h := (cond_ok h).2
                subst hw
                obtain ⟨news, hl, hrd, hrows⟩ := rd_ownS H hob hy
                exact sound_appS H hT hd hB hl hrd hrows h ho
              · cases h
            · rename_i k wd m
              split at h
              · rename_i T' cs hob
                have hw := (cond_ok h).1
                replace h := (cond_ok h).2
                simp only [Bool.and_eq_true] at hw
                have hm := eqN_eq hw.1.2
                have hcl := eqN_eq hw.2
                have hwd := eqN_eq hw.1.1
                subst hm; subst hwd
                obtain ⟨vs, hrd, hs⟩ := rd_csl H hob hy
                have hvl : vs.length = te.size := by rw [SVRels.length hs, hcl]
                have shared : ∀ ds, sharedCells te.dz cs = some ds → appS d e te.size te.bytes [k] (fun _ => 1) (oneRow ds) b = .ok sv upd rd obl → AppRes P η G w ob T U vx vy sv upd := by
                  intro ds hds h
                  exact sound_appS H hT hd hB (m := fun _ => 1) (by simpa [leN_iff, ltN_iff] using hvl) hrd (one_rows hvl (sharedCells_ok hs hds)) h ho
                split at h
                · rename_i ds ks hdeep
                  split at h
                  · split at h
                    · rename_i ds' hds; exact shared _ hds h
                    · cases h
                  · exact sound_appD H hT hd hB hvl hrd hs hdeep (fun h => h) h ho
                · split at h
                  · rename_i ds' hds; exact shared _ hds h
                  · cases h
              · cases h
            · cases h
      · cases h
    · cases h
  · cases h

theorem keyOf_mk {kt : TypeId} {k : IntKind} (hk : P.underlying kt = some (.int k)) {x : Int} (h : k.wrap x = x) : keyOf P kt (.int k x) = some (.int k x) := by
  refine Maps.keyOf_int_mk hk ?_
  have := wrap_within k x
  rw [h] at this
  simp [Lit.wf, this.1, this.2]

theorem setI_obj (H : Holds dl η G N get ob a w) {j : Nat} {k : IntKind} {ks : Unit → List Int} {v : Value} (hob : ob j = some (.setI k ks)) (hx : SVRel η G w (.own j) v) :
    ∃ o b es cl, η j = some o ∧ o.dead = false ∧ o.inner = [] ∧ o.val = v ∧ v = .map (some b) ∧ o.main = [b] ∧ w.heap[b]? = some (.map es cl) ∧ (∀ x ∈ ks (), k.wrap x = x) ∧
      es.toList.map (fun e => (e.key, e.val)) = (ks ()).map fun x => (Value.int k x, Value.bool true) := by
  obtain ⟨o, hk, hr⟩ := obj_of H hob
  simp only [ObjRel] at hr
  obtain ⟨hd, hin, b, es, cl, hv, hm, hh, h1, h2⟩ := hr
  simp only [SVRel] at hx
  obtain ⟨o', hk', _, hv'⟩ := hx
  rw [hk] at hk'; cases hk'
  have hv' := hv' hd
  exact ⟨o, b, es, cl, hk, hd, hin, hv'.symm, by rw [hv', hv], hm, hh, h1, h2⟩

theorem keys_of {k : IntKind} {es : List MapEntry} {l : List Int} (h : es.map (fun e => (e.key, e.val)) = l.map fun x => (Value.int k x, Value.bool true)) : ∀ e ∈ es, ∃ x ∈ l, e.key = .int k x ∧ e.val = .bool true := by
  intro e he
  have : (e.key, e.val) ∈ l.map fun x => (Value.int k x, Value.bool true) := h ▸ List.mem_map.2 ⟨e, he, rfl⟩
  obtain ⟨x, hx, h'⟩ := List.mem_map.1 this
  simp only [Prod.mk.injEq] at h'
  exact ⟨x, hx, h'.1.symm, h'.2.symm⟩

theorem keys_have {k : IntKind} {es : List MapEntry} {l : List Int} (h : es.map (fun e => (e.key, e.val)) = l.map fun x => (Value.int k x, Value.bool true)) {x : Int} (hx : x ∈ l) : ∃ e ∈ es, e.key = .int k x := by
  have : (Value.int k x, Value.bool true) ∈ es.map fun e => (e.key, e.val) := h ▸ List.mem_map.2 ⟨x, hx, rfl⟩
  obtain ⟨e, he, h'⟩ := List.mem_map.1 this
  simp only [Prod.mk.injEq] at h'
  exact ⟨e, he, h'.1⟩

theorem sound_lookup (hE : EOk P E) (H : Holds dl η G N get ob a w) {T : Nat} {x y : SV} {vx vy : Value} (hx : SVRel η G w x vx) (hy : SVRel η G w y vy) {sv : SV} {upd : Objs} {rd : List Nat} {obl : Obl}
    (h : evLookup E T ob x y = .ok sv upd rd obl) (ho : obl.holds) : Looks P η G w (Instr.lookup T vx vy false) sv upd := by
  unfold evLookup at h
  split at h
  · rename_i j k e
    split at h
    · rename_i k' ks ti hob hti
      split at h
      · rename_i k'' htd
        have hc := (cond_ok h).1
        replace h := (cond_ok h).2
        simp only [Bool.and_eq_true] at hc
        have := ikeq_eq hc.1
        subst this
        have := ikeq_eq hc.2
        subst this
        simp only [OpRes.ok.injEq] at h; obtain ⟨rfl, rfl, _, rfl⟩ := h
        simp only [Obl.holds, keyObl] at ho
        obtain ⟨o, b, es, cl, hk, hd, hin, hov, rfl, hm, hh, h1, h2⟩ := setI_obj H hob hx
        simp only [SVRel] at hy
        subst hy
        obtain ⟨d', hd', ht⟩ := (hE T ti hti).desc
        rw [htd] at ht
        obtain ⟨kt, et, rfl, hkt, ji, hj1, hj2⟩ := ht
        have K := Maps.int_keyed hkt
        have hkey := keyOf_mk hkt ho
        have hkeys : ∀ e' ∈ es.toList, ∃ l, keyOf P kt e'.key = some l := by
          intro e' he'
          obtain ⟨x, hx, hxk, _⟩ := keys_of h2 e' he'
          exact ⟨_, by rw [hxk]; exact keyOf_mk hkt (h1 x hx)⟩
        have hz : (zeroValue et).run P w = .ok (.bool false) w := by simp [zeroValue, typeInfo, hj1, hj2]
        refine ⟨rfl, ?_⟩
        rcases K.find w hkey es.toList hkeys with ⟨f1, f2⟩ | ⟨i, e0, f1, f2, f3⟩
        · refine ⟨.bool false, by simp [Instr.lookup, run_underlying hd', MapKept.run_getObj_map hh, K.check w _ hkey, f1, hz, Result.andThen], ?_⟩
          simp only [SVRel, BE.den]
          congr 1
          cases hcn : (ks ()).contains e.den with
          | false => rfl
          | true =>
            exfalso
            obtain ⟨e', he', hk'⟩ := keys_have h2 (List.contains_iff_mem.1 hcn)
            exact f2 e' he' hk'
        · have hmem : e0 ∈ es.toList := List.mem_of_getElem? f2
          obtain ⟨x, hx, hxk, hxv⟩ := keys_of h2 e0 hmem
          refine ⟨.bool true, by simp [Instr.lookup, run_underlying hd', MapKept.run_getObj_map hh, K.check w _ hkey, f1, Result.andThen, hxv], ?_⟩
          simp only [SVRel, BE.den]
          congr 1
          rw [f3] at hxk
          simp only [Value.int.injEq, true_and] at hxk
          rw [hxk]
          exact (List.contains_iff_mem.2 hx).symm
      · cases h
    · cases h
  · cases h

theorem sound_makeMap (hE : EOk P E) (H : Holds dl η G N get ob a w) {T d : Nat} {sv : SV} {upd : Objs} {rd : List Nat} {obl : Obl}
    (h : evMakeMap E d ob T = .ok sv upd rd obl) : ∃ v w' η' G', (Instr.makeMap T none).run P w = .ok v w' ∧ After η G w ob sv upd v η' G' w' := by
  unfold evMakeMap at h
  split at h
  · rename_i ti hd hti
    split at h
    · rename_i k htd
      simp only [OpRes.ok.injEq] at h; obtain ⟨rfl, rfl, _, rfl⟩ := h
      have tk : Takes η w [] (w.alloc (.map #[] 0)) ⟨.map (some w.heap.size), [w.heap.size], [], false⟩ :=
        ⟨rfl, rfl, rfl, by simp, fun b hb _ => old_alloc w _ b hb, fun b hb => by simp at hb; subst hb; exact ⟨by simp, .inl (Nat.le_refl _)⟩, by simp⟩
      refine ⟨.map (some w.heap.size), w.alloc (.map #[] 0), _, G, by simp [Instr.makeMap, newObj, Sem.run], after_take H hd (ks := []) (by simp) tk (fun _ => ?_) (own_rel (o := ⟨.map (some w.heap.size), [w.heap.size], [], false⟩) rfl)⟩
      exact ⟨rfl, rfl, _, _, _, rfl, rfl, heap_alloc_new w _, by simp, by simp⟩
    · cases h
  · cases h

/-- An object of one block, changed. -/
theorem after_upd (H : Holds dl η G N get ob a w) {k : Nat} {b : Nat} {o : OInfo} (ho : η k = some o) (hdead : o.dead = false) (hm : o.main = [b]) (hi : o.inner = []) {w' : World}
    (hos : w'.os = w.os) (htp : w'.tape = w.tape) (hou : w'.output = w.output) (hsz : w'.heap.size = w.heap.size) (hother : ∀ c, c ≠ b → w'.heap[c]? = w.heap[c]?) {X : TObj} (hX : Mono η G w η G w' → ObjRel η G w' X o) (v : Value) :
    After η G w ob .any [(k, X)] v η G w' := by
  have hE : Evol η G w η G w' := by
    refine ⟨hos, htp, hou, by omega, fun c _ hn => hother c fun e => hn k o ho (by rw [e, hm]; simp), ?_, fun _ h => h, fun _ h => .inl h, fun k o ho b hb => .inr ⟨k, o, ho, hb⟩⟩
    intro k' o' ho'
    refine ⟨o', ho', fun h => ⟨h, rfl, Ext.refl _, fun c hc => ⟨hc, hother c fun e => ?_⟩⟩⟩
    by_cases hk : k' = k
    · subst hk
      rw [ho] at ho'
      cases ho'
      rw [hi] at hc
      cases hc
    · exact H.sp.dj k' o' k o ho' ho hk c (by simp [hc]) (by rw [e, hm]; simp)
  have hM := hE.mono H.sp
  refine ⟨by simp [SVRel], fun k' => ?_, ⟨fun k o ho b hb => ?_, H.sp.dj, H.sp.mi, fun b hb => ?_⟩, hE⟩
  · by_cases hk : k' = k
    · subst hk
      simp only [updF, if_true, ho, ObjOpt]
      exact hX hM
    · simp only [updF, if_neg hk]
      have := H.ob k'
      cases h1 : ob k' with
      | none => cases h2 : η k' with
        | none => trivial
        | some o => rw [h1, h2] at this; exact this.elim
      | some x => cases h2 : η k' with
        | none => rw [h1, h2] at this; exact this.elim
        | some o' => rw [h1, h2] at this; exact ObjRel.mono hM (fun c hc => hother c fun e => H.sp.dj k' o' k o h2 ho hk c hc (by rw [e, hm]; simp)) this
  · have := H.sp.lt k o ho b hb
    exact ⟨by omega, this.2⟩
  · have := H.sp.glt b hb
    omega

theorem set_keys {k : IntKind} {es : List MapEntry} {l : List Int} (h : es.map (fun e => (e.key, e.val)) = l.map fun x => (Value.int k x, Value.bool true)) {i : Nat} {e0 : MapEntry} {x : Int} (h0 : es[i]? = some e0) (hk : e0.key = .int k x) :
    (es.set i { e0 with key := .int k x, val := .bool true }).map (fun e => (e.key, e.val)) = l.map fun x => (Value.int k x, Value.bool true) := by
  rw [← h, List.map_set]
  obtain ⟨y, _, hy, hv⟩ := keys_of h e0 (List.mem_of_getElem? h0)
  have e1 : (Value.int k x, Value.bool true) = (e0.key, e0.val) := by rw [hk, hv]
  rw [e1]
  apply List.ext_getElem?
  intro j
  rw [List.getElem?_set]
  split
  · rename_i hij
    subst hij
    rw [List.getElem?_map, h0]
    have := (List.getElem?_eq_some_iff.1 h0).1
    simp [this]
  · rfl

theorem run_barr (H : Holds dl η G N get ob a w) {k T : Nat} {bs : Unit → List UInt8} {v : Value} (hob : ob k = some (.barr T bs)) (hy : SVRel η G w (.own k) v) : DVRel w (fun _ => True) (.bytes bs) v := by
  obtain ⟨o, hk, hr⟩ := obj_of H hob
  simp only [ObjRel] at hr
  obtain ⟨hd, hin, hq⟩ := hr
  simp only [SVRel] at hy
  obtain ⟨o', hk', _, hv⟩ := hy
  rw [hk] at hk'; cases hk'
  have hv := hv hd
  subst hv
  simp only [DVRel]
  rcases hq with ⟨hv, hn, _⟩ | ⟨b, c, cs, T', hv, hm, hh, ⟨hs, hT⟩, hc, hcm, hQ⟩
  · exact ⟨none, 0, by rw [hv, hn], by omega, fun i x hx => by rw [List.eq_nil_of_length_eq_zero hn] at hx; simp at hx⟩
  · exact ⟨_, c, hv, hc, fun i x hx => ⟨b, 0, rfl, trivial, by rw [cell_cells hh, Nat.zero_add]; exact hQ i x hx⟩⟩

theorem run_convert_marked {P : Program} {w : World} {t e b T n c : Nat} {vs : List Value} (ht : P.underlying t = some (.slice e)) (he : P.underlying e = some (.int .u8)) (hh : w.heap[b]? = some (.cells ⟨vs⟩ T (0, 0))) :
    ∃ w', (convert t t (.slice (some ⟨b, 0, none⟩) n c)).run P w = .ok (.slice (some ⟨b, 0, none⟩) n c) w' ∧ w'.os = w.os ∧ w'.tape = w.tape ∧ w'.output = w.output ∧ w'.heap.size = w.heap.size ∧
      w'.heap[b]? = some (.cells ⟨vs⟩ T (vs.length, vs.length + 1)) ∧ ∀ b', b' ≠ b → w'.heap[b']? = w.heap[b']? := by
  have hsh : w.shape? b = some (T, vs.length) := by unfold World.shape?; rw [hh]; rfl
  refine ⟨w.freeze ⟨b, vs.length, none⟩ 1, ?_, ?_⟩
  · simp [convert, run_underlying ht, run_underlying he, markStringish, hsh]
  · have hlt : b < w.heap.size := by
      have := Array.getElem?_eq_some_iff.1 hh
      exact this.1
    unfold World.freeze
    rw [if_neg (by decide)]
    refine ⟨rfl, rfl, rfl, by simp, ?_, fun b' hb' => ?_⟩
    · simp [Array.getElem?_modify, hh]
    · simp [Array.getElem?_modify, Ne.symm hb']

theorem u8List_length : ∀ (l : List IE), (u8List l).length = l.length
  | [] => rfl
  | _ :: l => by simp [u8List, u8List_length l]

theorem sound_conv (hE : EOk P E) (H : Holds dl η G N get ob a w) {d src dst : Nat} {x : SV} {v : Value} (hx : SVRel η G w x v) {sv : SV} {upd : Objs} {rd : List Nat} {obl : Obl}
    (h : evConv E d ob src dst x = .ok sv upd rd obl) (ho : obl.holds) : ∃ v' w' η' G', (convert src dst v).run P w = .ok v' w' ∧ After η G w ob sv upd v' η' G' w' := by
  unfold evConv at h
  split at h
  · rename_i k
    split at h
    · rename_i T bs hob
      have hc := (cond_ok h).1
      replace h := (cond_ok h).2
      simp only [Bool.and_eq_true] at hc
      simp only [OpRes.ok.injEq] at h; obtain ⟨rfl, rfl, _, rfl⟩ := h
      exact ⟨_, w, η, G, run_bytes_str (isBytes_run hE hc.1) (isStr_run hE hc.2) (run_barr H hob hx), After.pure H (by simp only [SVRel])⟩
    · cases h
  · rename_i k bs
    have hc := (cond_ok h).1
    replace h := (cond_ok h).2
    simp only [Bool.and_eq_true] at hc
    simp only [OpRes.ok.injEq] at h; obtain ⟨rfl, rfl, _, rfl⟩ := h
    simp only [SVRel] at hx
    obtain ⟨o, hk, _, hv⟩ := hx
    exact ⟨_, w, η, G, run_bytes_str (isBytes_run hE hc.1.1) (isStr_run hE hc.1.2) (hv (alive_of H hc.2 hk)), After.pure H (by simp only [SVRel])⟩
  · rename_i k wd n
    split at h
    · rename_i T cs hd hob
      split at h
      · rename_i l hl
        have hc := (cond_ok h).1
        replace h := (cond_ok h).2
        simp only [Bool.and_eq_true] at hc
        obtain ⟨hB, hsd, hw1, hnl⟩ := hc
        have hsd := eqN_eq hsd
        subst hsd
        have hnl := eqN_eq hnl
        simp only [OpRes.ok.injEq] at h; obtain ⟨rfl, rfl, _, rfl⟩ := h
        simp only [Obl.holds] at ho
        obtain ⟨hu, hln⟩ := ho
        obtain ⟨o, hk, hr⟩ := obj_of H hob
        have hr' := hr
        simp only [ObjRel] at hr'
        obtain ⟨hdead, hin, b, vs, hm, hh, hs⟩ := hr'
        simp only [SVRel] at hx
        obtain ⟨o', hk', _, hv⟩ := hx
        rw [hk] at hk'; cases hk'
        obtain ⟨b', hm', rfl⟩ := hv hdead
        first | (rw [hm] at hm'; cases hm'; done) | (rw [hm] at hm'; cases hm') | (obtain rfl := OInfo.at_one hm hm')
        have hvs := u8s_ok hl hu hs
        have hvl : vs.length = n := by rw [hvs, List.length_map, u8List_length, hnl]
        obtain ⟨e, he1, he2⟩ := isBytes_run hE hB
        obtain ⟨w', hrun, h1, h2, h3, h4, h5, h6⟩ := run_convert_marked (n := n) (c := n) he1 he2 hh
        have hlt : b < w.heap.size := (H.sp.lt k o hk b (by simp [hm])).1
        have tk : Takes η w [k] w' ⟨.slice (some ⟨b, 0, none⟩) n n, [b], [], false⟩ := by
          refine ⟨h1, h2, h3, by omega, fun b' hb' hn => h6 b' ?_, fun b' hb' => ?_, by simp⟩
          · intro e; subst e
            exact hn k (by simp) o hk (by simp [hm])
          · simp at hb'; subst hb'
            exact ⟨by omega, .inr ⟨k, by simp, o, hk, by simp [hm]⟩⟩
        refine ⟨_, _, _, G, hrun, after_take H hd (ks := [k]) (by simp [hob]) tk (fun _ => ?_) (own_rel (o := ⟨.slice (some ⟨b, 0, none⟩) n n, [b], [], false⟩) rfl)⟩
        refine ⟨rfl, rfl, .inr ⟨b, n, _, (T, _), by rw [u8List_length, ← hnl], rfl, h5, ⟨by simp [hvl], .inl rfl⟩, by rw [u8List_length, ← hnl]; exact Nat.le_refl _, ?_, fun i x hx => ?_⟩⟩
        · simp only [lenOk] at hln; simp only [maxLen]; omega
        · have : vs[i]? = some (u8v x) := by rw [hvs, List.getElem?_map, hx]; rfl
          simpa [u8v] using this
      · cases h
    · cases h
  · rcases cond_eq h with ⟨hc, h2⟩ | ⟨hc, h2⟩
    · replace h := h2
      unfold evToBytes at h
      split at h
      · rename_i bs si hd hsi _ _ _
        have hb := (cond_ok h).1
        replace h := (cond_ok h).2
        simp only [OpRes.ok.injEq] at h; obtain ⟨rfl, rfl, _, rfl⟩ := h
        simp only [SVRel] at hx
        subst hx
        obtain ⟨ds, hds, _⟩ := (hE src si hsi).desc
        obtain ⟨e, hdd, hde⟩ := isBytes_run hE hb
        have hr := Lib.run_convert_string_bytes (P := P) w src dst e ⟨(bs ()).toArray⟩ hds hdd hde
        have hsz : (⟨(bs ()).toArray⟩ : ByteArray).size = (bs ()).length := by simp [ByteArray.size]
        rw [hsz] at hr
        simp only [Obl.holds, lenOk] at ho
        have hbig : grownCap w (bs ()).length 0 e ≤ maxLen := grownCap_le_maxLen w _ 0 e (by simp only [maxLen]; omega)
        · have tk : Takes η w [] (Lib.bytesWorld w e ⟨(bs ()).toArray⟩) ⟨.slice (some ⟨w.heap.size, 0, none⟩) (bs ()).length (grownCap w (bs ()).length 0 e), [w.heap.size], [], false⟩ :=
            ⟨rfl, rfl, rfl, by rw [Lib.bytesWorld_size]; omega, fun b hb _ => Lib.bytesWorld_at_old w e _ b hb, fun b hb => by simp at hb; subst hb; exact ⟨by rw [Lib.bytesWorld_size]; omega, .inl (Nat.le_refl _)⟩, by simp⟩
          refine ⟨_, _, _, G, hr, after_take H hd (ks := []) (by simp) tk (fun _ => ?_) (own_rel (o := ⟨.slice (some ⟨w.heap.size, 0, none⟩) (bs ()).length (grownCap w (bs ()).length 0 e), [w.heap.size], [], false⟩) rfl)⟩
          refine ⟨rfl, rfl, .inr ⟨w.heap.size, _, _, (e, _), rfl, rfl, Lib.bytesWorld_at_new w e _, ⟨?_, .inl rfl⟩, grownCap_ge w _ 0 e, hbig, fun i x hx => ?_⟩⟩
          · have := grownCap_ge w (bs ()).length 0 e
            simp only [Lib.bytesCells, Array.size_append, Array.size_map, List.size_toArray, Array.size_replicate, hsz]
            omega
          · have hlt : i < (bs ()).length := (List.getElem?_eq_some_iff.1 hx).1
            have hsz' : (Array.map (fun b : UInt8 => Value.int .u8 (b.toNat : Int)) (bs ()).toArray).size = (bs ()).length := by simp
            simp only [Lib.bytesCells]
            rw [Array.getElem?_append_left (by simpa [leN_iff, ltN_iff] using hlt), Array.getElem?_map]
            simp [hx]
      · cases h
    · obtain ⟨rfl, v', hr, hs⟩ := sound_convert hE hx h2
      exact ⟨v', w, η, G, hr, After.pure H hs⟩

theorem sound_mapUpdate (hE : EOk P E) (H : Holds dl η G N get ob a w) {T : Nat} {x y z : SV} {vx vy vz : Value} (hx : SVRel η G w x vx) (hy : SVRel η G w y vy) (hz : SVRel η G w z vz) {sv : SV} {upd : Objs} {rd : List Nat} {obl : Obl}
    (h : evMapUpdate E T ob x y z = .ok sv upd rd obl) (ho : obl.holds) : ∃ w' η' G', (Instr.mapUpdate T vx vy vz).run P w = .ok () w' ∧ After η G w ob sv upd undef η' G' w' := by
  unfold evMapUpdate at h
  split at h
  · rename_i j k e
    split at h
    · rename_i k' ks ti hob hti
      split at h
      · rename_i k'' htd
        have hc := (cond_ok h).1
        replace h := (cond_ok h).2
        simp only [Bool.and_eq_true] at hc
        have := ikeq_eq hc.1
        subst this
        have := ikeq_eq hc.2
        subst this
        simp only [OpRes.ok.injEq] at h; obtain ⟨rfl, rfl, _, rfl⟩ := h
        simp only [Obl.holds, keyObl] at ho
        obtain ⟨o, b, es, cl, hk, hd, hin, hov, rfl, hm, hh, h1, h2⟩ := setI_obj H hob hx
        simp only [SVRel, BE.den] at hy hz
        subst hy; subst hz
        obtain ⟨d', hd', ht⟩ := (hE T ti hti).desc
        rw [htd] at ht
        obtain ⟨kt, et, rfl, hkt, ji, hj1, hj2⟩ := ht
        have K := Maps.int_keyed hkt
        have hkey := keyOf_mk hkt ho
        have hkeys : ∀ e' ∈ es.toList, ∃ l, keyOf P kt e'.key = some l := by
          intro e' he'
          obtain ⟨x, hx, hxk, _⟩ := keys_of h2 e' he'
          exact ⟨_, by rw [hxk]; exact keyOf_mk hkt (h1 x hx)⟩
        have hlt : b < w.heap.size := (Array.getElem?_eq_some_iff.1 hh).1
        have other : ∀ (O : Obj) (c : Nat), c ≠ b → (setBlock w b O).heap[c]? = w.heap[c]? := fun O c hc => by simp [setBlock, Array.getElem?_setIfInBounds, Ne.symm hc]
        have here : ∀ (O : Obj), (setBlock w b O).heap[b]? = some O := fun O => by simp [setBlock, Array.getElem?_setIfInBounds, hlt]
        have fin : ∀ (es' : Array MapEntry) (cl' : Nat), es'.toList.map (fun e => (e.key, e.val)) = (putKey (ks ()) e.den).map (fun x => (Value.int k x, Value.bool true)) →
            After η G w ob .any [(j, .setI k fun _ => putKey (ks ()) e.den)] undef η G (setBlock w b (.map es' cl')) := by
          intro es' cl' hes
          refine after_upd (w' := setBlock w b (.map es' cl')) H hk hd hm hin rfl rfl rfl (by simp [setBlock]) (other _) (fun _ => ?_) _
          refine ⟨hd, hin, b, _, _, hov, hm, here _, fun x hx => ?_, hes⟩
          unfold putKey at hx
          cases hcn : (ks ()).contains e.den with
          | true => rw [hcn] at hx; exact h1 x hx
          | false =>
            rw [hcn] at hx
            simp only [cond_false, List.mem_append, List.mem_singleton] at hx
            rcases hx with hx | rfl
            · exact h1 x hx
            · exact ho
        rcases K.find w hkey es.toList hkeys with ⟨f1, f2⟩ | ⟨i, e0, f1, f2, f3⟩
        · have hnot : (ks ()).contains e.den = false := by
            cases hcn : (ks ()).contains e.den with
            | false => rfl
            | true =>
              obtain ⟨e', he', hk'⟩ := keys_have h2 (List.contains_iff_mem.1 hcn)
              exact absurd hk' (f2 e' he')
          refine ⟨setBlock w b (.map (es.push ⟨.int k e.den, .bool true, cl⟩) (cl + 1)), η, G, by simp [Instr.mapUpdate, run_underlying hd', MapKept.run_getObj_map hh, K.check w false hkey, f1, MapKept.run_setObj_map _ hh, Result.andThen, setBlock], fin _ _ ?_⟩
          have hput : putKey (ks ()) e.den = ks () ++ [e.den] := by unfold putKey; rw [hnot]; rfl
          rw [hput, Array.toList_push, List.map_append, List.map_append, h2]
          rfl
        · have hj : es[i]? = some e0 := by simpa using f2
          have hyes : (ks ()).contains e.den = true := by
            obtain ⟨x, hx, hxk, hxv⟩ := keys_of h2 e0 (List.mem_of_getElem? f2)
            rw [f3] at hxk
            simp only [Value.int.injEq, true_and] at hxk
            rw [hxk]
            exact List.contains_iff_mem.2 hx
          refine ⟨setBlock w b (.map (es.modify i (fun e' => { e' with key := .int k e.den, val := .bool true })) cl), η, G, by simp [Instr.mapUpdate, run_underlying hd', MapKept.run_getObj_map hh, K.check w false hkey, f1, hj, f3, K.stays w hkey, MapKept.run_setObj_map _ hh, Result.andThen, setBlock], fin _ _ ?_⟩
          have hput : putKey (ks ()) e.den = ks () := by unfold putKey; rw [hyes]; rfl
          rw [hput, Array.toList_modify, modify_eq_set _ _ _ _ f2]
          exact set_keys h2 f2 f3
      · cases h
    · cases h
  · cases h
end
end Go.SX

/- SX, ninth part: all operations together. -/
namespace Go.SX

section
variable {P : Program} {E : Env} {η : OEnv} {G : Nat → Prop} {N : Nat} {dl : List Deferred} {get : Nat → SV} {ob : Nat → Option TObj} {a : Act} {w : World}

def KnOk (o : Op) (kn : List (Nat × Bool)) (a : Act) : Prop := ∀ t b, Operand.tmp t ∈ o.operands.toList → lookN t kn = some b → a.tmps.getD t undef = .bool b

def OpOk (P : Program) (o : Oper) (a : Act) (η : OEnv) (G : Nat → Prop) (w : World) (ob : Nat → Option TObj) (sv : SV) (upd : Objs) : Prop :=
  ∃ n v η' G' w', (execOp a.eval o).run P w = .ok n w' ∧ (n = .value v ∨ (n = .skip ∧ v = undef)) ∧ After η G w ob sv upd v η' G' w'

theorem opOk_of_looks (H : Holds dl η G N get ob a w) {o : Oper} {s : Sem Value} {sv : SV} {upd : Objs} (he : execOp a.eval o = do pure (.value (← s))) (h : Looks P η G w s sv upd) : OpOk P o a η G w ob sv upd := by
  obtain ⟨rfl, v, hr, hs⟩ := h
  exact ⟨.value v, v, η, G, w, by rw [he]; simp [hr], .inl rfl, After.pure H hs⟩

theorem opOk_of_val {o : Oper} {s : Sem Value} {sv : SV} {upd : Objs} (he : execOp a.eval o = do pure (.value (← s)))
    (h : ∃ v w' η' G', s.run P w = .ok v w' ∧ After η G w ob sv upd v η' G' w') : OpOk P o a η G w ob sv upd := by
  obtain ⟨v, w', η', G', hr, hs⟩ := h
  exact ⟨.value v, v, η', G', w', by rw [he]; simp [hr], .inl rfl, hs⟩

theorem SVRels.map (H : Holds dl η G N get ob a w) : ∀ (xs : List Operand), SVRels η G w (xs.map (opnd get)) (xs.map a.eval)
  | [] => by simp [SVRels]
  | x :: xs => by
      simp only [List.map_cons, SVRels]
      exact ⟨opnd_rel H x, SVRels.map H xs⟩

theorem optSV_rel (H : Holds dl η G N get ob a w) (x : Option Operand) : OptRel η G w (optSV get x) (x.map a.eval) := by
  cases x with
  | none => trivial
  | some x => exact opnd_rel H x

theorem evPick_rel {kn : List (Nat × Bool)} (H : Holds dl η G N get ob a w) {c x y : Operand} (hkn : KnOk (.pick c x y) kn a) {sv : SV} {upd : Objs} {rd : List Nat} {obl : Obl}
    (h : evPick kn get c x y = .ok sv upd rd obl) : upd = [] ∧ ∃ b, a.eval c = .bool b ∧ SVRel η G w sv (if b then a.eval x else a.eval y) := by
  have hc := opnd_rel H c
  unfold evPick at h
  split at h
  · rename_i hk
    simp only [plain, OpRes.ok.injEq] at h; obtain ⟨rfl, rfl, _, rfl⟩ := h
    cases c <;> simp only [knOf] at hk <;> first | cases hk | exact ⟨rfl, true, hkn _ _ (by simp [Op.operands]) hk, opnd_rel H x⟩
  · rename_i hk
    simp only [plain, OpRes.ok.injEq] at h; obtain ⟨rfl, rfl, _, rfl⟩ := h
    cases c <;> simp only [knOf] at hk <;> first | cases hk | exact ⟨rfl, false, hkn _ _ (by simp [Op.operands]) hk, opnd_rel H y⟩
  · split at h
    · rename_i hs
      rw [hs] at hc
      simp only [SVRel, BE.den_t] at hc
      simp only [plain, OpRes.ok.injEq] at h; obtain ⟨rfl, rfl, _, rfl⟩ := h
      exact ⟨rfl, true, hc, opnd_rel H x⟩
    · rename_i hs
      rw [hs] at hc
      simp only [SVRel, BE.den_f] at hc
      simp only [plain, OpRes.ok.injEq] at h; obtain ⟨rfl, rfl, _, rfl⟩ := h
      exact ⟨rfl, false, hc, opnd_rel H y⟩
    · cases h

theorem isCon_ok (hE : EOk P E) {T : Nat} (h : isCon E T = true) : ∃ d z i, P.underlying T = some d ∧ (∀ s, d ≠ .interface s) ∧ P.info? T = some i ∧ i.zero = some z := by
  unfold isCon at h
  split at h
  · rename_i ti hti
    obtain ⟨i, z, h1, _, _, h4, _⟩ := (hE T ti hti).info
    obtain ⟨d, hd, ht⟩ := (hE T ti hti).desc
    refine ⟨d, z, i, hd, ?_, h1, h4⟩
    intro s hs
    subst hs
    cases htd : ti.td with
    | other => rw [htd] at h; simp at h
    | struct fs => rw [htd] at ht; obtain ⟨_, h', _⟩ := ht; cases h'
    | mapI k => rw [htd] at ht; obtain ⟨_, _, h', _⟩ := ht; cases h'
    | bool => rw [htd] at ht; cases ht
    | int k => rw [htd] at ht; cases ht
    | string => rw [htd] at ht; cases ht
    | slice e => rw [htd] at ht; cases ht
  · cases h

theorem sound_ifc (hE : EOk P E) {T : Nat} {x : SV} {vx : Value} (hx : SVRel η G w x vx) {sv : SV} {upd : Objs} {rd : List Nat} {obl : Obl}
    (h : evIfc E T x = .ok sv upd rd obl) : Looks P η G w (Instr.makeInterface T vx) sv upd := by
  unfold evIfc at h
  obtain ⟨hc, h⟩ := cond_ok h
  obtain ⟨d, z, i, hd, hni, _, _⟩ := isCon_ok hE hc
  have hrun : (Instr.makeInterface T vx).run P w = .ok (.iface T vx) w := by
    simp only [Instr.makeInterface, Sem.run_bind, run_underlying hd, Result.andThen_ok]
    cases d <;> first | rfl | exact absurd rfl (hni _)
  cases x with
  | agg cs =>
    cases cs with
    | nil =>
      simp only [plain, OpRes.ok.injEq] at h; obtain ⟨rfl, rfl, _, rfl⟩ := h
      simp only [SVRel] at hx
      obtain ⟨vs, rfl, hvs⟩ := hx
      cases vs with
      | nil => exact ⟨rfl, _, hrun, by simp [SVRel]⟩
      | cons v vs => exact hvs.elim
    | cons c cs => simp at h
  | dat d =>
    simp only [plain, OpRes.ok.injEq] at h; obtain ⟨rfl, rfl, _, rfl⟩ := h
    refine ⟨rfl, _, hrun, ?_⟩
    simp only [SVRel] at hx ⊢
    exact ⟨_, rfl, by simpa [DVRel] using hx⟩
  | int k e =>
    simp only [plain, OpRes.ok.injEq] at h; obtain ⟨rfl, rfl, _, rfl⟩ := h
    refine ⟨rfl, _, hrun, ?_⟩
    simp only [SVRel] at hx ⊢
    exact ⟨_, rfl, by simpa [DVRel] using hx⟩
  | bool e =>
    simp only [plain, OpRes.ok.injEq] at h; obtain ⟨rfl, rfl, _, rfl⟩ := h
    refine ⟨rfl, _, hrun, ?_⟩
    simp only [SVRel] at hx ⊢
    exact ⟨_, rfl, by simpa [DVRel] using hx⟩
  | str e =>
    simp only [plain, OpRes.ok.injEq] at h; obtain ⟨rfl, rfl, _, rfl⟩ := h
    refine ⟨rfl, _, hrun, ?_⟩
    simp only [SVRel] at hx ⊢
    exact ⟨_, rfl, by simpa [DVRel] using hx⟩
  | _ => simp at h

theorem sound_assert (hE : EOk P E) {T U : Nat} {x : SV} {vx : Value} (hx : SVRel η G w x vx) {sv : SV} {upd : Objs} {rd : List Nat} {obl : Obl}
    (h : evAssert E T x = .ok sv upd rd obl) : Looks P η G w (Instr.typeAssert vx U T true) sv upd := by
  unfold evAssert at h
  obtain ⟨hc, h⟩ := cond_ok h
  obtain ⟨d, z, i, hd, hni, hi, hz⟩ := isCon_ok hE hc
  have hno : ∀ T' u, T' ≠ T → (Instr.typeAssert (.iface T' u) U T true).run P w = .ok (.tuple #[z, .bool false]) w := by
    intro T' u hne
    simp only [Instr.typeAssert, Sem.run_bind, run_underlying hd, Result.andThen_ok]
    cases d <;> first | exact absurd rfl (hni _) | simp [hne, zeroValue, typeInfo, hi, hz]
  have hnil : (Instr.typeAssert .nilIface U T true).run P w = .ok (.tuple #[z, .bool false]) w := by
    simp only [Instr.typeAssert, Sem.run_bind, run_underlying hd, Result.andThen_ok]
    cases d <;> first | exact absurd rfl (hni _) | simp [zeroValue, typeInfo, hi, hz]
  have hyes : ∀ u, (Instr.typeAssert (.iface T u) U T true).run P w = .ok (.tuple #[u, .bool true]) w := by
    intro u
    simp only [Instr.typeAssert, Sem.run_bind, run_underlying hd, Result.andThen_ok]
    cases d <;> first | exact absurd rfl (hni _) | simp
  have hany : SVRel η G w (.tup [.any, .bool .f]) (.tuple #[z, .bool false]) := ⟨[z, .bool false], rfl, trivial, rfl, trivial⟩
  cases x with
  | ifc T' dd =>
    simp only [SVRel] at hx
    obtain ⟨u, rfl, hu⟩ := hx
    have h : (bif eqN T' T then plain (.tup [dvSV none dd, .bool .t]) else plain (.tup [.any, .bool .f])) = OpRes.ok sv upd rd obl := h
    rcases cond_eq h with ⟨he, h⟩ | ⟨he, h⟩
    · simp only [plain, OpRes.ok.injEq] at h; obtain ⟨rfl, rfl, _, rfl⟩ := h
      have he := eqN_eq he
      subst he
      exact ⟨rfl, _, hyes u, ⟨[u, .bool true], rfl, dvSV_none hu, rfl, trivial⟩⟩
    · simp only [plain, OpRes.ok.injEq] at h; obtain ⟨rfl, rfl, _, rfl⟩ := h
      exact ⟨rfl, _, hno T' u (eqN_ne he), hany⟩
  | val v =>
    simp only [SVRel] at hx
    subst hx
    cases vx with
    | iface T' u =>
      have h : (bif eqN T' T then OpRes.bad else plain (.tup [.any, .bool .f])) = OpRes.ok sv upd rd obl := h
      rcases cond_eq h with ⟨he, h⟩ | ⟨he, h⟩
      · cases h
      · simp only [plain, OpRes.ok.injEq] at h; obtain ⟨rfl, rfl, _, rfl⟩ := h
        exact ⟨rfl, _, hno T' u (eqN_ne he), hany⟩
    | nilIface =>
      simp only [plain, OpRes.ok.injEq] at h; obtain ⟨rfl, rfl, _, rfl⟩ := h
      exact ⟨rfl, _, hnil, hany⟩
    | _ => simp at h
  | _ => simp at h

theorem map_parts (parts : Array (Nat × Operand)) (ρ : Operand → Value) : (parts.map fun (i, x) => (i, ρ x)) = (parts.toList.map fun p => (p.1, ρ p.2)).toArray := by
  apply Array.ext'
  simp

theorem evOp_sound (hE : EOk P E) (H : Holds dl η G N get ob a w) {kn : List (Nat × Bool)} {d : Nat} {o : Oper} (hkn : KnOk o.op kn a) {sv : SV} {upd : Objs} {rd : List Nat} {obl : Obl}
    (h : evOp E d kn get ob o.op = .ok sv upd rd obl) (ho : obl.holds) : OpOk P o a η G w ob sv upd := by
  cases hop : o.op with
  | move x | assign x =>
    rw [hop] at h
    simp only [evOp, plain, OpRes.ok.injEq] at h; obtain ⟨rfl, rfl, _, rfl⟩ := h
    exact ⟨.value (a.eval x), a.eval x, η, G, w, by simp [execOp, hop], .inl rfl, After.pure H (opnd_rel H x)⟩
  | pick c x y =>
    rw [hop] at h hkn
    simp only [evOp] at h
    obtain ⟨rfl, b, hb, hr⟩ := evPick_rel H hkn h
    refine ⟨.value (if b then a.eval x else a.eval y), _, η, G, w, ?_, .inl rfl, After.pure H hr⟩
    simp [execOp, hop, hb, asBool]
  | alloc T =>
    rw [hop] at h
    simp only [evOp] at h
    exact opOk_of_val (by simp only [execOp, hop]) (sound_alloc (old := .tuple #[]) hE H h)
  | box T x =>
    rw [hop] at h
    simp only [evOp] at h
    exact opOk_of_val (by simp only [execOp, hop]) (sound_box H (opnd_rel H x) h)
  | build T parts =>
    rw [hop] at h
    simp only [evOp] at h
    exact opOk_of_looks H (by simp only [execOp, hop, map_parts]) (sound_build hE H h)
  | buildSlice T len parts =>
    rw [hop] at h
    simp only [evOp] at h
    exact opOk_of_val (by simp only [execOp, hop, map_parts]) (sound_buildSlice hE H h)
  | load T p =>
    rw [hop] at h
    simp only [evOp] at h
    exact opOk_of_looks H (by simp only [execOp, hop]) (sound_load hE H (opnd_rel H p) h)
  | store T p x =>
    rw [hop] at h
    simp only [evOp] at h
    obtain ⟨w', η', G', hr, hs⟩ := sound_storeO hE H (opnd_rel H p) (opnd_rel H x) h ho
    exact ⟨.skip, undef, η', G', w', by simp [execOp, hop, hr], .inr ⟨rfl, rfl⟩, hs⟩
  | nilCheck x =>
    rw [hop] at h
    simp only [evOp] at h
    obtain ⟨rfl, ⟨p, hp⟩, hr⟩ := sound_nilCheck H (opnd_rel H x) h
    rw [hp] at hr
    exact ⟨.value (.pointer (some p)), _, η, G, w, by simp [execOp, hop, hp], .inl rfl, After.pure H hr⟩
  | binOp op T x y U =>
    rw [hop] at h
    simp only [evOp] at h
    exact opOk_of_looks H (by simp only [execOp, hop]) (sound_bin (x := x) (y := y) hE (opnd_rel H x) (opnd_rel H y) h ho)
  | unOp op T x =>
    rw [hop] at h
    cases op <;> simp only [evOp] at h <;> first | cases h | skip
    all_goals first
      | exact opOk_of_looks H (by simp only [execOp, hop]) (sound_not (opnd_rel H x) h)
      | exact opOk_of_looks H (by simp only [execOp, hop]) (sound_neg (opnd_rel H x) h)
  | convert s d x =>
    rw [hop] at h
    simp only [evOp] at h
    exact opOk_of_val (by simp only [execOp, hop]) (sound_conv hE H (opnd_rel H x) h ho)
  | makeMap T r =>
    rw [hop] at h
    cases r with
    | none =>
      simp only [evOp] at h
      exact opOk_of_val (by simp only [execOp, hop, Option.map_none]) (sound_makeMap hE H h)
    | some r => simp only [evOp] at h; cases h
  | makeInterface T x =>
    rw [hop] at h
    simp only [evOp] at h
    exact opOk_of_looks H (by simp only [execOp, hop]) (sound_ifc hE (opnd_rel H x) h)
  | typeAssert x U T c =>
    rw [hop] at h
    cases c with
    | true =>
      simp only [evOp] at h
      exact opOk_of_looks H (by simp only [execOp, hop]) (sound_assert (U := U) hE (opnd_rel H x) h)
    | false => simp only [evOp] at h; cases h
  | lookup T m k c =>
    rw [hop] at h
    cases c with
    | false =>
      simp only [evOp] at h
      exact opOk_of_looks H (by simp only [execOp, hop]) (sound_lookup hE H (opnd_rel H m) (opnd_rel H k) h ho)
    | true => simp only [evOp] at h; cases h
  | mapUpdate T m k v =>
    rw [hop] at h
    simp only [evOp] at h
    obtain ⟨w', η', G', hr, hs⟩ := sound_mapUpdate hE H (opnd_rel H m) (opnd_rel H k) (opnd_rel H v) h ho
    exact ⟨.skip, undef, η', G', w', by simp [execOp, hop, hr], .inr ⟨rfl, rfl⟩, hs⟩
  | fieldAddr S p f =>
    rw [hop] at h
    simp only [evOp] at h
    exact opOk_of_looks H (by simp only [execOp, hop]) (sound_fieldAddr hE (opnd_rel H p) H h)
  | indexAddr T x i =>
    rw [hop] at h
    simp only [evOp] at h
    exact opOk_of_looks H (by simp only [execOp, hop]) (sound_indexAddrR hE H (opnd_rel H x) (opnd_rel H i) h ho)
  | index T x i =>
    rw [hop] at h
    simp only [evOp] at h
    exact opOk_of_looks H (by simp only [execOp, hop]) (sound_index hE (opnd_rel H x) (opnd_rel H i) h ho)
  | extract t i =>
    rw [hop] at h
    simp only [evOp] at h
    exact opOk_of_looks H (by simp only [execOp, hop]) (sound_extract (opnd_rel H t) h)
  | slice T x lo hi mx =>
    rw [hop] at h
    simp only [evOp] at h
    exact opOk_of_looks H (by simp only [execOp, hop]) (sound_sliceR hE (opnd_rel H x) (optSV_rel H lo) (optSV_rel H hi) (optSV_rel H mx) h ho)
  | makeFunc fn first caps =>
    rw [hop] at h
    cases fn with
    | func f =>
     simp only [evOp] at h
     split at h
     · rename_i hf
       cases hlt : ltN f 4096 with
       | false => rw [hlt] at h; cases h
       | true =>
       rw [hlt] at h
       simp only [cond_true] at h
       simp only [plain, OpRes.ok.injEq] at h; obtain ⟨rfl, rfl, _, rfl⟩ := h
       have hf0 : first = #[] := by apply Array.ext'; simpa using hf
       subst hf0
       refine ⟨.value (.func (.func f) #[] (caps.map a.eval)), _, η, G, w, by simp [execOp, hop, Instr.makeFunc], .inl rfl, After.pure H ?_⟩
       simp only [SVRel]
       refine ⟨caps.toList.map a.eval, ?_, SVRels.map H caps.toList⟩
       rw [fnV_lt (of_decide_eq_true hlt)]
       simp
       apply Array.ext'; simp
     · rename_i l hl0
       cases hlt : ltN f 4096 with
       | false => rw [hlt] at h; cases h
       | true =>
       rw [hlt] at h
       simp only [cond_true] at h
       simp only [plain, OpRes.ok.injEq] at h; obtain ⟨rfl, rfl, _, rfl⟩ := h
       have hlt : f < 4096 := of_decide_eq_true hlt
       refine ⟨.value (.func (.func f) (first.map a.eval) (caps.map a.eval)), _, η, G, w, by simp [execOp, hop, Instr.makeFunc], .inl rfl, After.pure H ?_⟩
       simp only [SVRel]
       refine ⟨(first.toList ++ caps.toList).map a.eval, ?_, SVRels.map H (first.toList ++ caps.toList)⟩
       have e0 : ∀ f n : Nat, f < 4096 → (f + 4096 * n) % 4096 = f ∧ (f + 4096 * n) / 4096 = n := fun f n h => ⟨by omega, by omega⟩
       obtain ⟨e1, e2⟩ := e0 f first.toList.length hlt
       unfold fnV
       rw [e1, e2]
       have e3 : ((first.toList ++ caps.toList).map a.eval).take first.toList.length = first.toList.map a.eval := by
         rw [List.map_append]; exact List.take_left' (by simp)
       have e4 : ((first.toList ++ caps.toList).map a.eval).drop first.toList.length = caps.toList.map a.eval := by
         rw [List.map_append]; exact List.drop_left' (by simp)
       rw [e3, e4]
       congr 1 <;> (apply Array.ext'; simp)
    | _ => simp only [evOp] at h; cases h
  | call c =>
    rw [hop] at h
    obtain ⟨callee, args, types⟩ := c
    cases callee with
    | builtin b =>
      simp only [evOp] at h
      unfold evBuiltin at h
      split at h
      · rename_i x y hargs
        have ha : args = #[x, y] := by apply Array.ext'; simpa using hargs
        subst ha
        split at h
        · rename_i T U htypes
          have ht : types = #[T, U] := by apply Array.ext'; simpa using htypes
          subst ht
          rcases cond_eq h with ⟨hTU, h2⟩ | ⟨_, h2⟩
          · have hTU := eqN_eq hTU
            subst hTU
            exact opOk_of_val (s := Builtin.append_ #[T, T] o.type #[a.eval x, a.eval y]) (by simp [execOp, hop, resolve, invoke, builtin]) (sound_append hE H (opnd_rel H x) (opnd_rel H y) h2 ho)
          · exact opOk_of_val (s := Builtin.append_ #[T, U] o.type #[a.eval x, a.eval y]) (by simp [execOp, hop, resolve, invoke, builtin]) (sound_appendStr hE H (opnd_rel H x) (opnd_rel H y) h2 ho)
        · cases h
      · rename_i x hargs
        have ha : args = #[x] := by apply Array.ext'; simpa using hargs
        subst ha
        exact opOk_of_looks H (s := Builtin.len_ types o.type #[a.eval x]) (by simp [execOp, hop, resolve, invoke, builtin]) (sound_lenR hE H (opnd_rel H x) h)
      · rename_i x hargs
        have ha : args = #[x] := by apply Array.ext'; simpa using hargs
        subst ha
        exact opOk_of_looks H (s := Builtin.cap_ types o.type #[a.eval x]) (by simp [execOp, hop, resolve, invoke, builtin]) (sound_capR hE (opnd_rel H x) h)
      · rename_i x y hargs
        have ha : args = #[x, y] := by apply Array.ext'; simpa using hargs
        subst ha
        exact opOk_of_looks H (s := Builtin.max2 (a.eval x) (a.eval y)) (by simp [execOp, hop, resolve, invoke, builtin, Builtin.max_]) (sound_minMax (opnd_rel H x) (opnd_rel H y) h)
      · rename_i x y hargs
        have ha : args = #[x, y] := by apply Array.ext'; simpa using hargs
        subst ha
        exact opOk_of_looks H (s := Builtin.min2 (a.eval x) (a.eval y)) (by simp [execOp, hop, resolve, invoke, builtin, Builtin.min_]) (sound_minMax (mx := false) (opnd_rel H x) (opnd_rel H y) h)
      · cases h
    | value f => simp only [evOp] at h; cases h
    | invoke r m => simp only [evOp] at h; cases h
  | _ => rw [hop] at h; simp only [evOp] at h; cases h
end
end Go.SX

