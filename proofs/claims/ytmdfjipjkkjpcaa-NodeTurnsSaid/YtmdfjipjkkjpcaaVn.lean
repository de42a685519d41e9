/- Texts put together: Ea, Wu, Eb, Ba, Bb, Bc, Bd, Ws. -/
import Derived.Test.YtmdfjipjkkjpcaaVm
import Derived.Test.YtmdfjipjkkjpcaaVl
/- The book's lists of entries: marks, and what is put behind (plain law). -/
namespace Go.Proofs.Ytmdfjipjkkjpcaa
open Go.SX

def pg (i k : Nat) : Value := .int .u32 (IntKind.u32.wrap ((i : Int) * 1000 + (k : Int) + 7000000))
def pg' (i k : Nat) : Value := .int .u32 (IntKind.u32.wrap ((-1 - (i : Int)) * 1000 + (k : Int) + 7000000))
def elE (v : Value) : List Value := [nilV, nilV, v, .int .u32 0]
theorem elE_len (v : Value) : (elE v).length = 4 := rfl
theorem elE_2 (v : Value) : (elE v)[2]? = some v := rfl
/-- A list's third cells, with one more element put at place q. -/
theorem put4_other {cs new : List Value} {q k : Nat} (hn : new.length = 4) (hq : q * 4 ≤ cs.length) (hk : k ≠ q) : (cs.take (q * 4) ++ new ++ cs.drop (q * 4 + 4))[k * 4 + 2]? = cs[k * 4 + 2]? := by
  by_cases e : k < q
  · rw [List.append_assoc, List.getElem?_append_left (by rw [List.length_take]; omega), List.getElem?_take, if_pos (by omega)]
  · rw [List.getElem?_append_right (by simp only [List.length_append, List.length_take]; omega), List.getElem?_drop]
    congr 1
    simp only [List.length_append, List.length_take]; omega
theorem put4_same {cs : List Value} {v : Value} {q : Nat} (hq : q * 4 ≤ cs.length) : (cs.take (q * 4) ++ elE v ++ cs.drop (q * 4 + 4))[q * 4 + 2]? = some v := by
  rw [List.append_assoc, List.getElem?_append_right (by rw [List.length_take]; omega), List.length_take, Nat.min_eq_left hq, show q * 4 + 2 - q * 4 = 2 by omega]
  rfl
theorem put4_len {cs new : List Value} {q : Nat} (hn : new.length = 4) (hq : q * 4 + 4 ≤ cs.length) : (cs.take (q * 4) ++ new ++ cs.drop (q * 4 + 4)).length = cs.length := by
  simp only [List.length_append, List.length_take, List.length_drop]; omega

def MarkE (H : Mem) (i : Nat) (h : Value) (n m : Nat) : Prop := (h = nilV ∧ n = 0) ∨ ∃ b c cs, h = .slice (some ⟨b, 0, none⟩) n c ∧ (b, 74, cs) ∈ H ∧ cs.length = c * 4 ∧ n ≤ c ∧ c ≤ maxLen ∧ ∀ k, k < m → cs[k * 4 + 2]? = some (pg i k)
/-- The book's lists of entries. -/
structure EkAt (ns : List Nat) (H : Mem) (bb : Nat) (tc : List Value) (hd : Value) (hs : List Value) (c : Nat) : Prop where
  top : topQ bb tc H
  bank : SlM H 22 1 hd ns.length c hs
  len : hs.length = ns.length
  lis : ∀ i, i < ns.length → MarkE H i (hs.getD i nilV) (ns.getD i 0) 0
  dist : (hs.filterMap Value.ownBlock).Nodup
structure MarksE (ns : List Nat) (bb : Nat) (tc : List Value) (hd : Value) (hs : List Value) (c i k : Nat) (H : Mem) : Prop where
  top : topQ bb tc H
  bank : SlM H 22 1 hd ns.length c hs
  len : hs.length = ns.length
  lis : ∀ j, j < ns.length → MarkE H j (hs.getD j nilV) (ns.getD j 0) (upTo ns i k j)
  dist : (hs.filterMap Value.ownBlock).Nodup

theorem marksE_0 {ns : List Nat} {H : Mem} {bb c : Nat} {tc : List Value} {hd : Value} {hs : List Value} (hB : EkAt ns H bb tc hd hs c) : MarksE ns bb tc hd hs c 0 0 H :=
  ⟨hB.top, hB.bank, hB.len, fun j hj => by
    have e : upTo ns 0 0 j = 0 := by unfold upTo; split <;> (try split) <;> omega
    rw [e]; exact hB.lis j hj, hB.dist⟩
theorem marksE_next {ns : List Nat} {bb c i : Nat} {hd : Value} {hs tc : List Value} {H : Mem} (h : MarksE ns bb tc hd hs c i (ns.getD i 0) H) : MarksE ns bb tc hd hs c (i + 1) 0 H :=
  ⟨h.top, h.bank, h.len, fun j hj => by
    have := h.lis j hj
    have e : upTo ns (i + 1) 0 j = upTo ns i (ns.getD i 0) j := by
      unfold upTo
      by_cases h1 : j < i
      · rw [if_pos (by omega), if_pos h1]
      · by_cases h2 : j = i
        · subst h2; rw [if_pos (by omega), if_neg (by omega), if_pos rfl]
        · rw [if_neg (by omega), if_neg h1, if_neg h2]
          split <;> rfl
    rw [e]; exact this, h.dist⟩

/-- One mark more. -/
theorem marksE_put {ns : List Nat} {bb c i k b n cb : Nat} {hd : Value} {hs tc : List Value} {H : Mem} (h : MarksE ns bb tc hd hs c i k H) (hn : (H.map (·.1)).Nodup) (hi : i < ns.length) (hk : k < ns.getD i 0) (hb : hs.getD i nilV = .slice (some ⟨b, 0, none⟩) n cb) :
    ∃ cs, (b, 74, cs) ∈ H ∧ k * 4 + 4 ≤ cs.length ∧ MarksE ns bb tc hd hs c i (k + 1) (putB H b (cs.take (k * 4) ++ elE (pg i k) ++ cs.drop (k * 4 + 4))) := by
  rcases h.lis i hi with ⟨_, h0⟩ | ⟨b', c', cs, h1, h2, h3, h4, h5, h6⟩
  · omega
  · have e : b' = b := by rw [h1] at hb; cases hb; rfl
    subst e
    have hkc : k * 4 + 4 ≤ cs.length := by omega
    have hup : upTo ns i k i = k := by unfold upTo; rw [if_neg (by omega), if_pos rfl]
    rw [hup] at h6
    refine ⟨cs, h2, hkc, ⟨?_, ?_, h.len, fun j hj => ?_, h.dist⟩⟩
    · obtain ⟨r, hr⟩ := h.top
      have hne : bb ≠ b' := fun e => by
        have := mem_eq hn (p := (bb, 61, tc)) (by rw [hr]; exact List.mem_cons_self) h2 e
        simp at this
      exact ⟨putB r b' _, by rw [hr]; unfold putB; rw [List.map_cons, if_neg hne]⟩
    · rcases h.bank with q | ⟨b2, cs2, q1, q2, q3⟩
      · exact .inl q
      · exact .inr ⟨b2, cs2, q1, putB_other q2 fun e => by
          have := mem_eq hn q2 h2 e
          simp at this, q3⟩
    · by_cases e : j = i
      · subst e
        have hup' : upTo ns j (k + 1) j = k + 1 := by unfold upTo; rw [if_neg (by omega), if_pos rfl]
        rw [hup']
        refine .inr ⟨b', c', _, h1, putB_mem h2, by rw [put4_len (elE_len _) hkc]; exact h3, h4, h5, fun q hq => ?_⟩
        by_cases e2 : q = k
        · subst e2; exact put4_same (by omega)
        · rw [put4_other (elE_len _) (by omega) e2]; exact h6 q (by omega)
      · have hup' : upTo ns i (k + 1) j = upTo ns i k j := by unfold upTo; split <;> simp [e]
        rw [hup']
        rcases h.lis j hj with q | ⟨b2, c2, cs2, q1, q2, q3, q4, q5, q6⟩
        · exact .inl q
        · refine .inr ⟨b2, c2, cs2, q1, putB_other q2 fun e2 => e ?_, q3, q4, q5, q6⟩
          have e2 : b2 = b' := e2
          subst e2
          exact own_inj h.dist (by rw [h.len]; exact hj) (by rw [h.len]; exact hi) (b := b2) (by rw [q1]; rfl) (by rw [h1]; rfl)

/-- What stands at place k of list j, its own elements or those put behind. -/
def cellE (ns : List Nat) (j k : Nat) : Value := if k < ns.getD j 0 then pg j k else pg' j (k - ns.getD j 0)
def LE (ns : List Nat) (own : Nat → Nat) (H : Mem) (j : Nat) (h : Value) (n : Nat) : Prop :=
  (h = nilV ∧ n = 0) ∨ ∃ b c cs, h = .slice (some ⟨b, 0, none⟩) n c ∧ (b, 74, cs) ∈ H ∧ cs.length = c * 4 ∧ n ≤ c ∧ c ≤ maxLen ∧ own b = j ∧ ∀ k, k < n → cs[k * 4 + 2]? = some (cellE ns j k)
structure TwoE (ns : List Nat) (bb : Nat) (tc : List Value) (hd : Value) (hs : List Value) (c i nx : Nat) (lv x : Value) (H : Mem) : Prop where
  nd : (H.map (·.1)).Nodup
  top : topQ bb tc H
  bank : SlM H 22 1 hd ns.length c hs
  len : hs.length = ns.length
  apart : ∀ b, hd.ownBlock = some b → lv.ownBlock ≠ some b
  more : ∃ own cl ls, SlM H 22 1 lv i cl ls ∧ (∀ j, j < ns.length → LE ns own H j (hs.getD j nilV) (ns.getD j 0)) ∧ (∀ j, j < i → LE ns own H j (ls.getD j nilV) (ns.getD j 0 + 8)) ∧ LE ns own H i x nx

theorem LE.one {ns : List Nat} {own : Nat → Nat} {H : Mem} {j : Nat} {h : Value} {n : Nat} (hl : LE ns own H j h n) : h.oneCell' = true := by
  rcases hl with ⟨rfl, _⟩ | ⟨b, c, cs, rfl, _⟩ <;> rfl
theorem LE.keep {ns : List Nat} {own own' : Nat → Nat} {H H' : Mem} {j : Nat} {h : Value} {n : Nat} (hl : LE ns own H j h n) (hk : ∀ p ∈ H, p.2.1 = 74 → p ∈ H' ∧ own' p.1 = own p.1) : LE ns own' H' j h n := by
  rcases hl with h | ⟨b, c, cs, h1, h2, h3, h4, h5, h6, h7⟩
  · exact .inl h
  · exact .inr ⟨b, c, cs, h1, (hk _ h2 rfl).1, h3, h4, h5, by rw [(hk _ h2 rfl).2]; exact h6, h7⟩

theorem twoE_0 {ns : List Nat} {bb c : Nat} {hd : Value} {hs tc : List Value} {H : Mem} (h : MarksE ns bb tc hd hs c ns.length 0 H) (hn : (H.map (·.1)).Nodup) : TwoE ns bb tc hd hs c 0 0 nilV nilV H := by
  classical
  refine ⟨hn, h.top, h.bank, h.len, fun b _ => by simp [nilV, Value.ownBlock], fun b => if hb : ∃ j, j < hs.length ∧ (hs.getD j nilV).ownBlock = some b then hb.choose else 0, 0, [], .inl ⟨rfl, rfl, rfl, rfl⟩, fun j hj => ?_, fun j hj => absurd hj (by omega), .inl ⟨rfl, rfl⟩⟩
  rcases h.lis j hj with h1 | ⟨b, c', cs, h1, h2, h3, h4, h5, h6⟩
  · exact .inl h1
  · refine .inr ⟨b, c', cs, h1, h2, h3, h4, h5, ?_, fun k hk => ?_⟩
    · have hb : ∃ j, j < hs.length ∧ (hs.getD j nilV).ownBlock = some b := ⟨j, by rw [h.len]; exact hj, by rw [h1]; rfl⟩
      show (if hb : ∃ j, j < hs.length ∧ (hs.getD j nilV).ownBlock = some b then hb.choose else 0) = j
      rw [dif_pos hb]
      have := hb.choose_spec
      exact own_inj h.dist this.1 (by rw [h.len]; exact hj) this.2 (by rw [h1]; rfl)
    · unfold cellE
      rw [if_pos hk]
      exact h6 k (by unfold upTo; rw [if_pos hj]; exact hk)
theorem twoE_begin {ns : List Nat} {bb c i nx : Nat} {hd lv x : Value} {hs tc : List Value} {H : Mem} (h : TwoE ns bb tc hd hs c i nx lv x H) (hi : i < ns.length) : TwoE ns bb tc hd hs c i (ns.getD i 0) lv (hs.getD i nilV) H := by
  obtain ⟨own, cl, ls, h1, h2, h3, _⟩ := h.more
  exact ⟨h.nd, h.top, h.bank, h.len, h.apart, own, cl, ls, h1, h2, h3, h2 i hi⟩

theorem twoE_app {ns : List Nat} {bb c i nx : Nat} {hd lv x : Value} {hs tc : List Value} {H : Mem} (h : TwoE ns bb tc hd hs c i nx lv x H) :
    ∃ cx xs, SlM H 74 4 x nx cx xs ∧ ∀ x' H', App H 74 4 x nx cx 1 xs (elE (cellE ns i nx)) x' H' → TwoE ns bb tc hd hs c i (nx + 1) lv x' H' := by
  obtain ⟨own, cl, ls, h1, h2, h3, h4⟩ := h.more
  have out : ∀ {cx : Nat} {xs : List Value} {x' : Value} {H' : Mem} (own' : Nat → Nat), App H 74 4 x nx cx 1 xs (elE (cellE ns i nx)) x' H' → (∀ j v n, LE ns own H j v n → LE ns own' H' j v n) → LE ns own' H' i x' (nx + 1) → TwoE ns bb tc hd hs c i (nx + 1) lv x' H' := by
    intro cx xs x' H' own' hA hk hx
    have k27 : ∀ {va : Value} {n c : Nat} {us : List Value}, SlM H 22 1 va n c us → SlM H' 22 1 va n c us := by
      rintro va n c us (q | ⟨b2, cs2, q1, q2, q3⟩)
      · exact .inl q
      · exact .inr ⟨b2, cs2, q1, app_keep hA h.nd q2 (by show (22 : Nat) ≠ 74; decide), q3⟩
    obtain ⟨r, hr⟩ := h.top
    exact ⟨hA.1, app_top hA h.nd hr (by show (61 : Nat) ≠ 74; decide), k27 h.bank, h.len, h.apart, own', cl, ls, k27 h1, fun j hj => hk _ _ _ (h2 j hj), fun j hj => hk _ _ _ (h3 j hj), hx⟩
  have grow : ∀ {cx : Nat} {xs : List Value} {x' : Value} {H' : Mem}, App H 74 4 x nx cx 1 xs (elE (cellE ns i nx)) x' H' → xs.length = nx * 4 → (∀ k, k < nx → xs[k * 4 + 2]? = some (cellE ns i k)) → (∃ g c' cs', g ∉ H.map (·.1) ∧ x' = .slice (some ⟨g, 0, none⟩) (nx + 1) c' ∧ H' = H ++ [(g, 74, cs')] ∧ nx + 1 ≤ c' ∧ c' ≤ maxLen ∧ cs'.length = c' * 4 ∧ cs'.take ((nx + 1) * 4) = xs ++ elE (cellE ns i nx)) → TwoE ns bb tc hd hs c i (nx + 1) lv x' H' := by
    intro cx xs x' H' hA hxl hxs ⟨g, c', cs', g1, g2, g3, g4, g5, g6, g7⟩
    refine out (fun b => if b = g then i else own b) hA (fun j v n hl => hl.keep fun p hp h5 => ⟨by rw [g3]; exact List.mem_append_left _ hp, if_neg fun (e : p.1 = g) => g1 (List.mem_map.2 ⟨p, hp, e⟩)⟩) (.inr ⟨g, c', cs', g2, by rw [g3]; simp, g6, g4, g5, if_pos rfl, fun k hk => ?_⟩)
    have e1 : cs'[k * 4 + 2]? = (cs'.take ((nx + 1) * 4))[k * 4 + 2]? := by rw [List.getElem?_take, if_pos (by omega)]
    rw [e1, g7]
    by_cases e : k < nx
    · rw [List.getElem?_append_left (by omega)]; exact hxs k e
    · have : k = nx := by omega
      subst this
      rw [List.getElem?_append_right (by omega), hxl, show k * 4 + 2 - k * 4 = 2 by omega]; rfl
  rcases h4 with ⟨q1, q2⟩ | ⟨b, cx, cs, q1, q2, q3, q4, q5, q6, q7⟩
  · refine ⟨0, [], .inl ⟨q1, q2, rfl, rfl⟩, fun x' H' hA => ?_⟩
    rcases hA.2 with ⟨r1, _⟩ | ⟨_, r⟩
    · omega
    · exact grow hA (by simp [q2]) (fun k hk => by omega) r
  · refine ⟨cx, cs.take (nx * 4), .inr ⟨b, cs, q1, q2, q3, q4, rfl⟩, fun x' H' hA => ?_⟩
    rcases hA.2 with ⟨r1, b', cs', r2, r3, r4, r5⟩ | ⟨_, r⟩
    · have e1 : b' = b := by rw [q1] at r2; cases r2; rfl
      subst e1
      have e2 := mem_eq h.nd q2 r3 rfl
      simp only [Prod.mk.injEq, true_and] at e2
      subst e2
      rw [show (nx + 1) * 4 = nx * 4 + 4 by omega] at r5
      have hlen : (cs.take (nx * 4) ++ elE (cellE ns i nx) ++ cs.drop (nx * 4 + 4)).length = cx * 4 := by rw [put4_len (elE_len _) (by omega)]; exact q3
      have hcell : ∀ k, k < nx + 1 → (∀ k, k < nx → cs[k * 4 + 2]? = some (cellE ns i k)) → (cs.take (nx * 4) ++ elE (cellE ns i nx) ++ cs.drop (nx * 4 + 4))[k * 4 + 2]? = some (cellE ns i k) := fun k hk hq => by
        by_cases e : k = nx
        · subst e; exact put4_same (by omega)
        · rw [put4_other (elE_len _) (by omega) e]; exact hq k (by omega)
      refine out own hA (fun j v n hl => ?_) (.inr ⟨b', cx, _, r4, by rw [r5]; exact putB_mem q2, hlen, r1, q5, q6, fun k hk => hcell k hk q7⟩)
      rcases hl with hl | ⟨b2, c2, cs2, s1, s2, s3, s4, s5, s6, s7⟩
      · exact .inl hl
      · by_cases e : b2 = b'
        · subst e
          have e2 := mem_eq h.nd q2 s2 rfl
          simp only [Prod.mk.injEq, true_and] at e2
          subst e2
          have hji : i = j := by rw [← q6, ← s6]
          subst hji
          refine .inr ⟨b2, c2, _, s1, by rw [r5]; exact putB_mem q2, by rw [hlen, ← q3, s3], s4, s5, s6, fun k hk => ?_⟩
          by_cases e : k = nx
          · subst e; exact put4_same (by omega)
          · rw [put4_other (elE_len _) (by omega) e]; exact s7 k hk
        · exact .inr ⟨b2, c2, cs2, s1, by rw [r5]; exact putB_other s2 e, s3, s4, s5, s6, s7⟩
    · exact grow hA (by rw [List.length_take]; omega) (fun k hk => by rw [List.getElem?_take, if_pos (by omega)]; exact q7 k hk) r

theorem twoE_push {ns : List Nat} {bb c i : Nat} {hd lv x : Value} {hs tc : List Value} {H : Mem} (h : TwoE ns bb tc hd hs c i (ns.getD i 0 + 8) lv x H) :
    ∃ cl ls, SlM H 22 1 lv i cl ls ∧ ∀ lv' H', App H 22 1 lv i cl 1 ls [x] lv' H' → TwoE ns bb tc hd hs c (i + 1) 0 lv' nilV H' := by
  obtain ⟨own, cl, ls, h1, h2, h3, h4⟩ := h.more
  refine ⟨cl, ls, h1, fun lv' H' hA => ?_⟩
  have hk : ∀ j v n, LE ns own H j v n → LE ns own H' j v n := fun j v n hl => hl.keep fun p hp h5 => ⟨app_keep hA h.nd hp (by omega), rfl⟩
  obtain ⟨cl', hsl⟩ := app_slm hA h.nd h1 (by simp)
  obtain ⟨r, hr⟩ := h.top
  have hll := slm_len h1
  refine ⟨hA.1, app_top hA h.nd hr (by show (61 : Nat) ≠ 22; decide), ?_, h.len, ?_, own, cl', ls ++ [x], hsl, fun j hj => hk _ _ _ (h2 j hj), fun j hj => ?_, .inl ⟨rfl, rfl⟩⟩
  · rcases h.bank with q | ⟨b2, cs2, q1, q2, q3⟩
    · exact .inl q
    · refine .inr ⟨b2, cs2, q1, ?_, q3⟩
      rcases hA.2 with ⟨_, b, cs, r2, _, _, rfl⟩ | ⟨_, g, c', cs', _, _, rfl, _⟩
      · exact putB_other q2 fun e => h.apart b2 (by rw [q1]; rfl) (by rw [r2, show b2 = b from e]; rfl)
      · exact List.mem_append_left _ q2
  · intro b hb hb'
    rcases hA.2 with ⟨_, b2, cs, r2, _, rfl, _⟩ | ⟨_, g, c', cs', g1, rfl, _⟩
    · exact h.apart b hb (by rw [r2]; exact hb')
    · have : g = b := by simpa [Value.ownBlock] using hb'
      subst this
      exact g1 (slm_blk h.bank hb)
  · by_cases e : j < i
    · rw [List.getD_eq_getElem?_getD, List.getElem?_append_left (by omega), ← List.getD_eq_getElem?_getD]
      exact hk _ _ _ (h3 j e)
    · have : j = i := by omega
      subst this
      rw [List.getD_eq_getElem?_getD, List.getElem?_append_right (by omega), hll]
      simpa using hk _ _ _ h4
theorem le_at {ns : List Nat} {own : Nat → Nat} {H : Mem} {j n k : Nat} {h : Value} (hl : LE ns own H j h n) (hk : k < n) : ∃ b c cs, h = .slice (some ⟨b, 0, none⟩) n c ∧ (b, 74, cs) ∈ H ∧ cs[k * 4 + 2]? = some (cellE ns j k) := by
  rcases hl with ⟨_, rfl⟩ | ⟨b, c, cs, h1, h2, _, _, _, _, h7⟩
  · omega
  · exact ⟨b, c, cs, h1, h2, h7 k hk⟩
end Go.Proofs.Ytmdfjipjkkjpcaa

/- The book's lists of bytes: the raw operations of ownBytes. -/
namespace Go.Proofs.Ytmdfjipjkkjpcaa
open Go.SX

def ptrOf : Value → Option Addr
  | .slice p _ _ => p
  | _ => none
def capOf : Value → Nat
  | .slice _ _ c => c
  | _ => 0
def blkOf (v : Value) : Nat := match ptrOf v with
  | some a => a.block
  | none => 0
/-- A slice of so many elements, off its block's beginning. -/
def Shp (v : Value) (n : Nat) : Prop := v = .slice (ptrOf v) n (capOf v) ∧ (0 < n → v = .slice (some ⟨blkOf v, 0, none⟩) n (capOf v))
theorem Shp.nil : Shp nilV 0 := ⟨rfl, fun h => absurd h (by omega)⟩
theorem Shp.blk {b n c : Nat} : Shp (.slice (some ⟨b, 0, none⟩) n c) n := ⟨rfl, fun _ => rfl⟩
theorem SlM.shp {H : Mem} {e s n c : Nat} {va : Value} {xs : List Value} (h : SlM H e s va n c xs) : Shp va n := by
  rcases h with ⟨rfl, rfl, _⟩ | ⟨b, cs, rfl, _⟩
  · exact .nil
  · exact .blk
theorem LA.shp {ns : List Nat} {own : Nat → Nat} {H : Mem} {j n : Nat} {h : Value} (hl : LA ns own H j h n) : Shp h n := by
  rcases hl with ⟨rfl, rfl⟩ | ⟨b, c, cs, rfl, _⟩
  · exact .nil
  · exact .blk
theorem MarkAt.shp {H : Mem} {i n m : Nat} {h : Value} (hl : MarkAt H i h n m) : Shp h n := by
  rcases hl with ⟨rfl, rfl⟩ | ⟨b, c, cs, rfl, _⟩
  · exact .nil
  · exact .blk
theorem Shp.one {v : Value} {n : Nat} (h : Shp v n) : v.oneCell' = true := by rw [h.1]; rfl

section
variable {v0 : Value} {H : Mem}

theorem len_c {T e n : Nat} {v : Value} (ht : Try.prog.underlying T = some (.slice e)) (hv : Shp v n) :
    ConG (rawC 4 T) [.rv 1000 fun _ => v] [(1000, .cust none (fun _ => memΦ v0 H))] Unit (fun _ => .int .i64 (.s fun _ => (n : Int))) (fun _ => [(1000, .cust none (fun _ => memΦ v0 H))]) :=
  ⟨mem_len ht (.inl (by rw [← hv.1]))⟩
theorem idx_c {T e n i : Nat} {te : TI} {v : Value} {z : Int} (ht : Try.prog.underlying T = some (.slice e)) (he : tiN e = some te) (h1 : te.size = 1) (hv : Shp v n) (hi : i < n) (hz : z = (i : Int)) :
    ConG (rawC 2 T) [.rv 1000 fun _ => v, .int .i64 (.s fun _ => z)] [(1000, .cust none (fun _ => memΦ v0 H))] Unit (fun _ => .rv 1000 fun _ => .pointer (some ⟨blkOf v, i, none⟩)) (fun _ => [(1000, .cust none (fun _ => memΦ v0 H))]) := by
  have h := mem_idx eok (H := H) (v0 := v0) (a := .rv 1000 fun _ => v) (n := n) (c := capOf v) (b := blkOf v) (o := 0) (i := i) ht he (.inl (by rw [← hv.2 (by omega)])) hz hi
  rw [h1, show 0 + i * 1 = i by omega] at h
  exact ⟨h⟩
theorem conG_map {f : Nat} {svs : List SV} {objs : Objs} {X Y : Type} {r : X → SV} {o : X → Objs} {r' : Y → SV} {o' : Y → Objs} (h : ConG f svs objs X r o) (g : X → Y) (hr : ∀ x, r x = r' (g x)) (ho : ∀ x, o x = o' (g x)) : ConG f svs objs Y r' o' :=
  ⟨fun η G vs w h1 h2 h3 => (h.1 η G vs w h1 h2 h3).mono fun _ _ ⟨x, η', G', q1, q2, q3⟩ => ⟨g x, η', G', hr x ▸ q1, ho x ▸ q2, q3⟩⟩

theorem bload_c {n c i : Nat} {va u : Value} {xs : List Value} (h : SlM H 27 1 va n c xs) (hi : i < n) (hu : u = xs.getD i nilV) (h1 : u.oneCell' = true) :
    ConG (rawC 0 27) [.rv 1000 fun _ => .pointer (some ⟨blkOf va, i, none⟩)] [(1000, .cust none (fun _ => memΦ v0 H))] Unit (fun _ => .rv 1000 fun _ => u) (fun _ => [(1000, .cust none (fun _ => memΦ v0 H))]) := by
  obtain ⟨b, cs, q1, q2, q3⟩ := slm_at h hi
  subst q1
  exact ⟨mem_load eok (T := 27) (b := b) (o := i) (u := u) (a := .rv 1000 fun _ => .pointer (some ⟨b, i, none⟩)) (r := .rv 1000 fun _ => u) (.inl rfl) rfl rfl q2 (by rw [q3, hu]) fun η G w => ⟨rfl, h1⟩⟩
theorem byte_c {ns : List Nat} {own : Nat → Nat} {n j k : Nat} {h : Value} {E : Int} (hl : LA ns own H j h n) (hk : k < n) (hE : cellAt ns j k = .int .u8 E) :
    ConG (rawC 0 5) [.rv 1000 fun _ => .pointer (some ⟨blkOf h, k, none⟩)] [(1000, .cust none (fun _ => memΦ v0 H))] Unit (fun _ => .int .u8 (.s fun _ => E)) (fun _ => [(1000, .cust none (fun _ => memΦ v0 H))]) := by
  obtain ⟨b, c, cs, q1, q2, q3⟩ := la_at hl hk
  subst q1
  exact ⟨mem_load eok (T := 5) (b := b) (o := k) (u := .int .u8 E) (a := .rv 1000 fun _ => .pointer (some ⟨b, k, none⟩)) (r := .int .u8 (.s fun _ => E)) (.inl rfl) rfl rfl q2 (by rw [q3, hE]) fun η G w => by simp [SVRel]⟩
theorem mark_c {ns : List Nat} {bb c i k n : Nat} {hd v : Value} {hs tc : List Value} {K : Mem} (h : Marks ns bb tc K hd hs c i k H) (hn : (H.map (·.1)).Nodup) (hi : i < ns.length) (hne : n = ns.getD i 0) (hk : k < n) (hv : v = hs.getD i nilV) :
    ConG (rawC 1 5) [.rv 1000 fun _ => .pointer (some ⟨blkOf v, k, none⟩), .int .u8 (.s fun _ => IntKind.u8.wrap ((i : Int) * 97 + (k : Int) * 13))] [(1000, .cust none (fun _ => memΦ v0 H))]
      {H' : Mem // Marks ns bb tc K hd hs c i (k + 1) H' ∧ (H'.map (·.1)).Nodup} (fun _ => .any) (fun y => [(1000, .cust none (fun _ => memΦ v0 y.1))]) := by
  have hsh : Shp v n := by rw [hv, hne]; exact (h.lis i hi).shp
  obtain ⟨cs, m1, m2, m3⟩ := marks_put h hn hi (by omega) (hv.symm.trans (hsh.2 (by omega)))
  have r := ConG.mk (mem_store eok (T := 5) (b := blkOf v) (o := k) (H := H) (v0 := v0) (us := [mk i k]) (a := .rv 1000 fun _ => .pointer (some ⟨blkOf v, k, none⟩)) (x := .int .u8 (.s fun _ => IntKind.u8.wrap ((i : Int) * 97 + (k : Int) * 13))) (.inl rfl) rfl m1 (by simp; omega) rfl (by simp [mk, Value.oneCell'])
    (fun η G w v hv => by simp only [SVRel, IE.den_s] at hv; subst hv; rfl))
  exact conG_map r (fun _ => ⟨_, m3, by rw [putB_names]; exact hn⟩) (fun _ => rfl) (fun _ => rfl)
theorem app_c {ns : List Nat} {bb c i k n : Nat} {hd lv x : Value} {hs tc : List Value} {K : Mem} (h : Two ns bb tc K hd hs c i (n + k) lv x H) (hne : n = ns.getD i 0) (hb : n < 1000000000) (hk : k < 16) :
    ConG (rawC 3 27) [.rv 1000 fun _ => x, .csl 1001 1 1] [(1000, .cust none (fun _ => memΦ v0 H)), (1001, .cells 5 [.int .u8 (.s fun _ => IntKind.u8.wrap ((-1 - (i : Int)) * 97 + (k : Int) * 13))])]
      {y : Value × Mem // Two ns bb tc K hd hs c i (n + (k + 1)) lv y.1 y.2} (fun y => .rv 1000 fun _ => y.1.1) (fun y => [(1000, .cust none (fun _ => memΦ v0 y.1.2)), (1001, .dead)]) := by
  obtain ⟨i5, hi5, hz5, hs5, hb5⟩ := info5x
  obtain ⟨cx, xs, old, step⟩ := two_app h
  have hcell : cellAt ns i (n + k) = mk' i k := by
    unfold cellAt
    rw [← hne, if_neg (by omega), show n + k - n = k by omega]
  rw [hcell] at step
  have r := ConG.mk (mem_app (T := 27) (e := 5) (s := 1) (H := H) (v0 := v0) (va := x) (n := n + k) (c := cx) (xs := xs) (news := [mk' i k]) (cells := [.int .u8 (.s fun _ => IntKind.u8.wrap ((-1 - (i : Int)) * 97 + (k : Int) * 13))]) Try.underlying27 hi5 hz5 (by rw [hs5]; rfl) hs5 (by decide) (by omega) old rfl (by simp [mk', Value.oneCell'])
    (fun η G w us hus => by
      match us, hus with
      | [u], hus =>
        have h : SVRel η G w (.int .u8 (.s fun _ => IntKind.u8.wrap ((-1 - (i : Int)) * 97 + (k : Int) * 13))) u := hus.1
        simp only [SVRel, IE.den_s] at h; subst h; rfl
      | [], h => exact h.elim
      | _ :: _ :: _, h => exact h.2.elim) (by rw [hb5]; omega))
  exact conG_map r (fun y => ⟨y.1, step _ _ y.2⟩) (fun _ => rfl) (fun _ => rfl)
theorem push_c {ns : List Nat} {bb c i n : Nat} {hd lv x : Value} {hs tc : List Value} {K : Mem} (h : Two ns bb tc K hd hs c i (n + 16) lv x H) (hne : n = ns.getD i 0) (hb : i < 1000000) :
    ConG (rawC 3 37) [.rv 1000 fun _ => lv, .csl 1001 1 1] [(1000, .cust none (fun _ => memΦ v0 H)), (1001, .cells 27 [.rv 1000 fun _ => x])]
      {y : Value × Mem // Two ns bb tc K hd hs c (i + 1) 0 y.1 nilV y.2} (fun y => .rv 1000 fun _ => y.1.1) (fun y => [(1000, .cust none (fun _ => memΦ v0 y.1.2)), (1001, .dead)]) := by
  obtain ⟨i27, hi27, hz27, hs27, hb27⟩ := info27x
  subst hne
  obtain ⟨cl, ls, old, step⟩ := two_push h
  have h1 : x.oneCell' = true := by
    obtain ⟨own, cl, ls, _, _, _, q⟩ := h.more
    exact q.one
  have r := ConG.mk (mem_app (T := 37) (e := 27) (s := 1) (H := H) (v0 := v0) (va := lv) (n := i) (c := cl) (xs := ls) (news := [x]) (cells := [.rv 1000 fun _ => x]) Try.underlying37 hi27 hz27 (by rw [hs27]; rfl) hs27 (by decide) (by omega) old rfl (by simpa using h1)
    (fun η G w us hus => by
      match us, hus with
      | [u], hus => rw [show u = x from hus.1.1]
      | [], h => exact h.elim
      | _ :: _ :: _, h => exact h.2.elim) (by rw [hb27]; omega))
  exact conG_map r (fun y => ⟨y.1, step _ _ y.2⟩) (fun _ => rfl) (fun _ => rfl)
/-- What is there behind pass 2. -/
def EndP (ns : List Nat) (hs : List Value) (H : Mem) (lv : Value) (nf : Nat → Nat) (hf lf : Nat → Value) : Prop :=
  ∃ own cl ls, SlM H 27 1 lv ns.length cl ls ∧ (∀ j, lf j = ls.getD j nilV) ∧ (∀ j, j < ns.length → LA ns own H j (hf j) (nf j)) ∧ ∀ j, j < ns.length → LA ns own H j (lf j) (nf j + 16)
theorem end_of {ns : List Nat} {bb c i : Nat} {hd lv x : Value} {hs tc : List Value} {K : Mem} {nf : Nat → Nat} {hf : Nat → Value} (h : Two ns bb tc K hd hs c i 0 lv x H) (hi : i = ns.length) (hnf : ∀ i, nf i = ns.getD i 0) (hhf : ∀ i, hf i = hs.getD i nilV) : ∃ lf, EndP ns hs H lv nf hf lf := by
  subst hi
  obtain ⟨own, cl, ls, h1, h2, h3, h4⟩ := h.more
  exact ⟨fun j => ls.getD j nilV, own, cl, ls, h1, fun _ => rfl, fun j hj => by rw [hhf, hnf]; exact h2 j hj, fun j hj => by rw [hnf]; exact h3 j hj⟩
section
variable {ns : List Nat} {hs : List Value} {lv : Value} {nf : Nat → Nat} {hf lf : Nat → Value}
theorem EndP.shpl (h : EndP ns hs H lv nf hf lf) : Shp lv ns.length := by obtain ⟨own, cl, ls, h1, _⟩ := h; exact SlM.shp h1
theorem EndP.shpf (h : EndP ns hs H lv nf hf lf) {j : Nat} (hj : j < ns.length) : Shp (lf j) (nf j + 16) := by obtain ⟨own, cl, ls, _, _, _, h4⟩ := h; exact (h4 j hj).shp
theorem end_load (h : EndP ns hs H lv nf hf lf) {j : Nat} (hj : j < ns.length) :
    ConG (rawC 0 27) [.rv 1000 fun _ => .pointer (some ⟨blkOf lv, j, none⟩)] [(1000, .cust none (fun _ => memΦ v0 H))] Unit (fun _ => .rv 1000 fun _ => lf j) (fun _ => [(1000, .cust none (fun _ => memΦ v0 H))]) := by
  obtain ⟨own, cl, ls, h1, h2, h3, h4⟩ := h
  exact bload_c h1 hj (h2 j) (h4 j hj).one
theorem end_own (h : EndP ns hs H lv nf hf lf) (hnf : ∀ i, nf i = ns.getD i 0) {j k : Nat} (hj : j < ns.length) (hk : k < nf j) :
    ConG (rawC 0 5) [.rv 1000 fun _ => .pointer (some ⟨blkOf (hf j), k, none⟩)] [(1000, .cust none (fun _ => memΦ v0 H))] Unit (fun _ => .int .u8 (.s fun _ => IntKind.u8.wrap ((j : Int) * 97 + (k : Int) * 13))) (fun _ => [(1000, .cust none (fun _ => memΦ v0 H))]) := by
  obtain ⟨own, cl, ls, h1, h2, h3, h4⟩ := h
  exact byte_c (h3 j hj) hk (by unfold cellAt; rw [← hnf, if_pos hk]; rfl)
theorem end_long (h : EndP ns hs H lv nf hf lf) (hnf : ∀ i, nf i = ns.getD i 0) {j k : Nat} (hj : j < ns.length) (hk : k < nf j) :
    ConG (rawC 0 5) [.rv 1000 fun _ => .pointer (some ⟨blkOf (lf j), k, none⟩)] [(1000, .cust none (fun _ => memΦ v0 H))] Unit (fun _ => .int .u8 (.s fun _ => IntKind.u8.wrap ((j : Int) * 97 + (k : Int) * 13))) (fun _ => [(1000, .cust none (fun _ => memΦ v0 H))]) := by
  obtain ⟨own, cl, ls, h1, h2, h3, h4⟩ := h
  exact byte_c (h4 j hj) (by omega) (by unfold cellAt; rw [← hnf, if_pos hk]; rfl)
theorem end_more (h : EndP ns hs H lv nf hf lf) (hnf : ∀ i, nf i = ns.getD i 0) {j k : Nat} (hj : j < ns.length) (hk : k < 16) :
    ConG (rawC 0 5) [.rv 1000 fun _ => .pointer (some ⟨blkOf (lf j), nf j + k, none⟩)] [(1000, .cust none (fun _ => memΦ v0 H))] Unit (fun _ => .int .u8 (.s fun _ => IntKind.u8.wrap ((-1 - (j : Int)) * 97 + (k : Int) * 13))) (fun _ => [(1000, .cust none (fun _ => memΦ v0 H))]) := by
  obtain ⟨own, cl, ls, h1, h2, h3, h4⟩ := h
  exact byte_c (h4 j hj) (by omega) (by unfold cellAt; rw [← hnf, if_neg (by omega), show nf j + k - nf j = k by omega]; rfl)
end
end
end Go.Proofs.Ytmdfjipjkkjpcaa

/- The book's lists of entries: the raw operations of ownEntries. -/
namespace Go.Proofs.Ytmdfjipjkkjpcaa
open Go.SX

theorem LE.shp {ns : List Nat} {own : Nat → Nat} {H : Mem} {j n : Nat} {h : Value} (hl : LE ns own H j h n) : Shp h n := by
  rcases hl with ⟨rfl, rfl⟩ | ⟨b, c, cs, rfl, _⟩
  · exact .nil
  · exact .blk
theorem MarkE.shp {H : Mem} {i n m : Nat} {h : Value} (hl : MarkE H i h n m) : Shp h n := by
  rcases hl with ⟨rfl, rfl⟩ | ⟨b, c, cs, rfl, _⟩
  · exact .nil
  · exact .blk
theorem info22x : ∃ i, Try.prog.info? 22 = some i ∧ i.zero = some (.slice none 0 0) ∧ i.size = 1 ∧ i.bytes = 24 := by
  have h := info22
  cases hi : Try.prog.info? 22 with
  | none => rw [hi] at h; cases h
  | some i =>
    rw [hi] at h
    simp only [Option.map_some, Option.some.injEq, Prod.mk.injEq] at h
    exact ⟨i, rfl, h.2.2, h.1, h.2.1⟩

section
variable {v0 : Value} {H : Mem}

theorem idx4_c {T e n i : Nat} {te : TI} {v : Value} {z : Int} (ht : Try.prog.underlying T = some (.slice e)) (he : tiN e = some te) (h1 : te.size = 4) (hv : Shp v n) (hi : i < n) (hz : z = (i : Int)) :
    ConG (rawC 2 T) [.rv 1000 fun _ => v, .int .i64 (.s fun _ => z)] [(1000, .cust none (fun _ => memΦ v0 H))] Unit (fun _ => .rv 1000 fun _ => .pointer (some ⟨blkOf v, i * 4, none⟩)) (fun _ => [(1000, .cust none (fun _ => memΦ v0 H))]) := by
  have h := mem_idx eok (H := H) (v0 := v0) (a := .rv 1000 fun _ => v) (n := n) (c := capOf v) (b := blkOf v) (o := 0) (i := i) ht he (.inl (by rw [← hv.2 (by omega)])) hz hi
  rw [h1, show 0 + i * 4 = i * 4 by omega] at h
  exact ⟨h⟩
theorem eload_c {n c i : Nat} {va u : Value} {xs : List Value} (h : SlM H 22 1 va n c xs) (hi : i < n) (hu : u = xs.getD i nilV) (h1 : u.oneCell' = true) :
    ConG (rawC 0 22) [.rv 1000 fun _ => .pointer (some ⟨blkOf va, i, none⟩)] [(1000, .cust none (fun _ => memΦ v0 H))] Unit (fun _ => .rv 1000 fun _ => u) (fun _ => [(1000, .cust none (fun _ => memΦ v0 H))]) := by
  obtain ⟨b, cs, q1, q2, q3⟩ := slm_at h hi
  subst q1
  exact ⟨mem_load eok (T := 22) (b := b) (o := i) (u := u) (a := .rv 1000 fun _ => .pointer (some ⟨b, i, none⟩)) (r := .rv 1000 fun _ => u) (.inl rfl) rfl rfl q2 (by rw [q3, hu]) fun η G w => ⟨rfl, h1⟩⟩
theorem field_c {b o : Nat} : ConG (rawC 8 (74 * 32 + 2)) [.rv 1000 fun _ => .pointer (some ⟨b, o, none⟩)] [(1000, .cust none (fun _ => memΦ v0 H))] Unit (fun _ => .rv 1000 fun _ => .pointer (some ⟨b, o + 2, none⟩)) (fun _ => [(1000, .cust none (fun _ => memΦ v0 H))]) :=
  ⟨mem_field eok (S := 74) (f := 2) (b := b) (o := o) (off := 2) (a := .rv 1000 fun _ => .pointer (some ⟨b, o, none⟩)) rfl rfl (by decide) (by decide) rfl (.inl rfl)⟩
theorem page_c {ns : List Nat} {own : Nat → Nat} {n j k : Nat} {h : Value} {E : Int} (hl : LE ns own H j h n) (hk : k < n) (hE : cellE ns j k = .int .u32 E) :
    ConG (rawC 0 72) [.rv 1000 fun _ => .pointer (some ⟨blkOf h, k * 4 + 2, none⟩)] [(1000, .cust none (fun _ => memΦ v0 H))] Unit (fun _ => .int .u32 (.s fun _ => E)) (fun _ => [(1000, .cust none (fun _ => memΦ v0 H))]) := by
  obtain ⟨b, c, cs, q1, q2, q3⟩ := le_at hl hk
  subst q1
  exact ⟨mem_load eok (T := 72) (b := b) (o := k * 4 + 2) (u := .int .u32 E) (a := .rv 1000 fun _ => .pointer (some ⟨b, k * 4 + 2, none⟩)) (r := .int .u32 (.s fun _ => E)) (.inl rfl) rfl rfl q2 (by rw [q3, hE]) fun η G w => by simp [SVRel]⟩
theorem agg_elE {z : Int} (η : OEnv) (G : Nat → Prop) (w : World) (v : Value) (hv : SVRel η G w (.agg [.nil, .nil, .int .u32 (.s fun _ => z), .int .u32 (.l 0)]) v) : v.cells.toList = elE (.int .u32 z) := by
  obtain ⟨vs, rfl, hv⟩ := hv
  match vs, hv with
  | [u1, u2, u3, u4], hv =>
    simp only [SVRels, SVRel, IE.den_l, IE.den_s] at hv
    obtain ⟨rfl, rfl, rfl, rfl, -⟩ := hv
    rfl
  | [], h => exact h.elim
  | [_], h => exact h.2.elim
  | [_, _], h => exact h.2.2.elim
  | [_, _, _], h => exact h.2.2.2.elim
  | _ :: _ :: _ :: _ :: _ :: _, h => exact h.2.2.2.2.elim
theorem cells_elE {z : Int} (η : OEnv) (G : Nat → Prop) (w : World) (us : List Value) (hv : SVRels η G w [.nil, .nil, .int .u32 (.s fun _ => z), .int .u32 (.l 0)] us) : us = elE (.int .u32 z) := by
  match us, hv with
  | [u1, u2, u3, u4], hv =>
    simp only [SVRels, SVRel, IE.den_l, IE.den_s] at hv
    obtain ⟨rfl, rfl, rfl, rfl, -⟩ := hv
    rfl
  | [], h => exact h.elim
  | [_], h => exact h.2.elim
  | [_, _], h => exact h.2.2.elim
  | [_, _, _], h => exact h.2.2.2.elim
  | _ :: _ :: _ :: _ :: _ :: _, h => exact h.2.2.2.2.elim
theorem elE_one (z : Int) : ∀ u ∈ elE (.int .u32 z), u.oneCell' = true := by simp [elE, nilV, Value.oneCell']
theorem markE_c {ns : List Nat} {bb c i k n : Nat} {hd v : Value} {hs tc : List Value} (h : MarksE ns bb tc hd hs c i k H) (hn : (H.map (·.1)).Nodup) (hi : i < ns.length) (hne : n = ns.getD i 0) (hk : k < n) (hv : v = hs.getD i nilV) :
    ConG (rawC 1 74) [.rv 1000 fun _ => .pointer (some ⟨blkOf v, k * 4, none⟩), .agg [.nil, .nil, .int .u32 (.s fun _ => IntKind.u32.wrap ((i : Int) * 1000 + (k : Int) + 7000000)), .int .u32 (.l 0)]] [(1000, .cust none (fun _ => memΦ v0 H))]
      {H' : Mem // MarksE ns bb tc hd hs c i (k + 1) H' ∧ (H'.map (·.1)).Nodup} (fun _ => .any) (fun y => [(1000, .cust none (fun _ => memΦ v0 y.1))]) := by
  have hsh : Shp v n := by rw [hv, hne]; exact (h.lis i hi).shp
  obtain ⟨cs, m1, m2, m3⟩ := marksE_put h hn hi (by omega) (hv.symm.trans (hsh.2 (by omega)))
  have r := ConG.mk (mem_store eok (T := 74) (b := blkOf v) (o := k * 4) (H := H) (v0 := v0) (us := elE (pg i k)) (a := .rv 1000 fun _ => .pointer (some ⟨blkOf v, k * 4, none⟩)) (.inl rfl) rfl m1 (by rw [elE_len]; exact m2) rfl (elE_one _) agg_elE)
  exact conG_map r (fun _ => ⟨_, m3, by rw [putB_names]; exact hn⟩) (fun _ => rfl) (fun _ => rfl)
theorem appE_c {ns : List Nat} {bb c i k n : Nat} {hd lv x : Value} {hs tc : List Value} (h : TwoE ns bb tc hd hs c i (n + k) lv x H) (hne : n = ns.getD i 0) (hb : n < 1000000000) (hk : k < 8) :
    ConG (rawC 3 22) [.rv 1000 fun _ => x, .csl 1001 4 1] [(1000, .cust none (fun _ => memΦ v0 H)), (1001, .cells 74 [.nil, .nil, .int .u32 (.s fun _ => IntKind.u32.wrap ((-1 - (i : Int)) * 1000 + (k : Int) + 7000000)), .int .u32 (.l 0)])]
      {y : Value × Mem // TwoE ns bb tc hd hs c i (n + (k + 1)) lv y.1 y.2} (fun y => .rv 1000 fun _ => y.1.1) (fun y => [(1000, .cust none (fun _ => memΦ v0 y.1.2)), (1001, .dead)]) := by
  obtain ⟨i5, hi5, hz5, hs5, hb5⟩ := info74x
  obtain ⟨cx, xs, old, step⟩ := twoE_app h
  have hcell : cellE ns i (n + k) = pg' i k := by
    unfold cellE
    rw [← hne, if_neg (by omega), show n + k - n = k by omega]
  rw [hcell] at step
  have r := ConG.mk (mem_app (T := 22) (e := 74) (s := 4) (H := H) (v0 := v0) (va := x) (n := n + k) (c := cx) (xs := xs) (news := elE (pg' i k)) Try.underlying22 hi5 hz5 (by rw [hs5]; rfl) hs5 (by decide) (by omega) old rfl (elE_one _) cells_elE (by rw [hb5]; omega))
  exact conG_map r (fun y => ⟨y.1, step _ _ y.2⟩) (fun _ => rfl) (fun _ => rfl)
theorem pushE_c {ns : List Nat} {bb c i n : Nat} {hd lv x : Value} {hs tc : List Value} (h : TwoE ns bb tc hd hs c i (n + 8) lv x H) (hne : n = ns.getD i 0) (hb : i < 1000) :
    ConG (rawC 3 53) [.rv 1000 fun _ => lv, .csl 1001 1 1] [(1000, .cust none (fun _ => memΦ v0 H)), (1001, .cells 22 [.rv 1000 fun _ => x])]
      {y : Value × Mem // TwoE ns bb tc hd hs c (i + 1) 0 y.1 nilV y.2} (fun y => .rv 1000 fun _ => y.1.1) (fun y => [(1000, .cust none (fun _ => memΦ v0 y.1.2)), (1001, .dead)]) := by
  obtain ⟨i27, hi27, hz27, hs27, hb27⟩ := info22x
  subst hne
  obtain ⟨cl, ls, old, step⟩ := twoE_push h
  have h1 : x.oneCell' = true := by
    obtain ⟨own, cl, ls, _, _, _, q⟩ := h.more
    exact q.one
  have r := ConG.mk (mem_app (T := 53) (e := 22) (s := 1) (H := H) (v0 := v0) (va := lv) (n := i) (c := cl) (xs := ls) (news := [x]) (cells := [.rv 1000 fun _ => x]) Try.underlying53 hi27 hz27 (by rw [hs27]; rfl) hs27 (by decide) (by omega) old rfl (by simpa using h1)
    (fun η G w us hus => by
      match us, hus with
      | [u], hus => rw [show u = x from hus.1.1]
      | [], h => exact h.elim
      | _ :: _ :: _, h => exact h.2.elim) (by rw [hb27]; omega))
  exact conG_map r (fun y => ⟨y.1, step _ _ y.2⟩) (fun _ => rfl) (fun _ => rfl)
/-- What is there behind pass 2. -/
def EndE (ns : List Nat) (H : Mem) (lv : Value) (nf : Nat → Nat) (hf lf : Nat → Value) : Prop :=
  ∃ own cl ls, SlM H 22 1 lv ns.length cl ls ∧ (∀ j, lf j = ls.getD j nilV) ∧ (∀ j, j < ns.length → LE ns own H j (hf j) (nf j)) ∧ ∀ j, j < ns.length → LE ns own H j (lf j) (nf j + 8)
theorem endE_of {ns : List Nat} {bb c i : Nat} {hd lv x : Value} {hs tc : List Value} {nf : Nat → Nat} {hf : Nat → Value} (h : TwoE ns bb tc hd hs c i 0 lv x H) (hi : i = ns.length) (hnf : ∀ i, nf i = ns.getD i 0) (hhf : ∀ i, hf i = hs.getD i nilV) : ∃ lf, EndE ns H lv nf hf lf := by
  subst hi
  obtain ⟨own, cl, ls, h1, h2, h3, h4⟩ := h.more
  exact ⟨fun j => ls.getD j nilV, own, cl, ls, h1, fun _ => rfl, fun j hj => by rw [hhf, hnf]; exact h2 j hj, fun j hj => by rw [hnf]; exact h3 j hj⟩
section
variable {ns : List Nat} {lv : Value} {nf : Nat → Nat} {hf lf : Nat → Value}
theorem EndE.shpl (h : EndE ns H lv nf hf lf) : Shp lv ns.length := by obtain ⟨own, cl, ls, h1, _⟩ := h; exact SlM.shp h1
theorem EndE.shpf (h : EndE ns H lv nf hf lf) {j : Nat} (hj : j < ns.length) : Shp (lf j) (nf j + 8) := by obtain ⟨own, cl, ls, _, _, _, h4⟩ := h; exact (h4 j hj).shp
theorem endE_load (h : EndE ns H lv nf hf lf) {j : Nat} (hj : j < ns.length) :
    ConG (rawC 0 22) [.rv 1000 fun _ => .pointer (some ⟨blkOf lv, j, none⟩)] [(1000, .cust none (fun _ => memΦ v0 H))] Unit (fun _ => .rv 1000 fun _ => lf j) (fun _ => [(1000, .cust none (fun _ => memΦ v0 H))]) := by
  obtain ⟨own, cl, ls, h1, h2, h3, h4⟩ := h
  exact eload_c h1 hj (h2 j) (h4 j hj).one
theorem endE_own (h : EndE ns H lv nf hf lf) (hnf : ∀ i, nf i = ns.getD i 0) {j k : Nat} (hj : j < ns.length) (hk : k < nf j) :
    ConG (rawC 0 72) [.rv 1000 fun _ => .pointer (some ⟨blkOf (hf j), k * 4 + 2, none⟩)] [(1000, .cust none (fun _ => memΦ v0 H))] Unit (fun _ => .int .u32 (.s fun _ => IntKind.u32.wrap ((j : Int) * 1000 + (k : Int) + 7000000))) (fun _ => [(1000, .cust none (fun _ => memΦ v0 H))]) := by
  obtain ⟨own, cl, ls, h1, h2, h3, h4⟩ := h
  exact page_c (h3 j hj) hk (by unfold cellE; rw [← hnf, if_pos hk]; rfl)
theorem endE_long (h : EndE ns H lv nf hf lf) (hnf : ∀ i, nf i = ns.getD i 0) {j k : Nat} (hj : j < ns.length) (hk : k < nf j) :
    ConG (rawC 0 72) [.rv 1000 fun _ => .pointer (some ⟨blkOf (lf j), k * 4 + 2, none⟩)] [(1000, .cust none (fun _ => memΦ v0 H))] Unit (fun _ => .int .u32 (.s fun _ => IntKind.u32.wrap ((j : Int) * 1000 + (k : Int) + 7000000))) (fun _ => [(1000, .cust none (fun _ => memΦ v0 H))]) := by
  obtain ⟨own, cl, ls, h1, h2, h3, h4⟩ := h
  exact page_c (h4 j hj) (by omega) (by unfold cellE; rw [← hnf, if_pos hk]; rfl)
theorem endE_more (h : EndE ns H lv nf hf lf) (hnf : ∀ i, nf i = ns.getD i 0) {j k : Nat} (hj : j < ns.length) (hk : k < 8) :
    ConG (rawC 0 72) [.rv 1000 fun _ => .pointer (some ⟨blkOf (lf j), (nf j + k) * 4 + 2, none⟩)] [(1000, .cust none (fun _ => memΦ v0 H))] Unit (fun _ => .int .u32 (.s fun _ => IntKind.u32.wrap ((-1 - (j : Int)) * 1000 + (k : Int) + 7000000))) (fun _ => [(1000, .cust none (fun _ => memΦ v0 H))]) := by
  obtain ⟨own, cl, ls, h1, h2, h3, h4⟩ := h
  exact page_c (h4 j hj) (by omega) (by unfold cellE; rw [← hnf, if_neg (by omega), show nf j + k - nf j = k by omega]; rfl)
end
end
end Go.Proofs.Ytmdfjipjkkjpcaa

/- The book: lists of bytes and of entries; the lists' headers only. -/
namespace Go.SX
section
variable {P : Program} {f : Nat}
theorem specX_frame {svs svs2 : List SV} {r : SV} {objs objs2 objs' objs2' : Objs} {k : Nat} {A : TObj} (hA : Frm A) (h : SpecX P f svs objs r objs') (hk : lookN k objs = none) (hk' : lookN k objs' = none)
    (h2 : ∀ j, lookN j objs2 = if j = k then some A else lookN j objs) (h2' : ∀ j, lookN j objs2' = if j = k then some A else lookN j objs')
    (hc : ∀ j Y, lookN j objs = some Y → Cst Y) (hc' : ∀ j Y, lookN j objs' = some Y → Cst Y)
    (hsv : ∀ (η : OEnv) (G : Nat → Prop) (w : World) (vs : List Value), SVRels η G w svs2 vs → SVRels (fun j => if j = k then none else η j) G w svs vs)
    (hr : ∀ (η η' : OEnv) (G : Nat → Prop) (w : World) (v : Value), SVRel η G w r v → SVRel η' G w r v) : SpecX P f svs2 objs2 r objs2' := by
  have hg : SpecG P f svs objs Unit (fun _ => r) (fun _ => objs') := fun η G vs w q1 q2 q3 => (h η G vs w q1 q2 q3).mono fun _ _ ⟨η', G', hh⟩ => ⟨(), η', G', hh⟩
  have := specG_frame (X := Unit) (r := fun _ => r) (objs' := fun _ => objs') (objs2' := fun _ => objs2') hA hg hk (fun _ => hk') h2 (fun _ => h2') hc (fun _ => hc') hsv (fun _ => hr)
  exact fun η G vs w q1 q2 q3 => (this η G vs w q1 q2 q3).mono fun _ _ ⟨_, η', G', hh⟩ => ⟨η', G', hh⟩
theorem look_two {k : Nat} {A B : TObj} (hk : k ≠ 1000) (j : Nat) : lookN j [(1000, A), (k, B)] = if j = k then some B else lookN j [(1000, A)] := by
  simp only [look_cons, look_nil]
  by_cases e : j = k
  · subst e; simp [hk]
  · simp [e]
theorem cst_one {A : TObj} (hA : Cst A) {j : Nat} {Y : TObj} (h : lookN j [(1000, A)] = some Y) : Cst Y := by
  simp only [look_cons, look_nil] at h
  split at h
  · cases h; exact hA
  · cases h
theorem tup_any (η η' : OEnv) (G : Nat → Prop) (w : World) (v : Value) (h : SVRel η G w (.tup []) v) : SVRel η' G w (.tup []) v := by
  obtain ⟨vs, rfl, h⟩ := h
  match vs, h with
  | [], _ => exact ⟨[], rfl, trivial⟩
  | _ :: _, h => exact h.elim
theorem rv_any {k : Nat} {x : Unit → Value} (η η' : OEnv) (G : Nat → Prop) (w : World) (v : Value) (h : SVRel η G w (.rv k x) v) : SVRel η' G w (.rv k x) v := h
theorem loc_keep {k : Nat} (hk : k ≠ 1000) {η : OEnv} {G : Nat → Prop} {w : World} {o : Nat} {v : Value} (h : SVRel η G w (.loc 1000 o) v) : SVRel (fun j => if j = k then none else η j) G w (.loc 1000 o) v := by
  obtain ⟨o', h1, h2⟩ := h
  exact ⟨o', by show (if 1000 = k then none else η 1000) = some o'; rw [if_neg fun e => hk e.symm]; exact h1, h2⟩
end
end Go.SX
namespace Go.Proofs.Ytmdfjipjkkjpcaa
open Go.SX

/-- The book's own memory: its block, and the headers of the lists that it was handed. -/
def BookM (hb he : List Value) (H : Mem) : Prop := ∃ bb hd e r c c', H = (bb, 61, topC hd e) :: r ∧ SlM H 27 1 hd hb.length c hb ∧ SlM H 22 1 e he.length c' he

theorem slm_keep {H H' : Mem} {e s n c : Nat} {va : Value} {xs : List Value} (h : SlM H e s va n c xs) (hk : ∀ p ∈ H, p.2.1 = e → p ∈ H') : SlM H' e s va n c xs := by
  rcases h with q | ⟨b, cs, q1, q2, q3⟩
  · exact .inl q
  · exact .inr ⟨b, cs, q1, hk _ q2 rfl, q3⟩
theorem slm_one {H : Mem} {e s n c : Nat} {va : Value} {xs : List Value} (h : SlM H e s va n c xs) : va.oneCell' = true := by
  rcases h with ⟨rfl, _⟩ | ⟨b, cs, rfl, _⟩ <;> rfl
theorem app_one {H H' : Mem} {e s n c m : Nat} {va va' : Value} {xs news : List Value} (hA : App H e s va n c m xs news va' H') : va'.oneCell' = true := by
  rcases hA.2 with ⟨_, b, cs, _, _, h, _⟩ | ⟨_, g, c', cs', _, h, _⟩ <;> rw [h] <;> rfl

theorem topC_hd (hd e v : Value) : (topC hd e).take 0 ++ [v] ++ (topC hd e).drop (0 + [v].length) = topC v e := rfl
theorem topC_e (hd e v : Value) : (topC hd e).take 16 ++ [v] ++ (topC hd e).drop (16 + [v].length) = topC hd v := rfl

theorem bookM_put {hb he : List Value} {H H' r : Mem} {bb c c' : Nat} {hd e hv va' : Value} (hH : H = (bb, 61, topC hd e) :: r) (hbk : SlM H 27 1 hd hb.length c hb) (hek : SlM H 22 1 e he.length c' he) (hA : App H 27 1 hd hb.length c 1 hb [hv] va' H') :
    (∃ r', H' = (bb, 61, topC hd e) :: r') ∧ BookM (hb ++ [hv]) he (putB H' bb (topC va' e)) := by
  have hnd := app_nodup hA
  obtain ⟨r', hr'⟩ := app_top hA hnd hH (by show (61 : Nat) ≠ 27; decide)
  obtain ⟨c2, hsl⟩ := app_slm hA hnd hbk rfl
  have hnd' := hA.1
  have htm : (bb, 61, topC hd e) ∈ H' := by rw [hr']; exact List.mem_cons_self
  have hput : putB H' bb (topC va' e) = (bb, 61, topC va' e) :: r' := by
    rw [hr'] at hnd' ⊢; exact putB_top (p := (bb, 61, topC hd e)) hnd' _
  have hk : ∀ p ∈ H', p.2.1 ≠ 61 → p ∈ putB H' bb (topC va' e) := fun p hp h61 => putB_other hp fun e1 => h61 (by rw [mem_eq hA.1 hp htm e1])
  refine ⟨⟨r', hr'⟩, bb, va', e, r', c2, c', hput, ?_, ?_⟩
  · rw [List.length_append]; exact slm_keep hsl fun p hp h => hk p hp (by omega)
  · exact slm_keep hek fun p hp h => hk p (app_keep hA hnd hp (by omega)) (by omega)
theorem bookM_pute {hb he : List Value} {H H' r : Mem} {bb c c' : Nat} {hd e hv va' : Value} (hH : H = (bb, 61, topC hd e) :: r) (hbk : SlM H 27 1 hd hb.length c hb) (hek : SlM H 22 1 e he.length c' he) (hA : App H 22 1 e he.length c' 1 he [hv] va' H') :
    (∃ r', H' = (bb, 61, topC hd e) :: r') ∧ BookM hb (he ++ [hv]) (putB H' bb (topC hd va')) := by
  have hnd := app_nodup hA
  obtain ⟨r', hr'⟩ := app_top hA hnd hH (by show (61 : Nat) ≠ 22; decide)
  obtain ⟨c2, hsl⟩ := app_slm hA hnd hek rfl
  have hnd' := hA.1
  have htm : (bb, 61, topC hd e) ∈ H' := by rw [hr']; exact List.mem_cons_self
  have hput : putB H' bb (topC hd va') = (bb, 61, topC hd va') :: r' := by
    rw [hr'] at hnd' ⊢; exact putB_top (p := (bb, 61, topC hd e)) hnd' _
  have hk : ∀ p ∈ H', p.2.1 ≠ 61 → p ∈ putB H' bb (topC hd va') := fun p hp h61 => putB_other hp fun e1 => h61 (by rw [mem_eq hA.1 hp htm e1])
  refine ⟨⟨r', hr'⟩, bb, hd, va', r', c, c2, hput, ?_, ?_⟩
  · exact slm_keep hbk fun p hp h => hk p (app_keep hA hnd hp (by omega)) (by omega)
  · rw [List.length_append]; exact slm_keep hsl fun p hp h => hk p hp (by omega)

set_option maxRecDepth 20000 in
set_option maxHeartbeats 1000000 in
theorem con18h {H : Mem} {hb he : List Value} {v0 hv : Value} (hB : BookM hb he H) (hone : hv.oneCell' = true) (hl : hb.length < 1000000) :
    Con 18 [.loc 1000 0, .rv 0 (fun _ => hv)] [(1000, .cust none (fun _ => memΦ v0 H))] (.tup []) [(1000, .cust none (fun _ => exΦ v0 (BookM (hb ++ [hv]) he)))] := by
  obtain ⟨i, hi, hz, hs1, hby⟩ := info27x
  obtain ⟨bb, hd, e, r, c, c', hH, hbk, hek⟩ := hB
  have htop : topQ bb (topC hd e) H := ⟨r, hH⟩
  have r1 : ConG (rawC 0 37) [.loc 1000 0] [(1000, .cust none (fun _ => memΦ v0 H))] Unit (fun _ => .rv 1000 fun _ => hd) (fun _ => [(1000, .cust none (fun _ => memΦ v0 H))]) := by
    obtain ⟨p1, Tb, cs, p2, p3⟩ := htop.cell (o := 0) rfl
    exact ⟨mem_load eok (T := 37) (b := bb) (o := 0) (u := hd) p1 rfl rfl p2 p3 fun η G w => ⟨rfl, slm_one hbk⟩⟩
  have r2 := ConG.mk (mem_app (T := 37) (e := 27) (s := 1) (H := H) (v0 := v0) (va := hd) (n := hb.length) (c := c) (xs := hb) (news := [hv]) (cells := [.rv 0 fun _ => hv]) Try.underlying37 hi hz (by rw [hs1]; rfl) hs1 (by decide) (by omega) hbk rfl (by simpa using hone)
    (fun η G w us hus => by
      match us, hus with
      | [u], hus => rw [show u = hv from hus.1.1]
      | [], h => exact h.elim
      | _ :: _ :: _, h => exact h.2.elim) (by rw [hby]; omega))
  refine con_of Try.func18 rfl rfl 14 _ rfl rfl rfl rfl ?_
  cbv
  refine ⟨Unit, _, _, r1, ⟨by kernel_rfl⟩, fun _ => ⟨⟨by kernel_rfl⟩, ?_⟩⟩
  cbv
  refine ⟨_, _, _, r2, ⟨by kernel_rfl⟩, fun x => ⟨⟨by kernel_rfl⟩, ?_⟩⟩
  have hA : App H 27 1 hd hb.length c 1 hb [hv] x.1.1 x.1.2 := x.2
  have hp := bookM_put hH hbk hek hA
  have r3 := ConG.mk (mem_store eok (T := 37) (b := bb) (o := 0) (v0 := v0) (cs := topC hd e) (us := [x.1.1]) (a := .loc 1000 0) (x := .rv 1000 fun _ => x.1.1) (.inr ⟨rfl, _, _, by obtain ⟨r', h⟩ := hp.1; exact ⟨r', h⟩⟩) rfl (by obtain ⟨r', h⟩ := hp.1; rw [h]; exact List.mem_cons_self) (by simp [topC]) rfl (by simpa using app_one hA) (fun η G w v h => by
    simp only [SVRel] at h
    obtain ⟨h, h2⟩ := h
    subst h
    rw [one_cells h2]))
  have fin : ∀ w v B, memΦ v0 (putB x.1.2 bb ((topC hd e).take 0 ++ [x.1.1] ++ (topC hd e).drop (0 + [x.1.1].length))) w v B → exΦ v0 (BookM (hb ++ [hv]) he) w v B := fun w v B h =>
    ⟨_, by rw [topC_hd]; exact hp.2, by rw [putB_names]; exact hA.1, h⟩
  cbv
  refine ⟨Unit, _, _, r3, ⟨by kernel_rfl⟩, fun _ => ⟨⟨by kernel_rfl⟩, ?_⟩⟩
  cbv
  refine ⟨[(1000, some 1000)], [], ?_⟩
  cbv
  and_intros
  all_goals first | exact trivial | exact ⟨rfl⟩ | exact ⟨rfl, fin⟩ | exact ⟨by kernel_rfl⟩

/-- The same, of memory of which so much is known, beside an object that stays. -/
theorem con18f {hb he : List Value} {v0 hv : Value} {A : TObj} (hA : Frm A) (hone : hv.oneCell' = true) (hl : hb.length < 1000000) :
    Con 18 [.loc 1000 0, .rv 1001 (fun _ => hv)] [(1000, .cust none (fun _ => exΦ v0 (BookM hb he))), (1001, A)] (.tup []) [(1000, .cust none (fun _ => exΦ v0 (BookM (hb ++ [hv]) he))), (1001, A)] := by
  have h1 : SpecX Try.prog 18 [.loc 1000 0, .rv 0 (fun _ => hv)] [(1000, .cust none (fun _ => exΦ v0 (BookM hb he)))] (.tup []) [(1000, .cust none (fun _ => exΦ v0 (BookM (hb ++ [hv]) he)))] :=
    specX_conv (Y := Mem) (F := fun H => BookM hb he H) (X' := fun H => .cust none (fun _ => memΦ v0 H)) (fun η G w o ho => by
      obtain ⟨H, q1, q2, q3⟩ := cust_open (η := η) (G := G) ex_id ho
      exact ⟨H, q1, q3⟩) fun H hH => (con18h hH hone hl).spec
  exact ⟨specX_frame (k := 1001) hA h1 (by rw [lookN_one]; rfl) (by rw [lookN_one]; rfl) (look_two (by decide)) (look_two (by decide)) (fun j Y h => cst_one cst_cust h) (fun j Y h => cst_one cst_cust h) (fun η G w vs h => by
    match vs, h with
    | [v1, v2], h => exact ⟨loc_keep (by decide) h.1, h.2.1, trivial⟩
    | [], h => exact h.elim
    | [_], h => exact h.2.elim
    | _ :: _ :: _ :: _, h => exact h.2.2.elim) tup_any⟩
end Go.Proofs.Ytmdfjipjkkjpcaa

/- The book: a list of entries handed in becomes known, and stays readable. -/
namespace Go.Proofs.Ytmdfjipjkkjpcaa
open Go.SX

/-- A list of entries, known: its header, its blocks; the headers of its keys and values. -/
structure OneE (es : List Ent) (kv vv : Nat → Value) (x : Value × Mem) : Prop where
  lst : (x.1 = nilV ∧ es.length = 0) ∨ ∃ b c cs, x.1 = .slice (some ⟨b, 0, none⟩) es.length c ∧ (b, 74, cs) ∈ x.2 ∧ cs.length = c * 4 ∧ es.length ≤ c ∧ c ≤ maxLen ∧ ∀ i, i < es.length → cs[i * 4 + 0]? = some (kv i) ∧ cs[i * 4 + 1]? = some (vv i)
  key : ∀ i, i < es.length → LisM x.2 (kv i) (es.getD i default).key.length
  val : ∀ i, i < es.length → LisM x.2 (vv i) (es.getD i default).val.length
  dist : (((List.range es.length).flatMap fun i => [kv i, vv i]).filterMap Value.ownBlock).Nodup
def knownE (es : List Ent) (x : Value × Mem) : TObj := .kn (some (entsDV es)) (fun _ => knΦ x.1 x.2)

theorem dedup (l : List Nat) : ∃ l' : List Nat, (∀ b, b ∈ l' ↔ b ∈ l) ∧ l'.Nodup := by
  induction l with
  | nil => exact ⟨[], fun _ => Iff.rfl, .nil⟩
  | cons a l ih =>
    obtain ⟨l', h1, h2⟩ := ih
    by_cases h : a ∈ l
    · exact ⟨l', fun b => by rw [h1, List.mem_cons]; exact ⟨.inr, fun hb => hb.elim (fun e => e ▸ h) id⟩, h2⟩
    · exact ⟨a :: l', fun b => by rw [List.mem_cons, List.mem_cons, h1], List.nodup_cons.2 ⟨fun hb => h ((h1 a).1 hb), h2⟩⟩

theorem own_flat {kv vv : Nat → Value} {Bs : Nat → Nat → List Nat} : ∀ (l : List Nat), (∀ i ∈ l, (kv i).ownBlock.toList = Bs i 0 ∧ (vv i).ownBlock.toList = Bs i 1) →
    List.Sublist ((l.flatMap fun i => [kv i, vv i]).filterMap Value.ownBlock) (l.flatMap fun i => (List.range 4).flatMap (Bs i))
  | [], _ => List.Sublist.refl _
  | i :: l, h => by
      obtain ⟨h1, h2⟩ := h i List.mem_cons_self
      rw [List.flatMap_cons, List.flatMap_cons, List.filterMap_append]
      refine List.Sublist.append ?_ (own_flat l fun j hj => h j (List.mem_cons_of_mem _ hj))
      have e1 : [kv i, vv i].filterMap Value.ownBlock = Bs i 0 ++ Bs i 1 := by
        rw [← h1, ← h2]
        cases h3 : (kv i).ownBlock <;> cases h4 : (vv i).ownBlock <;> simp [h3, h4]
      have e2 : (List.range 4).flatMap (Bs i) = Bs i 0 ++ Bs i 1 ++ (Bs i 2 ++ Bs i 3) := by
        show Bs i 0 ++ (Bs i 1 ++ (Bs i 2 ++ (Bs i 3 ++ []))) = _
        simp
      rw [e1, e2]
      exact List.sublist_append_left _ _

theorem arrD_known {η : OEnv} {G : Nat → Prop} {w : World} {es : List Ent} {o : OInfo} (h : ObjRel η G w (.arrD 74 4 (fun _ => es.length) (lrow encE fun _ => es)) o) (hmi : ∀ b ∈ o.main, b ∉ o.inner) :
    ∃ more kv vv, OneE es kv vv (o.val, more) ∧ ObjRel η G w (knownE es (o.val, more)) o := by
  classical
  obtain ⟨h1, hty, Bs, hB, hN, hq⟩ := h
  have hty : ∀ b ∈ o.inner, ∃ cs, w.heap[b]? = some (.cells cs byteT (0, 0)) := hty rfl
  obtain ⟨inn, hi1, hi2⟩ := dedup o.inner
  obtain ⟨cf, hcf⟩ : ∃ cf : Nat → List Value, ∀ b ∈ o.inner, HasRow w b 5 (cf b) := by
    refine ⟨fun b => if hb : ∃ cs, w.heap[b]? = some (.cells cs byteT (0, 0)) then hb.choose.toList else [], fun b hb => ?_⟩
    have hb := hty b hb
    show w.heap[b]? = some (.cells ⟨if hb : ∃ cs, w.heap[b]? = some (.cells cs byteT (0, 0)) then hb.choose.toList else []⟩ 5 (0, 0))
    rw [dif_pos hb]
    exact hb.choose_spec
  have hlis : ∀ {more : Mem} {v : Value} {bs : Unit → List UInt8} {B : List Nat}, (∀ b ∈ o.inner, (b, 5, cf b) ∈ more) → (∀ b ∈ B, b ∈ o.inner) → ORel w (.bytes bs) v B → LisM more v (bs ()).length ∧ v.ownBlock.toList = B := by
    intro more v bs B hm hB h
    rcases h with ⟨rfl, h0, rfl⟩ | ⟨b, c, cs, T, rfl, hh, q1, q2, q3, q4, rfl⟩
    · exact ⟨.inl ⟨rfl, by rw [h0]; rfl⟩, rfl⟩
    · have hb := hB b (by simp)
      have hr := hcf b hb
      unfold HasRow at hr
      rw [hh] at hr
      have e : cs.toList = cf b := by
        simp only [Option.some.injEq, Obj.cells.injEq] at hr
        have := hr.1; rw [this]
      exact ⟨.inr ⟨b, c, cf b, rfl, hm b hb, by rw [← e]; simpa using q1, q2, q3⟩, rfl⟩
  have hdv : ∀ w' : World, (∀ b ∈ o.main ++ o.inner, w'.heap[b]? = w.heap[b]?) → DVRel w' (fun b => b ∈ o.main ++ o.inner) (entsDV es) o.val := by
    intro w' hw'
    rcases hq with ⟨q1, q2, _⟩ | ⟨b, c, cs, T', q1, q2, q3, q4, q5, _, q6⟩
    · exact ⟨none, 0, by rw [q1, q2], by omega, fun i hi => by omega⟩
    · refine ⟨_, c, q1, q5, fun i hi => ⟨b, 0, rfl, by simp [q2], fun j hj => ?_⟩⟩
      obtain ⟨u, hu, hd⟩ := q6 i j hi hj
      have hh : w'.heap[b]? = some (.cells cs T'.1 T'.2) := by rw [hw' b (by simp [q2])]; exact q3
      exact ⟨u, by rw [Nat.zero_add, cell_cells hh]; exact hu, ORel.toDV _ _ _ (fun b' hb => by simp [hB i j b' hi hj hb]) (ORel.mono _ _ _ (fun b' hb => hw' b' (by simp [hB i j b' hi hj hb])) hd)⟩
  have inner_rows : ∀ (w' : World), (∀ b ∈ o.main ++ o.inner, w'.heap[b]? = w.heap[b]?) → ∀ b ∈ o.inner, HasRow w' b 5 (cf b) := fun w' hw' b hb => by
    unfold HasRow; rw [hw' b (by simp [hb])]; exact hcf b hb
  have nm : ∀ l : List Nat, (l.map fun b => ((b, 5, cf b) : Nat × Nat × List Value)).map (·.1) = l := fun l => by rw [List.map_map]; exact List.map_id' l
  have hq2 := hq
  rcases hq with ⟨q1, q2, q3⟩ | ⟨b, c, cs, T, q1, q2, q3, ⟨q4, q5⟩, q6, q7, q8⟩
  · have hn0 : es.length = 0 := q2
    refine ⟨inn.map fun b => (b, 5, cf b), fun _ => nilV, fun _ => nilV, ⟨.inl ⟨q1, hn0⟩, fun i hi => by omega, fun i hi => by omega, by rw [hn0]; simp⟩, ⟨h1, fun h => by cases h⟩, fun w' hw' => ⟨⟨rfl, fun b => ?_, ?_, fun p hp => ?_⟩, fun x hx => by cases hx; exact hdv w' hw'⟩⟩
    · rw [nm, q3, List.nil_append, hi1]
    · rw [nm]; exact hi2
    · obtain ⟨b, hb, rfl⟩ := List.mem_map.1 hp
      exact inner_rows w' hw' b ((hi1 b).1 hb)
  · have hT := q5.resolve_left (by decide)
    subst hT
    obtain ⟨more, hmore⟩ : ∃ more : Mem, more = (b, 74, cs.toList) :: inn.map fun b => (b, 5, cf b) := ⟨_, rfl⟩
    have hm5 : ∀ b' ∈ o.inner, (b', 5, cf b') ∈ more := fun b' hb' => by
      rw [hmore]; exact List.mem_cons_of_mem _ (List.mem_map.2 ⟨b', (hi1 b').2 hb', rfl⟩)
    have hcell : ∀ i j, i < es.length → j < 4 → ∃ u, cs.toList[i * 4 + j]? = some u ∧ cs.toList.getD (i * 4 + j) nilV = u ∧ ORel w (lrow encE (fun _ => es) (fun _ => i) j) u (Bs i j) := fun i j hi hj => by
      obtain ⟨u, hu, hr⟩ := q8 i j hi hj
      have hu : cs.toList[i * 4 + j]? = some u := by simpa using hu
      exact ⟨u, hu, by rw [List.getD_eq_getElem?_getD, hu]; rfl, hr⟩
    refine ⟨more, fun i => cs.toList.getD (i * 4 + 0) nilV, fun i => cs.toList.getD (i * 4 + 1) nilV, ⟨.inr ⟨b, c, cs.toList, q1, by rw [hmore]; exact List.mem_cons_self, by simpa using q4, q6, q7, fun i hi => ?_⟩, fun i hi => ?_, fun i hi => ?_, ?_⟩, ⟨h1, fun h => by cases h⟩, fun w' hw' => ⟨⟨rfl, fun b' => ?_, ?_, fun p hp => ?_⟩, fun x hx => by cases hx; exact hdv w' hw'⟩⟩
    · obtain ⟨u, e1, e2, _⟩ := hcell i 0 hi (by decide)
      obtain ⟨u', e1', e2', _⟩ := hcell i 1 hi (by decide)
      exact ⟨by rw [e1, e2], by rw [e1', e2']⟩
    · obtain ⟨u, e1, e2, hr⟩ := hcell i 0 hi (by decide)
      show LisM more (cs.toList.getD (i * 4 + 0) nilV) _
      rw [e2]
      exact (hlis hm5 (fun b' hb' => hB i 0 b' hi (by decide) hb') hr).1
    · obtain ⟨u, e1, e2, hr⟩ := hcell i 1 hi (by decide)
      show LisM more (cs.toList.getD (i * 4 + 1) nilV) _
      rw [e2]
      exact (hlis hm5 (fun b' hb' => hB i 1 b' hi (by decide) hb') hr).1
    · refine List.Nodup.sublist (own_flat (Bs := Bs) _ fun i hi => ?_) hN
      have hi := List.mem_range.1 hi
      obtain ⟨u, e1, e2, hr⟩ := hcell i 0 hi (by decide)
      obtain ⟨u', e1', e2', hr'⟩ := hcell i 1 hi (by decide)
      refine ⟨?_, ?_⟩
      · show (cs.toList.getD (i * 4 + 0) nilV).ownBlock.toList = _
        rw [e2]; exact (hlis hm5 (fun b' hb' => hB i 0 b' hi (by decide) hb') hr).2
      · show (cs.toList.getD (i * 4 + 1) nilV).ownBlock.toList = _
        rw [e2']; exact (hlis hm5 (fun b' hb' => hB i 1 b' hi (by decide) hb') hr').2
    · rw [hmore, List.map_cons, nm, q2, List.mem_append, List.mem_singleton, List.mem_cons, hi1]
    · rw [hmore, List.map_cons, nm]
      exact List.nodup_cons.2 ⟨fun hb => hmi b (by rw [q2]; simp) ((hi1 b).1 hb), hi2⟩
    · rw [hmore] at hp
      rcases List.mem_cons.1 hp with rfl | hp
      · unfold HasRow
        rw [hw' b (by rw [q2]; simp)]
        exact q3
      · obtain ⟨b', hb', rfl⟩ := List.mem_map.1 hp
        exact inner_rows w' hw' b' ((hi1 b').1 hb')
end Go.Proofs.Ytmdfjipjkkjpcaa

/- The book: Entries. -/
namespace Go.SX
section
variable {P : Program} {f : Nat}
theorem nm_row {w w' : World} {b T : Nat} {cs : List Value} (h : HasRow w b T cs) (h' : HasRow w' b T cs) : w'.heap[b]? = w.heap[b]? := by unfold HasRow at h h'; rw [h, h']

/-- An object with blocks within that is only looked at: as raw memory. -/
theorem specG_kn {svs svs2 : List SV} {X : Type} {r : X → SV} {objs objs2 : Objs} {objs' objs2' : X → Objs} {k : Nat} {d : Option DV} {hl : Value} {more : Mem} (h : SpecG P f svs objs X r objs')
    (h1 : lookN k objs = some (.cust none (fun _ => memΦ hl more))) (h1' : ∀ x, lookN k (objs' x) = some (.cust none (fun _ => memΦ hl more)))
    (h2 : ∀ j, lookN j objs2 = if j = k then some (.kn d (fun _ => knΦ hl more)) else lookN j objs) (h2' : ∀ x j, lookN j (objs2' x) = if j = k then some (.kn d (fun _ => knΦ hl more)) else lookN j (objs' x))
    (hc : ∀ j Y, lookN j objs = some Y → Cst Y) (hc' : ∀ x j Y, lookN j (objs' x) = some Y → Cst Y)
    (hsv : ∀ (η : OEnv) (G : Nat → Prop) (w : World) (vs : List Value) (o : OInfo), SVRels η G w svs2 vs → SVRels (fun j => if j = k then some o else η j) G w svs vs)
    (hr : ∀ (x : X) (η η' : OEnv) (G : Nat → Prop) (w : World) (v : Value), SVRel η G w (r x) v → SVRel η' G w (r x) v) : SpecG P f svs2 objs2 X r objs2' := by
  intro η G vs w hsep hob hs
  have hobk := hob k
  rw [h2 k, if_pos rfl] at hobk
  cases hok : η k with
  | none => rw [hok] at hobk; exact hobk.elim
  | some o =>
  rw [hok] at hobk
  obtain ⟨d1, d2⟩ := hobk
  obtain ⟨n1, n2, n3, n4⟩ := (d2 w fun _ _ => rfl).1
  obtain ⟨o', ho'⟩ : ∃ o' : OInfo, o' = ⟨hl, more.map (·.1), [], false⟩ := ⟨_, rfl⟩
  have hob' : ∀ b, b ∈ o'.main ++ o'.inner ↔ b ∈ o.main ++ o.inner := fun b => by rw [n2 b, ho', List.append_nil]
  have hin : ∀ {j : Nat} {oj : OInfo}, (if j = k then some o' else η j) = some oj → ∃ o0, η j = some o0 ∧ ∀ b, b ∈ oj.main ++ oj.inner ↔ b ∈ o0.main ++ o0.inner := by
    intro j oj hj
    by_cases e : j = k
    · rw [if_pos e] at hj; cases hj; exact ⟨o, e ▸ hok, hob'⟩
    · rw [if_neg e] at hj; exact ⟨oj, hj, fun _ => Iff.rfl⟩
  have hsep1 : Sep (fun j => if j = k then some o' else η j) G w := by
    refine ⟨fun j oj hj b hb => ?_, fun j oj j' oj' hj hj' hne b hb hb' => ?_, fun j oj hj b hb => ?_, hsep.glt⟩
    · obtain ⟨o0, h0, e0⟩ := hin hj
      exact hsep.lt j o0 h0 b ((e0 b).1 hb)
    · obtain ⟨o0, h0, e0⟩ := hin hj
      obtain ⟨o1, h1, e1⟩ := hin hj'
      exact hsep.dj j o0 j' o1 h0 h1 hne b ((e0 b).1 hb) ((e1 b).1 hb')
    · by_cases e : j = k
      · have hj : (if j = k then some o' else η j) = some oj := hj
        rw [if_pos e] at hj; cases hj; rw [ho']; simp
      · have hj : (if j = k then some o' else η j) = some oj := hj
        rw [if_neg e] at hj; exact hsep.mi j oj hj b hb
  refine (h (fun j => if j = k then some o' else η j) G vs w hsep1 (fun j => ?_) (hsv η G w vs o' hs)).mono fun v w' ⟨x, η', G', q1, q2, q3, q4⟩ => ?_
  · show ObjOpt _ G w _ (if j = k then some o' else η j)
    by_cases e : j = k
    · subst e
      rw [h1, if_pos rfl]
      refine ⟨by rw [ho'], by rw [ho'], fun w2 hw2 => ⟨⟨by rw [ho'], by rw [ho'], by rw [ho']; exact n3, fun p hp => ?_⟩, fun x hx => by cases hx⟩⟩
      unfold HasRow
      rw [hw2 _ (by rw [ho']; exact List.mem_map.2 ⟨p, hp, rfl⟩)]
      exact n4 p hp
    · rw [if_neg e]
      have := hob j
      rw [h2 j, if_neg e] at this
      exact Cst.opt (hc j) this
  · have hk' := q2 k
    rw [h1' x] at hk'
    cases hok' : η' k with
    | none => rw [hok'] at hk'; exact hk'.elim
    | some ok' =>
    rw [hok'] at hk'
    obtain ⟨p1, p2, p3⟩ := hk'
    obtain ⟨m1, m2, m3, m4⟩ := (p3 w' fun _ _ => rfl).1
    have hblk : ∀ b, b ∈ ok'.main ++ ok'.inner ↔ b ∈ o.main ++ o.inner := fun b => by rw [n2 b, p2, List.append_nil, m2]
    have hsame : ∀ b ∈ o.main ++ o.inner, w'.heap[b]? = w.heap[b]? := fun b hb => by
      obtain ⟨p, hp, rfl⟩ := List.mem_map.1 ((n2 b).1 hb)
      exact nm_row (n4 p hp) (m4 p hp)
    have hout : ∀ {j : Nat} {oj : OInfo}, (if j = k then some o else η' j) = some oj → ∃ o0, η' j = some o0 ∧ ∀ b, b ∈ oj.main ++ oj.inner ↔ b ∈ o0.main ++ o0.inner := by
      intro j oj hj
      by_cases e : j = k
      · rw [if_pos e] at hj; cases hj; exact ⟨ok', e ▸ hok', fun b => (hblk b).symm⟩
      · rw [if_neg e] at hj; exact ⟨oj, hj, fun _ => Iff.rfl⟩
    refine ⟨x, fun j => if j = k then some o else η' j, G', hr x _ _ _ _ _ q1, fun j => ?_, ⟨fun j oj hj b hb => ?_, fun j oj j' oj' hj hj' hne b hb hb' => ?_, fun j oj hj b hb => ?_, q3.glt⟩, ⟨q4.os, q4.tape, q4.out, q4.size, fun b hb hn => ?_, fun j oj hj => ?_, q4.g, fun b hb => ?_, fun j oj hj b hb => ?_⟩⟩
    · rw [h2' x j]
      show ObjOpt _ G' w' _ (if j = k then some o else η' j)
      by_cases e : j = k
      · rw [if_pos e, if_pos e]
        exact ⟨d1, fun w2 hw2 => d2 w2 fun b hb => (hw2 b hb).trans (hsame b hb)⟩
      · rw [if_neg e, if_neg e]; exact Cst.opt (hc' x j) (q2 j)
    · obtain ⟨o0, h0, e0⟩ := hout hj
      exact q3.lt j o0 h0 b ((e0 b).1 hb)
    · obtain ⟨o0, h0, e0⟩ := hout hj
      obtain ⟨o1, h1, e1⟩ := hout hj'
      exact q3.dj j o0 j' o1 h0 h1 hne b ((e0 b).1 hb) ((e1 b).1 hb')
    · have hj : (if j = k then some o else η' j) = some oj := hj
      by_cases e : j = k
      · rw [if_pos e] at hj; cases hj; exact hsep.mi k o hok b hb
      · rw [if_neg e] at hj; exact q3.mi j oj hj b hb
    · refine q4.keep b hb fun j oj hj hm => ?_
      obtain ⟨o0, h0, e0⟩ := hin hj
      exact hn j o0 h0 ((e0 b).1 hm)
    · by_cases e : j = k
      · subst e
        rw [hok] at hj; cases hj
        exact ⟨o, by simp, fun hd => ⟨hd, rfl, Ext.refl _, fun b hb => ⟨hb, hsame b (by simp [hb])⟩⟩⟩
      · obtain ⟨o2, h1, h2⟩ := q4.obj j oj (by rw [if_neg e]; exact hj)
        exact ⟨o2, by rw [if_neg e]; exact h1, h2⟩
    · rcases q4.g' b hb with h | h | ⟨j0, o0, h0, hb0⟩
      · exact .inl h
      · exact .inr (.inl h)
      · obtain ⟨o1, h1, e1⟩ := hin h0
        exact .inr (.inr ⟨j0, o1, h1, (e1 b).1 hb0⟩)
    · obtain ⟨o0, h0, e0⟩ := hout hj
      rcases q4.blk j o0 h0 b ((e0 b).1 hb) with h | ⟨j1, o1, h1, hb1⟩
      · exact .inl h
      · obtain ⟨o2, h2, e2⟩ := hin h1
        exact .inr ⟨j1, o2, h2, (e2 b).1 hb1⟩

/-- What is known of the memory that comes out is a ghost; other objects beside it. -/
theorem specG_outs {svs : List SV} {objs rest : Objs} {r : SV} {v0 : Value} {Q : Mem → Prop} (h : SpecX P f svs objs r ((1000, .cust none (fun _ => exΦ v0 Q)) :: rest)) : SpecG P f svs objs {H : Mem // Q H} (fun _ => r) (fun x => (1000, .cust none (fun _ => memΦ v0 x.1)) :: rest) := by
  intro η G vs w hsep hob hs
  refine (h η G vs w hsep hob hs).mono fun v w' ⟨η', G', h1, h2, h3⟩ => ?_
  have hk := h2 1000
  simp only [look_cons, if_true] at hk
  cases ho : η' 1000 with
  | none => rw [ho] at hk; exact hk.elim
  | some o =>
    rw [ho] at hk
    obtain ⟨H, q1, q2, q3⟩ := cust_open (η := η') (G := G') ex_id hk
    refine ⟨⟨H, q1⟩, η', G', h1, fun j => ?_, h3⟩
    have hj := h2 j
    rw [look_cons] at hj ⊢
    by_cases e : j = 1000
    · subst e; rw [if_pos rfl, ho]; exact q3
    · rw [if_neg e] at hj ⊢; exact hj
end
end Go.SX

/- The book: Entries, the walk. -/
namespace Go.Proofs.Ytmdfjipjkkjpcaa
open Go.SX

theorem OneE.shp {es : List Ent} {kv vv : Nat → Value} {x : Value × Mem} (h : OneE es kv vv x) : Shp x.1 es.length := by
  rcases h.lst with ⟨q1, q2⟩ | ⟨b, c, cs, q1, _⟩
  · rw [q1, q2]; exact .nil
  · rw [q1]; exact .blk
theorem LisM.one {H : Mem} {h : Value} {n : Nat} (hl : LisM H h n) : h.oneCell' = true := by
  rcases hl with ⟨rfl, _⟩ | ⟨b, c, cs, rfl, _⟩ <;> rfl
theorem eField {o b f : Nat} {off : Nat} {v0 : Value} {H : Mem} (hf : f < 4) (h32 : f < 32) (hoff : (nthD [((27 : Nat), (0 : Nat)), (27, 1), (72, 2), (72, 3)] f (0, 0)).2 = off) : ConG (rawC 8 (74 * 32 + f)) [.rv 1000 fun _ => .pointer (some ⟨b, o, none⟩)] [(1000, .cust none (fun _ => memΦ v0 H))] Unit (fun _ => .rv 1000 fun _ => .pointer (some ⟨b, o + off, none⟩)) (fun _ => [(1000, .cust none (fun _ => memΦ v0 H))]) :=
  ⟨mem_field eok (S := 74) (f := f) (b := b) (o := o) (off := off) (a := .rv 1000 fun _ => .pointer (some ⟨b, o, none⟩)) rfl rfl hf h32 hoff (.inl rfl)⟩
theorem OneE.load {es : List Ent} {kv vv : Nat → Value} {hl v0 : Value} {more : Mem} (h : OneE es kv vv (hl, more)) {i : Nat} (hi : i < es.length) :
    ConG (rawC 0 27) [.rv 1000 fun _ => .pointer (some ⟨blkOf hl, i * 4 + 0, none⟩)] [(1000, .cust none (fun _ => memΦ v0 more))] Unit (fun _ => .rv 1000 fun _ => kv i) (fun _ => [(1000, .cust none (fun _ => memΦ v0 more))]) ∧
    ConG (rawC 0 27) [.rv 1000 fun _ => .pointer (some ⟨blkOf hl, i * 4 + 1, none⟩)] [(1000, .cust none (fun _ => memΦ v0 more))] Unit (fun _ => .rv 1000 fun _ => vv i) (fun _ => [(1000, .cust none (fun _ => memΦ v0 more))]) := by
  rcases h.lst with ⟨_, q2⟩ | ⟨b, c, cs, q1, q2, q3, q4, q5, q6⟩
  · omega
  · have q1 : hl = _ := q1
    have hb : blkOf hl = b := by rw [q1]; rfl
    rw [hb]
    exact ⟨⟨mem_load eok (T := 27) (b := b) (o := i * 4 + 0) (u := kv i) (a := .rv 1000 fun _ => .pointer (some ⟨b, i * 4 + 0, none⟩)) (r := .rv 1000 fun _ => kv i) (.inl rfl) rfl rfl q2 (q6 i hi).1 fun η G w => ⟨rfl, (h.key i hi).one⟩⟩,
      ⟨mem_load eok (T := 27) (b := b) (o := i * 4 + 1) (u := vv i) (a := .rv 1000 fun _ => .pointer (some ⟨b, i * 4 + 1, none⟩)) (r := .rv 1000 fun _ => vv i) (.inl rfl) rfl rfl q2 (q6 i hi).2 fun η G w => ⟨rfl, (h.val i hi).one⟩⟩⟩

/-- The headers of a list's keys and values. -/
def kvs (kv vv : Nat → Value) (n : Nat) : List Value := (List.range n).flatMap fun i => [kv i, vv i]
theorem kvs_next (kv vv : Nat → Value) (n : Nat) : kvs kv vv (n + 1) = kvs kv vv n ++ [kv n, vv n] := by unfold kvs; rw [List.range_succ, List.flatMap_append]; rfl
theorem kvs_len (kv vv : Nat → Value) (n : Nat) : (kvs kv vv n).length = 2 * n := by
  induction n with
  | zero => rfl
  | succ n ih => rw [kvs_next, List.length_append, ih]; simp; omega

theorem csl_keep {k j w n : Nat} (hk : k ≠ j) {η : OEnv} {G : Nat → Prop} {w' : World} {v : Value} (h : SVRel η G w' (.csl j w n) v) : SVRel (fun i => if i = k then none else η i) G w' (.csl j w n) v := by
  obtain ⟨o', h1, h2⟩ := h
  exact ⟨o', by show (if j = k then none else η j) = some o'; rw [if_neg fun e => hk e.symm]; exact h1, h2⟩

/-- A header more among those of lists of entries; another object stays. -/
theorem pute_c {H r : Mem} {he : List Value} {bb c' : Nat} {e v0 hl : Value} {A : TObj} (hA : Frm A) (hek : SlM H 22 1 e he.length c' he) (hone : hl.oneCell' = true) (hlen : he.length < 1000000) :
    ConG (rawC 3 53) [.rv 1000 fun _ => e, .csl 1001 1 1] [(1000, .cust none (fun _ => memΦ v0 H)), (1001, .cells 22 [.rv 1002 fun _ => hl]), (1002, A)]
      {x : Value × Mem // App H 22 1 e he.length c' 1 he [hl] x.1 x.2} (fun x => .rv 1000 fun _ => x.1.1) (fun x => [(1000, .cust none (fun _ => memΦ v0 x.1.2)), (1001, .dead), (1002, A)]) := by
  obtain ⟨i, hi, hz, hs1, hby⟩ := info22x
  have h := mem_app (P := Try.prog) (T := 53) (e := 22) (s := 1) (H := H) (v0 := v0) (va := e) (n := he.length) (c := c') (xs := he) (news := [hl]) (cells := [.rv 1002 fun _ => hl]) Try.underlying53 hi hz (by rw [hs1]; rfl) hs1 (by decide) (by omega) hek rfl (by simpa using hone)
    (fun η G w us hus => by
      match us, hus with
      | [u], hus => rw [show u = hl from hus.1.1]
      | [], h => exact h.elim
      | _ :: _ :: _, h => exact h.2.elim) (by rw [hby]; omega)
  have l3 : ∀ (B : TObj) (C : TObj) (j : Nat), lookN j [(1000, B), (1001, C), (1002, A)] = if j = 1002 then some A else lookN j [(1000, B), (1001, C)] := fun B C j => by
    simp only [look_cons, look_nil]
    by_cases e0 : j = 1002
    · subst e0; rfl
    · rw [if_neg e0, if_neg e0]
  have lc : ∀ (B C : TObj) (j : Nat) (Y : TObj), Cst B → Cst C → lookN j [(1000, B), (1001, C)] = some Y → Cst Y := fun B C j Y hB hC hY => by
    simp only [look_cons, look_nil] at hY
    split at hY
    · cases hY; exact hB
    · split at hY
      · cases hY; exact hC
      · cases hY
  exact ⟨specG_frame (k := 1002) hA h (by simp only [look_cons, look_nil]; rfl) (fun _ => by simp only [look_cons, look_nil]; rfl) (l3 _ _) (fun _ => l3 _ _) (fun j Y hY => lc _ _ j Y cst_cust cst_cells hY) (fun _ j Y hY => lc _ _ j Y cst_cust cst_dead hY) (fun η G w vs h => by
    match vs, h with
    | [v1, v2], h => exact ⟨h.1, csl_keep (by decide) h.2.1, trivial⟩
    | [], h => exact h.elim
    | [_], h => exact h.2.elim
    | _ :: _ :: _ :: _, h => exact h.2.2.elim) (fun _ => rv_any)⟩

set_option maxRecDepth 20000 in
set_option maxHeartbeats 4000000 in
theorem con29r {H : Mem} {hb he : List Value} {v0 hl : Value} {more : Mem} {es : List Ent} {kv vv : Nat → Value} (hB : BookM hb he H) (hE : OneE es kv vv (hl, more)) (hlb : hb.length < 100000) (hle : he.length < 1000000) (hn : es.length < 100000) :
    Con 29 [.loc 1000 0, .rv 1001 (fun _ => hl)] [(1000, .cust none (fun _ => memΦ v0 H)), (1001, .cust none (fun _ => memΦ hl more))] (.tup []) [(1000, .cust none (fun _ => exΦ v0 (BookM (hb ++ kvs kv vv es.length) (he ++ [hl])))), (1001, .cust none (fun _ => memΦ hl more))] := by
  obtain ⟨bb, hd, e, r, c, c', hH, hbk, hek⟩ := hB
  obtain ⟨n, hne⟩ : ∃ n, n = es.length := ⟨_, rfl⟩
  obtain ⟨hbf, hbf0⟩ : ∃ hbf : Nat → List Value, ∀ i, hbf i = hb ++ kvs kv vv i := ⟨_, fun _ => rfl⟩
  have hbl : ∀ i, (hbf i).length = hb.length + 2 * i := fun i => by rw [hbf0, List.length_append, kvs_len]
  have hshp : Shp hl n := by rw [hne]; exact hE.shp
  have htop : topQ bb (topC hd e) H := ⟨r, hH⟩
  have r1 : ConG (rawC 0 53) [.loc 1000 16] [(1000, .cust none (fun _ => memΦ v0 H))] Unit (fun _ => .rv 1000 fun _ => e) (fun _ => [(1000, .cust none (fun _ => memΦ v0 H))]) := by
    obtain ⟨p1, Tb, cs, p2, p3⟩ := htop.cell (o := 16) rfl
    exact ⟨mem_load eok (T := 53) (b := bb) (o := 16) (u := e) p1 rfl rfl p2 p3 fun η G w => ⟨rfl, slm_one hek⟩⟩
  have r2 := pute_c (v0 := v0) (r := r) (bb := bb) (A := .cust none (fun _ => memΦ hl more)) frm_cust hek hshp.one hle
  refine con_of Try.func29 rfl rfl 35 _ rfl rfl rfl rfl ?_
  cbv
  refine ⟨Unit, _, _, r1, ⟨by kernel_rfl⟩, fun _ => ⟨⟨by kernel_rfl⟩, ?_⟩⟩
  cbv
  refine ⟨_, _, _, r2, ⟨by kernel_rfl⟩, fun x => ⟨⟨by kernel_rfl⟩, ?_⟩⟩
  have hA : App H 22 1 e he.length c' 1 he [hl] x.1.1 x.1.2 := x.2
  have hp := bookM_pute hH hbk hek hA
  have r3 := ConG.mk (mem_store eok (T := 53) (b := bb) (o := 16) (v0 := v0) (cs := topC hd e) (us := [x.1.1]) (a := .loc 1000 16) (x := .rv 1000 fun _ => x.1.1) (.inr ⟨rfl, _, _, by obtain ⟨r', h⟩ := hp.1; exact ⟨r', h⟩⟩) rfl (by obtain ⟨r', h⟩ := hp.1; rw [h]; exact List.mem_cons_self) (by simp [topC]) rfl (by simpa using app_one hA) (fun η G w v h => by
    simp only [SVRel] at h
    obtain ⟨h, h2⟩ := h
    subst h
    rw [one_cells h2]))
  have fin : ∀ w v B, memΦ v0 (putB x.1.2 bb ((topC hd e).take 16 ++ [x.1.1] ++ (topC hd e).drop (16 + [x.1.1].length))) w v B → exΦ v0 (BookM (hbf 0) (he ++ [hl])) w v B := fun w v B h =>
    ⟨_, by rw [topC_e, hbf0]; simpa [kvs] using hp.2, by rw [putB_names]; exact hA.1, h⟩
  have fin2 : ∀ w v B, exΦ v0 (BookM (hbf n) (he ++ [hl])) w v B → exΦ v0 (BookM (hb ++ kvs kv vv es.length) (he ++ [hl])) w v B := fun w v B h => by rw [← hne, ← hbf0]; exact h
  cbv
  refine ⟨Unit, _, _, r3, ⟨by kernel_rfl⟩, fun _ => ⟨⟨by kernel_rfl⟩, ?_⟩⟩
  cbv
  refine ⟨Nat, [1000, 1001], fun i => [(0, .loc 1000 0), (1, .rv 1001 fun _ => hl), (4, .int .i64 (.s fun _ => (i : Int)))], fun i => [(1000, .cust none (fun _ => exΦ v0 (BookM (hbf i) (he ++ [hl])))), (1001, .cust none (fun _ => memΦ hl more))], fun i => i ≤ n, fun i => n - i, 0, [(1000, some 1000), (1001, some 1001)], Nat.zero_le _, ⟨?_⟩, fun i hi => ?_⟩
  · cbv
    and_intros
    all_goals first | exact trivial | exact ⟨rfl⟩ | exact ⟨rfl, fin⟩ | exact ⟨rfl, fun _ _ _ h => h⟩ | exact ⟨by kernel_rfl⟩
  · have q1 := len_c (v0 := hl) (H := more) Try.underlying22 hshp
    cbv
    refine ⟨Unit, _, _, q1, ⟨by kernel_rfl⟩, fun _ => ⟨⟨by kernel_rfl⟩, ?_⟩⟩
    cbv
    refine And.intro ?_ ?_
    · intro h1
      have h1 : (i : Int) < (n : Int) := of_decide_eq_true h1
      have hlt : i < n := by omega
      have hlt' : i < es.length := by omega
      have bi : bound64 ((i : Int) + 1) := by unfold bound64; omega
      have ei : (i : Int) + 1 = ((i + 1 : Nat) : Int) := by omega
      have hmi : n - (i + 1) < n - i := by omega
      have q2 := idx4_c (v0 := hl) (H := more) Try.underlying22 rfl rfl hshp hlt (z := (i : Int)) rfl
      have q3 := eField (v0 := hl) (H := more) (b := blkOf hl) (o := i * 4) (f := 0) (off := 0) (by decide) (by decide) rfl
      have q4 := (hE.load (v0 := hl) hlt').1
      have q5 := eField (v0 := hl) (H := more) (b := blkOf hl) (o := i * 4) (f := 1) (off := 1) (by decide) (by decide) rfl
      have q6 := (hE.load (v0 := hl) hlt').2
      have l1 : (hbf i).length < 1000000 := by rw [hbl]; omega
      have l2 : (hbf i ++ [kv i]).length < 1000000 := by rw [List.length_append, hbl]; simp; omega
      have c1 := con18f (v0 := v0) (hb := hbf i) (he := he ++ [hl]) (hv := kv i) (A := .cust none (fun _ => memΦ hl more)) frm_cust (hE.key i hlt').one l1
      have c2 := con18f (v0 := v0) (hb := hbf i ++ [kv i]) (he := he ++ [hl]) (hv := vv i) (A := .cust none (fun _ => memΦ hl more)) frm_cust (hE.val i hlt').one l2
      have e2 : hbf i ++ [kv i] ++ [vv i] = hbf (i + 1) := by rw [hbf0, hbf0, kvs_next]; simp
      rw [e2] at c2
      cbv
      refine ⟨Unit, _, _, q2, ⟨by kernel_rfl⟩, fun _ => ⟨⟨by kernel_rfl⟩, ?_⟩⟩
      cbv
      refine ⟨Unit, _, _, q3, ⟨by kernel_rfl⟩, fun _ => ⟨⟨by kernel_rfl⟩, ?_⟩⟩
      cbv
      refine ⟨Unit, _, _, q4, ⟨by kernel_rfl⟩, fun _ => ⟨⟨by kernel_rfl⟩, ?_⟩⟩
      cbv
      refine ⟨_, _, c1, ⟨?_⟩, ?_⟩
      · kernel_rfl
      cbv
      refine ⟨Unit, _, _, q2, ⟨by kernel_rfl⟩, fun _ => ⟨⟨by kernel_rfl⟩, ?_⟩⟩
      cbv
      refine ⟨Unit, _, _, q5, ⟨by kernel_rfl⟩, fun _ => ⟨⟨by kernel_rfl⟩, ?_⟩⟩
      cbv
      refine ⟨Unit, _, _, q6, ⟨by kernel_rfl⟩, fun _ => ⟨⟨by kernel_rfl⟩, ?_⟩⟩
      cbv
      refine ⟨_, _, c2, ⟨?_⟩, ?_⟩
      · kernel_rfl
      cbv
      refine ⟨⟨bi⟩, i + 1, [(1000, some 1000), (1001, some 1001)], hlt, hmi, ⟨?_⟩, ⟨?_⟩⟩
      · kernel_rfl
      · cbv
        and_intros
        all_goals first | exact trivial | exact ⟨rfl⟩ | exact ⟨ei⟩ | exact ⟨rfl, fun _ _ _ h => h⟩ | exact ⟨by kernel_rfl⟩
    · intro h1
      have h1 : ¬ (i : Int) < (n : Int) := of_decide_eq_false h1
      have hie : i = n := by have : i ≤ n := hi; omega
      cbv
      subst hie
      refine ⟨[(1000, some 1000), (1001, some 1001)], [], ?_⟩
      cbv
      and_intros
      all_goals first | exact trivial | exact ⟨rfl⟩ | exact ⟨rfl, fin2⟩ | exact ⟨rfl, fun _ _ _ h => h⟩ | exact ⟨by kernel_rfl⟩
end Go.Proofs.Ytmdfjipjkkjpcaa

/- The book's lists of bytes: ownBytes, the walk. -/
namespace Go.Proofs.Ytmdfjipjkkjpcaa
open Go.SX

theorem self_ne {a : Int} (h : (!decide (a = a)) = true) : False := by simp at h

set_option maxRecDepth 20000 in
set_option maxHeartbeats 8000000 in
theorem con49m {ns : List Nat} {bb c : Nat} {hd v0 : Value} {hs tc : List Value} {H0 K : Mem} (hN : ns.length < 1000000) (hn : ∀ n ∈ ns, n < 1000000000) (hM0 : Marks ns bb tc K hd hs c 0 0 H0) (hn0 : (H0.map (·.1)).Nodup) :
    Con 49 [.rv 1000 (fun _ => hd)] [(1000, .cust none (fun _ => memΦ v0 H0))] (.bool .t) [(1000, .cust none (fun _ => exΦ v0 (fun H => topQ bb tc H ∧ Kept K H)))] := by
  obtain ⟨N, hNe⟩ : ∃ N, N = ns.length := ⟨_, rfl⟩
  obtain ⟨nf, hnf⟩ : ∃ nf : Nat → Nat, ∀ i, nf i = ns.getD i 0 := ⟨_, fun _ => rfl⟩
  obtain ⟨hf, hhf⟩ : ∃ hf : Nat → Value, ∀ i, hf i = hs.getD i nilV := ⟨_, fun _ => rfl⟩
  have hsd : Shp hd N := by rw [hNe]; exact SlM.shp hM0.bank
  have hsf : ∀ i, i < N → Shp (hf i) (nf i) := fun i hi => by rw [hhf, hnf]; exact (hM0.lis i (by omega)).shp
  have hnb : ∀ i, i < N → nf i < 1000000000 := fun i hi => by
    rw [hnf, List.getD_eq_getElem?_getD, List.getElem?_eq_getElem (by omega)]
    exact hn _ (List.getElem_mem _)
  have hNl : ∀ i, i < N → i < ns.length := fun i hi => by omega
  rw [← hNe] at hN
  clear hn
  refine con_of Try.func49 rfl rfl 135 _ rfl rfl rfl rfl ?_
  cbv
  refine ⟨Nat × Mem, [1000], fun x => [(0, .rv 1000 fun _ => hd), (3, .int .i64 (.s fun _ => (x.1 : Int)))], fun x => [(1000, .cust none (fun _ => memΦ v0 x.2))], fun x => x.1 ≤ N ∧ Marks ns bb tc K hd hs c x.1 0 x.2 ∧ (x.2.map (·.1)).Nodup, fun x => N - x.1, (0, H0), [(1000, some 1000)], ⟨Nat.zero_le _, hM0, hn0⟩, ⟨?_⟩, fun x hx => ?_⟩
  · cbv
    and_intros
    all_goals first | exact trivial | exact ⟨rfl⟩ | exact ⟨rfl, fun _ _ _ h => h⟩ | exact ⟨by kernel_rfl⟩
  · have r1 := len_c (v0 := v0) (H := x.2) Try.underlying37 hsd
    cbv
    refine ⟨Unit, _, _, r1, ⟨by kernel_rfl⟩, fun _ => ⟨⟨by kernel_rfl⟩, ?_⟩⟩
    cbv
    refine And.intro ?_ ?_
    · intro h1
      have h1 : (x.1 : Int) < (N : Int) := of_decide_eq_true h1
      have hlt : x.1 < N := by omega
      have bi : bound64 ((x.1 : Int) + 1) := by unfold bound64; omega
      have ei : (x.1 : Int) + 1 = ((x.1 + 1 : Nat) : Int) := by omega
      have bi97 : bound64 ((x.1 : Int) * 97) := by unfold bound64; omega
      have hmi : N - (x.1 + 1) < N - x.1 := by omega
      have hnx := hnb _ hlt
      have hsx := hsf _ hlt
      cbv
      refine ⟨Nat × Mem, [1000], fun y => [(0, .rv 1000 fun _ => hd), (3, .int .i64 (.s fun _ => (x.1 : Int))), (4, .int .i64 (.s fun _ => (y.1 : Int)))], fun y => [(1000, .cust none (fun _ => memΦ v0 y.2))], fun y => y.1 ≤ nf x.1 ∧ Marks ns bb tc K hd hs c x.1 y.1 y.2 ∧ (y.2.map (·.1)).Nodup, fun y => nf x.1 - y.1, (0, x.2), [(1000, some 1000)], ⟨Nat.zero_le _, hx.2.1, hx.2.2⟩, ⟨?_⟩, fun y hy => ?_⟩
      · cbv
        and_intros
        all_goals first | exact trivial | exact ⟨rfl⟩ | exact ⟨rfl, fun _ _ _ h => h⟩ | exact ⟨by kernel_rfl⟩
      · have r2 := idx_c (v0 := v0) (H := y.2) Try.underlying37 rfl rfl hsd hlt (z := (x.1 : Int)) rfl
        have r3 := bload_c (v0 := v0) (H := y.2) hy.2.1.bank (hNl _ hlt) (hhf x.1) hsx.one
        have r4 := len_c (v0 := v0) (H := y.2) Try.underlying27 hsx
        cbv
        refine ⟨Unit, _, _, r2, ⟨by kernel_rfl⟩, fun _ => ⟨⟨by kernel_rfl⟩, ?_⟩⟩
        cbv
        refine ⟨Unit, _, _, r3, ⟨by kernel_rfl⟩, fun _ => ⟨⟨by kernel_rfl⟩, ?_⟩⟩
        cbv
        refine ⟨Unit, _, _, r4, ⟨by kernel_rfl⟩, fun _ => ⟨⟨by kernel_rfl⟩, ?_⟩⟩
        cbv
        refine And.intro ?_ ?_
        · intro h2
          have h2 : (y.1 : Int) < (nf x.1 : Int) := of_decide_eq_true h2
          have hkn : y.1 < nf x.1 := by omega
          have bk1 : bound64 ((y.1 : Int) + 1) := by unfold bound64; omega
          have bk13 : bound64 ((y.1 : Int) * 13) := by unfold bound64; omega
          have bs : bound64 ((x.1 : Int) * 97 + (y.1 : Int) * 13) := by unfold bound64; omega
          have ek : (y.1 : Int) + 1 = ((y.1 + 1 : Nat) : Int) := by omega
          have hmk : nf x.1 - (y.1 + 1) < nf x.1 - y.1 := by omega
          have r5 := idx_c (v0 := v0) (H := y.2) Try.underlying27 rfl rfl hsx hkn (z := (y.1 : Int)) rfl
          have r6 := mark_c (v0 := v0) hy.2.1 hy.2.2 (hNl _ hlt) (hnf x.1) hkn (hhf x.1)
          cbv
          refine ⟨Unit, _, _, r2, ⟨by kernel_rfl⟩, fun _ => ⟨⟨by kernel_rfl⟩, ?_⟩⟩
          cbv
          refine ⟨Unit, _, _, r3, ⟨by kernel_rfl⟩, fun _ => ⟨⟨by kernel_rfl⟩, ?_⟩⟩
          cbv
          refine ⟨⟨bi97⟩, ⟨bk13⟩, ⟨bs⟩, ?_⟩
          refine ⟨Unit, _, _, r5, ⟨by kernel_rfl⟩, fun _ => ⟨⟨by kernel_rfl⟩, ?_⟩⟩
          cbv
          refine ⟨_, _, _, r6, ⟨by kernel_rfl⟩, fun u => ⟨⟨by kernel_rfl⟩, ?_⟩⟩
          cbv
          refine ⟨⟨bk1⟩, (y.1 + 1, u.1), [(1000, some 1000)], ⟨hkn, u.2.1, u.2.2⟩, hmk, ⟨?_⟩, ⟨?_⟩⟩
          · kernel_rfl
          · cbv
            and_intros
            all_goals first | exact trivial | exact ⟨rfl⟩ | exact ⟨ek⟩ | exact ⟨rfl, fun _ _ _ h => h⟩ | exact ⟨by kernel_rfl⟩
        · intro h2
          have h2 : ¬ (y.1 : Int) < (nf x.1 : Int) := of_decide_eq_false h2
          have hke : y.1 = nf x.1 := by have := hy.1; omega
          have hM2 : Marks ns bb tc K hd hs c (x.1 + 1) 0 y.2 := by
            have h := hy.2.1
            rw [hke, hnf] at h
            exact marks_next h
          cbv
          refine ⟨⟨bi⟩, (x.1 + 1, y.2), [(1000, some 1000)], ⟨hlt, hM2, hy.2.2⟩, hmi, ⟨?_⟩, ⟨?_⟩⟩
          · kernel_rfl
          · cbv
            and_intros
            all_goals first | exact trivial | exact ⟨rfl⟩ | exact ⟨ei⟩ | exact ⟨rfl, fun _ _ _ h => h⟩ | exact ⟨by kernel_rfl⟩
    · intro h1
      have h1 : ¬ (x.1 : Int) < (N : Int) := of_decide_eq_false h1
      have hie : x.1 = ns.length := by have := hx.1; omega
      have hT : Two ns bb tc K hd hs c 0 0 nilV nilV x.2 := two_0 (by have h := hx.2.1; rw [hie] at h; exact h) hx.2.2
      cbv
      refine ⟨Nat × Value × Mem, [1000], fun x => [(0, .rv 1000 fun _ => hd), (5, .rv 1000 fun _ => x.2.1), (6, .int .i64 (.s fun _ => (x.1 : Int)))], fun x => [(1000, .cust none (fun _ => memΦ v0 x.2.2))], fun x => x.1 ≤ N ∧ Two ns bb tc K hd hs c x.1 0 x.2.1 nilV x.2.2, fun x => N - x.1, (0, nilV, x.2), [(1000, some 1000)], ⟨Nat.zero_le _, hT⟩, ⟨?_⟩, fun x hx => ?_⟩
      · cbv
        and_intros
        all_goals first | exact trivial | exact ⟨rfl⟩ | exact ⟨rfl, fun _ _ _ h => h⟩ | exact ⟨by kernel_rfl⟩
      · have r1 := len_c (v0 := v0) (H := x.2.2) Try.underlying37 hsd
        cbv
        refine ⟨Unit, _, _, r1, ⟨by kernel_rfl⟩, fun _ => ⟨⟨by kernel_rfl⟩, ?_⟩⟩
        cbv
        refine And.intro ?_ ?_
        · intro h1
          have h1 : (x.1 : Int) < (N : Int) := of_decide_eq_true h1
          have hlt : x.1 < N := by omega
          have bi : bound64 ((x.1 : Int) + 1) := by unfold bound64; omega
          have ei : (x.1 : Int) + 1 = ((x.1 + 1 : Nat) : Int) := by omega
          have bi1 : bound64 (-1 - (x.1 : Int)) := by unfold bound64; omega
          have bi97 : bound64 ((-1 - (x.1 : Int)) * 97) := by unfold bound64; omega
          have hmi : N - (x.1 + 1) < N - x.1 := by omega
          have hi1000 : x.1 < 1000000 := by omega
          have hnx := hnb _ hlt
          have hsx := hsf _ hlt
          have hT1 : Two ns bb tc K hd hs c x.1 (nf x.1 + 0) x.2.1 (hf x.1) x.2.2 := by rw [hnf, hhf]; exact two_begin hx.2 (hNl _ hlt)
          have r2 := idx_c (v0 := v0) (H := x.2.2) Try.underlying37 rfl rfl hsd hlt (z := (x.1 : Int)) rfl
          have r3 := bload_c (v0 := v0) (H := x.2.2) hx.2.bank (hNl _ hlt) (hhf x.1) hsx.one
          cbv
          refine ⟨Unit, _, _, r2, ⟨by kernel_rfl⟩, fun _ => ⟨⟨by kernel_rfl⟩, ?_⟩⟩
          cbv
          refine ⟨Unit, _, _, r3, ⟨by kernel_rfl⟩, fun _ => ⟨⟨by kernel_rfl⟩, ?_⟩⟩
          cbv
          refine ⟨Nat × Value × Mem, [1000], fun y => [(0, .rv 1000 fun _ => hd), (5, .rv 1000 fun _ => x.2.1), (6, .int .i64 (.s fun _ => (x.1 : Int))), (7, .rv 1000 fun _ => y.2.1), (8, .int .i64 (.s fun _ => (y.1 : Int)))], fun y => [(1000, .cust none (fun _ => memΦ v0 y.2.2))], fun y => y.1 ≤ 16 ∧ Two ns bb tc K hd hs c x.1 (nf x.1 + y.1) x.2.1 y.2.1 y.2.2, fun y => 16 - y.1, (0, hf x.1, x.2.2), [(1000, some 1000)], ⟨Nat.zero_le _, hT1⟩, ⟨?_⟩, fun y hy => ?_⟩
          · cbv
            and_intros
            all_goals first | exact trivial | exact ⟨rfl⟩ | exact ⟨rfl, fun _ _ _ h => h⟩ | exact ⟨by kernel_rfl⟩
          · cbv
            refine And.intro ?_ ?_
            · intro h2
              have h2 : (y.1 : Int) < 16 := of_decide_eq_true h2
              have hk16 : y.1 < 16 := by omega
              have bk1 : bound64 ((y.1 : Int) + 1) := by unfold bound64; omega
              have bk13 : bound64 ((y.1 : Int) * 13) := by unfold bound64; omega
              have bs : bound64 ((-1 - (x.1 : Int)) * 97 + (y.1 : Int) * 13) := by unfold bound64; omega
              have ek : (y.1 : Int) + 1 = ((y.1 + 1 : Nat) : Int) := by omega
              have hmk : 16 - (y.1 + 1) < 16 - y.1 := by omega
              have r5 := app_c (v0 := v0) hy.2 (hnf x.1) hnx hk16
              cbv
              refine ⟨⟨bi1⟩, ⟨bi97⟩, ⟨bk13⟩, ⟨bs⟩, ?_⟩
              refine ⟨_, _, _, r5, ⟨by kernel_rfl⟩, fun u => ⟨⟨by kernel_rfl⟩, ?_⟩⟩
              cbv
              refine ⟨⟨bk1⟩, (y.1 + 1, u.1.1, u.1.2), [(1000, some 1000)], ⟨hk16, u.2⟩, hmk, ⟨?_⟩, ⟨?_⟩⟩
              · kernel_rfl
              · cbv
                and_intros
                all_goals first | exact trivial | exact ⟨rfl⟩ | exact ⟨ek⟩ | exact ⟨rfl, fun _ _ _ h => h⟩ | exact ⟨by kernel_rfl⟩
            · intro h2
              have h2 : ¬ (y.1 : Int) < 16 := of_decide_eq_false h2
              have hk16 : y.1 = 16 := by have := hy.1; omega
              have hT2 : Two ns bb tc K hd hs c x.1 (nf x.1 + 16) x.2.1 y.2.1 y.2.2 := by rw [← hk16]; exact hy.2
              have r6 := push_c (v0 := v0) hT2 (hnf x.1) hi1000
              cbv
              refine ⟨_, _, _, r6, ⟨by kernel_rfl⟩, fun u => ⟨⟨by kernel_rfl⟩, ?_⟩⟩
              cbv
              refine ⟨⟨bi⟩, (x.1 + 1, u.1.1, u.1.2), [(1000, some 1000)], ⟨hlt, u.2⟩, hmi, ⟨?_⟩, ⟨?_⟩⟩
              · kernel_rfl
              · cbv
                and_intros
                all_goals first | exact trivial | exact ⟨rfl⟩ | exact ⟨ei⟩ | exact ⟨rfl, fun _ _ _ h => h⟩ | exact ⟨by kernel_rfl⟩
        · intro h1
          have h1 : ¬ (x.1 : Int) < (N : Int) := of_decide_eq_false h1
          have hie : x.1 = N := by have := hx.1; omega
          have hE : ∃ lf, EndP ns hs x.2.2 x.2.1 nf hf lf := end_of hx.2 (by omega) hnf hhf
          have hfin : ∀ w v B, memΦ v0 x.2.2 w v B → exΦ v0 (fun H => topQ bb tc H ∧ Kept K H) w v B := fun w v B h => ⟨x.2.2, ⟨hx.2.top, hx.2.kp⟩, hx.2.nd, h⟩
          have hB : SlM x.2.2 27 1 hd ns.length c hs := hx.2.bank
          cbv
          refine Exists.elim hE fun lf hP => ?_
          have hsl : Shp x.2.1 N := by rw [hNe]; exact hP.shpl
          refine ⟨Nat, [1000], fun j => [(0, .rv 1000 fun _ => hd), (5, .rv 1000 fun _ => x.2.1), (9, .int .i64 (.s fun _ => (j : Int)))], fun _ => [(1000, .cust none (fun _ => memΦ v0 x.2.2))], fun j => j ≤ N, fun j => N - j, 0, [(1000, some 1000)], Nat.zero_le _, ⟨?_⟩, fun j hj => ?_⟩
          · cbv
            and_intros
            all_goals first | exact trivial | exact ⟨rfl⟩ | exact ⟨rfl, fun _ _ _ h => h⟩ | exact ⟨by kernel_rfl⟩
          · have r1 := len_c (v0 := v0) (H := x.2.2) Try.underlying37 hsd
            cbv
            refine ⟨Unit, _, _, r1, ⟨by kernel_rfl⟩, fun _ => ⟨⟨by kernel_rfl⟩, ?_⟩⟩
            cbv
            refine And.intro ?_ ?_
            · intro h1
              have h1 : (j : Int) < (N : Int) := of_decide_eq_true h1
              have hlt : j < N := by omega
              have bi : bound64 ((j : Int) + 1) := by unfold bound64; omega
              have ei : (j : Int) + 1 = ((j + 1 : Nat) : Int) := by omega
              have bi1 : bound64 (-1 - (j : Int)) := by unfold bound64; omega
              have bi97 : bound64 ((j : Int) * 97) := by unfold bound64; omega
              have bi97' : bound64 ((-1 - (j : Int)) * 97) := by unfold bound64; omega
              have hmi : N - (j + 1) < N - j := by omega
              have hnx := hnb _ hlt
              have hsx := hsf _ hlt
              have hsy := hP.shpf (hNl _ hlt)
              have r2 := idx_c (v0 := v0) (H := x.2.2) Try.underlying37 rfl rfl hsd hlt (z := (j : Int)) rfl
              have r3 := bload_c (v0 := v0) (H := x.2.2) hB (hNl _ hlt) (hhf j) hsx.one
              have r4 := len_c (v0 := v0) (H := x.2.2) Try.underlying27 hsx
              have r5 := idx_c (v0 := v0) (H := x.2.2) Try.underlying37 rfl rfl hsl hlt (z := (j : Int)) rfl
              have r6 := end_load (v0 := v0) hP (hNl _ hlt)
              cbv
              refine ⟨Unit, _, _, r2, ⟨by kernel_rfl⟩, fun _ => ⟨⟨by kernel_rfl⟩, ?_⟩⟩
              cbv
              refine ⟨Unit, _, _, r3, ⟨by kernel_rfl⟩, fun _ => ⟨⟨by kernel_rfl⟩, ?_⟩⟩
              cbv
              refine ⟨Unit, _, _, r4, ⟨by kernel_rfl⟩, fun _ => ⟨⟨by kernel_rfl⟩, ?_⟩⟩
              cbv
              refine ⟨Nat, [1000], fun k => [(0, .rv 1000 fun _ => hd), (5, .rv 1000 fun _ => x.2.1), (9, .int .i64 (.s fun _ => (j : Int))), (10, .int .i64 (.s fun _ => (nf j : Int))), (11, .int .i64 (.s fun _ => (k : Int)))], fun _ => [(1000, .cust none (fun _ => memΦ v0 x.2.2))], fun k => k ≤ nf j, fun k => nf j - k, 0, [(1000, some 1000)], Nat.zero_le _, ⟨?_⟩, fun k hk => ?_⟩
              · cbv
                and_intros
                all_goals first | exact trivial | exact ⟨rfl⟩ | exact ⟨rfl, fun _ _ _ h => h⟩ | exact ⟨by kernel_rfl⟩
              · cbv
                refine And.intro ?_ ?_
                · intro h2
                  have h2 : (k : Int) < (nf j : Int) := of_decide_eq_true h2
                  have hkn : k < nf j := by omega
                  have bk1 : bound64 ((k : Int) + 1) := by unfold bound64; omega
                  have bk13 : bound64 ((k : Int) * 13) := by unfold bound64; omega
                  have bs : bound64 ((j : Int) * 97 + (k : Int) * 13) := by unfold bound64; omega
                  have ek : (k : Int) + 1 = ((k + 1 : Nat) : Int) := by omega
                  have hmk : nf j - (k + 1) < nf j - k := by omega
                  have q1 := idx_c (v0 := v0) (H := x.2.2) Try.underlying27 rfl rfl hsx hkn (z := (k : Int)) rfl
                  have q2 := end_own (v0 := v0) hP hnf (hNl _ hlt) hkn
                  have q3 := idx_c (v0 := v0) (H := x.2.2) Try.underlying27 rfl rfl hsy (show k < nf j + 16 by omega) (z := (k : Int)) rfl
                  have q4 := end_long (v0 := v0) hP hnf (hNl _ hlt) hkn
                  cbv
                  refine ⟨Unit, _, _, r2, ⟨by kernel_rfl⟩, fun _ => ⟨⟨by kernel_rfl⟩, ?_⟩⟩
                  cbv
                  refine ⟨Unit, _, _, r3, ⟨by kernel_rfl⟩, fun _ => ⟨⟨by kernel_rfl⟩, ?_⟩⟩
                  cbv
                  refine ⟨Unit, _, _, q1, ⟨by kernel_rfl⟩, fun _ => ⟨⟨by kernel_rfl⟩, ?_⟩⟩
                  cbv
                  refine ⟨Unit, _, _, q2, ⟨by kernel_rfl⟩, fun _ => ⟨⟨by kernel_rfl⟩, ?_⟩⟩
                  cbv
                  refine ⟨⟨bi97⟩, ⟨bk13⟩, ⟨bs⟩, fun h3 => ?_, fun h3 => ?_⟩
                  · have h4 : (!decide (IntKind.u8.wrap ((j : Int) * 97 + (k : Int) * 13) = IntKind.u8.wrap ((j : Int) * 97 + (k : Int) * 13))) = true := h3
                    have h5 : False := by simp at h4
                    cbv
                    exact False.elim h5
                  cbv
                  refine ⟨Unit, _, _, r5, ⟨by kernel_rfl⟩, fun _ => ⟨⟨by kernel_rfl⟩, ?_⟩⟩
                  cbv
                  refine ⟨Unit, _, _, r6, ⟨by kernel_rfl⟩, fun _ => ⟨⟨by kernel_rfl⟩, ?_⟩⟩
                  cbv
                  refine ⟨Unit, _, _, q3, ⟨by kernel_rfl⟩, fun _ => ⟨⟨by kernel_rfl⟩, ?_⟩⟩
                  cbv
                  refine ⟨Unit, _, _, q4, ⟨by kernel_rfl⟩, fun _ => ⟨⟨by kernel_rfl⟩, ?_⟩⟩
                  cbv
                  refine ⟨⟨bi97⟩, ⟨bk13⟩, ⟨bs⟩, fun h3 => ?_, fun h3 => ?_⟩
                  · have h4 : (!decide (IntKind.u8.wrap ((j : Int) * 97 + (k : Int) * 13) = IntKind.u8.wrap ((j : Int) * 97 + (k : Int) * 13))) = true := h3
                    have h5 : False := by simp at h4
                    cbv
                    exact False.elim h5
                  cbv
                  refine ⟨⟨bk1⟩, k + 1, [(1000, some 1000)], hkn, hmk, ⟨?_⟩, ⟨?_⟩⟩
                  · kernel_rfl
                  · cbv
                    and_intros
                    all_goals first | exact trivial | exact ⟨rfl⟩ | exact ⟨ek⟩ | exact ⟨rfl, fun _ _ _ h => h⟩ | exact ⟨by kernel_rfl⟩
                · intro h2
                  cbv
                  refine ⟨Nat, [1000], fun k => [(0, .rv 1000 fun _ => hd), (5, .rv 1000 fun _ => x.2.1), (9, .int .i64 (.s fun _ => (j : Int))), (10, .int .i64 (.s fun _ => (nf j : Int))), (12, .int .i64 (.s fun _ => (k : Int)))], fun _ => [(1000, .cust none (fun _ => memΦ v0 x.2.2))], fun k => k ≤ 16, fun k => 16 - k, 0, [(1000, some 1000)], Nat.zero_le _, ⟨?_⟩, fun k hk => ?_⟩
                  · cbv
                    and_intros
                    all_goals first | exact trivial | exact ⟨rfl⟩ | exact ⟨rfl, fun _ _ _ h => h⟩ | exact ⟨by kernel_rfl⟩
                  · cbv
                    refine And.intro ?_ ?_
                    · intro h2
                      have h2 : (k : Int) < 16 := of_decide_eq_true h2
                      have hkn : k < 16 := by omega
                      have bk1 : bound64 ((k : Int) + 1) := by unfold bound64; omega
                      have bk13 : bound64 ((k : Int) * 13) := by unfold bound64; omega
                      have bn : bound64 ((nf j : Int) + (k : Int)) := by unfold bound64; omega
                      have bs : bound64 ((-1 - (j : Int)) * 97 + (k : Int) * 13) := by unfold bound64; omega
                      have ek : (k : Int) + 1 = ((k + 1 : Nat) : Int) := by omega
                      have hmk : 16 - (k + 1) < 16 - k := by omega
                      have q3 := idx_c (v0 := v0) (H := x.2.2) Try.underlying27 rfl rfl hsy (show nf j + k < nf j + 16 by omega) (z := (nf j : Int) + (k : Int)) (by omega)
                      have q4 := end_more (v0 := v0) hP hnf (hNl _ hlt) hkn
                      cbv
                      refine ⟨Unit, _, _, r5, ⟨by kernel_rfl⟩, fun _ => ⟨⟨by kernel_rfl⟩, ?_⟩⟩
                      cbv
                      refine ⟨Unit, _, _, r6, ⟨by kernel_rfl⟩, fun _ => ⟨⟨by kernel_rfl⟩, ?_⟩⟩
                      cbv
                      refine ⟨⟨bn⟩, ?_⟩
                      refine ⟨Unit, _, _, q3, ⟨by kernel_rfl⟩, fun _ => ⟨⟨by kernel_rfl⟩, ?_⟩⟩
                      cbv
                      refine ⟨Unit, _, _, q4, ⟨by kernel_rfl⟩, fun _ => ⟨⟨by kernel_rfl⟩, ?_⟩⟩
                      cbv
                      refine ⟨⟨bi1⟩, ⟨bi97'⟩, ⟨bk13⟩, ⟨bs⟩, fun h3 => ?_, fun h3 => ?_⟩
                      · have h4 : (!decide (IntKind.u8.wrap ((-1 - (j : Int)) * 97 + (k : Int) * 13) = IntKind.u8.wrap ((-1 - (j : Int)) * 97 + (k : Int) * 13))) = true := h3
                        have h5 : False := by simp at h4
                        cbv
                        exact False.elim h5
                      cbv
                      refine ⟨⟨bk1⟩, k + 1, [(1000, some 1000)], hkn, hmk, ⟨?_⟩, ⟨?_⟩⟩
                      · kernel_rfl
                      · cbv
                        and_intros
                        all_goals first | exact trivial | exact ⟨rfl⟩ | exact ⟨ek⟩ | exact ⟨rfl, fun _ _ _ h => h⟩ | exact ⟨by kernel_rfl⟩
                    · intro h2
                      cbv
                      refine ⟨⟨bi⟩, j + 1, [(1000, some 1000)], hlt, hmi, ⟨?_⟩, ⟨?_⟩⟩
                      · kernel_rfl
                      · cbv
                        and_intros
                        all_goals first | exact trivial | exact ⟨rfl⟩ | exact ⟨ei⟩ | exact ⟨rfl, fun _ _ _ h => h⟩ | exact ⟨by kernel_rfl⟩
            · intro h1
              cbv
              refine ⟨[(1000, some 1000)], [], ?_⟩
              cbv
              and_intros
              all_goals first | exact trivial | exact ⟨rfl⟩ | exact ⟨rfl, hfin⟩ | exact ⟨by kernel_rfl⟩
end Go.Proofs.Ytmdfjipjkkjpcaa

