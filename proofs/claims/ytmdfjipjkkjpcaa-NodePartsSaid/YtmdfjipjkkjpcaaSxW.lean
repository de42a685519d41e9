/- SX: append, sound. -/
import Derived.Test.YtmdfjipjkkjpcaaSxU
namespace Go.SX

section
variable {P : Program} {E : Env} {η : OEnv} {G : Nat → Prop} {N : Nat} {dl : List Deferred} {get : Nat → SV} {ob : Nat → Option TObj} {a : Act} {w : World}

def u8v (x : UInt8) : Value := .int .u8 (x.toNat : Int)

theorem take_bytes {cs : Array Value} {bs : List UInt8} (h : ∀ (i : Nat) (x : UInt8), bs[i]? = some x → cs[i]? = some (.int .u8 (x.toNat : Int))) (hs : bs.length ≤ cs.size) : cs.toList.take (bs.length * 1) = bs.map u8v := by
  apply List.ext_getElem?
  intro i
  rw [Nat.mul_one, List.getElem?_take, List.getElem?_map]
  split
  · rename_i hi
    have := h i bs[i] (List.getElem?_eq_getElem hi)
    rw [List.getElem?_eq_getElem hi]
    simpa [u8v] using this
  · rename_i hi
    rw [List.getElem?_eq_none (by omega)]; rfl

/-- The blocks of a row that objects own. -/
def BaseOf (η : OEnv) (ks : List Nat) (v : Value) : Prop := ∀ g, v.ownBlock = some g → ∃ k ∈ ks, ∃ o, η k = some o ∧ o.main = [g]

theorem base_blk (H : Holds dl η G N get ob a w) {k e wd n : Nat} {o : OInfo} {Q : Array Value → Prop} (hk : η k = some o) (hq : ownsBlk w o e wd n Q) (he : 0 < e) :
    ∃ xs, OwnsV w e wd o.val n xs ∧ BaseOf η [k] o.val ∧ (n = 0 ∨ ∃ cs : Array Value, Q cs ∧ cs.toList.take (n * wd) = xs ∧ n * wd ≤ cs.size) := by
  rcases hq with ⟨hv, hn, _⟩ | ⟨b, c, cs, T, hv, hm, hh, ⟨hs, hT⟩, hc, hcm, hQ⟩
  · refine ⟨[], ⟨by simp [hn], .inl ⟨hv, hn⟩⟩, fun g hg => ?_, .inl hn⟩
    rw [hv] at hg; cases hg
  · have hT := hT.resolve_left (by omega)
    subst hT
    have hle : n * wd ≤ cs.size := by rw [hs]; exact Nat.mul_le_mul_right _ hc
    refine ⟨cs.toList.take (n * wd), ⟨by simp; omega, .inr ⟨b, c, cs, hv, hh, hc, hcm, hs, rfl⟩⟩, fun g hg => ?_, .inr ⟨cs, hQ, rfl, hle⟩⟩
    rw [hv] at hg
    simp [Value.ownBlock] at hg
    subst hg
    exact ⟨k, by simp, o, hk, hm⟩

theorem base_csl (H : Holds dl η G N get ob a w) {k T wd : Nat} {v : Value} (hob : ob k = some (.cells T [])) (hx : SVRel η G w (.csl k wd 0) v) (sz : Nat) : OwnsV w T sz v 0 [] ∧ BaseOf η [k] v := by
  obtain ⟨o, hk, hr⟩ := obj_of H hob
  simp only [ObjRel] at hr
  obtain ⟨hd, hin, b, vs, hm, hh, hs⟩ := hr
  simp only [SVRel] at hx
  obtain ⟨o', hk', _, hv⟩ := hx
  rw [hk] at hk'; cases hk'
  obtain ⟨b', hm', rfl⟩ := hv hd
  rw [hm] at hm'; cases hm'
  have hl := SVRels.length hs
  have hvs : vs = [] := List.eq_nil_of_length_eq_zero (by simpa [leN_iff, ltN_iff] using hl)
  subst hvs
  refine ⟨⟨by simp, .inr ⟨b, 0, #[], rfl, hh, Nat.le_refl _, Nat.zero_le _, by simp, by simp⟩⟩, fun g hg => ?_⟩
  simp [Value.ownBlock] at hg
  subst hg
  exact ⟨k, by simp, o, hk, hm⟩

theorem baseB_ok (H : Holds dl η G N get ob a w) {e : Nat} {x : SV} {v : Value} (hx : SVRel η G w x v) {ks : List Nat} {bs : Unit → List UInt8} (h : baseB e ob x = some (ks, bs)) :
    OwnsV w e 1 v (bs ()).length ((bs ()).map u8v) ∧ BaseOf η ks v ∧ (∀ k ∈ ks, ob k ≠ none) := by
  unfold baseB at h
  split at h
  · cases h
    simp only [SVRel] at hx
    subst hx
    exact ⟨⟨by simp, .inl ⟨rfl, rfl⟩⟩, (fun g hg => by cases hg), by simp⟩
  · rename_i k
    split at h
    · rename_i T bs' hob
      cases hc : (eqN T e && ltN 0 e) with
      | false => rw [hc] at h; cases h
      | true =>
        rw [hc] at h
        simp only [cond_true, Option.some.injEq, Prod.mk.injEq] at h
        obtain ⟨rfl, rfl⟩ := h
        simp only [Bool.and_eq_true] at hc
        have := eqN_eq hc.1
        subst this
        have he : 0 < T := by simpa [ltN_iff] using hc.2
        obtain ⟨o, hk, hr⟩ := obj_of H hob
        simp only [ObjRel] at hr
        obtain ⟨hd, hin, hq⟩ := hr
        simp only [SVRel] at hx
        obtain ⟨o', hk', _, hv⟩ := hx
        rw [hk] at hk'; cases hk'
        have hv := hv hd
        subst hv
        obtain ⟨xs, h1, h2, h3⟩ := base_blk H hk hq he
        refine ⟨?_, h2, by simp [hob]⟩
        have hxs : xs = (bs' ()).map u8v := by
          rcases h3 with h0 | ⟨cs, hQ, ht, hle⟩
          · have : xs = [] := List.eq_nil_of_length_eq_zero (by rw [h1.1, h0])
            rw [this, List.eq_nil_of_length_eq_zero h0]; rfl
          · rw [← ht, take_bytes hQ (by omega)]
        rw [← hxs]; exact h1
    · cases h
  · rename_i k wd n
    split at h
    · rename_i T hob
      cases hc : (eqN T e && ltN 0 e && eqN n 0 && eqN wd 1) with
      | false => rw [hc] at h; cases h
      | true =>
        rw [hc] at h
        simp only [cond_true, Option.some.injEq, Prod.mk.injEq] at h
        obtain ⟨rfl, rfl⟩ := h
        simp only [Bool.and_eq_true] at hc
        have := eqN_eq hc.1.1.1
        subst this
        have := eqN_eq hc.1.2
        subst this
        obtain ⟨h1, h2⟩ := base_csl H hob hx 1
        exact ⟨h1, h2, by simp [hob]⟩
    · cases h
  · cases h

theorem add_at (b o j : Nat) : (⟨b, o, none⟩ : Addr).add j = ⟨b, o + j, none⟩ := add_none b o j

/-- A slice whose cells can be read. -/
def Rd (w : World) (v : Value) (m : Nat) (news : List Value) : Prop := ∃ p c, v = .slice p m c ∧ (m ≠ 0 → ∃ a, p = some a ∧ ∀ j u, news[j]? = some u → w.cell? (a.add j) = some u)

theorem rd_bytes {S : Nat → Prop} {bs : Unit → List UInt8} {v : Value} (h : DVRel w S (.bytes bs) v) : Rd w v (bs ()).length ((bs ()).map u8v) := by
  simp only [DVRel] at h
  obtain ⟨p, c, rfl, hc, hr⟩ := h
  refine ⟨p, c, rfl, fun hm => ?_⟩
  have h0 : 0 < (bs ()).length := by omega
  obtain ⟨b, o, rfl, _, _⟩ := hr 0 _ (List.getElem?_eq_getElem h0)
  refine ⟨_, rfl, fun j u hj => ?_⟩
  rw [List.getElem?_map] at hj
  cases hx : (bs ())[j]? with
  | none => rw [hx] at hj; cases hj
  | some x =>
    rw [hx] at hj
    cases hj
    obtain ⟨b', o', he, _, hcell⟩ := hr j x hx
    cases he
    rw [add_at]; exact hcell

theorem rd_csl (H : Holds dl η G N get ob a w) {k T wd n : Nat} {cs : List SV} {v : Value} (hob : ob k = some (.cells T cs)) (hx : SVRel η G w (.csl k wd n) v) : ∃ vs, Rd w v n vs ∧ SVRels η G w cs vs := by
  obtain ⟨o, hk, hr⟩ := obj_of H hob
  simp only [ObjRel] at hr
  obtain ⟨hd, hin, b, vs, hm, hh, hs⟩ := hr
  simp only [SVRel] at hx
  obtain ⟨o', hk', _, hv⟩ := hx
  rw [hk] at hk'; cases hk'
  obtain ⟨b', hm', rfl⟩ := hv hd
  rw [hm] at hm'; cases hm'
  refine ⟨vs, ⟨_, _, rfl, fun _ => ⟨_, rfl, fun j u hj => ?_⟩⟩, hs⟩
  rw [add_at, cell_cells hh]
  simpa using hj

theorem u8s_ok : ∀ {cs : List SV} {l : List IE} {vs : List Value}, u8s cs = some l → u8Obl l → SVRels η G w cs vs → vs = (u8List l).map u8v
  | [], l, [], h, _, _ => by simp [u8s] at h; subst h; rfl
  | [], _, _ :: _, _, _, h => by simp [SVRels] at h
  | c :: cs, l, [], _, _, h => by simp [SVRels] at h
  | c :: cs, l, v :: vs, h, ho, hs => by
      unfold u8s at h
      split at h
      · rename_i heq; cases heq
      · rename_i e r heq
        cases heq
        split at h
        · rename_i l' hl
          cases h
          simp only [SVRels] at hs
          simp only [u8Obl] at ho
          rw [u8s_ok hl ho.2 hs.2]
          have hv := hs.1
          simp only [SVRel] at hv
          subst hv
          simp only [u8List, List.map_cons, List.cons.injEq, and_true, u8v]
          congr 1
          simp only [UInt8.toNat_ofNat']
          omega
        · cases h
      · cases h

theorem addB_ok (H : Holds dl η G N get ob a w) {y : SV} {v : Value} (hy : SVRel η G w y v) {A : Add} (h : addB ob y = some A) (ho : A.obl ()) : Rd w v (A.bs ()).length ((A.bs ()).map u8v) := by
  unfold addB at h
  split at h
  · cases h
    simp only [SVRel] at hy
    subst hy
    exact ⟨none, 0, rfl, fun h => absurd rfl h⟩
  · cases h
    simp only [SVRel] at hy
    exact rd_bytes hy
  · cases h
    simp only [SVRel] at hy
    exact rd_bytes hy.1
  · rename_i k bs
    cases hal : aliveO (ob k) with
    | false => rw [hal] at h; cases h
    | true =>
      rw [hal] at h
      cases h
      simp only [SVRel] at hy
      obtain ⟨o, hk, _, hv⟩ := hy
      exact rd_bytes (hv (alive_of H hal hk))
  · rename_i k
    split at h
    · rename_i T bs hob
      cases h
      exact rd_bytes (own_dv' H hob hy)
    · cases h
  · rename_i k wd n
    split at h
    · rename_i T cs hob
      split at h
      · rename_i l hl
        cases hc : (eqN wd 1 && eqN n l.length) with
        | false => rw [hc] at h; cases h
        | true =>
          rw [hc] at h
          cases h
          simp only [Bool.and_eq_true] at hc
          have hn := eqN_eq hc.2
          obtain ⟨vs, h1, h2⟩ := rd_csl H hob hy
          have := u8s_ok hl ho h2
          subst this
          have hlen : (u8List l).length = l.length := by clear h2 hl ho hob hn h1 hc; induction l <;> simp_all [u8List]
          simp only [hlen, ← hn]
          exact h1
      · cases h
    · cases h
  · cases h
where
  own_dv' {k T : Nat} {bs : Unit → List UInt8} {v : Value} (H : Holds dl η G N get ob a w) (hob : ob k = some (.barr T bs)) (hy : SVRel η G w (.own k) v) : DVRel w (fun _ => True) (.bytes bs) v := by
    obtain ⟨o, hk, hr⟩ := obj_of H hob
    simp only [ObjRel] at hr
    obtain ⟨hd, hin, hq⟩ := hr
    simp only [SVRel] at hy
    obtain ⟨o', hk', _, hv⟩ := hy
    rw [hk] at hk'; cases hk'
    have hv := hv hd
    subst hv
    simp only [DVRel]
    rcases hq with ⟨hv, hn, _⟩ | ⟨b, c, cs, T', hv, hm, hh, ⟨hs, hT⟩, hc, hcm, hQ⟩
    · exact ⟨none, 0, by rw [hv, hn], by omega, fun i x hx => by rw [List.eq_nil_of_length_eq_zero hn] at hx; simp at hx⟩
    · exact ⟨_, c, hv, hc, fun i x hx => ⟨b, 0, rfl, trivial, by rw [cell_cells hh, Nat.zero_add]; exact hQ i x hx⟩⟩

theorem blk_of {w : World} {e sz n : Nat} {v : Value} {xs : List Value} (h : OwnsV w e sz v n xs) (inner : List Nat) {Q : Array Value → Prop} (hQ : ∀ cur : Array Value, cur.toList.take (n * sz) = xs → Q cur) :
    ownsBlk w ⟨v, v.ownBlock.toList, inner, false⟩ e sz n Q := by
  rcases h.2 with ⟨rfl, hn⟩ | ⟨g, cap, cur, rfl, hg, hc, hcm, hs, ht⟩
  · exact .inl ⟨rfl, hn, rfl⟩
  · exact .inr ⟨g, cap, cur, (e, 0, 0), rfl, rfl, hg, ⟨hs, .inr rfl⟩, hc, hcm, hQ cur ht⟩

theorem slice_one {v : Value} {e sz n : Nat} {xs : List Value} (h : OwnsV w e sz v n xs) : v.oneCell' = true := by
  rcases h.2 with ⟨rfl, _⟩ | ⟨g, cap, cur, rfl, _⟩ <;> rfl

theorem own_rel {η' : OEnv} {G' : Nat → Prop} {w' : World} {d : Nat} {o : OInfo} (h1 : o.val.oneCell' = true) : SVRel (updE η' d o) G' w' (.own d) o.val := by
  simp only [SVRel]
  exact ⟨o, updE_same _ _ _, h1, fun _ => rfl⟩

/-- What 'append' leaves, as taken objects. -/
theorem takes_app {ks : List Nat} {v v' : Value} {w' : World} {e sz n : Nat} {xs : List Value} (hb : BaseOf η ks v) (hos : w'.os = w.os) (htp : w'.tape = w.tape) (hou : w'.output = w.output) (hsz : w.heap.size ≤ w'.heap.size)
    (hkeep : ∀ b, b < w.heap.size → v.ownBlock ≠ some b → w'.heap[b]? = w.heap[b]?) (hown : OwnsV w' e sz v' n xs) (hg : ∀ g, v'.ownBlock = some g → w.heap.size ≤ g ∨ v.ownBlock = some g) (inner : List Nat)
    (hin : ∀ b ∈ inner, (b < w'.heap.size ∧ (w.heap.size ≤ b ∨ ∃ k ∈ ks, ∃ o', η k = some o' ∧ b ∈ o'.main ++ o'.inner)) ∧ v'.ownBlock ≠ some b) : Takes η w ks w' ⟨v', v'.ownBlock.toList, inner, false⟩ := by
  refine ⟨hos, htp, hou, hsz, fun b hlt hn => hkeep b hlt fun e => ?_, fun b hb' => ?_, fun b hb' hbi => ?_⟩
  · obtain ⟨k, hk, o, ho, hm⟩ := hb b e
    exact hn k hk o ho (by simp [hm])
  · rcases List.mem_append.1 hb' with hb' | hb'
    · simp only [Option.mem_toList, Option.mem_def] at hb'
      refine ⟨?_, ?_⟩
      · rcases hown.2 with ⟨rfl, _⟩ | ⟨g, cap, cur, rfl, hgg, _⟩
        · cases hb'
        · simp [Value.ownBlock] at hb'; subst hb'; exact (Array.getElem?_eq_some_iff.1 hgg).1
      · rcases hg b hb' with h | h
        · exact .inl h
        · obtain ⟨k, hk, o, ho, hm⟩ := hb b h
          exact .inr ⟨k, hk, o, ho, by simp [hm]⟩
    · exact (hin b hb').1
  · simp only [Option.mem_toList, Option.mem_def] at hb'
    exact (hin b hbi).2 hb'

theorem u8v_one (l : List UInt8) : ∀ u ∈ l.map u8v, u.oneCell' = true := by
  intro u hu
  obtain ⟨x, _, rfl⟩ := List.mem_map.1 hu
  rfl
end
end Go.SX
