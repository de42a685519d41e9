/- SX: append, all. -/
import Derived.Test.YtmdfjipjkkjpcaaSxX
namespace Go.SX

section
variable {P : Program} {E : Env} {η : OEnv} {G : Nat → Prop} {N : Nat} {dl : List Deferred} {get : Nat → SV} {ob : Nat → Option TObj} {a : Act} {w : World}

def BAOk (η : OEnv) (G : Nat → Prop) (w : World) (ob : Nat → Option TObj) (e wd : Nat) (v : Value) : BA → Prop
  | .nil ks => OwnsV w e wd v 0 [] ∧ BaseOf η ks v ∧ ∀ k ∈ ks, ob k ≠ none
  | .sh k n row => ∃ xs, OwnsV w e wd v (n ()) xs ∧ BaseOf η [k] v ∧ ob k ≠ none ∧ Rows (n ()) wd xs fun i j u => DVRel w G (row (fun _ => i) j) u
  | .dp k n row => ∃ xs o, OwnsV w e wd v (n ()) xs ∧ BaseOf η [k] v ∧ ob k ≠ none ∧ η k = some o ∧ ∃ Bs : Nat → Nat → List Nat, (∀ i j b, i < n () → j < wd → b ∈ Bs i j → b ∈ o.inner) ∧
      ((List.range (n ())).flatMap fun i => (List.range wd).flatMap (Bs i)).Nodup ∧ Rows (n ()) wd xs fun i j u => ORel w (row (fun _ => i) j) u (Bs i j)

theorem baseA_ok (H : Holds dl η G N get ob a w) {e wd : Nat} {x : SV} {v : Value} (hx : SVRel η G w x v) {b : BA} (h : baseA e wd ob x = some b) : BAOk η G w ob e wd v b := by
  unfold baseA at h
  split at h
  · cases h
    simp only [SVRel] at hx
    subst hx
    exact ⟨⟨by simp, .inl ⟨rfl, rfl⟩⟩, (fun g hg => by cases hg), by simp⟩
  · rename_i k
    split at h
    · rename_i T wd' n row hob
      cases hc : (eqN T e && ltN 0 e && eqN wd wd') with
      | false => rw [hc] at h; cases h
      | true =>
        rw [hc] at h
        cases h
        simp only [Bool.and_eq_true] at hc
        have := eqN_eq hc.1.1
        subst this
        have := eqN_eq hc.2
        subst this
        have he : 0 < T := by simpa [ltN_iff] using hc.1.2
        obtain ⟨o, hk, hr⟩ := obj_of H hob
        simp only [ObjRel] at hr
        obtain ⟨hd, hin, hq⟩ := hr
        simp only [SVRel] at hx
        obtain ⟨o', hk', _, hv⟩ := hx
        rw [hk] at hk'; cases hk'
        have hv := hv hd
        subst hv
        obtain ⟨xs, h1, h2, h3⟩ := base_blk H hk hq he
        refine ⟨xs, h1, h2, by simp [hob], ?_⟩
        rcases h3 with h0 | ⟨cs, hQ, ht, hle⟩
        · intro i j hi; rw [h0] at hi; omega
        · exact Rows.of_cur hQ ht
    · rename_i T wd' n row hob
      cases hc : (eqN T e && ltN 0 e && eqN wd wd') with
      | false => rw [hc] at h; cases h
      | true =>
        rw [hc] at h
        cases h
        simp only [Bool.and_eq_true] at hc
        have := eqN_eq hc.1.1
        subst this
        have := eqN_eq hc.2
        subst this
        have he : 0 < T := by simpa [ltN_iff] using hc.1.2
        obtain ⟨o, hk, hr⟩ := obj_of H hob
        simp only [ObjRel] at hr
        obtain ⟨hd, Bs, hB, hN, hq⟩ := hr
        simp only [SVRel] at hx
        obtain ⟨o', hk', _, hv⟩ := hx
        rw [hk] at hk'; cases hk'
        have hv := hv hd
        subst hv
        obtain ⟨xs, h1, h2, h3⟩ := base_blk H hk hq he
        refine ⟨xs, o, h1, h2, by simp [hob], hk, Bs, hB, hN, ?_⟩
        rcases h3 with h0 | ⟨cs, hQ, ht, hle⟩
        · intro i j hi; rw [h0] at hi; omega
        · exact Rows.of_cur hQ ht
    · cases h
  · rename_i k wd' n
    split at h
    · rename_i T hob
      cases hc : (eqN T e && ltN 0 e && eqN n 0 && eqN wd wd') with
      | false => rw [hc] at h; cases h
      | true =>
        rw [hc] at h
        cases h
        simp only [Bool.and_eq_true] at hc
        have := eqN_eq hc.1.1.1
        subst this
        have := eqN_eq hc.1.2
        subst this
        obtain ⟨h1, h2⟩ := base_csl H hob hx wd
        exact ⟨h1, h2, by simp [hob]⟩
    · cases h
  · cases h

theorem DVRel.one {S : Nat → Prop} {d : DV} {v : Value} (h : DVRel w S d v) : v.oneCell' = true := by
  cases d <;> simp only [DVRel] at h
  · subst h; rfl
  · subst h; rfl
  · subst h; rfl
  · obtain ⟨p, c, rfl, _⟩ := h; rfl
  · obtain ⟨p, c, rfl, _⟩ := h; rfl

theorem rows_one {n wd : Nat} {xs : List Value} {R : Nat → Nat → Value → Prop} (hw : 0 < wd) (hl : xs.length = n * wd) (h : Rows n wd xs R) (h1 : ∀ i j u, R i j u → u.oneCell' = true) : ∀ u ∈ xs, u.oneCell' = true := by
  intro u hu
  obtain ⟨q, hq, rfl⟩ := List.getElem_of_mem hu
  have hi : q / wd < n := by rw [Nat.div_lt_iff_lt_mul hw]; omega
  obtain ⟨v, hv, hr⟩ := h (q / wd) (q % wd) hi (Nat.mod_lt _ hw)
  rw [show q / wd * wd + q % wd = q by rw [Nat.mul_comm]; exact Nat.div_add_mod q wd, List.getElem?_eq_getElem hq] at hv
  cases hv
  exact h1 _ _ _ hr

theorem rd_rows {S : Nat → Prop} {wd : Nat} {n : Unit → Nat} {row : (Unit → Nat) → Nat → DV} {v : Value} (hw : 0 < wd) (h : DVRel w S (.sl wd n row) v) :
    ∃ news, news.length = n () * wd ∧ Rd w v (n ()) news ∧ Rows (n ()) wd news fun i j u => DVRel w S (row (fun _ => i) j) u := by
  simp only [DVRel] at h
  obtain ⟨p, c, rfl, hc, hr⟩ := h
  by_cases hn : n () = 0
  · exact ⟨[], by simp [hn], ⟨p, c, rfl, fun h => absurd hn h⟩, fun i j hi => by omega⟩
  · obtain ⟨b, o, rfl, _, _⟩ := hr 0 (by omega)
    have hcell : ∀ q, q < n () * wd → ∃ u, w.cell? ⟨b, o + q, none⟩ = some u := by
      intro q hq
      have hi : q / wd < n () := by rw [Nat.div_lt_iff_lt_mul hw]; omega
      obtain ⟨b', o', he, _, hcl⟩ := hr (q / wd) hi
      cases he
      obtain ⟨u, hu, _⟩ := hcl (q % wd) (Nat.mod_lt _ hw)
      rw [Nat.add_assoc, show q / wd * wd + q % wd = q by rw [Nat.mul_comm]; exact Nat.div_add_mod q wd] at hu
      exact ⟨u, hu⟩
    refine ⟨(List.range (n () * wd)).map fun q => (w.cell? ⟨b, o + q, none⟩).getD undef, by simp, ⟨_, c, rfl, fun _ => ⟨_, rfl, fun j u hj => ?_⟩⟩, fun i j hi hj => ?_⟩
    · rw [List.getElem?_map] at hj
      by_cases hlt : j < n () * wd
      · rw [List.getElem?_range hlt] at hj
        obtain ⟨u', hu'⟩ := hcell j hlt
        simp only [Option.map_some, hu', Option.getD_some, Option.some.injEq] at hj
        subst hj
        rw [add_at]; exact hu'
      · rw [List.getElem?_eq_none (by simp; omega)] at hj; cases hj
    · obtain ⟨b', o', he, _, hcl⟩ := hr i hi
      cases he
      obtain ⟨u, hu, hd⟩ := hcl j hj
      refine ⟨u, ?_, hd⟩
      rw [List.getElem?_map, List.getElem?_range (row_lt hi hj)]
      simp only [Option.map_some]
      rw [← Nat.add_assoc, hu]; rfl

theorem rd_ownS (H : Holds dl η G N get ob a w) {k T wd : Nat} {n : Unit → Nat} {row : (Unit → Nat) → Nat → DV} {v : Value} (hob : ob k = some (.arrS T wd n row)) (hx : SVRel η G w (.own k) v) :
    ∃ news, news.length = n () * wd ∧ Rd w v (n ()) news ∧ Rows (n ()) wd news fun i j u => DVRel w G (row (fun _ => i) j) u := by
  obtain ⟨o, hk, hr⟩ := obj_of H hob
  simp only [ObjRel] at hr
  obtain ⟨hd, hin, hq⟩ := hr
  simp only [SVRel] at hx
  obtain ⟨o', hk', _, hv⟩ := hx
  rw [hk] at hk'; cases hk'
  have hv := hv hd
  subst hv
  rcases hq with ⟨hv, hn, _⟩ | ⟨b, c, cs, T', hv, hm, hh, ⟨hs, hT⟩, hc, hcm, hQ⟩
  · exact ⟨[], by simp [hn], ⟨none, 0, by rw [hv, hn], fun h => absurd hn h⟩, fun i j hi => by omega⟩
  · have hle : n () * wd ≤ cs.size := by rw [hs]; exact Nat.mul_le_mul_right _ hc
    refine ⟨cs.toList.take (n () * wd), by simp; omega, ⟨_, c, hv, fun _ => ⟨_, rfl, fun j u hj => ?_⟩⟩, Rows.of_cur hQ rfl⟩
    rw [add_at, cell_cells hh, Nat.zero_add]
    rw [List.getElem?_take] at hj
    split at hj
    · simpa using hj
    · cases hj

/-- What is known of the types. -/
structure AppT (P : Program) (T e wd bytes : Nat) : Prop where
  ht : P.underlying T = some (.slice e)
  hi : ∃ i z, P.info? e = some i ∧ i.zero = some z ∧ z.cells.size = i.size ∧ i.size = wd ∧ i.bytes = bytes
  hw : 0 < wd
  hb : 0 < bytes

def AppRes (P : Program) (η : OEnv) (G : Nat → Prop) (w : World) (ob : Nat → Option TObj) (T U : Nat) (x y : Value) (sv : SV) (upd : Objs) : Prop :=
  ∃ v' w' η' G', (Builtin.append_ #[T, T] U #[x, y]).run P w = .ok v' w' ∧ After η G w ob sv upd v' η' G' w'

theorem sound_appS (H : Holds dl η G N get ob a w) {T U d e wd bytes : Nat} (hT : AppT P T e wd bytes) (hd : ob d = none) {v vy : Value} {b : BA} (hb : BAOk η G w ob e wd v b) {m : Unit → Nat} {new : (Unit → Nat) → Nat → DV} {news : List Value}
    (hl : news.length = m () * wd) (hrd : Rd w vy (m ()) news) (hrows : Rows (m ()) wd news fun i j u => DVRel w G (new (fun _ => i) j) u)
    {rd : List Nat} {sv : SV} {upd : Objs} {rd' : List Nat} {obl : Obl} (h : appS d e wd bytes rd m new b = .ok sv upd rd' obl) (ho : obl.holds) : AppRes P η G w ob T U v vy sv upd := by
  obtain ⟨i, z, hi, hz, hzs, hsz, hby⟩ := hT.hi
  have hw := hT.hw
  have hbp := hT.hb
  subst hsz; subst hby
  have h1 := rows_one hw hl hrows fun i j u h => DVRel.one h
  obtain ⟨p, c, rfl, hp⟩ := hrd
  cases b with
  | nil ks =>
    simp only [appS, OpRes.ok.injEq] at h; obtain ⟨rfl, rfl, _, rfl⟩ := h
    simp only [Obl.holds, lenOk] at ho
    obtain ⟨hown, hbase, hks⟩ := hb
    obtain ⟨v', w', hr, q1, q2, q3, q4, q5, q6, q7⟩ := run_append_sx T U e i z hT.ht hi hz hzs hw hbp v 0 [] hown p (m ()) c news hp hl h1 (by simpa [leN_iff, ltN_iff] using ho)
    simp only [Nat.zero_add, List.nil_append] at q6
    have tk := takes_app hbase q1 q2 q3 q4 q5 q6 q7 [] (by simp)
    refine ⟨v', w', _, G, hr, after_take H hd hks tk (fun hM => ?_) (own_rel (o := ⟨v', v'.ownBlock.toList, [], false⟩) (slice_one q6))⟩
    refine ⟨rfl, rfl, blk_of q6 [] fun cur ht => Rows.cur (fun i j hi hj => ?_) ht⟩
    obtain ⟨u, hu, hr⟩ := hrows i j hi hj
    exact ⟨u, hu, DVRel.mono hM.g hM.hg _ _ hr⟩
  | sh k n row =>
    simp only [appS, OpRes.ok.injEq] at h; obtain ⟨rfl, rfl, _, rfl⟩ := h
    simp only [Obl.holds, lenOk] at ho
    obtain ⟨xs, hown, hbase, hk, hold⟩ := hb
    obtain ⟨v', w', hr, q1, q2, q3, q4, q5, q6, q7⟩ := run_append_sx T U e i z hT.ht hi hz hzs hw hbp v (n ()) xs hown p (m ()) c news hp hl h1 ho.1
    have tk := takes_app hbase q1 q2 q3 q4 q5 q6 q7 [] (by simp)
    refine ⟨v', w', _, G, hr, after_take H hd (ks := [k]) (by simpa [leN_iff, ltN_iff] using hk) tk (fun hM => ?_) (own_rel (o := ⟨v', v'.ownBlock.toList, [], false⟩) (slice_one q6))⟩
    refine ⟨rfl, rfl, blk_of q6 [] fun cur ht => Rows.cur (Rows.app hown.1 hold hrows (fun i j u hi hj hr => ?_) (fun i j u hi hj hr => ?_)) ht⟩
    · have := ho.2.1 i hi j hj
      have e : appRow n row new (fun _ => i) j = row (fun _ => i) j := this
      rw [e]
      exact DVRel.mono hM.g hM.hg _ _ hr
    · have := ho.2.2 i hi j hj
      have e : appRow n row new (fun _ => n () + i) j = new (fun _ => i) j := this
      rw [e]
      exact DVRel.mono hM.g hM.hg _ _ hr
  | dp k n row => simp [appS] at h

theorem sound_appD (H : Holds dl η G N get ob a w) {T U d e wd bytes : Nat} (hT : AppT P T e wd bytes) (hd : ob d = none) {v vy : Value} {b : BA} (hb : BAOk η G w ob e wd v b) {vs : List Value} (hlen : vs.length = wd) (hrd : Rd w vy 1 vs)
    {cs : List SV} (hcs : SVRels η G w cs vs) {zs ds : List DV} {ks : List (List Nat)} (hdeep : deepCells ob zs cs = some (ds, ks))
    {rd : List Nat} {sv : SV} {upd : Objs} {rd' : List Nat} {obl : Obl} (h : appD d e wd bytes rd ds ks b = .ok sv upd rd' obl) (ho : obl.holds) : AppRes P η G w ob T U v vy sv upd := by
  obtain ⟨i, z, hi, hz, hzs, hsz, hby⟩ := hT.hi
  have hw := hT.hw
  have hbp := hT.hb
  subst hsz; subst hby
  obtain ⟨h1, hkob, Bl, hBl, hksl, hcell⟩ := deepCells_ok H hcs hdeep
  obtain ⟨p, c, rfl, hp⟩ := hrd
  -- what the cells' blocks are
  have hfrom : ∀ j, j < i.size → ∀ b ∈ Bl.getD j [], ∃ k ∈ flatN ks, k ∈ ks.getD j [] ∧ ∃ o, η k = some o ∧ b ∈ o.main ++ o.inner := by
    intro j hj b hb
    obtain ⟨k, hk, o, ho, hm⟩ := (hcell j vs[j] (List.getElem?_eq_getElem (by omega))).from_ b hb
    refine ⟨k, mem_flatN.2 ⟨ks.getD j [], ?_, hk⟩, hk, o, ho, hm⟩
    have hjk : j < ks.length := by omega
    rw [List.getD_eq_getElem?_getD, List.getElem?_eq_getElem hjk]
    exact List.getElem_mem hjk
  have hnd1 : (flatN ks).Nodup → ((List.range i.size).flatMap fun j => Bl.getD j []).Nodup := by
    intro hn
    refine flatMap_nodup (fun j hj => (hcell j vs[j] (List.getElem?_eq_getElem (by omega))).nd) fun j j' hj hj' hne b hb hb' => ?_
    obtain ⟨k, _, hk, o, ho, hm⟩ := hfrom j hj b hb
    obtain ⟨k', _, hk', o', ho', hm'⟩ := hfrom j' hj' b hb'
    by_cases e : k = k'
    · subst e; exact flat_disj hn j j' hne k hk hk'
    · exact H.sp.dj k o k' o' ho ho' e b hm hm'
  have hRow : ∀ (w' : World), (∀ b, (∃ k ∈ flatN ks, ∃ o, η k = some o ∧ b ∈ o.main ++ o.inner) → w'.heap[b]? = w.heap[b]?) → Rows 1 i.size vs fun q j u => ORel w' (oneRow ds (fun _ => q) j) u (Bl.getD j []) := by
    intro w' hw' q j hq hj
    have : q = 0 := by omega
    subst this
    have hv : vs[0 * i.size + j]? = some vs[j] := by rw [Nat.zero_mul, Nat.zero_add]; exact List.getElem?_eq_getElem (by omega)
    refine ⟨vs[j], hv, ?_⟩
    have := hcell j vs[j] (List.getElem?_eq_getElem (by omega))
    refine ORel.mono _ _ _ (fun b hb => hw' b ?_) this.rel
    obtain ⟨k, hk, _, o, ho, hm⟩ := hfrom j hj b hb
    exact ⟨k, hk, o, ho, hm⟩
  cases b with
  | nil k0 =>
    simp only [appD] at h
    have hnd := nodupN_iff (cond_ok h).1
    replace h := (cond_ok h).2
    simp only [OpRes.ok.injEq] at h; obtain ⟨rfl, rfl, _, rfl⟩ := h
    simp only [Obl.holds, lenOk] at ho
    obtain ⟨hown, hbase, hks⟩ := hb
    obtain ⟨v', w', hr, q1, q2, q3, q4, q5, q6, q7⟩ := run_append_sx T U e i z hT.ht hi hz hzs hw hbp v 0 [] hown p 1 c vs hp (by omega) h1 (by simpa [leN_iff, ltN_iff] using ho)
    simp only [Nat.zero_add, List.nil_append] at q6
    obtain ⟨n1, n2, n3⟩ := List.nodup_append.1 hnd
    -- taken blocks are not the base's
    have hne : ∀ b, (∃ k ∈ flatN ks, ∃ o, η k = some o ∧ b ∈ o.main ++ o.inner) → v.ownBlock ≠ some b := by
      rintro b ⟨k, hk, o, hko, hm⟩ e
      obtain ⟨k', hk', o', hko', hm'⟩ := hbase b e
      exact H.sp.dj k o k' o' hko hko' (fun e => n3 k' hk' k hk e.symm) b hm (by simp [hm'])
    have hin : ∀ b ∈ (List.range i.size).flatMap fun j => Bl.getD j [], ∃ k ∈ flatN ks, ∃ o, η k = some o ∧ b ∈ o.main ++ o.inner := by
      intro b hb
      obtain ⟨j, hj, hb⟩ := List.mem_flatMap.1 hb
      obtain ⟨k, hk, _, o, ho, hm⟩ := hfrom j (List.mem_range.1 hj) b hb
      exact ⟨k, hk, o, ho, hm⟩
    have hbase' : BaseOf η (k0 ++ flatN ks) v := fun g hg => by obtain ⟨k, hk, r⟩ := hbase g hg; exact ⟨k, by simp [hk], r⟩
    have tk := takes_app hbase' q1 q2 q3 q4 q5 q6 q7 ((List.range i.size).flatMap fun j => Bl.getD j []) (fun b hb => by
      obtain ⟨k, hk, o, ho, hm⟩ := hin b hb
      have hlt := (H.sp.lt k o ho b hm).1
      refine ⟨⟨by omega, .inr ⟨k, by simp [hk], o, ho, hm⟩⟩, fun e => ?_⟩
      rcases q7 b e with h | h
      · omega
      · exact hne b ⟨k, hk, o, ho, hm⟩ h)
    refine ⟨v', w', _, G, hr, after_take H hd (ks := k0 ++ flatN ks) (fun k hk => (List.mem_append.1 hk).elim (hks k) (hkob k)) tk (fun hM => ?_) (own_rel (o := ⟨v', v'.ownBlock.toList, _, false⟩) (slice_one q6))⟩
    refine ⟨rfl, fun _ j => Bl.getD j [], fun i' j b _ hj hb => List.mem_flatMap.2 ⟨j, List.mem_range.2 hj, hb⟩, ?_, blk_of q6 _ fun cur ht => Rows.cur (hRow w' fun b hb => ?_) ht⟩
    · simpa using hnd1 n2
    · obtain ⟨k, hk, o, ho, hm⟩ := hb
      exact q5 b (H.sp.lt k o ho b hm).1 (hne b ⟨k, hk, o, ho, hm⟩)
  | dp k n row =>
    simp only [appD] at h
    have hnd := nodupN_iff (cond_ok h).1
    replace h := (cond_ok h).2
    simp only [OpRes.ok.injEq] at h; obtain ⟨rfl, rfl, _, rfl⟩ := h
    simp only [Obl.holds, lenOk] at ho
    obtain ⟨xs, o, hown, hbase, hk, hη, Bs, hB, hN, hold⟩ := hb
    obtain ⟨v', w', hr, q1, q2, q3, q4, q5, q6, q7⟩ := run_append_sx T U e i z hT.ht hi hz hzs hw hbp v (n ()) xs hown p 1 c vs hp (by omega) h1 ho.1
    obtain ⟨n1, n2⟩ := List.nodup_cons.1 hnd
    have hbk : ∀ b, v.ownBlock = some b → b ∈ o.main := by
      intro b e
      obtain ⟨k', hk', o', hko', hm'⟩ := hbase b e
      simp at hk'; subst hk'
      rw [hη] at hko'; cases hko'
      simp [hm']
    have hne : ∀ b, (∃ k ∈ flatN ks, ∃ o, η k = some o ∧ b ∈ o.main ++ o.inner) → v.ownBlock ≠ some b := by
      rintro b ⟨k', hk', o', hko', hm'⟩ e
      exact H.sp.dj k' o' k o hko' hη (fun e => n1 (e ▸ hk')) b hm' (by simp [hbk b e])
    have hin : ∀ b ∈ (List.range i.size).flatMap fun j => Bl.getD j [], ∃ k ∈ flatN ks, ∃ o, η k = some o ∧ b ∈ o.main ++ o.inner := by
      intro b hb
      obtain ⟨j, hj, hb⟩ := List.mem_flatMap.1 hb
      obtain ⟨k, hk, _, o, ho, hm⟩ := hfrom j (List.mem_range.1 hj) b hb
      exact ⟨k, hk, o, ho, hm⟩
    have hbase' : BaseOf η (k :: flatN ks) v := fun g hg => by obtain ⟨k', hk', r⟩ := hbase g hg; simp at hk'; subst hk'; exact ⟨k', by simp, r⟩
    have tk := takes_app hbase' q1 q2 q3 q4 q5 q6 q7 (o.inner ++ (List.range i.size).flatMap fun j => Bl.getD j []) (fun b hb => by
      rcases List.mem_append.1 hb with hb | hb
      · have hlt := (H.sp.lt k o hη b (by simp [hb])).1
        refine ⟨⟨by omega, .inr ⟨k, by simp, o, hη, by simp [hb]⟩⟩, fun e => ?_⟩
        rcases q7 b e with h | h
        · omega
        · exact H.sp.mi k o hη b (hbk b h) hb
      · obtain ⟨k', hk', o', ho', hm⟩ := hin b hb
        have hlt := (H.sp.lt k' o' ho' b hm).1
        refine ⟨⟨by omega, .inr ⟨k', by simp [hk'], o', ho', hm⟩⟩, fun e => ?_⟩
        rcases q7 b e with h | h
        · omega
        · exact hne b ⟨k', hk', o', ho', hm⟩ h)
    have hkeepO : ∀ b ∈ o.inner, w'.heap[b]? = w.heap[b]? := fun b hb => q5 b (H.sp.lt k o hη b (by simp [hb])).1 fun e => H.sp.mi k o hη b (hbk b e) hb
    refine ⟨v', w', _, G, hr, after_take H hd (ks := k :: flatN ks) (fun k' hk' => (List.mem_cons.1 hk').elim (fun e => e ▸ hk) (hkob k')) tk (fun hM => ?_) (own_rel (o := ⟨v', v'.ownBlock.toList, _, false⟩) (slice_one q6))⟩
    refine ⟨rfl, fun i' j => if i' < n () then Bs i' j else Bl.getD j [], fun i' j b _ hj hb => ?_, ?_, blk_of q6 _ fun cur ht => Rows.cur (Rows.app hown.1 hold (hRow w' fun b hb => ?_) (fun i' j u hi hj hr => ?_) (fun i' j u hi hj hr => ?_)) ht⟩
    · dsimp only at hb
      split at hb
      · rename_i hi; exact List.mem_append_left _ (hB i' j b hi hj hb)
      · exact List.mem_append_right _ (List.mem_flatMap.2 ⟨j, List.mem_range.2 hj, hb⟩)
    · show ((List.range (n () + 1)).flatMap _).Nodup
      rw [List.range_succ, List.flatMap_append, List.flatMap_singleton]
      have e1 : ((List.range (n ())).flatMap fun i' => (List.range i.size).flatMap fun j => if i' < n () then Bs i' j else Bl.getD j []) = (List.range (n ())).flatMap fun i' => (List.range i.size).flatMap (Bs i') := by
        refine congrArg List.flatten (List.map_congr_left fun i' hi' => ?_)
        have := List.mem_range.1 hi'
        simp [this]
      have e2 : ((List.range i.size).flatMap fun j => if n () < n () then Bs (n ()) j else Bl.getD j []) = (List.range i.size).flatMap fun j => Bl.getD j [] := by simp
      rw [e2]
      refine List.nodup_append.2 ⟨by rw [e1]; exact hN, hnd1 n2, fun b hb c hc e => ?_⟩
      subst e
      rw [e1] at hb
      obtain ⟨i', hi', hb⟩ := List.mem_flatMap.1 hb
      obtain ⟨j, hj, hb⟩ := List.mem_flatMap.1 hb
      have hbi := hB i' j b (List.mem_range.1 hi') (List.mem_range.1 hj) hb
      obtain ⟨k', hk', o', ho', hm⟩ := hin b hc
      exact H.sp.dj k' o' k o ho' hη (fun e => n1 (e ▸ hk')) b hm (by simp [hbi])
    · obtain ⟨k', hk', o', ho', hm⟩ := hb
      exact q5 b (H.sp.lt k' o' ho' b hm).1 (hne b ⟨k', hk', o', ho', hm⟩)
    · have e : appRow n row (oneRow ds) (fun _ => i') j = row (fun _ => i') j := ho.2.1 i' hi j hj
      simp only [if_pos hi]
      rw [e]
      exact ORel.mono _ _ _ (fun b hb => hkeepO b (hB i' j b hi hj hb)) hr
    · have e : appRow n row (oneRow ds) (fun _ => n () + i') j = oneRow ds (fun _ => i') j := ho.2.2 i' hi j hj
      dsimp only
      rw [if_neg (by omega), e]
      exact hr
  | sh k n row => simp [appD] at h
end
end Go.SX
