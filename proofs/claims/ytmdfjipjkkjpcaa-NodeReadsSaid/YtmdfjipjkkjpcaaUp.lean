/- Texts put together: Bb, Bc, Bd, Ws, Es, Be, Tm. -/
import Derived.Test.YtmdfjipjkkjpcaaUo
import Derived.Test.YtmdfjipjkkjpcaaUl
/- The book: a list of entries handed in becomes known, and stays readable. -/
namespace Go.Proofs.Ytmdfjipjkkjpcaa
open Go.SX

/-- A list of entries, known: its header, its blocks; the headers of its keys and values. -/
structure OneE (es : List Ent) (kv vv : Nat → Value) (x : Value × Mem) : Prop where
  lst : (x.1 = nilV ∧ es.length = 0) ∨ ∃ b c cs, x.1 = .slice (some ⟨b, 0, none⟩) es.length c ∧ (b, 74, cs) ∈ x.2 ∧ cs.length = c * 4 ∧ es.length ≤ c ∧ c ≤ maxLen ∧ ∀ i, i < es.length → cs[i * 4 + 0]? = some (kv i) ∧ cs[i * 4 + 1]? = some (vv i)
  key : ∀ i, i < es.length → LisM x.2 (kv i) (es.getD i default).key.length
  val : ∀ i, i < es.length → LisM x.2 (vv i) (es.getD i default).val.length
  dist : (((List.range es.length).flatMap fun i => [kv i, vv i]).filterMap Value.ownBlock).Nodup
def knownE (es : List Ent) (x : Value × Mem) : TObj := .kn (some (entsDV es)) (fun _ => knΦ x.1 x.2)

theorem dedup (l : List Nat) : ∃ l' : List Nat, (∀ b, b ∈ l' ↔ b ∈ l) ∧ l'.Nodup := by
  induction l with
  | nil => exact ⟨[], fun _ => Iff.rfl, .nil⟩
  | cons a l ih =>
    obtain ⟨l', h1, h2⟩ := ih
    by_cases h : a ∈ l
    · exact ⟨l', fun b => by rw [h1, List.mem_cons]; exact ⟨.inr, fun hb => hb.elim (fun e => e ▸ h) id⟩, h2⟩
    · exact ⟨a :: l', fun b => by rw [List.mem_cons, List.mem_cons, h1], List.nodup_cons.2 ⟨fun hb => h ((h1 a).1 hb), h2⟩⟩

theorem own_flat {kv vv : Nat → Value} {Bs : Nat → Nat → List Nat} : ∀ (l : List Nat), (∀ i ∈ l, (kv i).ownBlock.toList = Bs i 0 ∧ (vv i).ownBlock.toList = Bs i 1) →
    List.Sublist ((l.flatMap fun i => [kv i, vv i]).filterMap Value.ownBlock) (l.flatMap fun i => (List.range 4).flatMap (Bs i))
  | [], _ => List.Sublist.refl _
  | i :: l, h => by
      obtain ⟨h1, h2⟩ := h i List.mem_cons_self
      rw [List.flatMap_cons, List.flatMap_cons, List.filterMap_append]
      refine List.Sublist.append ?_ (own_flat l fun j hj => h j (List.mem_cons_of_mem _ hj))
      have e1 : [kv i, vv i].filterMap Value.ownBlock = Bs i 0 ++ Bs i 1 := by
        rw [← h1, ← h2]
        cases h3 : (kv i).ownBlock <;> cases h4 : (vv i).ownBlock <;> simp [h3, h4]
      have e2 : (List.range 4).flatMap (Bs i) = Bs i 0 ++ Bs i 1 ++ (Bs i 2 ++ Bs i 3) := by
        show Bs i 0 ++ (Bs i 1 ++ (Bs i 2 ++ (Bs i 3 ++ []))) = _
        simp
      rw [e1, e2]
      exact List.sublist_append_left _ _

theorem arrD_known {η : OEnv} {G : Nat → Prop} {w : World} {es : List Ent} {o : OInfo} (h : ObjRel η G w (.arrD 74 4 (fun _ => es.length) (lrow encE fun _ => es)) o) (hmi : ∀ b ∈ o.main, b ∉ o.inner) :
    ∃ more kv vv, OneE es kv vv (o.val, more) ∧ ObjRel η G w (knownE es (o.val, more)) o := by
  classical
  obtain ⟨h1, hty, Bs, hB, hN, hq⟩ := h
  have hty : ∀ b ∈ o.inner, ∃ cs, w.heap[b]? = some (.cells cs byteT (0, 0)) := hty rfl
  obtain ⟨inn, hi1, hi2⟩ := dedup o.inner
  obtain ⟨cf, hcf⟩ : ∃ cf : Nat → List Value, ∀ b ∈ o.inner, HasRow w b 5 (cf b) := by
    refine ⟨fun b => if hb : ∃ cs, w.heap[b]? = some (.cells cs byteT (0, 0)) then hb.choose.toList else [], fun b hb => ?_⟩
    have hb := hty b hb
    show w.heap[b]? = some (.cells ⟨if hb : ∃ cs, w.heap[b]? = some (.cells cs byteT (0, 0)) then hb.choose.toList else []⟩ 5 (0, 0))
    rw [dif_pos hb]
    exact hb.choose_spec
  have hlis : ∀ {more : Mem} {v : Value} {bs : Unit → List UInt8} {B : List Nat}, (∀ b ∈ o.inner, (b, 5, cf b) ∈ more) → (∀ b ∈ B, b ∈ o.inner) → ORel w (.bytes bs) v B → LisM more v (bs ()).length ∧ v.ownBlock.toList = B := by
    intro more v bs B hm hB h
    rcases h with ⟨rfl, h0, rfl⟩ | ⟨b, c, cs, T, rfl, hh, q1, q2, q3, q4, rfl⟩
    · exact ⟨.inl ⟨rfl, by rw [h0]; rfl⟩, rfl⟩
    · have hb := hB b (by simp)
      have hr := hcf b hb
      unfold HasRow at hr
      rw [hh] at hr
      have e : cs.toList = cf b := by
        simp only [Option.some.injEq, Obj.cells.injEq] at hr
        have := hr.1; rw [this]
      exact ⟨.inr ⟨b, c, cf b, rfl, hm b hb, by rw [← e]; simpa using q1, q2, q3⟩, rfl⟩
  have hdv : ∀ w' : World, (∀ b ∈ o.main ++ o.inner, w'.heap[b]? = w.heap[b]?) → DVRel w' (fun b => b ∈ o.main ++ o.inner) (entsDV es) o.val := by
    intro w' hw'
    rcases hq with ⟨q1, q2, _⟩ | ⟨b, c, cs, T', q1, q2, q3, q4, q5, _, q6⟩
    · exact ⟨none, 0, by rw [q1, q2], by omega, fun i hi => by omega⟩
    · refine ⟨_, c, q1, q5, fun i hi => ⟨b, 0, rfl, by simp [q2], fun j hj => ?_⟩⟩
      obtain ⟨u, hu, hd⟩ := q6 i j hi hj
      have hh : w'.heap[b]? = some (.cells cs T'.1 T'.2) := by rw [hw' b (by simp [q2])]; exact q3
      exact ⟨u, by rw [Nat.zero_add, cell_cells hh]; exact hu, ORel.toDV _ _ _ (fun b' hb => by simp [hB i j b' hi hj hb]) (ORel.mono _ _ _ (fun b' hb => hw' b' (by simp [hB i j b' hi hj hb])) hd)⟩
  have inner_rows : ∀ (w' : World), (∀ b ∈ o.main ++ o.inner, w'.heap[b]? = w.heap[b]?) → ∀ b ∈ o.inner, HasRow w' b 5 (cf b) := fun w' hw' b hb => by
    unfold HasRow; rw [hw' b (by simp [hb])]; exact hcf b hb
  have nm : ∀ l : List Nat, (l.map fun b => ((b, 5, cf b) : Nat × Nat × List Value)).map (·.1) = l := fun l => by rw [List.map_map]; exact List.map_id' l
  have hq2 := hq
  rcases hq with ⟨q1, q2, q3⟩ | ⟨b, c, cs, T, q1, q2, q3, ⟨q4, q5⟩, q6, q7, q8⟩
  · have hn0 : es.length = 0 := q2
    refine ⟨inn.map fun b => (b, 5, cf b), fun _ => nilV, fun _ => nilV, ⟨.inl ⟨q1, hn0⟩, fun i hi => by omega, fun i hi => by omega, by rw [hn0]; simp⟩, ⟨h1, fun h => by cases h⟩, fun w' hw' => ⟨⟨rfl, fun b => ?_, ?_, fun p hp => ?_⟩, fun x hx => by cases hx; exact hdv w' hw'⟩⟩
    · rw [nm, q3, List.nil_append, hi1]
    · rw [nm]; exact hi2
    · obtain ⟨b, hb, rfl⟩ := List.mem_map.1 hp
      exact inner_rows w' hw' b ((hi1 b).1 hb)
  · have hT := q5.resolve_left (by decide)
    subst hT
    obtain ⟨more, hmore⟩ : ∃ more : Mem, more = (b, 74, cs.toList) :: inn.map fun b => (b, 5, cf b) := ⟨_, rfl⟩
    have hm5 : ∀ b' ∈ o.inner, (b', 5, cf b') ∈ more := fun b' hb' => by
      rw [hmore]; exact List.mem_cons_of_mem _ (List.mem_map.2 ⟨b', (hi1 b').2 hb', rfl⟩)
    have hcell : ∀ i j, i < es.length → j < 4 → ∃ u, cs.toList[i * 4 + j]? = some u ∧ cs.toList.getD (i * 4 + j) nilV = u ∧ ORel w (lrow encE (fun _ => es) (fun _ => i) j) u (Bs i j) := fun i j hi hj => by
      obtain ⟨u, hu, hr⟩ := q8 i j hi hj
      have hu : cs.toList[i * 4 + j]? = some u := by simpa using hu
      exact ⟨u, hu, by rw [List.getD_eq_getElem?_getD, hu]; rfl, hr⟩
    refine ⟨more, fun i => cs.toList.getD (i * 4 + 0) nilV, fun i => cs.toList.getD (i * 4 + 1) nilV, ⟨.inr ⟨b, c, cs.toList, q1, by rw [hmore]; exact List.mem_cons_self, by simpa using q4, q6, q7, fun i hi => ?_⟩, fun i hi => ?_, fun i hi => ?_, ?_⟩, ⟨h1, fun h => by cases h⟩, fun w' hw' => ⟨⟨rfl, fun b' => ?_, ?_, fun p hp => ?_⟩, fun x hx => by cases hx; exact hdv w' hw'⟩⟩
    · obtain ⟨u, e1, e2, _⟩ := hcell i 0 hi (by decide)
      obtain ⟨u', e1', e2', _⟩ := hcell i 1 hi (by decide)
      exact ⟨by rw [e1, e2], by rw [e1', e2']⟩
    · obtain ⟨u, e1, e2, hr⟩ := hcell i 0 hi (by decide)
      show LisM more (cs.toList.getD (i * 4 + 0) nilV) _
      rw [e2]
      exact (hlis hm5 (fun b' hb' => hB i 0 b' hi (by decide) hb') hr).1
    · obtain ⟨u, e1, e2, hr⟩ := hcell i 1 hi (by decide)
      show LisM more (cs.toList.getD (i * 4 + 1) nilV) _
      rw [e2]
      exact (hlis hm5 (fun b' hb' => hB i 1 b' hi (by decide) hb') hr).1
    · refine List.Nodup.sublist (own_flat (Bs := Bs) _ fun i hi => ?_) hN
      have hi := List.mem_range.1 hi
      obtain ⟨u, e1, e2, hr⟩ := hcell i 0 hi (by decide)
      obtain ⟨u', e1', e2', hr'⟩ := hcell i 1 hi (by decide)
      refine ⟨?_, ?_⟩
      · show (cs.toList.getD (i * 4 + 0) nilV).ownBlock.toList = _
        rw [e2]; exact (hlis hm5 (fun b' hb' => hB i 0 b' hi (by decide) hb') hr).2
      · show (cs.toList.getD (i * 4 + 1) nilV).ownBlock.toList = _
        rw [e2']; exact (hlis hm5 (fun b' hb' => hB i 1 b' hi (by decide) hb') hr').2
    · rw [hmore, List.map_cons, nm, q2, List.mem_append, List.mem_singleton, List.mem_cons, hi1]
    · rw [hmore, List.map_cons, nm]
      exact List.nodup_cons.2 ⟨fun hb => hmi b (by rw [q2]; simp) ((hi1 b).1 hb), hi2⟩
    · rw [hmore] at hp
      rcases List.mem_cons.1 hp with rfl | hp
      · unfold HasRow
        rw [hw' b (by rw [q2]; simp)]
        exact q3
      · obtain ⟨b', hb', rfl⟩ := List.mem_map.1 hp
        exact inner_rows w' hw' b' ((hi1 b').1 hb')
end Go.Proofs.Ytmdfjipjkkjpcaa

/- The book: Entries. -/
namespace Go.SX
section
variable {P : Program} {f : Nat}
theorem nm_row {w w' : World} {b T : Nat} {cs : List Value} (h : HasRow w b T cs) (h' : HasRow w' b T cs) : w'.heap[b]? = w.heap[b]? := by unfold HasRow at h h'; rw [h, h']

/-- An object with blocks within that is only looked at: as raw memory. -/
theorem specG_kn {svs svs2 : List SV} {X : Type} {r : X → SV} {objs objs2 : Objs} {objs' objs2' : X → Objs} {k : Nat} {d : Option DV} {hl : Value} {more : Mem} (h : SpecG P f svs objs X r objs')
    (h1 : lookN k objs = some (.cust none (fun _ => memΦ hl more))) (h1' : ∀ x, lookN k (objs' x) = some (.cust none (fun _ => memΦ hl more)))
    (h2 : ∀ j, lookN j objs2 = if j = k then some (.kn d (fun _ => knΦ hl more)) else lookN j objs) (h2' : ∀ x j, lookN j (objs2' x) = if j = k then some (.kn d (fun _ => knΦ hl more)) else lookN j (objs' x))
    (hc : ∀ j Y, lookN j objs = some Y → Cst Y) (hc' : ∀ x j Y, lookN j (objs' x) = some Y → Cst Y)
    (hsv : ∀ (η : OEnv) (G : Nat → Prop) (w : World) (vs : List Value) (o : OInfo), SVRels η G w svs2 vs → SVRels (fun j => if j = k then some o else η j) G w svs vs)
    (hr : ∀ (x : X) (η η' : OEnv) (G : Nat → Prop) (w : World) (v : Value), SVRel η G w (r x) v → SVRel η' G w (r x) v) : SpecG P f svs2 objs2 X r objs2' := by
  intro η G vs w hsep hob hs
  have hobk := hob k
  rw [h2 k, if_pos rfl] at hobk
  cases hok : η k with
  | none => rw [hok] at hobk; exact hobk.elim
  | some o =>
  rw [hok] at hobk
  obtain ⟨d1, d2⟩ := hobk
  obtain ⟨n1, n2, n3, n4⟩ := (d2 w fun _ _ => rfl).1
  obtain ⟨o', ho'⟩ : ∃ o' : OInfo, o' = ⟨hl, more.map (·.1), [], false⟩ := ⟨_, rfl⟩
  have hob' : ∀ b, b ∈ o'.main ++ o'.inner ↔ b ∈ o.main ++ o.inner := fun b => by rw [n2 b, ho', List.append_nil]
  have hin : ∀ {j : Nat} {oj : OInfo}, (if j = k then some o' else η j) = some oj → ∃ o0, η j = some o0 ∧ ∀ b, b ∈ oj.main ++ oj.inner ↔ b ∈ o0.main ++ o0.inner := by
    intro j oj hj
    by_cases e : j = k
    · rw [if_pos e] at hj; cases hj; exact ⟨o, e ▸ hok, hob'⟩
    · rw [if_neg e] at hj; exact ⟨oj, hj, fun _ => Iff.rfl⟩
  have hsep1 : Sep (fun j => if j = k then some o' else η j) G w := by
    refine ⟨fun j oj hj b hb => ?_, fun j oj j' oj' hj hj' hne b hb hb' => ?_, fun j oj hj b hb => ?_, hsep.glt⟩
    · obtain ⟨o0, h0, e0⟩ := hin hj
      exact hsep.lt j o0 h0 b ((e0 b).1 hb)
    · obtain ⟨o0, h0, e0⟩ := hin hj
      obtain ⟨o1, h1, e1⟩ := hin hj'
      exact hsep.dj j o0 j' o1 h0 h1 hne b ((e0 b).1 hb) ((e1 b).1 hb')
    · by_cases e : j = k
      · have hj : (if j = k then some o' else η j) = some oj := hj
        rw [if_pos e] at hj; cases hj; rw [ho']; simp
      · have hj : (if j = k then some o' else η j) = some oj := hj
        rw [if_neg e] at hj; exact hsep.mi j oj hj b hb
  refine (h (fun j => if j = k then some o' else η j) G vs w hsep1 (fun j => ?_) (hsv η G w vs o' hs)).mono fun v w' ⟨x, η', G', q1, q2, q3, q4⟩ => ?_
  · show ObjOpt _ G w _ (if j = k then some o' else η j)
    by_cases e : j = k
    · subst e
      rw [h1, if_pos rfl]
      refine ⟨by rw [ho'], by rw [ho'], fun w2 hw2 => ⟨⟨by rw [ho'], by rw [ho'], by rw [ho']; exact n3, fun p hp => ?_⟩, fun x hx => by cases hx⟩⟩
      unfold HasRow
      rw [hw2 _ (by rw [ho']; exact List.mem_map.2 ⟨p, hp, rfl⟩)]
      exact n4 p hp
    · rw [if_neg e]
      have := hob j
      rw [h2 j, if_neg e] at this
      exact Cst.opt (hc j) this
  · have hk' := q2 k
    rw [h1' x] at hk'
    cases hok' : η' k with
    | none => rw [hok'] at hk'; exact hk'.elim
    | some ok' =>
    rw [hok'] at hk'
    obtain ⟨p1, p2, p3⟩ := hk'
    obtain ⟨m1, m2, m3, m4⟩ := (p3 w' fun _ _ => rfl).1
    have hblk : ∀ b, b ∈ ok'.main ++ ok'.inner ↔ b ∈ o.main ++ o.inner := fun b => by rw [n2 b, p2, List.append_nil, m2]
    have hsame : ∀ b ∈ o.main ++ o.inner, w'.heap[b]? = w.heap[b]? := fun b hb => by
      obtain ⟨p, hp, rfl⟩ := List.mem_map.1 ((n2 b).1 hb)
      exact nm_row (n4 p hp) (m4 p hp)
    have hout : ∀ {j : Nat} {oj : OInfo}, (if j = k then some o else η' j) = some oj → ∃ o0, η' j = some o0 ∧ ∀ b, b ∈ oj.main ++ oj.inner ↔ b ∈ o0.main ++ o0.inner := by
      intro j oj hj
      by_cases e : j = k
      · rw [if_pos e] at hj; cases hj; exact ⟨ok', e ▸ hok', fun b => (hblk b).symm⟩
      · rw [if_neg e] at hj; exact ⟨oj, hj, fun _ => Iff.rfl⟩
    refine ⟨x, fun j => if j = k then some o else η' j, G', hr x _ _ _ _ _ q1, fun j => ?_, ⟨fun j oj hj b hb => ?_, fun j oj j' oj' hj hj' hne b hb hb' => ?_, fun j oj hj b hb => ?_, q3.glt⟩, ⟨q4.os, q4.tape, q4.out, q4.size, fun b hb hn => ?_, fun j oj hj => ?_, q4.g, fun b hb => ?_, fun j oj hj b hb => ?_⟩⟩
    · rw [h2' x j]
      show ObjOpt _ G' w' _ (if j = k then some o else η' j)
      by_cases e : j = k
      · rw [if_pos e, if_pos e]
        exact ⟨d1, fun w2 hw2 => d2 w2 fun b hb => (hw2 b hb).trans (hsame b hb)⟩
      · rw [if_neg e, if_neg e]; exact Cst.opt (hc' x j) (q2 j)
    · obtain ⟨o0, h0, e0⟩ := hout hj
      exact q3.lt j o0 h0 b ((e0 b).1 hb)
    · obtain ⟨o0, h0, e0⟩ := hout hj
      obtain ⟨o1, h1, e1⟩ := hout hj'
      exact q3.dj j o0 j' o1 h0 h1 hne b ((e0 b).1 hb) ((e1 b).1 hb')
    · have hj : (if j = k then some o else η' j) = some oj := hj
      by_cases e : j = k
      · rw [if_pos e] at hj; cases hj; exact hsep.mi k o hok b hb
      · rw [if_neg e] at hj; exact q3.mi j oj hj b hb
    · refine q4.keep b hb fun j oj hj hm => ?_
      obtain ⟨o0, h0, e0⟩ := hin hj
      exact hn j o0 h0 ((e0 b).1 hm)
    · by_cases e : j = k
      · subst e
        rw [hok] at hj; cases hj
        exact ⟨o, by simp, fun hd => ⟨hd, rfl, Ext.refl _, fun b hb => ⟨hb, hsame b (by simp [hb])⟩⟩⟩
      · obtain ⟨o2, h1, h2⟩ := q4.obj j oj (by rw [if_neg e]; exact hj)
        exact ⟨o2, by rw [if_neg e]; exact h1, h2⟩
    · rcases q4.g' b hb with h | h | ⟨j0, o0, h0, hb0⟩
      · exact .inl h
      · exact .inr (.inl h)
      · obtain ⟨o1, h1, e1⟩ := hin h0
        exact .inr (.inr ⟨j0, o1, h1, (e1 b).1 hb0⟩)
    · obtain ⟨o0, h0, e0⟩ := hout hj
      rcases q4.blk j o0 h0 b ((e0 b).1 hb) with h | ⟨j1, o1, h1, hb1⟩
      · exact .inl h
      · obtain ⟨o2, h2, e2⟩ := hin h1
        exact .inr ⟨j1, o2, h2, (e2 b).1 hb1⟩

/-- What is known of the memory that comes out is a ghost; other objects beside it. -/
theorem specG_outs {svs : List SV} {objs rest : Objs} {r : SV} {v0 : Value} {Q : Mem → Prop} (h : SpecX P f svs objs r ((1000, .cust none (fun _ => exΦ v0 Q)) :: rest)) : SpecG P f svs objs {H : Mem // Q H} (fun _ => r) (fun x => (1000, .cust none (fun _ => memΦ v0 x.1)) :: rest) := by
  intro η G vs w hsep hob hs
  refine (h η G vs w hsep hob hs).mono fun v w' ⟨η', G', h1, h2, h3⟩ => ?_
  have hk := h2 1000
  simp only [look_cons, if_true] at hk
  cases ho : η' 1000 with
  | none => rw [ho] at hk; exact hk.elim
  | some o =>
    rw [ho] at hk
    obtain ⟨H, q1, q2, q3⟩ := cust_open (η := η') (G := G') ex_id hk
    refine ⟨⟨H, q1⟩, η', G', h1, fun j => ?_, h3⟩
    have hj := h2 j
    rw [look_cons] at hj ⊢
    by_cases e : j = 1000
    · subst e; rw [if_pos rfl, ho]; exact q3
    · rw [if_neg e] at hj ⊢; exact hj
end
end Go.SX

/- The book: Entries, the walk. -/
namespace Go.Proofs.Ytmdfjipjkkjpcaa
open Go.SX

theorem OneE.shp {es : List Ent} {kv vv : Nat → Value} {x : Value × Mem} (h : OneE es kv vv x) : Shp x.1 es.length := by
  rcases h.lst with ⟨q1, q2⟩ | ⟨b, c, cs, q1, _⟩
  · rw [q1, q2]; exact .nil
  · rw [q1]; exact .blk
theorem LisM.one {H : Mem} {h : Value} {n : Nat} (hl : LisM H h n) : h.oneCell' = true := by
  rcases hl with ⟨rfl, _⟩ | ⟨b, c, cs, rfl, _⟩ <;> rfl
theorem eField {o b f : Nat} {off : Nat} {v0 : Value} {H : Mem} (hf : f < 4) (h32 : f < 32) (hoff : (nthD [((27 : Nat), (0 : Nat)), (27, 1), (72, 2), (72, 3)] f (0, 0)).2 = off) : ConG (rawC 8 (74 * 32 + f)) [.rv 1000 fun _ => .pointer (some ⟨b, o, none⟩)] [(1000, .cust none (fun _ => memΦ v0 H))] Unit (fun _ => .rv 1000 fun _ => .pointer (some ⟨b, o + off, none⟩)) (fun _ => [(1000, .cust none (fun _ => memΦ v0 H))]) :=
  ⟨mem_field eok (S := 74) (f := f) (b := b) (o := o) (off := off) (a := .rv 1000 fun _ => .pointer (some ⟨b, o, none⟩)) rfl rfl hf h32 hoff (.inl rfl)⟩
theorem OneE.load {es : List Ent} {kv vv : Nat → Value} {hl v0 : Value} {more : Mem} (h : OneE es kv vv (hl, more)) {i : Nat} (hi : i < es.length) :
    ConG (rawC 0 27) [.rv 1000 fun _ => .pointer (some ⟨blkOf hl, i * 4 + 0, none⟩)] [(1000, .cust none (fun _ => memΦ v0 more))] Unit (fun _ => .rv 1000 fun _ => kv i) (fun _ => [(1000, .cust none (fun _ => memΦ v0 more))]) ∧
    ConG (rawC 0 27) [.rv 1000 fun _ => .pointer (some ⟨blkOf hl, i * 4 + 1, none⟩)] [(1000, .cust none (fun _ => memΦ v0 more))] Unit (fun _ => .rv 1000 fun _ => vv i) (fun _ => [(1000, .cust none (fun _ => memΦ v0 more))]) := by
  rcases h.lst with ⟨_, q2⟩ | ⟨b, c, cs, q1, q2, q3, q4, q5, q6⟩
  · omega
  · have q1 : hl = _ := q1
    have hb : blkOf hl = b := by rw [q1]; rfl
    rw [hb]
    exact ⟨⟨mem_load eok (T := 27) (b := b) (o := i * 4 + 0) (u := kv i) (a := .rv 1000 fun _ => .pointer (some ⟨b, i * 4 + 0, none⟩)) (r := .rv 1000 fun _ => kv i) (.inl rfl) rfl rfl q2 (q6 i hi).1 fun η G w => ⟨rfl, (h.key i hi).one⟩⟩,
      ⟨mem_load eok (T := 27) (b := b) (o := i * 4 + 1) (u := vv i) (a := .rv 1000 fun _ => .pointer (some ⟨b, i * 4 + 1, none⟩)) (r := .rv 1000 fun _ => vv i) (.inl rfl) rfl rfl q2 (q6 i hi).2 fun η G w => ⟨rfl, (h.val i hi).one⟩⟩⟩

/-- The headers of a list's keys and values. -/
def kvs (kv vv : Nat → Value) (n : Nat) : List Value := (List.range n).flatMap fun i => [kv i, vv i]
theorem kvs_next (kv vv : Nat → Value) (n : Nat) : kvs kv vv (n + 1) = kvs kv vv n ++ [kv n, vv n] := by unfold kvs; rw [List.range_succ, List.flatMap_append]; rfl
theorem kvs_len (kv vv : Nat → Value) (n : Nat) : (kvs kv vv n).length = 2 * n := by
  induction n with
  | zero => rfl
  | succ n ih => rw [kvs_next, List.length_append, ih]; simp; omega

theorem csl_keep {k j w n : Nat} (hk : k ≠ j) {η : OEnv} {G : Nat → Prop} {w' : World} {v : Value} (h : SVRel η G w' (.csl j w n) v) : SVRel (fun i => if i = k then none else η i) G w' (.csl j w n) v := by
  obtain ⟨o', h1, h2⟩ := h
  exact ⟨o', by show (if j = k then none else η j) = some o'; rw [if_neg fun e => hk e.symm]; exact h1, h2⟩

/-- A header more among those of lists of entries; another object stays. -/
theorem pute_c {H r : Mem} {he : List Value} {bb c' : Nat} {e v0 hl : Value} {A : TObj} (hA : Frm A) (hek : SlM H 22 1 e he.length c' he) (hone : hl.oneCell' = true) (hlen : he.length < 1000000) :
    ConG (rawC 3 53) [.rv 1000 fun _ => e, .csl 1001 1 1] [(1000, .cust none (fun _ => memΦ v0 H)), (1001, .cells 22 [.rv 1002 fun _ => hl]), (1002, A)]
      {x : Value × Mem // App H 22 1 e he.length c' 1 he [hl] x.1 x.2} (fun x => .rv 1000 fun _ => x.1.1) (fun x => [(1000, .cust none (fun _ => memΦ v0 x.1.2)), (1001, .dead), (1002, A)]) := by
  obtain ⟨i, hi, hz, hs1, hby⟩ := info22x
  have h := mem_app (P := Try.prog) (T := 53) (e := 22) (s := 1) (H := H) (v0 := v0) (va := e) (n := he.length) (c := c') (xs := he) (news := [hl]) (cells := [.rv 1002 fun _ => hl]) Try.underlying53 hi hz (by rw [hs1]; rfl) hs1 (by decide) (by omega) hek rfl (by simpa using hone)
    (fun η G w us hus => by
      match us, hus with
      | [u], hus => rw [show u = hl from hus.1.1]
      | [], h => exact h.elim
      | _ :: _ :: _, h => exact h.2.elim) (by rw [hby]; omega)
  have l3 : ∀ (B : TObj) (C : TObj) (j : Nat), lookN j [(1000, B), (1001, C), (1002, A)] = if j = 1002 then some A else lookN j [(1000, B), (1001, C)] := fun B C j => by
    simp only [look_cons, look_nil]
    by_cases e0 : j = 1002
    · subst e0; rfl
    · rw [if_neg e0, if_neg e0]
  have lc : ∀ (B C : TObj) (j : Nat) (Y : TObj), Cst B → Cst C → lookN j [(1000, B), (1001, C)] = some Y → Cst Y := fun B C j Y hB hC hY => by
    simp only [look_cons, look_nil] at hY
    split at hY
    · cases hY; exact hB
    · split at hY
      · cases hY; exact hC
      · cases hY
  exact ⟨specG_frame (k := 1002) hA h (by simp only [look_cons, look_nil]; rfl) (fun _ => by simp only [look_cons, look_nil]; rfl) (l3 _ _) (fun _ => l3 _ _) (fun j Y hY => lc _ _ j Y cst_cust cst_cells hY) (fun _ j Y hY => lc _ _ j Y cst_cust cst_dead hY) (fun η G w vs h => by
    match vs, h with
    | [v1, v2], h => exact ⟨h.1, csl_keep (by decide) h.2.1, trivial⟩
    | [], h => exact h.elim
    | [_], h => exact h.2.elim
    | _ :: _ :: _ :: _, h => exact h.2.2.elim) (fun _ => rv_any)⟩

set_option maxRecDepth 20000 in
set_option maxHeartbeats 4000000 in
theorem con29r {H : Mem} {hb he : List Value} {v0 hl : Value} {more : Mem} {es : List Ent} {kv vv : Nat → Value} (hB : BookM hb he H) (hE : OneE es kv vv (hl, more)) (hlb : hb.length < 100000) (hle : he.length < 1000000) (hn : es.length < 100000) :
    Con 29 [.loc 1000 0, .rv 1001 (fun _ => hl)] [(1000, .cust none (fun _ => memΦ v0 H)), (1001, .cust none (fun _ => memΦ hl more))] (.tup []) [(1000, .cust none (fun _ => exΦ v0 (BookM (hb ++ kvs kv vv es.length) (he ++ [hl])))), (1001, .cust none (fun _ => memΦ hl more))] := by
  obtain ⟨bb, hd, e, r, c, c', hH, hbk, hek⟩ := hB
  obtain ⟨n, hne⟩ : ∃ n, n = es.length := ⟨_, rfl⟩
  obtain ⟨hbf, hbf0⟩ : ∃ hbf : Nat → List Value, ∀ i, hbf i = hb ++ kvs kv vv i := ⟨_, fun _ => rfl⟩
  have hbl : ∀ i, (hbf i).length = hb.length + 2 * i := fun i => by rw [hbf0, List.length_append, kvs_len]
  have hshp : Shp hl n := by rw [hne]; exact hE.shp
  have htop : topQ bb (topC hd e) H := ⟨r, hH⟩
  have r1 : ConG (rawC 0 53) [.loc 1000 16] [(1000, .cust none (fun _ => memΦ v0 H))] Unit (fun _ => .rv 1000 fun _ => e) (fun _ => [(1000, .cust none (fun _ => memΦ v0 H))]) := by
    obtain ⟨p1, Tb, cs, p2, p3⟩ := htop.cell (o := 16) rfl
    exact ⟨mem_load eok (T := 53) (b := bb) (o := 16) (u := e) p1 rfl rfl p2 p3 fun η G w => ⟨rfl, slm_one hek⟩⟩
  have r2 := pute_c (v0 := v0) (r := r) (bb := bb) (A := .cust none (fun _ => memΦ hl more)) frm_cust hek hshp.one hle
  refine con_of Try.func29 rfl rfl 35 _ rfl rfl rfl rfl ?_
  cbv
  refine ⟨Unit, _, _, r1, ⟨by kernel_rfl⟩, fun _ => ⟨⟨by kernel_rfl⟩, ?_⟩⟩
  cbv
  refine ⟨_, _, _, r2, ⟨by kernel_rfl⟩, fun x => ⟨⟨by kernel_rfl⟩, ?_⟩⟩
  have hA : App H 22 1 e he.length c' 1 he [hl] x.1.1 x.1.2 := x.2
  have hp := bookM_pute hH hbk hek hA
  have r3 := ConG.mk (mem_store eok (T := 53) (b := bb) (o := 16) (v0 := v0) (cs := topC hd e) (us := [x.1.1]) (a := .loc 1000 16) (x := .rv 1000 fun _ => x.1.1) (.inr ⟨rfl, _, _, by obtain ⟨r', h⟩ := hp.1; exact ⟨r', h⟩⟩) rfl (by obtain ⟨r', h⟩ := hp.1; rw [h]; exact List.mem_cons_self) (by simp [topC]) rfl (by simpa using app_one hA) (fun η G w v h => by
    simp only [SVRel] at h
    obtain ⟨h, h2⟩ := h
    subst h
    rw [one_cells h2]))
  have fin : ∀ w v B, memΦ v0 (putB x.1.2 bb ((topC hd e).take 16 ++ [x.1.1] ++ (topC hd e).drop (16 + [x.1.1].length))) w v B → exΦ v0 (BookM (hbf 0) (he ++ [hl])) w v B := fun w v B h =>
    ⟨_, by rw [topC_e, hbf0]; simpa [kvs] using hp.2, by rw [putB_names]; exact hA.1, h⟩
  have fin2 : ∀ w v B, exΦ v0 (BookM (hbf n) (he ++ [hl])) w v B → exΦ v0 (BookM (hb ++ kvs kv vv es.length) (he ++ [hl])) w v B := fun w v B h => by rw [← hne, ← hbf0]; exact h
  cbv
  refine ⟨Unit, _, _, r3, ⟨by kernel_rfl⟩, fun _ => ⟨⟨by kernel_rfl⟩, ?_⟩⟩
  cbv
  refine ⟨Nat, [1000, 1001], fun i => [(0, .loc 1000 0), (1, .rv 1001 fun _ => hl), (4, .int .i64 (.s fun _ => (i : Int)))], fun i => [(1000, .cust none (fun _ => exΦ v0 (BookM (hbf i) (he ++ [hl])))), (1001, .cust none (fun _ => memΦ hl more))], fun i => i ≤ n, fun i => n - i, 0, [(1000, some 1000), (1001, some 1001)], Nat.zero_le _, ⟨?_⟩, fun i hi => ?_⟩
  · cbv
    and_intros
    all_goals first | exact trivial | exact ⟨rfl⟩ | exact ⟨rfl, fin⟩ | exact ⟨rfl, fun _ _ _ h => h⟩ | exact ⟨by kernel_rfl⟩
  · have q1 := len_c (v0 := hl) (H := more) Try.underlying22 hshp
    cbv
    refine ⟨Unit, _, _, q1, ⟨by kernel_rfl⟩, fun _ => ⟨⟨by kernel_rfl⟩, ?_⟩⟩
    cbv
    refine And.intro ?_ ?_
    · intro h1
      have h1 : (i : Int) < (n : Int) := of_decide_eq_true h1
      have hlt : i < n := by omega
      have hlt' : i < es.length := by omega
      have bi : bound64 ((i : Int) + 1) := by unfold bound64; omega
      have ei : (i : Int) + 1 = ((i + 1 : Nat) : Int) := by omega
      have hmi : n - (i + 1) < n - i := by omega
      have q2 := idx4_c (v0 := hl) (H := more) Try.underlying22 rfl rfl hshp hlt (z := (i : Int)) rfl
      have q3 := eField (v0 := hl) (H := more) (b := blkOf hl) (o := i * 4) (f := 0) (off := 0) (by decide) (by decide) rfl
      have q4 := (hE.load (v0 := hl) hlt').1
      have q5 := eField (v0 := hl) (H := more) (b := blkOf hl) (o := i * 4) (f := 1) (off := 1) (by decide) (by decide) rfl
      have q6 := (hE.load (v0 := hl) hlt').2
      have l1 : (hbf i).length < 1000000 := by rw [hbl]; omega
      have l2 : (hbf i ++ [kv i]).length < 1000000 := by rw [List.length_append, hbl]; simp; omega
      have c1 := con18f (v0 := v0) (hb := hbf i) (he := he ++ [hl]) (hv := kv i) (A := .cust none (fun _ => memΦ hl more)) frm_cust (hE.key i hlt').one l1
      have c2 := con18f (v0 := v0) (hb := hbf i ++ [kv i]) (he := he ++ [hl]) (hv := vv i) (A := .cust none (fun _ => memΦ hl more)) frm_cust (hE.val i hlt').one l2
      have e2 : hbf i ++ [kv i] ++ [vv i] = hbf (i + 1) := by rw [hbf0, hbf0, kvs_next]; simp
      rw [e2] at c2
      cbv
      refine ⟨Unit, _, _, q2, ⟨by kernel_rfl⟩, fun _ => ⟨⟨by kernel_rfl⟩, ?_⟩⟩
      cbv
      refine ⟨Unit, _, _, q3, ⟨by kernel_rfl⟩, fun _ => ⟨⟨by kernel_rfl⟩, ?_⟩⟩
      cbv
      refine ⟨Unit, _, _, q4, ⟨by kernel_rfl⟩, fun _ => ⟨⟨by kernel_rfl⟩, ?_⟩⟩
      cbv
      refine ⟨_, _, c1, ⟨?_⟩, ?_⟩
      · kernel_rfl
      cbv
      refine ⟨Unit, _, _, q2, ⟨by kernel_rfl⟩, fun _ => ⟨⟨by kernel_rfl⟩, ?_⟩⟩
      cbv
      refine ⟨Unit, _, _, q5, ⟨by kernel_rfl⟩, fun _ => ⟨⟨by kernel_rfl⟩, ?_⟩⟩
      cbv
      refine ⟨Unit, _, _, q6, ⟨by kernel_rfl⟩, fun _ => ⟨⟨by kernel_rfl⟩, ?_⟩⟩
      cbv
      refine ⟨_, _, c2, ⟨?_⟩, ?_⟩
      · kernel_rfl
      cbv
      refine ⟨⟨bi⟩, i + 1, [(1000, some 1000), (1001, some 1001)], hlt, hmi, ⟨?_⟩, ⟨?_⟩⟩
      · kernel_rfl
      · cbv
        and_intros
        all_goals first | exact trivial | exact ⟨rfl⟩ | exact ⟨ei⟩ | exact ⟨rfl, fun _ _ _ h => h⟩ | exact ⟨by kernel_rfl⟩
    · intro h1
      have h1 : ¬ (i : Int) < (n : Int) := of_decide_eq_false h1
      have hie : i = n := by have : i ≤ n := hi; omega
      cbv
      subst hie
      refine ⟨[(1000, some 1000), (1001, some 1001)], [], ?_⟩
      cbv
      and_intros
      all_goals first | exact trivial | exact ⟨rfl⟩ | exact ⟨rfl, fin2⟩ | exact ⟨rfl, fun _ _ _ h => h⟩ | exact ⟨by kernel_rfl⟩
end Go.Proofs.Ytmdfjipjkkjpcaa

/- The book's lists of bytes: ownBytes, the walk. -/
namespace Go.Proofs.Ytmdfjipjkkjpcaa
open Go.SX

theorem self_ne {a : Int} (h : (!decide (a = a)) = true) : False := by simp at h

set_option maxRecDepth 20000 in
set_option maxHeartbeats 8000000 in
theorem con49m {ns : List Nat} {bb c : Nat} {hd v0 : Value} {hs tc : List Value} {H0 K : Mem} (hN : ns.length < 1000000) (hn : ∀ n ∈ ns, n < 1000000000) (hM0 : Marks ns bb tc K hd hs c 0 0 H0) (hn0 : (H0.map (·.1)).Nodup) :
    Con 49 [.rv 1000 (fun _ => hd)] [(1000, .cust none (fun _ => memΦ v0 H0))] (.bool .t) [(1000, .cust none (fun _ => exΦ v0 (fun H => topQ bb tc H ∧ Kept K H)))] := by
  obtain ⟨N, hNe⟩ : ∃ N, N = ns.length := ⟨_, rfl⟩
  obtain ⟨nf, hnf⟩ : ∃ nf : Nat → Nat, ∀ i, nf i = ns.getD i 0 := ⟨_, fun _ => rfl⟩
  obtain ⟨hf, hhf⟩ : ∃ hf : Nat → Value, ∀ i, hf i = hs.getD i nilV := ⟨_, fun _ => rfl⟩
  have hsd : Shp hd N := by rw [hNe]; exact SlM.shp hM0.bank
  have hsf : ∀ i, i < N → Shp (hf i) (nf i) := fun i hi => by rw [hhf, hnf]; exact (hM0.lis i (by omega)).shp
  have hnb : ∀ i, i < N → nf i < 1000000000 := fun i hi => by
    rw [hnf, List.getD_eq_getElem?_getD, List.getElem?_eq_getElem (by omega)]
    exact hn _ (List.getElem_mem _)
  have hNl : ∀ i, i < N → i < ns.length := fun i hi => by omega
  rw [← hNe] at hN
  clear hn
  refine con_of Try.func49 rfl rfl 135 _ rfl rfl rfl rfl ?_
  cbv
  refine ⟨Nat × Mem, [1000], fun x => [(0, .rv 1000 fun _ => hd), (3, .int .i64 (.s fun _ => (x.1 : Int)))], fun x => [(1000, .cust none (fun _ => memΦ v0 x.2))], fun x => x.1 ≤ N ∧ Marks ns bb tc K hd hs c x.1 0 x.2 ∧ (x.2.map (·.1)).Nodup, fun x => N - x.1, (0, H0), [(1000, some 1000)], ⟨Nat.zero_le _, hM0, hn0⟩, ⟨?_⟩, fun x hx => ?_⟩
  · cbv
    and_intros
    all_goals first | exact trivial | exact ⟨rfl⟩ | exact ⟨rfl, fun _ _ _ h => h⟩ | exact ⟨by kernel_rfl⟩
  · have r1 := len_c (v0 := v0) (H := x.2) Try.underlying37 hsd
    cbv
    refine ⟨Unit, _, _, r1, ⟨by kernel_rfl⟩, fun _ => ⟨⟨by kernel_rfl⟩, ?_⟩⟩
    cbv
    refine And.intro ?_ ?_
    · intro h1
      have h1 : (x.1 : Int) < (N : Int) := of_decide_eq_true h1
      have hlt : x.1 < N := by omega
      have bi : bound64 ((x.1 : Int) + 1) := by unfold bound64; omega
      have ei : (x.1 : Int) + 1 = ((x.1 + 1 : Nat) : Int) := by omega
      have bi97 : bound64 ((x.1 : Int) * 97) := by unfold bound64; omega
      have hmi : N - (x.1 + 1) < N - x.1 := by omega
      have hnx := hnb _ hlt
      have hsx := hsf _ hlt
      cbv
      refine ⟨Nat × Mem, [1000], fun y => [(0, .rv 1000 fun _ => hd), (3, .int .i64 (.s fun _ => (x.1 : Int))), (4, .int .i64 (.s fun _ => (y.1 : Int)))], fun y => [(1000, .cust none (fun _ => memΦ v0 y.2))], fun y => y.1 ≤ nf x.1 ∧ Marks ns bb tc K hd hs c x.1 y.1 y.2 ∧ (y.2.map (·.1)).Nodup, fun y => nf x.1 - y.1, (0, x.2), [(1000, some 1000)], ⟨Nat.zero_le _, hx.2.1, hx.2.2⟩, ⟨?_⟩, fun y hy => ?_⟩
      · cbv
        and_intros
        all_goals first | exact trivial | exact ⟨rfl⟩ | exact ⟨rfl, fun _ _ _ h => h⟩ | exact ⟨by kernel_rfl⟩
      · have r2 := idx_c (v0 := v0) (H := y.2) Try.underlying37 rfl rfl hsd hlt (z := (x.1 : Int)) rfl
        have r3 := bload_c (v0 := v0) (H := y.2) hy.2.1.bank (hNl _ hlt) (hhf x.1) hsx.one
        have r4 := len_c (v0 := v0) (H := y.2) Try.underlying27 hsx
        cbv
        refine ⟨Unit, _, _, r2, ⟨by kernel_rfl⟩, fun _ => ⟨⟨by kernel_rfl⟩, ?_⟩⟩
        cbv
        refine ⟨Unit, _, _, r3, ⟨by kernel_rfl⟩, fun _ => ⟨⟨by kernel_rfl⟩, ?_⟩⟩
        cbv
        refine ⟨Unit, _, _, r4, ⟨by kernel_rfl⟩, fun _ => ⟨⟨by kernel_rfl⟩, ?_⟩⟩
        cbv
        refine And.intro ?_ ?_
        · intro h2
          have h2 : (y.1 : Int) < (nf x.1 : Int) := of_decide_eq_true h2
          have hkn : y.1 < nf x.1 := by omega
          have bk1 : bound64 ((y.1 : Int) + 1) := by unfold bound64; omega
          have bk13 : bound64 ((y.1 : Int) * 13) := by unfold bound64; omega
          have bs : bound64 ((x.1 : Int) * 97 + (y.1 : Int) * 13) := by unfold bound64; omega
          have ek : (y.1 : Int) + 1 = ((y.1 + 1 : Nat) : Int) := by omega
          have hmk : nf x.1 - (y.1 + 1) < nf x.1 - y.1 := by omega
          have r5 := idx_c (v0 := v0) (H := y.2) Try.underlying27 rfl rfl hsx hkn (z := (y.1 : Int)) rfl
          have r6 := mark_c (v0 := v0) hy.2.1 hy.2.2 (hNl _ hlt) (hnf x.1) hkn (hhf x.1)
          cbv
          refine ⟨Unit, _, _, r2, ⟨by kernel_rfl⟩, fun _ => ⟨⟨by kernel_rfl⟩, ?_⟩⟩
          cbv
          refine ⟨Unit, _, _, r3, ⟨by kernel_rfl⟩, fun _ => ⟨⟨by kernel_rfl⟩, ?_⟩⟩
          cbv
          refine ⟨⟨bi97⟩, ⟨bk13⟩, ⟨bs⟩, ?_⟩
          refine ⟨Unit, _, _, r5, ⟨by kernel_rfl⟩, fun _ => ⟨⟨by kernel_rfl⟩, ?_⟩⟩
          cbv
          refine ⟨_, _, _, r6, ⟨by kernel_rfl⟩, fun u => ⟨⟨by kernel_rfl⟩, ?_⟩⟩
          cbv
          refine ⟨⟨bk1⟩, (y.1 + 1, u.1), [(1000, some 1000)], ⟨hkn, u.2.1, u.2.2⟩, hmk, ⟨?_⟩, ⟨?_⟩⟩
          · kernel_rfl
          · cbv
            and_intros
            all_goals first | exact trivial | exact ⟨rfl⟩ | exact ⟨ek⟩ | exact ⟨rfl, fun _ _ _ h => h⟩ | exact ⟨by kernel_rfl⟩
        · intro h2
          have h2 : ¬ (y.1 : Int) < (nf x.1 : Int) := of_decide_eq_false h2
          have hke : y.1 = nf x.1 := by have := hy.1; omega
          have hM2 : Marks ns bb tc K hd hs c (x.1 + 1) 0 y.2 := by
            have h := hy.2.1
            rw [hke, hnf] at h
            exact marks_next h
          cbv
          refine ⟨⟨bi⟩, (x.1 + 1, y.2), [(1000, some 1000)], ⟨hlt, hM2, hy.2.2⟩, hmi, ⟨?_⟩, ⟨?_⟩⟩
          · kernel_rfl
          · cbv
            and_intros
            all_goals first | exact trivial | exact ⟨rfl⟩ | exact ⟨ei⟩ | exact ⟨rfl, fun _ _ _ h => h⟩ | exact ⟨by kernel_rfl⟩
    · intro h1
      have h1 : ¬ (x.1 : Int) < (N : Int) := of_decide_eq_false h1
      have hie : x.1 = ns.length := by have := hx.1; omega
      have hT : Two ns bb tc K hd hs c 0 0 nilV nilV x.2 := two_0 (by have h := hx.2.1; rw [hie] at h; exact h) hx.2.2
      cbv
      refine ⟨Nat × Value × Mem, [1000], fun x => [(0, .rv 1000 fun _ => hd), (5, .rv 1000 fun _ => x.2.1), (6, .int .i64 (.s fun _ => (x.1 : Int)))], fun x => [(1000, .cust none (fun _ => memΦ v0 x.2.2))], fun x => x.1 ≤ N ∧ Two ns bb tc K hd hs c x.1 0 x.2.1 nilV x.2.2, fun x => N - x.1, (0, nilV, x.2), [(1000, some 1000)], ⟨Nat.zero_le _, hT⟩, ⟨?_⟩, fun x hx => ?_⟩
      · cbv
        and_intros
        all_goals first | exact trivial | exact ⟨rfl⟩ | exact ⟨rfl, fun _ _ _ h => h⟩ | exact ⟨by kernel_rfl⟩
      · have r1 := len_c (v0 := v0) (H := x.2.2) Try.underlying37 hsd
        cbv
        refine ⟨Unit, _, _, r1, ⟨by kernel_rfl⟩, fun _ => ⟨⟨by kernel_rfl⟩, ?_⟩⟩
        cbv
        refine And.intro ?_ ?_
        · intro h1
          have h1 : (x.1 : Int) < (N : Int) := of_decide_eq_true h1
          have hlt : x.1 < N := by omega
          have bi : bound64 ((x.1 : Int) + 1) := by unfold bound64; omega
          have ei : (x.1 : Int) + 1 = ((x.1 + 1 : Nat) : Int) := by omega
          have bi1 : bound64 (-1 - (x.1 : Int)) := by unfold bound64; omega
          have bi97 : bound64 ((-1 - (x.1 : Int)) * 97) := by unfold bound64; omega
          have hmi : N - (x.1 + 1) < N - x.1 := by omega
          have hi1000 : x.1 < 1000000 := by omega
          have hnx := hnb _ hlt
          have hsx := hsf _ hlt
          have hT1 : Two ns bb tc K hd hs c x.1 (nf x.1 + 0) x.2.1 (hf x.1) x.2.2 := by rw [hnf, hhf]; exact two_begin hx.2 (hNl _ hlt)
          have r2 := idx_c (v0 := v0) (H := x.2.2) Try.underlying37 rfl rfl hsd hlt (z := (x.1 : Int)) rfl
          have r3 := bload_c (v0 := v0) (H := x.2.2) hx.2.bank (hNl _ hlt) (hhf x.1) hsx.one
          cbv
          refine ⟨Unit, _, _, r2, ⟨by kernel_rfl⟩, fun _ => ⟨⟨by kernel_rfl⟩, ?_⟩⟩
          cbv
          refine ⟨Unit, _, _, r3, ⟨by kernel_rfl⟩, fun _ => ⟨⟨by kernel_rfl⟩, ?_⟩⟩
          cbv
          refine ⟨Nat × Value × Mem, [1000], fun y => [(0, .rv 1000 fun _ => hd), (5, .rv 1000 fun _ => x.2.1), (6, .int .i64 (.s fun _ => (x.1 : Int))), (7, .rv 1000 fun _ => y.2.1), (8, .int .i64 (.s fun _ => (y.1 : Int)))], fun y => [(1000, .cust none (fun _ => memΦ v0 y.2.2))], fun y => y.1 ≤ 16 ∧ Two ns bb tc K hd hs c x.1 (nf x.1 + y.1) x.2.1 y.2.1 y.2.2, fun y => 16 - y.1, (0, hf x.1, x.2.2), [(1000, some 1000)], ⟨Nat.zero_le _, hT1⟩, ⟨?_⟩, fun y hy => ?_⟩
          · cbv
            and_intros
            all_goals first | exact trivial | exact ⟨rfl⟩ | exact ⟨rfl, fun _ _ _ h => h⟩ | exact ⟨by kernel_rfl⟩
          · cbv
            refine And.intro ?_ ?_
            · intro h2
              have h2 : (y.1 : Int) < 16 := of_decide_eq_true h2
              have hk16 : y.1 < 16 := by omega
              have bk1 : bound64 ((y.1 : Int) + 1) := by unfold bound64; omega
              have bk13 : bound64 ((y.1 : Int) * 13) := by unfold bound64; omega
              have bs : bound64 ((-1 - (x.1 : Int)) * 97 + (y.1 : Int) * 13) := by unfold bound64; omega
              have ek : (y.1 : Int) + 1 = ((y.1 + 1 : Nat) : Int) := by omega
              have hmk : 16 - (y.1 + 1) < 16 - y.1 := by omega
              have r5 := app_c (v0 := v0) hy.2 (hnf x.1) hnx hk16
              cbv
              refine ⟨⟨bi1⟩, ⟨bi97⟩, ⟨bk13⟩, ⟨bs⟩, ?_⟩
              refine ⟨_, _, _, r5, ⟨by kernel_rfl⟩, fun u => ⟨⟨by kernel_rfl⟩, ?_⟩⟩
              cbv
              refine ⟨⟨bk1⟩, (y.1 + 1, u.1.1, u.1.2), [(1000, some 1000)], ⟨hk16, u.2⟩, hmk, ⟨?_⟩, ⟨?_⟩⟩
              · kernel_rfl
              · cbv
                and_intros
                all_goals first | exact trivial | exact ⟨rfl⟩ | exact ⟨ek⟩ | exact ⟨rfl, fun _ _ _ h => h⟩ | exact ⟨by kernel_rfl⟩
            · intro h2
              have h2 : ¬ (y.1 : Int) < 16 := of_decide_eq_false h2
              have hk16 : y.1 = 16 := by have := hy.1; omega
              have hT2 : Two ns bb tc K hd hs c x.1 (nf x.1 + 16) x.2.1 y.2.1 y.2.2 := by rw [← hk16]; exact hy.2
              have r6 := push_c (v0 := v0) hT2 (hnf x.1) hi1000
              cbv
              refine ⟨_, _, _, r6, ⟨by kernel_rfl⟩, fun u => ⟨⟨by kernel_rfl⟩, ?_⟩⟩
              cbv
              refine ⟨⟨bi⟩, (x.1 + 1, u.1.1, u.1.2), [(1000, some 1000)], ⟨hlt, u.2⟩, hmi, ⟨?_⟩, ⟨?_⟩⟩
              · kernel_rfl
              · cbv
                and_intros
                all_goals first | exact trivial | exact ⟨rfl⟩ | exact ⟨ei⟩ | exact ⟨rfl, fun _ _ _ h => h⟩ | exact ⟨by kernel_rfl⟩
        · intro h1
          have h1 : ¬ (x.1 : Int) < (N : Int) := of_decide_eq_false h1
          have hie : x.1 = N := by have := hx.1; omega
          have hE : ∃ lf, EndP ns hs x.2.2 x.2.1 nf hf lf := end_of hx.2 (by omega) hnf hhf
          have hfin : ∀ w v B, memΦ v0 x.2.2 w v B → exΦ v0 (fun H => topQ bb tc H ∧ Kept K H) w v B := fun w v B h => ⟨x.2.2, ⟨hx.2.top, hx.2.kp⟩, hx.2.nd, h⟩
          have hB : SlM x.2.2 27 1 hd ns.length c hs := hx.2.bank
          cbv
          refine Exists.elim hE fun lf hP => ?_
          have hsl : Shp x.2.1 N := by rw [hNe]; exact hP.shpl
          refine ⟨Nat, [1000], fun j => [(0, .rv 1000 fun _ => hd), (5, .rv 1000 fun _ => x.2.1), (9, .int .i64 (.s fun _ => (j : Int)))], fun _ => [(1000, .cust none (fun _ => memΦ v0 x.2.2))], fun j => j ≤ N, fun j => N - j, 0, [(1000, some 1000)], Nat.zero_le _, ⟨?_⟩, fun j hj => ?_⟩
          · cbv
            and_intros
            all_goals first | exact trivial | exact ⟨rfl⟩ | exact ⟨rfl, fun _ _ _ h => h⟩ | exact ⟨by kernel_rfl⟩
          · have r1 := len_c (v0 := v0) (H := x.2.2) Try.underlying37 hsd
            cbv
            refine ⟨Unit, _, _, r1, ⟨by kernel_rfl⟩, fun _ => ⟨⟨by kernel_rfl⟩, ?_⟩⟩
            cbv
            refine And.intro ?_ ?_
            · intro h1
              have h1 : (j : Int) < (N : Int) := of_decide_eq_true h1
              have hlt : j < N := by omega
              have bi : bound64 ((j : Int) + 1) := by unfold bound64; omega
              have ei : (j : Int) + 1 = ((j + 1 : Nat) : Int) := by omega
              have bi1 : bound64 (-1 - (j : Int)) := by unfold bound64; omega
              have bi97 : bound64 ((j : Int) * 97) := by unfold bound64; omega
              have bi97' : bound64 ((-1 - (j : Int)) * 97) := by unfold bound64; omega
              have hmi : N - (j + 1) < N - j := by omega
              have hnx := hnb _ hlt
              have hsx := hsf _ hlt
              have hsy := hP.shpf (hNl _ hlt)
              have r2 := idx_c (v0 := v0) (H := x.2.2) Try.underlying37 rfl rfl hsd hlt (z := (j : Int)) rfl
              have r3 := bload_c (v0 := v0) (H := x.2.2) hB (hNl _ hlt) (hhf j) hsx.one
              have r4 := len_c (v0 := v0) (H := x.2.2) Try.underlying27 hsx
              have r5 := idx_c (v0 := v0) (H := x.2.2) Try.underlying37 rfl rfl hsl hlt (z := (j : Int)) rfl
              have r6 := end_load (v0 := v0) hP (hNl _ hlt)
              cbv
              refine ⟨Unit, _, _, r2, ⟨by kernel_rfl⟩, fun _ => ⟨⟨by kernel_rfl⟩, ?_⟩⟩
              cbv
              refine ⟨Unit, _, _, r3, ⟨by kernel_rfl⟩, fun _ => ⟨⟨by kernel_rfl⟩, ?_⟩⟩
              cbv
              refine ⟨Unit, _, _, r4, ⟨by kernel_rfl⟩, fun _ => ⟨⟨by kernel_rfl⟩, ?_⟩⟩
              cbv
              refine ⟨Nat, [1000], fun k => [(0, .rv 1000 fun _ => hd), (5, .rv 1000 fun _ => x.2.1), (9, .int .i64 (.s fun _ => (j : Int))), (10, .int .i64 (.s fun _ => (nf j : Int))), (11, .int .i64 (.s fun _ => (k : Int)))], fun _ => [(1000, .cust none (fun _ => memΦ v0 x.2.2))], fun k => k ≤ nf j, fun k => nf j - k, 0, [(1000, some 1000)], Nat.zero_le _, ⟨?_⟩, fun k hk => ?_⟩
              · cbv
                and_intros
                all_goals first | exact trivial | exact ⟨rfl⟩ | exact ⟨rfl, fun _ _ _ h => h⟩ | exact ⟨by kernel_rfl⟩
              · cbv
                refine And.intro ?_ ?_
                · intro h2
                  have h2 : (k : Int) < (nf j : Int) := of_decide_eq_true h2
                  have hkn : k < nf j := by omega
                  have bk1 : bound64 ((k : Int) + 1) := by unfold bound64; omega
                  have bk13 : bound64 ((k : Int) * 13) := by unfold bound64; omega
                  have bs : bound64 ((j : Int) * 97 + (k : Int) * 13) := by unfold bound64; omega
                  have ek : (k : Int) + 1 = ((k + 1 : Nat) : Int) := by omega
                  have hmk : nf j - (k + 1) < nf j - k := by omega
                  have q1 := idx_c (v0 := v0) (H := x.2.2) Try.underlying27 rfl rfl hsx hkn (z := (k : Int)) rfl
                  have q2 := end_own (v0 := v0) hP hnf (hNl _ hlt) hkn
                  have q3 := idx_c (v0 := v0) (H := x.2.2) Try.underlying27 rfl rfl hsy (show k < nf j + 16 by omega) (z := (k : Int)) rfl
                  have q4 := end_long (v0 := v0) hP hnf (hNl _ hlt) hkn
                  cbv
                  refine ⟨Unit, _, _, r2, ⟨by kernel_rfl⟩, fun _ => ⟨⟨by kernel_rfl⟩, ?_⟩⟩
                  cbv
                  refine ⟨Unit, _, _, r3, ⟨by kernel_rfl⟩, fun _ => ⟨⟨by kernel_rfl⟩, ?_⟩⟩
                  cbv
                  refine ⟨Unit, _, _, q1, ⟨by kernel_rfl⟩, fun _ => ⟨⟨by kernel_rfl⟩, ?_⟩⟩
                  cbv
                  refine ⟨Unit, _, _, q2, ⟨by kernel_rfl⟩, fun _ => ⟨⟨by kernel_rfl⟩, ?_⟩⟩
                  cbv
                  refine ⟨⟨bi97⟩, ⟨bk13⟩, ⟨bs⟩, fun h3 => ?_, fun h3 => ?_⟩
                  · have h4 : (!decide (IntKind.u8.wrap ((j : Int) * 97 + (k : Int) * 13) = IntKind.u8.wrap ((j : Int) * 97 + (k : Int) * 13))) = true := h3
                    have h5 : False := by simp at h4
                    cbv
                    exact False.elim h5
                  cbv
                  refine ⟨Unit, _, _, r5, ⟨by kernel_rfl⟩, fun _ => ⟨⟨by kernel_rfl⟩, ?_⟩⟩
                  cbv
                  refine ⟨Unit, _, _, r6, ⟨by kernel_rfl⟩, fun _ => ⟨⟨by kernel_rfl⟩, ?_⟩⟩
                  cbv
                  refine ⟨Unit, _, _, q3, ⟨by kernel_rfl⟩, fun _ => ⟨⟨by kernel_rfl⟩, ?_⟩⟩
                  cbv
                  refine ⟨Unit, _, _, q4, ⟨by kernel_rfl⟩, fun _ => ⟨⟨by kernel_rfl⟩, ?_⟩⟩
                  cbv
                  refine ⟨⟨bi97⟩, ⟨bk13⟩, ⟨bs⟩, fun h3 => ?_, fun h3 => ?_⟩
                  · have h4 : (!decide (IntKind.u8.wrap ((j : Int) * 97 + (k : Int) * 13) = IntKind.u8.wrap ((j : Int) * 97 + (k : Int) * 13))) = true := h3
                    have h5 : False := by simp at h4
                    cbv
                    exact False.elim h5
                  cbv
                  refine ⟨⟨bk1⟩, k + 1, [(1000, some 1000)], hkn, hmk, ⟨?_⟩, ⟨?_⟩⟩
                  · kernel_rfl
                  · cbv
                    and_intros
                    all_goals first | exact trivial | exact ⟨rfl⟩ | exact ⟨ek⟩ | exact ⟨rfl, fun _ _ _ h => h⟩ | exact ⟨by kernel_rfl⟩
                · intro h2
                  cbv
                  refine ⟨Nat, [1000], fun k => [(0, .rv 1000 fun _ => hd), (5, .rv 1000 fun _ => x.2.1), (9, .int .i64 (.s fun _ => (j : Int))), (10, .int .i64 (.s fun _ => (nf j : Int))), (12, .int .i64 (.s fun _ => (k : Int)))], fun _ => [(1000, .cust none (fun _ => memΦ v0 x.2.2))], fun k => k ≤ 16, fun k => 16 - k, 0, [(1000, some 1000)], Nat.zero_le _, ⟨?_⟩, fun k hk => ?_⟩
                  · cbv
                    and_intros
                    all_goals first | exact trivial | exact ⟨rfl⟩ | exact ⟨rfl, fun _ _ _ h => h⟩ | exact ⟨by kernel_rfl⟩
                  · cbv
                    refine And.intro ?_ ?_
                    · intro h2
                      have h2 : (k : Int) < 16 := of_decide_eq_true h2
                      have hkn : k < 16 := by omega
                      have bk1 : bound64 ((k : Int) + 1) := by unfold bound64; omega
                      have bk13 : bound64 ((k : Int) * 13) := by unfold bound64; omega
                      have bn : bound64 ((nf j : Int) + (k : Int)) := by unfold bound64; omega
                      have bs : bound64 ((-1 - (j : Int)) * 97 + (k : Int) * 13) := by unfold bound64; omega
                      have ek : (k : Int) + 1 = ((k + 1 : Nat) : Int) := by omega
                      have hmk : 16 - (k + 1) < 16 - k := by omega
                      have q3 := idx_c (v0 := v0) (H := x.2.2) Try.underlying27 rfl rfl hsy (show nf j + k < nf j + 16 by omega) (z := (nf j : Int) + (k : Int)) (by omega)
                      have q4 := end_more (v0 := v0) hP hnf (hNl _ hlt) hkn
                      cbv
                      refine ⟨Unit, _, _, r5, ⟨by kernel_rfl⟩, fun _ => ⟨⟨by kernel_rfl⟩, ?_⟩⟩
                      cbv
                      refine ⟨Unit, _, _, r6, ⟨by kernel_rfl⟩, fun _ => ⟨⟨by kernel_rfl⟩, ?_⟩⟩
                      cbv
                      refine ⟨⟨bn⟩, ?_⟩
                      refine ⟨Unit, _, _, q3, ⟨by kernel_rfl⟩, fun _ => ⟨⟨by kernel_rfl⟩, ?_⟩⟩
                      cbv
                      refine ⟨Unit, _, _, q4, ⟨by kernel_rfl⟩, fun _ => ⟨⟨by kernel_rfl⟩, ?_⟩⟩
                      cbv
                      refine ⟨⟨bi1⟩, ⟨bi97'⟩, ⟨bk13⟩, ⟨bs⟩, fun h3 => ?_, fun h3 => ?_⟩
                      · have h4 : (!decide (IntKind.u8.wrap ((-1 - (j : Int)) * 97 + (k : Int) * 13) = IntKind.u8.wrap ((-1 - (j : Int)) * 97 + (k : Int) * 13))) = true := h3
                        have h5 : False := by simp at h4
                        cbv
                        exact False.elim h5
                      cbv
                      refine ⟨⟨bk1⟩, k + 1, [(1000, some 1000)], hkn, hmk, ⟨?_⟩, ⟨?_⟩⟩
                      · kernel_rfl
                      · cbv
                        and_intros
                        all_goals first | exact trivial | exact ⟨rfl⟩ | exact ⟨ek⟩ | exact ⟨rfl, fun _ _ _ h => h⟩ | exact ⟨by kernel_rfl⟩
                    · intro h2
                      cbv
                      refine ⟨⟨bi⟩, j + 1, [(1000, some 1000)], hlt, hmi, ⟨?_⟩, ⟨?_⟩⟩
                      · kernel_rfl
                      · cbv
                        and_intros
                        all_goals first | exact trivial | exact ⟨rfl⟩ | exact ⟨ei⟩ | exact ⟨rfl, fun _ _ _ h => h⟩ | exact ⟨by kernel_rfl⟩
            · intro h1
              cbv
              refine ⟨[(1000, some 1000)], [], ?_⟩
              cbv
              and_intros
              all_goals first | exact trivial | exact ⟨rfl⟩ | exact ⟨rfl, hfin⟩ | exact ⟨by kernel_rfl⟩
end Go.Proofs.Ytmdfjipjkkjpcaa

/- The book's lists of entries: ownEntries, the walk. -/
namespace Go.Proofs.Ytmdfjipjkkjpcaa
open Go.SX

set_option maxRecDepth 20000 in
set_option maxHeartbeats 8000000 in
theorem con65m {ns : List Nat} {bb c : Nat} {hd v0 : Value} {hs tc : List Value} {H0 : Mem} (hN : ns.length < 1000) (hn : ∀ n ∈ ns, n < 1000000000) (hM0 : MarksE ns bb tc hd hs c 0 0 H0) (hn0 : (H0.map (·.1)).Nodup) :
    Con 65 [.rv 1000 (fun _ => hd)] [(1000, .cust none (fun _ => memΦ v0 H0))] (.bool .t) [(1000, .cust none (fun _ => exΦ v0 (topQ bb tc)))] := by
  obtain ⟨N, hNe⟩ : ∃ N, N = ns.length := ⟨_, rfl⟩
  obtain ⟨nf, hnf⟩ : ∃ nf : Nat → Nat, ∀ i, nf i = ns.getD i 0 := ⟨_, fun _ => rfl⟩
  obtain ⟨hf, hhf⟩ : ∃ hf : Nat → Value, ∀ i, hf i = hs.getD i nilV := ⟨_, fun _ => rfl⟩
  have hsd : Shp hd N := by rw [hNe]; exact SlM.shp hM0.bank
  have hsf : ∀ i, i < N → Shp (hf i) (nf i) := fun i hi => by rw [hhf, hnf]; exact (hM0.lis i (by omega)).shp
  have hnb : ∀ i, i < N → nf i < 1000000000 := fun i hi => by
    rw [hnf, List.getD_eq_getElem?_getD, List.getElem?_eq_getElem (by omega)]
    exact hn _ (List.getElem_mem _)
  have hNl : ∀ i, i < N → i < ns.length := fun i hi => by omega
  rw [← hNe] at hN
  clear hn
  refine con_of Try.func65 rfl rfl 140 _ rfl rfl rfl rfl ?_
  cbv
  refine ⟨Nat × Mem, [1000], fun x => [(0, .rv 1000 fun _ => hd), (3, .int .i64 (.s fun _ => (x.1 : Int)))], fun x => [(1000, .cust none (fun _ => memΦ v0 x.2))], fun x => x.1 ≤ N ∧ MarksE ns bb tc hd hs c x.1 0 x.2 ∧ (x.2.map (·.1)).Nodup, fun x => N - x.1, (0, H0), [(1000, some 1000)], ⟨Nat.zero_le _, hM0, hn0⟩, ⟨?_⟩, fun x hx => ?_⟩
  · cbv
    and_intros
    all_goals first | exact trivial | exact ⟨rfl⟩ | exact ⟨rfl, fun _ _ _ h => h⟩ | exact ⟨by kernel_rfl⟩
  · have r1 := len_c (v0 := v0) (H := x.2) Try.underlying53 hsd
    cbv
    refine ⟨Unit, _, _, r1, ⟨by kernel_rfl⟩, fun _ => ⟨⟨by kernel_rfl⟩, ?_⟩⟩
    cbv
    refine And.intro ?_ ?_
    · intro h1
      have h1 : (x.1 : Int) < (N : Int) := of_decide_eq_true h1
      have hlt : x.1 < N := by omega
      have bi : bound64 ((x.1 : Int) + 1) := by unfold bound64; omega
      have ei : (x.1 : Int) + 1 = ((x.1 + 1 : Nat) : Int) := by omega
      have bi97 : bound64 ((x.1 : Int) * 1000) := by unfold bound64; omega
      have hmi : N - (x.1 + 1) < N - x.1 := by omega
      have hnx := hnb _ hlt
      have hsx := hsf _ hlt
      cbv
      refine ⟨Nat × Mem, [1000], fun y => [(0, .rv 1000 fun _ => hd), (3, .int .i64 (.s fun _ => (x.1 : Int))), (4, .int .i64 (.s fun _ => (y.1 : Int)))], fun y => [(1000, .cust none (fun _ => memΦ v0 y.2))], fun y => y.1 ≤ nf x.1 ∧ MarksE ns bb tc hd hs c x.1 y.1 y.2 ∧ (y.2.map (·.1)).Nodup, fun y => nf x.1 - y.1, (0, x.2), [(1000, some 1000)], ⟨Nat.zero_le _, hx.2.1, hx.2.2⟩, ⟨?_⟩, fun y hy => ?_⟩
      · cbv
        and_intros
        all_goals first | exact trivial | exact ⟨rfl⟩ | exact ⟨rfl, fun _ _ _ h => h⟩ | exact ⟨by kernel_rfl⟩
      · have r2 := idx_c (v0 := v0) (H := y.2) Try.underlying53 rfl rfl hsd hlt (z := (x.1 : Int)) rfl
        have r3 := eload_c (v0 := v0) (H := y.2) hy.2.1.bank (hNl _ hlt) (hhf x.1) hsx.one
        have r4 := len_c (v0 := v0) (H := y.2) Try.underlying22 hsx
        cbv
        refine ⟨Unit, _, _, r2, ⟨by kernel_rfl⟩, fun _ => ⟨⟨by kernel_rfl⟩, ?_⟩⟩
        cbv
        refine ⟨Unit, _, _, r3, ⟨by kernel_rfl⟩, fun _ => ⟨⟨by kernel_rfl⟩, ?_⟩⟩
        cbv
        refine ⟨Unit, _, _, r4, ⟨by kernel_rfl⟩, fun _ => ⟨⟨by kernel_rfl⟩, ?_⟩⟩
        cbv
        refine And.intro ?_ ?_
        · intro h2
          have h2 : (y.1 : Int) < (nf x.1 : Int) := of_decide_eq_true h2
          have hkn : y.1 < nf x.1 := by omega
          have bk1 : bound64 ((y.1 : Int) + 1) := by unfold bound64; omega
          have bk13 : bound64 ((x.1 : Int) * 1000 + (y.1 : Int)) := by unfold bound64; omega
          have bs : bound64 ((x.1 : Int) * 1000 + (y.1 : Int) + 7000000) := by unfold bound64; omega
          have ek : (y.1 : Int) + 1 = ((y.1 + 1 : Nat) : Int) := by omega
          have hmk : nf x.1 - (y.1 + 1) < nf x.1 - y.1 := by omega
          have r5 := idx4_c (v0 := v0) (H := y.2) Try.underlying22 rfl rfl hsx hkn (z := (y.1 : Int)) rfl
          have r6 := markE_c (v0 := v0) hy.2.1 hy.2.2 (hNl _ hlt) (hnf x.1) hkn (hhf x.1)
          cbv
          refine ⟨Unit, _, _, r2, ⟨by kernel_rfl⟩, fun _ => ⟨⟨by kernel_rfl⟩, ?_⟩⟩
          cbv
          refine ⟨Unit, _, _, r3, ⟨by kernel_rfl⟩, fun _ => ⟨⟨by kernel_rfl⟩, ?_⟩⟩
          cbv
          refine ⟨⟨bi97⟩, ⟨bk13⟩, ⟨bs⟩, ?_⟩
          refine ⟨Unit, _, _, r5, ⟨by kernel_rfl⟩, fun _ => ⟨⟨by kernel_rfl⟩, ?_⟩⟩
          cbv
          refine ⟨_, _, _, r6, ⟨by kernel_rfl⟩, fun u => ⟨⟨by kernel_rfl⟩, ?_⟩⟩
          cbv
          refine ⟨⟨bk1⟩, (y.1 + 1, u.1), [(1000, some 1000)], ⟨hkn, u.2.1, u.2.2⟩, hmk, ⟨?_⟩, ⟨?_⟩⟩
          · kernel_rfl
          · cbv
            and_intros
            all_goals first | exact trivial | exact ⟨rfl⟩ | exact ⟨ek⟩ | exact ⟨rfl, fun _ _ _ h => h⟩ | exact ⟨by kernel_rfl⟩
        · intro h2
          have h2 : ¬ (y.1 : Int) < (nf x.1 : Int) := of_decide_eq_false h2
          have hke : y.1 = nf x.1 := by have := hy.1; omega
          have hM2 : MarksE ns bb tc hd hs c (x.1 + 1) 0 y.2 := by
            have h := hy.2.1
            rw [hke, hnf] at h
            exact marksE_next h
          cbv
          refine ⟨⟨bi⟩, (x.1 + 1, y.2), [(1000, some 1000)], ⟨hlt, hM2, hy.2.2⟩, hmi, ⟨?_⟩, ⟨?_⟩⟩
          · kernel_rfl
          · cbv
            and_intros
            all_goals first | exact trivial | exact ⟨rfl⟩ | exact ⟨ei⟩ | exact ⟨rfl, fun _ _ _ h => h⟩ | exact ⟨by kernel_rfl⟩
    · intro h1
      have h1 : ¬ (x.1 : Int) < (N : Int) := of_decide_eq_false h1
      have hie : x.1 = ns.length := by have := hx.1; omega
      have hT : TwoE ns bb tc hd hs c 0 0 nilV nilV x.2 := twoE_0 (by have h := hx.2.1; rw [hie] at h; exact h) hx.2.2
      cbv
      refine ⟨Nat × Value × Mem, [1000], fun x => [(0, .rv 1000 fun _ => hd), (5, .rv 1000 fun _ => x.2.1), (6, .int .i64 (.s fun _ => (x.1 : Int)))], fun x => [(1000, .cust none (fun _ => memΦ v0 x.2.2))], fun x => x.1 ≤ N ∧ TwoE ns bb tc hd hs c x.1 0 x.2.1 nilV x.2.2, fun x => N - x.1, (0, nilV, x.2), [(1000, some 1000)], ⟨Nat.zero_le _, hT⟩, ⟨?_⟩, fun x hx => ?_⟩
      · cbv
        and_intros
        all_goals first | exact trivial | exact ⟨rfl⟩ | exact ⟨rfl, fun _ _ _ h => h⟩ | exact ⟨by kernel_rfl⟩
      · have r1 := len_c (v0 := v0) (H := x.2.2) Try.underlying53 hsd
        cbv
        refine ⟨Unit, _, _, r1, ⟨by kernel_rfl⟩, fun _ => ⟨⟨by kernel_rfl⟩, ?_⟩⟩
        cbv
        refine And.intro ?_ ?_
        · intro h1
          have h1 : (x.1 : Int) < (N : Int) := of_decide_eq_true h1
          have hlt : x.1 < N := by omega
          have bi : bound64 ((x.1 : Int) + 1) := by unfold bound64; omega
          have ei : (x.1 : Int) + 1 = ((x.1 + 1 : Nat) : Int) := by omega
          have bi1 : bound64 (-1 - (x.1 : Int)) := by unfold bound64; omega
          have bi97 : bound64 ((-1 - (x.1 : Int)) * 1000) := by unfold bound64; omega
          have hmi : N - (x.1 + 1) < N - x.1 := by omega
          have hi1000 : x.1 < 1000 := by omega
          have hnx := hnb _ hlt
          have hsx := hsf _ hlt
          have hT1 : TwoE ns bb tc hd hs c x.1 (nf x.1 + 0) x.2.1 (hf x.1) x.2.2 := by rw [hnf, hhf]; exact twoE_begin hx.2 (hNl _ hlt)
          have r2 := idx_c (v0 := v0) (H := x.2.2) Try.underlying53 rfl rfl hsd hlt (z := (x.1 : Int)) rfl
          have r3 := eload_c (v0 := v0) (H := x.2.2) hx.2.bank (hNl _ hlt) (hhf x.1) hsx.one
          cbv
          refine ⟨Unit, _, _, r2, ⟨by kernel_rfl⟩, fun _ => ⟨⟨by kernel_rfl⟩, ?_⟩⟩
          cbv
          refine ⟨Unit, _, _, r3, ⟨by kernel_rfl⟩, fun _ => ⟨⟨by kernel_rfl⟩, ?_⟩⟩
          cbv
          refine ⟨Nat × Value × Mem, [1000], fun y => [(0, .rv 1000 fun _ => hd), (5, .rv 1000 fun _ => x.2.1), (6, .int .i64 (.s fun _ => (x.1 : Int))), (7, .rv 1000 fun _ => y.2.1), (8, .int .i64 (.s fun _ => (y.1 : Int)))], fun y => [(1000, .cust none (fun _ => memΦ v0 y.2.2))], fun y => y.1 ≤ 8 ∧ TwoE ns bb tc hd hs c x.1 (nf x.1 + y.1) x.2.1 y.2.1 y.2.2, fun y => 8 - y.1, (0, hf x.1, x.2.2), [(1000, some 1000)], ⟨Nat.zero_le _, hT1⟩, ⟨?_⟩, fun y hy => ?_⟩
          · cbv
            and_intros
            all_goals first | exact trivial | exact ⟨rfl⟩ | exact ⟨rfl, fun _ _ _ h => h⟩ | exact ⟨by kernel_rfl⟩
          · cbv
            refine And.intro ?_ ?_
            · intro h2
              have h2 : (y.1 : Int) < 8 := of_decide_eq_true h2
              have hk16 : y.1 < 8 := by omega
              have bk1 : bound64 ((y.1 : Int) + 1) := by unfold bound64; omega
              have bk13 : bound64 ((-1 - (x.1 : Int)) * 1000 + (y.1 : Int)) := by unfold bound64; omega
              have bs : bound64 ((-1 - (x.1 : Int)) * 1000 + (y.1 : Int) + 7000000) := by unfold bound64; omega
              have ek : (y.1 : Int) + 1 = ((y.1 + 1 : Nat) : Int) := by omega
              have hmk : 8 - (y.1 + 1) < 8 - y.1 := by omega
              have r5 := appE_c (v0 := v0) hy.2 (hnf x.1) hnx hk16
              cbv
              refine ⟨⟨bi1⟩, ⟨bi97⟩, ⟨bk13⟩, ⟨bs⟩, ?_⟩
              refine ⟨_, _, _, r5, ⟨by kernel_rfl⟩, fun u => ⟨⟨by kernel_rfl⟩, ?_⟩⟩
              cbv
              refine ⟨⟨bk1⟩, (y.1 + 1, u.1.1, u.1.2), [(1000, some 1000)], ⟨hk16, u.2⟩, hmk, ⟨?_⟩, ⟨?_⟩⟩
              · kernel_rfl
              · cbv
                and_intros
                all_goals first | exact trivial | exact ⟨rfl⟩ | exact ⟨ek⟩ | exact ⟨rfl, fun _ _ _ h => h⟩ | exact ⟨by kernel_rfl⟩
            · intro h2
              have h2 : ¬ (y.1 : Int) < 8 := of_decide_eq_false h2
              have hk16 : y.1 = 8 := by have := hy.1; omega
              have hT2 : TwoE ns bb tc hd hs c x.1 (nf x.1 + 8) x.2.1 y.2.1 y.2.2 := by rw [← hk16]; exact hy.2
              have r6 := pushE_c (v0 := v0) hT2 (hnf x.1) hi1000
              cbv
              refine ⟨_, _, _, r6, ⟨by kernel_rfl⟩, fun u => ⟨⟨by kernel_rfl⟩, ?_⟩⟩
              cbv
              refine ⟨⟨bi⟩, (x.1 + 1, u.1.1, u.1.2), [(1000, some 1000)], ⟨hlt, u.2⟩, hmi, ⟨?_⟩, ⟨?_⟩⟩
              · kernel_rfl
              · cbv
                and_intros
                all_goals first | exact trivial | exact ⟨rfl⟩ | exact ⟨ei⟩ | exact ⟨rfl, fun _ _ _ h => h⟩ | exact ⟨by kernel_rfl⟩
        · intro h1
          have h1 : ¬ (x.1 : Int) < (N : Int) := of_decide_eq_false h1
          have hie : x.1 = N := by have := hx.1; omega
          have hE : ∃ lf, EndE ns x.2.2 x.2.1 nf hf lf := endE_of hx.2 (by omega) hnf hhf
          have hfin : ∀ w v B, memΦ v0 x.2.2 w v B → exΦ v0 (topQ bb tc) w v B := fun w v B h => ⟨x.2.2, hx.2.top, hx.2.nd, h⟩
          have hB : SlM x.2.2 22 1 hd ns.length c hs := hx.2.bank
          cbv
          refine Exists.elim hE fun lf hP => ?_
          have hsl : Shp x.2.1 N := by rw [hNe]; exact hP.shpl
          refine ⟨Nat, [1000], fun j => [(0, .rv 1000 fun _ => hd), (5, .rv 1000 fun _ => x.2.1), (9, .int .i64 (.s fun _ => (j : Int)))], fun _ => [(1000, .cust none (fun _ => memΦ v0 x.2.2))], fun j => j ≤ N, fun j => N - j, 0, [(1000, some 1000)], Nat.zero_le _, ⟨?_⟩, fun j hj => ?_⟩
          · cbv
            and_intros
            all_goals first | exact trivial | exact ⟨rfl⟩ | exact ⟨rfl, fun _ _ _ h => h⟩ | exact ⟨by kernel_rfl⟩
          · have r1 := len_c (v0 := v0) (H := x.2.2) Try.underlying53 hsd
            cbv
            refine ⟨Unit, _, _, r1, ⟨by kernel_rfl⟩, fun _ => ⟨⟨by kernel_rfl⟩, ?_⟩⟩
            cbv
            refine And.intro ?_ ?_
            · intro h1
              have h1 : (j : Int) < (N : Int) := of_decide_eq_true h1
              have hlt : j < N := by omega
              have bi : bound64 ((j : Int) + 1) := by unfold bound64; omega
              have ei : (j : Int) + 1 = ((j + 1 : Nat) : Int) := by omega
              have bi1 : bound64 (-1 - (j : Int)) := by unfold bound64; omega
              have bi97 : bound64 ((j : Int) * 1000) := by unfold bound64; omega
              have bi97' : bound64 ((-1 - (j : Int)) * 1000) := by unfold bound64; omega
              have hmi : N - (j + 1) < N - j := by omega
              have hnx := hnb _ hlt
              have hsx := hsf _ hlt
              have hsy := hP.shpf (hNl _ hlt)
              have r2 := idx_c (v0 := v0) (H := x.2.2) Try.underlying53 rfl rfl hsd hlt (z := (j : Int)) rfl
              have r3 := eload_c (v0 := v0) (H := x.2.2) hB (hNl _ hlt) (hhf j) hsx.one
              have r4 := len_c (v0 := v0) (H := x.2.2) Try.underlying22 hsx
              have r5 := idx_c (v0 := v0) (H := x.2.2) Try.underlying53 rfl rfl hsl hlt (z := (j : Int)) rfl
              have r6 := endE_load (v0 := v0) hP (hNl _ hlt)
              cbv
              refine ⟨Unit, _, _, r2, ⟨by kernel_rfl⟩, fun _ => ⟨⟨by kernel_rfl⟩, ?_⟩⟩
              cbv
              refine ⟨Unit, _, _, r3, ⟨by kernel_rfl⟩, fun _ => ⟨⟨by kernel_rfl⟩, ?_⟩⟩
              cbv
              refine ⟨Unit, _, _, r4, ⟨by kernel_rfl⟩, fun _ => ⟨⟨by kernel_rfl⟩, ?_⟩⟩
              cbv
              refine ⟨Nat, [1000], fun k => [(0, .rv 1000 fun _ => hd), (5, .rv 1000 fun _ => x.2.1), (9, .int .i64 (.s fun _ => (j : Int))), (10, .int .i64 (.s fun _ => (nf j : Int))), (11, .int .i64 (.s fun _ => (k : Int)))], fun _ => [(1000, .cust none (fun _ => memΦ v0 x.2.2))], fun k => k ≤ nf j, fun k => nf j - k, 0, [(1000, some 1000)], Nat.zero_le _, ⟨?_⟩, fun k hk => ?_⟩
              · cbv
                and_intros
                all_goals first | exact trivial | exact ⟨rfl⟩ | exact ⟨rfl, fun _ _ _ h => h⟩ | exact ⟨by kernel_rfl⟩
              · cbv
                refine And.intro ?_ ?_
                · intro h2
                  have h2 : (k : Int) < (nf j : Int) := of_decide_eq_true h2
                  have hkn : k < nf j := by omega
                  have bk1 : bound64 ((k : Int) + 1) := by unfold bound64; omega
                  have bk13 : bound64 ((j : Int) * 1000 + (k : Int)) := by unfold bound64; omega
                  have bs : bound64 ((j : Int) * 1000 + (k : Int) + 7000000) := by unfold bound64; omega
                  have ek : (k : Int) + 1 = ((k + 1 : Nat) : Int) := by omega
                  have hmk : nf j - (k + 1) < nf j - k := by omega
                  have q1 := idx4_c (v0 := v0) (H := x.2.2) Try.underlying22 rfl rfl hsx hkn (z := (k : Int)) rfl
                  have q2 := endE_own (v0 := v0) hP hnf (hNl _ hlt) hkn
                  have q3 := idx4_c (v0 := v0) (H := x.2.2) Try.underlying22 rfl rfl hsy (show k < nf j + 8 by omega) (z := (k : Int)) rfl
                  have q4 := endE_long (v0 := v0) hP hnf (hNl _ hlt) hkn
                  cbv
                  refine ⟨Unit, _, _, r2, ⟨by kernel_rfl⟩, fun _ => ⟨⟨by kernel_rfl⟩, ?_⟩⟩
                  cbv
                  refine ⟨Unit, _, _, r3, ⟨by kernel_rfl⟩, fun _ => ⟨⟨by kernel_rfl⟩, ?_⟩⟩
                  cbv
                  refine ⟨Unit, _, _, q1, ⟨by kernel_rfl⟩, fun _ => ⟨⟨by kernel_rfl⟩, ?_⟩⟩
                  cbv
                  refine ⟨Unit, _, _, field_c, ⟨by kernel_rfl⟩, fun _ => ⟨⟨by kernel_rfl⟩, ?_⟩⟩
                  cbv
                  refine ⟨Unit, _, _, q2, ⟨by kernel_rfl⟩, fun _ => ⟨⟨by kernel_rfl⟩, ?_⟩⟩
                  cbv
                  refine ⟨⟨bi97⟩, ⟨bk13⟩, ⟨bs⟩, fun h3 => ?_, fun h3 => ?_⟩
                  · have h4 : (!decide (IntKind.u32.wrap ((j : Int) * 1000 + (k : Int) + 7000000) = IntKind.u32.wrap ((j : Int) * 1000 + (k : Int) + 7000000))) = true := h3
                    have h5 : False := by simp at h4
                    cbv
                    exact False.elim h5
                  cbv
                  refine ⟨Unit, _, _, r5, ⟨by kernel_rfl⟩, fun _ => ⟨⟨by kernel_rfl⟩, ?_⟩⟩
                  cbv
                  refine ⟨Unit, _, _, r6, ⟨by kernel_rfl⟩, fun _ => ⟨⟨by kernel_rfl⟩, ?_⟩⟩
                  cbv
                  refine ⟨Unit, _, _, q3, ⟨by kernel_rfl⟩, fun _ => ⟨⟨by kernel_rfl⟩, ?_⟩⟩
                  cbv
                  refine ⟨Unit, _, _, field_c, ⟨by kernel_rfl⟩, fun _ => ⟨⟨by kernel_rfl⟩, ?_⟩⟩
                  cbv
                  refine ⟨Unit, _, _, q4, ⟨by kernel_rfl⟩, fun _ => ⟨⟨by kernel_rfl⟩, ?_⟩⟩
                  cbv
                  refine ⟨⟨bi97⟩, ⟨bk13⟩, ⟨bs⟩, fun h3 => ?_, fun h3 => ?_⟩
                  · have h4 : (!decide (IntKind.u32.wrap ((j : Int) * 1000 + (k : Int) + 7000000) = IntKind.u32.wrap ((j : Int) * 1000 + (k : Int) + 7000000))) = true := h3
                    have h5 : False := by simp at h4
                    cbv
                    exact False.elim h5
                  cbv
                  refine ⟨⟨bk1⟩, k + 1, [(1000, some 1000)], hkn, hmk, ⟨?_⟩, ⟨?_⟩⟩
                  · kernel_rfl
                  · cbv
                    and_intros
                    all_goals first | exact trivial | exact ⟨rfl⟩ | exact ⟨ek⟩ | exact ⟨rfl, fun _ _ _ h => h⟩ | exact ⟨by kernel_rfl⟩
                · intro h2
                  cbv
                  refine ⟨Nat, [1000], fun k => [(0, .rv 1000 fun _ => hd), (5, .rv 1000 fun _ => x.2.1), (9, .int .i64 (.s fun _ => (j : Int))), (10, .int .i64 (.s fun _ => (nf j : Int))), (12, .int .i64 (.s fun _ => (k : Int)))], fun _ => [(1000, .cust none (fun _ => memΦ v0 x.2.2))], fun k => k ≤ 8, fun k => 8 - k, 0, [(1000, some 1000)], Nat.zero_le _, ⟨?_⟩, fun k hk => ?_⟩
                  · cbv
                    and_intros
                    all_goals first | exact trivial | exact ⟨rfl⟩ | exact ⟨rfl, fun _ _ _ h => h⟩ | exact ⟨by kernel_rfl⟩
                  · cbv
                    refine And.intro ?_ ?_
                    · intro h2
                      have h2 : (k : Int) < 8 := of_decide_eq_true h2
                      have hkn : k < 8 := by omega
                      have bk1 : bound64 ((k : Int) + 1) := by unfold bound64; omega
                      have bk13 : bound64 ((-1 - (j : Int)) * 1000 + (k : Int)) := by unfold bound64; omega
                      have bn : bound64 ((nf j : Int) + (k : Int)) := by unfold bound64; omega
                      have bs : bound64 ((-1 - (j : Int)) * 1000 + (k : Int) + 7000000) := by unfold bound64; omega
                      have ek : (k : Int) + 1 = ((k + 1 : Nat) : Int) := by omega
                      have hmk : 8 - (k + 1) < 8 - k := by omega
                      have q3 := idx4_c (v0 := v0) (H := x.2.2) Try.underlying22 rfl rfl hsy (show nf j + k < nf j + 8 by omega) (z := (nf j : Int) + (k : Int)) (by omega)
                      have q4 := endE_more (v0 := v0) hP hnf (hNl _ hlt) hkn
                      cbv
                      refine ⟨Unit, _, _, r5, ⟨by kernel_rfl⟩, fun _ => ⟨⟨by kernel_rfl⟩, ?_⟩⟩
                      cbv
                      refine ⟨Unit, _, _, r6, ⟨by kernel_rfl⟩, fun _ => ⟨⟨by kernel_rfl⟩, ?_⟩⟩
                      cbv
                      refine ⟨⟨bn⟩, ?_⟩
                      refine ⟨Unit, _, _, q3, ⟨by kernel_rfl⟩, fun _ => ⟨⟨by kernel_rfl⟩, ?_⟩⟩
                      cbv
                      refine ⟨Unit, _, _, field_c, ⟨by kernel_rfl⟩, fun _ => ⟨⟨by kernel_rfl⟩, ?_⟩⟩
                      cbv
                      refine ⟨Unit, _, _, q4, ⟨by kernel_rfl⟩, fun _ => ⟨⟨by kernel_rfl⟩, ?_⟩⟩
                      cbv
                      refine ⟨⟨bi1⟩, ⟨bi97'⟩, ⟨bk13⟩, ⟨bs⟩, fun h3 => ?_, fun h3 => ?_⟩
                      · have h4 : (!decide (IntKind.u32.wrap ((-1 - (j : Int)) * 1000 + (k : Int) + 7000000) = IntKind.u32.wrap ((-1 - (j : Int)) * 1000 + (k : Int) + 7000000))) = true := h3
                        have h5 : False := by simp at h4
                        cbv
                        exact False.elim h5
                      cbv
                      refine ⟨⟨bk1⟩, k + 1, [(1000, some 1000)], hkn, hmk, ⟨?_⟩, ⟨?_⟩⟩
                      · kernel_rfl
                      · cbv
                        and_intros
                        all_goals first | exact trivial | exact ⟨rfl⟩ | exact ⟨ek⟩ | exact ⟨rfl, fun _ _ _ h => h⟩ | exact ⟨by kernel_rfl⟩
                    · intro h2
                      cbv
                      refine ⟨⟨bi⟩, j + 1, [(1000, some 1000)], hlt, hmi, ⟨?_⟩, ⟨?_⟩⟩
                      · kernel_rfl
                      · cbv
                        and_intros
                        all_goals first | exact trivial | exact ⟨rfl⟩ | exact ⟨ei⟩ | exact ⟨rfl, fun _ _ _ h => h⟩ | exact ⟨by kernel_rfl⟩
            · intro h1
              cbv
              refine ⟨[(1000, some 1000)], [], ?_⟩
              cbv
              and_intros
              all_goals first | exact trivial | exact ⟨rfl⟩ | exact ⟨rfl, hfin⟩ | exact ⟨by kernel_rfl⟩
end Go.Proofs.Ytmdfjipjkkjpcaa

/- The book: Bytes, Entries, Own, as calls that leave ghosts. -/
namespace Go.Proofs.Ytmdfjipjkkjpcaa
open Go.SX

/-- What a list leaves in the book: the book's value and memory, the list's own. -/
abbrev PutB (hb he : List Value) (bs : List UInt8) := {x : (Value × Mem) × (Value × Mem) // BookM (hb ++ [x.2.1]) he x.1.2 ∧ OneB bs x.2}
abbrev PutE (hb he : List Value) (es : List Ent) := {x : ((Value × Mem) × (Value × Mem)) × (Nat → Value) × (Nat → Value) // BookM (hb ++ kvs x.2.1 x.2.2 es.length) (he ++ [x.1.2.1]) x.1.1.2 ∧ OneE es x.2.1 x.2.2 x.1.2}

theorem loc_set {k : Nat} (hk : k ≠ 1000) {η : OEnv} {G : Nat → Prop} {w : World} {o : Nat} {v : Value} {o' : OInfo} (h : SVRel η G w (.loc 1000 o) v) : SVRel (fun j => if j = k then some o' else η j) G w (.loc 1000 o) v := by
  obtain ⟨o2, h1, h2⟩ := h
  exact ⟨o2, by show (if 1000 = k then some o' else η 1000) = some o2; rw [if_neg fun e => hk e.symm]; exact h1, h2⟩

theorem con18k {H : Mem} {hb he : List Value} {v0 : Value} {bs : Unit → List UInt8} {x : Value × Mem} (hB : BookM hb he H) (hone : x.1.oneCell' = true) (hl : hb.length < 1000000) :
    SpecG Try.prog 18 [.loc 1000 0, .rv 1001 (fun _ => x.1)] [(1000, .cust none (fun _ => memΦ v0 H)), (1001, knownB bs x)] {H' : Mem // BookM (hb ++ [x.1]) he H'} (fun _ => .tup []) (fun y => [(1000, .cust none (fun _ => memΦ v0 y.1)), (1001, knownB bs x)]) :=
  specG_frame (k := 1001) frm_cust (objs := [(1000, .cust none (fun _ => memΦ v0 H))]) (objs' := fun y => [(1000, .cust none (fun _ => memΦ v0 y.1))]) (specG_out (con18h hB hone hl).spec) (by rw [lookN_one]; rfl) (fun _ => by rw [lookN_one]; rfl) (look_two (by decide)) (fun _ => look_two (by decide)) (fun _ _ => cst_one cst_cust) (fun _ _ _ => cst_one cst_cust) (fun η G w vs h => by
    match vs, h with
    | [v1, v2], h => exact ⟨loc_keep (by decide) h.1, h.2.1, trivial⟩
    | [], h => exact h.elim
    | [_], h => exact h.2.elim
    | _ :: _ :: _ :: _, h => exact h.2.2.elim) (fun _ => tup_any)

theorem con18g {H : Mem} {hb he : List Value} {v0 : Value} {bs : List UInt8} (hB : BookM hb he H) (hl : hb.length < 1000000) :
    ConG 18 [.loc 1000 0, .own 1001] [(1000, .cust none (fun _ => memΦ v0 H)), (1001, .barr 5 fun _ => bs)] (PutB hb he bs) (fun _ => .tup []) (fun x => [(1000, .cust none (fun _ => memΦ x.1.1.1 x.1.1.2)), (1001, knownB (fun _ => bs) x.1.2)]) := by
  have h := ConG.mk (specG_open (P := Try.prog) (f := 18) (bs := fun _ => bs) (A := .cust none (fun _ => memΦ v0 H)) (Y := fun x => {H' : Mem // BookM (hb ++ [x.1]) he H'}) (o' := fun x y => [(1000, .cust none (fun _ => memΦ v0 y.1)), (1001, knownB (fun _ => bs) x)]) fun x hx hone => con18k hB hone hl)
  exact conG_map h (fun s => ⟨((v0, s.2.1), s.1.1), s.2.2, s.1.2⟩) (fun _ => rfl) (fun _ => rfl)

theorem con29k {H : Mem} {hb he : List Value} {v0 : Value} {es : List Ent} {kv vv : Nat → Value} {x : Value × Mem} (hB : BookM hb he H) (hE : OneE es kv vv x) (hlb : hb.length < 100000) (hle : he.length < 1000000) (hn : es.length < 100000) :
    SpecG Try.prog 29 [.loc 1000 0, .rv 1001 (fun _ => x.1)] [(1000, .cust none (fun _ => memΦ v0 H)), (1001, knownE es x)] {H' : Mem // BookM (hb ++ kvs kv vv es.length) (he ++ [x.1]) H'} (fun _ => .tup []) (fun y => [(1000, .cust none (fun _ => memΦ v0 y.1)), (1001, knownE es x)]) :=
  specG_kn (k := 1001) (hl := x.1) (more := x.2) (specG_outs (con29r hB hE hlb hle hn).spec) (by simp only [look_cons, look_nil]; rfl) (fun _ => by simp only [look_cons, look_nil]; rfl)
    (fun j => by rw [look_two (by decide), look_two (by decide)]; split <;> rfl) (fun _ j => by rw [look_two (by decide), look_two (by decide)]; split <;> rfl)
    (fun j Y h => by
      rw [look_two (by decide)] at h
      split at h
      · cases h; exact cst_cust
      · exact cst_one cst_cust h) (fun _ j Y h => by
      rw [look_two (by decide)] at h
      split at h
      · cases h; exact cst_cust
      · exact cst_one cst_cust h) (fun η G w vs o h => by
    match vs, h with
    | [v1, v2], h => exact ⟨loc_set (by decide) h.1, h.2.1, trivial⟩
    | [], h => exact h.elim
    | [_], h => exact h.2.elim
    | _ :: _ :: _ :: _, h => exact h.2.2.elim) (fun _ => tup_any)

/-- A list of entries handed in becomes known. -/
theorem specG_openE {f : Nat} {A : TObj} {es : List Ent} {Y : (Value × Mem) × (Nat → Value) × (Nat → Value) → Type} {o' : (x : (Value × Mem) × (Nat → Value) × (Nat → Value)) → Y x → Objs}
    (h : ∀ x : (Value × Mem) × (Nat → Value) × (Nat → Value), OneE es x.2.1 x.2.2 x.1 → SpecG Try.prog f [.loc 1000 0, .rv 1001 (fun _ => x.1.1)] [(1000, A), (1001, knownE es x.1)] (Y x) (fun _ => .tup []) (o' x)) :
    SpecG Try.prog f [.loc 1000 0, .own 1001] [(1000, A), (1001, .arrD 74 4 (fun _ => es.length) (lrow encE fun _ => es))] ((x : {x : (Value × Mem) × (Nat → Value) × (Nat → Value) // OneE es x.2.1 x.2.2 x.1}) × Y x.1) (fun _ => .tup []) (fun s => o' s.1.1 s.2) := by
  intro η G vs w hsep hob hs
  have hob1 := hob 1001
  rw [look_two (by decide), if_pos rfl] at hob1
  match vs, hs with
  | [v1, v2], hs =>
    simp only [SVRels] at hs
    obtain ⟨hs1, hs2, -⟩ := hs
    simp only [SVRel] at hs2
    obtain ⟨o, ho, hone, hv⟩ := hs2
    rw [ho] at hob1
    obtain ⟨more, kv, vv, hE, hR⟩ := arrD_known (η := η) (G := G) (w := w) (o := o) hob1 (fun b hb => hsep.mi 1001 o ho b hb)
    have hv2 : v2 = o.val := hv hR.1.1
    refine (h ((o.val, more), kv, vv) hE η G [v1, v2] w hsep (fun j => ?_) ⟨hs1, ⟨hv2, hone⟩, trivial⟩).mono fun v w' ⟨y, η', G', hh⟩ => ⟨⟨⟨_, hE⟩, y⟩, η', G', hh⟩
    have hj := hob j
    rw [look_two (by decide)] at hj ⊢
    by_cases e : j = 1001
    · subst e
      rw [if_pos rfl, ho]; exact hR
    · rw [if_neg e] at hj ⊢; exact hj
  | [], h => exact h.elim
  | [_], h => exact h.2.elim
  | _ :: _ :: _ :: _, h => exact h.2.2.elim

theorem con29g {H : Mem} {hb he : List Value} {v0 : Value} {es : List Ent} (hB : BookM hb he H) (hlb : hb.length < 100000) (hle : he.length < 1000000) (hn : es.length < 100000) :
    ConG 29 [.loc 1000 0, .own 1001] [(1000, .cust none (fun _ => memΦ v0 H)), (1001, .arrD 74 4 (fun _ => es.length) (lrow encE fun _ => es))] (PutE hb he es) (fun _ => .tup []) (fun x => [(1000, .cust none (fun _ => memΦ x.1.1.1.1 x.1.1.1.2)), (1001, knownE es x.1.1.2)]) := by
  have h := ConG.mk (specG_openE (f := 29) (A := .cust none (fun _ => memΦ v0 H)) (Y := fun x => {H' : Mem // BookM (hb ++ kvs x.2.1 x.2.2 es.length) (he ++ [x.1.1]) H'}) (o' := fun x y => [(1000, .cust none (fun _ => memΦ v0 y.1)), (1001, knownE es x.1)]) fun x hx => con29k hB hx hlb hle hn)
  exact conG_map h (fun s => ⟨(((v0, s.2.1), s.1.1.1), s.1.1.2.1, s.1.1.2.2), s.2.2, s.1.2⟩) (fun _ => rfl) (fun _ => rfl)

theorem bookM_new (bb : Nat) : BookM [] [] [(bb, 61, List.replicate 23 nilV)] := ⟨bb, nilV, nilV, [], 0, 0, rfl, .inl ⟨rfl, rfl, rfl, rfl⟩, .inl ⟨rfl, rfl, rfl, rfl⟩⟩
theorem fresh_book {η : OEnv} {G : Nat → Prop} {w : World} {o : OInfo} (ho : ObjRel η G w (.cells 61 nils23) o) : ∃ y : Value × Nat, True ∧ ObjRel η G w (.cust none (fun _ => memΦ y.1 [(y.2, 61, List.replicate 23 nilV)])) o := by
  obtain ⟨h1, h2, b, vs, hm, hh, hs⟩ := ho
  have hv : vs = List.replicate 23 nilV := nils_rel 23 vs hs
  subst hv
  exact ⟨(o.val, b), trivial, h1, h2, fun w' hw' => ⟨⟨rfl, hm, by rw [hm]; simp, fun p hp => by
    simp at hp; subst hp
    unfold HasRow; rw [hw' b (by rw [hm]; simp)]; exact hh⟩, fun x hx => by cases hx⟩⟩
theorem con29g0 {es : List Ent} (hn : es.length < 100000) : ConG 29 [.loc 1000 0, .own 1001] [(1000, .cells 61 [.nil, .nil, .nil, .nil, .nil, .nil, .nil, .nil, .nil, .nil, .nil, .nil, .nil, .nil, .nil, .nil, .nil, .nil, .nil, .nil, .nil, .nil, .nil]), (1001, .arrD 74 4 (fun _ => es.length) (lrow encE fun _ => es))]
    (PutE [] [] es) (fun _ => .tup []) (fun x => [(1000, .cust none (fun _ => memΦ x.1.1.1.1 x.1.1.1.2)), (1001, knownE es x.1.1.2)]) := by
  have h := ConG.mk (specG_conv (P := Try.prog) (f := 29) (k := 1000) (svs := [.loc 1000 0, .own 1001]) (A := .cells 61 nils23) (rest := [(1001, .arrD 74 4 (fun _ => es.length) (lrow encE fun _ => es))]) (Y := Value × Nat) (F := fun _ => True) (A' := fun y => .cust none (fun _ => memΦ y.1 [(y.2, 61, List.replicate 23 nilV)]))
    (X := fun _ => PutE [] [] es) (r := fun _ _ => .tup []) (objs' := fun _ x => [(1000, .cust none (fun _ => memΦ x.1.1.1.1 x.1.1.1.2)), (1001, knownE es x.1.1.2)]) (fun η G w o ho => fresh_book ho)
    fun y _ => (con29g (v0 := y.1) (es := es) (bookM_new y.2) (by decide) (by decide) hn).spec)
  exact conG_map h (fun s => s.2) (fun _ => rfl) (fun _ => rfl)

/- OWN -/
def F2 {α β : Type} (R : α → β → Prop) : List α → List β → Prop
  | [], [] => True
  | a :: l, b :: m => R a b ∧ F2 R l m
  | _, _ => False
theorem F2.app {α β : Type} {R : α → β → Prop} : ∀ {l : List α} {m : List β} {l' : List α} {m' : List β}, F2 R l m → F2 R l' m' → F2 R (l ++ l') (m ++ m')
  | [], [], _, _, _, h => h
  | [], _ :: _, _, _, h, _ => h.elim
  | _ :: _, [], _, _, h, _ => h.elim
  | _ :: _, _ :: _, _, _, h, h' => ⟨h.1, F2.app h.2 h'⟩
theorem F2.mono {α β : Type} {R S : α → β → Prop} (hR : ∀ a b, R a b → S a b) : ∀ {l : List α} {m : List β}, F2 R l m → F2 S l m
  | [], [], _ => trivial
  | [], _ :: _, h => h.elim
  | _ :: _, [], h => h.elim
  | _ :: _, _ :: _, h => ⟨hR _ _ h.1, F2.mono hR h.2⟩
theorem F2.len {α β : Type} {R : α → β → Prop} : ∀ {l : List α} {m : List β}, F2 R l m → l.length = m.length
  | [], [], _ => rfl
  | [], _ :: _, h => h.elim
  | _ :: _, [], h => h.elim
  | _ :: _, _ :: _, h => by rw [List.length_cons, List.length_cons, F2.len h.2]
theorem F2.at {R : Value → Nat → Prop} : ∀ {l : List Value} {m : List Nat}, F2 R l m → ∀ i, i < m.length → R (l.getD i nilV) (m.getD i 0)
  | [], [], _, i, hi => by simp at hi
  | [], _ :: _, h, _, _ => h.elim
  | _ :: _, [], h, _, _ => h.elim
  | _ :: _, _ :: _, h, 0, _ => h.1
  | _ :: _, _ :: _, h, i + 1, hi => F2.at h.2 i (by simpa using hi)

/-- What is known of the lists of a book, in their memory. -/
structure Fac (M : Mem) (hb : List Value) (ns : List Nat) (he : List Value) (es : List Nat) : Prop where
  fb : F2 (LisM M) hb ns
  fe : F2 (fun h n => MarkE M 0 h n 0) he es
  db : (hb.filterMap Value.ownBlock).Nodup
  de : (he.filterMap Value.ownBlock).Nodup
  ib : ∀ b ∈ hb.filterMap Value.ownBlock, b ∈ M.map (·.1)
  ie : ∀ b ∈ he.filterMap Value.ownBlock, b ∈ M.map (·.1)
theorem MarkE.mono {H H' : Mem} {h : Value} {n : Nat} {i j : Nat} (hl : MarkE H i h n 0) (hk : ∀ p ∈ H, p.2.1 = 74 → p ∈ H') : MarkE H' j h n 0 := by
  rcases hl with h | ⟨b, c, cs, q1, q2, q3, q4, q5, _⟩
  · exact .inl h
  · exact .inr ⟨b, c, cs, q1, hk _ q2 rfl, q3, q4, q5, fun k hk => by omega⟩
theorem Fac.nil : Fac [] [] [] [] [] := ⟨trivial, trivial, .nil, .nil, by simp, by simp⟩
theorem Fac.add {M M' : Mem} {hb hb' he he' : List Value} {ns ns' es es' : List Nat} (h : Fac M hb ns he es) (h' : Fac M' hb' ns' he' es') (hn : ((M ++ M').map (·.1)).Nodup) : Fac (M ++ M') (hb ++ hb') (ns ++ ns') (he ++ he') (es ++ es') := by
  rw [List.map_append] at hn
  obtain ⟨_, _, hd⟩ := List.nodup_append.1 hn
  refine ⟨(h.fb.mono fun _ _ q => q.mono fun p hp _ => List.mem_append_left _ hp).app (h'.fb.mono fun _ _ q => q.mono fun p hp _ => List.mem_append_right _ hp),
    (h.fe.mono fun _ _ q => q.mono fun p hp _ => List.mem_append_left _ hp).app (h'.fe.mono fun _ _ q => q.mono fun p hp _ => List.mem_append_right _ hp), ?_, ?_, fun b hb => ?_, fun b hb => ?_⟩
  · rw [List.filterMap_append]
    exact List.nodup_append.2 ⟨h.db, h'.db, fun a ha b hb e => hd a (h.ib a ha) b (h'.ib b hb) e⟩
  · rw [List.filterMap_append]
    exact List.nodup_append.2 ⟨h.de, h'.de, fun a ha b hb e => hd a (h.ie a ha) b (h'.ie b hb) e⟩
  · rw [List.filterMap_append] at hb
    rw [List.map_append]
    exact (List.mem_append.1 hb).elim (fun q => List.mem_append_left _ (h.ib b q)) fun q => List.mem_append_right _ (h'.ib b q)
  · rw [List.filterMap_append] at hb
    rw [List.map_append]
    exact (List.mem_append.1 hb).elim (fun q => List.mem_append_left _ (h.ie b q)) fun q => List.mem_append_right _ (h'.ie b q)
theorem fac_bytes {bs : List UInt8} {x : Value × Mem} (h : OneB bs x) : Fac x.2 [x.1] [bs.length] [] [] := by
  rcases h.1 with ⟨q1, q2, q3⟩ | ⟨b, c, cs, q1, q2, q3, q4, q5⟩
  · exact ⟨⟨.inl ⟨q2, q3⟩, trivial⟩, trivial, by rw [q2]; exact List.Pairwise.nil, .nil, (fun b hb => by rw [q2] at hb; cases hb), by simp⟩
  · exact ⟨⟨.inr ⟨b, c, cs, q2, by rw [q1]; simp, by omega, q4, q5⟩, trivial⟩, trivial, by rw [q2]; simp [Value.ownBlock], .nil, by rw [q2, q1]; simp [Value.ownBlock], by simp⟩
/-- The lengths of a list's keys and values. -/
def kvn (es : List Ent) (n : Nat) : List Nat := (List.range n).flatMap fun i => [(es.getD i default).key.length, (es.getD i default).val.length]
theorem kvn_next (es : List Ent) (n : Nat) : kvn es (n + 1) = kvn es n ++ [(es.getD n default).key.length, (es.getD n default).val.length] := by unfold kvn; rw [List.range_succ, List.flatMap_append]; rfl
theorem fac_ents {es : List Ent} {kv vv : Nat → Value} {x : Value × Mem} (h : OneE es kv vv x) : Fac x.2 (kvs kv vv es.length) (kvn es es.length) [x.1] [es.length] := by
  have hblk : ∀ {v : Value} {n b : Nat}, LisM x.2 v n → v.ownBlock = some b → b ∈ x.2.map (·.1) := fun hl hb => hl.blk hb
  have hf : ∀ n, n ≤ es.length → F2 (LisM x.2) (kvs kv vv n) (kvn es n) ∧ ∀ b ∈ (kvs kv vv n).filterMap Value.ownBlock, b ∈ x.2.map (·.1) := by
    intro n
    induction n with
    | zero => exact fun _ => ⟨trivial, by simp [kvs]⟩
    | succ n ih =>
      intro hn
      obtain ⟨i1, i2⟩ := ih (by omega)
      rw [kvs_next, kvn_next]
      refine ⟨i1.app ⟨h.key n hn, h.val n hn, trivial⟩, fun b hb => ?_⟩
      rw [List.filterMap_append] at hb
      rcases List.mem_append.1 hb with hb | hb
      · exact i2 b hb
      · obtain ⟨v, hv, hvb⟩ := List.mem_filterMap.1 hb
        simp at hv
        rcases hv with rfl | rfl
        · exact hblk (h.key n hn) hvb
        · exact hblk (h.val n hn) hvb
  refine ⟨(hf _ (Nat.le_refl _)).1, ⟨?_, trivial⟩, h.dist, ?_, (hf _ (Nat.le_refl _)).2, ?_⟩
  · rcases h.lst with ⟨q1, q2⟩ | ⟨b, c, cs, q1, q2, q3, q4, q5, q6⟩
    · exact .inl ⟨q1, q2⟩
    · exact .inr ⟨b, c, cs, q1, q2, q3, q4, q5, fun k hk => by omega⟩
  · cases e : x.1.ownBlock <;> simp [e]
  · intro b hb
    rcases h.lst with ⟨q1, q2⟩ | ⟨b', c, cs, q1, q2, q3, q4, q5, q6⟩
    · rw [q1] at hb; simp [nilV, Value.ownBlock] at hb
    · rw [q1] at hb
      simp [Value.ownBlock] at hb
      subst hb
      exact List.mem_map.2 ⟨_, q2, rfl⟩
theorem fac_none : Fac [] [] [] [nilV] [0] := ⟨trivial, ⟨.inl ⟨rfl, rfl⟩, trivial⟩, .nil, List.Pairwise.nil, by simp, fun b hb => by cases hb⟩

theorem con23p {hb he : List Value} {ns es : List Nat} {H M : Mem} {v0 : Value} (hB : BookM hb he H) (hF : Fac M hb ns he es) (hn : ((H ++ M).map (·.1)).Nodup) (hN : ns.length < 1000000) (hE : es.length < 1000) (hb1 : ∀ n ∈ ns, n < 1000000000) (hb2 : ∀ n ∈ es, n < 1000000000) :
    Con 23 [.loc 1000 0] [(1000, .cust none (fun _ => memΦ v0 (H ++ M)))] (.bool .t) [(1000, .dead)] := by
  obtain ⟨bb, hd, e, r, c, c', hH, hbk, hek⟩ := hB
  have top : topQ bb (topC hd e) (H ++ M) := ⟨r ++ M, by rw [hH]; rfl⟩
  have l1 := hF.fb.len
  have l2 := hF.fe.len
  have B : BkAt ns (H ++ M) bb (topC hd e) hd hb c := ⟨top, by rw [← l1]; exact slm_keep hbk fun p hp _ => List.mem_append_left _ hp, l1, fun i hi => (hF.fb.at i hi).mono fun p hp _ => List.mem_append_right _ hp, hF.db⟩
  obtain ⟨K, hK⟩ : ∃ K : Mem, K = (H ++ M).filter fun p => decide (p.2.1 ≠ 5 ∧ p.2.1 ≠ 27) := ⟨_, rfl⟩
  have kK : Kept K (H ++ M) := fun p hp => by
    rw [hK] at hp
    obtain ⟨q1, q2⟩ := List.mem_filter.1 hp
    exact ⟨of_decide_eq_true q2, q1⟩
  refine con23o (K := K) top (slm_one hbk) (slm_one hek) (con49m hN hb1 (marks_0 B kK) hn) fun H' ht' hk' hn' => ?_
  have keep : ∀ p ∈ H ++ M, p.2.1 ≠ 5 → p.2.1 ≠ 27 → p ∈ H' := fun p hp h5 h27 => (hk' p (by rw [hK]; exact List.mem_filter.2 ⟨hp, decide_eq_true ⟨h5, h27⟩⟩)).2
  have A : EkAt es H' bb (topC hd e) e he c' := ⟨ht', by rw [← l2]; exact slm_keep hek fun p hp h => keep p (List.mem_append_left _ hp) (by omega) (by omega), l2, fun i hi => (hF.fe.at i hi).mono fun p hp h => keep p (List.mem_append_right _ hp) (by omega) (by omega), hF.de⟩
  exact con65m hE hb2 (marksE_0 A) hn'
end Go.Proofs.Ytmdfjipjkkjpcaa

/- The book's users: new objects whose blocks lie within, small entries, the book's Entries and Bytes with ghosts of which a walk sees little. -/
namespace Go.SX
section
variable {P : Program} {f : Nat}
/-- A new object whose blocks all lie within. -/
theorem specX_within {svs : List SV} {d : Option DV} {Φ : Unit → World → Value → List Nat → Prop} (h : SpecX P f svs [] (.own 2000) [(2000, .cust d Φ)]) : SpecX P f svs [] (.own 2000) [(2000, .kn d Φ)] := by
  intro η G vs w hsep hob hs
  have hη : ∀ j, η j = none := fun j => opt_none (hob j)
  refine (h η G vs w hsep hob hs).mono fun v w' ⟨η', G', q1, q2, q3, q4⟩ => ?_
  have hk := q2 2000
  rw [look_cons, if_pos rfl] at hk
  cases ho : η' 2000 with
  | none => rw [ho] at hk; exact hk.elim
  | some o =>
  rw [ho] at hk
  obtain ⟨k1, k2, k3⟩ := hk
  have hot : ∀ j, j ≠ 2000 → η' j = none := fun j hj => opt_none (by have := q2 j; rwa [look_cons, if_neg hj] at this)
  have hin : ∀ {j : Nat} {oj : OInfo}, (if j = 2000 then some (⟨o.val, [], o.main, false⟩ : OInfo) else η' j) = some oj → j = 2000 ∧ oj = ⟨o.val, [], o.main, false⟩ := fun {j oj} hj => by
    by_cases e : j = 2000
    · rw [if_pos e] at hj; cases hj; exact ⟨e, rfl⟩
    · rw [if_neg e, hot j e] at hj; cases hj
  refine ⟨fun j => if j = 2000 then some ⟨o.val, [], o.main, false⟩ else η' j, G', ?_, fun j => ?_, ⟨fun j oj hj b hb => ?_, fun j oj j' oj' hj hj' hne => ?_, fun j oj hj b hb => ?_, q3.glt⟩, ⟨q4.os, q4.tape, q4.out, q4.size, q4.keep, fun j oj hj => ?_, q4.g, q4.g', fun j oj hj b hb => ?_⟩⟩
  · obtain ⟨o', h1, h2, h3⟩ := q1
    rw [ho] at h1; cases h1
    exact ⟨⟨o.val, [], o.main, false⟩, by simp, h2, fun _ => h3 k1⟩
  · show ObjOpt _ G' w' _ (if j = 2000 then some ⟨o.val, [], o.main, false⟩ else η' j)
    by_cases e : j = 2000
    · subst e
      rw [look_cons, if_pos rfl, if_pos rfl]
      exact ⟨⟨rfl, fun _ => rfl⟩, fun w2 hw2 => k3 w2 hw2⟩
    · rw [look_cons, if_neg e, if_neg e, hot j e]; trivial
  · obtain ⟨rfl, rfl⟩ := hin hj
    exact q3.lt 2000 o ho b (by simpa [k2] using hb)
  · obtain ⟨rfl, rfl⟩ := hin hj
    obtain ⟨rfl, rfl⟩ := hin hj'
    exact absurd rfl hne
  · obtain ⟨rfl, rfl⟩ := hin hj
    cases hb
  · rw [hη j] at hj; cases hj
  · obtain ⟨rfl, rfl⟩ := hin hj
    exact q4.blk 2000 o ho b (by simpa [k2] using hb)
/-- An object whose blocks lie within is handed in; it is gone behind. -/
theorem specX_gone {d : Option DV} {Φ : Unit → World → Value → List Nat → Prop} (h : SpecX P f [.own 1000] [(1000, .cust d Φ)] (.tup []) [(1000, .dead)]) : SpecX P f [.own 1000] [(1000, .kn d Φ)] (.tup []) [(1000, .dead)] := by
  intro η G vs w hsep hob hs
  have hk := hob 1000
  rw [look_cons, if_pos rfl] at hk
  cases ho : η 1000 with
  | none => rw [ho] at hk; exact hk.elim
  | some o =>
  rw [ho] at hk
  obtain ⟨⟨k1, _⟩, k3⟩ := hk
  have hot : ∀ j, j ≠ 1000 → η j = none := fun j hj => opt_none (by have := hob j; rwa [look_cons, if_neg hj] at this)
  obtain ⟨o2, ho2⟩ : ∃ o2 : OInfo, o2 = ⟨o.val, o.main ++ o.inner, [], false⟩ := ⟨_, rfl⟩
  have hin : ∀ {j : Nat} {oj : OInfo}, (if j = 1000 then some o2 else η j) = some oj → j = 1000 ∧ oj = o2 := fun {j oj} hj => by
    by_cases e : j = 1000
    · rw [if_pos e] at hj; cases hj; exact ⟨e, rfl⟩
    · rw [if_neg e, hot j e] at hj; cases hj
  have hsep1 : Sep (fun j => if j = 1000 then some o2 else η j) G w := by
    refine ⟨fun j oj hj b hb => ?_, fun j oj j' oj' hj hj' hne => ?_, fun j oj hj b hb => ?_, hsep.glt⟩
    · obtain ⟨rfl, rfl⟩ := hin hj
      exact hsep.lt 1000 o ho b (by rw [ho2] at hb; simpa using hb)
    · obtain ⟨rfl, _⟩ := hin hj
      obtain ⟨rfl, _⟩ := hin hj'
      exact absurd rfl hne
    · obtain ⟨_, rfl⟩ := hin hj
      rw [ho2]; simp
  refine (h (fun j => if j = 1000 then some o2 else η j) G vs w hsep1 (fun j => ?_) ?_).mono fun v w' ⟨η', G', q1, q2, q3, q4⟩ => ⟨η', G', q1, q2, q3, ⟨q4.os, q4.tape, q4.out, q4.size, fun b hb hn => ?_, fun j oj hj => ?_, q4.g, fun b hb => ?_, fun j oj hj b hb => ?_⟩⟩
  · show ObjOpt _ G w _ (if j = 1000 then some o2 else η j)
    by_cases e : j = 1000
    · subst e
      rw [look_cons, if_pos rfl, if_pos rfl]
      exact ⟨by rw [ho2], by rw [ho2], fun w2 hw2 => by rw [ho2] at hw2 ⊢; exact k3 w2 hw2⟩
    · rw [look_cons, if_neg e, if_neg e, hot j e]; trivial
  · match vs, hs with
    | [v1], hs =>
      obtain ⟨⟨o', h1, h2, h3⟩, -⟩ := hs
      rw [ho] at h1; cases h1
      exact ⟨⟨o2, by simp, h2, fun _ => by rw [ho2]; exact h3 k1⟩, trivial⟩
    | [], h => exact h.elim
    | _ :: _ :: _, h => exact h.2.elim
  · refine q4.keep b hb fun j oj hj hm => ?_
    obtain ⟨rfl, rfl⟩ := hin hj
    exact hn 1000 o ho (by rw [ho2] at hm; simpa using hm)
  · by_cases e : j = 1000
    · subst e
      obtain ⟨o', h1, h2⟩ := q4.obj 1000 o2 (by simp)
      refine ⟨o', h1, fun hd => ?_⟩
      have := q2 1000
      rw [look_cons, if_pos rfl, h1] at this
      have hdd : o'.dead = true := this.1
      rw [hd] at hdd; cases hdd
    · rw [hot j e] at hj; cases hj
  · rcases q4.g' b hb with h | h | ⟨j0, o0, h0, hb0⟩
    · exact .inl h
    · exact .inr (.inl h)
    · obtain ⟨rfl, rfl⟩ := hin h0
      exact .inr (.inr ⟨1000, o, ho, by rw [ho2] at hb0; simpa using hb0⟩)
  · rcases q4.blk j oj hj b hb with h | ⟨j0, o0, h0, hb0⟩
    · exact .inl h
    · obtain ⟨rfl, rfl⟩ := hin h0
      exact .inr ⟨1000, o, ho, by rw [ho2] at hb0; simpa using hb0⟩
end
end Go.SX
namespace Go.Proofs.Ytmdfjipjkkjpcaa
open Go.SX

def TinyE (e : Ent) : Prop := e.key.length < 1000000000 ∧ e.val.length < 1000000000
theorem kvn_tiny {es : List Ent} (h : ∀ e ∈ es, TinyE e) : ∀ n ∈ kvn es es.length, n < 1000000000 := fun n hn => by
  unfold kvn at hn
  obtain ⟨i, hi, hn⟩ := List.mem_flatMap.1 hn
  have hi := List.mem_range.1 hi
  have := h _ (getD_mem hi)
  simp at hn
  rcases hn with rfl | rfl
  · exact this.1
  · exact this.2
theorem kvn_len (es : List Ent) (n : Nat) : (kvn es n).length = 2 * n := by
  induction n with
  | zero => rfl
  | succ n ih => rw [kvn_next, List.length_append, ih]; simp; omega

/-- What a list of entries leaves: the book's value and memory, the list's; its keys and values. -/
abbrev RawE := ((Value × Mem) × (Value × Mem)) × (Nat → Value) × (Nat → Value)
abbrev RawB := (Value × Mem) × (Value × Mem)

theorem put29 {H : Mem} {hb he : List Value} {v0 : Value} {es : List Ent} (n m : Nat) (hB : BookM hb he H ∧ hb.length ≤ n ∧ he.length ≤ m) (hn : es.length < 10000) (hlb : n < 100000) (hle : m < 1000) :
    ∃ Q : RawE → Prop, (∀ x, Q x → OneE es x.2.1 x.2.2 x.1.2 ∧ BookM (hb ++ kvs x.2.1 x.2.2 es.length) (he ++ [x.1.2.1]) x.1.1.2 ∧ (hb ++ kvs x.2.1 x.2.2 es.length).length ≤ n + 20000 ∧ (he ++ [x.1.2.1]).length ≤ m + 1) ∧
      ConG 29 [.loc 1000 0, .own 1001] [(1000, .cust none (fun _ => memΦ v0 H)), (1001, .arrD 74 4 (fun _ => es.length) (lrow encE fun _ => es))] {x : RawE // Q x} (fun _ => .tup []) (fun x => [(1000, .cust none (fun _ => memΦ x.1.1.1.1 x.1.1.1.2)), (1001, knownE es x.1.1.2)]) :=
  ⟨_, fun x h => ⟨h.2, h.1, by rw [List.length_append, kvs_len]; omega, by rw [List.length_append, List.length_singleton]; omega⟩, con29g hB.1 (by omega) (by omega) (by omega)⟩
theorem put29z {es : List Ent} (hn : es.length < 10000) :
    ∃ Q : RawE → Prop, (∀ x, Q x → OneE es x.2.1 x.2.2 x.1.2 ∧ BookM ([] ++ kvs x.2.1 x.2.2 es.length) ([] ++ [x.1.2.1]) x.1.1.2 ∧ ([] ++ kvs x.2.1 x.2.2 es.length : List Value).length ≤ 20000 ∧ ([] ++ [x.1.2.1] : List Value).length ≤ 1) ∧
      ConG 29 [.loc 1000 0, .own 1001] [(1000, .cells 61 [.nil, .nil, .nil, .nil, .nil, .nil, .nil, .nil, .nil, .nil, .nil, .nil, .nil, .nil, .nil, .nil, .nil, .nil, .nil, .nil, .nil, .nil, .nil]), (1001, .arrD 74 4 (fun _ => es.length) (lrow encE fun _ => es))]
        {x : RawE // Q x} (fun _ => .tup []) (fun x => [(1000, .cust none (fun _ => memΦ x.1.1.1.1 x.1.1.1.2)), (1001, knownE es x.1.1.2)]) :=
  ⟨_, fun x h => ⟨h.2, h.1, by rw [List.length_append, kvs_len, List.length_nil]; omega, by simp⟩, con29g0 (by omega)⟩
theorem put18 {H : Mem} {hb he : List Value} {v0 : Value} {bs : List UInt8} (n m : Nat) (hB : BookM hb he H ∧ hb.length ≤ n ∧ he.length ≤ m) (hlb : n < 1000000) :
    ∃ Q : RawB → Prop, (∀ x, Q x → OneB bs x.2 ∧ BookM (hb ++ [x.2.1]) he x.1.2) ∧
      ConG 18 [.loc 1000 0, .own 1001] [(1000, .cust none (fun _ => memΦ v0 H)), (1001, .barr 5 fun _ => bs)] {x : RawB // Q x} (fun _ => .tup []) (fun x => [(1000, .cust none (fun _ => memΦ x.1.1.1 x.1.1.2)), (1001, knownB (fun _ => bs) x.1.2)]) :=
  ⟨_, fun x h => ⟨h.2, h.1⟩, con18g hB.1 (by omega)⟩
end Go.Proofs.Ytmdfjipjkkjpcaa

