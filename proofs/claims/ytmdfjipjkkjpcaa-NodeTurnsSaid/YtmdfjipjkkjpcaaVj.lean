/- Texts put together: Po, Pr, Pp, Tf. -/
import Derived.Test.YtmdfjipjkkjpcaaVi
/- Node laws: what Put comes to. -/
namespace Go.Proofs.Ytmdfjipjkkjpcaa
open Go.SX

abbrev Less (a b : Ent) : Prop := Lib.compareBytes a.key b.key < 0
def Up (es : List Ent) : Prop := es.Pairwise Less

theorem up_rises {es : List Ent} (h : Up es) : RisesL es := by
  intro i j hij hj
  have := List.pairwise_iff_getElem.1 h i j (by omega) hj hij
  simpa [List.getD_eq_getElem?_getD, List.getElem?_eq_getElem hj, List.getElem?_eq_getElem (show i < es.length by omega)] using this

theorem less_irr {a : Ent} : ¬ Less a a := by unfold Less; rw [cmp_self]; omega

theorem put_split {es : List Ent} (h : Up es) (e : Ent) : ∃ A M C, es = A ++ (M ++ C) ∧ putL es e = A ++ e :: C ∧ (∀ x ∈ A, Less x e) ∧ (∀ x ∈ C, Less e x) ∧ ∀ x ∈ M, x.key = e.key := by
  have hr := up_rises h
  obtain ⟨l1, l2⟩ := place_law (ge_mono hr e.key)
  have hle := placeI_le (p := geP e.key) (es := es)
  have hput : putL es e = es.take (placeI (geP e.key) es) ++ ([e] ++ es.drop (if placeI (geP e.key) es < es.length ∧ (es.getD (placeI (geP e.key) es) default).key = e.key then placeI (geP e.key) es + 1 else placeI (geP e.key) es)) := rfl
  generalize placeI (geP e.key) es = k at l1 l2 hle hput
  have hA : ∀ x ∈ es.take k, Less x e := by
    intro x hx
    obtain ⟨i, hi, rfl⟩ := List.getElem_of_mem hx
    have hi' : i < k ∧ i < es.length := by simp at hi; omega
    have := l1 i hi'.1
    simp only [geP, decide_eq_false_iff_not] at this
    simp only [List.getElem_take]
    rw [List.getD_eq_getElem?_getD, List.getElem?_eq_getElem hi'.2] at this
    simp only [Option.getD_some] at this
    unfold Less; omega
  have hge : ∀ i (hi : i < es.length), k ≤ i → 0 ≤ Lib.compareBytes es[i].key e.key := by
    intro i hi hk
    have := l2 i hk hi
    simp only [geP, decide_eq_true_eq] at this
    rwa [List.getD_eq_getElem?_getD, List.getElem?_eq_getElem hi] at this
  by_cases hc : k < es.length ∧ (es.getD k default).key = e.key
  · rw [if_pos hc] at hput
    have hek : es[k].key = e.key := by have := hc.2; rwa [List.getD_eq_getElem?_getD, List.getElem?_eq_getElem hc.1] at this
    refine ⟨es.take k, [es[k]], es.drop (k + 1), ?_, by rw [hput]; rfl, hA, ?_, ?_⟩
    · conv => lhs; rw [← List.take_append_drop k es, List.drop_eq_getElem_cons hc.1]
      simp
    · intro x hx
      obtain ⟨i, hi, rfl⟩ := List.getElem_of_mem hx
      simp only [List.length_drop] at hi
      simp only [List.getElem_drop]
      have := List.pairwise_iff_getElem.1 h k (k + 1 + i) hc.1 (by omega) (by omega)
      unfold Less at this ⊢
      rwa [hek] at this
    · intro x hx
      rw [List.mem_singleton] at hx
      rw [hx]; exact hek
  · rw [if_neg hc] at hput
    refine ⟨es.take k, [], es.drop k, by simp, by rw [hput]; rfl, hA, ?_, fun x hx => by cases hx⟩
    intro x hx
    obtain ⟨i, hi, rfl⟩ := List.getElem_of_mem hx
    simp only [List.length_drop] at hi
    simp only [List.getElem_drop]
    have hk : k < es.length := by omega
    have hne : es[k].key ≠ e.key := fun he => hc ⟨hk, by rw [List.getD_eq_getElem?_getD, List.getElem?_eq_getElem hk]; exact he⟩
    have h0 := hge k hk (Nat.le_refl _)
    have h0' : Less e es[k] := by
      have h1 := cmp_anti es[k].key e.key
      have h2 : Lib.compareBytes es[k].key e.key ≠ 0 := fun hz => hne (cmp_zero hz)
      unfold Less; omega
    by_cases hi0 : i = 0
    · subst hi0; exact h0'
    · exact cmp_trans h0' (List.pairwise_iff_getElem.1 h k (k + i) hk (by omega) (by omega))

theorem put_up {es : List Ent} (h : Up es) (e : Ent) : Up (putL es e) := by
  obtain ⟨A, M, C, h1, h2, hA, hC, -⟩ := put_split h e
  rw [h2]
  unfold Up at h ⊢
  rw [h1, List.pairwise_append] at h
  obtain ⟨a1, a2, a3⟩ := h
  have c1 := (List.pairwise_append.1 a2).2.1
  rw [List.pairwise_append]
  refine ⟨a1, List.pairwise_cons.2 ⟨hC, c1⟩, fun x hx y hy => ?_⟩
  rcases List.mem_cons.1 hy with rfl | hy
  · exact hA x hx
  · exact a3 x hx y (by simp [hy])
theorem put_mem {es : List Ent} (h : Up es) (e x : Ent) : x ∈ putL es e ↔ x = e ∨ (x ∈ es ∧ x.key ≠ e.key) := by
  obtain ⟨A, M, C, h1, h2, hA, hC, hM⟩ := put_split h e
  rw [h2, h1]
  simp only [List.mem_append, List.mem_cons]
  have nA : x ∈ A → x.key ≠ e.key := fun hx he => by have := hA x hx; unfold Less at this; rw [he, cmp_self] at this; omega
  have nC : x ∈ C → x.key ≠ e.key := fun hx he => by have := hC x hx; unfold Less at this; rw [he, cmp_self] at this; omega
  constructor
  · rintro (hx | rfl | hx)
    · exact .inr ⟨.inl hx, nA hx⟩
    · exact .inl rfl
    · exact .inr ⟨.inr (.inr hx), nC hx⟩
  · rintro (rfl | ⟨hx | hx | hx, hn⟩)
    · exact .inr (.inl rfl)
    · exact .inl hx
    · exact absurd (hM x hx) hn
    · exact .inr (.inr hx)
theorem put_len {es : List Ent} (h : Up es) (e : Ent) (hn : ∀ x ∈ es, x.key ≠ e.key) : (putL es e).length = es.length + 1 := by
  obtain ⟨A, M, C, h1, h2, -, -, hM⟩ := put_split h e
  have : M = [] := by
    cases M with
    | nil => rfl
    | cons x M => exact absurd (hM x (by simp)) (hn x (by rw [h1]; simp))
  subst this
  rw [h2]
  conv => rhs; rw [h1]
  simp only [List.length_append, List.length_cons, List.nil_append]; omega

theorem up_unique : ∀ {a b : List Ent}, Up a → Up b → (∀ x, x ∈ a ↔ x ∈ b) → a = b
  | [], [], _, _, _ => rfl
  | [], y :: b, _, _, h => by have := (h y).2 (by simp); cases this
  | x :: a, [], _, _, h => by have := (h x).1 (by simp); cases this
  | x :: a, y :: b, ha, hb, h => by
      obtain ⟨a1, a2⟩ := List.pairwise_cons.1 ha
      obtain ⟨b1, b2⟩ := List.pairwise_cons.1 hb
      have hxy : x = y := by
        rcases List.mem_cons.1 ((h x).1 (by simp)) with h1 | h1
        · exact h1
        · rcases List.mem_cons.1 ((h y).2 (by simp)) with h2 | h2
          · exact h2.symm
          · exact absurd (cmp_trans (a1 y h2) (b1 x h1)) less_irr
      subst hxy
      rw [up_unique a2 b2 fun z => ?_]
      constructor
      · intro hz
        rcases List.mem_cons.1 ((h z).1 (by simp [hz])) with h1 | h1
        · subst h1; exact absurd (a1 _ hz) less_irr
        · exact h1
      · intro hz
        rcases List.mem_cons.1 ((h z).2 (by simp [hz])) with h1 | h1
        · subst h1; exact absurd (b1 _ hz) less_irr
        · exact h1

def putAll (m : List Ent) : List Ent := m.foldl putL []
theorem putAll_next {m : List Ent} {i : Nat} (hi : i < m.length) : putAll (m.take (i + 1)) = putL (putAll (m.take i)) (m.getD i default) := by
  rw [getD_take m hi]; simp [putAll]
def Unlike (m : List Ent) : Prop := ∀ i j, i < j → j < m.length → (m.getD i default).key ≠ (m.getD j default).key

theorem putAll_law {m : List Ent} (hd : Unlike m) : ∀ n, n ≤ m.length → Up (putAll (m.take n)) ∧ (∀ x, x ∈ putAll (m.take n) ↔ x ∈ m.take n) ∧ (putAll (m.take n)).length = n
  | 0, _ => ⟨by simp [putAll, Up], by simp [putAll], by simp [putAll]⟩
  | n + 1, hn => by
      obtain ⟨h1, h2, h3⟩ := putAll_law hd n (by omega)
      have hne : ∀ x ∈ m.take n, x.key ≠ (m.getD n default).key := by
        intro x hx
        obtain ⟨i, hi, rfl⟩ := List.getElem_of_mem hx
        have hi' : i < n ∧ i < m.length := by simp at hi; omega
        have := hd i n hi'.1 (by omega)
        simp only [List.getElem_take]
        rwa [List.getD_eq_getElem?_getD, List.getElem?_eq_getElem hi'.2] at this
      rw [putAll_next (by omega)]
      refine ⟨put_up h1 _, fun x => ?_, ?_⟩
      · rw [put_mem h1, h2, getD_take m (by omega), List.mem_append, List.mem_singleton]
        constructor
        · rintro (h | ⟨h, _⟩)
          · exact .inr h
          · exact .inl h
        · rintro (h | h)
          · exact .inr ⟨h, hne x h⟩
          · exact .inl h
      · rw [put_len h1 _ (fun x hx => hne x ((h2 x).1 hx)), h3]

theorem unlike_rev {m : List Ent} (h : Unlike m) : Unlike m.reverse := by
  intro i j hij hj
  simp only [List.length_reverse] at hj
  have := h (m.length - 1 - j) (m.length - 1 - i) (by omega) (by omega)
  have e1 : m.reverse.getD i default = m.getD (m.length - 1 - i) default := by
    rw [List.getD_eq_getElem?_getD, List.getD_eq_getElem?_getD, List.getElem?_reverse (by omega)]
  have e2 : m.reverse.getD j default = m.getD (m.length - 1 - j) default := by
    rw [List.getD_eq_getElem?_getD, List.getD_eq_getElem?_getD, List.getElem?_reverse (by omega)]
  rw [e1, e2]
  exact fun he => this he.symm
theorem putAll_rev {m : List Ent} (h : Unlike m) : putAll m = putAll m.reverse := by
  have h1 := putAll_law h m.length (Nat.le_refl _)
  have h2 := putAll_law (unlike_rev h) m.reverse.length (Nat.le_refl _)
  rw [List.take_length] at h1 h2
  exact up_unique h1.1 h2.1 fun x => by rw [h1.2.1, h2.2.1, List.mem_reverse]

/-- In a rising list each key is found where it stands. -/
theorem found_at {S : List Ent} (h : Up S) {e : Ent} (he : e ∈ S) : placeI (geP e.key) S < S.length ∧ S.getD (placeI (geP e.key) S) default = e := by
  have hr := up_rises h
  obtain ⟨l1, l2⟩ := place_law (ge_mono hr e.key)
  have hle := placeI_le (p := geP e.key) (es := S)
  generalize placeI (geP e.key) S = k at l1 l2 hle
  obtain ⟨j, hj, hje⟩ := List.getElem_of_mem he
  have hgj : S.getD j default = e := by rw [List.getD_eq_getElem?_getD, List.getElem?_eq_getElem hj]; exact hje
  have hkj : k ≤ j := by
    rcases Nat.lt_or_ge j k with hlt | hge
    · have := l1 j hlt
      rw [hgj] at this
      simp only [geP, cmp_self] at this
      simp at this
    · exact hge
  rcases Nat.lt_or_ge k j with hlt | hge
  · have h1 := l2 k (Nat.le_refl _) (by omega)
    have h2 := hr k j hlt hj
    rw [hgj] at h2
    simp only [geP, decide_eq_true_eq] at h1
    omega
  · have : k = j := by omega
    subst this
    exact ⟨hj, hgj⟩
end Go.Proofs.Ytmdfjipjkkjpcaa

/- Node laws: the reference's Check. -/
namespace Go.Proofs.Ytmdfjipjkkjpcaa
open Go.SX

set_option maxRecDepth 20000 in
set_option maxHeartbeats 4000000 in
theorem con85 {a b : List UInt8} : Con 85 [.dat (.bytes fun _ => a), .dat (.bytes fun _ => b)] [] (.bool (.s fun _ => Op.bytesLess a b)) [] := by
  refine con_of Try.func85 rfl rfl 10 _ rfl rfl rfl rfl ?_
  cbv
  refine ⟨[], [], ?_⟩
  cbv
  and_intros
  all_goals first | exact trivial | exact ⟨rfl⟩ | exact ⟨rfl, fun _ _ _ _ => rfl⟩ | exact ⟨by kernel_rfl⟩

set_option maxRecDepth 20000 in
set_option maxHeartbeats 4000000 in
theorem con89 {e : Ent} : Con 89 [entSV e] [] (.bool (.s fun _ => kidB e)) [] := by
  refine con_of Try.func89 rfl rfl 22 _ rfl rfl rfl rfl ?_
  cbv
  refine ⟨fun h1 => ?_, fun h1 => ?_⟩
  · have h1 : (e.val.length : Int) = 0 := of_decide_eq_true h1
    have h1 : e.val.length = 0 := by omega
    cbv
    refine ⟨fun h2 => ?_, fun h2 => ?_⟩
    · have h2 : e.size = 0 := of_decide_eq_true h2
      cbv
      refine ⟨fun h3 => ?_, fun h3 => ?_⟩
      · have h3 : 2 ≤ e.page := of_decide_eq_true h3
        have e1 : decide (e.page < 16384) = kidB e := by simp [kidB, isPageB, h1, h2, h3]
        cbv
        refine ⟨[], [], ?_⟩
        cbv
        and_intros
        all_goals first | exact trivial | exact ⟨e1⟩ | exact ⟨rfl⟩ | exact ⟨rfl, fun _ _ _ _ => rfl⟩ | exact ⟨by kernel_rfl⟩
      · have h3 : ¬ 2 ≤ e.page := of_decide_eq_false h3
        have e1 : false = kidB e := by simp [kidB, isPageB, h1, h2, h3]
        cbv
        refine ⟨[], [], ?_⟩
        cbv
        and_intros
        all_goals first | exact trivial | exact ⟨e1⟩ | exact ⟨rfl⟩ | exact ⟨rfl, fun _ _ _ _ => rfl⟩ | exact ⟨by kernel_rfl⟩
    · have h2 : ¬ e.size = 0 := of_decide_eq_false h2
      have e1 : false = kidB e := by simp [kidB, h2]
      cbv
      refine ⟨[], [], ?_⟩
      cbv
      and_intros
      all_goals first | exact trivial | exact ⟨e1⟩ | exact ⟨rfl⟩ | exact ⟨rfl, fun _ _ _ _ => rfl⟩ | exact ⟨by kernel_rfl⟩
  · have h1 : ¬ (e.val.length : Int) = 0 := of_decide_eq_false h1
    have h1 : ¬ e.val.length = 0 := by omega
    have e1 : false = kidB e := by simp only [kidB, h1, decide_false, Bool.false_and]
    cbv
    refine ⟨[], [], ?_⟩
    cbv
    and_intros
    all_goals first | exact trivial | exact ⟨e1⟩ | exact ⟨rfl⟩ | exact ⟨rfl, fun _ _ _ _ => rfl⟩ | exact ⟨by kernel_rfl⟩

set_option maxRecDepth 20000 in
set_option maxHeartbeats 4000000 in
theorem con88 {e : Ent} : Con 88 [entSV e] [] (.bool (.s fun _ => leafyB e)) [] := by
  refine con_of Try.func88 rfl rfl 39 _ rfl rfl rfl rfl ?_
  cbv
  refine ⟨fun h1 => ?_, fun h1 => ?_⟩
  · have h1 : e.page = 0 := of_decide_eq_true h1
    have e0 : leafyB e = (decide (e.size = 0) && decide (e.val.length ≤ 64)) := if_pos h1
    cbv
    refine ⟨fun h2 => ?_, fun h2 => ?_⟩
    · have h2 : e.size = 0 := of_decide_eq_true h2
      have e2 : decide ((e.val.length : Int) ≤ 64) = decide (e.val.length ≤ 64) := decide_eq_decide.2 (by omega)
      have e1 : decide ((e.val.length : Int) ≤ 64) = leafyB e := by rw [e0, h2, e2]; rfl
      clear e0
      cbv
      refine ⟨[], [], ?_⟩
      cbv
      and_intros
      all_goals first | exact trivial | exact ⟨e1⟩ | exact ⟨rfl⟩ | exact ⟨rfl, fun _ _ _ _ => rfl⟩ | exact ⟨by kernel_rfl⟩
    · have h2 : ¬ e.size = 0 := of_decide_eq_false h2
      have e1 : false = leafyB e := by rw [e0]; simp only [h2, decide_false, Bool.false_and]
      clear e0
      cbv
      refine ⟨[], [], ?_⟩
      cbv
      and_intros
      all_goals first | exact trivial | exact ⟨e1⟩ | exact ⟨rfl⟩ | exact ⟨rfl, fun _ _ _ _ => rfl⟩ | exact ⟨by kernel_rfl⟩
  · have h1 : ¬ e.page = 0 := of_decide_eq_false h1
    have e0 : leafyB e = (decide (e.val.length = 0) && (isPageB e.page && (decide (64 < e.size) && decide (e.size ≤ 8192)))) := if_neg h1
    cbv
    refine ⟨fun h2 => ?_, fun h2 => ?_⟩
    · have h2 : (e.val.length : Int) = 0 := of_decide_eq_true h2
      have h2 : e.val.length = 0 := by omega
      cbv
      refine ⟨fun h3 => ?_, fun h3 => ?_⟩
      · have h3 : 2 ≤ e.page := of_decide_eq_true h3
        cbv
        refine ⟨fun h4 => ?_, fun h4 => ?_⟩
        · have h4 : e.page < 16384 := of_decide_eq_true h4
          have hpg : isPageB e.page = true := by simp [isPageB, h3, h4]
          have e0 : leafyB e = (decide (64 < e.size) && decide (e.size ≤ 8192)) := by rw [e0, h2, hpg]; rfl
          cbv
          refine ⟨fun h5 => ?_, fun h5 => ?_⟩
          · have h5 : 65 ≤ e.size := of_decide_eq_true h5
            have e1 : decide (e.size ≤ 8192) = leafyB e := by rw [e0, decide_eq_true (show 64 < e.size by omega)]; rfl
            cbv
            refine ⟨[], [], ?_⟩
            cbv
            and_intros
            all_goals first | exact trivial | exact ⟨e1⟩ | exact ⟨rfl⟩ | exact ⟨rfl, fun _ _ _ _ => rfl⟩ | exact ⟨by kernel_rfl⟩
          · have h5 : ¬ 65 ≤ e.size := of_decide_eq_false h5
            have e1 : false = leafyB e := by rw [e0, decide_eq_false (show ¬ 64 < e.size by omega)]; rfl
            cbv
            refine ⟨[], [], ?_⟩
            cbv
            and_intros
            all_goals first | exact trivial | exact ⟨e1⟩ | exact ⟨rfl⟩ | exact ⟨rfl, fun _ _ _ _ => rfl⟩ | exact ⟨by kernel_rfl⟩
        · have h4 : ¬ e.page < 16384 := of_decide_eq_false h4
          have hpg : isPageB e.page = false := by simp [isPageB, h4]
          have e1 : false = leafyB e := by rw [e0, h2, hpg]; rfl
          cbv
          refine ⟨[], [], ?_⟩
          cbv
          and_intros
          all_goals first | exact trivial | exact ⟨e1⟩ | exact ⟨rfl⟩ | exact ⟨rfl, fun _ _ _ _ => rfl⟩ | exact ⟨by kernel_rfl⟩
      · have h3 : ¬ 2 ≤ e.page := of_decide_eq_false h3
        have hpg : isPageB e.page = false := by simp [isPageB, h3]
        have e1 : false = leafyB e := by rw [e0, h2, hpg]; rfl
        cbv
        refine ⟨[], [], ?_⟩
        cbv
        and_intros
        all_goals first | exact trivial | exact ⟨e1⟩ | exact ⟨rfl⟩ | exact ⟨rfl, fun _ _ _ _ => rfl⟩ | exact ⟨by kernel_rfl⟩
    · have h2 : ¬ (e.val.length : Int) = 0 := of_decide_eq_false h2
      have h2 : ¬ e.val.length = 0 := by omega
      have e1 : false = leafyB e := by rw [e0]; simp only [h2, decide_false, Bool.false_and]
      clear e0 h2
      cbv
      refine ⟨[], [], ?_⟩
      cbv
      and_intros
      all_goals first | exact trivial | exact ⟨e1⟩ | exact ⟨rfl⟩ | exact ⟨rfl, fun _ _ _ _ => rfl⟩ | exact ⟨by kernel_rfl⟩

theorem con48 {leaf : Bool} {k v : List UInt8} {p s : Int} (h : k.length + v.length < 1000000000000) :
    Con 48 [.bool (.s fun _ => leaf), .agg [.dat (.bytes fun _ => k), .dat (.bytes fun _ => v), .int .u32 (.s fun _ => p), .int .u32 (.s fun _ => s)]] [] (.int .i64 (.s fun _ => bytesOfI leaf k v p)) [] := by
  refine con_of Try.func48 rfl rfl 26 _ rfl rfl rfl rfl ?_
  cbv
  refine ⟨fun h1 => ?_, fun h1 => ?_⟩
  · cbv
    refine ⟨⟨?_⟩, [], [], ?_⟩
    · simp only [bound64, IE.den, ncast]; omega
    · cbv
      refine ⟨⟨?_⟩, ⟨rfl⟩⟩
      simp only [IE.den, bytesOfI, ncast]
      rw [if_pos h1]
  · cbv
    refine ⟨fun h2 => ?_, fun h2 => ?_⟩
    · cbv
      refine ⟨⟨?_⟩, [], [], ?_⟩
      · simp only [bound64, IE.den, ncast]; omega
      · cbv
        refine ⟨⟨?_⟩, ⟨rfl⟩⟩
        simp only [Bool.not_eq_true', Bool.not_eq_false', decide_eq_true_eq, decide_eq_false_iff_not] at h1 h2
        simp only [IE.den] at h1 h2
        simp [IE.den, bytesOfI, ncast, h1, h2]
    · cbv
      refine ⟨⟨?_⟩, ⟨?_⟩, [], [], ?_⟩
      · simp only [bound64, IE.den, ncast]; omega
      · simp only [bound64, IE.den, ncast]; omega
      · cbv
        refine ⟨⟨?_⟩, ⟨rfl⟩⟩
        simp only [Bool.not_eq_true', Bool.not_eq_false', decide_eq_true_eq, decide_eq_false_iff_not] at h1 h2
        simp only [IE.den] at h1 h2
        simp [IE.den, bytesOfI, ncast, h1, h2]

set_option maxRecDepth 20000 in
set_option maxHeartbeats 4000000 in
theorem con21 {leaf : Bool} {es : List Ent} (h : weight es + 20 * es.length < 1000000000000) : Con 21 [nodeSV leaf es] [] (.int .i64 (.s fun _ => 2 + sizeL leaf es)) [] := by
  refine con_of Try.func21 rfl rfl 23 _ rfl rfl rfl rfl ?_
  cbv
  refine ⟨Nat, [], fun i => [(3, .int .i64 (.s fun _ => 2 + sizeL leaf (es.take i))), (4, .int .i64 (.s fun _ => (i : Int)))], fun _ => [(1, .cells 24 [.bool (.s fun _ => leaf), .dat (entsDV es)])],
    fun i => i ≤ es.length, fun i => es.length - i, 0, [], Nat.zero_le _, ⟨?_⟩, fun i hi => ?_⟩
  · cbv
    and_intros
    all_goals first | exact trivial | exact ⟨rfl⟩ | exact ⟨rfl, fun _ _ _ _ => rfl⟩ | exact ⟨by kernel_rfl⟩
  · have hi : i ≤ es.length := hi
    cbv
    refine ⟨fun h1 => ?_, fun h1 => ?_⟩
    · have h1 : (i : Int) < (es.length : Int) := of_decide_eq_true h1
      have hlt : i < es.length := by omega
      have o1 : indexObl (i : Int) es.length := ⟨by omega, h1⟩
      have hw := weight_take es hlt
      have hs := sizeL_le leaf (es.take i)
      have hs' := sizeL_le leaf (es.take (i + 1))
      have hnx : sizeL leaf (es.take (i + 1)) = sizeL leaf (es.take i) + bytesOfI leaf (es.getD i default).key (es.getD i default).val (es.getD i default).page := by
        rw [getD_take es hlt, sizeL_app]; simp only [sizeL]; omega
      have hm := sizeL_mono leaf (es := es) (i := i + 1)
      have hall := sizeL_le leaf es
      have b1 : bound64 ((2 + sizeL leaf (es.take i)) + bytesOfI leaf (es.getD i default).key (es.getD i default).val (es.getD i default).page) := by
        unfold bound64
        omega
      have b2 : bound64 ((i : Int) + 1) := by unfold bound64; omega
      have ei : (i : Int) + 1 = ((i + 1 : Nat) : Int) := by omega
      have es1 : (2 + sizeL leaf (es.take i)) + bytesOfI leaf (es.getD i default).key (es.getD i default).val (es.getD i default).page = 2 + sizeL leaf (es.take (i + 1)) := by rw [hnx]; omega
      have hms : es.length - (i + 1) < es.length - i := by omega
      have hen : (es.getD i default).key.length + (es.getD i default).val.length < 1000000000000 := by omega
      clear hs hs' h1 hnx hm hall
      cbv
      refine ⟨⟨o1⟩, ?_⟩
      refine ⟨_, _, con48 (leaf := leaf) hen, ⟨?_⟩, ?_⟩
      · kernel_rfl
      cbv
      refine ⟨⟨b1⟩, ⟨by kernel_rfl⟩, ?_⟩
      cbv
      refine ⟨⟨b2⟩, i + 1, [], hlt, hms, ⟨?_⟩, ⟨?_⟩⟩
      · kernel_rfl
      · cbv
        and_intros
        all_goals first | exact trivial | exact ⟨es1⟩ | exact ⟨ei⟩ | exact ⟨rfl⟩ | exact ⟨rfl, fun _ _ _ _ => rfl⟩ | exact ⟨by kernel_rfl⟩
    · have h1 : ¬ ((i : Int) < (es.length : Int)) := of_decide_eq_false h1
      have e1 : 2 + sizeL leaf (es.take i) = 2 + sizeL leaf es := by rw [List.take_of_length_le (by omega)]
      clear h1
      cbv
      refine ⟨[], [], ?_⟩
      cbv
      and_intros
      all_goals first | exact trivial | exact ⟨e1⟩ | exact ⟨rfl⟩ | exact ⟨rfl, fun _ _ _ _ => rfl⟩ | exact ⟨by kernel_rfl⟩

theorem put_key {ks : List Int} {x y : Int} : y ∈ putKey ks x ↔ y ∈ ks ∨ y = x := by
  unfold putKey
  cases hc : ks.contains x with
  | true =>
    simp only [cond_true]
    exact ⟨.inl, fun h => h.elim id fun e => e ▸ List.contains_iff_mem.1 hc⟩
  | false => simp
theorem seen_mem {l : List Ent} {x : Int} : x ∈ seenL l ↔ ∃ e ∈ l, e.page = x := by
  have key : ∀ (l : List Ent) (ks : List Int), x ∈ l.foldl (fun ks e => putKey ks e.page) ks ↔ x ∈ ks ∨ ∃ e ∈ l, e.page = x := by
    intro l
    induction l with
    | nil => intro ks; simp
    | cons e l ih =>
      intro ks
      simp only [List.foldl_cons, ih, put_key, List.mem_cons, exists_eq_or_imp]
      constructor
      · rintro ((h | h) | h)
        · exact .inl h
        · exact .inr (.inl h.symm)
        · exact .inr (.inr h)
      · rintro (h | h | h)
        · exact .inl (.inl h)
        · exact .inl (.inr h.symm)
        · exact .inr h
  simpa [seenL] using key l []
theorem getD_take_mem {α : Type} [Inhabited α] {l : List α} {k i : Nat} (h : k < i) (hl : k < l.length) : l.getD k default ∈ l.take i := by
  rw [List.getD_eq_getElem?_getD, List.getElem?_eq_getElem hl]
  exact List.mem_iff_getElem.2 ⟨k, by simp; omega, by simp⟩
theorem take_getD_mem {α : Type} [Inhabited α] {l : List α} {i : Nat} {x : α} (h : x ∈ l.take i) : ∃ a, a < i ∧ x = l.getD a default := by
  obtain ⟨a, ha, rfl⟩ := List.getElem_of_mem h
  simp only [List.length_take] at ha
  refine ⟨a, by omega, ?_⟩
  rw [List.getD_eq_getElem?_getD, List.getElem?_eq_getElem (by omega)]
  simp

set_option maxRecDepth 20000 in
set_option maxHeartbeats 4000000 in
theorem con47t {es : List Ent} (hl : es.length < 1000000000000) : Con 47 [nodeSV true es] [] (.bool (.s fun _ => mayB true es)) [] := by
  refine con_of Try.func47 rfl rfl 95 _ rfl rfl rfl rfl ?_
  cbv
  refine ⟨fun h0 => ?_, fun h0 => ?_⟩
  · have h0 : (es.length : Int) = 0 := of_decide_eq_true h0
    have e1 : false = mayB true es := by unfold mayB; rw [decide_eq_false (by omega : ¬ 0 < es.length), Bool.and_false]
    clear h0
    cbv
    refine ⟨[], [], ?_⟩
    cbv
    and_intros
    all_goals first | exact trivial | exact ⟨e1⟩ | exact ⟨rfl⟩ | exact ⟨rfl, fun _ _ _ _ => rfl⟩ | exact ⟨by kernel_rfl⟩
  · have h0 : ¬ (es.length : Int) = 0 := of_decide_eq_false h0
    have h0 : 0 < es.length := by omega
    cbv
    refine ⟨Nat, [], fun i => [(3, .int .i64 (.s fun _ => (i : Int)))], fun _ => [(1, .cells 24 [.bool .t, .dat (entsDV es)])],
      fun i => i ≤ es.length ∧ okTo true es i = true, fun i => es.length - i, 0, [], ⟨Nat.zero_le _, rfl⟩, ⟨?_⟩, fun i hx => ?_⟩
    · cbv
      and_intros
      all_goals first | exact trivial | exact ⟨rfl⟩ | exact ⟨rfl, fun _ _ _ _ => rfl⟩ | exact ⟨by kernel_rfl⟩
    · obtain ⟨hi, hok⟩ : i ≤ es.length ∧ okTo true es i = true := hx
      cbv
      refine ⟨fun h1 => ?_, fun h1 => ?_⟩
      · have h1 : (i : Int) < (es.length : Int) := of_decide_eq_true h1
        have hlt : i < es.length := by omega
        have o1 : indexObl (i : Int) es.length := ⟨by omega, h1⟩
        have b2 : bound64 ((i : Int) + 1) := by unfold bound64; omega
        have ei : (i : Int) + 1 = ((i + 1 : Nat) : Int) := by omega
        have hms : es.length - (i + 1) < es.length - i := by omega
        clear h1
        cbv
        refine ⟨⟨o1⟩, ?_⟩
        cbv
        refine ⟨fun hA => ?_, fun hA => ?_⟩
        · have hA : (i : Int) = 0 := of_decide_eq_true hA
          have hA : i = 0 := by omega
          have hc : (decide (i = 0) && !true) = false := by simp [hA]
          cbv
          refine ⟨fun hB => ?_, fun hB => ?_⟩
          · have hB : (false != decide (((es.getD i default).key.length : Int) = 0)) = true := hB
            have e1 : false = mayB true es := may_badK hlt (keyBad1 hc hB)
            clear hB
            cbv
            refine ⟨⟨by kernel_rfl⟩, ?_⟩
            cbv
            refine ⟨[], [], ?_⟩
            cbv
            and_intros
            all_goals first | exact trivial | exact ⟨e1⟩ | exact ⟨rfl⟩ | exact ⟨rfl, fun _ _ _ _ => rfl⟩ | exact ⟨by kernel_rfl⟩
          · have hB : (false != decide (((es.getD i default).key.length : Int) = 0)) = false := hB
            cbv
            refine ⟨fun hC => ?_, fun hC => ?_⟩
            · have hC : (160 : Int) < ((es.getD i default).key.length : Int) := of_decide_eq_true hC
              have e1 : false = mayB true es := may_badK hlt (keyBad2 hC)
              clear hC
              cbv
              refine ⟨⟨by kernel_rfl⟩, ?_⟩
              cbv
              refine ⟨[], [], ?_⟩
              cbv
              and_intros
              all_goals first | exact trivial | exact ⟨e1⟩ | exact ⟨rfl⟩ | exact ⟨rfl, fun _ _ _ _ => rfl⟩ | exact ⟨by kernel_rfl⟩
            · have hC : ¬ (160 : Int) < ((es.getD i default).key.length : Int) := of_decide_eq_false hC
              have hcmp : 0 < i → ¬ (0 : Int) ≤ Lib.compareBytes (es.getD (i - 1) default).key (es.getD i default).key := fun h => absurd h (by omega)
              cbv
              refine ⟨fun hD => ?_, fun hD => ?_⟩
              · have hD : (0 : Int) < (i : Int) := of_decide_eq_true hD
                exfalso
                omega
              · clear hD
                cbv
                refine ⟨⟨by kernel_rfl⟩, ?_⟩
                cbv
                refine ⟨_, _, con88, ⟨?_⟩, ?_⟩
                · kernel_rfl
                cbv
                refine ⟨fun hg => ?_, fun hg => ?_⟩
                · have hg : leafyB (es.getD i default) = false := bnot_t hg
                  have e1 : false = mayB true es := may_badK hlt (keyBad3 hg)
                  clear hg
                  cbv
                  refine ⟨[], [], ?_⟩
                  cbv
                  and_intros
                  all_goals first | exact trivial | exact ⟨e1⟩ | exact ⟨rfl⟩ | exact ⟨rfl, fun _ _ _ _ => rfl⟩ | exact ⟨by kernel_rfl⟩
                · have hg : leafyB (es.getD i default) = true := bnot_f hg
                  have hkey : keyBad true i (es.getD i default) = false := keyBad4 hc hB hC hg
                  clear hg
                  have hok' : okTo true es (i + 1) = true := okTo_next hok hkey (order3 hcmp (fun h => by cases h))
                  clear hkey hcmp
                  cbv
                  refine ⟨Unit, [], fun _ => [(6, .int .i64 (.l 0))], fun _ => [(1, .cells 24 [.bool .t, .dat (entsDV es)])], fun _ => True, fun _ => 0, (), [], trivial, ⟨?_⟩, fun _ _ => ?_⟩
                  · cbv
                    and_intros
                    all_goals first | exact trivial | exact ⟨rfl⟩ | exact ⟨rfl, fun _ _ _ _ => rfl⟩ | exact ⟨by kernel_rfl⟩
                  · cbv
                    refine ⟨fun hz => ?_, fun hz => ?_⟩
                    · cbv
                      refine ⟨⟨b2⟩, i + 1, [], ⟨hlt, hok'⟩, hms, ⟨?_⟩, ⟨?_⟩⟩
                      · kernel_rfl
                      · cbv
                        and_intros
                        all_goals first | exact trivial | exact ⟨ei⟩ | exact ⟨rfl⟩ | exact ⟨rfl, fun _ _ _ _ => rfl⟩ | exact ⟨by kernel_rfl⟩
                    · cbv
                      refine ⟨⟨b2⟩, i + 1, [], ⟨hlt, hok'⟩, hms, ⟨?_⟩, ⟨?_⟩⟩
                      · kernel_rfl
                      · cbv
                        and_intros
                        all_goals first | exact trivial | exact ⟨ei⟩ | exact ⟨rfl⟩ | exact ⟨rfl, fun _ _ _ _ => rfl⟩ | exact ⟨by kernel_rfl⟩
        · have hA : ¬ (i : Int) = 0 := of_decide_eq_false hA
          have hA : ¬ i = 0 := by omega
          have hc : (decide (i = 0) && !true) = false := by simp [hA]
          cbv
          refine ⟨fun hB => ?_, fun hB => ?_⟩
          · have hB : (false != decide (((es.getD i default).key.length : Int) = 0)) = true := hB
            have e1 : false = mayB true es := may_badK hlt (keyBad1 hc hB)
            clear hB
            cbv
            refine ⟨⟨by kernel_rfl⟩, ?_⟩
            cbv
            refine ⟨[], [], ?_⟩
            cbv
            and_intros
            all_goals first | exact trivial | exact ⟨e1⟩ | exact ⟨rfl⟩ | exact ⟨rfl, fun _ _ _ _ => rfl⟩ | exact ⟨by kernel_rfl⟩
          · have hB : (false != decide (((es.getD i default).key.length : Int) = 0)) = false := hB
            cbv
            refine ⟨fun hC => ?_, fun hC => ?_⟩
            · have hC : (160 : Int) < ((es.getD i default).key.length : Int) := of_decide_eq_true hC
              have e1 : false = mayB true es := may_badK hlt (keyBad2 hC)
              clear hC
              cbv
              refine ⟨⟨by kernel_rfl⟩, ?_⟩
              cbv
              refine ⟨[], [], ?_⟩
              cbv
              and_intros
              all_goals first | exact trivial | exact ⟨e1⟩ | exact ⟨rfl⟩ | exact ⟨rfl, fun _ _ _ _ => rfl⟩ | exact ⟨by kernel_rfl⟩
            · have hC : ¬ (160 : Int) < ((es.getD i default).key.length : Int) := of_decide_eq_false hC
              have bm : bound64 ((i : Int) - 1) := by unfold bound64; omega
              have om : indexObl ((i : Int) - 1) es.length := ⟨by omega, by omega⟩
              have em : ((i : Int) - 1).toNat = i - 1 := by omega
              cbv
              refine ⟨fun hD => ?_, fun hD => ?_⟩
              · clear hD
                cbv
                refine ⟨⟨bm⟩, ⟨om⟩, ?_⟩
                refine ⟨_, _, con85, ⟨?_⟩, ?_⟩
                · kernel_rfl
                cbv
                refine ⟨⟨by kernel_rfl⟩, ?_⟩
                cbv
                refine ⟨fun hE => ?_, fun hE => ?_⟩
                · have hE : Op.bytesLess (es.getD ((i : Int) - 1).toNat default).key (es.getD i default).key = false := bnot_t hE
                  rw [less_cmp, em] at hE
                  have hE : ¬ Lib.compareBytes (es.getD (i - 1) default).key (es.getD i default).key < 0 := of_decide_eq_false hE
                  have e1 : false = mayB true es := may_badO hlt (order1 (by omega) (by omega))
                  clear hE
                  cbv
                  refine ⟨[], [], ?_⟩
                  cbv
                  and_intros
                  all_goals first | exact trivial | exact ⟨e1⟩ | exact ⟨rfl⟩ | exact ⟨rfl, fun _ _ _ _ => rfl⟩ | exact ⟨by kernel_rfl⟩
                · have hE : Op.bytesLess (es.getD ((i : Int) - 1).toNat default).key (es.getD i default).key = true := bnot_f hE
                  rw [less_cmp, em] at hE
                  have hE : Lib.compareBytes (es.getD (i - 1) default).key (es.getD i default).key < 0 := of_decide_eq_true hE
                  have hcmp : 0 < i → ¬ (0 : Int) ≤ Lib.compareBytes (es.getD (i - 1) default).key (es.getD i default).key := fun _ => by omega
                  clear hE
                  cbv
                  refine ⟨_, _, con88, ⟨?_⟩, ?_⟩
                  · kernel_rfl
                  cbv
                  refine ⟨fun hg => ?_, fun hg => ?_⟩
                  · have hg : leafyB (es.getD i default) = false := bnot_t hg
                    have e1 : false = mayB true es := may_badK hlt (keyBad3 hg)
                    clear hg
                    cbv
                    refine ⟨[], [], ?_⟩
                    cbv
                    and_intros
                    all_goals first | exact trivial | exact ⟨e1⟩ | exact ⟨rfl⟩ | exact ⟨rfl, fun _ _ _ _ => rfl⟩ | exact ⟨by kernel_rfl⟩
                  · have hg : leafyB (es.getD i default) = true := bnot_f hg
                    have hkey : keyBad true i (es.getD i default) = false := keyBad4 hc hB hC hg
                    clear hg
                    have hok' : okTo true es (i + 1) = true := okTo_next hok hkey (order3 hcmp (fun h => by cases h))
                    clear hkey hcmp
                    cbv
                    refine ⟨Unit, [], fun _ => [(6, .int .i64 (.l 0))], fun _ => [(1, .cells 24 [.bool .t, .dat (entsDV es)])], fun _ => True, fun _ => 0, (), [], trivial, ⟨?_⟩, fun _ _ => ?_⟩
                    · cbv
                      and_intros
                      all_goals first | exact trivial | exact ⟨rfl⟩ | exact ⟨rfl, fun _ _ _ _ => rfl⟩ | exact ⟨by kernel_rfl⟩
                    · cbv
                      refine ⟨fun hz => ?_, fun hz => ?_⟩
                      · cbv
                        refine ⟨⟨b2⟩, i + 1, [], ⟨hlt, hok'⟩, hms, ⟨?_⟩, ⟨?_⟩⟩
                        · kernel_rfl
                        · cbv
                          and_intros
                          all_goals first | exact trivial | exact ⟨ei⟩ | exact ⟨rfl⟩ | exact ⟨rfl, fun _ _ _ _ => rfl⟩ | exact ⟨by kernel_rfl⟩
                      · cbv
                        refine ⟨⟨b2⟩, i + 1, [], ⟨hlt, hok'⟩, hms, ⟨?_⟩, ⟨?_⟩⟩
                        · kernel_rfl
                        · cbv
                          and_intros
                          all_goals first | exact trivial | exact ⟨ei⟩ | exact ⟨rfl⟩ | exact ⟨rfl, fun _ _ _ _ => rfl⟩ | exact ⟨by kernel_rfl⟩
              · have hD : ¬ (0 : Int) < (i : Int) := of_decide_eq_false hD
                exfalso
                omega
      · have h1 : ¬ (i : Int) < (es.length : Int) := of_decide_eq_false h1
        have hie : i = es.length := by omega
        have e1 : true = mayB true es := by unfold mayB; rw [← hie, hok, decide_eq_true (by omega : 0 < i)]; rfl
        clear h1
        cbv
        refine ⟨[], [], ?_⟩
        cbv
        and_intros
        all_goals first | exact trivial | exact ⟨e1⟩ | exact ⟨rfl⟩ | exact ⟨rfl, fun _ _ _ _ => rfl⟩ | exact ⟨by kernel_rfl⟩

set_option maxRecDepth 20000 in
set_option maxHeartbeats 4000000 in
theorem con47f {es : List Ent} (hl : es.length < 1000000000000) : Con 47 [nodeSV false es] [] (.bool (.s fun _ => mayB false es)) [] := by
  refine con_of Try.func47 rfl rfl 95 _ rfl rfl rfl rfl ?_
  cbv
  refine ⟨fun h0 => ?_, fun h0 => ?_⟩
  · have h0 : (es.length : Int) = 0 := of_decide_eq_true h0
    have e1 : false = mayB false es := by unfold mayB; rw [decide_eq_false (by omega : ¬ 0 < es.length), Bool.and_false]
    clear h0
    cbv
    refine ⟨[], [], ?_⟩
    cbv
    and_intros
    all_goals first | exact trivial | exact ⟨e1⟩ | exact ⟨rfl⟩ | exact ⟨rfl, fun _ _ _ _ => rfl⟩ | exact ⟨by kernel_rfl⟩
  · have h0 : ¬ (es.length : Int) = 0 := of_decide_eq_false h0
    have h0 : 0 < es.length := by omega
    cbv
    refine ⟨Nat, [], fun i => [(3, .int .i64 (.s fun _ => (i : Int)))], fun _ => [(1, .cells 24 [.bool .f, .dat (entsDV es)])],
      fun i => i ≤ es.length ∧ okTo false es i = true, fun i => es.length - i, 0, [], ⟨Nat.zero_le _, rfl⟩, ⟨?_⟩, fun i hx => ?_⟩
    · cbv
      and_intros
      all_goals first | exact trivial | exact ⟨rfl⟩ | exact ⟨rfl, fun _ _ _ _ => rfl⟩ | exact ⟨by kernel_rfl⟩
    · obtain ⟨hi, hok⟩ : i ≤ es.length ∧ okTo false es i = true := hx
      cbv
      refine ⟨fun h1 => ?_, fun h1 => ?_⟩
      · have h1 : (i : Int) < (es.length : Int) := of_decide_eq_true h1
        have hlt : i < es.length := by omega
        have o1 : indexObl (i : Int) es.length := ⟨by omega, h1⟩
        have b2 : bound64 ((i : Int) + 1) := by unfold bound64; omega
        have ei : (i : Int) + 1 = ((i + 1 : Nat) : Int) := by omega
        have hms : es.length - (i + 1) < es.length - i := by omega
        clear h1
        cbv
        refine ⟨⟨o1⟩, ?_⟩
        cbv
        refine ⟨fun hA => ?_, fun hA => ?_⟩
        · have hA : (i : Int) = 0 := of_decide_eq_true hA
          have hA : i = 0 := by omega
          have hc : (decide (i = 0) && !false) = true := by simp [hA]
          cbv
          refine ⟨fun hB => ?_, fun hB => ?_⟩
          · have hB : (true != decide (((es.getD i default).key.length : Int) = 0)) = true := hB
            have e1 : false = mayB false es := may_badK hlt (keyBad1 hc hB)
            clear hB
            cbv
            refine ⟨⟨by kernel_rfl⟩, ?_⟩
            cbv
            refine ⟨[], [], ?_⟩
            cbv
            and_intros
            all_goals first | exact trivial | exact ⟨e1⟩ | exact ⟨rfl⟩ | exact ⟨rfl, fun _ _ _ _ => rfl⟩ | exact ⟨by kernel_rfl⟩
          · have hB : (true != decide (((es.getD i default).key.length : Int) = 0)) = false := hB
            cbv
            refine ⟨fun hC => ?_, fun hC => ?_⟩
            · have hC : (160 : Int) < ((es.getD i default).key.length : Int) := of_decide_eq_true hC
              have e1 : false = mayB false es := may_badK hlt (keyBad2 hC)
              clear hC
              cbv
              refine ⟨⟨by kernel_rfl⟩, ?_⟩
              cbv
              refine ⟨[], [], ?_⟩
              cbv
              and_intros
              all_goals first | exact trivial | exact ⟨e1⟩ | exact ⟨rfl⟩ | exact ⟨rfl, fun _ _ _ _ => rfl⟩ | exact ⟨by kernel_rfl⟩
            · have hC : ¬ (160 : Int) < ((es.getD i default).key.length : Int) := of_decide_eq_false hC
              have hcmp : 0 < i → ¬ (0 : Int) ≤ Lib.compareBytes (es.getD (i - 1) default).key (es.getD i default).key := fun h => absurd h (by omega)
              cbv
              refine ⟨fun hD => ?_, fun hD => ?_⟩
              · have hD : (0 : Int) < (i : Int) := of_decide_eq_true hD
                exfalso
                omega
              · clear hD
                cbv
                refine ⟨⟨by kernel_rfl⟩, ?_⟩
                cbv
                refine ⟨_, _, con89, ⟨?_⟩, ?_⟩
                · kernel_rfl
                cbv
                refine ⟨fun hg => ?_, fun hg => ?_⟩
                · have hg : kidB (es.getD i default) = false := bnot_t hg
                  have e1 : false = mayB false es := may_badK hlt (keyBad3 hg)
                  clear hg
                  cbv
                  refine ⟨[], [], ?_⟩
                  cbv
                  and_intros
                  all_goals first | exact trivial | exact ⟨e1⟩ | exact ⟨rfl⟩ | exact ⟨rfl, fun _ _ _ _ => rfl⟩ | exact ⟨by kernel_rfl⟩
                · have hg : kidB (es.getD i default) = true := bnot_f hg
                  have hkey : keyBad false i (es.getD i default) = false := keyBad4 hc hB hC hg
                  clear hg
                  cbv
                  refine ⟨Nat, [], fun k => [(6, .int .i64 (.s fun _ => (k : Int)))], fun _ => [(1, .cells 24 [.bool .f, .dat (entsDV es)]), (4, .cells 74 [.dat (.bytes fun _ => (es.getD i default).key), .dat (.bytes fun _ => (es.getD i default).val), .int .u32 (.s fun _ => (es.getD i default).page), .int .u32 (.s fun _ => (es.getD i default).size)])],
                    fun k => k ≤ i ∧ ∀ a, a < k → (es.getD a default).page ≠ (es.getD i default).page, fun k => i - k, 0, [], ⟨Nat.zero_le _, fun a h => absurd h (Nat.not_lt_zero _)⟩, ⟨?_⟩, fun k hk => ?_⟩
                  · cbv
                    and_intros
                    all_goals first | exact trivial | exact ⟨rfl⟩ | exact ⟨rfl, fun _ _ _ _ => rfl⟩ | exact ⟨by kernel_rfl⟩
                  · obtain ⟨hk1, hk2⟩ : k ≤ i ∧ ∀ a, a < k → (es.getD a default).page ≠ (es.getD i default).page := hk
                    cbv
                    refine ⟨fun hz => ?_, fun hz => ?_⟩
                    · have hz : (k : Int) < (i : Int) := of_decide_eq_true hz
                      have hki : k < i := by omega
                      have ok : indexObl (k : Int) es.length := ⟨by omega, by omega⟩
                      have bk : bound64 ((k : Int) + 1) := by unfold bound64; omega
                      have ek : (k : Int) + 1 = ((k + 1 : Nat) : Int) := by omega
                      have hmk : i - (k + 1) < i - k := by omega
                      clear hz
                      cbv
                      refine ⟨⟨ok⟩, ⟨by kernel_rfl⟩, ?_⟩
                      cbv
                      refine ⟨fun hq => ?_, fun hq => ?_⟩
                      · have hq : (es.getD k default).page = (es.getD i default).page := of_decide_eq_true hq
                        have e1 : false = mayB false es := may_badO hlt (order2 (List.contains_iff_mem.2 (seen_mem.2 ⟨_, getD_take_mem hki (by omega), hq⟩)))
                        clear hq
                        cbv
                        refine ⟨[], [], ?_⟩
                        cbv
                        and_intros
                        all_goals first | exact trivial | exact ⟨e1⟩ | exact ⟨rfl⟩ | exact ⟨rfl, fun _ _ _ _ => rfl⟩ | exact ⟨by kernel_rfl⟩
                      · have hq : ¬ (es.getD k default).page = (es.getD i default).page := of_decide_eq_false hq
                        have hinv : k + 1 ≤ i ∧ ∀ a, a < k + 1 → (es.getD a default).page ≠ (es.getD i default).page := ⟨hki, fun a ha => by
                          by_cases h : a < k
                          · exact hk2 a h
                          · have : a = k := by omega
                            rw [this]; exact hq⟩
                        clear hq
                        cbv
                        refine ⟨⟨bk⟩, k + 1, [], hinv, hmk, ⟨?_⟩, ⟨?_⟩⟩
                        · kernel_rfl
                        · cbv
                          and_intros
                          all_goals first | exact trivial | exact ⟨ek⟩ | exact ⟨rfl⟩ | exact ⟨rfl, fun _ _ _ _ => rfl⟩ | exact ⟨by kernel_rfl⟩
                    · have hz : ¬ (k : Int) < (i : Int) := of_decide_eq_false hz
                      have hki : k = i := by omega
                      have hns : (seenL (es.take i)).contains (es.getD i default).page = false := by
                        cases hc : (seenL (es.take i)).contains (es.getD i default).page with
                        | false => rfl
                        | true =>
                          obtain ⟨x, hx, hp⟩ := seen_mem.1 (List.contains_iff_mem.1 hc)
                          obtain ⟨a, ha, rfl⟩ := take_getD_mem hx
                          exact absurd hp (hk2 a (by omega))
                      have hok' : okTo false es (i + 1) = true := okTo_next hok hkey (order3 hcmp (fun _ => hns))
                      clear hz hkey hcmp hns
                      cbv
                      refine ⟨⟨b2⟩, i + 1, [], ⟨hlt, hok'⟩, hms, ⟨?_⟩, ⟨?_⟩⟩
                      · kernel_rfl
                      · cbv
                        and_intros
                        all_goals first | exact trivial | exact ⟨ei⟩ | exact ⟨rfl⟩ | exact ⟨rfl, fun _ _ _ _ => rfl⟩ | exact ⟨by kernel_rfl⟩
        · have hA : ¬ (i : Int) = 0 := of_decide_eq_false hA
          have hA : ¬ i = 0 := by omega
          have hc : (decide (i = 0) && !false) = false := by simp [hA]
          cbv
          refine ⟨fun hB => ?_, fun hB => ?_⟩
          · have hB : (false != decide (((es.getD i default).key.length : Int) = 0)) = true := hB
            have e1 : false = mayB false es := may_badK hlt (keyBad1 hc hB)
            clear hB
            cbv
            refine ⟨⟨by kernel_rfl⟩, ?_⟩
            cbv
            refine ⟨[], [], ?_⟩
            cbv
            and_intros
            all_goals first | exact trivial | exact ⟨e1⟩ | exact ⟨rfl⟩ | exact ⟨rfl, fun _ _ _ _ => rfl⟩ | exact ⟨by kernel_rfl⟩
          · have hB : (false != decide (((es.getD i default).key.length : Int) = 0)) = false := hB
            cbv
            refine ⟨fun hC => ?_, fun hC => ?_⟩
            · have hC : (160 : Int) < ((es.getD i default).key.length : Int) := of_decide_eq_true hC
              have e1 : false = mayB false es := may_badK hlt (keyBad2 hC)
              clear hC
              cbv
              refine ⟨⟨by kernel_rfl⟩, ?_⟩
              cbv
              refine ⟨[], [], ?_⟩
              cbv
              and_intros
              all_goals first | exact trivial | exact ⟨e1⟩ | exact ⟨rfl⟩ | exact ⟨rfl, fun _ _ _ _ => rfl⟩ | exact ⟨by kernel_rfl⟩
            · have hC : ¬ (160 : Int) < ((es.getD i default).key.length : Int) := of_decide_eq_false hC
              have bm : bound64 ((i : Int) - 1) := by unfold bound64; omega
              have om : indexObl ((i : Int) - 1) es.length := ⟨by omega, by omega⟩
              have em : ((i : Int) - 1).toNat = i - 1 := by omega
              cbv
              refine ⟨fun hD => ?_, fun hD => ?_⟩
              · clear hD
                cbv
                refine ⟨⟨bm⟩, ⟨om⟩, ?_⟩
                refine ⟨_, _, con85, ⟨?_⟩, ?_⟩
                · kernel_rfl
                cbv
                refine ⟨⟨by kernel_rfl⟩, ?_⟩
                cbv
                refine ⟨fun hE => ?_, fun hE => ?_⟩
                · have hE : Op.bytesLess (es.getD ((i : Int) - 1).toNat default).key (es.getD i default).key = false := bnot_t hE
                  rw [less_cmp, em] at hE
                  have hE : ¬ Lib.compareBytes (es.getD (i - 1) default).key (es.getD i default).key < 0 := of_decide_eq_false hE
                  have e1 : false = mayB false es := may_badO hlt (order1 (by omega) (by omega))
                  clear hE
                  cbv
                  refine ⟨[], [], ?_⟩
                  cbv
                  and_intros
                  all_goals first | exact trivial | exact ⟨e1⟩ | exact ⟨rfl⟩ | exact ⟨rfl, fun _ _ _ _ => rfl⟩ | exact ⟨by kernel_rfl⟩
                · have hE : Op.bytesLess (es.getD ((i : Int) - 1).toNat default).key (es.getD i default).key = true := bnot_f hE
                  rw [less_cmp, em] at hE
                  have hE : Lib.compareBytes (es.getD (i - 1) default).key (es.getD i default).key < 0 := of_decide_eq_true hE
                  have hcmp : 0 < i → ¬ (0 : Int) ≤ Lib.compareBytes (es.getD (i - 1) default).key (es.getD i default).key := fun _ => by omega
                  clear hE
                  cbv
                  refine ⟨_, _, con89, ⟨?_⟩, ?_⟩
                  · kernel_rfl
                  cbv
                  refine ⟨fun hg => ?_, fun hg => ?_⟩
                  · have hg : kidB (es.getD i default) = false := bnot_t hg
                    have e1 : false = mayB false es := may_badK hlt (keyBad3 hg)
                    clear hg
                    cbv
                    refine ⟨[], [], ?_⟩
                    cbv
                    and_intros
                    all_goals first | exact trivial | exact ⟨e1⟩ | exact ⟨rfl⟩ | exact ⟨rfl, fun _ _ _ _ => rfl⟩ | exact ⟨by kernel_rfl⟩
                  · have hg : kidB (es.getD i default) = true := bnot_f hg
                    have hkey : keyBad false i (es.getD i default) = false := keyBad4 hc hB hC hg
                    clear hg
                    cbv
                    refine ⟨Nat, [], fun k => [(6, .int .i64 (.s fun _ => (k : Int)))], fun _ => [(1, .cells 24 [.bool .f, .dat (entsDV es)]), (4, .cells 74 [.dat (.bytes fun _ => (es.getD i default).key), .dat (.bytes fun _ => (es.getD i default).val), .int .u32 (.s fun _ => (es.getD i default).page), .int .u32 (.s fun _ => (es.getD i default).size)])],
                      fun k => k ≤ i ∧ ∀ a, a < k → (es.getD a default).page ≠ (es.getD i default).page, fun k => i - k, 0, [], ⟨Nat.zero_le _, fun a h => absurd h (Nat.not_lt_zero _)⟩, ⟨?_⟩, fun k hk => ?_⟩
                    · cbv
                      and_intros
                      all_goals first | exact trivial | exact ⟨rfl⟩ | exact ⟨rfl, fun _ _ _ _ => rfl⟩ | exact ⟨by kernel_rfl⟩
                    · obtain ⟨hk1, hk2⟩ : k ≤ i ∧ ∀ a, a < k → (es.getD a default).page ≠ (es.getD i default).page := hk
                      cbv
                      refine ⟨fun hz => ?_, fun hz => ?_⟩
                      · have hz : (k : Int) < (i : Int) := of_decide_eq_true hz
                        have hki : k < i := by omega
                        have ok : indexObl (k : Int) es.length := ⟨by omega, by omega⟩
                        have bk : bound64 ((k : Int) + 1) := by unfold bound64; omega
                        have ek : (k : Int) + 1 = ((k + 1 : Nat) : Int) := by omega
                        have hmk : i - (k + 1) < i - k := by omega
                        clear hz
                        cbv
                        refine ⟨⟨ok⟩, ⟨by kernel_rfl⟩, ?_⟩
                        cbv
                        refine ⟨fun hq => ?_, fun hq => ?_⟩
                        · have hq : (es.getD k default).page = (es.getD i default).page := of_decide_eq_true hq
                          have e1 : false = mayB false es := may_badO hlt (order2 (List.contains_iff_mem.2 (seen_mem.2 ⟨_, getD_take_mem hki (by omega), hq⟩)))
                          clear hq
                          cbv
                          refine ⟨[], [], ?_⟩
                          cbv
                          and_intros
                          all_goals first | exact trivial | exact ⟨e1⟩ | exact ⟨rfl⟩ | exact ⟨rfl, fun _ _ _ _ => rfl⟩ | exact ⟨by kernel_rfl⟩
                        · have hq : ¬ (es.getD k default).page = (es.getD i default).page := of_decide_eq_false hq
                          have hinv : k + 1 ≤ i ∧ ∀ a, a < k + 1 → (es.getD a default).page ≠ (es.getD i default).page := ⟨hki, fun a ha => by
                            by_cases h : a < k
                            · exact hk2 a h
                            · have : a = k := by omega
                              rw [this]; exact hq⟩
                          clear hq
                          cbv
                          refine ⟨⟨bk⟩, k + 1, [], hinv, hmk, ⟨?_⟩, ⟨?_⟩⟩
                          · kernel_rfl
                          · cbv
                            and_intros
                            all_goals first | exact trivial | exact ⟨ek⟩ | exact ⟨rfl⟩ | exact ⟨rfl, fun _ _ _ _ => rfl⟩ | exact ⟨by kernel_rfl⟩
                      · have hz : ¬ (k : Int) < (i : Int) := of_decide_eq_false hz
                        have hki : k = i := by omega
                        have hns : (seenL (es.take i)).contains (es.getD i default).page = false := by
                          cases hc : (seenL (es.take i)).contains (es.getD i default).page with
                          | false => rfl
                          | true =>
                            obtain ⟨x, hx, hp⟩ := seen_mem.1 (List.contains_iff_mem.1 hc)
                            obtain ⟨a, ha, rfl⟩ := take_getD_mem hx
                            exact absurd hp (hk2 a (by omega))
                        have hok' : okTo false es (i + 1) = true := okTo_next hok hkey (order3 hcmp (fun _ => hns))
                        clear hz hkey hcmp hns
                        cbv
                        refine ⟨⟨b2⟩, i + 1, [], ⟨hlt, hok'⟩, hms, ⟨?_⟩, ⟨?_⟩⟩
                        · kernel_rfl
                        · cbv
                          and_intros
                          all_goals first | exact trivial | exact ⟨ei⟩ | exact ⟨rfl⟩ | exact ⟨rfl, fun _ _ _ _ => rfl⟩ | exact ⟨by kernel_rfl⟩
              · have hD : ¬ (0 : Int) < (i : Int) := of_decide_eq_false hD
                exfalso
                omega
      · have h1 : ¬ (i : Int) < (es.length : Int) := of_decide_eq_false h1
        have hie : i = es.length := by omega
        have e1 : true = mayB false es := by unfold mayB; rw [← hie, hok, decide_eq_true (by omega : 0 < i)]; rfl
        clear h1
        cbv
        refine ⟨[], [], ?_⟩
        cbv
        and_intros
        all_goals first | exact trivial | exact ⟨e1⟩ | exact ⟨rfl⟩ | exact ⟨rfl, fun _ _ _ _ => rfl⟩ | exact ⟨by kernel_rfl⟩

theorem con47 {leaf : Bool} {es : List Ent} (hl : es.length < 1000000000000) : Con 47 [nodeSV leaf es] [] (.bool (.s fun _ => mayB leaf es)) [] := by
  cases leaf
  · exact con47f hl
  · exact con47t hl

set_option maxRecDepth 20000 in
set_option maxHeartbeats 4000000 in
theorem con20 {leaf : Bool} {es : List Ent} (hw : weight es + 20 * es.length < 1000000000000) : Con 20 [nodeSV leaf es] [] (.int .u16 (.s fun _ => checkI leaf es)) [] := by
  refine con_of Try.func20 rfl rfl 11 _ rfl rfl rfl rfl ?_
  cbv
  refine ⟨_, _, con47 (leaf := leaf) (es := es) (by omega), ⟨?_⟩, ?_⟩
  · rfl
  cbv
  refine ⟨fun h1 => ?_, fun h1 => ?_⟩
  · have h1 : mayB leaf es = false := bnot_t h1
    have e1 : (90 : Int) = checkI leaf es := by unfold checkI; rw [h1]; rfl
    cbv
    refine ⟨[], [], ?_⟩
    cbv
    exact ⟨⟨e1⟩, ⟨rfl⟩⟩
  · have h1 : mayB leaf es = true := bnot_f h1
    have e0 : checkI leaf es = if 1008 < 2 + sizeL leaf es then 91 else 0 := by unfold checkI; rw [h1]; rfl
    cbv
    refine ⟨_, _, con21 (leaf := leaf) (es := es) hw, ⟨?_⟩, ?_⟩
    · rfl
    cbv
    refine ⟨fun h2 => ?_, fun h2 => ?_⟩
    · have h2 : (1008 : Int) < 2 + sizeL leaf es := of_decide_eq_true h2
      have e1 : (91 : Int) = checkI leaf es := by rw [e0, if_pos h2]
      cbv
      refine ⟨[], [], ?_⟩
      cbv
      exact ⟨⟨e1⟩, ⟨rfl⟩⟩
    · have h2 : ¬ (1008 : Int) < 2 + sizeL leaf es := of_decide_eq_false h2
      have e1 : (0 : Int) = checkI leaf es := by rw [e0, if_neg h2]
      cbv
      refine ⟨[], [], ?_⟩
      cbv
      exact ⟨⟨e1⟩, ⟨rfl⟩⟩

end Go.Proofs.Ytmdfjipjkkjpcaa

/- NodeParts: the plain law; the callees, with a literal for the kind. -/
namespace Go.Proofs.Ytmdfjipjkkjpcaa
open Go.SX

theorem rises_up {es : List Ent} (h : RisesL es) : Up es :=
  List.pairwise_iff_getElem.2 fun i j hi hj hij => by
    have := h i j hij hj
    simpa [Less, List.getD_eq_getElem?_getD, List.getElem?_eq_getElem hj, List.getElem?_eq_getElem hi] using this

theorem found_gt {S : List Ent} (h : Up S) {e : Ent} (he : e ∈ S) : placeI (gtP e.key) S - 1 < S.length ∧ S.getD (placeI (gtP e.key) S - 1) default = e := by
  have hr := up_rises h
  obtain ⟨l1, l2⟩ := place_law (gt_mono hr e.key)
  have hle := placeI_le (p := gtP e.key) (es := S)
  generalize placeI (gtP e.key) S = k at l1 l2 hle
  obtain ⟨j, hj, hje⟩ := List.getElem_of_mem he
  have hgj : S.getD j default = e := by rw [List.getD_eq_getElem?_getD, List.getElem?_eq_getElem hj]; exact hje
  have h1 : j < k := by
    rcases Nat.lt_or_ge j k with hlt | hge
    · exact hlt
    · have := l2 j hge hj
      rw [hgj] at this
      simp only [gtP, cmp_self] at this
      simp at this
  have h2 : k ≤ j + 1 := by
    rcases Nat.lt_or_ge (j + 1) k with hlt | hge
    · have q1 := l1 (j + 1) hlt
      have q2 := hr j (j + 1) (by omega) (by omega)
      rw [hgj] at q2
      have q3 := cmp_anti e.key (S.getD (j + 1) default).key
      simp only [gtP, decide_eq_false_iff_not] at q1
      omega
    · exact hge
  have : k - 1 = j := by omega
  rw [this]
  exact ⟨hj, hgj⟩

theorem up_ne {S : List Ent} (h : Up S) {i j : Nat} (hij : i ≠ j) (hi : i < S.length) (hj : j < S.length) : (S.getD i default).key ≠ (S.getD j default).key := by
  intro he
  have hr := up_rises h
  rcases Nat.lt_or_gt_of_ne hij with hlt | hlt
  · have := hr i j hlt hj
    rw [he, cmp_self] at this
    omega
  · have := hr j i hlt hi
    rw [he, cmp_self] at this
    omega

theorem gone {S : List Ent} (h : Up S) {e : Ent} (he : e ∈ S) : wasB S e.key = true ∧ foundB (dropL S e.key) e.key = false := by
  obtain ⟨h1, h2⟩ := found_at h he
  have hc : placeI (geP e.key) S < S.length ∧ (S.getD (placeI (geP e.key) S) default).key = e.key := ⟨h1, by rw [h2]⟩
  refine ⟨decide_eq_true hc, ?_⟩
  have hd : dropL S e.key = S.take (placeI (geP e.key) S) ++ S.drop (placeI (geP e.key) S + 1) := by
    unfold dropL
    rw [if_pos hc]
  have hne : ∀ x ∈ dropL S e.key, x.key ≠ e.key := by
    intro x hx hxe
    rw [hd] at hx
    obtain ⟨i, hi, hik, rfl⟩ : ∃ i, i < S.length ∧ i ≠ placeI (geP e.key) S ∧ x = S.getD i default := by
      rcases List.mem_append.1 hx with hx | hx
      · obtain ⟨i, hi, rfl⟩ := List.getElem_of_mem hx
        simp only [List.length_take] at hi
        exact ⟨i, by omega, by omega, by rw [List.getElem_take, List.getD_eq_getElem?_getD, List.getElem?_eq_getElem (by omega)]; rfl⟩
      · obtain ⟨i, hi, rfl⟩ := List.getElem_of_mem hx
        simp only [List.length_drop] at hi
        exact ⟨placeI (geP e.key) S + 1 + i, by omega, by omega, by rw [List.getElem_drop, List.getD_eq_getElem?_getD, List.getElem?_eq_getElem (by omega)]; rfl⟩
    exact up_ne h hik hi h1 (by rw [hxe, h2])
  unfold foundB
  by_cases hlt : placeI (geP e.key) (dropL S e.key) < (dropL S e.key).length
  · rw [decide_eq_false (hne _ (getD_mem hlt)), Bool.and_false]
  · rw [decide_eq_false hlt, Bool.false_and]

theorem join_leaf {S : List Ent} {c : Nat} {key : List UInt8} : joinL true (S.take c) (S.drop c) key = S := by
  unfold joinL
  rw [if_neg (fun h => by cases h.1), List.take_append_drop]
theorem join_branch {S : List Ent} {c : Nat} (hc : c < S.length) : joinL false (S.take c) (setKey (S.drop c) 0 []) ((S.drop c).getD 0 default).key = S := by
  have hd := List.drop_eq_getElem_cons hc
  have hl : (S.take c).length = c := by simp; omega
  have hb : setKey (S.drop c) 0 [] = { S[c] with key := [] } :: S.drop (c + 1) := by
    rw [hd]; rfl
  have hk : ((S.drop c).getD 0 default).key = S[c].key := by rw [hd]; rfl
  unfold joinL
  rw [if_pos ⟨rfl, by rw [hb]; simp⟩, hb, hk]
  simp only [setKey]
  rw [List.set_append_right _ _ (Nat.le_refl _)]
  simp only [Nat.sub_self, List.set_cons_zero]
  have hg : (S.take c ++ { S[c] with key := [] } :: S.drop (c + 1)).getD (S.take c).length default = { S[c] with key := [] } := by
    rw [List.getD_eq_getElem?_getD, List.getElem?_append_right (Nat.le_refl _)]
    simp
  rw [hg]
  show S.take c ++ S[c] :: S.drop (c + 1) = S
  rw [← hd, List.take_append_drop]
theorem join_none {S : List Ent} {leaf : Bool} {key : List UInt8} : joinL leaf S [] key = S := by
  unfold joinL
  rw [if_neg (fun h => by simp at h), List.append_nil]

theorem okTo_all {leaf : Bool} {es : List Ent} : ∀ {n : Nat}, (∀ i, i < n → keyBad leaf i (es.getD i default) = false ∧ orderBad leaf es i (es.getD i default) = false) → okTo leaf es n = true
  | 0, _ => rfl
  | n + 1, h => okTo_next (okTo_all fun i hi => h i (by omega)) (h n (by omega)).1 (h n (by omega)).2
theorem may_of {leaf : Bool} {es : List Ent} (h0 : 0 < es.length) (h : ∀ i, i < es.length → keyBad leaf i (es.getD i default) = false ∧ orderBad leaf es i (es.getD i default) = false) : mayB leaf es = true := by
  unfold mayB
  rw [okTo_all h, decide_eq_true h0]; rfl

theorem take_getD {S : List Ent} {c i : Nat} (h : i < c) : (S.take c).getD i default = S.getD i default := by
  rw [List.getD_eq_getElem?_getD, List.getD_eq_getElem?_getD, List.getElem?_take_of_lt h]
theorem drop_getD {S : List Ent} {c i : Nat} : (S.drop c).getD i default = S.getD (c + i) default := by
  rw [List.getD_eq_getElem?_getD, List.getD_eq_getElem?_getD, List.getElem?_drop]

theorem may_take {leaf : Bool} {S : List Ent} (h : mayB leaf S = true) {c : Nat} (h1 : 1 ≤ c) (h2 : c ≤ S.length) : mayB leaf (S.take c) = true := by
  obtain ⟨h0, h⟩ := may_at h
  have hl : (S.take c).length = c := by simp; omega
  refine may_of (by omega) fun i hi => ?_
  rw [hl] at hi
  obtain ⟨q1, q2⟩ := h i (by omega)
  rw [take_getD hi]
  refine ⟨q1, ?_⟩
  unfold orderBad at q2 ⊢
  rw [take_getD (by omega : i - 1 < c), List.take_take, Nat.min_eq_left (by omega)]
  exact q2

theorem may_drop_leaf {S : List Ent} (h : mayB true S = true) {c : Nat} (h2 : c < S.length) : mayB true (S.drop c) = true := by
  obtain ⟨h0, h⟩ := may_at h
  refine may_of (by simp; omega) fun i hi => ?_
  simp only [List.length_drop] at hi
  obtain ⟨q1, q2⟩ := h (c + i) (by omega)
  rw [drop_getD]
  constructor
  · simpa [keyBad] using q1
  · simp only [orderBad, Bool.not_true, Bool.false_and, Bool.or_false, Bool.and_eq_false_iff, decide_eq_false_iff_not] at q2 ⊢
    by_cases h0 : 0 < i
    · rw [drop_getD, show c + (i - 1) = c + i - 1 by omega]
      rcases q2 with q2 | q2
      · omega
      · exact .inr q2
    · exact .inl h0

theorem may_drop_branch {S : List Ent} (h : mayB false S = true) {c : Nat} (h1 : 1 ≤ c) (h2 : c < S.length) : mayB false (setKey (S.drop c) 0 []) = true := by
  obtain ⟨h0, h⟩ := may_at h
  have hl : (setKey (S.drop c) 0 []).length = S.length - c := by rw [← setKey_len]; simp
  have hg : ∀ i, i < S.length - c → (setKey (S.drop c) 0 []).getD i default = if i = 0 then { S.getD c default with key := [] } else S.getD (c + i) default := by
    intro i hi
    rw [setKey_getD (by simpa using hi), drop_getD, drop_getD]; rfl
  have hkey : ∀ i, 0 < i → i < S.length → (S.getD i default).key ≠ [] := by
    intro i hi hil he
    have := (h i hil).1
    unfold keyBad at this
    rw [he, decide_eq_false (by omega : ¬ i = 0)] at this
    simp at this
  refine may_of (by omega) fun i hi => ?_
  rw [hl] at hi
  obtain ⟨q1, q2⟩ := h (c + i) (by omega)
  have hpage : ∀ a, a < S.length - c → ((setKey (S.drop c) 0 []).getD a default).page = (S.getD (c + a) default).page := by
    intro a ha
    rw [hg a ha]
    split
    · rename_i e; subst e; rfl
    · rfl
  constructor
  · rw [hg i hi]
    by_cases hi0 : i = 0
    · subst hi0
      rw [if_pos rfl]
      unfold keyBad at q1 ⊢
      simp only [Bool.or_eq_false_iff] at q1
      have q3 := q1.2.2
      simp only [Nat.add_zero, Bool.false_eq_true, if_false] at q3
      simp only [Bool.false_eq_true, if_false, Bool.or_eq_false_iff]
      refine ⟨by simp, by simp, ?_⟩
      exact q3
    · rw [if_neg hi0]
      unfold keyBad at q1 ⊢
      rw [decide_eq_false hi0]
      rw [decide_eq_false (by omega : ¬ c + i = 0)] at q1
      exact q1
  · have hpg := hpage i hi
    simp only [orderBad, Bool.not_false, Bool.true_and, Bool.or_eq_false_iff, Bool.and_eq_false_iff, decide_eq_false_iff_not] at q2 ⊢
    refine ⟨?_, ?_⟩
    · by_cases h0 : 0 < i
      · refine .inr ?_
        rw [hg i hi, if_neg (by omega), hg (i - 1) (by omega)]
        by_cases h1i : i = 1
        · subst h1i
          rw [if_pos (by omega)]
          have := hkey (c + 1) (by omega) (by omega)
          cases hk : (S.getD (c + 1) default).key with
          | nil => exact absurd hk this
          | cons x xs => simp [Lib.compareBytes]
        · rw [if_neg (by omega), show c + (i - 1) = c + i - 1 by omega]
          rcases q2.1 with q | q
          · omega
          · exact q
      · exact .inl h0
    · cases hc : (seenL ((setKey (S.drop c) 0 []).take i)).contains ((setKey (S.drop c) 0 []).getD i default).page with
      | false => rfl
      | true =>
        obtain ⟨x, hx, hp⟩ := seen_mem.1 (List.contains_iff_mem.1 hc)
        obtain ⟨a, ha, rfl⟩ := take_getD_mem hx
        rw [hpage a (by omega), hpg] at hp
        have : (seenL (S.take (c + i))).contains (S.getD (c + i) default).page = true :=
          List.contains_iff_mem.2 (seen_mem.2 ⟨_, getD_take_mem (by omega : c + a < c + i) (by omega), hp⟩)
        rw [this] at q2
        exact absurd q2.2 (by simp)

theorem entry_bound {leaf : Bool} {S : List Ent} (h : mayB leaf S = true) : ∀ x ∈ S, bytesOfI leaf x.key x.val x.page ≤ 226 := by
  intro x hx
  obtain ⟨i, hi, rfl⟩ := List.getElem_of_mem hx
  have q := ((may_at h).2 i hi).1
  rw [List.getD_eq_getElem?_getD, List.getElem?_eq_getElem hi, Option.getD_some] at q
  unfold keyBad at q
  simp only [Bool.or_eq_false_iff, decide_eq_false_iff_not, Bool.not_eq_false'] at q
  obtain ⟨-, q1, q2⟩ := q
  unfold bytesOfI
  cases leaf
  · simp only [Bool.not_false, if_true]; omega
  · simp only [Bool.not_true, Bool.false_eq_true, if_false, if_true] at q2 ⊢
    unfold leafyB at q2
    by_cases hp : (S[i]).page = 0
    · rw [if_pos hp] at q2
      simp only [Bool.and_eq_true, decide_eq_true_eq] at q2
      rw [if_neg (fun h => h hp)]; omega
    · rw [if_pos hp]; omega

theorem put_size {leaf : Bool} {es : List Ent} (h : Up es) (e : Ent) : sizeL leaf (putL es e) ≤ sizeL leaf es + bytesOfI leaf e.key e.val e.page := by
  obtain ⟨A, M, C, h1, h2, -⟩ := put_split h e
  have hM := (sizeL_le leaf M).1
  rw [h2]
  conv => rhs; rw [h1]
  simp only [sizeL_app, sizeL]
  omega

theorem cut_law {leaf : Bool} {S : List Ent} (h2 : 2 ≤ S.length) : goesB leaf S (cutK leaf S) = false ∧ goesB leaf S (cutK leaf S - 1) = true := by
  have key : ∀ f k, k + f = S.length → k < S.length → (k = 0 ∨ (1 ≤ k ∧ goesB leaf S (k - 1) = true)) → goesB leaf S (cutF leaf S f k) = false ∧ goesB leaf S (cutF leaf S f k - 1) = true := by
    intro f
    induction f with
    | zero => intro k h h' _; omega
    | succ f ih =>
      intro k h h' h0
      simp only [cutF]
      by_cases hg : goesB leaf S k = true
      · rw [if_pos hg]
        have : k + 1 < S.length := by
          simp only [goesB, Bool.or_eq_true, Bool.and_eq_true, decide_eq_true_eq] at hg
          omega
        exact ih (k + 1) (by omega) this (.inr ⟨by omega, by simpa using hg⟩)
      · rw [if_neg hg]
        refine ⟨by simpa using hg, ?_⟩
        rcases h0 with h0 | h0
        · subst h0; exact absurd (by simp [goesB]) hg
        · exact h0.2
  exact key S.length 0 (by omega) (by omega) (.inl rfl)

theorem sizeL_setKey {S : List Ent} : sizeL false (setKey S 0 []) ≤ sizeL false S := by
  cases S with
  | nil => simp [setKey]
  | cons x r =>
    show sizeL false ({ x with key := [] } :: r) ≤ _
    simp only [sizeL, bytesOfI, Bool.not_false, if_true, List.length_nil]
    omega

theorem check91 {leaf : Bool} {es : List Ent} (h : checkI leaf es = 91) : mayB leaf es = true := by
  cases hm : mayB leaf es with
  | true => rfl
  | false => unfold checkI at h; rw [hm] at h; simp at h
theorem check0 {leaf : Bool} {es : List Ent} (h : mayB leaf es = true) (hs : sizeL leaf es ≤ 1006) : checkI leaf es = 0 := by
  unfold checkI
  rw [if_pos h, if_neg (by omega)]

def halfB (leaf : Bool) (S : List Ent) : List Ent := if leaf then S.drop (cutK leaf S) else setKey (S.drop (cutK leaf S)) 0 []

theorem halves_ok {leaf : Bool} {S : List Ent} (h : checkI leaf S = 91) (h2 : 2 ≤ S.length) (hs : sizeL leaf S ≤ 1232) : checkI leaf (S.take (cutK leaf S)) = 0 ∧ checkI leaf (halfB leaf S) = 0 := by
  have hm := check91 h
  obtain ⟨g1, g2⟩ := cut_law (leaf := leaf) h2
  obtain ⟨c1, c2⟩ := cut_at (leaf := leaf) h2
  generalize hc : cutK leaf S = c at g1 g2 c1 c2
  have hb := entry_bound hm
  have hcx := hb _ (getD_mem (show c - 1 < S.length by omega))
  have e1 : sizeL leaf (S.take c) = sizeL leaf (S.take (c - 1)) + bytesOfI leaf (S.getD (c - 1) default).key (S.getD (c - 1) default).val (S.getD (c - 1) default).page := by
    have := getD_take S (show c - 1 < S.length by omega)
    rw [show c - 1 + 1 = c by omega] at this
    rw [this, sizeL_app]; simp only [sizeL]; omega
  have e2 : sizeL leaf S = sizeL leaf (S.take c) + sizeL leaf (S.drop c) := by
    rw [← sizeL_app, List.take_append_drop]
  have n1 := (sizeL_le leaf (S.take (c - 1))).1
  have n2 := (sizeL_le leaf (S.take c)).1
  simp only [goesB, Bool.or_eq_true, Bool.and_eq_true, decide_eq_true_eq] at g2
  simp only [goesB, Bool.or_eq_false_iff, Bool.and_eq_false_iff, decide_eq_false_iff_not] at g1
  have sA : sizeL leaf (S.take c) ≤ 1006 := by
    rcases g2 with g2 | g2
    · have : S.take (c - 1) = [] := by rw [g2]; rfl
      rw [this] at e1
      simp only [sizeL] at e1
      omega
    · omega
  have sB : sizeL leaf (S.drop c) ≤ 1006 := by
    rcases g1.2 with g | g
    · omega
    · have hcl : c = S.length - 1 := by omega
      have hd := List.drop_eq_getElem_cons c2
      have hnil : S.drop (c + 1) = [] := List.drop_eq_nil_of_le (by omega)
      have := hb _ (List.getElem_mem c2)
      rw [hd, hnil]
      simp only [sizeL]
      omega
  refine ⟨check0 (may_take hm c1 (by omega)) sA, ?_⟩
  unfold halfB
  rw [hc]
  cases leaf
  · simp only [Bool.false_eq_true, if_false]
    exact check0 (may_drop_branch hm c1 c2) (Int.le_trans sizeL_setKey sB)
  · simp only [if_true]
    exact check0 (may_drop_leaf hm c2) sB


theorem con19t : Con 19 [] [] (.bool .t) [] := con19.yes rfl

/-- The first says what the second says. -/
theorem eqv_node1 (es : List Ent) : Eqv (.agg [.bool .t, .dat (entsDV es)]) (nodeSV true es) := .agg (.cons eqv_t1 (.cons (.refl _) .nil))
theorem eqv_node2 (es : List Ent) : Eqv (.agg [.bool .f, .dat (entsDV es)]) (nodeSV false es) := .agg (.cons eqv_f1 (.cons (.refl _) .nil))
theorem EqvL.refl (l : List SV) : EqvL l l := fun _ _ _ _ h => h
theorem Con.argT {f : Nat} {es : List Ent} {rest : List SV} {objs : Objs} {r : SV} {objs' : Objs} (h : Con f (nodeSV true es :: rest) objs r objs') : Con f (.agg [.bool .t, .dat (entsDV es)] :: rest) objs r objs' := h.conv (.cons (eqv_node1 es) (.refl _)) (.refl _)
theorem Con.argF {f : Nat} {es : List Ent} {rest : List SV} {objs : Objs} {r : SV} {objs' : Objs} (h : Con f (nodeSV false es :: rest) objs r objs') : Con f (.agg [.bool .f, .dat (entsDV es)] :: rest) objs r objs' := h.conv (.cons (eqv_node2 es) (.refl _)) (.refl _)

/-- What is small enough. -/
structure Fine (S : List Ent) : Prop where
  ok : ∀ x ∈ S, EntOk x
  len : S.length ≤ 1000
  wt : weight S ≤ 100000
theorem weight_mem' {x : Ent} : ∀ {es : List Ent}, x ∈ es → x.key.length + x.val.length ≤ weight es
  | [], h => by cases h
  | e :: es, h => by
      simp only [weight]
      rcases List.mem_cons.1 h with rfl | h
      · omega
      · have := weight_mem' h; omega
theorem Fine.small {S : List Ent} (h : Fine S) : ∀ x ∈ S, SmallE x := fun x hx => by
  have := weight_mem' hx; have := h.wt; unfold SmallE; omega
theorem fine_small {es : List Ent} (h : es.length + weight es ≤ 20000) {x : Ent} (hx : x ∈ es) : SmallE x := by
  have := weight_mem' hx; unfold SmallE; omega
theorem fine_small1 {e : Ent} (h : e.key.length + e.val.length ≤ 20000) : SmallE e := by unfold SmallE; omega
theorem fine_put {es : List Ent} {e : Ent} (h1 : es.length ≤ 500) (h2 : es.length + weight es ≤ 20000) (hp : ∀ x ∈ es, EntOk x) (hu : Up es) (hpe : EntOk e) (hw : e.key.length + e.val.length ≤ 20000) : Fine (putL es e) := by
  refine ⟨fun x hx => ?_, ?_, ?_⟩
  · rcases (put_mem hu e x).1 hx with rfl | ⟨h, _⟩
    · exact hpe
    · exact hp x h
  · obtain ⟨A, M, C, e1, e2, -⟩ := put_split hu e
    have := congrArg List.length e1
    rw [e2]
    simp only [List.length_append, List.length_cons] at this ⊢
    omega
  · obtain ⟨A, M, C, e1, e2, -⟩ := put_split hu e
    have := congrArg weight e1
    rw [e2]
    simp only [weight_app, weight] at this ⊢
    omega
theorem Fine.take {S : List Ent} (h : Fine S) (c : Nat) : Fine (S.take c) := by
  have hw := congrArg weight (List.take_append_drop c S)
  rw [weight_app] at hw
  have := h.len; have := h.wt
  exact ⟨fun x hx => h.ok x (List.mem_of_mem_take hx), by simp only [List.length_take]; omega, by omega⟩
theorem Fine.drop {S : List Ent} (h : Fine S) (c : Nat) : Fine (S.drop c) := by
  have hw := congrArg weight (List.take_append_drop c S)
  rw [weight_app] at hw
  have := h.len; have := h.wt
  exact ⟨fun x hx => h.ok x (List.mem_of_mem_drop hx), by simp only [List.length_drop]; omega, by omega⟩
theorem Fine.headless {S : List Ent} (h : Fine S) : Fine (setKey S 0 []) := by
  cases S with
  | nil => exact h
  | cons x r =>
    have e1 : setKey (x :: r) 0 [] = { x with key := [] } :: r := rfl
    rw [e1]
    have := h.len; have := h.wt
    simp only [weight, List.length_cons] at *
    refine ⟨fun y hy => ?_, by simp only [List.length_cons]; omega, by simp only [weight, List.length_nil]; omega⟩
    rcases List.mem_cons.1 hy with rfl | hy
    · exact h.ok x (by simp)
    · exact h.ok y (by simp [hy])
theorem Fine.half {S : List Ent} (h : Fine S) (leaf : Bool) : Fine (halfB leaf S) := by
  unfold halfB
  split
  · exact h.drop _
  · exact (h.drop _).headless
theorem drop_len {S : List Ent} {key : List UInt8} : (dropL S key).length ≤ S.length := by
  unfold dropL
  simp only [List.length_append, List.length_take, List.length_drop]
  split <;> omega

theorem nil_ents {η : OEnv} {G : Nat → Prop} {w : World} {v : Value} (h : SVRel η G w .nil v) : SVRel η G w (.dat (entsDV [])) v := by
  simp only [SVRel] at h
  subst h
  exact ⟨none, 0, rfl, Nat.le_refl _, fun i hi => absurd hi (Nat.not_lt_zero _)⟩
theorem nil_bytes {η : OEnv} {G : Nat → Prop} {w : World} {v : Value} (h : SVRel η G w .nil v) : SVRel η G w (.dat (.bytes fun _ => [])) v := by
  simp only [SVRel] at h
  subst h
  exact ⟨none, 0, rfl, Nat.le_refl _, fun i x hx => by simp at hx⟩

theorem con32xt {es : List Ent} {e : Ent} (hs : ∀ e ∈ es, SmallE e) (he : SmallE e) (hl : es.length < 100000000000) :
    Con 32 [.agg [.bool .t, .dat (entsDV es)], entSV e] [] (.agg [.bool .t, .own 2000]) [(2000, .arrD 74 4 (fun _ => (putL es e).length) (lrow encE fun _ => putL es e))] := (con32 (leaf := true) hs he hl).conv (.cons (eqv_node1 _) (.refl _)) (.agg (.cons eqv_t2 (.refl _)))
theorem con34xt {es : List Ent} {key : List UInt8} (hs : ∀ e ∈ es, SmallE e) (hl : es.length < 100000000000) (hw : wasB es key = true) :
    Con 34 [.agg [.bool .t, .dat (entsDV es)], .dat (.bytes fun _ => key)] [] (.tup [.agg [.bool .t, .own 2000], .bool .t]) [(2000, .arrD 74 4 (fun _ => (dropL es key).length) (lrow encE fun _ => dropL es key))] := by
  have h := con34 (leaf := true) hs hl (key := key)
  rw [hw] at h
  exact h.conv (.cons (eqv_node1 _) (.refl _)) (.tup (.cons (.agg (.cons eqv_t2 (.refl _))) (.cons eqv_t2 .nil)))
theorem con35xt {es : List Ent} (hs : ∀ e ∈ es, SmallE e) (h2 : es.length < 2) :
    Con 35 [.agg [.bool .t, .dat (entsDV es)]] [] (.tup [.agg [.bool .t, .own 2000], .agg [.bool .t, .nil], .nil]) [(2000, .arrD 74 4 (fun _ => es.length) (lrow encE fun _ => es))] := (con35s (leaf := true) hs h2).conv (.cons (eqv_node1 _) (.refl _)) (.tup (.cons (.agg (.cons eqv_t2 (.refl _))) (.cons (.agg (.cons eqv_t2 (.refl _))) (.refl _))))
theorem con35yt {es : List Ent} (hw : weight es + 20 * es.length < 1000000000000) (hs : ∀ e ∈ es, SmallE e) (h2 : 2 ≤ es.length) :
    Con 35 [.agg [.bool .t, .dat (entsDV es)]] [] (.tup [.agg [.bool .t, .own 2000], .agg [.bool .t, .own 2001], .own 2002])
      [(2000, .arrD 74 4 (fun _ => (es.take (cutK true es)).length) (lrow encE fun _ => es.take (cutK true es))),
       (2001, .arrD 74 4 (fun _ => (halfB true es).length) (lrow encE fun _ => halfB true es)),
       (2002, .barr 5 fun _ => ((es.drop (cutK true es)).getD 0 default).key)] := (con35t hw hs h2).conv (.cons (eqv_node1 _) (.refl _)) (.tup (.cons (.agg (.cons eqv_t2 (.refl _))) (.cons (.agg (.cons eqv_t2 (.refl _))) (.refl _))))
theorem con36yt {a b : List Ent} {key : List UInt8} (ha : ∀ e ∈ a, SmallE e) (hb : ∀ e ∈ b, SmallE e) (hk : key.length < 1000000000000) (hl : a.length + b.length < 100000000000) :
    Con 36 [.agg [.bool .t, .dat (entsDV a)], .agg [.bool .t, .dat (entsDV b)], .dat (.bytes fun _ => key)] [] (.agg [.bool .t, .own 2000]) [(2000, .arrD 74 4 (fun _ => (joinL true a b key).length) (lrow encE fun _ => joinL true a b key))] := (con36 (leaf := true) (lb := true) ha hb hk hl).conv (.cons (eqv_node1 _) (.cons (eqv_node1 _) (.refl _))) (.agg (.cons eqv_t2 (.refl _)))
theorem con36xt {a : List Ent} (ha : ∀ e ∈ a, SmallE e) (hl : a.length < 10000000000) :
    Con 36 [.agg [.bool .t, .dat (entsDV a)], .agg [.bool .t, .nil], .nil] [] (.agg [.bool .t, .own 2000]) [(2000, .arrD 74 4 (fun _ => a.length) (lrow encE fun _ => a))] := by
  have h := con36yt (a := a) (b := []) (key := []) ha (by simp) (by simp) (by simp; omega)
  rw [join_none] at h
  refine h.args fun η G w vs hv => ?_
  match vs, hv with
  | [v1, v2, v3], hv =>
    refine ⟨hv.1, ?_, nil_bytes hv.2.2.1, trivial⟩
    obtain ⟨us, hu, h1⟩ := hv.2.1
    match us, h1 with
    | [u1, u2], h1 => exact ⟨_, hu, h1.1, nil_ents h1.2.1, trivial⟩
    | [], h1 => exact h1.elim
    | [_], h1 => exact h1.2.elim
    | _ :: _ :: _ :: _, h1 => exact h1.2.2.elim
  | [], hv => exact hv.elim
  | [_], hv => exact hv.2.elim
  | [_, _], hv => exact hv.2.2.elim
  | _ :: _ :: _ :: _ :: _, hv => exact hv.2.2.2.elim
theorem con30xt {a : List Ent} (hs : ∀ e ∈ a, SmallE e) (hl : a.length < 1000000000000) : Con 30 [.agg [.bool .t, .dat (entsDV a)], .agg [.bool .t, .dat (entsDV a)]] [] (.bool .t) [] := by
  have h := con30 (la := true) (lb := true) (a := a) (b := a) hs hl
  rw [show sameB true true a a = true by simp [sameB]] at h
  exact h.conv (.cons (eqv_node1 _) (.cons (eqv_node1 _) (.refl _))) eqv_t2
theorem con13xt {S : List Ent} (h : Fine S) : Con 13 [.agg [.bool .t, .dat (entsDV S)]] [] (.int .u16 (.s fun _ => checkI true S)) [] := (con13 (leaf := true) h.ok (by have := h.len; have := h.wt; omega)).conv (.cons (eqv_node1 _) (.refl _)) (.refl _)
theorem con32xf {es : List Ent} {e : Ent} (hs : ∀ e ∈ es, SmallE e) (he : SmallE e) (hl : es.length < 100000000000) :
    Con 32 [.agg [.bool .f, .dat (entsDV es)], entSV e] [] (.agg [.bool .f, .own 2000]) [(2000, .arrD 74 4 (fun _ => (putL es e).length) (lrow encE fun _ => putL es e))] := (con32 (leaf := false) hs he hl).conv (.cons (eqv_node2 _) (.refl _)) (.agg (.cons eqv_f2 (.refl _)))
theorem con34xf {es : List Ent} {key : List UInt8} (hs : ∀ e ∈ es, SmallE e) (hl : es.length < 100000000000) (hw : wasB es key = true) :
    Con 34 [.agg [.bool .f, .dat (entsDV es)], .dat (.bytes fun _ => key)] [] (.tup [.agg [.bool .f, .own 2000], .bool .t]) [(2000, .arrD 74 4 (fun _ => (dropL es key).length) (lrow encE fun _ => dropL es key))] := by
  have h := con34 (leaf := false) hs hl (key := key)
  rw [hw] at h
  exact h.conv (.cons (eqv_node2 _) (.refl _)) (.tup (.cons (.agg (.cons eqv_f2 (.refl _))) (.cons eqv_t2 .nil)))
theorem con35xf {es : List Ent} (hs : ∀ e ∈ es, SmallE e) (h2 : es.length < 2) :
    Con 35 [.agg [.bool .f, .dat (entsDV es)]] [] (.tup [.agg [.bool .f, .own 2000], .agg [.bool .f, .nil], .nil]) [(2000, .arrD 74 4 (fun _ => es.length) (lrow encE fun _ => es))] := (con35s (leaf := false) hs h2).conv (.cons (eqv_node2 _) (.refl _)) (.tup (.cons (.agg (.cons eqv_f2 (.refl _))) (.cons (.agg (.cons eqv_f2 (.refl _))) (.refl _))))
theorem con35yf {es : List Ent} (hw : weight es + 20 * es.length < 1000000000000) (hs : ∀ e ∈ es, SmallE e) (h2 : 2 ≤ es.length) :
    Con 35 [.agg [.bool .f, .dat (entsDV es)]] [] (.tup [.agg [.bool .f, .own 2000], .agg [.bool .f, .own 2001], .own 2002])
      [(2000, .arrD 74 4 (fun _ => (es.take (cutK false es)).length) (lrow encE fun _ => es.take (cutK false es))),
       (2001, .arrD 74 4 (fun _ => (halfB false es).length) (lrow encE fun _ => halfB false es)),
       (2002, .barr 5 fun _ => ((es.drop (cutK false es)).getD 0 default).key)] := (con35f hw hs h2).conv (.cons (eqv_node2 _) (.refl _)) (.tup (.cons (.agg (.cons eqv_f2 (.refl _))) (.cons (.agg (.cons eqv_f2 (.refl _))) (.refl _))))
theorem con36yf {a b : List Ent} {key : List UInt8} (ha : ∀ e ∈ a, SmallE e) (hb : ∀ e ∈ b, SmallE e) (hk : key.length < 1000000000000) (hl : a.length + b.length < 100000000000) :
    Con 36 [.agg [.bool .f, .dat (entsDV a)], .agg [.bool .f, .dat (entsDV b)], .dat (.bytes fun _ => key)] [] (.agg [.bool .f, .own 2000]) [(2000, .arrD 74 4 (fun _ => (joinL false a b key).length) (lrow encE fun _ => joinL false a b key))] := (con36 (leaf := false) (lb := false) ha hb hk hl).conv (.cons (eqv_node2 _) (.cons (eqv_node2 _) (.refl _))) (.agg (.cons eqv_f2 (.refl _)))
theorem con36xf {a : List Ent} (ha : ∀ e ∈ a, SmallE e) (hl : a.length < 10000000000) :
    Con 36 [.agg [.bool .f, .dat (entsDV a)], .agg [.bool .f, .nil], .nil] [] (.agg [.bool .f, .own 2000]) [(2000, .arrD 74 4 (fun _ => a.length) (lrow encE fun _ => a))] := by
  have h := con36yf (a := a) (b := []) (key := []) ha (by simp) (by simp) (by simp; omega)
  rw [join_none] at h
  refine h.args fun η G w vs hv => ?_
  match vs, hv with
  | [v1, v2, v3], hv =>
    refine ⟨hv.1, ?_, nil_bytes hv.2.2.1, trivial⟩
    obtain ⟨us, hu, h1⟩ := hv.2.1
    match us, h1 with
    | [u1, u2], h1 => exact ⟨_, hu, h1.1, nil_ents h1.2.1, trivial⟩
    | [], h1 => exact h1.elim
    | [_], h1 => exact h1.2.elim
    | _ :: _ :: _ :: _, h1 => exact h1.2.2.elim
  | [], hv => exact hv.elim
  | [_], hv => exact hv.2.elim
  | [_, _], hv => exact hv.2.2.elim
  | _ :: _ :: _ :: _ :: _, hv => exact hv.2.2.2.elim
theorem con30xf {a : List Ent} (hs : ∀ e ∈ a, SmallE e) (hl : a.length < 1000000000000) : Con 30 [.agg [.bool .f, .dat (entsDV a)], .agg [.bool .f, .dat (entsDV a)]] [] (.bool .t) [] := by
  have h := con30 (la := false) (lb := false) (a := a) (b := a) hs hl
  rw [show sameB false false a a = true by simp [sameB]] at h
  exact h.conv (.cons (eqv_node2 _) (.cons (eqv_node2 _) (.refl _))) eqv_t2
theorem con13xf {S : List Ent} (h : Fine S) : Con 13 [.agg [.bool .f, .dat (entsDV S)]] [] (.int .u16 (.s fun _ => checkI false S)) [] := (con13 (leaf := false) h.ok (by have := h.len; have := h.wt; omega)).conv (.cons (eqv_node2 _) (.refl _)) (.refl _)
theorem con31xt {es : List Ent} {key : List UInt8} (hl : es.length < 1000000000000) (hf : foundB es key = true) :
    Con 31 [.agg [.bool .t, .dat (entsDV es)], .dat (.bytes fun _ => key)] [] (.tup [.int .i64 (.s fun _ => (placeI (geP key) es : Int)), .bool .t]) [] := ((con31t hl (key := key)).yes2 hf).conv (.cons (eqv_node1 _) (.refl _)) (.refl _)
theorem con31xf {es : List Ent} {key : List UInt8} (hl : es.length < 1000000000000) (hf : decide (0 < es.length) = true) :
    Con 31 [.agg [.bool .f, .dat (entsDV es)], .dat (.bytes fun _ => key)] [] (.tup [.int .i64 (.s fun _ => ((placeI (gtP key) es - 1 : Nat) : Int)), .bool .t]) [] := ((con31f hl (key := key)).yes2 hf).conv (.cons (eqv_node2 _) (.refl _)) (.refl _)
theorem con31nt {es : List Ent} {key : List UInt8} (hl : es.length < 1000000000000) (hf : foundB es key = false) :
    Con 31 [.agg [.bool .t, .dat (entsDV es)], .dat (.bytes fun _ => key)] [] (.tup [.int .i64 (.s fun _ => (placeI (geP key) es : Int)), .bool .f]) [] := ((con31t hl (key := key)).no2 hf).conv (.cons (eqv_node1 _) (.refl _)) (.refl _)
theorem con31nf {es : List Ent} {key : List UInt8} (hl : es.length < 1000000000000) :
    Con 31 [.agg [.bool .f, .dat (entsDV es)], .dat (.bytes fun _ => key)] [] (.tup [.int .i64 (.s fun _ => ((placeI (gtP key) es - 1 : Nat) : Int)), .bool (.s fun _ => decide (0 < es.length))]) [] := (con31f hl (key := key)).conv (.cons (eqv_node2 _) (.refl _)) (.refl _)
theorem con20one {e : Ent} (h : e.key.length + e.val.length < 1000000) : Con 20 [.agg [.bool .t, .dat (.sl 4 (fun _ => 1) (litRow 4 (dvsE e)))]] [] (.int .u16 (.s fun _ => checkI true [e])) [] := by
  refine (con20 (leaf := true) (es := [e]) (by simp only [weight, List.length_cons, List.length_nil]; omega)).args fun η G w vs hv => ?_
  match vs, hv with
  | [v], hv =>
    obtain ⟨⟨us, hu, h1⟩, -⟩ := hv
    match us, h1 with
    | [u1, u2], h1 => exact ⟨⟨_, hu, h1.1, rep_one e w G u2 h1.2.1, trivial⟩, trivial⟩
    | [], h1 => exact h1.elim
    | [_], h1 => exact h1.2.elim
    | _ :: _ :: _ :: _, h1 => exact h1.2.2.elim
  | [], hv => exact hv.elim
  | _ :: _ :: _, hv => exact hv.2.elim

end Go.Proofs.Ytmdfjipjkkjpcaa

/- NodeTurns: the reference's Halves. -/
namespace Go.Proofs.Ytmdfjipjkkjpcaa
open Go.SX

theorem rep_sub0 (es : List Ent) (k : Nat) : RepR (subRow (lrow encE fun _ => es) fun _ => 0) (es.take k) := fun i hi j hj => by
  show encE (fun _ => es.getD (0 + i) default) j = _
  congr 1
  funext _
  rw [List.length_take] at hi
  rw [Nat.zero_add, List.getD_eq_getElem?_getD, List.getD_eq_getElem?_getD, List.getElem?_take, if_pos (by omega)]
theorem half_key {leaf : Bool} {es : List Ent} {k : Nat} (hk : k < es.length) (hk2 : cutK leaf es = k) : (es.getD ((k : Int).toNat + (0 : Int).toNat) default).key = ((es.drop (cutK leaf es)).getD 0 default).key := by
  rw [hk2, List.getD_eq_getElem?_getD, List.getD_eq_getElem?_getD, List.getElem?_drop]; rfl
theorem put_nokey {x : Ent} (j : Nat) : (bif eqN j 0 then mergeDV (fun _ => eqN 0 0) (.bytes fun _ => []) (encE (fun _ => x) j) else encE (fun _ => x) j) = encE (fun _ => { x with key := [] }) j := by
  match j with
  | 0 => rfl
  | 1 => rfl
  | 2 => rfl
  | _ + 3 => rfl
theorem half_row {leaf : Bool} {es : List Ent} {k : Nat} (hk : k < es.length) (hlf : leaf = false) (hk2 : cutK leaf es = k) :
    StoreOk 4 ((es.length : Int).toNat - (k : Int).toNat) 0 (subRow (lrow encE fun _ => es) fun _ => (k : Int).toNat) 0 (.bytes fun _ => []) ∧
    ((es.length : Int).toNat - (k : Int).toNat = (halfB leaf es).length ∧ RowEq 4 (halfB leaf es).length (putRow (subRow (lrow encE fun _ => es) fun _ => (k : Int).toNat) (fun _ => 0) 0 (.bytes fun _ => [])) (lrow encE fun _ => halfB leaf es)) := by
  have hh : halfB leaf es = setKey (es.drop k) 0 [] := by unfold halfB; rw [hlf, if_neg (by simp), ← hlf, hk2]
  have hl : (halfB leaf es).length = es.length - k := by rw [hh]; unfold setKey; simp
  have key : ∀ i j, j < 4 → putRow (subRow (lrow encE fun _ => es) fun _ => (k : Int).toNat) (fun _ => 0) 0 (.bytes fun _ => []) (fun _ => i) j = if i = 0 then encE (fun _ => { es.getD (k + 0) default with key := [] }) j else encE (fun _ => es.getD (k + i) default) j := by
    intro i j hj
    by_cases h : i = 0
    · subst h
      rw [if_pos rfl]
      exact put_nokey (x := es.getD (k + 0) default) j
    · rw [if_neg h]
      have hf : eqN i 0 = false := decide_eq_false h
      unfold putRow
      match j with
      | 0 => simp only [hf]; rfl
      | 1 => rfl
      | 2 => rfl
      | _ + 3 => rfl
  refine ⟨⟨by rw [key 0 0 (by omega), if_pos rfl]; rfl, fun i' hi' hne j hj => by rw [key i' j hj, if_neg hne]; rfl⟩, by rw [hl]; omega, fun i hi j hj => ?_⟩
  rw [key i j hj]
  have hat : (halfB leaf es).getD i default = if i = 0 then { es.getD (k + 0) default with key := [] } else es.getD (k + i) default := by
    rw [hh]
    unfold setKey
    rw [List.getD_eq_getElem?_getD, List.getElem?_set]
    have e0 : ∀ q, (es.drop k).getD q default = es.getD (k + q) default := fun q => by rw [List.getD_eq_getElem?_getD, List.getD_eq_getElem?_getD, List.getElem?_drop]
    by_cases h : i = 0
    · subst h
      rw [if_pos rfl, if_pos rfl, if_pos (by rw [List.length_drop]; omega), e0]; rfl
    · rw [if_neg (fun e => h e.symm), if_neg h, ← List.getD_eq_getElem?_getD, e0]
  show _ = encE (fun _ => (halfB leaf es).getD i default) j
  rw [hat]
  by_cases h : i = 0
  · simp only [if_pos h]
  · simp only [if_neg h]

set_option maxRecDepth 20000 in
set_option maxHeartbeats 4000000 in
theorem con39s {leaf : Bool} {es : List Ent} (h2 : es.length < 2) :
    Con 39 [nodeSV leaf es] [] (.tup [nodeSV leaf es, .agg [.bool (.s fun _ => leaf), .dat (entsDV [])], .dat (.bytes fun _ => [])]) [] := by
  refine con_of Try.func39 rfl rfl 85 _ rfl rfl rfl rfl ?_
  cbv
  refine ⟨fun h1 => ?_, fun h1 => ?_⟩
  · cbv
    refine ⟨⟨by kernel_rfl⟩, ?_⟩
    cbv
    refine ⟨[], [], ?_⟩
    cbv
    and_intros
    all_goals first | exact trivial | exact ⟨rfl⟩ | exact ⟨rfl, fun i hi j hj => rfl⟩ | exact ⟨by kernel_rfl⟩
  · have h3 : ¬ (es.length : Int) < 2 := of_decide_eq_false h1
    have h4 : False := by omega
    cbv
    exact h4.elim

set_option maxRecDepth 20000 in
set_option maxHeartbeats 8000000 in
theorem con39 {leaf : Bool} {es : List Ent} (hw : weight es + 20 * es.length < 1000000000000) (h2 : 2 ≤ es.length) :
    Con 39 [nodeSV leaf es] [] (.tup [.agg [.bool (.s fun _ => leaf), .dat (entsDV (es.take (cutK leaf es)))], .agg [.bool (.s fun _ => leaf), .dat (entsDV (halfB leaf es))], .dat (.bytes fun _ => ((es.drop (cutK leaf es)).getD 0 default).key)]) [] := by
  obtain ⟨R1, hR1⟩ : ∃ R, R = es.take (cutK leaf es) := ⟨_, rfl⟩
  obtain ⟨R2, hR2⟩ : ∃ R, R = halfB leaf es := ⟨_, rfl⟩
  obtain ⟨R3, hR3⟩ : ∃ R, R = ((es.drop (cutK leaf es)).getD 0 default).key := ⟨_, rfl⟩
  rw [← hR1, ← hR2, ← hR3]
  have b0 : bound64 ((2 + sizeL leaf es) - 2) := by have := sizeL_le leaf es; unfold bound64; omega
  refine con_of Try.func39 rfl rfl 85 _ rfl rfl rfl rfl ?_
  cbv
  refine ⟨fun h1 => ?_, fun h1 => ?_⟩
  · have h3 : (es.length : Int) < 2 := of_decide_eq_true h1
    have h4 : False := by omega
    cbv
    exact h4.elim
  · cbv
    refine ⟨_, _, con21 (leaf := leaf) (es := es) hw, ⟨?_⟩, ?_⟩
    · kernel_rfl
    cbv
    refine ⟨⟨b0⟩, ?_⟩
    cbv
    refine ⟨Nat, [], fun k => [(8, .int .i64 (.s fun _ => sizeL leaf (es.take k))), (9, .int .i64 (.s fun _ => (k : Int)))],
      fun _ => [(1, .cells 24 [.bool (.s fun _ => leaf), .dat (entsDV es)]), (2, .cells 24 [.bool .f, .nil]), (3, .cells 24 [.bool .f, .nil]), (5, .cells 24 [.bool (.s fun _ => leaf), .nil]), (6, .cells 24 [.bool (.s fun _ => leaf), .nil])],
      fun k => k < es.length ∧ cutF leaf es (es.length - k) k = cutK leaf es, fun k => es.length - k, 0, [], ⟨by omega, rfl⟩, ⟨?_⟩, fun k hx => ?_⟩
    · cbv
      and_intros
      all_goals first | exact trivial | exact ⟨rfl⟩ | exact ⟨rfl, fun _ _ _ _ => rfl⟩ | exact ⟨by kernel_rfl⟩
    · have hk : k < es.length := hx.1
      have hc : cutF leaf es (es.length - k) k = cutK leaf es := hx.2
      have oi : indexObl (k : Int) es.length := ⟨by omega, by omega⟩
      have bk : bound64 ((k : Int) + 1) := by unfold bound64; omega
      have bl : bound64 ((es.length : Int) - 1) := by unfold bound64; omega
      have ek : (k : Int) + 1 = ((k + 1 : Nat) : Int) := by omega
      have b2 : bound64 (2 * sizeL leaf (es.take k)) := by have := sizeL_le leaf (es.take k); have := sizeL_mono leaf (es := es) (i := k); have := sizeL_le leaf es; unfold bound64; omega
      have b5 : 2 + sizeL leaf es - 2 = sizeL leaf es := by omega
      have hms : es.length - (k + 1) < es.length - k := by omega
      have hnx : sizeL leaf (es.take (k + 1)) = sizeL leaf (es.take k) + bytesOfI leaf (es.getD k default).key (es.getD k default).val (es.getD k default).page := by
        rw [getD_take es hk, sizeL_app]; simp only [sizeL]; omega
      have hnx' := hnx.symm
      have so1 : sliceObl 0 (k : Int) es.length := ⟨by omega, by omega, by omega⟩
      have so2 : sliceObl (k : Int) (es.length : Int) es.length := ⟨by omega, by omega, by omega⟩
      have lo1 : lenOk ((k : Int).toNat - 0) 56 := by unfold lenOk; omega
      have lo2 : lenOk ((es.length : Int).toNat - (k : Int).toNat) 56 := by unfold lenOk; omega
      have oi0 : indexObl 0 ((es.length : Int).toNat - (k : Int).toNat) := ⟨by omega, by omega⟩
      have hen : (es.getD k default).key.length + (es.getD k default).val.length < 1000000000000 := Nat.lt_of_le_of_lt (by have := weight_take es hk; omega : (es.getD k default).key.length + (es.getD k default).val.length ≤ weight es) (by omega)
      have ob1 : bound64 ((sizeL leaf (es.take k)) + bytesOfI leaf (es.getD k default).key (es.getD k default).val (es.getD k default).page) := by
        rw [← hnx]; have := sizeL_le leaf (es.take (k + 1)); have := sizeL_mono leaf (es := es) (i := k + 1); have := sizeL_le leaf es; unfold bound64; omega
      have hgo : goesB leaf es k = true → k + 1 < es.length → k + 1 < es.length ∧ cutF leaf es (es.length - (k + 1)) (k + 1) = cutK leaf es := fun hg hlt => ⟨hlt, (cut_go hk hg).trans hc⟩
      have hst : goesB leaf es k = false → cutK leaf es = k := fun hg => by rw [← hc, cut_end hk hg]
      have hz : (k : Int) = 0 → goesB leaf es k = true ∧ k + 1 < es.length := fun h => ⟨by simp only [goesB, decide_eq_true (show k = 0 by omega), Bool.true_or], by omega⟩
      have hnz : ¬ (k : Int) = 0 → ¬ k = 0 := fun h => by omega
      have hz2 : ¬ k = 0 → 2 * sizeL leaf (es.take k) < 2 + sizeL leaf es - 2 → (k : Int) < (es.length : Int) - 1 → goesB leaf es k = true ∧ k + 1 < es.length := fun _ h1 h2 => ⟨by
        simp only [goesB, decide_eq_true (show 2 * sizeL leaf (es.take k) < sizeL leaf es by omega), decide_eq_true (show k < es.length - 1 by omega), Bool.and_self, Bool.or_true], by omega⟩
      have hs1 : ¬ k = 0 → ¬ 2 * sizeL leaf (es.take k) < 2 + sizeL leaf es - 2 → goesB leaf es k = false := fun h h1 => by
        simp only [goesB, decide_eq_false h, decide_eq_false (show ¬ 2 * sizeL leaf (es.take k) < sizeL leaf es by omega), Bool.false_and, Bool.or_self]
      have hs2 : ¬ k = 0 → ¬ (k : Int) < (es.length : Int) - 1 → goesB leaf es k = false := fun h h1 => by
        simp only [goesB, decide_eq_false h, decide_eq_false (show ¬ k < es.length - 1 by omega), Bool.and_false, Bool.or_self]
      cbv
      refine ⟨fun h3 => ?_, fun h3 => ?_⟩
      · have hq := hz (of_decide_eq_true h3)
        have hnext := hgo hq.1 hq.2
        cbv
        refine ⟨⟨oi⟩, _, _, con48 (leaf := leaf) hen, ⟨?_⟩, ?_⟩
        · kernel_rfl
        cbv
        refine ⟨⟨ob1⟩, ⟨by kernel_rfl⟩, ?_⟩
        cbv
        refine ⟨⟨bk⟩, k + 1, [], hnext, hms, ⟨?_⟩, ⟨?_⟩⟩
        · kernel_rfl
        · cbv
          and_intros
          all_goals first | exact trivial | exact ⟨hnx'⟩ | exact ⟨ek⟩ | exact ⟨rfl⟩ | exact ⟨rfl, fun _ _ _ _ => rfl⟩ | exact ⟨by kernel_rfl⟩
      · have h3 := hnz (of_decide_eq_false h3)
        cbv
        refine ⟨⟨b2⟩, fun h4 => ?_, fun h4 => ?_⟩
        · have h4 : 2 * sizeL leaf (es.take k) < 2 + sizeL leaf es - 2 := of_decide_eq_true h4
          cbv
          refine ⟨⟨bl⟩, fun h5 => ?_, fun h5 => ?_⟩
          · have hq := hz2 h3 h4 (of_decide_eq_true h5)
            have hnext := hgo hq.1 hq.2
            cbv
            refine ⟨⟨oi⟩, _, _, con48 (leaf := leaf) hen, ⟨?_⟩, ?_⟩
            · kernel_rfl
            cbv
            refine ⟨⟨ob1⟩, ⟨by kernel_rfl⟩, ?_⟩
            cbv
            refine ⟨⟨bk⟩, k + 1, [], hnext, hms, ⟨?_⟩, ⟨?_⟩⟩
            · kernel_rfl
            · cbv
              and_intros
              all_goals first | exact trivial | exact ⟨hnx'⟩ | exact ⟨ek⟩ | exact ⟨rfl⟩ | exact ⟨rfl, fun _ _ _ _ => rfl⟩ | exact ⟨by kernel_rfl⟩
          · have hk2 := hst (hs2 h3 (of_decide_eq_false h5))
            cbv
            refine ⟨⟨so1⟩, ⟨lo1⟩, ⟨by kernel_rfl⟩, ?_⟩
            cbv
            refine ⟨⟨so2⟩, ⟨lo2⟩, ⟨by kernel_rfl⟩, ?_⟩
            cbv
            refine ⟨⟨oi0⟩, ?_⟩
            refine ⟨fun h6 => ?_, fun h6 => ?_⟩
            · have hlf : leaf = false := bnot_t h6
              have TA := rowEq_of (rep_sub0 es k) (show (k : Int).toNat - 0 = (es.take k).length by rw [List.length_take]; omega) (show es.take k = R1 by rw [hR1, hk2])
              have TB := half_row (leaf := leaf) (k := k) hk hlf hk2
              rw [← hR2] at TB
              have TK := half_key (leaf := leaf) (k := k) hk hk2
              rw [← hR3] at TK
              cbv
              refine ⟨⟨oi0⟩, ⟨TB.1⟩, ?_⟩
              cbv
              refine ⟨⟨by kernel_rfl⟩, ?_⟩
              cbv
              refine ⟨[], [60, 68], ?_⟩
              cbv
              and_intros
              all_goals first | exact trivial | exact ⟨rfl⟩ | exact ⟨TA⟩ | exact ⟨TB.2⟩ | exact ⟨TK⟩ | exact ⟨by kernel_rfl⟩
            · have hlf : leaf = true := bnot_f h6
              have TA := rowEq_of (rep_sub0 es k) (show (k : Int).toNat - 0 = (es.take k).length by rw [List.length_take]; omega) (show es.take k = R1 by rw [hR1, hk2])
              have TC := rowEq_of (rep_subR es (k : Int).toNat) (show (es.length : Int).toNat - (k : Int).toNat = (es.drop (k : Int).toNat).length by rw [List.length_drop]; omega) (show es.drop (k : Int).toNat = R2 by rw [hR2]; unfold halfB; rw [hlf, if_pos rfl, ← hlf, hk2]; rfl)
              have TK := half_key (leaf := leaf) (k := k) hk hk2
              rw [← hR3] at TK
              cbv
              refine ⟨⟨by kernel_rfl⟩, ?_⟩
              cbv
              refine ⟨[], [60, 68], ?_⟩
              cbv
              and_intros
              all_goals first | exact trivial | exact ⟨rfl⟩ | exact ⟨TA⟩ | exact ⟨TC⟩ | exact ⟨TK⟩ | exact ⟨by kernel_rfl⟩
        · have hk2 := hst (hs1 h3 (of_decide_eq_false h4))
          cbv
          refine ⟨⟨so1⟩, ⟨lo1⟩, ⟨by kernel_rfl⟩, ?_⟩
          cbv
          refine ⟨⟨so2⟩, ⟨lo2⟩, ⟨by kernel_rfl⟩, ?_⟩
          cbv
          refine ⟨⟨oi0⟩, ?_⟩
          refine ⟨fun h6 => ?_, fun h6 => ?_⟩
          · have hlf : leaf = false := bnot_t h6
            have TA := rowEq_of (rep_sub0 es k) (show (k : Int).toNat - 0 = (es.take k).length by rw [List.length_take]; omega) (show es.take k = R1 by rw [hR1, hk2])
            have TB := half_row (leaf := leaf) (k := k) hk hlf hk2
            rw [← hR2] at TB
            have TK := half_key (leaf := leaf) (k := k) hk hk2
            rw [← hR3] at TK
            cbv
            refine ⟨⟨oi0⟩, ⟨TB.1⟩, ?_⟩
            cbv
            refine ⟨⟨by kernel_rfl⟩, ?_⟩
            cbv
            refine ⟨[], [60, 68], ?_⟩
            cbv
            and_intros
            all_goals first | exact trivial | exact ⟨rfl⟩ | exact ⟨TA⟩ | exact ⟨TB.2⟩ | exact ⟨TK⟩ | exact ⟨by kernel_rfl⟩
          · have hlf : leaf = true := bnot_f h6
            have TA := rowEq_of (rep_sub0 es k) (show (k : Int).toNat - 0 = (es.take k).length by rw [List.length_take]; omega) (show es.take k = R1 by rw [hR1, hk2])
            have TC := rowEq_of (rep_subR es (k : Int).toNat) (show (es.length : Int).toNat - (k : Int).toNat = (es.drop (k : Int).toNat).length by rw [List.length_drop]; omega) (show es.drop (k : Int).toNat = R2 by rw [hR2]; unfold halfB; rw [hlf, if_pos rfl, ← hlf, hk2]; rfl)
            have TK := half_key (leaf := leaf) (k := k) hk hk2
            rw [← hR3] at TK
            cbv
            refine ⟨⟨by kernel_rfl⟩, ?_⟩
            cbv
            refine ⟨[], [60, 68], ?_⟩
            cbv
            and_intros
            all_goals first | exact trivial | exact ⟨rfl⟩ | exact ⟨TA⟩ | exact ⟨TC⟩ | exact ⟨TK⟩ | exact ⟨by kernel_rfl⟩
end Go.Proofs.Ytmdfjipjkkjpcaa

