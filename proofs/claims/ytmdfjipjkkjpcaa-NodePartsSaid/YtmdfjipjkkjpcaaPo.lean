/- Node laws: what Put comes to. -/
import Derived.Test.YtmdfjipjkkjpcaaNl
import Derived.Test.YtmdfjipjkkjpcaaPu
namespace Go.Proofs.Ytmdfjipjkkjpcaa
open Go.SX

abbrev Less (a b : Ent) : Prop := Lib.compareBytes a.key b.key < 0
def Up (es : List Ent) : Prop := es.Pairwise Less

theorem up_rises {es : List Ent} (h : Up es) : RisesL es := by
  intro i j hij hj
  have := List.pairwise_iff_getElem.1 h i j (by omega) hj hij
  simpa [List.getD_eq_getElem?_getD, List.getElem?_eq_getElem hj, List.getElem?_eq_getElem (show i < es.length by omega)] using this

theorem less_irr {a : Ent} : ¬ Less a a := by unfold Less; rw [cmp_self]; omega

theorem put_split {es : List Ent} (h : Up es) (e : Ent) : ∃ A M C, es = A ++ (M ++ C) ∧ putL es e = A ++ e :: C ∧ (∀ x ∈ A, Less x e) ∧ (∀ x ∈ C, Less e x) ∧ ∀ x ∈ M, x.key = e.key := by
  have hr := up_rises h
  obtain ⟨l1, l2⟩ := place_law (ge_mono hr e.key)
  have hle := placeI_le (p := geP e.key) (es := es)
  have hput : putL es e = es.take (placeI (geP e.key) es) ++ ([e] ++ es.drop (if placeI (geP e.key) es < es.length ∧ (es.getD (placeI (geP e.key) es) default).key = e.key then placeI (geP e.key) es + 1 else placeI (geP e.key) es)) := rfl
  generalize placeI (geP e.key) es = k at l1 l2 hle hput
  have hA : ∀ x ∈ es.take k, Less x e := by
    intro x hx
    obtain ⟨i, hi, rfl⟩ := List.getElem_of_mem hx
    have hi' : i < k ∧ i < es.length := by simp at hi; omega
    have := l1 i hi'.1
    simp only [geP, decide_eq_false_iff_not] at this
    simp only [List.getElem_take]
    rw [List.getD_eq_getElem?_getD, List.getElem?_eq_getElem hi'.2] at this
    simp only [Option.getD_some] at this
    unfold Less; omega
  have hge : ∀ i (hi : i < es.length), k ≤ i → 0 ≤ Lib.compareBytes es[i].key e.key := by
    intro i hi hk
    have := l2 i hk hi
    simp only [geP, decide_eq_true_eq] at this
    rwa [List.getD_eq_getElem?_getD, List.getElem?_eq_getElem hi] at this
  by_cases hc : k < es.length ∧ (es.getD k default).key = e.key
  · rw [if_pos hc] at hput
    have hek : es[k].key = e.key := by have := hc.2; rwa [List.getD_eq_getElem?_getD, List.getElem?_eq_getElem hc.1] at this
    refine ⟨es.take k, [es[k]], es.drop (k + 1), ?_, by rw [hput]; rfl, hA, ?_, ?_⟩
    · conv => lhs; rw [← List.take_append_drop k es, List.drop_eq_getElem_cons hc.1]
      simp
    · intro x hx
      obtain ⟨i, hi, rfl⟩ := List.getElem_of_mem hx
      simp only [List.length_drop] at hi
      simp only [List.getElem_drop]
      have := List.pairwise_iff_getElem.1 h k (k + 1 + i) hc.1 (by omega) (by omega)
      unfold Less at this ⊢
      rwa [hek] at this
    · intro x hx
      rw [List.mem_singleton] at hx
      rw [hx]; exact hek
  · rw [if_neg hc] at hput
    refine ⟨es.take k, [], es.drop k, by simp, by rw [hput]; rfl, hA, ?_, fun x hx => by cases hx⟩
    intro x hx
    obtain ⟨i, hi, rfl⟩ := List.getElem_of_mem hx
    simp only [List.length_drop] at hi
    simp only [List.getElem_drop]
    have hk : k < es.length := by omega
    have hne : es[k].key ≠ e.key := fun he => hc ⟨hk, by rw [List.getD_eq_getElem?_getD, List.getElem?_eq_getElem hk]; exact he⟩
    have h0 := hge k hk (Nat.le_refl _)
    have h0' : Less e es[k] := by
      have h1 := cmp_anti es[k].key e.key
      have h2 : Lib.compareBytes es[k].key e.key ≠ 0 := fun hz => hne (cmp_zero hz)
      unfold Less; omega
    by_cases hi0 : i = 0
    · subst hi0; exact h0'
    · exact cmp_trans h0' (List.pairwise_iff_getElem.1 h k (k + i) hk (by omega) (by omega))

theorem put_up {es : List Ent} (h : Up es) (e : Ent) : Up (putL es e) := by
  obtain ⟨A, M, C, h1, h2, hA, hC, -⟩ := put_split h e
  rw [h2]
  unfold Up at h ⊢
  rw [h1, List.pairwise_append] at h
  obtain ⟨a1, a2, a3⟩ := h
  have c1 := (List.pairwise_append.1 a2).2.1
  rw [List.pairwise_append]
  refine ⟨a1, List.pairwise_cons.2 ⟨hC, c1⟩, fun x hx y hy => ?_⟩
  rcases List.mem_cons.1 hy with rfl | hy
  · exact hA x hx
  · exact a3 x hx y (by simp [hy])
theorem put_mem {es : List Ent} (h : Up es) (e x : Ent) : x ∈ putL es e ↔ x = e ∨ (x ∈ es ∧ x.key ≠ e.key) := by
  obtain ⟨A, M, C, h1, h2, hA, hC, hM⟩ := put_split h e
  rw [h2, h1]
  simp only [List.mem_append, List.mem_cons]
  have nA : x ∈ A → x.key ≠ e.key := fun hx he => by have := hA x hx; unfold Less at this; rw [he, cmp_self] at this; omega
  have nC : x ∈ C → x.key ≠ e.key := fun hx he => by have := hC x hx; unfold Less at this; rw [he, cmp_self] at this; omega
  constructor
  · rintro (hx | rfl | hx)
    · exact .inr ⟨.inl hx, nA hx⟩
    · exact .inl rfl
    · exact .inr ⟨.inr (.inr hx), nC hx⟩
  · rintro (rfl | ⟨hx | hx | hx, hn⟩)
    · exact .inr (.inl rfl)
    · exact .inl hx
    · exact absurd (hM x hx) hn
    · exact .inr (.inr hx)
theorem put_len {es : List Ent} (h : Up es) (e : Ent) (hn : ∀ x ∈ es, x.key ≠ e.key) : (putL es e).length = es.length + 1 := by
  obtain ⟨A, M, C, h1, h2, -, -, hM⟩ := put_split h e
  have : M = [] := by
    cases M with
    | nil => rfl
    | cons x M => exact absurd (hM x (by simp)) (hn x (by rw [h1]; simp))
  subst this
  rw [h2]
  conv => rhs; rw [h1]
  simp only [List.length_append, List.length_cons, List.nil_append]; omega

theorem up_unique : ∀ {a b : List Ent}, Up a → Up b → (∀ x, x ∈ a ↔ x ∈ b) → a = b
  | [], [], _, _, _ => rfl
  | [], y :: b, _, _, h => by have := (h y).2 (by simp); cases this
  | x :: a, [], _, _, h => by have := (h x).1 (by simp); cases this
  | x :: a, y :: b, ha, hb, h => by
      obtain ⟨a1, a2⟩ := List.pairwise_cons.1 ha
      obtain ⟨b1, b2⟩ := List.pairwise_cons.1 hb
      have hxy : x = y := by
        rcases List.mem_cons.1 ((h x).1 (by simp)) with h1 | h1
        · exact h1
        · rcases List.mem_cons.1 ((h y).2 (by simp)) with h2 | h2
          · exact h2.symm
          · exact absurd (cmp_trans (a1 y h2) (b1 x h1)) less_irr
      subst hxy
      rw [up_unique a2 b2 fun z => ?_]
      constructor
      · intro hz
        rcases List.mem_cons.1 ((h z).1 (by simp [hz])) with h1 | h1
        · subst h1; exact absurd (a1 _ hz) less_irr
        · exact h1
      · intro hz
        rcases List.mem_cons.1 ((h z).2 (by simp [hz])) with h1 | h1
        · subst h1; exact absurd (b1 _ hz) less_irr
        · exact h1

def putAll (m : List Ent) : List Ent := m.foldl putL []
theorem putAll_next {m : List Ent} {i : Nat} (hi : i < m.length) : putAll (m.take (i + 1)) = putL (putAll (m.take i)) (m.getD i default) := by
  rw [getD_take m hi]; simp [putAll]
def Unlike (m : List Ent) : Prop := ∀ i j, i < j → j < m.length → (m.getD i default).key ≠ (m.getD j default).key

theorem putAll_law {m : List Ent} (hd : Unlike m) : ∀ n, n ≤ m.length → Up (putAll (m.take n)) ∧ (∀ x, x ∈ putAll (m.take n) ↔ x ∈ m.take n) ∧ (putAll (m.take n)).length = n
  | 0, _ => ⟨by simp [putAll, Up], by simp [putAll], by simp [putAll]⟩
  | n + 1, hn => by
      obtain ⟨h1, h2, h3⟩ := putAll_law hd n (by omega)
      have hne : ∀ x ∈ m.take n, x.key ≠ (m.getD n default).key := by
        intro x hx
        obtain ⟨i, hi, rfl⟩ := List.getElem_of_mem hx
        have hi' : i < n ∧ i < m.length := by simp at hi; omega
        have := hd i n hi'.1 (by omega)
        simp only [List.getElem_take]
        rwa [List.getD_eq_getElem?_getD, List.getElem?_eq_getElem hi'.2] at this
      rw [putAll_next (by omega)]
      refine ⟨put_up h1 _, fun x => ?_, ?_⟩
      · rw [put_mem h1, h2, getD_take m (by omega), List.mem_append, List.mem_singleton]
        constructor
        · rintro (h | ⟨h, _⟩)
          · exact .inr h
          · exact .inl h
        · rintro (h | h)
          · exact .inr ⟨h, hne x h⟩
          · exact .inl h
      · rw [put_len h1 _ (fun x hx => hne x ((h2 x).1 hx)), h3]

theorem unlike_rev {m : List Ent} (h : Unlike m) : Unlike m.reverse := by
  intro i j hij hj
  simp only [List.length_reverse] at hj
  have := h (m.length - 1 - j) (m.length - 1 - i) (by omega) (by omega)
  have e1 : m.reverse.getD i default = m.getD (m.length - 1 - i) default := by
    rw [List.getD_eq_getElem?_getD, List.getD_eq_getElem?_getD, List.getElem?_reverse (by omega)]
  have e2 : m.reverse.getD j default = m.getD (m.length - 1 - j) default := by
    rw [List.getD_eq_getElem?_getD, List.getD_eq_getElem?_getD, List.getElem?_reverse (by omega)]
  rw [e1, e2]
  exact fun he => this he.symm
theorem putAll_rev {m : List Ent} (h : Unlike m) : putAll m = putAll m.reverse := by
  have h1 := putAll_law h m.length (Nat.le_refl _)
  have h2 := putAll_law (unlike_rev h) m.reverse.length (Nat.le_refl _)
  rw [List.take_length] at h1 h2
  exact up_unique h1.1 h2.1 fun x => by rw [h1.2.1, h2.2.1, List.mem_reverse]

/-- In a rising list each key is found where it stands. -/
theorem found_at {S : List Ent} (h : Up S) {e : Ent} (he : e ∈ S) : placeI (geP e.key) S < S.length ∧ S.getD (placeI (geP e.key) S) default = e := by
  have hr := up_rises h
  obtain ⟨l1, l2⟩ := place_law (ge_mono hr e.key)
  have hle := placeI_le (p := geP e.key) (es := S)
  generalize placeI (geP e.key) S = k at l1 l2 hle
  obtain ⟨j, hj, hje⟩ := List.getElem_of_mem he
  have hgj : S.getD j default = e := by rw [List.getD_eq_getElem?_getD, List.getElem?_eq_getElem hj]; exact hje
  have hkj : k ≤ j := by
    rcases Nat.lt_or_ge j k with hlt | hge
    · have := l1 j hlt
      rw [hgj] at this
      simp only [geP, cmp_self] at this
      simp at this
    · exact hge
  rcases Nat.lt_or_ge k j with hlt | hge
  · have h1 := l2 k (Nat.le_refl _) (by omega)
    have h2 := hr k j hlt hj
    rw [hgj] at h2
    simp only [geP, decide_eq_true_eq] at h1
    omega
  · have : k = j := by omega
    subst this
    exact ⟨hj, hgj⟩
end Go.Proofs.Ytmdfjipjkkjpcaa
