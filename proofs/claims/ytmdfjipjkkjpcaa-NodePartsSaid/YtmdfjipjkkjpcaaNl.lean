/- Node laws: the order of bytes, and of keys. -/
import Derived.Test.YtmdfjipjkkjpcaaNg
namespace Go.Proofs.Ytmdfjipjkkjpcaa
open Go.SX

theorem u8_lt {a b : UInt8} : a < b ↔ a.toNat < b.toNat := Iff.rfl
theorem u8_tri (a b : UInt8) : a < b ∨ b < a ∨ a = b := by
  rcases Nat.lt_trichotomy a.toNat b.toNat with h | h | h
  · exact .inl h
  · exact .inr (.inr (UInt8.toNat.inj h))
  · exact .inr (.inl h)

theorem cmp_self : ∀ (a : List UInt8), Lib.compareBytes a a = 0
  | [] => rfl
  | x :: a => by
      have h : ¬ x < x := by rw [u8_lt]; omega
      simp only [Lib.compareBytes, h, if_false, cmp_self a]
theorem cmp_zero : ∀ {a b : List UInt8}, Lib.compareBytes a b = 0 → a = b
  | [], [], _ => rfl
  | [], _ :: _, h => by simp [Lib.compareBytes] at h
  | _ :: _, [], h => by simp [Lib.compareBytes] at h
  | x :: a, y :: b, h => by
      unfold Lib.compareBytes at h
      split at h
      · omega
      · split at h
        · omega
        · rcases u8_tri x y with h1 | h1 | h1
          · contradiction
          · contradiction
          · rw [h1, cmp_zero h]
theorem cmp_anti : ∀ (a b : List UInt8), Lib.compareBytes b a = - Lib.compareBytes a b
  | [], [] => rfl
  | [], _ :: _ => rfl
  | _ :: _, [] => rfl
  | x :: a, y :: b => by
      unfold Lib.compareBytes
      rcases u8_tri x y with h | h | h
      · have h' : ¬ y < x := by rw [u8_lt] at h ⊢; omega
        simp [h, h']
      · have h' : ¬ x < y := by rw [u8_lt] at h ⊢; omega
        simp [h, h']
      · subst h
        have h' : ¬ x < x := by rw [u8_lt]; omega
        simp only [h', if_false]
        exact cmp_anti a b
theorem cmp_trans : ∀ {a b d : List UInt8}, Lib.compareBytes a b < 0 → Lib.compareBytes b d < 0 → Lib.compareBytes a d < 0
  | [], b, [], h1, h2 => by cases b <;> simp [Lib.compareBytes] at h1 h2
  | [], _, _ :: _, _, _ => by simp [Lib.compareBytes]
  | _ :: _, [], _, h1, _ => by simp [Lib.compareBytes] at h1
  | _ :: _, _ :: _, [], _, h2 => by simp [Lib.compareBytes] at h2
  | x :: a, y :: b, z :: d, h1, h2 => by
      unfold Lib.compareBytes at h1 h2 ⊢
      simp only [u8_lt] at h1 h2 ⊢
      by_cases hxy : x.toNat < y.toNat
      · by_cases hyz : y.toNat < z.toNat
        · rw [if_pos (by omega)]; omega
        · rw [if_neg hyz] at h2
          by_cases hzy : z.toNat < y.toNat
          · rw [if_pos hzy] at h2; omega
          · rw [if_pos (by omega)]; omega
      · rw [if_neg hxy] at h1
        by_cases hyx : y.toNat < x.toNat
        · rw [if_pos hyx] at h1; omega
        · rw [if_neg hyx] at h1
          by_cases hyz : y.toNat < z.toNat
          · rw [if_pos (by omega)]; omega
          · rw [if_neg hyz] at h2
            by_cases hzy : z.toNat < y.toNat
            · rw [if_pos hzy] at h2; omega
            · rw [if_neg hzy] at h2
              rw [if_neg (by omega), if_neg (by omega)]
              exact cmp_trans h1 h2
theorem less_cmp : ∀ (a b : List UInt8), Op.bytesLess a b = decide (Lib.compareBytes a b < 0)
  | [], [] => rfl
  | [], _ :: _ => by simp [Op.bytesLess, Lib.compareBytes]
  | _ :: _, [] => by simp [Op.bytesLess, Lib.compareBytes]
  | x :: a, y :: b => by
      unfold Op.bytesLess Lib.compareBytes
      rw [less_cmp a b]
      rcases u8_tri x y with h | h | h
      · simp [h]
      · have h' : ¬ x < y := by rw [u8_lt] at h ⊢; omega
        have h2 : x ≠ y := by intro e; subst e; rw [u8_lt] at h; omega
        simp [h, h', h2]
      · subst h
        have h' : ¬ x < x := by rw [u8_lt]; omega
        simp [h']
theorem leq_cmp (a b : List UInt8) : (Op.bytesLess a b || a == b) = !gtP b a := by
  rw [less_cmp]
  have h0 := @cmp_zero a b
  unfold gtP
  rcases Int.lt_trichotomy (Lib.compareBytes a b) 0 with h | h | h
  · have : ¬ 0 < Lib.compareBytes a b := by omega
    simp [h, this]
  · have := h0 h
    subst this
    simp [h]
  · have h1 : ¬ Lib.compareBytes a b < 0 := by omega
    have h2 : a ≠ b := by intro e; subst e; rw [cmp_self] at h; omega
    simp [h, h1, h2]

/-- Do the keys rise? -/
def RisesL (es : List Ent) : Prop := ∀ i j, i < j → j < es.length → Lib.compareBytes (es.getD i default).key (es.getD j default).key < 0

theorem rises_of {es : List Ent} (h : ∀ i, 0 < i → i < es.length → Lib.compareBytes (es.getD (i - 1) default).key (es.getD i default).key < 0) : RisesL es := by
  intro i j hij
  induction j with
  | zero => omega
  | succ j ih =>
    intro hj
    have h1 := h (j + 1) (by omega) hj
    simp only [Nat.add_sub_cancel] at h1
    by_cases he : i = j
    · subst he; exact h1
    · exact cmp_trans (ih (by omega) (by omega)) h1

theorem okTo_at {leaf : Bool} {es : List Ent} : ∀ {n i : Nat}, okTo leaf es n = true → i < n → okAt leaf es i = true
  | 0, i, _, h => by omega
  | n + 1, i, h, hi => by
      simp only [okTo, Bool.and_eq_true] at h
      by_cases he : i = n
      · subst he; exact h.2
      · exact okTo_at h.1 (by omega)
theorem may_at {leaf : Bool} {es : List Ent} (h : mayB leaf es = true) : 0 < es.length ∧ ∀ i, i < es.length → keyBad leaf i (es.getD i default) = false ∧ orderBad leaf es i (es.getD i default) = false := by
  simp only [mayB, Bool.and_eq_true, decide_eq_true_eq] at h
  refine ⟨h.2, fun i hi => ?_⟩
  have := okTo_at h.1 hi
  simp only [okAt, Bool.and_eq_true, Bool.not_eq_true'] at this
  exact this
theorem may_rises {leaf : Bool} {es : List Ent} (h : mayB leaf es = true) : RisesL es := by
  obtain ⟨_, h⟩ := may_at h
  refine rises_of fun i h0 hi => ?_
  have := (h i hi).2
  simp only [orderBad, Bool.or_eq_false_iff, Bool.and_eq_false_iff, decide_eq_false_iff_not] at this
  rcases this.1 with h1 | h1 <;> omega
theorem may_first {es : List Ent} (h : mayB false es = true) : (es.getD 0 default).key = [] := by
  obtain ⟨h0, h⟩ := may_at h
  have := (h 0 h0).1
  simp only [keyBad, Bool.or_eq_false_iff] at this
  have := this.1
  simp at this
  exact this

theorem binS_law {p : Nat → Bool} {n : Nat} (hm : ∀ i j, i ≤ j → j < n → p i = true → p j = true) : ∀ (i j : Nat), i ≤ j → j ≤ n → (∀ k, k < i → p k = false) → (∀ k, j ≤ k → k < n → p k = true) →
    (∀ k, k < binS p i j → p k = false) ∧ ∀ k, binS p i j ≤ k → k < n → p k = true := by
  intro i j hij hj h1 h2
  rw [binS.eq_1 p i j]
  split
  · rename_i hlt
    split
    · rename_i hp
      exact binS_law hm i ((i + j) / 2) (by omega) (by omega) h1 fun k hk hk' => hm _ _ hk hk' hp
    · rename_i hp
      refine binS_law hm ((i + j) / 2 + 1) j (by omega) hj (fun k hk => ?_) h2
      cases hc : p k with
      | false => rfl
      | true => exact absurd (hm k ((i + j) / 2) (by omega) (by omega) hc) hp
  · exact ⟨fun k hk => h1 k hk, fun k hk hk' => h2 k (by omega) hk'⟩
termination_by i j => j - i
decreasing_by all_goals omega

theorem place_law {p : List UInt8 → Bool} {es : List Ent} (hm : ∀ i j, i ≤ j → j < es.length → p (es.getD i default).key = true → p (es.getD j default).key = true) :
    (∀ k, k < placeI p es → p (es.getD k default).key = false) ∧ ∀ k, placeI p es ≤ k → k < es.length → p (es.getD k default).key = true :=
  binS_law (p := fun i => p (es.getD i default).key) hm 0 es.length (Nat.zero_le _) (Nat.le_refl _) (fun k hk => by omega) (fun k hk hk' => by omega)

theorem gt_mono {es : List Ent} (hr : RisesL es) (key : List UInt8) : ∀ i j, i ≤ j → j < es.length → gtP key (es.getD i default).key = true → gtP key (es.getD j default).key = true := by
  intro i j hij hj h
  by_cases he : i = j
  · subst he; exact h
  · have h1 := hr i j (by omega) hj
    simp only [gtP, decide_eq_true_eq] at h ⊢
    have h2 := cmp_anti (es.getD i default).key key
    have h3 := cmp_anti (es.getD i default).key (es.getD j default).key
    have h4 := cmp_anti (es.getD j default).key key
    have h5 : Lib.compareBytes key (es.getD i default).key < 0 := by omega
    have := cmp_trans h5 h1
    omega
theorem ge_mono {es : List Ent} (hr : RisesL es) (key : List UInt8) : ∀ i j, i ≤ j → j < es.length → geP key (es.getD i default).key = true → geP key (es.getD j default).key = true := by
  intro i j hij hj h
  by_cases he : i = j
  · subst he; exact h
  · have h1 := hr i j (by omega) hj
    simp only [geP, decide_eq_true_eq] at h ⊢
    have h2 := cmp_anti (es.getD i default).key key
    have h4 := cmp_anti (es.getD j default).key key
    by_cases h0 : Lib.compareBytes key (es.getD i default).key = 0
    · have := cmp_zero h0
      rw [← this] at h1
      omega
    · have h5 : Lib.compareBytes key (es.getD i default).key < 0 := by omega
      have := cmp_trans h5 h1
      omega

/-- NodePlaces' law. -/
theorem places_law {es : List Ent} {key : List UInt8} (h : mayB false es = true) : placeI (gtP key) es - 1 < es.length ∧ ∀ i, i < es.length →
    ((Op.bytesLess (es.getD i default).key key || (es.getD i default).key == key) != decide (i ≤ placeI (gtP key) es - 1)) = false := by
  have hr := may_rises h
  obtain ⟨h0, _⟩ := may_at h
  obtain ⟨l1, l2⟩ := place_law (gt_mono hr key)
  have hle := placeI_le (p := gtP key) (es := es)
  have hf := may_first h
  have hpos : 1 ≤ placeI (gtP key) es := by
    rcases Nat.eq_zero_or_pos (placeI (gtP key) es) with hz | hz
    · have := l2 0 (by omega) h0
      rw [hf] at this
      simp only [gtP, decide_eq_true_eq] at this
      cases key <;> simp [Lib.compareBytes] at this
    · exact hz
  refine ⟨by omega, fun i hi => ?_⟩
  rw [leq_cmp]
  by_cases hc : i < placeI (gtP key) es
  · rw [l1 i hc, decide_eq_true (by omega)]; rfl
  · rw [l2 i (by omega) hi, decide_eq_false (by omega)]; rfl
end Go.Proofs.Ytmdfjipjkkjpcaa
