/- NodeParts: the plain law; the callees, with a literal for the kind. -/
import Derived.Test.YtmdfjipjkkjpcaaNi
import Derived.Test.YtmdfjipjkkjpcaaPr
namespace Go.Proofs.Ytmdfjipjkkjpcaa
open Go.SX

theorem rises_up {es : List Ent} (h : RisesL es) : Up es :=
  List.pairwise_iff_getElem.2 fun i j hi hj hij => by
    have := h i j hij hj
    simpa [Less, List.getD_eq_getElem?_getD, List.getElem?_eq_getElem hj, List.getElem?_eq_getElem hi] using this

theorem found_gt {S : List Ent} (h : Up S) {e : Ent} (he : e ∈ S) : placeI (gtP e.key) S - 1 < S.length ∧ S.getD (placeI (gtP e.key) S - 1) default = e := by
  have hr := up_rises h
  obtain ⟨l1, l2⟩ := place_law (gt_mono hr e.key)
  have hle := placeI_le (p := gtP e.key) (es := S)
  generalize placeI (gtP e.key) S = k at l1 l2 hle
  obtain ⟨j, hj, hje⟩ := List.getElem_of_mem he
  have hgj : S.getD j default = e := by rw [List.getD_eq_getElem?_getD, List.getElem?_eq_getElem hj]; exact hje
  have h1 : j < k := by
    rcases Nat.lt_or_ge j k with hlt | hge
    · exact hlt
    · have := l2 j hge hj
      rw [hgj] at this
      simp only [gtP, cmp_self] at this
      simp at this
  have h2 : k ≤ j + 1 := by
    rcases Nat.lt_or_ge (j + 1) k with hlt | hge
    · have q1 := l1 (j + 1) hlt
      have q2 := hr j (j + 1) (by omega) (by omega)
      rw [hgj] at q2
      have q3 := cmp_anti e.key (S.getD (j + 1) default).key
      simp only [gtP, decide_eq_false_iff_not] at q1
      omega
    · exact hge
  have : k - 1 = j := by omega
  rw [this]
  exact ⟨hj, hgj⟩

theorem up_ne {S : List Ent} (h : Up S) {i j : Nat} (hij : i ≠ j) (hi : i < S.length) (hj : j < S.length) : (S.getD i default).key ≠ (S.getD j default).key := by
  intro he
  have hr := up_rises h
  rcases Nat.lt_or_gt_of_ne hij with hlt | hlt
  · have := hr i j hlt hj
    rw [he, cmp_self] at this
    omega
  · have := hr j i hlt hi
    rw [he, cmp_self] at this
    omega

theorem gone {S : List Ent} (h : Up S) {e : Ent} (he : e ∈ S) : wasB S e.key = true ∧ foundB (dropL S e.key) e.key = false := by
  obtain ⟨h1, h2⟩ := found_at h he
  have hc : placeI (geP e.key) S < S.length ∧ (S.getD (placeI (geP e.key) S) default).key = e.key := ⟨h1, by rw [h2]⟩
  refine ⟨decide_eq_true hc, ?_⟩
  have hd : dropL S e.key = S.take (placeI (geP e.key) S) ++ S.drop (placeI (geP e.key) S + 1) := by
    unfold dropL
    rw [if_pos hc]
  have hne : ∀ x ∈ dropL S e.key, x.key ≠ e.key := by
    intro x hx hxe
    rw [hd] at hx
    obtain ⟨i, hi, hik, rfl⟩ : ∃ i, i < S.length ∧ i ≠ placeI (geP e.key) S ∧ x = S.getD i default := by
      rcases List.mem_append.1 hx with hx | hx
      · obtain ⟨i, hi, rfl⟩ := List.getElem_of_mem hx
        simp only [List.length_take] at hi
        exact ⟨i, by omega, by omega, by rw [List.getElem_take, List.getD_eq_getElem?_getD, List.getElem?_eq_getElem (by omega)]; rfl⟩
      · obtain ⟨i, hi, rfl⟩ := List.getElem_of_mem hx
        simp only [List.length_drop] at hi
        exact ⟨placeI (geP e.key) S + 1 + i, by omega, by omega, by rw [List.getElem_drop, List.getD_eq_getElem?_getD, List.getElem?_eq_getElem (by omega)]; rfl⟩
    exact up_ne h hik hi h1 (by rw [hxe, h2])
  unfold foundB
  by_cases hlt : placeI (geP e.key) (dropL S e.key) < (dropL S e.key).length
  · rw [decide_eq_false (hne _ (getD_mem hlt)), Bool.and_false]
  · rw [decide_eq_false hlt, Bool.false_and]

theorem join_leaf {S : List Ent} {c : Nat} {key : List UInt8} : joinL true (S.take c) (S.drop c) key = S := by
  unfold joinL
  rw [if_neg (fun h => by cases h.1), List.take_append_drop]
theorem join_branch {S : List Ent} {c : Nat} (hc : c < S.length) : joinL false (S.take c) (setKey (S.drop c) 0 []) ((S.drop c).getD 0 default).key = S := by
  have hd := List.drop_eq_getElem_cons hc
  have hl : (S.take c).length = c := by simp; omega
  have hb : setKey (S.drop c) 0 [] = { S[c] with key := [] } :: S.drop (c + 1) := by
    rw [hd]; rfl
  have hk : ((S.drop c).getD 0 default).key = S[c].key := by rw [hd]; rfl
  unfold joinL
  rw [if_pos ⟨rfl, by rw [hb]; simp⟩, hb, hk]
  simp only [setKey]
  rw [List.set_append_right _ _ (Nat.le_refl _)]
  simp only [Nat.sub_self, List.set_cons_zero]
  have hg : (S.take c ++ { S[c] with key := [] } :: S.drop (c + 1)).getD (S.take c).length default = { S[c] with key := [] } := by
    rw [List.getD_eq_getElem?_getD, List.getElem?_append_right (Nat.le_refl _)]
    simp
  rw [hg]
  show S.take c ++ S[c] :: S.drop (c + 1) = S
  rw [← hd, List.take_append_drop]
theorem join_none {S : List Ent} {leaf : Bool} {key : List UInt8} : joinL leaf S [] key = S := by
  unfold joinL
  rw [if_neg (fun h => by simp at h), List.append_nil]

theorem okTo_all {leaf : Bool} {es : List Ent} : ∀ {n : Nat}, (∀ i, i < n → keyBad leaf i (es.getD i default) = false ∧ orderBad leaf es i (es.getD i default) = false) → okTo leaf es n = true
  | 0, _ => rfl
  | n + 1, h => okTo_next (okTo_all fun i hi => h i (by omega)) (h n (by omega)).1 (h n (by omega)).2
theorem may_of {leaf : Bool} {es : List Ent} (h0 : 0 < es.length) (h : ∀ i, i < es.length → keyBad leaf i (es.getD i default) = false ∧ orderBad leaf es i (es.getD i default) = false) : mayB leaf es = true := by
  unfold mayB
  rw [okTo_all h, decide_eq_true h0]; rfl

theorem take_getD {S : List Ent} {c i : Nat} (h : i < c) : (S.take c).getD i default = S.getD i default := by
  rw [List.getD_eq_getElem?_getD, List.getD_eq_getElem?_getD, List.getElem?_take_of_lt h]
theorem drop_getD {S : List Ent} {c i : Nat} : (S.drop c).getD i default = S.getD (c + i) default := by
  rw [List.getD_eq_getElem?_getD, List.getD_eq_getElem?_getD, List.getElem?_drop]

theorem may_take {leaf : Bool} {S : List Ent} (h : mayB leaf S = true) {c : Nat} (h1 : 1 ≤ c) (h2 : c ≤ S.length) : mayB leaf (S.take c) = true := by
  obtain ⟨h0, h⟩ := may_at h
  have hl : (S.take c).length = c := by simp; omega
  refine may_of (by omega) fun i hi => ?_
  rw [hl] at hi
  obtain ⟨q1, q2⟩ := h i (by omega)
  rw [take_getD hi]
  refine ⟨q1, ?_⟩
  unfold orderBad at q2 ⊢
  rw [take_getD (by omega : i - 1 < c), List.take_take, Nat.min_eq_left (by omega)]
  exact q2

theorem may_drop_leaf {S : List Ent} (h : mayB true S = true) {c : Nat} (h2 : c < S.length) : mayB true (S.drop c) = true := by
  obtain ⟨h0, h⟩ := may_at h
  refine may_of (by simp; omega) fun i hi => ?_
  simp only [List.length_drop] at hi
  obtain ⟨q1, q2⟩ := h (c + i) (by omega)
  rw [drop_getD]
  constructor
  · simpa [keyBad] using q1
  · simp only [orderBad, Bool.not_true, Bool.false_and, Bool.or_false, Bool.and_eq_false_iff, decide_eq_false_iff_not] at q2 ⊢
    by_cases h0 : 0 < i
    · rw [drop_getD, show c + (i - 1) = c + i - 1 by omega]
      rcases q2 with q2 | q2
      · omega
      · exact .inr q2
    · exact .inl h0

theorem may_drop_branch {S : List Ent} (h : mayB false S = true) {c : Nat} (h1 : 1 ≤ c) (h2 : c < S.length) : mayB false (setKey (S.drop c) 0 []) = true := by
  obtain ⟨h0, h⟩ := may_at h
  have hl : (setKey (S.drop c) 0 []).length = S.length - c := by rw [← setKey_len]; simp
  have hg : ∀ i, i < S.length - c → (setKey (S.drop c) 0 []).getD i default = if i = 0 then { S.getD c default with key := [] } else S.getD (c + i) default := by
    intro i hi
    rw [setKey_getD (by simpa using hi), drop_getD, drop_getD]; rfl
  have hkey : ∀ i, 0 < i → i < S.length → (S.getD i default).key ≠ [] := by
    intro i hi hil he
    have := (h i hil).1
    unfold keyBad at this
    rw [he, decide_eq_false (by omega : ¬ i = 0)] at this
    simp at this
  refine may_of (by omega) fun i hi => ?_
  rw [hl] at hi
  obtain ⟨q1, q2⟩ := h (c + i) (by omega)
  have hpage : ∀ a, a < S.length - c → ((setKey (S.drop c) 0 []).getD a default).page = (S.getD (c + a) default).page := by
    intro a ha
    rw [hg a ha]
    split
    · rename_i e; subst e; rfl
    · rfl
  constructor
  · rw [hg i hi]
    by_cases hi0 : i = 0
    · subst hi0
      rw [if_pos rfl]
      unfold keyBad at q1 ⊢
      simp only [Bool.or_eq_false_iff] at q1
      have q3 := q1.2.2
      simp only [Nat.add_zero, Bool.false_eq_true, if_false] at q3
      simp only [Bool.false_eq_true, if_false, Bool.or_eq_false_iff]
      refine ⟨by simp, by simp, ?_⟩
      exact q3
    · rw [if_neg hi0]
      unfold keyBad at q1 ⊢
      rw [decide_eq_false hi0]
      rw [decide_eq_false (by omega : ¬ c + i = 0)] at q1
      exact q1
  · have hpg := hpage i hi
    simp only [orderBad, Bool.not_false, Bool.true_and, Bool.or_eq_false_iff, Bool.and_eq_false_iff, decide_eq_false_iff_not] at q2 ⊢
    refine ⟨?_, ?_⟩
    · by_cases h0 : 0 < i
      · refine .inr ?_
        rw [hg i hi, if_neg (by omega), hg (i - 1) (by omega)]
        by_cases h1i : i = 1
        · subst h1i
          rw [if_pos (by omega)]
          have := hkey (c + 1) (by omega) (by omega)
          cases hk : (S.getD (c + 1) default).key with
          | nil => exact absurd hk this
          | cons x xs => simp [Lib.compareBytes]
        · rw [if_neg (by omega), show c + (i - 1) = c + i - 1 by omega]
          rcases q2.1 with q | q
          · omega
          · exact q
      · exact .inl h0
    · cases hc : (seenL ((setKey (S.drop c) 0 []).take i)).contains ((setKey (S.drop c) 0 []).getD i default).page with
      | false => rfl
      | true =>
        obtain ⟨x, hx, hp⟩ := seen_mem.1 (List.contains_iff_mem.1 hc)
        obtain ⟨a, ha, rfl⟩ := take_getD_mem hx
        rw [hpage a (by omega), hpg] at hp
        have : (seenL (S.take (c + i))).contains (S.getD (c + i) default).page = true :=
          List.contains_iff_mem.2 (seen_mem.2 ⟨_, getD_take_mem (by omega : c + a < c + i) (by omega), hp⟩)
        rw [this] at q2
        exact absurd q2.2 (by simp)

theorem entry_bound {leaf : Bool} {S : List Ent} (h : mayB leaf S = true) : ∀ x ∈ S, bytesOfI leaf x.key x.val x.page ≤ 226 := by
  intro x hx
  obtain ⟨i, hi, rfl⟩ := List.getElem_of_mem hx
  have q := ((may_at h).2 i hi).1
  rw [List.getD_eq_getElem?_getD, List.getElem?_eq_getElem hi, Option.getD_some] at q
  unfold keyBad at q
  simp only [Bool.or_eq_false_iff, decide_eq_false_iff_not, Bool.not_eq_false'] at q
  obtain ⟨-, q1, q2⟩ := q
  unfold bytesOfI
  cases leaf
  · simp only [Bool.not_false, if_true]; omega
  · simp only [Bool.not_true, Bool.false_eq_true, if_false, if_true] at q2 ⊢
    unfold leafyB at q2
    by_cases hp : (S[i]).page = 0
    · rw [if_pos hp] at q2
      simp only [Bool.and_eq_true, decide_eq_true_eq] at q2
      rw [if_neg (fun h => h hp)]; omega
    · rw [if_pos hp]; omega

theorem put_size {leaf : Bool} {es : List Ent} (h : Up es) (e : Ent) : sizeL leaf (putL es e) ≤ sizeL leaf es + bytesOfI leaf e.key e.val e.page := by
  obtain ⟨A, M, C, h1, h2, -⟩ := put_split h e
  have hM := (sizeL_le leaf M).1
  rw [h2]
  conv => rhs; rw [h1]
  simp only [sizeL_app, sizeL]
  omega

theorem cut_law {leaf : Bool} {S : List Ent} (h2 : 2 ≤ S.length) : goesB leaf S (cutK leaf S) = false ∧ goesB leaf S (cutK leaf S - 1) = true := by
  have key : ∀ f k, k + f = S.length → k < S.length → (k = 0 ∨ (1 ≤ k ∧ goesB leaf S (k - 1) = true)) → goesB leaf S (cutF leaf S f k) = false ∧ goesB leaf S (cutF leaf S f k - 1) = true := by
    intro f
    induction f with
    | zero => intro k h h' _; omega
    | succ f ih =>
      intro k h h' h0
      simp only [cutF]
      by_cases hg : goesB leaf S k = true
      · rw [if_pos hg]
        have : k + 1 < S.length := by
          simp only [goesB, Bool.or_eq_true, Bool.and_eq_true, decide_eq_true_eq] at hg
          omega
        exact ih (k + 1) (by omega) this (.inr ⟨by omega, by simpa using hg⟩)
      · rw [if_neg hg]
        refine ⟨by simpa using hg, ?_⟩
        rcases h0 with h0 | h0
        · subst h0; exact absurd (by simp [goesB]) hg
        · exact h0.2
  exact key S.length 0 (by omega) (by omega) (.inl rfl)

theorem sizeL_setKey {S : List Ent} : sizeL false (setKey S 0 []) ≤ sizeL false S := by
  cases S with
  | nil => simp [setKey]
  | cons x r =>
    show sizeL false ({ x with key := [] } :: r) ≤ _
    simp only [sizeL, bytesOfI, Bool.not_false, if_true, List.length_nil]
    omega

theorem check91 {leaf : Bool} {es : List Ent} (h : checkI leaf es = 91) : mayB leaf es = true := by
  cases hm : mayB leaf es with
  | true => rfl
  | false => unfold checkI at h; rw [hm] at h; simp at h
theorem check0 {leaf : Bool} {es : List Ent} (h : mayB leaf es = true) (hs : sizeL leaf es ≤ 1006) : checkI leaf es = 0 := by
  unfold checkI
  rw [if_pos h, if_neg (by omega)]

def halfB (leaf : Bool) (S : List Ent) : List Ent := if leaf then S.drop (cutK leaf S) else setKey (S.drop (cutK leaf S)) 0 []

theorem halves_ok {leaf : Bool} {S : List Ent} (h : checkI leaf S = 91) (h2 : 2 ≤ S.length) (hs : sizeL leaf S ≤ 1232) : checkI leaf (S.take (cutK leaf S)) = 0 ∧ checkI leaf (halfB leaf S) = 0 := by
  have hm := check91 h
  obtain ⟨g1, g2⟩ := cut_law (leaf := leaf) h2
  obtain ⟨c1, c2⟩ := cut_at (leaf := leaf) h2
  generalize hc : cutK leaf S = c at g1 g2 c1 c2
  have hb := entry_bound hm
  have hcx := hb _ (getD_mem (show c - 1 < S.length by omega))
  have e1 : sizeL leaf (S.take c) = sizeL leaf (S.take (c - 1)) + bytesOfI leaf (S.getD (c - 1) default).key (S.getD (c - 1) default).val (S.getD (c - 1) default).page := by
    have := getD_take S (show c - 1 < S.length by omega)
    rw [show c - 1 + 1 = c by omega] at this
    rw [this, sizeL_app]; simp only [sizeL]; omega
  have e2 : sizeL leaf S = sizeL leaf (S.take c) + sizeL leaf (S.drop c) := by
    rw [← sizeL_app, List.take_append_drop]
  have n1 := (sizeL_le leaf (S.take (c - 1))).1
  have n2 := (sizeL_le leaf (S.take c)).1
  simp only [goesB, Bool.or_eq_true, Bool.and_eq_true, decide_eq_true_eq] at g2
  simp only [goesB, Bool.or_eq_false_iff, Bool.and_eq_false_iff, decide_eq_false_iff_not] at g1
  have sA : sizeL leaf (S.take c) ≤ 1006 := by
    rcases g2 with g2 | g2
    · have : S.take (c - 1) = [] := by rw [g2]; rfl
      rw [this] at e1
      simp only [sizeL] at e1
      omega
    · omega
  have sB : sizeL leaf (S.drop c) ≤ 1006 := by
    rcases g1.2 with g | g
    · omega
    · have hcl : c = S.length - 1 := by omega
      have hd := List.drop_eq_getElem_cons c2
      have hnil : S.drop (c + 1) = [] := List.drop_eq_nil_of_le (by omega)
      have := hb _ (List.getElem_mem c2)
      rw [hd, hnil]
      simp only [sizeL]
      omega
  refine ⟨check0 (may_take hm c1 (by omega)) sA, ?_⟩
  unfold halfB
  rw [hc]
  cases leaf
  · simp only [Bool.false_eq_true, if_false]
    exact check0 (may_drop_branch hm c1 c2) (Int.le_trans sizeL_setKey sB)
  · simp only [if_true]
    exact check0 (may_drop_leaf hm c2) sB


theorem con19t : Con 19 [] [] (.bool .t) [] := con19.yes rfl

/-- The first says what the second says. -/
def Eqv (s s' : SV) : Prop := ∀ (η : OEnv) (G : Nat → Prop) (w : World) (v : Value), SVRel η G w s v → SVRel η G w s' v
def EqvL (s s' : List SV) : Prop := ∀ (η : OEnv) (G : Nat → Prop) (w : World) (vs : List Value), SVRels η G w s vs → SVRels η G w s' vs
theorem Eqv.refl (s : SV) : Eqv s s := fun _ _ _ _ h => h
theorem eqv_t1 : Eqv (.bool .t) (.bool (.s fun _ => true)) := fun _ _ _ _ h => h
theorem eqv_t2 : Eqv (.bool (.s fun _ => true)) (.bool .t) := fun _ _ _ _ h => h
theorem eqv_f1 : Eqv (.bool .f) (.bool (.s fun _ => false)) := fun _ _ _ _ h => h
theorem eqv_f2 : Eqv (.bool (.s fun _ => false)) (.bool .f) := fun _ _ _ _ h => h
theorem EqvL.nil : EqvL [] [] := fun _ _ _ _ h => h
theorem EqvL.cons {s s' : SV} {l l' : List SV} (h : Eqv s s') (hl : EqvL l l') : EqvL (s :: l) (s' :: l') := fun η G w vs hv => by
  cases vs with
  | nil => exact hv.elim
  | cons v vs => exact ⟨h η G w v hv.1, hl η G w vs hv.2⟩
theorem Eqv.agg {l l' : List SV} (h : EqvL l l') : Eqv (.agg l) (.agg l') := fun η G w v hv => by
  obtain ⟨vs, hvs, hv⟩ := hv
  exact ⟨vs, hvs, h η G w vs hv⟩
theorem Eqv.tup {l l' : List SV} (h : EqvL l l') : Eqv (.tup l) (.tup l') := fun η G w v hv => by
  obtain ⟨vs, hvs, hv⟩ := hv
  exact ⟨vs, hvs, h η G w vs hv⟩
theorem Con.conv {f : Nat} {svs svs' : List SV} {objs : Objs} {r r' : SV} {objs' : Objs} (h : Con f svs objs r objs') (ha : EqvL svs' svs) (hr : Eqv r r') : Con f svs' objs r' objs' := (h.args ha).res hr
theorem eqv_node1 (es : List Ent) : Eqv (.agg [.bool .t, .dat (entsDV es)]) (nodeSV true es) := .agg (.cons eqv_t1 (.cons (.refl _) .nil))
theorem eqv_node2 (es : List Ent) : Eqv (.agg [.bool .f, .dat (entsDV es)]) (nodeSV false es) := .agg (.cons eqv_f1 (.cons (.refl _) .nil))
theorem EqvL.refl (l : List SV) : EqvL l l := fun _ _ _ _ h => h
theorem Con.argT {f : Nat} {es : List Ent} {rest : List SV} {objs : Objs} {r : SV} {objs' : Objs} (h : Con f (nodeSV true es :: rest) objs r objs') : Con f (.agg [.bool .t, .dat (entsDV es)] :: rest) objs r objs' := h.conv (.cons (eqv_node1 es) (.refl _)) (.refl _)
theorem Con.argF {f : Nat} {es : List Ent} {rest : List SV} {objs : Objs} {r : SV} {objs' : Objs} (h : Con f (nodeSV false es :: rest) objs r objs') : Con f (.agg [.bool .f, .dat (entsDV es)] :: rest) objs r objs' := h.conv (.cons (eqv_node2 es) (.refl _)) (.refl _)

/-- What is small enough. -/
structure Fine (S : List Ent) : Prop where
  ok : ∀ x ∈ S, EntOk x
  len : S.length ≤ 1000
  wt : weight S ≤ 100000
theorem weight_mem' {x : Ent} : ∀ {es : List Ent}, x ∈ es → x.key.length + x.val.length ≤ weight es
  | [], h => by cases h
  | e :: es, h => by
      simp only [weight]
      rcases List.mem_cons.1 h with rfl | h
      · omega
      · have := weight_mem' h; omega
theorem Fine.small {S : List Ent} (h : Fine S) : ∀ x ∈ S, SmallE x := fun x hx => by
  have := weight_mem' hx; have := h.wt; unfold SmallE; omega
theorem fine_small {es : List Ent} (h : es.length + weight es ≤ 20000) {x : Ent} (hx : x ∈ es) : SmallE x := by
  have := weight_mem' hx; unfold SmallE; omega
theorem fine_small1 {e : Ent} (h : e.key.length + e.val.length ≤ 20000) : SmallE e := by unfold SmallE; omega
theorem fine_put {es : List Ent} {e : Ent} (h1 : es.length ≤ 500) (h2 : es.length + weight es ≤ 20000) (hp : ∀ x ∈ es, EntOk x) (hu : Up es) (hpe : EntOk e) (hw : e.key.length + e.val.length ≤ 20000) : Fine (putL es e) := by
  refine ⟨fun x hx => ?_, ?_, ?_⟩
  · rcases (put_mem hu e x).1 hx with rfl | ⟨h, _⟩
    · exact hpe
    · exact hp x h
  · obtain ⟨A, M, C, e1, e2, -⟩ := put_split hu e
    have := congrArg List.length e1
    rw [e2]
    simp only [List.length_append, List.length_cons] at this ⊢
    omega
  · obtain ⟨A, M, C, e1, e2, -⟩ := put_split hu e
    have := congrArg weight e1
    rw [e2]
    simp only [weight_app, weight] at this ⊢
    omega
theorem Fine.take {S : List Ent} (h : Fine S) (c : Nat) : Fine (S.take c) := by
  have hw := congrArg weight (List.take_append_drop c S)
  rw [weight_app] at hw
  have := h.len; have := h.wt
  exact ⟨fun x hx => h.ok x (List.mem_of_mem_take hx), by simp only [List.length_take]; omega, by omega⟩
theorem Fine.drop {S : List Ent} (h : Fine S) (c : Nat) : Fine (S.drop c) := by
  have hw := congrArg weight (List.take_append_drop c S)
  rw [weight_app] at hw
  have := h.len; have := h.wt
  exact ⟨fun x hx => h.ok x (List.mem_of_mem_drop hx), by simp only [List.length_drop]; omega, by omega⟩
theorem Fine.headless {S : List Ent} (h : Fine S) : Fine (setKey S 0 []) := by
  cases S with
  | nil => exact h
  | cons x r =>
    have e1 : setKey (x :: r) 0 [] = { x with key := [] } :: r := rfl
    rw [e1]
    have := h.len; have := h.wt
    simp only [weight, List.length_cons] at *
    refine ⟨fun y hy => ?_, by simp only [List.length_cons]; omega, by simp only [weight, List.length_nil]; omega⟩
    rcases List.mem_cons.1 hy with rfl | hy
    · exact h.ok x (by simp)
    · exact h.ok y (by simp [hy])
theorem Fine.half {S : List Ent} (h : Fine S) (leaf : Bool) : Fine (halfB leaf S) := by
  unfold halfB
  split
  · exact h.drop _
  · exact (h.drop _).headless
theorem drop_len {S : List Ent} {key : List UInt8} : (dropL S key).length ≤ S.length := by
  unfold dropL
  simp only [List.length_append, List.length_take, List.length_drop]
  split <;> omega

theorem nil_ents {η : OEnv} {G : Nat → Prop} {w : World} {v : Value} (h : SVRel η G w .nil v) : SVRel η G w (.dat (entsDV [])) v := by
  simp only [SVRel] at h
  subst h
  exact ⟨none, 0, rfl, Nat.le_refl _, fun i hi => absurd hi (Nat.not_lt_zero _)⟩
theorem nil_bytes {η : OEnv} {G : Nat → Prop} {w : World} {v : Value} (h : SVRel η G w .nil v) : SVRel η G w (.dat (.bytes fun _ => [])) v := by
  simp only [SVRel] at h
  subst h
  exact ⟨none, 0, rfl, Nat.le_refl _, fun i x hx => by simp at hx⟩

theorem con32xt {es : List Ent} {e : Ent} (hs : ∀ e ∈ es, SmallE e) (he : SmallE e) (hl : es.length < 100000000000) :
    Con 32 [.agg [.bool .t, .dat (entsDV es)], entSV e] [] (.agg [.bool .t, .own 2000]) [(2000, .arrD 74 4 (fun _ => (putL es e).length) (lrow encE fun _ => putL es e))] := (con32 (leaf := true) hs he hl).conv (.cons (eqv_node1 _) (.refl _)) (.agg (.cons eqv_t2 (.refl _)))
theorem con34xt {es : List Ent} {key : List UInt8} (hs : ∀ e ∈ es, SmallE e) (hl : es.length < 100000000000) (hw : wasB es key = true) :
    Con 34 [.agg [.bool .t, .dat (entsDV es)], .dat (.bytes fun _ => key)] [] (.tup [.agg [.bool .t, .own 2000], .bool .t]) [(2000, .arrD 74 4 (fun _ => (dropL es key).length) (lrow encE fun _ => dropL es key))] := by
  have h := con34 (leaf := true) hs hl (key := key)
  rw [hw] at h
  exact h.conv (.cons (eqv_node1 _) (.refl _)) (.tup (.cons (.agg (.cons eqv_t2 (.refl _))) (.cons eqv_t2 .nil)))
theorem con35xt {es : List Ent} (hs : ∀ e ∈ es, SmallE e) (h2 : es.length < 2) :
    Con 35 [.agg [.bool .t, .dat (entsDV es)]] [] (.tup [.agg [.bool .t, .own 2000], .agg [.bool .t, .nil], .nil]) [(2000, .arrD 74 4 (fun _ => es.length) (lrow encE fun _ => es))] := (con35s (leaf := true) hs h2).conv (.cons (eqv_node1 _) (.refl _)) (.tup (.cons (.agg (.cons eqv_t2 (.refl _))) (.cons (.agg (.cons eqv_t2 (.refl _))) (.refl _))))
theorem con35yt {es : List Ent} (hw : weight es + 20 * es.length < 1000000000000) (hs : ∀ e ∈ es, SmallE e) (h2 : 2 ≤ es.length) :
    Con 35 [.agg [.bool .t, .dat (entsDV es)]] [] (.tup [.agg [.bool .t, .own 2000], .agg [.bool .t, .own 2001], .own 2002])
      [(2000, .arrD 74 4 (fun _ => (es.take (cutK true es)).length) (lrow encE fun _ => es.take (cutK true es))),
       (2001, .arrD 74 4 (fun _ => (halfB true es).length) (lrow encE fun _ => halfB true es)),
       (2002, .barr 5 fun _ => ((es.drop (cutK true es)).getD 0 default).key)] := (con35t hw hs h2).conv (.cons (eqv_node1 _) (.refl _)) (.tup (.cons (.agg (.cons eqv_t2 (.refl _))) (.cons (.agg (.cons eqv_t2 (.refl _))) (.refl _))))
theorem con36yt {a b : List Ent} {key : List UInt8} (ha : ∀ e ∈ a, SmallE e) (hb : ∀ e ∈ b, SmallE e) (hk : key.length < 1000000000000) (hl : a.length + b.length < 100000000000) :
    Con 36 [.agg [.bool .t, .dat (entsDV a)], .agg [.bool .t, .dat (entsDV b)], .dat (.bytes fun _ => key)] [] (.agg [.bool .t, .own 2000]) [(2000, .arrD 74 4 (fun _ => (joinL true a b key).length) (lrow encE fun _ => joinL true a b key))] := (con36 (leaf := true) (lb := true) ha hb hk hl).conv (.cons (eqv_node1 _) (.cons (eqv_node1 _) (.refl _))) (.agg (.cons eqv_t2 (.refl _)))
theorem con36xt {a : List Ent} (ha : ∀ e ∈ a, SmallE e) (hl : a.length < 10000000000) :
    Con 36 [.agg [.bool .t, .dat (entsDV a)], .agg [.bool .t, .nil], .nil] [] (.agg [.bool .t, .own 2000]) [(2000, .arrD 74 4 (fun _ => a.length) (lrow encE fun _ => a))] := by
  have h := con36yt (a := a) (b := []) (key := []) ha (by simp) (by simp) (by simp; omega)
  rw [join_none] at h
  refine h.args fun η G w vs hv => ?_
  match vs, hv with
  | [v1, v2, v3], hv =>
    refine ⟨hv.1, ?_, nil_bytes hv.2.2.1, trivial⟩
    obtain ⟨us, hu, h1⟩ := hv.2.1
    match us, h1 with
    | [u1, u2], h1 => exact ⟨_, hu, h1.1, nil_ents h1.2.1, trivial⟩
    | [], h1 => exact h1.elim
    | [_], h1 => exact h1.2.elim
    | _ :: _ :: _ :: _, h1 => exact h1.2.2.elim
  | [], hv => exact hv.elim
  | [_], hv => exact hv.2.elim
  | [_, _], hv => exact hv.2.2.elim
  | _ :: _ :: _ :: _ :: _, hv => exact hv.2.2.2.elim
theorem con30xt {a : List Ent} (hs : ∀ e ∈ a, SmallE e) (hl : a.length < 1000000000000) : Con 30 [.agg [.bool .t, .dat (entsDV a)], .agg [.bool .t, .dat (entsDV a)]] [] (.bool .t) [] := by
  have h := con30 (la := true) (lb := true) (a := a) (b := a) hs hl
  rw [show sameB true true a a = true by simp [sameB]] at h
  exact h.conv (.cons (eqv_node1 _) (.cons (eqv_node1 _) (.refl _))) eqv_t2
theorem con13xt {S : List Ent} (h : Fine S) : Con 13 [.agg [.bool .t, .dat (entsDV S)]] [] (.int .u16 (.s fun _ => checkI true S)) [] := (con13 (leaf := true) h.ok (by have := h.len; have := h.wt; omega)).conv (.cons (eqv_node1 _) (.refl _)) (.refl _)
theorem con32xf {es : List Ent} {e : Ent} (hs : ∀ e ∈ es, SmallE e) (he : SmallE e) (hl : es.length < 100000000000) :
    Con 32 [.agg [.bool .f, .dat (entsDV es)], entSV e] [] (.agg [.bool .f, .own 2000]) [(2000, .arrD 74 4 (fun _ => (putL es e).length) (lrow encE fun _ => putL es e))] := (con32 (leaf := false) hs he hl).conv (.cons (eqv_node2 _) (.refl _)) (.agg (.cons eqv_f2 (.refl _)))
theorem con34xf {es : List Ent} {key : List UInt8} (hs : ∀ e ∈ es, SmallE e) (hl : es.length < 100000000000) (hw : wasB es key = true) :
    Con 34 [.agg [.bool .f, .dat (entsDV es)], .dat (.bytes fun _ => key)] [] (.tup [.agg [.bool .f, .own 2000], .bool .t]) [(2000, .arrD 74 4 (fun _ => (dropL es key).length) (lrow encE fun _ => dropL es key))] := by
  have h := con34 (leaf := false) hs hl (key := key)
  rw [hw] at h
  exact h.conv (.cons (eqv_node2 _) (.refl _)) (.tup (.cons (.agg (.cons eqv_f2 (.refl _))) (.cons eqv_t2 .nil)))
theorem con35xf {es : List Ent} (hs : ∀ e ∈ es, SmallE e) (h2 : es.length < 2) :
    Con 35 [.agg [.bool .f, .dat (entsDV es)]] [] (.tup [.agg [.bool .f, .own 2000], .agg [.bool .f, .nil], .nil]) [(2000, .arrD 74 4 (fun _ => es.length) (lrow encE fun _ => es))] := (con35s (leaf := false) hs h2).conv (.cons (eqv_node2 _) (.refl _)) (.tup (.cons (.agg (.cons eqv_f2 (.refl _))) (.cons (.agg (.cons eqv_f2 (.refl _))) (.refl _))))
theorem con35yf {es : List Ent} (hw : weight es + 20 * es.length < 1000000000000) (hs : ∀ e ∈ es, SmallE e) (h2 : 2 ≤ es.length) :
    Con 35 [.agg [.bool .f, .dat (entsDV es)]] [] (.tup [.agg [.bool .f, .own 2000], .agg [.bool .f, .own 2001], .own 2002])
      [(2000, .arrD 74 4 (fun _ => (es.take (cutK false es)).length) (lrow encE fun _ => es.take (cutK false es))),
       (2001, .arrD 74 4 (fun _ => (halfB false es).length) (lrow encE fun _ => halfB false es)),
       (2002, .barr 5 fun _ => ((es.drop (cutK false es)).getD 0 default).key)] := (con35f hw hs h2).conv (.cons (eqv_node2 _) (.refl _)) (.tup (.cons (.agg (.cons eqv_f2 (.refl _))) (.cons (.agg (.cons eqv_f2 (.refl _))) (.refl _))))
theorem con36yf {a b : List Ent} {key : List UInt8} (ha : ∀ e ∈ a, SmallE e) (hb : ∀ e ∈ b, SmallE e) (hk : key.length < 1000000000000) (hl : a.length + b.length < 100000000000) :
    Con 36 [.agg [.bool .f, .dat (entsDV a)], .agg [.bool .f, .dat (entsDV b)], .dat (.bytes fun _ => key)] [] (.agg [.bool .f, .own 2000]) [(2000, .arrD 74 4 (fun _ => (joinL false a b key).length) (lrow encE fun _ => joinL false a b key))] := (con36 (leaf := false) (lb := false) ha hb hk hl).conv (.cons (eqv_node2 _) (.cons (eqv_node2 _) (.refl _))) (.agg (.cons eqv_f2 (.refl _)))
theorem con36xf {a : List Ent} (ha : ∀ e ∈ a, SmallE e) (hl : a.length < 10000000000) :
    Con 36 [.agg [.bool .f, .dat (entsDV a)], .agg [.bool .f, .nil], .nil] [] (.agg [.bool .f, .own 2000]) [(2000, .arrD 74 4 (fun _ => a.length) (lrow encE fun _ => a))] := by
  have h := con36yf (a := a) (b := []) (key := []) ha (by simp) (by simp) (by simp; omega)
  rw [join_none] at h
  refine h.args fun η G w vs hv => ?_
  match vs, hv with
  | [v1, v2, v3], hv =>
    refine ⟨hv.1, ?_, nil_bytes hv.2.2.1, trivial⟩
    obtain ⟨us, hu, h1⟩ := hv.2.1
    match us, h1 with
    | [u1, u2], h1 => exact ⟨_, hu, h1.1, nil_ents h1.2.1, trivial⟩
    | [], h1 => exact h1.elim
    | [_], h1 => exact h1.2.elim
    | _ :: _ :: _ :: _, h1 => exact h1.2.2.elim
  | [], hv => exact hv.elim
  | [_], hv => exact hv.2.elim
  | [_, _], hv => exact hv.2.2.elim
  | _ :: _ :: _ :: _ :: _, hv => exact hv.2.2.2.elim
theorem con30xf {a : List Ent} (hs : ∀ e ∈ a, SmallE e) (hl : a.length < 1000000000000) : Con 30 [.agg [.bool .f, .dat (entsDV a)], .agg [.bool .f, .dat (entsDV a)]] [] (.bool .t) [] := by
  have h := con30 (la := false) (lb := false) (a := a) (b := a) hs hl
  rw [show sameB false false a a = true by simp [sameB]] at h
  exact h.conv (.cons (eqv_node2 _) (.cons (eqv_node2 _) (.refl _))) eqv_t2
theorem con13xf {S : List Ent} (h : Fine S) : Con 13 [.agg [.bool .f, .dat (entsDV S)]] [] (.int .u16 (.s fun _ => checkI false S)) [] := (con13 (leaf := false) h.ok (by have := h.len; have := h.wt; omega)).conv (.cons (eqv_node2 _) (.refl _)) (.refl _)
theorem con31xt {es : List Ent} {key : List UInt8} (hl : es.length < 1000000000000) (hf : foundB es key = true) :
    Con 31 [.agg [.bool .t, .dat (entsDV es)], .dat (.bytes fun _ => key)] [] (.tup [.int .i64 (.s fun _ => (placeI (geP key) es : Int)), .bool .t]) [] := ((con31t hl (key := key)).yes2 hf).conv (.cons (eqv_node1 _) (.refl _)) (.refl _)
theorem con31xf {es : List Ent} {key : List UInt8} (hl : es.length < 1000000000000) (hf : decide (0 < es.length) = true) :
    Con 31 [.agg [.bool .f, .dat (entsDV es)], .dat (.bytes fun _ => key)] [] (.tup [.int .i64 (.s fun _ => ((placeI (gtP key) es - 1 : Nat) : Int)), .bool .t]) [] := ((con31f hl (key := key)).yes2 hf).conv (.cons (eqv_node2 _) (.refl _)) (.refl _)
theorem con31nt {es : List Ent} {key : List UInt8} (hl : es.length < 1000000000000) (hf : foundB es key = false) :
    Con 31 [.agg [.bool .t, .dat (entsDV es)], .dat (.bytes fun _ => key)] [] (.tup [.int .i64 (.s fun _ => (placeI (geP key) es : Int)), .bool .f]) [] := ((con31t hl (key := key)).no2 hf).conv (.cons (eqv_node1 _) (.refl _)) (.refl _)
theorem con31nf {es : List Ent} {key : List UInt8} (hl : es.length < 1000000000000) :
    Con 31 [.agg [.bool .f, .dat (entsDV es)], .dat (.bytes fun _ => key)] [] (.tup [.int .i64 (.s fun _ => ((placeI (gtP key) es - 1 : Nat) : Int)), .bool (.s fun _ => decide (0 < es.length))]) [] := (con31f hl (key := key)).conv (.cons (eqv_node2 _) (.refl _)) (.refl _)
theorem con20one {e : Ent} (h : e.key.length + e.val.length < 1000000) : Con 20 [.agg [.bool .t, .dat (.sl 4 (fun _ => 1) (litRow 4 (dvsE e)))]] [] (.int .u16 (.s fun _ => checkI true [e])) [] := by
  refine (con20 (leaf := true) (es := [e]) (by simp only [weight, List.length_cons, List.length_nil]; omega)).args fun η G w vs hv => ?_
  match vs, hv with
  | [v], hv =>
    obtain ⟨⟨us, hu, h1⟩, -⟩ := hv
    match us, h1 with
    | [u1, u2], h1 => exact ⟨⟨_, hu, h1.1, rep_one e w G u2 h1.2.1, trivial⟩, trivial⟩
    | [], h1 => exact h1.elim
    | [_], h1 => exact h1.2.elim
    | _ :: _ :: _ :: _, h1 => exact h1.2.2.elim
  | [], hv => exact hv.elim
  | _ :: _ :: _, hv => exact hv.2.elim

end Go.Proofs.Ytmdfjipjkkjpcaa
