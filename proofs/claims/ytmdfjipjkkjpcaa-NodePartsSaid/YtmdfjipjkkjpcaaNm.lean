/- Node laws: what may be a page. -/
import Derived.Test.YtmdfjipjkkjpcaaNx
namespace Go.Proofs.Ytmdfjipjkkjpcaa
open Go.SX

def EntOk (e : Ent) : Prop := (0 ≤ e.page ∧ e.page < 4294967296) ∧ 0 ≤ e.size ∧ e.size < 4294967296

def keyBad (leaf : Bool) (i : Nat) (e : Ent) : Bool :=
  ((decide (i = 0) && !leaf) != decide (e.key.length = 0)) || (decide (160 < e.key.length) || !(if leaf then leafyB e else kidB e))
def seenL (l : List Ent) : List Int := l.foldl (fun ks e => putKey ks e.page) []
def orderBad (leaf : Bool) (es : List Ent) (i : Nat) (e : Ent) : Bool :=
  (decide (0 < i) && decide (0 ≤ Lib.compareBytes (es.getD (i - 1) default).key e.key)) || (!leaf && (seenL (es.take i)).contains e.page)
def okAt (leaf : Bool) (es : List Ent) (i : Nat) : Bool := !keyBad leaf i (es.getD i default) && !orderBad leaf es i (es.getD i default)
def okTo (leaf : Bool) (es : List Ent) : Nat → Bool
  | 0 => true
  | i + 1 => okTo leaf es i && okAt leaf es i
def mayB (leaf : Bool) (es : List Ent) : Bool := okTo leaf es es.length && decide (0 < es.length)

theorem okTo_add {leaf : Bool} {es : List Ent} {i : Nat} (h : okAt leaf es i = false) : ∀ k, okTo leaf es (i + 1 + k) = false
  | 0 => by simp only [Nat.add_zero, okTo, h, Bool.and_false]
  | k + 1 => by
      rw [show i + 1 + (k + 1) = (i + 1 + k) + 1 from rfl]
      simp only [okTo, okTo_add h k, Bool.false_and]

theorem may_bad {leaf : Bool} {es : List Ent} {i : Nat} (hi : i < es.length) (h : okAt leaf es i = false) : false = mayB leaf es := by
  have := okTo_add h (es.length - (i + 1))
  rw [show i + 1 + (es.length - (i + 1)) = es.length by omega] at this
  simp only [mayB, this, Bool.false_and]
theorem may_badK {leaf : Bool} {es : List Ent} {i : Nat} (hi : i < es.length) (h : keyBad leaf i (es.getD i default) = true) : false = mayB leaf es :=
  may_bad hi (by simp only [okAt, h, Bool.not_true, Bool.false_and])
theorem may_badO {leaf : Bool} {es : List Ent} {i : Nat} (hi : i < es.length) (h : orderBad leaf es i (es.getD i default) = true) : false = mayB leaf es :=
  may_bad hi (by simp only [okAt, h, Bool.not_true, Bool.and_false])
theorem okTo_next {leaf : Bool} {es : List Ent} {i : Nat} (h0 : okTo leaf es i = true) (h1 : keyBad leaf i (es.getD i default) = false) (h2 : orderBad leaf es i (es.getD i default) = false) : okTo leaf es (i + 1) = true := by
  simp only [okTo, okAt, h0, h1, h2, Bool.not_false, Bool.and_true]
theorem seen_next {es : List Ent} {i : Nat} (hi : i < es.length) : putKey (seenL (es.take i)) (es.getD i default).page = seenL (es.take (i + 1)) := by
  rw [getD_take es hi]
  simp only [seenL, List.foldl_append, List.foldl_cons, List.foldl_nil]
theorem keyBad1 {leaf c : Bool} {i : Nat} {e : Ent} (hc : (decide (i = 0) && !leaf) = c) (h : (c != decide ((e.key.length : Int) = 0)) = true) : keyBad leaf i e = true := by
  have : decide ((e.key.length : Int) = 0) = decide (e.key.length = 0) := decide_eq_decide.2 (by omega)
  simp only [keyBad, hc, ← this, h, Bool.true_or]
theorem keyBad2 {leaf : Bool} {i : Nat} {e : Ent} (h : (160 : Int) < (e.key.length : Int)) : keyBad leaf i e = true := by
  have : decide (160 < e.key.length) = true := decide_eq_true (by omega)
  simp only [keyBad, this, Bool.true_or, Bool.or_true]
theorem keyBad3 {leaf : Bool} {i : Nat} {e : Ent} (h : (if leaf then leafyB e else kidB e) = false) : keyBad leaf i e = true := by
  simp only [keyBad, h, Bool.not_false, Bool.or_true]
theorem keyBad4 {leaf c : Bool} {i : Nat} {e : Ent} (hc : (decide (i = 0) && !leaf) = c) (h : (c != decide ((e.key.length : Int) = 0)) = false)
    (h2 : ¬ (160 : Int) < (e.key.length : Int)) (h3 : (if leaf then leafyB e else kidB e) = true) : keyBad leaf i e = false := by
  have e1 : decide ((e.key.length : Int) = 0) = decide (e.key.length = 0) := decide_eq_decide.2 (by omega)
  have e2 : decide (160 < e.key.length) = false := decide_eq_false (by omega)
  simp only [keyBad, hc, ← e1, h, e2, h3, Bool.not_true, Bool.or_false]
theorem entOk_at {es : List Ent} (hp : ∀ e ∈ es, EntOk e) {i : Nat} (hi : i < es.length) : EntOk (es.getD i default) := by
  rw [List.getD_eq_getElem?_getD, List.getElem?_eq_getElem hi]
  exact hp _ (List.getElem_mem hi)
theorem order1 {leaf : Bool} {es : List Ent} {i : Nat} {e : Ent} (hi : 0 < i) (h : (0 : Int) ≤ Lib.compareBytes (es.getD (i - 1) default).key e.key) : orderBad leaf es i e = true := by
  simp only [orderBad, decide_eq_true hi, decide_eq_true h, Bool.and_true, Bool.true_or]
theorem order2 {es : List Ent} {i : Nat} {e : Ent} (h : (seenL (es.take i)).contains e.page = true) : orderBad false es i e = true := by
  simp only [orderBad, h, Bool.not_false, Bool.and_true, Bool.or_true]
theorem order3 {leaf : Bool} {es : List Ent} {i : Nat} {e : Ent} (hi : 0 < i → ¬ (0 : Int) ≤ Lib.compareBytes (es.getD (i - 1) default).key e.key) (h : leaf = false → (seenL (es.take i)).contains e.page = false) : orderBad leaf es i e = false := by
  have h1 : (decide (0 < i) && decide (0 ≤ Lib.compareBytes (es.getD (i - 1) default).key e.key)) = false := by
    by_cases h0 : 0 < i
    · simp only [decide_eq_false (hi h0), Bool.and_false]
    · simp only [decide_eq_false h0, Bool.false_and]
  have h2 : (!leaf && (seenL (es.take i)).contains e.page) = false := by
    cases leaf
    · simp only [h rfl, Bool.and_false]
    · simp only [Bool.not_true, Bool.false_and]
  simp only [orderBad, h1, h2, Bool.or_false]
theorem bnot_t {b : Bool} (h : (!b) = true) : b = false := by cases b <;> simp_all
theorem bnot_f {b : Bool} (h : (!b) = false) : b = true := by cases b <;> simp_all
theorem keyObl_u32 {x : Int} (h : 0 ≤ x ∧ x < 4294967296) : keyObl .u32 x := by
  unfold keyObl; rw [IntKind.wrap_u32]; omega
set_option maxRecDepth 20000 in
set_option maxHeartbeats 4000000 in
theorem con43t {es : List Ent} (hp : ∀ e ∈ es, EntOk e) (hw : weight es + 20 * es.length < 1000000000000) : Con 43 [nodeSV true es] [] (.bool (.s fun _ => mayB true es)) [] := by
  refine con_of Try.func43 rfl rfl 78 _ rfl rfl rfl rfl ?_
  cbv
  refine ⟨fun _ => ?_, fun h => by cases h⟩
  cbv
  refine ⟨Nat, [], fun i => [(14, .int .i64 (.s fun _ => (i : Int)))], fun i => [(1, .cells 24 [.bool .t, .dat (entsDV es)]), (10, .setI .u32 fun _ => seenL (es.take i))],
    fun i => i ≤ es.length ∧ okTo true es i = true, fun i => es.length - i, 0, [], ⟨Nat.zero_le _, rfl⟩, ⟨?_⟩, fun i hi => ?_⟩
  · cbv
    exact ⟨⟨⟨rfl⟩, trivial⟩, ⟨⟨⟨rfl⟩, ⟨rfl, fun _ _ _ _ => rfl⟩, trivial⟩, ⟨rfl⟩, trivial⟩, ⟨by kernel_rfl⟩⟩
  · obtain ⟨hi, hok⟩ : i ≤ es.length ∧ okTo true es i = true := hi
    cbv
    refine ⟨fun h1 => ?_, fun h1 => ?_⟩
    · have h1 : (i : Int) < (es.length : Int) := of_decide_eq_true h1
      have hlt : i < es.length := by omega
      have o1 : indexObl (i : Int) es.length := ⟨by omega, h1⟩
      have hpg : keyObl .u32 (es.getD i default).page := keyObl_u32 (entOk_at hp hlt).1
      have bi : bound64 ((i : Int) + 1) := by unfold bound64; omega
      have ei : (i : Int) + 1 = ((i + 1 : Nat) : Int) := by omega
      have hsn := seen_next hlt
      clear h1
      cbv
      refine ⟨⟨o1⟩, ?_⟩
      refine ⟨fun h2 => ?_, fun h2 => ?_⟩
      · have h2 : (i : Int) = 0 := of_decide_eq_true h2
        have hz : i = 0 := by omega
        have hnp : ¬ (0 : Int) < (i : Int) := by omega
        have hnn : ¬ 0 < i := by omega
        have hc : (decide (i = 0) && !true) = false := by rw [hz]; rfl
        cbv
        refine ⟨fun h3 => ?_, fun h3 => ?_⟩
        · have h3 : (false != decide (((es.getD i default).key.length : Int) = 0)) = true := h3
          have e1 := may_badK hlt (keyBad1 hc h3)
          cbv
          refine ⟨[], [], ?_⟩
          cbv
          exact ⟨⟨e1⟩, ⟨by kernel_rfl⟩⟩
        · have h3 : (false != decide (((es.getD i default).key.length : Int) = 0)) = false := h3
          cbv
          refine ⟨fun h4 => ?_, fun h4 => ?_⟩
          · have h4 : (160 : Int) < ((es.getD i default).key.length : Int) := of_decide_eq_true h4
            have e1 := may_badK hlt (keyBad2 (leaf := true) (i := i) h4)
            cbv
            refine ⟨[], [], ?_⟩
            cbv
            exact ⟨⟨e1⟩, ⟨by kernel_rfl⟩⟩
          · have h4 : ¬ (160 : Int) < ((es.getD i default).key.length : Int) := of_decide_eq_false h4
            cbv
            refine ⟨_, _, con87 (e := es.getD i default), ⟨rfl⟩, ?_⟩
            cbv
            refine ⟨fun h5 => ?_, fun h5 => ?_⟩
            · have h5 : (if true then leafyB (es.getD i default) else kidB (es.getD i default)) = false := bnot_t h5
              have e1 := may_badK hlt (keyBad3 h5)
              cbv
              refine ⟨[], [], ?_⟩
              cbv
              exact ⟨⟨e1⟩, ⟨by kernel_rfl⟩⟩
            · have h5 : (if true then leafyB (es.getD i default) else kidB (es.getD i default)) = true := bnot_f h5
              have hk := keyBad4 hc h3 h4 h5
              cbv
              refine ⟨fun h6 => ?_, fun h6 => ?_⟩
              · have h6 : (0 : Int) < (i : Int) := of_decide_eq_true h6
                exfalso
                exact hnp h6
              · clear h6
                cbv
                refine ⟨⟨by kernel_rfl⟩, ?_⟩
                have hn : okTo true es (i + 1) = true := okTo_next hok hk (order3 (fun h => absurd h hnn) (fun h => by cases h))
                cbv
                refine ⟨⟨hpg⟩, ⟨bi⟩, i + 1, [], ⟨hlt, hn⟩, ?_, ⟨?_⟩, ⟨?_⟩⟩
                · show es.length - (i + 1) < es.length - i
                  omega
                · kernel_rfl
                · cbv
                  exact ⟨⟨⟨ei⟩, trivial⟩, ⟨⟨⟨rfl⟩, ⟨rfl, fun _ _ _ _ => rfl⟩, trivial⟩, ⟨hsn⟩, trivial⟩, ⟨by kernel_rfl⟩⟩
      · have h2 : ¬ (i : Int) = 0 := of_decide_eq_false h2
        have hpos : 0 < i := by omega
        have hpp : (0 : Int) < (i : Int) := by omega
        have hc : (decide (i = 0) && !true) = false := by rw [decide_eq_false (by omega)]; rfl
        have bm : bound64 ((i : Int) - 1) := by unfold bound64; omega
        have om : indexObl ((i : Int) - 1) es.length := ⟨by omega, by omega⟩
        have et : ((i : Int) - 1).toNat = i - 1 := by omega
        cbv
        refine ⟨fun h3 => ?_, fun h3 => ?_⟩
        · have h3 : (false != decide (((es.getD i default).key.length : Int) = 0)) = true := h3
          have e1 := may_badK hlt (keyBad1 hc h3)
          cbv
          refine ⟨[], [], ?_⟩
          cbv
          exact ⟨⟨e1⟩, ⟨by kernel_rfl⟩⟩
        · have h3 : (false != decide (((es.getD i default).key.length : Int) = 0)) = false := h3
          cbv
          refine ⟨fun h4 => ?_, fun h4 => ?_⟩
          · have h4 : (160 : Int) < ((es.getD i default).key.length : Int) := of_decide_eq_true h4
            have e1 := may_badK hlt (keyBad2 (leaf := true) (i := i) h4)
            cbv
            refine ⟨[], [], ?_⟩
            cbv
            exact ⟨⟨e1⟩, ⟨by kernel_rfl⟩⟩
          · have h4 : ¬ (160 : Int) < ((es.getD i default).key.length : Int) := of_decide_eq_false h4
            cbv
            refine ⟨_, _, con87 (e := es.getD i default), ⟨rfl⟩, ?_⟩
            cbv
            refine ⟨fun h5 => ?_, fun h5 => ?_⟩
            · have h5 : (if true then leafyB (es.getD i default) else kidB (es.getD i default)) = false := bnot_t h5
              have e1 := may_badK hlt (keyBad3 h5)
              cbv
              refine ⟨[], [], ?_⟩
              cbv
              exact ⟨⟨e1⟩, ⟨by kernel_rfl⟩⟩
            · have h5 : (if true then leafyB (es.getD i default) else kidB (es.getD i default)) = true := bnot_f h5
              have hk := keyBad4 hc h3 h4 h5
              cbv
              refine ⟨fun h6 => ?_, fun h6 => ?_⟩
              · clear h6
                cbv
                refine ⟨⟨?_⟩, ⟨?_⟩, _, _, con79, ⟨?_⟩, ?_⟩
                · exact bm
                · exact om
                · rfl
                cbv
                refine ⟨fun h7 => ?_, fun h7 => ?_⟩
                · have h7 : (0 : Int) ≤ Lib.compareBytes (es.getD (i - 1) default).key (es.getD i default).key := by
                    have h7 := of_decide_eq_true h7
                    rw [← et]
                    exact h7
                  have e1 := may_badO hlt (order1 (leaf := true) hpos h7)
                  cbv
                  refine ⟨⟨by kernel_rfl⟩, ?_⟩
                  cbv
                  refine ⟨[], [], ?_⟩
                  cbv
                  exact ⟨⟨e1⟩, ⟨by kernel_rfl⟩⟩
                · have h7 : ¬ (0 : Int) ≤ Lib.compareBytes (es.getD (i - 1) default).key (es.getD i default).key := by
                    have h7 := of_decide_eq_false h7
                    rw [← et]
                    exact h7
                  cbv
                  refine ⟨⟨by kernel_rfl⟩, ?_⟩
                  have hn : okTo true es (i + 1) = true := okTo_next hok hk (order3 (fun _ => h7) (fun h => by cases h))
                  cbv
                  refine ⟨⟨hpg⟩, ⟨bi⟩, i + 1, [], ⟨hlt, hn⟩, ?_, ⟨?_⟩, ⟨?_⟩⟩
                  · show es.length - (i + 1) < es.length - i
                    omega
                  · kernel_rfl
                  · cbv
                    exact ⟨⟨⟨ei⟩, trivial⟩, ⟨⟨⟨rfl⟩, ⟨rfl, fun _ _ _ _ => rfl⟩, trivial⟩, ⟨hsn⟩, trivial⟩, ⟨by kernel_rfl⟩⟩
              · have h6 : ¬ (0 : Int) < (i : Int) := of_decide_eq_false h6
                exfalso
                exact h6 hpp
    · have h1 : ¬ ((i : Int) < (es.length : Int)) := of_decide_eq_false h1
      have hle : i = es.length := by omega
      subst hle
      have e1 : decide ((0 : Int) < (es.length : Int)) = mayB true es := by
        unfold mayB; rw [hok, Bool.true_and]; exact decide_eq_decide.2 (by omega)
      clear h1
      cbv
      refine ⟨[], [], ?_⟩
      cbv
      exact ⟨⟨e1⟩, ⟨by kernel_rfl⟩⟩
set_option maxRecDepth 20000 in
set_option maxHeartbeats 4000000 in
theorem con43f {es : List Ent} (hp : ∀ e ∈ es, EntOk e) (hw : weight es + 20 * es.length < 1000000000000) : Con 43 [nodeSV false es] [] (.bool (.s fun _ => mayB false es)) [] := by
  refine con_of Try.func43 rfl rfl 78 _ rfl rfl rfl rfl ?_
  cbv
  refine ⟨fun h => (by cases h), fun _ => ?_⟩
  cbv
  refine ⟨Nat, [], fun i => [(14, .int .i64 (.s fun _ => (i : Int)))], fun i => [(1, .cells 24 [.bool .f, .dat (entsDV es)]), (10, .setI .u32 fun _ => seenL (es.take i))],
    fun i => i ≤ es.length ∧ okTo false es i = true, fun i => es.length - i, 0, [], ⟨Nat.zero_le _, rfl⟩, ⟨?_⟩, fun i hi => ?_⟩
  · cbv
    exact ⟨⟨⟨rfl⟩, trivial⟩, ⟨⟨⟨rfl⟩, ⟨rfl, fun _ _ _ _ => rfl⟩, trivial⟩, ⟨rfl⟩, trivial⟩, ⟨by kernel_rfl⟩⟩
  · obtain ⟨hi, hok⟩ : i ≤ es.length ∧ okTo false es i = true := hi
    cbv
    refine ⟨fun h1 => ?_, fun h1 => ?_⟩
    · have h1 : (i : Int) < (es.length : Int) := of_decide_eq_true h1
      have hlt : i < es.length := by omega
      have o1 : indexObl (i : Int) es.length := ⟨by omega, h1⟩
      have hpg : keyObl .u32 (es.getD i default).page := keyObl_u32 (entOk_at hp hlt).1
      have bi : bound64 ((i : Int) + 1) := by unfold bound64; omega
      have ei : (i : Int) + 1 = ((i + 1 : Nat) : Int) := by omega
      have hsn := seen_next hlt
      clear h1
      cbv
      refine ⟨⟨o1⟩, ?_⟩
      refine ⟨fun h2 => ?_, fun h2 => ?_⟩
      · have h2 : (i : Int) = 0 := of_decide_eq_true h2
        have hz : i = 0 := by omega
        have hnp : ¬ (0 : Int) < (i : Int) := by omega
        have hnn : ¬ 0 < i := by omega
        have hc : (decide (i = 0) && !false) = true := by rw [hz]; rfl
        cbv
        refine ⟨fun h3 => ?_, fun h3 => ?_⟩
        · have h3 : (true != decide (((es.getD i default).key.length : Int) = 0)) = true := h3
          have e1 := may_badK hlt (keyBad1 hc h3)
          cbv
          refine ⟨[], [], ?_⟩
          cbv
          exact ⟨⟨e1⟩, ⟨by kernel_rfl⟩⟩
        · have h3 : (true != decide (((es.getD i default).key.length : Int) = 0)) = false := h3
          cbv
          refine ⟨fun h4 => ?_, fun h4 => ?_⟩
          · have h4 : (160 : Int) < ((es.getD i default).key.length : Int) := of_decide_eq_true h4
            have e1 := may_badK hlt (keyBad2 (leaf := false) (i := i) h4)
            cbv
            refine ⟨[], [], ?_⟩
            cbv
            exact ⟨⟨e1⟩, ⟨by kernel_rfl⟩⟩
          · have h4 : ¬ (160 : Int) < ((es.getD i default).key.length : Int) := of_decide_eq_false h4
            cbv
            refine ⟨_, _, con86 (e := es.getD i default), ⟨rfl⟩, ?_⟩
            cbv
            refine ⟨fun h5 => ?_, fun h5 => ?_⟩
            · have h5 : (if false then leafyB (es.getD i default) else kidB (es.getD i default)) = false := bnot_t h5
              have e1 := may_badK hlt (keyBad3 h5)
              cbv
              refine ⟨[], [], ?_⟩
              cbv
              exact ⟨⟨e1⟩, ⟨by kernel_rfl⟩⟩
            · have h5 : (if false then leafyB (es.getD i default) else kidB (es.getD i default)) = true := bnot_f h5
              have hk := keyBad4 hc h3 h4 h5
              cbv
              refine ⟨fun h6 => ?_, fun h6 => ?_⟩
              · have h6 : (0 : Int) < (i : Int) := of_decide_eq_true h6
                exfalso
                exact hnp h6
              · clear h6
                cbv
                refine ⟨⟨hpg⟩, ?_⟩
                cbv
                refine ⟨⟨by kernel_rfl⟩, ?_⟩
                cbv
                refine ⟨fun h8 => ?_, fun h8 => ?_⟩
                · have h8 : (seenL (es.take i)).contains (es.getD i default).page = true := h8
                  have e1 := may_badO hlt (order2 h8)
                  cbv
                  refine ⟨[], [], ?_⟩
                  cbv
                  exact ⟨⟨e1⟩, ⟨by kernel_rfl⟩⟩
                · have h8 : (seenL (es.take i)).contains (es.getD i default).page = false := h8
                  have hn : okTo false es (i + 1) = true := okTo_next hok hk (order3 (fun h => absurd h hnn) (fun _ => h8))
                  cbv
                  refine ⟨⟨hpg⟩, ⟨bi⟩, i + 1, [], ⟨hlt, hn⟩, ?_, ⟨?_⟩, ⟨?_⟩⟩
                  · show es.length - (i + 1) < es.length - i
                    omega
                  · kernel_rfl
                  · cbv
                    exact ⟨⟨⟨ei⟩, trivial⟩, ⟨⟨⟨rfl⟩, ⟨rfl, fun _ _ _ _ => rfl⟩, trivial⟩, ⟨hsn⟩, trivial⟩, ⟨by kernel_rfl⟩⟩
      · have h2 : ¬ (i : Int) = 0 := of_decide_eq_false h2
        have hpos : 0 < i := by omega
        have hpp : (0 : Int) < (i : Int) := by omega
        have hc : (decide (i = 0) && !false) = false := by rw [decide_eq_false (by omega)]; rfl
        have bm : bound64 ((i : Int) - 1) := by unfold bound64; omega
        have om : indexObl ((i : Int) - 1) es.length := ⟨by omega, by omega⟩
        have et : ((i : Int) - 1).toNat = i - 1 := by omega
        cbv
        refine ⟨fun h3 => ?_, fun h3 => ?_⟩
        · have h3 : (false != decide (((es.getD i default).key.length : Int) = 0)) = true := h3
          have e1 := may_badK hlt (keyBad1 hc h3)
          cbv
          refine ⟨[], [], ?_⟩
          cbv
          exact ⟨⟨e1⟩, ⟨by kernel_rfl⟩⟩
        · have h3 : (false != decide (((es.getD i default).key.length : Int) = 0)) = false := h3
          cbv
          refine ⟨fun h4 => ?_, fun h4 => ?_⟩
          · have h4 : (160 : Int) < ((es.getD i default).key.length : Int) := of_decide_eq_true h4
            have e1 := may_badK hlt (keyBad2 (leaf := false) (i := i) h4)
            cbv
            refine ⟨[], [], ?_⟩
            cbv
            exact ⟨⟨e1⟩, ⟨by kernel_rfl⟩⟩
          · have h4 : ¬ (160 : Int) < ((es.getD i default).key.length : Int) := of_decide_eq_false h4
            cbv
            refine ⟨_, _, con86 (e := es.getD i default), ⟨rfl⟩, ?_⟩
            cbv
            refine ⟨fun h5 => ?_, fun h5 => ?_⟩
            · have h5 : (if false then leafyB (es.getD i default) else kidB (es.getD i default)) = false := bnot_t h5
              have e1 := may_badK hlt (keyBad3 h5)
              cbv
              refine ⟨[], [], ?_⟩
              cbv
              exact ⟨⟨e1⟩, ⟨by kernel_rfl⟩⟩
            · have h5 : (if false then leafyB (es.getD i default) else kidB (es.getD i default)) = true := bnot_f h5
              have hk := keyBad4 hc h3 h4 h5
              cbv
              refine ⟨fun h6 => ?_, fun h6 => ?_⟩
              · clear h6
                cbv
                refine ⟨⟨?_⟩, ⟨?_⟩, _, _, con79, ⟨?_⟩, ?_⟩
                · exact bm
                · exact om
                · rfl
                cbv
                refine ⟨fun h7 => ?_, fun h7 => ?_⟩
                · have h7 : (0 : Int) ≤ Lib.compareBytes (es.getD (i - 1) default).key (es.getD i default).key := by
                    have h7 := of_decide_eq_true h7
                    rw [← et]
                    exact h7
                  have e1 := may_badO hlt (order1 (leaf := false) hpos h7)
                  cbv
                  refine ⟨⟨by kernel_rfl⟩, ?_⟩
                  cbv
                  refine ⟨[], [], ?_⟩
                  cbv
                  exact ⟨⟨e1⟩, ⟨by kernel_rfl⟩⟩
                · have h7 : ¬ (0 : Int) ≤ Lib.compareBytes (es.getD (i - 1) default).key (es.getD i default).key := by
                    have h7 := of_decide_eq_false h7
                    rw [← et]
                    exact h7
                  cbv
                  refine ⟨⟨hpg⟩, ?_⟩
                  cbv
                  refine ⟨⟨by kernel_rfl⟩, ?_⟩
                  cbv
                  refine ⟨fun h8 => ?_, fun h8 => ?_⟩
                  · have h8 : (seenL (es.take i)).contains (es.getD i default).page = true := h8
                    have e1 := may_badO hlt (order2 h8)
                    cbv
                    refine ⟨[], [], ?_⟩
                    cbv
                    exact ⟨⟨e1⟩, ⟨by kernel_rfl⟩⟩
                  · have h8 : (seenL (es.take i)).contains (es.getD i default).page = false := h8
                    have hn : okTo false es (i + 1) = true := okTo_next hok hk (order3 (fun _ => h7) (fun _ => h8))
                    cbv
                    refine ⟨⟨hpg⟩, ⟨bi⟩, i + 1, [], ⟨hlt, hn⟩, ?_, ⟨?_⟩, ⟨?_⟩⟩
                    · show es.length - (i + 1) < es.length - i
                      omega
                    · kernel_rfl
                    · cbv
                      exact ⟨⟨⟨ei⟩, trivial⟩, ⟨⟨⟨rfl⟩, ⟨rfl, fun _ _ _ _ => rfl⟩, trivial⟩, ⟨hsn⟩, trivial⟩, ⟨by kernel_rfl⟩⟩
              · have h6 : ¬ (0 : Int) < (i : Int) := of_decide_eq_false h6
                exfalso
                exact h6 hpp
    · have h1 : ¬ ((i : Int) < (es.length : Int)) := of_decide_eq_false h1
      have hle : i = es.length := by omega
      subst hle
      have e1 : decide ((0 : Int) < (es.length : Int)) = mayB false es := by
        unfold mayB; rw [hok, Bool.true_and]; exact decide_eq_decide.2 (by omega)
      clear h1
      cbv
      refine ⟨[], [], ?_⟩
      cbv
      exact ⟨⟨e1⟩, ⟨by kernel_rfl⟩⟩
theorem con43 {leaf : Bool} {es : List Ent} (hp : ∀ e ∈ es, EntOk e) (hw : weight es + 20 * es.length < 1000000000000) : Con 43 [nodeSV leaf es] [] (.bool (.s fun _ => mayB leaf es)) [] := by
  cases leaf
  · exact con43f hp hw
  · exact con43t hp hw
end Go.Proofs.Ytmdfjipjkkjpcaa
