/- Texts put together: Pr, Wl, Wm, Wg, Wh. -/
import Derived.Test.YtmdfjipjkkjpcaaQj
import Derived.Test.YtmdfjipjkkjpcaaQi
/- Node laws: the reference's Check. -/
namespace Go.Proofs.Ytmdfjipjkkjpcaa
open Go.SX

set_option maxRecDepth 20000 in
set_option maxHeartbeats 4000000 in
theorem con85 {a b : List UInt8} : Con 85 [.dat (.bytes fun _ => a), .dat (.bytes fun _ => b)] [] (.bool (.s fun _ => Op.bytesLess a b)) [] := by
  refine con_of Try.func85 rfl rfl 10 _ rfl rfl rfl rfl ?_
  cbv
  refine ⟨[], [], ?_⟩
  cbv
  and_intros
  all_goals first | exact trivial | exact ⟨rfl⟩ | exact ⟨rfl, fun _ _ _ _ => rfl⟩ | exact ⟨by kernel_rfl⟩

set_option maxRecDepth 20000 in
set_option maxHeartbeats 4000000 in
theorem con89 {e : Ent} : Con 89 [entSV e] [] (.bool (.s fun _ => kidB e)) [] := by
  refine con_of Try.func89 rfl rfl 22 _ rfl rfl rfl rfl ?_
  cbv
  refine ⟨fun h1 => ?_, fun h1 => ?_⟩
  · have h1 : (e.val.length : Int) = 0 := of_decide_eq_true h1
    have h1 : e.val.length = 0 := by omega
    cbv
    refine ⟨fun h2 => ?_, fun h2 => ?_⟩
    · have h2 : e.size = 0 := of_decide_eq_true h2
      cbv
      refine ⟨fun h3 => ?_, fun h3 => ?_⟩
      · have h3 : 2 ≤ e.page := of_decide_eq_true h3
        have e1 : decide (e.page < 16384) = kidB e := by simp [kidB, isPageB, h1, h2, h3]
        cbv
        refine ⟨[], [], ?_⟩
        cbv
        and_intros
        all_goals first | exact trivial | exact ⟨e1⟩ | exact ⟨rfl⟩ | exact ⟨rfl, fun _ _ _ _ => rfl⟩ | exact ⟨by kernel_rfl⟩
      · have h3 : ¬ 2 ≤ e.page := of_decide_eq_false h3
        have e1 : false = kidB e := by simp [kidB, isPageB, h1, h2, h3]
        cbv
        refine ⟨[], [], ?_⟩
        cbv
        and_intros
        all_goals first | exact trivial | exact ⟨e1⟩ | exact ⟨rfl⟩ | exact ⟨rfl, fun _ _ _ _ => rfl⟩ | exact ⟨by kernel_rfl⟩
    · have h2 : ¬ e.size = 0 := of_decide_eq_false h2
      have e1 : false = kidB e := by simp [kidB, h2]
      cbv
      refine ⟨[], [], ?_⟩
      cbv
      and_intros
      all_goals first | exact trivial | exact ⟨e1⟩ | exact ⟨rfl⟩ | exact ⟨rfl, fun _ _ _ _ => rfl⟩ | exact ⟨by kernel_rfl⟩
  · have h1 : ¬ (e.val.length : Int) = 0 := of_decide_eq_false h1
    have h1 : ¬ e.val.length = 0 := by omega
    have e1 : false = kidB e := by simp only [kidB, h1, decide_false, Bool.false_and]
    cbv
    refine ⟨[], [], ?_⟩
    cbv
    and_intros
    all_goals first | exact trivial | exact ⟨e1⟩ | exact ⟨rfl⟩ | exact ⟨rfl, fun _ _ _ _ => rfl⟩ | exact ⟨by kernel_rfl⟩

set_option maxRecDepth 20000 in
set_option maxHeartbeats 4000000 in
theorem con88 {e : Ent} : Con 88 [entSV e] [] (.bool (.s fun _ => leafyB e)) [] := by
  refine con_of Try.func88 rfl rfl 39 _ rfl rfl rfl rfl ?_
  cbv
  refine ⟨fun h1 => ?_, fun h1 => ?_⟩
  · have h1 : e.page = 0 := of_decide_eq_true h1
    have e0 : leafyB e = (decide (e.size = 0) && decide (e.val.length ≤ 64)) := if_pos h1
    cbv
    refine ⟨fun h2 => ?_, fun h2 => ?_⟩
    · have h2 : e.size = 0 := of_decide_eq_true h2
      have e2 : decide ((e.val.length : Int) ≤ 64) = decide (e.val.length ≤ 64) := decide_eq_decide.2 (by omega)
      have e1 : decide ((e.val.length : Int) ≤ 64) = leafyB e := by rw [e0, h2, e2]; rfl
      clear e0
      cbv
      refine ⟨[], [], ?_⟩
      cbv
      and_intros
      all_goals first | exact trivial | exact ⟨e1⟩ | exact ⟨rfl⟩ | exact ⟨rfl, fun _ _ _ _ => rfl⟩ | exact ⟨by kernel_rfl⟩
    · have h2 : ¬ e.size = 0 := of_decide_eq_false h2
      have e1 : false = leafyB e := by rw [e0]; simp only [h2, decide_false, Bool.false_and]
      clear e0
      cbv
      refine ⟨[], [], ?_⟩
      cbv
      and_intros
      all_goals first | exact trivial | exact ⟨e1⟩ | exact ⟨rfl⟩ | exact ⟨rfl, fun _ _ _ _ => rfl⟩ | exact ⟨by kernel_rfl⟩
  · have h1 : ¬ e.page = 0 := of_decide_eq_false h1
    have e0 : leafyB e = (decide (e.val.length = 0) && (isPageB e.page && (decide (64 < e.size) && decide (e.size ≤ 8192)))) := if_neg h1
    cbv
    refine ⟨fun h2 => ?_, fun h2 => ?_⟩
    · have h2 : (e.val.length : Int) = 0 := of_decide_eq_true h2
      have h2 : e.val.length = 0 := by omega
      cbv
      refine ⟨fun h3 => ?_, fun h3 => ?_⟩
      · have h3 : 2 ≤ e.page := of_decide_eq_true h3
        cbv
        refine ⟨fun h4 => ?_, fun h4 => ?_⟩
        · have h4 : e.page < 16384 := of_decide_eq_true h4
          have hpg : isPageB e.page = true := by simp [isPageB, h3, h4]
          have e0 : leafyB e = (decide (64 < e.size) && decide (e.size ≤ 8192)) := by rw [e0, h2, hpg]; rfl
          cbv
          refine ⟨fun h5 => ?_, fun h5 => ?_⟩
          · have h5 : 65 ≤ e.size := of_decide_eq_true h5
            have e1 : decide (e.size ≤ 8192) = leafyB e := by rw [e0, decide_eq_true (show 64 < e.size by omega)]; rfl
            cbv
            refine ⟨[], [], ?_⟩
            cbv
            and_intros
            all_goals first | exact trivial | exact ⟨e1⟩ | exact ⟨rfl⟩ | exact ⟨rfl, fun _ _ _ _ => rfl⟩ | exact ⟨by kernel_rfl⟩
          · have h5 : ¬ 65 ≤ e.size := of_decide_eq_false h5
            have e1 : false = leafyB e := by rw [e0, decide_eq_false (show ¬ 64 < e.size by omega)]; rfl
            cbv
            refine ⟨[], [], ?_⟩
            cbv
            and_intros
            all_goals first | exact trivial | exact ⟨e1⟩ | exact ⟨rfl⟩ | exact ⟨rfl, fun _ _ _ _ => rfl⟩ | exact ⟨by kernel_rfl⟩
        · have h4 : ¬ e.page < 16384 := of_decide_eq_false h4
          have hpg : isPageB e.page = false := by simp [isPageB, h4]
          have e1 : false = leafyB e := by rw [e0, h2, hpg]; rfl
          cbv
          refine ⟨[], [], ?_⟩
          cbv
          and_intros
          all_goals first | exact trivial | exact ⟨e1⟩ | exact ⟨rfl⟩ | exact ⟨rfl, fun _ _ _ _ => rfl⟩ | exact ⟨by kernel_rfl⟩
      · have h3 : ¬ 2 ≤ e.page := of_decide_eq_false h3
        have hpg : isPageB e.page = false := by simp [isPageB, h3]
        have e1 : false = leafyB e := by rw [e0, h2, hpg]; rfl
        cbv
        refine ⟨[], [], ?_⟩
        cbv
        and_intros
        all_goals first | exact trivial | exact ⟨e1⟩ | exact ⟨rfl⟩ | exact ⟨rfl, fun _ _ _ _ => rfl⟩ | exact ⟨by kernel_rfl⟩
    · have h2 : ¬ (e.val.length : Int) = 0 := of_decide_eq_false h2
      have h2 : ¬ e.val.length = 0 := by omega
      have e1 : false = leafyB e := by rw [e0]; simp only [h2, decide_false, Bool.false_and]
      clear e0 h2
      cbv
      refine ⟨[], [], ?_⟩
      cbv
      and_intros
      all_goals first | exact trivial | exact ⟨e1⟩ | exact ⟨rfl⟩ | exact ⟨rfl, fun _ _ _ _ => rfl⟩ | exact ⟨by kernel_rfl⟩

theorem con48 {leaf : Bool} {k v : List UInt8} {p s : Int} (h : k.length + v.length < 1000000000000) :
    Con 48 [.bool (.s fun _ => leaf), .agg [.dat (.bytes fun _ => k), .dat (.bytes fun _ => v), .int .u32 (.s fun _ => p), .int .u32 (.s fun _ => s)]] [] (.int .i64 (.s fun _ => bytesOfI leaf k v p)) [] := by
  refine con_of Try.func48 rfl rfl 26 _ rfl rfl rfl rfl ?_
  cbv
  refine ⟨fun h1 => ?_, fun h1 => ?_⟩
  · cbv
    refine ⟨⟨?_⟩, [], [], ?_⟩
    · simp only [bound64, IE.den, ncast]; omega
    · cbv
      refine ⟨⟨?_⟩, ⟨rfl⟩⟩
      simp only [IE.den, bytesOfI, ncast]
      rw [if_pos h1]
  · cbv
    refine ⟨fun h2 => ?_, fun h2 => ?_⟩
    · cbv
      refine ⟨⟨?_⟩, [], [], ?_⟩
      · simp only [bound64, IE.den, ncast]; omega
      · cbv
        refine ⟨⟨?_⟩, ⟨rfl⟩⟩
        simp only [Bool.not_eq_true', Bool.not_eq_false', decide_eq_true_eq, decide_eq_false_iff_not] at h1 h2
        simp only [IE.den] at h1 h2
        simp [IE.den, bytesOfI, ncast, h1, h2]
    · cbv
      refine ⟨⟨?_⟩, ⟨?_⟩, [], [], ?_⟩
      · simp only [bound64, IE.den, ncast]; omega
      · simp only [bound64, IE.den, ncast]; omega
      · cbv
        refine ⟨⟨?_⟩, ⟨rfl⟩⟩
        simp only [Bool.not_eq_true', Bool.not_eq_false', decide_eq_true_eq, decide_eq_false_iff_not] at h1 h2
        simp only [IE.den] at h1 h2
        simp [IE.den, bytesOfI, ncast, h1, h2]

set_option maxRecDepth 20000 in
set_option maxHeartbeats 4000000 in
theorem con21 {leaf : Bool} {es : List Ent} (h : weight es + 20 * es.length < 1000000000000) : Con 21 [nodeSV leaf es] [] (.int .i64 (.s fun _ => 2 + sizeL leaf es)) [] := by
  refine con_of Try.func21 rfl rfl 23 _ rfl rfl rfl rfl ?_
  cbv
  refine ⟨Nat, [], fun i => [(3, .int .i64 (.s fun _ => 2 + sizeL leaf (es.take i))), (4, .int .i64 (.s fun _ => (i : Int)))], fun _ => [(1, .cells 24 [.bool (.s fun _ => leaf), .dat (entsDV es)])],
    fun i => i ≤ es.length, fun i => es.length - i, 0, [], Nat.zero_le _, ⟨?_⟩, fun i hi => ?_⟩
  · cbv
    and_intros
    all_goals first | exact trivial | exact ⟨rfl⟩ | exact ⟨rfl, fun _ _ _ _ => rfl⟩ | exact ⟨by kernel_rfl⟩
  · have hi : i ≤ es.length := hi
    cbv
    refine ⟨fun h1 => ?_, fun h1 => ?_⟩
    · have h1 : (i : Int) < (es.length : Int) := of_decide_eq_true h1
      have hlt : i < es.length := by omega
      have o1 : indexObl (i : Int) es.length := ⟨by omega, h1⟩
      have hw := weight_take es hlt
      have hs := sizeL_le leaf (es.take i)
      have hs' := sizeL_le leaf (es.take (i + 1))
      have hnx : sizeL leaf (es.take (i + 1)) = sizeL leaf (es.take i) + bytesOfI leaf (es.getD i default).key (es.getD i default).val (es.getD i default).page := by
        rw [getD_take es hlt, sizeL_app]; simp only [sizeL]; omega
      have hm := sizeL_mono leaf (es := es) (i := i + 1)
      have hall := sizeL_le leaf es
      have b1 : bound64 ((2 + sizeL leaf (es.take i)) + bytesOfI leaf (es.getD i default).key (es.getD i default).val (es.getD i default).page) := by
        unfold bound64
        omega
      have b2 : bound64 ((i : Int) + 1) := by unfold bound64; omega
      have ei : (i : Int) + 1 = ((i + 1 : Nat) : Int) := by omega
      have es1 : (2 + sizeL leaf (es.take i)) + bytesOfI leaf (es.getD i default).key (es.getD i default).val (es.getD i default).page = 2 + sizeL leaf (es.take (i + 1)) := by rw [hnx]; omega
      have hms : es.length - (i + 1) < es.length - i := by omega
      have hen : (es.getD i default).key.length + (es.getD i default).val.length < 1000000000000 := by omega
      clear hs hs' h1 hnx hm hall
      cbv
      refine ⟨⟨o1⟩, ?_⟩
      refine ⟨_, _, con48 (leaf := leaf) hen, ⟨?_⟩, ?_⟩
      · kernel_rfl
      cbv
      refine ⟨⟨b1⟩, ⟨by kernel_rfl⟩, ?_⟩
      cbv
      refine ⟨⟨b2⟩, i + 1, [], hlt, hms, ⟨?_⟩, ⟨?_⟩⟩
      · kernel_rfl
      · cbv
        and_intros
        all_goals first | exact trivial | exact ⟨es1⟩ | exact ⟨ei⟩ | exact ⟨rfl⟩ | exact ⟨rfl, fun _ _ _ _ => rfl⟩ | exact ⟨by kernel_rfl⟩
    · have h1 : ¬ ((i : Int) < (es.length : Int)) := of_decide_eq_false h1
      have e1 : 2 + sizeL leaf (es.take i) = 2 + sizeL leaf es := by rw [List.take_of_length_le (by omega)]
      clear h1
      cbv
      refine ⟨[], [], ?_⟩
      cbv
      and_intros
      all_goals first | exact trivial | exact ⟨e1⟩ | exact ⟨rfl⟩ | exact ⟨rfl, fun _ _ _ _ => rfl⟩ | exact ⟨by kernel_rfl⟩

theorem put_key {ks : List Int} {x y : Int} : y ∈ putKey ks x ↔ y ∈ ks ∨ y = x := by
  unfold putKey
  cases hc : ks.contains x with
  | true =>
    simp only [cond_true]
    exact ⟨.inl, fun h => h.elim id fun e => e ▸ List.contains_iff_mem.1 hc⟩
  | false => simp
theorem seen_mem {l : List Ent} {x : Int} : x ∈ seenL l ↔ ∃ e ∈ l, e.page = x := by
  have key : ∀ (l : List Ent) (ks : List Int), x ∈ l.foldl (fun ks e => putKey ks e.page) ks ↔ x ∈ ks ∨ ∃ e ∈ l, e.page = x := by
    intro l
    induction l with
    | nil => intro ks; simp
    | cons e l ih =>
      intro ks
      simp only [List.foldl_cons, ih, put_key, List.mem_cons, exists_eq_or_imp]
      constructor
      · rintro ((h | h) | h)
        · exact .inl h
        · exact .inr (.inl h.symm)
        · exact .inr (.inr h)
      · rintro (h | h | h)
        · exact .inl (.inl h)
        · exact .inl (.inr h.symm)
        · exact .inr h
  simpa [seenL] using key l []
theorem getD_take_mem {α : Type} [Inhabited α] {l : List α} {k i : Nat} (h : k < i) (hl : k < l.length) : l.getD k default ∈ l.take i := by
  rw [List.getD_eq_getElem?_getD, List.getElem?_eq_getElem hl]
  exact List.mem_iff_getElem.2 ⟨k, by simp; omega, by simp⟩
theorem take_getD_mem {α : Type} [Inhabited α] {l : List α} {i : Nat} {x : α} (h : x ∈ l.take i) : ∃ a, a < i ∧ x = l.getD a default := by
  obtain ⟨a, ha, rfl⟩ := List.getElem_of_mem h
  simp only [List.length_take] at ha
  refine ⟨a, by omega, ?_⟩
  rw [List.getD_eq_getElem?_getD, List.getElem?_eq_getElem (by omega)]
  simp

set_option maxRecDepth 20000 in
set_option maxHeartbeats 4000000 in
theorem con47t {es : List Ent} (hl : es.length < 1000000000000) : Con 47 [nodeSV true es] [] (.bool (.s fun _ => mayB true es)) [] := by
  refine con_of Try.func47 rfl rfl 95 _ rfl rfl rfl rfl ?_
  cbv
  refine ⟨fun h0 => ?_, fun h0 => ?_⟩
  · have h0 : (es.length : Int) = 0 := of_decide_eq_true h0
    have e1 : false = mayB true es := by unfold mayB; rw [decide_eq_false (by omega : ¬ 0 < es.length), Bool.and_false]
    clear h0
    cbv
    refine ⟨[], [], ?_⟩
    cbv
    and_intros
    all_goals first | exact trivial | exact ⟨e1⟩ | exact ⟨rfl⟩ | exact ⟨rfl, fun _ _ _ _ => rfl⟩ | exact ⟨by kernel_rfl⟩
  · have h0 : ¬ (es.length : Int) = 0 := of_decide_eq_false h0
    have h0 : 0 < es.length := by omega
    cbv
    refine ⟨Nat, [], fun i => [(3, .int .i64 (.s fun _ => (i : Int)))], fun _ => [(1, .cells 24 [.bool .t, .dat (entsDV es)])],
      fun i => i ≤ es.length ∧ okTo true es i = true, fun i => es.length - i, 0, [], ⟨Nat.zero_le _, rfl⟩, ⟨?_⟩, fun i hx => ?_⟩
    · cbv
      and_intros
      all_goals first | exact trivial | exact ⟨rfl⟩ | exact ⟨rfl, fun _ _ _ _ => rfl⟩ | exact ⟨by kernel_rfl⟩
    · obtain ⟨hi, hok⟩ : i ≤ es.length ∧ okTo true es i = true := hx
      cbv
      refine ⟨fun h1 => ?_, fun h1 => ?_⟩
      · have h1 : (i : Int) < (es.length : Int) := of_decide_eq_true h1
        have hlt : i < es.length := by omega
        have o1 : indexObl (i : Int) es.length := ⟨by omega, h1⟩
        have b2 : bound64 ((i : Int) + 1) := by unfold bound64; omega
        have ei : (i : Int) + 1 = ((i + 1 : Nat) : Int) := by omega
        have hms : es.length - (i + 1) < es.length - i := by omega
        clear h1
        cbv
        refine ⟨⟨o1⟩, ?_⟩
        cbv
        refine ⟨fun hA => ?_, fun hA => ?_⟩
        · have hA : (i : Int) = 0 := of_decide_eq_true hA
          have hA : i = 0 := by omega
          have hc : (decide (i = 0) && !true) = false := by simp [hA]
          cbv
          refine ⟨fun hB => ?_, fun hB => ?_⟩
          · have hB : (false != decide (((es.getD i default).key.length : Int) = 0)) = true := hB
            have e1 : false = mayB true es := may_badK hlt (keyBad1 hc hB)
            clear hB
            cbv
            refine ⟨⟨by kernel_rfl⟩, ?_⟩
            cbv
            refine ⟨[], [], ?_⟩
            cbv
            and_intros
            all_goals first | exact trivial | exact ⟨e1⟩ | exact ⟨rfl⟩ | exact ⟨rfl, fun _ _ _ _ => rfl⟩ | exact ⟨by kernel_rfl⟩
          · have hB : (false != decide (((es.getD i default).key.length : Int) = 0)) = false := hB
            cbv
            refine ⟨fun hC => ?_, fun hC => ?_⟩
            · have hC : (160 : Int) < ((es.getD i default).key.length : Int) := of_decide_eq_true hC
              have e1 : false = mayB true es := may_badK hlt (keyBad2 hC)
              clear hC
              cbv
              refine ⟨⟨by kernel_rfl⟩, ?_⟩
              cbv
              refine ⟨[], [], ?_⟩
              cbv
              and_intros
              all_goals first | exact trivial | exact ⟨e1⟩ | exact ⟨rfl⟩ | exact ⟨rfl, fun _ _ _ _ => rfl⟩ | exact ⟨by kernel_rfl⟩
            · have hC : ¬ (160 : Int) < ((es.getD i default).key.length : Int) := of_decide_eq_false hC
              have hcmp : 0 < i → ¬ (0 : Int) ≤ Lib.compareBytes (es.getD (i - 1) default).key (es.getD i default).key := fun h => absurd h (by omega)
              cbv
              refine ⟨fun hD => ?_, fun hD => ?_⟩
              · have hD : (0 : Int) < (i : Int) := of_decide_eq_true hD
                exfalso
                omega
              · clear hD
                cbv
                refine ⟨⟨by kernel_rfl⟩, ?_⟩
                cbv
                refine ⟨_, _, con88, ⟨?_⟩, ?_⟩
                · kernel_rfl
                cbv
                refine ⟨fun hg => ?_, fun hg => ?_⟩
                · have hg : leafyB (es.getD i default) = false := bnot_t hg
                  have e1 : false = mayB true es := may_badK hlt (keyBad3 hg)
                  clear hg
                  cbv
                  refine ⟨[], [], ?_⟩
                  cbv
                  and_intros
                  all_goals first | exact trivial | exact ⟨e1⟩ | exact ⟨rfl⟩ | exact ⟨rfl, fun _ _ _ _ => rfl⟩ | exact ⟨by kernel_rfl⟩
                · have hg : leafyB (es.getD i default) = true := bnot_f hg
                  have hkey : keyBad true i (es.getD i default) = false := keyBad4 hc hB hC hg
                  clear hg
                  have hok' : okTo true es (i + 1) = true := okTo_next hok hkey (order3 hcmp (fun h => by cases h))
                  clear hkey hcmp
                  cbv
                  refine ⟨Unit, [], fun _ => [(6, .int .i64 (.l 0))], fun _ => [(1, .cells 24 [.bool .t, .dat (entsDV es)])], fun _ => True, fun _ => 0, (), [], trivial, ⟨?_⟩, fun _ _ => ?_⟩
                  · cbv
                    and_intros
                    all_goals first | exact trivial | exact ⟨rfl⟩ | exact ⟨rfl, fun _ _ _ _ => rfl⟩ | exact ⟨by kernel_rfl⟩
                  · cbv
                    refine ⟨fun hz => ?_, fun hz => ?_⟩
                    · cbv
                      refine ⟨⟨b2⟩, i + 1, [], ⟨hlt, hok'⟩, hms, ⟨?_⟩, ⟨?_⟩⟩
                      · kernel_rfl
                      · cbv
                        and_intros
                        all_goals first | exact trivial | exact ⟨ei⟩ | exact ⟨rfl⟩ | exact ⟨rfl, fun _ _ _ _ => rfl⟩ | exact ⟨by kernel_rfl⟩
                    · cbv
                      refine ⟨⟨b2⟩, i + 1, [], ⟨hlt, hok'⟩, hms, ⟨?_⟩, ⟨?_⟩⟩
                      · kernel_rfl
                      · cbv
                        and_intros
                        all_goals first | exact trivial | exact ⟨ei⟩ | exact ⟨rfl⟩ | exact ⟨rfl, fun _ _ _ _ => rfl⟩ | exact ⟨by kernel_rfl⟩
        · have hA : ¬ (i : Int) = 0 := of_decide_eq_false hA
          have hA : ¬ i = 0 := by omega
          have hc : (decide (i = 0) && !true) = false := by simp [hA]
          cbv
          refine ⟨fun hB => ?_, fun hB => ?_⟩
          · have hB : (false != decide (((es.getD i default).key.length : Int) = 0)) = true := hB
            have e1 : false = mayB true es := may_badK hlt (keyBad1 hc hB)
            clear hB
            cbv
            refine ⟨⟨by kernel_rfl⟩, ?_⟩
            cbv
            refine ⟨[], [], ?_⟩
            cbv
            and_intros
            all_goals first | exact trivial | exact ⟨e1⟩ | exact ⟨rfl⟩ | exact ⟨rfl, fun _ _ _ _ => rfl⟩ | exact ⟨by kernel_rfl⟩
          · have hB : (false != decide (((es.getD i default).key.length : Int) = 0)) = false := hB
            cbv
            refine ⟨fun hC => ?_, fun hC => ?_⟩
            · have hC : (160 : Int) < ((es.getD i default).key.length : Int) := of_decide_eq_true hC
              have e1 : false = mayB true es := may_badK hlt (keyBad2 hC)
              clear hC
              cbv
              refine ⟨⟨by kernel_rfl⟩, ?_⟩
              cbv
              refine ⟨[], [], ?_⟩
              cbv
              and_intros
              all_goals first | exact trivial | exact ⟨e1⟩ | exact ⟨rfl⟩ | exact ⟨rfl, fun _ _ _ _ => rfl⟩ | exact ⟨by kernel_rfl⟩
            · have hC : ¬ (160 : Int) < ((es.getD i default).key.length : Int) := of_decide_eq_false hC
              have bm : bound64 ((i : Int) - 1) := by unfold bound64; omega
              have om : indexObl ((i : Int) - 1) es.length := ⟨by omega, by omega⟩
              have em : ((i : Int) - 1).toNat = i - 1 := by omega
              cbv
              refine ⟨fun hD => ?_, fun hD => ?_⟩
              · clear hD
                cbv
                refine ⟨⟨bm⟩, ⟨om⟩, ?_⟩
                refine ⟨_, _, con85, ⟨?_⟩, ?_⟩
                · kernel_rfl
                cbv
                refine ⟨⟨by kernel_rfl⟩, ?_⟩
                cbv
                refine ⟨fun hE => ?_, fun hE => ?_⟩
                · have hE : Op.bytesLess (es.getD ((i : Int) - 1).toNat default).key (es.getD i default).key = false := bnot_t hE
                  rw [less_cmp, em] at hE
                  have hE : ¬ Lib.compareBytes (es.getD (i - 1) default).key (es.getD i default).key < 0 := of_decide_eq_false hE
                  have e1 : false = mayB true es := may_badO hlt (order1 (by omega) (by omega))
                  clear hE
                  cbv
                  refine ⟨[], [], ?_⟩
                  cbv
                  and_intros
                  all_goals first | exact trivial | exact ⟨e1⟩ | exact ⟨rfl⟩ | exact ⟨rfl, fun _ _ _ _ => rfl⟩ | exact ⟨by kernel_rfl⟩
                · have hE : Op.bytesLess (es.getD ((i : Int) - 1).toNat default).key (es.getD i default).key = true := bnot_f hE
                  rw [less_cmp, em] at hE
                  have hE : Lib.compareBytes (es.getD (i - 1) default).key (es.getD i default).key < 0 := of_decide_eq_true hE
                  have hcmp : 0 < i → ¬ (0 : Int) ≤ Lib.compareBytes (es.getD (i - 1) default).key (es.getD i default).key := fun _ => by omega
                  clear hE
                  cbv
                  refine ⟨_, _, con88, ⟨?_⟩, ?_⟩
                  · kernel_rfl
                  cbv
                  refine ⟨fun hg => ?_, fun hg => ?_⟩
                  · have hg : leafyB (es.getD i default) = false := bnot_t hg
                    have e1 : false = mayB true es := may_badK hlt (keyBad3 hg)
                    clear hg
                    cbv
                    refine ⟨[], [], ?_⟩
                    cbv
                    and_intros
                    all_goals first | exact trivial | exact ⟨e1⟩ | exact ⟨rfl⟩ | exact ⟨rfl, fun _ _ _ _ => rfl⟩ | exact ⟨by kernel_rfl⟩
                  · have hg : leafyB (es.getD i default) = true := bnot_f hg
                    have hkey : keyBad true i (es.getD i default) = false := keyBad4 hc hB hC hg
                    clear hg
                    have hok' : okTo true es (i + 1) = true := okTo_next hok hkey (order3 hcmp (fun h => by cases h))
                    clear hkey hcmp
                    cbv
                    refine ⟨Unit, [], fun _ => [(6, .int .i64 (.l 0))], fun _ => [(1, .cells 24 [.bool .t, .dat (entsDV es)])], fun _ => True, fun _ => 0, (), [], trivial, ⟨?_⟩, fun _ _ => ?_⟩
                    · cbv
                      and_intros
                      all_goals first | exact trivial | exact ⟨rfl⟩ | exact ⟨rfl, fun _ _ _ _ => rfl⟩ | exact ⟨by kernel_rfl⟩
                    · cbv
                      refine ⟨fun hz => ?_, fun hz => ?_⟩
                      · cbv
                        refine ⟨⟨b2⟩, i + 1, [], ⟨hlt, hok'⟩, hms, ⟨?_⟩, ⟨?_⟩⟩
                        · kernel_rfl
                        · cbv
                          and_intros
                          all_goals first | exact trivial | exact ⟨ei⟩ | exact ⟨rfl⟩ | exact ⟨rfl, fun _ _ _ _ => rfl⟩ | exact ⟨by kernel_rfl⟩
                      · cbv
                        refine ⟨⟨b2⟩, i + 1, [], ⟨hlt, hok'⟩, hms, ⟨?_⟩, ⟨?_⟩⟩
                        · kernel_rfl
                        · cbv
                          and_intros
                          all_goals first | exact trivial | exact ⟨ei⟩ | exact ⟨rfl⟩ | exact ⟨rfl, fun _ _ _ _ => rfl⟩ | exact ⟨by kernel_rfl⟩
              · have hD : ¬ (0 : Int) < (i : Int) := of_decide_eq_false hD
                exfalso
                omega
      · have h1 : ¬ (i : Int) < (es.length : Int) := of_decide_eq_false h1
        have hie : i = es.length := by omega
        have e1 : true = mayB true es := by unfold mayB; rw [← hie, hok, decide_eq_true (by omega : 0 < i)]; rfl
        clear h1
        cbv
        refine ⟨[], [], ?_⟩
        cbv
        and_intros
        all_goals first | exact trivial | exact ⟨e1⟩ | exact ⟨rfl⟩ | exact ⟨rfl, fun _ _ _ _ => rfl⟩ | exact ⟨by kernel_rfl⟩

set_option maxRecDepth 20000 in
set_option maxHeartbeats 4000000 in
theorem con47f {es : List Ent} (hl : es.length < 1000000000000) : Con 47 [nodeSV false es] [] (.bool (.s fun _ => mayB false es)) [] := by
  refine con_of Try.func47 rfl rfl 95 _ rfl rfl rfl rfl ?_
  cbv
  refine ⟨fun h0 => ?_, fun h0 => ?_⟩
  · have h0 : (es.length : Int) = 0 := of_decide_eq_true h0
    have e1 : false = mayB false es := by unfold mayB; rw [decide_eq_false (by omega : ¬ 0 < es.length), Bool.and_false]
    clear h0
    cbv
    refine ⟨[], [], ?_⟩
    cbv
    and_intros
    all_goals first | exact trivial | exact ⟨e1⟩ | exact ⟨rfl⟩ | exact ⟨rfl, fun _ _ _ _ => rfl⟩ | exact ⟨by kernel_rfl⟩
  · have h0 : ¬ (es.length : Int) = 0 := of_decide_eq_false h0
    have h0 : 0 < es.length := by omega
    cbv
    refine ⟨Nat, [], fun i => [(3, .int .i64 (.s fun _ => (i : Int)))], fun _ => [(1, .cells 24 [.bool .f, .dat (entsDV es)])],
      fun i => i ≤ es.length ∧ okTo false es i = true, fun i => es.length - i, 0, [], ⟨Nat.zero_le _, rfl⟩, ⟨?_⟩, fun i hx => ?_⟩
    · cbv
      and_intros
      all_goals first | exact trivial | exact ⟨rfl⟩ | exact ⟨rfl, fun _ _ _ _ => rfl⟩ | exact ⟨by kernel_rfl⟩
    · obtain ⟨hi, hok⟩ : i ≤ es.length ∧ okTo false es i = true := hx
      cbv
      refine ⟨fun h1 => ?_, fun h1 => ?_⟩
      · have h1 : (i : Int) < (es.length : Int) := of_decide_eq_true h1
        have hlt : i < es.length := by omega
        have o1 : indexObl (i : Int) es.length := ⟨by omega, h1⟩
        have b2 : bound64 ((i : Int) + 1) := by unfold bound64; omega
        have ei : (i : Int) + 1 = ((i + 1 : Nat) : Int) := by omega
        have hms : es.length - (i + 1) < es.length - i := by omega
        clear h1
        cbv
        refine ⟨⟨o1⟩, ?_⟩
        cbv
        refine ⟨fun hA => ?_, fun hA => ?_⟩
        · have hA : (i : Int) = 0 := of_decide_eq_true hA
          have hA : i = 0 := by omega
          have hc : (decide (i = 0) && !false) = true := by simp [hA]
          cbv
          refine ⟨fun hB => ?_, fun hB => ?_⟩
          · have hB : (true != decide (((es.getD i default).key.length : Int) = 0)) = true := hB
            have e1 : false = mayB false es := may_badK hlt (keyBad1 hc hB)
            clear hB
            cbv
            refine ⟨⟨by kernel_rfl⟩, ?_⟩
            cbv
            refine ⟨[], [], ?_⟩
            cbv
            and_intros
            all_goals first | exact trivial | exact ⟨e1⟩ | exact ⟨rfl⟩ | exact ⟨rfl, fun _ _ _ _ => rfl⟩ | exact ⟨by kernel_rfl⟩
          · have hB : (true != decide (((es.getD i default).key.length : Int) = 0)) = false := hB
            cbv
            refine ⟨fun hC => ?_, fun hC => ?_⟩
            · have hC : (160 : Int) < ((es.getD i default).key.length : Int) := of_decide_eq_true hC
              have e1 : false = mayB false es := may_badK hlt (keyBad2 hC)
              clear hC
              cbv
              refine ⟨⟨by kernel_rfl⟩, ?_⟩
              cbv
              refine ⟨[], [], ?_⟩
              cbv
              and_intros
              all_goals first | exact trivial | exact ⟨e1⟩ | exact ⟨rfl⟩ | exact ⟨rfl, fun _ _ _ _ => rfl⟩ | exact ⟨by kernel_rfl⟩
            · have hC : ¬ (160 : Int) < ((es.getD i default).key.length : Int) := of_decide_eq_false hC
              have hcmp : 0 < i → ¬ (0 : Int) ≤ Lib.compareBytes (es.getD (i - 1) default).key (es.getD i default).key := fun h => absurd h (by omega)
              cbv
              refine ⟨fun hD => ?_, fun hD => ?_⟩
              · have hD : (0 : Int) < (i : Int) := of_decide_eq_true hD
                exfalso
                omega
              · clear hD
                cbv
                refine ⟨⟨by kernel_rfl⟩, ?_⟩
                cbv
                refine ⟨_, _, con89, ⟨?_⟩, ?_⟩
                · kernel_rfl
                cbv
                refine ⟨fun hg => ?_, fun hg => ?_⟩
                · have hg : kidB (es.getD i default) = false := bnot_t hg
                  have e1 : false = mayB false es := may_badK hlt (keyBad3 hg)
                  clear hg
                  cbv
                  refine ⟨[], [], ?_⟩
                  cbv
                  and_intros
                  all_goals first | exact trivial | exact ⟨e1⟩ | exact ⟨rfl⟩ | exact ⟨rfl, fun _ _ _ _ => rfl⟩ | exact ⟨by kernel_rfl⟩
                · have hg : kidB (es.getD i default) = true := bnot_f hg
                  have hkey : keyBad false i (es.getD i default) = false := keyBad4 hc hB hC hg
                  clear hg
                  cbv
                  refine ⟨Nat, [], fun k => [(6, .int .i64 (.s fun _ => (k : Int)))], fun _ => [(1, .cells 24 [.bool .f, .dat (entsDV es)]), (4, .cells 74 [.dat (.bytes fun _ => (es.getD i default).key), .dat (.bytes fun _ => (es.getD i default).val), .int .u32 (.s fun _ => (es.getD i default).page), .int .u32 (.s fun _ => (es.getD i default).size)])],
                    fun k => k ≤ i ∧ ∀ a, a < k → (es.getD a default).page ≠ (es.getD i default).page, fun k => i - k, 0, [], ⟨Nat.zero_le _, fun a h => absurd h (Nat.not_lt_zero _)⟩, ⟨?_⟩, fun k hk => ?_⟩
                  · cbv
                    and_intros
                    all_goals first | exact trivial | exact ⟨rfl⟩ | exact ⟨rfl, fun _ _ _ _ => rfl⟩ | exact ⟨by kernel_rfl⟩
                  · obtain ⟨hk1, hk2⟩ : k ≤ i ∧ ∀ a, a < k → (es.getD a default).page ≠ (es.getD i default).page := hk
                    cbv
                    refine ⟨fun hz => ?_, fun hz => ?_⟩
                    · have hz : (k : Int) < (i : Int) := of_decide_eq_true hz
                      have hki : k < i := by omega
                      have ok : indexObl (k : Int) es.length := ⟨by omega, by omega⟩
                      have bk : bound64 ((k : Int) + 1) := by unfold bound64; omega
                      have ek : (k : Int) + 1 = ((k + 1 : Nat) : Int) := by omega
                      have hmk : i - (k + 1) < i - k := by omega
                      clear hz
                      cbv
                      refine ⟨⟨ok⟩, ⟨by kernel_rfl⟩, ?_⟩
                      cbv
                      refine ⟨fun hq => ?_, fun hq => ?_⟩
                      · have hq : (es.getD k default).page = (es.getD i default).page := of_decide_eq_true hq
                        have e1 : false = mayB false es := may_badO hlt (order2 (List.contains_iff_mem.2 (seen_mem.2 ⟨_, getD_take_mem hki (by omega), hq⟩)))
                        clear hq
                        cbv
                        refine ⟨[], [], ?_⟩
                        cbv
                        and_intros
                        all_goals first | exact trivial | exact ⟨e1⟩ | exact ⟨rfl⟩ | exact ⟨rfl, fun _ _ _ _ => rfl⟩ | exact ⟨by kernel_rfl⟩
                      · have hq : ¬ (es.getD k default).page = (es.getD i default).page := of_decide_eq_false hq
                        have hinv : k + 1 ≤ i ∧ ∀ a, a < k + 1 → (es.getD a default).page ≠ (es.getD i default).page := ⟨hki, fun a ha => by
                          by_cases h : a < k
                          · exact hk2 a h
                          · have : a = k := by omega
                            rw [this]; exact hq⟩
                        clear hq
                        cbv
                        refine ⟨⟨bk⟩, k + 1, [], hinv, hmk, ⟨?_⟩, ⟨?_⟩⟩
                        · kernel_rfl
                        · cbv
                          and_intros
                          all_goals first | exact trivial | exact ⟨ek⟩ | exact ⟨rfl⟩ | exact ⟨rfl, fun _ _ _ _ => rfl⟩ | exact ⟨by kernel_rfl⟩
                    · have hz : ¬ (k : Int) < (i : Int) := of_decide_eq_false hz
                      have hki : k = i := by omega
                      have hns : (seenL (es.take i)).contains (es.getD i default).page = false := by
                        cases hc : (seenL (es.take i)).contains (es.getD i default).page with
                        | false => rfl
                        | true =>
                          obtain ⟨x, hx, hp⟩ := seen_mem.1 (List.contains_iff_mem.1 hc)
                          obtain ⟨a, ha, rfl⟩ := take_getD_mem hx
                          exact absurd hp (hk2 a (by omega))
                      have hok' : okTo false es (i + 1) = true := okTo_next hok hkey (order3 hcmp (fun _ => hns))
                      clear hz hkey hcmp hns
                      cbv
                      refine ⟨⟨b2⟩, i + 1, [], ⟨hlt, hok'⟩, hms, ⟨?_⟩, ⟨?_⟩⟩
                      · kernel_rfl
                      · cbv
                        and_intros
                        all_goals first | exact trivial | exact ⟨ei⟩ | exact ⟨rfl⟩ | exact ⟨rfl, fun _ _ _ _ => rfl⟩ | exact ⟨by kernel_rfl⟩
        · have hA : ¬ (i : Int) = 0 := of_decide_eq_false hA
          have hA : ¬ i = 0 := by omega
          have hc : (decide (i = 0) && !false) = false := by simp [hA]
          cbv
          refine ⟨fun hB => ?_, fun hB => ?_⟩
          · have hB : (false != decide (((es.getD i default).key.length : Int) = 0)) = true := hB
            have e1 : false = mayB false es := may_badK hlt (keyBad1 hc hB)
            clear hB
            cbv
            refine ⟨⟨by kernel_rfl⟩, ?_⟩
            cbv
            refine ⟨[], [], ?_⟩
            cbv
            and_intros
            all_goals first | exact trivial | exact ⟨e1⟩ | exact ⟨rfl⟩ | exact ⟨rfl, fun _ _ _ _ => rfl⟩ | exact ⟨by kernel_rfl⟩
          · have hB : (false != decide (((es.getD i default).key.length : Int) = 0)) = false := hB
            cbv
            refine ⟨fun hC => ?_, fun hC => ?_⟩
            · have hC : (160 : Int) < ((es.getD i default).key.length : Int) := of_decide_eq_true hC
              have e1 : false = mayB false es := may_badK hlt (keyBad2 hC)
              clear hC
              cbv
              refine ⟨⟨by kernel_rfl⟩, ?_⟩
              cbv
              refine ⟨[], [], ?_⟩
              cbv
              and_intros
              all_goals first | exact trivial | exact ⟨e1⟩ | exact ⟨rfl⟩ | exact ⟨rfl, fun _ _ _ _ => rfl⟩ | exact ⟨by kernel_rfl⟩
            · have hC : ¬ (160 : Int) < ((es.getD i default).key.length : Int) := of_decide_eq_false hC
              have bm : bound64 ((i : Int) - 1) := by unfold bound64; omega
              have om : indexObl ((i : Int) - 1) es.length := ⟨by omega, by omega⟩
              have em : ((i : Int) - 1).toNat = i - 1 := by omega
              cbv
              refine ⟨fun hD => ?_, fun hD => ?_⟩
              · clear hD
                cbv
                refine ⟨⟨bm⟩, ⟨om⟩, ?_⟩
                refine ⟨_, _, con85, ⟨?_⟩, ?_⟩
                · kernel_rfl
                cbv
                refine ⟨⟨by kernel_rfl⟩, ?_⟩
                cbv
                refine ⟨fun hE => ?_, fun hE => ?_⟩
                · have hE : Op.bytesLess (es.getD ((i : Int) - 1).toNat default).key (es.getD i default).key = false := bnot_t hE
                  rw [less_cmp, em] at hE
                  have hE : ¬ Lib.compareBytes (es.getD (i - 1) default).key (es.getD i default).key < 0 := of_decide_eq_false hE
                  have e1 : false = mayB false es := may_badO hlt (order1 (by omega) (by omega))
                  clear hE
                  cbv
                  refine ⟨[], [], ?_⟩
                  cbv
                  and_intros
                  all_goals first | exact trivial | exact ⟨e1⟩ | exact ⟨rfl⟩ | exact ⟨rfl, fun _ _ _ _ => rfl⟩ | exact ⟨by kernel_rfl⟩
                · have hE : Op.bytesLess (es.getD ((i : Int) - 1).toNat default).key (es.getD i default).key = true := bnot_f hE
                  rw [less_cmp, em] at hE
                  have hE : Lib.compareBytes (es.getD (i - 1) default).key (es.getD i default).key < 0 := of_decide_eq_true hE
                  have hcmp : 0 < i → ¬ (0 : Int) ≤ Lib.compareBytes (es.getD (i - 1) default).key (es.getD i default).key := fun _ => by omega
                  clear hE
                  cbv
                  refine ⟨_, _, con89, ⟨?_⟩, ?_⟩
                  · kernel_rfl
                  cbv
                  refine ⟨fun hg => ?_, fun hg => ?_⟩
                  · have hg : kidB (es.getD i default) = false := bnot_t hg
                    have e1 : false = mayB false es := may_badK hlt (keyBad3 hg)
                    clear hg
                    cbv
                    refine ⟨[], [], ?_⟩
                    cbv
                    and_intros
                    all_goals first | exact trivial | exact ⟨e1⟩ | exact ⟨rfl⟩ | exact ⟨rfl, fun _ _ _ _ => rfl⟩ | exact ⟨by kernel_rfl⟩
                  · have hg : kidB (es.getD i default) = true := bnot_f hg
                    have hkey : keyBad false i (es.getD i default) = false := keyBad4 hc hB hC hg
                    clear hg
                    cbv
                    refine ⟨Nat, [], fun k => [(6, .int .i64 (.s fun _ => (k : Int)))], fun _ => [(1, .cells 24 [.bool .f, .dat (entsDV es)]), (4, .cells 74 [.dat (.bytes fun _ => (es.getD i default).key), .dat (.bytes fun _ => (es.getD i default).val), .int .u32 (.s fun _ => (es.getD i default).page), .int .u32 (.s fun _ => (es.getD i default).size)])],
                      fun k => k ≤ i ∧ ∀ a, a < k → (es.getD a default).page ≠ (es.getD i default).page, fun k => i - k, 0, [], ⟨Nat.zero_le _, fun a h => absurd h (Nat.not_lt_zero _)⟩, ⟨?_⟩, fun k hk => ?_⟩
                    · cbv
                      and_intros
                      all_goals first | exact trivial | exact ⟨rfl⟩ | exact ⟨rfl, fun _ _ _ _ => rfl⟩ | exact ⟨by kernel_rfl⟩
                    · obtain ⟨hk1, hk2⟩ : k ≤ i ∧ ∀ a, a < k → (es.getD a default).page ≠ (es.getD i default).page := hk
                      cbv
                      refine ⟨fun hz => ?_, fun hz => ?_⟩
                      · have hz : (k : Int) < (i : Int) := of_decide_eq_true hz
                        have hki : k < i := by omega
                        have ok : indexObl (k : Int) es.length := ⟨by omega, by omega⟩
                        have bk : bound64 ((k : Int) + 1) := by unfold bound64; omega
                        have ek : (k : Int) + 1 = ((k + 1 : Nat) : Int) := by omega
                        have hmk : i - (k + 1) < i - k := by omega
                        clear hz
                        cbv
                        refine ⟨⟨ok⟩, ⟨by kernel_rfl⟩, ?_⟩
                        cbv
                        refine ⟨fun hq => ?_, fun hq => ?_⟩
                        · have hq : (es.getD k default).page = (es.getD i default).page := of_decide_eq_true hq
                          have e1 : false = mayB false es := may_badO hlt (order2 (List.contains_iff_mem.2 (seen_mem.2 ⟨_, getD_take_mem hki (by omega), hq⟩)))
                          clear hq
                          cbv
                          refine ⟨[], [], ?_⟩
                          cbv
                          and_intros
                          all_goals first | exact trivial | exact ⟨e1⟩ | exact ⟨rfl⟩ | exact ⟨rfl, fun _ _ _ _ => rfl⟩ | exact ⟨by kernel_rfl⟩
                        · have hq : ¬ (es.getD k default).page = (es.getD i default).page := of_decide_eq_false hq
                          have hinv : k + 1 ≤ i ∧ ∀ a, a < k + 1 → (es.getD a default).page ≠ (es.getD i default).page := ⟨hki, fun a ha => by
                            by_cases h : a < k
                            · exact hk2 a h
                            · have : a = k := by omega
                              rw [this]; exact hq⟩
                          clear hq
                          cbv
                          refine ⟨⟨bk⟩, k + 1, [], hinv, hmk, ⟨?_⟩, ⟨?_⟩⟩
                          · kernel_rfl
                          · cbv
                            and_intros
                            all_goals first | exact trivial | exact ⟨ek⟩ | exact ⟨rfl⟩ | exact ⟨rfl, fun _ _ _ _ => rfl⟩ | exact ⟨by kernel_rfl⟩
                      · have hz : ¬ (k : Int) < (i : Int) := of_decide_eq_false hz
                        have hki : k = i := by omega
                        have hns : (seenL (es.take i)).contains (es.getD i default).page = false := by
                          cases hc : (seenL (es.take i)).contains (es.getD i default).page with
                          | false => rfl
                          | true =>
                            obtain ⟨x, hx, hp⟩ := seen_mem.1 (List.contains_iff_mem.1 hc)
                            obtain ⟨a, ha, rfl⟩ := take_getD_mem hx
                            exact absurd hp (hk2 a (by omega))
                        have hok' : okTo false es (i + 1) = true := okTo_next hok hkey (order3 hcmp (fun _ => hns))
                        clear hz hkey hcmp hns
                        cbv
                        refine ⟨⟨b2⟩, i + 1, [], ⟨hlt, hok'⟩, hms, ⟨?_⟩, ⟨?_⟩⟩
                        · kernel_rfl
                        · cbv
                          and_intros
                          all_goals first | exact trivial | exact ⟨ei⟩ | exact ⟨rfl⟩ | exact ⟨rfl, fun _ _ _ _ => rfl⟩ | exact ⟨by kernel_rfl⟩
              · have hD : ¬ (0 : Int) < (i : Int) := of_decide_eq_false hD
                exfalso
                omega
      · have h1 : ¬ (i : Int) < (es.length : Int) := of_decide_eq_false h1
        have hie : i = es.length := by omega
        have e1 : true = mayB false es := by unfold mayB; rw [← hie, hok, decide_eq_true (by omega : 0 < i)]; rfl
        clear h1
        cbv
        refine ⟨[], [], ?_⟩
        cbv
        and_intros
        all_goals first | exact trivial | exact ⟨e1⟩ | exact ⟨rfl⟩ | exact ⟨rfl, fun _ _ _ _ => rfl⟩ | exact ⟨by kernel_rfl⟩

theorem con47 {leaf : Bool} {es : List Ent} (hl : es.length < 1000000000000) : Con 47 [nodeSV leaf es] [] (.bool (.s fun _ => mayB leaf es)) [] := by
  cases leaf
  · exact con47f hl
  · exact con47t hl

set_option maxRecDepth 20000 in
set_option maxHeartbeats 4000000 in
theorem con20 {leaf : Bool} {es : List Ent} (hw : weight es + 20 * es.length < 1000000000000) : Con 20 [nodeSV leaf es] [] (.int .u16 (.s fun _ => checkI leaf es)) [] := by
  refine con_of Try.func20 rfl rfl 11 _ rfl rfl rfl rfl ?_
  cbv
  refine ⟨_, _, con47 (leaf := leaf) (es := es) (by omega), ⟨?_⟩, ?_⟩
  · rfl
  cbv
  refine ⟨fun h1 => ?_, fun h1 => ?_⟩
  · have h1 : mayB leaf es = false := bnot_t h1
    have e1 : (90 : Int) = checkI leaf es := by unfold checkI; rw [h1]; rfl
    cbv
    refine ⟨[], [], ?_⟩
    cbv
    exact ⟨⟨e1⟩, ⟨rfl⟩⟩
  · have h1 : mayB leaf es = true := bnot_f h1
    have e0 : checkI leaf es = if 1008 < 2 + sizeL leaf es then 91 else 0 := by unfold checkI; rw [h1]; rfl
    cbv
    refine ⟨_, _, con21 (leaf := leaf) (es := es) hw, ⟨?_⟩, ?_⟩
    · rfl
    cbv
    refine ⟨fun h2 => ?_, fun h2 => ?_⟩
    · have h2 : (1008 : Int) < 2 + sizeL leaf es := of_decide_eq_true h2
      have e1 : (91 : Int) = checkI leaf es := by rw [e0, if_pos h2]
      cbv
      refine ⟨[], [], ?_⟩
      cbv
      exact ⟨⟨e1⟩, ⟨rfl⟩⟩
    · have h2 : ¬ (1008 : Int) < 2 + sizeL leaf es := of_decide_eq_false h2
      have e1 : (0 : Int) = checkI leaf es := by rw [e0, if_neg h2]
      cbv
      refine ⟨[], [], ?_⟩
      cbv
      exact ⟨⟨e1⟩, ⟨rfl⟩⟩

end Go.Proofs.Ytmdfjipjkkjpcaa

/- The reference's Encode. -/
namespace Go.Proofs.Ytmdfjipjkkjpcaa
open Go.SX

set_option maxRecDepth 20000 in
set_option maxHeartbeats 1000000 in
theorem con45 {bs : List UInt8} {n m : Nat} (hn : n < 18446744073709551616) (hm : m ≤ 8) (hl : bs.length < 1000000000000) :
    Con 45 [.own 1000, .int .u64 (.s fun _ => (n : Int)), .int .i64 (.s fun _ => (m : Int))] [(1000, .barr 5 fun _ => bs)] (.own 2000) [(1000, .dead), (2000, .barr 5 fun _ => bs ++ lowB n m)] := by
  refine con_of Try.func45 rfl rfl 22 _ rfl rfl rfl rfl ?_
  cbv
  refine ⟨Nat, [500], fun i => [(0, .own 500), (1, .int .u64 (.s fun _ => (lowN n i : Int))), (7, .int .i64 (.s fun _ => (i : Int)))], fun i => [(1000, .dead), (500, .barr 5 fun _ => bs ++ lowB n i)],
    fun i => i ≤ m, fun i => m - i, 0, [(500, some 1000)], Nat.zero_le _, ⟨?_⟩, fun i hi => ?_⟩
  · cbv
    exact ⟨⟨⟨rfl⟩, ⟨rfl⟩, trivial⟩, ⟨⟨(List.append_nil bs).symm⟩, trivial⟩, ⟨rfl⟩⟩
  · have hi : i ≤ m := hi
    have hlen := lowB_length i n
    cbv
    refine And.intro ?_ ?_
    · intro h1
      have h1 : (i : Int) < (m : Int) := of_decide_eq_true h1
      have hlt : i < m := by omega
      have b2 : bound64 ((i : Int) + 1) := by unfold bound64; omega
      have b1 : lenOk ((bs ++ lowB n i).length + 1) 1 := by unfold lenOk; simp only [List.length_append, hlen]; omega
      have e4 : (i : Int) + 1 = ((i + 1 : Nat) : Int) := by omega
      have d0 : ¬ (256 : Int) = 0 := by decide
      have tm : (lowN n i : Int).tmod 256 = ((lowN n i % 256 : Nat) : Int) := by rw [Int.tmod_eq_emod_of_nonneg (by omega)]; omega
      have b0 := u8_range ((lowN n i : Int).tmod 256)
      have e1 : UInt8.ofNat (IntKind.u8.wrap ((lowN n i : Int).tmod 256)).toNat = UInt8.ofNat (lowN n i) := by
        rw [tm, u8_wrap]; apply UInt8.toNat.inj; simp only [UInt8.toNat_ofNat']; omega
      have e2 := lowB_succ i n
      have e3 : IntKind.u64.wrap ((lowN n i : Int).tdiv 256) = ((lowN n (i + 1) : Nat) : Int) := by
        have := lowN_le i n
        rw [lowN_succ, IntKind.wrap_u64, Int.tdiv_eq_ediv_of_nonneg (by omega)]; omega
      have e5 : (bs ++ lowB n i) ++ [UInt8.ofNat (IntKind.u8.wrap ((lowN n i : Int).tmod 256)).toNat] = bs ++ lowB n (i + 1) := by rw [e1, e2, List.append_assoc]
      have hms : m - (i + 1) < m - i := by omega
      have hlt : i + 1 ≤ m := hlt
      clear h1 tm
      cbv
      refine ⟨⟨d0⟩, ⟨⟨b0, trivial⟩, b1⟩, ⟨d0⟩, ⟨b2⟩, i + 1, [(500, some 18)], hlt, hms, ⟨?_⟩, ⟨?_⟩⟩
      · kernel_rfl
      · cbv
        and_intros
        all_goals first | exact trivial | exact ⟨rfl⟩ | exact ⟨e3⟩ | exact ⟨e4⟩ | exact ⟨e5⟩ | exact ⟨by kernel_rfl⟩
    · intro h1
      have h1 : ¬ ((i : Int) < (m : Int)) := of_decide_eq_false h1
      have hle : i = m := by omega
      subst hle
      cbv
      refine ⟨[(2000, some 500)], [], ?_⟩
      cbv
      exact ⟨⟨⟨rfl⟩, trivial⟩, ⟨rfl⟩⟩
set_option maxRecDepth 20000 in
set_option maxHeartbeats 1000000 in
theorem con45n {n m : Nat} (hn : n < 18446744073709551616) (hm : m ≤ 8) :
    Con 45 [.nil, .int .u64 (.s fun _ => (n : Int)), .int .i64 (.s fun _ => (m : Int))] [] (.own 2000) [(2000, .barr 5 fun _ => lowB n m)] := by
  refine con_of Try.func45 rfl rfl 22 _ rfl rfl rfl rfl ?_
  cbv
  refine ⟨Nat, [500], fun i => [(0, .own 500), (1, .int .u64 (.s fun _ => (lowN n i : Int))), (7, .int .i64 (.s fun _ => (i : Int)))], fun i => [(500, .barr 5 fun _ => lowB n i)],
    fun i => i ≤ m, fun i => m - i, 0, [(500, none)], Nat.zero_le _, ⟨?_⟩, fun i hi => ?_⟩
  · cbv
    exact ⟨⟨⟨rfl⟩, ⟨rfl⟩, trivial⟩, ⟨⟨rfl⟩, trivial⟩, ⟨rfl⟩⟩
  · have hi : i ≤ m := hi
    have hlen := lowB_length i n
    cbv
    refine And.intro ?_ ?_
    · intro h1
      have h1 : (i : Int) < (m : Int) := of_decide_eq_true h1
      have hlt : i < m := by omega
      have b2 : bound64 ((i : Int) + 1) := by unfold bound64; omega
      have b1 : lenOk ((lowB n i).length + 1) 1 := by unfold lenOk; rw [hlen]; omega
      have e4 : (i : Int) + 1 = ((i + 1 : Nat) : Int) := by omega
      have d0 : ¬ (256 : Int) = 0 := by decide
      have tm : (lowN n i : Int).tmod 256 = ((lowN n i % 256 : Nat) : Int) := by rw [Int.tmod_eq_emod_of_nonneg (by omega)]; omega
      have b0 := u8_range ((lowN n i : Int).tmod 256)
      have e1 : UInt8.ofNat (IntKind.u8.wrap ((lowN n i : Int).tmod 256)).toNat = UInt8.ofNat (lowN n i) := by
        rw [tm, u8_wrap]; apply UInt8.toNat.inj; simp only [UInt8.toNat_ofNat']; omega
      have e2 := lowB_succ i n
      have e3 : IntKind.u64.wrap ((lowN n i : Int).tdiv 256) = ((lowN n (i + 1) : Nat) : Int) := by
        have := lowN_le i n
        rw [lowN_succ, IntKind.wrap_u64, Int.tdiv_eq_ediv_of_nonneg (by omega)]; omega
      have e5 : lowB n i ++ [UInt8.ofNat (IntKind.u8.wrap ((lowN n i : Int).tmod 256)).toNat] = lowB n (i + 1) := by rw [e1, e2]
      have hms : m - (i + 1) < m - i := by omega
      have hlt : i + 1 ≤ m := hlt
      clear h1 tm
      cbv
      refine ⟨⟨d0⟩, ⟨⟨b0, trivial⟩, b1⟩, ⟨d0⟩, ⟨b2⟩, i + 1, [(500, some 18)], hlt, hms, ⟨?_⟩, ⟨?_⟩⟩
      · kernel_rfl
      · cbv
        and_intros
        all_goals first | exact trivial | exact ⟨rfl⟩ | exact ⟨e3⟩ | exact ⟨e4⟩ | exact ⟨e5⟩ | exact ⟨by kernel_rfl⟩
    · intro h1
      have h1 : ¬ ((i : Int) < (m : Int)) := of_decide_eq_false h1
      have hle : i = m := by omega
      subst hle
      cbv
      refine ⟨[(2000, some 500)], [], ?_⟩
      cbv
      exact ⟨⟨⟨rfl⟩, trivial⟩, ⟨rfl⟩⟩

theorem con45l {bs : List UInt8} {z : Int} (hz : 0 ≤ z ∧ z < 4294967296) (hl : bs.length < 1000000000000) :
    Con 45 [.own 1000, .int .u64 (.s fun _ => IntKind.u64.wrap z), .int .i64 (.l 4)] [(1000, .barr 5 fun _ => bs)] (.own 2000) [(1000, .dead), (2000, .barr 5 fun _ => bs ++ lowB z.toNat 4)] := by
  obtain ⟨n, rfl⟩ := Int.eq_ofNat_of_zero_le hz.1
  have e : IntKind.u64.wrap (n : Int) = (n : Int) := by rw [IntKind.wrap_u64]; omega
  rw [e]
  exact Con.lit (a := [.own 1000, .int .u64 (.s fun _ => (n : Int))]) (con45 (m := 4) (by omega) (by decide) hl)
theorem con45nl {z : Int} (hz : 0 ≤ z ∧ z < 18446744073709551616) : Con 45 [.nil, .int .u64 (.s fun _ => IntKind.u64.wrap z), .int .i64 (.l 2)] [] (.own 2000) [(2000, .barr 5 fun _ => lowB z.toNat 2)] := by
  obtain ⟨n, rfl⟩ := Int.eq_ofNat_of_zero_le hz.1
  have e : IntKind.u64.wrap (n : Int) = (n : Int) := by rw [IntKind.wrap_u64]; omega
  rw [e]
  exact Con.lit (a := [.nil, .int .u64 (.s fun _ => (n : Int))]) (con45n (m := 2) (by omega) (by decide))
end Go.Proofs.Ytmdfjipjkkjpcaa

/- The reference's Encode. -/
namespace Go.Proofs.Ytmdfjipjkkjpcaa
open Go.SX

set_option maxRecDepth 20000 in
set_option maxHeartbeats 1000000 in
theorem con17 {leaf : Bool} {es : List Ent} (hp : ∀ e ∈ es, EntOk e) (hw : weight es + 20 * es.length < 1000000000000) :
    Con 17 [nodeSV leaf es] [] (.tup [.dat (.bytes fun _ => encB leaf es), .int .u16 (.s fun _ => checkI leaf es)]) [] := by
  refine con_of Try.func17 rfl rfl 79 _ rfl rfl rfl rfl ?_
  cbv
  refine ⟨_, _, con20 (leaf := leaf) (es := es) hw, ⟨?_⟩, ?_⟩
  · rfl
  cbv
  refine And.intro ?_ ?_
  · intro h1
    have h1 : ¬ checkI leaf es = 0 := of_decide_eq_false (bnot_t h1)
    have e1 : encB leaf es = [] := by unfold encB; rw [if_neg h1]
    clear h1
    cbv
    refine ⟨[], [], ?_⟩
    cbv
    and_intros
    all_goals first | exact trivial | exact ⟨rfl⟩ | exact ⟨e1⟩ | exact ⟨e1.symm⟩ | exact ⟨by kernel_rfl⟩
  · intro h1
    have h1 : checkI leaf es = 0 := of_decide_eq_true (bnot_f h1)
    obtain ⟨hm, hs⟩ := checkI_ok h1
    have hl := sizeL_len leaf es
    have w2 : 0 ≤ (es.length : Int) ∧ (es.length : Int) < 18446744073709551616 := by omega
    have e0 : lowB (es.length : Int).toNat 2 = encTo leaf es 0 := by rw [Int.toNat_natCast]; simp [encTo, entsB]
    have c0 := con45nl w2
    rw [e0] at c0
    clear e0
    cbv
    refine ⟨_, _, c0, ⟨?_⟩, ?_⟩
    · rfl
    cbv
    refine ⟨Nat, [500], fun i => [(5, .own 500), (6, .int .i64 (.s fun _ => (i : Int)))], fun i => [(1, .cells 24 [.bool (.s fun _ => leaf), .dat (entsDV es)]), (500, .barr 5 fun _ => encTo leaf es i)],
      fun i => i ≤ es.length, fun i => es.length - i, 0, [(500, some 4700)], Nat.zero_le _, ⟨?_⟩, fun i hi => ?_⟩
    · cbv
      and_intros
      all_goals first | exact trivial | exact ⟨rfl⟩ | exact ⟨rfl, fun _ _ _ _ => rfl⟩ | exact ⟨by kernel_rfl⟩
    · have hi : i ≤ es.length := hi
      cbv
      refine And.intro ?_ ?_
      · intro h2
        have h2 : (i : Int) < (es.length : Int) := of_decide_eq_true h2
        have hlt : i < es.length := by omega
        have o1 : indexObl (i : Int) es.length := ⟨by omega, h2⟩
        have hE := entOk_at hp hlt
        have hL := encTo_length (i := i) hs
        have hN := encTo_next (leaf := leaf) hlt
        have hL' := encTo_length (i := i + 1) hs
        have hB := entB_length leaf (es.getD i default)
        rw [hN, List.length_append] at hL'
        have b0 := u8_range ((es.getD i default).key.length : Int)
        have b1 : lenOk ((encTo leaf es i).length + 1) 1 := by unfold lenOk; omega
        have b2 : lenOk ((encTo leaf es i ++ [UInt8.ofNat (IntKind.u8.wrap ((es.getD i default).key.length : Int)).toNat]).length + (es.getD i default).key.length) 1 := by
          have : (es.getD i default).key.length < (entB leaf (es.getD i default)).length := by unfold entB; simp only [List.length_cons, List.length_append]; omega
          unfold lenOk; simp only [List.length_append, List.length_cons, List.length_nil]; omega
        have l1 : (encTo leaf es i ++ [UInt8.ofNat (IntKind.u8.wrap ((es.getD i default).key.length : Int)).toNat] ++ (es.getD i default).key).length ≤ 4000 := by
          have : (es.getD i default).key.length < (entB leaf (es.getD i default)).length := by unfold entB; simp only [List.length_cons, List.length_append]; omega
          simp only [List.length_append, List.length_cons, List.length_nil]; omega
        have bi : bound64 ((i : Int) + 1) := by unfold bound64; omega
        have ei : (i : Int) + 1 = ((i + 1 : Nat) : Int) := by omega
        have hms : es.length - (i + 1) < es.length - i := by omega
        have hltS : i + 1 ≤ es.length := hlt
        clear h2
        cbv
        refine ⟨⟨o1⟩, ?_⟩
        cbv
        refine ⟨⟨⟨b0, trivial⟩, b1⟩, ?_⟩
        cbv
        refine ⟨⟨trivial, b2⟩, ?_⟩
        cbv
        refine And.intro ?_ ?_
        · intro h3
          have h3 : leaf = false := bnot_t h3
          have e5 := (enc_page (encTo leaf es i) (e := es.getD i default) h3).trans hN.symm
          have cp := con45l (bs := encTo leaf es i ++ [UInt8.ofNat (IntKind.u8.wrap ((es.getD i default).key.length : Int)).toNat] ++ (es.getD i default).key) hE.1 (Nat.lt_of_le_of_lt l1 (by decide))
          cbv
          refine ⟨_, _, cp, ⟨?_⟩, ?_⟩
          · kernel_rfl
          cbv
          refine ⟨⟨bi⟩, i + 1, [(500, some 9200)], hltS, hms, ⟨?_⟩, ⟨?_⟩⟩
          · kernel_rfl
          · cbv
            and_intros
            all_goals first | exact trivial | exact ⟨rfl⟩ | exact ⟨ei⟩ | exact ⟨e5⟩ | exact ⟨e5.symm⟩ | exact ⟨rfl, fun _ _ _ _ => rfl⟩ | exact ⟨by kernel_rfl⟩
        · intro h3
          have h3 : leaf = true := bnot_f h3
          cbv
          refine And.intro ?_ ?_
          · intro h4
            have h4 : (es.getD i default).page = 0 := of_decide_eq_true h4
            have e5 := (enc_val (encTo leaf es i) (e := es.getD i default) h3 h4).trans hN.symm
            have b3 := u8_range ((es.getD i default).val.length : Int)
            have lE : 2 + (es.getD i default).key.length + (es.getD i default).val.length = (entB leaf (es.getD i default)).length := by
              unfold entB; simp only [h3, h4, if_true, List.length_cons, List.length_append]; omega
            have b4 : lenOk ((encTo leaf es i ++ [UInt8.ofNat (IntKind.u8.wrap ((es.getD i default).key.length : Int)).toNat] ++ (es.getD i default).key).length + 1) 1 := len1 l1
            have lV : (es.getD i default).val.length ≤ 1008 := by omega
            have b5 : lenOk ((encTo leaf es i ++ [UInt8.ofNat (IntKind.u8.wrap ((es.getD i default).key.length : Int)).toNat] ++ (es.getD i default).key ++ [UInt8.ofNat (IntKind.u8.wrap ((es.getD i default).val.length : Int)).toNat]).length + (es.getD i default).val.length) 1 := len4 l1 lV
            cbv
            refine ⟨⟨⟨b3, trivial⟩, b4⟩, ?_⟩
            cbv
            refine ⟨⟨trivial, b5⟩, ?_⟩
            cbv
            refine ⟨⟨bi⟩, i + 1, [(500, some 77)], hltS, hms, ⟨?_⟩, ⟨?_⟩⟩
            · kernel_rfl
            · cbv
              and_intros
              all_goals first | exact trivial | exact ⟨rfl⟩ | exact ⟨ei⟩ | exact ⟨e5⟩ | exact ⟨e5.symm⟩ | exact ⟨rfl, fun _ _ _ _ => rfl⟩ | exact ⟨by kernel_rfl⟩
          · intro h4
            have h4 : ¬ (es.getD i default).page = 0 := of_decide_eq_false h4
            have e5 := (enc_big (encTo leaf es i) (e := es.getD i default) h3 h4).trans hN.symm
            have b3 : (0 : Int) ≤ 255 ∧ (255 : Int) < 256 := by decide
            have b4 : lenOk ((encTo leaf es i ++ [UInt8.ofNat (IntKind.u8.wrap ((es.getD i default).key.length : Int)).toNat] ++ (es.getD i default).key).length + 1) 1 := len1 l1
            have l2 : (encTo leaf es i ++ [UInt8.ofNat (IntKind.u8.wrap ((es.getD i default).key.length : Int)).toNat] ++ (es.getD i default).key ++ [UInt8.ofNat (255 : Int).toNat]).length ≤ 5000 := len2 l1
            have l3 : (encTo leaf es i ++ [UInt8.ofNat (IntKind.u8.wrap ((es.getD i default).key.length : Int)).toNat] ++ (es.getD i default).key ++ [UInt8.ofNat (255 : Int).toNat] ++ lowB (es.getD i default).size.toNat 4).length ≤ 6000 := len3 l2
            have cs := con45l hE.2 (Nat.lt_of_le_of_lt l2 (by decide))
            have cp := con45l hE.1 (Nat.lt_of_le_of_lt l3 (by decide))
            cbv
            refine ⟨⟨⟨b3, trivial⟩, b4⟩, ?_⟩
            cbv
            refine ⟨_, _, cs, ⟨?_⟩, ?_⟩
            · kernel_rfl
            cbv
            refine ⟨_, _, cp, ⟨?_⟩, ?_⟩
            · kernel_rfl
            cbv
            refine ⟨⟨bi⟩, i + 1, [(500, some 8300)], hltS, hms, ⟨?_⟩, ⟨?_⟩⟩
            · kernel_rfl
            · cbv
              and_intros
              all_goals first | exact trivial | exact ⟨rfl⟩ | exact ⟨ei⟩ | exact ⟨e5⟩ | exact ⟨e5.symm⟩ | exact ⟨rfl, fun _ _ _ _ => rfl⟩ | exact ⟨by kernel_rfl⟩
      · intro h2
        have h2 : ¬ ((i : Int) < (es.length : Int)) := of_decide_eq_false h2
        have hle : i = es.length := by omega
        subst hle
        have e1 : encTo leaf es es.length = encB leaf es := by unfold encB encTo nodeB; rw [if_pos h1, List.take_length]
        clear h2
        cbv
        refine ⟨[], [500], ?_⟩
        cbv
        and_intros
        all_goals first | exact trivial | exact ⟨rfl⟩ | exact ⟨e1⟩ | exact ⟨e1.symm⟩ | exact ⟨h1.symm⟩ | exact ⟨by kernel_rfl⟩
end Go.Proofs.Ytmdfjipjkkjpcaa

/- SX: raw memory whose blocks are known, one by one; what each raw operation does to it. -/
namespace Go.SX

/-- Blocks: a number, its elements' type, its cells. -/
abbrev Mem := List (Nat × Nat × List Value)
def memΦ (v0 : Value) (H : Mem) (w : World) (v : Value) (B : List Nat) : Prop := v = v0 ∧ B = H.map (·.1) ∧ B.Nodup ∧ ∀ p ∈ H, HasRow w p.1 p.2.1 p.2.2
/-- A value that leads to raw memory, or that memory's own value. -/
def IsV (k : Nat) (v0 : Value) (a : SV) (va : Value) : Prop := a = .rv k (fun _ => va) ∨ (a = .own k ∧ va = v0)
/-- An address in raw memory, or of its first block. -/
def IsP (H : Mem) (a : SV) (b o : Nat) : Prop := a = .rv 1000 (fun _ => .pointer (some ⟨b, o, none⟩)) ∨ (a = .loc 1000 o ∧ ∃ T cs r, H = (b, T, cs) :: r)
/-- A block gets other cells. -/
def putB (H : Mem) (b : Nat) (cs : List Value) : Mem := H.map fun p => if p.1 = b then (p.1, p.2.1, cs) else p

theorem putB_names (H : Mem) (b : Nat) (cs : List Value) : (putB H b cs).map (·.1) = H.map (·.1) := by
  unfold putB
  rw [List.map_map]
  apply List.map_congr_left
  intro p _
  simp only [Function.comp]
  split <;> rfl
theorem putB_mem {H : Mem} {b T : Nat} {cs cs' : List Value} (h : (b, T, cs) ∈ H) : (b, T, cs') ∈ putB H b cs' := by
  unfold putB
  exact List.mem_map.2 ⟨_, h, by simp⟩
theorem putB_other {H : Mem} {b : Nat} {cs' : List Value} {p : Nat × Nat × List Value} (h : p ∈ H) (hp : p.1 ≠ b) : p ∈ putB H b cs' := by
  unfold putB
  exact List.mem_map.2 ⟨_, h, by simp [hp]⟩
theorem putB_in {H : Mem} {b : Nat} {cs' : List Value} {p : Nat × Nat × List Value} (h : p ∈ putB H b cs') : (p ∈ H ∧ p.1 ≠ b) ∨ ∃ cs, (p.1, p.2.1, cs) ∈ H ∧ p.1 = b ∧ p.2.2 = cs' := by
  unfold putB at h
  obtain ⟨q, hq, rfl⟩ := List.mem_map.1 h
  split
  · rename_i e; exact .inr ⟨q.2.2, hq, e, rfl⟩
  · rename_i e; exact .inl ⟨hq, e⟩
theorem mem_eq {H : Mem} (hn : (H.map (·.1)).Nodup) {p q : Nat × Nat × List Value} (hp : p ∈ H) (hq : q ∈ H) (h : p.1 = q.1) : p = q := by
  induction H with
  | nil => cases hp
  | cons x H ih =>
    obtain ⟨n1, n2⟩ := List.nodup_cons.1 hn
    rcases List.mem_cons.1 hp with h1 | h1
    · rcases List.mem_cons.1 hq with h2 | h2
      · rw [h1, h2]
      · exact absurd (List.mem_map.2 ⟨q, h2, by rw [← h, h1]⟩ : x.1 ∈ H.map (·.1)) n1
    · rcases List.mem_cons.1 hq with h2 | h2
      · exact absurd (List.mem_map.2 ⟨p, h1, by rw [h, h2]⟩ : x.1 ∈ H.map (·.1)) n1
      · exact ih n2 h1 h2

section
variable {P : Program} {E : Env} {η : OEnv} {G : Nat → Prop} {w : World}

theorem mem_at {objs : Objs} (hob : ∀ k, ObjOpt η G w (lookN k objs) (η k)) {k : Nat} {d : Option DV} {v0 : Value} {H : Mem} (hk : lookN k objs = some (.cust d (fun _ => memΦ v0 H))) :
    ∃ o, η k = some o ∧ o.dead = false ∧ o.inner = [] ∧ o.val = v0 ∧ o.main = H.map (·.1) ∧ (H.map (·.1)).Nodup ∧ ∀ p ∈ H, HasRow w p.1 p.2.1 p.2.2 := by
  have h := hob k
  rw [hk] at h
  cases ho : η k with
  | none => rw [ho] at h; exact h.elim
  | some o =>
    rw [ho] at h
    simp only [ObjOpt, ObjRel] at h
    obtain ⟨h2, h3, h4⟩ := h
    obtain ⟨q1, q2, q3, q4⟩ := (h4 w fun _ _ => rfl).1
    exact ⟨o, rfl, h2, h3, q1, q2, q2 ▸ q3, q4⟩

theorem isV_eq {k : Nat} {v0 va v : Value} {a : SV} (h : IsV k v0 a va) {o : OInfo} (ho : η k = some o) (hd : o.dead = false) (hv0 : o.val = v0) (hv : SVRel η G w a v) : v = va := by
  rcases h with rfl | ⟨rfl, rfl⟩
  · simp only [SVRel] at hv; exact hv.1
  · simp only [SVRel] at hv
    obtain ⟨o', ho', _, h⟩ := hv
    rw [ho] at ho'; cases ho'
    rw [h hd, hv0]

theorem isP_eq {H : Mem} {b oo : Nat} {v : Value} {a : SV} (h : IsP H a b oo) {o : OInfo} (ho : η 1000 = some o) (hd : o.dead = false) (hm : o.main = H.map (·.1)) (hv : SVRel η G w a v) : v = .pointer (some ⟨b, oo, none⟩) := by
  rcases h with rfl | ⟨rfl, T, cs, r, rfl⟩
  · simp only [SVRel] at hv; exact hv.1
  · simp only [SVRel] at hv
    obtain ⟨o', ho', _, h⟩ := hv
    rw [ho] at ho'; cases ho'
    obtain ⟨b', hb', rfl⟩ := h hd
    obtain ⟨t, ht⟩ := hb'
    rw [hm] at ht
    cases ht; rfl

/-- A look: nothing changes. -/
theorem raw_look {f : Nat} {svs : List SV} {objs : Objs} {r : SV} {s : Array Value → Sem Value} (hf : rawSem f = some s)
    (h : ∀ (η : OEnv) (G : Nat → Prop) (vs : List Value) (w : World), (∀ k, ObjOpt η G w (lookN k objs) (η k)) → SVRels η G w svs vs → ∃ v, (s ⟨vs⟩).run P w = .ok v w ∧ SVRel η G w r v) : SpecG P f svs objs Unit (fun _ => r) (fun _ => objs) := by
  intro η G vs w hsep hob hs
  obtain ⟨v, hr, hv⟩ := h η G vs w hob hs
  unfold RunsX
  rw [hf]
  exact ⟨v, w, hr, (), η, G, hv, hob, hsep, Evol.refl η G w⟩

/-- One object is changed, the others are taken into it. -/
theorem raw_upd {objs : Objs} (hsep : Sep η G w) (hob : ∀ k, ObjOpt η G w (lookN k objs) (η k)) {k : Nat} {o : OInfo} (hk : η k = some o) (hd : o.dead = false) (hin : o.inner = []) {ks : List Nat} (hkk : k ∉ ks) (hkob : lookN k objs ≠ none) (hks : ∀ j ∈ ks, lookN j objs ≠ none)
    (hall : ∀ j, j ≠ k → j ∉ ks → lookN j objs = none) {w' : World} (hos : w'.os = w.os) (htp : w'.tape = w.tape) (hou : w'.output = w.output) (hsz : w.heap.size ≤ w'.heap.size)
    (hother : ∀ b, b < w.heap.size → b ∉ o.main → w'.heap[b]? = w.heap[b]?) (extra : List Nat) (hex : ∀ b ∈ extra, b < w'.heap.size ∧ (w.heap.size ≤ b ∨ ∃ j ∈ ks, ∃ oj, η j = some oj ∧ b ∈ oj.main ++ oj.inner))
    {X : TObj} (hX : ObjRel (updE (killE η ks) k ⟨o.val, o.main ++ extra, [], false⟩) G w' X ⟨o.val, o.main ++ extra, [], false⟩) {objs' : Objs} (ho' : ∀ j, lookN j objs' = if j = k then some X else if j ∈ ks then some .dead else none) :
    (∀ j, ObjOpt (updE (killE η ks) k ⟨o.val, o.main ++ extra, [], false⟩) G w' (lookN j objs') (updE (killE η ks) k ⟨o.val, o.main ++ extra, [], false⟩ j)) ∧
      Sep (updE (killE η ks) k ⟨o.val, o.main ++ extra, [], false⟩) G w' ∧ Evol η G w (updE (killE η ks) k ⟨o.val, o.main ++ extra, [], false⟩) G w' := by
  have hnone : ∀ j, j ≠ k → j ∉ ks → η j = none := fun j h1 h2 => by
    have h := hob j
    rw [hall j h1 h2] at h
    cases hj : η j with
    | none => rfl
    | some oj => rw [hj] at h; exact h.elim
  have hnew : ∀ j oj, updE (killE η ks) k ⟨o.val, o.main ++ extra, [], false⟩ j = some oj → (j = k ∧ oj = ⟨o.val, o.main ++ extra, [], false⟩) ∨ (j ≠ k ∧ oj = deadInfo) := by
    intro j oj hj
    by_cases e : j = k
    · subst e; rw [updE_same] at hj; cases hj; exact .inl ⟨rfl, rfl⟩
    · rw [updE_other _ _ e] at hj
      rcases killE_in hj with ⟨_, rfl, _⟩ | ⟨h1, h2⟩
      · exact .inr ⟨e, rfl⟩
      · rw [hnone j e h1] at h2; cases h2
  refine ⟨fun j => ?_, ⟨?_, ?_, ?_, ?_⟩, ⟨hos, htp, hou, hsz, fun b hb hn => hother b hb fun hm => hn k o hk (by simp [hm]), ?_, fun _ h => h, fun _ h => .inl h, ?_⟩⟩
  · rw [ho' j]
    by_cases e : j = k
    · subst e; rw [if_pos rfl, updE_same]; exact hX
    · rw [if_neg e, updE_other _ _ e]
      by_cases e2 : j ∈ ks
      · rw [if_pos e2]
        unfold killE
        rw [if_pos e2]
        have h := hob j
        cases h1 : lookN j objs with
        | none => exact absurd h1 (hks j e2)
        | some x =>
          rw [h1] at h
          cases h2 : η j with
          | none => rw [h2] at h; exact h.elim
          | some oj => simp only [Option.map_some, ObjOpt, ObjRel, deadInfo]; exact ⟨trivial, trivial, trivial⟩
      · rw [if_neg e2]
        unfold killE
        rw [if_neg e2, hnone j e e2]; trivial
  · intro j oj hj b hb
    rcases hnew j oj hj with ⟨rfl, rfl⟩ | ⟨_, rfl⟩
    · simp only [List.append_nil, List.mem_append] at hb
      rcases hb with hb | hb
      · have := hsep.lt j o hk b (by simp [hb])
        exact ⟨by omega, this.2⟩
      · obtain ⟨h1, h2⟩ := hex b hb
        refine ⟨h1, fun hg => ?_⟩
        rcases h2 with h2 | ⟨j', _, oj, hoj, hm⟩
        · have := hsep.glt b hg; omega
        · exact (hsep.lt j' oj hoj b hm).2 hg
    · simp [deadInfo] at hb
  · intro j oj j' oj' hj hj' hne b hb hb'
    rcases hnew j oj hj with ⟨rfl, rfl⟩ | ⟨_, rfl⟩
    · rcases hnew j' oj' hj' with ⟨rfl, rfl⟩ | ⟨_, rfl⟩
      · exact hne rfl
      · simp [deadInfo] at hb'
    · simp [deadInfo] at hb
  · intro j oj hj b hb
    rcases hnew j oj hj with ⟨rfl, rfl⟩ | ⟨_, rfl⟩
    · simp
    · simp [deadInfo]
  · intro b hb
    have := hsep.glt b hb
    omega
  · intro j oj hj
    by_cases e : j = k
    · subst e
      rw [hk] at hj; cases hj
      exact ⟨_, updE_same _ _ _, fun _ => ⟨hd, rfl, ⟨extra, rfl⟩, fun b hb => by rw [hin] at hb; cases hb⟩⟩
    · obtain ⟨o2, h2, h3⟩ := killE_some (ks := ks) hj
      refine ⟨o2, by rw [updE_other _ _ e]; exact h2, fun hdd => ?_⟩
      obtain ⟨hn, rfl⟩ := h3 hdd
      rw [hnone j e hn] at hj; cases hj
  · intro j oj hj b hb
    rcases hnew j oj hj with ⟨rfl, rfl⟩ | ⟨_, rfl⟩
    · simp only [List.append_nil, List.mem_append] at hb
      rcases hb with hb | hb
      · exact .inr ⟨j, o, hk, by simp [hb]⟩
      · rcases (hex b hb).2 with h | ⟨j', _, oj, hoj, hm⟩
        · exact .inl h
        · exact .inr ⟨j', oj, hoj, hm⟩
    · simp [deadInfo] at hb

theorem mem_rel {η' : OEnv} {G' : Nat → Prop} {w' : World} {v0 : Value} {H' : Mem} {B : List Nat} (hB : B = H'.map (·.1)) (hn : B.Nodup) (hr : ∀ p ∈ H', HasRow w' p.1 p.2.1 p.2.2) : ObjRel η' G' w' (.cust none (fun _ => memΦ v0 H')) ⟨v0, B, [], false⟩ :=
  ⟨rfl, rfl, fun w2 hw2 => ⟨⟨rfl, hB, hn, fun p hp => by
    have hb : p.1 ∈ B := by rw [hB]; exact List.mem_map.2 ⟨p, hp, rfl⟩
    unfold HasRow; rw [hw2 _ hb]; exact hr p hp⟩, fun x hx => by cases hx⟩⟩

theorem putB_rows {w : World} {H : Mem} {b T : Nat} {cs cs' : List Value} (hn : (H.map (·.1)).Nodup) (hr : ∀ p ∈ H, HasRow w p.1 p.2.1 p.2.2) (hm : (b, T, cs) ∈ H) : ∀ p ∈ putB H b cs', HasRow (w.setRow b cs'.toArray) p.1 p.2.1 p.2.2 := by
  intro p hp
  rcases putB_in hp with ⟨h1, h2⟩ | ⟨cs2, h1, h2, h3⟩
  · unfold HasRow; rw [setRow_other w b _ _ h2]; exact hr p h1
  · have e := mem_eq hn h1 hm h2
    simp only [Prod.mk.injEq] at e
    have hrow := hr _ hm
    have := setRow_has (cs' := cs') hrow
    rw [h3, h2, e.2.1]; exact this

/-- A cell is loaded. -/
theorem mem_load (hE : EOk P E) {T b o Tb : Nat} {ti : TI} {v0 u : Value} {H : Mem} {cs : List Value} {a r : SV} (ha : IsP H a b o) (hti : E.ti T = some ti) (hag : ti.td.isAgg = false) (hm : (b, Tb, cs) ∈ H) (hu : cs[o]? = some u) (hr : ∀ (η : OEnv) (G : Nat → Prop) (w : World), SVRel η G w r u) :
    SpecG P (rawC 0 T) [a] [(1000, .cust none (fun _ => memΦ v0 H))] Unit (fun _ => r) (fun _ => [(1000, .cust none (fun _ => memΦ v0 H))]) := by
  refine raw_look (rawSem_rawC (by omega)) fun η G vs w hob hs => ?_
  match vs, hs with
  | [v1], hs =>
    simp only [SVRels] at hs
    obtain ⟨oi, ho, hd, _, _, hmain, _, hrows⟩ := mem_at hob (k := 1000) rfl
    obtain rfl := isP_eq ha ho hd hmain hs.1
    have hrow := hrows _ hm
    refine ⟨u, ?_, hr η G w⟩
    exact run_loadVar_one (hE T ti hti) hag b o u (by rw [cell_cells hrow]; simpa using hu)
  | [], h => exact h.elim
  | _ :: _ :: _, h => exact h.2.elim

/-- An element's address. -/
theorem mem_idx (hE : EOk P E) {T e b o n c i : Nat} {te : TI} {v0 : Value} {H : Mem} {a : SV} {z : Int} (ht : P.underlying T = some (.slice e)) (he : E.ti e = some te) (ha : IsV 1000 v0 a (.slice (some ⟨b, o, none⟩) n c)) (hz : z = (i : Int)) (hi : i < n) :
    SpecG P (rawC 2 T) [a, .int .i64 (.s fun _ => z)] [(1000, .cust none (fun _ => memΦ v0 H))] Unit (fun _ => .rv 1000 fun _ => .pointer (some ⟨b, o + i * te.size, none⟩)) (fun _ => [(1000, .cust none (fun _ => memΦ v0 H))]) := by
  subst hz
  refine raw_look (rawSem_rawC (by omega)) fun η G vs w hob hs => ?_
  match vs, hs with
  | [v1, v2], hs =>
    simp only [SVRels] at hs
    obtain ⟨h1, h2, -⟩ := hs
    simp only [SVRel, IE.den_s] at h2
    subst h2
    obtain ⟨oi, ho, hd, _, hv0, _, _, hrows⟩ := mem_at hob (k := 1000) rfl
    obtain rfl := isV_eq ha ho hd hv0 h1
    refine ⟨_, run_indexAt hE ht he b o n c .i64 (i : Int) (by omega) (by omega), ?_⟩
    simp [SVRel, Value.oneCell']
  | [], h => exact h.elim
  | [_], h => exact h.2.elim
  | _ :: _ :: _ :: _, h => exact h.2.2.elim

/-- A length. -/
theorem mem_len {T e n c : Nat} {p : Option Addr} {v0 : Value} {H : Mem} {a : SV} (ht : P.underlying T = some (.slice e)) (ha : IsV 1000 v0 a (.slice p n c)) :
    SpecG P (rawC 4 T) [a] [(1000, .cust none (fun _ => memΦ v0 H))] Unit (fun _ => .int .i64 (.s fun _ => (n : Int))) (fun _ => [(1000, .cust none (fun _ => memΦ v0 H))]) := by
  refine raw_look (rawSem_rawC (by omega)) fun η G vs w hob hs => ?_
  match vs, hs with
  | [v1], hs =>
    simp only [SVRels] at hs
    obtain ⟨oi, ho, hd, _, hv0, _, _, hrows⟩ := mem_at hob (k := 1000) rfl
    obtain rfl := isV_eq ha ho hd hv0 hs.1
    refine ⟨.int .i64 (n : Int), ?_, by simp [SVRel]⟩
    simp [Builtin.len_, run_underlying ht, Builtin.lenOf, goInt]
  | [], h => exact h.elim
  | _ :: _ :: _, h => exact h.2.elim

theorem mem_cap {T e n c : Nat} {p : Option Addr} {v0 : Value} {H : Mem} {a : SV} (ht : P.underlying T = some (.slice e)) (ha : IsV 1000 v0 a (.slice p n c)) :
    SpecG P (rawC 5 T) [a] [(1000, .cust none (fun _ => memΦ v0 H))] Unit (fun _ => .int .i64 (.s fun _ => (c : Int))) (fun _ => [(1000, .cust none (fun _ => memΦ v0 H))]) := by
  refine raw_look (rawSem_rawC (by omega)) fun η G vs w hob hs => ?_
  match vs, hs with
  | [v1], hs =>
    simp only [SVRels] at hs
    obtain ⟨oi, ho, hd, _, hv0, _, _, hrows⟩ := mem_at hob (k := 1000) rfl
    obtain rfl := isV_eq ha ho hd hv0 hs.1
    refine ⟨.int .i64 (c : Int), ?_, by simp [SVRel]⟩
    simp [Builtin.cap_, run_underlying ht, goInt]
  | [], h => exact h.elim
  | _ :: _ :: _, h => exact h.2.elim

/-- A field's address. -/
theorem mem_field (hE : EOk P E) {S f b o off : Nat} {fs : List (Nat × Nat)} {ti : TI} {v0 : Value} {H : Mem} {a : SV} (hti : E.ti S = some ti) (htd : ti.td = .struct fs) (hf : f < fs.length) (h32 : f < 32) (hoff : (nthD fs f (0, 0)).2 = off) (ha : IsV 1000 v0 a (.pointer (some ⟨b, o, none⟩))) :
    SpecG P (rawC 8 (S * 32 + f)) [a] [(1000, .cust none (fun _ => memΦ v0 H))] Unit (fun _ => .rv 1000 fun _ => .pointer (some ⟨b, o + off, none⟩)) (fun _ => [(1000, .cust none (fun _ => memΦ v0 H))]) := by
  refine raw_look (rawSem_rawC (by omega)) fun η G vs w hob hs => ?_
  match vs, hs with
  | [v1], hs =>
    simp only [SVRels] at hs
    obtain ⟨oi, ho, hd, _, hv0, _, _, hrows⟩ := mem_at hob (k := 1000) rfl
    obtain rfl := isV_eq ha ho hd hv0 hs.1
    obtain ⟨d, hd, ht⟩ := (hE S ti hti).desc
    rw [htd] at ht
    obtain ⟨fields, rfl, hfo⟩ := ht
    obtain ⟨fd, j, h1, h2, h3, h4, h5, h6⟩ := fieldsOk_at f hfo hf
    refine ⟨.pointer (some ⟨b, o + off, none⟩), ?_, by simp [SVRel, Value.oneCell']⟩
    have e1 : (S * 32 + f) / 32 = S := by omega
    have e2 : (S * 32 + f) % 32 = f := by omega
    simp only [e1, e2]
    simp [Instr.fieldAt, run_underlying hd, h1, Instr.sureAddr, fieldPlace, sizeOf, typeInfo, h4, h6, add_none, h3, hoff]
  | [], h => exact h.elim
  | _ :: _ :: _, h => exact h.2.elim

/-- The first part of a slice. -/
theorem mem_cut {T e b n c m : Nat} {v0 : Value} {H : Mem} {a : SV} {zm : Int} {i : TypeInfo} (ht : P.underlying T = some (.slice e)) (hi : P.info? e = some i) (ha : IsV 1000 v0 a (.slice (some ⟨b, 0, none⟩) n c)) (hz : zm = (m : Int)) (hm : m ≤ c) :
    SpecG P (rawC 6 T) [a, .int .i64 (.s fun _ => zm)] [(1000, .cust none (fun _ => memΦ v0 H))] Unit (fun _ => .rv 1000 fun _ => .slice (some ⟨b, 0, none⟩) m c) (fun _ => [(1000, .cust none (fun _ => memΦ v0 H))]) := by
  subst hz
  refine raw_look (rawSem_rawC (by omega)) fun η G vs w hob hs => ?_
  match vs, hs with
  | [v1, v2], hs =>
    simp only [SVRels] at hs
    obtain ⟨h1, h2, -⟩ := hs
    simp only [SVRel, IE.den_s] at h2
    subst h2
    obtain ⟨oi, ho, hd, _, hv0, _, _, hrows⟩ := mem_at hob (k := 1000) rfl
    obtain rfl := isV_eq ha ho hd hv0 h1
    have hbd := run_bounds_hi (P := P) (w := w) (n := n) (k := .i64) hm
    refine ⟨.slice (some ⟨b, 0, none⟩) m c, ?_, by simp [SVRel, Value.oneCell']⟩
    simp [Instr.sliceAt, Instr.slice, run_underlying ht, hbd, sizeOf, typeInfo, hi]
    intro _; rw [add_none]
  | [], h => exact h.elim
  | [_], h => exact h.2.elim
  | _ :: _ :: _ :: _, h => exact h.2.2.elim

/-- Cells are written. -/
theorem mem_store (hE : EOk P E) {T b o Tb : Nat} {ti : TI} {v0 : Value} {H : Mem} {cs us : List Value} {a x : SV} (ha : IsP H a b o) (hti : E.ti T = some ti) (hm : (b, Tb, cs) ∈ H) (hfit : o + us.length ≤ cs.length) (hsz : us.length = ti.size) (hone : ∀ u ∈ us, u.oneCell' = true)
    (hx : ∀ (η : OEnv) (G : Nat → Prop) (w : World) (v : Value), SVRel η G w x v → v.cells.toList = us) :
    SpecG P (rawC 1 T) [a, x] [(1000, .cust none (fun _ => memΦ v0 H))] Unit (fun _ => .any)
      (fun _ => [(1000, .cust none (fun _ => memΦ v0 (putB H b (cs.take o ++ us ++ cs.drop (o + us.length)))))]) := by
  intro η G vs w hsep hob hs
  match vs, hs with
  | [v1, v2], hs =>
    simp only [SVRels] at hs
    obtain ⟨h1, h2, -⟩ := hs
    obtain ⟨oi, ho, hd, hin, hv0, hmain, hnd, hrows⟩ := mem_at hob (k := 1000) rfl
    obtain rfl := isP_eq ha ho hd hmain h1
    have hrow : w.heap[b]? = some (.cells ⟨cs⟩ Tb (0, 0)) := hrows _ hm
    have hcl := hx η G w v2 h2
    have hst := run_storeCells_at P b o Tb us 0 ⟨cs⟩ w hrow (by simpa using hfit) hone
    simp only [Nat.add_zero] at hst
    have hvs : v2.cells.size = ti.size := by rw [← hsz, ← hcl]; simp
    have hbm : b ∈ oi.main := by rw [hmain]; exact List.mem_map.2 ⟨_, hm, rfl⟩
    unfold RunsX
    rw [rawSem_rawC (by omega)]
    refine ⟨undef, w.setRow b (cs.take o ++ us ++ cs.drop (o + us.length)).toArray, ?_, (), ?_⟩
    · simp [Instr.storeAt, Instr.sureAddr, storeVar, sizeOf_run (hE T ti hti), hvs, hcl]
      simp only [List.append_assoc] at hst
      rw [hst]; rfl
    · have := raw_upd (w' := w.setRow b (cs.take o ++ us ++ cs.drop (o + us.length)).toArray) (objs' := [(1000, .cust none (fun _ => memΦ v0 (putB H b (cs.take o ++ us ++ cs.drop (o + us.length)))))]) (X := .cust none (fun _ => memΦ v0 (putB H b (cs.take o ++ us ++ cs.drop (o + us.length)))))
        hsep hob (k := 1000) ho hd hin (ks := []) (by simp) (by simp [lookN, eqN_refl]) (by simp) (fun j hj _ => by
          have : eqN 1000 j = false := decide_eq_false fun e => hj e.symm
          simp [lookN, this]) rfl rfl rfl (by simp) (fun b' _ hb' => setRow_other w b b' _ fun e => hb' (e ▸ hbm)) [] (by simp) (by
            rw [hv0]
            exact mem_rel (by rw [putB_names, hmain]; simp) (by rw [hmain]; simpa using hnd) (putB_rows hnd hrows hm)) (fun j => by
          by_cases e : j = 1000
          · subst e; simp [lookN, eqN_refl]
          · have : eqN 1000 j = false := decide_eq_false fun e' => e e'.symm
            simp [lookN, this, e])
      exact ⟨_, G, by simp [SVRel], this⟩
  | [], h => exact h.elim
  | [_], h => exact h.2.elim
  | _ :: _ :: _ :: _, h => exact h.2.2.elim

/-- A slice in raw memory: so many elements, room for so many, the elements' cells. -/
def SlM (H : Mem) (e s : Nat) (va : Value) (n c : Nat) (xs : List Value) : Prop :=
  (va = .slice none 0 0 ∧ n = 0 ∧ c = 0 ∧ xs = []) ∨ ∃ b cs, va = .slice (some ⟨b, 0, none⟩) n c ∧ (b, e, cs) ∈ H ∧ cs.length = c * s ∧ n ≤ c ∧ cs.take (n * s) = xs
/-- What 'append' leaves. -/
def App (H : Mem) (e s : Nat) (va : Value) (n c m : Nat) (xs news : List Value) (va' : Value) (H' : Mem) : Prop :=
  (H'.map (·.1)).Nodup ∧ ((n + m ≤ c ∧ ∃ b cs, va = .slice (some ⟨b, 0, none⟩) n c ∧ (b, e, cs) ∈ H ∧ va' = .slice (some ⟨b, 0, none⟩) (n + m) c ∧ H' = putB H b (cs.take (n * s) ++ news ++ cs.drop ((n + m) * s))) ∨
    (c < n + m ∧ ∃ g c' cs', g ∉ H.map (·.1) ∧ va' = .slice (some ⟨g, 0, none⟩) (n + m) c' ∧ H' = H ++ [(g, e, cs')] ∧ n + m ≤ c' ∧ c' ≤ maxLen ∧ cs'.length = c' * s ∧ cs'.take ((n + m) * s) = xs ++ news))

theorem run_append_more {T ty e n c m : Nat} {i : TypeInfo} {z : Value} (ht : P.underlying T = some (.slice e)) (hi : P.info? e = some i) (hz : i.zero = some z) (hzs : z.cells.size = i.size) (hbp : 0 < i.bytes) {v vy : Value} {xs news : List Value}
    (old : (v = .slice none 0 0 ∧ n = 0 ∧ c = 0 ∧ xs = []) ∨ ∃ b cs, v = .slice (some ⟨b, 0, none⟩) n c ∧ HasRow w b e cs ∧ cs.length = c * i.size ∧ n ≤ c ∧ cs.take (n * i.size) = xs) (hm : 0 < m) (rd : Rd w vy m news) (hl : news.length = m * i.size)
    (hbytes : (n + m) * i.bytes ≤ 140737488355328) (hg : c < n + m) :
    ∃ c' cs', (Builtin.append_ #[T, T] ty #[v, vy]).run P w = .ok (.slice (some ⟨w.heap.size, 0, none⟩) (n + m) c') (w.drew.alloc (.cells ⟨cs'⟩ e)) ∧ n + m ≤ c' ∧ c' ≤ maxLen ∧ cs'.length = c' * i.size ∧ cs'.take ((n + m) * i.size) = xs ++ news := by
  have h63 : n + m ≤ maxLen := by
    have : (n + m) * 1 ≤ (n + m) * i.bytes := Nat.mul_le_mul_left _ hbp
    simp only [maxLen]; omega
  obtain ⟨p, c2, rfl, hp⟩ := rd
  obtain ⟨a, rfl, hnews⟩ := hp (by omega)
  have hxl : xs.length = n * i.size := by
    rcases old with ⟨_, rfl, _, rfl⟩ | ⟨b, cs, _, _, h2, h3, rfl⟩
    · simp
    · have := Nat.mul_le_mul_right i.size h3
      rw [List.length_take]; omega
  have hlen : (xs ++ news).length = (n + m) * i.size := by rw [List.length_append, hxl, hl, Nat.add_mul]
  have grown : ∀ (old : Nat), old < n + m → n + m ≤ grownCap w (n + m) old e ∧ grownCap w (n + m) old e ≤ maxLen ∧
      (xs.toArray ++ news.toArray ++ Builtin.zeroCells z.cells (grownCap w (n + m) old e - (n + m))).toList.length = grownCap w (n + m) old e * i.size ∧
      (xs.toArray ++ news.toArray ++ Builtin.zeroCells z.cells (grownCap w (n + m) old e - (n + m))).toList.take ((n + m) * i.size) = xs ++ news := by
    intro old ho
    have hge := grownCap_ge w (n + m) old e
    refine ⟨hge, grownCap_le_maxLen w (n + m) old e h63, ?_, ?_⟩
    · rw [Array.length_toList]
      simp only [Array.size_append, List.size_toArray, size_zeroCells, hzs, hxl, hl, ← Nat.add_mul]
      congr 1
      omega
    · simp only [Array.toList_append, List.append_assoc]
      rw [← List.append_assoc, ← hlen]
      exact List.take_left
  rcases old with ⟨rfl, rfl, rfl, rfl⟩ | ⟨b, cs, rfl, hrow, hcl, hnc, htake⟩
  · have hr := run_append_nil (P := P) w T ty e i z ht hi hz a m c2 news hl hnews (by omega) (by simp only [maxLen] at h63; omega) (by have hb := hbytes; simp only [Nat.zero_add] at hb; omega)
    have hgr := grown 0 (by omega)
    simp only [Nat.zero_add, List.nil_append, Array.empty_append] at hgr ⊢
    exact ⟨_, _, hr, hgr⟩
  · have hrow' : w.heap[b]? = some (.cells ⟨cs⟩ e (0, 0)) := hrow
    have holds : ∀ j u, xs[j]? = some u → w.cell? ((⟨b, 0, none⟩ : Addr).add j) = some u := by
      intro j u hu
      rw [add_none, cell_cells hrow', Nat.zero_add]
      rw [← htake, List.getElem?_take] at hu
      split at hu
      · simpa using hu
      · cases hu
    have hr := run_append_grow (P := P) w T ty e i z ht hi hz ⟨b, 0, none⟩ n c xs hxl holds a m c2 news hl hnews (by omega) (by simp only [maxLen] at h63; omega) (growslice_fits (by omega) hbytes)
    exact ⟨_, _, hr, grown c (by omega)⟩

/-- One element behind a slice: in its room, or all anew. -/
theorem mem_app {T e n c s : Nat} {i : TypeInfo} {z v0 va : Value} {H : Mem} {xs news : List Value} {cells : List SV} (ht : P.underlying T = some (.slice e)) (hi : P.info? e = some i) (hz : i.zero = some z) (hzs : z.cells.size = i.size) (hs : i.size = s) (hs0 : 0 < s) (hbp : 0 < i.bytes)
    (old : SlM H e s va n c xs) (hl : news.length = s) (hone : ∀ u ∈ news, u.oneCell' = true) (hnews : ∀ (η : OEnv) (G : Nat → Prop) (w : World) (us : List Value), SVRels η G w cells us → us = news) (hbytes : (n + 1) * i.bytes ≤ 140737488355328) :
    SpecG P (rawC 3 T) [.rv 1000 (fun _ => va), .csl 1001 s 1] [(1000, .cust none (fun _ => memΦ v0 H)), (1001, .cells e cells)] {x : Value × Mem // App H e s va n c 1 xs news x.1 x.2} (fun x => .rv 1000 fun _ => x.1.1)
      (fun x => [(1000, .cust none (fun _ => memΦ v0 x.1.2)), (1001, .dead)]) := by
  subst hs
  intro η G vs w hsep hob hs
  match vs, hs with
  | [v1, v2], hs =>
    simp only [SVRels] at hs
    obtain ⟨h1, h2, -⟩ := hs
    simp only [SVRel] at h1
    obtain ⟨h1, _⟩ := h1
    have h1 : v1 = va := h1
    subst v1
    obtain ⟨oi, ho, hd, hin, hv0, hmain, hnd, hrows⟩ := mem_at hob (k := 1000) rfl
    have hc := hob 1001
    simp only [SVRel] at h2
    obtain ⟨o2, ho2, _, h2⟩ := h2
    rw [ho2] at hc
    have hc : ObjRel η G w (.cells e cells) o2 := hc
    obtain ⟨c1, c3, b2, us, hm2, hh2, hus⟩ := hc
    obtain ⟨b', hb', rfl⟩ := h2 c1
    obtain rfl := OInfo.at_one hm2 hb'
    obtain rfl := hnews η G w us hus
    have hrd : Rd w (.slice (some ⟨b2, 0, none⟩) 1 1) 1 us := ⟨_, _, rfl, fun _ => ⟨_, rfl, fun j u hj => by
      rw [add_none, cell_cells hh2, Nat.zero_add]; simpa using hj⟩⟩
    have hlt : ∀ b ∈ oi.main, b < w.heap.size := fun b hb => (hsep.lt 1000 oi ho b (by simp [hb])).1
    have hdead : ∀ (M : Mem) (j : Nat), lookN j [(1000, TObj.cust none (fun _ => memΦ v0 M)), (1001, .dead)] = if j = 1000 then some (.cust none (fun _ => memΦ v0 M)) else if j ∈ [1001] then some .dead else none := by
      intro M j
      by_cases e1 : j = 1000
      · subst e1; simp [lookN, eqN_refl]
      · have q1 : eqN 1000 j = false := decide_eq_false fun e => e1 e.symm
        by_cases e2 : j = 1001
        · subst e2; simp [lookN, q1, eqN_refl]
        · have q2 : eqN 1001 j = false := decide_eq_false fun e => e2 e.symm
          simp [lookN, q1, q2, e1, e2]
    have hall : ∀ j, j ≠ 1000 → j ∉ [1001] → lookN j [(1000, TObj.cust none (fun _ => memΦ v0 H)), (1001, .cells e cells)] = none := by
      intro j e1 e2
      have q1 : eqN 1000 j = false := decide_eq_false fun e => e1 e.symm
      have q2 : eqN 1001 j = false := decide_eq_false fun e => e2 (by simp [e])
      simp [lookN, q1, q2]
    have hk1 : ∀ j ∈ [1001], lookN j [(1000, TObj.cust none (fun _ => memΦ v0 H)), (1001, .cells e cells)] ≠ none := by
      intro j hj
      simp at hj; subst hj
      have q1 : eqN 1000 1001 = false := by decide
      simp [lookN, q1, eqN_refl]
    unfold RunsX
    rw [rawSem_rawC (by omega)]
    have old' : (va = .slice none 0 0 ∧ n = 0 ∧ c = 0 ∧ xs = []) ∨ ∃ b cs, va = .slice (some ⟨b, 0, none⟩) n c ∧ HasRow w b e cs ∧ cs.length = c * i.size ∧ n ≤ c ∧ cs.take (n * i.size) = xs := by
      rcases old with h | ⟨b, cs, q1, q2, q3⟩
      · exact .inl h
      · exact .inr ⟨b, cs, q1, hrows _ q2, q3⟩
    by_cases hroom : n + 1 ≤ c
    · rcases old with ⟨_, rfl, rfl, _⟩ | ⟨b, cs, rfl, hm, hcl, hnc, htake⟩
      · omega
      · have hr := run_room (P := P) (ty := T) ht hi (by omega) (hrows _ hm) hcl hroom hrd (by omega) hone
        have hbm : b ∈ oi.main := by rw [hmain]; exact List.mem_map.2 ⟨_, hm, rfl⟩
        have hu := raw_upd (w' := w.setRow b (cs.take (n * i.size) ++ us ++ cs.drop ((n + 1) * i.size)).toArray) (X := .cust none (fun _ => memΦ v0 (putB H b (cs.take (n * i.size) ++ us ++ cs.drop ((n + 1) * i.size)))))
          (objs' := [(1000, .cust none (fun _ => memΦ v0 (putB H b (cs.take (n * i.size) ++ us ++ cs.drop ((n + 1) * i.size))))), (1001, .dead)])
          hsep hob (k := 1000) ho hd hin (ks := [1001]) (by simp) (by simp [lookN, eqN_refl]) hk1 hall rfl rfl rfl (by simp) (fun b' _ hb' => setRow_other w b b' _ fun e => hb' (e ▸ hbm)) [] (by simp) (by
            rw [hv0]
            exact mem_rel (by rw [putB_names, hmain]; simp) (by rw [hmain]; simpa using hnd) (putB_rows hnd hrows hm)) (hdead _)
        have hx : App H e i.size (.slice (some ⟨b, 0, none⟩) n c) n c 1 xs us (.slice (some ⟨b, 0, none⟩) (n + 1) c) (putB H b (cs.take (n * i.size) ++ us ++ cs.drop ((n + 1) * i.size))) :=
          ⟨by rw [putB_names]; exact hnd, .inl ⟨hroom, b, cs, rfl, hm, rfl, rfl⟩⟩
        exact ⟨_, _, hr, ⟨(_, _), hx⟩, _, G, by simp [SVRel, Value.oneCell'], hu⟩
    · obtain ⟨c', cs', hr, g1, g2, g3, g4⟩ := run_append_more (P := P) (ty := T) ht hi hz hzs hbp old' (by omega) hrd (by omega) hbytes (by omega)
      have hng : w.heap.size ∉ H.map (·.1) := fun h => by have := hlt _ (hmain ▸ h); omega
      have hnd' : ((H ++ [(w.heap.size, e, cs')]).map (·.1)).Nodup := by
        rw [List.map_append]
        exact List.nodup_append.2 ⟨hnd, by simp, fun x hx y hy exy => by simp at hy; subst exy; subst hy; exact hng hx⟩
      have hu := raw_upd (w' := w.drew.alloc (.cells ⟨cs'⟩ e)) (X := .cust none (fun _ => memΦ v0 (H ++ [(w.heap.size, e, cs')])))
        (objs' := [(1000, .cust none (fun _ => memΦ v0 (H ++ [(w.heap.size, e, cs')]))), (1001, .dead)])
        hsep hob (k := 1000) ho hd hin (ks := [1001]) (by simp) (by simp [lookN, eqN_refl]) hk1 hall rfl rfl rfl (by simp) (fun b' hb' _ => heap_alloc_old w.drew _ hb') [w.heap.size] (fun b hb => by simp at hb; subst hb; exact ⟨by simp, .inl (Nat.le_refl _)⟩) (by
          rw [hv0]
          refine mem_rel (by rw [List.map_append, hmain]; rfl) (by rw [hmain]; simpa [List.map_append] using hnd') fun p hp => ?_
          rcases List.mem_append.1 hp with hp | hp
          · unfold HasRow
            rw [heap_alloc_old w.drew _ (hlt _ (by rw [hmain]; exact List.mem_map.2 ⟨p, hp, rfl⟩))]
            exact hrows p hp
          · simp at hp; subst hp
            exact heap_alloc_new w.drew _) (hdead _)
      have hx : App H e i.size va n c 1 xs us (.slice (some ⟨w.heap.size, 0, none⟩) (n + 1) c') (H ++ [(w.heap.size, e, cs')]) :=
        ⟨hnd', .inr ⟨by omega, w.heap.size, c', cs', hng, rfl, rfl, g1, g2, g3, g4⟩⟩
      exact ⟨_, _, hr, ⟨(_, _), hx⟩, _, G, by simp [SVRel, Value.oneCell'], hu⟩
  | [], h => exact h.elim
  | [_], h => exact h.2.elim
  | _ :: _ :: _ :: _, h => exact h.2.2.elim
end
end Go.SX

/- SX: raw memory of which something is known; raw operations keep what is known, or change it. -/
namespace Go.SX

/-- Raw memory of which Q is known. -/
def exΦ (v0 : Value) (Q : Mem → Prop) (w : World) (v : Value) (B : List Nat) : Prop := ∃ H, Q H ∧ (H.map (·.1)).Nodup ∧ memΦ v0 H w v B

section
variable {P : Program} {E : Env} {η : OEnv} {G : Nat → Prop} {w : World}

theorem mem_stay {v0 v : Value} {H : Mem} {B : List Nat} {w w' : World} (h : memΦ v0 H w v B) (hw : ∀ b ∈ B, w'.heap[b]? = w.heap[b]?) : memΦ v0 H w' v B := by
  obtain ⟨h1, h2, h3, h4⟩ := h
  exact ⟨h1, h2, h3, fun p hp => by unfold HasRow; rw [hw _ (by rw [h2]; exact List.mem_map.2 ⟨p, hp, rfl⟩)]; exact h4 p hp⟩

/-- What is known of raw memory, looked into. -/
theorem cust_open {d : Option DV} {Φ : World → Value → List Nat → Prop} {v0 : Value} {Q : Mem → Prop} (hΦ : ∀ w v B, Φ w v B → exΦ v0 Q w v B) {o : OInfo} (h : ObjRel η G w (.cust d (fun _ => Φ)) o) :
    ∃ H, Q H ∧ (H.map (·.1)).Nodup ∧ ObjRel η G w (.cust none (fun _ => memΦ v0 H)) o := by
  obtain ⟨h1, h2, h3⟩ := h
  obtain ⟨H, hq, hn, hm⟩ := hΦ _ _ _ (h3 w fun _ _ => rfl).1
  exact ⟨H, hq, hn, h1, h2, fun w' hw' => ⟨mem_stay hm hw', fun x hx => by cases hx⟩⟩
theorem cust_close {v0 : Value} {H : Mem} {Φ : World → Value → List Nat → Prop} {o : OInfo} (h : ObjRel η G w (.cust none (fun _ => memΦ v0 H)) o) (hΦ : ∀ w v B, memΦ v0 H w v B → Φ w v B) : ObjRel η G w (.cust none (fun _ => Φ)) o := by
  obtain ⟨h1, h2, h3⟩ := h
  exact ⟨h1, h2, fun w' hw' => ⟨hΦ _ _ _ (h3 w' hw').1, fun x hx => by cases hx⟩⟩

/-- An object is looked at in another way ahead. -/
theorem specX_conv {f k : Nat} {svs : List SV} {X : TObj} {rest : Objs} {r : SV} {objs' : Objs} {Y : Type} {F : Y → Prop} {X' : Y → TObj} (h : ∀ (η : OEnv) (G : Nat → Prop) (w : World) (o : OInfo), ObjRel η G w X o → ∃ y, F y ∧ ObjRel η G w (X' y) o)
    (hf : ∀ y, F y → SpecX P f svs ((k, X' y) :: rest) r objs') : SpecX P f svs ((k, X) :: rest) r objs' := by
  intro η G vs w hsep hob hs
  have hk := hob k
  simp only [lookN, eqN_refl, cond_true] at hk
  cases ho : η k with
  | none => rw [ho] at hk; exact hk.elim
  | some o =>
    rw [ho] at hk
    obtain ⟨y, hy, hy2⟩ := h η G w o hk
    refine hf y hy η G vs w hsep (fun j => ?_) hs
    by_cases e : j = k
    · subst e
      simp only [lookN, eqN_refl, cond_true, ho]; exact hy2
    · have q : eqN k j = false := decide_eq_false fun e' => e e'.symm
      have := hob j
      simp only [lookN, q, cond_false] at this ⊢
      exact this

theorem lookN_one {X : TObj} {j : Nat} : lookN j [(1000, X)] = if j = 1000 then some X else none := by
  by_cases e : j = 1000
  · subst e; simp [lookN, eqN_refl]
  · have q : eqN 1000 j = false := decide_eq_false fun e' => e e'.symm
    simp [lookN, q, e]

/-- A raw operation, by what is known. -/
theorem ex_op {f : Nat} {svs : List SV} {d : Option DV} {Φ Φ' : World → Value → List Nat → Prop} {v0 : Value} {Q : Mem → Prop} {r : SV} (hΦ : ∀ w v B, Φ w v B → exΦ v0 Q w v B)
    (h : ∀ H, Q H → (H.map (·.1)).Nodup → SpecG P f svs [(1000, .cust none (fun _ => memΦ v0 H))] Unit (fun _ => r) (fun _ => [(1000, .cust none (fun _ => memΦ v0 H))])) (hΦ' : ∀ H w v B, Q H → (H.map (·.1)).Nodup → memΦ v0 H w v B → Φ' w v B) :
    SpecX P f svs [(1000, .cust d (fun _ => Φ))] r [(1000, .cust none (fun _ => Φ'))] := by
  refine specX_conv (Y := Mem) (F := fun H => Q H ∧ (H.map (·.1)).Nodup) (X' := fun H => .cust none (fun _ => memΦ v0 H)) (fun η G w o ho => ?_) fun H ⟨hq, hn⟩ => ?_
  · obtain ⟨H, q1, q2, q3⟩ := cust_open hΦ ho
    exact ⟨H, ⟨q1, q2⟩, q3⟩
  · intro η G vs w hsep hob hs
    refine (h H hq hn η G vs w hsep hob hs).mono fun v w' ⟨_, η', G', h1, h2, h3⟩ => ⟨η', G', h1, fun j => ?_, h3⟩
    have := h2 j
    rw [lookN_one] at this ⊢
    by_cases e : j = 1000
    · rw [if_pos e] at this ⊢
      cases ho : η' j with
      | none => rw [ho] at this; exact this.elim
      | some o => rw [ho] at this; exact cust_close (η := η') (G := G') this fun w v B hm => hΦ' H w v B hq hn hm
    · rw [if_neg e] at this ⊢; exact this

theorem ex_id {v0 : Value} {Q : Mem → Prop} : ∀ (w : World) (v : Value) (B : List Nat), exΦ v0 Q w v B → exΦ v0 Q w v B := fun _ _ _ h => h
theorem ex_in {v0 : Value} {Q : Mem → Prop} : ∀ (H : Mem) (w : World) (v : Value) (B : List Nat), Q H → (H.map (·.1)).Nodup → memΦ v0 H w v B → exΦ v0 Q w v B := fun H _ _ _ h1 h2 h3 => ⟨H, h1, h2, h3⟩

theorem ex_load (hE : EOk P E) {T b o : Nat} {ti : TI} {v0 u : Value} {Q : Mem → Prop} {a r : SV} (hti : E.ti T = some ti) (hag : ti.td.isAgg = false) (hm : ∀ H, Q H → IsP H a b o ∧ ∃ Tb cs, (b, Tb, cs) ∈ H ∧ cs[o]? = some u) (hr : ∀ (η : OEnv) (G : Nat → Prop) (w : World), SVRel η G w r u) :
    SpecX P (rawC 0 T) [a] [(1000, .cust none (fun _ => exΦ v0 Q))] r [(1000, .cust none (fun _ => exΦ v0 Q))] :=
  ex_op ex_id (fun H hq _ => by obtain ⟨h1, Tb, cs, h2, h3⟩ := hm H hq; exact mem_load hE h1 hti hag h2 h3 hr) ex_in
theorem ex_idx (hE : EOk P E) {T e b o n c i : Nat} {te : TI} {v0 : Value} {Q : Mem → Prop} {a : SV} {z : Int} (ht : P.underlying T = some (.slice e)) (he : E.ti e = some te) (ha : IsV 1000 v0 a (.slice (some ⟨b, o, none⟩) n c)) (hz : z = (i : Int)) (hi : i < n) :
    SpecX P (rawC 2 T) [a, .int .i64 (.s fun _ => z)] [(1000, .cust none (fun _ => exΦ v0 Q))] (.rv 1000 fun _ => .pointer (some ⟨b, o + i * te.size, none⟩)) [(1000, .cust none (fun _ => exΦ v0 Q))] :=
  ex_op ex_id (fun _ _ _ => mem_idx hE ht he ha hz hi) ex_in
theorem ex_len {T e n c : Nat} {p : Option Addr} {v0 : Value} {Q : Mem → Prop} {a : SV} (ht : P.underlying T = some (.slice e)) (ha : IsV 1000 v0 a (.slice p n c)) :
    SpecX P (rawC 4 T) [a] [(1000, .cust none (fun _ => exΦ v0 Q))] (.int .i64 (.s fun _ => (n : Int))) [(1000, .cust none (fun _ => exΦ v0 Q))] :=
  ex_op ex_id (fun _ _ _ => mem_len ht ha) ex_in
theorem ex_cap {T e n c : Nat} {p : Option Addr} {v0 : Value} {Q : Mem → Prop} {a : SV} (ht : P.underlying T = some (.slice e)) (ha : IsV 1000 v0 a (.slice p n c)) :
    SpecX P (rawC 5 T) [a] [(1000, .cust none (fun _ => exΦ v0 Q))] (.int .i64 (.s fun _ => (c : Int))) [(1000, .cust none (fun _ => exΦ v0 Q))] :=
  ex_op ex_id (fun _ _ _ => mem_cap ht ha) ex_in
theorem ex_field (hE : EOk P E) {S f b o off : Nat} {fs : List (Nat × Nat)} {ti : TI} {v0 : Value} {Q : Mem → Prop} {a : SV} (hti : E.ti S = some ti) (htd : ti.td = .struct fs) (hf : f < fs.length) (h32 : f < 32) (hoff : (nthD fs f (0, 0)).2 = off) (ha : IsV 1000 v0 a (.pointer (some ⟨b, o, none⟩))) :
    SpecX P (rawC 8 (S * 32 + f)) [a] [(1000, .cust none (fun _ => exΦ v0 Q))] (.rv 1000 fun _ => .pointer (some ⟨b, o + off, none⟩)) [(1000, .cust none (fun _ => exΦ v0 Q))] :=
  ex_op ex_id (fun _ _ _ => mem_field hE hti htd hf h32 hoff ha) ex_in
theorem ex_cut {T e b n c m : Nat} {v0 : Value} {Q : Mem → Prop} {a : SV} {zm : Int} {i : TypeInfo} (ht : P.underlying T = some (.slice e)) (hi : P.info? e = some i) (ha : IsV 1000 v0 a (.slice (some ⟨b, 0, none⟩) n c)) (hz : zm = (m : Int)) (hm : m ≤ c) :
    SpecX P (rawC 6 T) [a, .int .i64 (.s fun _ => zm)] [(1000, .cust none (fun _ => exΦ v0 Q))] (.rv 1000 fun _ => .slice (some ⟨b, 0, none⟩) m c) [(1000, .cust none (fun _ => exΦ v0 Q))] :=
  ex_op ex_id (fun _ _ _ => mem_cut ht hi ha hz hm) ex_in
theorem ex_store (hE : EOk P E) {T b o : Nat} {ti : TI} {v0 : Value} {Q Q' : Mem → Prop} {us : List Value} {a x : SV} (hti : E.ti T = some ti) (hsz : us.length = ti.size) (hone : ∀ u ∈ us, u.oneCell' = true)
    (hx : ∀ (η : OEnv) (G : Nat → Prop) (w : World) (v : Value), SVRel η G w x v → v.cells.toList = us)
    (hm : ∀ H, Q H → (H.map (·.1)).Nodup → IsP H a b o ∧ ∃ Tb cs, (b, Tb, cs) ∈ H ∧ o + us.length ≤ cs.length ∧ Q' (putB H b (cs.take o ++ us ++ cs.drop (o + us.length)))) :
    SpecX P (rawC 1 T) [a, x] [(1000, .cust none (fun _ => exΦ v0 Q))] .any [(1000, .cust none (fun _ => exΦ v0 Q'))] := by
  refine specX_conv (Y := Mem) (F := fun H => Q H ∧ (H.map (·.1)).Nodup) (X' := fun H => .cust none (fun _ => memΦ v0 H)) (fun η G w o ho => ?_) fun H ⟨hq, hn⟩ => ?_
  · obtain ⟨H, q1, q2, q3⟩ := cust_open ex_id ho
    exact ⟨H, ⟨q1, q2⟩, q3⟩
  · obtain ⟨h1, Tb, cs, h2, h3, h4⟩ := hm H hq hn
    intro η G vs w hsep hob hs
    refine (mem_store hE h1 hti h2 h3 hsz hone hx η G vs w hsep hob hs).mono fun v w' ⟨_, η', G', k1, k2, k3⟩ => ⟨η', G', k1, fun j => ?_, k3⟩
    have := k2 j
    rw [lookN_one] at this ⊢
    by_cases e : j = 1000
    · rw [if_pos e] at this ⊢
      cases ho : η' j with
      | none => rw [ho] at this; exact this.elim
      | some o => rw [ho] at this; exact cust_close (η := η') (G := G') this fun w v B hm => ⟨_, h4, by rw [putB_names]; exact hn, hm⟩
    · rw [if_neg e] at this ⊢; exact this
end
end Go.SX

