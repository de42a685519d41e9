/- Node laws: the reference's Check. -/
import Derived.Test.YtmdfjipjkkjpcaaPo
namespace Go.Proofs.Ytmdfjipjkkjpcaa
open Go.SX

set_option maxRecDepth 20000 in
set_option maxHeartbeats 4000000 in
theorem con85 {a b : List UInt8} : Con 85 [.dat (.bytes fun _ => a), .dat (.bytes fun _ => b)] [] (.bool (.s fun _ => Op.bytesLess a b)) [] := by
  refine con_of Try.func85 rfl rfl 10 _ rfl rfl rfl rfl ?_
  cbv
  refine ⟨[], [], ?_⟩
  cbv
  and_intros
  all_goals first | exact trivial | exact ⟨rfl⟩ | exact ⟨rfl, fun _ _ _ _ => rfl⟩ | exact ⟨by kernel_rfl⟩

set_option maxRecDepth 20000 in
set_option maxHeartbeats 4000000 in
theorem con89 {e : Ent} : Con 89 [entSV e] [] (.bool (.s fun _ => kidB e)) [] := by
  refine con_of Try.func89 rfl rfl 22 _ rfl rfl rfl rfl ?_
  cbv
  refine ⟨fun h1 => ?_, fun h1 => ?_⟩
  · have h1 : (e.val.length : Int) = 0 := of_decide_eq_true h1
    have h1 : e.val.length = 0 := by omega
    cbv
    refine ⟨fun h2 => ?_, fun h2 => ?_⟩
    · have h2 : e.size = 0 := of_decide_eq_true h2
      cbv
      refine ⟨fun h3 => ?_, fun h3 => ?_⟩
      · have h3 : 2 ≤ e.page := of_decide_eq_true h3
        have e1 : decide (e.page < 16384) = kidB e := by simp [kidB, isPageB, h1, h2, h3]
        cbv
        refine ⟨[], [], ?_⟩
        cbv
        and_intros
        all_goals first | exact trivial | exact ⟨e1⟩ | exact ⟨rfl⟩ | exact ⟨rfl, fun _ _ _ _ => rfl⟩ | exact ⟨by kernel_rfl⟩
      · have h3 : ¬ 2 ≤ e.page := of_decide_eq_false h3
        have e1 : false = kidB e := by simp [kidB, isPageB, h1, h2, h3]
        cbv
        refine ⟨[], [], ?_⟩
        cbv
        and_intros
        all_goals first | exact trivial | exact ⟨e1⟩ | exact ⟨rfl⟩ | exact ⟨rfl, fun _ _ _ _ => rfl⟩ | exact ⟨by kernel_rfl⟩
    · have h2 : ¬ e.size = 0 := of_decide_eq_false h2
      have e1 : false = kidB e := by simp [kidB, h2]
      cbv
      refine ⟨[], [], ?_⟩
      cbv
      and_intros
      all_goals first | exact trivial | exact ⟨e1⟩ | exact ⟨rfl⟩ | exact ⟨rfl, fun _ _ _ _ => rfl⟩ | exact ⟨by kernel_rfl⟩
  · have h1 : ¬ (e.val.length : Int) = 0 := of_decide_eq_false h1
    have h1 : ¬ e.val.length = 0 := by omega
    have e1 : false = kidB e := by simp only [kidB, h1, decide_false, Bool.false_and]
    cbv
    refine ⟨[], [], ?_⟩
    cbv
    and_intros
    all_goals first | exact trivial | exact ⟨e1⟩ | exact ⟨rfl⟩ | exact ⟨rfl, fun _ _ _ _ => rfl⟩ | exact ⟨by kernel_rfl⟩

set_option maxRecDepth 20000 in
set_option maxHeartbeats 4000000 in
theorem con88 {e : Ent} : Con 88 [entSV e] [] (.bool (.s fun _ => leafyB e)) [] := by
  refine con_of Try.func88 rfl rfl 39 _ rfl rfl rfl rfl ?_
  cbv
  refine ⟨fun h1 => ?_, fun h1 => ?_⟩
  · have h1 : e.page = 0 := of_decide_eq_true h1
    have e0 : leafyB e = (decide (e.size = 0) && decide (e.val.length ≤ 64)) := if_pos h1
    cbv
    refine ⟨fun h2 => ?_, fun h2 => ?_⟩
    · have h2 : e.size = 0 := of_decide_eq_true h2
      have e2 : decide ((e.val.length : Int) ≤ 64) = decide (e.val.length ≤ 64) := decide_eq_decide.2 (by omega)
      have e1 : decide ((e.val.length : Int) ≤ 64) = leafyB e := by rw [e0, h2, e2]; rfl
      clear e0
      cbv
      refine ⟨[], [], ?_⟩
      cbv
      and_intros
      all_goals first | exact trivial | exact ⟨e1⟩ | exact ⟨rfl⟩ | exact ⟨rfl, fun _ _ _ _ => rfl⟩ | exact ⟨by kernel_rfl⟩
    · have h2 : ¬ e.size = 0 := of_decide_eq_false h2
      have e1 : false = leafyB e := by rw [e0]; simp only [h2, decide_false, Bool.false_and]
      clear e0
      cbv
      refine ⟨[], [], ?_⟩
      cbv
      and_intros
      all_goals first | exact trivial | exact ⟨e1⟩ | exact ⟨rfl⟩ | exact ⟨rfl, fun _ _ _ _ => rfl⟩ | exact ⟨by kernel_rfl⟩
  · have h1 : ¬ e.page = 0 := of_decide_eq_false h1
    have e0 : leafyB e = (decide (e.val.length = 0) && (isPageB e.page && (decide (64 < e.size) && decide (e.size ≤ 8192)))) := if_neg h1
    cbv
    refine ⟨fun h2 => ?_, fun h2 => ?_⟩
    · have h2 : (e.val.length : Int) = 0 := of_decide_eq_true h2
      have h2 : e.val.length = 0 := by omega
      cbv
      refine ⟨fun h3 => ?_, fun h3 => ?_⟩
      · have h3 : 2 ≤ e.page := of_decide_eq_true h3
        cbv
        refine ⟨fun h4 => ?_, fun h4 => ?_⟩
        · have h4 : e.page < 16384 := of_decide_eq_true h4
          have hpg : isPageB e.page = true := by simp [isPageB, h3, h4]
          have e0 : leafyB e = (decide (64 < e.size) && decide (e.size ≤ 8192)) := by rw [e0, h2, hpg]; rfl
          cbv
          refine ⟨fun h5 => ?_, fun h5 => ?_⟩
          · have h5 : 65 ≤ e.size := of_decide_eq_true h5
            have e1 : decide (e.size ≤ 8192) = leafyB e := by rw [e0, decide_eq_true (show 64 < e.size by omega)]; rfl
            cbv
            refine ⟨[], [], ?_⟩
            cbv
            and_intros
            all_goals first | exact trivial | exact ⟨e1⟩ | exact ⟨rfl⟩ | exact ⟨rfl, fun _ _ _ _ => rfl⟩ | exact ⟨by kernel_rfl⟩
          · have h5 : ¬ 65 ≤ e.size := of_decide_eq_false h5
            have e1 : false = leafyB e := by rw [e0, decide_eq_false (show ¬ 64 < e.size by omega)]; rfl
            cbv
            refine ⟨[], [], ?_⟩
            cbv
            and_intros
            all_goals first | exact trivial | exact ⟨e1⟩ | exact ⟨rfl⟩ | exact ⟨rfl, fun _ _ _ _ => rfl⟩ | exact ⟨by kernel_rfl⟩
        · have h4 : ¬ e.page < 16384 := of_decide_eq_false h4
          have hpg : isPageB e.page = false := by simp [isPageB, h4]
          have e1 : false = leafyB e := by rw [e0, h2, hpg]; rfl
          cbv
          refine ⟨[], [], ?_⟩
          cbv
          and_intros
          all_goals first | exact trivial | exact ⟨e1⟩ | exact ⟨rfl⟩ | exact ⟨rfl, fun _ _ _ _ => rfl⟩ | exact ⟨by kernel_rfl⟩
      · have h3 : ¬ 2 ≤ e.page := of_decide_eq_false h3
        have hpg : isPageB e.page = false := by simp [isPageB, h3]
        have e1 : false = leafyB e := by rw [e0, h2, hpg]; rfl
        cbv
        refine ⟨[], [], ?_⟩
        cbv
        and_intros
        all_goals first | exact trivial | exact ⟨e1⟩ | exact ⟨rfl⟩ | exact ⟨rfl, fun _ _ _ _ => rfl⟩ | exact ⟨by kernel_rfl⟩
    · have h2 : ¬ (e.val.length : Int) = 0 := of_decide_eq_false h2
      have h2 : ¬ e.val.length = 0 := by omega
      have e1 : false = leafyB e := by rw [e0]; simp only [h2, decide_false, Bool.false_and]
      clear e0 h2
      cbv
      refine ⟨[], [], ?_⟩
      cbv
      and_intros
      all_goals first | exact trivial | exact ⟨e1⟩ | exact ⟨rfl⟩ | exact ⟨rfl, fun _ _ _ _ => rfl⟩ | exact ⟨by kernel_rfl⟩

theorem con48 {leaf : Bool} {k v : List UInt8} {p s : Int} (h : k.length + v.length < 1000000000000) :
    Con 48 [.bool (.s fun _ => leaf), .agg [.dat (.bytes fun _ => k), .dat (.bytes fun _ => v), .int .u32 (.s fun _ => p), .int .u32 (.s fun _ => s)]] [] (.int .i64 (.s fun _ => bytesOfI leaf k v p)) [] := by
  refine con_of Try.func48 rfl rfl 26 _ rfl rfl rfl rfl ?_
  cbv
  refine ⟨fun h1 => ?_, fun h1 => ?_⟩
  · cbv
    refine ⟨⟨?_⟩, [], [], ?_⟩
    · simp only [bound64, IE.den, ncast]; omega
    · cbv
      refine ⟨⟨?_⟩, ⟨rfl⟩⟩
      simp only [IE.den, bytesOfI, ncast]
      rw [if_pos h1]
  · cbv
    refine ⟨fun h2 => ?_, fun h2 => ?_⟩
    · cbv
      refine ⟨⟨?_⟩, [], [], ?_⟩
      · simp only [bound64, IE.den, ncast]; omega
      · cbv
        refine ⟨⟨?_⟩, ⟨rfl⟩⟩
        simp only [Bool.not_eq_true', Bool.not_eq_false', decide_eq_true_eq, decide_eq_false_iff_not] at h1 h2
        simp only [IE.den] at h1 h2
        simp [IE.den, bytesOfI, ncast, h1, h2]
    · cbv
      refine ⟨⟨?_⟩, ⟨?_⟩, [], [], ?_⟩
      · simp only [bound64, IE.den, ncast]; omega
      · simp only [bound64, IE.den, ncast]; omega
      · cbv
        refine ⟨⟨?_⟩, ⟨rfl⟩⟩
        simp only [Bool.not_eq_true', Bool.not_eq_false', decide_eq_true_eq, decide_eq_false_iff_not] at h1 h2
        simp only [IE.den] at h1 h2
        simp [IE.den, bytesOfI, ncast, h1, h2]

set_option maxRecDepth 20000 in
set_option maxHeartbeats 4000000 in
theorem con21 {leaf : Bool} {es : List Ent} (h : weight es + 20 * es.length < 1000000000000) : Con 21 [nodeSV leaf es] [] (.int .i64 (.s fun _ => 2 + sizeL leaf es)) [] := by
  refine con_of Try.func21 rfl rfl 23 _ rfl rfl rfl rfl ?_
  cbv
  refine ⟨Nat, [], fun i => [(3, .int .i64 (.s fun _ => 2 + sizeL leaf (es.take i))), (4, .int .i64 (.s fun _ => (i : Int)))], fun _ => [(1, .cells 24 [.bool (.s fun _ => leaf), .dat (entsDV es)])],
    fun i => i ≤ es.length, fun i => es.length - i, 0, [], Nat.zero_le _, ⟨?_⟩, fun i hi => ?_⟩
  · cbv
    and_intros
    all_goals first | exact trivial | exact ⟨rfl⟩ | exact ⟨rfl, fun _ _ _ _ => rfl⟩ | exact ⟨by kernel_rfl⟩
  · have hi : i ≤ es.length := hi
    cbv
    refine ⟨fun h1 => ?_, fun h1 => ?_⟩
    · have h1 : (i : Int) < (es.length : Int) := of_decide_eq_true h1
      have hlt : i < es.length := by omega
      have o1 : indexObl (i : Int) es.length := ⟨by omega, h1⟩
      have hw := weight_take es hlt
      have hs := sizeL_le leaf (es.take i)
      have hs' := sizeL_le leaf (es.take (i + 1))
      have hnx : sizeL leaf (es.take (i + 1)) = sizeL leaf (es.take i) + bytesOfI leaf (es.getD i default).key (es.getD i default).val (es.getD i default).page := by
        rw [getD_take es hlt, sizeL_app]; simp only [sizeL]; omega
      have hm := sizeL_mono leaf (es := es) (i := i + 1)
      have hall := sizeL_le leaf es
      have b1 : bound64 ((2 + sizeL leaf (es.take i)) + bytesOfI leaf (es.getD i default).key (es.getD i default).val (es.getD i default).page) := by
        unfold bound64
        omega
      have b2 : bound64 ((i : Int) + 1) := by unfold bound64; omega
      have ei : (i : Int) + 1 = ((i + 1 : Nat) : Int) := by omega
      have es1 : (2 + sizeL leaf (es.take i)) + bytesOfI leaf (es.getD i default).key (es.getD i default).val (es.getD i default).page = 2 + sizeL leaf (es.take (i + 1)) := by rw [hnx]; omega
      have hms : es.length - (i + 1) < es.length - i := by omega
      have hen : (es.getD i default).key.length + (es.getD i default).val.length < 1000000000000 := by omega
      clear hs hs' h1 hnx hm hall
      cbv
      refine ⟨⟨o1⟩, ?_⟩
      refine ⟨_, _, con48 (leaf := leaf) hen, ⟨?_⟩, ?_⟩
      · kernel_rfl
      cbv
      refine ⟨⟨b1⟩, ⟨by kernel_rfl⟩, ?_⟩
      cbv
      refine ⟨⟨b2⟩, i + 1, [], hlt, hms, ⟨?_⟩, ⟨?_⟩⟩
      · kernel_rfl
      · cbv
        and_intros
        all_goals first | exact trivial | exact ⟨es1⟩ | exact ⟨ei⟩ | exact ⟨rfl⟩ | exact ⟨rfl, fun _ _ _ _ => rfl⟩ | exact ⟨by kernel_rfl⟩
    · have h1 : ¬ ((i : Int) < (es.length : Int)) := of_decide_eq_false h1
      have e1 : 2 + sizeL leaf (es.take i) = 2 + sizeL leaf es := by rw [List.take_of_length_le (by omega)]
      clear h1
      cbv
      refine ⟨[], [], ?_⟩
      cbv
      and_intros
      all_goals first | exact trivial | exact ⟨e1⟩ | exact ⟨rfl⟩ | exact ⟨rfl, fun _ _ _ _ => rfl⟩ | exact ⟨by kernel_rfl⟩

theorem put_key {ks : List Int} {x y : Int} : y ∈ putKey ks x ↔ y ∈ ks ∨ y = x := by
  unfold putKey
  cases hc : ks.contains x with
  | true =>
    simp only [cond_true]
    exact ⟨.inl, fun h => h.elim id fun e => e ▸ List.contains_iff_mem.1 hc⟩
  | false => simp
theorem seen_mem {l : List Ent} {x : Int} : x ∈ seenL l ↔ ∃ e ∈ l, e.page = x := by
  have key : ∀ (l : List Ent) (ks : List Int), x ∈ l.foldl (fun ks e => putKey ks e.page) ks ↔ x ∈ ks ∨ ∃ e ∈ l, e.page = x := by
    intro l
    induction l with
    | nil => intro ks; simp
    | cons e l ih =>
      intro ks
      simp only [List.foldl_cons, ih, put_key, List.mem_cons, exists_eq_or_imp]
      constructor
      · rintro ((h | h) | h)
        · exact .inl h
        · exact .inr (.inl h.symm)
        · exact .inr (.inr h)
      · rintro (h | h | h)
        · exact .inl (.inl h)
        · exact .inl (.inr h.symm)
        · exact .inr h
  simpa [seenL] using key l []
theorem getD_take_mem {α : Type} [Inhabited α] {l : List α} {k i : Nat} (h : k < i) (hl : k < l.length) : l.getD k default ∈ l.take i := by
  rw [List.getD_eq_getElem?_getD, List.getElem?_eq_getElem hl]
  exact List.mem_iff_getElem.2 ⟨k, by simp; omega, by simp⟩
theorem take_getD_mem {α : Type} [Inhabited α] {l : List α} {i : Nat} {x : α} (h : x ∈ l.take i) : ∃ a, a < i ∧ x = l.getD a default := by
  obtain ⟨a, ha, rfl⟩ := List.getElem_of_mem h
  simp only [List.length_take] at ha
  refine ⟨a, by omega, ?_⟩
  rw [List.getD_eq_getElem?_getD, List.getElem?_eq_getElem (by omega)]
  simp

set_option maxRecDepth 20000 in
set_option maxHeartbeats 4000000 in
theorem con47t {es : List Ent} (hl : es.length < 1000000000000) : Con 47 [nodeSV true es] [] (.bool (.s fun _ => mayB true es)) [] := by
  refine con_of Try.func47 rfl rfl 95 _ rfl rfl rfl rfl ?_
  cbv
  refine ⟨fun h0 => ?_, fun h0 => ?_⟩
  · have h0 : (es.length : Int) = 0 := of_decide_eq_true h0
    have e1 : false = mayB true es := by unfold mayB; rw [decide_eq_false (by omega : ¬ 0 < es.length), Bool.and_false]
    clear h0
    cbv
    refine ⟨[], [], ?_⟩
    cbv
    and_intros
    all_goals first | exact trivial | exact ⟨e1⟩ | exact ⟨rfl⟩ | exact ⟨rfl, fun _ _ _ _ => rfl⟩ | exact ⟨by kernel_rfl⟩
  · have h0 : ¬ (es.length : Int) = 0 := of_decide_eq_false h0
    have h0 : 0 < es.length := by omega
    cbv
    refine ⟨Nat, [], fun i => [(3, .int .i64 (.s fun _ => (i : Int)))], fun _ => [(1, .cells 24 [.bool .t, .dat (entsDV es)])],
      fun i => i ≤ es.length ∧ okTo true es i = true, fun i => es.length - i, 0, [], ⟨Nat.zero_le _, rfl⟩, ⟨?_⟩, fun i hx => ?_⟩
    · cbv
      and_intros
      all_goals first | exact trivial | exact ⟨rfl⟩ | exact ⟨rfl, fun _ _ _ _ => rfl⟩ | exact ⟨by kernel_rfl⟩
    · obtain ⟨hi, hok⟩ : i ≤ es.length ∧ okTo true es i = true := hx
      cbv
      refine ⟨fun h1 => ?_, fun h1 => ?_⟩
      · have h1 : (i : Int) < (es.length : Int) := of_decide_eq_true h1
        have hlt : i < es.length := by omega
        have o1 : indexObl (i : Int) es.length := ⟨by omega, h1⟩
        have b2 : bound64 ((i : Int) + 1) := by unfold bound64; omega
        have ei : (i : Int) + 1 = ((i + 1 : Nat) : Int) := by omega
        have hms : es.length - (i + 1) < es.length - i := by omega
        clear h1
        cbv
        refine ⟨⟨o1⟩, ?_⟩
        cbv
        refine ⟨fun hA => ?_, fun hA => ?_⟩
        · have hA : (i : Int) = 0 := of_decide_eq_true hA
          have hA : i = 0 := by omega
          have hc : (decide (i = 0) && !true) = false := by simp [hA]
          cbv
          refine ⟨fun hB => ?_, fun hB => ?_⟩
          · have hB : (false != decide (((es.getD i default).key.length : Int) = 0)) = true := hB
            have e1 : false = mayB true es := may_badK hlt (keyBad1 hc hB)
            clear hB
            cbv
            refine ⟨⟨by kernel_rfl⟩, ?_⟩
            cbv
            refine ⟨[], [], ?_⟩
            cbv
            and_intros
            all_goals first | exact trivial | exact ⟨e1⟩ | exact ⟨rfl⟩ | exact ⟨rfl, fun _ _ _ _ => rfl⟩ | exact ⟨by kernel_rfl⟩
          · have hB : (false != decide (((es.getD i default).key.length : Int) = 0)) = false := hB
            cbv
            refine ⟨fun hC => ?_, fun hC => ?_⟩
            · have hC : (160 : Int) < ((es.getD i default).key.length : Int) := of_decide_eq_true hC
              have e1 : false = mayB true es := may_badK hlt (keyBad2 hC)
              clear hC
              cbv
              refine ⟨⟨by kernel_rfl⟩, ?_⟩
              cbv
              refine ⟨[], [], ?_⟩
              cbv
              and_intros
              all_goals first | exact trivial | exact ⟨e1⟩ | exact ⟨rfl⟩ | exact ⟨rfl, fun _ _ _ _ => rfl⟩ | exact ⟨by kernel_rfl⟩
            · have hC : ¬ (160 : Int) < ((es.getD i default).key.length : Int) := of_decide_eq_false hC
              have hcmp : 0 < i → ¬ (0 : Int) ≤ Lib.compareBytes (es.getD (i - 1) default).key (es.getD i default).key := fun h => absurd h (by omega)
              cbv
              refine ⟨fun hD => ?_, fun hD => ?_⟩
              · have hD : (0 : Int) < (i : Int) := of_decide_eq_true hD
                exfalso
                omega
              · clear hD
                cbv
                refine ⟨⟨by kernel_rfl⟩, ?_⟩
                cbv
                refine ⟨_, _, con88, ⟨?_⟩, ?_⟩
                · kernel_rfl
                cbv
                refine ⟨fun hg => ?_, fun hg => ?_⟩
                · have hg : leafyB (es.getD i default) = false := bnot_t hg
                  have e1 : false = mayB true es := may_badK hlt (keyBad3 hg)
                  clear hg
                  cbv
                  refine ⟨[], [], ?_⟩
                  cbv
                  and_intros
                  all_goals first | exact trivial | exact ⟨e1⟩ | exact ⟨rfl⟩ | exact ⟨rfl, fun _ _ _ _ => rfl⟩ | exact ⟨by kernel_rfl⟩
                · have hg : leafyB (es.getD i default) = true := bnot_f hg
                  have hkey : keyBad true i (es.getD i default) = false := keyBad4 hc hB hC hg
                  clear hg
                  have hok' : okTo true es (i + 1) = true := okTo_next hok hkey (order3 hcmp (fun h => by cases h))
                  clear hkey hcmp
                  cbv
                  refine ⟨Unit, [], fun _ => [(6, .int .i64 (.l 0))], fun _ => [(1, .cells 24 [.bool .t, .dat (entsDV es)])], fun _ => True, fun _ => 0, (), [], trivial, ⟨?_⟩, fun _ _ => ?_⟩
                  · cbv
                    and_intros
                    all_goals first | exact trivial | exact ⟨rfl⟩ | exact ⟨rfl, fun _ _ _ _ => rfl⟩ | exact ⟨by kernel_rfl⟩
                  · cbv
                    refine ⟨fun hz => ?_, fun hz => ?_⟩
                    · cbv
                      refine ⟨⟨b2⟩, i + 1, [], ⟨hlt, hok'⟩, hms, ⟨?_⟩, ⟨?_⟩⟩
                      · kernel_rfl
                      · cbv
                        and_intros
                        all_goals first | exact trivial | exact ⟨ei⟩ | exact ⟨rfl⟩ | exact ⟨rfl, fun _ _ _ _ => rfl⟩ | exact ⟨by kernel_rfl⟩
                    · cbv
                      refine ⟨⟨b2⟩, i + 1, [], ⟨hlt, hok'⟩, hms, ⟨?_⟩, ⟨?_⟩⟩
                      · kernel_rfl
                      · cbv
                        and_intros
                        all_goals first | exact trivial | exact ⟨ei⟩ | exact ⟨rfl⟩ | exact ⟨rfl, fun _ _ _ _ => rfl⟩ | exact ⟨by kernel_rfl⟩
        · have hA : ¬ (i : Int) = 0 := of_decide_eq_false hA
          have hA : ¬ i = 0 := by omega
          have hc : (decide (i = 0) && !true) = false := by simp [hA]
          cbv
          refine ⟨fun hB => ?_, fun hB => ?_⟩
          · have hB : (false != decide (((es.getD i default).key.length : Int) = 0)) = true := hB
            have e1 : false = mayB true es := may_badK hlt (keyBad1 hc hB)
            clear hB
            cbv
            refine ⟨⟨by kernel_rfl⟩, ?_⟩
            cbv
            refine ⟨[], [], ?_⟩
            cbv
            and_intros
            all_goals first | exact trivial | exact ⟨e1⟩ | exact ⟨rfl⟩ | exact ⟨rfl, fun _ _ _ _ => rfl⟩ | exact ⟨by kernel_rfl⟩
          · have hB : (false != decide (((es.getD i default).key.length : Int) = 0)) = false := hB
            cbv
            refine ⟨fun hC => ?_, fun hC => ?_⟩
            · have hC : (160 : Int) < ((es.getD i default).key.length : Int) := of_decide_eq_true hC
              have e1 : false = mayB true es := may_badK hlt (keyBad2 hC)
              clear hC
              cbv
              refine ⟨⟨by kernel_rfl⟩, ?_⟩
              cbv
              refine ⟨[], [], ?_⟩
              cbv
              and_intros
              all_goals first | exact trivial | exact ⟨e1⟩ | exact ⟨rfl⟩ | exact ⟨rfl, fun _ _ _ _ => rfl⟩ | exact ⟨by kernel_rfl⟩
            · have hC : ¬ (160 : Int) < ((es.getD i default).key.length : Int) := of_decide_eq_false hC
              have bm : bound64 ((i : Int) - 1) := by unfold bound64; omega
              have om : indexObl ((i : Int) - 1) es.length := ⟨by omega, by omega⟩
              have em : ((i : Int) - 1).toNat = i - 1 := by omega
              cbv
              refine ⟨fun hD => ?_, fun hD => ?_⟩
              · clear hD
                cbv
                refine ⟨⟨bm⟩, ⟨om⟩, ?_⟩
                refine ⟨_, _, con85, ⟨?_⟩, ?_⟩
                · kernel_rfl
                cbv
                refine ⟨⟨by kernel_rfl⟩, ?_⟩
                cbv
                refine ⟨fun hE => ?_, fun hE => ?_⟩
                · have hE : Op.bytesLess (es.getD ((i : Int) - 1).toNat default).key (es.getD i default).key = false := bnot_t hE
                  rw [less_cmp, em] at hE
                  have hE : ¬ Lib.compareBytes (es.getD (i - 1) default).key (es.getD i default).key < 0 := of_decide_eq_false hE
                  have e1 : false = mayB true es := may_badO hlt (order1 (by omega) (by omega))
                  clear hE
                  cbv
                  refine ⟨[], [], ?_⟩
                  cbv
                  and_intros
                  all_goals first | exact trivial | exact ⟨e1⟩ | exact ⟨rfl⟩ | exact ⟨rfl, fun _ _ _ _ => rfl⟩ | exact ⟨by kernel_rfl⟩
                · have hE : Op.bytesLess (es.getD ((i : Int) - 1).toNat default).key (es.getD i default).key = true := bnot_f hE
                  rw [less_cmp, em] at hE
                  have hE : Lib.compareBytes (es.getD (i - 1) default).key (es.getD i default).key < 0 := of_decide_eq_true hE
                  have hcmp : 0 < i → ¬ (0 : Int) ≤ Lib.compareBytes (es.getD (i - 1) default).key (es.getD i default).key := fun _ => by omega
                  clear hE
                  cbv
                  refine ⟨_, _, con88, ⟨?_⟩, ?_⟩
                  · kernel_rfl
                  cbv
                  refine ⟨fun hg => ?_, fun hg => ?_⟩
                  · have hg : leafyB (es.getD i default) = false := bnot_t hg
                    have e1 : false = mayB true es := may_badK hlt (keyBad3 hg)
                    clear hg
                    cbv
                    refine ⟨[], [], ?_⟩
                    cbv
                    and_intros
                    all_goals first | exact trivial | exact ⟨e1⟩ | exact ⟨rfl⟩ | exact ⟨rfl, fun _ _ _ _ => rfl⟩ | exact ⟨by kernel_rfl⟩
                  · have hg : leafyB (es.getD i default) = true := bnot_f hg
                    have hkey : keyBad true i (es.getD i default) = false := keyBad4 hc hB hC hg
                    clear hg
                    have hok' : okTo true es (i + 1) = true := okTo_next hok hkey (order3 hcmp (fun h => by cases h))
                    clear hkey hcmp
                    cbv
                    refine ⟨Unit, [], fun _ => [(6, .int .i64 (.l 0))], fun _ => [(1, .cells 24 [.bool .t, .dat (entsDV es)])], fun _ => True, fun _ => 0, (), [], trivial, ⟨?_⟩, fun _ _ => ?_⟩
                    · cbv
                      and_intros
                      all_goals first | exact trivial | exact ⟨rfl⟩ | exact ⟨rfl, fun _ _ _ _ => rfl⟩ | exact ⟨by kernel_rfl⟩
                    · cbv
                      refine ⟨fun hz => ?_, fun hz => ?_⟩
                      · cbv
                        refine ⟨⟨b2⟩, i + 1, [], ⟨hlt, hok'⟩, hms, ⟨?_⟩, ⟨?_⟩⟩
                        · kernel_rfl
                        · cbv
                          and_intros
                          all_goals first | exact trivial | exact ⟨ei⟩ | exact ⟨rfl⟩ | exact ⟨rfl, fun _ _ _ _ => rfl⟩ | exact ⟨by kernel_rfl⟩
                      · cbv
                        refine ⟨⟨b2⟩, i + 1, [], ⟨hlt, hok'⟩, hms, ⟨?_⟩, ⟨?_⟩⟩
                        · kernel_rfl
                        · cbv
                          and_intros
                          all_goals first | exact trivial | exact ⟨ei⟩ | exact ⟨rfl⟩ | exact ⟨rfl, fun _ _ _ _ => rfl⟩ | exact ⟨by kernel_rfl⟩
              · have hD : ¬ (0 : Int) < (i : Int) := of_decide_eq_false hD
                exfalso
                omega
      · have h1 : ¬ (i : Int) < (es.length : Int) := of_decide_eq_false h1
        have hie : i = es.length := by omega
        have e1 : true = mayB true es := by unfold mayB; rw [← hie, hok, decide_eq_true (by omega : 0 < i)]; rfl
        clear h1
        cbv
        refine ⟨[], [], ?_⟩
        cbv
        and_intros
        all_goals first | exact trivial | exact ⟨e1⟩ | exact ⟨rfl⟩ | exact ⟨rfl, fun _ _ _ _ => rfl⟩ | exact ⟨by kernel_rfl⟩

set_option maxRecDepth 20000 in
set_option maxHeartbeats 4000000 in
theorem con47f {es : List Ent} (hl : es.length < 1000000000000) : Con 47 [nodeSV false es] [] (.bool (.s fun _ => mayB false es)) [] := by
  refine con_of Try.func47 rfl rfl 95 _ rfl rfl rfl rfl ?_
  cbv
  refine ⟨fun h0 => ?_, fun h0 => ?_⟩
  · have h0 : (es.length : Int) = 0 := of_decide_eq_true h0
    have e1 : false = mayB false es := by unfold mayB; rw [decide_eq_false (by omega : ¬ 0 < es.length), Bool.and_false]
    clear h0
    cbv
    refine ⟨[], [], ?_⟩
    cbv
    and_intros
    all_goals first | exact trivial | exact ⟨e1⟩ | exact ⟨rfl⟩ | exact ⟨rfl, fun _ _ _ _ => rfl⟩ | exact ⟨by kernel_rfl⟩
  · have h0 : ¬ (es.length : Int) = 0 := of_decide_eq_false h0
    have h0 : 0 < es.length := by omega
    cbv
    refine ⟨Nat, [], fun i => [(3, .int .i64 (.s fun _ => (i : Int)))], fun _ => [(1, .cells 24 [.bool .f, .dat (entsDV es)])],
      fun i => i ≤ es.length ∧ okTo false es i = true, fun i => es.length - i, 0, [], ⟨Nat.zero_le _, rfl⟩, ⟨?_⟩, fun i hx => ?_⟩
    · cbv
      and_intros
      all_goals first | exact trivial | exact ⟨rfl⟩ | exact ⟨rfl, fun _ _ _ _ => rfl⟩ | exact ⟨by kernel_rfl⟩
    · obtain ⟨hi, hok⟩ : i ≤ es.length ∧ okTo false es i = true := hx
      cbv
      refine ⟨fun h1 => ?_, fun h1 => ?_⟩
      · have h1 : (i : Int) < (es.length : Int) := of_decide_eq_true h1
        have hlt : i < es.length := by omega
        have o1 : indexObl (i : Int) es.length := ⟨by omega, h1⟩
        have b2 : bound64 ((i : Int) + 1) := by unfold bound64; omega
        have ei : (i : Int) + 1 = ((i + 1 : Nat) : Int) := by omega
        have hms : es.length - (i + 1) < es.length - i := by omega
        clear h1
        cbv
        refine ⟨⟨o1⟩, ?_⟩
        cbv
        refine ⟨fun hA => ?_, fun hA => ?_⟩
        · have hA : (i : Int) = 0 := of_decide_eq_true hA
          have hA : i = 0 := by omega
          have hc : (decide (i = 0) && !false) = true := by simp [hA]
          cbv
          refine ⟨fun hB => ?_, fun hB => ?_⟩
          · have hB : (true != decide (((es.getD i default).key.length : Int) = 0)) = true := hB
            have e1 : false = mayB false es := may_badK hlt (keyBad1 hc hB)
            clear hB
            cbv
            refine ⟨⟨by kernel_rfl⟩, ?_⟩
            cbv
            refine ⟨[], [], ?_⟩
            cbv
            and_intros
            all_goals first | exact trivial | exact ⟨e1⟩ | exact ⟨rfl⟩ | exact ⟨rfl, fun _ _ _ _ => rfl⟩ | exact ⟨by kernel_rfl⟩
          · have hB : (true != decide (((es.getD i default).key.length : Int) = 0)) = false := hB
            cbv
            refine ⟨fun hC => ?_, fun hC => ?_⟩
            · have hC : (160 : Int) < ((es.getD i default).key.length : Int) := of_decide_eq_true hC
              have e1 : false = mayB false es := may_badK hlt (keyBad2 hC)
              clear hC
              cbv
              refine ⟨⟨by kernel_rfl⟩, ?_⟩
              cbv
              refine ⟨[], [], ?_⟩
              cbv
              and_intros
              all_goals first | exact trivial | exact ⟨e1⟩ | exact ⟨rfl⟩ | exact ⟨rfl, fun _ _ _ _ => rfl⟩ | exact ⟨by kernel_rfl⟩
            · have hC : ¬ (160 : Int) < ((es.getD i default).key.length : Int) := of_decide_eq_false hC
              have hcmp : 0 < i → ¬ (0 : Int) ≤ Lib.compareBytes (es.getD (i - 1) default).key (es.getD i default).key := fun h => absurd h (by omega)
              cbv
              refine ⟨fun hD => ?_, fun hD => ?_⟩
              · have hD : (0 : Int) < (i : Int) := of_decide_eq_true hD
                exfalso
                omega
              · clear hD
                cbv
                refine ⟨⟨by kernel_rfl⟩, ?_⟩
                cbv
                refine ⟨_, _, con89, ⟨?_⟩, ?_⟩
                · kernel_rfl
                cbv
                refine ⟨fun hg => ?_, fun hg => ?_⟩
                · have hg : kidB (es.getD i default) = false := bnot_t hg
                  have e1 : false = mayB false es := may_badK hlt (keyBad3 hg)
                  clear hg
                  cbv
                  refine ⟨[], [], ?_⟩
                  cbv
                  and_intros
                  all_goals first | exact trivial | exact ⟨e1⟩ | exact ⟨rfl⟩ | exact ⟨rfl, fun _ _ _ _ => rfl⟩ | exact ⟨by kernel_rfl⟩
                · have hg : kidB (es.getD i default) = true := bnot_f hg
                  have hkey : keyBad false i (es.getD i default) = false := keyBad4 hc hB hC hg
                  clear hg
                  cbv
                  refine ⟨Nat, [], fun k => [(6, .int .i64 (.s fun _ => (k : Int)))], fun _ => [(1, .cells 24 [.bool .f, .dat (entsDV es)]), (4, .cells 74 [.dat (.bytes fun _ => (es.getD i default).key), .dat (.bytes fun _ => (es.getD i default).val), .int .u32 (.s fun _ => (es.getD i default).page), .int .u32 (.s fun _ => (es.getD i default).size)])],
                    fun k => k ≤ i ∧ ∀ a, a < k → (es.getD a default).page ≠ (es.getD i default).page, fun k => i - k, 0, [], ⟨Nat.zero_le _, fun a h => absurd h (Nat.not_lt_zero _)⟩, ⟨?_⟩, fun k hk => ?_⟩
                  · cbv
                    and_intros
                    all_goals first | exact trivial | exact ⟨rfl⟩ | exact ⟨rfl, fun _ _ _ _ => rfl⟩ | exact ⟨by kernel_rfl⟩
                  · obtain ⟨hk1, hk2⟩ : k ≤ i ∧ ∀ a, a < k → (es.getD a default).page ≠ (es.getD i default).page := hk
                    cbv
                    refine ⟨fun hz => ?_, fun hz => ?_⟩
                    · have hz : (k : Int) < (i : Int) := of_decide_eq_true hz
                      have hki : k < i := by omega
                      have ok : indexObl (k : Int) es.length := ⟨by omega, by omega⟩
                      have bk : bound64 ((k : Int) + 1) := by unfold bound64; omega
                      have ek : (k : Int) + 1 = ((k + 1 : Nat) : Int) := by omega
                      have hmk : i - (k + 1) < i - k := by omega
                      clear hz
                      cbv
                      refine ⟨⟨ok⟩, ⟨by kernel_rfl⟩, ?_⟩
                      cbv
                      refine ⟨fun hq => ?_, fun hq => ?_⟩
                      · have hq : (es.getD k default).page = (es.getD i default).page := of_decide_eq_true hq
                        have e1 : false = mayB false es := may_badO hlt (order2 (List.contains_iff_mem.2 (seen_mem.2 ⟨_, getD_take_mem hki (by omega), hq⟩)))
                        clear hq
                        cbv
                        refine ⟨[], [], ?_⟩
                        cbv
                        and_intros
                        all_goals first | exact trivial | exact ⟨e1⟩ | exact ⟨rfl⟩ | exact ⟨rfl, fun _ _ _ _ => rfl⟩ | exact ⟨by kernel_rfl⟩
                      · have hq : ¬ (es.getD k default).page = (es.getD i default).page := of_decide_eq_false hq
                        have hinv : k + 1 ≤ i ∧ ∀ a, a < k + 1 → (es.getD a default).page ≠ (es.getD i default).page := ⟨hki, fun a ha => by
                          by_cases h : a < k
                          · exact hk2 a h
                          · have : a = k := by omega
                            rw [this]; exact hq⟩
                        clear hq
                        cbv
                        refine ⟨⟨bk⟩, k + 1, [], hinv, hmk, ⟨?_⟩, ⟨?_⟩⟩
                        · kernel_rfl
                        · cbv
                          and_intros
                          all_goals first | exact trivial | exact ⟨ek⟩ | exact ⟨rfl⟩ | exact ⟨rfl, fun _ _ _ _ => rfl⟩ | exact ⟨by kernel_rfl⟩
                    · have hz : ¬ (k : Int) < (i : Int) := of_decide_eq_false hz
                      have hki : k = i := by omega
                      have hns : (seenL (es.take i)).contains (es.getD i default).page = false := by
                        cases hc : (seenL (es.take i)).contains (es.getD i default).page with
                        | false => rfl
                        | true =>
                          obtain ⟨x, hx, hp⟩ := seen_mem.1 (List.contains_iff_mem.1 hc)
                          obtain ⟨a, ha, rfl⟩ := take_getD_mem hx
                          exact absurd hp (hk2 a (by omega))
                      have hok' : okTo false es (i + 1) = true := okTo_next hok hkey (order3 hcmp (fun _ => hns))
                      clear hz hkey hcmp hns
                      cbv
                      refine ⟨⟨b2⟩, i + 1, [], ⟨hlt, hok'⟩, hms, ⟨?_⟩, ⟨?_⟩⟩
                      · kernel_rfl
                      · cbv
                        and_intros
                        all_goals first | exact trivial | exact ⟨ei⟩ | exact ⟨rfl⟩ | exact ⟨rfl, fun _ _ _ _ => rfl⟩ | exact ⟨by kernel_rfl⟩
        · have hA : ¬ (i : Int) = 0 := of_decide_eq_false hA
          have hA : ¬ i = 0 := by omega
          have hc : (decide (i = 0) && !false) = false := by simp [hA]
          cbv
          refine ⟨fun hB => ?_, fun hB => ?_⟩
          · have hB : (false != decide (((es.getD i default).key.length : Int) = 0)) = true := hB
            have e1 : false = mayB false es := may_badK hlt (keyBad1 hc hB)
            clear hB
            cbv
            refine ⟨⟨by kernel_rfl⟩, ?_⟩
            cbv
            refine ⟨[], [], ?_⟩
            cbv
            and_intros
            all_goals first | exact trivial | exact ⟨e1⟩ | exact ⟨rfl⟩ | exact ⟨rfl, fun _ _ _ _ => rfl⟩ | exact ⟨by kernel_rfl⟩
          · have hB : (false != decide (((es.getD i default).key.length : Int) = 0)) = false := hB
            cbv
            refine ⟨fun hC => ?_, fun hC => ?_⟩
            · have hC : (160 : Int) < ((es.getD i default).key.length : Int) := of_decide_eq_true hC
              have e1 : false = mayB false es := may_badK hlt (keyBad2 hC)
              clear hC
              cbv
              refine ⟨⟨by kernel_rfl⟩, ?_⟩
              cbv
              refine ⟨[], [], ?_⟩
              cbv
              and_intros
              all_goals first | exact trivial | exact ⟨e1⟩ | exact ⟨rfl⟩ | exact ⟨rfl, fun _ _ _ _ => rfl⟩ | exact ⟨by kernel_rfl⟩
            · have hC : ¬ (160 : Int) < ((es.getD i default).key.length : Int) := of_decide_eq_false hC
              have bm : bound64 ((i : Int) - 1) := by unfold bound64; omega
              have om : indexObl ((i : Int) - 1) es.length := ⟨by omega, by omega⟩
              have em : ((i : Int) - 1).toNat = i - 1 := by omega
              cbv
              refine ⟨fun hD => ?_, fun hD => ?_⟩
              · clear hD
                cbv
                refine ⟨⟨bm⟩, ⟨om⟩, ?_⟩
                refine ⟨_, _, con85, ⟨?_⟩, ?_⟩
                · kernel_rfl
                cbv
                refine ⟨⟨by kernel_rfl⟩, ?_⟩
                cbv
                refine ⟨fun hE => ?_, fun hE => ?_⟩
                · have hE : Op.bytesLess (es.getD ((i : Int) - 1).toNat default).key (es.getD i default).key = false := bnot_t hE
                  rw [less_cmp, em] at hE
                  have hE : ¬ Lib.compareBytes (es.getD (i - 1) default).key (es.getD i default).key < 0 := of_decide_eq_false hE
                  have e1 : false = mayB false es := may_badO hlt (order1 (by omega) (by omega))
                  clear hE
                  cbv
                  refine ⟨[], [], ?_⟩
                  cbv
                  and_intros
                  all_goals first | exact trivial | exact ⟨e1⟩ | exact ⟨rfl⟩ | exact ⟨rfl, fun _ _ _ _ => rfl⟩ | exact ⟨by kernel_rfl⟩
                · have hE : Op.bytesLess (es.getD ((i : Int) - 1).toNat default).key (es.getD i default).key = true := bnot_f hE
                  rw [less_cmp, em] at hE
                  have hE : Lib.compareBytes (es.getD (i - 1) default).key (es.getD i default).key < 0 := of_decide_eq_true hE
                  have hcmp : 0 < i → ¬ (0 : Int) ≤ Lib.compareBytes (es.getD (i - 1) default).key (es.getD i default).key := fun _ => by omega
                  clear hE
                  cbv
                  refine ⟨_, _, con89, ⟨?_⟩, ?_⟩
                  · kernel_rfl
                  cbv
                  refine ⟨fun hg => ?_, fun hg => ?_⟩
                  · have hg : kidB (es.getD i default) = false := bnot_t hg
                    have e1 : false = mayB false es := may_badK hlt (keyBad3 hg)
                    clear hg
                    cbv
                    refine ⟨[], [], ?_⟩
                    cbv
                    and_intros
                    all_goals first | exact trivial | exact ⟨e1⟩ | exact ⟨rfl⟩ | exact ⟨rfl, fun _ _ _ _ => rfl⟩ | exact ⟨by kernel_rfl⟩
                  · have hg : kidB (es.getD i default) = true := bnot_f hg
                    have hkey : keyBad false i (es.getD i default) = false := keyBad4 hc hB hC hg
                    clear hg
                    cbv
                    refine ⟨Nat, [], fun k => [(6, .int .i64 (.s fun _ => (k : Int)))], fun _ => [(1, .cells 24 [.bool .f, .dat (entsDV es)]), (4, .cells 74 [.dat (.bytes fun _ => (es.getD i default).key), .dat (.bytes fun _ => (es.getD i default).val), .int .u32 (.s fun _ => (es.getD i default).page), .int .u32 (.s fun _ => (es.getD i default).size)])],
                      fun k => k ≤ i ∧ ∀ a, a < k → (es.getD a default).page ≠ (es.getD i default).page, fun k => i - k, 0, [], ⟨Nat.zero_le _, fun a h => absurd h (Nat.not_lt_zero _)⟩, ⟨?_⟩, fun k hk => ?_⟩
                    · cbv
                      and_intros
                      all_goals first | exact trivial | exact ⟨rfl⟩ | exact ⟨rfl, fun _ _ _ _ => rfl⟩ | exact ⟨by kernel_rfl⟩
                    · obtain ⟨hk1, hk2⟩ : k ≤ i ∧ ∀ a, a < k → (es.getD a default).page ≠ (es.getD i default).page := hk
                      cbv
                      refine ⟨fun hz => ?_, fun hz => ?_⟩
                      · have hz : (k : Int) < (i : Int) := of_decide_eq_true hz
                        have hki : k < i := by omega
                        have ok : indexObl (k : Int) es.length := ⟨by omega, by omega⟩
                        have bk : bound64 ((k : Int) + 1) := by unfold bound64; omega
                        have ek : (k : Int) + 1 = ((k + 1 : Nat) : Int) := by omega
                        have hmk : i - (k + 1) < i - k := by omega
                        clear hz
                        cbv
                        refine ⟨⟨ok⟩, ⟨by kernel_rfl⟩, ?_⟩
                        cbv
                        refine ⟨fun hq => ?_, fun hq => ?_⟩
                        · have hq : (es.getD k default).page = (es.getD i default).page := of_decide_eq_true hq
                          have e1 : false = mayB false es := may_badO hlt (order2 (List.contains_iff_mem.2 (seen_mem.2 ⟨_, getD_take_mem hki (by omega), hq⟩)))
                          clear hq
                          cbv
                          refine ⟨[], [], ?_⟩
                          cbv
                          and_intros
                          all_goals first | exact trivial | exact ⟨e1⟩ | exact ⟨rfl⟩ | exact ⟨rfl, fun _ _ _ _ => rfl⟩ | exact ⟨by kernel_rfl⟩
                        · have hq : ¬ (es.getD k default).page = (es.getD i default).page := of_decide_eq_false hq
                          have hinv : k + 1 ≤ i ∧ ∀ a, a < k + 1 → (es.getD a default).page ≠ (es.getD i default).page := ⟨hki, fun a ha => by
                            by_cases h : a < k
                            · exact hk2 a h
                            · have : a = k := by omega
                              rw [this]; exact hq⟩
                          clear hq
                          cbv
                          refine ⟨⟨bk⟩, k + 1, [], hinv, hmk, ⟨?_⟩, ⟨?_⟩⟩
                          · kernel_rfl
                          · cbv
                            and_intros
                            all_goals first | exact trivial | exact ⟨ek⟩ | exact ⟨rfl⟩ | exact ⟨rfl, fun _ _ _ _ => rfl⟩ | exact ⟨by kernel_rfl⟩
                      · have hz : ¬ (k : Int) < (i : Int) := of_decide_eq_false hz
                        have hki : k = i := by omega
                        have hns : (seenL (es.take i)).contains (es.getD i default).page = false := by
                          cases hc : (seenL (es.take i)).contains (es.getD i default).page with
                          | false => rfl
                          | true =>
                            obtain ⟨x, hx, hp⟩ := seen_mem.1 (List.contains_iff_mem.1 hc)
                            obtain ⟨a, ha, rfl⟩ := take_getD_mem hx
                            exact absurd hp (hk2 a (by omega))
                        have hok' : okTo false es (i + 1) = true := okTo_next hok hkey (order3 hcmp (fun _ => hns))
                        clear hz hkey hcmp hns
                        cbv
                        refine ⟨⟨b2⟩, i + 1, [], ⟨hlt, hok'⟩, hms, ⟨?_⟩, ⟨?_⟩⟩
                        · kernel_rfl
                        · cbv
                          and_intros
                          all_goals first | exact trivial | exact ⟨ei⟩ | exact ⟨rfl⟩ | exact ⟨rfl, fun _ _ _ _ => rfl⟩ | exact ⟨by kernel_rfl⟩
              · have hD : ¬ (0 : Int) < (i : Int) := of_decide_eq_false hD
                exfalso
                omega
      · have h1 : ¬ (i : Int) < (es.length : Int) := of_decide_eq_false h1
        have hie : i = es.length := by omega
        have e1 : true = mayB false es := by unfold mayB; rw [← hie, hok, decide_eq_true (by omega : 0 < i)]; rfl
        clear h1
        cbv
        refine ⟨[], [], ?_⟩
        cbv
        and_intros
        all_goals first | exact trivial | exact ⟨e1⟩ | exact ⟨rfl⟩ | exact ⟨rfl, fun _ _ _ _ => rfl⟩ | exact ⟨by kernel_rfl⟩

theorem con47 {leaf : Bool} {es : List Ent} (hl : es.length < 1000000000000) : Con 47 [nodeSV leaf es] [] (.bool (.s fun _ => mayB leaf es)) [] := by
  cases leaf
  · exact con47f hl
  · exact con47t hl

set_option maxRecDepth 20000 in
set_option maxHeartbeats 4000000 in
theorem con20 {leaf : Bool} {es : List Ent} (hw : weight es + 20 * es.length < 1000000000000) : Con 20 [nodeSV leaf es] [] (.int .u16 (.s fun _ => checkI leaf es)) [] := by
  refine con_of Try.func20 rfl rfl 11 _ rfl rfl rfl rfl ?_
  cbv
  refine ⟨_, _, con47 (leaf := leaf) (es := es) (by omega), ⟨?_⟩, ?_⟩
  · rfl
  cbv
  refine ⟨fun h1 => ?_, fun h1 => ?_⟩
  · have h1 : mayB leaf es = false := bnot_t h1
    have e1 : (90 : Int) = checkI leaf es := by unfold checkI; rw [h1]; rfl
    cbv
    refine ⟨[], [], ?_⟩
    cbv
    exact ⟨⟨e1⟩, ⟨rfl⟩⟩
  · have h1 : mayB leaf es = true := bnot_f h1
    have e0 : checkI leaf es = if 1008 < 2 + sizeL leaf es then 91 else 0 := by unfold checkI; rw [h1]; rfl
    cbv
    refine ⟨_, _, con21 (leaf := leaf) (es := es) hw, ⟨?_⟩, ?_⟩
    · rfl
    cbv
    refine ⟨fun h2 => ?_, fun h2 => ?_⟩
    · have h2 : (1008 : Int) < 2 + sizeL leaf es := of_decide_eq_true h2
      have e1 : (91 : Int) = checkI leaf es := by rw [e0, if_pos h2]
      cbv
      refine ⟨[], [], ?_⟩
      cbv
      exact ⟨⟨e1⟩, ⟨rfl⟩⟩
    · have h2 : ¬ (1008 : Int) < 2 + sizeL leaf es := of_decide_eq_false h2
      have e1 : (0 : Int) = checkI leaf es := by rw [e0, if_neg h2]
      cbv
      refine ⟨[], [], ?_⟩
      cbv
      exact ⟨⟨e1⟩, ⟨rfl⟩⟩

end Go.Proofs.Ytmdfjipjkkjpcaa
