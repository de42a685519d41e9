/- Texts put together: Te, Tb, Tc, Tg, Ta, Th, Wa, Wg, Wh. -/
import Derived.Laws.MakeOwn
import Derived.Test.YtmdfjipjkkjpcaaVi
import Derived.Test.YtmdfjipjkkjpcaaVj
import Derived.Test.YtmdfjipjkkjpcaaVg
import Derived.Test.YtmdfjipjkkjpcaaVf
/- NodeTurns: the reference's Join. -/
namespace Go.Proofs.Ytmdfjipjkkjpcaa
open Go.SX

/-- The entries behind, the first one's key set in a branch. -/
def behB (leaf : Bool) (b : List Ent) (key : List UInt8) : List Ent := if leaf then b else setKey b 0 key
theorem behB_len (leaf : Bool) (b : List Ent) (key : List UInt8) : (behB leaf b key).length = b.length := by unfold behB setKey; split <;> simp
theorem behB_at {leaf : Bool} {b : List Ent} {key : List UInt8} {i : Nat} (hi : i < b.length) : (behB leaf b key).getD i default = if i = 0 ∧ leaf = false then { b.getD i default with key := key } else b.getD i default := by
  unfold behB setKey
  cases leaf with
  | true => simp
  | false =>
    simp only [Bool.false_eq_true, if_false, and_true]
    rw [List.getD_eq_getElem?_getD, List.getElem?_set]
    by_cases h : i = 0
    · subst h; simp [hi]
    · rw [if_neg (fun e => h e.symm), if_neg h, ← List.getD_eq_getElem?_getD]
theorem join_beh (leaf : Bool) (a b : List Ent) (key : List UInt8) : a ++ behB leaf b key = joinL leaf a b key := by
  unfold joinL behB
  cases leaf with
  | true => simp
  | false =>
    simp only [Bool.false_eq_true, if_false, true_and]
    by_cases h : a.length < (a ++ b).length
    · rw [if_pos h]
      unfold setKey
      have e : (a ++ b).getD a.length default = b.getD 0 default := by
        rw [List.getD_eq_getElem?_getD, List.getD_eq_getElem?_getD, List.getElem?_append_right (Nat.le_refl _), Nat.sub_self]
      rw [List.set_append_right _ _ (Nat.le_refl _), Nat.sub_self, e]
    · rw [if_neg h]
      have : b = [] := List.eq_nil_of_length_eq_zero (by rw [List.length_append] at h; omega)
      subst this
      rfl

set_option maxRecDepth 20000 in
set_option maxHeartbeats 4000000 in
theorem con41 {leaf lb : Bool} {a b : List Ent} {key : List UInt8} (hl : a.length + b.length < 1000000000) :
    Con 41 [nodeSV leaf a, nodeSV lb b, .dat (.bytes fun _ => key)] [] (.agg [.bool (.s fun _ => leaf), .dat (entsDV (joinL leaf a b key))]) [] := by
  obtain ⟨Mf, hMf⟩ : ∃ Mf : Nat → List Ent, ∀ i, Mf i = a ++ (behB leaf b key).take i := ⟨_, fun _ => rfl⟩
  have hM0 := row_le (show a = Mf 0 by rw [hMf]; simp)
  have hMn : Mf b.length = joinL leaf a b key := by rw [hMf, List.take_of_length_le (by rw [behB_len]; exact Nat.le_refl _), join_beh]
  have hMl : ∀ i, i ≤ b.length → (Mf i).length = a.length + i := fun i hi => by rw [hMf, List.length_append, List.length_take, behB_len]; omega
  have loa : lenOk a.length 56 := by unfold lenOk; omega
  obtain ⟨R, hR⟩ : ∃ R, R = joinL leaf a b key := ⟨_, rfl⟩
  rw [← hR] at hMn ⊢
  refine con_of Try.func41 rfl rfl 47 _ rfl rfl rfl rfl ?_
  cbv
  refine ⟨⟨loa⟩, ?_⟩
  cbv
  refine ⟨Nat, [500], fun i => [(8, .int .i64 (.s fun _ => (i : Int)))], fun i => [(3, .cells 24 [.bool (.s fun _ => leaf), .dat (entsDV a)]), (4, .cells 24 [.bool (.s fun _ => lb), .dat (entsDV b)]), (6, .cells 24 [.bool .f, .nil]), (7, .cells 24 [.bool (.s fun _ => leaf), .own 500]), (500, .arrS 74 4 (fun _ => (Mf i).length) (lrow encE fun _ => Mf i))], fun i => i ≤ b.length, fun i => b.length - i, 0, [(500, some 17)], Nat.zero_le _, ⟨?_⟩, fun i hi => ?_⟩
  · cbv
    and_intros
    all_goals first | exact trivial | exact ⟨rfl⟩ | exact ⟨hM0⟩ | exact ⟨rfl, fun i hi j hj => rfl⟩ | exact ⟨by kernel_rfl⟩
  · have hi : i ≤ b.length := hi
    cbv
    refine And.intro ?_ ?_
    · intro h1
      have h1 : (i : Int) < (b.length : Int) := of_decide_eq_true h1
      have hlt : i < b.length := by omega
      have o1 : indexObl (i : Int) b.length := ⟨by omega, h1⟩
      have bi : bound64 ((i : Int) + 1) := by unfold bound64; omega
      have ei : (i : Int) + 1 = ((i + 1 : Nat) : Int) := by omega
      have hmi : b.length - (i + 1) < b.length - i := by omega
      have hlo : lenOk ((Mf i).length + 1) 56 := by unfold lenOk; rw [hMl i hi]; omega
      have hat := behB_at (leaf := leaf) (key := key) hlt
      have hnx : ∀ e, (behB leaf b key).getD i default = e → Mf i ++ [e] = Mf (i + 1) := fun e he => by rw [hMf, hMf, getD_take _ (by rw [behB_len]; exact hlt), ← he, List.append_assoc]
      have hi0 : (i : Int) = 0 → i = 0 := by omega
      have hi1 : ¬ (i : Int) = 0 → ¬ i = 0 := by omega
      cbv
      refine ⟨⟨o1⟩, ?_⟩
      refine ⟨fun h2 => ?_, fun h2 => ?_⟩
      · have hz : i = 0 := hi0 (of_decide_eq_true h2)
        cbv
        refine ⟨fun h3 => ?_, fun h3 => ?_⟩
        · have hlf : leaf = false := bnot_t h3
          have hra := row_app (hnx _ (by rw [hat, if_pos ⟨hz, hlf⟩]))
          have hap := app_ok (Mf i) { b.getD i default with key := key }
          cbv
          refine ⟨⟨hlo, hap⟩, ⟨bi⟩, i + 1, [(500, some 44)], hlt, hmi, ⟨?_⟩, ⟨?_⟩⟩
          · kernel_rfl
          · cbv
            and_intros
            all_goals first | exact trivial | exact ⟨rfl⟩ | exact ⟨ei⟩ | exact ⟨hra⟩ | exact ⟨rfl, fun i hi j hj => rfl⟩ | exact ⟨by kernel_rfl⟩
        · have hlf : leaf = true := bnot_f h3
          have hra := row_app (hnx _ (by rw [hat, if_neg (fun h => by rw [hlf] at h; cases h.2)]))
          have hap := app_ok (Mf i) (b.getD i default)
          cbv
          refine ⟨⟨hlo, hap⟩, ⟨bi⟩, i + 1, [(500, some 44)], hlt, hmi, ⟨?_⟩, ⟨?_⟩⟩
          · kernel_rfl
          · cbv
            and_intros
            all_goals first | exact trivial | exact ⟨rfl⟩ | exact ⟨ei⟩ | exact ⟨hra⟩ | exact ⟨rfl, fun i hi j hj => rfl⟩ | exact ⟨by kernel_rfl⟩
      · have hz : ¬ i = 0 := hi1 (of_decide_eq_false h2)
        have hra := row_app (hnx _ (by rw [hat, if_neg (fun h => hz h.1)]))
        have hap := app_ok (Mf i) (b.getD i default)
        cbv
        refine ⟨⟨hlo, hap⟩, ⟨bi⟩, i + 1, [(500, some 44)], hlt, hmi, ⟨?_⟩, ⟨?_⟩⟩
        · kernel_rfl
        · cbv
          and_intros
          all_goals first | exact trivial | exact ⟨rfl⟩ | exact ⟨ei⟩ | exact ⟨hra⟩ | exact ⟨rfl, fun i hi j hj => rfl⟩ | exact ⟨by kernel_rfl⟩
    · intro h1
      have h1 : ¬ (i : Int) < (b.length : Int) := of_decide_eq_false h1
      have hie : i = b.length := by omega
      have hrl := row_le (show Mf i = R by rw [hie]; exact hMn)
      cbv
      refine ⟨[], [500], ?_⟩
      cbv
      and_intros
      all_goals first | exact trivial | exact ⟨rfl⟩ | exact ⟨hrl⟩ | exact ⟨by kernel_rfl⟩
end Go.Proofs.Ytmdfjipjkkjpcaa

/- NodeTurns: the reference's Drop. -/
namespace Go.Proofs.Ytmdfjipjkkjpcaa
open Go.SX

def keepF (es : List Ent) (key : List UInt8) : List Ent := es.filter fun e => !decide (e.key = key)
theorem keepF_yes {es : List Ent} {key : List UInt8} {i : Nat} (hi : i < es.length) (h : ¬ (es.getD i default).key = key) : keepF (es.take i) key ++ [es.getD i default] = keepF (es.take (i + 1)) key := by
  unfold keepF
  rw [getD_take es hi, List.filter_append, List.filter_cons_of_pos (by simpa using h)]; rfl
theorem keepF_no {es : List Ent} {key : List UInt8} {i : Nat} (hi : i < es.length) (h : (es.getD i default).key = key) : keepF (es.take i) key = keepF (es.take (i + 1)) key := by
  unfold keepF
  rw [getD_take es hi, List.filter_append, List.filter_cons_of_neg (by simpa using h), List.filter_nil, List.append_nil]
theorem keepF_le (es : List Ent) (key : List UInt8) (i : Nat) : (keepF (es.take i) key).length ≤ i := by
  unfold keepF
  have := List.length_filter_le (fun e : Ent => !decide (e.key = key)) (es.take i)
  rw [List.length_take] at this
  omega

set_option maxRecDepth 20000 in
set_option maxHeartbeats 4000000 in
theorem con38 {leaf : Bool} {es : List Ent} {key : List UInt8} (hl : es.length < 1000000000) :
    Con 38 [nodeSV leaf es, .dat (.bytes fun _ => key)] [] (.tup [.agg [.bool (.s fun _ => leaf), .dat (entsDV (keepF es key))], .bool (.s fun _ => decide ((keepF es key).length < es.length))]) [] := by
  obtain ⟨Df, hDf⟩ : ∃ Df : Nat → List Ent, ∀ i, Df i = keepF (es.take i) key := ⟨_, fun _ => rfl⟩
  have hD0 : Df 0 = [] := by rw [hDf]; rfl
  have hDn : Df es.length = keepF es key := by rw [hDf, List.take_length]
  have hDl : ∀ i, (Df i).length ≤ i := fun i => by rw [hDf]; exact keepF_le es key i
  obtain ⟨R, hR⟩ : ∃ R, R = keepF es key := ⟨_, rfl⟩
  rw [← hR] at hDn ⊢
  refine con_of Try.func38 rfl rfl 46 _ rfl rfl rfl rfl ?_
  cbv
  refine ⟨Nat, [500], fun i => [(7, .int .i64 (.s fun _ => (i : Int)))], fun i => [(2, .cells 24 [.bool (.s fun _ => leaf), .dat (entsDV es)]), (4, .cells 24 [.bool .f, .nil]), (6, .cells 24 [.bool (.s fun _ => leaf), .own 500]), (500, .arrS 74 4 (fun _ => (Df i).length) (lrow encE fun _ => Df i))], fun i => i ≤ es.length, fun i => es.length - i, 0, [(500, none)], Nat.zero_le _, ⟨?_⟩, fun i hi => ?_⟩
  · have e0 : (Df 0).length = 0 := by rw [hD0]; rfl
    cbv
    and_intros
    all_goals first | exact trivial | exact ⟨rfl⟩ | exact ⟨e0⟩ | exact ⟨rfl, fun i hi j hj => rfl⟩ | exact ⟨by kernel_rfl⟩
  · have hi : i ≤ es.length := hi
    cbv
    refine And.intro ?_ ?_
    · intro h1
      have h1 : (i : Int) < (es.length : Int) := of_decide_eq_true h1
      have hlt : i < es.length := by omega
      have o1 : indexObl (i : Int) es.length := ⟨by omega, h1⟩
      have bi : bound64 ((i : Int) + 1) := by unfold bound64; omega
      have ei : (i : Int) + 1 = ((i + 1 : Nat) : Int) := by omega
      have hmi : es.length - (i + 1) < es.length - i := by omega
      have hdl := hDl i
      have hlo : lenOk ((Df i).length + 1) 56 := by unfold lenOk; omega
      have hap := app_ok (Df i) (es.getD i default)
      cbv
      refine ⟨⟨o1⟩, ⟨by kernel_rfl⟩, fun h2 => ?_, fun h2 => ?_⟩
      · have hk : ¬ (es.getD i default).key = key := fun e => by
          have h3 : (!(es.getD i default).key == key) = true := h2
          rw [e] at h3; simp at h3
        have hra := row_app (show Df i ++ [es.getD i default] = Df (i + 1) by rw [hDf, hDf]; exact keepF_yes hlt hk)
        cbv
        refine ⟨⟨o1⟩, ⟨hlo, hap⟩, ⟨by kernel_rfl⟩, ?_⟩
        cbv
        refine ⟨⟨bi⟩, i + 1, [(500, some 36)], hlt, hmi, ⟨?_⟩, ⟨?_⟩⟩
        · kernel_rfl
        · cbv
          and_intros
          all_goals first | exact trivial | exact ⟨rfl⟩ | exact ⟨ei⟩ | exact ⟨hra⟩ | exact ⟨rfl, fun i hi j hj => rfl⟩ | exact ⟨by kernel_rfl⟩
      · have hk : (es.getD i default).key = key := by
          have h3 : (!(es.getD i default).key == key) = false := h2
          simpa using h3
        have hrl := row_le (show Df i = Df (i + 1) by rw [hDf, hDf]; exact keepF_no hlt hk)
        cbv
        refine ⟨⟨bi⟩, i + 1, [], hlt, hmi, ⟨?_⟩, ⟨?_⟩⟩
        · kernel_rfl
        · cbv
          and_intros
          all_goals first | exact trivial | exact ⟨rfl⟩ | exact ⟨ei⟩ | exact ⟨hrl⟩ | exact ⟨rfl, fun i hi j hj => rfl⟩ | exact ⟨by kernel_rfl⟩
    · intro h1
      have h1 : ¬ (i : Int) < (es.length : Int) := of_decide_eq_false h1
      have hie : i = es.length := by omega
      have hrl := row_le (show Df i = R by rw [hie]; exact hDn)
      have hdc : decide (((Df i).length : Int) < (es.length : Int)) = decide (R.length < es.length) := by rw [hie, hDn]; exact decide_eq_decide.2 (by omega)
      cbv
      refine ⟨⟨by kernel_rfl⟩, ?_⟩
      cbv
      refine ⟨[], [500], ?_⟩
      cbv
      and_intros
      all_goals first | exact trivial | exact ⟨rfl⟩ | exact ⟨hrl⟩ | exact ⟨hdc⟩ | exact ⟨by kernel_rfl⟩
end Go.Proofs.Ytmdfjipjkkjpcaa

/- NodeTurns: the reference's Put. -/
namespace Go.Proofs.Ytmdfjipjkkjpcaa
open Go.SX

/-- The place, found from the beginning on. -/
theorem place_is {es : List Ent} {key : List UInt8} (hr : RisesL es) {k : Nat} (hk : k ≤ es.length) (h1 : ∀ j, j < k → Op.bytesLess (es.getD j default).key key = true) (h2 : k < es.length → Op.bytesLess (es.getD k default).key key = false) : placeI (geP key) es = k := by
  obtain ⟨q1, q2⟩ := place_law (ge_mono hr key)
  have e : ∀ x : List UInt8, geP key x = !Op.bytesLess x key := fun x => by
    rw [less_cmp]; unfold geP
    by_cases h : Lib.compareBytes x key < 0
    · rw [decide_eq_true h, decide_eq_false (by omega)]; rfl
    · rw [decide_eq_false h, decide_eq_true (by omega)]; rfl
  have hle := placeI_le (p := geP key) (es := es)
  rcases Nat.lt_trichotomy (placeI (geP key) es) k with h | h | h
  · have h3 := q2 _ (Nat.le_refl _) (by omega)
    rw [e, h1 _ h] at h3; cases h3
  · exact h
  · have h3 := q1 k h
    rw [e, h2 (by omega)] at h3; cases h3

theorem put_tail {es P : List Ent} {e : Ent} {i m : Nat} (hP : P = es.take i) (hm : m ≤ es.length) (hi : i ≤ es.length) (hpl : placeI (geP e.key) es = i) (hmk : m = if i < es.length ∧ (es.getD i default).key = e.key then i + 1 else i) :
    AppOk 4 (P.length + 1) ((es.length : Int).toNat - m) (appRow (fun _ => P.length) (lrow encE fun _ => P) (oneRow (dvsE e))) (subRow (lrow encE fun _ => es) fun _ => m) ∧
    (P.length + 1 + ((es.length : Int).toNat - m) = (putL es e).length ∧ RowEq 4 (putL es e).length (appRow (fun _ => P.length + 1) (appRow (fun _ => P.length) (lrow encE fun _ => P) (oneRow (dvsE e))) (subRow (lrow encE fun _ => es) fun _ => m)) (lrow encE fun _ => putL es e)) := by
  have s1 := shaped_app (n := P.length) (shaped_lrow P) (shaped_one e)
  refine ⟨ok_app s1 (shaped_sub es m), rowEq_of (A := (P ++ [e]) ++ es.drop m) (rep_app s1 (shaped_sub es m) (rep_app (shaped_lrow P) (shaped_one e) (rep_lrow P) (rep_oneR e) rfl) (rep_subR es m) (by simp)) ?_ ?_⟩
  · simp only [List.length_append, List.length_drop, List.length_singleton]; omega
  · unfold putL; rw [hpl, ← hmk, hP, List.append_assoc]

theorem put_tailR {R es P : List Ent} {e : Ent} (hR : R = putL es e) {i m : Nat} (hP : P = es.take i) (hm : m ≤ es.length) (hi : i ≤ es.length) (hpl : placeI (geP e.key) es = i) (hmk : m = if i < es.length ∧ (es.getD i default).key = e.key then i + 1 else i) :
    AppOk 4 (P.length + 1) ((es.length : Int).toNat - m) (appRow (fun _ => P.length) (lrow encE fun _ => P) (oneRow (dvsE e))) (subRow (lrow encE fun _ => es) fun _ => m) ∧
    (P.length + 1 + ((es.length : Int).toNat - m) = R.length ∧ RowEq 4 R.length (appRow (fun _ => P.length + 1) (appRow (fun _ => P.length) (lrow encE fun _ => P) (oneRow (dvsE e))) (subRow (lrow encE fun _ => es) fun _ => m)) (lrow encE fun _ => R)) := by
  subst hR; exact put_tail hP hm hi hpl hmk

set_option maxRecDepth 20000 in
set_option maxHeartbeats 4000000 in
theorem con40 {leaf : Bool} {es : List Ent} {e : Ent} (hr : RisesL es) (hl : es.length < 1000000000) :
    Con 40 [nodeSV leaf es, entSV e] [] (.agg [.bool (.s fun _ => leaf), .dat (entsDV (putL es e))]) [] := by
  obtain ⟨Pf, hPf⟩ : ∃ Pf : Nat → List Ent, ∀ i, Pf i = es.take i := ⟨_, fun _ => rfl⟩
  have hP0 : (Pf 0).length = 0 := by rw [hPf]; rfl
  have hPl : ∀ i, i ≤ es.length → (Pf i).length = i := fun i hi => by rw [hPf, List.length_take]; omega
  obtain ⟨R, hR⟩ : ∃ R, R = putL es e := ⟨_, rfl⟩
  rw [← hR]
  refine con_of Try.func40 rfl rfl 73 _ rfl rfl rfl rfl ?_
  cbv
  refine ⟨Nat, [500], fun i => [(6, .int .i64 (.s fun _ => (i : Int)))], fun i => [(2, .cells 24 [.bool (.s fun _ => leaf), .dat (entsDV es)]), (3, .cells 74 [.dat (.bytes fun _ => e.key), .dat (.bytes fun _ => e.val), .int .u32 (.s fun _ => e.page), .int .u32 (.s fun _ => e.size)]), (4, .cells 24 [.bool .f, .nil]), (5, .cells 24 [.bool (.s fun _ => leaf), .own 500]), (500, .arrS 74 4 (fun _ => (Pf i).length) (lrow encE fun _ => Pf i))], fun i => i ≤ es.length ∧ ∀ j, j < i → Op.bytesLess (es.getD j default).key e.key = true, fun i => es.length - i, 0, [(500, none)], ⟨Nat.zero_le _, fun j hj => by omega⟩, ⟨?_⟩, fun i hi => ?_⟩
  · cbv
    and_intros
    all_goals first | exact trivial | exact ⟨rfl⟩ | exact ⟨hP0⟩ | exact ⟨rfl, fun i hi j hj => rfl⟩ | exact ⟨by kernel_rfl⟩
  · have hdl := hPl i hi.1
    have hlo : lenOk ((Pf i).length + 1) 56 := by unfold lenOk; have := hi.1; omega
    cbv
    refine And.intro ?_ ?_
    · intro h1
      have h1 : (i : Int) < (es.length : Int) := of_decide_eq_true h1
      have hlt : i < es.length := by omega
      have o1 : indexObl (i : Int) es.length := ⟨by omega, h1⟩
      have bi : bound64 ((i : Int) + 1) := by unfold bound64; omega
      have ei : (i : Int) + 1 = ((i + 1 : Nat) : Int) := by omega
      have hmi : es.length - (i + 1) < es.length - i := by omega
      have hap := app_ok (Pf i) (es.getD i default)
      have hra := row_app (show Pf i ++ [es.getD i default] = Pf (i + 1) by rw [hPf, hPf, getD_take es hlt])
      cbv
      refine ⟨⟨o1⟩, _, _, con85, ⟨?_⟩, ?_⟩
      · kernel_rfl
      cbv
      refine ⟨⟨by kernel_rfl⟩, fun h2 => ?_, fun h2 => ?_⟩
      · have hnx : i + 1 ≤ es.length ∧ ∀ j, j < i + 1 → Op.bytesLess (es.getD j default).key e.key = true := ⟨hlt, fun j hj => by
          by_cases ej : j = i
          · subst ej; exact h2
          · exact hi.2 j (by omega)⟩
        cbv
        refine ⟨⟨o1⟩, ⟨hlo, hap⟩, ⟨by kernel_rfl⟩, ?_⟩
        cbv
        refine ⟨⟨bi⟩, i + 1, [(500, some 34)], hnx, hmi, ⟨?_⟩, ⟨?_⟩⟩
        · kernel_rfl
        · cbv
          and_intros
          all_goals first | exact trivial | exact ⟨rfl⟩ | exact ⟨ei⟩ | exact ⟨hra⟩ | exact ⟨rfl, fun i hi j hj => rfl⟩ | exact ⟨by kernel_rfl⟩
      · have hap2 := app_ok (Pf i) e
        have h1' : (i : Int) < (es.length : Int) := by omega
        have hplc : placeI (geP e.key) es = i := place_is hr hi.1 hi.2 (fun _ => h2)
        have sl0 : sliceObl (i : Int) (es.length : Int) es.length := ⟨by omega, by omega, by omega⟩
        have lo0 : lenOk ((Pf i).length + 1 + ((es.length : Int).toNat - (i : Int).toNat)) 56 := by unfold lenOk; omega
        have sl1 : sliceObl ((i : Int) + 1) (es.length : Int) es.length := ⟨by omega, by omega, by omega⟩
        have lo1 : lenOk ((Pf i).length + 1 + ((es.length : Int).toNat - ((i : Int) + 1).toNat)) 56 := by unfold lenOk; omega
        cbv
        refine ⟨⟨hlo, hap2⟩, ?_⟩
        cbv
        refine ⟨fun h3 => ?_, fun h3 => ?_⟩
        · cbv
          refine ⟨⟨o1⟩, ⟨by kernel_rfl⟩, fun h4 => ?_, fun h4 => ?_⟩
          · have hke : (es.getD i default).key = e.key := by
              have h5 : ((es.getD i default).key == e.key) = true := h4
              simpa using h5
            have TT := put_tailR hR (P := Pf i) (e := e) (m := ((i : Int) + 1).toNat) (hPf i) (by omega) hi.1 hplc (by rw [if_pos ⟨hlt, hke⟩]; omega)
            cbv
            refine ⟨⟨bi⟩, ⟨sl1⟩, ⟨lo1, TT.1⟩, ⟨by kernel_rfl⟩, ?_⟩
            cbv
            refine ⟨[], [70], ?_⟩
            cbv
            and_intros
            all_goals first | exact trivial | exact ⟨rfl⟩ | exact ⟨TT.2⟩ | exact ⟨by kernel_rfl⟩
          · have hke : ¬ (es.getD i default).key = e.key := by
              have h5 : ((es.getD i default).key == e.key) = false := h4
              simpa using h5
            have TT := put_tailR hR (P := Pf i) (e := e) (m := (i : Int).toNat) (hPf i) (by omega) hi.1 hplc (by rw [if_neg fun h => hke h.2]; omega)
            cbv
            refine ⟨⟨sl0⟩, ⟨lo0, TT.1⟩, ⟨by kernel_rfl⟩, ?_⟩
            cbv
            refine ⟨[], [70], ?_⟩
            cbv
            and_intros
            all_goals first | exact trivial | exact ⟨rfl⟩ | exact ⟨TT.2⟩ | exact ⟨by kernel_rfl⟩
        · have h5 : False := by
            have h6 : decide ((i : Int) < (es.length : Int)) = false := h3
            exact (of_decide_eq_false h6) h1'
          cbv
          exact h5.elim
    · intro h1
      have h1 : ¬ (i : Int) < (es.length : Int) := of_decide_eq_false h1
      have hie : i = es.length := by have := hi.1; omega
      have hplc : placeI (geP e.key) es = i := place_is hr hi.1 hi.2 (fun h => by omega)
      have hap2 := app_ok (Pf i) e
      have hnl : ¬ i < es.length := by omega
      have TT := put_tailR hR (P := Pf i) (e := e) (m := (i : Int).toNat) (hPf i) (by omega) hi.1 hplc (by rw [if_neg fun h => hnl h.1]; omega)
      have sl0 : sliceObl (i : Int) (es.length : Int) es.length := ⟨by omega, by omega, by omega⟩
      have lo0 : lenOk ((Pf i).length + 1 + ((es.length : Int).toNat - (i : Int).toNat)) 56 := by unfold lenOk; omega
      cbv
      refine ⟨⟨by kernel_rfl⟩, ?_⟩
      cbv
      refine ⟨⟨hlo, hap2⟩, ?_⟩
      cbv
      refine ⟨fun h3 => ?_, fun h3 => ?_⟩
      · have h5 : False := by
          have h6 : decide ((i : Int) < (es.length : Int)) = true := h3
          exact h1 (of_decide_eq_true h6)
        cbv
        exact h5.elim
      · cbv
        refine ⟨⟨by kernel_rfl⟩, ?_⟩
        cbv
        refine ⟨⟨sl0⟩, ⟨lo0, TT.1⟩, ⟨by kernel_rfl⟩, ?_⟩
        cbv
        refine ⟨[], [70], ?_⟩
        cbv
        and_intros
        all_goals first | exact trivial | exact ⟨rfl⟩ | exact ⟨TT.2⟩ | exact ⟨by kernel_rfl⟩
end Go.Proofs.Ytmdfjipjkkjpcaa

/- NodeTurns: the reference's Find; the program's. -/
namespace Go.Proofs.Ytmdfjipjkkjpcaa
open Go.SX

def findI (leaf : Bool) (es : List Ent) (key : List UInt8) : Int := if leaf then (placeI (geP key) es : Int) else ((placeI (gtP key) es - 1 : Nat) : Int)
def findB (leaf : Bool) (es : List Ent) (key : List UInt8) : Bool := if leaf then foundB es key else decide (0 < es.length)

theorem con31 {leaf : Bool} {es : List Ent} {key : List UInt8} (hl : es.length < 1000000000000) : Con 31 [nodeSV leaf es, .dat (.bytes fun _ => key)] [] (.tup [.int .i64 (.s fun _ => findI leaf es key), .bool (.s fun _ => findB leaf es key)]) [] := by
  cases leaf with
  | true => exact con31t hl
  | false => exact con31f hl

theorem beq_dec (a b : List UInt8) : (a == b) = decide (a = b) := by rw [Bool.eq_iff_iff]; simp
/-- The kid's place, found from the beginning on. -/
theorem kid_is {es : List Ent} {key : List UInt8} (hr : RisesL es) {k : Nat} (hk : k = 0 ∨ k < es.length) (h1 : ∀ j, 0 < j → j ≤ k → Op.bytesLess key (es.getD j default).key = false) (h2 : k + 1 < es.length → Op.bytesLess key (es.getD (k + 1) default).key = true) : placeI (gtP key) es - 1 = k := by
  obtain ⟨q1, q2⟩ := place_law (gt_mono hr key)
  have e : ∀ x : List UInt8, gtP key x = Op.bytesLess key x := fun x => by
    rw [less_cmp]; unfold gtP
    have := cmp_anti x key
    exact decide_eq_decide.2 (by omega)
  have hle := placeI_le (p := gtP key) (es := es)
  rcases Nat.lt_trichotomy (placeI (gtP key) es) (k + 1) with h | h | h
  · by_cases h0 : placeI (gtP key) es = 0
    · by_cases hk0 : k = 0
      · omega
      · have hkl : k < es.length := by omega
        have h3 := q2 k (by omega) hkl
        rw [e, h1 k (by omega) (Nat.le_refl _)] at h3; cases h3
    · have h3 := q2 (placeI (gtP key) es) (Nat.le_refl _) (by omega)
      rw [e, h1 _ (by omega) (by omega)] at h3; cases h3
  · omega
  · have h3 := q1 (k + 1) h
    rw [e, h2 (by omega)] at h3; cases h3

set_option maxRecDepth 20000 in
set_option maxHeartbeats 8000000 in
theorem con37 {leaf : Bool} {es : List Ent} {key : List UInt8} (hr : RisesL es) (hl : es.length < 1000000000) :
    Con 37 [nodeSV leaf es, .dat (.bytes fun _ => key)] [] (.tup [.int .i64 (.s fun _ => findI leaf es key), .bool (.s fun _ => findB leaf es key)]) [] := by
  obtain ⟨I, hI⟩ : ∃ I, I = findI leaf es key := ⟨_, rfl⟩
  obtain ⟨B, hB⟩ : ∃ B, B = findB leaf es key := ⟨_, rfl⟩
  rw [← hI, ← hB]
  refine con_of Try.func37 rfl rfl 69 _ rfl rfl rfl rfl ?_
  cbv
  refine ⟨fun h0 => ?_, fun h0 => ?_⟩
  · have hlf : leaf = true := h0
    have hfin : ∀ k, k ≤ es.length → (∀ j, j < k → Op.bytesLess (es.getD j default).key key = true) → (k < es.length → Op.bytesLess (es.getD k default).key key = false) → (k : Int) = I ∧ B = (decide (k < es.length) && decide ((es.getD k default).key = key)) := fun k h1 h2 h3 => by
      have := place_is hr h1 h2 h3
      rw [hI, hB]; unfold findI findB foundB; rw [hlf, if_pos rfl, if_pos rfl, this]; exact ⟨rfl, rfl⟩
    cbv
    refine ⟨Nat, [], fun i => [(6, .int .i64 (.s fun _ => (i : Int)))], fun _ => [(2, .cells 24 [.bool (.s fun _ => leaf), .dat (entsDV es)])], fun i => i ≤ es.length ∧ ∀ j, j < i → Op.bytesLess (es.getD j default).key key = true, fun i => es.length - i, 0, [], ⟨Nat.zero_le _, fun j hj => by omega⟩, ⟨?_⟩, fun i hi => ?_⟩
    · cbv
      and_intros
      all_goals first | exact trivial | exact ⟨rfl⟩ | exact ⟨rfl, fun i hi j hj => rfl⟩ | exact ⟨by kernel_rfl⟩
    · cbv
      refine And.intro ?_ ?_
      · intro h1
        have h1 : (i : Int) < (es.length : Int) := of_decide_eq_true h1
        have h1' : ¬ decide ((i : Int) < (es.length : Int)) = false := fun h => (of_decide_eq_false h) h1
        have hlt : i < es.length := by omega
        have o1 : indexObl (i : Int) es.length := ⟨by omega, h1⟩
        have bi : bound64 ((i : Int) + 1) := by unfold bound64; omega
        have ei : (i : Int) + 1 = ((i + 1 : Nat) : Int) := by omega
        have hmi : es.length - (i + 1) < es.length - i := by omega
        cbv
        refine ⟨⟨o1⟩, _, _, con85, ⟨?_⟩, ?_⟩
        · kernel_rfl
        cbv
        refine ⟨fun h2 => ?_, fun h2 => ?_⟩
        · have hnx : i + 1 ≤ es.length ∧ ∀ j, j < i + 1 → Op.bytesLess (es.getD j default).key key = true := ⟨hlt, fun j hj => by
            by_cases ej : j = i
            · subst ej; exact h2
            · exact hi.2 j (by omega)⟩
          cbv
          refine ⟨⟨bi⟩, i + 1, [], hnx, hmi, ⟨?_⟩, ⟨?_⟩⟩
          · kernel_rfl
          · cbv
            and_intros
            all_goals first | exact trivial | exact ⟨rfl⟩ | exact ⟨ei⟩ | exact ⟨rfl, fun i hi j hj => rfl⟩ | exact ⟨by kernel_rfl⟩
        · have hf := hfin i hi.1 hi.2 (fun _ => h2)
          have hfB : ((es.getD i default).key == key) = B := by
            rw [hf.2, decide_eq_true hlt, Bool.true_and]
            exact beq_dec _ _
          have hfI := hf.1
          cbv
          refine ⟨fun h3 => ?_, fun h3 => ?_⟩
          · cbv
            refine ⟨⟨o1⟩, ⟨by kernel_rfl⟩, ?_⟩
            cbv
            refine ⟨[], [], ?_⟩
            cbv
            and_intros
            all_goals first | exact trivial | exact ⟨rfl⟩ | exact ⟨hfI⟩ | exact ⟨hfB⟩ | exact ⟨by kernel_rfl⟩
          · have h5 : False := h1' h3
            cbv
            exact h5.elim
      · intro h1
        have h1 : ¬ (i : Int) < (es.length : Int) := of_decide_eq_false h1
        have h1' : ¬ decide ((i : Int) < (es.length : Int)) = true := fun h => h1 (of_decide_eq_true h)
        have hnl : ¬ i < es.length := by omega
        have hf := hfin i hi.1 hi.2 (fun h => absurd h hnl)
        have hfB : false = B := by rw [hf.2, decide_eq_false hnl, Bool.false_and]
        have hfI := hf.1
        cbv
        refine ⟨fun h3 => ?_, fun h3 => ?_⟩
        · have h5 : False := h1' h3
          cbv
          exact h5.elim
        · have hfB2 : decide ((i : Int) < (es.length : Int)) = B := by rw [← hfB]; exact h3
          cbv
          refine ⟨⟨by kernel_rfl⟩, ?_⟩
          cbv
          refine ⟨[], [], ?_⟩
          cbv
          and_intros
          all_goals first | exact trivial | exact ⟨rfl⟩ | exact ⟨hfI⟩ | exact ⟨hfB⟩ | exact ⟨hfB2⟩ | exact ⟨by kernel_rfl⟩
  · have hlf : leaf = false := h0
    have hfin : ∀ k, (k = 0 ∨ k < es.length) → (∀ j, 0 < j → j ≤ k → Op.bytesLess key (es.getD j default).key = false) → (k + 1 < es.length → Op.bytesLess key (es.getD (k + 1) default).key = true) → (k : Int) = I := fun k h1 h2 h3 => by
      have := kid_is hr h1 h2 h3
      rw [hI]; unfold findI; rw [hlf, if_neg (by simp), this]
    have hBn : decide ((0 : Int) < (es.length : Int)) = B := by
      rw [hB]; unfold findB; rw [hlf, if_neg (by simp)]
      exact decide_eq_decide.2 (by omega)
    cbv
    refine ⟨Nat, [], fun i => [(6, .int .i64 (.s fun _ => (i : Int)))], fun _ => [(2, .cells 24 [.bool (.s fun _ => leaf), .dat (entsDV es)])], fun i => (i = 0 ∨ i < es.length) ∧ ∀ j, 0 < j → j ≤ i → Op.bytesLess key (es.getD j default).key = false, fun i => es.length - i, 0, [], ⟨.inl rfl, fun j h0 hj => by omega⟩, ⟨?_⟩, fun i hi => ?_⟩
    · cbv
      and_intros
      all_goals first | exact trivial | exact ⟨rfl⟩ | exact ⟨rfl, fun i hi j hj => rfl⟩ | exact ⟨by kernel_rfl⟩
    · have hi1 : i ≤ es.length := by rcases hi.1 with h | h <;> omega
      have bi : bound64 ((i : Int) + 1) := by unfold bound64; omega
      cbv
      refine ⟨⟨bi⟩, fun h1 => ?_, fun h1 => ?_⟩
      · have h1 : (i : Int) + 1 < (es.length : Int) := of_decide_eq_true h1
        have hlt : i + 1 < es.length := by omega
        have o1 : indexObl ((i : Int) + 1) es.length := ⟨by omega, h1⟩
        have ei : (i : Int) + 1 = ((i + 1 : Nat) : Int) := by omega
        have e1 : ((i : Int) + 1).toNat = i + 1 := by omega
        have hmi : es.length - (i + 1) < es.length - i := by omega
        cbv
        refine ⟨⟨bi⟩, ⟨o1⟩, _, _, con85, ⟨?_⟩, ?_⟩
        · kernel_rfl
        cbv
        refine ⟨fun h2 => ?_, fun h2 => ?_⟩
        · have h3 : Op.bytesLess key (es.getD (i + 1) default).key = false := by rw [← e1]; exact bnot_t h2
          have hnx : (i + 1 = 0 ∨ i + 1 < es.length) ∧ ∀ j, 0 < j → j ≤ i + 1 → Op.bytesLess key (es.getD j default).key = false := ⟨.inr hlt, fun j h0 hj => by
            by_cases ej : j = i + 1
            · subst ej; exact h3
            · exact hi.2 j h0 (by omega)⟩
          cbv
          refine ⟨⟨bi⟩, i + 1, [], hnx, hmi, ⟨?_⟩, ⟨?_⟩⟩
          · kernel_rfl
          · cbv
            and_intros
            all_goals first | exact trivial | exact ⟨rfl⟩ | exact ⟨ei⟩ | exact ⟨rfl, fun i hi j hj => rfl⟩ | exact ⟨by kernel_rfl⟩
        · have h3 : Op.bytesLess key (es.getD (i + 1) default).key = true := by rw [← e1]; exact bnot_f h2
          have hfI := hfin i hi.1 hi.2 (fun _ => h3)
          cbv
          refine ⟨⟨by kernel_rfl⟩, ?_⟩
          cbv
          refine ⟨[], [], ?_⟩
          cbv
          and_intros
          all_goals first | exact trivial | exact ⟨rfl⟩ | exact ⟨hfI⟩ | exact ⟨hBn⟩ | exact ⟨by kernel_rfl⟩
      · have h1 : ¬ (i : Int) + 1 < (es.length : Int) := of_decide_eq_false h1
        have hfI := hfin i hi.1 hi.2 (fun h => absurd h (by omega))
        cbv
        refine ⟨⟨by kernel_rfl⟩, ?_⟩
        cbv
        refine ⟨[], [], ?_⟩
        cbv
        and_intros
        all_goals first | exact trivial | exact ⟨rfl⟩ | exact ⟨hfI⟩ | exact ⟨hBn⟩ | exact ⟨by kernel_rfl⟩
end Go.Proofs.Ytmdfjipjkkjpcaa

/- NodeTurns: rises. -/
namespace Go.Proofs.Ytmdfjipjkkjpcaa
open Go.SX

def leqB (a b : List UInt8) : Bool := Op.bytesLess a b || a == b
def okR (leaf : Bool) (es : List Ent) (i : Nat) : Bool := !((decide (0 < i) && leqB (es.getD i default).key (es.getD (i - 1) default).key) || (decide (i = 0) && (!leaf && decide (0 < (es.getD i default).key.length))))
def risesTo (leaf : Bool) (es : List Ent) : Nat → Bool
  | 0 => true
  | n + 1 => risesTo leaf es n && okR leaf es n
def risesB (leaf : Bool) (es : List Ent) : Bool := risesTo leaf es es.length
theorem risesTo_mono {leaf : Bool} {es : List Ent} : ∀ {n m : Nat}, n ≤ m → risesTo leaf es m = true → risesTo leaf es n = true
  | n, 0, h, hm => by have : n = 0 := by omega
                      subst this; exact hm
  | n, m + 1, h, hm => by
      by_cases e : n = m + 1
      · subst e; exact hm
      · simp only [risesTo, Bool.and_eq_true] at hm
        exact risesTo_mono (by omega) hm.1
theorem rises_not {leaf : Bool} {es : List Ent} {i : Nat} (hi : i < es.length) (h : okR leaf es i = false) : risesB leaf es = false := by
  cases hr : risesB leaf es with
  | false => rfl
  | true =>
    have := risesTo_mono (n := i + 1) (by omega) hr
    simp only [risesTo, Bool.and_eq_true] at this
    rw [h] at this; exact absurd this.2 (by simp)

set_option maxRecDepth 20000 in
set_option maxHeartbeats 4000000 in
theorem con33 {leaf : Bool} {es : List Ent} (hl : es.length < 1000000000) : Con 33 [nodeSV leaf es] [] (.bool (.s fun _ => risesB leaf es)) [] := by
  refine con_of Try.func33 rfl rfl 50 _ rfl rfl rfl rfl ?_
  cbv
  refine ⟨Nat, [], fun i => [(3, .int .i64 (.s fun _ => (i : Int)))], fun _ => [(1, .cells 24 [.bool (.s fun _ => leaf), .dat (entsDV es)])], fun i => i ≤ es.length ∧ risesTo leaf es i = true, fun i => es.length - i, 0, [], ⟨Nat.zero_le _, rfl⟩, ⟨?_⟩, fun i hi => ?_⟩
  · cbv
    and_intros
    all_goals first | exact trivial | exact ⟨rfl⟩ | exact ⟨rfl, fun i hi j hj => rfl⟩ | exact ⟨by kernel_rfl⟩
  · cbv
    refine And.intro ?_ ?_
    · intro h1
      have h1 : (i : Int) < (es.length : Int) := of_decide_eq_true h1
      have hlt : i < es.length := by omega
      have o1 : indexObl (i : Int) es.length := ⟨by omega, h1⟩
      have bi : bound64 ((i : Int) + 1) := by unfold bound64; omega
      have ei : (i : Int) + 1 = ((i + 1 : Nat) : Int) := by omega
      have hmi : es.length - (i + 1) < es.length - i := by omega
      have hkR : okR leaf es i = false → false = risesB leaf es := fun h => (rises_not hlt h).symm
      cbv
      refine ⟨fun h2 => ?_, fun h2 => ?_⟩
      · have h2 : (0 : Int) < (i : Int) := of_decide_eq_true h2
        have h2n : 0 < i := by omega
        have h2z : ¬ i = 0 := by omega
        have h2i : (i : Int) = 0 → False := by omega
        have o2 : indexObl ((i : Int) - 1) es.length := ⟨by omega, by omega⟩
        have b2 : bound64 ((i : Int) - 1) := by unfold bound64; omega
        have e2 : ((i : Int) - 1).toNat = i - 1 := by omega
        cbv
        refine ⟨⟨o1⟩, ⟨b2⟩, ⟨o2⟩, fun h3 => ?_, fun h3 => ?_⟩
        · have hbad : false = risesB leaf es := hkR (by
            have h3 : leqB (es.getD i default).key (es.getD ((i : Int) - 1).toNat default).key = true := h3
            rw [e2] at h3
            unfold okR; rw [h3, decide_eq_true h2n]; rfl)
          cbv
          refine ⟨⟨by kernel_rfl⟩, ?_⟩
          cbv
          refine ⟨[], [], ?_⟩
          cbv
          and_intros
          all_goals first | exact trivial | exact ⟨hbad⟩ | exact ⟨rfl⟩ | exact ⟨by kernel_rfl⟩
        · have hleq : leqB (es.getD i default).key (es.getD (i - 1) default).key = false := by rw [← e2]; exact h3
          cbv
          refine ⟨fun h4 => ?_, fun h4 => ?_⟩
          · have h5 : False := h2i (of_decide_eq_true h4)
            cbv
            exact h5.elim
          · have hok : i + 1 ≤ es.length ∧ risesTo leaf es (i + 1) = true := ⟨hlt, by
              simp only [risesTo, Bool.and_eq_true]
              refine ⟨hi.2, ?_⟩
              unfold okR; rw [hleq, decide_eq_false h2z]; simp⟩
            cbv
            refine ⟨⟨by kernel_rfl⟩, ?_⟩
            cbv
            refine ⟨⟨bi⟩, i + 1, [], hok, hmi, ⟨?_⟩, ⟨?_⟩⟩
            · kernel_rfl
            · cbv
              and_intros
              all_goals first | exact trivial | exact ⟨rfl⟩ | exact ⟨ei⟩ | exact ⟨rfl, fun i hi j hj => rfl⟩ | exact ⟨by kernel_rfl⟩
      · have h2 : ¬ (0 : Int) < (i : Int) := of_decide_eq_false h2
        have hi0 : i = 0 := by omega
        have h2n : ¬ 0 < i := by omega
        have h2i : ¬ (i : Int) = 0 → False := by omega
        cbv
        refine ⟨fun h4 => ?_, fun h4 => ?_⟩
        · cbv
          refine ⟨fun h5 => ?_, fun h5 => ?_⟩
          · have h5 : (!leaf) = true := h5
            have hk0 : ((es.getD i default).key.length : Int) > 0 → okR leaf es i = false := fun h => by
              unfold okR; rw [decide_eq_true hi0, h5, decide_eq_true (show 0 < (es.getD i default).key.length by omega)]; simp
            have hk1 : ¬ ((es.getD i default).key.length : Int) > 0 → okR leaf es i = true := fun h => by
              unfold okR; rw [decide_eq_false h2n, decide_eq_false (show ¬ 0 < (es.getD i default).key.length by omega)]; simp
            cbv
            refine ⟨⟨o1⟩, ⟨by kernel_rfl⟩, fun h6 => ?_, fun h6 => ?_⟩
            · have hbad : false = risesB leaf es := hkR (hk0 (of_decide_eq_true h6))
              cbv
              refine ⟨[], [], ?_⟩
              cbv
              and_intros
              all_goals first | exact trivial | exact ⟨hbad⟩ | exact ⟨rfl⟩ | exact ⟨by kernel_rfl⟩
            · have hok : i + 1 ≤ es.length ∧ risesTo leaf es (i + 1) = true := ⟨hlt, by
                simp only [risesTo, Bool.and_eq_true]
                exact ⟨hi.2, hk1 (of_decide_eq_false h6)⟩⟩
              cbv
              refine ⟨⟨bi⟩, i + 1, [], hok, hmi, ⟨?_⟩, ⟨?_⟩⟩
              · kernel_rfl
              · cbv
                and_intros
                all_goals first | exact trivial | exact ⟨rfl⟩ | exact ⟨ei⟩ | exact ⟨rfl, fun i hi j hj => rfl⟩ | exact ⟨by kernel_rfl⟩
          · have h5 : (!leaf) = false := h5
            have hok : i + 1 ≤ es.length ∧ risesTo leaf es (i + 1) = true := ⟨hlt, by
              simp only [risesTo, Bool.and_eq_true]
              refine ⟨hi.2, ?_⟩
              unfold okR; rw [decide_eq_false h2n, h5]; simp⟩
            cbv
            refine ⟨⟨by kernel_rfl⟩, ?_⟩
            cbv
            refine ⟨⟨bi⟩, i + 1, [], hok, hmi, ⟨?_⟩, ⟨?_⟩⟩
            · kernel_rfl
            · cbv
              and_intros
              all_goals first | exact trivial | exact ⟨rfl⟩ | exact ⟨ei⟩ | exact ⟨rfl, fun i hi j hj => rfl⟩ | exact ⟨by kernel_rfl⟩
        · have h5 : False := h2i (of_decide_eq_false h4)
          cbv
          exact h5.elim
    · intro h1
      have h1 : ¬ (i : Int) < (es.length : Int) := of_decide_eq_false h1
      have hyes : true = risesB leaf es := by
        have hle : i = es.length := by have := hi.1; omega
        unfold risesB; rw [← hle]; exact hi.2.symm
      cbv
      refine ⟨[], [], ?_⟩
      cbv
      and_intros
      all_goals first | exact trivial | exact ⟨hyes⟩ | exact ⟨rfl⟩ | exact ⟨by kernel_rfl⟩
end Go.Proofs.Ytmdfjipjkkjpcaa

/- NodeTurns: laws: Drop's answers; what rises. -/
namespace Go.Proofs.Ytmdfjipjkkjpcaa
open Go.SX

theorem rises_law {leaf : Bool} {es : List Ent} (h : risesB leaf es = true) : RisesL es := rises_of fun i h0 hi => by
  have h1 := risesTo_mono (n := i + 1) (by omega) h
  simp only [risesTo, Bool.and_eq_true] at h1
  have h2 := h1.2
  unfold okR at h2
  rw [decide_eq_true h0, Bool.true_and] at h2
  have h3 : leqB (es.getD i default).key (es.getD (i - 1) default).key = false := by
    cases hq : leqB (es.getD i default).key (es.getD (i - 1) default).key with
    | false => rfl
    | true => rw [hq] at h2; simp at h2
  unfold leqB at h3
  rw [leq_cmp] at h3
  have h4 : gtP (es.getD (i - 1) default).key (es.getD i default).key = true := by simpa using h3
  unfold gtP at h4
  have h5 := of_decide_eq_true h4
  have := cmp_anti (es.getD i default).key (es.getD (i - 1) default).key
  omega

theorem rises_inj {es : List Ent} (hr : RisesL es) {i j : Nat} (hi : i < es.length) (hj : j < es.length) (h : (es.getD i default).key = (es.getD j default).key) : i = j := by
  rcases Nat.lt_trichotomy i j with q | q | q
  · have := hr i j q hj
    rw [h, cmp_self] at this; omega
  · exact q
  · have := hr j i q hi
    rw [h, cmp_self] at this; omega
theorem filter_all {p : Ent → Bool} : ∀ {l : List Ent}, (∀ x ∈ l, p x = true) → l.filter p = l
  | [], _ => rfl
  | x :: l, h => by rw [List.filter_cons_of_pos (h x List.mem_cons_self), filter_all fun y hy => h y (List.mem_cons_of_mem _ hy)]
theorem mem_idx' {es : List Ent} {x : Ent} (h : x ∈ es) : ∃ i, i < es.length ∧ es.getD i default = x := by
  obtain ⟨i, hi, e⟩ := List.getElem_of_mem h
  exact ⟨i, hi, by rw [List.getD_eq_getElem?_getD, List.getElem?_eq_getElem hi]; exact e⟩
theorem mem_take_idx {es : List Ent} {x : Ent} {k : Nat} (h : x ∈ es.take k) : ∃ i, i < k ∧ i < es.length ∧ es.getD i default = x := by
  obtain ⟨i, hi, e⟩ := mem_idx' h
  rw [List.length_take] at hi
  exact ⟨i, by omega, by omega, by rw [← e, List.getD_eq_getElem?_getD, List.getD_eq_getElem?_getD, List.getElem?_take, if_pos (by omega)]⟩
theorem mem_drop_idx {es : List Ent} {x : Ent} {k : Nat} (h : x ∈ es.drop k) : ∃ i, k ≤ i ∧ i < es.length ∧ es.getD i default = x := by
  obtain ⟨i, hi, e⟩ := mem_idx' h
  rw [List.length_drop] at hi
  exact ⟨k + i, by omega, by omega, by rw [← e, List.getD_eq_getElem?_getD, List.getD_eq_getElem?_getD, List.getElem?_drop]⟩
theorem keep_t {x k : List UInt8} (h : ¬ x = k) : (!decide (x = k)) = true := by rw [decide_eq_false h]; rfl
theorem drop_at {es : List Ent} {k : Nat} (h : k < es.length) : es.drop k = es.getD k default :: es.drop (k + 1) := by
  rw [List.drop_eq_getElem_cons h, List.getD_eq_getElem?_getD, List.getElem?_eq_getElem h]; rfl
theorem drop_law {es : List Ent} {key : List UInt8} (hr : RisesL es) : keepF es key = dropL es key ∧ decide ((keepF es key).length < es.length) = wasB es key := by
  obtain ⟨k, hk⟩ : ∃ k, k = placeI (geP key) es := ⟨_, rfl⟩
  have hle := placeI_le (p := geP key) (es := es)
  obtain ⟨q1, q2⟩ := place_law (ge_mono hr key)
  have hge : ∀ x : List UInt8, geP key x = false → ¬ x = key := fun x h e => by
    subst e; unfold geP at h; rw [cmp_self] at h; simp at h
  unfold dropL wasB
  rw [← hk] at hle q1 q2 ⊢
  by_cases hf : k < es.length ∧ (es.getD k default).key = key
  · have e1 : es = es.take k ++ (es.getD k default :: es.drop (k + 1)) := by
      have h1 : es.take k ++ es.drop k = es := List.take_append_drop _ _
      have h2 : es.drop k = es.getD k default :: es.drop (k + 1) := drop_at hf.1
      rw [← h2, h1]
    have e2 : keepF es key = es.take k ++ es.drop (k + 1) := by
      unfold keepF
      conv => lhs; rw [e1]
      rw [List.filter_append, List.filter_cons_of_neg (by rw [decide_eq_true hf.2]; simp), filter_all, filter_all]
      · intro x hx
        obtain ⟨i, h1, h2, rfl⟩ := mem_drop_idx hx
        have : ¬ (es.getD i default).key = key := fun e => by
          have := rises_inj hr h2 hf.1 (e.trans hf.2.symm); omega
        exact keep_t this
      · intro x hx
        obtain ⟨i, h1, h2, rfl⟩ := mem_take_idx hx
        have := hge _ (q1 i h1)
        exact keep_t this
    refine ⟨by rw [e2, if_pos hf], ?_⟩
    rw [e2, decide_eq_true hf]
    exact decide_eq_true (by simp only [List.length_append, List.length_take, List.length_drop]; omega)
  · have e2 : keepF es key = es := by
      unfold keepF
      refine filter_all fun x hx => ?_
      obtain ⟨i, h1, rfl⟩ := mem_idx' hx
      have : ¬ (es.getD i default).key = key := fun e => by
        have hki : k ≤ i := by
          apply Nat.le_of_not_lt; intro h
          exact hge _ (q1 i h) e
        have hkl : k < es.length := by omega
        have g1 := q2 k (Nat.le_refl _) hkl
        unfold geP at g1
        have g1 := of_decide_eq_true g1
        by_cases h2 : k = i
        · subst h2; exact hf ⟨hkl, e⟩
        · have g2 := hr k i (by omega) h1
          rw [e] at g2; omega
      exact keep_t this
    refine ⟨by rw [e2, if_neg hf, List.take_append_drop], ?_⟩
    rw [e2, decide_eq_false hf]
    exact decide_eq_false (by omega)
end Go.Proofs.Ytmdfjipjkkjpcaa

/- SX: raw rows: what is made, appended to where there is room, and cut. -/
namespace Go.SX

def HasRow (w : World) (b T : Nat) (cs : List Value) : Prop := w.heap[b]? = some (.cells ⟨cs⟩ T (0, 0))
/-- A row of its own: so many elements of so many, and all its cells. -/
def rowΦ (T wd n c : Nat) (cs : List Value) : World → Value → List Nat → Prop :=
  fun w v B => ∃ b, v = .slice (some ⟨b, 0, none⟩) n c ∧ B = [b] ∧ HasRow w b T cs ∧ cs.length = c * wd ∧ n ≤ c

section
variable {P : Program} {η : OEnv} {G : Nat → Prop} {w : World}

theorem dummy {objs : Objs} (hsep : Sep η G w) (hob : ∀ k, ObjOpt η G w (lookN k objs) (η k)) : Holds [] η G 0 (fun _ => .any) (fun k => lookN k objs) ⟨#[], []⟩ w :=
  ⟨rfl, rfl, fun _ => by simp [SVRel], hob, hsep⟩

theorem lookN_names {α : Type} {k : Nat} {x : α} {l : List (Nat × α)} (h : lookN k l = some x) : k ∈ l.map (·.1) := List.mem_map.2 ⟨_, lookN_mem h, rfl⟩
theorem names_map : ∀ (objs : Objs), namesOf objs = objs.map (·.1)
  | [] => rfl
  | (k, x) :: r => by simp [namesOf, names_map r]
theorem killN_map : ∀ (ks : List Nat), (killN ks).map (·.1) = ks
  | [] => rfl
  | k :: r => by simp [killN, killN_map r]

theorem lookN_app {k : Nat} {X : TObj} {d : Nat} : ∀ (ks : List Nat), lookN k (killN ks ++ [(d, X)]) = if k ∈ ks then some .dead else if k = d then some X else none
  | [] => by
      simp only [killN, List.nil_append, lookN, List.not_mem_nil, if_false]
      by_cases h : k = d
      · subst h; simp [eqN_refl]
      · have : eqN d k = false := decide_eq_false (fun e => h e.symm)
        simp [this, h]
  | j :: r => by
      simp only [killN, List.cons_append, lookN]
      by_cases h : k = j
      · subst h; simp [eqN_refl]
      · have : eqN j k = false := decide_eq_false (fun e => h e.symm)
        simp only [this, cond_false, lookN_app r, List.mem_cons, h, false_or]

/-- All objects are taken, one new one is there. -/
theorem raw_own {objs : Objs} (hlt : ∀ k ∈ namesOf objs, k < 2000) (hsep : Sep η G w) (hob : ∀ k, ObjOpt η G w (lookN k objs) (η k)) {w' : World} {o : OInfo} {X : TObj}
    (T : Takes η w (namesOf objs) w' o) (h1 : o.val.oneCell' = true) (hX : ObjRel (updE (killE η (namesOf objs)) 2000 o) G w' X o) :
    ∃ η' G', SVRel η' G' w' (.own 2000) o.val ∧ (∀ k, ObjOpt η' G' w' (lookN k (killN (namesOf objs) ++ [(2000, X)])) (η' k)) ∧ Sep η' G' w' ∧ Evol η G w η' G' w' := by
  have H := dummy hsep hob
  have hd : lookN 2000 objs = none := by
    cases h : lookN 2000 objs with
    | none => rfl
    | some x => have := hlt 2000 (by rw [names_map]; exact lookN_names h); omega
  have hks : ∀ k ∈ namesOf objs, lookN k objs ≠ none := fun k hk => by
    rw [names_map] at hk
    obtain ⟨p, hp, rfl⟩ := List.mem_map.1 hk
    exact fun h => lookN_none.1 h p.2 hp
  have A := after_take H hd hks T (fun _ => hX) (sv := .own 2000) (v := o.val) (own_rel h1)
  refine ⟨_, _, A.sv, fun k => ?_, A.sp, A.ev⟩
  have := A.ob k
  rw [updF_append] at this
  simp only [updF, updF_kill] at this
  rw [lookN_app]
  by_cases hk : k ∈ namesOf objs
  · have hne : k ≠ 2000 := fun e => by have := hlt k hk; omega
    rw [if_neg hne, if_pos hk] at this
    rw [if_pos hk]; exact this
  · rw [if_neg hk]
    by_cases hk2 : k = 2000
    · subst hk2
      rw [if_pos rfl] at this ⊢; exact this
    · rw [if_neg hk2, if_neg hk] at this
      rw [if_neg hk2]
      have hn : lookN k objs = none := lookN_none.2 fun x hx => hk (by rw [names_map]; exact List.mem_map.2 ⟨_, hx, rfl⟩)
      rw [hn] at this; exact this

theorem cust_rel {d : Option DV} {Φ : World → Value → List Nat → Prop} {v : Value} {B : List Nat} (h : ∀ w' : World, (∀ b ∈ B, w'.heap[b]? = w.heap[b]?) → Φ w' v B ∧ ∀ x, d = some x → DVRel w' (fun b => b ∈ B) x v) :
    ObjRel η G w (.cust d (fun _ => Φ)) ⟨v, B, [], false⟩ := ⟨rfl, rfl, h⟩

/-- A raw object, looked into. -/
theorem cust_at {objs : Objs} (hob : ∀ k, ObjOpt η G w (lookN k objs) (η k)) {k : Nat} {d : Option DV} {Φ : World → Value → List Nat → Prop} (hk : lookN k objs = some (.cust d (fun _ => Φ))) {v : Value} (hv : SVRel η G w (.own k) v) :
    ∃ o, η k = some o ∧ o.dead = false ∧ o.inner = [] ∧ v = o.val ∧ (∀ w' : World, (∀ b ∈ o.main, w'.heap[b]? = w.heap[b]?) → Φ w' v o.main ∧ ∀ x, d = some x → DVRel w' (fun b => b ∈ o.main) x v) := by
  have h := hob k
  simp only [SVRel] at hv
  obtain ⟨o, ho, h1, hv⟩ := hv
  rw [hk, ho] at h
  simp only [ObjOpt, ObjRel] at h
  obtain ⟨h2, h3, h4⟩ := h
  have := hv h2
  subst this
  exact ⟨o, ho, h2, h3, rfl, h4⟩

theorem rowΦ_keep {T wd n c : Nat} {cs : List Value} {w w' : World} {v : Value} {B : List Nat} (h : rowΦ T wd n c cs w v B) (hw : ∀ b ∈ B, w'.heap[b]? = w.heap[b]?) : rowΦ T wd n c cs w' v B := by
  obtain ⟨b, h1, rfl, h3, h4, h5⟩ := h
  exact ⟨b, h1, rfl, by unfold HasRow; rw [hw b (by simp)]; exact h3, h4, h5⟩

/-- 'make', of a length of 0. -/
theorem raw_make {T e c sz : Nat} {i : TypeInfo} {z : Value} {zc : Int} {cs : List Value} (hzc : zc = (c : Int)) (hsz : sz = i.size) (hcs : cs = (madeCells z.cells (c * i.size)).toList) (ht : P.underlying T = some (.slice e)) (hi : P.info? e = some i) (hz : i.zero = some z) (hb : i.bytes * c ≤ 281474976710656) (h63 : c ≤ 9223372036854775807) :
    SpecG P (rawC 7 T) [.int .i64 (.l 0), .int .i64 (.s fun _ => zc)] [] Unit (fun _ => .own 2000) (fun _ => [(2000, .cust none (fun _ => rowΦ e sz 0 c cs))]) := by
  subst hzc; subst hsz; subst hcs
  intro η G vs w hsep hob hs
  match vs, hs with
  | [v0, v1], hs =>
    simp only [SVRels, SVRel, IE.den_l, IE.den_s] at hs
    obtain ⟨rfl, rfl, -⟩ := hs
    unfold RunsX
    rw [rawSem_rawC (by omega)]
    have hb' : (i.bytes : Int) * (c : Int) ≤ 281474976710656 := by
      have h : ((i.bytes * c : Nat) : Int) ≤ 281474976710656 := by omega
      rwa [Int.natCast_mul] at h
    have hr := run_make (P := P) w T e i z ht hi hz .i64 .i64 0 c (Int.le_refl _) (by omega) hb' (by omega)
    refine ⟨_, _, hr, (), ?_⟩
    simp only [Int.toNat_natCast, Int.toNat_zero]
    exact raw_own (objs := []) (w' := w.alloc (.cells (madeCells z.cells (c * i.size)) e)) (o := ⟨.slice (some ⟨w.heap.size, 0, none⟩) 0 c, [w.heap.size], [], false⟩) (by simp [namesOf]) hsep hob
      ⟨rfl, rfl, rfl, by simp, fun b hb _ => heap_alloc_old w _ hb, fun b hb => by simp at hb; subst hb; exact ⟨by simp, .inl (Nat.le_refl _)⟩, by simp⟩ rfl
      (cust_rel fun w' hw' => ⟨⟨w.heap.size, rfl, rfl, by unfold HasRow; rw [hw' _ (by simp)]; exact heap_alloc_new w _, by simp [size_madeCells], Nat.zero_le _⟩, fun x hx => by cases hx⟩)
  | [], h => exact h.elim
  | [_], h => exact h.2.elim
  | _ :: _ :: _ :: _, h => exact h.2.2.elim

theorem run_bounds_hi {n c : Nat} {k : IntKind} {m : Nat} (hm : m ≤ c) : (Instr.sliceBounds true n c none (some (.int k (m : Int))) none).run P w = .ok (0, m, c) w := by
  have h1 : ¬ ((m : Int) < 0) := by omega
  have h2 : ¬ (c < m) := by omega
  simp [Instr.sliceBounds, Instr.sliceBound, asInt, asIntOf, h1, h2, hm]

/-- The first part of a row, as long as there is room. -/
theorem raw_cut {T e n m c : Nat} {zm : Int} (hzm : zm = (m : Int)) {i : TypeInfo} (ht : P.underlying T = some (.slice e)) (hi : P.info? e = some i) (hm : m ≤ c) {Φ Ψ : World → Value → List Nat → Prop} {d : Option DV}
    (hΦ : ∀ w v B, Φ w v B → ∃ b, v = .slice (some ⟨b, 0, none⟩) n c) (hΨ : ∀ w b B, Φ w (.slice (some ⟨b, 0, none⟩) n c) B → Ψ w (.slice (some ⟨b, 0, none⟩) m c) B ∧ ∀ x, d = some x → DVRel w (fun b => b ∈ B) x (.slice (some ⟨b, 0, none⟩) m c)) :
    SpecG P (rawC 6 T) [.own 1000, .int .i64 (.s fun _ => zm)] [(1000, .cust none (fun _ => Φ))] Unit (fun _ => .own 2000) (fun _ => [(1000, .dead), (2000, .cust d (fun _ => Ψ))]) := by
  subst hzm
  intro η G vs w hsep hob hs
  match vs, hs with
  | [v0, v1], hs =>
    simp only [SVRels] at hs
    obtain ⟨h0, h1, -⟩ := hs
    simp only [SVRel, IE.den_s] at h1
    subst h1
    obtain ⟨o, ho, hd, hin, rfl, hq⟩ := cust_at hob (k := 1000) rfl h0
    obtain ⟨b, hv⟩ := hΦ _ _ _ (hq w fun _ _ => rfl).1
    unfold RunsX
    rw [rawSem_rawC (by omega)]
    have hbd := run_bounds_hi (P := P) (w := w) (n := n) (k := .i64) hm
    refine ⟨.slice (some ⟨b, 0, none⟩) m c, w, ?_, (), ?_⟩
    · rw [hv]
      simp [Instr.sliceAt, Instr.slice, run_underlying ht, hbd, sizeOf, typeInfo, hi]
      intro _; rw [add_none]
    · exact raw_own (objs := [(1000, .cust none (fun _ => Φ))]) (w' := w) (o := ⟨.slice (some ⟨b, 0, none⟩) m c, o.main, [], false⟩) (by simp [namesOf]) hsep hob
        ⟨rfl, rfl, rfl, Nat.le_refl _, fun _ _ _ => rfl, fun b' hb' => ⟨(hsep.lt 1000 o ho b' (by simpa [hin] using hb')).1, .inr ⟨1000, by simp [namesOf], o, ho, by simpa [hin] using hb'⟩⟩, by simp⟩ rfl
        (cust_rel fun w' hw' => by
          have := (hq w' hw').1
          rw [hv] at this
          exact hΨ _ _ _ this)
  | [], h => exact h.elim
  | [_], h => exact h.2.elim
  | _ :: _ :: _ :: _, h => exact h.2.2.elim

/-- 'append' where there is room: the row's own block alone is written. -/
theorem run_room {T ty e : Nat} {i : TypeInfo} (ht : P.underlying T = some (.slice e)) (hi : P.info? e = some i) (hs : 0 < i.size) {b n c m : Nat} {cs news : List Value} {vy : Value} (hrow : HasRow w b e cs) (hc : cs.length = c * i.size) (hroom : n + m ≤ c)
    (rd : Rd w vy m news) (hl : news.length = m * i.size) (h1 : ∀ u ∈ news, u.oneCell' = true) :
    (Builtin.append_ #[T, T] ty #[.slice (some ⟨b, 0, none⟩) n c, vy]).run P w = .ok (.slice (some ⟨b, 0, none⟩) (n + m) c) (w.setRow b (cs.take (n * i.size) ++ news ++ cs.drop ((n + m) * i.size)).toArray) := by
  obtain ⟨p, c', rfl, hp⟩ := rd
  have hrow' : w.heap[b]? = some (.cells ⟨cs⟩ e (0, 0)) := hrow
  by_cases hm : m = 0
  · subst hm
    have hn : news = [] := List.eq_nil_of_length_eq_zero (by simpa using hl)
    subst hn
    rw [run_append_zero ht hi rfl (by omega) p, Nat.add_zero]
    simp only [List.append_nil, List.take_append_drop]
    rw [show (cs.toArray : Array Value) = ⟨cs⟩ from rfl, setRow_self w b _ e (0, 0) hrow']
  · obtain ⟨a, rfl, hnews⟩ := hp hm
    have hfit : n * i.size + news.length ≤ (⟨cs⟩ : Array Value).size := by
      rw [hl, ← Nat.add_mul]
      show (n + m) * i.size ≤ cs.length
      rw [hc]; exact Nat.mul_le_mul_right _ hroom
    have hr := run_append_room (P := P) w T ty e i ht hi b n c _ hrow' a m c' news hl hnews h1 hroom hfit
    rw [hr, hl, ← Nat.add_mul]

theorem setRow_has {b T : Nat} {cs cs' : List Value} (h : HasRow w b T cs) : HasRow (w.setRow b cs'.toArray) b T cs' := setRow_heap w b ⟨cs⟩ cs'.toArray T (0, 0) h
theorem put_rows_len {cs news : List Value} {n m c wd : Nat} (hc : cs.length = c * wd) (hn : news.length = m * wd) (h : n + m ≤ c) : (cs.take (n * wd) ++ news ++ cs.drop ((n + m) * wd)).length = c * wd := by
  have h1 : n * wd ≤ c * wd := Nat.mul_le_mul_right _ (by omega)
  have h2 : (n + m) * wd ≤ c * wd := Nat.mul_le_mul_right _ h
  have h3 : (n + m) * wd = n * wd + m * wd := Nat.add_mul _ _ _
  simp only [List.length_append, List.length_take, List.length_drop]
  omega

/-- Plain cells behind a row where there is room. -/
theorem raw_app {T e n m n' c sz : Nat} {i : TypeInfo} {cs cs' news : List Value} (hsz : sz = i.size) (hn' : n' = n + m) (hcs' : cs' = cs.take (n * i.size) ++ news ++ cs.drop ((n + m) * i.size)) (ht : P.underlying T = some (.slice e)) (hi : P.info? e = some i) (hs : 0 < i.size) (hroom : n + m ≤ c) (hl : news.length = m * i.size) (h1 : ∀ u ∈ news, u.oneCell' = true)
    {ys : SV} {rest : Objs} (hlt : ∀ k ∈ namesOf rest, 1001 ≤ k ∧ k < 2000)
    (hy : ∀ (η : OEnv) (G : Nat → Prop) (w : World) (v : Value), (∀ k, ObjOpt η G w (lookN k ((1000, .cust none (fun _ => rowΦ e sz n c cs)) :: rest)) (η k)) → SVRel η G w ys v → Rd w v m news) :
    SpecG P (rawC 3 T) [.own 1000, ys] ((1000, .cust none (fun _ => rowΦ e sz n c cs)) :: rest) Unit (fun _ => .own 2000)
      (fun _ => killN (1000 :: namesOf rest) ++ [(2000, .cust none (fun _ => rowΦ e sz n' c cs'))]) := by
  subst hsz; subst hn'; subst hcs'
  intro η G vs w hsep hob hs'
  match vs, hs' with
  | [v0, v1], hs' =>
    simp only [SVRels] at hs'
    obtain ⟨h0, hy1, -⟩ := hs'
    obtain ⟨o, ho, hd, hin, rfl, hq⟩ := cust_at (d := none) (Φ := rowΦ e i.size n c cs) hob (k := 1000) (by simp [lookN, eqN_refl]) h0
    obtain ⟨b, hv, hB, hrow, hc, hn⟩ := (hq w fun _ _ => rfl).1
    unfold RunsX
    rw [rawSem_rawC (by omega)]
    have hr := run_room (P := P) (ty := T) ht hi hs hrow hc hroom (hy η G w v1 hob hy1) hl h1
    refine ⟨_, _, by rw [hv]; exact hr, (), ?_⟩
    have hnn : namesOf ((1000, TObj.cust none (fun _ => rowΦ e i.size n c cs)) :: rest) = 1000 :: namesOf rest := rfl
    rw [← hnn]
    have hblt : b < w.heap.size := (hsep.lt 1000 o ho b (by simp [hB])).1
    exact raw_own (objs := (1000, .cust none (fun _ => rowΦ e i.size n c cs)) :: rest) (o := ⟨.slice (some ⟨b, 0, none⟩) (n + m) c, [b], [], false⟩) (by
        intro k hk
        rcases List.mem_cons.1 hk with rfl | hk
        · omega
        · exact (hlt k hk).2) hsep hob
      ⟨rfl, rfl, rfl, by simp, fun b' hb' hno => setRow_other w b b' _ fun e => hno 1000 (by simp [namesOf]) o ho (by rw [e, hB]; simp), fun b' hb' => by
        simp at hb'; subst hb'
        exact ⟨by simpa using hblt, .inr ⟨1000, by simp [namesOf], o, ho, by simp [hB]⟩⟩, by simp⟩ rfl
      (cust_rel fun w' hw' => ⟨rowΦ_keep ⟨b, rfl, rfl, setRow_has hrow, put_rows_len hc hl hroom, hroom⟩ hw', fun x hx => by cases hx⟩)
  | [], h => exact h.elim
  | [_], h => exact h.2.elim
  | _ :: _ :: _ :: _, h => exact h.2.2.elim
end
end Go.SX

/- SX: raw memory whose blocks are known, one by one; what each raw operation does to it. -/
namespace Go.SX

/-- Blocks: a number, its elements' type, its cells. -/
abbrev Mem := List (Nat × Nat × List Value)
def memΦ (v0 : Value) (H : Mem) (w : World) (v : Value) (B : List Nat) : Prop := v = v0 ∧ B = H.map (·.1) ∧ B.Nodup ∧ ∀ p ∈ H, HasRow w p.1 p.2.1 p.2.2
/-- A value that leads to raw memory, or that memory's own value. -/
def IsV (k : Nat) (v0 : Value) (a : SV) (va : Value) : Prop := a = .rv k (fun _ => va) ∨ (a = .own k ∧ va = v0)
/-- An address in raw memory, or of its first block. -/
def IsP (H : Mem) (a : SV) (b o : Nat) : Prop := a = .rv 1000 (fun _ => .pointer (some ⟨b, o, none⟩)) ∨ (a = .loc 1000 o ∧ ∃ T cs r, H = (b, T, cs) :: r)
/-- A block gets other cells. -/
def putB (H : Mem) (b : Nat) (cs : List Value) : Mem := H.map fun p => if p.1 = b then (p.1, p.2.1, cs) else p

theorem putB_names (H : Mem) (b : Nat) (cs : List Value) : (putB H b cs).map (·.1) = H.map (·.1) := by
  unfold putB
  rw [List.map_map]
  apply List.map_congr_left
  intro p _
  simp only [Function.comp]
  split <;> rfl
theorem putB_mem {H : Mem} {b T : Nat} {cs cs' : List Value} (h : (b, T, cs) ∈ H) : (b, T, cs') ∈ putB H b cs' := by
  unfold putB
  exact List.mem_map.2 ⟨_, h, by simp⟩
theorem putB_other {H : Mem} {b : Nat} {cs' : List Value} {p : Nat × Nat × List Value} (h : p ∈ H) (hp : p.1 ≠ b) : p ∈ putB H b cs' := by
  unfold putB
  exact List.mem_map.2 ⟨_, h, by simp [hp]⟩
theorem putB_in {H : Mem} {b : Nat} {cs' : List Value} {p : Nat × Nat × List Value} (h : p ∈ putB H b cs') : (p ∈ H ∧ p.1 ≠ b) ∨ ∃ cs, (p.1, p.2.1, cs) ∈ H ∧ p.1 = b ∧ p.2.2 = cs' := by
  unfold putB at h
  obtain ⟨q, hq, rfl⟩ := List.mem_map.1 h
  split
  · rename_i e; exact .inr ⟨q.2.2, hq, e, rfl⟩
  · rename_i e; exact .inl ⟨hq, e⟩
theorem mem_eq {H : Mem} (hn : (H.map (·.1)).Nodup) {p q : Nat × Nat × List Value} (hp : p ∈ H) (hq : q ∈ H) (h : p.1 = q.1) : p = q := by
  induction H with
  | nil => cases hp
  | cons x H ih =>
    obtain ⟨n1, n2⟩ := List.nodup_cons.1 hn
    rcases List.mem_cons.1 hp with h1 | h1
    · rcases List.mem_cons.1 hq with h2 | h2
      · rw [h1, h2]
      · exact absurd (List.mem_map.2 ⟨q, h2, by rw [← h, h1]⟩ : x.1 ∈ H.map (·.1)) n1
    · rcases List.mem_cons.1 hq with h2 | h2
      · exact absurd (List.mem_map.2 ⟨p, h1, by rw [h, h2]⟩ : x.1 ∈ H.map (·.1)) n1
      · exact ih n2 h1 h2

section
variable {P : Program} {E : Env} {η : OEnv} {G : Nat → Prop} {w : World}

theorem mem_at {objs : Objs} (hob : ∀ k, ObjOpt η G w (lookN k objs) (η k)) {k : Nat} {d : Option DV} {v0 : Value} {H : Mem} (hk : lookN k objs = some (.cust d (fun _ => memΦ v0 H))) :
    ∃ o, η k = some o ∧ o.dead = false ∧ o.inner = [] ∧ o.val = v0 ∧ o.main = H.map (·.1) ∧ (H.map (·.1)).Nodup ∧ ∀ p ∈ H, HasRow w p.1 p.2.1 p.2.2 := by
  have h := hob k
  rw [hk] at h
  cases ho : η k with
  | none => rw [ho] at h; exact h.elim
  | some o =>
    rw [ho] at h
    simp only [ObjOpt, ObjRel] at h
    obtain ⟨h2, h3, h4⟩ := h
    obtain ⟨q1, q2, q3, q4⟩ := (h4 w fun _ _ => rfl).1
    exact ⟨o, rfl, h2, h3, q1, q2, q2 ▸ q3, q4⟩

theorem isV_eq {k : Nat} {v0 va v : Value} {a : SV} (h : IsV k v0 a va) {o : OInfo} (ho : η k = some o) (hd : o.dead = false) (hv0 : o.val = v0) (hv : SVRel η G w a v) : v = va := by
  rcases h with rfl | ⟨rfl, rfl⟩
  · simp only [SVRel] at hv; exact hv.1
  · simp only [SVRel] at hv
    obtain ⟨o', ho', _, h⟩ := hv
    rw [ho] at ho'; cases ho'
    rw [h hd, hv0]

theorem isP_eq {H : Mem} {b oo : Nat} {v : Value} {a : SV} (h : IsP H a b oo) {o : OInfo} (ho : η 1000 = some o) (hd : o.dead = false) (hm : o.main = H.map (·.1)) (hv : SVRel η G w a v) : v = .pointer (some ⟨b, oo, none⟩) := by
  rcases h with rfl | ⟨rfl, T, cs, r, rfl⟩
  · simp only [SVRel] at hv; exact hv.1
  · simp only [SVRel] at hv
    obtain ⟨o', ho', _, h⟩ := hv
    rw [ho] at ho'; cases ho'
    obtain ⟨b', hb', rfl⟩ := h hd
    obtain ⟨t, ht⟩ := hb'
    rw [hm] at ht
    cases ht; rfl

/-- A look: nothing changes. -/
theorem raw_look {f : Nat} {svs : List SV} {objs : Objs} {r : SV} {s : Array Value → Sem Value} (hf : rawSem f = some s)
    (h : ∀ (η : OEnv) (G : Nat → Prop) (vs : List Value) (w : World), (∀ k, ObjOpt η G w (lookN k objs) (η k)) → SVRels η G w svs vs → ∃ v, (s ⟨vs⟩).run P w = .ok v w ∧ SVRel η G w r v) : SpecG P f svs objs Unit (fun _ => r) (fun _ => objs) := by
  intro η G vs w hsep hob hs
  obtain ⟨v, hr, hv⟩ := h η G vs w hob hs
  unfold RunsX
  rw [hf]
  exact ⟨v, w, hr, (), η, G, hv, hob, hsep, Evol.refl η G w⟩

/-- One object is changed, the others are taken into it. -/
theorem raw_upd {objs : Objs} (hsep : Sep η G w) (hob : ∀ k, ObjOpt η G w (lookN k objs) (η k)) {k : Nat} {o : OInfo} (hk : η k = some o) (hd : o.dead = false) (hin : o.inner = []) {ks : List Nat} (hkk : k ∉ ks) (hkob : lookN k objs ≠ none) (hks : ∀ j ∈ ks, lookN j objs ≠ none)
    (hall : ∀ j, j ≠ k → j ∉ ks → lookN j objs = none) {w' : World} (hos : w'.os = w.os) (htp : w'.tape = w.tape) (hou : w'.output = w.output) (hsz : w.heap.size ≤ w'.heap.size)
    (hother : ∀ b, b < w.heap.size → b ∉ o.main → w'.heap[b]? = w.heap[b]?) (extra : List Nat) (hex : ∀ b ∈ extra, b < w'.heap.size ∧ (w.heap.size ≤ b ∨ ∃ j ∈ ks, ∃ oj, η j = some oj ∧ b ∈ oj.main ++ oj.inner))
    {X : TObj} (hX : ObjRel (updE (killE η ks) k ⟨o.val, o.main ++ extra, [], false⟩) G w' X ⟨o.val, o.main ++ extra, [], false⟩) {objs' : Objs} (ho' : ∀ j, lookN j objs' = if j = k then some X else if j ∈ ks then some .dead else none) :
    (∀ j, ObjOpt (updE (killE η ks) k ⟨o.val, o.main ++ extra, [], false⟩) G w' (lookN j objs') (updE (killE η ks) k ⟨o.val, o.main ++ extra, [], false⟩ j)) ∧
      Sep (updE (killE η ks) k ⟨o.val, o.main ++ extra, [], false⟩) G w' ∧ Evol η G w (updE (killE η ks) k ⟨o.val, o.main ++ extra, [], false⟩) G w' := by
  have hnone : ∀ j, j ≠ k → j ∉ ks → η j = none := fun j h1 h2 => by
    have h := hob j
    rw [hall j h1 h2] at h
    cases hj : η j with
    | none => rfl
    | some oj => rw [hj] at h; exact h.elim
  have hnew : ∀ j oj, updE (killE η ks) k ⟨o.val, o.main ++ extra, [], false⟩ j = some oj → (j = k ∧ oj = ⟨o.val, o.main ++ extra, [], false⟩) ∨ (j ≠ k ∧ oj = deadInfo) := by
    intro j oj hj
    by_cases e : j = k
    · subst e; rw [updE_same] at hj; cases hj; exact .inl ⟨rfl, rfl⟩
    · rw [updE_other _ _ e] at hj
      rcases killE_in hj with ⟨_, rfl, _⟩ | ⟨h1, h2⟩
      · exact .inr ⟨e, rfl⟩
      · rw [hnone j e h1] at h2; cases h2
  refine ⟨fun j => ?_, ⟨?_, ?_, ?_, ?_⟩, ⟨hos, htp, hou, hsz, fun b hb hn => hother b hb fun hm => hn k o hk (by simp [hm]), ?_, fun _ h => h, fun _ h => .inl h, ?_⟩⟩
  · rw [ho' j]
    by_cases e : j = k
    · subst e; rw [if_pos rfl, updE_same]; exact hX
    · rw [if_neg e, updE_other _ _ e]
      by_cases e2 : j ∈ ks
      · rw [if_pos e2]
        unfold killE
        rw [if_pos e2]
        have h := hob j
        cases h1 : lookN j objs with
        | none => exact absurd h1 (hks j e2)
        | some x =>
          rw [h1] at h
          cases h2 : η j with
          | none => rw [h2] at h; exact h.elim
          | some oj => simp only [Option.map_some, ObjOpt, ObjRel, deadInfo]; exact ⟨trivial, trivial, trivial⟩
      · rw [if_neg e2]
        unfold killE
        rw [if_neg e2, hnone j e e2]; trivial
  · intro j oj hj b hb
    rcases hnew j oj hj with ⟨rfl, rfl⟩ | ⟨_, rfl⟩
    · simp only [List.append_nil, List.mem_append] at hb
      rcases hb with hb | hb
      · have := hsep.lt j o hk b (by simp [hb])
        exact ⟨by omega, this.2⟩
      · obtain ⟨h1, h2⟩ := hex b hb
        refine ⟨h1, fun hg => ?_⟩
        rcases h2 with h2 | ⟨j', _, oj, hoj, hm⟩
        · have := hsep.glt b hg; omega
        · exact (hsep.lt j' oj hoj b hm).2 hg
    · simp [deadInfo] at hb
  · intro j oj j' oj' hj hj' hne b hb hb'
    rcases hnew j oj hj with ⟨rfl, rfl⟩ | ⟨_, rfl⟩
    · rcases hnew j' oj' hj' with ⟨rfl, rfl⟩ | ⟨_, rfl⟩
      · exact hne rfl
      · simp [deadInfo] at hb'
    · simp [deadInfo] at hb
  · intro j oj hj b hb
    rcases hnew j oj hj with ⟨rfl, rfl⟩ | ⟨_, rfl⟩
    · simp
    · simp [deadInfo]
  · intro b hb
    have := hsep.glt b hb
    omega
  · intro j oj hj
    by_cases e : j = k
    · subst e
      rw [hk] at hj; cases hj
      exact ⟨_, updE_same _ _ _, fun _ => ⟨hd, rfl, ⟨extra, rfl⟩, fun b hb => by rw [hin] at hb; cases hb⟩⟩
    · obtain ⟨o2, h2, h3⟩ := killE_some (ks := ks) hj
      refine ⟨o2, by rw [updE_other _ _ e]; exact h2, fun hdd => ?_⟩
      obtain ⟨hn, rfl⟩ := h3 hdd
      rw [hnone j e hn] at hj; cases hj
  · intro j oj hj b hb
    rcases hnew j oj hj with ⟨rfl, rfl⟩ | ⟨_, rfl⟩
    · simp only [List.append_nil, List.mem_append] at hb
      rcases hb with hb | hb
      · exact .inr ⟨j, o, hk, by simp [hb]⟩
      · rcases (hex b hb).2 with h | ⟨j', _, oj, hoj, hm⟩
        · exact .inl h
        · exact .inr ⟨j', oj, hoj, hm⟩
    · simp [deadInfo] at hb

theorem mem_rel {η' : OEnv} {G' : Nat → Prop} {w' : World} {v0 : Value} {H' : Mem} {B : List Nat} (hB : B = H'.map (·.1)) (hn : B.Nodup) (hr : ∀ p ∈ H', HasRow w' p.1 p.2.1 p.2.2) : ObjRel η' G' w' (.cust none (fun _ => memΦ v0 H')) ⟨v0, B, [], false⟩ :=
  ⟨rfl, rfl, fun w2 hw2 => ⟨⟨rfl, hB, hn, fun p hp => by
    have hb : p.1 ∈ B := by rw [hB]; exact List.mem_map.2 ⟨p, hp, rfl⟩
    unfold HasRow; rw [hw2 _ hb]; exact hr p hp⟩, fun x hx => by cases hx⟩⟩

theorem putB_rows {w : World} {H : Mem} {b T : Nat} {cs cs' : List Value} (hn : (H.map (·.1)).Nodup) (hr : ∀ p ∈ H, HasRow w p.1 p.2.1 p.2.2) (hm : (b, T, cs) ∈ H) : ∀ p ∈ putB H b cs', HasRow (w.setRow b cs'.toArray) p.1 p.2.1 p.2.2 := by
  intro p hp
  rcases putB_in hp with ⟨h1, h2⟩ | ⟨cs2, h1, h2, h3⟩
  · unfold HasRow; rw [setRow_other w b _ _ h2]; exact hr p h1
  · have e := mem_eq hn h1 hm h2
    simp only [Prod.mk.injEq] at e
    have hrow := hr _ hm
    have := setRow_has (cs' := cs') hrow
    rw [h3, h2, e.2.1]; exact this

/-- A cell is loaded. -/
theorem mem_load (hE : EOk P E) {T b o Tb : Nat} {ti : TI} {v0 u : Value} {H : Mem} {cs : List Value} {a r : SV} (ha : IsP H a b o) (hti : E.ti T = some ti) (hag : ti.td.isAgg = false) (hm : (b, Tb, cs) ∈ H) (hu : cs[o]? = some u) (hr : ∀ (η : OEnv) (G : Nat → Prop) (w : World), SVRel η G w r u) :
    SpecG P (rawC 0 T) [a] [(1000, .cust none (fun _ => memΦ v0 H))] Unit (fun _ => r) (fun _ => [(1000, .cust none (fun _ => memΦ v0 H))]) := by
  refine raw_look (rawSem_rawC (by omega)) fun η G vs w hob hs => ?_
  match vs, hs with
  | [v1], hs =>
    simp only [SVRels] at hs
    obtain ⟨oi, ho, hd, _, _, hmain, _, hrows⟩ := mem_at hob (k := 1000) rfl
    obtain rfl := isP_eq ha ho hd hmain hs.1
    have hrow := hrows _ hm
    refine ⟨u, ?_, hr η G w⟩
    exact run_loadVar_one (hE T ti hti) hag b o u (by rw [cell_cells hrow]; simpa using hu)
  | [], h => exact h.elim
  | _ :: _ :: _, h => exact h.2.elim

/-- An element's address. -/
theorem mem_idx (hE : EOk P E) {T e b o n c i : Nat} {te : TI} {v0 : Value} {H : Mem} {a : SV} {z : Int} (ht : P.underlying T = some (.slice e)) (he : E.ti e = some te) (ha : IsV 1000 v0 a (.slice (some ⟨b, o, none⟩) n c)) (hz : z = (i : Int)) (hi : i < n) :
    SpecG P (rawC 2 T) [a, .int .i64 (.s fun _ => z)] [(1000, .cust none (fun _ => memΦ v0 H))] Unit (fun _ => .rv 1000 fun _ => .pointer (some ⟨b, o + i * te.size, none⟩)) (fun _ => [(1000, .cust none (fun _ => memΦ v0 H))]) := by
  subst hz
  refine raw_look (rawSem_rawC (by omega)) fun η G vs w hob hs => ?_
  match vs, hs with
  | [v1, v2], hs =>
    simp only [SVRels] at hs
    obtain ⟨h1, h2, -⟩ := hs
    simp only [SVRel, IE.den_s] at h2
    subst h2
    obtain ⟨oi, ho, hd, _, hv0, _, _, hrows⟩ := mem_at hob (k := 1000) rfl
    obtain rfl := isV_eq ha ho hd hv0 h1
    refine ⟨_, run_indexAt hE ht he b o n c .i64 (i : Int) (by omega) (by omega), ?_⟩
    simp [SVRel, Value.oneCell']
  | [], h => exact h.elim
  | [_], h => exact h.2.elim
  | _ :: _ :: _ :: _, h => exact h.2.2.elim

/-- A length. -/
theorem mem_len {T e n c : Nat} {p : Option Addr} {v0 : Value} {H : Mem} {a : SV} (ht : P.underlying T = some (.slice e)) (ha : IsV 1000 v0 a (.slice p n c)) :
    SpecG P (rawC 4 T) [a] [(1000, .cust none (fun _ => memΦ v0 H))] Unit (fun _ => .int .i64 (.s fun _ => (n : Int))) (fun _ => [(1000, .cust none (fun _ => memΦ v0 H))]) := by
  refine raw_look (rawSem_rawC (by omega)) fun η G vs w hob hs => ?_
  match vs, hs with
  | [v1], hs =>
    simp only [SVRels] at hs
    obtain ⟨oi, ho, hd, _, hv0, _, _, hrows⟩ := mem_at hob (k := 1000) rfl
    obtain rfl := isV_eq ha ho hd hv0 hs.1
    refine ⟨.int .i64 (n : Int), ?_, by simp [SVRel]⟩
    simp [Builtin.len_, run_underlying ht, Builtin.lenOf, goInt]
  | [], h => exact h.elim
  | _ :: _ :: _, h => exact h.2.elim

theorem mem_cap {T e n c : Nat} {p : Option Addr} {v0 : Value} {H : Mem} {a : SV} (ht : P.underlying T = some (.slice e)) (ha : IsV 1000 v0 a (.slice p n c)) :
    SpecG P (rawC 5 T) [a] [(1000, .cust none (fun _ => memΦ v0 H))] Unit (fun _ => .int .i64 (.s fun _ => (c : Int))) (fun _ => [(1000, .cust none (fun _ => memΦ v0 H))]) := by
  refine raw_look (rawSem_rawC (by omega)) fun η G vs w hob hs => ?_
  match vs, hs with
  | [v1], hs =>
    simp only [SVRels] at hs
    obtain ⟨oi, ho, hd, _, hv0, _, _, hrows⟩ := mem_at hob (k := 1000) rfl
    obtain rfl := isV_eq ha ho hd hv0 hs.1
    refine ⟨.int .i64 (c : Int), ?_, by simp [SVRel]⟩
    simp [Builtin.cap_, run_underlying ht, goInt]
  | [], h => exact h.elim
  | _ :: _ :: _, h => exact h.2.elim

/-- A field's address. -/
theorem mem_field (hE : EOk P E) {S f b o off : Nat} {fs : List (Nat × Nat)} {ti : TI} {v0 : Value} {H : Mem} {a : SV} (hti : E.ti S = some ti) (htd : ti.td = .struct fs) (hf : f < fs.length) (h32 : f < 32) (hoff : (nthD fs f (0, 0)).2 = off) (ha : IsV 1000 v0 a (.pointer (some ⟨b, o, none⟩))) :
    SpecG P (rawC 8 (S * 32 + f)) [a] [(1000, .cust none (fun _ => memΦ v0 H))] Unit (fun _ => .rv 1000 fun _ => .pointer (some ⟨b, o + off, none⟩)) (fun _ => [(1000, .cust none (fun _ => memΦ v0 H))]) := by
  refine raw_look (rawSem_rawC (by omega)) fun η G vs w hob hs => ?_
  match vs, hs with
  | [v1], hs =>
    simp only [SVRels] at hs
    obtain ⟨oi, ho, hd, _, hv0, _, _, hrows⟩ := mem_at hob (k := 1000) rfl
    obtain rfl := isV_eq ha ho hd hv0 hs.1
    obtain ⟨d, hd, ht⟩ := (hE S ti hti).desc
    rw [htd] at ht
    obtain ⟨fields, rfl, hfo⟩ := ht
    obtain ⟨fd, j, h1, h2, h3, h4, h5, h6⟩ := fieldsOk_at f hfo hf
    refine ⟨.pointer (some ⟨b, o + off, none⟩), ?_, by simp [SVRel, Value.oneCell']⟩
    have e1 : (S * 32 + f) / 32 = S := by omega
    have e2 : (S * 32 + f) % 32 = f := by omega
    simp only [e1, e2]
    simp [Instr.fieldAt, run_underlying hd, h1, Instr.sureAddr, fieldPlace, sizeOf, typeInfo, h4, h6, add_none, h3, hoff]
  | [], h => exact h.elim
  | _ :: _ :: _, h => exact h.2.elim

/-- The first part of a slice. -/
theorem mem_cut {T e b n c m : Nat} {v0 : Value} {H : Mem} {a : SV} {zm : Int} {i : TypeInfo} (ht : P.underlying T = some (.slice e)) (hi : P.info? e = some i) (ha : IsV 1000 v0 a (.slice (some ⟨b, 0, none⟩) n c)) (hz : zm = (m : Int)) (hm : m ≤ c) :
    SpecG P (rawC 6 T) [a, .int .i64 (.s fun _ => zm)] [(1000, .cust none (fun _ => memΦ v0 H))] Unit (fun _ => .rv 1000 fun _ => .slice (some ⟨b, 0, none⟩) m c) (fun _ => [(1000, .cust none (fun _ => memΦ v0 H))]) := by
  subst hz
  refine raw_look (rawSem_rawC (by omega)) fun η G vs w hob hs => ?_
  match vs, hs with
  | [v1, v2], hs =>
    simp only [SVRels] at hs
    obtain ⟨h1, h2, -⟩ := hs
    simp only [SVRel, IE.den_s] at h2
    subst h2
    obtain ⟨oi, ho, hd, _, hv0, _, _, hrows⟩ := mem_at hob (k := 1000) rfl
    obtain rfl := isV_eq ha ho hd hv0 h1
    have hbd := run_bounds_hi (P := P) (w := w) (n := n) (k := .i64) hm
    refine ⟨.slice (some ⟨b, 0, none⟩) m c, ?_, by simp [SVRel, Value.oneCell']⟩
    simp [Instr.sliceAt, Instr.slice, run_underlying ht, hbd, sizeOf, typeInfo, hi]
    intro _; rw [add_none]
  | [], h => exact h.elim
  | [_], h => exact h.2.elim
  | _ :: _ :: _ :: _, h => exact h.2.2.elim

/-- Cells are written. -/
theorem mem_store (hE : EOk P E) {T b o Tb : Nat} {ti : TI} {v0 : Value} {H : Mem} {cs us : List Value} {a x : SV} (ha : IsP H a b o) (hti : E.ti T = some ti) (hm : (b, Tb, cs) ∈ H) (hfit : o + us.length ≤ cs.length) (hsz : us.length = ti.size) (hone : ∀ u ∈ us, u.oneCell' = true)
    (hx : ∀ (η : OEnv) (G : Nat → Prop) (w : World) (v : Value), SVRel η G w x v → v.cells.toList = us) :
    SpecG P (rawC 1 T) [a, x] [(1000, .cust none (fun _ => memΦ v0 H))] Unit (fun _ => .any)
      (fun _ => [(1000, .cust none (fun _ => memΦ v0 (putB H b (cs.take o ++ us ++ cs.drop (o + us.length)))))]) := by
  intro η G vs w hsep hob hs
  match vs, hs with
  | [v1, v2], hs =>
    simp only [SVRels] at hs
    obtain ⟨h1, h2, -⟩ := hs
    obtain ⟨oi, ho, hd, hin, hv0, hmain, hnd, hrows⟩ := mem_at hob (k := 1000) rfl
    obtain rfl := isP_eq ha ho hd hmain h1
    have hrow : w.heap[b]? = some (.cells ⟨cs⟩ Tb (0, 0)) := hrows _ hm
    have hcl := hx η G w v2 h2
    have hst := run_storeCells_at P b o Tb us 0 ⟨cs⟩ w hrow (by simpa using hfit) hone
    simp only [Nat.add_zero] at hst
    have hvs : v2.cells.size = ti.size := by rw [← hsz, ← hcl]; simp
    have hbm : b ∈ oi.main := by rw [hmain]; exact List.mem_map.2 ⟨_, hm, rfl⟩
    unfold RunsX
    rw [rawSem_rawC (by omega)]
    refine ⟨undef, w.setRow b (cs.take o ++ us ++ cs.drop (o + us.length)).toArray, ?_, (), ?_⟩
    · simp [Instr.storeAt, Instr.sureAddr, storeVar, sizeOf_run (hE T ti hti), hvs, hcl]
      simp only [List.append_assoc] at hst
      rw [hst]; rfl
    · have := raw_upd (w' := w.setRow b (cs.take o ++ us ++ cs.drop (o + us.length)).toArray) (objs' := [(1000, .cust none (fun _ => memΦ v0 (putB H b (cs.take o ++ us ++ cs.drop (o + us.length)))))]) (X := .cust none (fun _ => memΦ v0 (putB H b (cs.take o ++ us ++ cs.drop (o + us.length)))))
        hsep hob (k := 1000) ho hd hin (ks := []) (by simp) (by simp [lookN, eqN_refl]) (by simp) (fun j hj _ => by
          have : eqN 1000 j = false := decide_eq_false fun e => hj e.symm
          simp [lookN, this]) rfl rfl rfl (by simp) (fun b' _ hb' => setRow_other w b b' _ fun e => hb' (e ▸ hbm)) [] (by simp) (by
            rw [hv0]
            exact mem_rel (by rw [putB_names, hmain]; simp) (by rw [hmain]; simpa using hnd) (putB_rows hnd hrows hm)) (fun j => by
          by_cases e : j = 1000
          · subst e; simp [lookN, eqN_refl]
          · have : eqN 1000 j = false := decide_eq_false fun e' => e e'.symm
            simp [lookN, this, e])
      exact ⟨_, G, by simp [SVRel], this⟩
  | [], h => exact h.elim
  | [_], h => exact h.2.elim
  | _ :: _ :: _ :: _, h => exact h.2.2.elim

/-- A slice in raw memory: so many elements, room for so many, the elements' cells. -/
def SlM (H : Mem) (e s : Nat) (va : Value) (n c : Nat) (xs : List Value) : Prop :=
  (va = .slice none 0 0 ∧ n = 0 ∧ c = 0 ∧ xs = []) ∨ ∃ b cs, va = .slice (some ⟨b, 0, none⟩) n c ∧ (b, e, cs) ∈ H ∧ cs.length = c * s ∧ n ≤ c ∧ cs.take (n * s) = xs
/-- What 'append' leaves. -/
def App (H : Mem) (e s : Nat) (va : Value) (n c m : Nat) (xs news : List Value) (va' : Value) (H' : Mem) : Prop :=
  (H'.map (·.1)).Nodup ∧ ((n + m ≤ c ∧ ∃ b cs, va = .slice (some ⟨b, 0, none⟩) n c ∧ (b, e, cs) ∈ H ∧ va' = .slice (some ⟨b, 0, none⟩) (n + m) c ∧ H' = putB H b (cs.take (n * s) ++ news ++ cs.drop ((n + m) * s))) ∨
    (c < n + m ∧ ∃ g c' cs', g ∉ H.map (·.1) ∧ va' = .slice (some ⟨g, 0, none⟩) (n + m) c' ∧ H' = H ++ [(g, e, cs')] ∧ n + m ≤ c' ∧ c' ≤ maxLen ∧ cs'.length = c' * s ∧ cs'.take ((n + m) * s) = xs ++ news))

theorem run_append_more {T ty e n c m : Nat} {i : TypeInfo} {z : Value} (ht : P.underlying T = some (.slice e)) (hi : P.info? e = some i) (hz : i.zero = some z) (hzs : z.cells.size = i.size) (hbp : 0 < i.bytes) {v vy : Value} {xs news : List Value}
    (old : (v = .slice none 0 0 ∧ n = 0 ∧ c = 0 ∧ xs = []) ∨ ∃ b cs, v = .slice (some ⟨b, 0, none⟩) n c ∧ HasRow w b e cs ∧ cs.length = c * i.size ∧ n ≤ c ∧ cs.take (n * i.size) = xs) (hm : 0 < m) (rd : Rd w vy m news) (hl : news.length = m * i.size)
    (hbytes : (n + m) * i.bytes ≤ 140737488355328) (hg : c < n + m) :
    ∃ c' cs', (Builtin.append_ #[T, T] ty #[v, vy]).run P w = .ok (.slice (some ⟨w.heap.size, 0, none⟩) (n + m) c') (w.drew.alloc (.cells ⟨cs'⟩ e)) ∧ n + m ≤ c' ∧ c' ≤ maxLen ∧ cs'.length = c' * i.size ∧ cs'.take ((n + m) * i.size) = xs ++ news := by
  have h63 : n + m ≤ maxLen := by
    have : (n + m) * 1 ≤ (n + m) * i.bytes := Nat.mul_le_mul_left _ hbp
    simp only [maxLen]; omega
  obtain ⟨p, c2, rfl, hp⟩ := rd
  obtain ⟨a, rfl, hnews⟩ := hp (by omega)
  have hxl : xs.length = n * i.size := by
    rcases old with ⟨_, rfl, _, rfl⟩ | ⟨b, cs, _, _, h2, h3, rfl⟩
    · simp
    · have := Nat.mul_le_mul_right i.size h3
      rw [List.length_take]; omega
  have hlen : (xs ++ news).length = (n + m) * i.size := by rw [List.length_append, hxl, hl, Nat.add_mul]
  have grown : ∀ (old : Nat), old < n + m → n + m ≤ grownCap w (n + m) old e ∧ grownCap w (n + m) old e ≤ maxLen ∧
      (xs.toArray ++ news.toArray ++ Builtin.zeroCells z.cells (grownCap w (n + m) old e - (n + m))).toList.length = grownCap w (n + m) old e * i.size ∧
      (xs.toArray ++ news.toArray ++ Builtin.zeroCells z.cells (grownCap w (n + m) old e - (n + m))).toList.take ((n + m) * i.size) = xs ++ news := by
    intro old ho
    have hge := grownCap_ge w (n + m) old e
    refine ⟨hge, grownCap_le_maxLen w (n + m) old e h63, ?_, ?_⟩
    · rw [Array.length_toList]
      simp only [Array.size_append, List.size_toArray, size_zeroCells, hzs, hxl, hl, ← Nat.add_mul]
      congr 1
      omega
    · simp only [Array.toList_append, List.append_assoc]
      rw [← List.append_assoc, ← hlen]
      exact List.take_left
  rcases old with ⟨rfl, rfl, rfl, rfl⟩ | ⟨b, cs, rfl, hrow, hcl, hnc, htake⟩
  · have hr := run_append_nil (P := P) w T ty e i z ht hi hz a m c2 news hl hnews (by omega) (by simp only [maxLen] at h63; omega) (by have hb := hbytes; simp only [Nat.zero_add] at hb; omega)
    have hgr := grown 0 (by omega)
    simp only [Nat.zero_add, List.nil_append, Array.empty_append] at hgr ⊢
    exact ⟨_, _, hr, hgr⟩
  · have hrow' : w.heap[b]? = some (.cells ⟨cs⟩ e (0, 0)) := hrow
    have holds : ∀ j u, xs[j]? = some u → w.cell? ((⟨b, 0, none⟩ : Addr).add j) = some u := by
      intro j u hu
      rw [add_none, cell_cells hrow', Nat.zero_add]
      rw [← htake, List.getElem?_take] at hu
      split at hu
      · simpa using hu
      · cases hu
    have hr := run_append_grow (P := P) w T ty e i z ht hi hz ⟨b, 0, none⟩ n c xs hxl holds a m c2 news hl hnews (by omega) (by simp only [maxLen] at h63; omega) (growslice_fits (by omega) hbytes)
    exact ⟨_, _, hr, grown c (by omega)⟩

/-- One element behind a slice: in its room, or all anew. -/
theorem mem_app {T e n c s : Nat} {i : TypeInfo} {z v0 va : Value} {H : Mem} {xs news : List Value} {cells : List SV} (ht : P.underlying T = some (.slice e)) (hi : P.info? e = some i) (hz : i.zero = some z) (hzs : z.cells.size = i.size) (hs : i.size = s) (hs0 : 0 < s) (hbp : 0 < i.bytes)
    (old : SlM H e s va n c xs) (hl : news.length = s) (hone : ∀ u ∈ news, u.oneCell' = true) (hnews : ∀ (η : OEnv) (G : Nat → Prop) (w : World) (us : List Value), SVRels η G w cells us → us = news) (hbytes : (n + 1) * i.bytes ≤ 140737488355328) :
    SpecG P (rawC 3 T) [.rv 1000 (fun _ => va), .csl 1001 s 1] [(1000, .cust none (fun _ => memΦ v0 H)), (1001, .cells e cells)] {x : Value × Mem // App H e s va n c 1 xs news x.1 x.2} (fun x => .rv 1000 fun _ => x.1.1)
      (fun x => [(1000, .cust none (fun _ => memΦ v0 x.1.2)), (1001, .dead)]) := by
  subst hs
  intro η G vs w hsep hob hs
  match vs, hs with
  | [v1, v2], hs =>
    simp only [SVRels] at hs
    obtain ⟨h1, h2, -⟩ := hs
    simp only [SVRel] at h1
    obtain ⟨h1, _⟩ := h1
    have h1 : v1 = va := h1
    subst v1
    obtain ⟨oi, ho, hd, hin, hv0, hmain, hnd, hrows⟩ := mem_at hob (k := 1000) rfl
    have hc := hob 1001
    simp only [SVRel] at h2
    obtain ⟨o2, ho2, _, h2⟩ := h2
    rw [ho2] at hc
    have hc : ObjRel η G w (.cells e cells) o2 := hc
    obtain ⟨c1, c3, b2, us, hm2, hh2, hus⟩ := hc
    obtain ⟨b', hb', rfl⟩ := h2 c1
    obtain rfl := OInfo.at_one hm2 hb'
    obtain rfl := hnews η G w us hus
    have hrd : Rd w (.slice (some ⟨b2, 0, none⟩) 1 1) 1 us := ⟨_, _, rfl, fun _ => ⟨_, rfl, fun j u hj => by
      rw [add_none, cell_cells hh2, Nat.zero_add]; simpa using hj⟩⟩
    have hlt : ∀ b ∈ oi.main, b < w.heap.size := fun b hb => (hsep.lt 1000 oi ho b (by simp [hb])).1
    have hdead : ∀ (M : Mem) (j : Nat), lookN j [(1000, TObj.cust none (fun _ => memΦ v0 M)), (1001, .dead)] = if j = 1000 then some (.cust none (fun _ => memΦ v0 M)) else if j ∈ [1001] then some .dead else none := by
      intro M j
      by_cases e1 : j = 1000
      · subst e1; simp [lookN, eqN_refl]
      · have q1 : eqN 1000 j = false := decide_eq_false fun e => e1 e.symm
        by_cases e2 : j = 1001
        · subst e2; simp [lookN, q1, eqN_refl]
        · have q2 : eqN 1001 j = false := decide_eq_false fun e => e2 e.symm
          simp [lookN, q1, q2, e1, e2]
    have hall : ∀ j, j ≠ 1000 → j ∉ [1001] → lookN j [(1000, TObj.cust none (fun _ => memΦ v0 H)), (1001, .cells e cells)] = none := by
      intro j e1 e2
      have q1 : eqN 1000 j = false := decide_eq_false fun e => e1 e.symm
      have q2 : eqN 1001 j = false := decide_eq_false fun e => e2 (by simp [e])
      simp [lookN, q1, q2]
    have hk1 : ∀ j ∈ [1001], lookN j [(1000, TObj.cust none (fun _ => memΦ v0 H)), (1001, .cells e cells)] ≠ none := by
      intro j hj
      simp at hj; subst hj
      have q1 : eqN 1000 1001 = false := by decide
      simp [lookN, q1, eqN_refl]
    unfold RunsX
    rw [rawSem_rawC (by omega)]
    have old' : (va = .slice none 0 0 ∧ n = 0 ∧ c = 0 ∧ xs = []) ∨ ∃ b cs, va = .slice (some ⟨b, 0, none⟩) n c ∧ HasRow w b e cs ∧ cs.length = c * i.size ∧ n ≤ c ∧ cs.take (n * i.size) = xs := by
      rcases old with h | ⟨b, cs, q1, q2, q3⟩
      · exact .inl h
      · exact .inr ⟨b, cs, q1, hrows _ q2, q3⟩
    by_cases hroom : n + 1 ≤ c
    · rcases old with ⟨_, rfl, rfl, _⟩ | ⟨b, cs, rfl, hm, hcl, hnc, htake⟩
      · omega
      · have hr := run_room (P := P) (ty := T) ht hi (by omega) (hrows _ hm) hcl hroom hrd (by omega) hone
        have hbm : b ∈ oi.main := by rw [hmain]; exact List.mem_map.2 ⟨_, hm, rfl⟩
        have hu := raw_upd (w' := w.setRow b (cs.take (n * i.size) ++ us ++ cs.drop ((n + 1) * i.size)).toArray) (X := .cust none (fun _ => memΦ v0 (putB H b (cs.take (n * i.size) ++ us ++ cs.drop ((n + 1) * i.size)))))
          (objs' := [(1000, .cust none (fun _ => memΦ v0 (putB H b (cs.take (n * i.size) ++ us ++ cs.drop ((n + 1) * i.size))))), (1001, .dead)])
          hsep hob (k := 1000) ho hd hin (ks := [1001]) (by simp) (by simp [lookN, eqN_refl]) hk1 hall rfl rfl rfl (by simp) (fun b' _ hb' => setRow_other w b b' _ fun e => hb' (e ▸ hbm)) [] (by simp) (by
            rw [hv0]
            exact mem_rel (by rw [putB_names, hmain]; simp) (by rw [hmain]; simpa using hnd) (putB_rows hnd hrows hm)) (hdead _)
        have hx : App H e i.size (.slice (some ⟨b, 0, none⟩) n c) n c 1 xs us (.slice (some ⟨b, 0, none⟩) (n + 1) c) (putB H b (cs.take (n * i.size) ++ us ++ cs.drop ((n + 1) * i.size))) :=
          ⟨by rw [putB_names]; exact hnd, .inl ⟨hroom, b, cs, rfl, hm, rfl, rfl⟩⟩
        exact ⟨_, _, hr, ⟨(_, _), hx⟩, _, G, by simp [SVRel, Value.oneCell'], hu⟩
    · obtain ⟨c', cs', hr, g1, g2, g3, g4⟩ := run_append_more (P := P) (ty := T) ht hi hz hzs hbp old' (by omega) hrd (by omega) hbytes (by omega)
      have hng : w.heap.size ∉ H.map (·.1) := fun h => by have := hlt _ (hmain ▸ h); omega
      have hnd' : ((H ++ [(w.heap.size, e, cs')]).map (·.1)).Nodup := by
        rw [List.map_append]
        exact List.nodup_append.2 ⟨hnd, by simp, fun x hx y hy exy => by simp at hy; subst exy; subst hy; exact hng hx⟩
      have hu := raw_upd (w' := w.drew.alloc (.cells ⟨cs'⟩ e)) (X := .cust none (fun _ => memΦ v0 (H ++ [(w.heap.size, e, cs')])))
        (objs' := [(1000, .cust none (fun _ => memΦ v0 (H ++ [(w.heap.size, e, cs')]))), (1001, .dead)])
        hsep hob (k := 1000) ho hd hin (ks := [1001]) (by simp) (by simp [lookN, eqN_refl]) hk1 hall rfl rfl rfl (by simp) (fun b' hb' _ => heap_alloc_old w.drew _ hb') [w.heap.size] (fun b hb => by simp at hb; subst hb; exact ⟨by simp, .inl (Nat.le_refl _)⟩) (by
          rw [hv0]
          refine mem_rel (by rw [List.map_append, hmain]; rfl) (by rw [hmain]; simpa [List.map_append] using hnd') fun p hp => ?_
          rcases List.mem_append.1 hp with hp | hp
          · unfold HasRow
            rw [heap_alloc_old w.drew _ (hlt _ (by rw [hmain]; exact List.mem_map.2 ⟨p, hp, rfl⟩))]
            exact hrows p hp
          · simp at hp; subst hp
            exact heap_alloc_new w.drew _) (hdead _)
      have hx : App H e i.size va n c 1 xs us (.slice (some ⟨w.heap.size, 0, none⟩) (n + 1) c') (H ++ [(w.heap.size, e, cs')]) :=
        ⟨hnd', .inr ⟨by omega, w.heap.size, c', cs', hng, rfl, rfl, g1, g2, g3, g4⟩⟩
      exact ⟨_, _, hr, ⟨(_, _), hx⟩, _, G, by simp [SVRel, Value.oneCell'], hu⟩
  | [], h => exact h.elim
  | [_], h => exact h.2.elim
  | _ :: _ :: _ :: _, h => exact h.2.2.elim
end
end Go.SX

/- SX: raw memory of which something is known; raw operations keep what is known, or change it. -/
namespace Go.SX

/-- Raw memory of which Q is known. -/
def exΦ (v0 : Value) (Q : Mem → Prop) (w : World) (v : Value) (B : List Nat) : Prop := ∃ H, Q H ∧ (H.map (·.1)).Nodup ∧ memΦ v0 H w v B

section
variable {P : Program} {E : Env} {η : OEnv} {G : Nat → Prop} {w : World}

theorem mem_stay {v0 v : Value} {H : Mem} {B : List Nat} {w w' : World} (h : memΦ v0 H w v B) (hw : ∀ b ∈ B, w'.heap[b]? = w.heap[b]?) : memΦ v0 H w' v B := by
  obtain ⟨h1, h2, h3, h4⟩ := h
  exact ⟨h1, h2, h3, fun p hp => by unfold HasRow; rw [hw _ (by rw [h2]; exact List.mem_map.2 ⟨p, hp, rfl⟩)]; exact h4 p hp⟩

/-- What is known of raw memory, looked into. -/
theorem cust_open {d : Option DV} {Φ : World → Value → List Nat → Prop} {v0 : Value} {Q : Mem → Prop} (hΦ : ∀ w v B, Φ w v B → exΦ v0 Q w v B) {o : OInfo} (h : ObjRel η G w (.cust d (fun _ => Φ)) o) :
    ∃ H, Q H ∧ (H.map (·.1)).Nodup ∧ ObjRel η G w (.cust none (fun _ => memΦ v0 H)) o := by
  obtain ⟨h1, h2, h3⟩ := h
  obtain ⟨H, hq, hn, hm⟩ := hΦ _ _ _ (h3 w fun _ _ => rfl).1
  exact ⟨H, hq, hn, h1, h2, fun w' hw' => ⟨mem_stay hm hw', fun x hx => by cases hx⟩⟩
theorem cust_close {v0 : Value} {H : Mem} {Φ : World → Value → List Nat → Prop} {o : OInfo} (h : ObjRel η G w (.cust none (fun _ => memΦ v0 H)) o) (hΦ : ∀ w v B, memΦ v0 H w v B → Φ w v B) : ObjRel η G w (.cust none (fun _ => Φ)) o := by
  obtain ⟨h1, h2, h3⟩ := h
  exact ⟨h1, h2, fun w' hw' => ⟨hΦ _ _ _ (h3 w' hw').1, fun x hx => by cases hx⟩⟩

/-- An object is looked at in another way ahead. -/
theorem specX_conv {f k : Nat} {svs : List SV} {X : TObj} {rest : Objs} {r : SV} {objs' : Objs} {Y : Type} {F : Y → Prop} {X' : Y → TObj} (h : ∀ (η : OEnv) (G : Nat → Prop) (w : World) (o : OInfo), ObjRel η G w X o → ∃ y, F y ∧ ObjRel η G w (X' y) o)
    (hf : ∀ y, F y → SpecX P f svs ((k, X' y) :: rest) r objs') : SpecX P f svs ((k, X) :: rest) r objs' := by
  intro η G vs w hsep hob hs
  have hk := hob k
  simp only [lookN, eqN_refl, cond_true] at hk
  cases ho : η k with
  | none => rw [ho] at hk; exact hk.elim
  | some o =>
    rw [ho] at hk
    obtain ⟨y, hy, hy2⟩ := h η G w o hk
    refine hf y hy η G vs w hsep (fun j => ?_) hs
    by_cases e : j = k
    · subst e
      simp only [lookN, eqN_refl, cond_true, ho]; exact hy2
    · have q : eqN k j = false := decide_eq_false fun e' => e e'.symm
      have := hob j
      simp only [lookN, q, cond_false] at this ⊢
      exact this

theorem lookN_one {X : TObj} {j : Nat} : lookN j [(1000, X)] = if j = 1000 then some X else none := by
  by_cases e : j = 1000
  · subst e; simp [lookN, eqN_refl]
  · have q : eqN 1000 j = false := decide_eq_false fun e' => e e'.symm
    simp [lookN, q, e]

/-- A raw operation, by what is known. -/
theorem ex_op {f : Nat} {svs : List SV} {d : Option DV} {Φ Φ' : World → Value → List Nat → Prop} {v0 : Value} {Q : Mem → Prop} {r : SV} (hΦ : ∀ w v B, Φ w v B → exΦ v0 Q w v B)
    (h : ∀ H, Q H → (H.map (·.1)).Nodup → SpecG P f svs [(1000, .cust none (fun _ => memΦ v0 H))] Unit (fun _ => r) (fun _ => [(1000, .cust none (fun _ => memΦ v0 H))])) (hΦ' : ∀ H w v B, Q H → (H.map (·.1)).Nodup → memΦ v0 H w v B → Φ' w v B) :
    SpecX P f svs [(1000, .cust d (fun _ => Φ))] r [(1000, .cust none (fun _ => Φ'))] := by
  refine specX_conv (Y := Mem) (F := fun H => Q H ∧ (H.map (·.1)).Nodup) (X' := fun H => .cust none (fun _ => memΦ v0 H)) (fun η G w o ho => ?_) fun H ⟨hq, hn⟩ => ?_
  · obtain ⟨H, q1, q2, q3⟩ := cust_open hΦ ho
    exact ⟨H, ⟨q1, q2⟩, q3⟩
  · intro η G vs w hsep hob hs
    refine (h H hq hn η G vs w hsep hob hs).mono fun v w' ⟨_, η', G', h1, h2, h3⟩ => ⟨η', G', h1, fun j => ?_, h3⟩
    have := h2 j
    rw [lookN_one] at this ⊢
    by_cases e : j = 1000
    · rw [if_pos e] at this ⊢
      cases ho : η' j with
      | none => rw [ho] at this; exact this.elim
      | some o => rw [ho] at this; exact cust_close (η := η') (G := G') this fun w v B hm => hΦ' H w v B hq hn hm
    · rw [if_neg e] at this ⊢; exact this

theorem ex_id {v0 : Value} {Q : Mem → Prop} : ∀ (w : World) (v : Value) (B : List Nat), exΦ v0 Q w v B → exΦ v0 Q w v B := fun _ _ _ h => h
theorem ex_in {v0 : Value} {Q : Mem → Prop} : ∀ (H : Mem) (w : World) (v : Value) (B : List Nat), Q H → (H.map (·.1)).Nodup → memΦ v0 H w v B → exΦ v0 Q w v B := fun H _ _ _ h1 h2 h3 => ⟨H, h1, h2, h3⟩

theorem ex_load (hE : EOk P E) {T b o : Nat} {ti : TI} {v0 u : Value} {Q : Mem → Prop} {a r : SV} (hti : E.ti T = some ti) (hag : ti.td.isAgg = false) (hm : ∀ H, Q H → IsP H a b o ∧ ∃ Tb cs, (b, Tb, cs) ∈ H ∧ cs[o]? = some u) (hr : ∀ (η : OEnv) (G : Nat → Prop) (w : World), SVRel η G w r u) :
    SpecX P (rawC 0 T) [a] [(1000, .cust none (fun _ => exΦ v0 Q))] r [(1000, .cust none (fun _ => exΦ v0 Q))] :=
  ex_op ex_id (fun H hq _ => by obtain ⟨h1, Tb, cs, h2, h3⟩ := hm H hq; exact mem_load hE h1 hti hag h2 h3 hr) ex_in
theorem ex_idx (hE : EOk P E) {T e b o n c i : Nat} {te : TI} {v0 : Value} {Q : Mem → Prop} {a : SV} {z : Int} (ht : P.underlying T = some (.slice e)) (he : E.ti e = some te) (ha : IsV 1000 v0 a (.slice (some ⟨b, o, none⟩) n c)) (hz : z = (i : Int)) (hi : i < n) :
    SpecX P (rawC 2 T) [a, .int .i64 (.s fun _ => z)] [(1000, .cust none (fun _ => exΦ v0 Q))] (.rv 1000 fun _ => .pointer (some ⟨b, o + i * te.size, none⟩)) [(1000, .cust none (fun _ => exΦ v0 Q))] :=
  ex_op ex_id (fun _ _ _ => mem_idx hE ht he ha hz hi) ex_in
theorem ex_len {T e n c : Nat} {p : Option Addr} {v0 : Value} {Q : Mem → Prop} {a : SV} (ht : P.underlying T = some (.slice e)) (ha : IsV 1000 v0 a (.slice p n c)) :
    SpecX P (rawC 4 T) [a] [(1000, .cust none (fun _ => exΦ v0 Q))] (.int .i64 (.s fun _ => (n : Int))) [(1000, .cust none (fun _ => exΦ v0 Q))] :=
  ex_op ex_id (fun _ _ _ => mem_len ht ha) ex_in
theorem ex_cap {T e n c : Nat} {p : Option Addr} {v0 : Value} {Q : Mem → Prop} {a : SV} (ht : P.underlying T = some (.slice e)) (ha : IsV 1000 v0 a (.slice p n c)) :
    SpecX P (rawC 5 T) [a] [(1000, .cust none (fun _ => exΦ v0 Q))] (.int .i64 (.s fun _ => (c : Int))) [(1000, .cust none (fun _ => exΦ v0 Q))] :=
  ex_op ex_id (fun _ _ _ => mem_cap ht ha) ex_in
theorem ex_field (hE : EOk P E) {S f b o off : Nat} {fs : List (Nat × Nat)} {ti : TI} {v0 : Value} {Q : Mem → Prop} {a : SV} (hti : E.ti S = some ti) (htd : ti.td = .struct fs) (hf : f < fs.length) (h32 : f < 32) (hoff : (nthD fs f (0, 0)).2 = off) (ha : IsV 1000 v0 a (.pointer (some ⟨b, o, none⟩))) :
    SpecX P (rawC 8 (S * 32 + f)) [a] [(1000, .cust none (fun _ => exΦ v0 Q))] (.rv 1000 fun _ => .pointer (some ⟨b, o + off, none⟩)) [(1000, .cust none (fun _ => exΦ v0 Q))] :=
  ex_op ex_id (fun _ _ _ => mem_field hE hti htd hf h32 hoff ha) ex_in
theorem ex_cut {T e b n c m : Nat} {v0 : Value} {Q : Mem → Prop} {a : SV} {zm : Int} {i : TypeInfo} (ht : P.underlying T = some (.slice e)) (hi : P.info? e = some i) (ha : IsV 1000 v0 a (.slice (some ⟨b, 0, none⟩) n c)) (hz : zm = (m : Int)) (hm : m ≤ c) :
    SpecX P (rawC 6 T) [a, .int .i64 (.s fun _ => zm)] [(1000, .cust none (fun _ => exΦ v0 Q))] (.rv 1000 fun _ => .slice (some ⟨b, 0, none⟩) m c) [(1000, .cust none (fun _ => exΦ v0 Q))] :=
  ex_op ex_id (fun _ _ _ => mem_cut ht hi ha hz hm) ex_in
theorem ex_store (hE : EOk P E) {T b o : Nat} {ti : TI} {v0 : Value} {Q Q' : Mem → Prop} {us : List Value} {a x : SV} (hti : E.ti T = some ti) (hsz : us.length = ti.size) (hone : ∀ u ∈ us, u.oneCell' = true)
    (hx : ∀ (η : OEnv) (G : Nat → Prop) (w : World) (v : Value), SVRel η G w x v → v.cells.toList = us)
    (hm : ∀ H, Q H → (H.map (·.1)).Nodup → IsP H a b o ∧ ∃ Tb cs, (b, Tb, cs) ∈ H ∧ o + us.length ≤ cs.length ∧ Q' (putB H b (cs.take o ++ us ++ cs.drop (o + us.length)))) :
    SpecX P (rawC 1 T) [a, x] [(1000, .cust none (fun _ => exΦ v0 Q))] .any [(1000, .cust none (fun _ => exΦ v0 Q'))] := by
  refine specX_conv (Y := Mem) (F := fun H => Q H ∧ (H.map (·.1)).Nodup) (X' := fun H => .cust none (fun _ => memΦ v0 H)) (fun η G w o ho => ?_) fun H ⟨hq, hn⟩ => ?_
  · obtain ⟨H, q1, q2, q3⟩ := cust_open ex_id ho
    exact ⟨H, ⟨q1, q2⟩, q3⟩
  · obtain ⟨h1, Tb, cs, h2, h3, h4⟩ := hm H hq hn
    intro η G vs w hsep hob hs
    refine (mem_store hE h1 hti h2 h3 hsz hone hx η G vs w hsep hob hs).mono fun v w' ⟨_, η', G', k1, k2, k3⟩ => ⟨η', G', k1, fun j => ?_, k3⟩
    have := k2 j
    rw [lookN_one] at this ⊢
    by_cases e : j = 1000
    · rw [if_pos e] at this ⊢
      cases ho : η' j with
      | none => rw [ho] at this; exact this.elim
      | some o => rw [ho] at this; exact cust_close (η := η') (G := G') this fun w v B hm => ⟨_, h4, by rw [putB_names]; exact hn, hm⟩
    · rw [if_neg e] at this ⊢; exact this
end
end Go.SX

