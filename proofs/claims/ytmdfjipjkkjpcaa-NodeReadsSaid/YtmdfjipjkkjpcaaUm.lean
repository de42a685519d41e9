/- Texts put together: Pu, Po, Pr, Wl, Dg. -/
import Derived.Test.YtmdfjipjkkjpcaaUh
import Derived.Test.YtmdfjipjkkjpcaaUi
/- Node laws: Put, Drop, Halves, Join. -/
namespace Go.Proofs.Ytmdfjipjkkjpcaa
open Go.SX

def putL (es : List Ent) (e : Ent) : List Ent :=
  es.take (placeI (geP e.key) es) ++ ([e] ++ es.drop (if placeI (geP e.key) es < es.length ∧ (es.getD (placeI (geP e.key) es) default).key = e.key then placeI (geP e.key) es + 1 else placeI (geP e.key) es))

theorem rep_one (e : Ent) : RepE (.sl 4 (fun _ => 1) (litRow 4 (dvsE e))) [e] := rep_row (by simp) fun i hi j hj => by
  have hi0 : i = 0 := by omega
  subst hi0
  match j, hj with
  | 0, _ => rfl
  | 1, _ => rfl
  | 2, _ => rfl
  | 3, _ => rfl
  | j + 4, h => omega

theorem con82_3 {leaf : Bool} {A B C : DV} {a b c : List Ent} (hA : RepE A a) (hB : RepE B b) (hC : RepE C c) (ha : ∀ e ∈ a, SmallE e) (hb : ∀ e ∈ b, SmallE e) (hc : ∀ e ∈ c, SmallE e) (hl : [a, b, c].flatten.length < 1000000000000) :
    Con 82 [.bool (.s fun _ => leaf), .dat (.sl 1 (fun _ => 3) (litRow 1 [A, B, C]))] [] (.agg [.bool (.s fun _ => leaf), .own 2000])
      [(2000, .arrD 74 4 (fun _ => [a, b, c].flatten.length) (lrow encE fun _ => [a, b, c].flatten))] := by
  have h := con82 (leaf := leaf) (ls := [a, b, c]) (by
    intro x hx
    simp only [List.mem_cons, List.not_mem_nil, or_false] at hx
    rcases hx with rfl | rfl | rfl
    · exact ha
    · exact hb
    · exact hc) hl (by simp)
  refine h.args fun η G w vs hv => ?_
  match vs, hv with
  | [v1, v2], hv =>
    obtain ⟨h1, h2, -⟩ := hv
    refine ⟨h1, ?_, trivial⟩
    simp only [SVRel, DVRel] at h2 ⊢
    obtain ⟨p, cp, rfl, hcp, hr⟩ := h2
    refine ⟨p, cp, rfl, hcp, fun i hi => ?_⟩
    obtain ⟨b, o, hb, hG, hj⟩ := hr i hi
    refine ⟨b, o, hb, hG, fun j hj' => ?_⟩
    obtain ⟨u, hu, hd⟩ := hj j hj'
    refine ⟨u, hu, ?_⟩
    have hj0 : j = 0 := by omega
    subst hj0
    match i, hi with
    | 0, _ => exact hA w G u hd
    | 1, _ => exact hB w G u hd
    | 2, _ => exact hC w G u hd
    | i + 3, h => simp at h; omega
  | [], hv => exact hv.elim
  | [_], hv => exact hv.2.elim
  | _ :: _ :: _ :: _, hv => exact hv.2.2.elim

set_option maxRecDepth 20000 in
set_option maxHeartbeats 4000000 in
theorem con32 {leaf : Bool} {es : List Ent} {e : Ent} (hs : ∀ e ∈ es, SmallE e) (he : SmallE e) (hl : es.length < 100000000000) :
    Con 32 [nodeSV leaf es, entSV e] [] (.agg [.bool (.s fun _ => leaf), .own 2000]) [(2000, .arrD 74 4 (fun _ => (putL es e).length) (lrow encE fun _ => putL es e))] := by
  have hk := placeI_le (p := geP e.key) (es := es)
  have ca := con77_81 (e := e) (leaf := leaf) (es := es) (by omega)
  have hput : putL es e = es.take (placeI (geP e.key) es) ++ ([e] ++ es.drop (if placeI (geP e.key) es < es.length ∧ (es.getD (placeI (geP e.key) es) default).key = e.key then placeI (geP e.key) es + 1 else placeI (geP e.key) es)) := rfl
  obtain ⟨k, hk0⟩ : ∃ k, k = placeI (geP e.key) es := ⟨_, rfl⟩
  rw [← hk0] at hk ca hput
  obtain ⟨R, hR⟩ : ∃ R, R = putL es e := ⟨_, rfl⟩
  rw [← hR] at hput ⊢
  have hRl : R.length ≤ es.length + 1 := by
    rw [hput]; simp only [List.length_append, List.length_take, List.length_drop, List.length_cons, List.length_nil]; split <;> omega
  have hlp : R.length < 1000000000000 := by omega
  have hput1 : k < es.length → (es.getD k default).key = e.key → [es.take k, [e], es.drop (k + 1)].flatten = R := fun h h2 => by rw [hput, if_pos ⟨h, h2⟩]; simp
  have hput0 : (k < es.length → ¬ (es.getD k default).key = e.key) → [es.take k, [e], es.drop k].flatten = R := fun h => by rw [hput, if_neg (fun hc => h hc.1 hc.2)]; simp
  have so1 : sliceObl 0 (k : Int) es.length := ⟨by omega, by omega, by omega⟩
  have so2 : sliceObl (k : Int) (es.length : Int) es.length := ⟨by omega, by omega, by omega⟩
  have ra : RepE (.sl 4 (fun _ => (k : Int).toNat - 0) (subRow (lrow encE fun _ => es) fun _ => 0)) (es.take k) := rep_sub (by simp) (by omega)
  have rb : RepE (.sl 4 (fun _ => (es.length : Int).toNat - (k : Int).toNat) (subRow (lrow encE fun _ => es) fun _ => (k : Int).toNat)) (es.drop k) := rep_sub (a := es) (b := es.drop k) (l := k) (h := es.length) (by rw [List.take_of_length_le (by simp)]) (Nat.le_refl _)
  have rone := rep_one e
  have sa : ∀ x ∈ es.take k, SmallE x := fun x hx => hs x (List.mem_of_mem_take hx)
  have sb : ∀ x ∈ es.drop k, SmallE x := fun x hx => hs x (List.mem_of_mem_drop hx)
  have sc : ∀ x ∈ es.drop (k + 1), SmallE x := fun x hx => hs x (List.mem_of_mem_drop hx)
  have so : ∀ x ∈ [e], SmallE x := fun x hx => by rw [List.mem_singleton] at hx; rw [hx]; exact he
  refine con_of Try.func32 rfl rfl 43 _ rfl rfl rfl rfl ?_
  cbv
  refine ⟨_, _, ca, ⟨?_⟩, ?_⟩
  · kernel_rfl
  cbv
  refine ⟨fun h1 => ?_, fun h1 => ?_⟩
  · have h1 : (k : Int) < (es.length : Int) := of_decide_eq_true h1
    have hlt : k < es.length := by omega
    have o1 : indexObl (k : Int) es.length := ⟨by omega, h1⟩
    have bk : bound64 ((k : Int) + 1) := by unfold bound64; omega
    have so3 : sliceObl ((k : Int) + 1) (es.length : Int) es.length := ⟨by omega, by omega, by omega⟩
    have rc : RepE (.sl 4 (fun _ => (es.length : Int).toNat - ((k : Int) + 1).toNat) (subRow (lrow encE fun _ => es) fun _ => ((k : Int) + 1).toNat)) (es.drop (k + 1)) := rep_sub (a := es) (b := es.drop (k + 1)) (l := k + 1) (h := es.length) (by rw [List.take_of_length_le (by simp)]) (Nat.le_refl _)
    clear h1
    cbv
    refine ⟨⟨o1⟩, _, _, con73, ⟨?_⟩, ?_⟩
    · kernel_rfl
    cbv
    refine ⟨⟨by kernel_rfl⟩, ?_⟩
    cbv
    refine ⟨fun h2 => ?_, fun h2 => ?_⟩
    · have h2 : (es.getD k default).key = e.key := of_decide_eq_true h2
      have fl := hput1 hlt h2
      clear h2
      cbv
      refine ⟨⟨bk⟩, ?_⟩
      cbv
      refine ⟨⟨so1⟩, ⟨so3⟩, ?_⟩
      cbv
      refine ⟨_, _, con82_3 (leaf := leaf) ra rone rc sa so sc (by rw [fl]; exact hlp), ⟨?_⟩, ?_⟩
      · kernel_rfl
      cbv
      refine ⟨⟨by kernel_rfl⟩, ?_⟩
      cbv
      refine ⟨[(2000, some 7200)], [], ?_⟩
      cbv
      and_intros
      all_goals first | exact trivial | exact ⟨rfl⟩ | exact ⟨row_le fl⟩ | exact ⟨by kernel_rfl⟩
    · have h2 : ¬ (es.getD k default).key = e.key := of_decide_eq_false h2
      have fl := hput0 (fun _ => h2)
      clear h2
      cbv
      refine ⟨⟨so1⟩, ⟨so2⟩, ?_⟩
      cbv
      refine ⟨_, _, con82_3 (leaf := leaf) ra rone rb sa so sb (by rw [fl]; exact hlp), ⟨?_⟩, ?_⟩
      · kernel_rfl
      cbv
      refine ⟨⟨by kernel_rfl⟩, ?_⟩
      cbv
      refine ⟨[(2000, some 7200)], [], ?_⟩
      cbv
      and_intros
      all_goals first | exact trivial | exact ⟨rfl⟩ | exact ⟨row_le fl⟩ | exact ⟨by kernel_rfl⟩
  · have h1 : ¬ (k : Int) < (es.length : Int) := of_decide_eq_false h1
    have fl := hput0 (fun h => absurd h (by omega))
    clear h1
    cbv
    refine ⟨⟨by kernel_rfl⟩, ?_⟩
    cbv
    refine ⟨⟨so1⟩, ⟨so2⟩, ?_⟩
    cbv
    refine ⟨_, _, con82_3 (leaf := leaf) ra rone rb sa so sb (by rw [fl]; exact hlp), ⟨?_⟩, ?_⟩
    · kernel_rfl
    cbv
    refine ⟨⟨by kernel_rfl⟩, ?_⟩
    cbv
    refine ⟨[(2000, some 7200)], [], ?_⟩
    cbv
    and_intros
    all_goals first | exact trivial | exact ⟨rfl⟩ | exact ⟨row_le fl⟩ | exact ⟨by kernel_rfl⟩


def dropL (es : List Ent) (key : List UInt8) : List Ent :=
  es.take (placeI (geP key) es) ++ es.drop (if placeI (geP key) es < es.length ∧ (es.getD (placeI (geP key) es) default).key = key then placeI (geP key) es + 1 else placeI (geP key) es)
def wasB (es : List Ent) (key : List UInt8) : Bool := decide (placeI (geP key) es < es.length ∧ (es.getD (placeI (geP key) es) default).key = key)



theorem con82_2 {leaf : Bool} {A B : DV} {a b : List Ent} (hA : RepE A a) (hB : RepE B b) (ha : ∀ e ∈ a, SmallE e) (hb : ∀ e ∈ b, SmallE e) (hl : [a, b].flatten.length < 1000000000000) :
    Con 82 [.bool (.s fun _ => leaf), .dat (.sl 1 (fun _ => 2) (litRow 1 [A, B]))] [] (.agg [.bool (.s fun _ => leaf), .own 2000])
      [(2000, .arrD 74 4 (fun _ => [a, b].flatten.length) (lrow encE fun _ => [a, b].flatten))] := by
  have h := con82 (leaf := leaf) (ls := [a, b]) (by
    intro x hx
    simp only [List.mem_cons, List.not_mem_nil, or_false] at hx
    rcases hx with rfl | rfl
    · exact ha
    · exact hb) hl (by simp)
  refine h.args fun η G w vs hv => ?_
  match vs, hv with
  | [v1, v2], hv =>
    obtain ⟨h1, h2, -⟩ := hv
    refine ⟨h1, ?_, trivial⟩
    simp only [SVRel, DVRel] at h2 ⊢
    obtain ⟨p, cp, rfl, hcp, hr⟩ := h2
    refine ⟨p, cp, rfl, hcp, fun i hi => ?_⟩
    obtain ⟨b, o, hb, hG, hj⟩ := hr i hi
    refine ⟨b, o, hb, hG, fun j hj' => ?_⟩
    obtain ⟨u, hu, hd⟩ := hj j hj'
    refine ⟨u, hu, ?_⟩
    have hj0 : j = 0 := by omega
    subst hj0
    match i, hi with
    | 0, _ => exact hA w G u hd
    | 1, _ => exact hB w G u hd
    | i + 2, h => simp at h; omega
  | [], hv => exact hv.elim
  | [_], hv => exact hv.2.elim
  | _ :: _ :: _ :: _, hv => exact hv.2.2.elim

set_option maxRecDepth 20000 in
set_option maxHeartbeats 4000000 in
theorem con34 {leaf : Bool} {es : List Ent} {key : List UInt8} (hs : ∀ e ∈ es, SmallE e) (hl : es.length < 100000000000) :
    Con 34 [nodeSV leaf es, .dat (.bytes fun _ => key)] [] (.tup [.agg [.bool (.s fun _ => leaf), .own 2000], .bool (.s fun _ => wasB es key)]) [(2000, .arrD 74 4 (fun _ => (dropL es key).length) (lrow encE fun _ => dropL es key))] := by
  have hk := placeI_le (p := geP key) (es := es)
  have ca := con77_83 (key := key) (leaf := leaf) (es := es) (by omega)
  have hdr : dropL es key = es.take (placeI (geP key) es) ++ es.drop (if placeI (geP key) es < es.length ∧ (es.getD (placeI (geP key) es) default).key = key then placeI (geP key) es + 1 else placeI (geP key) es) := rfl
  have hwb : wasB es key = decide (placeI (geP key) es < es.length ∧ (es.getD (placeI (geP key) es) default).key = key) := rfl
  obtain ⟨k, hk0⟩ : ∃ k, k = placeI (geP key) es := ⟨_, rfl⟩
  rw [← hk0] at hk ca hdr hwb
  obtain ⟨R, hR⟩ : ∃ R, R = dropL es key := ⟨_, rfl⟩
  obtain ⟨wb, hw⟩ : ∃ wb, wb = wasB es key := ⟨_, rfl⟩
  rw [← hR] at hdr ⊢
  rw [← hw] at hwb ⊢
  have hRl : R.length ≤ es.length := by
    rw [hdr]; simp only [List.length_append, List.length_take, List.length_drop]; split <;> omega
  have hlp : R.length < 1000000000000 := by omega
  have hput1 : (k < es.length ∧ (es.getD k default).key = key) → [es.take k, es.drop (k + 1)].flatten = R := fun h => by rw [hdr, if_pos h]; simp
  have hput0 : ¬ (k < es.length ∧ (es.getD k default).key = key) → es = R := fun h => by rw [hdr, if_neg h]; simp
  have hwas1 : (k < es.length ∧ (es.getD k default).key = key) → true = wb := fun h => by rw [hwb, decide_eq_true h]
  have hwas0 : ¬ (k < es.length ∧ (es.getD k default).key = key) → false = wb := fun h => by rw [hwb, decide_eq_false h]
  have so1 : sliceObl 0 (k : Int) es.length := ⟨by omega, by omega, by omega⟩
  have ra : RepE (.sl 4 (fun _ => (k : Int).toNat - 0) (subRow (lrow encE fun _ => es) fun _ => 0)) (es.take k) := rep_sub (by simp) (by omega)
  have sa : ∀ x ∈ es.take k, SmallE x := fun x hx => hs x (List.mem_of_mem_take hx)
  have sc : ∀ x ∈ es.drop (k + 1), SmallE x := fun x hx => hs x (List.mem_of_mem_drop hx)
  refine con_of Try.func34 rfl rfl 45 _ rfl rfl rfl rfl ?_
  cbv
  refine ⟨_, _, ca, ⟨?_⟩, ?_⟩
  · kernel_rfl
  cbv
  refine ⟨fun h1 => ?_, fun h1 => ?_⟩
  · have h1 : (k : Int) = (es.length : Int) := of_decide_eq_true h1
    have hn : ¬ (k < es.length ∧ (es.getD k default).key = key) := fun h => by omega
    have fl := hput0 hn
    have ew := hwas0 hn
    clear h1
    cbv
    refine ⟨⟨by kernel_rfl⟩, ?_⟩
    cbv
    refine ⟨_, _, con82_1 (leaf := leaf) rep_self hs (by omega), ⟨?_⟩, ?_⟩
    · kernel_rfl
    cbv
    refine ⟨[(2000, some 6100)], [], ?_⟩
    cbv
    and_intros
    all_goals first | exact trivial | exact ⟨rfl⟩ | exact ⟨ew⟩ | exact ⟨row_le fl⟩ | exact ⟨by kernel_rfl⟩
  · have h1 : ¬ (k : Int) = (es.length : Int) := of_decide_eq_false h1
    have hlt : k < es.length := by omega
    have o1 : indexObl (k : Int) es.length := ⟨by omega, by omega⟩
    have bk : bound64 ((k : Int) + 1) := by unfold bound64; omega
    have so3 : sliceObl ((k : Int) + 1) (es.length : Int) es.length := ⟨by omega, by omega, by omega⟩
    have rc : RepE (.sl 4 (fun _ => (es.length : Int).toNat - ((k : Int) + 1).toNat) (subRow (lrow encE fun _ => es) fun _ => ((k : Int) + 1).toNat)) (es.drop (k + 1)) := rep_sub (a := es) (b := es.drop (k + 1)) (l := k + 1) (h := es.length) (by rw [List.take_of_length_le (by simp)]) (Nat.le_refl _)
    clear h1
    cbv
    refine ⟨⟨o1⟩, _, _, con73, ⟨?_⟩, ?_⟩
    · kernel_rfl
    cbv
    refine ⟨⟨by kernel_rfl⟩, ?_⟩
    cbv
    refine ⟨fun h2 => ?_, fun h2 => ?_⟩
    · have h2 : ¬ (es.getD k default).key = key := of_decide_eq_false (bnot_t h2)
      have hn : ¬ (k < es.length ∧ (es.getD k default).key = key) := fun h => h2 h.2
      have fl := hput0 hn
      have ew := hwas0 hn
      clear h2
      cbv
      refine ⟨_, _, con82_1 (leaf := leaf) rep_self hs (by omega), ⟨?_⟩, ?_⟩
      · kernel_rfl
      cbv
      refine ⟨[(2000, some 6100)], [], ?_⟩
      cbv
      and_intros
      all_goals first | exact trivial | exact ⟨rfl⟩ | exact ⟨ew⟩ | exact ⟨row_le fl⟩ | exact ⟨by kernel_rfl⟩
    · have h2 : (es.getD k default).key = key := of_decide_eq_true (bnot_f h2)
      have hn : k < es.length ∧ (es.getD k default).key = key := ⟨hlt, h2⟩
      have fl := hput1 hn
      have ew := hwas1 hn
      clear h2
      cbv
      refine ⟨⟨so1⟩, ⟨bk⟩, ⟨so3⟩, ?_⟩
      cbv
      refine ⟨_, _, con82_2 (leaf := leaf) ra rc sa sc (by rw [fl]; exact hlp), ⟨?_⟩, ?_⟩
      · kernel_rfl
      cbv
      refine ⟨⟨by kernel_rfl⟩, ?_⟩
      cbv
      refine ⟨[(2000, some 7400)], [], ?_⟩
      cbv
      and_intros
      all_goals first | exact trivial | exact ⟨rfl⟩ | exact ⟨ew⟩ | exact ⟨row_le fl⟩ | exact ⟨by kernel_rfl⟩


/-- A list with another key at a place. -/
def setKey (a : List Ent) (i : Nat) (k : List UInt8) : List Ent := a.set i { a.getD i default with key := k }

theorem eqN_false {a b : Nat} (h : a ≠ b) : eqN a b = false := decide_eq_false h
theorem store_key {a : List Ent} {n i : Nat} {bs : List UInt8} : StoreOk 4 n i (lrow encE fun _ => a) 0 (.bytes fun _ => bs) := by
  refine ⟨?_, fun i' _ hne j hj => ?_⟩
  · simp only [putRow, eqN_refl, cond_true, lrow, encE, mergeDV]
  · match j, hj with
    | 0, _ => simp only [putRow, eqN_refl, cond_true, lrow, encE, mergeDV, eqN_false hne, cond_false]
    | 1, _ => rfl
    | 2, _ => rfl
    | 3, _ => rfl
    | j + 4, h => omega
theorem setKey_len {a : List Ent} {i : Nat} {bs : List UInt8} : a.length = (setKey a i bs).length := by simp [setKey]
theorem setKey_getD {a : List Ent} {i q : Nat} {bs : List UInt8} (h : q < a.length) : (setKey a i bs).getD q default = if q = i then { a.getD i default with key := bs } else a.getD q default := by
  simp only [setKey, List.getD_eq_getElem?_getD, List.getElem?_set]
  by_cases hq : i = q
  · subst hq
    simp [h]
  · rw [if_neg hq, if_neg (fun e => hq e.symm)]
theorem setKey_row {a : List Ent} {i : Nat} {bs : List UInt8} : RowEq 4 (setKey a i bs).length (putRow (lrow encE fun _ => a) (fun _ => i) 0 (.bytes fun _ => bs)) (lrow encE fun _ => setKey a i bs) := by
  intro q hq j hj
  have hq : q < a.length := by rwa [← setKey_len] at hq
  have hg := setKey_getD (i := i) (bs := bs) hq
  match j, hj with
  | 0, _ =>
    simp only [putRow, eqN_refl, cond_true, lrow, encE, mergeDV, hg]
    by_cases h : q = i
    · subst h; simp only [eqN_refl, cond_true, if_true]
    · simp only [eqN_false h, cond_false, if_neg h]
  | 1, _ => simp only [putRow, lrow, encE, show eqN 1 0 = false from rfl, cond_false, hg]; split <;> simp_all
  | 2, _ => simp only [putRow, lrow, encE, show eqN 2 0 = false from rfl, cond_false, hg]; split <;> simp_all
  | 3, _ => simp only [putRow, lrow, encE, show eqN 3 0 = false from rfl, cond_false, hg]; split <;> simp_all
  | j + 4, h => omega

set_option maxRecDepth 20000 in
set_option maxHeartbeats 4000000 in
theorem con35f {es : List Ent} (hw : weight es + 20 * es.length < 1000000000000) (hs : ∀ e ∈ es, SmallE e) (h2 : 2 ≤ es.length) :
    Con 35 [nodeSV false es] [] (.tup [.agg [.bool (.s fun _ => false), .own 2000], .agg [.bool (.s fun _ => false), .own 2001], .own 2002])
      [(2000, .arrD 74 4 (fun _ => (es.take (cutK false es)).length) (lrow encE fun _ => es.take (cutK false es))),
       (2001, .arrD 74 4 (fun _ => (setKey (es.drop (cutK false es)) 0 []).length) (lrow encE fun _ => setKey (es.drop (cutK false es)) 0 [])),
       (2002, .barr 5 fun _ => ((es.drop (cutK false es)).getD 0 default).key)] := by
  have b0 : bound64 ((2 + sizeL false es) - 2) := by have := sizeL_le false es; unfold bound64; omega
  refine con_of Try.func35 rfl rfl 87 _ rfl rfl rfl rfl ?_
  cbv
  refine ⟨fun h1 => ?_, fun h1 => ?_⟩
  · have h1 : (es.length : Int) < 2 := of_decide_eq_true h1
    have h1 : ¬ 2 ≤ es.length := by omega
    exfalso
    exact h1 h2
  · clear h1
    cbv
    refine ⟨_, _, con14 (leaf := false) (es := es) hw, ⟨?_⟩, ?_⟩
    · rfl
    cbv
    refine ⟨⟨b0⟩, ?_⟩
    cbv
    refine ⟨Nat, [], fun k => [(6, .int .i64 (.s fun _ => sizeL false (es.take k))), (7, .int .i64 (.s fun _ => (k : Int)))],
      fun _ => [(1, .cells 24 [.bool (.s fun _ => false), .dat (entsDV es)]), (2, .cells 24 [.bool .f, .nil]), (3, .cells 24 [.bool .f, .nil])],
      fun k => k < es.length ∧ cutF false es (es.length - k) k = cutK false es, fun k => es.length - k, 0, [], ⟨by omega, rfl⟩, ⟨?_⟩, fun k hx => ?_⟩
    · cbv
      and_intros
      all_goals first | exact trivial | exact ⟨rfl⟩ | exact ⟨rfl, fun _ _ _ _ => rfl⟩ | exact ⟨setKey_len, setKey_row⟩ | exact ⟨by kernel_rfl⟩
    · obtain ⟨hk, hc⟩ : k < es.length ∧ cutF false es (es.length - k) k = cutK false es := hx
      have oi : indexObl (k : Int) es.length := ⟨by omega, by omega⟩
      have bk : bound64 ((k : Int) + 1) := by unfold bound64; omega
      have bl : bound64 ((es.length : Int) - 1) := by unfold bound64; omega
      have ek : (k : Int) + 1 = ((k + 1 : Nat) : Int) := by omega
      have b2 : bound64 (2 * sizeL false (es.take k)) := by have := sizeL_le false (es.take k); have := sizeL_mono false (es := es) (i := k); have := sizeL_le false es; unfold bound64; omega
      have b5 : 2 + sizeL false es - 2 = sizeL false es := by omega
      have hms : es.length - (k + 1) < es.length - k := by omega
      have hnx : sizeL false (es.take (k + 1)) = sizeL false (es.take k) + bytesOfI false (es.getD k default).key (es.getD k default).val (es.getD k default).page := by
        rw [getD_take es hk, sizeL_app]; simp only [sizeL]; omega
      have hnx' := hnx.symm
      have so1 : sliceObl 0 (k : Int) es.length := ⟨by omega, by omega, by omega⟩
      have so2 : sliceObl (k : Int) (es.length : Int) es.length := ⟨by omega, by omega, by omega⟩
      have oi0 : indexObl 0 (es.drop k).length := ⟨by omega, by simp; omega⟩
      have ha : ∀ e ∈ es.take k, SmallE e := fun e he => hs e (List.mem_of_mem_take he)
      have hb : ∀ e ∈ es.drop k, SmallE e := fun e he => hs e (List.mem_of_mem_drop he)
      have la : (es.take k).length < 1000000000000 := by simp only [List.length_take]; omega
      have lb : (es.drop k).length < 1000000000000 := by simp only [List.length_drop]; omega
      have ra : RepE (.sl 4 (fun _ => (k : Int).toNat - 0) (subRow (lrow encE fun _ => es) fun _ => 0)) (es.take k) := rep_sub (by simp) (by omega)
      have rb : RepE (.sl 4 (fun _ => (es.length : Int).toNat - (k : Int).toNat) (subRow (lrow encE fun _ => es) fun _ => (k : Int).toNat)) (es.drop k) := rep_sub (a := es) (b := es.drop k) (l := k) (h := es.length) (by rw [List.take_of_length_le (by simp)]) (Nat.le_refl _)
      have kl : ((es.drop k).getD 0 default).key.length < 1000000000000 := (hb _ (getD_mem (by simp; omega))).1
      cbv
      refine ⟨fun h3 => ?_, fun h3 => ?_⟩
      · have h3 : (k : Int) = 0 := of_decide_eq_true h3
        have hg : goesB false es k = true := by simp only [goesB, decide_eq_true (show k = 0 by omega), Bool.true_or]
        have hlt : k + 1 < es.length := by omega
        have ob1 : bound64 ((sizeL false (es.take k)) + bytesOfI false (es.getD k default).key (es.getD k default).val (es.getD k default).page) := by
          rw [← hnx]; have := sizeL_le false (es.take (k + 1)); have := sizeL_mono false (es := es) (i := k + 1); have := sizeL_le false es; unfold bound64; omega
        have hgo := (cut_go hk hg).trans hc
        clear hg hc
        cbv
        refine ⟨⟨oi⟩, _, _, con44 (leaf := false) (Nat.lt_of_le_of_lt (by have := weight_take es hk; omega : (es.getD k default).key.length + (es.getD k default).val.length ≤ weight es) (by omega)), ⟨?_⟩, ?_⟩
        · rfl
        cbv
        refine ⟨⟨ob1⟩, ⟨by kernel_rfl⟩, ?_⟩
        cbv
        refine ⟨⟨bk⟩, k + 1, [], ⟨hlt, hgo⟩, hms, ⟨?_⟩, ⟨?_⟩⟩
        · kernel_rfl
        · cbv
          and_intros
          all_goals first | exact trivial | exact ⟨hnx'⟩ | exact ⟨ek⟩ | exact ⟨rfl⟩ | exact ⟨rfl, fun _ _ _ _ => rfl⟩ | exact ⟨setKey_len, setKey_row⟩ | exact ⟨by kernel_rfl⟩
      · have h3 : ¬ (k : Int) = 0 := of_decide_eq_false h3
        have h3 : ¬ k = 0 := by omega
        cbv
        refine ⟨⟨b2⟩, ?_⟩
        cbv
        refine ⟨fun h4 => ?_, fun h4 => ?_⟩
        · have h4 : 2 * sizeL false (es.take k) < 2 + sizeL false es - 2 := of_decide_eq_true h4
          cbv
          refine ⟨⟨bl⟩, ?_⟩
          cbv
          refine ⟨fun h5 => ?_, fun h5 => ?_⟩
          · have h5 : (k : Int) < (es.length : Int) - 1 := of_decide_eq_true h5
            have hlt : k + 1 < es.length := by omega
            have hg : goesB false es k = true := by simp only [goesB, decide_eq_true (show 2 * sizeL false (es.take k) < sizeL false es by omega), decide_eq_true (show k < es.length - 1 by omega), Bool.true_and, Bool.or_true]
            have ob1 : bound64 ((sizeL false (es.take k)) + bytesOfI false (es.getD k default).key (es.getD k default).val (es.getD k default).page) := by
              rw [← hnx]; have := sizeL_le false (es.take (k + 1)); have := sizeL_mono false (es := es) (i := k + 1); have := sizeL_le false es; unfold bound64; omega
            have hgo := (cut_go hk hg).trans hc
            clear hg hc
            cbv
            refine ⟨⟨oi⟩, _, _, con44 (leaf := false) (Nat.lt_of_le_of_lt (by have := weight_take es hk; omega : (es.getD k default).key.length + (es.getD k default).val.length ≤ weight es) (by omega)), ⟨?_⟩, ?_⟩
            · rfl
            cbv
            refine ⟨⟨ob1⟩, ⟨by kernel_rfl⟩, ?_⟩
            cbv
            refine ⟨⟨bk⟩, k + 1, [], ⟨hlt, hgo⟩, hms, ⟨?_⟩, ⟨?_⟩⟩
            · kernel_rfl
            · cbv
              and_intros
              all_goals first | exact trivial | exact ⟨hnx'⟩ | exact ⟨ek⟩ | exact ⟨rfl⟩ | exact ⟨rfl, fun _ _ _ _ => rfl⟩ | exact ⟨setKey_len, setKey_row⟩ | exact ⟨by kernel_rfl⟩
          · have h5 : ¬ (k : Int) < (es.length : Int) - 1 := of_decide_eq_false h5
            have hg : goesB false es k = false := by simp only [goesB, decide_eq_false h3, decide_eq_false (show ¬ k < es.length - 1 by omega), Bool.and_false, Bool.or_false]
            have hkk : k = cutK false es := by rw [← hc]; exact (cut_end hk hg).symm
            rw [← hkk]
            clear hg hc
            cbv
            refine ⟨⟨so1⟩, _, _, con82_1 (leaf := false) ra ha la, ⟨?_⟩, ?_⟩
            · rfl
            cbv
            refine ⟨⟨so2⟩, _, _, con82_1 (leaf := false) rb hb lb, ⟨?_⟩, ?_⟩
            · kernel_rfl
            cbv
            refine ⟨⟨by kernel_rfl⟩, ?_⟩
            cbv
            refine ⟨⟨oi0⟩, _, _, con84 kl, ⟨?_⟩, ?_⟩
            · kernel_rfl
            cbv
            refine ⟨fun _ => ?_, fun h => (by cases h)⟩
            cbv
            refine ⟨⟨oi0⟩, ⟨store_key⟩, ?_⟩
            cbv
            refine ⟨⟨by kernel_rfl⟩, ?_⟩
            cbv
            refine ⟨[(2000, some 9200), (2001, some 10000), (2002, some 10600)], [], ?_⟩
            cbv
            and_intros
            all_goals first | exact trivial | exact ⟨rfl⟩ | exact ⟨rfl, fun _ _ _ _ => rfl⟩ | exact ⟨setKey_len, setKey_row⟩ | exact ⟨by kernel_rfl⟩
        · have h4 : ¬ 2 * sizeL false (es.take k) < 2 + sizeL false es - 2 := of_decide_eq_false h4
          have hg : goesB false es k = false := by simp only [goesB, decide_eq_false h3, decide_eq_false (show ¬ 2 * sizeL false (es.take k) < sizeL false es by omega), Bool.false_and, Bool.or_false]
          have hkk : k = cutK false es := by rw [← hc]; exact (cut_end hk hg).symm
          rw [← hkk]
          clear hg hc
          cbv
          refine ⟨⟨so1⟩, _, _, con82_1 (leaf := false) ra ha la, ⟨?_⟩, ?_⟩
          · rfl
          cbv
          refine ⟨⟨so2⟩, _, _, con82_1 (leaf := false) rb hb lb, ⟨?_⟩, ?_⟩
          · kernel_rfl
          cbv
          refine ⟨⟨by kernel_rfl⟩, ?_⟩
          cbv
          refine ⟨⟨oi0⟩, _, _, con84 kl, ⟨?_⟩, ?_⟩
          · kernel_rfl
          cbv
          refine ⟨fun _ => ?_, fun h => (by cases h)⟩
          cbv
          refine ⟨⟨oi0⟩, ⟨store_key⟩, ?_⟩
          cbv
          refine ⟨⟨by kernel_rfl⟩, ?_⟩
          cbv
          refine ⟨[(2000, some 9200), (2001, some 10000), (2002, some 10600)], [], ?_⟩
          cbv
          and_intros
          all_goals first | exact trivial | exact ⟨rfl⟩ | exact ⟨rfl, fun _ _ _ _ => rfl⟩ | exact ⟨setKey_len, setKey_row⟩ | exact ⟨by kernel_rfl⟩
set_option maxRecDepth 20000 in
set_option maxHeartbeats 4000000 in
theorem con35s {leaf : Bool} {es : List Ent} (hs : ∀ e ∈ es, SmallE e) (h2 : es.length < 2) :
    Con 35 [nodeSV leaf es] [] (.tup [.agg [.bool (.s fun _ => leaf), .own 2000], .agg [.bool (.s fun _ => leaf), .nil], .nil]) [(2000, .arrD 74 4 (fun _ => es.length) (lrow encE fun _ => es))] := by
  refine con_of Try.func35 rfl rfl 87 _ rfl rfl rfl rfl ?_
  cbv
  refine ⟨fun h1 => ?_, fun h1 => ?_⟩
  · cbv
    refine ⟨_, _, con82_1 (leaf := leaf) rep_self hs (by omega), ⟨?_⟩, ?_⟩
    · kernel_rfl
    cbv
    refine ⟨⟨by kernel_rfl⟩, ?_⟩
    cbv
    refine ⟨[(2000, some 5000)], [], ?_⟩
    cbv
    and_intros
    all_goals first | exact trivial | exact ⟨rfl⟩ | exact ⟨rfl, fun _ _ _ _ => rfl⟩ | exact ⟨by kernel_rfl⟩
  · have h1 : ¬ (es.length : Int) < 2 := of_decide_eq_false h1
    exfalso
    omega

def joinL (leaf : Bool) (a b : List Ent) (key : List UInt8) : List Ent := if leaf = false ∧ a.length < (a ++ b).length then setKey (a ++ b) a.length key else a ++ b

set_option maxRecDepth 20000 in
set_option maxHeartbeats 4000000 in
theorem con36 {leaf lb : Bool} {a b : List Ent} {key : List UInt8} (ha : ∀ e ∈ a, SmallE e) (hb : ∀ e ∈ b, SmallE e) (hk : key.length < 1000000000000) (hl : a.length + b.length < 100000000000) :
    Con 36 [nodeSV leaf a, nodeSV lb b, .dat (.bytes fun _ => key)] [] (.agg [.bool (.s fun _ => leaf), .own 2000]) [(2000, .arrD 74 4 (fun _ => (joinL leaf a b key).length) (lrow encE fun _ => joinL leaf a b key))] := by
  obtain ⟨R, hR⟩ : ∃ R, R = a ++ b := ⟨_, rfl⟩
  have hf : [a, b].flatten = R := by rw [hR]; simp
  have hRl : R.length = a.length + b.length := by rw [hR]; simp
  obtain ⟨J, hJ⟩ : ∃ J, J = joinL leaf a b key := ⟨_, rfl⟩
  have hj : J = if leaf = false ∧ a.length < R.length then setKey R a.length key else R := by rw [hJ, hR]; rfl
  rw [← hJ]
  obtain ⟨n, hn⟩ : ∃ n, n = a.length := ⟨_, rfl⟩
  have hj1 : leaf = false → n < R.length → J = setKey R n key := fun h1 h2 => by rw [hj, hn, if_pos ⟨h1, by omega⟩]
  have hj0 : ¬ (leaf = false ∧ n < R.length) → R = J := fun h => by rw [hj, if_neg (fun hc => h ⟨hc.1, by omega⟩)]
  have ca := con82_2 (leaf := leaf) (rep_self (a := a)) (rep_self (a := b)) ha hb (by rw [hf]; omega)
  rw [hf] at ca
  clear hj hJ hR hf
  refine con_of Try.func36 rfl rfl 38 _ rfl rfl rfl rfl ?_
  cbv
  refine ⟨_, _, ca, ⟨?_⟩, ?_⟩
  · kernel_rfl
  cbv
  rw [← hn]
  refine ⟨fun h1 => ?_, fun h1 => ?_⟩
  · have h1 : leaf = false := bnot_t h1
    cbv
    refine ⟨fun h2 => ?_, fun h2 => ?_⟩
    · have h2 : (n : Int) < (R.length : Int) := of_decide_eq_true h2
      have hlt : n < R.length := by omega
      have o1 : indexObl (n : Int) R.length := ⟨by omega, h2⟩
      have ej := hj1 h1 hlt
      have e1 : R.length = J.length := by rw [ej]; exact setKey_len
      have e2 : RowEq 4 J.length (putRow (lrow encE fun _ => R) (fun _ => n) 0 (.bytes fun _ => key)) (lrow encE fun _ => J) := by rw [ej]; exact setKey_row
      clear h2
      cbv
      refine ⟨_, _, con84 hk, ⟨?_⟩, ?_⟩
      · kernel_rfl
      cbv
      refine ⟨⟨o1⟩, ⟨store_key⟩, ?_⟩
      cbv
      refine ⟨⟨by kernel_rfl⟩, ?_⟩
      cbv
      refine ⟨[(2000, some 4600)], [], ?_⟩
      cbv
      and_intros
      all_goals first | exact trivial | exact ⟨rfl⟩ | exact ⟨e1, e2⟩ | exact ⟨by kernel_rfl⟩
    · have h2 : ¬ (n : Int) < (R.length : Int) := of_decide_eq_false h2
      have ej : R = J := hj0 (fun h => absurd h.2 (by omega))
      clear h2
      cbv
      refine ⟨[(2000, some 4600)], [], ?_⟩
      cbv
      and_intros
      all_goals first | exact trivial | exact ⟨rfl⟩ | exact ⟨row_le ej⟩ | exact row_le ej | exact ⟨by kernel_rfl⟩
  · have h1 : leaf = true := bnot_f h1
    have ej : R = J := hj0 (fun h => absurd h.1 (by rw [h1]; decide))
    cbv
    refine ⟨[(2000, some 4600)], [], ?_⟩
    cbv
    and_intros
    all_goals first | exact trivial | exact ⟨rfl⟩ | exact ⟨row_le ej⟩ | exact row_le ej | exact ⟨by kernel_rfl⟩
end Go.Proofs.Ytmdfjipjkkjpcaa

/- Node laws: what Put comes to. -/
namespace Go.Proofs.Ytmdfjipjkkjpcaa
open Go.SX

abbrev Less (a b : Ent) : Prop := Lib.compareBytes a.key b.key < 0
def Up (es : List Ent) : Prop := es.Pairwise Less

theorem up_rises {es : List Ent} (h : Up es) : RisesL es := by
  intro i j hij hj
  have := List.pairwise_iff_getElem.1 h i j (by omega) hj hij
  simpa [List.getD_eq_getElem?_getD, List.getElem?_eq_getElem hj, List.getElem?_eq_getElem (show i < es.length by omega)] using this

theorem less_irr {a : Ent} : ¬ Less a a := by unfold Less; rw [cmp_self]; omega

theorem put_split {es : List Ent} (h : Up es) (e : Ent) : ∃ A M C, es = A ++ (M ++ C) ∧ putL es e = A ++ e :: C ∧ (∀ x ∈ A, Less x e) ∧ (∀ x ∈ C, Less e x) ∧ ∀ x ∈ M, x.key = e.key := by
  have hr := up_rises h
  obtain ⟨l1, l2⟩ := place_law (ge_mono hr e.key)
  have hle := placeI_le (p := geP e.key) (es := es)
  have hput : putL es e = es.take (placeI (geP e.key) es) ++ ([e] ++ es.drop (if placeI (geP e.key) es < es.length ∧ (es.getD (placeI (geP e.key) es) default).key = e.key then placeI (geP e.key) es + 1 else placeI (geP e.key) es)) := rfl
  generalize placeI (geP e.key) es = k at l1 l2 hle hput
  have hA : ∀ x ∈ es.take k, Less x e := by
    intro x hx
    obtain ⟨i, hi, rfl⟩ := List.getElem_of_mem hx
    have hi' : i < k ∧ i < es.length := by simp at hi; omega
    have := l1 i hi'.1
    simp only [geP, decide_eq_false_iff_not] at this
    simp only [List.getElem_take]
    rw [List.getD_eq_getElem?_getD, List.getElem?_eq_getElem hi'.2] at this
    simp only [Option.getD_some] at this
    unfold Less; omega
  have hge : ∀ i (hi : i < es.length), k ≤ i → 0 ≤ Lib.compareBytes es[i].key e.key := by
    intro i hi hk
    have := l2 i hk hi
    simp only [geP, decide_eq_true_eq] at this
    rwa [List.getD_eq_getElem?_getD, List.getElem?_eq_getElem hi] at this
  by_cases hc : k < es.length ∧ (es.getD k default).key = e.key
  · rw [if_pos hc] at hput
    have hek : es[k].key = e.key := by have := hc.2; rwa [List.getD_eq_getElem?_getD, List.getElem?_eq_getElem hc.1] at this
    refine ⟨es.take k, [es[k]], es.drop (k + 1), ?_, by rw [hput]; rfl, hA, ?_, ?_⟩
    · conv => lhs; rw [← List.take_append_drop k es, List.drop_eq_getElem_cons hc.1]
      simp
    · intro x hx
      obtain ⟨i, hi, rfl⟩ := List.getElem_of_mem hx
      simp only [List.length_drop] at hi
      simp only [List.getElem_drop]
      have := List.pairwise_iff_getElem.1 h k (k + 1 + i) hc.1 (by omega) (by omega)
      unfold Less at this ⊢
      rwa [hek] at this
    · intro x hx
      rw [List.mem_singleton] at hx
      rw [hx]; exact hek
  · rw [if_neg hc] at hput
    refine ⟨es.take k, [], es.drop k, by simp, by rw [hput]; rfl, hA, ?_, fun x hx => by cases hx⟩
    intro x hx
    obtain ⟨i, hi, rfl⟩ := List.getElem_of_mem hx
    simp only [List.length_drop] at hi
    simp only [List.getElem_drop]
    have hk : k < es.length := by omega
    have hne : es[k].key ≠ e.key := fun he => hc ⟨hk, by rw [List.getD_eq_getElem?_getD, List.getElem?_eq_getElem hk]; exact he⟩
    have h0 := hge k hk (Nat.le_refl _)
    have h0' : Less e es[k] := by
      have h1 := cmp_anti es[k].key e.key
      have h2 : Lib.compareBytes es[k].key e.key ≠ 0 := fun hz => hne (cmp_zero hz)
      unfold Less; omega
    by_cases hi0 : i = 0
    · subst hi0; exact h0'
    · exact cmp_trans h0' (List.pairwise_iff_getElem.1 h k (k + i) hk (by omega) (by omega))

theorem put_up {es : List Ent} (h : Up es) (e : Ent) : Up (putL es e) := by
  obtain ⟨A, M, C, h1, h2, hA, hC, -⟩ := put_split h e
  rw [h2]
  unfold Up at h ⊢
  rw [h1, List.pairwise_append] at h
  obtain ⟨a1, a2, a3⟩ := h
  have c1 := (List.pairwise_append.1 a2).2.1
  rw [List.pairwise_append]
  refine ⟨a1, List.pairwise_cons.2 ⟨hC, c1⟩, fun x hx y hy => ?_⟩
  rcases List.mem_cons.1 hy with rfl | hy
  · exact hA x hx
  · exact a3 x hx y (by simp [hy])
theorem put_mem {es : List Ent} (h : Up es) (e x : Ent) : x ∈ putL es e ↔ x = e ∨ (x ∈ es ∧ x.key ≠ e.key) := by
  obtain ⟨A, M, C, h1, h2, hA, hC, hM⟩ := put_split h e
  rw [h2, h1]
  simp only [List.mem_append, List.mem_cons]
  have nA : x ∈ A → x.key ≠ e.key := fun hx he => by have := hA x hx; unfold Less at this; rw [he, cmp_self] at this; omega
  have nC : x ∈ C → x.key ≠ e.key := fun hx he => by have := hC x hx; unfold Less at this; rw [he, cmp_self] at this; omega
  constructor
  · rintro (hx | rfl | hx)
    · exact .inr ⟨.inl hx, nA hx⟩
    · exact .inl rfl
    · exact .inr ⟨.inr (.inr hx), nC hx⟩
  · rintro (rfl | ⟨hx | hx | hx, hn⟩)
    · exact .inr (.inl rfl)
    · exact .inl hx
    · exact absurd (hM x hx) hn
    · exact .inr (.inr hx)
theorem put_len {es : List Ent} (h : Up es) (e : Ent) (hn : ∀ x ∈ es, x.key ≠ e.key) : (putL es e).length = es.length + 1 := by
  obtain ⟨A, M, C, h1, h2, -, -, hM⟩ := put_split h e
  have : M = [] := by
    cases M with
    | nil => rfl
    | cons x M => exact absurd (hM x (by simp)) (hn x (by rw [h1]; simp))
  subst this
  rw [h2]
  conv => rhs; rw [h1]
  simp only [List.length_append, List.length_cons, List.nil_append]; omega

theorem up_unique : ∀ {a b : List Ent}, Up a → Up b → (∀ x, x ∈ a ↔ x ∈ b) → a = b
  | [], [], _, _, _ => rfl
  | [], y :: b, _, _, h => by have := (h y).2 (by simp); cases this
  | x :: a, [], _, _, h => by have := (h x).1 (by simp); cases this
  | x :: a, y :: b, ha, hb, h => by
      obtain ⟨a1, a2⟩ := List.pairwise_cons.1 ha
      obtain ⟨b1, b2⟩ := List.pairwise_cons.1 hb
      have hxy : x = y := by
        rcases List.mem_cons.1 ((h x).1 (by simp)) with h1 | h1
        · exact h1
        · rcases List.mem_cons.1 ((h y).2 (by simp)) with h2 | h2
          · exact h2.symm
          · exact absurd (cmp_trans (a1 y h2) (b1 x h1)) less_irr
      subst hxy
      rw [up_unique a2 b2 fun z => ?_]
      constructor
      · intro hz
        rcases List.mem_cons.1 ((h z).1 (by simp [hz])) with h1 | h1
        · subst h1; exact absurd (a1 _ hz) less_irr
        · exact h1
      · intro hz
        rcases List.mem_cons.1 ((h z).2 (by simp [hz])) with h1 | h1
        · subst h1; exact absurd (b1 _ hz) less_irr
        · exact h1

def putAll (m : List Ent) : List Ent := m.foldl putL []
theorem putAll_next {m : List Ent} {i : Nat} (hi : i < m.length) : putAll (m.take (i + 1)) = putL (putAll (m.take i)) (m.getD i default) := by
  rw [getD_take m hi]; simp [putAll]
def Unlike (m : List Ent) : Prop := ∀ i j, i < j → j < m.length → (m.getD i default).key ≠ (m.getD j default).key

theorem putAll_law {m : List Ent} (hd : Unlike m) : ∀ n, n ≤ m.length → Up (putAll (m.take n)) ∧ (∀ x, x ∈ putAll (m.take n) ↔ x ∈ m.take n) ∧ (putAll (m.take n)).length = n
  | 0, _ => ⟨by simp [putAll, Up], by simp [putAll], by simp [putAll]⟩
  | n + 1, hn => by
      obtain ⟨h1, h2, h3⟩ := putAll_law hd n (by omega)
      have hne : ∀ x ∈ m.take n, x.key ≠ (m.getD n default).key := by
        intro x hx
        obtain ⟨i, hi, rfl⟩ := List.getElem_of_mem hx
        have hi' : i < n ∧ i < m.length := by simp at hi; omega
        have := hd i n hi'.1 (by omega)
        simp only [List.getElem_take]
        rwa [List.getD_eq_getElem?_getD, List.getElem?_eq_getElem hi'.2] at this
      rw [putAll_next (by omega)]
      refine ⟨put_up h1 _, fun x => ?_, ?_⟩
      · rw [put_mem h1, h2, getD_take m (by omega), List.mem_append, List.mem_singleton]
        constructor
        · rintro (h | ⟨h, _⟩)
          · exact .inr h
          · exact .inl h
        · rintro (h | h)
          · exact .inr ⟨h, hne x h⟩
          · exact .inl h
      · rw [put_len h1 _ (fun x hx => hne x ((h2 x).1 hx)), h3]

theorem unlike_rev {m : List Ent} (h : Unlike m) : Unlike m.reverse := by
  intro i j hij hj
  simp only [List.length_reverse] at hj
  have := h (m.length - 1 - j) (m.length - 1 - i) (by omega) (by omega)
  have e1 : m.reverse.getD i default = m.getD (m.length - 1 - i) default := by
    rw [List.getD_eq_getElem?_getD, List.getD_eq_getElem?_getD, List.getElem?_reverse (by omega)]
  have e2 : m.reverse.getD j default = m.getD (m.length - 1 - j) default := by
    rw [List.getD_eq_getElem?_getD, List.getD_eq_getElem?_getD, List.getElem?_reverse (by omega)]
  rw [e1, e2]
  exact fun he => this he.symm
theorem putAll_rev {m : List Ent} (h : Unlike m) : putAll m = putAll m.reverse := by
  have h1 := putAll_law h m.length (Nat.le_refl _)
  have h2 := putAll_law (unlike_rev h) m.reverse.length (Nat.le_refl _)
  rw [List.take_length] at h1 h2
  exact up_unique h1.1 h2.1 fun x => by rw [h1.2.1, h2.2.1, List.mem_reverse]

/-- In a rising list each key is found where it stands. -/
theorem found_at {S : List Ent} (h : Up S) {e : Ent} (he : e ∈ S) : placeI (geP e.key) S < S.length ∧ S.getD (placeI (geP e.key) S) default = e := by
  have hr := up_rises h
  obtain ⟨l1, l2⟩ := place_law (ge_mono hr e.key)
  have hle := placeI_le (p := geP e.key) (es := S)
  generalize placeI (geP e.key) S = k at l1 l2 hle
  obtain ⟨j, hj, hje⟩ := List.getElem_of_mem he
  have hgj : S.getD j default = e := by rw [List.getD_eq_getElem?_getD, List.getElem?_eq_getElem hj]; exact hje
  have hkj : k ≤ j := by
    rcases Nat.lt_or_ge j k with hlt | hge
    · have := l1 j hlt
      rw [hgj] at this
      simp only [geP, cmp_self] at this
      simp at this
    · exact hge
  rcases Nat.lt_or_ge k j with hlt | hge
  · have h1 := l2 k (Nat.le_refl _) (by omega)
    have h2 := hr k j hlt hj
    rw [hgj] at h2
    simp only [geP, decide_eq_true_eq] at h1
    omega
  · have : k = j := by omega
    subst this
    exact ⟨hj, hgj⟩
end Go.Proofs.Ytmdfjipjkkjpcaa

/- Node laws: the reference's Check. -/
namespace Go.Proofs.Ytmdfjipjkkjpcaa
open Go.SX

set_option maxRecDepth 20000 in
set_option maxHeartbeats 4000000 in
theorem con85 {a b : List UInt8} : Con 85 [.dat (.bytes fun _ => a), .dat (.bytes fun _ => b)] [] (.bool (.s fun _ => Op.bytesLess a b)) [] := by
  refine con_of Try.func85 rfl rfl 10 _ rfl rfl rfl rfl ?_
  cbv
  refine ⟨[], [], ?_⟩
  cbv
  and_intros
  all_goals first | exact trivial | exact ⟨rfl⟩ | exact ⟨rfl, fun _ _ _ _ => rfl⟩ | exact ⟨by kernel_rfl⟩

set_option maxRecDepth 20000 in
set_option maxHeartbeats 4000000 in
theorem con89 {e : Ent} : Con 89 [entSV e] [] (.bool (.s fun _ => kidB e)) [] := by
  refine con_of Try.func89 rfl rfl 22 _ rfl rfl rfl rfl ?_
  cbv
  refine ⟨fun h1 => ?_, fun h1 => ?_⟩
  · have h1 : (e.val.length : Int) = 0 := of_decide_eq_true h1
    have h1 : e.val.length = 0 := by omega
    cbv
    refine ⟨fun h2 => ?_, fun h2 => ?_⟩
    · have h2 : e.size = 0 := of_decide_eq_true h2
      cbv
      refine ⟨fun h3 => ?_, fun h3 => ?_⟩
      · have h3 : 2 ≤ e.page := of_decide_eq_true h3
        have e1 : decide (e.page < 16384) = kidB e := by simp [kidB, isPageB, h1, h2, h3]
        cbv
        refine ⟨[], [], ?_⟩
        cbv
        and_intros
        all_goals first | exact trivial | exact ⟨e1⟩ | exact ⟨rfl⟩ | exact ⟨rfl, fun _ _ _ _ => rfl⟩ | exact ⟨by kernel_rfl⟩
      · have h3 : ¬ 2 ≤ e.page := of_decide_eq_false h3
        have e1 : false = kidB e := by simp [kidB, isPageB, h1, h2, h3]
        cbv
        refine ⟨[], [], ?_⟩
        cbv
        and_intros
        all_goals first | exact trivial | exact ⟨e1⟩ | exact ⟨rfl⟩ | exact ⟨rfl, fun _ _ _ _ => rfl⟩ | exact ⟨by kernel_rfl⟩
    · have h2 : ¬ e.size = 0 := of_decide_eq_false h2
      have e1 : false = kidB e := by simp [kidB, h2]
      cbv
      refine ⟨[], [], ?_⟩
      cbv
      and_intros
      all_goals first | exact trivial | exact ⟨e1⟩ | exact ⟨rfl⟩ | exact ⟨rfl, fun _ _ _ _ => rfl⟩ | exact ⟨by kernel_rfl⟩
  · have h1 : ¬ (e.val.length : Int) = 0 := of_decide_eq_false h1
    have h1 : ¬ e.val.length = 0 := by omega
    have e1 : false = kidB e := by simp only [kidB, h1, decide_false, Bool.false_and]
    cbv
    refine ⟨[], [], ?_⟩
    cbv
    and_intros
    all_goals first | exact trivial | exact ⟨e1⟩ | exact ⟨rfl⟩ | exact ⟨rfl, fun _ _ _ _ => rfl⟩ | exact ⟨by kernel_rfl⟩

set_option maxRecDepth 20000 in
set_option maxHeartbeats 4000000 in
theorem con88 {e : Ent} : Con 88 [entSV e] [] (.bool (.s fun _ => leafyB e)) [] := by
  refine con_of Try.func88 rfl rfl 39 _ rfl rfl rfl rfl ?_
  cbv
  refine ⟨fun h1 => ?_, fun h1 => ?_⟩
  · have h1 : e.page = 0 := of_decide_eq_true h1
    have e0 : leafyB e = (decide (e.size = 0) && decide (e.val.length ≤ 64)) := if_pos h1
    cbv
    refine ⟨fun h2 => ?_, fun h2 => ?_⟩
    · have h2 : e.size = 0 := of_decide_eq_true h2
      have e2 : decide ((e.val.length : Int) ≤ 64) = decide (e.val.length ≤ 64) := decide_eq_decide.2 (by omega)
      have e1 : decide ((e.val.length : Int) ≤ 64) = leafyB e := by rw [e0, h2, e2]; rfl
      clear e0
      cbv
      refine ⟨[], [], ?_⟩
      cbv
      and_intros
      all_goals first | exact trivial | exact ⟨e1⟩ | exact ⟨rfl⟩ | exact ⟨rfl, fun _ _ _ _ => rfl⟩ | exact ⟨by kernel_rfl⟩
    · have h2 : ¬ e.size = 0 := of_decide_eq_false h2
      have e1 : false = leafyB e := by rw [e0]; simp only [h2, decide_false, Bool.false_and]
      clear e0
      cbv
      refine ⟨[], [], ?_⟩
      cbv
      and_intros
      all_goals first | exact trivial | exact ⟨e1⟩ | exact ⟨rfl⟩ | exact ⟨rfl, fun _ _ _ _ => rfl⟩ | exact ⟨by kernel_rfl⟩
  · have h1 : ¬ e.page = 0 := of_decide_eq_false h1
    have e0 : leafyB e = (decide (e.val.length = 0) && (isPageB e.page && (decide (64 < e.size) && decide (e.size ≤ 8192)))) := if_neg h1
    cbv
    refine ⟨fun h2 => ?_, fun h2 => ?_⟩
    · have h2 : (e.val.length : Int) = 0 := of_decide_eq_true h2
      have h2 : e.val.length = 0 := by omega
      cbv
      refine ⟨fun h3 => ?_, fun h3 => ?_⟩
      · have h3 : 2 ≤ e.page := of_decide_eq_true h3
        cbv
        refine ⟨fun h4 => ?_, fun h4 => ?_⟩
        · have h4 : e.page < 16384 := of_decide_eq_true h4
          have hpg : isPageB e.page = true := by simp [isPageB, h3, h4]
          have e0 : leafyB e = (decide (64 < e.size) && decide (e.size ≤ 8192)) := by rw [e0, h2, hpg]; rfl
          cbv
          refine ⟨fun h5 => ?_, fun h5 => ?_⟩
          · have h5 : 65 ≤ e.size := of_decide_eq_true h5
            have e1 : decide (e.size ≤ 8192) = leafyB e := by rw [e0, decide_eq_true (show 64 < e.size by omega)]; rfl
            cbv
            refine ⟨[], [], ?_⟩
            cbv
            and_intros
            all_goals first | exact trivial | exact ⟨e1⟩ | exact ⟨rfl⟩ | exact ⟨rfl, fun _ _ _ _ => rfl⟩ | exact ⟨by kernel_rfl⟩
          · have h5 : ¬ 65 ≤ e.size := of_decide_eq_false h5
            have e1 : false = leafyB e := by rw [e0, decide_eq_false (show ¬ 64 < e.size by omega)]; rfl
            cbv
            refine ⟨[], [], ?_⟩
            cbv
            and_intros
            all_goals first | exact trivial | exact ⟨e1⟩ | exact ⟨rfl⟩ | exact ⟨rfl, fun _ _ _ _ => rfl⟩ | exact ⟨by kernel_rfl⟩
        · have h4 : ¬ e.page < 16384 := of_decide_eq_false h4
          have hpg : isPageB e.page = false := by simp [isPageB, h4]
          have e1 : false = leafyB e := by rw [e0, h2, hpg]; rfl
          cbv
          refine ⟨[], [], ?_⟩
          cbv
          and_intros
          all_goals first | exact trivial | exact ⟨e1⟩ | exact ⟨rfl⟩ | exact ⟨rfl, fun _ _ _ _ => rfl⟩ | exact ⟨by kernel_rfl⟩
      · have h3 : ¬ 2 ≤ e.page := of_decide_eq_false h3
        have hpg : isPageB e.page = false := by simp [isPageB, h3]
        have e1 : false = leafyB e := by rw [e0, h2, hpg]; rfl
        cbv
        refine ⟨[], [], ?_⟩
        cbv
        and_intros
        all_goals first | exact trivial | exact ⟨e1⟩ | exact ⟨rfl⟩ | exact ⟨rfl, fun _ _ _ _ => rfl⟩ | exact ⟨by kernel_rfl⟩
    · have h2 : ¬ (e.val.length : Int) = 0 := of_decide_eq_false h2
      have h2 : ¬ e.val.length = 0 := by omega
      have e1 : false = leafyB e := by rw [e0]; simp only [h2, decide_false, Bool.false_and]
      clear e0 h2
      cbv
      refine ⟨[], [], ?_⟩
      cbv
      and_intros
      all_goals first | exact trivial | exact ⟨e1⟩ | exact ⟨rfl⟩ | exact ⟨rfl, fun _ _ _ _ => rfl⟩ | exact ⟨by kernel_rfl⟩

theorem con48 {leaf : Bool} {k v : List UInt8} {p s : Int} (h : k.length + v.length < 1000000000000) :
    Con 48 [.bool (.s fun _ => leaf), .agg [.dat (.bytes fun _ => k), .dat (.bytes fun _ => v), .int .u32 (.s fun _ => p), .int .u32 (.s fun _ => s)]] [] (.int .i64 (.s fun _ => bytesOfI leaf k v p)) [] := by
  refine con_of Try.func48 rfl rfl 26 _ rfl rfl rfl rfl ?_
  cbv
  refine ⟨fun h1 => ?_, fun h1 => ?_⟩
  · cbv
    refine ⟨⟨?_⟩, [], [], ?_⟩
    · simp only [bound64, IE.den, ncast]; omega
    · cbv
      refine ⟨⟨?_⟩, ⟨rfl⟩⟩
      simp only [IE.den, bytesOfI, ncast]
      rw [if_pos h1]
  · cbv
    refine ⟨fun h2 => ?_, fun h2 => ?_⟩
    · cbv
      refine ⟨⟨?_⟩, [], [], ?_⟩
      · simp only [bound64, IE.den, ncast]; omega
      · cbv
        refine ⟨⟨?_⟩, ⟨rfl⟩⟩
        simp only [Bool.not_eq_true', Bool.not_eq_false', decide_eq_true_eq, decide_eq_false_iff_not] at h1 h2
        simp only [IE.den] at h1 h2
        simp [IE.den, bytesOfI, ncast, h1, h2]
    · cbv
      refine ⟨⟨?_⟩, ⟨?_⟩, [], [], ?_⟩
      · simp only [bound64, IE.den, ncast]; omega
      · simp only [bound64, IE.den, ncast]; omega
      · cbv
        refine ⟨⟨?_⟩, ⟨rfl⟩⟩
        simp only [Bool.not_eq_true', Bool.not_eq_false', decide_eq_true_eq, decide_eq_false_iff_not] at h1 h2
        simp only [IE.den] at h1 h2
        simp [IE.den, bytesOfI, ncast, h1, h2]

set_option maxRecDepth 20000 in
set_option maxHeartbeats 4000000 in
theorem con21 {leaf : Bool} {es : List Ent} (h : weight es + 20 * es.length < 1000000000000) : Con 21 [nodeSV leaf es] [] (.int .i64 (.s fun _ => 2 + sizeL leaf es)) [] := by
  refine con_of Try.func21 rfl rfl 23 _ rfl rfl rfl rfl ?_
  cbv
  refine ⟨Nat, [], fun i => [(3, .int .i64 (.s fun _ => 2 + sizeL leaf (es.take i))), (4, .int .i64 (.s fun _ => (i : Int)))], fun _ => [(1, .cells 24 [.bool (.s fun _ => leaf), .dat (entsDV es)])],
    fun i => i ≤ es.length, fun i => es.length - i, 0, [], Nat.zero_le _, ⟨?_⟩, fun i hi => ?_⟩
  · cbv
    and_intros
    all_goals first | exact trivial | exact ⟨rfl⟩ | exact ⟨rfl, fun _ _ _ _ => rfl⟩ | exact ⟨by kernel_rfl⟩
  · have hi : i ≤ es.length := hi
    cbv
    refine ⟨fun h1 => ?_, fun h1 => ?_⟩
    · have h1 : (i : Int) < (es.length : Int) := of_decide_eq_true h1
      have hlt : i < es.length := by omega
      have o1 : indexObl (i : Int) es.length := ⟨by omega, h1⟩
      have hw := weight_take es hlt
      have hs := sizeL_le leaf (es.take i)
      have hs' := sizeL_le leaf (es.take (i + 1))
      have hnx : sizeL leaf (es.take (i + 1)) = sizeL leaf (es.take i) + bytesOfI leaf (es.getD i default).key (es.getD i default).val (es.getD i default).page := by
        rw [getD_take es hlt, sizeL_app]; simp only [sizeL]; omega
      have hm := sizeL_mono leaf (es := es) (i := i + 1)
      have hall := sizeL_le leaf es
      have b1 : bound64 ((2 + sizeL leaf (es.take i)) + bytesOfI leaf (es.getD i default).key (es.getD i default).val (es.getD i default).page) := by
        unfold bound64
        omega
      have b2 : bound64 ((i : Int) + 1) := by unfold bound64; omega
      have ei : (i : Int) + 1 = ((i + 1 : Nat) : Int) := by omega
      have es1 : (2 + sizeL leaf (es.take i)) + bytesOfI leaf (es.getD i default).key (es.getD i default).val (es.getD i default).page = 2 + sizeL leaf (es.take (i + 1)) := by rw [hnx]; omega
      have hms : es.length - (i + 1) < es.length - i := by omega
      have hen : (es.getD i default).key.length + (es.getD i default).val.length < 1000000000000 := by omega
      clear hs hs' h1 hnx hm hall
      cbv
      refine ⟨⟨o1⟩, ?_⟩
      refine ⟨_, _, con48 (leaf := leaf) hen, ⟨?_⟩, ?_⟩
      · kernel_rfl
      cbv
      refine ⟨⟨b1⟩, ⟨by kernel_rfl⟩, ?_⟩
      cbv
      refine ⟨⟨b2⟩, i + 1, [], hlt, hms, ⟨?_⟩, ⟨?_⟩⟩
      · kernel_rfl
      · cbv
        and_intros
        all_goals first | exact trivial | exact ⟨es1⟩ | exact ⟨ei⟩ | exact ⟨rfl⟩ | exact ⟨rfl, fun _ _ _ _ => rfl⟩ | exact ⟨by kernel_rfl⟩
    · have h1 : ¬ ((i : Int) < (es.length : Int)) := of_decide_eq_false h1
      have e1 : 2 + sizeL leaf (es.take i) = 2 + sizeL leaf es := by rw [List.take_of_length_le (by omega)]
      clear h1
      cbv
      refine ⟨[], [], ?_⟩
      cbv
      and_intros
      all_goals first | exact trivial | exact ⟨e1⟩ | exact ⟨rfl⟩ | exact ⟨rfl, fun _ _ _ _ => rfl⟩ | exact ⟨by kernel_rfl⟩

theorem put_key {ks : List Int} {x y : Int} : y ∈ putKey ks x ↔ y ∈ ks ∨ y = x := by
  unfold putKey
  cases hc : ks.contains x with
  | true =>
    simp only [cond_true]
    exact ⟨.inl, fun h => h.elim id fun e => e ▸ List.contains_iff_mem.1 hc⟩
  | false => simp
theorem seen_mem {l : List Ent} {x : Int} : x ∈ seenL l ↔ ∃ e ∈ l, e.page = x := by
  have key : ∀ (l : List Ent) (ks : List Int), x ∈ l.foldl (fun ks e => putKey ks e.page) ks ↔ x ∈ ks ∨ ∃ e ∈ l, e.page = x := by
    intro l
    induction l with
    | nil => intro ks; simp
    | cons e l ih =>
      intro ks
      simp only [List.foldl_cons, ih, put_key, List.mem_cons, exists_eq_or_imp]
      constructor
      · rintro ((h | h) | h)
        · exact .inl h
        · exact .inr (.inl h.symm)
        · exact .inr (.inr h)
      · rintro (h | h | h)
        · exact .inl (.inl h)
        · exact .inl (.inr h.symm)
        · exact .inr h
  simpa [seenL] using key l []
theorem getD_take_mem {α : Type} [Inhabited α] {l : List α} {k i : Nat} (h : k < i) (hl : k < l.length) : l.getD k default ∈ l.take i := by
  rw [List.getD_eq_getElem?_getD, List.getElem?_eq_getElem hl]
  exact List.mem_iff_getElem.2 ⟨k, by simp; omega, by simp⟩
theorem take_getD_mem {α : Type} [Inhabited α] {l : List α} {i : Nat} {x : α} (h : x ∈ l.take i) : ∃ a, a < i ∧ x = l.getD a default := by
  obtain ⟨a, ha, rfl⟩ := List.getElem_of_mem h
  simp only [List.length_take] at ha
  refine ⟨a, by omega, ?_⟩
  rw [List.getD_eq_getElem?_getD, List.getElem?_eq_getElem (by omega)]
  simp

set_option maxRecDepth 20000 in
set_option maxHeartbeats 4000000 in
theorem con47t {es : List Ent} (hl : es.length < 1000000000000) : Con 47 [nodeSV true es] [] (.bool (.s fun _ => mayB true es)) [] := by
  refine con_of Try.func47 rfl rfl 95 _ rfl rfl rfl rfl ?_
  cbv
  refine ⟨fun h0 => ?_, fun h0 => ?_⟩
  · have h0 : (es.length : Int) = 0 := of_decide_eq_true h0
    have e1 : false = mayB true es := by unfold mayB; rw [decide_eq_false (by omega : ¬ 0 < es.length), Bool.and_false]
    clear h0
    cbv
    refine ⟨[], [], ?_⟩
    cbv
    and_intros
    all_goals first | exact trivial | exact ⟨e1⟩ | exact ⟨rfl⟩ | exact ⟨rfl, fun _ _ _ _ => rfl⟩ | exact ⟨by kernel_rfl⟩
  · have h0 : ¬ (es.length : Int) = 0 := of_decide_eq_false h0
    have h0 : 0 < es.length := by omega
    cbv
    refine ⟨Nat, [], fun i => [(3, .int .i64 (.s fun _ => (i : Int)))], fun _ => [(1, .cells 24 [.bool .t, .dat (entsDV es)])],
      fun i => i ≤ es.length ∧ okTo true es i = true, fun i => es.length - i, 0, [], ⟨Nat.zero_le _, rfl⟩, ⟨?_⟩, fun i hx => ?_⟩
    · cbv
      and_intros
      all_goals first | exact trivial | exact ⟨rfl⟩ | exact ⟨rfl, fun _ _ _ _ => rfl⟩ | exact ⟨by kernel_rfl⟩
    · obtain ⟨hi, hok⟩ : i ≤ es.length ∧ okTo true es i = true := hx
      cbv
      refine ⟨fun h1 => ?_, fun h1 => ?_⟩
      · have h1 : (i : Int) < (es.length : Int) := of_decide_eq_true h1
        have hlt : i < es.length := by omega
        have o1 : indexObl (i : Int) es.length := ⟨by omega, h1⟩
        have b2 : bound64 ((i : Int) + 1) := by unfold bound64; omega
        have ei : (i : Int) + 1 = ((i + 1 : Nat) : Int) := by omega
        have hms : es.length - (i + 1) < es.length - i := by omega
        clear h1
        cbv
        refine ⟨⟨o1⟩, ?_⟩
        cbv
        refine ⟨fun hA => ?_, fun hA => ?_⟩
        · have hA : (i : Int) = 0 := of_decide_eq_true hA
          have hA : i = 0 := by omega
          have hc : (decide (i = 0) && !true) = false := by simp [hA]
          cbv
          refine ⟨fun hB => ?_, fun hB => ?_⟩
          · have hB : (false != decide (((es.getD i default).key.length : Int) = 0)) = true := hB
            have e1 : false = mayB true es := may_badK hlt (keyBad1 hc hB)
            clear hB
            cbv
            refine ⟨⟨by kernel_rfl⟩, ?_⟩
            cbv
            refine ⟨[], [], ?_⟩
            cbv
            and_intros
            all_goals first | exact trivial | exact ⟨e1⟩ | exact ⟨rfl⟩ | exact ⟨rfl, fun _ _ _ _ => rfl⟩ | exact ⟨by kernel_rfl⟩
          · have hB : (false != decide (((es.getD i default).key.length : Int) = 0)) = false := hB
            cbv
            refine ⟨fun hC => ?_, fun hC => ?_⟩
            · have hC : (160 : Int) < ((es.getD i default).key.length : Int) := of_decide_eq_true hC
              have e1 : false = mayB true es := may_badK hlt (keyBad2 hC)
              clear hC
              cbv
              refine ⟨⟨by kernel_rfl⟩, ?_⟩
              cbv
              refine ⟨[], [], ?_⟩
              cbv
              and_intros
              all_goals first | exact trivial | exact ⟨e1⟩ | exact ⟨rfl⟩ | exact ⟨rfl, fun _ _ _ _ => rfl⟩ | exact ⟨by kernel_rfl⟩
            · have hC : ¬ (160 : Int) < ((es.getD i default).key.length : Int) := of_decide_eq_false hC
              have hcmp : 0 < i → ¬ (0 : Int) ≤ Lib.compareBytes (es.getD (i - 1) default).key (es.getD i default).key := fun h => absurd h (by omega)
              cbv
              refine ⟨fun hD => ?_, fun hD => ?_⟩
              · have hD : (0 : Int) < (i : Int) := of_decide_eq_true hD
                exfalso
                omega
              · clear hD
                cbv
                refine ⟨⟨by kernel_rfl⟩, ?_⟩
                cbv
                refine ⟨_, _, con88, ⟨?_⟩, ?_⟩
                · kernel_rfl
                cbv
                refine ⟨fun hg => ?_, fun hg => ?_⟩
                · have hg : leafyB (es.getD i default) = false := bnot_t hg
                  have e1 : false = mayB true es := may_badK hlt (keyBad3 hg)
                  clear hg
                  cbv
                  refine ⟨[], [], ?_⟩
                  cbv
                  and_intros
                  all_goals first | exact trivial | exact ⟨e1⟩ | exact ⟨rfl⟩ | exact ⟨rfl, fun _ _ _ _ => rfl⟩ | exact ⟨by kernel_rfl⟩
                · have hg : leafyB (es.getD i default) = true := bnot_f hg
                  have hkey : keyBad true i (es.getD i default) = false := keyBad4 hc hB hC hg
                  clear hg
                  have hok' : okTo true es (i + 1) = true := okTo_next hok hkey (order3 hcmp (fun h => by cases h))
                  clear hkey hcmp
                  cbv
                  refine ⟨Unit, [], fun _ => [(6, .int .i64 (.l 0))], fun _ => [(1, .cells 24 [.bool .t, .dat (entsDV es)])], fun _ => True, fun _ => 0, (), [], trivial, ⟨?_⟩, fun _ _ => ?_⟩
                  · cbv
                    and_intros
                    all_goals first | exact trivial | exact ⟨rfl⟩ | exact ⟨rfl, fun _ _ _ _ => rfl⟩ | exact ⟨by kernel_rfl⟩
                  · cbv
                    refine ⟨fun hz => ?_, fun hz => ?_⟩
                    · cbv
                      refine ⟨⟨b2⟩, i + 1, [], ⟨hlt, hok'⟩, hms, ⟨?_⟩, ⟨?_⟩⟩
                      · kernel_rfl
                      · cbv
                        and_intros
                        all_goals first | exact trivial | exact ⟨ei⟩ | exact ⟨rfl⟩ | exact ⟨rfl, fun _ _ _ _ => rfl⟩ | exact ⟨by kernel_rfl⟩
                    · cbv
                      refine ⟨⟨b2⟩, i + 1, [], ⟨hlt, hok'⟩, hms, ⟨?_⟩, ⟨?_⟩⟩
                      · kernel_rfl
                      · cbv
                        and_intros
                        all_goals first | exact trivial | exact ⟨ei⟩ | exact ⟨rfl⟩ | exact ⟨rfl, fun _ _ _ _ => rfl⟩ | exact ⟨by kernel_rfl⟩
        · have hA : ¬ (i : Int) = 0 := of_decide_eq_false hA
          have hA : ¬ i = 0 := by omega
          have hc : (decide (i = 0) && !true) = false := by simp [hA]
          cbv
          refine ⟨fun hB => ?_, fun hB => ?_⟩
          · have hB : (false != decide (((es.getD i default).key.length : Int) = 0)) = true := hB
            have e1 : false = mayB true es := may_badK hlt (keyBad1 hc hB)
            clear hB
            cbv
            refine ⟨⟨by kernel_rfl⟩, ?_⟩
            cbv
            refine ⟨[], [], ?_⟩
            cbv
            and_intros
            all_goals first | exact trivial | exact ⟨e1⟩ | exact ⟨rfl⟩ | exact ⟨rfl, fun _ _ _ _ => rfl⟩ | exact ⟨by kernel_rfl⟩
          · have hB : (false != decide (((es.getD i default).key.length : Int) = 0)) = false := hB
            cbv
            refine ⟨fun hC => ?_, fun hC => ?_⟩
            · have hC : (160 : Int) < ((es.getD i default).key.length : Int) := of_decide_eq_true hC
              have e1 : false = mayB true es := may_badK hlt (keyBad2 hC)
              clear hC
              cbv
              refine ⟨⟨by kernel_rfl⟩, ?_⟩
              cbv
              refine ⟨[], [], ?_⟩
              cbv
              and_intros
              all_goals first | exact trivial | exact ⟨e1⟩ | exact ⟨rfl⟩ | exact ⟨rfl, fun _ _ _ _ => rfl⟩ | exact ⟨by kernel_rfl⟩
            · have hC : ¬ (160 : Int) < ((es.getD i default).key.length : Int) := of_decide_eq_false hC
              have bm : bound64 ((i : Int) - 1) := by unfold bound64; omega
              have om : indexObl ((i : Int) - 1) es.length := ⟨by omega, by omega⟩
              have em : ((i : Int) - 1).toNat = i - 1 := by omega
              cbv
              refine ⟨fun hD => ?_, fun hD => ?_⟩
              · clear hD
                cbv
                refine ⟨⟨bm⟩, ⟨om⟩, ?_⟩
                refine ⟨_, _, con85, ⟨?_⟩, ?_⟩
                · kernel_rfl
                cbv
                refine ⟨⟨by kernel_rfl⟩, ?_⟩
                cbv
                refine ⟨fun hE => ?_, fun hE => ?_⟩
                · have hE : Op.bytesLess (es.getD ((i : Int) - 1).toNat default).key (es.getD i default).key = false := bnot_t hE
                  rw [less_cmp, em] at hE
                  have hE : ¬ Lib.compareBytes (es.getD (i - 1) default).key (es.getD i default).key < 0 := of_decide_eq_false hE
                  have e1 : false = mayB true es := may_badO hlt (order1 (by omega) (by omega))
                  clear hE
                  cbv
                  refine ⟨[], [], ?_⟩
                  cbv
                  and_intros
                  all_goals first | exact trivial | exact ⟨e1⟩ | exact ⟨rfl⟩ | exact ⟨rfl, fun _ _ _ _ => rfl⟩ | exact ⟨by kernel_rfl⟩
                · have hE : Op.bytesLess (es.getD ((i : Int) - 1).toNat default).key (es.getD i default).key = true := bnot_f hE
                  rw [less_cmp, em] at hE
                  have hE : Lib.compareBytes (es.getD (i - 1) default).key (es.getD i default).key < 0 := of_decide_eq_true hE
                  have hcmp : 0 < i → ¬ (0 : Int) ≤ Lib.compareBytes (es.getD (i - 1) default).key (es.getD i default).key := fun _ => by omega
                  clear hE
                  cbv
                  refine ⟨_, _, con88, ⟨?_⟩, ?_⟩
                  · kernel_rfl
                  cbv
                  refine ⟨fun hg => ?_, fun hg => ?_⟩
                  · have hg : leafyB (es.getD i default) = false := bnot_t hg
                    have e1 : false = mayB true es := may_badK hlt (keyBad3 hg)
                    clear hg
                    cbv
                    refine ⟨[], [], ?_⟩
                    cbv
                    and_intros
                    all_goals first | exact trivial | exact ⟨e1⟩ | exact ⟨rfl⟩ | exact ⟨rfl, fun _ _ _ _ => rfl⟩ | exact ⟨by kernel_rfl⟩
                  · have hg : leafyB (es.getD i default) = true := bnot_f hg
                    have hkey : keyBad true i (es.getD i default) = false := keyBad4 hc hB hC hg
                    clear hg
                    have hok' : okTo true es (i + 1) = true := okTo_next hok hkey (order3 hcmp (fun h => by cases h))
                    clear hkey hcmp
                    cbv
                    refine ⟨Unit, [], fun _ => [(6, .int .i64 (.l 0))], fun _ => [(1, .cells 24 [.bool .t, .dat (entsDV es)])], fun _ => True, fun _ => 0, (), [], trivial, ⟨?_⟩, fun _ _ => ?_⟩
                    · cbv
                      and_intros
                      all_goals first | exact trivial | exact ⟨rfl⟩ | exact ⟨rfl, fun _ _ _ _ => rfl⟩ | exact ⟨by kernel_rfl⟩
                    · cbv
                      refine ⟨fun hz => ?_, fun hz => ?_⟩
                      · cbv
                        refine ⟨⟨b2⟩, i + 1, [], ⟨hlt, hok'⟩, hms, ⟨?_⟩, ⟨?_⟩⟩
                        · kernel_rfl
                        · cbv
                          and_intros
                          all_goals first | exact trivial | exact ⟨ei⟩ | exact ⟨rfl⟩ | exact ⟨rfl, fun _ _ _ _ => rfl⟩ | exact ⟨by kernel_rfl⟩
                      · cbv
                        refine ⟨⟨b2⟩, i + 1, [], ⟨hlt, hok'⟩, hms, ⟨?_⟩, ⟨?_⟩⟩
                        · kernel_rfl
                        · cbv
                          and_intros
                          all_goals first | exact trivial | exact ⟨ei⟩ | exact ⟨rfl⟩ | exact ⟨rfl, fun _ _ _ _ => rfl⟩ | exact ⟨by kernel_rfl⟩
              · have hD : ¬ (0 : Int) < (i : Int) := of_decide_eq_false hD
                exfalso
                omega
      · have h1 : ¬ (i : Int) < (es.length : Int) := of_decide_eq_false h1
        have hie : i = es.length := by omega
        have e1 : true = mayB true es := by unfold mayB; rw [← hie, hok, decide_eq_true (by omega : 0 < i)]; rfl
        clear h1
        cbv
        refine ⟨[], [], ?_⟩
        cbv
        and_intros
        all_goals first | exact trivial | exact ⟨e1⟩ | exact ⟨rfl⟩ | exact ⟨rfl, fun _ _ _ _ => rfl⟩ | exact ⟨by kernel_rfl⟩

set_option maxRecDepth 20000 in
set_option maxHeartbeats 4000000 in
theorem con47f {es : List Ent} (hl : es.length < 1000000000000) : Con 47 [nodeSV false es] [] (.bool (.s fun _ => mayB false es)) [] := by
  refine con_of Try.func47 rfl rfl 95 _ rfl rfl rfl rfl ?_
  cbv
  refine ⟨fun h0 => ?_, fun h0 => ?_⟩
  · have h0 : (es.length : Int) = 0 := of_decide_eq_true h0
    have e1 : false = mayB false es := by unfold mayB; rw [decide_eq_false (by omega : ¬ 0 < es.length), Bool.and_false]
    clear h0
    cbv
    refine ⟨[], [], ?_⟩
    cbv
    and_intros
    all_goals first | exact trivial | exact ⟨e1⟩ | exact ⟨rfl⟩ | exact ⟨rfl, fun _ _ _ _ => rfl⟩ | exact ⟨by kernel_rfl⟩
  · have h0 : ¬ (es.length : Int) = 0 := of_decide_eq_false h0
    have h0 : 0 < es.length := by omega
    cbv
    refine ⟨Nat, [], fun i => [(3, .int .i64 (.s fun _ => (i : Int)))], fun _ => [(1, .cells 24 [.bool .f, .dat (entsDV es)])],
      fun i => i ≤ es.length ∧ okTo false es i = true, fun i => es.length - i, 0, [], ⟨Nat.zero_le _, rfl⟩, ⟨?_⟩, fun i hx => ?_⟩
    · cbv
      and_intros
      all_goals first | exact trivial | exact ⟨rfl⟩ | exact ⟨rfl, fun _ _ _ _ => rfl⟩ | exact ⟨by kernel_rfl⟩
    · obtain ⟨hi, hok⟩ : i ≤ es.length ∧ okTo false es i = true := hx
      cbv
      refine ⟨fun h1 => ?_, fun h1 => ?_⟩
      · have h1 : (i : Int) < (es.length : Int) := of_decide_eq_true h1
        have hlt : i < es.length := by omega
        have o1 : indexObl (i : Int) es.length := ⟨by omega, h1⟩
        have b2 : bound64 ((i : Int) + 1) := by unfold bound64; omega
        have ei : (i : Int) + 1 = ((i + 1 : Nat) : Int) := by omega
        have hms : es.length - (i + 1) < es.length - i := by omega
        clear h1
        cbv
        refine ⟨⟨o1⟩, ?_⟩
        cbv
        refine ⟨fun hA => ?_, fun hA => ?_⟩
        · have hA : (i : Int) = 0 := of_decide_eq_true hA
          have hA : i = 0 := by omega
          have hc : (decide (i = 0) && !false) = true := by simp [hA]
          cbv
          refine ⟨fun hB => ?_, fun hB => ?_⟩
          · have hB : (true != decide (((es.getD i default).key.length : Int) = 0)) = true := hB
            have e1 : false = mayB false es := may_badK hlt (keyBad1 hc hB)
            clear hB
            cbv
            refine ⟨⟨by kernel_rfl⟩, ?_⟩
            cbv
            refine ⟨[], [], ?_⟩
            cbv
            and_intros
            all_goals first | exact trivial | exact ⟨e1⟩ | exact ⟨rfl⟩ | exact ⟨rfl, fun _ _ _ _ => rfl⟩ | exact ⟨by kernel_rfl⟩
          · have hB : (true != decide (((es.getD i default).key.length : Int) = 0)) = false := hB
            cbv
            refine ⟨fun hC => ?_, fun hC => ?_⟩
            · have hC : (160 : Int) < ((es.getD i default).key.length : Int) := of_decide_eq_true hC
              have e1 : false = mayB false es := may_badK hlt (keyBad2 hC)
              clear hC
              cbv
              refine ⟨⟨by kernel_rfl⟩, ?_⟩
              cbv
              refine ⟨[], [], ?_⟩
              cbv
              and_intros
              all_goals first | exact trivial | exact ⟨e1⟩ | exact ⟨rfl⟩ | exact ⟨rfl, fun _ _ _ _ => rfl⟩ | exact ⟨by kernel_rfl⟩
            · have hC : ¬ (160 : Int) < ((es.getD i default).key.length : Int) := of_decide_eq_false hC
              have hcmp : 0 < i → ¬ (0 : Int) ≤ Lib.compareBytes (es.getD (i - 1) default).key (es.getD i default).key := fun h => absurd h (by omega)
              cbv
              refine ⟨fun hD => ?_, fun hD => ?_⟩
              · have hD : (0 : Int) < (i : Int) := of_decide_eq_true hD
                exfalso
                omega
              · clear hD
                cbv
                refine ⟨⟨by kernel_rfl⟩, ?_⟩
                cbv
                refine ⟨_, _, con89, ⟨?_⟩, ?_⟩
                · kernel_rfl
                cbv
                refine ⟨fun hg => ?_, fun hg => ?_⟩
                · have hg : kidB (es.getD i default) = false := bnot_t hg
                  have e1 : false = mayB false es := may_badK hlt (keyBad3 hg)
                  clear hg
                  cbv
                  refine ⟨[], [], ?_⟩
                  cbv
                  and_intros
                  all_goals first | exact trivial | exact ⟨e1⟩ | exact ⟨rfl⟩ | exact ⟨rfl, fun _ _ _ _ => rfl⟩ | exact ⟨by kernel_rfl⟩
                · have hg : kidB (es.getD i default) = true := bnot_f hg
                  have hkey : keyBad false i (es.getD i default) = false := keyBad4 hc hB hC hg
                  clear hg
                  cbv
                  refine ⟨Nat, [], fun k => [(6, .int .i64 (.s fun _ => (k : Int)))], fun _ => [(1, .cells 24 [.bool .f, .dat (entsDV es)]), (4, .cells 74 [.dat (.bytes fun _ => (es.getD i default).key), .dat (.bytes fun _ => (es.getD i default).val), .int .u32 (.s fun _ => (es.getD i default).page), .int .u32 (.s fun _ => (es.getD i default).size)])],
                    fun k => k ≤ i ∧ ∀ a, a < k → (es.getD a default).page ≠ (es.getD i default).page, fun k => i - k, 0, [], ⟨Nat.zero_le _, fun a h => absurd h (Nat.not_lt_zero _)⟩, ⟨?_⟩, fun k hk => ?_⟩
                  · cbv
                    and_intros
                    all_goals first | exact trivial | exact ⟨rfl⟩ | exact ⟨rfl, fun _ _ _ _ => rfl⟩ | exact ⟨by kernel_rfl⟩
                  · obtain ⟨hk1, hk2⟩ : k ≤ i ∧ ∀ a, a < k → (es.getD a default).page ≠ (es.getD i default).page := hk
                    cbv
                    refine ⟨fun hz => ?_, fun hz => ?_⟩
                    · have hz : (k : Int) < (i : Int) := of_decide_eq_true hz
                      have hki : k < i := by omega
                      have ok : indexObl (k : Int) es.length := ⟨by omega, by omega⟩
                      have bk : bound64 ((k : Int) + 1) := by unfold bound64; omega
                      have ek : (k : Int) + 1 = ((k + 1 : Nat) : Int) := by omega
                      have hmk : i - (k + 1) < i - k := by omega
                      clear hz
                      cbv
                      refine ⟨⟨ok⟩, ⟨by kernel_rfl⟩, ?_⟩
                      cbv
                      refine ⟨fun hq => ?_, fun hq => ?_⟩
                      · have hq : (es.getD k default).page = (es.getD i default).page := of_decide_eq_true hq
                        have e1 : false = mayB false es := may_badO hlt (order2 (List.contains_iff_mem.2 (seen_mem.2 ⟨_, getD_take_mem hki (by omega), hq⟩)))
                        clear hq
                        cbv
                        refine ⟨[], [], ?_⟩
                        cbv
                        and_intros
                        all_goals first | exact trivial | exact ⟨e1⟩ | exact ⟨rfl⟩ | exact ⟨rfl, fun _ _ _ _ => rfl⟩ | exact ⟨by kernel_rfl⟩
                      · have hq : ¬ (es.getD k default).page = (es.getD i default).page := of_decide_eq_false hq
                        have hinv : k + 1 ≤ i ∧ ∀ a, a < k + 1 → (es.getD a default).page ≠ (es.getD i default).page := ⟨hki, fun a ha => by
                          by_cases h : a < k
                          · exact hk2 a h
                          · have : a = k := by omega
                            rw [this]; exact hq⟩
                        clear hq
                        cbv
                        refine ⟨⟨bk⟩, k + 1, [], hinv, hmk, ⟨?_⟩, ⟨?_⟩⟩
                        · kernel_rfl
                        · cbv
                          and_intros
                          all_goals first | exact trivial | exact ⟨ek⟩ | exact ⟨rfl⟩ | exact ⟨rfl, fun _ _ _ _ => rfl⟩ | exact ⟨by kernel_rfl⟩
                    · have hz : ¬ (k : Int) < (i : Int) := of_decide_eq_false hz
                      have hki : k = i := by omega
                      have hns : (seenL (es.take i)).contains (es.getD i default).page = false := by
                        cases hc : (seenL (es.take i)).contains (es.getD i default).page with
                        | false => rfl
                        | true =>
                          obtain ⟨x, hx, hp⟩ := seen_mem.1 (List.contains_iff_mem.1 hc)
                          obtain ⟨a, ha, rfl⟩ := take_getD_mem hx
                          exact absurd hp (hk2 a (by omega))
                      have hok' : okTo false es (i + 1) = true := okTo_next hok hkey (order3 hcmp (fun _ => hns))
                      clear hz hkey hcmp hns
                      cbv
                      refine ⟨⟨b2⟩, i + 1, [], ⟨hlt, hok'⟩, hms, ⟨?_⟩, ⟨?_⟩⟩
                      · kernel_rfl
                      · cbv
                        and_intros
                        all_goals first | exact trivial | exact ⟨ei⟩ | exact ⟨rfl⟩ | exact ⟨rfl, fun _ _ _ _ => rfl⟩ | exact ⟨by kernel_rfl⟩
        · have hA : ¬ (i : Int) = 0 := of_decide_eq_false hA
          have hA : ¬ i = 0 := by omega
          have hc : (decide (i = 0) && !false) = false := by simp [hA]
          cbv
          refine ⟨fun hB => ?_, fun hB => ?_⟩
          · have hB : (false != decide (((es.getD i default).key.length : Int) = 0)) = true := hB
            have e1 : false = mayB false es := may_badK hlt (keyBad1 hc hB)
            clear hB
            cbv
            refine ⟨⟨by kernel_rfl⟩, ?_⟩
            cbv
            refine ⟨[], [], ?_⟩
            cbv
            and_intros
            all_goals first | exact trivial | exact ⟨e1⟩ | exact ⟨rfl⟩ | exact ⟨rfl, fun _ _ _ _ => rfl⟩ | exact ⟨by kernel_rfl⟩
          · have hB : (false != decide (((es.getD i default).key.length : Int) = 0)) = false := hB
            cbv
            refine ⟨fun hC => ?_, fun hC => ?_⟩
            · have hC : (160 : Int) < ((es.getD i default).key.length : Int) := of_decide_eq_true hC
              have e1 : false = mayB false es := may_badK hlt (keyBad2 hC)
              clear hC
              cbv
              refine ⟨⟨by kernel_rfl⟩, ?_⟩
              cbv
              refine ⟨[], [], ?_⟩
              cbv
              and_intros
              all_goals first | exact trivial | exact ⟨e1⟩ | exact ⟨rfl⟩ | exact ⟨rfl, fun _ _ _ _ => rfl⟩ | exact ⟨by kernel_rfl⟩
            · have hC : ¬ (160 : Int) < ((es.getD i default).key.length : Int) := of_decide_eq_false hC
              have bm : bound64 ((i : Int) - 1) := by unfold bound64; omega
              have om : indexObl ((i : Int) - 1) es.length := ⟨by omega, by omega⟩
              have em : ((i : Int) - 1).toNat = i - 1 := by omega
              cbv
              refine ⟨fun hD => ?_, fun hD => ?_⟩
              · clear hD
                cbv
                refine ⟨⟨bm⟩, ⟨om⟩, ?_⟩
                refine ⟨_, _, con85, ⟨?_⟩, ?_⟩
                · kernel_rfl
                cbv
                refine ⟨⟨by kernel_rfl⟩, ?_⟩
                cbv
                refine ⟨fun hE => ?_, fun hE => ?_⟩
                · have hE : Op.bytesLess (es.getD ((i : Int) - 1).toNat default).key (es.getD i default).key = false := bnot_t hE
                  rw [less_cmp, em] at hE
                  have hE : ¬ Lib.compareBytes (es.getD (i - 1) default).key (es.getD i default).key < 0 := of_decide_eq_false hE
                  have e1 : false = mayB false es := may_badO hlt (order1 (by omega) (by omega))
                  clear hE
                  cbv
                  refine ⟨[], [], ?_⟩
                  cbv
                  and_intros
                  all_goals first | exact trivial | exact ⟨e1⟩ | exact ⟨rfl⟩ | exact ⟨rfl, fun _ _ _ _ => rfl⟩ | exact ⟨by kernel_rfl⟩
                · have hE : Op.bytesLess (es.getD ((i : Int) - 1).toNat default).key (es.getD i default).key = true := bnot_f hE
                  rw [less_cmp, em] at hE
                  have hE : Lib.compareBytes (es.getD (i - 1) default).key (es.getD i default).key < 0 := of_decide_eq_true hE
                  have hcmp : 0 < i → ¬ (0 : Int) ≤ Lib.compareBytes (es.getD (i - 1) default).key (es.getD i default).key := fun _ => by omega
                  clear hE
                  cbv
                  refine ⟨_, _, con89, ⟨?_⟩, ?_⟩
                  · kernel_rfl
                  cbv
                  refine ⟨fun hg => ?_, fun hg => ?_⟩
                  · have hg : kidB (es.getD i default) = false := bnot_t hg
                    have e1 : false = mayB false es := may_badK hlt (keyBad3 hg)
                    clear hg
                    cbv
                    refine ⟨[], [], ?_⟩
                    cbv
                    and_intros
                    all_goals first | exact trivial | exact ⟨e1⟩ | exact ⟨rfl⟩ | exact ⟨rfl, fun _ _ _ _ => rfl⟩ | exact ⟨by kernel_rfl⟩
                  · have hg : kidB (es.getD i default) = true := bnot_f hg
                    have hkey : keyBad false i (es.getD i default) = false := keyBad4 hc hB hC hg
                    clear hg
                    cbv
                    refine ⟨Nat, [], fun k => [(6, .int .i64 (.s fun _ => (k : Int)))], fun _ => [(1, .cells 24 [.bool .f, .dat (entsDV es)]), (4, .cells 74 [.dat (.bytes fun _ => (es.getD i default).key), .dat (.bytes fun _ => (es.getD i default).val), .int .u32 (.s fun _ => (es.getD i default).page), .int .u32 (.s fun _ => (es.getD i default).size)])],
                      fun k => k ≤ i ∧ ∀ a, a < k → (es.getD a default).page ≠ (es.getD i default).page, fun k => i - k, 0, [], ⟨Nat.zero_le _, fun a h => absurd h (Nat.not_lt_zero _)⟩, ⟨?_⟩, fun k hk => ?_⟩
                    · cbv
                      and_intros
                      all_goals first | exact trivial | exact ⟨rfl⟩ | exact ⟨rfl, fun _ _ _ _ => rfl⟩ | exact ⟨by kernel_rfl⟩
                    · obtain ⟨hk1, hk2⟩ : k ≤ i ∧ ∀ a, a < k → (es.getD a default).page ≠ (es.getD i default).page := hk
                      cbv
                      refine ⟨fun hz => ?_, fun hz => ?_⟩
                      · have hz : (k : Int) < (i : Int) := of_decide_eq_true hz
                        have hki : k < i := by omega
                        have ok : indexObl (k : Int) es.length := ⟨by omega, by omega⟩
                        have bk : bound64 ((k : Int) + 1) := by unfold bound64; omega
                        have ek : (k : Int) + 1 = ((k + 1 : Nat) : Int) := by omega
                        have hmk : i - (k + 1) < i - k := by omega
                        clear hz
                        cbv
                        refine ⟨⟨ok⟩, ⟨by kernel_rfl⟩, ?_⟩
                        cbv
                        refine ⟨fun hq => ?_, fun hq => ?_⟩
                        · have hq : (es.getD k default).page = (es.getD i default).page := of_decide_eq_true hq
                          have e1 : false = mayB false es := may_badO hlt (order2 (List.contains_iff_mem.2 (seen_mem.2 ⟨_, getD_take_mem hki (by omega), hq⟩)))
                          clear hq
                          cbv
                          refine ⟨[], [], ?_⟩
                          cbv
                          and_intros
                          all_goals first | exact trivial | exact ⟨e1⟩ | exact ⟨rfl⟩ | exact ⟨rfl, fun _ _ _ _ => rfl⟩ | exact ⟨by kernel_rfl⟩
                        · have hq : ¬ (es.getD k default).page = (es.getD i default).page := of_decide_eq_false hq
                          have hinv : k + 1 ≤ i ∧ ∀ a, a < k + 1 → (es.getD a default).page ≠ (es.getD i default).page := ⟨hki, fun a ha => by
                            by_cases h : a < k
                            · exact hk2 a h
                            · have : a = k := by omega
                              rw [this]; exact hq⟩
                          clear hq
                          cbv
                          refine ⟨⟨bk⟩, k + 1, [], hinv, hmk, ⟨?_⟩, ⟨?_⟩⟩
                          · kernel_rfl
                          · cbv
                            and_intros
                            all_goals first | exact trivial | exact ⟨ek⟩ | exact ⟨rfl⟩ | exact ⟨rfl, fun _ _ _ _ => rfl⟩ | exact ⟨by kernel_rfl⟩
                      · have hz : ¬ (k : Int) < (i : Int) := of_decide_eq_false hz
                        have hki : k = i := by omega
                        have hns : (seenL (es.take i)).contains (es.getD i default).page = false := by
                          cases hc : (seenL (es.take i)).contains (es.getD i default).page with
                          | false => rfl
                          | true =>
                            obtain ⟨x, hx, hp⟩ := seen_mem.1 (List.contains_iff_mem.1 hc)
                            obtain ⟨a, ha, rfl⟩ := take_getD_mem hx
                            exact absurd hp (hk2 a (by omega))
                        have hok' : okTo false es (i + 1) = true := okTo_next hok hkey (order3 hcmp (fun _ => hns))
                        clear hz hkey hcmp hns
                        cbv
                        refine ⟨⟨b2⟩, i + 1, [], ⟨hlt, hok'⟩, hms, ⟨?_⟩, ⟨?_⟩⟩
                        · kernel_rfl
                        · cbv
                          and_intros
                          all_goals first | exact trivial | exact ⟨ei⟩ | exact ⟨rfl⟩ | exact ⟨rfl, fun _ _ _ _ => rfl⟩ | exact ⟨by kernel_rfl⟩
              · have hD : ¬ (0 : Int) < (i : Int) := of_decide_eq_false hD
                exfalso
                omega
      · have h1 : ¬ (i : Int) < (es.length : Int) := of_decide_eq_false h1
        have hie : i = es.length := by omega
        have e1 : true = mayB false es := by unfold mayB; rw [← hie, hok, decide_eq_true (by omega : 0 < i)]; rfl
        clear h1
        cbv
        refine ⟨[], [], ?_⟩
        cbv
        and_intros
        all_goals first | exact trivial | exact ⟨e1⟩ | exact ⟨rfl⟩ | exact ⟨rfl, fun _ _ _ _ => rfl⟩ | exact ⟨by kernel_rfl⟩

theorem con47 {leaf : Bool} {es : List Ent} (hl : es.length < 1000000000000) : Con 47 [nodeSV leaf es] [] (.bool (.s fun _ => mayB leaf es)) [] := by
  cases leaf
  · exact con47f hl
  · exact con47t hl

set_option maxRecDepth 20000 in
set_option maxHeartbeats 4000000 in
theorem con20 {leaf : Bool} {es : List Ent} (hw : weight es + 20 * es.length < 1000000000000) : Con 20 [nodeSV leaf es] [] (.int .u16 (.s fun _ => checkI leaf es)) [] := by
  refine con_of Try.func20 rfl rfl 11 _ rfl rfl rfl rfl ?_
  cbv
  refine ⟨_, _, con47 (leaf := leaf) (es := es) (by omega), ⟨?_⟩, ?_⟩
  · rfl
  cbv
  refine ⟨fun h1 => ?_, fun h1 => ?_⟩
  · have h1 : mayB leaf es = false := bnot_t h1
    have e1 : (90 : Int) = checkI leaf es := by unfold checkI; rw [h1]; rfl
    cbv
    refine ⟨[], [], ?_⟩
    cbv
    exact ⟨⟨e1⟩, ⟨rfl⟩⟩
  · have h1 : mayB leaf es = true := bnot_f h1
    have e0 : checkI leaf es = if 1008 < 2 + sizeL leaf es then 91 else 0 := by unfold checkI; rw [h1]; rfl
    cbv
    refine ⟨_, _, con21 (leaf := leaf) (es := es) hw, ⟨?_⟩, ?_⟩
    · rfl
    cbv
    refine ⟨fun h2 => ?_, fun h2 => ?_⟩
    · have h2 : (1008 : Int) < 2 + sizeL leaf es := of_decide_eq_true h2
      have e1 : (91 : Int) = checkI leaf es := by rw [e0, if_pos h2]
      cbv
      refine ⟨[], [], ?_⟩
      cbv
      exact ⟨⟨e1⟩, ⟨rfl⟩⟩
    · have h2 : ¬ (1008 : Int) < 2 + sizeL leaf es := of_decide_eq_false h2
      have e1 : (0 : Int) = checkI leaf es := by rw [e0, if_neg h2]
      cbv
      refine ⟨[], [], ?_⟩
      cbv
      exact ⟨⟨e1⟩, ⟨rfl⟩⟩

end Go.Proofs.Ytmdfjipjkkjpcaa

/- The reference's Encode. -/
namespace Go.Proofs.Ytmdfjipjkkjpcaa
open Go.SX

set_option maxRecDepth 20000 in
set_option maxHeartbeats 1000000 in
theorem con45 {bs : List UInt8} {n m : Nat} (hn : n < 18446744073709551616) (hm : m ≤ 8) (hl : bs.length < 1000000000000) :
    Con 45 [.own 1000, .int .u64 (.s fun _ => (n : Int)), .int .i64 (.s fun _ => (m : Int))] [(1000, .barr 5 fun _ => bs)] (.own 2000) [(1000, .dead), (2000, .barr 5 fun _ => bs ++ lowB n m)] := by
  refine con_of Try.func45 rfl rfl 22 _ rfl rfl rfl rfl ?_
  cbv
  refine ⟨Nat, [500], fun i => [(0, .own 500), (1, .int .u64 (.s fun _ => (lowN n i : Int))), (7, .int .i64 (.s fun _ => (i : Int)))], fun i => [(1000, .dead), (500, .barr 5 fun _ => bs ++ lowB n i)],
    fun i => i ≤ m, fun i => m - i, 0, [(500, some 1000)], Nat.zero_le _, ⟨?_⟩, fun i hi => ?_⟩
  · cbv
    exact ⟨⟨⟨rfl⟩, ⟨rfl⟩, trivial⟩, ⟨⟨(List.append_nil bs).symm⟩, trivial⟩, ⟨rfl⟩⟩
  · have hi : i ≤ m := hi
    have hlen := lowB_length i n
    cbv
    refine And.intro ?_ ?_
    · intro h1
      have h1 : (i : Int) < (m : Int) := of_decide_eq_true h1
      have hlt : i < m := by omega
      have b2 : bound64 ((i : Int) + 1) := by unfold bound64; omega
      have b1 : lenOk ((bs ++ lowB n i).length + 1) 1 := by unfold lenOk; simp only [List.length_append, hlen]; omega
      have e4 : (i : Int) + 1 = ((i + 1 : Nat) : Int) := by omega
      have d0 : ¬ (256 : Int) = 0 := by decide
      have tm : (lowN n i : Int).tmod 256 = ((lowN n i % 256 : Nat) : Int) := by rw [Int.tmod_eq_emod_of_nonneg (by omega)]; omega
      have b0 := u8_range ((lowN n i : Int).tmod 256)
      have e1 : UInt8.ofNat (IntKind.u8.wrap ((lowN n i : Int).tmod 256)).toNat = UInt8.ofNat (lowN n i) := by
        rw [tm, u8_wrap]; apply UInt8.toNat.inj; simp only [UInt8.toNat_ofNat']; omega
      have e2 := lowB_succ i n
      have e3 : IntKind.u64.wrap ((lowN n i : Int).tdiv 256) = ((lowN n (i + 1) : Nat) : Int) := by
        have := lowN_le i n
        rw [lowN_succ, IntKind.wrap_u64, Int.tdiv_eq_ediv_of_nonneg (by omega)]; omega
      have e5 : (bs ++ lowB n i) ++ [UInt8.ofNat (IntKind.u8.wrap ((lowN n i : Int).tmod 256)).toNat] = bs ++ lowB n (i + 1) := by rw [e1, e2, List.append_assoc]
      have hms : m - (i + 1) < m - i := by omega
      have hlt : i + 1 ≤ m := hlt
      clear h1 tm
      cbv
      refine ⟨⟨d0⟩, ⟨⟨b0, trivial⟩, b1⟩, ⟨d0⟩, ⟨b2⟩, i + 1, [(500, some 18)], hlt, hms, ⟨?_⟩, ⟨?_⟩⟩
      · kernel_rfl
      · cbv
        and_intros
        all_goals first | exact trivial | exact ⟨rfl⟩ | exact ⟨e3⟩ | exact ⟨e4⟩ | exact ⟨e5⟩ | exact ⟨by kernel_rfl⟩
    · intro h1
      have h1 : ¬ ((i : Int) < (m : Int)) := of_decide_eq_false h1
      have hle : i = m := by omega
      subst hle
      cbv
      refine ⟨[(2000, some 500)], [], ?_⟩
      cbv
      exact ⟨⟨⟨rfl⟩, trivial⟩, ⟨rfl⟩⟩
set_option maxRecDepth 20000 in
set_option maxHeartbeats 1000000 in
theorem con45n {n m : Nat} (hn : n < 18446744073709551616) (hm : m ≤ 8) :
    Con 45 [.nil, .int .u64 (.s fun _ => (n : Int)), .int .i64 (.s fun _ => (m : Int))] [] (.own 2000) [(2000, .barr 5 fun _ => lowB n m)] := by
  refine con_of Try.func45 rfl rfl 22 _ rfl rfl rfl rfl ?_
  cbv
  refine ⟨Nat, [500], fun i => [(0, .own 500), (1, .int .u64 (.s fun _ => (lowN n i : Int))), (7, .int .i64 (.s fun _ => (i : Int)))], fun i => [(500, .barr 5 fun _ => lowB n i)],
    fun i => i ≤ m, fun i => m - i, 0, [(500, none)], Nat.zero_le _, ⟨?_⟩, fun i hi => ?_⟩
  · cbv
    exact ⟨⟨⟨rfl⟩, ⟨rfl⟩, trivial⟩, ⟨⟨rfl⟩, trivial⟩, ⟨rfl⟩⟩
  · have hi : i ≤ m := hi
    have hlen := lowB_length i n
    cbv
    refine And.intro ?_ ?_
    · intro h1
      have h1 : (i : Int) < (m : Int) := of_decide_eq_true h1
      have hlt : i < m := by omega
      have b2 : bound64 ((i : Int) + 1) := by unfold bound64; omega
      have b1 : lenOk ((lowB n i).length + 1) 1 := by unfold lenOk; rw [hlen]; omega
      have e4 : (i : Int) + 1 = ((i + 1 : Nat) : Int) := by omega
      have d0 : ¬ (256 : Int) = 0 := by decide
      have tm : (lowN n i : Int).tmod 256 = ((lowN n i % 256 : Nat) : Int) := by rw [Int.tmod_eq_emod_of_nonneg (by omega)]; omega
      have b0 := u8_range ((lowN n i : Int).tmod 256)
      have e1 : UInt8.ofNat (IntKind.u8.wrap ((lowN n i : Int).tmod 256)).toNat = UInt8.ofNat (lowN n i) := by
        rw [tm, u8_wrap]; apply UInt8.toNat.inj; simp only [UInt8.toNat_ofNat']; omega
      have e2 := lowB_succ i n
      have e3 : IntKind.u64.wrap ((lowN n i : Int).tdiv 256) = ((lowN n (i + 1) : Nat) : Int) := by
        have := lowN_le i n
        rw [lowN_succ, IntKind.wrap_u64, Int.tdiv_eq_ediv_of_nonneg (by omega)]; omega
      have e5 : lowB n i ++ [UInt8.ofNat (IntKind.u8.wrap ((lowN n i : Int).tmod 256)).toNat] = lowB n (i + 1) := by rw [e1, e2]
      have hms : m - (i + 1) < m - i := by omega
      have hlt : i + 1 ≤ m := hlt
      clear h1 tm
      cbv
      refine ⟨⟨d0⟩, ⟨⟨b0, trivial⟩, b1⟩, ⟨d0⟩, ⟨b2⟩, i + 1, [(500, some 18)], hlt, hms, ⟨?_⟩, ⟨?_⟩⟩
      · kernel_rfl
      · cbv
        and_intros
        all_goals first | exact trivial | exact ⟨rfl⟩ | exact ⟨e3⟩ | exact ⟨e4⟩ | exact ⟨e5⟩ | exact ⟨by kernel_rfl⟩
    · intro h1
      have h1 : ¬ ((i : Int) < (m : Int)) := of_decide_eq_false h1
      have hle : i = m := by omega
      subst hle
      cbv
      refine ⟨[(2000, some 500)], [], ?_⟩
      cbv
      exact ⟨⟨⟨rfl⟩, trivial⟩, ⟨rfl⟩⟩

theorem con45l {bs : List UInt8} {z : Int} (hz : 0 ≤ z ∧ z < 4294967296) (hl : bs.length < 1000000000000) :
    Con 45 [.own 1000, .int .u64 (.s fun _ => IntKind.u64.wrap z), .int .i64 (.l 4)] [(1000, .barr 5 fun _ => bs)] (.own 2000) [(1000, .dead), (2000, .barr 5 fun _ => bs ++ lowB z.toNat 4)] := by
  obtain ⟨n, rfl⟩ := Int.eq_ofNat_of_zero_le hz.1
  have e : IntKind.u64.wrap (n : Int) = (n : Int) := by rw [IntKind.wrap_u64]; omega
  rw [e]
  exact Con.lit (a := [.own 1000, .int .u64 (.s fun _ => (n : Int))]) (con45 (m := 4) (by omega) (by decide) hl)
theorem con45nl {z : Int} (hz : 0 ≤ z ∧ z < 18446744073709551616) : Con 45 [.nil, .int .u64 (.s fun _ => IntKind.u64.wrap z), .int .i64 (.l 2)] [] (.own 2000) [(2000, .barr 5 fun _ => lowB z.toNat 2)] := by
  obtain ⟨n, rfl⟩ := Int.eq_ofNat_of_zero_le hz.1
  have e : IntKind.u64.wrap (n : Int) = (n : Int) := by rw [IntKind.wrap_u64]; omega
  rw [e]
  exact Con.lit (a := [.nil, .int .u64 (.s fun _ => (n : Int))]) (con45n (m := 2) (by omega) (by decide))
end Go.Proofs.Ytmdfjipjkkjpcaa

/- NodeReads: the reference's Encode, its result own in both cases. -/
namespace Go.Proofs.Ytmdfjipjkkjpcaa
open Go.SX

set_option maxRecDepth 20000 in
set_option maxHeartbeats 1000000 in
theorem con17o {leaf : Bool} {es : List Ent} (hp : ∀ e ∈ es, EntOk e) (hw : weight es + 20 * es.length < 1000000000000) :
    Con 17 [nodeSV leaf es] [] (.tup [.own 2000, .int .u16 (.s fun _ => checkI leaf es)]) [(2000, .barr 5 fun _ => encB leaf es)] := by
  refine con_of Try.func17 rfl rfl 79 _ rfl rfl rfl rfl ?_
  cbv
  refine ⟨_, _, con20 (leaf := leaf) (es := es) hw, ⟨?_⟩, ?_⟩
  · rfl
  cbv
  refine And.intro ?_ ?_
  · intro h1
    have h1 : ¬ checkI leaf es = 0 := of_decide_eq_false (bnot_t h1)
    have e1 : encB leaf es = [] := by unfold encB; rw [if_neg h1]
    clear h1
    cbv
    refine ⟨[(2000, none)], [], ?_⟩
    cbv
    and_intros
    all_goals first | exact trivial | exact ⟨rfl⟩ | exact ⟨e1⟩ | exact ⟨e1.symm⟩ | exact ⟨by kernel_rfl⟩
  · intro h1
    have h1 : checkI leaf es = 0 := of_decide_eq_true (bnot_f h1)
    obtain ⟨hm, hs⟩ := checkI_ok h1
    have hl := sizeL_len leaf es
    have w2 : 0 ≤ (es.length : Int) ∧ (es.length : Int) < 18446744073709551616 := by omega
    have e0 : lowB (es.length : Int).toNat 2 = encTo leaf es 0 := by rw [Int.toNat_natCast]; simp [encTo, entsB]
    have c0 := con45nl w2
    rw [e0] at c0
    clear e0
    cbv
    refine ⟨_, _, c0, ⟨?_⟩, ?_⟩
    · rfl
    cbv
    refine ⟨Nat, [500], fun i => [(5, .own 500), (6, .int .i64 (.s fun _ => (i : Int)))], fun i => [(1, .cells 24 [.bool (.s fun _ => leaf), .dat (entsDV es)]), (500, .barr 5 fun _ => encTo leaf es i)],
      fun i => i ≤ es.length, fun i => es.length - i, 0, [(500, some 4700)], Nat.zero_le _, ⟨?_⟩, fun i hi => ?_⟩
    · cbv
      and_intros
      all_goals first | exact trivial | exact ⟨rfl⟩ | exact ⟨rfl, fun _ _ _ _ => rfl⟩ | exact ⟨by kernel_rfl⟩
    · have hi : i ≤ es.length := hi
      cbv
      refine And.intro ?_ ?_
      · intro h2
        have h2 : (i : Int) < (es.length : Int) := of_decide_eq_true h2
        have hlt : i < es.length := by omega
        have o1 : indexObl (i : Int) es.length := ⟨by omega, h2⟩
        have hE := entOk_at hp hlt
        have hL := encTo_length (i := i) hs
        have hN := encTo_next (leaf := leaf) hlt
        have hL' := encTo_length (i := i + 1) hs
        have hB := entB_length leaf (es.getD i default)
        rw [hN, List.length_append] at hL'
        have b0 := u8_range ((es.getD i default).key.length : Int)
        have b1 : lenOk ((encTo leaf es i).length + 1) 1 := by unfold lenOk; omega
        have b2 : lenOk ((encTo leaf es i ++ [UInt8.ofNat (IntKind.u8.wrap ((es.getD i default).key.length : Int)).toNat]).length + (es.getD i default).key.length) 1 := by
          have : (es.getD i default).key.length < (entB leaf (es.getD i default)).length := by unfold entB; simp only [List.length_cons, List.length_append]; omega
          unfold lenOk; simp only [List.length_append, List.length_cons, List.length_nil]; omega
        have l1 : (encTo leaf es i ++ [UInt8.ofNat (IntKind.u8.wrap ((es.getD i default).key.length : Int)).toNat] ++ (es.getD i default).key).length ≤ 4000 := by
          have : (es.getD i default).key.length < (entB leaf (es.getD i default)).length := by unfold entB; simp only [List.length_cons, List.length_append]; omega
          simp only [List.length_append, List.length_cons, List.length_nil]; omega
        have bi : bound64 ((i : Int) + 1) := by unfold bound64; omega
        have ei : (i : Int) + 1 = ((i + 1 : Nat) : Int) := by omega
        have hms : es.length - (i + 1) < es.length - i := by omega
        have hltS : i + 1 ≤ es.length := hlt
        clear h2
        cbv
        refine ⟨⟨o1⟩, ?_⟩
        cbv
        refine ⟨⟨⟨b0, trivial⟩, b1⟩, ?_⟩
        cbv
        refine ⟨⟨trivial, b2⟩, ?_⟩
        cbv
        refine And.intro ?_ ?_
        · intro h3
          have h3 : leaf = false := bnot_t h3
          have e5 := (enc_page (encTo leaf es i) (e := es.getD i default) h3).trans hN.symm
          have cp := con45l (bs := encTo leaf es i ++ [UInt8.ofNat (IntKind.u8.wrap ((es.getD i default).key.length : Int)).toNat] ++ (es.getD i default).key) hE.1 (Nat.lt_of_le_of_lt l1 (by decide))
          cbv
          refine ⟨_, _, cp, ⟨?_⟩, ?_⟩
          · kernel_rfl
          cbv
          refine ⟨⟨bi⟩, i + 1, [(500, some 9200)], hltS, hms, ⟨?_⟩, ⟨?_⟩⟩
          · kernel_rfl
          · cbv
            and_intros
            all_goals first | exact trivial | exact ⟨rfl⟩ | exact ⟨ei⟩ | exact ⟨e5⟩ | exact ⟨e5.symm⟩ | exact ⟨rfl, fun _ _ _ _ => rfl⟩ | exact ⟨by kernel_rfl⟩
        · intro h3
          have h3 : leaf = true := bnot_f h3
          cbv
          refine And.intro ?_ ?_
          · intro h4
            have h4 : (es.getD i default).page = 0 := of_decide_eq_true h4
            have e5 := (enc_val (encTo leaf es i) (e := es.getD i default) h3 h4).trans hN.symm
            have b3 := u8_range ((es.getD i default).val.length : Int)
            have lE : 2 + (es.getD i default).key.length + (es.getD i default).val.length = (entB leaf (es.getD i default)).length := by
              unfold entB; simp only [h3, h4, if_true, List.length_cons, List.length_append]; omega
            have b4 : lenOk ((encTo leaf es i ++ [UInt8.ofNat (IntKind.u8.wrap ((es.getD i default).key.length : Int)).toNat] ++ (es.getD i default).key).length + 1) 1 := len1 l1
            have lV : (es.getD i default).val.length ≤ 1008 := by omega
            have b5 : lenOk ((encTo leaf es i ++ [UInt8.ofNat (IntKind.u8.wrap ((es.getD i default).key.length : Int)).toNat] ++ (es.getD i default).key ++ [UInt8.ofNat (IntKind.u8.wrap ((es.getD i default).val.length : Int)).toNat]).length + (es.getD i default).val.length) 1 := len4 l1 lV
            cbv
            refine ⟨⟨⟨b3, trivial⟩, b4⟩, ?_⟩
            cbv
            refine ⟨⟨trivial, b5⟩, ?_⟩
            cbv
            refine ⟨⟨bi⟩, i + 1, [(500, some 77)], hltS, hms, ⟨?_⟩, ⟨?_⟩⟩
            · kernel_rfl
            · cbv
              and_intros
              all_goals first | exact trivial | exact ⟨rfl⟩ | exact ⟨ei⟩ | exact ⟨e5⟩ | exact ⟨e5.symm⟩ | exact ⟨rfl, fun _ _ _ _ => rfl⟩ | exact ⟨by kernel_rfl⟩
          · intro h4
            have h4 : ¬ (es.getD i default).page = 0 := of_decide_eq_false h4
            have e5 := (enc_big (encTo leaf es i) (e := es.getD i default) h3 h4).trans hN.symm
            have b3 : (0 : Int) ≤ 255 ∧ (255 : Int) < 256 := by decide
            have b4 : lenOk ((encTo leaf es i ++ [UInt8.ofNat (IntKind.u8.wrap ((es.getD i default).key.length : Int)).toNat] ++ (es.getD i default).key).length + 1) 1 := len1 l1
            have l2 : (encTo leaf es i ++ [UInt8.ofNat (IntKind.u8.wrap ((es.getD i default).key.length : Int)).toNat] ++ (es.getD i default).key ++ [UInt8.ofNat (255 : Int).toNat]).length ≤ 5000 := len2 l1
            have l3 : (encTo leaf es i ++ [UInt8.ofNat (IntKind.u8.wrap ((es.getD i default).key.length : Int)).toNat] ++ (es.getD i default).key ++ [UInt8.ofNat (255 : Int).toNat] ++ lowB (es.getD i default).size.toNat 4).length ≤ 6000 := len3 l2
            have cs := con45l hE.2 (Nat.lt_of_le_of_lt l2 (by decide))
            have cp := con45l hE.1 (Nat.lt_of_le_of_lt l3 (by decide))
            cbv
            refine ⟨⟨⟨b3, trivial⟩, b4⟩, ?_⟩
            cbv
            refine ⟨_, _, cs, ⟨?_⟩, ?_⟩
            · kernel_rfl
            cbv
            refine ⟨_, _, cp, ⟨?_⟩, ?_⟩
            · kernel_rfl
            cbv
            refine ⟨⟨bi⟩, i + 1, [(500, some 8300)], hltS, hms, ⟨?_⟩, ⟨?_⟩⟩
            · kernel_rfl
            · cbv
              and_intros
              all_goals first | exact trivial | exact ⟨rfl⟩ | exact ⟨ei⟩ | exact ⟨e5⟩ | exact ⟨e5.symm⟩ | exact ⟨rfl, fun _ _ _ _ => rfl⟩ | exact ⟨by kernel_rfl⟩
      · intro h2
        have h2 : ¬ ((i : Int) < (es.length : Int)) := of_decide_eq_false h2
        have hle : i = es.length := by omega
        subst hle
        have e1 : encTo leaf es es.length = encB leaf es := by unfold encB encTo nodeB; rw [if_pos h1, List.take_length]
        clear h2
        cbv
        refine ⟨[(2000, some 500)], [], ?_⟩
        cbv
        and_intros
        all_goals first | exact trivial | exact ⟨rfl⟩ | exact ⟨e1⟩ | exact ⟨e1.symm⟩ | exact ⟨h1.symm⟩ | exact ⟨by kernel_rfl⟩
end Go.Proofs.Ytmdfjipjkkjpcaa

