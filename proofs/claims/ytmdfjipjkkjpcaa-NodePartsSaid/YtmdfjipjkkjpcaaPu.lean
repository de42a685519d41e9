/- Node laws: Put, Drop, Halves, Join. -/
import Derived.Test.YtmdfjipjkkjpcaaNu
namespace Go.Proofs.Ytmdfjipjkkjpcaa
open Go.SX

theorem Con.res {f : Nat} {svs : List SV} {objs : Objs} {r r' : SV} {objs' : Objs} (h : Con f svs objs r objs') (hr : ∀ (η : OEnv) (G : Nat → Prop) (w : World) (v : Value), SVRel η G w r v → SVRel η G w r' v) : Con f svs objs r' objs' :=
  ⟨fun η G vs w h1 h2 h3 => (h.spec η G vs w h1 h2 h3).mono fun _ _ ⟨η', G', hv, h⟩ => ⟨η', G', hr _ _ _ _ hv, h⟩⟩
theorem Con.yes {f : Nat} {svs : List SV} {objs : Objs} {b : Bool} {objs' : Objs} (h : Con f svs objs (.bool (.s fun _ => b)) objs') (hb : b = true) : Con f svs objs (.bool .t) objs' := by
  subst hb; exact h.res fun _ _ _ _ h => by simpa [SVRel, BE.den] using h
theorem Con.yes2 {f : Nat} {svs : List SV} {objs : Objs} {s : SV} {b : Bool} {objs' : Objs} (h : Con f svs objs (.tup [s, .bool (.s fun _ => b)]) objs') (hb : b = true) : Con f svs objs (.tup [s, .bool .t]) objs' := by
  subst hb; exact h.res fun _ _ _ v h => by
    obtain ⟨vs, rfl, h⟩ := h
    match vs, h with
    | [v1, v2], h => exact ⟨_, rfl, h.1, h.2.1, trivial⟩
    | [], h => exact h.elim
    | [_], h => exact h.2.elim
    | _ :: _ :: _ :: _, h => exact h.2.2.elim
theorem Con.no2 {f : Nat} {svs : List SV} {objs : Objs} {s : SV} {b : Bool} {objs' : Objs} (h : Con f svs objs (.tup [s, .bool (.s fun _ => b)]) objs') (hb : b = false) : Con f svs objs (.tup [s, .bool .f]) objs' := by
  subst hb; exact h.res fun _ _ _ v h => by
    obtain ⟨vs, rfl, h⟩ := h
    match vs, h with
    | [v1, v2], h => exact ⟨_, rfl, h.1, h.2.1, trivial⟩
    | [], h => exact h.elim
    | [_], h => exact h.2.elim
    | _ :: _ :: _ :: _, h => exact h.2.2.elim

def putL (es : List Ent) (e : Ent) : List Ent :=
  es.take (placeI (geP e.key) es) ++ ([e] ++ es.drop (if placeI (geP e.key) es < es.length ∧ (es.getD (placeI (geP e.key) es) default).key = e.key then placeI (geP e.key) es + 1 else placeI (geP e.key) es))

theorem rep_one (e : Ent) : RepE (.sl 4 (fun _ => 1) (litRow 4 (dvsE e))) [e] := rep_row (by simp) fun i hi j hj => by
  have hi0 : i = 0 := by omega
  subst hi0
  match j, hj with
  | 0, _ => rfl
  | 1, _ => rfl
  | 2, _ => rfl
  | 3, _ => rfl
  | j + 4, h => omega

theorem con82_3 {leaf : Bool} {A B C : DV} {a b c : List Ent} (hA : RepE A a) (hB : RepE B b) (hC : RepE C c) (ha : ∀ e ∈ a, SmallE e) (hb : ∀ e ∈ b, SmallE e) (hc : ∀ e ∈ c, SmallE e) (hl : [a, b, c].flatten.length < 1000000000000) :
    Con 82 [.bool (.s fun _ => leaf), .dat (.sl 1 (fun _ => 3) (litRow 1 [A, B, C]))] [] (.agg [.bool (.s fun _ => leaf), .own 2000])
      [(2000, .arrD 74 4 (fun _ => [a, b, c].flatten.length) (lrow encE fun _ => [a, b, c].flatten))] := by
  have h := con82 (leaf := leaf) (ls := [a, b, c]) (by
    intro x hx
    simp only [List.mem_cons, List.not_mem_nil, or_false] at hx
    rcases hx with rfl | rfl | rfl
    · exact ha
    · exact hb
    · exact hc) hl (by simp)
  refine h.args fun η G w vs hv => ?_
  match vs, hv with
  | [v1, v2], hv =>
    obtain ⟨h1, h2, -⟩ := hv
    refine ⟨h1, ?_, trivial⟩
    simp only [SVRel, DVRel] at h2 ⊢
    obtain ⟨p, cp, rfl, hcp, hr⟩ := h2
    refine ⟨p, cp, rfl, hcp, fun i hi => ?_⟩
    obtain ⟨b, o, hb, hG, hj⟩ := hr i hi
    refine ⟨b, o, hb, hG, fun j hj' => ?_⟩
    obtain ⟨u, hu, hd⟩ := hj j hj'
    refine ⟨u, hu, ?_⟩
    have hj0 : j = 0 := by omega
    subst hj0
    match i, hi with
    | 0, _ => exact hA w G u hd
    | 1, _ => exact hB w G u hd
    | 2, _ => exact hC w G u hd
    | i + 3, h => simp at h; omega
  | [], hv => exact hv.elim
  | [_], hv => exact hv.2.elim
  | _ :: _ :: _ :: _, hv => exact hv.2.2.elim

set_option maxRecDepth 20000 in
set_option maxHeartbeats 4000000 in
theorem con32 {leaf : Bool} {es : List Ent} {e : Ent} (hs : ∀ e ∈ es, SmallE e) (he : SmallE e) (hl : es.length < 100000000000) :
    Con 32 [nodeSV leaf es, entSV e] [] (.agg [.bool (.s fun _ => leaf), .own 2000]) [(2000, .arrD 74 4 (fun _ => (putL es e).length) (lrow encE fun _ => putL es e))] := by
  have hk := placeI_le (p := geP e.key) (es := es)
  have ca := con77_81 (e := e) (leaf := leaf) (es := es) (by omega)
  have hput : putL es e = es.take (placeI (geP e.key) es) ++ ([e] ++ es.drop (if placeI (geP e.key) es < es.length ∧ (es.getD (placeI (geP e.key) es) default).key = e.key then placeI (geP e.key) es + 1 else placeI (geP e.key) es)) := rfl
  obtain ⟨k, hk0⟩ : ∃ k, k = placeI (geP e.key) es := ⟨_, rfl⟩
  rw [← hk0] at hk ca hput
  obtain ⟨R, hR⟩ : ∃ R, R = putL es e := ⟨_, rfl⟩
  rw [← hR] at hput ⊢
  have hRl : R.length ≤ es.length + 1 := by
    rw [hput]; simp only [List.length_append, List.length_take, List.length_drop, List.length_cons, List.length_nil]; split <;> omega
  have hlp : R.length < 1000000000000 := by omega
  have hput1 : k < es.length → (es.getD k default).key = e.key → [es.take k, [e], es.drop (k + 1)].flatten = R := fun h h2 => by rw [hput, if_pos ⟨h, h2⟩]; simp
  have hput0 : (k < es.length → ¬ (es.getD k default).key = e.key) → [es.take k, [e], es.drop k].flatten = R := fun h => by rw [hput, if_neg (fun hc => h hc.1 hc.2)]; simp
  have so1 : sliceObl 0 (k : Int) es.length := ⟨by omega, by omega, by omega⟩
  have so2 : sliceObl (k : Int) (es.length : Int) es.length := ⟨by omega, by omega, by omega⟩
  have ra : RepE (.sl 4 (fun _ => (k : Int).toNat - 0) (subRow (lrow encE fun _ => es) fun _ => 0)) (es.take k) := rep_sub (by simp) (by omega)
  have rb : RepE (.sl 4 (fun _ => (es.length : Int).toNat - (k : Int).toNat) (subRow (lrow encE fun _ => es) fun _ => (k : Int).toNat)) (es.drop k) := rep_sub (a := es) (b := es.drop k) (l := k) (h := es.length) (by rw [List.take_of_length_le (by simp)]) (Nat.le_refl _)
  have rone := rep_one e
  have sa : ∀ x ∈ es.take k, SmallE x := fun x hx => hs x (List.mem_of_mem_take hx)
  have sb : ∀ x ∈ es.drop k, SmallE x := fun x hx => hs x (List.mem_of_mem_drop hx)
  have sc : ∀ x ∈ es.drop (k + 1), SmallE x := fun x hx => hs x (List.mem_of_mem_drop hx)
  have so : ∀ x ∈ [e], SmallE x := fun x hx => by rw [List.mem_singleton] at hx; rw [hx]; exact he
  refine con_of Try.func32 rfl rfl 43 _ rfl rfl rfl rfl ?_
  cbv
  refine ⟨_, _, ca, ⟨?_⟩, ?_⟩
  · kernel_rfl
  cbv
  refine ⟨fun h1 => ?_, fun h1 => ?_⟩
  · have h1 : (k : Int) < (es.length : Int) := of_decide_eq_true h1
    have hlt : k < es.length := by omega
    have o1 : indexObl (k : Int) es.length := ⟨by omega, h1⟩
    have bk : bound64 ((k : Int) + 1) := by unfold bound64; omega
    have so3 : sliceObl ((k : Int) + 1) (es.length : Int) es.length := ⟨by omega, by omega, by omega⟩
    have rc : RepE (.sl 4 (fun _ => (es.length : Int).toNat - ((k : Int) + 1).toNat) (subRow (lrow encE fun _ => es) fun _ => ((k : Int) + 1).toNat)) (es.drop (k + 1)) := rep_sub (a := es) (b := es.drop (k + 1)) (l := k + 1) (h := es.length) (by rw [List.take_of_length_le (by simp)]) (Nat.le_refl _)
    clear h1
    cbv
    refine ⟨⟨o1⟩, _, _, con73, ⟨?_⟩, ?_⟩
    · kernel_rfl
    cbv
    refine ⟨⟨by kernel_rfl⟩, ?_⟩
    cbv
    refine ⟨fun h2 => ?_, fun h2 => ?_⟩
    · have h2 : (es.getD k default).key = e.key := of_decide_eq_true h2
      have fl := hput1 hlt h2
      clear h2
      cbv
      refine ⟨⟨bk⟩, ?_⟩
      cbv
      refine ⟨⟨so1⟩, ⟨so3⟩, ?_⟩
      cbv
      refine ⟨_, _, con82_3 (leaf := leaf) ra rone rc sa so sc (by rw [fl]; exact hlp), ⟨?_⟩, ?_⟩
      · kernel_rfl
      cbv
      refine ⟨⟨by kernel_rfl⟩, ?_⟩
      cbv
      refine ⟨[(2000, some 7200)], [], ?_⟩
      cbv
      and_intros
      all_goals first | exact trivial | exact ⟨rfl⟩ | exact ⟨row_le fl⟩ | exact ⟨by kernel_rfl⟩
    · have h2 : ¬ (es.getD k default).key = e.key := of_decide_eq_false h2
      have fl := hput0 (fun _ => h2)
      clear h2
      cbv
      refine ⟨⟨so1⟩, ⟨so2⟩, ?_⟩
      cbv
      refine ⟨_, _, con82_3 (leaf := leaf) ra rone rb sa so sb (by rw [fl]; exact hlp), ⟨?_⟩, ?_⟩
      · kernel_rfl
      cbv
      refine ⟨⟨by kernel_rfl⟩, ?_⟩
      cbv
      refine ⟨[(2000, some 7200)], [], ?_⟩
      cbv
      and_intros
      all_goals first | exact trivial | exact ⟨rfl⟩ | exact ⟨row_le fl⟩ | exact ⟨by kernel_rfl⟩
  · have h1 : ¬ (k : Int) < (es.length : Int) := of_decide_eq_false h1
    have fl := hput0 (fun h => absurd h (by omega))
    clear h1
    cbv
    refine ⟨⟨by kernel_rfl⟩, ?_⟩
    cbv
    refine ⟨⟨so1⟩, ⟨so2⟩, ?_⟩
    cbv
    refine ⟨_, _, con82_3 (leaf := leaf) ra rone rb sa so sb (by rw [fl]; exact hlp), ⟨?_⟩, ?_⟩
    · kernel_rfl
    cbv
    refine ⟨⟨by kernel_rfl⟩, ?_⟩
    cbv
    refine ⟨[(2000, some 7200)], [], ?_⟩
    cbv
    and_intros
    all_goals first | exact trivial | exact ⟨rfl⟩ | exact ⟨row_le fl⟩ | exact ⟨by kernel_rfl⟩


def dropL (es : List Ent) (key : List UInt8) : List Ent :=
  es.take (placeI (geP key) es) ++ es.drop (if placeI (geP key) es < es.length ∧ (es.getD (placeI (geP key) es) default).key = key then placeI (geP key) es + 1 else placeI (geP key) es)
def wasB (es : List Ent) (key : List UInt8) : Bool := decide (placeI (geP key) es < es.length ∧ (es.getD (placeI (geP key) es) default).key = key)



theorem con82_2 {leaf : Bool} {A B : DV} {a b : List Ent} (hA : RepE A a) (hB : RepE B b) (ha : ∀ e ∈ a, SmallE e) (hb : ∀ e ∈ b, SmallE e) (hl : [a, b].flatten.length < 1000000000000) :
    Con 82 [.bool (.s fun _ => leaf), .dat (.sl 1 (fun _ => 2) (litRow 1 [A, B]))] [] (.agg [.bool (.s fun _ => leaf), .own 2000])
      [(2000, .arrD 74 4 (fun _ => [a, b].flatten.length) (lrow encE fun _ => [a, b].flatten))] := by
  have h := con82 (leaf := leaf) (ls := [a, b]) (by
    intro x hx
    simp only [List.mem_cons, List.not_mem_nil, or_false] at hx
    rcases hx with rfl | rfl
    · exact ha
    · exact hb) hl (by simp)
  refine h.args fun η G w vs hv => ?_
  match vs, hv with
  | [v1, v2], hv =>
    obtain ⟨h1, h2, -⟩ := hv
    refine ⟨h1, ?_, trivial⟩
    simp only [SVRel, DVRel] at h2 ⊢
    obtain ⟨p, cp, rfl, hcp, hr⟩ := h2
    refine ⟨p, cp, rfl, hcp, fun i hi => ?_⟩
    obtain ⟨b, o, hb, hG, hj⟩ := hr i hi
    refine ⟨b, o, hb, hG, fun j hj' => ?_⟩
    obtain ⟨u, hu, hd⟩ := hj j hj'
    refine ⟨u, hu, ?_⟩
    have hj0 : j = 0 := by omega
    subst hj0
    match i, hi with
    | 0, _ => exact hA w G u hd
    | 1, _ => exact hB w G u hd
    | i + 2, h => simp at h; omega
  | [], hv => exact hv.elim
  | [_], hv => exact hv.2.elim
  | _ :: _ :: _ :: _, hv => exact hv.2.2.elim

set_option maxRecDepth 20000 in
set_option maxHeartbeats 4000000 in
theorem con34 {leaf : Bool} {es : List Ent} {key : List UInt8} (hs : ∀ e ∈ es, SmallE e) (hl : es.length < 100000000000) :
    Con 34 [nodeSV leaf es, .dat (.bytes fun _ => key)] [] (.tup [.agg [.bool (.s fun _ => leaf), .own 2000], .bool (.s fun _ => wasB es key)]) [(2000, .arrD 74 4 (fun _ => (dropL es key).length) (lrow encE fun _ => dropL es key))] := by
  have hk := placeI_le (p := geP key) (es := es)
  have ca := con77_83 (key := key) (leaf := leaf) (es := es) (by omega)
  have hdr : dropL es key = es.take (placeI (geP key) es) ++ es.drop (if placeI (geP key) es < es.length ∧ (es.getD (placeI (geP key) es) default).key = key then placeI (geP key) es + 1 else placeI (geP key) es) := rfl
  have hwb : wasB es key = decide (placeI (geP key) es < es.length ∧ (es.getD (placeI (geP key) es) default).key = key) := rfl
  obtain ⟨k, hk0⟩ : ∃ k, k = placeI (geP key) es := ⟨_, rfl⟩
  rw [← hk0] at hk ca hdr hwb
  obtain ⟨R, hR⟩ : ∃ R, R = dropL es key := ⟨_, rfl⟩
  obtain ⟨wb, hw⟩ : ∃ wb, wb = wasB es key := ⟨_, rfl⟩
  rw [← hR] at hdr ⊢
  rw [← hw] at hwb ⊢
  have hRl : R.length ≤ es.length := by
    rw [hdr]; simp only [List.length_append, List.length_take, List.length_drop]; split <;> omega
  have hlp : R.length < 1000000000000 := by omega
  have hput1 : (k < es.length ∧ (es.getD k default).key = key) → [es.take k, es.drop (k + 1)].flatten = R := fun h => by rw [hdr, if_pos h]; simp
  have hput0 : ¬ (k < es.length ∧ (es.getD k default).key = key) → es = R := fun h => by rw [hdr, if_neg h]; simp
  have hwas1 : (k < es.length ∧ (es.getD k default).key = key) → true = wb := fun h => by rw [hwb, decide_eq_true h]
  have hwas0 : ¬ (k < es.length ∧ (es.getD k default).key = key) → false = wb := fun h => by rw [hwb, decide_eq_false h]
  have so1 : sliceObl 0 (k : Int) es.length := ⟨by omega, by omega, by omega⟩
  have ra : RepE (.sl 4 (fun _ => (k : Int).toNat - 0) (subRow (lrow encE fun _ => es) fun _ => 0)) (es.take k) := rep_sub (by simp) (by omega)
  have sa : ∀ x ∈ es.take k, SmallE x := fun x hx => hs x (List.mem_of_mem_take hx)
  have sc : ∀ x ∈ es.drop (k + 1), SmallE x := fun x hx => hs x (List.mem_of_mem_drop hx)
  refine con_of Try.func34 rfl rfl 45 _ rfl rfl rfl rfl ?_
  cbv
  refine ⟨_, _, ca, ⟨?_⟩, ?_⟩
  · kernel_rfl
  cbv
  refine ⟨fun h1 => ?_, fun h1 => ?_⟩
  · have h1 : (k : Int) = (es.length : Int) := of_decide_eq_true h1
    have hn : ¬ (k < es.length ∧ (es.getD k default).key = key) := fun h => by omega
    have fl := hput0 hn
    have ew := hwas0 hn
    clear h1
    cbv
    refine ⟨⟨by kernel_rfl⟩, ?_⟩
    cbv
    refine ⟨_, _, con82_1 (leaf := leaf) rep_self hs (by omega), ⟨?_⟩, ?_⟩
    · kernel_rfl
    cbv
    refine ⟨[(2000, some 6100)], [], ?_⟩
    cbv
    and_intros
    all_goals first | exact trivial | exact ⟨rfl⟩ | exact ⟨ew⟩ | exact ⟨row_le fl⟩ | exact ⟨by kernel_rfl⟩
  · have h1 : ¬ (k : Int) = (es.length : Int) := of_decide_eq_false h1
    have hlt : k < es.length := by omega
    have o1 : indexObl (k : Int) es.length := ⟨by omega, by omega⟩
    have bk : bound64 ((k : Int) + 1) := by unfold bound64; omega
    have so3 : sliceObl ((k : Int) + 1) (es.length : Int) es.length := ⟨by omega, by omega, by omega⟩
    have rc : RepE (.sl 4 (fun _ => (es.length : Int).toNat - ((k : Int) + 1).toNat) (subRow (lrow encE fun _ => es) fun _ => ((k : Int) + 1).toNat)) (es.drop (k + 1)) := rep_sub (a := es) (b := es.drop (k + 1)) (l := k + 1) (h := es.length) (by rw [List.take_of_length_le (by simp)]) (Nat.le_refl _)
    clear h1
    cbv
    refine ⟨⟨o1⟩, _, _, con73, ⟨?_⟩, ?_⟩
    · kernel_rfl
    cbv
    refine ⟨⟨by kernel_rfl⟩, ?_⟩
    cbv
    refine ⟨fun h2 => ?_, fun h2 => ?_⟩
    · have h2 : ¬ (es.getD k default).key = key := of_decide_eq_false (bnot_t h2)
      have hn : ¬ (k < es.length ∧ (es.getD k default).key = key) := fun h => h2 h.2
      have fl := hput0 hn
      have ew := hwas0 hn
      clear h2
      cbv
      refine ⟨_, _, con82_1 (leaf := leaf) rep_self hs (by omega), ⟨?_⟩, ?_⟩
      · kernel_rfl
      cbv
      refine ⟨[(2000, some 6100)], [], ?_⟩
      cbv
      and_intros
      all_goals first | exact trivial | exact ⟨rfl⟩ | exact ⟨ew⟩ | exact ⟨row_le fl⟩ | exact ⟨by kernel_rfl⟩
    · have h2 : (es.getD k default).key = key := of_decide_eq_true (bnot_f h2)
      have hn : k < es.length ∧ (es.getD k default).key = key := ⟨hlt, h2⟩
      have fl := hput1 hn
      have ew := hwas1 hn
      clear h2
      cbv
      refine ⟨⟨so1⟩, ⟨bk⟩, ⟨so3⟩, ?_⟩
      cbv
      refine ⟨_, _, con82_2 (leaf := leaf) ra rc sa sc (by rw [fl]; exact hlp), ⟨?_⟩, ?_⟩
      · kernel_rfl
      cbv
      refine ⟨⟨by kernel_rfl⟩, ?_⟩
      cbv
      refine ⟨[(2000, some 7400)], [], ?_⟩
      cbv
      and_intros
      all_goals first | exact trivial | exact ⟨rfl⟩ | exact ⟨ew⟩ | exact ⟨row_le fl⟩ | exact ⟨by kernel_rfl⟩


/-- A list with another key at a place. -/
def setKey (a : List Ent) (i : Nat) (k : List UInt8) : List Ent := a.set i { a.getD i default with key := k }

theorem eqN_false {a b : Nat} (h : a ≠ b) : eqN a b = false := decide_eq_false h
theorem store_key {a : List Ent} {n i : Nat} {bs : List UInt8} : StoreOk 4 n i (lrow encE fun _ => a) 0 (.bytes fun _ => bs) := by
  refine ⟨?_, fun i' _ hne j hj => ?_⟩
  · simp only [putRow, eqN_refl, cond_true, lrow, encE, mergeDV]
  · match j, hj with
    | 0, _ => simp only [putRow, eqN_refl, cond_true, lrow, encE, mergeDV, eqN_false hne, cond_false]
    | 1, _ => rfl
    | 2, _ => rfl
    | 3, _ => rfl
    | j + 4, h => omega
theorem setKey_len {a : List Ent} {i : Nat} {bs : List UInt8} : a.length = (setKey a i bs).length := by simp [setKey]
theorem setKey_getD {a : List Ent} {i q : Nat} {bs : List UInt8} (h : q < a.length) : (setKey a i bs).getD q default = if q = i then { a.getD i default with key := bs } else a.getD q default := by
  simp only [setKey, List.getD_eq_getElem?_getD, List.getElem?_set]
  by_cases hq : i = q
  · subst hq
    simp [h]
  · rw [if_neg hq, if_neg (fun e => hq e.symm)]
theorem setKey_row {a : List Ent} {i : Nat} {bs : List UInt8} : RowEq 4 (setKey a i bs).length (putRow (lrow encE fun _ => a) (fun _ => i) 0 (.bytes fun _ => bs)) (lrow encE fun _ => setKey a i bs) := by
  intro q hq j hj
  have hq : q < a.length := by rwa [← setKey_len] at hq
  have hg := setKey_getD (i := i) (bs := bs) hq
  match j, hj with
  | 0, _ =>
    simp only [putRow, eqN_refl, cond_true, lrow, encE, mergeDV, hg]
    by_cases h : q = i
    · subst h; simp only [eqN_refl, cond_true, if_true]
    · simp only [eqN_false h, cond_false, if_neg h]
  | 1, _ => simp only [putRow, lrow, encE, show eqN 1 0 = false from rfl, cond_false, hg]; split <;> simp_all
  | 2, _ => simp only [putRow, lrow, encE, show eqN 2 0 = false from rfl, cond_false, hg]; split <;> simp_all
  | 3, _ => simp only [putRow, lrow, encE, show eqN 3 0 = false from rfl, cond_false, hg]; split <;> simp_all
  | j + 4, h => omega

set_option maxRecDepth 20000 in
set_option maxHeartbeats 4000000 in
theorem con35f {es : List Ent} (hw : weight es + 20 * es.length < 1000000000000) (hs : ∀ e ∈ es, SmallE e) (h2 : 2 ≤ es.length) :
    Con 35 [nodeSV false es] [] (.tup [.agg [.bool (.s fun _ => false), .own 2000], .agg [.bool (.s fun _ => false), .own 2001], .own 2002])
      [(2000, .arrD 74 4 (fun _ => (es.take (cutK false es)).length) (lrow encE fun _ => es.take (cutK false es))),
       (2001, .arrD 74 4 (fun _ => (setKey (es.drop (cutK false es)) 0 []).length) (lrow encE fun _ => setKey (es.drop (cutK false es)) 0 [])),
       (2002, .barr 5 fun _ => ((es.drop (cutK false es)).getD 0 default).key)] := by
  have b0 : bound64 ((2 + sizeL false es) - 2) := by have := sizeL_le false es; unfold bound64; omega
  refine con_of Try.func35 rfl rfl 87 _ rfl rfl rfl rfl ?_
  cbv
  refine ⟨fun h1 => ?_, fun h1 => ?_⟩
  · have h1 : (es.length : Int) < 2 := of_decide_eq_true h1
    have h1 : ¬ 2 ≤ es.length := by omega
    exfalso
    exact h1 h2
  · clear h1
    cbv
    refine ⟨_, _, con14 (leaf := false) (es := es) hw, ⟨?_⟩, ?_⟩
    · rfl
    cbv
    refine ⟨⟨b0⟩, ?_⟩
    cbv
    refine ⟨Nat, [], fun k => [(6, .int .i64 (.s fun _ => sizeL false (es.take k))), (7, .int .i64 (.s fun _ => (k : Int)))],
      fun _ => [(1, .cells 24 [.bool (.s fun _ => false), .dat (entsDV es)]), (2, .cells 24 [.bool .f, .nil]), (3, .cells 24 [.bool .f, .nil])],
      fun k => k < es.length ∧ cutF false es (es.length - k) k = cutK false es, fun k => es.length - k, 0, [], ⟨by omega, rfl⟩, ⟨?_⟩, fun k hx => ?_⟩
    · cbv
      and_intros
      all_goals first | exact trivial | exact ⟨rfl⟩ | exact ⟨rfl, fun _ _ _ _ => rfl⟩ | exact ⟨setKey_len, setKey_row⟩ | exact ⟨by kernel_rfl⟩
    · obtain ⟨hk, hc⟩ : k < es.length ∧ cutF false es (es.length - k) k = cutK false es := hx
      have oi : indexObl (k : Int) es.length := ⟨by omega, by omega⟩
      have bk : bound64 ((k : Int) + 1) := by unfold bound64; omega
      have bl : bound64 ((es.length : Int) - 1) := by unfold bound64; omega
      have ek : (k : Int) + 1 = ((k + 1 : Nat) : Int) := by omega
      have b2 : bound64 (2 * sizeL false (es.take k)) := by have := sizeL_le false (es.take k); have := sizeL_mono false (es := es) (i := k); have := sizeL_le false es; unfold bound64; omega
      have b5 : 2 + sizeL false es - 2 = sizeL false es := by omega
      have hms : es.length - (k + 1) < es.length - k := by omega
      have hnx : sizeL false (es.take (k + 1)) = sizeL false (es.take k) + bytesOfI false (es.getD k default).key (es.getD k default).val (es.getD k default).page := by
        rw [getD_take es hk, sizeL_app]; simp only [sizeL]; omega
      have hnx' := hnx.symm
      have so1 : sliceObl 0 (k : Int) es.length := ⟨by omega, by omega, by omega⟩
      have so2 : sliceObl (k : Int) (es.length : Int) es.length := ⟨by omega, by omega, by omega⟩
      have oi0 : indexObl 0 (es.drop k).length := ⟨by omega, by simp; omega⟩
      have ha : ∀ e ∈ es.take k, SmallE e := fun e he => hs e (List.mem_of_mem_take he)
      have hb : ∀ e ∈ es.drop k, SmallE e := fun e he => hs e (List.mem_of_mem_drop he)
      have la : (es.take k).length < 1000000000000 := by simp only [List.length_take]; omega
      have lb : (es.drop k).length < 1000000000000 := by simp only [List.length_drop]; omega
      have ra : RepE (.sl 4 (fun _ => (k : Int).toNat - 0) (subRow (lrow encE fun _ => es) fun _ => 0)) (es.take k) := rep_sub (by simp) (by omega)
      have rb : RepE (.sl 4 (fun _ => (es.length : Int).toNat - (k : Int).toNat) (subRow (lrow encE fun _ => es) fun _ => (k : Int).toNat)) (es.drop k) := rep_sub (a := es) (b := es.drop k) (l := k) (h := es.length) (by rw [List.take_of_length_le (by simp)]) (Nat.le_refl _)
      have kl : ((es.drop k).getD 0 default).key.length < 1000000000000 := (hb _ (getD_mem (by simp; omega))).1
      cbv
      refine ⟨fun h3 => ?_, fun h3 => ?_⟩
      · have h3 : (k : Int) = 0 := of_decide_eq_true h3
        have hg : goesB false es k = true := by simp only [goesB, decide_eq_true (show k = 0 by omega), Bool.true_or]
        have hlt : k + 1 < es.length := by omega
        have ob1 : bound64 ((sizeL false (es.take k)) + bytesOfI false (es.getD k default).key (es.getD k default).val (es.getD k default).page) := by
          rw [← hnx]; have := sizeL_le false (es.take (k + 1)); have := sizeL_mono false (es := es) (i := k + 1); have := sizeL_le false es; unfold bound64; omega
        have hgo := (cut_go hk hg).trans hc
        clear hg hc
        cbv
        refine ⟨⟨oi⟩, _, _, con44 (leaf := false) (Nat.lt_of_le_of_lt (by have := weight_take es hk; omega : (es.getD k default).key.length + (es.getD k default).val.length ≤ weight es) (by omega)), ⟨?_⟩, ?_⟩
        · rfl
        cbv
        refine ⟨⟨ob1⟩, ⟨by kernel_rfl⟩, ?_⟩
        cbv
        refine ⟨⟨bk⟩, k + 1, [], ⟨hlt, hgo⟩, hms, ⟨?_⟩, ⟨?_⟩⟩
        · kernel_rfl
        · cbv
          and_intros
          all_goals first | exact trivial | exact ⟨hnx'⟩ | exact ⟨ek⟩ | exact ⟨rfl⟩ | exact ⟨rfl, fun _ _ _ _ => rfl⟩ | exact ⟨setKey_len, setKey_row⟩ | exact ⟨by kernel_rfl⟩
      · have h3 : ¬ (k : Int) = 0 := of_decide_eq_false h3
        have h3 : ¬ k = 0 := by omega
        cbv
        refine ⟨⟨b2⟩, ?_⟩
        cbv
        refine ⟨fun h4 => ?_, fun h4 => ?_⟩
        · have h4 : 2 * sizeL false (es.take k) < 2 + sizeL false es - 2 := of_decide_eq_true h4
          cbv
          refine ⟨⟨bl⟩, ?_⟩
          cbv
          refine ⟨fun h5 => ?_, fun h5 => ?_⟩
          · have h5 : (k : Int) < (es.length : Int) - 1 := of_decide_eq_true h5
            have hlt : k + 1 < es.length := by omega
            have hg : goesB false es k = true := by simp only [goesB, decide_eq_true (show 2 * sizeL false (es.take k) < sizeL false es by omega), decide_eq_true (show k < es.length - 1 by omega), Bool.true_and, Bool.or_true]
            have ob1 : bound64 ((sizeL false (es.take k)) + bytesOfI false (es.getD k default).key (es.getD k default).val (es.getD k default).page) := by
              rw [← hnx]; have := sizeL_le false (es.take (k + 1)); have := sizeL_mono false (es := es) (i := k + 1); have := sizeL_le false es; unfold bound64; omega
            have hgo := (cut_go hk hg).trans hc
            clear hg hc
            cbv
            refine ⟨⟨oi⟩, _, _, con44 (leaf := false) (Nat.lt_of_le_of_lt (by have := weight_take es hk; omega : (es.getD k default).key.length + (es.getD k default).val.length ≤ weight es) (by omega)), ⟨?_⟩, ?_⟩
            · rfl
            cbv
            refine ⟨⟨ob1⟩, ⟨by kernel_rfl⟩, ?_⟩
            cbv
            refine ⟨⟨bk⟩, k + 1, [], ⟨hlt, hgo⟩, hms, ⟨?_⟩, ⟨?_⟩⟩
            · kernel_rfl
            · cbv
              and_intros
              all_goals first | exact trivial | exact ⟨hnx'⟩ | exact ⟨ek⟩ | exact ⟨rfl⟩ | exact ⟨rfl, fun _ _ _ _ => rfl⟩ | exact ⟨setKey_len, setKey_row⟩ | exact ⟨by kernel_rfl⟩
          · have h5 : ¬ (k : Int) < (es.length : Int) - 1 := of_decide_eq_false h5
            have hg : goesB false es k = false := by simp only [goesB, decide_eq_false h3, decide_eq_false (show ¬ k < es.length - 1 by omega), Bool.and_false, Bool.or_false]
            have hkk : k = cutK false es := by rw [← hc]; exact (cut_end hk hg).symm
            rw [← hkk]
            clear hg hc
            cbv
            refine ⟨⟨so1⟩, _, _, con82_1 (leaf := false) ra ha la, ⟨?_⟩, ?_⟩
            · rfl
            cbv
            refine ⟨⟨so2⟩, _, _, con82_1 (leaf := false) rb hb lb, ⟨?_⟩, ?_⟩
            · kernel_rfl
            cbv
            refine ⟨⟨by kernel_rfl⟩, ?_⟩
            cbv
            refine ⟨⟨oi0⟩, _, _, con84 kl, ⟨?_⟩, ?_⟩
            · kernel_rfl
            cbv
            refine ⟨fun _ => ?_, fun h => (by cases h)⟩
            cbv
            refine ⟨⟨oi0⟩, ⟨store_key⟩, ?_⟩
            cbv
            refine ⟨⟨by kernel_rfl⟩, ?_⟩
            cbv
            refine ⟨[(2000, some 9200), (2001, some 10000), (2002, some 10600)], [], ?_⟩
            cbv
            and_intros
            all_goals first | exact trivial | exact ⟨rfl⟩ | exact ⟨rfl, fun _ _ _ _ => rfl⟩ | exact ⟨setKey_len, setKey_row⟩ | exact ⟨by kernel_rfl⟩
        · have h4 : ¬ 2 * sizeL false (es.take k) < 2 + sizeL false es - 2 := of_decide_eq_false h4
          have hg : goesB false es k = false := by simp only [goesB, decide_eq_false h3, decide_eq_false (show ¬ 2 * sizeL false (es.take k) < sizeL false es by omega), Bool.false_and, Bool.or_false]
          have hkk : k = cutK false es := by rw [← hc]; exact (cut_end hk hg).symm
          rw [← hkk]
          clear hg hc
          cbv
          refine ⟨⟨so1⟩, _, _, con82_1 (leaf := false) ra ha la, ⟨?_⟩, ?_⟩
          · rfl
          cbv
          refine ⟨⟨so2⟩, _, _, con82_1 (leaf := false) rb hb lb, ⟨?_⟩, ?_⟩
          · kernel_rfl
          cbv
          refine ⟨⟨by kernel_rfl⟩, ?_⟩
          cbv
          refine ⟨⟨oi0⟩, _, _, con84 kl, ⟨?_⟩, ?_⟩
          · kernel_rfl
          cbv
          refine ⟨fun _ => ?_, fun h => (by cases h)⟩
          cbv
          refine ⟨⟨oi0⟩, ⟨store_key⟩, ?_⟩
          cbv
          refine ⟨⟨by kernel_rfl⟩, ?_⟩
          cbv
          refine ⟨[(2000, some 9200), (2001, some 10000), (2002, some 10600)], [], ?_⟩
          cbv
          and_intros
          all_goals first | exact trivial | exact ⟨rfl⟩ | exact ⟨rfl, fun _ _ _ _ => rfl⟩ | exact ⟨setKey_len, setKey_row⟩ | exact ⟨by kernel_rfl⟩
set_option maxRecDepth 20000 in
set_option maxHeartbeats 4000000 in
theorem con35s {leaf : Bool} {es : List Ent} (hs : ∀ e ∈ es, SmallE e) (h2 : es.length < 2) :
    Con 35 [nodeSV leaf es] [] (.tup [.agg [.bool (.s fun _ => leaf), .own 2000], .agg [.bool (.s fun _ => leaf), .nil], .nil]) [(2000, .arrD 74 4 (fun _ => es.length) (lrow encE fun _ => es))] := by
  refine con_of Try.func35 rfl rfl 87 _ rfl rfl rfl rfl ?_
  cbv
  refine ⟨fun h1 => ?_, fun h1 => ?_⟩
  · cbv
    refine ⟨_, _, con82_1 (leaf := leaf) rep_self hs (by omega), ⟨?_⟩, ?_⟩
    · kernel_rfl
    cbv
    refine ⟨⟨by kernel_rfl⟩, ?_⟩
    cbv
    refine ⟨[(2000, some 5000)], [], ?_⟩
    cbv
    and_intros
    all_goals first | exact trivial | exact ⟨rfl⟩ | exact ⟨rfl, fun _ _ _ _ => rfl⟩ | exact ⟨by kernel_rfl⟩
  · have h1 : ¬ (es.length : Int) < 2 := of_decide_eq_false h1
    exfalso
    omega

def joinL (leaf : Bool) (a b : List Ent) (key : List UInt8) : List Ent := if leaf = false ∧ a.length < (a ++ b).length then setKey (a ++ b) a.length key else a ++ b

set_option maxRecDepth 20000 in
set_option maxHeartbeats 4000000 in
theorem con36 {leaf lb : Bool} {a b : List Ent} {key : List UInt8} (ha : ∀ e ∈ a, SmallE e) (hb : ∀ e ∈ b, SmallE e) (hk : key.length < 1000000000000) (hl : a.length + b.length < 100000000000) :
    Con 36 [nodeSV leaf a, nodeSV lb b, .dat (.bytes fun _ => key)] [] (.agg [.bool (.s fun _ => leaf), .own 2000]) [(2000, .arrD 74 4 (fun _ => (joinL leaf a b key).length) (lrow encE fun _ => joinL leaf a b key))] := by
  obtain ⟨R, hR⟩ : ∃ R, R = a ++ b := ⟨_, rfl⟩
  have hf : [a, b].flatten = R := by rw [hR]; simp
  have hRl : R.length = a.length + b.length := by rw [hR]; simp
  obtain ⟨J, hJ⟩ : ∃ J, J = joinL leaf a b key := ⟨_, rfl⟩
  have hj : J = if leaf = false ∧ a.length < R.length then setKey R a.length key else R := by rw [hJ, hR]; rfl
  rw [← hJ]
  obtain ⟨n, hn⟩ : ∃ n, n = a.length := ⟨_, rfl⟩
  have hj1 : leaf = false → n < R.length → J = setKey R n key := fun h1 h2 => by rw [hj, hn, if_pos ⟨h1, by omega⟩]
  have hj0 : ¬ (leaf = false ∧ n < R.length) → R = J := fun h => by rw [hj, if_neg (fun hc => h ⟨hc.1, by omega⟩)]
  have ca := con82_2 (leaf := leaf) (rep_self (a := a)) (rep_self (a := b)) ha hb (by rw [hf]; omega)
  rw [hf] at ca
  clear hj hJ hR hf
  refine con_of Try.func36 rfl rfl 38 _ rfl rfl rfl rfl ?_
  cbv
  refine ⟨_, _, ca, ⟨?_⟩, ?_⟩
  · kernel_rfl
  cbv
  rw [← hn]
  refine ⟨fun h1 => ?_, fun h1 => ?_⟩
  · have h1 : leaf = false := bnot_t h1
    cbv
    refine ⟨fun h2 => ?_, fun h2 => ?_⟩
    · have h2 : (n : Int) < (R.length : Int) := of_decide_eq_true h2
      have hlt : n < R.length := by omega
      have o1 : indexObl (n : Int) R.length := ⟨by omega, h2⟩
      have ej := hj1 h1 hlt
      have e1 : R.length = J.length := by rw [ej]; exact setKey_len
      have e2 : RowEq 4 J.length (putRow (lrow encE fun _ => R) (fun _ => n) 0 (.bytes fun _ => key)) (lrow encE fun _ => J) := by rw [ej]; exact setKey_row
      clear h2
      cbv
      refine ⟨_, _, con84 hk, ⟨?_⟩, ?_⟩
      · kernel_rfl
      cbv
      refine ⟨⟨o1⟩, ⟨store_key⟩, ?_⟩
      cbv
      refine ⟨⟨by kernel_rfl⟩, ?_⟩
      cbv
      refine ⟨[(2000, some 4600)], [], ?_⟩
      cbv
      and_intros
      all_goals first | exact trivial | exact ⟨rfl⟩ | exact ⟨e1, e2⟩ | exact ⟨by kernel_rfl⟩
    · have h2 : ¬ (n : Int) < (R.length : Int) := of_decide_eq_false h2
      have ej : R = J := hj0 (fun h => absurd h.2 (by omega))
      clear h2
      cbv
      refine ⟨[(2000, some 4600)], [], ?_⟩
      cbv
      and_intros
      all_goals first | exact trivial | exact ⟨rfl⟩ | exact ⟨row_le ej⟩ | exact row_le ej | exact ⟨by kernel_rfl⟩
  · have h1 : leaf = true := bnot_f h1
    have ej : R = J := hj0 (fun h => absurd h.1 (by rw [h1]; decide))
    cbv
    refine ⟨[(2000, some 4600)], [], ?_⟩
    cbv
    and_intros
    all_goals first | exact trivial | exact ⟨rfl⟩ | exact ⟨row_le ej⟩ | exact row_le ej | exact ⟨by kernel_rfl⟩
end Go.Proofs.Ytmdfjipjkkjpcaa
