/- Node laws: Put. -/
import Derived.Test.YtmdfjipjkkjpcaaNu
namespace Go.Proofs.Ytmdfjipjkkjpcaa
open Go.SX

theorem Con.res {f : Nat} {svs : List SV} {objs : Objs} {r r' : SV} {objs' : Objs} (h : Con f svs objs r objs') (hr : ∀ (η : OEnv) (G : Nat → Prop) (w : World) (v : Value), SVRel η G w r v → SVRel η G w r' v) : Con f svs objs r' objs' :=
  ⟨fun η G vs w h1 h2 h3 => (h.spec η G vs w h1 h2 h3).mono fun _ _ ⟨η', G', hv, h⟩ => ⟨η', G', hr _ _ _ _ hv, h⟩⟩
theorem Con.yes {f : Nat} {svs : List SV} {objs : Objs} {b : Bool} {objs' : Objs} (h : Con f svs objs (.bool (.s fun _ => b)) objs') (hb : b = true) : Con f svs objs (.bool .t) objs' := by
  subst hb; exact h.res fun _ _ _ _ h => by simpa [SVRel, BE.den] using h
theorem Con.yes2 {f : Nat} {svs : List SV} {objs : Objs} {s : SV} {b : Bool} {objs' : Objs} (h : Con f svs objs (.tup [s, .bool (.s fun _ => b)]) objs') (hb : b = true) : Con f svs objs (.tup [s, .bool .t]) objs' := by
  subst hb; exact h.res fun _ _ _ v h => by
    obtain ⟨vs, rfl, h⟩ := h
    match vs, h with
    | [v1, v2], h => exact ⟨_, rfl, h.1, h.2.1, trivial⟩
    | [], h => exact h.elim
    | [_], h => exact h.2.elim
    | _ :: _ :: _ :: _, h => exact h.2.2.elim
theorem Con.no2 {f : Nat} {svs : List SV} {objs : Objs} {s : SV} {b : Bool} {objs' : Objs} (h : Con f svs objs (.tup [s, .bool (.s fun _ => b)]) objs') (hb : b = false) : Con f svs objs (.tup [s, .bool .f]) objs' := by
  subst hb; exact h.res fun _ _ _ v h => by
    obtain ⟨vs, rfl, h⟩ := h
    match vs, h with
    | [v1, v2], h => exact ⟨_, rfl, h.1, h.2.1, trivial⟩
    | [], h => exact h.elim
    | [_], h => exact h.2.elim
    | _ :: _ :: _ :: _, h => exact h.2.2.elim

def putL (es : List Ent) (e : Ent) : List Ent :=
  es.take (placeI (geP e.key) es) ++ ([e] ++ es.drop (if placeI (geP e.key) es < es.length ∧ (es.getD (placeI (geP e.key) es) default).key = e.key then placeI (geP e.key) es + 1 else placeI (geP e.key) es))

theorem rep_one (e : Ent) : RepE (.sl 4 (fun _ => 1) (litRow 4 (dvsE e))) [e] := rep_row (by simp) fun i hi j hj => by
  have hi0 : i = 0 := by omega
  subst hi0
  match j, hj with
  | 0, _ => rfl
  | 1, _ => rfl
  | 2, _ => rfl
  | 3, _ => rfl
  | j + 4, h => omega

theorem con82_3 {leaf : Bool} {A B C : DV} {a b c : List Ent} (hA : RepE A a) (hB : RepE B b) (hC : RepE C c) (ha : ∀ e ∈ a, SmallE e) (hb : ∀ e ∈ b, SmallE e) (hc : ∀ e ∈ c, SmallE e) (hl : [a, b, c].flatten.length < 1000000000000) :
    Con 82 [.bool (.s fun _ => leaf), .dat (.sl 1 (fun _ => 3) (litRow 1 [A, B, C]))] [] (.agg [.bool (.s fun _ => leaf), .own 2000])
      [(2000, .arrD 74 4 (fun _ => [a, b, c].flatten.length) (lrow encE fun _ => [a, b, c].flatten))] := by
  have h := con82 (leaf := leaf) (ls := [a, b, c]) (by
    intro x hx
    simp only [List.mem_cons, List.not_mem_nil, or_false] at hx
    rcases hx with rfl | rfl | rfl
    · exact ha
    · exact hb
    · exact hc) hl (by simp)
  refine h.args fun η G w vs hv => ?_
  match vs, hv with
  | [v1, v2], hv =>
    obtain ⟨h1, h2, -⟩ := hv
    refine ⟨h1, ?_, trivial⟩
    simp only [SVRel, DVRel] at h2 ⊢
    obtain ⟨p, cp, rfl, hcp, hr⟩ := h2
    refine ⟨p, cp, rfl, hcp, fun i hi => ?_⟩
    obtain ⟨b, o, hb, hG, hj⟩ := hr i hi
    refine ⟨b, o, hb, hG, fun j hj' => ?_⟩
    obtain ⟨u, hu, hd⟩ := hj j hj'
    refine ⟨u, hu, ?_⟩
    have hj0 : j = 0 := by omega
    subst hj0
    match i, hi with
    | 0, _ => exact hA w G u hd
    | 1, _ => exact hB w G u hd
    | 2, _ => exact hC w G u hd
    | i + 3, h => simp at h; omega
  | [], hv => exact hv.elim
  | [_], hv => exact hv.2.elim
  | _ :: _ :: _ :: _, hv => exact hv.2.2.elim

set_option maxRecDepth 20000 in
set_option maxHeartbeats 4000000 in
theorem con32 {leaf : Bool} {es : List Ent} {e : Ent} (hs : ∀ e ∈ es, SmallE e) (he : SmallE e) (hl : es.length < 100000000000) :
    Con 32 [nodeSV leaf es, entSV e] [] (.agg [.bool (.s fun _ => leaf), .own 2000]) [(2000, .arrD 74 4 (fun _ => (putL es e).length) (lrow encE fun _ => putL es e))] := by
  have hk := placeI_le (p := geP e.key) (es := es)
  have ca := con77_81 (e := e) (leaf := leaf) (es := es) (by omega)
  have hput : putL es e = es.take (placeI (geP e.key) es) ++ ([e] ++ es.drop (if placeI (geP e.key) es < es.length ∧ (es.getD (placeI (geP e.key) es) default).key = e.key then placeI (geP e.key) es + 1 else placeI (geP e.key) es)) := rfl
  obtain ⟨k, hk0⟩ : ∃ k, k = placeI (geP e.key) es := ⟨_, rfl⟩
  rw [← hk0] at hk ca hput
  obtain ⟨R, hR⟩ : ∃ R, R = putL es e := ⟨_, rfl⟩
  rw [← hR] at hput ⊢
  have hRl : R.length ≤ es.length + 1 := by
    rw [hput]; simp only [List.length_append, List.length_take, List.length_drop, List.length_cons, List.length_nil]; split <;> omega
  have hlp : R.length < 1000000000000 := by omega
  have hput1 : k < es.length → (es.getD k default).key = e.key → [es.take k, [e], es.drop (k + 1)].flatten = R := fun h h2 => by rw [hput, if_pos ⟨h, h2⟩]; simp
  have hput0 : (k < es.length → ¬ (es.getD k default).key = e.key) → [es.take k, [e], es.drop k].flatten = R := fun h => by rw [hput, if_neg (fun hc => h hc.1 hc.2)]; simp
  have so1 : sliceObl 0 (k : Int) es.length := ⟨by omega, by omega, by omega⟩
  have so2 : sliceObl (k : Int) (es.length : Int) es.length := ⟨by omega, by omega, by omega⟩
  have ra : RepE (.sl 4 (fun _ => (k : Int).toNat - 0) (subRow (lrow encE fun _ => es) fun _ => 0)) (es.take k) := rep_sub (by simp) (by omega)
  have rb : RepE (.sl 4 (fun _ => (es.length : Int).toNat - (k : Int).toNat) (subRow (lrow encE fun _ => es) fun _ => (k : Int).toNat)) (es.drop k) := rep_sub (a := es) (b := es.drop k) (l := k) (h := es.length) (by rw [List.take_of_length_le (by simp)]) (Nat.le_refl _)
  have rone := rep_one e
  have sa : ∀ x ∈ es.take k, SmallE x := fun x hx => hs x (List.mem_of_mem_take hx)
  have sb : ∀ x ∈ es.drop k, SmallE x := fun x hx => hs x (List.mem_of_mem_drop hx)
  have sc : ∀ x ∈ es.drop (k + 1), SmallE x := fun x hx => hs x (List.mem_of_mem_drop hx)
  have so : ∀ x ∈ [e], SmallE x := fun x hx => by rw [List.mem_singleton] at hx; rw [hx]; exact he
  refine con_of Try.func32 rfl rfl 43 _ rfl rfl rfl rfl ?_
  cbv
  refine ⟨_, _, ca, ⟨?_⟩, ?_⟩
  · kernel_rfl
  cbv
  refine ⟨fun h1 => ?_, fun h1 => ?_⟩
  · have h1 : (k : Int) < (es.length : Int) := of_decide_eq_true h1
    have hlt : k < es.length := by omega
    have o1 : indexObl (k : Int) es.length := ⟨by omega, h1⟩
    have bk : bound64 ((k : Int) + 1) := by unfold bound64; omega
    have so3 : sliceObl ((k : Int) + 1) (es.length : Int) es.length := ⟨by omega, by omega, by omega⟩
    have rc : RepE (.sl 4 (fun _ => (es.length : Int).toNat - ((k : Int) + 1).toNat) (subRow (lrow encE fun _ => es) fun _ => ((k : Int) + 1).toNat)) (es.drop (k + 1)) := rep_sub (a := es) (b := es.drop (k + 1)) (l := k + 1) (h := es.length) (by rw [List.take_of_length_le (by simp)]) (Nat.le_refl _)
    clear h1
    cbv
    refine ⟨⟨o1⟩, _, _, con73, ⟨?_⟩, ?_⟩
    · kernel_rfl
    cbv
    refine ⟨⟨by kernel_rfl⟩, ?_⟩
    cbv
    refine ⟨fun h2 => ?_, fun h2 => ?_⟩
    · have h2 : (es.getD k default).key = e.key := of_decide_eq_true h2
      have fl := hput1 hlt h2
      clear h2
      cbv
      refine ⟨⟨bk⟩, ?_⟩
      cbv
      refine ⟨⟨so1⟩, ⟨so3⟩, ?_⟩
      cbv
      refine ⟨_, _, con82_3 (leaf := leaf) ra rone rc sa so sc (by rw [fl]; exact hlp), ⟨?_⟩, ?_⟩
      · kernel_rfl
      cbv
      refine ⟨⟨by kernel_rfl⟩, ?_⟩
      cbv
      refine ⟨[(2000, some 7200)], [], ?_⟩
      cbv
      and_intros
      all_goals first | exact trivial | exact ⟨rfl⟩ | exact ⟨row_le fl⟩ | exact ⟨by kernel_rfl⟩
    · have h2 : ¬ (es.getD k default).key = e.key := of_decide_eq_false h2
      have fl := hput0 (fun _ => h2)
      clear h2
      cbv
      refine ⟨⟨so1⟩, ⟨so2⟩, ?_⟩
      cbv
      refine ⟨_, _, con82_3 (leaf := leaf) ra rone rb sa so sb (by rw [fl]; exact hlp), ⟨?_⟩, ?_⟩
      · kernel_rfl
      cbv
      refine ⟨⟨by kernel_rfl⟩, ?_⟩
      cbv
      refine ⟨[(2000, some 7200)], [], ?_⟩
      cbv
      and_intros
      all_goals first | exact trivial | exact ⟨rfl⟩ | exact ⟨row_le fl⟩ | exact ⟨by kernel_rfl⟩
  · have h1 : ¬ (k : Int) < (es.length : Int) := of_decide_eq_false h1
    have fl := hput0 (fun h => absurd h (by omega))
    clear h1
    cbv
    refine ⟨⟨by kernel_rfl⟩, ?_⟩
    cbv
    refine ⟨⟨so1⟩, ⟨so2⟩, ?_⟩
    cbv
    refine ⟨_, _, con82_3 (leaf := leaf) ra rone rb sa so sb (by rw [fl]; exact hlp), ⟨?_⟩, ?_⟩
    · kernel_rfl
    cbv
    refine ⟨⟨by kernel_rfl⟩, ?_⟩
    cbv
    refine ⟨[(2000, some 7200)], [], ?_⟩
    cbv
    and_intros
    all_goals first | exact trivial | exact ⟨rfl⟩ | exact ⟨row_le fl⟩ | exact ⟨by kernel_rfl⟩
end Go.Proofs.Ytmdfjipjkkjpcaa
