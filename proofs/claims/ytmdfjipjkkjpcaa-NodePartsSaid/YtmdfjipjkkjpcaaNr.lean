/- Node laws: copies. -/
import Derived.Test.YtmdfjipjkkjpcaaNq
namespace Go.Proofs.Ytmdfjipjkkjpcaa
open Go.SX

theorem con84n {c : Nat} : Con 84 [.val (.slice none 0 c)] [] (.own 2000) [(2000, .barr 5 fun _ => [])] := by
  refine con_of Try.func84 rfl rfl 8 _ rfl rfl rfl rfl ?_
  cbv
  refine ⟨[(2000, none)], [], ?_⟩
  cbv
  and_intros
  all_goals first | exact trivial | exact ⟨rfl⟩ | exact ⟨by kernel_rfl⟩

theorem con84nn {bs : List UInt8} (hb : bs.length < 1000000000000) : Con 84 [.nn (.bytes fun _ => bs)] [] (.own 2000) [(2000, .barr 5 fun _ => bs)] := by
  have b1 : lenOk (([] : List UInt8).length + bs.length) 1 := by unfold lenOk; simp; omega
  refine con_of Try.func84 rfl rfl 8 _ rfl rfl rfl rfl ?_
  cbv
  refine ⟨⟨trivial, b1⟩, ?_⟩
  cbv
  refine ⟨[(2000, some 7)], [], ?_⟩
  cbv
  and_intros
  all_goals first | exact trivial | exact ⟨rfl⟩ | exact ⟨by kernel_rfl⟩
theorem con84 {bs : List UInt8} (hb : bs.length < 1000000000000) : Con 84 [.dat (.bytes fun _ => bs)] [] (.own 2000) [(2000, .barr 5 fun _ => bs)] := by
  refine ⟨fun η G vs w h1 h2 h3 => ?_⟩
  match vs, h3 with
  | [v], h3 =>
    obtain ⟨h3, -⟩ := h3
    have h4 := h3
    simp only [SVRel, DVRel] at h4
    obtain ⟨p, c, rfl, hc, hr⟩ := h4
    cases p with
    | none =>
      have hn : bs = [] := by
        cases bs with
        | nil => rfl
        | cons x l => obtain ⟨b, o, hb, _⟩ := hr 0 x rfl; cases hb
      subst hn
      exact (con84n (c := c)).spec η G _ w h1 h2 ⟨by simp [SVRel], trivial⟩
    | some p => exact (con84nn hb).spec η G _ w h1 h2 ⟨⟨h3, _, _, _, rfl⟩, trivial⟩
  | [], h3 => exact h3.elim
  | _ :: _ :: _, h3 => exact h3.2.elim

set_option maxRecDepth 20000 in
set_option maxHeartbeats 4000000 in
theorem con97 {e : Ent} (hk : e.key.length < 1000000000000) (hv : e.val.length < 1000000000000) :
    Con 97 [entSV e] [] (.agg [.own 2000, .own 2001, .int .u32 (.s fun _ => e.page), .int .u32 (.s fun _ => e.size)]) [(2000, .barr 5 fun _ => e.key), (2001, .barr 5 fun _ => e.val)] := by
  refine con_of Try.func97 rfl rfl 12 _ rfl rfl rfl rfl ?_
  cbv
  refine ⟨_, _, con84 hk, ⟨?_⟩, ?_⟩
  · rfl
  cbv
  refine ⟨_, _, con84 hv, ⟨?_⟩, ?_⟩
  · rfl
  cbv
  refine ⟨⟨by kernel_rfl⟩, ?_⟩
  cbv
  refine ⟨[(2000, some 3500), (2001, some 3800)], [], ?_⟩
  cbv
  and_intros
  all_goals first | exact trivial | exact ⟨rfl⟩ | exact ⟨by kernel_rfl⟩

/-- Rows that stand for entries. -/
def RepE (A : DV) (a : List Ent) : Prop := ∀ (w : World) (S : Nat → Prop) (v : Value), DVRel w S A v → DVRel w S (entsDV a) v

theorem rep_row {n : Nat} {row : (Unit → Nat) → Nat → DV} {a : List Ent} (hn : n = a.length) (h : ∀ i, i < n → ∀ j, j < 4 → row (fun _ => i) j = encE (fun _ => a.getD i default) j) : RepE (.sl 4 (fun _ => n) row) a := by
  subst hn
  intro w S v hv
  simp only [entsDV, DVRel] at hv ⊢
  obtain ⟨p, c, rfl, hc, hr⟩ := hv
  refine ⟨p, c, rfl, hc, fun i hi => ?_⟩
  obtain ⟨b, o, hb, hS, hj⟩ := hr i hi
  refine ⟨b, o, hb, hS, fun j hj' => ?_⟩
  obtain ⟨u, hu, hd⟩ := hj j hj'
  refine ⟨u, hu, ?_⟩
  rw [h i hi j hj'] at hd
  exact hd
theorem rep_self {a : List Ent} : RepE (entsDV a) a := fun _ _ _ h => h
theorem rep_take {a : List Ent} {k : Nat} (hk : k ≤ a.length) : RepE (.sl 4 (fun _ => k) (lrow encE fun _ => a)) (a.take k) :=
  rep_row (by simp; omega) fun i hi j _ => by
    simp only [lrow, List.getD_eq_getElem?_getD]
    rw [List.getElem?_take_of_lt hi]
theorem rep_drop {a : List Ent} {k n : Nat} (hn : n = a.length - k) : RepE (.sl 4 (fun _ => n) fun i j => lrow encE (fun _ => a) (fun _ => k + i ()) j) (a.drop k) :=
  rep_row (by simp; omega) fun i hi j _ => by
    simp only [lrow, List.getD_eq_getElem?_getD, List.getElem?_drop]

def encL (a : Unit → List Ent) : Nat → DV := fun _ => .sl 4 (fun _ => (a ()).length) (lrow encE a)
end Go.Proofs.Ytmdfjipjkkjpcaa
