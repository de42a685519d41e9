/- Node laws: what the chapter's examples fix. -/
import Derived.Test.YtmdfjipjkkjpcaaNf
namespace Go.Proofs.Ytmdfjipjkkjpcaa
open Go.SX

theorem con46l {l : List (List UInt8)} (hs : ∀ s ∈ l, s.length < 1000000000000) (hl : l.length < 1000000000000) :
    Con 46 [.dat (.sl 1 (fun _ => l.length) (litRow 1 (l.map fun s => .str fun _ => s)))] [] (.agg [.bool (.s fun _ => true), .own 2000]) [(2000, .arrD 74 4 (fun _ => (pairL l).length) (lrow encE fun _ => pairL l))] := by
  refine (con46 hs hl).args fun η G w vs hv => ?_
  match vs, hv with
  | [v], hv =>
    refine ⟨?_, trivial⟩
    have hv := hv.1
    simp only [SVRel, DVRel] at hv ⊢
    obtain ⟨p, c, rfl, hc, hr⟩ := hv
    refine ⟨p, c, rfl, hc, fun i hi => ?_⟩
    obtain ⟨b, o, hb, hG, hj⟩ := hr i hi
    refine ⟨b, o, hb, hG, fun j hj' => ?_⟩
    obtain ⟨u, hu, hd⟩ := hj j hj'
    refine ⟨u, hu, ?_⟩
    have hj0 : j = 0 := by omega
    subst hj0
    have e : litRow 1 (l.map fun s => DV.str fun _ => s) (fun _ => i) 0 = strRow l (fun _ => i) 0 := by
      have key : ∀ (l : List (List UInt8)) (i : Nat), i < l.length → nthD (l.map fun s => DV.str fun _ => s) i (.bool fun _ => false) = DV.str fun _ => l.getD i default := by
        intro l
        induction l with
        | nil => intro i h; simp at h
        | cons s l ih =>
          intro i h
          cases i with
          | zero => rfl
          | succ i => simpa [nthD] using ih i (by simpa using h)
      unfold litRow strRow
      have := key l i hi
      simpa using this
    rw [e] at hd
    exact hd
  | [], hv => exact hv.elim
  | _ :: _ :: _, hv => exact hv.2.elim

def L1 : List (List UInt8) := [[97], [49]]
def L2 : List (List UInt8) := [[97], [49], [99], [49]]
def L3 : List (List UInt8) := [[97], [49], [98], [49], [99], [49]]
def L4 : List (List UInt8) := [[97], [49], [98], [49]]
def L5 : List (List UInt8) := [[99], [49]]
def L6 : List (List UInt8) := [[98], [49], [97], [49]]
theorem entOkL : ∀ (l : List (List UInt8)), ∀ e ∈ pairL l, EntOk e
  | [], e, h => by cases h
  | [_], e, h => by cases h
  | a :: b :: r, e, h => by
      simp only [pairL, List.mem_cons] at h
      rcases h with rfl | h
      · exact ⟨⟨Int.le_refl 0, by show (0 : Int) < 4294967296; decide⟩, Int.le_refl 0, by show (0 : Int) < 4294967296; decide⟩
      · exact entOkL r e h
theorem smallL : ∀ (l : List (List UInt8)), (∀ s ∈ l, s.length < 1000000000000) → ∀ e ∈ pairL l, SmallE e
  | [], _, e, h => by cases h
  | [_], _, e, h => by cases h
  | a :: b :: r, hs, e, h => by
      simp only [pairL, List.mem_cons] at h
      rcases h with rfl | h
      · exact ⟨hs a (by simp), hs b (by simp)⟩
      · exact smallL r (fun s h => hs s (by simp [h])) e h

theorem con31b {es : List Ent} (hl : es.length < 1000000000000) :
    Con 31 [nodeSV true es, .dat (.sl 1 (fun _ => 1) (litRow 1 [.int .u8 fun _ => 98]))] [] (.tup [.int .i64 (.s fun _ => (placeI (geP [98]) es : Int)), .bool (.s fun _ => foundB es [98])]) [] := by
  refine (con31t (key := [98]) hl).args fun η G w vs hv => ?_
  match vs, hv with
  | [v1, v2], hv =>
    obtain ⟨h1, h2, -⟩ := hv
    refine ⟨h1, ?_, trivial⟩
    simp only [SVRel, DVRel] at h2 ⊢
    obtain ⟨p, c, rfl, hc, hr⟩ := h2
    refine ⟨p, c, rfl, hc, fun i x hx => ?_⟩
    have hi : i = 0 := by
      cases i with
      | zero => rfl
      | succ i => simp at hx
    subst hi
    simp at hx
    subst hx
    obtain ⟨b, o, hb, hG, hj⟩ := hr 0 (by decide)
    obtain ⟨u, hu, hd⟩ := hj 0 (by decide)
    refine ⟨b, o, hb, hG, ?_⟩
    have hu' : w.cell? ⟨b, o + 0, none⟩ = some u := by simpa using hu
    rw [hu']
    simp only [litRow, nthD, DVRel] at hd
    rw [hd]; rfl
  | [], hv => exact hv.elim
  | [_], hv => exact hv.2.elim
  | _ :: _ :: _ :: _, hv => exact hv.2.2.elim

set_option maxRecDepth 20000 in
set_option maxHeartbeats 4000000 in
theorem con19 : Con 19 [] [] (.bool (.s fun _ => true)) [] := by
  refine con_of Try.func19 rfl rfl 92 _ rfl rfl rfl rfl ?_
  cbv
  refine ⟨_, _, con46l (l := L1) (by decide) (by decide), ⟨?_⟩, ?_⟩
  · kernel_rfl
  cbv
  refine ⟨_, _, con12o (leaf := true) (es := pairL L1) (entOkL _) (by decide) (by kernel_rfl), ⟨?_⟩, ?_⟩
  · kernel_rfl
  cbv
  refine ⟨_, _, con25t (b := nodeB true (pairL L1)) (es := pairL L1) (by kernel_rfl) (by decide) (entOkL _) (by decide) (by kernel_rfl) rfl, ⟨?_⟩, ?_⟩
  · kernel_rfl
  cbv
  refine ⟨_, _, con46l (l := L3) (by decide) (by decide), ⟨?_⟩, ?_⟩
  · kernel_rfl
  cbv
  refine ⟨_, _, con35t (es := pairL L3) (by decide) (smallL _ (by decide)) (by decide), ⟨?_⟩, ?_⟩
  · kernel_rfl
  cbv
  refine ⟨_, _, con46l (l := L2) (by decide) (by decide), ⟨?_⟩, ?_⟩
  · kernel_rfl
  cbv
  refine ⟨⟨⟨by decide, trivial⟩, by unfold lenOk; decide⟩, ?_⟩
  cbv
  refine ⟨_, _, con31t (es := pairL L2) (key := [98]) (by decide), ⟨?_⟩, ?_⟩
  · kernel_rfl
  cbv
  refine ⟨fun h1 => ?_, fun h1 => ?_⟩
  rotate_left
  · exfalso
    have h' : true = false := Eq.trans (by kernel_rfl) h1
    cases h'
  cbv
  refine ⟨fun h2 => ?_, fun h2 => ?_⟩
  rotate_left
  · exfalso
    have h' : true = false := Eq.trans (by kernel_rfl) h2
    cases h'
  cbv
  refine ⟨fun h3 => ?_, fun h3 => ?_⟩
  rotate_left
  · exfalso
    have h' : true = false := Eq.trans (by kernel_rfl) h3
    cases h'
  cbv
  refine ⟨_, _, con46l (l := L1) (by decide) (by decide), ⟨?_⟩, ?_⟩
  · kernel_rfl
  cbv
  refine ⟨_, _, con30 (la := true) (lb := true) (a := pairL L1) (b := pairL L1) (smallL _ (by decide)) (by decide), ⟨?_⟩, ?_⟩
  · kernel_rfl
  cbv
  refine ⟨fun h4 => ?_, fun h4 => ?_⟩
  rotate_left
  · exfalso
    have h' : true = false := Eq.trans (by kernel_rfl) h4
    cases h'
  cbv
  refine ⟨fun h5 => ?_, fun h5 => ?_⟩
  rotate_left
  · exfalso
    have h' : true = false := Eq.trans (by kernel_rfl) h5
    cases h'
  cbv
  refine ⟨⟨by kernel_rfl⟩, ?_⟩
  cbv
  refine ⟨fun h6 => ?_, fun h6 => ?_⟩
  rotate_left
  · exfalso
    have h' : true = false := Eq.trans (by kernel_rfl) h6
    cases h'
  cbv
  refine ⟨_, _, con46l (l := L4) (by decide) (by decide), ⟨?_⟩, ?_⟩
  · kernel_rfl
  cbv
  refine ⟨_, _, con30 (la := true) (lb := true) (a := (pairL L3).take (cutK true (pairL L3))) (b := pairL L4) (fun e he => smallL _ (by decide) e (List.mem_of_mem_take he)) (Nat.lt_of_le_of_lt (List.length_take_le _ _) (by decide)), ⟨?_⟩, ?_⟩
  · kernel_rfl
  cbv
  refine ⟨fun h7 => ?_, fun h7 => ?_⟩
  rotate_left
  · exfalso
    have h' : true = false := Eq.trans (by kernel_rfl) h7
    cases h'
  cbv
  refine ⟨_, _, con46l (l := L5) (by decide) (by decide), ⟨?_⟩, ?_⟩
  · kernel_rfl
  cbv
  refine ⟨_, _, con30 (la := true) (lb := true) (a := (pairL L3).drop (cutK true (pairL L3))) (b := pairL L5) (fun e he => smallL _ (by decide) e (List.mem_of_mem_drop he)) (Nat.lt_of_le_of_lt (by rw [List.length_drop]; exact Nat.sub_le _ _) (show (pairL L3).length < _ by decide)), ⟨?_⟩, ?_⟩
  · kernel_rfl
  cbv
  refine ⟨fun h8 => ?_, fun h8 => ?_⟩
  rotate_left
  · exfalso
    have h' : true = false := Eq.trans (by kernel_rfl) h8
    cases h'
  cbv
  refine ⟨fun h9 => ?_, fun h9 => ?_⟩
  rotate_left
  · exfalso
    have h' : true = false := Eq.trans (by kernel_rfl) h9
    cases h'
  cbv
  refine ⟨_, _, con46l (l := L6) (by decide) (by decide), ⟨?_⟩, ?_⟩
  · kernel_rfl
  cbv
  refine ⟨_, _, con13 (leaf := true) (es := pairL L6) (entOkL _) (by decide), ⟨?_⟩, ?_⟩
  · kernel_rfl
  cbv
  refine ⟨fun h10 => ?_, fun h10 => ?_⟩
  rotate_left
  · exfalso
    have h' : true = false := Eq.trans (by kernel_rfl) h10
    cases h'
  cbv
  refine ⟨_, _, con46l (l := L1) (by decide) (by decide), ⟨?_⟩, ?_⟩
  · kernel_rfl
  cbv
  refine ⟨_, _, con14 (leaf := true) (es := pairL L1) (by decide), ⟨?_⟩, ?_⟩
  · kernel_rfl
  cbv
  refine ⟨⟨by kernel_rfl⟩, ?_⟩
  cbv
  refine ⟨[], [], ?_⟩
  cbv
  and_intros
  all_goals first | exact trivial | exact ⟨by kernel_rfl⟩
end Go.Proofs.Ytmdfjipjkkjpcaa
