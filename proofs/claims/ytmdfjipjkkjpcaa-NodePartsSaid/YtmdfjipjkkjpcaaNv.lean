/- Node laws: the law's own aids. -/
import Derived.Test.YtmdfjipjkkjpcaaNu
namespace Go.Proofs.Ytmdfjipjkkjpcaa
open Go.SX

def pairL : List (List UInt8) → List Ent
  | k :: v :: r => ⟨k, v, 0, 0⟩ :: pairL r
  | _ => []
def strRow (l : List (List UInt8)) : (Unit → Nat) → Nat → DV := fun i _ => .str fun _ => l.getD (i ()) default

theorem pair_next : ∀ (l : List (List UInt8)) (m : Nat), 2 * m + 1 < l.length → pairL (l.take (2 * (m + 1))) = pairL (l.take (2 * m)) ++ [⟨l.getD (2 * m) default, l.getD (2 * m + 1) default, 0, 0⟩]
  | [], m, h => by simp at h
  | [_], m, h => by simp at h
  | a :: b :: r, 0, h => by simp [pairL]
  | a :: b :: r, m + 1, h => by
      have ih := pair_next r m (by simp at h; omega)
      rw [show 2 * (m + 1 + 1) = 2 * (m + 1) + 2 by omega, show 2 * (m + 1) = 2 * m + 2 by omega]
      simp only [List.take_succ_cons, pairL]
      rw [show 2 * (m + 1) = 2 * m + 2 by omega] at ih
      rw [ih]
      simp [List.getD_eq_getElem?_getD, show 2 * m + 2 + 1 = (2 * m + 1) + 1 + 1 by omega]
theorem pair_end : ∀ (l : List (List UInt8)) (m : Nat), ¬ 2 * m + 1 < l.length → pairL (l.take (2 * m)) = pairL l
  | [], m, h => by simp
  | [a], 0, h => rfl
  | [a], m + 1, h => by rw [show 2 * (m + 1) = 2 * m + 1 + 1 by omega]; simp
  | a :: b :: r, 0, h => by simp at h
  | a :: b :: r, m + 1, h => by
      have ih := pair_end r m (by simp at h; omega)
      rw [show 2 * (m + 1) = 2 * m + 2 by omega]
      simp only [List.take_succ_cons, pairL]
      rw [ih]
theorem pair_len : ∀ (l : List (List UInt8)), (pairL l).length ≤ l.length
  | [] => by simp [pairL]
  | [_] => by simp [pairL]
  | a :: b :: r => by have := pair_len r; simp only [pairL, List.length_cons]; omega

set_option maxRecDepth 20000 in
set_option maxHeartbeats 4000000 in
theorem con46 {l : List (List UInt8)} (hs : ∀ s ∈ l, s.length < 1000000000000) (hl : l.length < 1000000000000) :
    Con 46 [.dat (.sl 1 (fun _ => l.length) (strRow l))] [] (.agg [.bool (.s fun _ => true), .own 2000]) [(2000, .arrD 74 4 (fun _ => (pairL l).length) (lrow encE fun _ => pairL l))] := by
  refine con_of Try.func46 rfl rfl 31 _ rfl rfl rfl rfl ?_
  cbv
  refine ⟨Nat, [500], fun m => [(4, .int .i64 (.s fun _ => 2 * (m : Int)))],
    fun m => [(2, .cells 24 [.bool .f, .nil]), (3, .cells 24 [.bool .t, .own 500]), (500, .arrD 74 4 (fun _ => (pairL (l.take (2 * m))).length) (lrow encE fun _ => pairL (l.take (2 * m))))],
    fun m => 2 * m ≤ l.length + 1, fun m => l.length + 2 - 2 * m, 0, [(500, none)], by omega, ⟨?_⟩, fun m hm => ?_⟩
  · cbv
    and_intros
    all_goals first | exact trivial | exact ⟨rfl⟩ | exact ⟨by kernel_rfl⟩
  · have hm : 2 * m ≤ l.length + 1 := hm
    have b1 : bound64 (2 * (m : Int) + 1) := by unfold bound64; omega
    have b2 : bound64 (2 * (m : Int) + 2) := by unfold bound64; omega
    cbv
    refine ⟨⟨b1⟩, ?_⟩
    cbv
    refine ⟨fun h1 => ?_, fun h1 => ?_⟩
    · have h1 : 2 * (m : Int) + 1 < (l.length : Int) := of_decide_eq_true h1
      have hlt : 2 * m + 1 < l.length := by omega
      have t1 : (2 * (m : Int)).toNat = 2 * m := by omega
      have t2 : (2 * (m : Int) + 1).toNat = 2 * m + 1 := by omega
      have o1 : indexObl (2 * (m : Int)) l.length := ⟨by omega, by omega⟩
      have o2 : indexObl (2 * (m : Int) + 1) l.length := ⟨by omega, by omega⟩
      have s1 : (l.getD (2 * (m : Int)).toNat default).length < 1000000000000 := by rw [t1]; exact hs _ (getD_mem (by omega))
      have s2 : (l.getD (2 * (m : Int) + 1).toNat default).length < 1000000000000 := by rw [t2]; exact hs _ (getD_mem (by omega))
      have q1 : lenOk (l.getD (2 * (m : Int)).toNat default).length 1 := by unfold lenOk; omega
      have q2 : lenOk (l.getD (2 * (m : Int) + 1).toNat default).length 1 := by unfold lenOk; omega
      have hap := app_ok (pairL (l.take (2 * m))) ⟨l.getD (2 * (m : Int)).toNat default, l.getD (2 * (m : Int) + 1).toNat default, 0, 0⟩
      have hpn := pair_next l m hlt
      have hpl := pair_len (l.take (2 * m))
      have hlo : lenOk ((pairL (l.take (2 * m))).length + 1) 56 := by
        simp only [List.length_take] at hpl
        unfold lenOk; omega
      have hra := row_app (es := pairL (l.take (2 * m))) (e := ⟨l.getD (2 * (m : Int)).toNat default, l.getD (2 * (m : Int) + 1).toNat default, 0, 0⟩) (new := pairL (l.take (2 * (m + 1)))) (by rw [hpn, t1, t2])
      have hmi : 2 * (m + 1) ≤ l.length + 1 := by omega
      have hms : l.length + 2 - 2 * (m + 1) < l.length + 2 - 2 * m := by omega
      have em : 2 * (m : Int) + 2 = 2 * ((m + 1 : Nat) : Int) := by omega
      clear h1 s1 s2 hpn hpl
      cbv
      refine ⟨⟨o1⟩, ⟨q1⟩, ⟨b1⟩, ⟨o2⟩, ⟨q2⟩, ?_⟩
      cbv
      refine ⟨⟨hlo, hap⟩, ?_⟩
      cbv
      refine ⟨⟨by kernel_rfl⟩, ?_⟩
      cbv
      refine ⟨⟨b2⟩, m + 1, [(500, some 28)], hmi, hms, ⟨?_⟩, ⟨?_⟩⟩
      · kernel_rfl
      · cbv
        and_intros
        all_goals first | exact trivial | exact ⟨rfl⟩ | exact ⟨em⟩ | exact ⟨hra⟩ | exact ⟨by kernel_rfl⟩
    · have h1 : ¬ 2 * (m : Int) + 1 < (l.length : Int) := of_decide_eq_false h1
      have e1 := row_le (pair_end l m (by omega))
      clear h1
      cbv
      refine ⟨[(2000, some 500)], [], ?_⟩
      cbv
      and_intros
      all_goals first | exact trivial | exact ⟨rfl⟩ | exact ⟨e1⟩ | exact ⟨by kernel_rfl⟩
end Go.Proofs.Ytmdfjipjkkjpcaa
