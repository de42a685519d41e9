/- Node laws: Find. -/
import Derived.Test.YtmdfjipjkkjpcaaNp
namespace Go.Proofs.Ytmdfjipjkkjpcaa
open Go.SX

theorem binS_le {p : Nat → Bool} (i j : Nat) (h : i ≤ j) : i ≤ binS p i j ∧ binS p i j ≤ j := by
  rw [binS.eq_1 p i j]
  split
  · rename_i hlt
    split
    · have := binS_le (p := p) i ((i + j) / 2) (by omega); omega
    · have := binS_le (p := p) ((i + j) / 2 + 1) j (by omega); omega
  · omega
termination_by j - i
decreasing_by all_goals omega
theorem placeI_le {p : List UInt8 → Bool} {es : List Ent} : placeI p es ≤ es.length := (binS_le 0 es.length (Nat.zero_le _)).2

def foundB (es : List Ent) (key : List UInt8) : Bool := decide (placeI (geP key) es < es.length) && decide ((es.getD (placeI (geP key) es) default).key = key)

set_option maxRecDepth 20000 in
set_option maxHeartbeats 4000000 in
theorem con31t {es : List Ent} {key : List UInt8} (hl : es.length < 1000000000000) :
    Con 31 [nodeSV true es, .dat (.bytes fun _ => key)] [] (.tup [.int .i64 (.s fun _ => (placeI (geP key) es : Int)), .bool (.s fun _ => foundB es key)]) [] := by
  have hp := placeI_le (p := geP key) (es := es)
  obtain ⟨k, hk⟩ : ∃ k, k = placeI (geP key) es := ⟨_, rfl⟩
  have ca := con77_78 (key := key) (leaf := true) hl
  unfold foundB
  rw [← hk] at ca hp ⊢
  refine con_of Try.func31 rfl rfl 39 _ rfl rfl rfl rfl ?_
  cbv
  refine ⟨fun _ => ?_, fun h => by cases h⟩
  cbv
  refine ⟨_, _, ca, ⟨?_⟩, ?_⟩
  · kernel_rfl
  cbv
  refine ⟨fun h1 => ?_, fun h1 => ?_⟩
  · have h1 : (k : Int) < (es.length : Int) := of_decide_eq_true h1
    have hlt : k < es.length := by omega
    have o1 : indexObl (k : Int) es.length := ⟨by omega, h1⟩
    have e1 : decide ((es.getD k default).key = key) = (decide (k < es.length) && decide ((es.getD k default).key = key)) := by rw [decide_eq_true hlt, Bool.true_and]
    clear h1
    cbv
    refine ⟨⟨o1⟩, _, _, con73, ⟨?_⟩, ?_⟩
    · rfl
    cbv
    refine ⟨⟨by kernel_rfl⟩, ?_⟩
    cbv
    refine ⟨[], [], ?_⟩
    cbv
    and_intros
    all_goals first | exact trivial | exact ⟨e1⟩ | exact ⟨rfl⟩ | exact ⟨by kernel_rfl⟩
  · have h1 : ¬ (k : Int) < (es.length : Int) := of_decide_eq_false h1
    have e1 : false = (decide (k < es.length) && decide ((es.getD k default).key = key)) := by rw [decide_eq_false (by omega), Bool.false_and]
    clear h1
    cbv
    refine ⟨⟨by kernel_rfl⟩, ?_⟩
    cbv
    refine ⟨[], [], ?_⟩
    cbv
    and_intros
    all_goals first | exact trivial | exact ⟨e1⟩ | exact ⟨rfl⟩ | exact ⟨by kernel_rfl⟩

set_option maxRecDepth 20000 in
set_option maxHeartbeats 4000000 in
theorem con31f {es : List Ent} {key : List UInt8} (hl : es.length < 1000000000000) :
    Con 31 [nodeSV false es, .dat (.bytes fun _ => key)] [] (.tup [.int .i64 (.s fun _ => ((placeI (gtP key) es - 1 : Nat) : Int)), .bool (.s fun _ => decide (0 < es.length))]) [] := by
  have hp := placeI_le (p := gtP key) (es := es)
  obtain ⟨k, hk⟩ : ∃ k, k = placeI (gtP key) es := ⟨_, rfl⟩
  have ca := con77_80 (key := key) (leaf := false) hl
  rw [← hk] at ca hp ⊢
  have b1 : bound64 ((k : Int) - 1) := by unfold bound64; omega
  obtain ⟨k', hk'⟩ : ∃ k', k' = k - 1 := ⟨_, rfl⟩
  have e1 : (if (k : Int) - 1 > 0 then (k : Int) - 1 else 0) = (k' : Int) := by split <;> omega
  have e2 : decide ((0 : Int) < (es.length : Int)) = decide (0 < es.length) := decide_eq_decide.2 (by omega)
  rw [← hk']
  refine con_of Try.func31 rfl rfl 39 _ rfl rfl rfl rfl ?_
  cbv
  refine ⟨fun h => (by cases h), fun _ => ?_⟩
  cbv
  refine ⟨_, _, ca, ⟨?_⟩, ?_⟩
  · kernel_rfl
  cbv
  refine ⟨⟨b1⟩, ⟨by kernel_rfl⟩, ?_⟩
  cbv
  refine ⟨[], [], ?_⟩
  cbv
  and_intros
  all_goals first | exact trivial | exact ⟨e1⟩ | exact ⟨e2⟩ | exact ⟨rfl⟩ | exact ⟨by kernel_rfl⟩
end Go.Proofs.Ytmdfjipjkkjpcaa
