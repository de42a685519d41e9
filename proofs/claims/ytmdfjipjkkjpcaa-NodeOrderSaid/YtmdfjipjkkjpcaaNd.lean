/- Node laws: what may be. -/
import Derived.Test.YtmdfjipjkkjpcaaNc
namespace Go.Proofs.Ytmdfjipjkkjpcaa
open Go.SX

def isPageB (n : Int) : Bool := decide (2 ≤ n) && decide (n < 16384)

theorem con98 {n : Int} : Con 98 [.int .u32 (.s fun _ => n)] [] (.bool (.s fun _ => isPageB n)) [] := by
  refine con_of Try.func98 rfl rfl 9 _ rfl rfl rfl rfl ?_
  cbv
  refine ⟨fun h1 => ?_, fun h1 => ?_⟩
  · have h1 : 2 ≤ n := of_decide_eq_true h1
    have e : decide (n < 16384) = isPageB n := by simp [isPageB, h1]
    cbv
    refine ⟨[], [], ?_⟩
    cbv
    exact ⟨⟨e⟩, ⟨rfl⟩⟩
  · have h1 : ¬ (2 ≤ n) := of_decide_eq_false h1
    have e : false = isPageB n := by simp [isPageB, h1]
    cbv
    refine ⟨[], [], ?_⟩
    cbv
    exact ⟨⟨e⟩, ⟨rfl⟩⟩

def kidB (e : Ent) : Bool := decide (e.val.length = 0) && (decide (e.size = 0) && isPageB e.page)

theorem con86 {e : Ent} : Con 86 [entSV e] [] (.bool (.s fun _ => kidB e)) [] := by
  refine con_of Try.func86 rfl rfl 17 _ rfl rfl rfl rfl ?_
  cbv
  refine ⟨fun h1 => ?_, fun h1 => ?_⟩
  · have h1 : (e.val.length : Int) = 0 := of_decide_eq_true h1
    have h1 : e.val.length = 0 := by omega
    cbv
    refine ⟨fun h2 => ?_, fun h2 => ?_⟩
    · have h2 : e.size = 0 := of_decide_eq_true h2
      have e1 : isPageB e.page = kidB e := by simp [kidB, h1, h2]
      cbv
      refine ⟨_, _, con98, ⟨rfl⟩, ?_⟩
      cbv
      refine ⟨[], [], ?_⟩
      cbv
      exact ⟨⟨e1⟩, ⟨rfl⟩⟩
    · have h2 : ¬ (e.size = 0) := of_decide_eq_false h2
      have e1 : false = kidB e := by simp [kidB, h2]
      cbv
      refine ⟨[], [], ?_⟩
      cbv
      exact ⟨⟨e1⟩, ⟨rfl⟩⟩
  · have h1 : ¬ ((e.val.length : Int) = 0) := of_decide_eq_false h1
    have h1 : ¬ (e.val.length = 0) := by omega
    have e1 : false = kidB e := by simp only [kidB, h1, decide_false, Bool.false_and]
    cbv
    refine ⟨[], [], ?_⟩
    cbv
    exact ⟨⟨e1⟩, ⟨rfl⟩⟩
def leafyB (e : Ent) : Bool :=
  if e.page = 0 then decide (e.size = 0) && decide (e.val.length ≤ 64)
  else decide (e.val.length = 0) && (isPageB e.page && (decide (64 < e.size) && decide (e.size ≤ 8192)))

theorem con87 {e : Ent} : Con 87 [entSV e] [] (.bool (.s fun _ => leafyB e)) [] := by
  refine con_of Try.func87 rfl rfl 34 _ rfl rfl rfl rfl ?_
  cbv
  refine ⟨fun h1 => ?_, fun h1 => ?_⟩
  · have h1 : e.page = 0 := of_decide_eq_true h1
    have e0 : leafyB e = (decide (e.size = 0) && decide (e.val.length ≤ 64)) := if_pos h1
    cbv
    refine ⟨fun h2 => ?_, fun h2 => ?_⟩
    · have h2 : e.size = 0 := of_decide_eq_true h2
      have e2 : decide ((e.val.length : Int) ≤ 64) = decide (e.val.length ≤ 64) := decide_eq_decide.2 (by omega)
      have e1 : decide ((e.val.length : Int) ≤ 64) = leafyB e := by rw [e0, h2, e2]; rfl
      clear e0
      cbv
      refine ⟨[], [], ?_⟩
      cbv
      exact ⟨⟨e1⟩, ⟨rfl⟩⟩
    · have h2 : ¬ (e.size = 0) := of_decide_eq_false h2
      have e1 : false = leafyB e := by rw [e0]; simp only [h2, decide_false, Bool.false_and]
      clear e0
      cbv
      refine ⟨[], [], ?_⟩
      cbv
      exact ⟨⟨e1⟩, ⟨rfl⟩⟩
  · have h1 : ¬ (e.page = 0) := of_decide_eq_false h1
    have e0 : leafyB e = (decide (e.val.length = 0) && (isPageB e.page && (decide (64 < e.size) && decide (e.size ≤ 8192)))) := if_neg h1
    cbv
    refine ⟨fun h2 => ?_, fun h2 => ?_⟩
    · have h2 : (e.val.length : Int) = 0 := of_decide_eq_true h2
      have h2 : e.val.length = 0 := by omega
      have e0 : leafyB e = (isPageB e.page && (decide (64 < e.size) && decide (e.size ≤ 8192))) := by rw [e0, h2]; rfl
      clear h2
      cbv
      refine ⟨_, _, con98, ⟨rfl⟩, ?_⟩
      cbv
      refine ⟨fun h3 => ?_, fun h3 => ?_⟩
      · have h3 : isPageB e.page = true := h3
        have e0 : leafyB e = (decide (64 < e.size) && decide (e.size ≤ 8192)) := by rw [e0, h3]; rfl
        cbv
        refine ⟨fun h4 => ?_, fun h4 => ?_⟩
        · have h4 : 64 < e.size := of_decide_eq_true h4
          have e1 : decide (e.size ≤ 8192) = leafyB e := by rw [e0]; simp only [h4, decide_true, Bool.true_and]
          clear e0
          cbv
          refine ⟨[], [], ?_⟩
          cbv
          exact ⟨⟨e1⟩, ⟨rfl⟩⟩
        · have h4 : ¬ (64 < e.size) := of_decide_eq_false h4
          have e1 : false = leafyB e := by rw [e0]; simp only [h4, decide_false, Bool.false_and]
          clear e0
          cbv
          refine ⟨[], [], ?_⟩
          cbv
          exact ⟨⟨e1⟩, ⟨rfl⟩⟩
      · have h3 : isPageB e.page = false := h3
        have e1 : false = leafyB e := by rw [e0, h3]; rfl
        clear e0
        cbv
        refine ⟨[], [], ?_⟩
        cbv
        exact ⟨⟨e1⟩, ⟨rfl⟩⟩
    · have h2 : ¬ ((e.val.length : Int) = 0) := of_decide_eq_false h2
      have h2 : ¬ (e.val.length = 0) := by omega
      have e1 : false = leafyB e := by rw [e0]; simp only [h2, decide_false, Bool.false_and]
      clear e0 h2
      cbv
      refine ⟨[], [], ?_⟩
      cbv
      exact ⟨⟨e1⟩, ⟨rfl⟩⟩
end Go.Proofs.Ytmdfjipjkkjpcaa
