/- Texts put together: Wj, Wp, Wk, Wo, Wr, Yq, Wt. -/
import Derived.Test.YtmdfjipjkkjpcaaVl
/- Nothing is owned: no lists were put down. -/
namespace Go.Proofs.Ytmdfjipjkkjpcaa
open Go.SX

theorem lt_self0 (h : decide ((0 : Int) < 0) = true) : False := by simp at h

set_option maxRecDepth 20000 in
set_option maxHeartbeats 400000 in
theorem con50 : Con 50 [.nil] [] (.bool .t) [] := by
  refine con_of Try.func50 rfl rfl 120 _ rfl rfl rfl rfl ?_
  cbv
  refine ⟨Unit, [], fun _ => [(3, .int .i64 (.l 0))], fun _ => [], fun _ => True, fun _ => 0, (), [], trivial, ⟨?_⟩, fun _ _ => ?_⟩
  · cbv
    and_intros
    all_goals first | exact trivial | exact ⟨rfl⟩ | exact ⟨by kernel_rfl⟩
  cbv
  refine And.intro ?_ ?_
  · intro h
    exact False.elim (lt_self0 h)
  intro h
  clear h
  cbv
  refine ⟨Unit, [], fun _ => [(6, .int .i64 (.l 0))], fun _ => [], fun _ => True, fun _ => 0, (), [], trivial, ⟨?_⟩, fun _ _ => ?_⟩
  · cbv
    and_intros
    all_goals first | exact trivial | exact ⟨rfl⟩ | exact ⟨by kernel_rfl⟩
  cbv
  refine And.intro ?_ ?_
  · intro h
    exact False.elim (lt_self0 h)
  intro h
  clear h
  cbv
  refine ⟨Unit, [], fun _ => [(9, .int .i64 (.l 0))], fun _ => [], fun _ => True, fun _ => 0, (), [], trivial, ⟨?_⟩, fun _ _ => ?_⟩
  · cbv
    and_intros
    all_goals first | exact trivial | exact ⟨rfl⟩ | exact ⟨by kernel_rfl⟩
  cbv
  refine And.intro ?_ ?_
  · intro h
    exact False.elim (lt_self0 h)
  intro h
  clear h
  cbv
  refine ⟨[], [], ?_⟩
  cbv
  and_intros
  all_goals first | exact trivial | exact ⟨rfl⟩ | exact ⟨by kernel_rfl⟩

set_option maxRecDepth 20000 in
set_option maxHeartbeats 400000 in
theorem con51 : Con 51 [.nil] [] (.bool .t) [] := by
  refine con_of Try.func51 rfl rfl 125 _ rfl rfl rfl rfl ?_
  cbv
  refine ⟨Unit, [], fun _ => [(3, .int .i64 (.l 0))], fun _ => [], fun _ => True, fun _ => 0, (), [], trivial, ⟨?_⟩, fun _ _ => ?_⟩
  · cbv
    and_intros
    all_goals first | exact trivial | exact ⟨rfl⟩ | exact ⟨by kernel_rfl⟩
  cbv
  refine And.intro ?_ ?_
  · intro h
    exact False.elim (lt_self0 h)
  intro h
  clear h
  cbv
  refine ⟨Unit, [], fun _ => [(6, .int .i64 (.l 0))], fun _ => [], fun _ => True, fun _ => 0, (), [], trivial, ⟨?_⟩, fun _ _ => ?_⟩
  · cbv
    and_intros
    all_goals first | exact trivial | exact ⟨rfl⟩ | exact ⟨by kernel_rfl⟩
  cbv
  refine And.intro ?_ ?_
  · intro h
    exact False.elim (lt_self0 h)
  intro h
  clear h
  cbv
  refine ⟨Unit, [], fun _ => [(9, .int .i64 (.l 0))], fun _ => [], fun _ => True, fun _ => 0, (), [], trivial, ⟨?_⟩, fun _ _ => ?_⟩
  · cbv
    and_intros
    all_goals first | exact trivial | exact ⟨rfl⟩ | exact ⟨by kernel_rfl⟩
  cbv
  refine And.intro ?_ ?_
  · intro h
    exact False.elim (lt_self0 h)
  intro h
  clear h
  cbv
  refine ⟨[], [], ?_⟩
  cbv
  and_intros
  all_goals first | exact trivial | exact ⟨rfl⟩ | exact ⟨by kernel_rfl⟩

set_option maxRecDepth 20000 in
set_option maxHeartbeats 400000 in
theorem con52 : Con 52 [.nil] [] (.bool .t) [] := by
  refine con_of Try.func52 rfl rfl 125 _ rfl rfl rfl rfl ?_
  cbv
  refine ⟨Unit, [], fun _ => [(3, .int .i64 (.l 0))], fun _ => [], fun _ => True, fun _ => 0, (), [], trivial, ⟨?_⟩, fun _ _ => ?_⟩
  · cbv
    and_intros
    all_goals first | exact trivial | exact ⟨rfl⟩ | exact ⟨by kernel_rfl⟩
  cbv
  refine And.intro ?_ ?_
  · intro h
    exact False.elim (lt_self0 h)
  intro h
  clear h
  cbv
  refine ⟨Unit, [], fun _ => [(6, .int .i64 (.l 0))], fun _ => [], fun _ => True, fun _ => 0, (), [], trivial, ⟨?_⟩, fun _ _ => ?_⟩
  · cbv
    and_intros
    all_goals first | exact trivial | exact ⟨rfl⟩ | exact ⟨by kernel_rfl⟩
  cbv
  refine And.intro ?_ ?_
  · intro h
    exact False.elim (lt_self0 h)
  intro h
  clear h
  cbv
  refine ⟨Unit, [], fun _ => [(9, .int .i64 (.l 0))], fun _ => [], fun _ => True, fun _ => 0, (), [], trivial, ⟨?_⟩, fun _ _ => ?_⟩
  · cbv
    and_intros
    all_goals first | exact trivial | exact ⟨rfl⟩ | exact ⟨by kernel_rfl⟩
  cbv
  refine And.intro ?_ ?_
  · intro h
    exact False.elim (lt_self0 h)
  intro h
  clear h
  cbv
  refine ⟨[], [], ?_⟩
  cbv
  and_intros
  all_goals first | exact trivial | exact ⟨rfl⟩ | exact ⟨by kernel_rfl⟩

set_option maxRecDepth 20000 in
set_option maxHeartbeats 400000 in
theorem con53 : Con 53 [.nil] [] (.bool .t) [] := by
  refine con_of Try.func53 rfl rfl 135 _ rfl rfl rfl rfl ?_
  cbv
  refine ⟨Unit, [], fun _ => [(3, .int .i64 (.l 0))], fun _ => [], fun _ => True, fun _ => 0, (), [], trivial, ⟨?_⟩, fun _ _ => ?_⟩
  · cbv
    and_intros
    all_goals first | exact trivial | exact ⟨rfl⟩ | exact ⟨by kernel_rfl⟩
  cbv
  refine And.intro ?_ ?_
  · intro h
    exact False.elim (lt_self0 h)
  intro h
  clear h
  cbv
  refine ⟨Unit, [], fun _ => [(6, .int .i64 (.l 0))], fun _ => [], fun _ => True, fun _ => 0, (), [], trivial, ⟨?_⟩, fun _ _ => ?_⟩
  · cbv
    and_intros
    all_goals first | exact trivial | exact ⟨rfl⟩ | exact ⟨by kernel_rfl⟩
  cbv
  refine And.intro ?_ ?_
  · intro h
    exact False.elim (lt_self0 h)
  intro h
  clear h
  cbv
  refine ⟨Unit, [], fun _ => [(9, .int .i64 (.l 0))], fun _ => [], fun _ => True, fun _ => 0, (), [], trivial, ⟨?_⟩, fun _ _ => ?_⟩
  · cbv
    and_intros
    all_goals first | exact trivial | exact ⟨rfl⟩ | exact ⟨by kernel_rfl⟩
  cbv
  refine And.intro ?_ ?_
  · intro h
    exact False.elim (lt_self0 h)
  intro h
  clear h
  cbv
  refine ⟨[], [], ?_⟩
  cbv
  and_intros
  all_goals first | exact trivial | exact ⟨rfl⟩ | exact ⟨by kernel_rfl⟩

set_option maxRecDepth 20000 in
set_option maxHeartbeats 400000 in
theorem con54 : Con 54 [.nil] [] (.bool .t) [] := by
  refine con_of Try.func54 rfl rfl 135 _ rfl rfl rfl rfl ?_
  cbv
  refine ⟨Unit, [], fun _ => [(3, .int .i64 (.l 0))], fun _ => [], fun _ => True, fun _ => 0, (), [], trivial, ⟨?_⟩, fun _ _ => ?_⟩
  · cbv
    and_intros
    all_goals first | exact trivial | exact ⟨rfl⟩ | exact ⟨by kernel_rfl⟩
  cbv
  refine And.intro ?_ ?_
  · intro h
    exact False.elim (lt_self0 h)
  intro h
  clear h
  cbv
  refine ⟨Unit, [], fun _ => [(6, .int .i64 (.l 0))], fun _ => [], fun _ => True, fun _ => 0, (), [], trivial, ⟨?_⟩, fun _ _ => ?_⟩
  · cbv
    and_intros
    all_goals first | exact trivial | exact ⟨rfl⟩ | exact ⟨by kernel_rfl⟩
  cbv
  refine And.intro ?_ ?_
  · intro h
    exact False.elim (lt_self0 h)
  intro h
  clear h
  cbv
  refine ⟨Unit, [], fun _ => [(9, .int .i64 (.l 0))], fun _ => [], fun _ => True, fun _ => 0, (), [], trivial, ⟨?_⟩, fun _ _ => ?_⟩
  · cbv
    and_intros
    all_goals first | exact trivial | exact ⟨rfl⟩ | exact ⟨by kernel_rfl⟩
  cbv
  refine And.intro ?_ ?_
  · intro h
    exact False.elim (lt_self0 h)
  intro h
  clear h
  cbv
  refine ⟨[], [], ?_⟩
  cbv
  and_intros
  all_goals first | exact trivial | exact ⟨rfl⟩ | exact ⟨by kernel_rfl⟩

set_option maxRecDepth 20000 in
set_option maxHeartbeats 400000 in
theorem con55 : Con 55 [.nil] [] (.bool .t) [] := by
  refine con_of Try.func55 rfl rfl 130 _ rfl rfl rfl rfl ?_
  cbv
  refine ⟨Unit, [], fun _ => [(3, .int .i64 (.l 0))], fun _ => [], fun _ => True, fun _ => 0, (), [], trivial, ⟨?_⟩, fun _ _ => ?_⟩
  · cbv
    and_intros
    all_goals first | exact trivial | exact ⟨rfl⟩ | exact ⟨by kernel_rfl⟩
  cbv
  refine And.intro ?_ ?_
  · intro h
    exact False.elim (lt_self0 h)
  intro h
  clear h
  cbv
  refine ⟨Unit, [], fun _ => [(6, .int .i64 (.l 0))], fun _ => [], fun _ => True, fun _ => 0, (), [], trivial, ⟨?_⟩, fun _ _ => ?_⟩
  · cbv
    and_intros
    all_goals first | exact trivial | exact ⟨rfl⟩ | exact ⟨by kernel_rfl⟩
  cbv
  refine And.intro ?_ ?_
  · intro h
    exact False.elim (lt_self0 h)
  intro h
  clear h
  cbv
  refine ⟨Unit, [], fun _ => [(9, .int .i64 (.l 0))], fun _ => [], fun _ => True, fun _ => 0, (), [], trivial, ⟨?_⟩, fun _ _ => ?_⟩
  · cbv
    and_intros
    all_goals first | exact trivial | exact ⟨rfl⟩ | exact ⟨by kernel_rfl⟩
  cbv
  refine And.intro ?_ ?_
  · intro h
    exact False.elim (lt_self0 h)
  intro h
  clear h
  cbv
  refine ⟨[], [], ?_⟩
  cbv
  and_intros
  all_goals first | exact trivial | exact ⟨rfl⟩ | exact ⟨by kernel_rfl⟩

set_option maxRecDepth 20000 in
set_option maxHeartbeats 400000 in
theorem con56 : Con 56 [.nil] [] (.bool .t) [] := by
  refine con_of Try.func56 rfl rfl 125 _ rfl rfl rfl rfl ?_
  cbv
  refine ⟨Unit, [], fun _ => [(3, .int .i64 (.l 0))], fun _ => [], fun _ => True, fun _ => 0, (), [], trivial, ⟨?_⟩, fun _ _ => ?_⟩
  · cbv
    and_intros
    all_goals first | exact trivial | exact ⟨rfl⟩ | exact ⟨by kernel_rfl⟩
  cbv
  refine And.intro ?_ ?_
  · intro h
    exact False.elim (lt_self0 h)
  intro h
  clear h
  cbv
  refine ⟨Unit, [], fun _ => [(6, .int .i64 (.l 0))], fun _ => [], fun _ => True, fun _ => 0, (), [], trivial, ⟨?_⟩, fun _ _ => ?_⟩
  · cbv
    and_intros
    all_goals first | exact trivial | exact ⟨rfl⟩ | exact ⟨by kernel_rfl⟩
  cbv
  refine And.intro ?_ ?_
  · intro h
    exact False.elim (lt_self0 h)
  intro h
  clear h
  cbv
  refine ⟨Unit, [], fun _ => [(9, .int .i64 (.l 0))], fun _ => [], fun _ => True, fun _ => 0, (), [], trivial, ⟨?_⟩, fun _ _ => ?_⟩
  · cbv
    and_intros
    all_goals first | exact trivial | exact ⟨rfl⟩ | exact ⟨by kernel_rfl⟩
  cbv
  refine And.intro ?_ ?_
  · intro h
    exact False.elim (lt_self0 h)
  intro h
  clear h
  cbv
  refine ⟨[], [], ?_⟩
  cbv
  and_intros
  all_goals first | exact trivial | exact ⟨rfl⟩ | exact ⟨by kernel_rfl⟩

set_option maxRecDepth 20000 in
set_option maxHeartbeats 400000 in
theorem con57 : Con 57 [.nil] [] (.bool .t) [] := by
  refine con_of Try.func57 rfl rfl 130 _ rfl rfl rfl rfl ?_
  cbv
  refine ⟨Unit, [], fun _ => [(3, .int .i64 (.l 0))], fun _ => [], fun _ => True, fun _ => 0, (), [], trivial, ⟨?_⟩, fun _ _ => ?_⟩
  · cbv
    and_intros
    all_goals first | exact trivial | exact ⟨rfl⟩ | exact ⟨by kernel_rfl⟩
  cbv
  refine And.intro ?_ ?_
  · intro h
    exact False.elim (lt_self0 h)
  intro h
  clear h
  cbv
  refine ⟨Unit, [], fun _ => [(6, .int .i64 (.l 0))], fun _ => [], fun _ => True, fun _ => 0, (), [], trivial, ⟨?_⟩, fun _ _ => ?_⟩
  · cbv
    and_intros
    all_goals first | exact trivial | exact ⟨rfl⟩ | exact ⟨by kernel_rfl⟩
  cbv
  refine And.intro ?_ ?_
  · intro h
    exact False.elim (lt_self0 h)
  intro h
  clear h
  cbv
  refine ⟨Unit, [], fun _ => [(9, .int .i64 (.l 0))], fun _ => [], fun _ => True, fun _ => 0, (), [], trivial, ⟨?_⟩, fun _ _ => ?_⟩
  · cbv
    and_intros
    all_goals first | exact trivial | exact ⟨rfl⟩ | exact ⟨by kernel_rfl⟩
  cbv
  refine And.intro ?_ ?_
  · intro h
    exact False.elim (lt_self0 h)
  intro h
  clear h
  cbv
  refine ⟨[], [], ?_⟩
  cbv
  and_intros
  all_goals first | exact trivial | exact ⟨rfl⟩ | exact ⟨by kernel_rfl⟩

set_option maxRecDepth 20000 in
set_option maxHeartbeats 400000 in
theorem con58 : Con 58 [.nil] [] (.bool .t) [] := by
  refine con_of Try.func58 rfl rfl 178 _ rfl rfl rfl rfl ?_
  cbv
  refine ⟨Unit, [], fun _ => [(3, .int .i64 (.l 0))], fun _ => [], fun _ => True, fun _ => 0, (), [], trivial, ⟨?_⟩, fun _ _ => ?_⟩
  · cbv
    and_intros
    all_goals first | exact trivial | exact ⟨rfl⟩ | exact ⟨by kernel_rfl⟩
  cbv
  refine And.intro ?_ ?_
  · intro h
    exact False.elim (lt_self0 h)
  intro h
  clear h
  cbv
  refine ⟨Unit, [], fun _ => [(6, .int .i64 (.l 0))], fun _ => [], fun _ => True, fun _ => 0, (), [], trivial, ⟨?_⟩, fun _ _ => ?_⟩
  · cbv
    and_intros
    all_goals first | exact trivial | exact ⟨rfl⟩ | exact ⟨by kernel_rfl⟩
  cbv
  refine And.intro ?_ ?_
  · intro h
    exact False.elim (lt_self0 h)
  intro h
  clear h
  cbv
  refine ⟨Unit, [], fun _ => [(9, .int .i64 (.l 0))], fun _ => [], fun _ => True, fun _ => 0, (), [], trivial, ⟨?_⟩, fun _ _ => ?_⟩
  · cbv
    and_intros
    all_goals first | exact trivial | exact ⟨rfl⟩ | exact ⟨by kernel_rfl⟩
  cbv
  refine And.intro ?_ ?_
  · intro h
    exact False.elim (lt_self0 h)
  intro h
  clear h
  cbv
  refine ⟨[], [], ?_⟩
  cbv
  and_intros
  all_goals first | exact trivial | exact ⟨rfl⟩ | exact ⟨by kernel_rfl⟩

set_option maxRecDepth 20000 in
set_option maxHeartbeats 400000 in
theorem con59 : Con 59 [.nil] [] (.bool .t) [] := by
  refine con_of Try.func59 rfl rfl 163 _ rfl rfl rfl rfl ?_
  cbv
  refine ⟨Unit, [], fun _ => [(3, .int .i64 (.l 0))], fun _ => [], fun _ => True, fun _ => 0, (), [], trivial, ⟨?_⟩, fun _ _ => ?_⟩
  · cbv
    and_intros
    all_goals first | exact trivial | exact ⟨rfl⟩ | exact ⟨by kernel_rfl⟩
  cbv
  refine And.intro ?_ ?_
  · intro h
    exact False.elim (lt_self0 h)
  intro h
  clear h
  cbv
  refine ⟨Unit, [], fun _ => [(6, .int .i64 (.l 0))], fun _ => [], fun _ => True, fun _ => 0, (), [], trivial, ⟨?_⟩, fun _ _ => ?_⟩
  · cbv
    and_intros
    all_goals first | exact trivial | exact ⟨rfl⟩ | exact ⟨by kernel_rfl⟩
  cbv
  refine And.intro ?_ ?_
  · intro h
    exact False.elim (lt_self0 h)
  intro h
  clear h
  cbv
  refine ⟨Unit, [], fun _ => [(9, .int .i64 (.l 0))], fun _ => [], fun _ => True, fun _ => 0, (), [], trivial, ⟨?_⟩, fun _ _ => ?_⟩
  · cbv
    and_intros
    all_goals first | exact trivial | exact ⟨rfl⟩ | exact ⟨by kernel_rfl⟩
  cbv
  refine And.intro ?_ ?_
  · intro h
    exact False.elim (lt_self0 h)
  intro h
  clear h
  cbv
  refine ⟨[], [], ?_⟩
  cbv
  and_intros
  all_goals first | exact trivial | exact ⟨rfl⟩ | exact ⟨by kernel_rfl⟩

set_option maxRecDepth 20000 in
set_option maxHeartbeats 400000 in
theorem con60 : Con 60 [.nil] [] (.bool .t) [] := by
  refine con_of Try.func60 rfl rfl 168 _ rfl rfl rfl rfl ?_
  cbv
  refine ⟨Unit, [], fun _ => [(3, .int .i64 (.l 0))], fun _ => [], fun _ => True, fun _ => 0, (), [], trivial, ⟨?_⟩, fun _ _ => ?_⟩
  · cbv
    and_intros
    all_goals first | exact trivial | exact ⟨rfl⟩ | exact ⟨by kernel_rfl⟩
  cbv
  refine And.intro ?_ ?_
  · intro h
    exact False.elim (lt_self0 h)
  intro h
  clear h
  cbv
  refine ⟨Unit, [], fun _ => [(6, .int .i64 (.l 0))], fun _ => [], fun _ => True, fun _ => 0, (), [], trivial, ⟨?_⟩, fun _ _ => ?_⟩
  · cbv
    and_intros
    all_goals first | exact trivial | exact ⟨rfl⟩ | exact ⟨by kernel_rfl⟩
  cbv
  refine And.intro ?_ ?_
  · intro h
    exact False.elim (lt_self0 h)
  intro h
  clear h
  cbv
  refine ⟨Unit, [], fun _ => [(9, .int .i64 (.l 0))], fun _ => [], fun _ => True, fun _ => 0, (), [], trivial, ⟨?_⟩, fun _ _ => ?_⟩
  · cbv
    and_intros
    all_goals first | exact trivial | exact ⟨rfl⟩ | exact ⟨by kernel_rfl⟩
  cbv
  refine And.intro ?_ ?_
  · intro h
    exact False.elim (lt_self0 h)
  intro h
  clear h
  cbv
  refine ⟨[], [], ?_⟩
  cbv
  and_intros
  all_goals first | exact trivial | exact ⟨rfl⟩ | exact ⟨by kernel_rfl⟩

set_option maxRecDepth 20000 in
set_option maxHeartbeats 400000 in
theorem con61 : Con 61 [.nil] [] (.bool .t) [] := by
  refine con_of Try.func61 rfl rfl 173 _ rfl rfl rfl rfl ?_
  cbv
  refine ⟨Unit, [], fun _ => [(3, .int .i64 (.l 0))], fun _ => [], fun _ => True, fun _ => 0, (), [], trivial, ⟨?_⟩, fun _ _ => ?_⟩
  · cbv
    and_intros
    all_goals first | exact trivial | exact ⟨rfl⟩ | exact ⟨by kernel_rfl⟩
  cbv
  refine And.intro ?_ ?_
  · intro h
    exact False.elim (lt_self0 h)
  intro h
  clear h
  cbv
  refine ⟨Unit, [], fun _ => [(6, .int .i64 (.l 0))], fun _ => [], fun _ => True, fun _ => 0, (), [], trivial, ⟨?_⟩, fun _ _ => ?_⟩
  · cbv
    and_intros
    all_goals first | exact trivial | exact ⟨rfl⟩ | exact ⟨by kernel_rfl⟩
  cbv
  refine And.intro ?_ ?_
  · intro h
    exact False.elim (lt_self0 h)
  intro h
  clear h
  cbv
  refine ⟨Unit, [], fun _ => [(9, .int .i64 (.l 0))], fun _ => [], fun _ => True, fun _ => 0, (), [], trivial, ⟨?_⟩, fun _ _ => ?_⟩
  · cbv
    and_intros
    all_goals first | exact trivial | exact ⟨rfl⟩ | exact ⟨by kernel_rfl⟩
  cbv
  refine And.intro ?_ ?_
  · intro h
    exact False.elim (lt_self0 h)
  intro h
  clear h
  cbv
  refine ⟨[], [], ?_⟩
  cbv
  and_intros
  all_goals first | exact trivial | exact ⟨rfl⟩ | exact ⟨by kernel_rfl⟩

set_option maxRecDepth 20000 in
set_option maxHeartbeats 400000 in
theorem con62 : Con 62 [.nil] [] (.bool .t) [] := by
  refine con_of Try.func62 rfl rfl 186 _ rfl rfl rfl rfl ?_
  cbv
  refine ⟨Unit, [], fun _ => [(3, .int .i64 (.l 0))], fun _ => [], fun _ => True, fun _ => 0, (), [], trivial, ⟨?_⟩, fun _ _ => ?_⟩
  · cbv
    and_intros
    all_goals first | exact trivial | exact ⟨rfl⟩ | exact ⟨by kernel_rfl⟩
  cbv
  refine And.intro ?_ ?_
  · intro h
    exact False.elim (lt_self0 h)
  intro h
  clear h
  cbv
  refine ⟨Unit, [], fun _ => [(6, .int .i64 (.l 0))], fun _ => [], fun _ => True, fun _ => 0, (), [], trivial, ⟨?_⟩, fun _ _ => ?_⟩
  · cbv
    and_intros
    all_goals first | exact trivial | exact ⟨rfl⟩ | exact ⟨by kernel_rfl⟩
  cbv
  refine And.intro ?_ ?_
  · intro h
    exact False.elim (lt_self0 h)
  intro h
  clear h
  cbv
  refine ⟨Unit, [], fun _ => [(9, .int .i64 (.l 0))], fun _ => [], fun _ => True, fun _ => 0, (), [], trivial, ⟨?_⟩, fun _ _ => ?_⟩
  · cbv
    and_intros
    all_goals first | exact trivial | exact ⟨rfl⟩ | exact ⟨by kernel_rfl⟩
  cbv
  refine And.intro ?_ ?_
  · intro h
    exact False.elim (lt_self0 h)
  intro h
  clear h
  cbv
  refine ⟨[], [], ?_⟩
  cbv
  and_intros
  all_goals first | exact trivial | exact ⟨rfl⟩ | exact ⟨by kernel_rfl⟩

set_option maxRecDepth 20000 in
set_option maxHeartbeats 400000 in
theorem con63 : Con 63 [.nil] [] (.bool .t) [] := by
  refine con_of Try.func63 rfl rfl 186 _ rfl rfl rfl rfl ?_
  cbv
  refine ⟨Unit, [], fun _ => [(3, .int .i64 (.l 0))], fun _ => [], fun _ => True, fun _ => 0, (), [], trivial, ⟨?_⟩, fun _ _ => ?_⟩
  · cbv
    and_intros
    all_goals first | exact trivial | exact ⟨rfl⟩ | exact ⟨by kernel_rfl⟩
  cbv
  refine And.intro ?_ ?_
  · intro h
    exact False.elim (lt_self0 h)
  intro h
  clear h
  cbv
  refine ⟨Unit, [], fun _ => [(6, .int .i64 (.l 0))], fun _ => [], fun _ => True, fun _ => 0, (), [], trivial, ⟨?_⟩, fun _ _ => ?_⟩
  · cbv
    and_intros
    all_goals first | exact trivial | exact ⟨rfl⟩ | exact ⟨by kernel_rfl⟩
  cbv
  refine And.intro ?_ ?_
  · intro h
    exact False.elim (lt_self0 h)
  intro h
  clear h
  cbv
  refine ⟨Unit, [], fun _ => [(9, .int .i64 (.l 0))], fun _ => [], fun _ => True, fun _ => 0, (), [], trivial, ⟨?_⟩, fun _ _ => ?_⟩
  · cbv
    and_intros
    all_goals first | exact trivial | exact ⟨rfl⟩ | exact ⟨by kernel_rfl⟩
  cbv
  refine And.intro ?_ ?_
  · intro h
    exact False.elim (lt_self0 h)
  intro h
  clear h
  cbv
  refine ⟨[], [], ?_⟩
  cbv
  and_intros
  all_goals first | exact trivial | exact ⟨rfl⟩ | exact ⟨by kernel_rfl⟩

set_option maxRecDepth 20000 in
set_option maxHeartbeats 400000 in
theorem con64 : Con 64 [.nil] [] (.bool .t) [] := by
  refine con_of Try.func64 rfl rfl 186 _ rfl rfl rfl rfl ?_
  cbv
  refine ⟨Unit, [], fun _ => [(3, .int .i64 (.l 0))], fun _ => [], fun _ => True, fun _ => 0, (), [], trivial, ⟨?_⟩, fun _ _ => ?_⟩
  · cbv
    and_intros
    all_goals first | exact trivial | exact ⟨rfl⟩ | exact ⟨by kernel_rfl⟩
  cbv
  refine And.intro ?_ ?_
  · intro h
    exact False.elim (lt_self0 h)
  intro h
  clear h
  cbv
  refine ⟨Unit, [], fun _ => [(6, .int .i64 (.l 0))], fun _ => [], fun _ => True, fun _ => 0, (), [], trivial, ⟨?_⟩, fun _ _ => ?_⟩
  · cbv
    and_intros
    all_goals first | exact trivial | exact ⟨rfl⟩ | exact ⟨by kernel_rfl⟩
  cbv
  refine And.intro ?_ ?_
  · intro h
    exact False.elim (lt_self0 h)
  intro h
  clear h
  cbv
  refine ⟨Unit, [], fun _ => [(9, .int .i64 (.l 0))], fun _ => [], fun _ => True, fun _ => 0, (), [], trivial, ⟨?_⟩, fun _ _ => ?_⟩
  · cbv
    and_intros
    all_goals first | exact trivial | exact ⟨rfl⟩ | exact ⟨by kernel_rfl⟩
  cbv
  refine And.intro ?_ ?_
  · intro h
    exact False.elim (lt_self0 h)
  intro h
  clear h
  cbv
  refine ⟨[], [], ?_⟩
  cbv
  and_intros
  all_goals first | exact trivial | exact ⟨rfl⟩ | exact ⟨by kernel_rfl⟩

set_option maxRecDepth 20000 in
set_option maxHeartbeats 400000 in
theorem con65 : Con 65 [.nil] [] (.bool .t) [] := by
  refine con_of Try.func65 rfl rfl 140 _ rfl rfl rfl rfl ?_
  cbv
  refine ⟨Unit, [], fun _ => [(3, .int .i64 (.l 0))], fun _ => [], fun _ => True, fun _ => 0, (), [], trivial, ⟨?_⟩, fun _ _ => ?_⟩
  · cbv
    and_intros
    all_goals first | exact trivial | exact ⟨rfl⟩ | exact ⟨by kernel_rfl⟩
  cbv
  refine And.intro ?_ ?_
  · intro h
    exact False.elim (lt_self0 h)
  intro h
  clear h
  cbv
  refine ⟨Unit, [], fun _ => [(6, .int .i64 (.l 0))], fun _ => [], fun _ => True, fun _ => 0, (), [], trivial, ⟨?_⟩, fun _ _ => ?_⟩
  · cbv
    and_intros
    all_goals first | exact trivial | exact ⟨rfl⟩ | exact ⟨by kernel_rfl⟩
  cbv
  refine And.intro ?_ ?_
  · intro h
    exact False.elim (lt_self0 h)
  intro h
  clear h
  cbv
  refine ⟨Unit, [], fun _ => [(9, .int .i64 (.l 0))], fun _ => [], fun _ => True, fun _ => 0, (), [], trivial, ⟨?_⟩, fun _ _ => ?_⟩
  · cbv
    and_intros
    all_goals first | exact trivial | exact ⟨rfl⟩ | exact ⟨by kernel_rfl⟩
  cbv
  refine And.intro ?_ ?_
  · intro h
    exact False.elim (lt_self0 h)
  intro h
  clear h
  cbv
  refine ⟨[], [], ?_⟩
  cbv
  and_intros
  all_goals first | exact trivial | exact ⟨rfl⟩ | exact ⟨by kernel_rfl⟩

set_option maxRecDepth 20000 in
set_option maxHeartbeats 400000 in
theorem con67 : Con 67 [.nil] [] (.bool .t) [] := by
  refine con_of Try.func67 rfl rfl 130 _ rfl rfl rfl rfl ?_
  cbv
  refine ⟨Unit, [], fun _ => [(3, .int .i64 (.l 0))], fun _ => [], fun _ => True, fun _ => 0, (), [], trivial, ⟨?_⟩, fun _ _ => ?_⟩
  · cbv
    and_intros
    all_goals first | exact trivial | exact ⟨rfl⟩ | exact ⟨by kernel_rfl⟩
  cbv
  refine And.intro ?_ ?_
  · intro h
    exact False.elim (lt_self0 h)
  intro h
  clear h
  cbv
  refine ⟨Unit, [], fun _ => [(6, .int .i64 (.l 0))], fun _ => [], fun _ => True, fun _ => 0, (), [], trivial, ⟨?_⟩, fun _ _ => ?_⟩
  · cbv
    and_intros
    all_goals first | exact trivial | exact ⟨rfl⟩ | exact ⟨by kernel_rfl⟩
  cbv
  refine And.intro ?_ ?_
  · intro h
    exact False.elim (lt_self0 h)
  intro h
  clear h
  cbv
  refine ⟨Unit, [], fun _ => [(9, .int .i64 (.l 0))], fun _ => [], fun _ => True, fun _ => 0, (), [], trivial, ⟨?_⟩, fun _ _ => ?_⟩
  · cbv
    and_intros
    all_goals first | exact trivial | exact ⟨rfl⟩ | exact ⟨by kernel_rfl⟩
  cbv
  refine And.intro ?_ ?_
  · intro h
    exact False.elim (lt_self0 h)
  intro h
  clear h
  cbv
  refine ⟨[], [], ?_⟩
  cbv
  and_intros
  all_goals first | exact trivial | exact ⟨rfl⟩ | exact ⟨by kernel_rfl⟩

set_option maxRecDepth 20000 in
set_option maxHeartbeats 400000 in
theorem con68 : Con 68 [.nil] [] (.bool .t) [] := by
  refine con_of Try.func68 rfl rfl 125 _ rfl rfl rfl rfl ?_
  cbv
  refine ⟨Unit, [], fun _ => [(3, .int .i64 (.l 0))], fun _ => [], fun _ => True, fun _ => 0, (), [], trivial, ⟨?_⟩, fun _ _ => ?_⟩
  · cbv
    and_intros
    all_goals first | exact trivial | exact ⟨rfl⟩ | exact ⟨by kernel_rfl⟩
  cbv
  refine And.intro ?_ ?_
  · intro h
    exact False.elim (lt_self0 h)
  intro h
  clear h
  cbv
  refine ⟨Unit, [], fun _ => [(6, .int .i64 (.l 0))], fun _ => [], fun _ => True, fun _ => 0, (), [], trivial, ⟨?_⟩, fun _ _ => ?_⟩
  · cbv
    and_intros
    all_goals first | exact trivial | exact ⟨rfl⟩ | exact ⟨by kernel_rfl⟩
  cbv
  refine And.intro ?_ ?_
  · intro h
    exact False.elim (lt_self0 h)
  intro h
  clear h
  cbv
  refine ⟨Unit, [], fun _ => [(9, .int .i64 (.l 0))], fun _ => [], fun _ => True, fun _ => 0, (), [], trivial, ⟨?_⟩, fun _ _ => ?_⟩
  · cbv
    and_intros
    all_goals first | exact trivial | exact ⟨rfl⟩ | exact ⟨by kernel_rfl⟩
  cbv
  refine And.intro ?_ ?_
  · intro h
    exact False.elim (lt_self0 h)
  intro h
  clear h
  cbv
  refine ⟨[], [], ?_⟩
  cbv
  and_intros
  all_goals first | exact trivial | exact ⟨rfl⟩ | exact ⟨by kernel_rfl⟩

set_option maxRecDepth 20000 in
set_option maxHeartbeats 400000 in
theorem con69 : Con 69 [.nil] [] (.bool .t) [] := by
  refine con_of Try.func69 rfl rfl 125 _ rfl rfl rfl rfl ?_
  cbv
  refine ⟨Unit, [], fun _ => [(3, .int .i64 (.l 0))], fun _ => [], fun _ => True, fun _ => 0, (), [], trivial, ⟨?_⟩, fun _ _ => ?_⟩
  · cbv
    and_intros
    all_goals first | exact trivial | exact ⟨rfl⟩ | exact ⟨by kernel_rfl⟩
  cbv
  refine And.intro ?_ ?_
  · intro h
    exact False.elim (lt_self0 h)
  intro h
  clear h
  cbv
  refine ⟨Unit, [], fun _ => [(6, .int .i64 (.l 0))], fun _ => [], fun _ => True, fun _ => 0, (), [], trivial, ⟨?_⟩, fun _ _ => ?_⟩
  · cbv
    and_intros
    all_goals first | exact trivial | exact ⟨rfl⟩ | exact ⟨by kernel_rfl⟩
  cbv
  refine And.intro ?_ ?_
  · intro h
    exact False.elim (lt_self0 h)
  intro h
  clear h
  cbv
  refine ⟨Unit, [], fun _ => [(9, .int .i64 (.l 0))], fun _ => [], fun _ => True, fun _ => 0, (), [], trivial, ⟨?_⟩, fun _ _ => ?_⟩
  · cbv
    and_intros
    all_goals first | exact trivial | exact ⟨rfl⟩ | exact ⟨by kernel_rfl⟩
  cbv
  refine And.intro ?_ ?_
  · intro h
    exact False.elim (lt_self0 h)
  intro h
  clear h
  cbv
  refine ⟨[], [], ?_⟩
  cbv
  and_intros
  all_goals first | exact trivial | exact ⟨rfl⟩ | exact ⟨by kernel_rfl⟩

set_option maxRecDepth 20000 in
set_option maxHeartbeats 400000 in
theorem con70 : Con 70 [.nil] [] (.bool .t) [] := by
  refine con_of Try.func70 rfl rfl 125 _ rfl rfl rfl rfl ?_
  cbv
  refine ⟨Unit, [], fun _ => [(3, .int .i64 (.l 0))], fun _ => [], fun _ => True, fun _ => 0, (), [], trivial, ⟨?_⟩, fun _ _ => ?_⟩
  · cbv
    and_intros
    all_goals first | exact trivial | exact ⟨rfl⟩ | exact ⟨by kernel_rfl⟩
  cbv
  refine And.intro ?_ ?_
  · intro h
    exact False.elim (lt_self0 h)
  intro h
  clear h
  cbv
  refine ⟨Unit, [], fun _ => [(6, .int .i64 (.l 0))], fun _ => [], fun _ => True, fun _ => 0, (), [], trivial, ⟨?_⟩, fun _ _ => ?_⟩
  · cbv
    and_intros
    all_goals first | exact trivial | exact ⟨rfl⟩ | exact ⟨by kernel_rfl⟩
  cbv
  refine And.intro ?_ ?_
  · intro h
    exact False.elim (lt_self0 h)
  intro h
  clear h
  cbv
  refine ⟨Unit, [], fun _ => [(9, .int .i64 (.l 0))], fun _ => [], fun _ => True, fun _ => 0, (), [], trivial, ⟨?_⟩, fun _ _ => ?_⟩
  · cbv
    and_intros
    all_goals first | exact trivial | exact ⟨rfl⟩ | exact ⟨by kernel_rfl⟩
  cbv
  refine And.intro ?_ ?_
  · intro h
    exact False.elim (lt_self0 h)
  intro h
  clear h
  cbv
  refine ⟨[], [], ?_⟩
  cbv
  and_intros
  all_goals first | exact trivial | exact ⟨rfl⟩ | exact ⟨by kernel_rfl⟩

set_option maxRecDepth 20000 in
set_option maxHeartbeats 400000 in
theorem con71 : Con 71 [.nil] [] (.bool .t) [] := by
  refine con_of Try.func71 rfl rfl 140 _ rfl rfl rfl rfl ?_
  cbv
  refine ⟨Unit, [], fun _ => [(3, .int .i64 (.l 0))], fun _ => [], fun _ => True, fun _ => 0, (), [], trivial, ⟨?_⟩, fun _ _ => ?_⟩
  · cbv
    and_intros
    all_goals first | exact trivial | exact ⟨rfl⟩ | exact ⟨by kernel_rfl⟩
  cbv
  refine And.intro ?_ ?_
  · intro h
    exact False.elim (lt_self0 h)
  intro h
  clear h
  cbv
  refine ⟨Unit, [], fun _ => [(6, .int .i64 (.l 0))], fun _ => [], fun _ => True, fun _ => 0, (), [], trivial, ⟨?_⟩, fun _ _ => ?_⟩
  · cbv
    and_intros
    all_goals first | exact trivial | exact ⟨rfl⟩ | exact ⟨by kernel_rfl⟩
  cbv
  refine And.intro ?_ ?_
  · intro h
    exact False.elim (lt_self0 h)
  intro h
  clear h
  cbv
  refine ⟨Unit, [], fun _ => [(9, .int .i64 (.l 0))], fun _ => [], fun _ => True, fun _ => 0, (), [], trivial, ⟨?_⟩, fun _ _ => ?_⟩
  · cbv
    and_intros
    all_goals first | exact trivial | exact ⟨rfl⟩ | exact ⟨by kernel_rfl⟩
  cbv
  refine And.intro ?_ ?_
  · intro h
    exact False.elim (lt_self0 h)
  intro h
  clear h
  cbv
  refine ⟨[], [], ?_⟩
  cbv
  and_intros
  all_goals first | exact trivial | exact ⟨rfl⟩ | exact ⟨by kernel_rfl⟩

end Go.Proofs.Ytmdfjipjkkjpcaa

/- Nothing is owned: ownBools. -/
namespace Go.Proofs.Ytmdfjipjkkjpcaa
open Go.SX
theorem info150 : (Try.prog.info? 150).map (fun i => (i.size, i.bytes, i.zero)) = some (1, 24, some (.slice none 0 0)) := by kernel_rfl
theorem info150x : ∃ i, Try.prog.info? 150 = some i ∧ i.zero = some (.slice none 0 0) ∧ i.size = 1 ∧ i.bytes = 24 := by
  have h := info150
  cases hi : Try.prog.info? 150 with
  | none => rw [hi] at h; cases h
  | some i =>
    rw [hi] at h
    simp only [Option.map_some, Option.some.injEq, Prod.mk.injEq] at h
    exact ⟨i, rfl, h.2.2, h.1, h.2.1⟩
set_option maxRecDepth 20000 in
set_option maxHeartbeats 400000 in
theorem con66 : Con 66 [.nil] [] (.bool .t) [] := by
  obtain ⟨i, hi, hz, hs, hb⟩ := info150x
  obtain ⟨c0, h0⟩ : ∃ c0, c0 = (madeCells (Value.slice none 0 0).cells (0 * i.size)).toList := ⟨_, rfl⟩
  have r0 : SpecG Try.prog (rawC 7 54) [.int .i64 (.l 0), .int .i64 (.s fun _ => 0)] [] Unit (fun _ => .own 2000) (fun _ => [(2000, .cust none (fun _ => rowΦ 150 1 0 0 c0))]) :=
    raw_make (sz := 1) (c := 0) rfl hs.symm h0 Try.underlying54 hi hz (by omega) (by omega)
  have r1 : ConG (rawC 7 54) [.int .i64 (.l 0), .int .i64 (.l 0)] [] Unit (fun _ => .own 2000) (fun _ => [(2000, .cust none (fun _ => rowΦ 150 1 0 0 c0))]) :=
    ⟨fun η G vs w a b c => r0 η G vs w a b (by
      match vs, c with
      | [v1, v2], c => simp only [SVRels, SVRel, IE.den_l, IE.den_s] at c ⊢; exact c
      | [], h => exact h.elim
      | [_], h => exact h.2.elim
      | _ :: _ :: _ :: _, h => exact h.2.2.elim)⟩
  have w0 : 0 ≤ IntKind.u64.wrap 0 := by decide
  have w1 : bound64 (2 * 0) := by unfold bound64; omega
  have w2 : ¬ IntKind.i64.wrap (1 * 2 ^ min (IntKind.u64.wrap 0).toNat IntKind.i64.bits) ≤ 2 * 0 := by decide
  refine con_of Try.func66 rfl rfl 136 _ rfl rfl rfl rfl ?_
  cbv
  refine ⟨Unit, _, _, r1, ⟨by kernel_rfl⟩, fun _ => ⟨⟨by kernel_rfl⟩, ?_⟩⟩
  cbv
  refine ⟨Unit, [], fun _ => [(4, .int .i64 (.l 0))], fun _ => [], fun _ => True, fun _ => 0, (), [], trivial, ⟨?_⟩, fun _ _ => ?_⟩
  · cbv
    and_intros
    all_goals first | exact trivial | exact ⟨rfl⟩ | exact ⟨by kernel_rfl⟩
  cbv
  refine And.intro ?_ ?_
  · intro h
    clear h
    cbv
    refine ⟨⟨w0⟩, ⟨w1⟩, ?_⟩
    refine And.intro ?_ ?_
    · intro h
      have h : IntKind.i64.wrap (1 * 2 ^ min (IntKind.u64.wrap 0).toNat IntKind.i64.bits) ≤ 2 * 0 := of_decide_eq_true h
      exact False.elim (w2 h)
    · intro h
      clear h
      cbv
      refine ⟨[], [], ?_⟩
      cbv
      and_intros
      all_goals first | exact trivial | exact ⟨rfl⟩ | exact ⟨by kernel_rfl⟩
  · intro h
    have h : ¬ (0 : Int) < 20 := of_decide_eq_false h
    exact False.elim (h (by decide))
end Go.Proofs.Ytmdfjipjkkjpcaa

/- What is lent: it is written, checked, measured. -/
namespace Go.Proofs.Ytmdfjipjkkjpcaa
open Go.SX

set_option maxRecDepth 20000 in
set_option maxHeartbeats 4000000 in
theorem con12u {leaf : Bool} {es : List Ent} (hp : ∀ e ∈ es, EntOk e) (hw : weight es + 20 * es.length < 1000000000000) :
    Con 12 [nodeSV leaf es] [] (.tup [.own 2000, .int .u16 (.s fun _ => checkI leaf es)]) [(2000, .barr 5 fun _ => encB leaf es)] := by
  refine con_of Try.func12 rfl rfl 68 _ rfl rfl rfl rfl ?_
  cbv
  refine ⟨_, _, con13 (leaf := leaf) (es := es) hp hw, ⟨?_⟩, ?_⟩
  · rfl
  cbv
  refine ⟨fun h1 => ?_, fun h1 => ?_⟩
  · have h1 : ¬ checkI leaf es = 0 := of_decide_eq_false (bnot_t h1)
    have e1 : encB leaf es = [] := by unfold encB; rw [if_neg h1]
    clear h1
    cbv
    refine ⟨[(2000, none)], [], ?_⟩
    cbv
    and_intros
    all_goals first | exact trivial | exact ⟨rfl⟩ | exact ⟨e1⟩ | exact ⟨e1.symm⟩ | exact ⟨by kernel_rfl⟩
  · have h1 : checkI leaf es = 0 := of_decide_eq_true (bnot_f h1)
    obtain ⟨hm, hs⟩ := checkI_ok h1
    have hl := sizeL_len leaf es
    have w1 : (IntKind.u32.wrap (es.length : Int)).toNat = es.length := by rw [IntKind.wrap_u32]; omega
    have w2 : 0 ≤ IntKind.u32.wrap (es.length : Int) := by rw [IntKind.wrap_u32]; omega
    have e0 : lowB (IntKind.u32.wrap (es.length : Int)).toNat 2 = encTo leaf es 0 := by rw [w1]; simp [encTo, entsB]
    cbv
    refine ⟨_, _, con42nl w2, ⟨?_⟩, ?_⟩
    · rfl
    cbv
    refine ⟨Nat, [500], fun i => [(5, .own 500), (21, .int .i64 (.s fun _ => (i : Int)))], fun i => [(1, .cells 24 [.bool (.s fun _ => leaf), .dat (entsDV es)]), (500, .barr 5 fun _ => encTo leaf es i)],
      fun i => i ≤ es.length, fun i => es.length - i, 0, [(500, some 4700)], Nat.zero_le _, ⟨?_⟩, fun i hi => ?_⟩
    · cbv
      exact ⟨⟨⟨rfl⟩, trivial⟩, ⟨⟨⟨rfl⟩, ⟨rfl, fun _ _ _ _ => rfl⟩, trivial⟩, ⟨e0⟩, trivial⟩, ⟨by kernel_rfl⟩⟩
    · have hi : i ≤ es.length := hi
      cbv
      refine ⟨fun h2 => ?_, fun h2 => ?_⟩
      · have h2 : (i : Int) < (es.length : Int) := of_decide_eq_true h2
        have hlt : i < es.length := by omega
        have o1 : indexObl (i : Int) es.length := ⟨by omega, h2⟩
        have hE := entOk_at hp hlt
        have hL := encTo_length (i := i) hs
        have hN := encTo_next (leaf := leaf) hlt
        have hL' := encTo_length (i := i + 1) hs
        have hB := entB_length leaf (es.getD i default)
        rw [hN, List.length_append] at hL'
        have b0 := u8_range ((es.getD i default).key.length : Int)
        have b1 : lenOk ((encTo leaf es i).length + 1) 1 := by unfold lenOk; omega
        have b2 : lenOk ((encTo leaf es i ++ [UInt8.ofNat (IntKind.u8.wrap ((es.getD i default).key.length : Int)).toNat]).length + (es.getD i default).key.length) 1 := by
          have : (es.getD i default).key.length < (entB leaf (es.getD i default)).length := by unfold entB; simp only [List.length_cons, List.length_append]; omega
          unfold lenOk; simp only [List.length_append, List.length_cons, List.length_nil]; omega
        have l1 : (encTo leaf es i ++ [UInt8.ofNat (IntKind.u8.wrap ((es.getD i default).key.length : Int)).toNat] ++ (es.getD i default).key).length ≤ 4000 := by
          have : (es.getD i default).key.length < (entB leaf (es.getD i default)).length := by unfold entB; simp only [List.length_cons, List.length_append]; omega
          simp only [List.length_append, List.length_cons, List.length_nil]; omega
        have bi : bound64 ((i : Int) + 1) := by unfold bound64; omega
        have ei : (i : Int) + 1 = ((i + 1 : Nat) : Int) := by omega
        clear h2
        cbv
        refine ⟨⟨o1⟩, ?_⟩
        cbv
        refine ⟨⟨⟨b0, trivial⟩, b1⟩, ?_⟩
        cbv
        refine ⟨⟨trivial, b2⟩, ⟨by kernel_rfl⟩, ?_⟩
        cbv
        refine ⟨fun h3 => ?_, fun h3 => ?_⟩
        · have h3 : leaf = false := bnot_t h3
          have e5 := (enc_page (encTo leaf es i) (e := es.getD i default) h3).trans hN.symm
          cbv
          refine ⟨_, _, con42l hE.1.1 ?_, ⟨?_⟩, ?_⟩
          · exact Nat.lt_of_le_of_lt l1 (by decide)
          · rfl
          cbv
          refine ⟨⟨bi⟩, i + 1, [(500, some 8100)], hlt, ?_, ⟨?_⟩, ⟨?_⟩⟩
          · show es.length - (i + 1) < es.length - i
            omega
          · kernel_rfl
          · cbv
            exact ⟨⟨⟨ei⟩, trivial⟩, ⟨⟨⟨rfl⟩, ⟨rfl, fun _ _ _ _ => rfl⟩, trivial⟩, ⟨e5⟩, trivial⟩, ⟨by kernel_rfl⟩⟩
        · have h3 : leaf = true := bnot_f h3
          cbv
          refine ⟨fun h4 => ?_, fun h4 => ?_⟩
          · have h4 : (es.getD i default).page = 0 := of_decide_eq_true h4
            have e5 := (enc_val (encTo leaf es i) (e := es.getD i default) h3 h4).trans hN.symm
            have b3 := u8_range ((es.getD i default).val.length : Int)
            have lE : 2 + (es.getD i default).key.length + (es.getD i default).val.length = (entB leaf (es.getD i default)).length := by
              unfold entB; simp only [h3, h4, if_true, List.length_cons, List.length_append]; omega
            have b4 : lenOk ((encTo leaf es i ++ [UInt8.ofNat (IntKind.u8.wrap ((es.getD i default).key.length : Int)).toNat] ++ (es.getD i default).key).length + 1) 1 := len1 l1
            have lV : (es.getD i default).val.length ≤ 1008 := by omega
            have b5 : lenOk ((encTo leaf es i ++ [UInt8.ofNat (IntKind.u8.wrap ((es.getD i default).key.length : Int)).toNat] ++ (es.getD i default).key ++ [UInt8.ofNat (IntKind.u8.wrap ((es.getD i default).val.length : Int)).toNat]).length + (es.getD i default).val.length) 1 := len4 l1 lV
            cbv
            refine ⟨⟨⟨b3, trivial⟩, b4⟩, ⟨trivial, b5⟩, ⟨by kernel_rfl⟩, ?_⟩
            cbv
            refine ⟨⟨bi⟩, i + 1, [(500, some 65)], hlt, ?_, ⟨?_⟩, ⟨?_⟩⟩
            · show es.length - (i + 1) < es.length - i
              omega
            · kernel_rfl
            · cbv
              exact ⟨⟨⟨ei⟩, trivial⟩, ⟨⟨⟨rfl⟩, ⟨rfl, fun _ _ _ _ => rfl⟩, trivial⟩, ⟨e5⟩, trivial⟩, ⟨by kernel_rfl⟩⟩
          · have h4 : ¬ (es.getD i default).page = 0 := of_decide_eq_false h4
            have e5 := (enc_big (encTo leaf es i) (e := es.getD i default) h3 h4).trans hN.symm
            have b3 : (0 : Int) ≤ 255 ∧ (255 : Int) < 256 := by decide
            have b4 : lenOk ((encTo leaf es i ++ [UInt8.ofNat (IntKind.u8.wrap ((es.getD i default).key.length : Int)).toNat] ++ (es.getD i default).key).length + 1) 1 := len1 l1
            have l2 : (encTo leaf es i ++ [UInt8.ofNat (IntKind.u8.wrap ((es.getD i default).key.length : Int)).toNat] ++ (es.getD i default).key ++ [UInt8.ofNat (255 : Int).toNat]).length ≤ 5000 := len2 l1
            have l3 : (encTo leaf es i ++ [UInt8.ofNat (IntKind.u8.wrap ((es.getD i default).key.length : Int)).toNat] ++ (es.getD i default).key ++ [UInt8.ofNat (255 : Int).toNat] ++ lowB (es.getD i default).size.toNat 4).length ≤ 6000 := len3 l2
            cbv
            refine ⟨⟨⟨b3, trivial⟩, b4⟩, _, _, con42l hE.2.1 ?_, ⟨?_⟩, ?_⟩
            · exact Nat.lt_of_le_of_lt l2 (by decide)
            · rfl
            cbv
            refine ⟨_, _, con42l hE.1.1 ?_, ⟨?_⟩, ?_⟩
            · exact Nat.lt_of_le_of_lt l3 (by decide)
            · rfl
            cbv
            refine ⟨⟨by kernel_rfl⟩, ?_⟩
            cbv
            refine ⟨⟨bi⟩, i + 1, [(500, some 7300)], hlt, ?_, ⟨?_⟩, ⟨?_⟩⟩
            · show es.length - (i + 1) < es.length - i
              omega
            · kernel_rfl
            · cbv
              exact ⟨⟨⟨ei⟩, trivial⟩, ⟨⟨⟨rfl⟩, ⟨rfl, fun _ _ _ _ => rfl⟩, trivial⟩, ⟨e5⟩, trivial⟩, ⟨by kernel_rfl⟩⟩
      · have h2 : ¬ ((i : Int) < (es.length : Int)) := of_decide_eq_false h2
        have hle : i = es.length := by omega
        subst hle
        have e1 : encTo leaf es es.length = encB leaf es := by unfold encB encTo nodeB; rw [if_pos h1, List.take_length]
        clear h2
        cbv
        refine ⟨[(2000, some 500)], [], ?_⟩
        cbv
        and_intros
        all_goals first | exact trivial | exact ⟨rfl⟩ | exact ⟨e1⟩ | exact ⟨e1.symm⟩ | exact ⟨h1.symm⟩ | exact ⟨by kernel_rfl⟩

def lentSV (leaf : Bool) (es : List Ent) : SV := .agg [.bool (.s fun _ => leaf), .dat (lentDV es)]
theorem lent_args {leaf : Bool} {es : List Ent} : ∀ (η : OEnv) (G : Nat → Prop) (w : World) (vs : List Value), SVRels η G w [lentSV leaf es] vs → SVRels η G w [nodeSV leaf es] vs := by
  intro η G w vs hv
  match vs, hv with
  | [v], hv =>
    refine ⟨?_, trivial⟩
    obtain ⟨us, rfl, hu⟩ := hv.1
    match us, hu with
    | [u1, u2], hu =>
      refine ⟨_, rfl, hu.1, ?_, trivial⟩
      have h := hu.2.1
      simp only [SVRel] at h ⊢
      exact lent_ents h
    | [], h => exact h.elim
    | [_], h => exact h.2.elim
    | _ :: _ :: _ :: _, h => exact h.2.2.elim
  | [], h => exact h.elim
  | _ :: _ :: _, h => exact h.2.elim
theorem con12l {leaf : Bool} {es : List Ent} (hp : ∀ e ∈ es, EntOk e) (hw : weight es + 20 * es.length < 1000000000000) : Con 12 [lentSV leaf es] [] (.tup [.own 2000, .int .u16 (.s fun _ => checkI leaf es)]) [(2000, .barr 5 fun _ => encB leaf es)] := (con12u hp hw).args lent_args
theorem con13l {leaf : Bool} {es : List Ent} (hp : ∀ e ∈ es, EntOk e) (hw : weight es + 20 * es.length < 1000000000000) : Con 13 [lentSV leaf es] [] (.int .u16 (.s fun _ => checkI leaf es)) [] := (con13 hp hw).args lent_args
theorem con14l {leaf : Bool} {es : List Ent} (hw : weight es + 20 * es.length < 1000000000000) : Con 14 [lentSV leaf es] [] (.int .i64 (.s fun _ => 2 + sizeL leaf es)) [] := (con14 hw).args lent_args
end Go.Proofs.Ytmdfjipjkkjpcaa

/- The book: lists that came out. -/
namespace Go.Proofs.Ytmdfjipjkkjpcaa
open Go.SX

def nilV : Value := .slice none 0 0
/-- A list of bytes in raw memory. -/
def LisM (H : Mem) (h : Value) (n : Nat) : Prop := (h = nilV ∧ n = 0) ∨ ∃ b c cs, h = .slice (some ⟨b, 0, none⟩) n c ∧ (b, 5, cs) ∈ H ∧ cs.length = c ∧ n ≤ c ∧ c ≤ maxLen
structure BookAt (ns : List Nat) (H : Mem) (bb : Nat) (hd : Value) (r : Mem) (hs : List Value) (c : Nat) : Prop where
  top : H = (bb, 61, hd :: List.replicate 22 nilV) :: r
  bank : SlM H 27 1 hd ns.length c hs
  len : hs.length = ns.length
  lis : ∀ i, i < ns.length → LisM H (hs.getD i nilV) (ns.getD i 0)
  dist : (hs.filterMap Value.ownBlock).Nodup
/-- The book has lists of these lengths. -/
def bookQ (ns : List Nat) (H : Mem) : Prop := ∃ bb hd r hs c, BookAt ns H bb hd r hs c

theorem app_keep {H H' : Mem} {e s n c m : Nat} {va va' : Value} {xs news : List Value} (h : App H e s va n c m xs news va' H') (hn : (H.map (·.1)).Nodup) {p : Nat × Nat × List Value} (hp : p ∈ H) (he : p.2.1 ≠ e) : p ∈ H' := by
  rcases h.2 with ⟨_, b, cs, _, hb, _, rfl⟩ | ⟨_, g, c', cs', _, _, rfl, _⟩
  · refine putB_other hp fun e1 => he ?_
    have := mem_eq hn hp hb e1
    rw [this]
  · exact List.mem_append_left _ hp
theorem app_slm {H H' : Mem} {e s n c m : Nat} {va va' : Value} {xs news : List Value} (h : App H e s va n c m xs news va' H') (hn : (H.map (·.1)).Nodup) (old : SlM H e s va n c xs) (hl : news.length = m * s) : ∃ c', SlM H' e s va' (n + m) c' (xs ++ news) := by
  rcases h.2 with ⟨h1, b, cs, rfl, hb, rfl, rfl⟩ | ⟨_, g, c', cs', _, rfl, rfl, g1, g2, g3, g4⟩
  · rcases old with ⟨h, _⟩ | ⟨b', cs', q1, q2, q3, q4, q5⟩
    · cases h
    · have e1 : b = b' := by cases q1; rfl
      subst e1
      have e2 := mem_eq hn hb q2 rfl
      simp only [Prod.mk.injEq, true_and] at e2
      subst e2
      have h4 : n * s ≤ c * s := Nat.mul_le_mul_right _ q4
      have h5 : (n + m) * s ≤ c * s := Nat.mul_le_mul_right _ h1
      have h6 : (n + m) * s = n * s + m * s := Nat.add_mul _ _ _
      refine ⟨c, .inr ⟨b, _, rfl, putB_mem hb, ?_, h1, ?_⟩⟩
      · simp only [List.length_append, List.length_take, List.length_drop]; omega
      · have hxl : (cs.take (n * s) ++ news).length = (n + m) * s := by simp only [List.length_append, List.length_take]; omega
        rw [← hxl, List.take_left, q5]
  · exact ⟨c', .inr ⟨g, cs', rfl, by simp, g3, g1, g4⟩⟩
theorem app_top {H H' : Mem} {e s n c m : Nat} {va va' : Value} {xs news : List Value} (h : App H e s va n c m xs news va' H') (hn : (H.map (·.1)).Nodup) {p : Nat × Nat × List Value} {r : Mem} (hH : H = p :: r) (he : p.2.1 ≠ e) : ∃ r', H' = p :: r' := by
  subst hH
  rcases h.2 with ⟨_, b, cs, _, hb, _, rfl⟩ | ⟨_, g, c', cs', _, _, rfl, _⟩
  · have hne : p.1 ≠ b := fun e1 => he (by have := mem_eq hn List.mem_cons_self hb e1; rw [this])
    exact ⟨putB r b _, by unfold putB; rw [List.map_cons, if_neg hne]⟩
  · exact ⟨r ++ [(g, e, cs')], rfl⟩
theorem LisM.mono {H H' : Mem} {h : Value} {n : Nat} (hl : LisM H h n) (hk : ∀ p ∈ H, p.2.1 = 5 → p ∈ H') : LisM H' h n := by
  rcases hl with h | ⟨b, c, cs, q1, q2, q3⟩
  · exact .inl h
  · exact .inr ⟨b, c, cs, q1, hk _ q2 rfl, q3⟩
theorem LisM.blk {H : Mem} {h : Value} {n b : Nat} (hl : LisM H h n) (hb : h.ownBlock = some b) : b ∈ H.map (·.1) := by
  rcases hl with ⟨rfl, _⟩ | ⟨b', c, cs, rfl, q2, q3⟩
  · simp [nilV, Value.ownBlock] at hb
  · have : b' = b := by simpa [Value.ownBlock] using hb
    subst this
    exact List.mem_map.2 ⟨_, q2, rfl⟩
theorem putB_top {p : Nat × Nat × List Value} {r : Mem} (hn : ((p :: r).map (·.1)).Nodup) (cs : List Value) : putB (p :: r) p.1 cs = (p.1, p.2.1, cs) :: r := by
  unfold putB
  rw [List.map_cons, if_pos rfl]
  congr 1
  have h1 := (List.nodup_cons.1 hn).1
  have : ∀ q ∈ r, (if q.1 = p.1 then (q.1, q.2.1, cs) else q) = q := fun q hq => if_neg fun e => h1 (List.mem_map.2 ⟨q, hq, e⟩)
  rw [List.map_congr_left this, List.map_id']

/-- One list more stands in the book. -/
theorem book_put {ns : List Nat} {H H' more : Mem} {bb c n : Nat} {hd hv va' : Value} {r : Mem} {hs : List Value} (hB : BookAt ns H bb hd r hs c) (hnd : ((H ++ more).map (·.1)).Nodup) (hL : OneL more 5 1 hv n) (hA : App (H ++ more) 27 1 hd ns.length c 1 hs [hv] va' H') :
    ∃ r', H' = (bb, 61, hd :: List.replicate 22 nilV) :: r' ∧ bookQ (ns ++ [n]) (putB H' bb (va' :: List.replicate 22 nilV)) := by
  have hbank : SlM (H ++ more) 27 1 hd ns.length c hs := by
    rcases hB.bank with h | ⟨b, cs, q1, q2, q3⟩
    · exact .inl h
    · exact .inr ⟨b, cs, q1, List.mem_append_left _ q2, q3⟩
  obtain ⟨r', hr'⟩ := app_top hA hnd (p := (bb, 61, hd :: List.replicate 22 nilV)) (r := r ++ more) (by rw [hB.top]; rfl) (by show (61 : Nat) ≠ 27; decide)
  obtain ⟨c', hsl⟩ := app_slm hA hnd hbank rfl
  have hnd' := hA.1
  rw [hr'] at hnd'
  have hput : putB H' bb (va' :: List.replicate 22 nilV) = (bb, 61, va' :: List.replicate 22 nilV) :: r' := by rw [hr']; exact putB_top (p := (bb, 61, hd :: List.replicate 22 nilV)) hnd' _
  have stay : ∀ p ∈ H', p.2.1 ≠ 61 → p ∈ putB H' bb (va' :: List.replicate 22 nilV) := fun p hp h61 => putB_other hp fun e => h61 (by
    have := mem_eq (p := p) (q := (bb, 61, hd :: List.replicate 22 nilV)) hA.1 hp (by rw [hr']; exact List.mem_cons_self) e
    rw [this])
  have k5 : ∀ p ∈ H ++ more, p.2.1 = 5 → p ∈ putB H' bb (va' :: List.replicate 22 nilV) := fun p hp h5 => stay p (app_keep hA hnd hp (by omega)) (by omega)
  have hnew : LisM more hv n := by
    rcases hL with ⟨rfl, rfl, rfl⟩ | ⟨b, c, cs, rfl, rfl, q1, q2⟩
    · exact .inl ⟨rfl, rfl⟩
    · exact .inr ⟨b, c, cs, rfl, by simp, by simpa using q1, q2⟩
  refine ⟨r', hr', bb, va', r', hs ++ [hv], c', ⟨hput, ?_, by simp [hB.len], fun i hi => ?_, ?_⟩⟩
  · rw [List.length_append]
    rcases hsl with ⟨q1, q2, q3, q4⟩ | ⟨b, cs, q1, q2, q3⟩
    · exact absurd q2 (by omega)
    · exact .inr ⟨b, cs, q1, stay _ q2 (by show (27 : Nat) ≠ 61; decide), q3⟩
  · by_cases h : i < ns.length
    · have e1 : (hs ++ [hv]).getD i nilV = hs.getD i nilV := by rw [List.getD_eq_getElem?_getD, List.getD_eq_getElem?_getD, List.getElem?_append_left (by rw [hB.len]; exact h)]
      have e2 : (ns ++ [n]).getD i 0 = ns.getD i 0 := by rw [List.getD_eq_getElem?_getD, List.getD_eq_getElem?_getD, List.getElem?_append_left h]
      rw [e1, e2]
      exact (hB.lis i h).mono fun p hp h5 => k5 p (List.mem_append_left _ hp) h5
    · have hi' : i = ns.length := by simp at hi; omega
      subst hi'
      have e1 : (hs ++ [hv]).getD ns.length nilV = hv := by rw [← hB.len, List.getD_eq_getElem?_getD, List.getElem?_append_right (Nat.le_refl _)]; simp
      have e2 : (ns ++ [n]).getD ns.length 0 = n := by rw [List.getD_eq_getElem?_getD, List.getElem?_append_right (Nat.le_refl _)]; simp
      rw [e1, e2]
      exact hnew.mono fun p hp h5 => k5 p (List.mem_append_right _ hp) h5
  · rw [List.filterMap_append]
    refine List.nodup_append.2 ⟨hB.dist, ?_, fun x hx y hy exy => ?_⟩
    · cases h : hv.ownBlock <;> simp [h]
    · subst exy
      have hy : hv.ownBlock = some x := by
        simp only [List.mem_filterMap, List.mem_cons, List.not_mem_nil, or_false] at hy
        obtain ⟨a, rfl, ha⟩ := hy; exact ha
      obtain ⟨h, hh, hx⟩ := List.mem_filterMap.1 hx
      obtain ⟨i, hi, rfl⟩ := List.getElem_of_mem hh
      have hl := hB.lis i (by rw [← hB.len]; exact hi)
      rw [List.getD_eq_getElem?_getD, List.getElem?_eq_getElem hi] at hl
      have hb1 := LisM.blk hl hx
      have hb2 := LisM.blk hnew hy
      rw [List.map_append] at hnd
      exact (List.nodup_append.1 hnd).2.2 x hb1 x hb2 rfl

theorem app_nodup {H H' : Mem} {e s n c m : Nat} {va va' : Value} {xs news : List Value} (h : App H e s va n c m xs news va' H') : (H.map (·.1)).Nodup := by
  have h1 := h.1
  rcases h.2 with ⟨_, b, cs, _, hb, _, rfl⟩ | ⟨_, g, c', cs', _, _, rfl, _⟩
  · rwa [putB_names] at h1
  · rw [List.map_append] at h1; exact (List.nodup_append.1 h1).1

theorem info27x : ∃ i, Try.prog.info? 27 = some i ∧ i.zero = some (.slice none 0 0) ∧ i.size = 1 ∧ i.bytes = 24 := by
  have h := info27
  cases hi : Try.prog.info? 27 with
  | none => rw [hi] at h; cases h
  | some i =>
    rw [hi] at h
    simp only [Option.map_some, Option.some.injEq, Prod.mk.injEq] at h
    exact ⟨i, rfl, h.2.2, h.1, h.2.1⟩

set_option maxRecDepth 20000 in
set_option maxHeartbeats 1000000 in
theorem con18m {ns : List Nat} {H : Mem} {bb c : Nat} {hd v0 : Value} {r : Mem} {hs : List Value} {bs : List UInt8} (hB : BookAt ns H bb hd r hs c) (hl : ns.length < 1000000) :
    Con 18 [.loc 1000 0, .own 1001] [(1000, .cust none (fun _ => memΦ v0 H)), (1001, .barr 5 fun _ => bs)] (.tup []) [(1000, .cust none (fun _ => exΦ v0 (bookQ (ns ++ [bs.length])))), (1001, .dead)] := by
  obtain ⟨i, hi, hz, hs1, hb⟩ := info27x
  have hone : ∀ η G w, SVRel η G w (.rv 1000 fun _ => hd) hd := fun η G w => ⟨rfl, by
    rcases hB.bank with ⟨h, _⟩ | ⟨b, cs, h, _⟩ <;> rw [h] <;> rfl⟩
  have hmem : (bb, 61, hd :: List.replicate 22 nilV) ∈ H := by rw [hB.top]; exact List.mem_cons_self
  have r1 : ConG (rawC 0 37) [.loc 1000 0] [(1000, .cust none (fun _ => memΦ v0 H))] Unit (fun _ => .rv 1000 fun _ => hd) (fun _ => [(1000, .cust none (fun _ => memΦ v0 H))]) :=
    ⟨mem_load eok (T := 37) (b := bb) (o := 0) (u := hd) (.inr ⟨rfl, _, _, _, hB.top⟩) rfl rfl hmem rfl hone⟩
  have r2 := ConG.mk (mem_app_list (T := 37) (f := 5) (v0 := v0) (bs := fun _ => bs) Try.underlying37 hi hz (by rw [hs1]; rfl) hs1 (by omega) (by decide) hB.bank (by rw [hb]; omega))
  refine con_of Try.func18 rfl rfl 14 _ rfl rfl rfl rfl ?_
  cbv
  refine ⟨Unit, _, _, r1, ⟨by kernel_rfl⟩, fun _ => ⟨⟨by kernel_rfl⟩, ?_⟩⟩
  cbv
  refine ⟨_, _, _, r2, ⟨by kernel_rfl⟩, fun x => ⟨⟨by kernel_rfl⟩, ?_⟩⟩
  obtain ⟨⟨va', H', more, hv⟩, hL, hA⟩ := x
  have hL : OneL more 5 1 hv bs.length := hL
  have hA : App (H ++ more) 27 1 hd ns.length c 1 hs [hv] va' H' := hA
  obtain ⟨r', htop, hq⟩ := book_put hB (app_nodup hA) hL hA
  have hmem' : (bb, 61, hd :: List.replicate 22 nilV) ∈ H' := by rw [htop]; exact List.mem_cons_self
  have hva : va'.oneCell' = true := by rcases hA.2 with ⟨_, b, cs, _, _, rfl, _⟩ | ⟨_, g, c', cs', _, rfl, _⟩ <;> rfl
  have r3 := ConG.mk (mem_store eok (T := 37) (b := bb) (o := 0) (v0 := v0) (us := [va']) (a := .loc 1000 0) (x := .rv 1000 fun _ => va') (.inr ⟨rfl, _, _, _, htop⟩) rfl hmem' (by simp) rfl (by simpa using hva) (fun η G w v h => by
    simp only [SVRel] at h
    obtain ⟨rfl, h⟩ := h
    rw [one_cells h]))
  have fin : ∀ w v B, memΦ v0 (putB H' bb ((hd :: List.replicate 22 nilV).take 0 ++ [va'] ++ (hd :: List.replicate 22 nilV).drop (0 + [va'].length))) w v B → exΦ v0 (bookQ (ns ++ [bs.length])) w v B := fun w v B h =>
    ⟨_, hq, by rw [putB_names]; exact hA.1, h⟩
  clear hL hA hq
  cbv
  refine ⟨Unit, _, _, r3, ⟨by kernel_rfl⟩, fun _ => ⟨⟨by kernel_rfl⟩, ?_⟩⟩
  cbv
  refine ⟨[(1000, some 1000), (1001, some 1001)], [], ?_⟩
  cbv
  and_intros
  all_goals first | exact trivial | exact ⟨rfl⟩ | exact ⟨rfl, fin⟩ | exact ⟨by kernel_rfl⟩

theorem specX_exit {f : Nat} {svs : List SV} {objs : Objs} {r : SV} {k : Nat} {Φ Φ' : World → Value → List Nat → Prop} {rest : Objs} (h : SpecX Try.prog f svs objs r ((k, .cust none (fun _ => Φ)) :: rest)) (hΦ : ∀ w v B, Φ w v B → Φ' w v B) : SpecX Try.prog f svs objs r ((k, .cust none (fun _ => Φ')) :: rest) := by
  intro η G vs w hsep hob hs
  refine (h η G vs w hsep hob hs).mono fun v w' ⟨η', G', h1, h2, h3⟩ => ⟨η', G', h1, fun j => ?_, h3⟩
  have := h2 j
  by_cases e : j = k
  · subst e
    simp only [lookN, eqN_refl, cond_true] at this ⊢
    cases ho : η' j with
    | none => rw [ho] at this; exact this.elim
    | some o => rw [ho] at this; exact ⟨this.1, this.2.1, fun w2 hw2 => ⟨hΦ _ _ _ (this.2.2 w2 hw2).1, fun x hx => by cases hx⟩⟩
  · have q : eqN k j = false := decide_eq_false fun e' => e e'.symm
    simp only [lookN, q, cond_false] at this ⊢
    exact this

/-- The book, with lists of these lengths. -/
def bookΦ (ns : List Nat) (w : World) (v : Value) (B : List Nat) : Prop := exΦ v (bookQ ns) w v B
theorem book_own {v0 : Value} {ns : List Nat} (w : World) (v : Value) (B : List Nat) (h : exΦ v0 (bookQ ns) w v B) : bookΦ ns w v B := by
  obtain ⟨H, h1, h2, h3⟩ := h
  have := h3.1
  subst this
  exact ⟨H, h1, h2, h3⟩

def nils23 : List SV := [.nil, .nil, .nil, .nil, .nil, .nil, .nil, .nil, .nil, .nil, .nil, .nil, .nil, .nil, .nil, .nil, .nil, .nil, .nil, .nil, .nil, .nil, .nil]
theorem nils_rel {η : OEnv} {G : Nat → Prop} {w : World} : ∀ (n : Nat) (vs : List Value), SVRels η G w (List.replicate n .nil) vs → vs = List.replicate n nilV
  | 0, [], _ => rfl
  | 0, _ :: _, h => h.elim
  | n + 1, [], h => h.elim
  | n + 1, v :: vs, h => by
      have h1 : v = nilV := h.1
      rw [h1, nils_rel n vs h.2]; rfl

theorem con18a {bs : List UInt8} : Con 18 [.loc 1000 0, .own 1001] [(1000, .cells 61 [.nil, .nil, .nil, .nil, .nil, .nil, .nil, .nil, .nil, .nil, .nil, .nil, .nil, .nil, .nil, .nil, .nil, .nil, .nil, .nil, .nil, .nil, .nil]), (1001, .barr 5 fun _ => bs)] (.tup [])
    [(1000, .cust none (fun _ => bookΦ [bs.length])), (1001, .dead)] := by
  refine ⟨specX_conv (Y := Value × Nat) (F := fun _ => True) (X' := fun y => .cust none (fun _ => memΦ y.1 [(y.2, 61, nilV :: List.replicate 22 nilV)])) (fun η G w o ho => ?_) fun y _ => ?_⟩
  · obtain ⟨h1, h2, b, vs, hm, hh, hs⟩ := ho
    have hv : vs = List.replicate 23 nilV := nils_rel 23 vs hs
    subst hv
    exact ⟨(o.val, b), trivial, h1, h2, fun w' hw' => ⟨⟨rfl, hm, by rw [hm]; simp, fun p hp => by
      simp at hp; subst hp
      unfold HasRow; rw [hw' b (by rw [hm]; simp)]; exact hh⟩, fun x hx => by cases hx⟩⟩
  · have hB : BookAt [] [(y.2, 61, nilV :: List.replicate 22 nilV)] y.2 nilV [] [] 0 := ⟨rfl, .inl ⟨rfl, rfl, rfl, rfl⟩, rfl, fun i hi => by simp at hi, by simp⟩
    exact specX_exit (con18m (v0 := y.1) (bs := bs) hB (by simp)).spec book_own

theorem con18b {ns : List Nat} {bs : List UInt8} (hl : ns.length < 1000000) : Con 18 [.loc 1000 0, .own 1001] [(1000, .cust none (fun _ => bookΦ ns)), (1001, .barr 5 fun _ => bs)] (.tup [])
    [(1000, .cust none (fun _ => bookΦ (ns ++ [bs.length]))), (1001, .dead)] := by
  refine ⟨specX_conv (Y := Value × Mem) (F := fun y => bookQ ns y.2) (X' := fun y => .cust none (fun _ => memΦ y.1 y.2)) (fun η G w o ho => ?_) fun y hy => ?_⟩
  · obtain ⟨h1, h2, h3⟩ := ho
    obtain ⟨H, q1, q2, q3⟩ := (h3 w fun _ _ => rfl).1
    exact ⟨(o.val, H), q1, h1, h2, fun w' hw' => ⟨mem_stay q3 hw', fun x hx => by cases hx⟩⟩
  · obtain ⟨bb, hd, r, hs, c, hB⟩ := hy
    exact specX_exit (con18m (v0 := y.1) (bs := bs) hB hl).spec book_own
end Go.Proofs.Ytmdfjipjkkjpcaa

/- The book's lists of bytes: marks (plain law). -/
namespace Go.Proofs.Ytmdfjipjkkjpcaa
open Go.SX

def mk (i k : Nat) : Value := .int .u8 (IntKind.u8.wrap ((i : Int) * 97 + (k : Int) * 13))
/-- A list whose first cells are marked. -/
def MarkAt (H : Mem) (i : Nat) (h : Value) (n m : Nat) : Prop := (h = nilV ∧ n = 0) ∨ ∃ b c cs, h = .slice (some ⟨b, 0, none⟩) n c ∧ (b, 5, cs) ∈ H ∧ cs.length = c ∧ n ≤ c ∧ c ≤ maxLen ∧ ∀ k, k < m → cs[k]? = some (mk i k)
/-- What is marked of list j, where list i is marked up to k. -/
def upTo (ns : List Nat) (i k j : Nat) : Nat := if j < i then ns.getD j 0 else if j = i then k else 0
/-- The book's own block is as it was. -/
def topQ (bb : Nat) (tc : List Value) (H : Mem) : Prop := ∃ r, H = (bb, 61, tc) :: r
/-- Blocks that are neither bytes' nor headers' of such. -/
def Kept (K H : Mem) : Prop := ∀ p ∈ K, (p.2.1 ≠ 5 ∧ p.2.1 ≠ 27) ∧ p ∈ H
structure Marks (ns : List Nat) (bb : Nat) (tc : List Value) (K : Mem) (hd : Value) (hs : List Value) (c i k : Nat) (H : Mem) : Prop where
  top : topQ bb tc H
  kp : Kept K H
  bank : SlM H 27 1 hd ns.length c hs
  len : hs.length = ns.length
  lis : ∀ j, j < ns.length → MarkAt H j (hs.getD j nilV) (ns.getD j 0) (upTo ns i k j)
  dist : (hs.filterMap Value.ownBlock).Nodup

/-- The book's lists of bytes. -/
structure BkAt (ns : List Nat) (H : Mem) (bb : Nat) (tc : List Value) (hd : Value) (hs : List Value) (c : Nat) : Prop where
  top : topQ bb tc H
  bank : SlM H 27 1 hd ns.length c hs
  len : hs.length = ns.length
  lis : ∀ i, i < ns.length → LisM H (hs.getD i nilV) (ns.getD i 0)
  dist : (hs.filterMap Value.ownBlock).Nodup
theorem marks_0 {ns : List Nat} {H K : Mem} {bb c : Nat} {tc : List Value} {hd : Value} {hs : List Value} (hB : BkAt ns H bb tc hd hs c) (hK : Kept K H) : Marks ns bb tc K hd hs c 0 0 H :=
  ⟨hB.top, hK, hB.bank, hB.len, fun j hj => by
    rcases hB.lis j hj with h | ⟨b, c, cs, h1, h2, h3, h4, h5⟩
    · exact .inl h
    · exact .inr ⟨b, c, cs, h1, h2, h3, h4, h5, fun k hk => by unfold upTo at hk; split at hk <;> (try split at hk) <;> omega⟩, hB.dist⟩
theorem marks_next {ns : List Nat} {bb c i : Nat} {hd : Value} {hs tc : List Value} {H K : Mem} (h : Marks ns bb tc K hd hs c i (ns.getD i 0) H) : Marks ns bb tc K hd hs c (i + 1) 0 H :=
  ⟨h.top, h.kp, h.bank, h.len, fun j hj => by
    have := h.lis j hj
    have e : upTo ns (i + 1) 0 j = upTo ns i (ns.getD i 0) j := by
      unfold upTo
      by_cases h1 : j < i
      · rw [if_pos (by omega), if_pos h1]
      · by_cases h2 : j = i
        · subst h2; rw [if_pos (by omega), if_neg (by omega), if_pos rfl]
        · rw [if_neg (by omega), if_neg h1, if_neg h2]
          split <;> rfl
    rw [e]; exact this, h.dist⟩

theorem getD_nil {hs : List Value} {i : Nat} (h : i < hs.length) : hs.getD i nilV ∈ hs := by rw [List.getD_eq_getElem?_getD, List.getElem?_eq_getElem h]; exact List.getElem_mem h
theorem own_inj : ∀ {hs : List Value}, (hs.filterMap Value.ownBlock).Nodup → ∀ {i j b : Nat}, i < hs.length → j < hs.length → (hs.getD i nilV).ownBlock = some b → (hs.getD j nilV).ownBlock = some b → i = j
  | [], _, i, j, b, hi, _, _, _ => by simp at hi
  | h :: hs, hn, 0, 0, b, _, _, _, _ => rfl
  | h :: hs, hn, 0, j + 1, b, _, hj, h1, h2 => by
      have h1 : h.ownBlock = some b := h1
      simp only [List.filterMap_cons, h1] at hn
      have hj' : j < hs.length := by simpa using hj
      refine absurd (List.mem_filterMap.2 ⟨hs.getD j nilV, getD_nil hj', h2⟩) (List.nodup_cons.1 hn).1
  | h :: hs, hn, i + 1, 0, b, hi, _, h1, h2 => by
      have h2 : h.ownBlock = some b := h2
      simp only [List.filterMap_cons, h2] at hn
      have hi' : i < hs.length := by simpa using hi
      refine absurd (List.mem_filterMap.2 ⟨hs.getD i nilV, getD_nil hi', h1⟩) (List.nodup_cons.1 hn).1
  | h :: hs, hn, i + 1, j + 1, b, hi, hj, h1, h2 => by
      have hn' : (hs.filterMap Value.ownBlock).Nodup := by
        simp only [List.filterMap_cons] at hn
        split at hn
        · exact hn
        · exact (List.nodup_cons.1 hn).2
      rw [own_inj hn' (by simpa using hi) (by simpa using hj) h1 h2]

/-- One mark more. -/
theorem marks_put {ns : List Nat} {bb c i k b n cb : Nat} {hd : Value} {hs tc : List Value} {H K : Mem} (h : Marks ns bb tc K hd hs c i k H) (hn : (H.map (·.1)).Nodup) (hi : i < ns.length) (hk : k < ns.getD i 0) (hb : hs.getD i nilV = .slice (some ⟨b, 0, none⟩) n cb) :
    ∃ cs, (b, 5, cs) ∈ H ∧ k + 1 ≤ cs.length ∧ Marks ns bb tc K hd hs c i (k + 1) (putB H b (cs.take k ++ [mk i k] ++ cs.drop (k + 1))) := by
  rcases h.lis i hi with ⟨_, h0⟩ | ⟨b', c', cs, h1, h2, h3, h4, h5, h6⟩
  · omega
  · have e : b' = b := by rw [h1] at hb; cases hb; rfl
    subst e
    have hkc : k < cs.length := by omega
    have hup : upTo ns i k i = k := by unfold upTo; rw [if_neg (by omega), if_pos rfl]
    rw [hup] at h6
    refine ⟨cs, h2, by omega, ⟨?_, fun p hp => ⟨(h.kp p hp).1, putB_other (h.kp p hp).2 fun e => (h.kp p hp).1.1 (by rw [mem_eq hn (h.kp p hp).2 h2 e])⟩, ?_, h.len, fun j hj => ?_, h.dist⟩⟩
    · obtain ⟨r, hr⟩ := h.top
      have hne : bb ≠ b' := fun e => by
        have := mem_eq hn (p := (bb, 61, tc)) (by rw [hr]; exact List.mem_cons_self) h2 e
        simp at this
      exact ⟨putB r b' _, by rw [hr]; unfold putB; rw [List.map_cons, if_neg hne]⟩
    · rcases h.bank with q | ⟨b2, cs2, q1, q2, q3⟩
      · exact .inl q
      · exact .inr ⟨b2, cs2, q1, putB_other q2 fun e => by
          have := mem_eq hn q2 h2 e
          simp at this, q3⟩
    · by_cases e : j = i
      · subst e
        have hup' : upTo ns j (k + 1) j = k + 1 := by unfold upTo; rw [if_neg (by omega), if_pos rfl]
        rw [hup']
        refine .inr ⟨b', c', _, h1, putB_mem h2, by simp; omega, h4, h5, fun q hq => ?_⟩
        by_cases e2 : q = k
        · subst e2
          rw [List.getElem?_append_left (by simp; omega), List.getElem?_append_right (by rw [List.length_take]; omega), List.length_take, Nat.min_eq_left (by omega)]
          simp
        · rw [List.append_assoc, List.getElem?_append_left (by simp; omega), List.getElem?_take, if_pos (by omega)]
          exact h6 q (by omega)
      · have hup' : upTo ns i (k + 1) j = upTo ns i k j := by unfold upTo; split <;> simp [e]
        rw [hup']
        rcases h.lis j hj with q | ⟨b2, c2, cs2, q1, q2, q3, q4, q5, q6⟩
        · exact .inl q
        · refine .inr ⟨b2, c2, cs2, q1, putB_other q2 fun e2 => e ?_, q3, q4, q5, q6⟩
          have e2 : b2 = b' := e2
          subst e2
          exact own_inj h.dist (by rw [h.len]; exact hj) (by rw [h.len]; exact hi) (b := b2) (by rw [q1]; rfl) (by rw [h1]; rfl)
end Go.Proofs.Ytmdfjipjkkjpcaa

/- The book: Own, given that of its lists of bytes and of its lists of entries. (Printed by gen_yq.py.) -/
namespace Go.Proofs.Ytmdfjipjkkjpcaa
open Go.SX

/-- The book's cells: the headers of the lists of bytes, and of the lists of entries. -/
def topC (hd e : Value) : List Value := [hd, nilV, nilV, nilV, nilV, nilV, nilV, nilV, nilV, nilV, nilV, nilV, nilV, nilV, nilV, nilV, e, nilV, nilV, nilV, nilV, nilV, nilV]
theorem topQ.cell {bb o : Nat} {hd e u : Value} {H : Mem} (h : topQ bb (topC hd e) H) (hu : (topC hd e)[o]? = some u) : IsP H (.loc 1000 o) bb o ∧ ∃ Tb cs, (bb, Tb, cs) ∈ H ∧ cs[o]? = some u := by
  obtain ⟨r, rfl⟩ := h
  exact ⟨.inr ⟨rfl, _, _, _, rfl⟩, _, _, List.mem_cons_self, hu⟩

set_option maxRecDepth 20000 in
set_option maxHeartbeats 2000000 in
theorem con23o {H K : Mem} {bb : Nat} {hd e v0 : Value} (ht : topQ bb (topC hd e) H) (h1d : hd.oneCell' = true) (h1e : e.oneCell' = true)
    (c49 : Con 49 [.rv 1000 (fun _ => hd)] [(1000, .cust none (fun _ => memΦ v0 H))] (.bool .t) [(1000, .cust none (fun _ => exΦ v0 (fun H => topQ bb (topC hd e) H ∧ Kept K H)))])
    (c65 : ∀ H', topQ bb (topC hd e) H' → Kept K H' → (H'.map (·.1)).Nodup → Con 65 [.rv 1000 (fun _ => e)] [(1000, .cust none (fun _ => memΦ v0 H'))] (.bool .t) [(1000, .cust none (fun _ => exΦ v0 (topQ bb (topC hd e))))]) :
    Con 23 [.loc 1000 0] [(1000, .cust none (fun _ => memΦ v0 H))] (.bool .t) [(1000, .dead)] := by
  have c65' : Con 65 [.rv 1000 (fun _ => e)] [(1000, .cust none (fun _ => exΦ v0 (fun H => topQ bb (topC hd e) H ∧ Kept K H)))] (.bool .t) [(1000, .cust none (fun _ => exΦ v0 (topQ bb (topC hd e))))] :=
    ⟨specX_conv (Y := Mem) (F := fun H => (topQ bb (topC hd e) H ∧ Kept K H) ∧ (H.map (·.1)).Nodup) (X' := fun H => .cust none (fun _ => memΦ v0 H)) (fun η G w o ho => by
      obtain ⟨H, q1, q2, q3⟩ := cust_open (η := η) (G := G) ex_id ho
      exact ⟨H, ⟨q1, q2⟩, q3⟩) fun H hH => (c65 H hH.1.1 hH.1.2 hH.2).spec⟩
  have r1 : ConG (rawC 0 37) [.loc 1000 0] [(1000, .cust none (fun _ => memΦ v0 H))] Unit (fun _ => .rv 1000 fun _ => hd) (fun _ => [(1000, .cust none (fun _ => memΦ v0 H))]) := by
    obtain ⟨p1, Tb, cs, p2, p3⟩ := ht.cell (o := 0) rfl
    exact ⟨mem_load eok (T := 37) (b := bb) (o := 0) (u := hd) p1 rfl rfl p2 p3 fun η G w => ⟨rfl, h1d⟩⟩
  have l1 := conG (ex_load eok (T := 38) (b := bb) (o := 1) (Q := (fun H => topQ bb (topC hd e) H ∧ Kept K H)) (v0 := v0) (u := nilV) (a := .loc 1000 1) (r := .nil) rfl rfl (fun _ h => h.1.cell (o := 1) rfl) fun _ _ _ => rfl)
  have l2 := conG (ex_load eok (T := 39) (b := bb) (o := 2) (Q := (fun H => topQ bb (topC hd e) H ∧ Kept K H)) (v0 := v0) (u := nilV) (a := .loc 1000 2) (r := .nil) rfl rfl (fun _ h => h.1.cell (o := 2) rfl) fun _ _ _ => rfl)
  have l3 := conG (ex_load eok (T := 40) (b := bb) (o := 3) (Q := (fun H => topQ bb (topC hd e) H ∧ Kept K H)) (v0 := v0) (u := nilV) (a := .loc 1000 3) (r := .nil) rfl rfl (fun _ h => h.1.cell (o := 3) rfl) fun _ _ _ => rfl)
  have l4 := conG (ex_load eok (T := 41) (b := bb) (o := 4) (Q := (fun H => topQ bb (topC hd e) H ∧ Kept K H)) (v0 := v0) (u := nilV) (a := .loc 1000 4) (r := .nil) rfl rfl (fun _ h => h.1.cell (o := 4) rfl) fun _ _ _ => rfl)
  have l5 := conG (ex_load eok (T := 42) (b := bb) (o := 5) (Q := (fun H => topQ bb (topC hd e) H ∧ Kept K H)) (v0 := v0) (u := nilV) (a := .loc 1000 5) (r := .nil) rfl rfl (fun _ h => h.1.cell (o := 5) rfl) fun _ _ _ => rfl)
  have l6 := conG (ex_load eok (T := 43) (b := bb) (o := 6) (Q := (fun H => topQ bb (topC hd e) H ∧ Kept K H)) (v0 := v0) (u := nilV) (a := .loc 1000 6) (r := .nil) rfl rfl (fun _ h => h.1.cell (o := 6) rfl) fun _ _ _ => rfl)
  have l7 := conG (ex_load eok (T := 44) (b := bb) (o := 7) (Q := (fun H => topQ bb (topC hd e) H ∧ Kept K H)) (v0 := v0) (u := nilV) (a := .loc 1000 7) (r := .nil) rfl rfl (fun _ h => h.1.cell (o := 7) rfl) fun _ _ _ => rfl)
  have l8 := conG (ex_load eok (T := 45) (b := bb) (o := 8) (Q := (fun H => topQ bb (topC hd e) H ∧ Kept K H)) (v0 := v0) (u := nilV) (a := .loc 1000 8) (r := .nil) rfl rfl (fun _ h => h.1.cell (o := 8) rfl) fun _ _ _ => rfl)
  have l9 := conG (ex_load eok (T := 46) (b := bb) (o := 9) (Q := (fun H => topQ bb (topC hd e) H ∧ Kept K H)) (v0 := v0) (u := nilV) (a := .loc 1000 9) (r := .nil) rfl rfl (fun _ h => h.1.cell (o := 9) rfl) fun _ _ _ => rfl)
  have l10 := conG (ex_load eok (T := 47) (b := bb) (o := 10) (Q := (fun H => topQ bb (topC hd e) H ∧ Kept K H)) (v0 := v0) (u := nilV) (a := .loc 1000 10) (r := .nil) rfl rfl (fun _ h => h.1.cell (o := 10) rfl) fun _ _ _ => rfl)
  have l11 := conG (ex_load eok (T := 48) (b := bb) (o := 11) (Q := (fun H => topQ bb (topC hd e) H ∧ Kept K H)) (v0 := v0) (u := nilV) (a := .loc 1000 11) (r := .nil) rfl rfl (fun _ h => h.1.cell (o := 11) rfl) fun _ _ _ => rfl)
  have l12 := conG (ex_load eok (T := 49) (b := bb) (o := 12) (Q := (fun H => topQ bb (topC hd e) H ∧ Kept K H)) (v0 := v0) (u := nilV) (a := .loc 1000 12) (r := .nil) rfl rfl (fun _ h => h.1.cell (o := 12) rfl) fun _ _ _ => rfl)
  have l13 := conG (ex_load eok (T := 50) (b := bb) (o := 13) (Q := (fun H => topQ bb (topC hd e) H ∧ Kept K H)) (v0 := v0) (u := nilV) (a := .loc 1000 13) (r := .nil) rfl rfl (fun _ h => h.1.cell (o := 13) rfl) fun _ _ _ => rfl)
  have l14 := conG (ex_load eok (T := 51) (b := bb) (o := 14) (Q := (fun H => topQ bb (topC hd e) H ∧ Kept K H)) (v0 := v0) (u := nilV) (a := .loc 1000 14) (r := .nil) rfl rfl (fun _ h => h.1.cell (o := 14) rfl) fun _ _ _ => rfl)
  have l15 := conG (ex_load eok (T := 52) (b := bb) (o := 15) (Q := (fun H => topQ bb (topC hd e) H ∧ Kept K H)) (v0 := v0) (u := nilV) (a := .loc 1000 15) (r := .nil) rfl rfl (fun _ h => h.1.cell (o := 15) rfl) fun _ _ _ => rfl)
  have l16 := conG (ex_load eok (T := 53) (b := bb) (o := 16) (Q := (fun H => topQ bb (topC hd e) H ∧ Kept K H)) (v0 := v0) (u := e) (a := .loc 1000 16) (r := .rv 1000 fun _ => e) rfl rfl (fun _ h => h.1.cell (o := 16) rfl) fun _ _ _ => ⟨rfl, h1e⟩)
  have l17 := conG (ex_load eok (T := 54) (b := bb) (o := 17) (Q := (topQ bb (topC hd e))) (v0 := v0) (u := nilV) (a := .loc 1000 17) (r := .nil) rfl rfl (fun _ h => h.cell (o := 17) rfl) fun _ _ _ => rfl)
  have l18 := conG (ex_load eok (T := 55) (b := bb) (o := 18) (Q := (topQ bb (topC hd e))) (v0 := v0) (u := nilV) (a := .loc 1000 18) (r := .nil) rfl rfl (fun _ h => h.cell (o := 18) rfl) fun _ _ _ => rfl)
  have l19 := conG (ex_load eok (T := 56) (b := bb) (o := 19) (Q := (topQ bb (topC hd e))) (v0 := v0) (u := nilV) (a := .loc 1000 19) (r := .nil) rfl rfl (fun _ h => h.cell (o := 19) rfl) fun _ _ _ => rfl)
  have l20 := conG (ex_load eok (T := 57) (b := bb) (o := 20) (Q := (topQ bb (topC hd e))) (v0 := v0) (u := nilV) (a := .loc 1000 20) (r := .nil) rfl rfl (fun _ h => h.cell (o := 20) rfl) fun _ _ _ => rfl)
  have l21 := conG (ex_load eok (T := 58) (b := bb) (o := 21) (Q := (topQ bb (topC hd e))) (v0 := v0) (u := nilV) (a := .loc 1000 21) (r := .nil) rfl rfl (fun _ h => h.cell (o := 21) rfl) fun _ _ _ => rfl)
  have l22 := conG (ex_load eok (T := 59) (b := bb) (o := 22) (Q := (topQ bb (topC hd e))) (v0 := v0) (u := nilV) (a := .loc 1000 22) (r := .nil) rfl rfl (fun _ h => h.cell (o := 22) rfl) fun _ _ _ => rfl)
  refine con_of Try.func23 rfl rfl 166 _ rfl rfl rfl rfl ?_
  cbv
  refine ⟨Unit, _, _, r1, ⟨by kernel_rfl⟩, fun _ => ⟨⟨by kernel_rfl⟩, ?_⟩⟩
  cbv
  refine ⟨_, _, c49, ⟨?_⟩, ?_⟩
  · kernel_rfl
  cbv
  refine ⟨Unit, _, _, l1, ⟨by kernel_rfl⟩, fun _ => ⟨⟨by kernel_rfl⟩, ?_⟩⟩
  cbv
  refine ⟨_, _, con50, ⟨?_⟩, ?_⟩
  · kernel_rfl
  cbv
  refine ⟨Unit, _, _, l2, ⟨by kernel_rfl⟩, fun _ => ⟨⟨by kernel_rfl⟩, ?_⟩⟩
  cbv
  refine ⟨_, _, con51, ⟨?_⟩, ?_⟩
  · kernel_rfl
  cbv
  refine ⟨Unit, _, _, l3, ⟨by kernel_rfl⟩, fun _ => ⟨⟨by kernel_rfl⟩, ?_⟩⟩
  cbv
  refine ⟨_, _, con52, ⟨?_⟩, ?_⟩
  · kernel_rfl
  cbv
  refine ⟨Unit, _, _, l4, ⟨by kernel_rfl⟩, fun _ => ⟨⟨by kernel_rfl⟩, ?_⟩⟩
  cbv
  refine ⟨_, _, con53, ⟨?_⟩, ?_⟩
  · kernel_rfl
  cbv
  refine ⟨Unit, _, _, l5, ⟨by kernel_rfl⟩, fun _ => ⟨⟨by kernel_rfl⟩, ?_⟩⟩
  cbv
  refine ⟨_, _, con54, ⟨?_⟩, ?_⟩
  · kernel_rfl
  cbv
  refine ⟨Unit, _, _, l6, ⟨by kernel_rfl⟩, fun _ => ⟨⟨by kernel_rfl⟩, ?_⟩⟩
  cbv
  refine ⟨_, _, con55, ⟨?_⟩, ?_⟩
  · kernel_rfl
  cbv
  refine ⟨Unit, _, _, l7, ⟨by kernel_rfl⟩, fun _ => ⟨⟨by kernel_rfl⟩, ?_⟩⟩
  cbv
  refine ⟨_, _, con56, ⟨?_⟩, ?_⟩
  · kernel_rfl
  cbv
  refine ⟨Unit, _, _, l8, ⟨by kernel_rfl⟩, fun _ => ⟨⟨by kernel_rfl⟩, ?_⟩⟩
  cbv
  refine ⟨_, _, con57, ⟨?_⟩, ?_⟩
  · kernel_rfl
  cbv
  refine ⟨Unit, _, _, l9, ⟨by kernel_rfl⟩, fun _ => ⟨⟨by kernel_rfl⟩, ?_⟩⟩
  cbv
  refine ⟨_, _, con58, ⟨?_⟩, ?_⟩
  · kernel_rfl
  cbv
  refine ⟨Unit, _, _, l10, ⟨by kernel_rfl⟩, fun _ => ⟨⟨by kernel_rfl⟩, ?_⟩⟩
  cbv
  refine ⟨_, _, con59, ⟨?_⟩, ?_⟩
  · kernel_rfl
  cbv
  refine ⟨Unit, _, _, l11, ⟨by kernel_rfl⟩, fun _ => ⟨⟨by kernel_rfl⟩, ?_⟩⟩
  cbv
  refine ⟨_, _, con60, ⟨?_⟩, ?_⟩
  · kernel_rfl
  cbv
  refine ⟨Unit, _, _, l12, ⟨by kernel_rfl⟩, fun _ => ⟨⟨by kernel_rfl⟩, ?_⟩⟩
  cbv
  refine ⟨_, _, con61, ⟨?_⟩, ?_⟩
  · kernel_rfl
  cbv
  refine ⟨Unit, _, _, l13, ⟨by kernel_rfl⟩, fun _ => ⟨⟨by kernel_rfl⟩, ?_⟩⟩
  cbv
  refine ⟨_, _, con62, ⟨?_⟩, ?_⟩
  · kernel_rfl
  cbv
  refine ⟨Unit, _, _, l14, ⟨by kernel_rfl⟩, fun _ => ⟨⟨by kernel_rfl⟩, ?_⟩⟩
  cbv
  refine ⟨_, _, con63, ⟨?_⟩, ?_⟩
  · kernel_rfl
  cbv
  refine ⟨Unit, _, _, l15, ⟨by kernel_rfl⟩, fun _ => ⟨⟨by kernel_rfl⟩, ?_⟩⟩
  cbv
  refine ⟨_, _, con64, ⟨?_⟩, ?_⟩
  · kernel_rfl
  cbv
  refine ⟨Unit, _, _, l16, ⟨by kernel_rfl⟩, fun _ => ⟨⟨by kernel_rfl⟩, ?_⟩⟩
  cbv
  refine ⟨_, _, c65', ⟨?_⟩, ?_⟩
  · kernel_rfl
  cbv
  refine ⟨Unit, _, _, l17, ⟨by kernel_rfl⟩, fun _ => ⟨⟨by kernel_rfl⟩, ?_⟩⟩
  cbv
  refine ⟨_, _, con66, ⟨?_⟩, ?_⟩
  · kernel_rfl
  cbv
  refine ⟨Unit, _, _, l18, ⟨by kernel_rfl⟩, fun _ => ⟨⟨by kernel_rfl⟩, ?_⟩⟩
  cbv
  refine ⟨_, _, con67, ⟨?_⟩, ?_⟩
  · kernel_rfl
  cbv
  refine ⟨Unit, _, _, l19, ⟨by kernel_rfl⟩, fun _ => ⟨⟨by kernel_rfl⟩, ?_⟩⟩
  cbv
  refine ⟨_, _, con68, ⟨?_⟩, ?_⟩
  · kernel_rfl
  cbv
  refine ⟨Unit, _, _, l20, ⟨by kernel_rfl⟩, fun _ => ⟨⟨by kernel_rfl⟩, ?_⟩⟩
  cbv
  refine ⟨_, _, con69, ⟨?_⟩, ?_⟩
  · kernel_rfl
  cbv
  refine ⟨Unit, _, _, l21, ⟨by kernel_rfl⟩, fun _ => ⟨⟨by kernel_rfl⟩, ?_⟩⟩
  cbv
  refine ⟨_, _, con70, ⟨?_⟩, ?_⟩
  · kernel_rfl
  cbv
  refine ⟨Unit, _, _, l22, ⟨by kernel_rfl⟩, fun _ => ⟨⟨by kernel_rfl⟩, ?_⟩⟩
  cbv
  refine ⟨_, _, con71, ⟨?_⟩, ?_⟩
  · kernel_rfl
  cbv
  refine ⟨[(1000, some 1000)], [], ?_⟩
  cbv
  and_intros
  all_goals first | exact trivial | exact ⟨rfl⟩ | exact ⟨by kernel_rfl⟩
end Go.Proofs.Ytmdfjipjkkjpcaa

/- The book's lists of bytes: what is put behind them (plain law). -/
namespace Go.Proofs.Ytmdfjipjkkjpcaa
open Go.SX

def mk' (i k : Nat) : Value := .int .u8 (IntKind.u8.wrap ((-1 - (i : Int)) * 97 + (k : Int) * 13))
/-- What stands at place k of list j, its own cells or those put behind. -/
def cellAt (ns : List Nat) (j k : Nat) : Value := if k < ns.getD j 0 then mk j k else mk' j (k - ns.getD j 0)
/-- List j: its block is its own, its cells are what is to stand there. -/
def LA (ns : List Nat) (own : Nat → Nat) (H : Mem) (j : Nat) (h : Value) (n : Nat) : Prop :=
  (h = nilV ∧ n = 0) ∨ ∃ b c cs, h = .slice (some ⟨b, 0, none⟩) n c ∧ (b, 5, cs) ∈ H ∧ cs.length = c ∧ n ≤ c ∧ c ≤ maxLen ∧ own b = j ∧ ∀ k, k < n → cs[k]? = some (cellAt ns j k)
structure Two (ns : List Nat) (bb : Nat) (tc : List Value) (K : Mem) (hd : Value) (hs : List Value) (c i nx : Nat) (lv x : Value) (H : Mem) : Prop where
  nd : (H.map (·.1)).Nodup
  top : topQ bb tc H
  kp : Kept K H
  bank : SlM H 27 1 hd ns.length c hs
  len : hs.length = ns.length
  apart : ∀ b, hd.ownBlock = some b → lv.ownBlock ≠ some b
  more : ∃ own cl ls, SlM H 27 1 lv i cl ls ∧ (∀ j, j < ns.length → LA ns own H j (hs.getD j nilV) (ns.getD j 0)) ∧ (∀ j, j < i → LA ns own H j (ls.getD j nilV) (ns.getD j 0 + 16)) ∧ LA ns own H i x nx

theorem LA.one {ns : List Nat} {own : Nat → Nat} {H : Mem} {j : Nat} {h : Value} {n : Nat} (hl : LA ns own H j h n) : h.oneCell' = true := by
  rcases hl with ⟨rfl, _⟩ | ⟨b, c, cs, rfl, _⟩ <;> rfl
theorem LA.keep {ns : List Nat} {own own' : Nat → Nat} {H H' : Mem} {j : Nat} {h : Value} {n : Nat} (hl : LA ns own H j h n) (hk : ∀ p ∈ H, p.2.1 = 5 → p ∈ H' ∧ own' p.1 = own p.1) : LA ns own' H' j h n := by
  rcases hl with h | ⟨b, c, cs, h1, h2, h3, h4, h5, h6, h7⟩
  · exact .inl h
  · exact .inr ⟨b, c, cs, h1, (hk _ h2 rfl).1, h3, h4, h5, by rw [(hk _ h2 rfl).2]; exact h6, h7⟩
theorem slm_len {H : Mem} {e n c : Nat} {va : Value} {xs : List Value} (h : SlM H e 1 va n c xs) : xs.length = n := by
  rcases h with ⟨_, rfl, _, rfl⟩ | ⟨b, cs, _, _, h1, h2, rfl⟩
  · rfl
  · rw [List.length_take]; omega
theorem slm_blk {H : Mem} {e n c s b : Nat} {va : Value} {xs : List Value} (h : SlM H e s va n c xs) (hb : va.ownBlock = some b) : b ∈ H.map (·.1) := by
  rcases h with ⟨rfl, _⟩ | ⟨b', cs, rfl, h1, _⟩
  · simp [Value.ownBlock] at hb
  · have : b' = b := by simpa [Value.ownBlock] using hb
    subst this
    exact List.mem_map.2 ⟨_, h1, rfl⟩

theorem two_0 {ns : List Nat} {bb c : Nat} {hd : Value} {hs tc : List Value} {H K : Mem} (h : Marks ns bb tc K hd hs c ns.length 0 H) (hn : (H.map (·.1)).Nodup) : Two ns bb tc K hd hs c 0 0 nilV nilV H := by
  classical
  refine ⟨hn, h.top, h.kp, h.bank, h.len, fun b _ => by simp [nilV, Value.ownBlock], fun b => if hb : ∃ j, j < hs.length ∧ (hs.getD j nilV).ownBlock = some b then hb.choose else 0, 0, [], .inl ⟨rfl, rfl, rfl, rfl⟩, fun j hj => ?_, fun j hj => absurd hj (by omega), .inl ⟨rfl, rfl⟩⟩
  rcases h.lis j hj with h1 | ⟨b, c', cs, h1, h2, h3, h4, h5, h6⟩
  · exact .inl h1
  · refine .inr ⟨b, c', cs, h1, h2, h3, h4, h5, ?_, fun k hk => ?_⟩
    · have hb : ∃ j, j < hs.length ∧ (hs.getD j nilV).ownBlock = some b := ⟨j, by rw [h.len]; exact hj, by rw [h1]; rfl⟩
      show (if hb : ∃ j, j < hs.length ∧ (hs.getD j nilV).ownBlock = some b then hb.choose else 0) = j
      rw [dif_pos hb]
      have := hb.choose_spec
      exact own_inj h.dist this.1 (by rw [h.len]; exact hj) this.2 (by rw [h1]; rfl)
    · unfold cellAt
      rw [if_pos hk]
      exact h6 k (by unfold upTo; rw [if_pos hj]; exact hk)
theorem two_begin {ns : List Nat} {bb c i nx : Nat} {hd lv x : Value} {hs tc : List Value} {H K : Mem} (h : Two ns bb tc K hd hs c i nx lv x H) (hi : i < ns.length) : Two ns bb tc K hd hs c i (ns.getD i 0) lv (hs.getD i nilV) H := by
  obtain ⟨own, cl, ls, h1, h2, h3, _⟩ := h.more
  exact ⟨h.nd, h.top, h.kp, h.bank, h.len, h.apart, own, cl, ls, h1, h2, h3, h2 i hi⟩

theorem two_app {ns : List Nat} {bb c i nx : Nat} {hd lv x : Value} {hs tc : List Value} {H K : Mem} (h : Two ns bb tc K hd hs c i nx lv x H) :
    ∃ cx xs, SlM H 5 1 x nx cx xs ∧ ∀ x' H', App H 5 1 x nx cx 1 xs [cellAt ns i nx] x' H' → Two ns bb tc K hd hs c i (nx + 1) lv x' H' := by
  obtain ⟨own, cl, ls, h1, h2, h3, h4⟩ := h.more
  have out : ∀ {cx : Nat} {xs : List Value} {x' : Value} {H' : Mem} (own' : Nat → Nat), App H 5 1 x nx cx 1 xs [cellAt ns i nx] x' H' → (∀ j v n, LA ns own H j v n → LA ns own' H' j v n) → LA ns own' H' i x' (nx + 1) → Two ns bb tc K hd hs c i (nx + 1) lv x' H' := by
    intro cx xs x' H' own' hA hk hx
    have k27 : ∀ {va : Value} {n c : Nat} {us : List Value}, SlM H 27 1 va n c us → SlM H' 27 1 va n c us := by
      rintro va n c us (q | ⟨b2, cs2, q1, q2, q3⟩)
      · exact .inl q
      · exact .inr ⟨b2, cs2, q1, app_keep hA h.nd q2 (by show (27 : Nat) ≠ 5; decide), q3⟩
    obtain ⟨r, hr⟩ := h.top
    exact ⟨hA.1, app_top hA h.nd hr (by show (61 : Nat) ≠ 5; decide), fun p hp => ⟨(h.kp p hp).1, app_keep hA h.nd (h.kp p hp).2 (h.kp p hp).1.1⟩, k27 h.bank, h.len, h.apart, own', cl, ls, k27 h1, fun j hj => hk _ _ _ (h2 j hj), fun j hj => hk _ _ _ (h3 j hj), hx⟩
  have grow : ∀ {cx : Nat} {xs : List Value} {x' : Value} {H' : Mem}, App H 5 1 x nx cx 1 xs [cellAt ns i nx] x' H' → xs.length = nx → (∀ k, k < nx → xs[k]? = some (cellAt ns i k)) → (∃ g c' cs', g ∉ H.map (·.1) ∧ x' = .slice (some ⟨g, 0, none⟩) (nx + 1) c' ∧ H' = H ++ [(g, 5, cs')] ∧ nx + 1 ≤ c' ∧ c' ≤ maxLen ∧ cs'.length = c' * 1 ∧ cs'.take ((nx + 1) * 1) = xs ++ [cellAt ns i nx]) → Two ns bb tc K hd hs c i (nx + 1) lv x' H' := by
    intro cx xs x' H' hA hxl hxs ⟨g, c', cs', g1, g2, g3, g4, g5, g6, g7⟩
    refine out (fun b => if b = g then i else own b) hA (fun j v n hl => hl.keep fun p hp h5 => ⟨by rw [g3]; exact List.mem_append_left _ hp, if_neg fun (e : p.1 = g) => g1 (List.mem_map.2 ⟨p, hp, e⟩)⟩) (.inr ⟨g, c', cs', g2, by rw [g3]; simp, by simpa using g6, g4, g5, if_pos rfl, fun k hk => ?_⟩)
    have e1 : cs'[k]? = (cs'.take ((nx + 1) * 1))[k]? := by rw [List.getElem?_take, if_pos (by omega)]
    rw [e1, g7]
    by_cases e : k < nx
    · rw [List.getElem?_append_left (by omega)]; exact hxs k e
    · have : k = nx := by omega
      subst this
      rw [List.getElem?_append_right (by omega), hxl]; simp
  rcases h4 with ⟨q1, q2⟩ | ⟨b, cx, cs, q1, q2, q3, q4, q5, q6, q7⟩
  · refine ⟨0, [], .inl ⟨q1, q2, rfl, rfl⟩, fun x' H' hA => ?_⟩
    rcases hA.2 with ⟨r1, _⟩ | ⟨_, r⟩
    · omega
    · exact grow hA (by simp [q2]) (fun k hk => by omega) r
  · refine ⟨cx, cs.take (nx * 1), .inr ⟨b, cs, q1, q2, by omega, q4, rfl⟩, fun x' H' hA => ?_⟩
    rcases hA.2 with ⟨r1, b', cs', r2, r3, r4, r5⟩ | ⟨_, r⟩
    · have e1 : b' = b := by rw [q1] at r2; cases r2; rfl
      subst e1
      have e2 := mem_eq h.nd q2 r3 rfl
      simp only [Prod.mk.injEq, true_and] at e2
      subst e2
      have hcell : ∀ k : Nat, k ≠ nx → (cs.take (nx * 1) ++ [cellAt ns i nx] ++ cs.drop ((nx + 1) * 1))[k]? = cs[k]? := by
        intro k hk
        by_cases e : k < nx
        · rw [List.append_assoc, List.getElem?_append_left (by rw [List.length_take]; omega), List.getElem?_take, if_pos (by omega)]
        · rw [List.getElem?_append_right (by simp only [List.length_append, List.length_take, List.length_singleton]; omega), List.getElem?_drop]
          congr 1
          simp only [List.length_append, List.length_take, List.length_singleton]; omega
      have hnew : (cs.take (nx * 1) ++ [cellAt ns i nx] ++ cs.drop ((nx + 1) * 1))[nx]? = some (cellAt ns i nx) := by
        rw [List.append_assoc, List.getElem?_append_right (by rw [List.length_take]; omega), List.length_take, Nat.min_eq_left (by omega)]
        simp
      have hlen : (cs.take (nx * 1) ++ [cellAt ns i nx] ++ cs.drop ((nx + 1) * 1)).length = cx := by
        simp only [List.length_append, List.length_take, List.length_drop, List.length_singleton]; omega
      refine out own hA (fun j v n hl => ?_) (.inr ⟨b', cx, _, r4, by rw [r5]; exact putB_mem q2, hlen, r1, q5, q6, fun k hk => ?_⟩)
      · rcases hl with hl | ⟨b2, c2, cs2, s1, s2, s3, s4, s5, s6, s7⟩
        · exact .inl hl
        · by_cases e : b2 = b'
          · subst e
            have e2 := mem_eq h.nd q2 s2 rfl
            simp only [Prod.mk.injEq, true_and] at e2
            subst e2
            have hji : i = j := by rw [← q6, ← s6]
            subst hji
            refine .inr ⟨b2, c2, _, s1, by rw [r5]; exact putB_mem q2, by rw [hlen, ← q3, s3], s4, s5, s6, fun k hk => ?_⟩
            by_cases e : k = nx
            · subst e; exact hnew
            · rw [hcell k e]; exact s7 k hk
          · exact .inr ⟨b2, c2, cs2, s1, by rw [r5]; exact putB_other s2 e, s3, s4, s5, s6, s7⟩
      · by_cases e : k = nx
        · subst e; exact hnew
        · rw [hcell k e]; exact q7 k (by omega)
    · exact grow hA (by rw [List.length_take]; omega) (fun k hk => by rw [List.getElem?_take, if_pos (by omega)]; exact q7 k hk) r

theorem two_push {ns : List Nat} {bb c i : Nat} {hd lv x : Value} {hs tc : List Value} {H K : Mem} (h : Two ns bb tc K hd hs c i (ns.getD i 0 + 16) lv x H) :
    ∃ cl ls, SlM H 27 1 lv i cl ls ∧ ∀ lv' H', App H 27 1 lv i cl 1 ls [x] lv' H' → Two ns bb tc K hd hs c (i + 1) 0 lv' nilV H' := by
  obtain ⟨own, cl, ls, h1, h2, h3, h4⟩ := h.more
  refine ⟨cl, ls, h1, fun lv' H' hA => ?_⟩
  have hk : ∀ j v n, LA ns own H j v n → LA ns own H' j v n := fun j v n hl => hl.keep fun p hp h5 => ⟨app_keep hA h.nd hp (by omega), rfl⟩
  obtain ⟨cl', hsl⟩ := app_slm hA h.nd h1 (by simp)
  obtain ⟨r, hr⟩ := h.top
  have hll := slm_len h1
  refine ⟨hA.1, app_top hA h.nd hr (by show (61 : Nat) ≠ 27; decide), fun p hp => ⟨(h.kp p hp).1, app_keep hA h.nd (h.kp p hp).2 (h.kp p hp).1.2⟩, ?_, h.len, ?_, own, cl', ls ++ [x], hsl, fun j hj => hk _ _ _ (h2 j hj), fun j hj => ?_, .inl ⟨rfl, rfl⟩⟩
  · rcases h.bank with q | ⟨b2, cs2, q1, q2, q3⟩
    · exact .inl q
    · refine .inr ⟨b2, cs2, q1, ?_, q3⟩
      rcases hA.2 with ⟨_, b, cs, r2, _, _, rfl⟩ | ⟨_, g, c', cs', _, _, rfl, _⟩
      · exact putB_other q2 fun e => h.apart b2 (by rw [q1]; rfl) (by rw [r2, show b2 = b from e]; rfl)
      · exact List.mem_append_left _ q2
  · intro b hb hb'
    rcases hA.2 with ⟨_, b2, cs, r2, _, rfl, _⟩ | ⟨_, g, c', cs', g1, rfl, _⟩
    · exact h.apart b hb (by rw [r2]; exact hb')
    · have : g = b := by simpa [Value.ownBlock] using hb'
      subst this
      exact g1 (slm_blk h.bank hb)
  · by_cases e : j < i
    · rw [List.getD_eq_getElem?_getD, List.getElem?_append_left (by omega), ← List.getD_eq_getElem?_getD]
      exact hk _ _ _ (h3 j e)
    · have : j = i := by omega
      subst this
      rw [List.getD_eq_getElem?_getD, List.getElem?_append_right (by omega), hll]
      simpa using hk _ _ _ h4

theorem slm_at {H : Mem} {e n c : Nat} {va : Value} {xs : List Value} (h : SlM H e 1 va n c xs) {i : Nat} (hi : i < n) : ∃ b cs, va = .slice (some ⟨b, 0, none⟩) n c ∧ (b, e, cs) ∈ H ∧ cs[i]? = some (xs.getD i nilV) := by
  rcases h with ⟨_, rfl, _⟩ | ⟨b, cs, h1, h2, h3, h4, h5⟩
  · omega
  · refine ⟨b, cs, h1, h2, ?_⟩
    have : xs[i]? = cs[i]? := by rw [← h5, List.getElem?_take, if_pos (by omega)]
    rw [List.getD_eq_getElem?_getD, this, List.getElem?_eq_getElem (by omega)]
    rfl
theorem la_at {ns : List Nat} {own : Nat → Nat} {H : Mem} {j n k : Nat} {h : Value} (hl : LA ns own H j h n) (hk : k < n) : ∃ b c cs, h = .slice (some ⟨b, 0, none⟩) n c ∧ (b, 5, cs) ∈ H ∧ cs[k]? = some (cellAt ns j k) := by
  rcases hl with ⟨_, rfl⟩ | ⟨b, c, cs, h1, h2, _, _, _, _, h7⟩
  · omega
  · exact ⟨b, c, cs, h1, h2, h7 k hk⟩
end Go.Proofs.Ytmdfjipjkkjpcaa

