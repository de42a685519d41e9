/- Texts put together: Ea, Eb, Ec, Ed. -/
import Derived.Carry
import Derived.ProofKit
import Derived.SizedLaws
import Derived.Test.YtkogbobplhebaaaGreatDoorQl
set_option linter.unusedVariables false
set_option linter.unusedSimpArgs false
set_option linter.unusedSectionVars false
/- Events: the walks of EventOne and EventBack. -/
namespace Go.Proofs.YtkogbobplhebaaaGreatDoor
open Go.SX Go.Ev

set_option maxRecDepth 20000 in
set_option maxHeartbeats 8000000 in
theorem con5_a {ak aKk aKi aDk aDi : Int} {ac aKt aDt : List UInt8} {aKb aDb : Bool} {aK1 aK2 aK3 aD1 aD2 aD3 : DV} {bk bKk bKi bDk bDi : Int} {bc bKt bDt : List UInt8} {bKb bDb : Bool} {bK1 bK2 bK3 bD1 bD2 bD3 : DV} (c6a : Con 6 [.agg [.int .u8 (.s fun _ => ak), .str (fun _ => ac), .int .u8 (.s fun _ => aKk), .bool (.s fun _ => aKb), .int .i64 (.s fun _ => aKi), .str (fun _ => aKt), .dat aK1, .dat aK2, .dat aK3, .int .u8 (.s fun _ => aDk), .bool (.s fun _ => aDb), .int .i64 (.s fun _ => aDi), .str (fun _ => aDt), .dat aD1, .dat aD2, .dat aD3]] [] (.bool .t) []) (c21 : Con 21 [] [] (.bool .t) []) : Con 5 [.agg [.int .u8 (.s fun _ => ak), .str (fun _ => ac), .int .u8 (.s fun _ => aKk), .bool (.s fun _ => aKb), .int .i64 (.s fun _ => aKi), .str (fun _ => aKt), .dat aK1, .dat aK2, .dat aK3, .int .u8 (.s fun _ => aDk), .bool (.s fun _ => aDb), .int .i64 (.s fun _ => aDi), .str (fun _ => aDt), .dat aD1, .dat aD2, .dat aD3], .agg [.int .u8 (.s fun _ => bk), .str (fun _ => bc), .int .u8 (.s fun _ => bKk), .bool (.s fun _ => bKb), .int .i64 (.s fun _ => bKi), .str (fun _ => bKt), .dat bK1, .dat bK2, .dat bK3, .int .u8 (.s fun _ => bDk), .bool (.s fun _ => bDb), .int .i64 (.s fun _ => bDi), .str (fun _ => bDt), .dat bD1, .dat bD2, .dat bD3]] [] (.bool .t) [] := by
  refine con_of Tryz.func5 rfl rfl 45 _ rfl rfl rfl rfl ?_
  cbv
  refine ⟨_, _, c6a, ⟨by kernel_rfl⟩, ?_⟩
  cbv
  refine ⟨_, _, c21, ⟨by kernel_rfl⟩, ?_⟩
  cbv
  refine ⟨[], [], ?_⟩
  cbv
  and_intros
  all_goals first | exact trivial | exact ⟨e1⟩ | exact ⟨rfl⟩ | exact ⟨rfl, fun _ _ _ _ => rfl⟩ | exact ⟨by kernel_rfl⟩

set_option maxRecDepth 20000 in
set_option maxHeartbeats 8000000 in
theorem con5_b {ak aKk aKi aDk aDi : Int} {ac aKt aDt : List UInt8} {aKb aDb : Bool} {aK1 aK2 aK3 aD1 aD2 aD3 : DV} {bk bKk bKi bDk bDi : Int} {bc bKt bDt : List UInt8} {bKb bDb : Bool} {bK1 bK2 bK3 bD1 bD2 bD3 : DV} (c6a : Con 6 [.agg [.int .u8 (.s fun _ => ak), .str (fun _ => ac), .int .u8 (.s fun _ => aKk), .bool (.s fun _ => aKb), .int .i64 (.s fun _ => aKi), .str (fun _ => aKt), .dat aK1, .dat aK2, .dat aK3, .int .u8 (.s fun _ => aDk), .bool (.s fun _ => aDb), .int .i64 (.s fun _ => aDi), .str (fun _ => aDt), .dat aD1, .dat aD2, .dat aD3]] [] (.bool .f) []) (c6b : Con 6 [.agg [.int .u8 (.s fun _ => bk), .str (fun _ => bc), .int .u8 (.s fun _ => bKk), .bool (.s fun _ => bKb), .int .i64 (.s fun _ => bKi), .str (fun _ => bKt), .dat bK1, .dat bK2, .dat bK3, .int .u8 (.s fun _ => bDk), .bool (.s fun _ => bDb), .int .i64 (.s fun _ => bDi), .str (fun _ => bDt), .dat bD1, .dat bD2, .dat bD3]] [] (.bool .t) []) (c21 : Con 21 [] [] (.bool .t) []) : Con 5 [.agg [.int .u8 (.s fun _ => ak), .str (fun _ => ac), .int .u8 (.s fun _ => aKk), .bool (.s fun _ => aKb), .int .i64 (.s fun _ => aKi), .str (fun _ => aKt), .dat aK1, .dat aK2, .dat aK3, .int .u8 (.s fun _ => aDk), .bool (.s fun _ => aDb), .int .i64 (.s fun _ => aDi), .str (fun _ => aDt), .dat aD1, .dat aD2, .dat aD3], .agg [.int .u8 (.s fun _ => bk), .str (fun _ => bc), .int .u8 (.s fun _ => bKk), .bool (.s fun _ => bKb), .int .i64 (.s fun _ => bKi), .str (fun _ => bKt), .dat bK1, .dat bK2, .dat bK3, .int .u8 (.s fun _ => bDk), .bool (.s fun _ => bDb), .int .i64 (.s fun _ => bDi), .str (fun _ => bDt), .dat bD1, .dat bD2, .dat bD3]] [] (.bool .t) [] := by
  refine con_of Tryz.func5 rfl rfl 45 _ rfl rfl rfl rfl ?_
  cbv
  refine ⟨_, _, c6a, ⟨by kernel_rfl⟩, ?_⟩
  cbv
  refine ⟨_, _, c6b, ⟨by kernel_rfl⟩, ?_⟩
  cbv
  refine ⟨_, _, c21, ⟨by kernel_rfl⟩, ?_⟩
  cbv
  refine ⟨[], [], ?_⟩
  cbv
  and_intros
  all_goals first | exact trivial | exact ⟨e1⟩ | exact ⟨rfl⟩ | exact ⟨rfl, fun _ _ _ _ => rfl⟩ | exact ⟨by kernel_rfl⟩

set_option maxRecDepth 20000 in
set_option maxHeartbeats 8000000 in
theorem con5_c {ak aKk aKi aDk aDi : Int} {ac aKt aDt : List UInt8} {aKb aDb : Bool} {aK1 aK2 aK3 aD1 aD2 aD3 : DV} {bk bKk bKi bDk bDi : Int} {bc bKt bDt : List UInt8} {bKb bDb : Bool} {bK1 bK2 bK3 bD1 bD2 bD3 : DV} {xa xb : List UInt8} {ea eb : Int} {sm : Bool} (c6a : Con 6 [.agg [.int .u8 (.s fun _ => ak), .str (fun _ => ac), .int .u8 (.s fun _ => aKk), .bool (.s fun _ => aKb), .int .i64 (.s fun _ => aKi), .str (fun _ => aKt), .dat aK1, .dat aK2, .dat aK3, .int .u8 (.s fun _ => aDk), .bool (.s fun _ => aDb), .int .i64 (.s fun _ => aDi), .str (fun _ => aDt), .dat aD1, .dat aD2, .dat aD3]] [] (.bool .f) []) (c6b : Con 6 [.agg [.int .u8 (.s fun _ => bk), .str (fun _ => bc), .int .u8 (.s fun _ => bKk), .bool (.s fun _ => bKb), .int .i64 (.s fun _ => bKi), .str (fun _ => bKt), .dat bK1, .dat bK2, .dat bK3, .int .u8 (.s fun _ => bDk), .bool (.s fun _ => bDb), .int .i64 (.s fun _ => bDi), .str (fun _ => bDt), .dat bD1, .dat bD2, .dat bD3]] [] (.bool .f) []) (c21 : Con 21 [] [] (.bool .t) []) (c9a : Con 9 [.agg [.int .u8 (.s fun _ => ak), .str (fun _ => ac), .int .u8 (.s fun _ => aKk), .bool (.s fun _ => aKb), .int .i64 (.s fun _ => aKi), .str (fun _ => aKt), .dat aK1, .dat aK2, .dat aK3, .int .u8 (.s fun _ => aDk), .bool (.s fun _ => aDb), .int .i64 (.s fun _ => aDi), .str (fun _ => aDt), .dat aD1, .dat aD2, .dat aD3]] [] (.tup [.dat (.bytes fun _ => xa), .int .u16 (.s fun _ => ea)]) []) (c9b : Con 9 [.agg [.int .u8 (.s fun _ => bk), .str (fun _ => bc), .int .u8 (.s fun _ => bKk), .bool (.s fun _ => bKb), .int .i64 (.s fun _ => bKi), .str (fun _ => bKt), .dat bK1, .dat bK2, .dat bK3, .int .u8 (.s fun _ => bDk), .bool (.s fun _ => bDb), .int .i64 (.s fun _ => bDi), .str (fun _ => bDt), .dat bD1, .dat bD2, .dat bD3]] [] (.tup [.dat (.bytes fun _ => xb), .int .u16 (.s fun _ => eb)]) []) (c19 : Con 19 [.dat (.bytes fun _ => xa), .dat (.bytes fun _ => xb)] [] (.bool (.s fun _ => decide (xa = xb))) []) (c20 : Con 20 [.agg [.int .u8 (.s fun _ => ak), .str (fun _ => ac), .int .u8 (.s fun _ => aKk), .bool (.s fun _ => aKb), .int .i64 (.s fun _ => aKi), .str (fun _ => aKt), .dat aK1, .dat aK2, .dat aK3, .int .u8 (.s fun _ => aDk), .bool (.s fun _ => aDb), .int .i64 (.s fun _ => aDi), .str (fun _ => aDt), .dat aD1, .dat aD2, .dat aD3], .agg [.int .u8 (.s fun _ => bk), .str (fun _ => bc), .int .u8 (.s fun _ => bKk), .bool (.s fun _ => bKb), .int .i64 (.s fun _ => bKi), .str (fun _ => bKt), .dat bK1, .dat bK2, .dat bK3, .int .u8 (.s fun _ => bDk), .bool (.s fun _ => bDb), .int .i64 (.s fun _ => bDi), .str (fun _ => bDt), .dat bD1, .dat bD2, .dat bD3]] [] (.bool (.s fun _ => sm)) []) (law : ea = 0 → eb = 0 → (decide (xa = xb) == sm) = true) : Con 5 [.agg [.int .u8 (.s fun _ => ak), .str (fun _ => ac), .int .u8 (.s fun _ => aKk), .bool (.s fun _ => aKb), .int .i64 (.s fun _ => aKi), .str (fun _ => aKt), .dat aK1, .dat aK2, .dat aK3, .int .u8 (.s fun _ => aDk), .bool (.s fun _ => aDb), .int .i64 (.s fun _ => aDi), .str (fun _ => aDt), .dat aD1, .dat aD2, .dat aD3], .agg [.int .u8 (.s fun _ => bk), .str (fun _ => bc), .int .u8 (.s fun _ => bKk), .bool (.s fun _ => bKb), .int .i64 (.s fun _ => bKi), .str (fun _ => bKt), .dat bK1, .dat bK2, .dat bK3, .int .u8 (.s fun _ => bDk), .bool (.s fun _ => bDb), .int .i64 (.s fun _ => bDi), .str (fun _ => bDt), .dat bD1, .dat bD2, .dat bD3]] [] (.bool (.s fun _ => true)) [] := by
  refine con_of Tryz.func5 rfl rfl 45 _ rfl rfl rfl rfl ?_
  cbv
  refine ⟨_, _, c6a, ⟨by kernel_rfl⟩, ?_⟩
  cbv
  refine ⟨_, _, c6b, ⟨by kernel_rfl⟩, ?_⟩
  cbv
  refine ⟨_, _, c21, ⟨by kernel_rfl⟩, ?_⟩
  cbv
  refine ⟨_, _, c9a, ⟨by kernel_rfl⟩, ?_⟩
  cbv
  refine ⟨_, _, c9b, ⟨by kernel_rfl⟩, ?_⟩
  cbv
  iterate 4 (all_goals try (refine And.intro ?_ ?_ <;> (intro g; (try (replace g := of_decide_eq_true g)); (try (replace g := of_decide_eq_false g)); (try (replace g := of_decide_eq_false (bnot_t g))); (try (replace g := of_decide_eq_true (bnot_f g))); (try (simp only [IE.den_l, IE.den_s] at g)); cbv)))
  · refine ⟨⟨by kernel_rfl⟩, ?_⟩
    refine ⟨[], [], ?_⟩
    cbv
    and_intros
    all_goals first | exact trivial | exact ⟨e1⟩ | exact ⟨rfl⟩ | exact ⟨rfl, fun _ _ _ _ => rfl⟩ | exact ⟨by kernel_rfl⟩
  · refine ⟨⟨by kernel_rfl⟩, ?_⟩
    refine ⟨[], [], ?_⟩
    cbv
    and_intros
    all_goals first | exact trivial | exact ⟨e1⟩ | exact ⟨rfl⟩ | exact ⟨rfl, fun _ _ _ _ => rfl⟩ | exact ⟨by kernel_rfl⟩
  rename_i g0
  have e1 := law g0 g
  refine ⟨_, _, c19, ⟨by kernel_rfl⟩, ?_⟩
  cbv
  refine ⟨_, _, c20, ⟨by kernel_rfl⟩, ?_⟩
  cbv
  refine ⟨⟨by kernel_rfl⟩, ?_⟩
  refine ⟨[], [], ?_⟩
  cbv
  and_intros
  all_goals first | exact trivial | exact ⟨e1⟩ | exact ⟨rfl⟩ | exact ⟨rfl, fun _ _ _ _ => rfl⟩ | exact ⟨by kernel_rfl⟩

set_option maxRecDepth 20000 in
set_option maxHeartbeats 8000000 in
theorem con21s {xk xKk xKi xDk xDi : Int} {xc xKt xDt : List UInt8} {xKb xDb : Bool} {xK1 xK2 xK3 xD1 xD2 xD3 : DV} {B : List UInt8} (c9 : Con 9 [.agg [.int .u8 (.l 1), .str (fun _ => [97]), .int .u8 (.l 3), .bool .f, .int .i64 (.l 1), .str (fun _ => []), .nil, .nil, .nil, .int .u8 (.l 7), .bool .f, .int .i64 (.l 0), .str (fun _ => []), .nil, .nil, .dat (.sl 8 (fun _ => 1) (litRow 8 [.str fun _ => [95, 105, 100], .int .u8 fun _ => 3, .bool fun _ => false, .int .i64 fun _ => 1, .str fun _ => [], .sl 0 (fun _ => 0) (fun _ _ => .bool fun _ => false), .sl 0 (fun _ => 0) (fun _ _ => .bool fun _ => false), .sl 0 (fun _ => 0) (fun _ _ => .bool fun _ => false)]))]] [] (.tup [.dat (.bytes fun _ => B), .int .u16 (.s fun _ => 0)]) []) (c10 : Con 10 [.dat (.bytes fun _ => B)] [] (.tup [.agg [.int .u8 (.s fun _ => xk), .str (fun _ => xc), .int .u8 (.s fun _ => xKk), .bool (.s fun _ => xKb), .int .i64 (.s fun _ => xKi), .str (fun _ => xKt), .dat xK1, .dat xK2, .dat xK3, .int .u8 (.s fun _ => xDk), .bool (.s fun _ => xDb), .int .i64 (.s fun _ => xDi), .str (fun _ => xDt), .dat xD1, .dat xD2, .dat xD3], .int .u16 (.s fun _ => 0)]) []) (c20 : Con 20 [.agg [.int .u8 (.s fun _ => xk), .str (fun _ => xc), .int .u8 (.s fun _ => xKk), .bool (.s fun _ => xKb), .int .i64 (.s fun _ => xKi), .str (fun _ => xKt), .dat xK1, .dat xK2, .dat xK3, .int .u8 (.s fun _ => xDk), .bool (.s fun _ => xDb), .int .i64 (.s fun _ => xDi), .str (fun _ => xDt), .dat xD1, .dat xD2, .dat xD3], .agg [.int .u8 (.l 1), .str (fun _ => [97]), .int .u8 (.l 3), .bool .f, .int .i64 (.l 1), .str (fun _ => []), .nil, .nil, .nil, .int .u8 (.l 7), .bool .f, .int .i64 (.l 0), .str (fun _ => []), .nil, .nil, .dat (.sl 8 (fun _ => 1) (litRow 8 [.str fun _ => [95, 105, 100], .int .u8 fun _ => 3, .bool fun _ => false, .int .i64 fun _ => 1, .str fun _ => [], .sl 0 (fun _ => 0) (fun _ _ => .bool fun _ => false), .sl 0 (fun _ => 0) (fun _ _ => .bool fun _ => false), .sl 0 (fun _ => 0) (fun _ _ => .bool fun _ => false)]))]] [] (.bool .t) []) (c19 : Con 19 [.dat (.bytes fun _ => B), .dat (.sl 1 (fun _ => 14) (litRow 1 [.int .u8 fun _ => 1, .int .u8 fun _ => 1, .int .u8 fun _ => 97, .int .u8 fun _ => 2, .int .u8 fun _ => 4, .int .u8 fun _ => 2, .int .u8 fun _ => 8, .int .u8 fun _ => 1, .int .u8 fun _ => 3, .int .u8 fun _ => 95, .int .u8 fun _ => 105, .int .u8 fun _ => 100, .int .u8 fun _ => 4, .int .u8 fun _ => 2]))] [] (.bool .t) []) : Con 21 [] [] (.bool .t) [] := by
  refine con_of Tryz.func21 rfl rfl 31 _ rfl rfl rfl rfl ?_
  cbv
  refine ⟨_, _, con54, ⟨by kernel_rfl⟩, ?_⟩
  cbv
  refine ⟨_, _, c9, ⟨by kernel_rfl⟩, ?_⟩
  cbv
  refine ⟨_, _, c10, ⟨by kernel_rfl⟩, ?_⟩
  cbv
  refine And.intro ?_ ?_
  · intro g
    clear g
    cbv
    refine And.intro ?_ ?_
    · intro g
      clear g
      cbv
      refine ⟨_, _, con54, ⟨by kernel_rfl⟩, ?_⟩
      cbv
      refine ⟨_, _, c20, ⟨by kernel_rfl⟩, ?_⟩
      cbv
      refine ⟨_, _, c19, ⟨by kernel_rfl⟩, ?_⟩
      cbv
      refine ⟨⟨by kernel_rfl⟩, ?_⟩
      refine ⟨[], [], ?_⟩
      cbv
      and_intros
      all_goals first | exact trivial | exact ⟨e1⟩ | exact ⟨rfl⟩ | exact ⟨rfl, fun _ _ _ _ => rfl⟩ | exact ⟨by kernel_rfl⟩
    · intro g
      have g9 : False := of_decide_eq_false g rfl
      cbv
      exact g9.elim
  · intro g
    have g9 : False := of_decide_eq_false g rfl
    cbv
    exact g9.elim

theorem con21 : Con 21 [] [] (.bool .t) [] := by
  have c20 := Con.yes ((con20 (d := 10) (a := sampleE) (b := sampleE) (by decide) (by decide) (one_all (sml_fits one_sml)) (sample_all (sml_fits one_sml) (sml_fits sdoc_sml))).args (EqvL.cons (Eqv.refl _) (.cons sample_eqv .nil))) (same_self _)
  have c19 := Con.yes ((con19 (a := sampleB) (b := sampleB) (by decide)).args (EqvL.cons (Eqv.refl _) (.cons (lit_bytes sampleB) .nil))) (decide_eq_true rfl)
  exact con21s con9_sample con10_sample c20 c19
set_option maxRecDepth 20000 in
set_option maxHeartbeats 8000000 in
theorem con4_a {ek eKk eKi eDk eDi : Int} {ec eKt eDt : List UInt8} {eKb eDb : Bool} {eK1 eK2 eK3 eD1 eD2 eD3 : DV} {b : List UInt8} (c6e : Con 6 [.agg [.int .u8 (.s fun _ => ek), .str (fun _ => ec), .int .u8 (.s fun _ => eKk), .bool (.s fun _ => eKb), .int .i64 (.s fun _ => eKi), .str (fun _ => eKt), .dat eK1, .dat eK2, .dat eK3, .int .u8 (.s fun _ => eDk), .bool (.s fun _ => eDb), .int .i64 (.s fun _ => eDi), .str (fun _ => eDt), .dat eD1, .dat eD2, .dat eD3]] [] (.bool .t) []) : Con 4 [.agg [.int .u8 (.s fun _ => ek), .str (fun _ => ec), .int .u8 (.s fun _ => eKk), .bool (.s fun _ => eKb), .int .i64 (.s fun _ => eKi), .str (fun _ => eKt), .dat eK1, .dat eK2, .dat eK3, .int .u8 (.s fun _ => eDk), .bool (.s fun _ => eDb), .int .i64 (.s fun _ => eDi), .str (fun _ => eDt), .dat eD1, .dat eD2, .dat eD3], .dat (.bytes fun _ => b)] [] (.bool .t) [] := by
  refine con_of Tryz.func4 rfl rfl 74 _ rfl rfl rfl rfl ?_
  cbv
  refine ⟨_, _, c6e, ⟨by kernel_rfl⟩, ?_⟩
  cbv
  refine ⟨[], [], ?_⟩
  cbv
  and_intros
  all_goals first | exact trivial | exact ⟨e1⟩ | exact ⟨rfl⟩ | exact ⟨rfl, fun _ _ _ _ => rfl⟩ | exact ⟨by kernel_rfl⟩

set_option maxRecDepth 20000 in
set_option maxHeartbeats 8000000 in
theorem con4_b {ek eKk eKi eDk eDi : Int} {ec eKt eDt : List UInt8} {eKb eDb : Bool} {eK1 eK2 eK3 eD1 eD2 eD3 : DV} {b : List UInt8} (c6e : Con 6 [.agg [.int .u8 (.s fun _ => ek), .str (fun _ => ec), .int .u8 (.s fun _ => eKk), .bool (.s fun _ => eKb), .int .i64 (.s fun _ => eKi), .str (fun _ => eKt), .dat eK1, .dat eK2, .dat eK3, .int .u8 (.s fun _ => eDk), .bool (.s fun _ => eDb), .int .i64 (.s fun _ => eDi), .str (fun _ => eDt), .dat eD1, .dat eD2, .dat eD3]] [] (.bool .f) []) (hl : ¬ (b.length : Int) ≤ 20000) : Con 4 [.agg [.int .u8 (.s fun _ => ek), .str (fun _ => ec), .int .u8 (.s fun _ => eKk), .bool (.s fun _ => eKb), .int .i64 (.s fun _ => eKi), .str (fun _ => eKt), .dat eK1, .dat eK2, .dat eK3, .int .u8 (.s fun _ => eDk), .bool (.s fun _ => eDb), .int .i64 (.s fun _ => eDi), .str (fun _ => eDt), .dat eD1, .dat eD2, .dat eD3], .dat (.bytes fun _ => b)] [] (.bool .t) [] := by
  refine con_of Tryz.func4 rfl rfl 74 _ rfl rfl rfl rfl ?_
  cbv
  refine ⟨_, _, c6e, ⟨by kernel_rfl⟩, ?_⟩
  cbv
  refine And.intro ?_ ?_
  · intro g
    clear g
    cbv
    refine ⟨[], [], ?_⟩
    cbv
    and_intros
    all_goals first | exact trivial | exact ⟨e1⟩ | exact ⟨rfl⟩ | exact ⟨rfl, fun _ _ _ _ => rfl⟩ | exact ⟨by kernel_rfl⟩
  · intro g
    have g9 : False := hl (Int.not_lt.1 (of_decide_eq_false g))
    cbv
    exact g9.elim

set_option maxRecDepth 20000 in
set_option maxHeartbeats 8000000 in
theorem con4_c {ek eKk eKi eDk eDi : Int} {ec eKt eDt : List UInt8} {eKb eDb : Bool} {eK1 eK2 eK3 eD1 eD2 eD3 : DV} {b : List UInt8} (hl : (b.length : Int) ≤ 20000) {er : List UInt8} {eE dE : Int} {yk yKk yKi yDk yDi : Int} {yc yKt yDt : List UInt8} {yKb yDb : Bool} {yK1 yK2 yK3 yD1 yD2 yD3 : DV} (c6e : Con 6 [.agg [.int .u8 (.s fun _ => ek), .str (fun _ => ec), .int .u8 (.s fun _ => eKk), .bool (.s fun _ => eKb), .int .i64 (.s fun _ => eKi), .str (fun _ => eKt), .dat eK1, .dat eK2, .dat eK3, .int .u8 (.s fun _ => eDk), .bool (.s fun _ => eDb), .int .i64 (.s fun _ => eDi), .str (fun _ => eDt), .dat eD1, .dat eD2, .dat eD3]] [] (.bool .f) []) (c9e : Con 9 [.agg [.int .u8 (.s fun _ => ek), .str (fun _ => ec), .int .u8 (.s fun _ => eKk), .bool (.s fun _ => eKb), .int .i64 (.s fun _ => eKi), .str (fun _ => eKt), .dat eK1, .dat eK2, .dat eK3, .int .u8 (.s fun _ => eDk), .bool (.s fun _ => eDb), .int .i64 (.s fun _ => eDi), .str (fun _ => eDt), .dat eD1, .dat eD2, .dat eD3]] [] (.tup [.dat (.bytes fun _ => er), .int .u16 (.s fun _ => eE)]) []) (c10 : Con 10 [.dat (.bytes fun _ => b)] [] (.tup [.agg [.int .u8 (.s fun _ => yk), .str (fun _ => yc), .int .u8 (.s fun _ => yKk), .bool (.s fun _ => yKb), .int .i64 (.s fun _ => yKi), .str (fun _ => yKt), .dat yK1, .dat yK2, .dat yK3, .int .u8 (.s fun _ => yDk), .bool (.s fun _ => yDb), .int .i64 (.s fun _ => yDi), .str (fun _ => yDt), .dat yD1, .dat yD2, .dat yD3], .int .u16 (.s fun _ => dE)]) []) (c21 : Con 21 [] [] (.bool .t) []) (he : eE = 0) {zk zKk zKi zDk zDi : Int} {zc zKt zDt : List UInt8} {zKb zDb : Bool} {zK1 zK2 zK3 zD1 zD2 zD3 : DV} {zE : Int} (c10z : Con 10 [.dat (.bytes fun _ => er)] [] (.tup [.agg [.int .u8 (.s fun _ => zk), .str (fun _ => zc), .int .u8 (.s fun _ => zKk), .bool (.s fun _ => zKb), .int .i64 (.s fun _ => zKi), .str (fun _ => zKt), .dat zK1, .dat zK2, .dat zK3, .int .u8 (.s fun _ => zDk), .bool (.s fun _ => zDb), .int .i64 (.s fun _ => zDi), .str (fun _ => zDt), .dat zD1, .dat zD2, .dat zD3], .int .u16 (.s fun _ => zE)]) []) (hz : zE = 0) (c20z : Con 20 [.agg [.int .u8 (.s fun _ => zk), .str (fun _ => zc), .int .u8 (.s fun _ => zKk), .bool (.s fun _ => zKb), .int .i64 (.s fun _ => zKi), .str (fun _ => zKt), .dat zK1, .dat zK2, .dat zK3, .int .u8 (.s fun _ => zDk), .bool (.s fun _ => zDb), .int .i64 (.s fun _ => zDi), .str (fun _ => zDt), .dat zD1, .dat zD2, .dat zD3], .agg [.int .u8 (.s fun _ => ek), .str (fun _ => ec), .int .u8 (.s fun _ => eKk), .bool (.s fun _ => eKb), .int .i64 (.s fun _ => eKi), .str (fun _ => eKt), .dat eK1, .dat eK2, .dat eK3, .int .u8 (.s fun _ => eDk), .bool (.s fun _ => eDb), .int .i64 (.s fun _ => eDi), .str (fun _ => eDt), .dat eD1, .dat eD2, .dat eD3]] [] (.bool .t) []) (hd : ¬ dE = 0) (c20n : Con 20 [.agg [.int .u8 (.s fun _ => yk), .str (fun _ => yc), .int .u8 (.s fun _ => yKk), .bool (.s fun _ => yKb), .int .i64 (.s fun _ => yKi), .str (fun _ => yKt), .dat yK1, .dat yK2, .dat yK3, .int .u8 (.s fun _ => yDk), .bool (.s fun _ => yDb), .int .i64 (.s fun _ => yDi), .str (fun _ => yDt), .dat yD1, .dat yD2, .dat yD3], .agg [.int .u8 (.l 0), .str (fun _ => []), .int .u8 (.l 0), .bool .f, .int .i64 (.l 0), .str (fun _ => []), .nil, .nil, .nil, .int .u8 (.l 0), .bool .f, .int .i64 (.l 0), .str (fun _ => []), .nil, .nil, .nil]] [] (.bool .t) []) (c19 : Con 19 [.dat (.bytes fun _ => er), .dat (.bytes fun _ => b)] [] (.bool .f) []) : Con 4 [.agg [.int .u8 (.s fun _ => ek), .str (fun _ => ec), .int .u8 (.s fun _ => eKk), .bool (.s fun _ => eKb), .int .i64 (.s fun _ => eKi), .str (fun _ => eKt), .dat eK1, .dat eK2, .dat eK3, .int .u8 (.s fun _ => eDk), .bool (.s fun _ => eDb), .int .i64 (.s fun _ => eDi), .str (fun _ => eDt), .dat eD1, .dat eD2, .dat eD3], .dat (.bytes fun _ => b)] [] (.bool .t) [] := by
  refine con_of Tryz.func4 rfl rfl 74 _ rfl rfl rfl rfl ?_
  cbv
  refine ⟨_, _, c6e, ⟨by kernel_rfl⟩, ?_⟩
  cbv
  refine And.intro ?_ ?_
  · intro g
    have g9 : False := absurd (of_decide_eq_true g) (Int.not_lt.2 hl)
    cbv
    exact g9.elim
  · intro g
    clear g
    cbv
    refine ⟨_, _, c9e, ⟨by kernel_rfl⟩, ?_⟩
    cbv
    refine ⟨_, _, c10, ⟨by kernel_rfl⟩, ?_⟩
    cbv
    refine ⟨_, _, c21, ⟨by kernel_rfl⟩, ?_⟩
    cbv
    refine And.intro ?_ ?_
    · intro g
      clear g
      cbv
      refine ⟨_, _, c10z, ⟨by kernel_rfl⟩, ?_⟩
      cbv
      refine And.intro ?_ ?_
      · intro g
        have g9 : False := of_decide_eq_false (bnot_t g) hz
        cbv
        exact g9.elim
      · intro g
        clear g
        cbv
        refine ⟨_, _, c20z, ⟨by kernel_rfl⟩, ?_⟩
        cbv
        refine And.intro ?_ ?_
        · intro g
          clear g
          cbv
          refine ⟨_, _, c20n, ⟨by kernel_rfl⟩, ?_⟩
          cbv
          refine And.intro ?_ ?_
          · intro g
            have g9 : False := absurd he (of_decide_eq_false (bnot_t g))
            cbv
            exact g9.elim
          · intro g
            clear g
            cbv
            refine ⟨_, _, c19, ⟨by kernel_rfl⟩, ?_⟩
            cbv
            refine ⟨[], [], ?_⟩
            cbv
            and_intros
            all_goals first | exact trivial | exact ⟨e1⟩ | exact ⟨rfl⟩ | exact ⟨rfl, fun _ _ _ _ => rfl⟩ | exact ⟨by kernel_rfl⟩
        · intro g
          have g9 : False := hd (of_decide_eq_true (bnot_f g))
          cbv
          exact g9.elim
    · intro g
      have g9 : False := of_decide_eq_false g he
      cbv
      exact g9.elim

set_option maxRecDepth 20000 in
set_option maxHeartbeats 8000000 in
theorem con4_d {ek eKk eKi eDk eDi : Int} {ec eKt eDt : List UInt8} {eKb eDb : Bool} {eK1 eK2 eK3 eD1 eD2 eD3 : DV} {b : List UInt8} (hl : (b.length : Int) ≤ 20000) {er : List UInt8} {eE dE : Int} {yk yKk yKi yDk yDi : Int} {yc yKt yDt : List UInt8} {yKb yDb : Bool} {yK1 yK2 yK3 yD1 yD2 yD3 : DV} (c6e : Con 6 [.agg [.int .u8 (.s fun _ => ek), .str (fun _ => ec), .int .u8 (.s fun _ => eKk), .bool (.s fun _ => eKb), .int .i64 (.s fun _ => eKi), .str (fun _ => eKt), .dat eK1, .dat eK2, .dat eK3, .int .u8 (.s fun _ => eDk), .bool (.s fun _ => eDb), .int .i64 (.s fun _ => eDi), .str (fun _ => eDt), .dat eD1, .dat eD2, .dat eD3]] [] (.bool .f) []) (c9e : Con 9 [.agg [.int .u8 (.s fun _ => ek), .str (fun _ => ec), .int .u8 (.s fun _ => eKk), .bool (.s fun _ => eKb), .int .i64 (.s fun _ => eKi), .str (fun _ => eKt), .dat eK1, .dat eK2, .dat eK3, .int .u8 (.s fun _ => eDk), .bool (.s fun _ => eDb), .int .i64 (.s fun _ => eDi), .str (fun _ => eDt), .dat eD1, .dat eD2, .dat eD3]] [] (.tup [.dat (.bytes fun _ => er), .int .u16 (.s fun _ => eE)]) []) (c10 : Con 10 [.dat (.bytes fun _ => b)] [] (.tup [.agg [.int .u8 (.s fun _ => yk), .str (fun _ => yc), .int .u8 (.s fun _ => yKk), .bool (.s fun _ => yKb), .int .i64 (.s fun _ => yKi), .str (fun _ => yKt), .dat yK1, .dat yK2, .dat yK3, .int .u8 (.s fun _ => yDk), .bool (.s fun _ => yDb), .int .i64 (.s fun _ => yDi), .str (fun _ => yDt), .dat yD1, .dat yD2, .dat yD3], .int .u16 (.s fun _ => dE)]) []) (c21 : Con 21 [] [] (.bool .t) []) (he : eE = 0) {zk zKk zKi zDk zDi : Int} {zc zKt zDt : List UInt8} {zKb zDb : Bool} {zK1 zK2 zK3 zD1 zD2 zD3 : DV} {zE : Int} (c10z : Con 10 [.dat (.bytes fun _ => er)] [] (.tup [.agg [.int .u8 (.s fun _ => zk), .str (fun _ => zc), .int .u8 (.s fun _ => zKk), .bool (.s fun _ => zKb), .int .i64 (.s fun _ => zKi), .str (fun _ => zKt), .dat zK1, .dat zK2, .dat zK3, .int .u8 (.s fun _ => zDk), .bool (.s fun _ => zDb), .int .i64 (.s fun _ => zDi), .str (fun _ => zDt), .dat zD1, .dat zD2, .dat zD3], .int .u16 (.s fun _ => zE)]) []) (hz : zE = 0) (c20z : Con 20 [.agg [.int .u8 (.s fun _ => zk), .str (fun _ => zc), .int .u8 (.s fun _ => zKk), .bool (.s fun _ => zKb), .int .i64 (.s fun _ => zKi), .str (fun _ => zKt), .dat zK1, .dat zK2, .dat zK3, .int .u8 (.s fun _ => zDk), .bool (.s fun _ => zDb), .int .i64 (.s fun _ => zDi), .str (fun _ => zDt), .dat zD1, .dat zD2, .dat zD3], .agg [.int .u8 (.s fun _ => ek), .str (fun _ => ec), .int .u8 (.s fun _ => eKk), .bool (.s fun _ => eKb), .int .i64 (.s fun _ => eKi), .str (fun _ => eKt), .dat eK1, .dat eK2, .dat eK3, .int .u8 (.s fun _ => eDk), .bool (.s fun _ => eDb), .int .i64 (.s fun _ => eDi), .str (fun _ => eDt), .dat eD1, .dat eD2, .dat eD3]] [] (.bool .t) []) (hd : dE = 0) {yr : List UInt8} {yE : Int} (c9y : Con 9 [.agg [.int .u8 (.s fun _ => yk), .str (fun _ => yc), .int .u8 (.s fun _ => yKk), .bool (.s fun _ => yKb), .int .i64 (.s fun _ => yKi), .str (fun _ => yKt), .dat yK1, .dat yK2, .dat yK3, .int .u8 (.s fun _ => yDk), .bool (.s fun _ => yDb), .int .i64 (.s fun _ => yDi), .str (fun _ => yDt), .dat yD1, .dat yD2, .dat yD3]] [] (.tup [.dat (.bytes fun _ => yr), .int .u16 (.s fun _ => yE)]) []) (hy : yE = 0) (c19y : Con 19 [.dat (.bytes fun _ => yr), .dat (.bytes fun _ => b)] [] (.bool .t) []) : Con 4 [.agg [.int .u8 (.s fun _ => ek), .str (fun _ => ec), .int .u8 (.s fun _ => eKk), .bool (.s fun _ => eKb), .int .i64 (.s fun _ => eKi), .str (fun _ => eKt), .dat eK1, .dat eK2, .dat eK3, .int .u8 (.s fun _ => eDk), .bool (.s fun _ => eDb), .int .i64 (.s fun _ => eDi), .str (fun _ => eDt), .dat eD1, .dat eD2, .dat eD3], .dat (.bytes fun _ => b)] [] (.bool .t) [] := by
  refine con_of Tryz.func4 rfl rfl 74 _ rfl rfl rfl rfl ?_
  cbv
  refine ⟨_, _, c6e, ⟨by kernel_rfl⟩, ?_⟩
  cbv
  refine And.intro ?_ ?_
  · intro g
    have g9 : False := absurd (of_decide_eq_true g) (Int.not_lt.2 hl)
    cbv
    exact g9.elim
  · intro g
    clear g
    cbv
    refine ⟨_, _, c9e, ⟨by kernel_rfl⟩, ?_⟩
    cbv
    refine ⟨_, _, c10, ⟨by kernel_rfl⟩, ?_⟩
    cbv
    refine ⟨_, _, c21, ⟨by kernel_rfl⟩, ?_⟩
    cbv
    refine And.intro ?_ ?_
    · intro g
      clear g
      cbv
      refine ⟨_, _, c10z, ⟨by kernel_rfl⟩, ?_⟩
      cbv
      refine And.intro ?_ ?_
      · intro g
        have g9 : False := of_decide_eq_false (bnot_t g) hz
        cbv
        exact g9.elim
      · intro g
        clear g
        cbv
        refine ⟨_, _, c20z, ⟨by kernel_rfl⟩, ?_⟩
        cbv
        refine And.intro ?_ ?_
        · intro g
          have g9 : False := of_decide_eq_false (bnot_t g) hd
          cbv
          exact g9.elim
        · intro g
          clear g
          cbv
          refine ⟨_, _, c9y, ⟨by kernel_rfl⟩, ?_⟩
          cbv
          refine And.intro ?_ ?_
          · intro g
            clear g
            cbv
            refine ⟨_, _, c19y, ⟨by kernel_rfl⟩, ?_⟩
            cbv
            refine ⟨[], [], ?_⟩
            cbv
            and_intros
            all_goals first | exact trivial | exact ⟨e1⟩ | exact ⟨rfl⟩ | exact ⟨rfl, fun _ _ _ _ => rfl⟩ | exact ⟨by kernel_rfl⟩
          · intro g
            have g9 : False := of_decide_eq_false g hy
            cbv
            exact g9.elim
    · intro g
      have g9 : False := of_decide_eq_false g he
      cbv
      exact g9.elim

set_option maxRecDepth 20000 in
set_option maxHeartbeats 8000000 in
theorem con4_e {ek eKk eKi eDk eDi : Int} {ec eKt eDt : List UInt8} {eKb eDb : Bool} {eK1 eK2 eK3 eD1 eD2 eD3 : DV} {b : List UInt8} (hl : (b.length : Int) ≤ 20000) {er : List UInt8} {eE dE : Int} {yk yKk yKi yDk yDi : Int} {yc yKt yDt : List UInt8} {yKb yDb : Bool} {yK1 yK2 yK3 yD1 yD2 yD3 : DV} (c6e : Con 6 [.agg [.int .u8 (.s fun _ => ek), .str (fun _ => ec), .int .u8 (.s fun _ => eKk), .bool (.s fun _ => eKb), .int .i64 (.s fun _ => eKi), .str (fun _ => eKt), .dat eK1, .dat eK2, .dat eK3, .int .u8 (.s fun _ => eDk), .bool (.s fun _ => eDb), .int .i64 (.s fun _ => eDi), .str (fun _ => eDt), .dat eD1, .dat eD2, .dat eD3]] [] (.bool .f) []) (c9e : Con 9 [.agg [.int .u8 (.s fun _ => ek), .str (fun _ => ec), .int .u8 (.s fun _ => eKk), .bool (.s fun _ => eKb), .int .i64 (.s fun _ => eKi), .str (fun _ => eKt), .dat eK1, .dat eK2, .dat eK3, .int .u8 (.s fun _ => eDk), .bool (.s fun _ => eDb), .int .i64 (.s fun _ => eDi), .str (fun _ => eDt), .dat eD1, .dat eD2, .dat eD3]] [] (.tup [.dat (.bytes fun _ => er), .int .u16 (.s fun _ => eE)]) []) (c10 : Con 10 [.dat (.bytes fun _ => b)] [] (.tup [.agg [.int .u8 (.s fun _ => yk), .str (fun _ => yc), .int .u8 (.s fun _ => yKk), .bool (.s fun _ => yKb), .int .i64 (.s fun _ => yKi), .str (fun _ => yKt), .dat yK1, .dat yK2, .dat yK3, .int .u8 (.s fun _ => yDk), .bool (.s fun _ => yDb), .int .i64 (.s fun _ => yDi), .str (fun _ => yDt), .dat yD1, .dat yD2, .dat yD3], .int .u16 (.s fun _ => dE)]) []) (c21 : Con 21 [] [] (.bool .t) []) (he : ¬ eE = 0) (hd : ¬ dE = 0) (c20n : Con 20 [.agg [.int .u8 (.s fun _ => yk), .str (fun _ => yc), .int .u8 (.s fun _ => yKk), .bool (.s fun _ => yKb), .int .i64 (.s fun _ => yKi), .str (fun _ => yKt), .dat yK1, .dat yK2, .dat yK3, .int .u8 (.s fun _ => yDk), .bool (.s fun _ => yDb), .int .i64 (.s fun _ => yDi), .str (fun _ => yDt), .dat yD1, .dat yD2, .dat yD3], .agg [.int .u8 (.l 0), .str (fun _ => []), .int .u8 (.l 0), .bool .f, .int .i64 (.l 0), .str (fun _ => []), .nil, .nil, .nil, .int .u8 (.l 0), .bool .f, .int .i64 (.l 0), .str (fun _ => []), .nil, .nil, .nil]] [] (.bool .t) []) : Con 4 [.agg [.int .u8 (.s fun _ => ek), .str (fun _ => ec), .int .u8 (.s fun _ => eKk), .bool (.s fun _ => eKb), .int .i64 (.s fun _ => eKi), .str (fun _ => eKt), .dat eK1, .dat eK2, .dat eK3, .int .u8 (.s fun _ => eDk), .bool (.s fun _ => eDb), .int .i64 (.s fun _ => eDi), .str (fun _ => eDt), .dat eD1, .dat eD2, .dat eD3], .dat (.bytes fun _ => b)] [] (.bool .t) [] := by
  refine con_of Tryz.func4 rfl rfl 74 _ rfl rfl rfl rfl ?_
  cbv
  refine ⟨_, _, c6e, ⟨by kernel_rfl⟩, ?_⟩
  cbv
  refine And.intro ?_ ?_
  · intro g
    have g9 : False := absurd (of_decide_eq_true g) (Int.not_lt.2 hl)
    cbv
    exact g9.elim
  · intro g
    clear g
    cbv
    refine ⟨_, _, c9e, ⟨by kernel_rfl⟩, ?_⟩
    cbv
    refine ⟨_, _, c10, ⟨by kernel_rfl⟩, ?_⟩
    cbv
    refine ⟨_, _, c21, ⟨by kernel_rfl⟩, ?_⟩
    cbv
    refine And.intro ?_ ?_
    · intro g
      have g9 : False := he (of_decide_eq_true g)
      cbv
      exact g9.elim
    · intro g
      clear g
      cbv
      refine And.intro ?_ ?_
      · intro g
        clear g
        cbv
        refine ⟨_, _, c20n, ⟨by kernel_rfl⟩, ?_⟩
        cbv
        refine And.intro ?_ ?_
        · intro g
          clear g
          cbv
          refine ⟨[], [], ?_⟩
          cbv
          and_intros
          all_goals first | exact trivial | exact ⟨e1⟩ | exact ⟨rfl⟩ | exact ⟨rfl, fun _ _ _ _ => rfl⟩ | exact ⟨by kernel_rfl⟩
        · intro g
          have g9 : False := he (of_decide_eq_true (bnot_f g))
          cbv
          exact g9.elim
      · intro g
        have g9 : False := hd (of_decide_eq_true (bnot_f g))
        cbv
        exact g9.elim

set_option maxRecDepth 20000 in
set_option maxHeartbeats 8000000 in
theorem con4_f {ek eKk eKi eDk eDi : Int} {ec eKt eDt : List UInt8} {eKb eDb : Bool} {eK1 eK2 eK3 eD1 eD2 eD3 : DV} {b : List UInt8} (hl : (b.length : Int) ≤ 20000) {er : List UInt8} {eE dE : Int} {yk yKk yKi yDk yDi : Int} {yc yKt yDt : List UInt8} {yKb yDb : Bool} {yK1 yK2 yK3 yD1 yD2 yD3 : DV} (c6e : Con 6 [.agg [.int .u8 (.s fun _ => ek), .str (fun _ => ec), .int .u8 (.s fun _ => eKk), .bool (.s fun _ => eKb), .int .i64 (.s fun _ => eKi), .str (fun _ => eKt), .dat eK1, .dat eK2, .dat eK3, .int .u8 (.s fun _ => eDk), .bool (.s fun _ => eDb), .int .i64 (.s fun _ => eDi), .str (fun _ => eDt), .dat eD1, .dat eD2, .dat eD3]] [] (.bool .f) []) (c9e : Con 9 [.agg [.int .u8 (.s fun _ => ek), .str (fun _ => ec), .int .u8 (.s fun _ => eKk), .bool (.s fun _ => eKb), .int .i64 (.s fun _ => eKi), .str (fun _ => eKt), .dat eK1, .dat eK2, .dat eK3, .int .u8 (.s fun _ => eDk), .bool (.s fun _ => eDb), .int .i64 (.s fun _ => eDi), .str (fun _ => eDt), .dat eD1, .dat eD2, .dat eD3]] [] (.tup [.dat (.bytes fun _ => er), .int .u16 (.s fun _ => eE)]) []) (c10 : Con 10 [.dat (.bytes fun _ => b)] [] (.tup [.agg [.int .u8 (.s fun _ => yk), .str (fun _ => yc), .int .u8 (.s fun _ => yKk), .bool (.s fun _ => yKb), .int .i64 (.s fun _ => yKi), .str (fun _ => yKt), .dat yK1, .dat yK2, .dat yK3, .int .u8 (.s fun _ => yDk), .bool (.s fun _ => yDb), .int .i64 (.s fun _ => yDi), .str (fun _ => yDt), .dat yD1, .dat yD2, .dat yD3], .int .u16 (.s fun _ => dE)]) []) (c21 : Con 21 [] [] (.bool .t) []) (he : ¬ eE = 0) (hd : dE = 0) {yr : List UInt8} {yE : Int} (c9y : Con 9 [.agg [.int .u8 (.s fun _ => yk), .str (fun _ => yc), .int .u8 (.s fun _ => yKk), .bool (.s fun _ => yKb), .int .i64 (.s fun _ => yKi), .str (fun _ => yKt), .dat yK1, .dat yK2, .dat yK3, .int .u8 (.s fun _ => yDk), .bool (.s fun _ => yDb), .int .i64 (.s fun _ => yDi), .str (fun _ => yDt), .dat yD1, .dat yD2, .dat yD3]] [] (.tup [.dat (.bytes fun _ => yr), .int .u16 (.s fun _ => yE)]) []) (hy : yE = 0) (c19y : Con 19 [.dat (.bytes fun _ => yr), .dat (.bytes fun _ => b)] [] (.bool .t) []) : Con 4 [.agg [.int .u8 (.s fun _ => ek), .str (fun _ => ec), .int .u8 (.s fun _ => eKk), .bool (.s fun _ => eKb), .int .i64 (.s fun _ => eKi), .str (fun _ => eKt), .dat eK1, .dat eK2, .dat eK3, .int .u8 (.s fun _ => eDk), .bool (.s fun _ => eDb), .int .i64 (.s fun _ => eDi), .str (fun _ => eDt), .dat eD1, .dat eD2, .dat eD3], .dat (.bytes fun _ => b)] [] (.bool .t) [] := by
  refine con_of Tryz.func4 rfl rfl 74 _ rfl rfl rfl rfl ?_
  cbv
  refine ⟨_, _, c6e, ⟨by kernel_rfl⟩, ?_⟩
  cbv
  refine And.intro ?_ ?_
  · intro g
    have g9 : False := absurd (of_decide_eq_true g) (Int.not_lt.2 hl)
    cbv
    exact g9.elim
  · intro g
    clear g
    cbv
    refine ⟨_, _, c9e, ⟨by kernel_rfl⟩, ?_⟩
    cbv
    refine ⟨_, _, c10, ⟨by kernel_rfl⟩, ?_⟩
    cbv
    refine ⟨_, _, c21, ⟨by kernel_rfl⟩, ?_⟩
    cbv
    refine And.intro ?_ ?_
    · intro g
      have g9 : False := he (of_decide_eq_true g)
      cbv
      exact g9.elim
    · intro g
      clear g
      cbv
      refine And.intro ?_ ?_
      · intro g
        have g9 : False := of_decide_eq_false (bnot_t g) hd
        cbv
        exact g9.elim
      · intro g
        clear g
        cbv
        refine ⟨_, _, c9y, ⟨by kernel_rfl⟩, ?_⟩
        cbv
        refine And.intro ?_ ?_
        · intro g
          clear g
          cbv
          refine ⟨_, _, c19y, ⟨by kernel_rfl⟩, ?_⟩
          cbv
          refine ⟨[], [], ?_⟩
          cbv
          and_intros
          all_goals first | exact trivial | exact ⟨e1⟩ | exact ⟨rfl⟩ | exact ⟨rfl, fun _ _ _ _ => rfl⟩ | exact ⟨by kernel_rfl⟩
        · intro g
          have g9 : False := of_decide_eq_false g hy
          cbv
          exact g9.elim

end Go.Proofs.YtkogbobplhebaaaGreatDoor

/- Events: an argument's data, off its reading. -/
namespace Go.Proofs.YtkogbobplhebaaaGreatDoor
open Go.SX Go.Ev

theorem list_of {α : Type} [Inhabited α] {Q : Nat → α → Prop} : ∀ (n : Nat), (∀ i, i < n → ∃ y, Q i y) → ∃ ys : List α, ys.length = n ∧ ∀ i, i < n → Q i (ys.getD i default)
  | 0, _ => ⟨[], rfl, fun i h => by omega⟩
  | n + 1, h => by
      obtain ⟨ys, h1, h2⟩ := list_of n fun i hi => h i (by omega)
      obtain ⟨y, hy⟩ := h n (by omega)
      refine ⟨ys ++ [y], by simp [h1], fun i hi => ?_⟩
      by_cases he : i < n
      · rw [List.getD_eq_getElem?_getD, List.getElem?_append_left (by omega), ← List.getD_eq_getElem?_getD]
        exact h2 i he
      · have : i = n := by omega
        subst this
        rw [List.getD_eq_getElem?_getD, List.getElem?_append_right (by omega), h1]
        simpa using hy

theorem cell_spot {w : World} {a : Addr} {v : Value} (h : w.cell? a = some v) : a.spot = none ∧ a.block < w.heap.size := by
  unfold World.cell? at h
  split at h
  · rename_i c t fr hh
    split at h
    · cases h
    · rename_i hs
      exact ⟨by simpa using hs, (Array.getElem?_eq_some_iff.1 hh).1⟩
  · cases h

def Old (w : World) (b : Nat) : Prop := b < w.heap.size

section
variable {H : Type} {enc : TypeId × Value → H} {P : Program} {w : World} {base : Nat} {spare : Nat → Bool} {held : Bool}

theorem data_u8 {fuel : Nat} {cs : List Value} {x : DataW H × List MemPlace} {T : TypeId} (hT : P.underlying T = some (.int .u8)) (h : DataW.trod enc P w base spare held fuel T cs = some x) : ∃ b : UInt8, cs = [.int .u8 (b.toNat : Int)] := by
  obtain ⟨n, rfl, -, hw⟩ := DataW.trod_int hT h
  simp only [Lit.wf, Bool.and_eq_true, decide_eq_true_eq, IntKind.min, IntKind.max, IntKind.bits, IntKind.signed] at hw
  refine ⟨UInt8.ofNat n.toNat, ?_⟩
  have h1 : 0 ≤ n ∧ n ≤ 255 := by simpa using hw
  have : ((UInt8.ofNat n.toNat).toNat : Int) = n := by simp only [UInt8.toNat_ofNat']; omega
  rw [this]
theorem data_u32 {fuel : Nat} {cs : List Value} {x : DataW H × List MemPlace} {T : TypeId} (hT : P.underlying T = some (.int .u32)) (h : DataW.trod enc P w base spare held fuel T cs = some x) : ∃ n : Int, cs = [.int .u32 n] ∧ 0 ≤ n ∧ n < 4294967296 := by
  obtain ⟨n, rfl, -, hw⟩ := DataW.trod_int hT h
  simp only [Lit.wf, Bool.and_eq_true, decide_eq_true_eq, IntKind.min, IntKind.max, IntKind.bits, IntKind.signed] at hw
  have h1 : 0 ≤ n ∧ n ≤ 4294967295 := by simpa using hw
  exact ⟨n, rfl, h1.1, by omega⟩

/-- Is nothing of it greater than the form's own reach? -/
def Wt (P : Program) (t : TypeId) (d : DataW H) : Prop := ∀ n ∈ d.weights P t, n ≤ reachBytes

theorem wt_slice {T e : TypeId} {ds sp : List (DataW H)} (hT : P.underlying T = some (.slice e)) (h : Wt P T (.slice ds sp)) : (ds.length + sp.length) * P.bytesOf e ≤ reachBytes ∧ ∀ (i : Nat) (y : DataW H), ds[i]? = some y → Wt P e y := by
  unfold Wt at h
  simp only [DataW.weights, hT] at h
  refine ⟨h _ (by simp), fun i y hy n hn => h n ?_⟩
  have : ∀ (l : List (DataW H)) (i : Nat), l[i]? = some y → n ∈ DataW.weightsAll P e l := by
    intro l
    induction l with
    | nil => intro i h; simp at h
    | cons a l ih =>
      intro i h
      simp only [DataW.weightsAll, List.mem_append]
      cases i with
      | zero => simp at h; subst h; exact .inl hn
      | succ i => exact .inr (ih i (by simpa using h))
  simp only [List.mem_cons, List.mem_append]
  exact .inr (.inl (this ds i hy))

theorem wt_struct {T : TypeId} {fs : Array Field} {ps : List (DataW H)} (hT : P.underlying T = some (.struct fs)) (h : Wt P T (.agg ps)) : ∀ (i : Nat) (f : Field) (y : DataW H), fs[i]? = some f → ps[i]? = some y → Wt P f.type y := by
  unfold Wt at h
  simp only [DataW.weights, hT] at h
  intro i f y hf hy n hn
  exact h n (DataW.weights_mem_each (j := i) (by simp [hf]) hy n hn)

/-- A slice's elements. -/
theorem data_slice {fuel : Nat} {cs : List Value} {x : DataW H × List MemPlace} {T e : TypeId} (hT : P.underlying T = some (.slice e)) (h : DataW.trod enc P w base spare held fuel T cs = some x) (hw : Wt P T x.1) :
    ∃ (p : Option Addr) (len cap : Nat), cs = [.slice p len cap] ∧ len ≤ cap ∧ len * P.bytesOf e ≤ reachBytes ∧ (len = 0 ∨ ∃ a, p = some a) ∧ ∀ a, p = some a → ∀ i, i < len →
      ∃ (n : Nat) (es : List Value) (y : DataW H × List MemPlace), w.cells? base (a.add (i * P.cellsOf e)) (P.cellsOf e) = some es ∧ DataW.trod enc P w base spare held n e es = some y ∧ Wt P e y.1 ∧ n < fuel := by
  rcases DataW.trod_slice hT h with ⟨rfl, -⟩ | ⟨a, len, cap, elems, rest, n, hfu, rfl, hx, -, h1, h2, hl, he, -⟩
  · exact ⟨none, 0, 0, rfl, Nat.le_refl _, by simp, .inl rfl, fun a h => by cases h⟩
  · rw [hx] at hw
    obtain ⟨hw1, hw2⟩ := wt_slice hT hw
    have hw1 : len * P.bytesOf e ≤ reachBytes := Nat.le_trans (Nat.mul_le_mul_right _ (by simp [hl])) hw1
    refine ⟨some a, len, cap, rfl, h1, hw1, .inr ⟨a, rfl⟩, fun a' ha i hi => ?_⟩
    cases ha
    have hx := he i hi
    have hi' : i < elems.length := by omega
    rw [List.getElem?_eq_getElem hi'] at hx
    obtain ⟨es, h3, h4⟩ := Option.bind_eq_some_iff.1 hx
    exact ⟨n, es, _, h3, h4, hw2 i _ (by simp [hi']), by omega⟩

theorem data_bytes {fuel : Nat} {cs : List Value} {x : DataW H × List MemPlace} {T e : TypeId} (hT : P.underlying T = some (.slice e)) (he : P.underlying e = some (.int .u8)) (hc : P.cellsOf e = 1) (hb : P.bytesOf e = 1)
    (h : DataW.trod enc P w base spare held fuel T cs = some x) (hw : Wt P T x.1) : ∃ (bs : List UInt8) (v : Value), cs = [v] ∧ bs.length ≤ reachBytes ∧ DVRel w (Old w) (.bytes fun _ => bs) v := by
  obtain ⟨p, len, cap, rfl, h1, h2, hp, hel⟩ := data_slice hT h hw
  rw [hb, Nat.mul_one] at h2
  rcases hp with rfl | ⟨a, rfl⟩
  · exact ⟨[], _, rfl, Nat.zero_le _, p, cap, rfl, Nat.zero_le _, fun i x hx => by simp at hx⟩
  · have key : ∀ i, i < len → ∃ b : UInt8, w.cell? (a.add i) = some (.int .u8 (b.toNat : Int)) := by
      intro i hi
      obtain ⟨n, es, y, h3, h4, -, -⟩ := hel a rfl i hi
      obtain ⟨b, rfl⟩ := data_u8 he h4
      have := (World.cells?_some h3).2.2 0 (by rw [hc]; decide)
      rw [hc, Nat.mul_one] at this
      exact ⟨b, by simpa [Addr.add] using this⟩
    obtain ⟨bs, hb1, hb2⟩ := list_of len key
    refine ⟨bs, _, rfl, by omega, some a, cap, by simp only [hb1], by simp only [hb1]; exact h1, fun i x hx => ?_⟩
    have hil : i < len := by rw [← hb1]; exact (List.getElem?_eq_some_iff.1 hx).1
    have hbx : bs.getD i default = x := by rw [List.getD_eq_getElem?_getD, hx]; rfl
    have hs := cell_spot (hb2 0 (by omega))
    obtain ⟨b, o, sp⟩ := a
    have hsp : sp = none := by simpa [Addr.add] using hs.1
    subst hsp
    refine ⟨b, o, rfl, (by simpa [Addr.add] using hs.2 : b < w.heap.size), ?_⟩
    have := hb2 i hil
    rw [hbx, add_none] at this
    exact this


theorem data_kind {fuel : Nat} {cs : List Value} {x : DataW H × List MemPlace} {T : TypeId} (hT : P.underlying T = some (.int .u8)) (h : DataW.trod enc P w base spare held fuel T cs = some x) : ∃ n : Int, cs = [.int .u8 n] ∧ 0 ≤ n ∧ n < 256 := by
  obtain ⟨n, rfl, -, hw⟩ := DataW.trod_int hT h
  simp only [Lit.wf, Bool.and_eq_true, decide_eq_true_eq, IntKind.min, IntKind.max, IntKind.bits, IntKind.signed] at hw
  have h1 : 0 ≤ n ∧ n ≤ 255 := by simpa using hw
  exact ⟨n, rfl, h1.1, by omega⟩
theorem data_i64 {fuel : Nat} {cs : List Value} {x : DataW H × List MemPlace} {T : TypeId} (hT : P.underlying T = some (.int .i64)) (h : DataW.trod enc P w base spare held fuel T cs = some x) : ∃ n : Int, cs = [.int .i64 n] ∧ -9223372036854775808 ≤ n ∧ n < 9223372036854775808 := by
  obtain ⟨n, rfl, -, hw⟩ := DataW.trod_int hT h
  simp only [Lit.wf, Bool.and_eq_true, decide_eq_true_eq, IntKind.min, IntKind.max, IntKind.bits, IntKind.signed] at hw
  have h1 : -9223372036854775808 ≤ n ∧ n ≤ 9223372036854775807 := by simpa using hw
  exact ⟨n, rfl, h1.1, by omega⟩
theorem data_str {fuel : Nat} {cs : List Value} {x : DataW H × List MemPlace} {T : TypeId} (hT : P.underlying T = some .string) (h : DataW.trod enc P w base spare held fuel T cs = some x) (hw : Wt P T x.1) : ∃ s : List UInt8, cs = [.string ⟨s.toArray⟩] ∧ s.length ≤ reachBytes := by
  obtain ⟨s, rfl, hx, -⟩ := DataW.trod_string hT h
  rw [hx] at hw
  exact ⟨s.data.toList, by simp, hw _ (by simp [DataW.weights])⟩
end

section
variable {H : Type} {enc : TypeId × Value → H} {w : World} {base : Nat} {spare : Nat → Bool} {held : Bool}
/-- A value's cell. -/
def ValAt (w : World) (v : Val) (j : Nat) (u : Value) : Prop := ∀ d, v.depth ≤ d → DVRel w (Old w) (encG (rowsG d).1 (rowsG d).2 (fun _ => v) j) u
def ReadsV (H : Type) (enc : TypeId × Value → H) (w : World) (base : Nat) (spare : Nat → Bool) (held : Bool) (fuel : Nat) : Prop :=
  ∀ {cs : List Value} {x : DataW H × List MemPlace}, DataW.trod enc Tryz.prog w base spare held fuel 27 cs = some x → Wt Tryz.prog 27 x.1 →
    ∃ v : Val, v.All Sane ∧ cs.length = 7 ∧ ∀ j u, j < 7 → cs[j]? = some u → ValAt w v j u
theorem sl_of {a : Addr} {wd len cap : Nat} {row : (Unit → Nat) → Nat → DV} (h1 : len ≤ cap) (hw : 0 < wd) (h : ∀ i, i < len → ∀ j, j < wd → ∃ u, w.cell? ((a.add (i * wd)).add j) = some u ∧ DVRel w (Old w) (row (fun _ => i) j) u) : DVRel w (Old w) (.sl wd (fun _ => len) row) (.slice (some a) len cap) := by
  refine ⟨some a, cap, rfl, h1, fun i hi => ?_⟩
  have hi' : i < len := hi
  obtain ⟨v0, hv0, -⟩ := h 0 (by omega) 0 hw
  have hs := cell_spot hv0
  obtain ⟨b, o, sp⟩ := a
  have hsp : sp = none := by simpa [Addr.add] using hs.1
  subst hsp
  refine ⟨b, o, rfl, (by simpa [Addr.add] using hs.2 : b < w.heap.size), fun j hj => ?_⟩
  obtain ⟨v, hv, hd⟩ := h i hi j hj
  rw [add_none, add_none] at hv
  exact ⟨v, hv, hd⟩
theorem sl_nil {wd cap : Nat} {p : Option Addr} {row : (Unit → Nat) → Nat → DV} : DVRel w (Old w) (.sl wd (fun _ => 0) row) (.slice p 0 cap) := ⟨p, cap, rfl, Nat.zero_le _, fun i hi => absurd hi (Nat.not_lt_zero _)⟩

theorem allL_of {P : Val → Prop} : ∀ {l : List Val}, (∀ i, i < l.length → (l.getD i default).All P) → AllL P l
  | [], _ => trivial
  | v :: r, h => ⟨h 0 (by simp), allL_of fun i hi => h (i + 1) (by simpa using hi)⟩
theorem allF_of {P : Val → Prop} : ∀ {l : List (List UInt8 × Val)}, (∀ i, i < l.length → (l.getD i default).2.All P) → AllF P l
  | [], _ => trivial
  | (n, v) :: r, h => ⟨h 0 (by simp), allF_of fun i hi => h (i + 1) (by simpa using hi)⟩
theorem depthL_at : ∀ {l : List Val} {i : Nat}, i < l.length → (l.getD i default).depth ≤ depthL l
  | v :: r, 0, _ => by simp only [depthL, List.getD_cons_zero]; omega
  | v :: r, i + 1, h => by
    have := depthL_at (l := r) (i := i) (by simpa using h)
    simp only [depthL, List.getD_cons_succ]; omega
theorem depthF_at : ∀ {l : List (List UInt8 × Val)} {i : Nat}, i < l.length → (l.getD i default).2.depth ≤ depthF l
  | (n, v) :: r, 0, _ => by simp only [depthF, List.getD_cons_zero]; omega
  | (n, v) :: r, i + 1, h => by
    have := depthF_at (l := r) (i := i) (by simpa using h)
    simp only [depthF, List.getD_cons_succ]; omega
set_option maxRecDepth 100000 in
theorem cells27 : Tryz.prog.cellsOf 27 = 7 := by kernel_rfl
set_option maxRecDepth 100000 in
theorem cells132 : Tryz.prog.cellsOf 132 = 8 := by kernel_rfl
set_option maxRecDepth 100000 in
theorem bytes27 : 0 < Tryz.prog.bytesOf 27 := of_decide_eq_true (by kernel_rfl)
set_option maxRecDepth 100000 in
theorem bytes132 : 0 < Tryz.prog.bytesOf 132 := of_decide_eq_true (by kernel_rfl)

theorem fld_at {P : Program} {fs : Array Field} {xs : List (DataW H × List MemPlace)} {m : Nat} {cs : List Value} {T : TypeId} (hT : P.underlying T = some (.struct fs)) (hxl : xs.length = fs.size)
    (hf : ∀ (i : Nat) (f : Field), fs[i]? = some f → DataW.trod enc P w base spare held m f.type ((cs.drop f.offset).take (P.cellsOf f.type)) = xs[i]?) (hw : Wt P T (DataW.agg (xs.map (·.1)))) {k n o : Nat} {t : TypeId} (hk : (fs[k]?.map fun f => (f.type, f.offset)) = some (t, o)) (hn : P.cellsOf t = n) :
    ∃ z : DataW H × List MemPlace, DataW.trod enc P w base spare held m t ((cs.drop o).take n) = some z ∧ Wt P t z.1 := by
  cases hk' : fs[k]? with
  | none => rw [hk'] at hk; cases hk
  | some f =>
    rw [hk'] at hk
    simp only [Option.map_some, Option.some.injEq, Prod.mk.injEq] at hk
    obtain ⟨rfl, rfl⟩ := hk
    subst hn
    have hkl : k < xs.length := by rw [hxl]; exact (Array.getElem?_eq_some_iff.1 hk').1
    have h := hf k f hk'
    rw [List.getElem?_eq_getElem hkl] at h
    exact ⟨_, h, wt_struct hT hw k f _ hk' (by simp [hkl])⟩
theorem list8 {α : Type} : ∀ {l : List α}, l.length = 8 → ∃ a0 a1 a2 a3 a4 a5 a6 a7, l = [a0, a1, a2, a3, a4, a5, a6, a7]
  | [a0, a1, a2, a3, a4, a5, a6, a7], _ => ⟨_, _, _, _, _, _, _, _, rfl⟩
theorem list7 {α : Type} : ∀ {l : List α}, l.length = 7 → ∃ a0 a1 a2 a3 a4 a5 a6, l = [a0, a1, a2, a3, a4, a5, a6]
  | [a0, a1, a2, a3, a4, a5, a6], _ => ⟨_, _, _, _, _, _, _, rfl⟩
theorem list16 {α : Type} : ∀ {l : List α}, l.length = 16 → ∃ a0 a1 a2 a3 a4 a5 a6 a7 a8 a9 a10 a11 a12 a13 a14 a15, l = [a0, a1, a2, a3, a4, a5, a6, a7, a8, a9, a10, a11, a12, a13, a14, a15]
  | [a0, a1, a2, a3, a4, a5, a6, a7, a8, a9, a10, a11, a12, a13, a14, a15], _ => ⟨_, _, _, _, _, _, _, _, _, _, _, _, _, _, _, _, rfl⟩
set_option maxRecDepth 100000 in
theorem cells9 : Tryz.prog.cellsOf 9 = 1 := by kernel_rfl
set_option maxRecDepth 100000 in
theorem cells22 : Tryz.prog.cellsOf 22 = 1 := by kernel_rfl
set_option maxRecDepth 100000 in
theorem cells4 : Tryz.prog.cellsOf 4 = 1 := by kernel_rfl
set_option maxRecDepth 100000 in
theorem cells2 : Tryz.prog.cellsOf 2 = 1 := by kernel_rfl
set_option maxRecDepth 100000 in
theorem cells23 : Tryz.prog.cellsOf 23 = 1 := by kernel_rfl
set_option maxRecDepth 100000 in
theorem cells24 : Tryz.prog.cellsOf 24 = 1 := by kernel_rfl
set_option maxRecDepth 100000 in
theorem cells25 : Tryz.prog.cellsOf 25 = 1 := by kernel_rfl
set_option maxRecDepth 100000 in
theorem cells5 : Tryz.prog.cellsOf 5 = 1 := by kernel_rfl
set_option maxRecDepth 100000 in
theorem data_list {fuel : Nat} (ih : ∀ n, n < fuel → ReadsV H enc w base spare held n) {cs : List Value} {x : DataW H × List MemPlace} (h : DataW.trod enc Tryz.prog w base spare held fuel 24 cs = some x) (hw : Wt Tryz.prog 24 x.1) :
    ∃ (l : List Val) (u : Value), cs = [u] ∧ l.length ≤ reachBytes ∧ AllL Sane l ∧ ∀ d, depthL l ≤ d → DVRel w (Old w) (.sl 7 (fun _ => l.length) (stepV (rowsG d).1 (rowsG d).2 fun _ => l)) u := by
  obtain ⟨p, len, cap, rfl, h1, h2, hp, hel⟩ := data_slice Tryz.underlying24 h hw
  have h2 : len ≤ reachBytes := Nat.le_trans (Nat.le_mul_of_pos_right _ bytes27) h2
  have hnil : len = 0 → ∃ (l : List Val) (u : Value), [Value.slice p len cap] = [u] ∧ l.length ≤ reachBytes ∧ AllL Sane l ∧ ∀ d, depthL l ≤ d → DVRel w (Old w) (.sl 7 (fun _ => l.length) (stepV (rowsG d).1 (rowsG d).2 fun _ => l)) u := fun h => by
    subst h; exact ⟨[], _, rfl, Nat.zero_le _, trivial, fun d _ => sl_nil⟩
  rcases hp with h0 | ⟨a, rfl⟩
  · exact hnil h0
  · have key : ∀ i, i < len → ∃ y : Val, y.All Sane ∧ ∀ j, j < 7 → ∃ u, w.cell? ((a.add (i * 7)).add j) = some u ∧ ValAt w y j u := by
      intro i hi
      obtain ⟨n, es, y, h3, h4, hwy, hn⟩ := hel a rfl i hi
      rw [cells27] at h3
      obtain ⟨-, -, hcell⟩ := World.cells?_some h3
      obtain ⟨v, hv, hl, hj⟩ := ih n hn h4 hwy
      refine ⟨v, hv, fun j hj' => ?_⟩
      have hjl : j < es.length := by omega
      exact ⟨es[j], by rw [hcell j hj', List.getElem?_eq_getElem hjl], hj j _ hj' (List.getElem?_eq_getElem hjl)⟩
    obtain ⟨l, hb1, hb2⟩ := list_of len key
    refine ⟨l, _, rfl, by omega, allL_of fun i hi => (hb2 i (by omega)).1, fun d hd => ?_⟩
    rw [hb1]
    refine sl_of h1 (by decide) fun i hi j hj => ?_
    obtain ⟨u, hu, hv⟩ := (hb2 i hi).2 j hj
    exact ⟨u, hu, hv d (Nat.le_trans (depthL_at (by omega)) hd)⟩
set_option maxRecDepth 100000 in
theorem data_flds {fuel : Nat} (ih : ∀ n, n < fuel → ReadsV H enc w base spare held n) {cs : List Value} {x : DataW H × List MemPlace} (h : DataW.trod enc Tryz.prog w base spare held fuel 25 cs = some x) (hw : Wt Tryz.prog 25 x.1) :
    ∃ (l : List Fld) (u : Value), cs = [u] ∧ l.length ≤ reachBytes ∧ AllF Sane l ∧ (∀ p ∈ l, p.1.length ≤ reachBytes) ∧ ∀ d, depthF l ≤ d → DVRel w (Old w) (.sl 8 (fun _ => l.length) (stepF (rowsG d).1 (rowsG d).2 fun _ => l)) u := by
  obtain ⟨p, len, cap, rfl, h1, h2, hp, hel⟩ := data_slice Tryz.underlying25 h hw
  have h2 : len ≤ reachBytes := Nat.le_trans (Nat.le_mul_of_pos_right _ bytes132) h2
  have hnil : len = 0 → ∃ (l : List Fld) (u : Value), [Value.slice p len cap] = [u] ∧ l.length ≤ reachBytes ∧ AllF Sane l ∧ (∀ p ∈ l, p.1.length ≤ reachBytes) ∧ ∀ d, depthF l ≤ d → DVRel w (Old w) (.sl 8 (fun _ => l.length) (stepF (rowsG d).1 (rowsG d).2 fun _ => l)) u := fun h => by
    subst h; exact ⟨[], _, rfl, Nat.zero_le _, trivial, fun p hp => (by cases hp), fun d _ => sl_nil⟩
  rcases hp with h0 | ⟨a, rfl⟩
  · exact hnil h0
  · have key : ∀ i, i < len → ∃ y : Fld, (y.2.All Sane ∧ y.1.length ≤ reachBytes) ∧ ∀ j, j < 8 → ∃ u, w.cell? ((a.add (i * 8)).add j) = some u ∧ ∀ d, y.2.depth ≤ d → DVRel w (Old w) (encF (rowsG d).1 (rowsG d).2 (fun _ => y) j) u := by
      intro i hi
      obtain ⟨n, es, y, h3, h4, hwy, hn⟩ := hel a rfl i hi
      rw [cells132] at h3
      obtain ⟨-, -, hcell⟩ := World.cells?_some h3
      obtain ⟨xs, m, hm, hx, hl8, hxl, hf⟩ := DataW.trod_struct Tryz.underlying132 h4
      rw [cells132] at hl8
      rw [hx] at hwy
      obtain ⟨e0, e1, e2, e3, e4, e5, e6, e7, rfl⟩ := list8 hl8
      obtain ⟨z0, f0, hw0⟩ := fld_at Tryz.underlying132 hxl hf hwy (k := 0) (t := 9) (o := 0) rfl cells9
      obtain ⟨z1, f1, hw1⟩ := fld_at Tryz.underlying132 hxl hf hwy (k := 1) (t := 27) (o := 1) rfl cells27
      obtain ⟨s, hs, hsl⟩ := data_str Tryz.underlying9 f0 hw0
      obtain ⟨v, hv, hl, hj⟩ := ih m (by omega) f1 hw1
      have hs : [e0] = [Value.string ⟨s.toArray⟩] := hs
      cases hs
      refine ⟨(s, v), ⟨hv, hsl⟩, fun j hj' => ?_⟩
      match j, hj' with
      | 0, _ => exact ⟨_, hcell 0 (by decide), fun d _ => rfl⟩
      | j + 1, hj' =>
        have hlt : j < 7 := by omega
        have hg : ∀ u, [e1, e2, e3, e4, e5, e6, e7][j]? = some u → ValAt w v j u := fun u hu => hj j u hlt hu
        have hjl : j < [e1, e2, e3, e4, e5, e6, e7].length := hlt
        refine ⟨[e1, e2, e3, e4, e5, e6, e7][j], ?_, fun d hd => hg _ (List.getElem?_eq_getElem hjl) d hd⟩
        rw [hcell (j + 1) hj', List.getElem?_cons_succ, List.getElem?_eq_getElem hjl]
    obtain ⟨l, hb1, hb2⟩ := list_of len key
    refine ⟨l, _, rfl, by omega, allF_of fun i hi => (hb2 i (by omega)).1.1, fun p hp => ?_, fun d hd => ?_⟩
    · obtain ⟨i, hi, rfl⟩ := List.getElem_of_mem hp
      have := (hb2 i (by omega)).1.2
      rw [List.getD_eq_getElem?_getD, List.getElem?_eq_getElem hi] at this
      exact this
    · rw [hb1]
      refine sl_of h1 (by decide) fun i hi j hj => ?_
      obtain ⟨u, hu, hv⟩ := (hb2 i hi).2 j hj
      exact ⟨u, hu, hv d (Nat.le_trans (depthF_at (by omega)) hd)⟩

set_option maxRecDepth 100000 in
theorem data_val : ∀ (fuel : Nat), ReadsV H enc w base spare held fuel := by
  intro fuel
  induction fuel using Nat.strongRecOn with
  | _ fuel ih =>
    intro cs x h hw
    obtain ⟨xs, m, hm, hx, hl7, hxl, hf⟩ := DataW.trod_struct Tryz.underlying27 h
    rw [cells27] at hl7
    rw [hx] at hw
    obtain ⟨c0, c1, c2, c3, c4, c5, c6, rfl⟩ := list7 hl7
    obtain ⟨z0, f0, w0⟩ := fld_at Tryz.underlying27 hxl hf hw (k := 0) (t := 22) (o := 0) rfl cells22
    obtain ⟨z1, f1, w1⟩ := fld_at Tryz.underlying27 hxl hf hw (k := 1) (t := 4) (o := 1) rfl cells4
    obtain ⟨z2, f2, w2⟩ := fld_at Tryz.underlying27 hxl hf hw (k := 2) (t := 2) (o := 2) rfl cells2
    obtain ⟨z3, f3, w3⟩ := fld_at Tryz.underlying27 hxl hf hw (k := 3) (t := 9) (o := 3) rfl cells9
    obtain ⟨z4, f4, w4⟩ := fld_at Tryz.underlying27 hxl hf hw (k := 4) (t := 23) (o := 4) rfl cells23
    obtain ⟨z5, f5, w5⟩ := fld_at Tryz.underlying27 hxl hf hw (k := 5) (t := 24) (o := 5) rfl cells24
    obtain ⟨z6, f6, w6⟩ := fld_at Tryz.underlying27 hxl hf hw (k := 6) (t := 25) (o := 6) rfl cells25
    obtain ⟨k, q0, k1, k2⟩ := data_kind Tryz.underlying22 f0
    obtain ⟨b, q1, -⟩ := DataW.trod_bool Tryz.underlying4 f1
    obtain ⟨i, q2, i1, i2⟩ := data_i64 Tryz.underlying2 f2
    obtain ⟨t, q3, tl⟩ := data_str Tryz.underlying9 f3 w3
    obtain ⟨y, yv, q4, yl, yd⟩ := data_bytes Tryz.underlying23 Tryz.underlying5 (by kernel_rfl) (by kernel_rfl) f4 w4
    obtain ⟨l, lv, q5, ll, ls, ld⟩ := data_list (fun n hn => ih n (by omega)) f5 w5
    obtain ⟨f, fv, q6, fl, fs, fn, fd⟩ := data_flds (fun n hn => ih n (by omega)) f6 w6
    have q0 : [c0] = [Value.int .u8 k] := q0
    have q1 : [c1] = [Value.bool b] := q1
    have q2 : [c2] = [Value.int .i64 i] := q2
    have q3 : [c3] = [Value.string ⟨t.toArray⟩] := q3
    have q4 : [c4] = [yv] := q4
    have q5 : [c5] = [lv] := q5
    have q6 : [c6] = [fv] := q6
    cases q0; cases q1; cases q2; cases q3; cases q4; cases q5; cases q6
    have hrb : reachBytes ≤ 281474976710656 := by decide
    have hml : reachBytes ≤ 281474976710656 := by decide
    refine ⟨.mk k b i t y l f, ⟨⟨⟨by show t.length ≤ _; omega, by show y.length ≤ _; omega, by show l.length ≤ _; omega, by show f.length ≤ _; omega, fun p hp => by have := fn p hp; omega⟩, ⟨i1, i2⟩, k1, k2⟩, ls, fs⟩, rfl, fun j u hj hu d hd => ?_⟩
    obtain ⟨d, rfl⟩ : ∃ e, d = e + 1 := ⟨d - 1, by simp only [Val.depth] at hd; omega⟩
    simp only [Val.depth] at hd
    match j, hj with
    | 0, _ => cases hu; exact rfl
    | 1, _ => cases hu; exact rfl
    | 2, _ => cases hu; exact rfl
    | 3, _ => cases hu; exact rfl
    | 4, _ => cases hu; exact yd
    | 5, _ => cases hu; exact ld d (by omega)
    | 6, _ => cases hu; exact fd d (by omega)
    | j + 7, hj => omega
set_option maxRecDepth 100000 in
theorem cells29 : Tryz.prog.cellsOf 29 = 16 := by kernel_rfl
set_option maxRecDepth 100000 in
/-- An event, off its reading. -/
theorem data_ev {fuel : Nat} {cs : List Value} {x : DataW H × List MemPlace} (h : DataW.trod enc Tryz.prog w base spare held fuel 29 cs = some x) (hw : Wt Tryz.prog 29 x.1) :
    ∃ e : Evt, (0 ≤ e.kind ∧ e.kind < 256) ∧ e.coll.length ≤ 281474976710656 ∧ e.key.All Sane ∧ e.doc.All Sane ∧ ∀ d, e.key.depth ≤ d → e.doc.depth ≤ d → SVRels (fun _ => none) (Old w) w (.int .u8 (.s fun _ => e.kind) :: .str (fun _ => e.coll) :: (valL (rowsG d).1 (rowsG d).2 e.key ++ valL (rowsG d).1 (rowsG d).2 e.doc)) cs := by
  obtain ⟨xs, m, hm, hx, hl, hxl, hf⟩ := DataW.trod_struct Tryz.underlying29 h
  rw [cells29] at hl
  rw [hx] at hw
  obtain ⟨c0, c1, a0, a1, a2, a3, a4, a5, a6, b0, b1, b2, b3, b4, b5, b6, rfl⟩ := list16 hl
  obtain ⟨z0, f0, w0⟩ := fld_at Tryz.underlying29 hxl hf hw (k := 0) (t := 5) (o := 0) rfl cells5
  obtain ⟨z1, f1, w1⟩ := fld_at Tryz.underlying29 hxl hf hw (k := 1) (t := 9) (o := 1) rfl cells9
  obtain ⟨z2, f2, w2⟩ := fld_at Tryz.underlying29 hxl hf hw (k := 2) (t := 27) (o := 2) rfl cells27
  obtain ⟨z3, f3, w3⟩ := fld_at Tryz.underlying29 hxl hf hw (k := 3) (t := 27) (o := 9) rfl cells27
  obtain ⟨k, q0, k1, k2⟩ := data_kind Tryz.underlying5 f0
  obtain ⟨t, q1, tl⟩ := data_str Tryz.underlying9 f1 w1
  obtain ⟨v1, s1, l1, g1⟩ := data_val m f2 w2
  obtain ⟨v2, s2, l2, g2⟩ := data_val m f3 w3
  have hml : reachBytes ≤ 281474976710656 := by decide
  have q0 : [c0] = [Value.int .u8 k] := q0
  have q1 : [c1] = [Value.string ⟨t.toArray⟩] := q1
  cases q0; cases q1
  have G1 : ∀ j u, j < 7 → [a0, a1, a2, a3, a4, a5, a6][j]? = some u → ValAt w v1 j u := fun j u hj hu => g1 j u hj hu
  have G2 : ∀ j u, j < 7 → [b0, b1, b2, b3, b4, b5, b6][j]? = some u → ValAt w v2 j u := fun j u hj hu => g2 j u hj hu
  refine ⟨⟨k, t, v1, v2⟩, ⟨k1, k2⟩, by show t.length ≤ _; omega, s1, s2, fun d h1 h2 => ?_⟩
  have h1 : v1.depth ≤ d := h1
  have h2 : v2.depth ≤ d := h2
  exact ⟨rfl, rfl, G1 0 _ (by decide) rfl d h1, G1 1 _ (by decide) rfl d h1, G1 2 _ (by decide) rfl d h1, G1 3 _ (by decide) rfl d h1, G1 4 _ (by decide) rfl d h1, G1 5 _ (by decide) rfl d h1, G1 6 _ (by decide) rfl d h1,
    G2 0 _ (by decide) rfl d h2, G2 1 _ (by decide) rfl d h2, G2 2 _ (by decide) rfl d h2, G2 3 _ (by decide) rfl d h2, G2 4 _ (by decide) rfl d h2, G2 5 _ (by decide) rfl d h2, G2 6 _ (by decide) rfl d h2, trivial⟩
end
end Go.Proofs.YtkogbobplhebaaaGreatDoor

/- Events: what is not much is small. -/
namespace Go.Proofs.YtkogbobplhebaaaGreatDoor
open Go.SX Go.Ev

mutual
def cost : Val → Nat
  | .mk _ _ _ t y l f => 1 + t.length / 64 + y.length / 64 + costL l + costF f
def costL : List Val → Nat
  | [] => 0
  | v :: r => cost v + costL r
def costF : List (List UInt8 × Val) → Nat
  | [] => 0
  | (n, v) :: r => n.length / 64 + cost v + costF r
end
mutual
theorem wgt_ge : ∀ (v : Val) (w : Int), wgt v w ≤ 20000 → w + (cost v : Int) ≤ wgt v w
  | .mk k b i t y l f, w, h => by
    simp only [wgt] at h ⊢
    have h1 := wgtF_ge f _ h
    have h2 := wgtL_ge l (w + 1 + ((t.length / 64 : Nat) : Int) + ((y.length / 64 : Nat) : Int)) (by omega)
    simp only [cost]; omega
theorem wgtL_ge : ∀ (l : List Val) (w : Int), wgtL l w ≤ 20000 → w + (costL l : Int) ≤ wgtL l w
  | [], w, h => by simp only [wgtL, costL]; omega
  | v :: r, w, h => by
    simp only [wgtL, costL] at h ⊢
    split at h
    · rename_i hw
      rw [if_pos hw]
      have h1 := wgtL_ge r _ h
      have h2 := wgt_ge v w (by omega)
      omega
    · omega
theorem wgtF_ge : ∀ (l : List (List UInt8 × Val)) (w : Int), wgtF l w ≤ 20000 → w + (costF l : Int) ≤ wgtF l w
  | [], w, h => by simp only [wgtF, costF]; omega
  | (n, v) :: r, w, h => by
    simp only [wgtF, costF] at h ⊢
    split at h
    · rename_i hw
      rw [if_pos hw]
      have h1 := wgtF_ge r _ h
      have h2 := wgt_ge v (w + ((n.length / 64 : Nat) : Int)) (by omega)
      omega
    · omega
end
theorem costL_len : ∀ (l : List Val), l.length ≤ costL l
  | [] => Nat.le_refl _
  | .mk _ _ _ _ _ _ _ :: r => by
    have := costL_len r
    simp only [costL, cost, List.length_cons]; omega
theorem costF_len : ∀ (l : List (List UInt8 × Val)), l.length ≤ costF l ∧ ∀ p ∈ l, p.1.length ≤ 64 * costF l + 63
  | [] => ⟨Nat.le_refl _, fun p hp => by cases hp⟩
  | (n, .mk _ _ _ _ _ _ _) :: r => by
    obtain ⟨h1, h2⟩ := costF_len r
    simp only [costF, cost, List.length_cons]
    refine ⟨by omega, fun p hp => ?_⟩
    rcases List.mem_cons.1 hp with rfl | hp
    · simp only; omega
    · have := h2 p hp; omega
theorem vEnc10 {n : Nat} (h : n < 18446744073709551616) : (vEnc n).length ≤ 10 := vEnc_len 9 n (by omega)
mutual
theorem cost_all : ∀ (v : Val) (n : Nat), cost v ≤ n → v.All (LenOk (64 * n + 63)) ∧ v.depth ≤ cost v
  | .mk k b i t y l f, n, h => by
    simp only [cost] at h
    have h1 := costL_len l
    obtain ⟨h2, h3⟩ := costF_len f
    obtain ⟨a1, a2⟩ := costL_all l n (by omega)
    obtain ⟨b1, b2⟩ := costF_all f n (by omega)
    refine ⟨⟨⟨by show t.length ≤ _; omega, by show y.length ≤ _; omega, by show l.length ≤ _; omega, by show f.length ≤ _; omega, fun p hp => by have := h3 p hp; omega⟩, a1, b1⟩, ?_⟩
    simp only [Val.depth, cost]; omega
theorem costL_all : ∀ (l : List Val) (n : Nat), costL l ≤ n → AllL (LenOk (64 * n + 63)) l ∧ depthL l ≤ costL l
  | [], _, _ => ⟨trivial, Nat.le_refl _⟩
  | v :: r, n, h => by
    simp only [costL] at h
    obtain ⟨a1, a2⟩ := cost_all v n (by omega)
    obtain ⟨b1, b2⟩ := costL_all r n (by omega)
    exact ⟨⟨a1, b1⟩, by simp only [depthL, costL]; omega⟩
theorem costF_all : ∀ (l : List (List UInt8 × Val)) (n : Nat), costF l ≤ n → AllF (LenOk (64 * n + 63)) l ∧ depthF l ≤ costF l
  | [], _, _ => ⟨trivial, Nat.le_refl _⟩
  | (m, v) :: r, n, h => by
    simp only [costF] at h
    obtain ⟨a1, a2⟩ := cost_all v n (by omega)
    obtain ⟨b1, b2⟩ := costF_all r n (by omega)
    exact ⟨⟨a1, b1⟩, by simp only [depthF, costF]; omega⟩
end
theorem zig_lt {i : Int} (h : -9223372036854775808 ≤ i ∧ i < 9223372036854775808) : zig i < 18446744073709551616 := by unfold zig; split <;> omega
mutual
theorem cost_doc : ∀ (v : Val), v.All Sane → (docB v).length + 100 ≤ 300 * cost v
  | .mk k b i t y l f, h => by
    obtain ⟨⟨⟨h1, h2, h3, h4, h5⟩, hi, _⟩, hl, hf⟩ := h
    simp only [Val.text, Val.bytes, Val.list, Val.fields, Val.int] at h1 h2 h3 h4 h5 hi
    have a := costL_doc l hl
    have c := costF_doc f hf h5
    have z := vEnc10 (zig_lt hi)
    have v1 := vEnc10 (n := t.length) (by omega)
    have v2 := vEnc10 (n := y.length) (by omega)
    have v3 := vEnc10 (n := l.length) (by omega)
    have v4 := vEnc10 (n := f.length) (by omega)
    simp only [docB, cost]
    split
    · simp only [List.length_cons, List.length_nil]; omega
    split
    · simp only [List.length_cons, List.length_nil]; omega
    split
    · simp only [List.length_cons]; omega
    split
    · unfold txt; simp only [List.length_cons, List.length_append]; omega
    split
    · unfold txt; simp only [List.length_cons, List.length_append]; omega
    split
    · simp only [List.length_cons, List.length_append]; omega
    split
    · simp only [List.length_cons, List.length_append]; omega
    · simp only [List.length_nil]; omega
theorem costL_doc : ∀ (l : List Val), AllL Sane l → (docL l).length ≤ 300 * costL l
  | [], _ => Nat.zero_le _
  | v :: r, h => by
    have a := cost_doc v h.1
    have c := costL_doc r h.2
    simp only [docL, costL, List.length_append]; omega
theorem costF_doc : ∀ (l : List (List UInt8 × Val)), AllF Sane l → (∀ p ∈ l, p.1.length ≤ 281474976710656) → (docF l).length ≤ 300 * costF l
  | [], _, _ => Nat.zero_le _
  | (n, .mk k b i t y l f) :: r, h, hn => by
    have a := cost_doc (.mk k b i t y l f) h.1
    have c := costF_doc r h.2 fun p hp => hn p (List.mem_cons_of_mem _ hp)
    have hn0 := hn _ List.mem_cons_self
    simp only at hn0
    have v1 := vEnc10 (n := n.length) (by omega)
    have : 1 ≤ cost (.mk k b i t y l f) := by simp only [cost]; omega
    unfold txt at *
    simp only [docF, costF, List.length_append]; unfold txt; simp only [List.length_append]; omega
end
end Go.Proofs.YtkogbobplhebaaaGreatDoor

/- Events: EventOne and EventBack, of any events. -/
namespace Go.Proofs.YtkogbobplhebaaaGreatDoor
open Go.SX Go.Ev

theorem Con.no {f : Nat} {svs : List SV} {objs : Objs} {b : Bool} {objs' : Objs} (h : Con f svs objs (.bool (.s fun _ => b)) objs') (hb : b = false) : Con f svs objs (.bool .f) objs' := by
  subst hb; exact h.res fun _ _ _ _ h => by simpa [SVRel, BE.den] using h
def muchW (e : Evt) : Int := wgt e.key (wgt e.doc ((e.coll.length / 64 : Nat) : Int))
/-- An event as the row hands it in. -/
structure Given (e : Evt) : Prop where
  kd : 0 ≤ e.kind ∧ e.kind < 256
  cl : e.coll.length ≤ 281474976710656
  sk : e.key.All Sane
  sd : e.doc.All Sane
theorem sane_fits {v : Val} (h : v.All Sane) : v.All Fits := All.mono (fun _ h => h.1) h
theorem con6 {d : Nat} {e : Evt} (g : Given e) (hk : e.key.depth ≤ d) (hd : e.doc.depth ≤ d) : Con 6 [evSV d e] [] (.bool (.s fun _ => decide (20000 < muchW e))) [] := by
  have hc := g.cl
  have a := wgt_le e.doc ((e.coll.length / 64 : Nat) : Int) (sane_fits g.sd) (by omega)
  refine con6s g.cl (con23 d e.doc _ hd (sane_fits g.sd) (by omega)) (con23 d e.key _ hk (sane_fits g.sk) ⟨a.1, ?_⟩)
  unfold wTop at a
  rcases a.2 with h | h <;> omega
/-- An event that is not much. -/
structure Small (e : Evt) : Prop where
  mkS : e.key.All Sml
  mdS : e.doc.All Sml
  dk : e.key.depth ≤ 20000
  dd : e.doc.depth ≤ 20000
  bk : (docB e.key).length < 10000000000
  bd : (docB e.doc).length < 10000000000
  kl : (keyV e.key).length < 100000000000
  cl : e.coll.length < 1000000000
theorem small_of {e : Evt} (g : Given e) (h : ¬ 20000 < muchW e) : Small e := by
  unfold muchW at h
  have h1 := wgt_ge e.key _ (by omega : wgt e.key (wgt e.doc ((e.coll.length / 64 : Nat) : Int)) ≤ 20000)
  have h2 := wgt_ge e.doc ((e.coll.length / 64 : Nat) : Int) (by omega)
  obtain ⟨a1, a2⟩ := cost_all e.key 20000 (by omega)
  obtain ⟨b1, b2⟩ := cost_all e.doc 20000 (by omega)
  have k1 := cost_doc e.key g.sk
  have k2 := cost_doc e.doc g.sd
  have k3 := key_len e.key
  exact ⟨All.mono (fun _ h => len_sml (by decide) h) a1, All.mono (fun _ h => len_sml (by decide) h) b1, by omega, by omega, by omega, by omega, by omega, by omega⟩
theorem con9g {D : Nat} {e : Evt} (g : Given e) (s : Small e) (h2 : 2 ≤ D) (hD : D < 99999) (hk : e.key.depth ≤ D) (hd : e.doc.depth ≤ D) : Con 9 [evSV D e] [] (.tup [.dat (.bytes fun _ => encR e), .int .u16 (.s fun _ => encE e)]) [] := by
  obtain ⟨d, rfl⟩ : ∃ d, D = d + 1 := ⟨D - 1, by omega⟩
  exact con9 (by omega) g.kd hk hd g.sk g.sd s.mkS s.mdS (by omega) s.kl s.bk s.bd s.cl
theorem encR_len (e : Evt) : (encR e).length ≤ 8192 := by
  unfold encR
  split
  · rename_i h; exact (enc_ok h).2
  · exact Nat.zero_le _
theorem encR_ok {e : Evt} (h : encE e = 0) : encR e = evB e := by unfold encR; rw [if_pos h]
/-- EventOne. -/
theorem con5 {D : Nat} {a b : Evt} (ga : Given a) (gb : Given b) (hD : D = max (max a.key.depth a.doc.depth) (max b.key.depth b.doc.depth) + 2) : Con 5 [evSV D a, evSV D b] [] (.bool (.s fun _ => true)) [] := by
  have c6a := con6 (d := D) ga (by omega) (by omega)
  have c6b := con6 (d := D) gb (by omega) (by omega)
  by_cases ha : 20000 < muchW a
  · exact (con5_a (c6a.yes (decide_eq_true ha)) con21).res eqv_t1
  · by_cases hb : 20000 < muchW b
    · exact (con5_b (c6a.no (decide_eq_false ha)) (c6b.yes (decide_eq_true hb)) con21).res eqv_t1
    · have sa := small_of ga ha
      have sb := small_of gb hb
      have := sa.dk; have := sa.dd; have := sb.dk; have := sb.dd
      refine con5_c (c6a.no (decide_eq_false ha)) (c6b.no (decide_eq_false hb)) con21 (con9g ga sa (by omega) (by omega) (by omega) (by omega)) (con9g gb sb (by omega) (by omega) (by omega) (by omega))
        (con19 (by have := encR_len a; omega)) (con20 (by omega) (by omega) (sane_fits ga.sk) (sane_fits ga.sd)) fun h1 h2 => ?_
      rw [encR_ok h1, encR_ok h2]
      have e1 := decEv_enc h1 ga.sk sa.mkS ga.sd sa.mdS
      have e2 := decEv_enc h2 gb.sk sb.mkS gb.sd sb.mdS
      by_cases hab : a = b
      · subst hab
        rw [same_self, decide_eq_true rfl]; rfl
      · rw [same_no hab, decide_eq_false]
        · rfl
        · intro h
          rw [h, e2] at e1
          exact hab (Option.some.inj e1).symm

theorem valL_up {d : Nat} {v : Val} (hd : v.depth ≤ d) : EqvL (valL (rowsG d).1 (rowsG d).2 v) (valL (rowsG (d + 1)).1 (rowsG (d + 1)).2 v) :=
  .cons (Eqv.refl _) (.cons (Eqv.refl _) (.cons (Eqv.refl _) (.cons (Eqv.refl _) (.cons (Eqv.refl _) (.cons (fun η G w x h => encG_up d v hd 5 w G x h) (.cons (fun η G w x h => encG_up d v hd 6 w G x h) .nil))))))
theorem ev_up {d : Nat} {e : Evt} (hk : e.key.depth ≤ d) (hd : e.doc.depth ≤ d) : Eqv (evSV d e) (evSV (d + 1) e) := Eqv.agg (.cons (Eqv.refl _) (.cons (Eqv.refl _) (EqvL.app (valL_up hk) (valL_up hd))))
theorem Eqv.trans {a b c : SV} (h : Eqv a b) (k : Eqv b c) : Eqv a c := fun η G w v hv => k η G w v (h η G w v hv)
theorem ev_to {e : Evt} {d : Nat} (hk : e.key.depth ≤ d) (hd : e.doc.depth ≤ d) : ∀ n, Eqv (evSV d e) (evSV (d + n) e)
  | 0 => Eqv.refl _
  | n + 1 => (ev_to hk hd n).trans (ev_up (by omega) (by omega))
theorem zeroE_given : Given zeroE := ⟨by decide, by decide, zero_all zero_sane, zero_all zero_sane⟩
/-- What is known of an event that is read. -/
theorem dec_given {b : List UInt8} {e : Evt} (h : decEv b = some e) : Given e ∧ Small e ∧ e.key.depth ≤ 9 ∧ e.doc.depth ≤ 9 := by
  obtain ⟨_, _, hm, _, ⟨kt, hk⟩, hd, hc⟩ := enc_decEv h
  obtain ⟨ek, lk, _, _, d1, m1, s1, kl⟩ := decV_all hk
  have hkd := (may_kind hm).1
  have hd' : e.doc.depth ≤ 9 ∧ e.doc.All Sml ∧ e.doc.All Sane ∧ (docB e.doc).length ≤ 8192 := by
    rcases hd with h | ⟨db, h⟩
    · rw [h]; exact ⟨by decide, zero_all zero_sml, zero_all zero_sane, by decide⟩
    · obtain ⟨ed, ld, _, _, d2, m2, s2, _⟩ := decV_all h
      exact ⟨d2, m2, s2, by rw [← ed]; exact ld⟩
  obtain ⟨d2, m2, s2, l2⟩ := hd'
  have l1 : (docB e.key).length ≤ 8192 := by rw [← ek]; exact lk
  exact ⟨⟨by omega, by omega, s1, s2⟩, ⟨m1, m2, by omega, by omega, by omega, by omega, kl, by omega⟩, d1, d2⟩
theorem c20zero {b : List UInt8} : Con 20 [evSV 10 (decEvE b), .agg zeroL] [] (.bool (.s fun _ => same (decEvE b) zeroE)) [] := by
  have hg : Given (decEvE b) ∧ (decEvE b).key.depth ≤ 10 ∧ (decEvE b).doc.depth ≤ 10 := by
    unfold decEvE
    cases h : decEv b with
    | none => exact ⟨zeroE_given, by decide, by decide⟩
    | some e =>
      obtain ⟨g, _, d1, d2⟩ := dec_given h
      refine ⟨g, ?_, ?_⟩
      · show e.key.depth ≤ 10; omega
      · show e.doc.depth ≤ 10; omega
  have h := con20 (d := 10) (a := decEvE b) (b := zeroE) hg.2.1 hg.2.2 (sane_fits hg.1.sk) (sane_fits hg.1.sd)
  exact h.args (EqvL.cons (Eqv.refl _) (.cons (Eqv.agg (.cons eqv_lit (.cons (Eqv.refl _) (EqvL.app (zero_eqvL (rv := (rowsG 10).1) (rf := (rowsG 10).2)) zero_eqvL)))) .nil))
/-- EventBack. -/
theorem con4 {D : Nat} {e : Evt} {b : List UInt8} (g : Given e) (hD : D = 10 + max e.key.depth e.doc.depth) : Con 4 [evSV D e, .dat (.bytes fun _ => b)] [] (.bool (.s fun _ => true)) [] := by
  have c6 := con6 (d := D) g (by omega) (by omega)
  by_cases hm : 20000 < muchW e
  · exact (con4_a (c6.yes (decide_eq_true hm))).res eqv_t1
  have c6 := c6.no (decide_eq_false hm)
  by_cases hl : (b.length : Int) ≤ 20000
  · have s := small_of g hm
    have := s.dk; have := s.dd
    have c9 := con9g (D := D) g s (by omega) (by omega) (by omega) (by omega)
    have c10 := con10 (b := b)
    have c20n := c20zero (b := b)
    -- what is written is read again
    have wr : encE e = 0 → Con 10 [.dat (.bytes fun _ => encR e)] [] (.tup [evSV D e, .int .u16 (.s fun _ => 0)]) [] ∧ Con 20 [evSV D e, evSV D e] [] (.bool .t) [] := fun he => by
      have e1 := decEv_enc he g.sk s.mkS g.sd s.mdS
      have c := con10 (b := encR e)
      have q1 : decEvE (encR e) = e := by unfold decEvE; rw [encR_ok he, e1]; rfl
      have q2 : decEvC (encR e) = 0 := by unfold decEvC; rw [encR_ok he, e1]; rfl
      have dk : e.key.depth ≤ 10 ∧ e.doc.depth ≤ 10 := by
        obtain ⟨_, _, d1, d2⟩ := dec_given e1
        exact ⟨by omega, by omega⟩
      rw [q1, q2] at c
      have up := ev_to dk.1 dk.2 (max e.key.depth e.doc.depth)
      rw [← hD] at up
      exact ⟨c.res (Eqv.tup (.cons up (.cons (Eqv.refl _) .nil))), (con20 (by omega) (by omega) (sane_fits g.sk) (sane_fits g.sd)).yes (same_self _)⟩
    cases hd : decEv b with
    | none =>
      have q1 : decEvE b = zeroE := by unfold decEvE; rw [hd]; rfl
      have q2 : decEvC b = 210 := by unfold decEvC; rw [hd]; rfl
      rw [q1, q2] at c10
      rw [q1] at c20n
      have c20n := c20n.yes (same_self _)
      by_cases he : encE e = 0
      · obtain ⟨w1, w2⟩ := wr he
        have hne : encR e ≠ b := fun h => by
          have e1 := decEv_enc he g.sk s.mkS g.sd s.mdS
          rw [← encR_ok he, h, hd] at e1; cases e1
        exact (con4_c hl c6 c9 c10 con21 he w1 rfl w2 (by decide) c20n ((con19 (by have := encR_len e; omega)).no (decide_eq_false hne))).res eqv_t1
      · exact (con4_e hl c6 c9 c10 con21 he (by decide) c20n).res eqv_t1
    | some y =>
      have q1 : decEvE b = y := by unfold decEvE; rw [hd]; rfl
      have q2 : decEvC b = 0 := by unfold decEvC; rw [hd]; rfl
      rw [q1, q2] at c10
      obtain ⟨gy, sy, d1, d2⟩ := dec_given hd
      obtain ⟨y1, y2, _⟩ := enc_decEv hd
      have c9y := con9g (D := 10) gy sy (by decide) (by decide) (by omega) (by omega)
      have c19y := (con19 (a := encR y) (b := b) (by have := encR_len y; omega)).yes (decide_eq_true (by rw [encR_ok y1, y2]))
      by_cases he : encE e = 0
      · obtain ⟨w1, w2⟩ := wr he
        exact (con4_d hl c6 c9 c10 con21 he w1 rfl w2 rfl c9y y1 c19y).res eqv_t1
      · exact (con4_f hl c6 c9 c10 con21 he rfl c9y y1 c19y).res eqv_t1
  · exact (con4_b c6 hl).res eqv_t1
end Go.Proofs.YtkogbobplhebaaaGreatDoor

