/- NodeSizes: the walk. -/
import Derived.Test.YtmdfjipjkkjpcaaNi
namespace Go.Proofs.Ytmdfjipjkkjpcaa
open Go.SX

theorem con14r {leaf : Bool} {A : DV} {a : List Ent} (hA : RepE A a) (h : weight a + 20 * a.length < 1000000000000) :
    Con 14 [.agg [.bool (.s fun _ => leaf), .dat A]] [] (.int .i64 (.s fun _ => 2 + sizeL leaf a)) [] := by
  refine (con14 (leaf := leaf) (es := a) h).args fun η G w vs hv => ?_
  match vs, hv with
  | [v], hv =>
    obtain ⟨⟨us, hu, h1⟩, -⟩ := hv
    match us, h1 with
    | [u1, u2], h1 => exact ⟨⟨_, hu, h1.1, hA w G u2 h1.2.1, trivial⟩, trivial⟩
    | [], h1 => exact h1.elim
    | [_], h1 => exact h1.2.elim
    | _ :: _ :: _ :: _, h1 => exact h1.2.2.elim
  | [], hv => exact hv.elim
  | _ :: _ :: _, hv => exact hv.2.elim

set_option maxRecDepth 20000 in
set_option maxHeartbeats 4000000 in
theorem con6 {leaf : Bool} {es : List Ent} {e : Ent} (hp : ∀ e ∈ es, EntOk e) (hb : ∀ e ∈ es, BigE e) (hl : es.length ≤ 281474976710656) (hbe : BigE e) :
    Con 6 [nodeSV leaf es, entSV e] [] (.bool (.s fun _ => true)) [] := by
  have b0 : bound64 ((e.key.length : Int) + (e.val.length : Int)) := by unfold bound64; obtain ⟨q1, q2⟩ := hbe; omega
  refine con_of Try.func6 rfl rfl 77 _ rfl rfl rfl rfl ?_
  cbv
  refine ⟨_, _, con10 (leaf := leaf) hb hl, ⟨?_⟩, ?_⟩
  · kernel_rfl
  cbv
  refine ⟨fun h1 => ?_, fun h1 => ?_⟩
  · cbv
    refine ⟨_, _, con19, ⟨?_⟩, ?_⟩
    · kernel_rfl
    cbv
    refine ⟨[], [], ?_⟩
    cbv
    and_intros
    all_goals first | exact trivial | exact ⟨rfl⟩ | exact ⟨by kernel_rfl⟩
  · have h1 : muchB es = false := h1
    cbv
    refine ⟨⟨b0⟩, ?_⟩
    cbv
    refine ⟨fun h2 => ?_, fun h2 => ?_⟩
    · cbv
      refine ⟨_, _, con19, ⟨?_⟩, ?_⟩
      · kernel_rfl
      cbv
      refine ⟨[], [], ?_⟩
      cbv
      and_intros
      all_goals first | exact trivial | exact ⟨rfl⟩ | exact ⟨by kernel_rfl⟩
    · have h2 : ¬ (20000 : Int) < (e.key.length : Int) + (e.val.length : Int) := of_decide_eq_false h2
      obtain ⟨hlen, hwt⟩ := much_ok h1
      have hw2 : weight es + 20 * es.length < 1000000000000 := by omega
      have hl2 : es.length < 1000000000000 := by omega
      have hwe : e.key.length + e.val.length ≤ 20000 := by omega
      have hsz := sizeL_le leaf es
      have hse := sizeL_le leaf [e]
      have hsum : (2 + sizeL leaf (es ++ [e])) = (2 + sizeL leaf es) + (2 + sizeL leaf [e]) - 2 := by rw [sizeL_app]; omega
      simp only [weight, List.length_cons, List.length_nil] at hse
      have ba : bound64 ((2 + sizeL leaf es) + (2 + sizeL leaf [e])) := by unfold bound64; omega
      have bs : bound64 ((2 + sizeL leaf es) + (2 + sizeL leaf [e]) - 2) := by unfold bound64; omega
      have lo1 : lenOk es.length 56 := by unfold lenOk; omega
      have lo2 : lenOk (es.length + 1) 56 := by unfold lenOk; omega
      have aok := app_ok es e
      have rmore : RepE (.sl 4 (fun _ => es.length + 1) (appRow (fun _ => es.length) (lrow encE fun _ => es) (oneRow (dvsE e)))) (es ++ [e]) := rep_row (by simp) fun i hi j hj => app_row es e hi hj
      have wmore : weight (es ++ [e]) + 20 * (es ++ [e]).length < 1000000000000 := by rw [weight_app]; simp only [weight, List.length_append, List.length_cons, List.length_nil]; omega
      have rone : RepE (.sl 4 (fun _ => 1) (litRow 4 (dvsE e))) [e] := rep_row (by simp) fun i hi j hj => by
        have hi0 : i = 0 := by omega
        subst hi0
        match j, hj with
        | 0, _ => rfl
        | 1, _ => rfl
        | 2, _ => rfl
        | 3, _ => rfl
        | j + 4, h => omega
      have wone : weight [e] + 20 * [e].length < 1000000000000 := by simp only [weight, List.length_cons, List.length_nil]; omega
      have hnl := nodeB_length leaf es
      have beq91 : (decide (checkI leaf es = 91) == decide (checkI leaf es = 91)) = true := by simp
      clear h1 hse hsz hwe
      cbv
      refine ⟨_, _, con19, ⟨?_⟩, ?_⟩
      · kernel_rfl
      cbv
      refine ⟨fun h3 => ?_, fun h3 => ?_⟩
      · exfalso
        cases h3
      · cbv
        refine ⟨_, _, con12 (leaf := leaf) (es := es) hp hw2, ⟨?_⟩, ?_⟩
        · kernel_rfl
        cbv
        refine ⟨fun h4 => ?_, fun h4 => ?_⟩
        · have h4 : checkI leaf es = 0 := of_decide_eq_true h4
          have hel : ((encB leaf es).length : Int) = 2 + sizeL leaf es := by unfold encB; rw [if_pos h4]; exact hnl
          cbv
          refine ⟨_, _, con14 (leaf := leaf) (es := es) hw2, ⟨?_⟩, ?_⟩
          · kernel_rfl
          cbv
          refine ⟨fun h5 => ?_, fun h5 => ?_⟩
          · have h5 : ¬ ((encB leaf es).length : Int) = 2 + sizeL leaf es := of_decide_eq_false (bnot_t h5)
            exfalso
            exact h5 hel
          · cbv
            refine ⟨⟨lo1⟩, ?_⟩
            cbv
            refine ⟨⟨lo2, aok⟩, ?_⟩
            cbv
            refine ⟨_, _, con14r (leaf := leaf) rmore wmore, ⟨?_⟩, ?_⟩
            · kernel_rfl
            cbv
            refine ⟨_, _, con14 (leaf := leaf) (es := es) hw2, ⟨?_⟩, ?_⟩
            · kernel_rfl
            cbv
            refine ⟨_, _, con14r (leaf := leaf) rone wone, ⟨?_⟩, ?_⟩
            · kernel_rfl
            cbv
            refine ⟨⟨ba⟩, ⟨bs⟩, ?_⟩
            cbv
            refine ⟨fun h6 => ?_, fun h6 => ?_⟩
            · cbv
              refine ⟨_, _, con13 (leaf := leaf) (es := es) hp hw2, ⟨?_⟩, ?_⟩
              · kernel_rfl
              cbv
              refine ⟨⟨by kernel_rfl⟩, ?_⟩
              cbv
              refine ⟨[], [], ?_⟩
              cbv
              and_intros
              all_goals first | exact trivial | exact ⟨beq91⟩ | exact ⟨by kernel_rfl⟩
            · have h6 : ¬ (2 + sizeL leaf (es ++ [e])) = (2 + sizeL leaf es) + (2 + sizeL leaf [e]) - 2 := of_decide_eq_false h6
              exfalso
              exact h6 hsum
        · cbv
          refine ⟨⟨lo1⟩, ?_⟩
          cbv
          refine ⟨⟨lo2, aok⟩, ?_⟩
          cbv
          refine ⟨_, _, con14r (leaf := leaf) rmore wmore, ⟨?_⟩, ?_⟩
          · kernel_rfl
          cbv
          refine ⟨_, _, con14 (leaf := leaf) (es := es) hw2, ⟨?_⟩, ?_⟩
          · kernel_rfl
          cbv
          refine ⟨_, _, con14r (leaf := leaf) rone wone, ⟨?_⟩, ?_⟩
          · kernel_rfl
          cbv
          refine ⟨⟨ba⟩, ⟨bs⟩, ?_⟩
          cbv
          refine ⟨fun h6 => ?_, fun h6 => ?_⟩
          · cbv
            refine ⟨_, _, con13 (leaf := leaf) (es := es) hp hw2, ⟨?_⟩, ?_⟩
            · kernel_rfl
            cbv
            refine ⟨⟨by kernel_rfl⟩, ?_⟩
            cbv
            refine ⟨[], [], ?_⟩
            cbv
            and_intros
            all_goals first | exact trivial | exact ⟨beq91⟩ | exact ⟨by kernel_rfl⟩
          · have h6 : ¬ (2 + sizeL leaf (es ++ [e])) = (2 + sizeL leaf es) + (2 + sizeL leaf [e]) - 2 := of_decide_eq_false h6
            exfalso
            exact h6 hsum
end Go.Proofs.Ytmdfjipjkkjpcaa
