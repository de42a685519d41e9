/- Node laws: what is too much. -/
import Derived.Test.YtmdfjipjkkjpcaaNk
namespace Go.Proofs.Ytmdfjipjkkjpcaa
open Go.SX

def muchB (es : List Ent) : Bool := decide (20000 < es.length + weight es) || decide (500 < es.length)
def BigE (e : Ent) : Prop := e.key.length ≤ 281474976710656 ∧ e.val.length ≤ 281474976710656

theorem weight_next (es : List Ent) {i : Nat} (h : i < es.length) : weight (es.take (i + 1)) = weight (es.take i) + ((es.getD i default).key.length + (es.getD i default).val.length) := by
  rw [getD_take es h, weight_app]; simp [weight]
theorem weight_le (es : List Ent) (i : Nat) : weight (es.take i) ≤ weight es := by
  have h : es.take i ++ es.drop i = es := List.take_append_drop _ _
  have h2 := weight_app (es.take i) (es.drop i)
  rw [h] at h2
  omega

set_option maxRecDepth 20000 in
set_option maxHeartbeats 4000000 in
theorem con10 {leaf : Bool} {es : List Ent} (hb : ∀ e ∈ es, BigE e) (hl : es.length ≤ 281474976710656) : Con 10 [nodeSV leaf es] [] (.bool (.s fun _ => muchB es)) [] := by
  obtain ⟨n, hn⟩ : ∃ n, n = es.length := ⟨_, rfl⟩
  have en : ((es.length : Nat) : Int) = (n : Int) := by rw [hn]
  have hi0 : 0 ≤ es.length ∧ n = es.length + weight (es.take 0) ∧ (0 < es.length → n ≤ n + 0) := ⟨Nat.zero_le _, by simp [weight, hn], fun _ => by omega⟩
  refine con_of Try.func10 rfl rfl 44 _ rfl rfl rfl rfl ?_
  cbv
  refine ⟨Nat × Nat, [], fun x => [(3, .int .i64 (.s fun _ => (x.2 : Int))), (4, .int .i64 (.s fun _ => (x.1 : Int)))], fun x => [(1, .cells 24 [.bool (.s fun _ => leaf), .dat (entsDV es)])],
    fun x => x.1 ≤ es.length ∧ x.2 = es.length + weight (es.take x.1), fun x => es.length - x.1, (0, n), [], ⟨hi0.1, hi0.2.1⟩, ⟨?_⟩, fun x hx => ?_⟩
  · cbv
    and_intros
    all_goals first | exact trivial | exact ⟨en⟩ | exact ⟨rfl⟩ | exact ⟨rfl, fun _ _ _ _ => rfl⟩ | exact ⟨by kernel_rfl⟩
  · obtain ⟨i, s⟩ := x
    obtain ⟨hi, hs⟩ : i ≤ es.length ∧ s = es.length + weight (es.take i) := hx
    have hwl := weight_le es i
    have hbig : (20000 : Int) < (s : Int) → muchB es = true := fun h => by simp only [muchB, Bool.or_eq_true, decide_eq_true_eq]; left; omega
    cbv
    refine ⟨fun h1 => ?_, fun h1 => ?_⟩
    · have h1 : (i : Int) < (es.length : Int) := of_decide_eq_true h1
      have hlt : i < es.length := by omega
      have o1 : indexObl (i : Int) es.length := ⟨by omega, h1⟩
      have bi : bound64 ((i : Int) + 1) := by unfold bound64; omega
      have ei : (i : Int) + 1 = ((i + 1 : Nat) : Int) := by omega
      have hms : es.length - (i + 1) < es.length - i := by omega
      have hE := hb _ (getD_mem hlt)
      have hwn := weight_next es hlt
      cbv
      refine ⟨fun h2 => ?_, fun h2 => ?_⟩
      · have h2 : (s : Int) ≤ 20000 := of_decide_eq_true h2
        obtain ⟨E1, E2⟩ := hE
        have q1 : bound64 (((es.getD i default).key.length : Int) + ((es.getD i default).val.length : Int)) := by unfold bound64; omega
        have q2 : bound64 ((s : Int) + (((es.getD i default).key.length : Int) + ((es.getD i default).val.length : Int))) := by unfold bound64; omega
        obtain ⟨s', hs'⟩ : ∃ s', s' = s + ((es.getD i default).key.length + (es.getD i default).val.length) := ⟨_, rfl⟩
        have es' : (s : Int) + (((es.getD i default).key.length : Int) + ((es.getD i default).val.length : Int)) = (s' : Int) := by omega
        have hinv : i + 1 ≤ es.length ∧ s' = es.length + weight (es.take (i + 1)) := ⟨hlt, by rw [hs', hs, hwn]; omega⟩
        clear h1 h2 hs' hwn
        cbv
        refine ⟨⟨o1⟩, ⟨o1⟩, ⟨q1⟩, ⟨q2⟩, ⟨by kernel_rfl⟩, ?_⟩
        cbv
        refine ⟨⟨bi⟩, (i + 1, s'), [], hinv, hms, ⟨?_⟩, ⟨?_⟩⟩
        · kernel_rfl
        · cbv
          and_intros
          all_goals first | exact trivial | exact ⟨rfl⟩ | exact ⟨es'⟩ | exact ⟨ei⟩ | exact ⟨rfl, fun _ _ _ _ => rfl⟩ | exact ⟨by kernel_rfl⟩
      · have h2 : ¬ (s : Int) ≤ 20000 := of_decide_eq_false h2
        have hsmall : ¬ (20000 : Int) < (s : Int) → decide ((500 : Int) < (es.length : Int)) = muchB es := fun h => by omega
        cbv
        refine ⟨fun h5 => ?_, fun h5 => ?_⟩
        · have h5 : (20000 : Int) < (s : Int) := of_decide_eq_true h5
          have e1 : true = muchB es := (hbig h5).symm
          cbv
          refine ⟨[], [], ?_⟩
          cbv
          and_intros
          all_goals first | exact trivial | exact ⟨e1⟩ | exact ⟨rfl⟩ | exact ⟨rfl, fun _ _ _ _ => rfl⟩ | exact ⟨by kernel_rfl⟩
        · have h5 : ¬ (20000 : Int) < (s : Int) := of_decide_eq_false h5
          have e1 : decide ((500 : Int) < (es.length : Int)) = muchB es := hsmall h5
          cbv
          refine ⟨[], [], ?_⟩
          cbv
          and_intros
          all_goals first | exact trivial | exact ⟨e1⟩ | exact ⟨rfl⟩ | exact ⟨rfl, fun _ _ _ _ => rfl⟩ | exact ⟨by kernel_rfl⟩
    · have h1 : ¬ (i : Int) < (es.length : Int) := of_decide_eq_false h1
      have hle : i = es.length := by omega
      have hsmall : ¬ (20000 : Int) < (s : Int) → decide ((500 : Int) < (es.length : Int)) = muchB es := fun h => by
        rw [hle, List.take_length] at hs
        have : decide (20000 < es.length + weight es) = false := decide_eq_false (by omega)
        simp only [muchB, this, Bool.false_or]
        exact decide_eq_decide.2 (by omega)
      clear h1 hle
      cbv
      refine ⟨fun h5 => ?_, fun h5 => ?_⟩
      · have h5 : (20000 : Int) < (s : Int) := of_decide_eq_true h5
        have e1 : true = muchB es := (hbig h5).symm
        cbv
        refine ⟨[], [], ?_⟩
        cbv
        and_intros
        all_goals first | exact trivial | exact ⟨e1⟩ | exact ⟨rfl⟩ | exact ⟨rfl, fun _ _ _ _ => rfl⟩ | exact ⟨by kernel_rfl⟩
      · have h5 : ¬ (20000 : Int) < (s : Int) := of_decide_eq_false h5
        have e1 : decide ((500 : Int) < (es.length : Int)) = muchB es := hsmall h5
        cbv
        refine ⟨[], [], ?_⟩
        cbv
        and_intros
        all_goals first | exact trivial | exact ⟨e1⟩ | exact ⟨rfl⟩ | exact ⟨rfl, fun _ _ _ _ => rfl⟩ | exact ⟨by kernel_rfl⟩
end Go.Proofs.Ytmdfjipjkkjpcaa
