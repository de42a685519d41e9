/- NodePlaces: the walk. -/
import Derived.Test.YtmdfjipjkkjpcaaNl
namespace Go.Proofs.Ytmdfjipjkkjpcaa
open Go.SX

theorem much_ok {es : List Ent} (h : muchB es = false) : es.length ≤ 500 ∧ es.length + weight es ≤ 20000 := by
  simp only [muchB, Bool.or_eq_false_iff, decide_eq_false_iff_not] at h
  omega
theorem may_of_check {leaf : Bool} {es : List Ent} (h : ¬ checkI leaf es = 90) : mayB leaf es = true := by
  cases hm : mayB leaf es with
  | true => rfl
  | false => exact absurd (by unfold checkI; rw [hm]; rfl) h

set_option maxRecDepth 20000 in
set_option maxHeartbeats 4000000 in
theorem con5 {leaf : Bool} {es : List Ent} {key : List UInt8} (hp : ∀ e ∈ es, EntOk e) (hb : ∀ e ∈ es, BigE e) (hl : es.length ≤ 281474976710656) :
    Con 5 [nodeSV leaf es, .dat (.bytes fun _ => key)] [] (.bool (.s fun _ => true)) [] := by
  refine con_of Try.func5 rfl rfl 67 _ rfl rfl rfl rfl ?_
  cbv
  refine ⟨_, _, con10 (leaf := leaf) hb hl, ⟨?_⟩, ?_⟩
  · kernel_rfl
  cbv
  refine ⟨fun h1 => ?_, fun h1 => ?_⟩
  · cbv
    refine ⟨_, _, con19, ⟨?_⟩, ?_⟩
    · kernel_rfl
    cbv
    refine ⟨[], [], ?_⟩
    cbv
    and_intros
    all_goals first | exact trivial | exact ⟨rfl⟩ | exact ⟨by kernel_rfl⟩
  · have h1 : muchB es = false := h1
    obtain ⟨hlen, hwt⟩ := much_ok h1
    have hw2 : weight es + 20 * es.length < 1000000000000 := by omega
    have hl2 : es.length < 1000000000000 := by omega
    cbv
    refine ⟨fun h2 => ?_, fun h2 => ?_⟩
    · cbv
      refine ⟨_, _, con19, ⟨?_⟩, ?_⟩
      · kernel_rfl
      cbv
      refine ⟨[], [], ?_⟩
      cbv
      and_intros
      all_goals first | exact trivial | exact ⟨rfl⟩ | exact ⟨by kernel_rfl⟩
    · clear h2
      cbv
      refine ⟨_, _, con19, ⟨?_⟩, ?_⟩
      · kernel_rfl
      cbv
      refine ⟨fun h3 => ?_, fun h3 => ?_⟩
      · exfalso
        cases h3
      · cbv
        refine ⟨fun h4 => ?_, fun h4 => ?_⟩
        · cbv
          refine ⟨[], [], ?_⟩
          cbv
          and_intros
          all_goals first | exact trivial | exact ⟨rfl⟩ | exact ⟨by kernel_rfl⟩
        · have h4 : leaf = false := h4
          subst h4
          cbv
          refine ⟨_, _, con13 (leaf := false) (es := es) hp hw2, ⟨?_⟩, ?_⟩
          · kernel_rfl
          cbv
          refine ⟨fun h5 => ?_, fun h5 => ?_⟩
          · cbv
            refine ⟨[], [], ?_⟩
            cbv
            and_intros
            all_goals first | exact trivial | exact ⟨rfl⟩ | exact ⟨by kernel_rfl⟩
          · have h5 : ¬ checkI false es = 90 := of_decide_eq_false h5
            have hm := may_of_check h5
            have hlw := places_law (key := key) hm
            have ca := con31f (key := key) hl2
            obtain ⟨k, hk⟩ : ∃ k, k = placeI (gtP key) es - 1 := ⟨_, rfl⟩
            rw [← hk] at hlw ca
            obtain ⟨hkl, hlaw⟩ := hlw
            have hpos : 0 < es.length := by omega
            have hk0 : ¬ (k : Int) < 0 := by omega
            have hk1 : ¬ (es.length : Int) ≤ (k : Int) := by omega
            clear h5 hk
            cbv
            refine ⟨_, _, ca, ⟨?_⟩, ?_⟩
            · kernel_rfl
            cbv
            refine ⟨fun h6 => ?_, fun h6 => ?_⟩
            · have h6 : decide (0 < es.length) = false := bnot_t h6
              rw [decide_eq_true hpos] at h6
              exfalso
              cases h6
            · cbv
              refine ⟨fun h7 => ?_, fun h7 => ?_⟩
              · have h7 : (k : Int) < 0 := of_decide_eq_true h7
                exfalso
                exact hk0 h7
              · cbv
                refine ⟨fun h8 => ?_, fun h8 => ?_⟩
                · have h8 : (es.length : Int) ≤ (k : Int) := of_decide_eq_true h8
                  exfalso
                  exact hk1 h8
                · cbv
                  refine ⟨Nat, [], fun i => [(7, .int .i64 (.s fun _ => (i : Int)))], fun _ => [(2, .cells 24 [.bool (.s fun _ => false), .dat (entsDV es)])],
                    fun i => i ≤ es.length, fun i => es.length - i, 0, [], Nat.zero_le _, ⟨?_⟩, fun i hi => ?_⟩
                  · cbv
                    and_intros
                    all_goals first | exact trivial | exact ⟨rfl⟩ | exact ⟨rfl, fun _ _ _ _ => rfl⟩ | exact ⟨by kernel_rfl⟩
                  · have hi : i ≤ es.length := hi
                    cbv
                    refine ⟨fun h9 => ?_, fun h9 => ?_⟩
                    · have h9 : (i : Int) < (es.length : Int) := of_decide_eq_true h9
                      have hlt : i < es.length := by omega
                      have o1 : indexObl (i : Int) es.length := ⟨by omega, h9⟩
                      have bi : bound64 ((i : Int) + 1) := by unfold bound64; omega
                      have ei : (i : Int) + 1 = ((i + 1 : Nat) : Int) := by omega
                      have hms : es.length - (i + 1) < es.length - i := by omega
                      have hlw := hlaw i hlt
                      have hik : decide ((i : Int) ≤ (k : Int)) = decide (i ≤ k) := decide_eq_decide.2 (by omega)
                      rw [← hik] at hlw
                      clear h9
                      cbv
                      refine ⟨⟨o1⟩, ⟨by kernel_rfl⟩, ?_⟩
                      cbv
                      refine ⟨fun h10 => ?_, fun h10 => ?_⟩
                      · have h10 : ((Op.bytesLess (es.getD i default).key key || (es.getD i default).key == key) != decide ((i : Int) ≤ (k : Int))) = true := h10
                        rw [hlw] at h10
                        exfalso
                        cases h10
                      · cbv
                        refine ⟨⟨bi⟩, i + 1, [], hlt, hms, ⟨?_⟩, ⟨?_⟩⟩
                        · kernel_rfl
                        · cbv
                          and_intros
                          all_goals first | exact trivial | exact ⟨rfl⟩ | exact ⟨ei⟩ | exact ⟨rfl, fun _ _ _ _ => rfl⟩ | exact ⟨by kernel_rfl⟩
                    · cbv
                      refine ⟨[], [], ?_⟩
                      cbv
                      and_intros
                      all_goals first | exact trivial | exact ⟨rfl⟩ | exact ⟨by kernel_rfl⟩
end Go.Proofs.Ytmdfjipjkkjpcaa
