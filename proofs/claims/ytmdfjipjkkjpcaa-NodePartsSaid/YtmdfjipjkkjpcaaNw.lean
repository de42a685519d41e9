/- Node laws: what is the same. -/
import Derived.Test.YtmdfjipjkkjpcaaNv
namespace Go.Proofs.Ytmdfjipjkkjpcaa
open Go.SX

deriving instance DecidableEq for Ent

theorem take_eq_next {α : Type} [Inhabited α] {a b : List α} {i : Nat} (ha : i < a.length) (hb : i < b.length) (h : a.take i = b.take i) (he : a.getD i default = b.getD i default) : a.take (i + 1) = b.take (i + 1) := by
  rw [getD_take a ha, getD_take b hb, h, he]
theorem take_eq_end {α : Type} {a b : List α} {i : Nat} (hl : a.length = b.length) (hi : ¬ i < a.length) (h : a.take i = b.take i) : a = b := by
  rwa [List.take_of_length_le (by omega), List.take_of_length_le (by omega)] at h
theorem ent_ext {x y : Ent} (h1 : x.page = y.page) (h2 : x.size = y.size) (h3 : x.key = y.key) (h4 : x.val = y.val) : x = y := by
  cases x; cases y
  cases h1; cases h2; cases h3; cases h4
  rfl
theorem u8_neq {x y : UInt8} (h : ¬ (x.toNat : Int) = (y.toNat : Int)) : x ≠ y := by
  intro e; subst e; exact h rfl
theorem u8_eq {x y : UInt8} (h : (x.toNat : Int) = (y.toNat : Int)) : x = y := UInt8.toNat.inj (by omega)

set_option maxRecDepth 20000 in
set_option maxHeartbeats 4000000 in
theorem con22 {a b : List UInt8} (hl : a.length < 1000000000000) : Con 22 [.dat (.bytes fun _ => a), .dat (.bytes fun _ => b)] [] (.bool (.s fun _ => decide (a = b))) [] := by
  refine con_of Try.func22 rfl rfl 26 _ rfl rfl rfl rfl ?_
  cbv
  refine ⟨fun h1 => ?_, fun h1 => ?_⟩
  · have h1 : ¬ (a.length : Int) = (b.length : Int) := of_decide_eq_false (bnot_t h1)
    have e1 : false = decide (a = b) := (decide_eq_false (by intro e; subst e; exact h1 rfl)).symm
    clear h1
    cbv
    refine ⟨[], [], ?_⟩
    cbv
    and_intros
    all_goals first | exact trivial | exact ⟨e1⟩ | exact ⟨rfl⟩
  · have h1 : (a.length : Int) = (b.length : Int) := of_decide_eq_true (bnot_f h1)
    have hab : a.length = b.length := by omega
    clear h1
    cbv
    refine ⟨Nat, [], fun i => [(5, .int .i64 (.s fun _ => (i : Int)))], fun i => [], fun i => i ≤ a.length ∧ a.take i = b.take i, fun i => a.length - i, 0, [], ⟨Nat.zero_le _, rfl⟩, ⟨?_⟩, fun i hx => ?_⟩
    · cbv
      and_intros
      all_goals first | exact trivial | exact ⟨rfl⟩ | exact ⟨by kernel_rfl⟩
    · obtain ⟨hi, ht⟩ : i ≤ a.length ∧ a.take i = b.take i := hx
      cbv
      refine ⟨fun h2 => ?_, fun h2 => ?_⟩
      · have h2 : (i : Int) < (a.length : Int) := of_decide_eq_true h2
        have hlt : i < a.length := by omega
        have hlb : i < b.length := by omega
        have o1 : indexObl (i : Int) a.length := ⟨by omega, h2⟩
        have o2 : indexObl (i : Int) b.length := ⟨by omega, by omega⟩
        have bi : bound64 ((i : Int) + 1) := by unfold bound64; omega
        have ei : (i : Int) + 1 = ((i + 1 : Nat) : Int) := by omega
        have hms : a.length - (i + 1) < a.length - i := by omega
        have nx := take_eq_next hlt hlb ht
        clear h2
        cbv
        refine ⟨⟨o1⟩, ⟨o2⟩, ⟨by kernel_rfl⟩, ?_⟩
        cbv
        refine ⟨fun h3 => ?_, fun h3 => ?_⟩
        · have h3 : ¬ (((a.getD i 0).toNat : Int) = ((b.getD i 0).toNat : Int)) := of_decide_eq_false (bnot_t h3)
          have e1 : false = decide (a = b) := (decide_eq_false (by intro e; subst e; exact h3 rfl)).symm
          clear h3
          cbv
          refine ⟨[], [], ?_⟩
          cbv
          and_intros
          all_goals first | exact trivial | exact ⟨e1⟩ | exact ⟨rfl⟩ | exact ⟨by kernel_rfl⟩
        · have h3 : ((a.getD i 0).toNat : Int) = ((b.getD i 0).toNat : Int) := of_decide_eq_true (bnot_f h3)
          have nx := nx (u8_eq h3)
          clear h3
          cbv
          refine ⟨⟨bi⟩, i + 1, [], ⟨hlt, nx⟩, hms, ⟨?_⟩, ⟨?_⟩⟩
          · kernel_rfl
          · cbv
            and_intros
            all_goals first | exact trivial | exact ⟨rfl⟩ | exact ⟨ei⟩ | exact ⟨by kernel_rfl⟩
      · have h2 : ¬ (i : Int) < (a.length : Int) := of_decide_eq_false h2
        have e1 : true = decide (a = b) := (decide_eq_true (take_eq_end hab (by omega) ht)).symm
        clear h2
        cbv
        refine ⟨[], [], ?_⟩
        cbv
        and_intros
        all_goals first | exact trivial | exact ⟨e1⟩ | exact ⟨rfl⟩ | exact ⟨by kernel_rfl⟩

set_option maxRecDepth 20000 in
set_option maxHeartbeats 4000000 in
theorem con76 {a b : List Ent} (hs : ∀ e ∈ a, SmallE e) (hl : a.length < 1000000000000) : Con 76 [.dat (entsDV a), .dat (entsDV b)] [] (.bool (.s fun _ => decide (a = b))) [] := by
  refine con_of Try.func76 rfl rfl 69 _ rfl rfl rfl rfl ?_
  cbv
  refine ⟨fun h1 => ?_, fun h1 => ?_⟩
  · have h1 : ¬ (a.length : Int) = (b.length : Int) := of_decide_eq_false (bnot_t h1)
    have e1 : false = decide (a = b) := (decide_eq_false (by intro e; subst e; exact h1 rfl)).symm
    clear h1
    cbv
    refine ⟨[], [], ?_⟩
    cbv
    and_intros
    all_goals first | exact trivial | exact ⟨e1⟩ | exact ⟨rfl⟩
  · have h1 : (a.length : Int) = (b.length : Int) := of_decide_eq_true (bnot_f h1)
    have hab : a.length = b.length := by omega
    clear h1
    cbv
    refine ⟨Nat, [], fun i => [(5, .int .i64 (.s fun _ => (i : Int)))], fun i => [], fun i => i ≤ a.length ∧ a.take i = b.take i, fun i => a.length - i, 0, [], ⟨Nat.zero_le _, rfl⟩, ⟨?_⟩, fun i hx => ?_⟩
    · cbv
      and_intros
      all_goals first | exact trivial | exact ⟨rfl⟩ | exact ⟨by kernel_rfl⟩
    · obtain ⟨hi, ht⟩ : i ≤ a.length ∧ a.take i = b.take i := hx
      cbv
      refine ⟨fun h2 => ?_, fun h2 => ?_⟩
      · have h2 : (i : Int) < (a.length : Int) := of_decide_eq_true h2
        have hlt : i < a.length := by omega
        have hlb : i < b.length := by omega
        have o1 : indexObl (i : Int) a.length := ⟨by omega, h2⟩
        have o2 : indexObl (i : Int) b.length := ⟨by omega, by omega⟩
        have bi : bound64 ((i : Int) + 1) := by unfold bound64; omega
        have ei : (i : Int) + 1 = ((i + 1 : Nat) : Int) := by omega
        have hms : a.length - (i + 1) < a.length - i := by omega
        have nx := take_eq_next hlt hlb ht
        have hsi := hs _ (getD_mem hlt)
        have bad : ∀ (f : Ent → Prop), f (a.getD i default) → ¬ f (b.getD i default) → false = decide (a = b) := fun f h h' => (decide_eq_false (by intro e; subst e; exact h' h)).symm
        have gd : (a.getD i default).page = (b.getD i default).page → (a.getD i default).size = (b.getD i default).size → (a.getD i default).key = (b.getD i default).key → (a.getD i default).val = (b.getD i default).val → a.getD i default = b.getD i default := ent_ext
        clear h2
        cbv
        refine ⟨⟨o1⟩, ⟨o2⟩, ?_⟩
        cbv
        refine ⟨fun h3 => ?_, fun h3 => ?_⟩
        · have h3 : ¬ ((a.getD i default).page = (b.getD i default).page) := of_decide_eq_false (bnot_t h3)
          have e1 := bad (fun e => (a.getD i default).page = e.page) rfl h3
          clear h3
          cbv
          refine ⟨⟨by kernel_rfl⟩, ?_⟩
          cbv
          refine ⟨[], [], ?_⟩
          cbv
          and_intros
          all_goals first | exact trivial | exact ⟨e1⟩ | exact ⟨rfl⟩ | exact ⟨by kernel_rfl⟩
        · have h3 : (a.getD i default).page = (b.getD i default).page := of_decide_eq_true (bnot_f h3)
          cbv
          refine ⟨⟨o1⟩, ⟨o2⟩, ?_⟩
          cbv
          refine ⟨fun h4 => ?_, fun h4 => ?_⟩
          · have h4 : ¬ ((a.getD i default).size = (b.getD i default).size) := of_decide_eq_false (bnot_t h4)
            have e1 := bad (fun e => (a.getD i default).size = e.size) rfl h4
            clear h4
            cbv
            refine ⟨⟨by kernel_rfl⟩, ?_⟩
            cbv
            refine ⟨[], [], ?_⟩
            cbv
            and_intros
            all_goals first | exact trivial | exact ⟨e1⟩ | exact ⟨rfl⟩ | exact ⟨by kernel_rfl⟩
          · have h4 : (a.getD i default).size = (b.getD i default).size := of_decide_eq_true (bnot_f h4)
            cbv
            refine ⟨⟨o1⟩, ⟨o2⟩, _, _, con22 hsi.1, ⟨?_⟩, ?_⟩
            · rfl
            cbv
            refine ⟨fun h5 => ?_, fun h5 => ?_⟩
            · have h5 : ¬ ((a.getD i default).key = (b.getD i default).key) := of_decide_eq_false (bnot_t h5)
              have e1 := bad (fun e => (a.getD i default).key = e.key) rfl h5
              clear h5
              cbv
              refine ⟨⟨by kernel_rfl⟩, ?_⟩
              cbv
              refine ⟨[], [], ?_⟩
              cbv
              and_intros
              all_goals first | exact trivial | exact ⟨e1⟩ | exact ⟨rfl⟩ | exact ⟨by kernel_rfl⟩
            · have h5 : (a.getD i default).key = (b.getD i default).key := of_decide_eq_true (bnot_f h5)
              cbv
              refine ⟨⟨o1⟩, ⟨o2⟩, _, _, con22 hsi.2, ⟨?_⟩, ?_⟩
              · rfl
              cbv
              refine ⟨⟨by kernel_rfl⟩, ?_⟩
              cbv
              refine ⟨fun h6 => ?_, fun h6 => ?_⟩
              · have h6 : ¬ ((a.getD i default).val = (b.getD i default).val) := of_decide_eq_false (bnot_t h6)
                have e1 := bad (fun e => (a.getD i default).val = e.val) rfl h6
                clear h6
                cbv
                refine ⟨[], [], ?_⟩
                cbv
                and_intros
                all_goals first | exact trivial | exact ⟨e1⟩ | exact ⟨rfl⟩ | exact ⟨by kernel_rfl⟩
              · have h6 : (a.getD i default).val = (b.getD i default).val := of_decide_eq_true (bnot_f h6)
                have nx := nx (gd h3 h4 h5 h6)
                cbv
                refine ⟨⟨bi⟩, i + 1, [], ⟨hlt, nx⟩, hms, ⟨?_⟩, ⟨?_⟩⟩
                · kernel_rfl
                · cbv
                  and_intros
                  all_goals first | exact trivial | exact ⟨rfl⟩ | exact ⟨ei⟩ | exact ⟨by kernel_rfl⟩
      · have h2 : ¬ (i : Int) < (a.length : Int) := of_decide_eq_false h2
        have e1 : true = decide (a = b) := (decide_eq_true (take_eq_end hab (by omega) ht)).symm
        clear h2
        cbv
        refine ⟨[], [], ?_⟩
        cbv
        and_intros
        all_goals first | exact trivial | exact ⟨e1⟩ | exact ⟨rfl⟩ | exact ⟨by kernel_rfl⟩

def sameB (la lb : Bool) (a b : List Ent) : Bool := (la == lb) && decide (a = b)

theorem con30 {la lb : Bool} {a b : List Ent} (hs : ∀ e ∈ a, SmallE e) (hl : a.length < 1000000000000) : Con 30 [nodeSV la a, nodeSV lb b] [] (.bool (.s fun _ => sameB la lb a b)) [] := by
  refine con_of Try.func30 rfl rfl 17 _ rfl rfl rfl rfl ?_
  cbv
  refine ⟨fun h1 => ?_, fun h1 => ?_⟩
  · have h1 : (la == lb) = true := h1
    have e1 : decide (a = b) = sameB la lb a b := by unfold sameB; rw [h1, Bool.true_and]
    cbv
    refine ⟨_, _, con76 hs hl, ⟨?_⟩, ?_⟩
    · rfl
    cbv
    refine ⟨[], [], ?_⟩
    cbv
    and_intros
    all_goals first | exact trivial | exact ⟨e1⟩ | exact ⟨rfl⟩ | exact ⟨by kernel_rfl⟩
  · have h1 : (la == lb) = false := h1
    have e1 : false = sameB la lb a b := by unfold sameB; rw [h1, Bool.false_and]
    cbv
    refine ⟨[], [], ?_⟩
    cbv
    and_intros
    all_goals first | exact trivial | exact ⟨e1⟩ | exact ⟨rfl⟩ | exact ⟨by kernel_rfl⟩
end Go.Proofs.Ytmdfjipjkkjpcaa
