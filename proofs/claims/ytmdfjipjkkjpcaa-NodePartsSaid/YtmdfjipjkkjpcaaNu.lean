/- Node laws: halves. -/
import Derived.Test.YtmdfjipjkkjpcaaNs
namespace Go.Proofs.Ytmdfjipjkkjpcaa
open Go.SX

theorem rep_sub {a b : List Ent} {l h : Nat} (hb : b = (a.drop l).take (h - l)) (hh : h ≤ a.length) :
    RepE (.sl 4 (fun _ => h - l) (subRow (lrow encE fun _ => a) fun _ => l)) b := by
  subst hb
  refine rep_row (by simp; omega) fun i hi j _ => ?_
  simp only [subRow, lrow, List.getD_eq_getElem?_getD]
  rw [List.getElem?_take_of_lt hi, List.getElem?_drop]

theorem con82_1 {leaf : Bool} {A : DV} {a : List Ent} (hA : RepE A a) (hs : ∀ e ∈ a, SmallE e) (hl : a.length < 1000000000000) :
    Con 82 [.bool (.s fun _ => leaf), .dat (.sl 1 (fun _ => 1) (litRow 1 [A]))] [] (.agg [.bool (.s fun _ => leaf), .own 2000])
      [(2000, .arrD 74 4 (fun _ => a.length) (lrow encE fun _ => a))] := by
  have h := con82 (leaf := leaf) (ls := [a]) (by simpa using hs) (by simpa using hl) (by simp)
  have e : [a].flatten = a := by simp
  rw [e] at h
  refine h.args fun η G w vs hv => ?_
  match vs, hv with
  | [v1, v2], hv =>
    obtain ⟨h1, h2, -⟩ := hv
    refine ⟨h1, ?_, trivial⟩
    simp only [SVRel, DVRel] at h2 ⊢
    obtain ⟨p, c, rfl, hc, hr⟩ := h2
    refine ⟨p, c, rfl, hc, fun i hi => ?_⟩
    obtain ⟨b, o, hb, hG, hj⟩ := hr i hi
    refine ⟨b, o, hb, hG, fun j hj' => ?_⟩
    obtain ⟨u, hu, hd⟩ := hj j hj'
    refine ⟨u, hu, ?_⟩
    have hi0 : i = 0 := by simp at hi; omega
    have hj0 : j = 0 := by omega
    subst hi0; subst hj0
    exact hA w G u hd
  | [], hv => exact hv.elim
  | [_], hv => exact hv.2.elim
  | _ :: _ :: _ :: _, hv => exact hv.2.2.elim

def goesB (leaf : Bool) (es : List Ent) (k : Nat) : Bool := decide (k = 0) || (decide (2 * sizeL leaf (es.take k) < sizeL leaf es) && decide (k < es.length - 1))
def cutF (leaf : Bool) (es : List Ent) : Nat → Nat → Nat
  | 0, k => k
  | f + 1, k => if goesB leaf es k then cutF leaf es f (k + 1) else k
def cutK (leaf : Bool) (es : List Ent) : Nat := cutF leaf es es.length 0

theorem hsE_of {es : List Ent} (hs : ∀ e ∈ es, SmallE e) : ∀ e ∈ es, e.key.length + e.val.length < 10000000000000 := fun e he => by have := hs e he; unfold SmallE at this; omega
theorem cut_go {leaf : Bool} {es : List Ent} {k : Nat} (hk : k < es.length) (h : goesB leaf es k = true) : cutF leaf es (es.length - (k + 1)) (k + 1) = cutF leaf es (es.length - k) k := by
  rw [show es.length - k = (es.length - (k + 1)) + 1 by omega]
  simp only [cutF, h, if_true]
theorem cut_end {leaf : Bool} {es : List Ent} {k : Nat} (hk : k < es.length) (h : goesB leaf es k = false) : cutF leaf es (es.length - k) k = k := by
  rw [show es.length - k = (es.length - (k + 1)) + 1 by omega]
  simp only [cutF, h, Bool.false_eq_true, if_false]
theorem cut_at {leaf : Bool} {es : List Ent} (h2 : 2 ≤ es.length) : 1 ≤ cutK leaf es ∧ cutK leaf es < es.length := by
  have key : ∀ f k, k + f = es.length → k < es.length → (k = 0 ∨ 1 ≤ k) → 1 ≤ cutF leaf es f k ∧ cutF leaf es f k < es.length := by
    intro f
    induction f with
    | zero => intro k h h' _; omega
    | succ f ih =>
      intro k h h' h0
      simp only [cutF]
      by_cases hg : goesB leaf es k = true
      · rw [if_pos hg]
        have : k + 1 < es.length := by
          simp only [goesB, Bool.or_eq_true, Bool.and_eq_true, decide_eq_true_eq] at hg
          omega
        exact ih (k + 1) (by omega) this (by omega)
      · rw [if_neg hg]
        have : k ≠ 0 := by
          intro h; subst h; exact hg (by simp [goesB])
        omega
  exact key es.length 0 (by omega) (by omega) (Or.inl rfl)

set_option maxRecDepth 20000 in
set_option maxHeartbeats 4000000 in
theorem con35t {es : List Ent} (hw : weight es + 20 * es.length < 1000000000000) (hs : ∀ e ∈ es, SmallE e) (h2 : 2 ≤ es.length) :
    Con 35 [nodeSV true es] [] (.tup [.agg [.bool (.s fun _ => true), .own 2000], .agg [.bool (.s fun _ => true), .own 2001], .own 2002])
      [(2000, .arrD 74 4 (fun _ => (es.take (cutK true es)).length) (lrow encE fun _ => es.take (cutK true es))),
       (2001, .arrD 74 4 (fun _ => (es.drop (cutK true es)).length) (lrow encE fun _ => es.drop (cutK true es))),
       (2002, .barr 5 fun _ => ((es.drop (cutK true es)).getD 0 default).key)] := by
  have b0 : bound64 ((2 + sizeL true es) - 2) := by have := sizeL_le true es; unfold bound64; omega
  refine con_of Try.func35 rfl rfl 87 _ rfl rfl rfl rfl ?_
  cbv
  refine ⟨fun h1 => ?_, fun h1 => ?_⟩
  · have h1 : (es.length : Int) < 2 := of_decide_eq_true h1
    have h1 : ¬ 2 ≤ es.length := by omega
    exfalso
    exact h1 h2
  · clear h1
    cbv
    refine ⟨_, _, con14 (leaf := true) (es := es) hw, ⟨?_⟩, ?_⟩
    · rfl
    cbv
    refine ⟨⟨b0⟩, ?_⟩
    cbv
    refine ⟨Nat, [], fun k => [(6, .int .i64 (.s fun _ => sizeL true (es.take k))), (7, .int .i64 (.s fun _ => (k : Int)))],
      fun _ => [(1, .cells 24 [.bool (.s fun _ => true), .dat (entsDV es)]), (2, .cells 24 [.bool .f, .nil]), (3, .cells 24 [.bool .f, .nil])],
      fun k => k < es.length ∧ cutF true es (es.length - k) k = cutK true es, fun k => es.length - k, 0, [], ⟨by omega, rfl⟩, ⟨?_⟩, fun k hx => ?_⟩
    · cbv
      and_intros
      all_goals first | exact trivial | exact ⟨rfl⟩ | exact ⟨rfl, fun _ _ _ _ => rfl⟩ | exact ⟨by kernel_rfl⟩
    · obtain ⟨hk, hc⟩ : k < es.length ∧ cutF true es (es.length - k) k = cutK true es := hx
      have oi : indexObl (k : Int) es.length := ⟨by omega, by omega⟩
      have bk : bound64 ((k : Int) + 1) := by unfold bound64; omega
      have bl : bound64 ((es.length : Int) - 1) := by unfold bound64; omega
      have ek : (k : Int) + 1 = ((k + 1 : Nat) : Int) := by omega
      have b2 : bound64 (2 * sizeL true (es.take k)) := by have := sizeL_le true (es.take k); have := sizeL_mono true (es := es) (i := k); have := sizeL_le true es; unfold bound64; omega
      have b5 : 2 + sizeL true es - 2 = sizeL true es := by omega
      have hms : es.length - (k + 1) < es.length - k := by omega
      have hnx : sizeL true (es.take (k + 1)) = sizeL true (es.take k) + bytesOfI true (es.getD k default).key (es.getD k default).val (es.getD k default).page := by
        rw [getD_take es hk, sizeL_app]; simp only [sizeL]; omega
      have hnx' := hnx.symm
      have so1 : sliceObl 0 (k : Int) es.length := ⟨by omega, by omega, by omega⟩
      have so2 : sliceObl (k : Int) (es.length : Int) es.length := ⟨by omega, by omega, by omega⟩
      have oi0 : indexObl 0 (es.drop k).length := ⟨by omega, by simp; omega⟩
      have ha : ∀ e ∈ es.take k, SmallE e := fun e he => hs e (List.mem_of_mem_take he)
      have hb : ∀ e ∈ es.drop k, SmallE e := fun e he => hs e (List.mem_of_mem_drop he)
      have la : (es.take k).length < 1000000000000 := by simp only [List.length_take]; omega
      have lb : (es.drop k).length < 1000000000000 := by simp only [List.length_drop]; omega
      have ra : RepE (.sl 4 (fun _ => (k : Int).toNat - 0) (subRow (lrow encE fun _ => es) fun _ => 0)) (es.take k) := rep_sub (by simp) (by omega)
      have rb : RepE (.sl 4 (fun _ => (es.length : Int).toNat - (k : Int).toNat) (subRow (lrow encE fun _ => es) fun _ => (k : Int).toNat)) (es.drop k) := rep_sub (a := es) (b := es.drop k) (l := k) (h := es.length) (by rw [List.take_of_length_le (by simp)]) (Nat.le_refl _)
      have kl : ((es.drop k).getD 0 default).key.length < 1000000000000 := (hb _ (getD_mem (by simp; omega))).1
      cbv
      refine ⟨fun h3 => ?_, fun h3 => ?_⟩
      · have h3 : (k : Int) = 0 := of_decide_eq_true h3
        have hg : goesB true es k = true := by simp only [goesB, decide_eq_true (show k = 0 by omega), Bool.true_or]
        have hlt : k + 1 < es.length := by omega
        have ob1 : bound64 ((sizeL true (es.take k)) + bytesOfI true (es.getD k default).key (es.getD k default).val (es.getD k default).page) := by
          rw [← hnx]; have := sizeL_le true (es.take (k + 1)); have := sizeL_mono true (es := es) (i := k + 1); have := sizeL_le true es; unfold bound64; omega
        have hgo := (cut_go hk hg).trans hc
        clear hg hc
        cbv
        refine ⟨⟨oi⟩, _, _, con44 (leaf := true) (Nat.lt_of_le_of_lt (by have := weight_take es hk; omega : (es.getD k default).key.length + (es.getD k default).val.length ≤ weight es) (by omega)), ⟨?_⟩, ?_⟩
        · rfl
        cbv
        refine ⟨⟨ob1⟩, ⟨by kernel_rfl⟩, ?_⟩
        cbv
        refine ⟨⟨bk⟩, k + 1, [], ⟨hlt, hgo⟩, hms, ⟨?_⟩, ⟨?_⟩⟩
        · kernel_rfl
        · cbv
          and_intros
          all_goals first | exact trivial | exact ⟨hnx'⟩ | exact ⟨ek⟩ | exact ⟨rfl⟩ | exact ⟨rfl, fun _ _ _ _ => rfl⟩ | exact ⟨by kernel_rfl⟩
      · have h3 : ¬ (k : Int) = 0 := of_decide_eq_false h3
        have h3 : ¬ k = 0 := by omega
        cbv
        refine ⟨⟨b2⟩, ?_⟩
        cbv
        refine ⟨fun h4 => ?_, fun h4 => ?_⟩
        · have h4 : 2 * sizeL true (es.take k) < 2 + sizeL true es - 2 := of_decide_eq_true h4
          cbv
          refine ⟨⟨bl⟩, ?_⟩
          cbv
          refine ⟨fun h5 => ?_, fun h5 => ?_⟩
          · have h5 : (k : Int) < (es.length : Int) - 1 := of_decide_eq_true h5
            have hlt : k + 1 < es.length := by omega
            have hg : goesB true es k = true := by simp only [goesB, decide_eq_true (show 2 * sizeL true (es.take k) < sizeL true es by omega), decide_eq_true (show k < es.length - 1 by omega), Bool.true_and, Bool.or_true]
            have ob1 : bound64 ((sizeL true (es.take k)) + bytesOfI true (es.getD k default).key (es.getD k default).val (es.getD k default).page) := by
              rw [← hnx]; have := sizeL_le true (es.take (k + 1)); have := sizeL_mono true (es := es) (i := k + 1); have := sizeL_le true es; unfold bound64; omega
            have hgo := (cut_go hk hg).trans hc
            clear hg hc
            cbv
            refine ⟨⟨oi⟩, _, _, con44 (leaf := true) (Nat.lt_of_le_of_lt (by have := weight_take es hk; omega : (es.getD k default).key.length + (es.getD k default).val.length ≤ weight es) (by omega)), ⟨?_⟩, ?_⟩
            · rfl
            cbv
            refine ⟨⟨ob1⟩, ⟨by kernel_rfl⟩, ?_⟩
            cbv
            refine ⟨⟨bk⟩, k + 1, [], ⟨hlt, hgo⟩, hms, ⟨?_⟩, ⟨?_⟩⟩
            · kernel_rfl
            · cbv
              and_intros
              all_goals first | exact trivial | exact ⟨hnx'⟩ | exact ⟨ek⟩ | exact ⟨rfl⟩ | exact ⟨rfl, fun _ _ _ _ => rfl⟩ | exact ⟨by kernel_rfl⟩
          · have h5 : ¬ (k : Int) < (es.length : Int) - 1 := of_decide_eq_false h5
            have hg : goesB true es k = false := by simp only [goesB, decide_eq_false h3, decide_eq_false (show ¬ k < es.length - 1 by omega), Bool.and_false, Bool.or_false]
            have hkk : k = cutK true es := by rw [← hc]; exact (cut_end hk hg).symm
            rw [← hkk]
            clear hg hc
            cbv
            refine ⟨⟨so1⟩, _, _, con82_1 (leaf := true) ra ha la, ⟨?_⟩, ?_⟩
            · rfl
            cbv
            refine ⟨⟨so2⟩, _, _, con82_1 (leaf := true) rb hb lb, ⟨?_⟩, ?_⟩
            · kernel_rfl
            cbv
            refine ⟨⟨by kernel_rfl⟩, ?_⟩
            cbv
            refine ⟨⟨oi0⟩, _, _, con84 kl, ⟨?_⟩, ?_⟩
            · kernel_rfl
            cbv
            refine ⟨fun h => (by cases h), fun _ => ?_⟩
            cbv
            refine ⟨⟨by kernel_rfl⟩, ?_⟩
            cbv
            refine ⟨[(2000, some 9200), (2001, some 10000), (2002, some 10600)], [], ?_⟩
            cbv
            and_intros
            all_goals first | exact trivial | exact ⟨rfl⟩ | exact ⟨rfl, fun _ _ _ _ => rfl⟩ | exact ⟨by kernel_rfl⟩
        · have h4 : ¬ 2 * sizeL true (es.take k) < 2 + sizeL true es - 2 := of_decide_eq_false h4
          have hg : goesB true es k = false := by simp only [goesB, decide_eq_false h3, decide_eq_false (show ¬ 2 * sizeL true (es.take k) < sizeL true es by omega), Bool.false_and, Bool.or_false]
          have hkk : k = cutK true es := by rw [← hc]; exact (cut_end hk hg).symm
          rw [← hkk]
          clear hg hc
          cbv
          refine ⟨⟨so1⟩, _, _, con82_1 (leaf := true) ra ha la, ⟨?_⟩, ?_⟩
          · rfl
          cbv
          refine ⟨⟨so2⟩, _, _, con82_1 (leaf := true) rb hb lb, ⟨?_⟩, ?_⟩
          · kernel_rfl
          cbv
          refine ⟨⟨by kernel_rfl⟩, ?_⟩
          cbv
          refine ⟨⟨oi0⟩, _, _, con84 kl, ⟨?_⟩, ?_⟩
          · kernel_rfl
          cbv
          refine ⟨fun h => (by cases h), fun _ => ?_⟩
          cbv
          refine ⟨⟨by kernel_rfl⟩, ?_⟩
          cbv
          refine ⟨[(2000, some 9200), (2001, some 10000), (2002, some 10600)], [], ?_⟩
          cbv
          and_intros
          all_goals first | exact trivial | exact ⟨rfl⟩ | exact ⟨rfl, fun _ _ _ _ => rfl⟩ | exact ⟨by kernel_rfl⟩
end Go.Proofs.Ytmdfjipjkkjpcaa
