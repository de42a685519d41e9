/- Node laws: nodes of entries of their own. -/
import Derived.Test.YtmdfjipjkkjpcaaNr
namespace Go.Proofs.Ytmdfjipjkkjpcaa
open Go.SX

def dvsE (e : Ent) : List DV := [.bytes fun _ => e.key, .bytes fun _ => e.val, .int .u32 fun _ => e.page, .int .u32 fun _ => e.size]

theorem merge_t (x y : Ent) (j : Nat) : mergeDV (fun _ => true) (encE (fun _ => x) j) (encE (fun _ => y) j) = encE (fun _ => x) j := by
  match j with
  | 0 => rfl
  | 1 => rfl
  | 2 => rfl
  | _ + 3 => rfl
theorem merge_f (x y : Ent) (j : Nat) : mergeDV (fun _ => false) (encE (fun _ => x) j) (encE (fun _ => y) j) = encE (fun _ => y) j := by
  match j with
  | 0 => rfl
  | 1 => rfl
  | 2 => rfl
  | _ + 3 => rfl
theorem one_enc (e : Ent) {i : Unit → Nat} {j : Nat} (hj : j < 4) : oneRow (dvsE e) i j = encE (fun _ => e) j := by
  match j, hj with
  | 0, _ => rfl
  | 1, _ => rfl
  | 2, _ => rfl
  | 3, _ => rfl
  | _ + 4, h => omega
theorem app_row (es : List Ent) (e : Ent) {i : Nat} (hi : i < es.length + 1) {j : Nat} (hj : j < 4) :
    appRow (fun _ => es.length) (lrow encE fun _ => es) (oneRow (dvsE e)) (fun _ => i) j = lrow encE (fun _ => es ++ [e]) (fun _ => i) j := by
  unfold appRow
  rw [one_enc e hj]
  by_cases h : i < es.length
  · have h1 : ltN i es.length = true := by simp [ltN, h]
    simp only [h1, lrow]
    rw [merge_t]
    simp only [List.getD_eq_getElem?_getD, List.getElem?_append_left h]
  · have h1 : ltN i es.length = false := by simp [ltN, h]
    have hie : i = es.length := by omega
    subst hie
    simp only [h1, lrow]
    rw [merge_f]
    simp
theorem app_ok (es : List Ent) (e : Ent) : AppOk 4 es.length 1 (lrow encE fun _ => es) (oneRow (dvsE e)) := by
  refine ⟨fun i hi j hj => ?_, fun i hi j hj => ?_⟩
  · rw [app_row es e (by omega) hj]
    simp only [lrow, List.getD_eq_getElem?_getD, List.getElem?_append_left hi]
  · have : i = 0 := by omega
    subst this
    rw [Nat.add_zero, app_row es e (by omega) hj, one_enc e hj]
    simp [lrow]

theorem row_le {old new : List Ent} (h : old = new) : old.length = new.length ∧ RowEq 4 new.length (lrow encE fun _ => old) (lrow encE fun _ => new) := by
  subst h; exact ⟨rfl, fun _ _ _ _ => rfl⟩
theorem row_app {es new : List Ent} {e : Ent} (h : es ++ [e] = new) : es.length + 1 = new.length ∧ RowEq 4 new.length (appRow (fun _ => es.length) (lrow encE fun _ => es) (oneRow (dvsE e))) (lrow encE fun _ => new) := by
  subst h
  refine ⟨by simp, fun i hi j hj => app_row es e (by simpa using hi) hj⟩

def SmallE (e : Ent) : Prop := e.key.length < 1000000000000 ∧ e.val.length < 1000000000000

theorem flat_next (ls : List (List Ent)) {i : Nat} (hi : i < ls.length) : (ls.take (i + 1)).flatten = (ls.take i).flatten ++ ls.getD i default := by
  rw [getD_take ls hi, List.flatten_append]
  simp
theorem flat_len (ls : List (List Ent)) {i j : Nat} (hi : i < ls.length) (hj : j ≤ (ls.getD i default).length) : ((ls.take i).flatten ++ (ls.getD i default).take j).length ≤ ls.flatten.length := by
  have h : ls.take (i + 1) ++ ls.drop (i + 1) = ls := List.take_append_drop _ _
  have h2 := congrArg (fun l => (List.flatten l).length) h
  simp only [List.flatten_append, List.length_append, flat_next ls hi] at h2
  simp only [List.length_append, List.length_take]
  omega
theorem getD_mem {α : Type} [Inhabited α] {l : List α} {i : Nat} (hi : i < l.length) : l.getD i default ∈ l := by
  rw [List.getD_eq_getElem?_getD, List.getElem?_eq_getElem hi]
  exact List.getElem_mem hi

set_option maxRecDepth 20000 in
set_option maxHeartbeats 4000000 in
theorem con82 {leaf : Bool} {ls : List (List Ent)} (hs : ∀ a ∈ ls, ∀ e ∈ a, SmallE e) (hl : ls.flatten.length < 1000000000000) (hn : ls.length < 1000000000000) :
    Con 82 [.bool (.s fun _ => leaf), .dat (.sl 1 (fun _ => ls.length) (lrow encL fun _ => ls))] [] (.agg [.bool (.s fun _ => leaf), .own 2000])
      [(2000, .arrD 74 4 (fun _ => ls.flatten.length) (lrow encE fun _ => ls.flatten))] := by
  refine con_of Try.func82 rfl rfl 34 _ rfl rfl rfl rfl ?_
  cbv
  refine ⟨Nat, [500], fun i => [(14, .int .i64 (.s fun _ => (i : Int)))],
    fun i => [(4, .cells 24 [.bool .f, .nil]), (5, .cells 24 [.bool (.s fun _ => leaf), .own 500]), (500, .arrD 74 4 (fun _ => (ls.take i).flatten.length) (lrow encE fun _ => (ls.take i).flatten))],
    fun i => i ≤ ls.length, fun i => ls.length - i, 0, [(500, none)], Nat.zero_le _, ⟨?_⟩, fun i hi => ?_⟩
  · cbv
    and_intros
    all_goals first | exact trivial | exact ⟨rfl⟩ | exact ⟨by kernel_rfl⟩
  · have hi : i ≤ ls.length := hi
    cbv
    refine ⟨fun h1 => ?_, fun h1 => ?_⟩
    · have h1 : (i : Int) < (ls.length : Int) := of_decide_eq_true h1
      have hlt : i < ls.length := by omega
      have o1 : indexObl (i : Int) ls.length := ⟨by omega, h1⟩
      have bi : bound64 ((i : Int) + 1) := by unfold bound64; omega
      have ei : (i : Int) + 1 = ((i + 1 : Nat) : Int) := by omega
      have hm := hs _ (getD_mem hlt)
      have hfn := flat_next ls hlt
      obtain ⟨B, hB⟩ : ∃ B, B = (ls.take i).flatten := ⟨_, rfl⟩
      rw [← hB] at hfn
      have e3 : (ls.take i).flatten = B ++ (ls.getD i default).take 0 := by rw [hB, List.take_zero, List.append_nil]
      have e3 := row_le e3
      clear h1
      cbv
      refine ⟨⟨o1⟩, ?_⟩
      cbv
      refine ⟨Nat, [500], fun j => [(20, .int .i64 (.s fun _ => (j : Int)))],
        fun j => [(4, .cells 24 [.bool .f, .nil]), (5, .cells 24 [.bool (.s fun _ => leaf), .own 500]), (500, .arrD 74 4 (fun _ => (B ++ (ls.getD i default).take j).length) (lrow encE fun _ => B ++ (ls.getD i default).take j))],
        fun j => j ≤ (ls.getD i default).length, fun j => (ls.getD i default).length - j, 0, [], Nat.zero_le _, ⟨?_⟩, fun j hj => ?_⟩
      · cbv
        and_intros
        all_goals first | exact trivial | exact ⟨rfl⟩ | exact ⟨e3⟩ | exact ⟨by kernel_rfl⟩
      · have hj : j ≤ (ls.getD i default).length := hj
        have hfl := flat_len ls hlt hj
        rw [← hB] at hfl
        cbv
        refine ⟨fun h2 => ?_, fun h2 => ?_⟩
        · have h2 : (j : Int) < ((ls.getD i default).length : Int) := of_decide_eq_true h2
          have hjl : j < (ls.getD i default).length := by omega
          have o2 : indexObl (j : Int) (ls.getD i default).length := ⟨by omega, h2⟩
          have bj : bound64 ((j : Int) + 1) := by
            have : (ls.getD i default).length ≤ ls.flatten.length := by
              have := flat_len ls hlt (Nat.le_refl _)
              simp only [List.length_append, List.length_take] at this
              omega
            unfold bound64; omega
          have ej : (j : Int) + 1 = ((j + 1 : Nat) : Int) := by omega
          obtain ⟨hk, hv⟩ := hm _ (getD_mem hjl)
          have hap := app_ok (B ++ (ls.getD i default).take j) ((ls.getD i default).getD j default)
          have hnx : (B ++ (ls.getD i default).take j) ++ [(ls.getD i default).getD j default] = B ++ (ls.getD i default).take (j + 1) := by
            rw [getD_take _ hjl, List.append_assoc]
          have hra := row_app hnx
          have hlo : lenOk ((B ++ (ls.getD i default).take j).length + 1) 56 := by unfold lenOk; omega
          have hms : (ls.getD i default).length - (j + 1) < (ls.getD i default).length - j := by omega
          clear h2
          cbv
          refine ⟨⟨o2⟩, ?_⟩
          cbv
          refine ⟨_, _, con97 (e := (ls.getD i default).getD j default) hk hv, ⟨?_⟩, ?_⟩
          · rfl
          cbv
          refine ⟨⟨hlo, hap⟩, ?_⟩
          cbv
          refine ⟨⟨by kernel_rfl⟩, ?_⟩
          cbv
          refine ⟨⟨bj⟩, j + 1, [(500, some 29)], hjl, hms, ⟨?_⟩, ⟨?_⟩⟩
          · kernel_rfl
          · cbv
            and_intros
            all_goals first | exact trivial | exact ⟨rfl⟩ | exact ⟨ej⟩ | exact ⟨hra⟩ | exact ⟨by kernel_rfl⟩
        · have h2 : ¬ ((j : Int) < ((ls.getD i default).length : Int)) := of_decide_eq_false h2
          have hje : j = (ls.getD i default).length := by omega
          subst hje
          have e4 : B ++ (ls.getD i default).take (ls.getD i default).length = (ls.take (i + 1)).flatten := by rw [List.take_length, hfn]
          have e4 := row_le e4
          have hms : ls.length - (i + 1) < ls.length - i := by omega
          clear h2
          cbv
          refine ⟨⟨bi⟩, i + 1, [], hlt, hms, ⟨?_⟩, ⟨?_⟩⟩
          · kernel_rfl
          · cbv
            and_intros
            all_goals first | exact trivial | exact ⟨rfl⟩ | exact ⟨ei⟩ | exact ⟨e4⟩ | exact ⟨by kernel_rfl⟩
    · have h1 : ¬ ((i : Int) < (ls.length : Int)) := of_decide_eq_false h1
      have hle : i = ls.length := by omega
      subst hle
      have e1 : (ls.take ls.length).flatten = ls.flatten := by rw [List.take_length]
      have e2 := row_le e1
      clear h1
      cbv
      refine ⟨[(2000, some 500)], [], ?_⟩
      cbv
      and_intros
      all_goals first | exact trivial | exact ⟨rfl⟩ | exact ⟨e2⟩ | exact ⟨by kernel_rfl⟩
end Go.Proofs.Ytmdfjipjkkjpcaa
