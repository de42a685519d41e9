/- Texts put together: Cs, Ct, Cu, Cv, Wb, Cw, Cx, Cy, Dk. -/
import Derived.Laws.RangeAny
import Derived.Shelf.Utf8.RuneCount
import Derived.Shelf.Unicode.ValidAny
import Derived.Test.YtkogbobplhebaaaGreatDoorQg
set_option linter.unusedVariables false
set_option linter.unusedSimpArgs false
set_option linter.unusedSectionVars false
/- Events: value.Clone (what it hands back, as shared data). -/
namespace Go.Proofs.YtkogbobplhebaaaGreatDoor
open Go.SX Go.Ev

/-- Small enough to be copied. -/
def Sml (v : Val) : Prop := v.text.length < 1000000000 ∧ v.bytes.length < 1000000000 ∧ v.list.length < 1000000000 ∧ v.fields.length < 1000000000 ∧ ∀ p ∈ v.fields, p.1.length < 1000000000
theorem lt7 {q : Nat} (h : q < 7) : q = 0 ∨ q = 1 ∨ q = 2 ∨ q = 3 ∨ q = 4 ∨ q = 5 ∨ q = 6 := by omega
set_option maxRecDepth 20000 in
set_option maxHeartbeats 8000000 in
theorem con128s {rv : RowG Val} {rf : RowG Fld} {v : Val} (hy : v.bytes.length < 1000000000000) (hL' : v.list.length < 1000000000000) (hF' : v.fields.length < 1000000000000)
    (ihL : ∀ x ∈ v.list, Con 128 [valG rv rf x] [] (valG rv rf x) []) (ihF : ∀ p ∈ v.fields, Con 128 [valG rv rf p.2] [] (valG rv rf p.2) []) :
    Con 128 [valG (stepV rv rf) (stepF rv rf) v] [] (valG (stepV rv rf) (stepF rv rf) v) [] := by
  obtain ⟨Y, hY⟩ : ∃ Y, Y = v.bytes := ⟨_, rfl⟩
  rw [← hY] at hy
  obtain ⟨L, hL⟩ : ∃ L, L = v.list := ⟨_, rfl⟩
  obtain ⟨F, hF⟩ : ∃ F, F = v.fields := ⟨_, rfl⟩
  rw [← hL] at hL' ihL
  rw [← hF] at hF' ihF
  have c89 := con89 (bs := Y) hy
  have c88 := con88 (bs := Y)
  have c152 := con152 (row := stepV rv rf fun _ => L) hL'
  have c151 := con151 (n := L.length) (row := stepV rv rf fun _ => L)
  have c154 := con154 (row := stepF rv rf fun _ => F) hF'
  have c153 := con153 (n := F.length) (row := stepF rv rf fun _ => F)
  have sL : ∀ i q, q < 7 → stepV rv rf (fun _ => L) (fun _ => i) (0 + q) = nthD [.int .u8 fun _ => (L.getD i default).kind, .bool fun _ => (L.getD i default).bool, .int .i64 fun _ => (L.getD i default).int, .str fun _ => (L.getD i default).text, .bytes fun _ => (L.getD i default).bytes,
      .sl 7 (fun _ => (L.getD i default).list.length) (rv fun _ => (L.getD i default).list), .sl 8 (fun _ => (L.getD i default).fields.length) (rf fun _ => (L.getD i default).fields)] q (.bool fun _ => false) := by
    intro i q hq
    rcases lt7 hq with rfl | rfl | rfl | rfl | rfl | rfl | rfl <;> rfl
  have sF : ∀ i q, q < 7 → stepF rv rf (fun _ => F) (fun _ => i) (1 + q) = nthD [.int .u8 fun _ => (F.getD i default).2.kind, .bool fun _ => (F.getD i default).2.bool, .int .i64 fun _ => (F.getD i default).2.int, .str fun _ => (F.getD i default).2.text, .bytes fun _ => (F.getD i default).2.bytes,
      .sl 7 (fun _ => (F.getD i default).2.list.length) (rv fun _ => (F.getD i default).2.list), .sl 8 (fun _ => (F.getD i default).2.fields.length) (rf fun _ => (F.getD i default).2.fields)] q (.bool fun _ => false) := by
    intro i q hq
    rcases lt7 hq with rfl | rfl | rfl | rfl | rfl | rfl | rfl <;> rfl
  refine con_of Tryz.func128 rfl rfl 55 _ rfl rfl rfl rfl ?_
  unfold valG
  rw [← hL, ← hF, ← hY]
  cbv
  refine ⟨_, _, c89, ⟨by kernel_rfl⟩, ?_⟩
  cbv
  refine ⟨_, _, c88, ⟨by kernel_rfl⟩, ?_⟩
  cbv
  refine ⟨_, _, c152, ⟨by kernel_rfl⟩, ?_⟩
  cbv
  refine ⟨_, _, c151, ⟨by kernel_rfl⟩, ?_⟩
  cbv
  refine ⟨_, _, c154, ⟨by kernel_rfl⟩, ?_⟩
  cbv
  refine ⟨_, _, c153, ⟨by kernel_rfl⟩, ?_⟩
  cbv
  refine ⟨Nat, [], fun i => [(25, .int .i64 (.s fun _ => (i : Int)))], fun _ => [(1, .cells 27 [.int .u8 (.s fun _ => v.kind), .bool (.s fun _ => v.bool), .int .i64 (.s fun _ => v.int), .str fun _ => v.text, .own 4000, .own 4500, .own 5000]), (2, .cells 27 [.int .u8 (.l 0), .bool .f, .int .i64 (.l 0), .str fun _ => [], .nil, .nil, .nil]), (4000, clipT Y), (4500, .arrS 1027 7 (fun _ => L.length) (stepV rv rf fun _ => L)), (5000, .arrS 1132 8 (fun _ => F.length) (stepF rv rf fun _ => F))], fun i => i ≤ L.length, fun i => L.length - i, 0, [], Nat.zero_le _, ⟨?_⟩, fun i hx => ?_⟩
  · cbv
    and_intros
    all_goals first | exact trivial | exact ⟨rfl⟩ | exact ⟨rfl, fun _ _ _ h => h⟩ | exact ⟨rfl, fun _ _ _ _ => rfl⟩ | exact ⟨by kernel_rfl⟩
  · have hi : i ≤ L.length := hx
    cbv
    refine And.intro ?_ ?_
    · intro g1
      have g1 : (i : Int) < (L.length : Int) := of_decide_eq_true g1
      have hlt : i < L.length := by omega
      have o1 : indexObl (i : Int) L.length := ⟨by omega, g1⟩
      have bi : bound64 ((i : Int) + 1) := by unfold bound64; omega
      have ei : (i : Int) + 1 = ((i + 1 : Nat) : Int) := by omega
      have hms : L.length - (i + 1) < L.length - i := by omega
      have ca := ihL (L.getD i default) (getD_in hlt)
      have so := sL i
      unfold valG at ca
      cbv
      refine ⟨⟨o1⟩, ?_⟩
      refine ⟨_, _, ca, ⟨by kernel_rfl⟩, ?_⟩
      cbv
      refine ⟨⟨o1⟩, ⟨so⟩, ⟨by kernel_rfl⟩, ?_⟩
      refine ⟨⟨bi⟩, i + 1, [], hlt, hms, ⟨?_⟩, ⟨?_⟩⟩
      · kernel_rfl
      · cbv
        and_intros
        all_goals first | exact trivial | exact ⟨ei⟩ | exact ⟨rfl⟩ | exact ⟨rfl, fun _ _ _ h => h⟩ | exact ⟨rfl, fun _ _ _ _ => rfl⟩ | exact ⟨by kernel_rfl⟩
    · intro g1
      have g1 : ¬ (i : Int) < (L.length : Int) := of_decide_eq_false g1
      clear g1
      cbv
      refine ⟨Nat, [], fun i => [(40, .int .i64 (.s fun _ => (i : Int)))], fun _ => [(1, .cells 27 [.int .u8 (.s fun _ => v.kind), .bool (.s fun _ => v.bool), .int .i64 (.s fun _ => v.int), .str fun _ => v.text, .own 4000, .own 4500, .own 5000]), (2, .cells 27 [.int .u8 (.l 0), .bool .f, .int .i64 (.l 0), .str fun _ => [], .nil, .nil, .nil]), (4000, clipT Y), (4500, .arrS 1027 7 (fun _ => L.length) (stepV rv rf fun _ => L)), (5000, .arrS 1132 8 (fun _ => F.length) (stepF rv rf fun _ => F))], fun i => i ≤ F.length, fun i => F.length - i, 0, [], Nat.zero_le _, ⟨?_⟩, fun j hx => ?_⟩
      · cbv
        and_intros
        all_goals first | exact trivial | exact ⟨rfl⟩ | exact ⟨rfl, fun _ _ _ h => h⟩ | exact ⟨rfl, fun _ _ _ _ => rfl⟩ | exact ⟨by kernel_rfl⟩
      · have hj : j ≤ F.length := hx
        cbv
        refine And.intro ?_ ?_
        · intro g1
          have g1 : (j : Int) < (F.length : Int) := of_decide_eq_true g1
          have hlt : j < F.length := by omega
          have o1 : indexObl (j : Int) F.length := ⟨by omega, g1⟩
          have bi : bound64 ((j : Int) + 1) := by unfold bound64; omega
          have ei : (j : Int) + 1 = ((j + 1 : Nat) : Int) := by omega
          have hms : F.length - (j + 1) < F.length - j := by omega
          have ca := ihF (F.getD j default) (getD_in hlt)
          have so := sF j
          unfold valG at ca
          cbv
          refine ⟨⟨o1⟩, ?_⟩
          refine ⟨_, _, ca, ⟨by kernel_rfl⟩, ?_⟩
          cbv
          refine ⟨⟨o1⟩, ⟨so⟩, ⟨by kernel_rfl⟩, ?_⟩
          refine ⟨⟨bi⟩, j + 1, [], hlt, hms, ⟨?_⟩, ⟨?_⟩⟩
          · kernel_rfl
          · cbv
            and_intros
            all_goals first | exact trivial | exact ⟨ei⟩ | exact ⟨rfl⟩ | exact ⟨rfl, fun _ _ _ h => h⟩ | exact ⟨rfl, fun _ _ _ _ => rfl⟩ | exact ⟨by kernel_rfl⟩
        · intro g1
          clear g1
          cbv
          refine ⟨[], [4000, 4500, 5000], ?_⟩
          cbv
          and_intros
          all_goals first | exact trivial | exact ⟨rfl⟩ | exact ⟨rfl, fun _ _ _ _ => rfl⟩ | exact ⟨by kernel_rfl⟩

/-- value.Clone. -/
theorem con128 : ∀ (d : Nat) (v : Val), v.depth ≤ d → v.All Sml → Con 128 [valSV d v] [] (valSV d v) []
  | 0, v, hd, _ => (no_depth hd).elim
  | d + 1, v, hd, hv => by
    obtain ⟨⟨f1, f2, f3, f4, f5⟩, aL, aF, dL, dF⟩ := layers hd hv
    rw [valSV_next]
    exact con128s (by omega) (by omega) (by omega) (fun x hx => con128 d x (dL x hx) (all_in aL hx)) (fun p hp => con128 d p.2 (dF p hp) (allF_in aF hp))
end Go.Proofs.YtkogbobplhebaaaGreatDoor

/- Events: slices.IndexFunc; value.of; value.Get. -/
namespace Go.Proofs.YtkogbobplhebaaaGreatDoor
open Go.SX Go.Ev

/-- The place of the first one that is so; -1: there is none. -/
def fix {α : Type} (p : α → Bool) : List α → Nat → Int
  | [], _ => -1
  | x :: r, i => if p x then (i : Int) else fix p r (i + 1)
theorem fix_range {α : Type} {p : α → Bool} : ∀ {l : List α} {i : Nat}, fix p l i = -1 ∨ ((i : Int) ≤ fix p l i ∧ fix p l i < (i : Int) + (l.length : Int))
  | [], _ => .inl rfl
  | x :: r, i => by
    simp only [fix]
    split
    · right; simp only [List.length_cons]; omega
    · rcases fix_range (p := p) (l := r) (i := i + 1) with h | h
      · exact .inl h
      · right; simp only [List.length_cons]; omega
theorem fix_next {α : Type} [Inhabited α] {p : α → Bool} {l : List α} {i : Nat} (hi : i < l.length) : fix p (l.drop i) i = if p (l.getD i default) then (i : Int) else fix p (l.drop (i + 1)) (i + 1) := by
  rw [drop_at hi]; rfl
theorem fix_end {α : Type} {p : α → Bool} {l : List α} {i : Nat} (hi : l.length ≤ i) : fix p (l.drop i) i = -1 := by
  rw [List.drop_of_length_le hi]; rfl

set_option maxRecDepth 20000 in
set_option maxHeartbeats 4000000 in
theorem con126s {rv : RowG Val} {rf : RowG Fld} {F : List Fld} {s : List UInt8} {p : Fld → Bool} (hF : F.length < 1000000000000000)
    (ih : ∀ x : Fld, x ∈ F → Con 127 [fldG rv rf x, .loc 1000 0] [(1000, .cells 9 [.str fun _ => s])] (.bool (.s fun _ => p x)) [(1000, .cells 9 [.str fun _ => s])]) :
    Con 126 [.dat (.sl 8 (fun _ => F.length) (stepF rv rf fun _ => F)), .fn 127 [.loc 1000 0]] [(1000, .cells 9 [.str fun _ => s])] (.int .i64 (.s fun _ => fix p F 0)) [(1000, .cells 9 [.str fun _ => s])] := by
  obtain ⟨R, hR⟩ : ∃ R, R = fix p F 0 := ⟨_, rfl⟩
  have i0 : fix p (F.drop 0) 0 = R := by rw [List.drop_zero, hR]
  rw [← hR]
  refine con_of Tryz.func126 rfl rfl 19 _ rfl rfl rfl rfl ?_
  cbv
  refine ⟨Nat, [], fun i => [(8, .int .i64 (.s fun _ => (i : Int)))], fun i => [(1000, .cells 9 [.str fun _ => s])], fun i => i ≤ F.length ∧ fix p (F.drop i) i = R, fun i => F.length - i, 0, [], ⟨Nat.zero_le _, i0⟩, ⟨?_⟩, fun i hx => ?_⟩
  · cbv
    and_intros
    all_goals first | exact trivial | exact ⟨rfl⟩ | exact ⟨by kernel_rfl⟩
  · obtain ⟨hi, hx⟩ : i ≤ F.length ∧ fix p (F.drop i) i = R := hx
    cbv
    refine And.intro ?_ ?_
    · intro h2
      have h2 : (i : Int) < (F.length : Int) := of_decide_eq_true h2
      have hlt : i < F.length := by omega
      have o1 : indexObl (i : Int) F.length := ⟨by omega, h2⟩
      have bi : bound64 ((i : Int) + 1) := by unfold bound64; omega
      have ei : (i : Int) + 1 = ((i + 1 : Nat) : Int) := by omega
      have hms : F.length - (i + 1) < F.length - i := by omega
      have nx := fix_next (p := p) hlt
      rw [hx] at nx
      have ca := ih (F.getD i default) (getD_in hlt)
      obtain ⟨q, hq⟩ : ∃ q, q = p (F.getD i default) := ⟨_, rfl⟩
      rw [← hq] at ca nx
      clear h2
      cbv
      refine ⟨⟨o1⟩, ?_⟩
      refine ⟨_, _, ca, ⟨by kernel_rfl⟩, ?_⟩
      cbv
      refine And.intro ?_ ?_
      · intro h3
        have h3 : q = true := h3
        have e1 : (i : Int) = R := by rw [nx, if_pos h3]
        clear h3
        cbv
        refine ⟨[], [], ?_⟩
        cbv
        and_intros
        all_goals first | exact trivial | exact ⟨e1⟩ | exact ⟨rfl⟩ | exact ⟨by kernel_rfl⟩
      · intro h3
        have h3 : q = false := h3
        have e2 : fix p (F.drop (i + 1)) (i + 1) = R := by rw [nx, if_neg (by rw [h3]; decide)]
        clear h3
        cbv
        refine ⟨⟨bi⟩, i + 1, [], ⟨hlt, e2⟩, hms, ⟨?_⟩, ⟨?_⟩⟩
        · kernel_rfl
        · cbv
          and_intros
          all_goals first | exact trivial | exact ⟨rfl⟩ | exact ⟨ei⟩ | exact ⟨by kernel_rfl⟩
    · intro h2
      have h2 : ¬ (i : Int) < (F.length : Int) := of_decide_eq_false h2
      have e1 : -1 = R := by rw [← hx, fix_end (by omega)]
      clear h2
      cbv
      refine ⟨[], [], ?_⟩
      cbv
      and_intros
      all_goals first | exact trivial | exact ⟨e1⟩ | exact ⟨rfl⟩ | exact ⟨by kernel_rfl⟩

set_option maxRecDepth 20000 in
set_option maxHeartbeats 4000000 in
theorem con180s {rv : RowG Val} {rf : RowG Fld} {F : List Val} {m : Int} {p : Val → Bool} (hF : F.length < 1000000000000000)
    (ih : ∀ x : Val, x ∈ F → Con 156 [valG rv rf x, .loc 1000 0] [(1000, .cells 3 [.int .i64 (.s fun _ => m)])] (.bool (.s fun _ => p x)) [(1000, .cells 3 [.int .i64 (.s fun _ => m)])]) :
    Con 180 [.dat (.sl 7 (fun _ => F.length) (stepV rv rf fun _ => F)), .fn 156 [.loc 1000 0]] [(1000, .cells 3 [.int .i64 (.s fun _ => m)])] (.int .i64 (.s fun _ => fix p F 0)) [(1000, .cells 3 [.int .i64 (.s fun _ => m)])] := by
  obtain ⟨R, hR⟩ : ∃ R, R = fix p F 0 := ⟨_, rfl⟩
  have i0 : fix p (F.drop 0) 0 = R := by rw [List.drop_zero, hR]
  rw [← hR]
  refine con_of Tryz.func180 rfl rfl 19 _ rfl rfl rfl rfl ?_
  cbv
  refine ⟨Nat, [], fun i => [(8, .int .i64 (.s fun _ => (i : Int)))], fun i => [(1000, .cells 3 [.int .i64 (.s fun _ => m)])], fun i => i ≤ F.length ∧ fix p (F.drop i) i = R, fun i => F.length - i, 0, [], ⟨Nat.zero_le _, i0⟩, ⟨?_⟩, fun i hx => ?_⟩
  · cbv
    and_intros
    all_goals first | exact trivial | exact ⟨rfl⟩ | exact ⟨by kernel_rfl⟩
  · obtain ⟨hi, hx⟩ : i ≤ F.length ∧ fix p (F.drop i) i = R := hx
    cbv
    refine And.intro ?_ ?_
    · intro h2
      have h2 : (i : Int) < (F.length : Int) := of_decide_eq_true h2
      have hlt : i < F.length := by omega
      have o1 : indexObl (i : Int) F.length := ⟨by omega, h2⟩
      have bi : bound64 ((i : Int) + 1) := by unfold bound64; omega
      have ei : (i : Int) + 1 = ((i + 1 : Nat) : Int) := by omega
      have hms : F.length - (i + 1) < F.length - i := by omega
      have nx := fix_next (p := p) hlt
      rw [hx] at nx
      have ca := ih (F.getD i default) (getD_in hlt)
      obtain ⟨q, hq⟩ : ∃ q, q = p (F.getD i default) := ⟨_, rfl⟩
      rw [← hq] at ca nx
      clear h2
      cbv
      refine ⟨⟨o1⟩, ?_⟩
      refine ⟨_, _, ca, ⟨by kernel_rfl⟩, ?_⟩
      cbv
      refine And.intro ?_ ?_
      · intro h3
        have h3 : q = true := h3
        have e1 : (i : Int) = R := by rw [nx, if_pos h3]
        clear h3
        cbv
        refine ⟨[], [], ?_⟩
        cbv
        and_intros
        all_goals first | exact trivial | exact ⟨e1⟩ | exact ⟨rfl⟩ | exact ⟨by kernel_rfl⟩
      · intro h3
        have h3 : q = false := h3
        have e2 : fix p (F.drop (i + 1)) (i + 1) = R := by rw [nx, if_neg (by rw [h3]; decide)]
        clear h3
        cbv
        refine ⟨⟨bi⟩, i + 1, [], ⟨hlt, e2⟩, hms, ⟨?_⟩, ⟨?_⟩⟩
        · kernel_rfl
        · cbv
          and_intros
          all_goals first | exact trivial | exact ⟨rfl⟩ | exact ⟨ei⟩ | exact ⟨by kernel_rfl⟩
    · intro h2
      have h2 : ¬ (i : Int) < (F.length : Int) := of_decide_eq_false h2
      have e1 : -1 = R := by rw [← hx, fix_end (by omega)]
      clear h2
      cbv
      refine ⟨[], [], ?_⟩
      cbv
      and_intros
      all_goals first | exact trivial | exact ⟨e1⟩ | exact ⟨rfl⟩ | exact ⟨by kernel_rfl⟩

set_option maxRecDepth 20000 in
set_option maxHeartbeats 4000000 in
theorem con181s {rv : RowG Val} {rf : RowG Fld} {F : List Fld} {m : Int} {p : Fld → Bool} (hF : F.length < 1000000000000000)
    (ih : ∀ x : Fld, x ∈ F → Con 158 [fldG rv rf x, .loc 1000 0] [(1000, .cells 3 [.int .i64 (.s fun _ => m)])] (.bool (.s fun _ => p x)) [(1000, .cells 3 [.int .i64 (.s fun _ => m)])]) :
    Con 181 [.dat (.sl 8 (fun _ => F.length) (stepF rv rf fun _ => F)), .fn 158 [.loc 1000 0]] [(1000, .cells 3 [.int .i64 (.s fun _ => m)])] (.int .i64 (.s fun _ => fix p F 0)) [(1000, .cells 3 [.int .i64 (.s fun _ => m)])] := by
  obtain ⟨R, hR⟩ : ∃ R, R = fix p F 0 := ⟨_, rfl⟩
  have i0 : fix p (F.drop 0) 0 = R := by rw [List.drop_zero, hR]
  rw [← hR]
  refine con_of Tryz.func181 rfl rfl 19 _ rfl rfl rfl rfl ?_
  cbv
  refine ⟨Nat, [], fun i => [(8, .int .i64 (.s fun _ => (i : Int)))], fun i => [(1000, .cells 3 [.int .i64 (.s fun _ => m)])], fun i => i ≤ F.length ∧ fix p (F.drop i) i = R, fun i => F.length - i, 0, [], ⟨Nat.zero_le _, i0⟩, ⟨?_⟩, fun i hx => ?_⟩
  · cbv
    and_intros
    all_goals first | exact trivial | exact ⟨rfl⟩ | exact ⟨by kernel_rfl⟩
  · obtain ⟨hi, hx⟩ : i ≤ F.length ∧ fix p (F.drop i) i = R := hx
    cbv
    refine And.intro ?_ ?_
    · intro h2
      have h2 : (i : Int) < (F.length : Int) := of_decide_eq_true h2
      have hlt : i < F.length := by omega
      have o1 : indexObl (i : Int) F.length := ⟨by omega, h2⟩
      have bi : bound64 ((i : Int) + 1) := by unfold bound64; omega
      have ei : (i : Int) + 1 = ((i + 1 : Nat) : Int) := by omega
      have hms : F.length - (i + 1) < F.length - i := by omega
      have nx := fix_next (p := p) hlt
      rw [hx] at nx
      have ca := ih (F.getD i default) (getD_in hlt)
      obtain ⟨q, hq⟩ : ∃ q, q = p (F.getD i default) := ⟨_, rfl⟩
      rw [← hq] at ca nx
      clear h2
      cbv
      refine ⟨⟨o1⟩, ?_⟩
      refine ⟨_, _, ca, ⟨by kernel_rfl⟩, ?_⟩
      cbv
      refine And.intro ?_ ?_
      · intro h3
        have h3 : q = true := h3
        have e1 : (i : Int) = R := by rw [nx, if_pos h3]
        clear h3
        cbv
        refine ⟨[], [], ?_⟩
        cbv
        and_intros
        all_goals first | exact trivial | exact ⟨e1⟩ | exact ⟨rfl⟩ | exact ⟨by kernel_rfl⟩
      · intro h3
        have h3 : q = false := h3
        have e2 : fix p (F.drop (i + 1)) (i + 1) = R := by rw [nx, if_neg (by rw [h3]; decide)]
        clear h3
        cbv
        refine ⟨⟨bi⟩, i + 1, [], ⟨hlt, e2⟩, hms, ⟨?_⟩, ⟨?_⟩⟩
        · kernel_rfl
        · cbv
          and_intros
          all_goals first | exact trivial | exact ⟨rfl⟩ | exact ⟨ei⟩ | exact ⟨by kernel_rfl⟩
    · intro h2
      have h2 : ¬ (i : Int) < (F.length : Int) := of_decide_eq_false h2
      have e1 : -1 = R := by rw [← hx, fix_end (by omega)]
      clear h2
      cbv
      refine ⟨[], [], ?_⟩
      cbv
      and_intros
      all_goals first | exact trivial | exact ⟨e1⟩ | exact ⟨rfl⟩ | exact ⟨by kernel_rfl⟩

set_option maxRecDepth 20000 in
set_option maxHeartbeats 1000000 in
theorem con127 {rv : RowG Val} {rf : RowG Fld} {p : Fld} {s : List UInt8} : Con 127 [fldG rv rf p, .loc 1000 0] [(1000, .cells 9 [.str fun _ => s])] (.bool (.s fun _ => p.1 == s)) [(1000, .cells 9 [.str fun _ => s])] := by
  obtain ⟨n, x⟩ := p
  refine con_of Tryz.func127 rfl rfl 8 _ rfl rfl rfl rfl ?_
  unfold fldG
  cbv
  refine ⟨[], [], ?_⟩
  cbv
  and_intros
  all_goals first | exact trivial | exact ⟨rfl⟩ | exact ⟨by kernel_rfl⟩

set_option maxRecDepth 20000 in
set_option maxHeartbeats 4000000 in
theorem con125_1 {rv : RowG Val} {rf : RowG Fld} {v : Val} (hk : v.kind = 1) : Con 125 [valG rv rf v] [] (.val (.iface 232 (.agg #[]))) [] := by
  refine con_of Tryz.func125 rfl rfl 39 _ rfl rfl rfl rfl ?_
  unfold valG
  obtain ⟨L, hL⟩ : ∃ L, L = v.list := ⟨_, rfl⟩
  obtain ⟨F, hF⟩ : ∃ F, F = v.fields := ⟨_, rfl⟩
  rw [← hL, ← hF]
  cbv
  refine And.intro ?_ ?_
  · intro g
    clear g
    cbv
    refine ⟨[], [], ?_⟩
    cbv
    and_intros
    all_goals first | exact trivial | exact ⟨rfl⟩ | exact ⟨rfl, fun _ _ _ _ => rfl⟩ | exact ⟨by kernel_rfl⟩
  · intro g
    exact absurd hk (of_decide_eq_false g)

set_option maxRecDepth 20000 in
set_option maxHeartbeats 4000000 in
theorem con125_2 {rv : RowG Val} {rf : RowG Fld} {v : Val} (hk : v.kind = 2) : Con 125 [valG rv rf v] [] (.ifc 233 (.bool fun _ => v.bool)) [] := by
  refine con_of Tryz.func125 rfl rfl 39 _ rfl rfl rfl rfl ?_
  unfold valG
  obtain ⟨L, hL⟩ : ∃ L, L = v.list := ⟨_, rfl⟩
  obtain ⟨F, hF⟩ : ∃ F, F = v.fields := ⟨_, rfl⟩
  rw [← hL, ← hF]
  cbv
  refine And.intro ?_ ?_
  · intro g
    have g : v.kind = 1 := of_decide_eq_true g
    exfalso; omega
  · intro g
    clear g
    cbv
    refine And.intro ?_ ?_
    · intro g
      clear g
      cbv
      refine ⟨[], [], ?_⟩
      cbv
      and_intros
      all_goals first | exact trivial | exact ⟨rfl⟩ | exact ⟨rfl, fun _ _ _ _ => rfl⟩ | exact ⟨by kernel_rfl⟩
    · intro g
      exact absurd hk (of_decide_eq_false g)

set_option maxRecDepth 20000 in
set_option maxHeartbeats 4000000 in
theorem con125_3 {rv : RowG Val} {rf : RowG Fld} {v : Val} (hk : v.kind = 3) : Con 125 [valG rv rf v] [] (.ifc 234 (.int .i64 fun _ => v.int)) [] := by
  refine con_of Tryz.func125 rfl rfl 39 _ rfl rfl rfl rfl ?_
  unfold valG
  obtain ⟨L, hL⟩ : ∃ L, L = v.list := ⟨_, rfl⟩
  obtain ⟨F, hF⟩ : ∃ F, F = v.fields := ⟨_, rfl⟩
  rw [← hL, ← hF]
  cbv
  refine And.intro ?_ ?_
  · intro g
    have g : v.kind = 1 := of_decide_eq_true g
    exfalso; omega
  · intro g
    clear g
    cbv
    refine And.intro ?_ ?_
    · intro g
      have g : v.kind = 2 := of_decide_eq_true g
      exfalso; omega
    · intro g
      clear g
      cbv
      refine And.intro ?_ ?_
      · intro g
        clear g
        cbv
        refine ⟨[], [], ?_⟩
        cbv
        and_intros
        all_goals first | exact trivial | exact ⟨rfl⟩ | exact ⟨rfl, fun _ _ _ _ => rfl⟩ | exact ⟨by kernel_rfl⟩
      · intro g
        exact absurd hk (of_decide_eq_false g)

set_option maxRecDepth 20000 in
set_option maxHeartbeats 4000000 in
theorem con125_4 {rv : RowG Val} {rf : RowG Fld} {v : Val} (hk : v.kind = 4) : Con 125 [valG rv rf v] [] (.ifc 235 (.str fun _ => v.text)) [] := by
  refine con_of Tryz.func125 rfl rfl 39 _ rfl rfl rfl rfl ?_
  unfold valG
  obtain ⟨L, hL⟩ : ∃ L, L = v.list := ⟨_, rfl⟩
  obtain ⟨F, hF⟩ : ∃ F, F = v.fields := ⟨_, rfl⟩
  rw [← hL, ← hF]
  cbv
  refine And.intro ?_ ?_
  · intro g
    have g : v.kind = 1 := of_decide_eq_true g
    exfalso; omega
  · intro g
    clear g
    cbv
    refine And.intro ?_ ?_
    · intro g
      have g : v.kind = 2 := of_decide_eq_true g
      exfalso; omega
    · intro g
      clear g
      cbv
      refine And.intro ?_ ?_
      · intro g
        have g : v.kind = 3 := of_decide_eq_true g
        exfalso; omega
      · intro g
        clear g
        cbv
        refine And.intro ?_ ?_
        · intro g
          clear g
          cbv
          refine ⟨[], [], ?_⟩
          cbv
          and_intros
          all_goals first | exact trivial | exact ⟨rfl⟩ | exact ⟨rfl, fun _ _ _ _ => rfl⟩ | exact ⟨by kernel_rfl⟩
        · intro g
          exact absurd hk (of_decide_eq_false g)

set_option maxRecDepth 20000 in
set_option maxHeartbeats 4000000 in
theorem con125_5 {rv : RowG Val} {rf : RowG Fld} {v : Val} (hk : v.kind = 5) : Con 125 [valG rv rf v] [] (.ifc 236 (.bytes fun _ => v.bytes)) [] := by
  refine con_of Tryz.func125 rfl rfl 39 _ rfl rfl rfl rfl ?_
  unfold valG
  obtain ⟨L, hL⟩ : ∃ L, L = v.list := ⟨_, rfl⟩
  obtain ⟨F, hF⟩ : ∃ F, F = v.fields := ⟨_, rfl⟩
  rw [← hL, ← hF]
  cbv
  refine And.intro ?_ ?_
  · intro g
    have g : v.kind = 1 := of_decide_eq_true g
    exfalso; omega
  · intro g
    clear g
    cbv
    refine And.intro ?_ ?_
    · intro g
      have g : v.kind = 2 := of_decide_eq_true g
      exfalso; omega
    · intro g
      clear g
      cbv
      refine And.intro ?_ ?_
      · intro g
        have g : v.kind = 3 := of_decide_eq_true g
        exfalso; omega
      · intro g
        clear g
        cbv
        refine And.intro ?_ ?_
        · intro g
          have g : v.kind = 4 := of_decide_eq_true g
          exfalso; omega
        · intro g
          clear g
          cbv
          refine And.intro ?_ ?_
          · intro g
            clear g
            cbv
            refine ⟨[], [], ?_⟩
            cbv
            and_intros
            all_goals first | exact trivial | exact ⟨rfl⟩ | exact ⟨rfl, fun _ _ _ _ => rfl⟩ | exact ⟨by kernel_rfl⟩
          · intro g
            exact absurd hk (of_decide_eq_false g)

set_option maxRecDepth 20000 in
set_option maxHeartbeats 4000000 in
theorem con125_6 {rv : RowG Val} {rf : RowG Fld} {v : Val} (hk : v.kind = 6) : Con 125 [valG rv rf v] [] (.ifc 237 (.sl 7 (fun _ => v.list.length) (rv fun _ => v.list))) [] := by
  refine con_of Tryz.func125 rfl rfl 39 _ rfl rfl rfl rfl ?_
  unfold valG
  obtain ⟨L, hL⟩ : ∃ L, L = v.list := ⟨_, rfl⟩
  obtain ⟨F, hF⟩ : ∃ F, F = v.fields := ⟨_, rfl⟩
  rw [← hL, ← hF]
  cbv
  refine And.intro ?_ ?_
  · intro g
    have g : v.kind = 1 := of_decide_eq_true g
    exfalso; omega
  · intro g
    clear g
    cbv
    refine And.intro ?_ ?_
    · intro g
      have g : v.kind = 2 := of_decide_eq_true g
      exfalso; omega
    · intro g
      clear g
      cbv
      refine And.intro ?_ ?_
      · intro g
        have g : v.kind = 3 := of_decide_eq_true g
        exfalso; omega
      · intro g
        clear g
        cbv
        refine And.intro ?_ ?_
        · intro g
          have g : v.kind = 4 := of_decide_eq_true g
          exfalso; omega
        · intro g
          clear g
          cbv
          refine And.intro ?_ ?_
          · intro g
            have g : v.kind = 5 := of_decide_eq_true g
            exfalso; omega
          · intro g
            clear g
            cbv
            refine And.intro ?_ ?_
            · intro g
              clear g
              cbv
              refine ⟨[], [], ?_⟩
              cbv
              and_intros
              all_goals first | exact trivial | exact ⟨rfl⟩ | exact ⟨rfl, fun _ _ _ _ => rfl⟩ | exact ⟨by kernel_rfl⟩
            · intro g
              exact absurd hk (of_decide_eq_false g)

set_option maxRecDepth 20000 in
set_option maxHeartbeats 4000000 in
theorem con125_7 {rv : RowG Val} {rf : RowG Fld} {v : Val} (hk : v.kind = 7) : Con 125 [valG rv rf v] [] (.ifc 208 (.sl 8 (fun _ => v.fields.length) (rf fun _ => v.fields))) [] := by
  refine con_of Tryz.func125 rfl rfl 39 _ rfl rfl rfl rfl ?_
  unfold valG
  obtain ⟨L, hL⟩ : ∃ L, L = v.list := ⟨_, rfl⟩
  obtain ⟨F, hF⟩ : ∃ F, F = v.fields := ⟨_, rfl⟩
  rw [← hL, ← hF]
  cbv
  refine And.intro ?_ ?_
  · intro g
    have g : v.kind = 1 := of_decide_eq_true g
    exfalso; omega
  · intro g
    clear g
    cbv
    refine And.intro ?_ ?_
    · intro g
      have g : v.kind = 2 := of_decide_eq_true g
      exfalso; omega
    · intro g
      clear g
      cbv
      refine And.intro ?_ ?_
      · intro g
        have g : v.kind = 3 := of_decide_eq_true g
        exfalso; omega
      · intro g
        clear g
        cbv
        refine And.intro ?_ ?_
        · intro g
          have g : v.kind = 4 := of_decide_eq_true g
          exfalso; omega
        · intro g
          clear g
          cbv
          refine And.intro ?_ ?_
          · intro g
            have g : v.kind = 5 := of_decide_eq_true g
            exfalso; omega
          · intro g
            clear g
            cbv
            refine And.intro ?_ ?_
            · intro g
              have g : v.kind = 6 := of_decide_eq_true g
              exfalso; omega
            · intro g
              clear g
              cbv
              refine And.intro ?_ ?_
              · intro g
                clear g
                cbv
                refine ⟨[], [], ?_⟩
                cbv
                and_intros
                all_goals first | exact trivial | exact ⟨rfl⟩ | exact ⟨rfl, fun _ _ _ _ => rfl⟩ | exact ⟨by kernel_rfl⟩
              · intro g
                exact absurd hk (of_decide_eq_false g)

set_option maxRecDepth 20000 in
set_option maxHeartbeats 4000000 in
theorem con125_0 {rv : RowG Val} {rf : RowG Fld} {v : Val} (h1 : v.kind ≠ 1) (h2 : v.kind ≠ 2) (h3 : v.kind ≠ 3) (h4 : v.kind ≠ 4) (h5 : v.kind ≠ 5) (h6 : v.kind ≠ 6) (h7 : v.kind ≠ 7) : Con 125 [valG rv rf v] [] (.val .nilIface) [] := by
  refine con_of Tryz.func125 rfl rfl 39 _ rfl rfl rfl rfl ?_
  unfold valG
  obtain ⟨L, hL⟩ : ∃ L, L = v.list := ⟨_, rfl⟩
  obtain ⟨F, hF⟩ : ∃ F, F = v.fields := ⟨_, rfl⟩
  rw [← hL, ← hF]
  cbv
  refine And.intro ?_ ?_
  · intro g
    have g : v.kind = 1 := of_decide_eq_true g
    exfalso; omega
  · intro g
    clear g
    cbv
    refine And.intro ?_ ?_
    · intro g
      have g : v.kind = 2 := of_decide_eq_true g
      exfalso; omega
    · intro g
      clear g
      cbv
      refine And.intro ?_ ?_
      · intro g
        have g : v.kind = 3 := of_decide_eq_true g
        exfalso; omega
      · intro g
        clear g
        cbv
        refine And.intro ?_ ?_
        · intro g
          have g : v.kind = 4 := of_decide_eq_true g
          exfalso; omega
        · intro g
          clear g
          cbv
          refine And.intro ?_ ?_
          · intro g
            have g : v.kind = 5 := of_decide_eq_true g
            exfalso; omega
          · intro g
            clear g
            cbv
            refine And.intro ?_ ?_
            · intro g
              have g : v.kind = 6 := of_decide_eq_true g
              exfalso; omega
            · intro g
              clear g
              cbv
              refine And.intro ?_ ?_
              · intro g
                have g : v.kind = 7 := of_decide_eq_true g
                exfalso; omega
              · intro g
                clear g
                cbv
                refine ⟨[], [], ?_⟩
                cbv
                and_intros
                all_goals first | exact trivial | exact ⟨rfl⟩ | exact ⟨by kernel_rfl⟩
end Go.Proofs.YtkogbobplhebaaaGreatDoor

/- Events: value.Get. -/
namespace Go.Proofs.YtkogbobplhebaaaGreatDoor
open Go.SX Go.Ev

/-- The value that is none. -/
def zeroV : Val := .mk 0 false 0 [] [] [] []
/-- A document's field, and whether it is there. -/
def getV (v : Val) (s : List UInt8) : Val × Bool :=
  if v.kind = 7 then if fix (fun p => p.1 == s) v.fields 0 < 0 then (zeroV, false) else ((v.fields.getD (fix (fun p => p.1 == s) v.fields 0).toNat default).2, true) else (zeroV, false)
theorem getV_no {v : Val} {s : List UInt8} (h : v.kind ≠ 7) : getV v s = (zeroV, false) := by unfold getV; rw [if_neg h]

set_option maxRecDepth 20000 in
set_option maxHeartbeats 4000000 in
theorem con83_1 {rv rv' : RowG Val} {rf rf' : RowG Fld} {v : Val} {s : List UInt8} (hk : v.kind = 1) : Con 83 [valG rv rf v, .str fun _ => s] [] (.tup [valG rv' rf' zeroV, .bool (.s fun _ => false)]) [] := by
  have ca := con125_1 (rv := rv) (rf := rf) (v := v) hk
  refine con_of Tryz.func83 rfl rfl 30 _ rfl rfl rfl rfl ?_
  unfold valG at ca ⊢
  obtain ⟨L, hL⟩ : ∃ L, L = v.list := ⟨_, rfl⟩
  obtain ⟨F, hF⟩ : ∃ F, F = v.fields := ⟨_, rfl⟩
  rw [← hL, ← hF] at ca
  rw [← hL, ← hF]
  cbv
  refine ⟨_, _, ca, ⟨by kernel_rfl⟩, ?_⟩
  cbv
  refine ⟨[], [], ?_⟩
  cbv
  and_intros
  all_goals first | exact trivial | exact ⟨rfl⟩ | exact ⟨by kernel_rfl⟩

set_option maxRecDepth 20000 in
set_option maxHeartbeats 4000000 in
theorem con83_2 {rv rv' : RowG Val} {rf rf' : RowG Fld} {v : Val} {s : List UInt8} (hk : v.kind = 2) : Con 83 [valG rv rf v, .str fun _ => s] [] (.tup [valG rv' rf' zeroV, .bool (.s fun _ => false)]) [] := by
  have ca := con125_2 (rv := rv) (rf := rf) (v := v) hk
  refine con_of Tryz.func83 rfl rfl 30 _ rfl rfl rfl rfl ?_
  unfold valG at ca ⊢
  obtain ⟨L, hL⟩ : ∃ L, L = v.list := ⟨_, rfl⟩
  obtain ⟨F, hF⟩ : ∃ F, F = v.fields := ⟨_, rfl⟩
  rw [← hL, ← hF] at ca
  rw [← hL, ← hF]
  cbv
  refine ⟨_, _, ca, ⟨by kernel_rfl⟩, ?_⟩
  cbv
  refine ⟨[], [], ?_⟩
  cbv
  and_intros
  all_goals first | exact trivial | exact ⟨rfl⟩ | exact ⟨by kernel_rfl⟩

set_option maxRecDepth 20000 in
set_option maxHeartbeats 4000000 in
theorem con83_3 {rv rv' : RowG Val} {rf rf' : RowG Fld} {v : Val} {s : List UInt8} (hk : v.kind = 3) : Con 83 [valG rv rf v, .str fun _ => s] [] (.tup [valG rv' rf' zeroV, .bool (.s fun _ => false)]) [] := by
  have ca := con125_3 (rv := rv) (rf := rf) (v := v) hk
  refine con_of Tryz.func83 rfl rfl 30 _ rfl rfl rfl rfl ?_
  unfold valG at ca ⊢
  obtain ⟨L, hL⟩ : ∃ L, L = v.list := ⟨_, rfl⟩
  obtain ⟨F, hF⟩ : ∃ F, F = v.fields := ⟨_, rfl⟩
  rw [← hL, ← hF] at ca
  rw [← hL, ← hF]
  cbv
  refine ⟨_, _, ca, ⟨by kernel_rfl⟩, ?_⟩
  cbv
  refine ⟨[], [], ?_⟩
  cbv
  and_intros
  all_goals first | exact trivial | exact ⟨rfl⟩ | exact ⟨by kernel_rfl⟩

set_option maxRecDepth 20000 in
set_option maxHeartbeats 4000000 in
theorem con83_4 {rv rv' : RowG Val} {rf rf' : RowG Fld} {v : Val} {s : List UInt8} (hk : v.kind = 4) : Con 83 [valG rv rf v, .str fun _ => s] [] (.tup [valG rv' rf' zeroV, .bool (.s fun _ => false)]) [] := by
  have ca := con125_4 (rv := rv) (rf := rf) (v := v) hk
  refine con_of Tryz.func83 rfl rfl 30 _ rfl rfl rfl rfl ?_
  unfold valG at ca ⊢
  obtain ⟨L, hL⟩ : ∃ L, L = v.list := ⟨_, rfl⟩
  obtain ⟨F, hF⟩ : ∃ F, F = v.fields := ⟨_, rfl⟩
  rw [← hL, ← hF] at ca
  rw [← hL, ← hF]
  cbv
  refine ⟨_, _, ca, ⟨by kernel_rfl⟩, ?_⟩
  cbv
  refine ⟨[], [], ?_⟩
  cbv
  and_intros
  all_goals first | exact trivial | exact ⟨rfl⟩ | exact ⟨by kernel_rfl⟩

set_option maxRecDepth 20000 in
set_option maxHeartbeats 4000000 in
theorem con83_5 {rv rv' : RowG Val} {rf rf' : RowG Fld} {v : Val} {s : List UInt8} (hk : v.kind = 5) : Con 83 [valG rv rf v, .str fun _ => s] [] (.tup [valG rv' rf' zeroV, .bool (.s fun _ => false)]) [] := by
  have ca := con125_5 (rv := rv) (rf := rf) (v := v) hk
  refine con_of Tryz.func83 rfl rfl 30 _ rfl rfl rfl rfl ?_
  unfold valG at ca ⊢
  obtain ⟨L, hL⟩ : ∃ L, L = v.list := ⟨_, rfl⟩
  obtain ⟨F, hF⟩ : ∃ F, F = v.fields := ⟨_, rfl⟩
  rw [← hL, ← hF] at ca
  rw [← hL, ← hF]
  cbv
  refine ⟨_, _, ca, ⟨by kernel_rfl⟩, ?_⟩
  cbv
  refine ⟨[], [], ?_⟩
  cbv
  and_intros
  all_goals first | exact trivial | exact ⟨rfl⟩ | exact ⟨by kernel_rfl⟩

set_option maxRecDepth 20000 in
set_option maxHeartbeats 4000000 in
theorem con83_6 {rv rv' : RowG Val} {rf rf' : RowG Fld} {v : Val} {s : List UInt8} (hk : v.kind = 6) : Con 83 [valG rv rf v, .str fun _ => s] [] (.tup [valG rv' rf' zeroV, .bool (.s fun _ => false)]) [] := by
  have ca := con125_6 (rv := rv) (rf := rf) (v := v) hk
  refine con_of Tryz.func83 rfl rfl 30 _ rfl rfl rfl rfl ?_
  unfold valG at ca ⊢
  obtain ⟨L, hL⟩ : ∃ L, L = v.list := ⟨_, rfl⟩
  obtain ⟨F, hF⟩ : ∃ F, F = v.fields := ⟨_, rfl⟩
  rw [← hL, ← hF] at ca
  rw [← hL, ← hF]
  cbv
  refine ⟨_, _, ca, ⟨by kernel_rfl⟩, ?_⟩
  cbv
  refine ⟨[], [], ?_⟩
  cbv
  and_intros
  all_goals first | exact trivial | exact ⟨rfl⟩ | exact ⟨by kernel_rfl⟩

set_option maxRecDepth 20000 in
set_option maxHeartbeats 4000000 in
theorem con83_0 {rv rv' : RowG Val} {rf rf' : RowG Fld} {v : Val} {s : List UInt8} (h1 : v.kind ≠ 1) (h2 : v.kind ≠ 2) (h3 : v.kind ≠ 3) (h4 : v.kind ≠ 4) (h5 : v.kind ≠ 5) (h6 : v.kind ≠ 6) (h7 : v.kind ≠ 7) : Con 83 [valG rv rf v, .str fun _ => s] [] (.tup [valG rv' rf' zeroV, .bool (.s fun _ => false)]) [] := by
  have ca := con125_0 (rv := rv) (rf := rf) (v := v) h1 h2 h3 h4 h5 h6 h7
  refine con_of Tryz.func83 rfl rfl 30 _ rfl rfl rfl rfl ?_
  unfold valG at ca ⊢
  obtain ⟨L, hL⟩ : ∃ L, L = v.list := ⟨_, rfl⟩
  obtain ⟨F, hF⟩ : ∃ F, F = v.fields := ⟨_, rfl⟩
  rw [← hL, ← hF] at ca
  rw [← hL, ← hF]
  cbv
  refine ⟨_, _, ca, ⟨by kernel_rfl⟩, ?_⟩
  cbv
  refine ⟨[], [], ?_⟩
  cbv
  and_intros
  all_goals first | exact trivial | exact ⟨rfl⟩ | exact ⟨by kernel_rfl⟩

theorem con83n {rv rv' : RowG Val} {rf rf' : RowG Fld} {v : Val} {s : List UInt8} (hk : v.kind ≠ 7) : Con 83 [valG rv rf v, .str fun _ => s] [] (.tup [valG rv' rf' zeroV, .bool (.s fun _ => false)]) [] := by
  by_cases h1 : v.kind = 1
  · exact con83_1 h1
  by_cases h2 : v.kind = 2
  · exact con83_2 h2
  by_cases h3 : v.kind = 3
  · exact con83_3 h3
  by_cases h4 : v.kind = 4
  · exact con83_4 h4
  by_cases h5 : v.kind = 5
  · exact con83_5 h5
  by_cases h6 : v.kind = 6
  · exact con83_6 h6
  exact con83_0 h1 h2 h3 h4 h5 h6 hk

set_option maxRecDepth 20000 in
set_option maxHeartbeats 4000000 in
theorem con83y {rv : RowG Val} {rf : RowG Fld} {v : Val} {s : List UInt8} (hk : v.kind = 7) (hF' : v.fields.length < 1000000000000000) (ih : ∀ p ∈ v.fields, Con 128 [valG rv rf p.2] [] (valG rv rf p.2) []) :
    Con 83 [valG (stepV rv rf) (stepF rv rf) v, .str fun _ => s] [] (.tup [valG rv rf (getV v s).1, .bool (.s fun _ => (getV v s).2)]) [] := by
  have ca := con125_7 (rv := stepV rv rf) (rf := stepF rv rf) (v := v) hk
  have cx := con126s (rv := rv) (rf := rf) (F := v.fields) (s := s) (p := fun p => p.1 == s) hF' fun p _ => con127
  obtain ⟨R, hR⟩ : ∃ R, R = fix (fun p : Fld => p.1 == s) v.fields 0 := ⟨_, rfl⟩
  have hr := fix_range (p := fun p : Fld => p.1 == s) (l := v.fields) (i := 0)
  have hg : getV v s = if R < 0 then (zeroV, false) else ((v.fields.getD R.toNat default).2, true) := by unfold getV; rw [if_pos hk, ← hR]
  rw [← hR] at cx hr
  obtain ⟨L, hL⟩ : ∃ L, L = v.list := ⟨_, rfl⟩
  obtain ⟨F, hF⟩ : ∃ F, F = v.fields := ⟨_, rfl⟩
  rw [← hF] at cx hr hg ih hF'
  by_cases h0 : R < 0
  · rw [if_pos h0] at hg
    rw [hg]
    have h0' : decide (R < 0) = true := decide_eq_true h0
    refine con_of Tryz.func83 rfl rfl 30 _ rfl rfl rfl rfl ?_
    unfold valG at ca ⊢
    rw [← hL, ← hF] at ca
    rw [← hL, ← hF]
    cbv
    refine ⟨_, _, ca, ⟨by kernel_rfl⟩, ?_⟩
    cbv
    refine ⟨_, _, cx, ⟨by kernel_rfl⟩, ?_⟩
    cbv
    refine And.intro ?_ ?_
    · intro g
      clear g
      cbv
      refine ⟨[], [], ?_⟩
      cbv
      and_intros
      all_goals first | exact trivial | exact ⟨rfl⟩ | exact ⟨by kernel_rfl⟩
    · intro g
      have g : decide (R < 0) = false := g
      rw [h0'] at g
      cases g
  · rw [if_neg h0] at hg
    rw [hg]
    have h0' : decide (R < 0) = false := decide_eq_false h0
    have hlt : R.toNat < F.length := by omega
    have o1 : indexObl R F.length := ⟨by omega, by omega⟩
    obtain ⟨x, hx⟩ : ∃ x, x = F.getD R.toNat default := ⟨_, rfl⟩
    have cc := ih (F.getD R.toNat default) (getD_in hlt)
    refine con_of Tryz.func83 rfl rfl 30 _ rfl rfl rfl rfl ?_
    unfold valG at ca cc ⊢
    rw [← hL, ← hF] at ca
    rw [← hL, ← hF]
    cbv
    refine ⟨_, _, ca, ⟨by kernel_rfl⟩, ?_⟩
    cbv
    refine ⟨_, _, cx, ⟨by kernel_rfl⟩, ?_⟩
    cbv
    refine And.intro ?_ ?_
    · intro g
      have g : decide (R < 0) = true := g
      rw [h0'] at g
      cases g
    · intro g
      clear g
      cbv
      refine ⟨⟨o1⟩, ?_⟩
      refine ⟨_, _, cc, ⟨by kernel_rfl⟩, ?_⟩
      cbv
      refine ⟨[], [], ?_⟩
      cbv
      and_intros
      all_goals first | exact trivial | exact ⟨rfl⟩ | exact ⟨rfl, fun _ _ _ _ => rfl⟩ | exact ⟨by kernel_rfl⟩

/-- value.Get. -/
theorem con83 (d : Nat) (v : Val) (s : List UInt8) (hd : v.depth ≤ d + 1) (hv : v.All Sml) : Con 83 [valSV (d + 1) v, .str fun _ => s] [] (.tup [valSV d (getV v s).1, .bool (.s fun _ => (getV v s).2)]) [] := by
  obtain ⟨⟨f1, f2, f3, f4, f5⟩, aL, aF, dL, dF⟩ := layers hd hv
  rw [valSV_next]
  by_cases hk : v.kind = 7
  · exact con83y hk (by omega) fun p hp => con128 d p.2 (dF p hp) (allF_in aF hp)
  · rw [getV_no hk]
    exact con83n hk
end Go.Proofs.YtkogbobplhebaaaGreatDoor

/- Events: value.deep. -/
namespace Go.Proofs.YtkogbobplhebaaaGreatDoor
open Go.SX Go.Ev

/-- Are there values deeper than so many? -/
def deepV : Nat → Val → Bool
  | 0, _ => true
  | m + 1, v => v.list.any (fun x => deepV m x) || v.fields.any (fun p => deepV m p.2)
theorem fix_any {α : Type} {p : α → Bool} : ∀ {l : List α} {i : Nat}, decide (0 ≤ fix p l i) = l.any p
  | [], i => by simp [fix]
  | x :: r, i => by
    have ih := fix_any (p := p) (l := r) (i := i + 1)
    by_cases hx : p x = true
    · have e : fix p (x :: r) i = (i : Int) := by simp only [fix]; rw [if_pos hx]
      rw [e, List.any_cons, hx, Bool.true_or]
      exact decide_eq_true (by omega)
    · have hx' : p x = false := by simpa using hx
      have e : fix p (x :: r) i = fix p r (i + 1) := by simp only [fix]; rw [if_neg hx]
      rw [e, List.any_cons, hx', Bool.false_or]
      exact ih
theorem con129z {rv : RowG Val} {rf : RowG Fld} {x : Val} {z m : Int} {b : Bool} (hz : z = m) (h : Con 129 [valG rv rf x, .int .i64 (.s fun _ => m)] [] (.bool (.s fun _ => b)) []) : Con 129 [valG rv rf x, .int .i64 (.s fun _ => z)] [] (.bool (.s fun _ => b)) [] := by
  subst hz; exact h

set_option maxRecDepth 20000 in
set_option maxHeartbeats 4000000 in
theorem con156s {rv : RowG Val} {rf : RowG Fld} {x : Val} {m : Nat} {b : Bool} (hm : m < 1000) (ih : Con 129 [valG rv rf x, .int .i64 (.s fun _ => (m : Int))] [] (.bool (.s fun _ => b)) []) :
    Con 156 [valG rv rf x, .loc 1000 0] [(1000, .cells 3 [.int .i64 (.s fun _ => ((m + 1 : Nat) : Int))])] (.bool (.s fun _ => b)) [(1000, .cells 3 [.int .i64 (.s fun _ => ((m + 1 : Nat) : Int))])] := by
  have b1 : bound64 (((m + 1 : Nat) : Int) - 1) := by unfold bound64; omega
  have ca := con129z (z := ((m + 1 : Nat) : Int) - 1) (by omega) ih
  obtain ⟨M, hM⟩ : ∃ M, M = ((m + 1 : Nat) : Int) := ⟨_, rfl⟩
  rw [← hM] at b1 ca ⊢
  refine con_of Tryz.func156 rfl rfl 8 _ rfl rfl rfl rfl ?_
  unfold valG at ca
  unfold valG
  cbv
  refine ⟨⟨b1⟩, ?_⟩
  refine ⟨_, _, ca, ⟨by kernel_rfl⟩, ?_⟩
  cbv
  refine ⟨[], [], ?_⟩
  cbv
  and_intros
  all_goals first | exact trivial | exact ⟨rfl⟩ | exact ⟨by kernel_rfl⟩

set_option maxRecDepth 20000 in
set_option maxHeartbeats 4000000 in
theorem con158s {rv : RowG Val} {rf : RowG Fld} {p : Fld} {m : Nat} {b : Bool} (hm : m < 1000) (ih : Con 129 [valG rv rf p.2, .int .i64 (.s fun _ => (m : Int))] [] (.bool (.s fun _ => b)) []) :
    Con 158 [fldG rv rf p, .loc 1000 0] [(1000, .cells 3 [.int .i64 (.s fun _ => ((m + 1 : Nat) : Int))])] (.bool (.s fun _ => b)) [(1000, .cells 3 [.int .i64 (.s fun _ => ((m + 1 : Nat) : Int))])] := by
  obtain ⟨n, x⟩ := p
  have ih : Con 129 [valG rv rf x, .int .i64 (.s fun _ => (m : Int))] [] (.bool (.s fun _ => b)) [] := ih
  have b1 : bound64 (((m + 1 : Nat) : Int) - 1) := by unfold bound64; omega
  have ca := con129z (z := ((m + 1 : Nat) : Int) - 1) (by omega) ih
  obtain ⟨M, hM⟩ : ∃ M, M = ((m + 1 : Nat) : Int) := ⟨_, rfl⟩
  rw [← hM] at b1 ca ⊢
  refine con_of Tryz.func158 rfl rfl 9 _ rfl rfl rfl rfl ?_
  unfold valG at ca
  unfold fldG
  cbv
  refine ⟨⟨b1⟩, ?_⟩
  refine ⟨_, _, ca, ⟨by kernel_rfl⟩, ?_⟩
  cbv
  refine ⟨[], [], ?_⟩
  cbv
  and_intros
  all_goals first | exact trivial | exact ⟨rfl⟩ | exact ⟨by kernel_rfl⟩

set_option maxRecDepth 20000 in
set_option maxHeartbeats 4000000 in
theorem con155s {rv : RowG Val} {rf : RowG Fld} {F : List Val} {m : Int} {p : Val → Bool} (hF : F.length < 1000000000000000)
    (ih : ∀ x : Val, x ∈ F → Con 156 [valG rv rf x, .loc 1000 0] [(1000, .cells 3 [.int .i64 (.s fun _ => m)])] (.bool (.s fun _ => p x)) [(1000, .cells 3 [.int .i64 (.s fun _ => m)])]) :
    Con 155 [.dat (.sl 7 (fun _ => F.length) (stepV rv rf fun _ => F)), .fn 156 [.loc 1000 0]] [(1000, .cells 3 [.int .i64 (.s fun _ => m)])] (.bool (.s fun _ => F.any p)) [(1000, .cells 3 [.int .i64 (.s fun _ => m)])] := by
  have ca := con180s (m := m) (p := p) hF ih
  have e1 : decide (0 ≤ fix p F 0) = F.any p := fix_any
  obtain ⟨R, hR⟩ : ∃ R, R = fix p F 0 := ⟨_, rfl⟩
  obtain ⟨A, hA⟩ : ∃ A, A = F.any p := ⟨_, rfl⟩
  rw [← hR] at ca e1
  rw [← hA] at e1 ⊢
  refine con_of Tryz.func155 rfl rfl 9 _ rfl rfl rfl rfl ?_
  cbv
  refine ⟨_, _, ca, ⟨by kernel_rfl⟩, ?_⟩
  cbv
  refine ⟨[], [], ?_⟩
  cbv
  and_intros
  all_goals first | exact trivial | exact ⟨e1⟩ | exact ⟨rfl⟩ | exact ⟨by kernel_rfl⟩

set_option maxRecDepth 20000 in
set_option maxHeartbeats 4000000 in
theorem con157s {rv : RowG Val} {rf : RowG Fld} {F : List Fld} {m : Int} {p : Fld → Bool} (hF : F.length < 1000000000000000)
    (ih : ∀ x : Fld, x ∈ F → Con 158 [fldG rv rf x, .loc 1000 0] [(1000, .cells 3 [.int .i64 (.s fun _ => m)])] (.bool (.s fun _ => p x)) [(1000, .cells 3 [.int .i64 (.s fun _ => m)])]) :
    Con 157 [.dat (.sl 8 (fun _ => F.length) (stepF rv rf fun _ => F)), .fn 158 [.loc 1000 0]] [(1000, .cells 3 [.int .i64 (.s fun _ => m)])] (.bool (.s fun _ => F.any p)) [(1000, .cells 3 [.int .i64 (.s fun _ => m)])] := by
  have ca := con181s (m := m) (p := p) hF ih
  have e1 : decide (0 ≤ fix p F 0) = F.any p := fix_any
  obtain ⟨R, hR⟩ : ∃ R, R = fix p F 0 := ⟨_, rfl⟩
  obtain ⟨A, hA⟩ : ∃ A, A = F.any p := ⟨_, rfl⟩
  rw [← hR] at ca e1
  rw [← hA] at e1 ⊢
  refine con_of Tryz.func157 rfl rfl 9 _ rfl rfl rfl rfl ?_
  cbv
  refine ⟨_, _, ca, ⟨by kernel_rfl⟩, ?_⟩
  cbv
  refine ⟨[], [], ?_⟩
  cbv
  and_intros
  all_goals first | exact trivial | exact ⟨e1⟩ | exact ⟨rfl⟩ | exact ⟨by kernel_rfl⟩

set_option maxRecDepth 20000 in
set_option maxHeartbeats 4000000 in
theorem con129_0 {rv : RowG Val} {rf : RowG Fld} {v : Val} : Con 129 [valG rv rf v, .int .i64 (.s fun _ => ((0 : Nat) : Int))] [] (.bool (.s fun _ => true)) [] := by
  refine con_of Tryz.func129 rfl rfl 17 _ rfl rfl rfl rfl ?_
  unfold valG
  obtain ⟨L, hL⟩ : ∃ L, L = v.list := ⟨_, rfl⟩
  obtain ⟨F, hF⟩ : ∃ F, F = v.fields := ⟨_, rfl⟩
  obtain ⟨Z, hZ⟩ : ∃ Z, Z = ((0 : Nat) : Int) := ⟨_, rfl⟩
  have hz : decide (Z = 0) = true := by rw [hZ]; rfl
  rw [← hL, ← hF, ← hZ]
  cbv
  refine And.intro ?_ ?_
  · intro g
    clear g
    cbv
    refine ⟨[], [], ?_⟩
    cbv
    and_intros
    all_goals first | exact trivial | exact ⟨rfl⟩ | exact ⟨by kernel_rfl⟩
  · intro g
    have g : decide (Z = 0) = false := g
    rw [hz] at g; cases g

set_option maxRecDepth 20000 in
set_option maxHeartbeats 4000000 in
theorem con129s {rv : RowG Val} {rf : RowG Fld} {v : Val} {m : Nat} {a b : Bool} 
    (cL : Con 155 [.dat (.sl 7 (fun _ => v.list.length) (stepV rv rf fun _ => v.list)), .fn 156 [.loc 1000 0]] [(1000, .cells 3 [.int .i64 (.s fun _ => ((m + 1 : Nat) : Int))])] (.bool (.s fun _ => a)) [(1000, .cells 3 [.int .i64 (.s fun _ => ((m + 1 : Nat) : Int))])])
    (cF : Con 157 [.dat (.sl 8 (fun _ => v.fields.length) (stepF rv rf fun _ => v.fields)), .fn 158 [.loc 1000 0]] [(1000, .cells 3 [.int .i64 (.s fun _ => ((m + 1 : Nat) : Int))])] (.bool (.s fun _ => b)) [(1000, .cells 3 [.int .i64 (.s fun _ => ((m + 1 : Nat) : Int))])]) :
    Con 129 [valG (stepV rv rf) (stepF rv rf) v, .int .i64 (.s fun _ => ((m + 1 : Nat) : Int))] [] (.bool (.s fun _ => a || b)) [] := by
  obtain ⟨L, hL⟩ : ∃ L, L = v.list := ⟨_, rfl⟩
  obtain ⟨F, hF⟩ : ∃ F, F = v.fields := ⟨_, rfl⟩
  obtain ⟨M, hM⟩ : ∃ M, M = ((m + 1 : Nat) : Int) := ⟨_, rfl⟩
  have hz : decide (M = 0) = false := decide_eq_false (by omega)
  rw [← hL, ← hM] at cL
  rw [← hF, ← hM] at cF
  rw [← hM]
  refine con_of Tryz.func129 rfl rfl 17 _ rfl rfl rfl rfl ?_
  unfold valG
  rw [← hL, ← hF]
  cbv
  refine And.intro ?_ ?_
  · intro g
    have g : decide (M = 0) = true := g
    rw [hz] at g; cases g
  · intro g
    clear g
    cbv
    refine ⟨_, _, cL, ⟨by kernel_rfl⟩, ?_⟩
    cbv
    refine And.intro ?_ ?_
    · intro g
      have e1 : true = (a || b) := by have g : a = true := g; rw [g]; rfl
      clear g
      cbv
      refine ⟨[], [], ?_⟩
      cbv
      and_intros
      all_goals first | exact trivial | exact ⟨e1⟩ | exact ⟨rfl⟩ | exact ⟨by kernel_rfl⟩
    · intro g
      have e1 : b = (a || b) := by have g : a = false := g; rw [g]; rfl
      clear g
      cbv
      refine ⟨_, _, cF, ⟨by kernel_rfl⟩, ?_⟩
      cbv
      refine ⟨[], [], ?_⟩
      cbv
      and_intros
      all_goals first | exact trivial | exact ⟨e1⟩ | exact ⟨rfl⟩ | exact ⟨by kernel_rfl⟩

/-- value.deep. -/
theorem con129 : ∀ (m d : Nat) (v : Val), m < 1000 → v.depth ≤ d → v.All Fits → Con 129 [valSV d v, .int .i64 (.s fun _ => (m : Int))] [] (.bool (.s fun _ => deepV m v)) []
  | 0, d, v, _, _, _ => con129_0
  | m + 1, 0, v, _, hd, _ => (no_depth hd).elim
  | m + 1, d + 1, v, hm, hd, hv => by
    obtain ⟨⟨f1, f2, f3, f4, f5⟩, aL, aF, dL, dF⟩ := layers hd hv
    rw [valSV_next]
    exact con129s (con155s (p := fun x => deepV m x) (by omega) fun x hx => con156s (by omega) (con129 m d x (by omega) (dL x hx) (all_in aL hx)))
      (con157s (p := fun p => deepV m p.2) (by omega) fun p hp => con158s (by omega) (con129 m d p.2 (by omega) (dF p hp) (allF_in aF hp)))
end Go.Proofs.YtkogbobplhebaaaGreatDoor

/- SX: raw memory: looked at; one object changed; iterators over texts. -/
namespace Go.SX

section
variable {P : Program} {η : OEnv} {G : Nat → Prop} {w : World}
theorem raw_look {f : Nat} {svs : List SV} {objs : Objs} {r : SV} {s : Array Value → Sem Value} (hf : rawSem f = some s)
    (h : ∀ (η : OEnv) (G : Nat → Prop) (vs : List Value) (w : World), (∀ k, ObjOpt η G w (lookN k objs) (η k)) → SVRels η G w svs vs → ∃ v, (s ⟨vs⟩).run P w = .ok v w ∧ SVRel η G w r v) : SpecG P f svs objs Unit (fun _ => r) (fun _ => objs) := by
  intro η G vs w hsep hob hs _
  obtain ⟨v, hr, hv⟩ := h η G vs w hob hs
  unfold RunsX
  rw [hf]
  exact ⟨v, w, hr, (), η, G, hv, hob, hsep, Evol.refl η G w⟩


/-- One object is changed, the others are taken into it. -/
theorem raw_upd {objs : Objs} (hsep : Sep η G w) (hob : ∀ k, ObjOpt η G w (lookN k objs) (η k)) {k : Nat} {o : OInfo} (hk : η k = some o) (hd : o.dead = false) (hin : o.inner = []) {ks : List Nat} (hkk : k ∉ ks) (hkob : lookN k objs ≠ none) (hks : ∀ j ∈ ks, lookN j objs ≠ none)
    (hall : ∀ j, j ≠ k → j ∉ ks → lookN j objs = none) {w' : World} (hos : w'.os = w.os) (htp : w'.tape = w.tape) (hou : w'.output = w.output) (hsz : w.heap.size ≤ w'.heap.size)
    (hother : ∀ b, b < w.heap.size → b ∉ o.main → w'.heap[b]? = w.heap[b]?) (extra : List Nat) (hex : ∀ b ∈ extra, b < w'.heap.size ∧ (w.heap.size ≤ b ∨ ∃ j ∈ ks, ∃ oj, η j = some oj ∧ b ∈ oj.main ++ oj.inner))
    {X : TObj} (hX : ObjRel (updE (killE η ks) k ⟨o.val, o.main ++ extra, [], false⟩) G w' X ⟨o.val, o.main ++ extra, [], false⟩) {objs' : Objs} (ho' : ∀ j, lookN j objs' = if j = k then some X else if j ∈ ks then some .dead else none) :
    (∀ j, ObjOpt (updE (killE η ks) k ⟨o.val, o.main ++ extra, [], false⟩) G w' (lookN j objs') (updE (killE η ks) k ⟨o.val, o.main ++ extra, [], false⟩ j)) ∧
      Sep (updE (killE η ks) k ⟨o.val, o.main ++ extra, [], false⟩) G w' ∧ Evol η G w (updE (killE η ks) k ⟨o.val, o.main ++ extra, [], false⟩) G w' := by
  have hnone : ∀ j, j ≠ k → j ∉ ks → η j = none := fun j h1 h2 => by
    have h := hob j
    rw [hall j h1 h2] at h
    cases hj : η j with
    | none => rfl
    | some oj => rw [hj] at h; exact h.elim
  have hnew : ∀ j oj, updE (killE η ks) k ⟨o.val, o.main ++ extra, [], false⟩ j = some oj → (j = k ∧ oj = ⟨o.val, o.main ++ extra, [], false⟩) ∨ (j ≠ k ∧ oj = deadInfo) := by
    intro j oj hj
    by_cases e : j = k
    · subst e; rw [updE_same] at hj; cases hj; exact .inl ⟨rfl, rfl⟩
    · rw [updE_other _ _ e] at hj
      rcases killE_in hj with ⟨_, rfl, _⟩ | ⟨h1, h2⟩
      · exact .inr ⟨e, rfl⟩
      · rw [hnone j e h1] at h2; cases h2
  refine ⟨fun j => ?_, ⟨?_, ?_, ?_, ?_⟩, ⟨hos, htp, hou, hsz, fun b hb hn => hother b hb fun hm => hn k o hk (by simp [hm]), ?_, fun _ h => h, fun _ h => .inl h, ?_⟩⟩
  · rw [ho' j]
    by_cases e : j = k
    · subst e; rw [if_pos rfl, updE_same]; exact hX
    · rw [if_neg e, updE_other _ _ e]
      by_cases e2 : j ∈ ks
      · rw [if_pos e2]
        unfold killE
        rw [if_pos e2]
        have h := hob j
        cases h1 : lookN j objs with
        | none => exact absurd h1 (hks j e2)
        | some x =>
          rw [h1] at h
          cases h2 : η j with
          | none => rw [h2] at h; exact h.elim
          | some oj => simp only [Option.map_some, ObjOpt, ObjRel, deadInfo]; exact ⟨trivial, trivial, trivial⟩
      · rw [if_neg e2]
        unfold killE
        rw [if_neg e2, hnone j e e2]; trivial
  · intro j oj hj b hb
    rcases hnew j oj hj with ⟨rfl, rfl⟩ | ⟨_, rfl⟩
    · simp only [List.append_nil, List.mem_append] at hb
      rcases hb with hb | hb
      · have := hsep.lt j o hk b (by simp [hb])
        exact ⟨by omega, this.2⟩
      · obtain ⟨h1, h2⟩ := hex b hb
        refine ⟨h1, fun hg => ?_⟩
        rcases h2 with h2 | ⟨j', _, oj, hoj, hm⟩
        · have := hsep.glt b hg; omega
        · exact (hsep.lt j' oj hoj b hm).2 hg
    · simp [deadInfo] at hb
  · intro j oj j' oj' hj hj' hne b hb hb'
    rcases hnew j oj hj with ⟨rfl, rfl⟩ | ⟨_, rfl⟩
    · rcases hnew j' oj' hj' with ⟨rfl, rfl⟩ | ⟨_, rfl⟩
      · exact hne rfl
      · simp [deadInfo] at hb'
    · simp [deadInfo] at hb
  · intro j oj hj b hb
    rcases hnew j oj hj with ⟨rfl, rfl⟩ | ⟨_, rfl⟩
    · simp
    · simp [deadInfo]
  · intro b hb
    have := hsep.glt b hb
    omega
  · intro j oj hj
    by_cases e : j = k
    · subst e
      rw [hk] at hj; cases hj
      exact ⟨_, updE_same _ _ _, fun _ => ⟨hd, rfl, ⟨extra, rfl⟩, fun b hb => by rw [hin] at hb; cases hb⟩⟩
    · obtain ⟨o2, h2, h3⟩ := killE_some (ks := ks) hj
      refine ⟨o2, by rw [updE_other _ _ e]; exact h2, fun hdd => ?_⟩
      obtain ⟨hn, rfl⟩ := h3 hdd
      rw [hnone j e hn] at hj; cases hj
  · intro j oj hj b hb
    rcases hnew j oj hj with ⟨rfl, rfl⟩ | ⟨_, rfl⟩
    · simp only [List.append_nil, List.mem_append] at hb
      rcases hb with hb | hb
      · exact .inr ⟨j, o, hk, by simp [hb]⟩
      · rcases (hex b hb).2 with h | ⟨j', _, oj, hoj, hm⟩
        · exact .inl h
        · exact .inr ⟨j', oj, hoj, hm⟩
    · simp [deadInfo] at hb


/-- An iterator over a text. -/
def iterΦ (s : List UInt8) (pos : Nat) (w : World) (v : Value) (B : List Nat) : Prop := ∃ b, v = .pointer (some ⟨b, 0, none⟩) ∧ B = [b] ∧ w.heap[b]? = some (.stringIter ⟨s.toArray⟩ pos)
def iterT (s : List UInt8) (pos : Nat) : TObj := .cust none (fun _ => iterΦ s pos)
theorem raw_range {T : Nat} {s : List UInt8} (ht : P.underlying T = some .string) : SpecG P (rawC 16 T) [.str fun _ => s] [] Unit (fun _ => .own 2000) (fun _ => [(2000, iterT s 0)]) := by
  intro η G vs w hsep hob hs htab
  match vs, hs with
  | [v0], hs =>
    simp only [SVRels, SVRel] at hs
    obtain ⟨rfl, -⟩ := hs
    unfold RunsX
    rw [rawSem_rawC (by omega)]
    refine ⟨_, _, run_range_string (P := P) w T ⟨s.toArray⟩ ht, (), ?_⟩
    exact raw_own (objs := []) (w' := w.iter ⟨s.toArray⟩ 0) (o := ⟨.pointer (some ⟨w.heap.size, 0, none⟩), [w.heap.size], [], false⟩) (by simp [namesOf]) hsep hob htab
      ⟨rfl, rfl, rfl, by simp [World.iter], fun b hb _ => old_alloc w _ _ hb, fun b hb => by simp at hb; subst hb; exact ⟨by simp [World.iter], .inl (Nat.le_refl _)⟩, by simp⟩ rfl
      (cust_rel fun w' hw' => ⟨⟨w.heap.size, rfl, rfl, by rw [hw' _ (by simp)]; exact World.iter_heap w _ 0⟩, fun x hx => by cases hx⟩)
  | [], h => exact h.elim
  | _ :: _ :: _, h => exact h.2.elim
theorem run_next_at {w : World} {b T pos : Nat} {s : ByteArray} (hb : w.heap[b]? = some (.stringIter s pos)) (h : pos < s.size) :
    (Instr.next (.pointer (some ⟨b, 0, none⟩)) true T).run P w = .ok (.tuple #[.bool true, .int .i64 (pos : Int), .int .i32 ((Utf8.decode s pos).1 : Int)]) { w with heap := w.heap.setIfInBounds b (.stringIter s (pos + (Utf8.decode s pos).2)) } := by
  simp only [Instr.next, getObj, setObj, Sem.run_bind, Sem.run, hb, Result.andThen, h, if_true]
  simp [goInt]
theorem size_mk (s : List UInt8) : (⟨s.toArray⟩ : ByteArray).size = s.length := by show s.toArray.size = _; simp
theorem raw_next {T pos : Nat} {s : List UInt8} (h : pos < s.length) : SpecG P (rawC 17 T) [.own 1000] [(1000, iterT s pos)] Unit
    (fun _ => .tup [.bool .t, .int .i64 (.s fun _ => (pos : Int)), .int .i32 (.s fun _ => ((Utf8.decode ⟨s.toArray⟩ pos).1 : Int))]) (fun _ => [(1000, iterT s (pos + (Utf8.decode ⟨s.toArray⟩ pos).2))]) := by
  intro η G vs w hsep hob hs htab
  match vs, hs with
  | [v0], hs =>
    simp only [SVRels] at hs
    obtain ⟨h0, -⟩ := hs
    obtain ⟨o, ho, hd, hin, rfl, hq⟩ := cust_at (d := none) (Φ := iterΦ s pos) hob (k := 1000) (by simp [lookN, eqN_refl, iterT]) h0
    obtain ⟨b, hv, hB, hrow⟩ := (hq w fun _ _ => rfl).1
    unfold RunsX
    rw [rawSem_rawC (by omega)]
    have hr := run_next_at (P := P) (T := T) (s := ⟨s.toArray⟩) hrow (by rw [size_mk]; exact h)
    refine ⟨_, _, by rw [hv]; exact hr, (), ?_⟩
    have hblt : b < w.heap.size := (Array.getElem?_eq_some_iff.1 hrow).1
    obtain ⟨w', hw'⟩ : ∃ w' : World, w' = { w with heap := w.heap.setIfInBounds b (.stringIter ⟨s.toArray⟩ (pos + (Utf8.decode ⟨s.toArray⟩ pos).2)) } := ⟨_, rfl⟩
    rw [← hw']
    have hh : ∀ c, w'.heap[c]? = if c = b then some (.stringIter ⟨s.toArray⟩ (pos + (Utf8.decode ⟨s.toArray⟩ pos).2)) else w.heap[c]? := by
      intro c
      rw [hw']
      show (w.heap.setIfInBounds b _)[c]? = _
      rw [Array.getElem?_setIfInBounds]
      by_cases e : b = c
      · subst e; rw [if_pos rfl, if_pos rfl, if_pos hblt]
      · rw [if_neg e, if_neg (fun h => e h.symm)]
    obtain ⟨q1, q2, q3⟩ := raw_upd (objs := [(1000, iterT s pos)]) (ks := []) hsep hob ho hd hin (by simp) (by simp [lookN, eqN_refl]) (by simp) (fun j hj _ => by
        have : eqN 1000 j = false := decide_eq_false (fun e => hj e.symm)
        simp [lookN, this]) (w' := w') (by rw [hw']) (by rw [hw']) (by rw [hw']) (by rw [hw']; simp) (fun c _ hc => by rw [hh, if_neg (fun e => hc (by rw [e, hB]; simp))]) [] (by simp)
      (X := iterT s (pos + (Utf8.decode ⟨s.toArray⟩ pos).2)) (objs' := [(1000, iterT s (pos + (Utf8.decode ⟨s.toArray⟩ pos).2))]) (by
        refine ⟨rfl, rfl, fun w2 hw2 => ⟨⟨b, hv, by simp [hB], ?_⟩, fun x hx => by cases hx⟩⟩
        rw [hw2 b (by simp [hB]), hh, if_pos rfl]) (fun j => by
        by_cases e : j = 1000
        · subst e; simp [lookN, eqN_refl]
        · have : eqN 1000 j = false := decide_eq_false (fun h => e h.symm)
          simp [lookN, this, e])
    exact ⟨_, _, ⟨[.bool true, .int .i64 (pos : Int), .int .i32 ((Utf8.decode ⟨s.toArray⟩ pos).1 : Int)], rfl, rfl, rfl, rfl, trivial⟩, q1, q2, q3⟩
  | [], h => exact h.elim
  | _ :: _ :: _, h => exact h.2.elim
theorem raw_next_end {T pos : Nat} {s : List UInt8} (h : ¬ pos < s.length) : SpecG P (rawC 17 T) [.own 1000] [(1000, iterT s pos)] Unit (fun _ => .tup [.bool .f]) (fun _ => [(1000, iterT s pos)]) := by
  refine raw_look (by rw [rawSem_rawC (by omega)]; rfl) fun η G vs w hob hs => ?_
  match vs, hs with
  | [v0], hs =>
    simp only [SVRels] at hs
    obtain ⟨h0, -⟩ := hs
    obtain ⟨o, ho, hd, hin, rfl, hq⟩ := cust_at (d := none) (Φ := iterΦ s pos) hob (k := 1000) (by simp [lookN, eqN_refl, iterT]) h0
    obtain ⟨b, hv, hB, hrow⟩ := (hq w fun _ _ => rfl).1
    refine ⟨.tuple #[.bool false], ?_, ⟨[.bool false], rfl, rfl, trivial⟩⟩
    have h' : ¬ pos < (⟨s.toArray⟩ : ByteArray).size := by rw [size_mk]; exact h
    rw [hv]
    show (Instr.next (.pointer (some ⟨b, 0, none⟩)) true T).run P w = _
    simp [Instr.next, getObj, Sem.run, hrow, h']
  | [], h => exact h.elim
  | _ :: _ :: _, h => exact h.2.elim
end
end Go.SX

/- Events: Go's library: how many runes a text has; whether it is valid. (The layings: the kit's tool lay-plain.mjs.) -/
namespace Go.Proofs.YtkogbobplhebaaaGreatDoor
open Go.SX Go.Ev Go.RowKit

def lays195_ren : Go.Shelf.Ren := ⟨fun | 195 => 164 | n => n, fun | 9 => 9 | 3 => 3 | 0 => 0 | 4 => 4 | n => n, fun | n => n⟩
theorem lays195 : Go.Proofs.Lays.n195 Tryz.prog lays195_ren := {
  mixed := by kernel_rfl
  f195 := Tryz.func164.trans (congrArg some (by kernel_rfl))
  t0 := Tryz.underlying0
  a0 := Tryz.isAgg0
  z0 := Tryz.sizeOf0
  v0 := Tryz.zeroValue0
  t3 := Tryz.underlying3
  a3 := Tryz.isAgg3
  z3 := Tryz.sizeOf3
  v3 := Tryz.zeroValue3
  t4 := Tryz.underlying4
  a4 := Tryz.isAgg4
  z4 := Tryz.sizeOf4
  v4 := Tryz.zeroValue4
  t9 := Tryz.underlying9
  a9 := Tryz.isAgg9
  z9 := Tryz.sizeOf9
  v9 := Tryz.zeroValue9 }
def lays196_ren : Go.Shelf.Ren := ⟨fun | 196 => 163 | 259 => 183 | n => n, fun | 9 => 9 | 4 => 4 | 3 => 3 | 5 => 5 | 12 => 12 | 119 => 257 | 0 => 0 | 46 => 161 | 139 => 260 | 138 => 259 | 53 => 103 | n => n, fun | 3 => 0 | 4 => 1 | n => n⟩
theorem lays196 : Go.Proofs.Lays.n196 Tryz.prog lays196_ren := {
  mixed := by kernel_rfl
  f196 := Tryz.func163.trans (congrArg some (by kernel_rfl))
  f259 := Tryz.func183.trans (congrArg some (by kernel_rfl))
  t0 := Tryz.underlying0
  a0 := Tryz.isAgg0
  z0 := Tryz.sizeOf0
  v0 := Tryz.zeroValue0
  t3 := Tryz.underlying3
  a3 := Tryz.isAgg3
  z3 := Tryz.sizeOf3
  v3 := Tryz.zeroValue3
  t4 := Tryz.underlying4
  a4 := Tryz.isAgg4
  z4 := Tryz.sizeOf4
  v4 := Tryz.zeroValue4
  t5 := Tryz.underlying5
  a5 := Tryz.isAgg5
  z5 := Tryz.sizeOf5
  v5 := Tryz.zeroValue5
  t9 := Tryz.underlying9
  a9 := Tryz.isAgg9
  z9 := Tryz.sizeOf9
  v9 := Tryz.zeroValue9
  t12 := Tryz.underlying12
  a12 := Tryz.isAgg12
  z12 := Tryz.sizeOf12
  v12 := Tryz.zeroValue12
  t46 := Tryz.underlying161
  a46 := Tryz.isAgg161
  z46 := Tryz.sizeOf161
  v46 := Tryz.zeroValue161
  t53 := Tryz.underlying103
  a53 := Tryz.isAgg103
  z53 := Tryz.sizeOf103
  v53 := Tryz.zeroValue103
  t119 := Tryz.underlying257
  a119 := Tryz.isAgg257
  z119 := Tryz.sizeOf257
  t138 := Tryz.underlying259
  a138 := Tryz.isAgg259
  z138 := Tryz.sizeOf259
  v138 := Tryz.zeroValue259
  t139 := Tryz.underlying260
  a139 := Tryz.isAgg260
  z139 := Tryz.sizeOf260
  v139 := Tryz.zeroValue260
  g3 := by kernel_rfl
  g4 := by kernel_rfl }

/-- A call that changes nothing that lay. -/
theorem con_below {f : Nat} (hf : FnOk Tryz.prog f) (hlt : f < 4096) {svs : List SV} {r : SV}
    (h : ∀ (η : OEnv) (G : Nat → Prop) (vs : List Value) (w : World), SVRels η G w svs vs → TabP w → Calls Tryz.prog f ⟨vs⟩ w fun e w' => ∃ v, e = .returned v ∧ (∀ η' G' w', SVRel η' G' w' r v) ∧ Below w.heap.size w w') : Con f svs [] r [] := by
  refine ⟨fun η G vs w hsep hob hs htab => ?_⟩
  rw [runs_calls hlt]
  refine .inl ⟨run_callFunc hf _ _, (h η G vs w hs htab.tp).mono ?_⟩
  rintro e w' ⟨v, rfl, hv, hb⟩
  have hn : ∀ k, η k = none := fun k => by
    have := hob k
    cases hk : η k with
    | none => rfl
    | some o => rw [hk] at this; exact this.elim
  refine ⟨v, rfl, η, G, hv η G w', fun k => by rw [hn k]; trivial, ?_, ?_⟩
  · exact ⟨fun k o hk => (by rw [hn k] at hk; cases hk), fun k o k' o' hk => (by rw [hn k] at hk; cases hk), fun k o hk => (by rw [hn k] at hk; cases hk), fun b hb' => Nat.lt_of_lt_of_le (hsep.glt b hb') hb.size⟩
  · exact ⟨hb.os, hb.tape, hb.output, hb.size, fun b hb' _ => hb.block b hb', fun k o hk => (by rw [hn k] at hk; cases hk), fun _ h => h, fun _ h => .inl h, fun k o hk => (by rw [hn k] at hk; cases hk)⟩

/-- utf8.RuneCountInString. -/
theorem con164 {s : List UInt8} (hs : s.length < 9223372036854775807) : Con 164 [.str fun _ => s] [] (.int .i64 (.s fun _ => (Lib.runeCountL s : Int))) [] := by
  refine con_below ⟨_, _, Tryz.func164, rfl, rfl⟩ (by decide) fun η G vs w h _ => ?_
  match vs, h with
  | [v], h =>
    simp only [SVRels, SVRel] at h
    obtain ⟨rfl, -⟩ := h
    refine (Any.utf8_RuneCountInString lays195 ⟨s.toArray⟩ w (by rw [size_mk]; exact hs)).mono ?_
    rintro e w' ⟨rfl, pos, rfl⟩
    exact ⟨_, rfl, fun _ _ _ => by simp [SVRel, IE.den, Lib.runeCountL], (Below.refl _ _).alloc (Nat.le_refl _) _⟩
  | [], h => exact h.elim
  | _ :: _ :: _, h => exact h.2.elim
/-- utf8.ValidString. -/
theorem con163 {s : List UInt8} (hs : s.length < 9223372036854775807) : Con 163 [.str fun _ => s] [] (.bool (.s fun _ => Lib.validD s)) [] := by
  refine con_below ⟨_, _, Tryz.func163, rfl, rfl⟩ (by decide) fun η G vs w h ht => ?_
  match vs, h with
  | [v], h =>
    simp only [SVRels, SVRel] at h
    obtain ⟨rfl, -⟩ := h
    refine (Any.utf8_ValidString lays196 ⟨s.toArray⟩ w (by rw [size_mk]; omega) ht).mono ?_
    rintro e w' ⟨rfl, hb⟩
    exact ⟨_, rfl, fun _ _ _ => by simp [SVRel, BE.den], hb⟩
  | [], h => exact h.elim
  | _ :: _ :: _, h => exact h.2.elim
end Go.Proofs.YtkogbobplhebaaaGreatDoor

/- Events: value.letter, value.Name. -/
namespace Go.Proofs.YtkogbobplhebaaaGreatDoor
open Go.SX Go.Ev

/-- May that rune stand in a name? -/
def letterB (c : Int) : Bool := decide ((97 ≤ c ∧ c ≤ 122) ∨ (65 ≤ c ∧ c ≤ 90) ∨ c = 95 ∨ 128 ≤ c)
set_option maxRecDepth 20000 in
set_option maxHeartbeats 4000000 in
theorem con182 {c : Int} : Con 182 [.int .i32 (.s fun _ => c)] [] (.bool (.s fun _ => letterB c)) [] := by
  obtain ⟨R, hR⟩ : ∃ R, R = letterB c := ⟨_, rfl⟩
  have yes : (97 ≤ c ∧ c ≤ 122) ∨ (65 ≤ c ∧ c ≤ 90) ∨ c = 95 ∨ 128 ≤ c → true = R := fun h => by rw [hR]; exact (decide_eq_true h).symm
  have no : ¬ ((97 ≤ c ∧ c ≤ 122) ∨ (65 ≤ c ∧ c ≤ 90) ∨ c = 95 ∨ 128 ≤ c) → false = R := fun h => by rw [hR]; exact (decide_eq_false h).symm
  have iff : ∀ p : Bool, (p = true ↔ ((97 ≤ c ∧ c ≤ 122) ∨ (65 ≤ c ∧ c ≤ 90) ∨ c = 95 ∨ 128 ≤ c)) → p = R := fun p h => by
    cases p with
    | true => exact yes (h.1 rfl)
    | false => exact no fun h2 => by have := h.2 h2; cases this
  rw [← hR]
  refine con_of Tryz.func182 rfl rfl 25 _ rfl rfl rfl rfl ?_
  cbv
  iterate 8 (all_goals try (refine And.intro ?_ ?_ <;> (intro g; (try (replace g := of_decide_eq_true g)); (try (replace g := of_decide_eq_false g)); (try (simp only [IE.den_l, IE.den_s] at g)); cbv)))
  all_goals
    refine ⟨[], [], ?_⟩
    cbv
    and_intros
    all_goals first | exact trivial | exact ⟨yes (by omega)⟩ | exact ⟨no (by omega)⟩ | exact ⟨iff (decide ((128 : Int) ≤ c)) (by rw [decide_eq_true_eq]; omega)⟩ | exact ⟨by kernel_rfl⟩ | skip

/-- Is no rune of a text bad, from that byte on? -/
def goodFrom (bad : Nat → Int → Bool) (s : List UInt8) : Nat → Nat → Bool
  | 0, _ => true
  | fuel + 1, pos => if pos < s.length then if bad pos ((Utf8.decode ⟨s.toArray⟩ pos).1 : Int) then false else goodFrom bad s fuel (pos + (Utf8.decode ⟨s.toArray⟩ pos).2) else true
def badN (pos : Nat) (c : Int) : Bool := decide (letterB c = false ∧ ((pos : Int) = 0 ∨ c < 48 ∨ 57 < c))
def badC (pos : Nat) (c : Int) : Bool := decide (¬ (97 ≤ c ∧ c ≤ 122) ∧ ((pos : Int) = 0 ∨ (c ≠ 95 ∧ c ≠ 45 ∧ (c < 48 ∨ 57 < c))))
/-- May a text be a field's name? -/
def nameB (s : List UInt8) : Bool := if Lib.validD s = false then false else if 32 < (Lib.runeCountL s : Int) then false else if goodFrom badN s s.length 0 then !(s == []) else false
/-- May a text be a collection's name? -/
def nameC (s : List UInt8) : Bool := if goodFrom badC s s.length 0 then (!(s == []) && decide ((s.length : Int) ≤ 32)) else false
theorem good_end {bad : Nat → Int → Bool} {s : List UInt8} {fuel pos : Nat} (h : ¬ pos < s.length) : goodFrom bad s fuel pos = true := by
  cases fuel with
  | zero => rfl
  | succ f => simp only [goodFrom]; rw [if_neg h]
theorem good_next {bad : Nat → Int → Bool} {s : List UInt8} {fuel pos : Nat} (h : pos < s.length) (hf : s.length ≤ pos + fuel) :
    ∃ f', fuel = f' + 1 ∧ goodFrom bad s fuel pos = if bad pos ((Utf8.decode ⟨s.toArray⟩ pos).1 : Int) then false else goodFrom bad s f' (pos + (Utf8.decode ⟨s.toArray⟩ pos).2) := by
  obtain ⟨f', rfl⟩ : ∃ f', fuel = f' + 1 := ⟨fuel - 1, by omega⟩
  exact ⟨f', rfl, by simp only [goodFrom]; rw [if_pos h]⟩
theorem r16 {s : List UInt8} : ConG (rawC 16 9) [.str fun _ => s] [] Unit (fun _ => .own 2000) (fun _ => [(2000, iterT s 0)]) := ⟨raw_range Tryz.underlying9⟩
theorem r17 {T pos wd : Nat} {s : List UInt8} {c : Int} (h : pos < s.length) (hc : c = ((Utf8.decode ⟨s.toArray⟩ pos).1 : Int)) (hw : wd = (Utf8.decode ⟨s.toArray⟩ pos).2) :
    ConG (rawC 17 T) [.own 1000] [(1000, iterT s pos)] Unit (fun _ => .tup [.bool .t, .int .i64 (.s fun _ => (pos : Int)), .int .i32 (.s fun _ => c)]) (fun _ => [(1000, iterT s (pos + wd))]) := by
  subst hc; subst hw; exact ⟨raw_next h⟩
theorem r17e {T pos : Nat} {s : List UInt8} (h : ¬ pos < s.length) : ConG (rawC 17 T) [.own 1000] [(1000, iterT s pos)] Unit (fun _ => .tup [.bool .f]) (fun _ => [(1000, iterT s pos)]) := ⟨raw_next_end h⟩

set_option maxRecDepth 20000 in
set_option maxHeartbeats 8000000 in
/-- value.Name. -/
theorem con162 {s : List UInt8} (hs : s.length < 9223372036854775807) : Con 162 [.str fun _ => s] [] (.bool (.s fun _ => nameB s)) [] := by
  obtain ⟨R, hR⟩ : ∃ R, R = nameB s := ⟨_, rfl⟩
  have c163 := con163 hs
  have c164 := con164 hs
  unfold nameB at hR
  obtain ⟨V, hV⟩ : ∃ V, V = Lib.validD s := ⟨_, rfl⟩
  obtain ⟨C, hC⟩ : ∃ C, C = (Lib.runeCountL s : Int) := ⟨_, rfl⟩
  rw [← hV] at c163 hR
  rw [← hC] at c164 hR
  have hno1 : V = false → false = R := fun h => by rw [hR, if_pos h]
  have hno2 : V = true → 32 < C → false = R := fun h h2 => by rw [hR, if_neg (by rw [h]; decide), if_pos h2]
  have hgo2 : V = true → ¬ 32 < C → R = (if goodFrom badN s s.length 0 then !(s == []) else false) := fun h h2 => by rw [hR, if_neg (by rw [h]; decide), if_neg h2]
  refine con_of Tryz.func162 rfl rfl 36 _ rfl rfl rfl rfl ?_
  rw [show nameB s = R by unfold nameB; rw [← hV, ← hC]; exact hR.symm]
  cbv
  refine ⟨_, _, c163, ⟨by kernel_rfl⟩, ?_⟩
  cbv
  refine And.intro ?_ ?_
  · intro g
    have e1 := hno1 (bnot_t g)
    cbv
    refine ⟨[], [], ?_⟩
    cbv
    and_intros
    all_goals first | exact trivial | exact ⟨e1⟩ | exact ⟨by kernel_rfl⟩
  intro g
  have hv := bnot_f g
  cbv
  refine ⟨_, _, c164, ⟨by kernel_rfl⟩, ?_⟩
  cbv
  refine And.intro ?_ ?_
  · intro g2
    have e1 := hno2 hv (of_decide_eq_true g2)
    cbv
    refine ⟨[], [], ?_⟩
    cbv
    and_intros
    all_goals first | exact trivial | exact ⟨e1⟩ | exact ⟨by kernel_rfl⟩
  intro g2
  have hgo := hgo2 hv (of_decide_eq_false g2)
  clear g g2 hno1 hno2 hgo2 hR hv c163 c164
  cbv
  refine ⟨Unit, _, _, r16, ⟨by kernel_rfl⟩, fun _ => ⟨⟨by kernel_rfl⟩, ?_⟩⟩
  cbv
  refine ⟨Nat × Nat, [], fun _ => [], fun x => [(4400, iterT s x.1)], fun x => s.length ≤ x.1 + x.2 ∧ R = (if goodFrom badN s x.2 x.1 then !(s == []) else false), fun x => s.length - x.1, (0, s.length), [], ⟨by simp, hgo⟩, ⟨?_⟩, fun x hx => ?_⟩
  · cbv
    and_intros
    all_goals first | exact trivial | exact ⟨rfl⟩ | exact ⟨rfl, fun _ _ _ h => h⟩ | exact ⟨by kernel_rfl⟩
  · obtain ⟨pos, fuel⟩ := x
    obtain ⟨hf, hx⟩ : s.length ≤ pos + fuel ∧ R = (if goodFrom badN s fuel pos then !(s == []) else false) := hx
    by_cases hp : pos < s.length
    · obtain ⟨f', rfl, hn⟩ := good_next (bad := badN) hp hf
      obtain ⟨c, hc⟩ : ∃ c, c = ((Utf8.decode ⟨s.toArray⟩ pos).1 : Int) := ⟨_, rfl⟩
      obtain ⟨wd, hw⟩ : ∃ wd, wd = (Utf8.decode ⟨s.toArray⟩ pos).2 := ⟨_, rfl⟩
      have hwd : 0 < wd := by rw [hw]; exact Lib.decode_width_pos _ _ (by rw [size_mk]; exact hp)
      have rn := fun (T : Nat) => r17 (T := T) hp hc hw
      rw [← hc, ← hw] at hn
      rw [hn] at hx
      have hms : s.length - (pos + wd) < s.length - pos := by omega
      have hf2 : s.length ≤ pos + wd + f' := by omega
      have isbad : badN pos c = true → false = R := fun h => by rw [hx]; simp only [h, if_true, Bool.false_eq_true, if_false]
      have isok : badN pos c = false → s.length ≤ pos + wd + f' ∧ R = (if goodFrom badN s f' (pos + wd) then !(s == []) else false) := fun h => ⟨hf2, by rw [hx]; simp only [h, Bool.false_eq_true, if_false]⟩
      have cl := con182 (c := c)
      obtain ⟨L, hL⟩ : ∃ L, L = letterB c := ⟨_, rfl⟩
      rw [← hL] at cl
      have bad1 : L = false → ((pos : Int) = 0 ∨ c < 48 ∨ 57 < c) → false = R := fun h h2 => isbad (decide_eq_true ⟨by rw [← hL]; exact h, h2⟩)
      have ok1 : L = true → s.length ≤ pos + wd + f' ∧ R = (if goodFrom badN s f' (pos + wd) then !(s == []) else false) := fun h => isok (decide_eq_false fun e => by have := e.1; rw [← hL, h] at this; cases this)
      have ok2 : ¬ ((pos : Int) = 0 ∨ c < 48 ∨ 57 < c) → s.length ≤ pos + wd + f' ∧ R = (if goodFrom badN s f' (pos + wd) then !(s == []) else false) := fun h => isok (decide_eq_false fun e => h e.2)
      clear isbad isok
      clear hx hn
      cbv
      refine ⟨Unit, _, _, rn 0, ⟨by kernel_rfl⟩, fun _ => ⟨⟨by kernel_rfl⟩, ?_⟩⟩
      cbv
      refine ⟨_, _, cl, ⟨by kernel_rfl⟩, ?_⟩
      cbv
      iterate 9 (all_goals try (refine And.intro ?_ ?_ <;> (intro g; (try (replace g := of_decide_eq_true g)); (try (replace g := of_decide_eq_false g)); (try (replace g := of_decide_eq_false (bnot_t g))); (try (replace g := of_decide_eq_true (bnot_f g))); (try (simp only [IE.den_l, IE.den_s] at g)); cbv)))
      all_goals first
        | (refine ⟨[], [], ?_⟩
           cbv
           and_intros
           all_goals first | exact trivial | exact ⟨bad1 (bnot_t (by assumption)) (by omega)⟩ | exact ⟨by kernel_rfl⟩)
        | (refine ⟨(pos + wd, f'), [], (by first | exact ok2 (by omega) | exact ok1 (bnot_f (by assumption))), hms, ⟨?_⟩, ⟨?_⟩⟩
           · kernel_rfl
           · cbv
             and_intros
             all_goals first | exact trivial | exact ⟨rfl⟩ | exact ⟨rfl, fun _ _ _ h => h⟩ | exact ⟨by kernel_rfl⟩)
    · have e0 : R = !(s == []) := by rw [hx, good_end hp]; rfl
      have rn := fun (T : Nat) => r17e (T := T) hp
      clear hx
      cbv
      refine ⟨Unit, _, _, rn 0, ⟨by kernel_rfl⟩, fun _ => ⟨⟨by kernel_rfl⟩, ?_⟩⟩
      cbv
      refine ⟨[], [], ?_⟩
      cbv
      and_intros
      all_goals first | exact trivial | exact ⟨e0.symm⟩ | exact ⟨by kernel_rfl⟩

set_option maxRecDepth 20000 in
set_option maxHeartbeats 8000000 in
/-- catalog.isName. -/
theorem con148 {s : List UInt8} (hs : s.length < 9223372036854775807) : Con 148 [.str fun _ => s] [] (.bool (.s fun _ => nameC s)) [] := by
  obtain ⟨R, hR⟩ : ∃ R, R = nameC s := ⟨_, rfl⟩
  have hgo : R = (if goodFrom badC s s.length 0 then (!(s == []) && decide ((s.length : Int) ≤ 32)) else false) := hR
  rw [← hR]
  refine con_of Tryz.func148 rfl rfl 47 _ rfl rfl rfl rfl ?_
  clear hR
  cbv
  refine ⟨Unit, _, _, r16, ⟨by kernel_rfl⟩, fun _ => ⟨⟨by kernel_rfl⟩, ?_⟩⟩
  cbv
  refine ⟨Nat × Nat, [], fun _ => [], fun x => [(3700, iterT s x.1)], fun x => s.length ≤ x.1 + x.2 ∧ R = (if goodFrom badC s x.2 x.1 then (!(s == []) && decide ((s.length : Int) ≤ 32)) else false), fun x => s.length - x.1, (0, s.length), [], ⟨by simp, hgo⟩, ⟨?_⟩, fun x hx => ?_⟩
  · cbv
    and_intros
    all_goals first | exact trivial | exact ⟨rfl⟩ | exact ⟨rfl, fun _ _ _ h => h⟩ | exact ⟨by kernel_rfl⟩
  · obtain ⟨pos, fuel⟩ := x
    obtain ⟨hf, hx⟩ : s.length ≤ pos + fuel ∧ R = (if goodFrom badC s fuel pos then (!(s == []) && decide ((s.length : Int) ≤ 32)) else false) := hx
    by_cases hp : pos < s.length
    · obtain ⟨f', rfl, hn⟩ := good_next (bad := badC) hp hf
      obtain ⟨c, hc⟩ : ∃ c, c = ((Utf8.decode ⟨s.toArray⟩ pos).1 : Int) := ⟨_, rfl⟩
      obtain ⟨wd, hw⟩ : ∃ wd, wd = (Utf8.decode ⟨s.toArray⟩ pos).2 := ⟨_, rfl⟩
      have hwd : 0 < wd := by rw [hw]; exact Lib.decode_width_pos _ _ (by rw [size_mk]; exact hp)
      have rn := fun (T : Nat) => r17 (T := T) hp hc hw
      rw [← hc, ← hw] at hn
      rw [hn] at hx
      have hms : s.length - (pos + wd) < s.length - pos := by omega
      have hf2 : s.length ≤ pos + wd + f' := by omega
      have isbad : badC pos c = true → false = R := fun h => by rw [hx]; simp only [h, if_true, Bool.false_eq_true, if_false]
      have isok : badC pos c = false → s.length ≤ pos + wd + f' ∧ R = (if goodFrom badC s f' (pos + wd) then (!(s == []) && decide ((s.length : Int) ≤ 32)) else false) := fun h => ⟨hf2, by rw [hx]; simp only [h, Bool.false_eq_true, if_false]⟩
      have bad1 : ¬ (97 ≤ c ∧ c ≤ 122) ∧ ((pos : Int) = 0 ∨ (c ≠ 95 ∧ c ≠ 45 ∧ (c < 48 ∨ 57 < c))) → false = R := fun h => isbad (decide_eq_true h)
      have ok1 : ¬ (¬ (97 ≤ c ∧ c ≤ 122) ∧ ((pos : Int) = 0 ∨ (c ≠ 95 ∧ c ≠ 45 ∧ (c < 48 ∨ 57 < c)))) → s.length ≤ pos + wd + f' ∧ R = (if goodFrom badC s f' (pos + wd) then (!(s == []) && decide ((s.length : Int) ≤ 32)) else false) := fun h => isok (decide_eq_false h)
      clear isbad isok
      clear hx hn
      cbv
      refine ⟨Unit, _, _, rn 0, ⟨by kernel_rfl⟩, fun _ => ⟨⟨by kernel_rfl⟩, ?_⟩⟩
      cbv
      iterate 9 (all_goals try (refine And.intro ?_ ?_ <;> (intro g; (try (replace g := of_decide_eq_true g)); (try (replace g := of_decide_eq_false g)); (try (replace g := of_decide_eq_false (bnot_t g))); (try (replace g := of_decide_eq_true (bnot_f g))); (try (simp only [IE.den_l, IE.den_s] at g)); cbv)))
      all_goals first
        | (refine ⟨[], [], ?_⟩
           cbv
           and_intros
           all_goals first | exact trivial | exact ⟨bad1 (by omega)⟩ | exact ⟨by kernel_rfl⟩)
        | (refine ⟨(pos + wd, f'), [], (ok1 (by omega)), hms, ⟨?_⟩, ⟨?_⟩⟩
           · kernel_rfl
           · cbv
             and_intros
             all_goals first | exact trivial | exact ⟨rfl⟩ | exact ⟨rfl, fun _ _ _ h => h⟩ | exact ⟨by kernel_rfl⟩)
    · have e0 : R = (!(s == []) && decide ((s.length : Int) ≤ 32)) := by rw [hx, good_end hp]; rfl
      have rn := fun (T : Nat) => r17e (T := T) hp
      clear hx
      cbv
      refine ⟨Unit, _, _, rn 0, ⟨by kernel_rfl⟩, fun _ => ⟨⟨by kernel_rfl⟩, ?_⟩⟩
      cbv
      refine And.intro ?_ ?_
      · intro g
        have g : (!(s == [])) = true := g
        have e1 : decide ((s.length : Int) ≤ 32) = R := by rw [e0, g]; rfl
        cbv
        refine ⟨[], [], ?_⟩
        cbv
        and_intros
        all_goals first | exact trivial | exact ⟨e1⟩ | exact ⟨by kernel_rfl⟩
      · intro g
        have g : (!(s == [])) = false := g
        have e1 : false = R := by rw [e0, g]; rfl
        cbv
        refine ⟨[], [], ?_⟩
        cbv
        and_intros
        all_goals first | exact trivial | exact ⟨e1⟩ | exact ⟨by kernel_rfl⟩
end Go.Proofs.YtkogbobplhebaaaGreatDoor

/- Events: event.isName; value.bare. -/
namespace Go.Proofs.YtkogbobplhebaaaGreatDoor
open Go.SX Go.Ev

def catE (s : List UInt8) : Int := if nameC s = true then 0 else 190
set_option maxRecDepth 20000 in
set_option maxHeartbeats 4000000 in
/-- catalog.Check of a collection that has a name and a number alone. -/
theorem con120 {s : List UInt8} (hs : s.length < 9223372036854775807) : Con 120 [.agg [.str fun _ => s, .int .u32 (.l 1), .str fun _ => [], .nil]] [] (.int .u16 (.s fun _ => catE s)) [] := by
  have ca := con148 hs
  obtain ⟨R, hR⟩ : ∃ R, R = catE s := ⟨_, rfl⟩
  obtain ⟨b, hb⟩ : ∃ b, b = nameC s := ⟨_, rfl⟩
  rw [← hb] at ca
  have hyes : b = true → 0 = R := fun h => by rw [hR]; unfold catE; rw [← hb, if_pos h]
  have hno : b = false → 190 = R := fun h => by rw [hR]; unfold catE; rw [← hb, if_neg (by rw [h]; decide)]
  rw [← hR]
  refine con_of Tryz.func120 rfl rfl 48 _ rfl rfl rfl rfl ?_
  cbv
  refine ⟨_, _, ca, ⟨by kernel_rfl⟩, ?_⟩
  cbv
  refine And.intro ?_ ?_
  · intro g
    have e1 := hno (bnot_t g)
    cbv
    refine ⟨[], [], ?_⟩
    cbv
    and_intros
    all_goals first | exact trivial | exact ⟨e1⟩ | exact ⟨by kernel_rfl⟩
  intro g
  have e1 := hyes (bnot_f g)
  cbv
  refine And.intro ?_ ?_
  · intro g
    exact absurd (of_decide_eq_true g) (by decide)
  intro g
  cbv
  refine And.intro ?_ ?_
  · intro g
    have g : (!(([] : List UInt8) == [])) = true := g
    cases g
  intro g
  cbv
  refine And.intro ?_ ?_
  · intro g
    exact absurd (of_decide_eq_true g) (by decide)
  intro g
  cbv
  refine ⟨Unit, [], fun _ => [(35, .int .i64 (.s fun _ => 0))], fun _ => [], fun _ => True, fun _ => 0, (), [], trivial, ⟨?_⟩, fun _ _ => ?_⟩
  · cbv
    and_intros
    all_goals first | exact trivial | exact ⟨rfl⟩ | exact ⟨by kernel_rfl⟩
  cbv
  refine And.intro ?_ ?_
  · intro g
    have g : decide ((0 : Int) < 0) = true := g
    cases g
  intro g
  cbv
  refine ⟨[], [], ?_⟩
  cbv
  and_intros
  all_goals first | exact trivial | exact ⟨e1⟩ | exact ⟨by kernel_rfl⟩
set_option maxRecDepth 20000 in
set_option maxHeartbeats 4000000 in
/-- event.isName. -/
theorem con81 {s : List UInt8} (hs : s.length < 9223372036854775807) : Con 81 [.str fun _ => s] [] (.bool (.s fun _ => nameC s)) [] := by
  have ca := con120 hs
  have e1 : decide (catE s = 0) = nameC s := by
    unfold catE
    cases h : nameC s with
    | true => rfl
    | false => rfl
  obtain ⟨R, hR⟩ : ∃ R, R = catE s := ⟨_, rfl⟩
  obtain ⟨b, hb⟩ : ∃ b, b = nameC s := ⟨_, rfl⟩
  rw [← hR] at ca e1
  rw [← hb] at e1 ⊢
  refine con_of Tryz.func81 rfl rfl 7 _ rfl rfl rfl rfl ?_
  cbv
  refine ⟨_, _, ca, ⟨by kernel_rfl⟩, ?_⟩
  cbv
  refine ⟨[], [], ?_⟩
  cbv
  and_intros
  all_goals first | exact trivial | exact ⟨e1⟩ | exact ⟨by kernel_rfl⟩

/-- What a value's kind has alone, but for bytes, lists and fields. -/
def bareV (v : Val) : Val := .mk v.kind (if v.kind = 2 then v.bool else false) (if v.kind = 3 then v.int else 0) (if v.kind = 4 then v.text else []) [] [] []
set_option maxRecDepth 20000 in
set_option maxHeartbeats 4000000 in
theorem con161 {rv rf rv' rf'} {v : Val} : Con 161 [valG rv rf v] [] (valG rv' rf' (bareV v)) [] := by
  obtain ⟨K, hK⟩ : ∃ K, K = v.kind := ⟨_, rfl⟩
  obtain ⟨B, hB⟩ : ∃ B, B = (if v.kind = 2 then v.bool else false) := ⟨_, rfl⟩
  obtain ⟨I, hI⟩ : ∃ I, I = (if v.kind = 3 then v.int else 0) := ⟨_, rfl⟩
  obtain ⟨T, hT⟩ : ∃ T, T = (if v.kind = 4 then v.text else []) := ⟨_, rfl⟩
  have hb : bareV v = .mk K B I T [] [] [] := by unfold bareV; rw [hK, hB, hI, hT]
  have k2 : K = 2 → v.bool = B ∧ 0 = I ∧ [] = T := fun h => by rw [hK] at h; rw [hB, hI, hT, if_pos h, if_neg (by omega), if_neg (by omega)]; exact ⟨rfl, rfl, rfl⟩
  have k3 : K = 3 → false = B ∧ v.int = I ∧ [] = T := fun h => by rw [hK] at h; rw [hB, hI, hT, if_pos h, if_neg (by omega), if_neg (by omega)]; exact ⟨rfl, rfl, rfl⟩
  have k4 : K = 4 → false = B ∧ 0 = I ∧ v.text = T := fun h => by rw [hK] at h; rw [hB, hI, hT, if_pos h, if_neg (by omega), if_neg (by omega)]; exact ⟨rfl, rfl, rfl⟩
  have k0 : ¬ K = 2 → ¬ K = 3 → ¬ K = 4 → false = B ∧ 0 = I ∧ [] = T := fun h2 h3 h4 => by rw [hK] at h2 h3 h4; rw [hB, hI, hT, if_neg h2, if_neg h3, if_neg h4]; exact ⟨rfl, rfl, rfl⟩
  rw [hb]
  refine con_of Tryz.func161 rfl rfl 25 _ rfl rfl rfl rfl ?_
  unfold valG
  obtain ⟨L, hL⟩ : ∃ L, L = v.list := ⟨_, rfl⟩
  obtain ⟨F, hF⟩ : ∃ F, F = v.fields := ⟨_, rfl⟩
  rw [← hL, ← hF, ← hK]
  cbv
  refine And.intro ?_ ?_
  · intro g
    obtain ⟨e1, e2, e3⟩ := k2 (of_decide_eq_true g)
    cbv
    refine ⟨[], [], ?_⟩
    cbv
    and_intros
    all_goals first | exact trivial | exact ⟨e1⟩ | exact ⟨e2⟩ | exact ⟨e3⟩ | exact ⟨rfl⟩ | exact ⟨by kernel_rfl⟩
  intro g
  have h2 : ¬ K = 2 := of_decide_eq_false g
  clear g
  cbv
  refine And.intro ?_ ?_
  · intro g
    obtain ⟨e1, e2, e3⟩ := k3 (of_decide_eq_true g)
    cbv
    refine ⟨[], [], ?_⟩
    cbv
    and_intros
    all_goals first | exact trivial | exact ⟨e1⟩ | exact ⟨e2⟩ | exact ⟨e3⟩ | exact ⟨rfl⟩ | exact ⟨by kernel_rfl⟩
  intro g
  have h3 : ¬ K = 3 := of_decide_eq_false g
  clear g
  cbv
  refine And.intro ?_ ?_
  · intro g
    obtain ⟨e1, e2, e3⟩ := k4 (of_decide_eq_true g)
    cbv
    refine ⟨[], [], ?_⟩
    cbv
    and_intros
    all_goals first | exact trivial | exact ⟨e1⟩ | exact ⟨e2⟩ | exact ⟨e3⟩ | exact ⟨rfl⟩ | exact ⟨by kernel_rfl⟩
  intro g
  obtain ⟨e1, e2, e3⟩ := k0 h2 h3 (of_decide_eq_false g)
  clear g
  cbv
  refine ⟨[], [], ?_⟩
  cbv
  and_intros
  all_goals first | exact trivial | exact ⟨e1⟩ | exact ⟨e2⟩ | exact ⟨e3⟩ | exact ⟨rfl⟩ | exact ⟨by kernel_rfl⟩
end Go.Proofs.YtkogbobplhebaaaGreatDoor

/- Events: the reader. -/
namespace Go.Proofs.YtkogbobplhebaaaGreatDoor
open Go.SX Go.Ev

/-- A reader: its bytes, where it is, its error and where that was. -/
structure RS where
  b : List UInt8
  at_ : Nat
  er : Int
  ea : Int
structure RS.Ok (s : RS) : Prop where
  le : s.at_ ≤ s.b.length
  sm : s.b.length < 1000000000
abbrev rdO (s : RS) : TObj := .cells 146 [.dat (.bytes fun _ => s.b), .int .i64 (.s fun _ => (s.at_ : Int)), .int .u16 (.s fun _ => s.er), .int .i64 (.s fun _ => s.ea)]
def failS (s : RS) (e : Int) : RS := if s.er = 0 then ⟨s.b, s.at_, e, s.at_⟩ else s
def takeS (s : RS) (n : Int) : RS × List UInt8 := if s.er = 0 then if n < 0 then (failS s 1, []) else if (s.b.length : Int) - s.at_ < n then (failS s 20, []) else (⟨s.b, s.at_ + n.toNat, s.er, s.ea⟩, (s.b.drop s.at_).take n.toNat) else (s, [])

set_option maxRecDepth 20000 in
set_option maxHeartbeats 4000000 in
theorem con35 {b : List UInt8} (hb : b.length < 1000000000000) : Con 35 [.dat (.bytes fun _ => b)] [] (.loc 2000 0) [(2000, rdO ⟨b, 0, 0, 0⟩)] := by
  have c89 := con89 hb
  refine con_of Tryz.func35 rfl rfl 7 _ rfl rfl rfl rfl ?_
  cbv
  refine ⟨_, _, c89, ⟨by kernel_rfl⟩, ?_⟩
  cbv
  refine ⟨[(2000, some 6)], [3400], ?_⟩
  cbv
  and_intros
  all_goals first | exact trivial | exact ⟨rfl⟩ | exact ⟨by kernel_rfl⟩

set_option maxRecDepth 20000 in
set_option maxHeartbeats 4000000 in
theorem con93 {s : RS} {e : Int} : Con 93 [.loc 1000 0, .int .u16 (.s fun _ => e)] [(1000, rdO s)] (.tup []) [(1000, rdO (failS s e))] := by
  obtain ⟨s', hs'⟩ : ∃ s', s' = failS s e := ⟨_, rfl⟩
  rw [← hs']
  obtain ⟨b, at_, er, ea⟩ := s
  have yes : er = 0 → s' = ⟨b, at_, e, at_⟩ := fun h => by rw [hs']; exact if_pos h
  have no : ¬ er = 0 → s' = ⟨b, at_, er, ea⟩ := fun h => by rw [hs']; exact if_neg h
  clear hs'
  refine con_of Tryz.func93 rfl rfl 20 _ rfl rfl rfl rfl ?_
  cbv
  iterate 4 (all_goals try (refine And.intro ?_ ?_ <;> (intro g; (try (replace g := of_decide_eq_true g)); (try (replace g := of_decide_eq_false g)); (try (replace g := of_decide_eq_false (bnot_t g))); (try (replace g := of_decide_eq_true (bnot_f g))); (try (simp only [IE.den_l, IE.den_s] at g)); cbv)))
  · obtain rfl := yes g
    refine ⟨[], [], ?_⟩
    cbv
    and_intros
    all_goals first | exact trivial | exact ⟨rfl⟩ | exact ⟨by kernel_rfl⟩
  · obtain rfl := no g
    refine ⟨[], [], ?_⟩
    cbv
    and_intros
    all_goals first | exact trivial | exact ⟨rfl⟩ | exact ⟨by kernel_rfl⟩
theorem con93l {s : RS} {e : Int} : Con 93 [.loc 1000 0, .int .u16 (.l e)] [(1000, rdO s)] (.tup []) [(1000, rdO (failS s e))] := Con.lit (a := [.loc 1000 0]) con93
set_option maxRecDepth 20000 in
set_option maxHeartbeats 4000000 in
theorem con38 {s : RS} : Con 38 [.loc 1000 0] [(1000, rdO s)] (.tup [.int .u16 (.s fun _ => s.er), .int .i64 (.s fun _ => s.ea)]) [(1000, rdO s)] := by
  obtain ⟨b, at_, er, ea⟩ := s
  refine con_of Tryz.func38 rfl rfl 12 _ rfl rfl rfl rfl ?_
  cbv
  refine ⟨⟨by kernel_rfl⟩, ?_⟩
  refine ⟨[], [], ?_⟩
  cbv
  and_intros
  all_goals first | exact trivial | exact ⟨rfl⟩ | exact ⟨by kernel_rfl⟩

set_option maxRecDepth 20000 in
set_option maxHeartbeats 4000000 in
theorem con41 {s : RS} (h : s.Ok) : Con 41 [.loc 1000 0] [(1000, rdO s)] (.int .i64 (.s fun _ => (s.b.length : Int) - s.at_)) [(1000, rdO s)] := by
  obtain ⟨b, at_, er, ea⟩ := s
  obtain ⟨h1, h2⟩ := h
  have h1 : at_ ≤ b.length := h1
  have h2 : b.length < 1000000000 := h2
  have bo : bound64 ((b.length : Int) - at_) := by unfold bound64; omega
  refine con_of Tryz.func41 rfl rfl 13 _ rfl rfl rfl rfl ?_
  cbv
  refine ⟨⟨bo⟩, ⟨by kernel_rfl⟩, ?_⟩
  refine ⟨[], [], ?_⟩
  cbv
  and_intros
  all_goals first | exact trivial | exact ⟨rfl⟩ | exact ⟨by kernel_rfl⟩

def endE (s : RS) : Int := if s.er = 0 then if s.at_ < s.b.length then 21 else 0 else s.er
set_option maxRecDepth 20000 in
set_option maxHeartbeats 4000000 in
theorem con42 {s : RS} : Con 42 [.loc 1000 0] [(1000, rdO s)] (.int .u16 (.s fun _ => endE s)) [(1000, rdO s)] := by
  obtain ⟨r, hr⟩ : ∃ r, r = endE s := ⟨_, rfl⟩
  rw [← hr]
  obtain ⟨b, at_, er, ea⟩ := s
  have k1 : er = 0 → (at_ : Int) < (b.length : Int) → r = 21 := fun h h2 => by rw [hr]; unfold endE; rw [if_pos h]; exact if_pos (by show at_ < b.length; omega)
  have k2 : er = 0 → ¬ (at_ : Int) < (b.length : Int) → r = er := fun h h2 => by
    subst h
    rw [hr]
    show (if (0 : Int) = 0 then if at_ < b.length then (21 : Int) else 0 else 0) = 0
    rw [if_pos rfl, if_neg (by omega)]
  have k3 : ¬ er = 0 → r = er := fun h => by rw [hr]; exact if_neg h
  clear hr
  refine con_of Tryz.func42 rfl rfl 24 _ rfl rfl rfl rfl ?_
  cbv
  iterate 8 (all_goals try (refine And.intro ?_ ?_ <;> (intro g; (try (replace g := of_decide_eq_true g)); (try (replace g := of_decide_eq_false g)); (try (replace g := of_decide_eq_false (bnot_t g))); (try (replace g := of_decide_eq_true (bnot_f g))); (try (simp only [IE.den_l, IE.den_s] at g)); cbv)))
  · refine ⟨⟨by kernel_rfl⟩, ?_⟩
    iterate 4 (all_goals try (refine And.intro ?_ ?_ <;> (intro g; (try (replace g := of_decide_eq_true g)); (try (replace g := of_decide_eq_false g)); (try (replace g := of_decide_eq_false (bnot_t g))); (try (replace g := of_decide_eq_true (bnot_f g))); (try (simp only [IE.den_l, IE.den_s] at g)); cbv)))
    · rename_i g0
      have e1 := k1 g0 g
      subst e1
      refine ⟨[], [], ?_⟩
      cbv
      and_intros
      all_goals first | exact trivial | exact ⟨rfl⟩ | exact ⟨by kernel_rfl⟩
    · rename_i g0
      have e1 := (k2 g0 g).symm
      refine ⟨[], [], ?_⟩
      cbv
      and_intros
      all_goals first | exact trivial | exact ⟨e1⟩ | exact ⟨rfl⟩ | exact ⟨by kernel_rfl⟩
  · refine ⟨⟨by kernel_rfl⟩, ?_⟩
    have e1 := (k3 g).symm
    iterate 4 (all_goals try (refine And.intro ?_ ?_ <;> (intro g; (try (replace g := of_decide_eq_true g)); (try (replace g := of_decide_eq_false g)); (try (replace g := of_decide_eq_false (bnot_t g))); (try (replace g := of_decide_eq_true (bnot_f g))); (try (simp only [IE.den_l, IE.den_s] at g)); cbv)))
    refine ⟨[], [], ?_⟩
    cbv
    and_intros
    all_goals first | exact trivial | exact ⟨e1⟩ | exact ⟨rfl⟩ | exact ⟨by kernel_rfl⟩

set_option maxRecDepth 20000 in
set_option maxHeartbeats 4000000 in
/-- Reader.take. -/
theorem con91 {s : RS} {n : Int} (h : s.Ok) (hn : n < 9000000000000000000) : Con 91 [.loc 1000 0, .int .i64 (.s fun _ => n)] [(1000, rdO s)] (.dat (.bytes fun _ => (takeS s n).2)) [(1000, rdO (takeS s n).1)] := by
  have f1 := con93l (s := s) (e := 1)
  have f20 := con93l (s := s) (e := 20)
  obtain ⟨R, hR⟩ : ∃ R, R = takeS s n := ⟨_, rfl⟩
  rw [← hR]
  obtain ⟨s1, hs1⟩ : ∃ q, q = failS s 1 := ⟨_, rfl⟩
  obtain ⟨s20, hs20⟩ : ∃ q, q = failS s 20 := ⟨_, rfl⟩
  unfold takeS at hR
  rw [← hs1, ← hs20] at hR
  rw [← hs1] at f1
  rw [← hs20] at f20
  obtain ⟨b, at_, er, ea⟩ := s
  obtain ⟨h1, h2⟩ := h
  have h1 : at_ ≤ b.length := h1
  have h2 : b.length < 1000000000 := h2
  have hR : R = if er = 0 then if n < 0 then (s1, []) else if (b.length : Int) - at_ < n then (s20, []) else (⟨b, at_ + n.toNat, er, ea⟩, (b.drop at_).take n.toNat) else (⟨b, at_, er, ea⟩, []) := hR
  obtain ⟨R1, R2⟩ := R
  have k0 : ¬ er = 0 → R1 = ⟨b, at_, er, ea⟩ ∧ R2 = [] := fun h => by rw [if_neg h] at hR; exact ⟨congrArg Prod.fst hR, congrArg Prod.snd hR⟩
  have k1 : er = 0 → n < 0 → R1 = s1 ∧ R2 = [] := fun h h' => by rw [if_pos h, if_pos h'] at hR; exact ⟨congrArg Prod.fst hR, congrArg Prod.snd hR⟩
  have k2 : er = 0 → ¬ n < 0 → (b.length : Int) - at_ < n → R1 = s20 ∧ R2 = [] := fun h h' h2 => by rw [if_pos h, if_neg h', if_pos h2] at hR; exact ⟨congrArg Prod.fst hR, congrArg Prod.snd hR⟩
  have k3 : er = 0 → ¬ n < 0 → ¬ (b.length : Int) - at_ < n → R1 = ⟨b, at_ + n.toNat, er, ea⟩ ∧ R2 = (b.drop at_).take n.toNat := fun h h' h2 => by rw [if_pos h, if_neg h', if_neg h2] at hR; exact ⟨congrArg Prod.fst hR, congrArg Prod.snd hR⟩
  have bo : bound64 ((b.length : Int) - at_) := by unfold bound64; omega
  clear hR hs1 hs20
  refine con_of Tryz.func91 rfl rfl 56 _ rfl rfl rfl rfl ?_
  cbv
  iterate 4 (all_goals try (refine And.intro ?_ ?_ <;> (intro g; (try (replace g := of_decide_eq_true g)); (try (replace g := of_decide_eq_false g)); (try (replace g := of_decide_eq_false (bnot_t g))); (try (replace g := of_decide_eq_true (bnot_f g))); (try (simp only [IE.den_l, IE.den_s] at g)); cbv)))
  · obtain ⟨rfl, rfl⟩ := k0 g
    refine ⟨[], [], ?_⟩
    cbv
    and_intros
    all_goals first | exact trivial | exact ⟨rfl⟩ | exact ⟨by kernel_rfl⟩
  · rename_i g0
    obtain ⟨rfl, rfl⟩ := k1 g0 g
    refine ⟨_, _, f1, ⟨by kernel_rfl⟩, ?_⟩
    cbv
    refine ⟨[], [], ?_⟩
    cbv
    and_intros
    all_goals first | exact trivial | exact ⟨rfl⟩ | exact ⟨by kernel_rfl⟩
  rename_i g0
  refine ⟨⟨bo⟩, ⟨by kernel_rfl⟩, ?_⟩
  iterate 4 (all_goals try (refine And.intro ?_ ?_ <;> (intro g; (try (replace g := of_decide_eq_true g)); (try (replace g := of_decide_eq_false g)); (try (replace g := of_decide_eq_false (bnot_t g))); (try (replace g := of_decide_eq_true (bnot_f g))); (try (simp only [IE.den_l, IE.den_s] at g)); cbv)))
  · obtain ⟨rfl, rfl⟩ := k2 g0 (by assumption) g
    refine ⟨_, _, f20, ⟨by kernel_rfl⟩, ?_⟩
    cbv
    refine ⟨[], [], ?_⟩
    cbv
    and_intros
    all_goals first | exact trivial | exact ⟨rfl⟩ | exact ⟨by kernel_rfl⟩
  · have hn0 : ¬ n < 0 := by assumption
    have gg : ¬ (b.length : Int) - at_ < n := g
    obtain ⟨rfl, rfl⟩ := k3 g0 hn0 gg
    have b2 : bound64 ((at_ : Int) + n) := by unfold bound64; omega
    have so : sliceObl (at_ : Int) ((at_ : Int) + n) b.length := by unfold sliceObl; omega
    have ec : (b.drop ((at_ : Int)).toNat).take (((at_ : Int) + n).toNat - ((at_ : Int)).toNat) = (b.drop at_).take n.toNat := by
      have e1 : ((at_ : Int)).toNat = at_ := by omega
      have e2 : ((at_ : Int) + n).toNat - ((at_ : Int)).toNat = n.toNat := by omega
      rw [e2, e1]
    have ea' : (at_ : Int) + n = ((at_ + n.toNat : Nat) : Int) := by omega
    refine ⟨⟨b2⟩, ⟨so⟩, ⟨by kernel_rfl⟩, ?_⟩
    refine ⟨⟨b2⟩, ?_⟩
    refine ⟨[], [], ?_⟩
    cbv
    and_intros
    all_goals first | exact trivial | exact ⟨ea'⟩ | exact ⟨ec⟩ | exact ⟨ec.symm⟩ | exact ⟨rfl⟩ | exact ⟨by kernel_rfl⟩

end Go.Proofs.YtkogbobplhebaaaGreatDoor

