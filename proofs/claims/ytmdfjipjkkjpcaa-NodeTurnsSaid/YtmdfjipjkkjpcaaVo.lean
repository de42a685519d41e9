/- Texts put together: Es, Be, Ti, Tj, Tl, Tk. -/
import Derived.Test.YtmdfjipjkkjpcaaVn
import Derived.Test.YtmdfjipjkkjpcaaVj
import Derived.Test.YtmdfjipjkkjpcaaVk
import Derived.Test.YtmdfjipjkkjpcaaVl
import Derived.Test.YtmdfjipjkkjpcaaVm
import Derived.Test.YtmdfjipjkkjpcaaVi
/- The book's lists of entries: ownEntries, the walk. -/
namespace Go.Proofs.Ytmdfjipjkkjpcaa
open Go.SX

set_option maxRecDepth 20000 in
set_option maxHeartbeats 8000000 in
theorem con65m {ns : List Nat} {bb c : Nat} {hd v0 : Value} {hs tc : List Value} {H0 : Mem} (hN : ns.length < 1000) (hn : ∀ n ∈ ns, n < 1000000000) (hM0 : MarksE ns bb tc hd hs c 0 0 H0) (hn0 : (H0.map (·.1)).Nodup) :
    Con 65 [.rv 1000 (fun _ => hd)] [(1000, .cust none (fun _ => memΦ v0 H0))] (.bool .t) [(1000, .cust none (fun _ => exΦ v0 (topQ bb tc)))] := by
  obtain ⟨N, hNe⟩ : ∃ N, N = ns.length := ⟨_, rfl⟩
  obtain ⟨nf, hnf⟩ : ∃ nf : Nat → Nat, ∀ i, nf i = ns.getD i 0 := ⟨_, fun _ => rfl⟩
  obtain ⟨hf, hhf⟩ : ∃ hf : Nat → Value, ∀ i, hf i = hs.getD i nilV := ⟨_, fun _ => rfl⟩
  have hsd : Shp hd N := by rw [hNe]; exact SlM.shp hM0.bank
  have hsf : ∀ i, i < N → Shp (hf i) (nf i) := fun i hi => by rw [hhf, hnf]; exact (hM0.lis i (by omega)).shp
  have hnb : ∀ i, i < N → nf i < 1000000000 := fun i hi => by
    rw [hnf, List.getD_eq_getElem?_getD, List.getElem?_eq_getElem (by omega)]
    exact hn _ (List.getElem_mem _)
  have hNl : ∀ i, i < N → i < ns.length := fun i hi => by omega
  rw [← hNe] at hN
  clear hn
  refine con_of Try.func65 rfl rfl 140 _ rfl rfl rfl rfl ?_
  cbv
  refine ⟨Nat × Mem, [1000], fun x => [(0, .rv 1000 fun _ => hd), (3, .int .i64 (.s fun _ => (x.1 : Int)))], fun x => [(1000, .cust none (fun _ => memΦ v0 x.2))], fun x => x.1 ≤ N ∧ MarksE ns bb tc hd hs c x.1 0 x.2 ∧ (x.2.map (·.1)).Nodup, fun x => N - x.1, (0, H0), [(1000, some 1000)], ⟨Nat.zero_le _, hM0, hn0⟩, ⟨?_⟩, fun x hx => ?_⟩
  · cbv
    and_intros
    all_goals first | exact trivial | exact ⟨rfl⟩ | exact ⟨rfl, fun _ _ _ h => h⟩ | exact ⟨by kernel_rfl⟩
  · have r1 := len_c (v0 := v0) (H := x.2) Try.underlying53 hsd
    cbv
    refine ⟨Unit, _, _, r1, ⟨by kernel_rfl⟩, fun _ => ⟨⟨by kernel_rfl⟩, ?_⟩⟩
    cbv
    refine And.intro ?_ ?_
    · intro h1
      have h1 : (x.1 : Int) < (N : Int) := of_decide_eq_true h1
      have hlt : x.1 < N := by omega
      have bi : bound64 ((x.1 : Int) + 1) := by unfold bound64; omega
      have ei : (x.1 : Int) + 1 = ((x.1 + 1 : Nat) : Int) := by omega
      have bi97 : bound64 ((x.1 : Int) * 1000) := by unfold bound64; omega
      have hmi : N - (x.1 + 1) < N - x.1 := by omega
      have hnx := hnb _ hlt
      have hsx := hsf _ hlt
      cbv
      refine ⟨Nat × Mem, [1000], fun y => [(0, .rv 1000 fun _ => hd), (3, .int .i64 (.s fun _ => (x.1 : Int))), (4, .int .i64 (.s fun _ => (y.1 : Int)))], fun y => [(1000, .cust none (fun _ => memΦ v0 y.2))], fun y => y.1 ≤ nf x.1 ∧ MarksE ns bb tc hd hs c x.1 y.1 y.2 ∧ (y.2.map (·.1)).Nodup, fun y => nf x.1 - y.1, (0, x.2), [(1000, some 1000)], ⟨Nat.zero_le _, hx.2.1, hx.2.2⟩, ⟨?_⟩, fun y hy => ?_⟩
      · cbv
        and_intros
        all_goals first | exact trivial | exact ⟨rfl⟩ | exact ⟨rfl, fun _ _ _ h => h⟩ | exact ⟨by kernel_rfl⟩
      · have r2 := idx_c (v0 := v0) (H := y.2) Try.underlying53 rfl rfl hsd hlt (z := (x.1 : Int)) rfl
        have r3 := eload_c (v0 := v0) (H := y.2) hy.2.1.bank (hNl _ hlt) (hhf x.1) hsx.one
        have r4 := len_c (v0 := v0) (H := y.2) Try.underlying22 hsx
        cbv
        refine ⟨Unit, _, _, r2, ⟨by kernel_rfl⟩, fun _ => ⟨⟨by kernel_rfl⟩, ?_⟩⟩
        cbv
        refine ⟨Unit, _, _, r3, ⟨by kernel_rfl⟩, fun _ => ⟨⟨by kernel_rfl⟩, ?_⟩⟩
        cbv
        refine ⟨Unit, _, _, r4, ⟨by kernel_rfl⟩, fun _ => ⟨⟨by kernel_rfl⟩, ?_⟩⟩
        cbv
        refine And.intro ?_ ?_
        · intro h2
          have h2 : (y.1 : Int) < (nf x.1 : Int) := of_decide_eq_true h2
          have hkn : y.1 < nf x.1 := by omega
          have bk1 : bound64 ((y.1 : Int) + 1) := by unfold bound64; omega
          have bk13 : bound64 ((x.1 : Int) * 1000 + (y.1 : Int)) := by unfold bound64; omega
          have bs : bound64 ((x.1 : Int) * 1000 + (y.1 : Int) + 7000000) := by unfold bound64; omega
          have ek : (y.1 : Int) + 1 = ((y.1 + 1 : Nat) : Int) := by omega
          have hmk : nf x.1 - (y.1 + 1) < nf x.1 - y.1 := by omega
          have r5 := idx4_c (v0 := v0) (H := y.2) Try.underlying22 rfl rfl hsx hkn (z := (y.1 : Int)) rfl
          have r6 := markE_c (v0 := v0) hy.2.1 hy.2.2 (hNl _ hlt) (hnf x.1) hkn (hhf x.1)
          cbv
          refine ⟨Unit, _, _, r2, ⟨by kernel_rfl⟩, fun _ => ⟨⟨by kernel_rfl⟩, ?_⟩⟩
          cbv
          refine ⟨Unit, _, _, r3, ⟨by kernel_rfl⟩, fun _ => ⟨⟨by kernel_rfl⟩, ?_⟩⟩
          cbv
          refine ⟨⟨bi97⟩, ⟨bk13⟩, ⟨bs⟩, ?_⟩
          refine ⟨Unit, _, _, r5, ⟨by kernel_rfl⟩, fun _ => ⟨⟨by kernel_rfl⟩, ?_⟩⟩
          cbv
          refine ⟨_, _, _, r6, ⟨by kernel_rfl⟩, fun u => ⟨⟨by kernel_rfl⟩, ?_⟩⟩
          cbv
          refine ⟨⟨bk1⟩, (y.1 + 1, u.1), [(1000, some 1000)], ⟨hkn, u.2.1, u.2.2⟩, hmk, ⟨?_⟩, ⟨?_⟩⟩
          · kernel_rfl
          · cbv
            and_intros
            all_goals first | exact trivial | exact ⟨rfl⟩ | exact ⟨ek⟩ | exact ⟨rfl, fun _ _ _ h => h⟩ | exact ⟨by kernel_rfl⟩
        · intro h2
          have h2 : ¬ (y.1 : Int) < (nf x.1 : Int) := of_decide_eq_false h2
          have hke : y.1 = nf x.1 := by have := hy.1; omega
          have hM2 : MarksE ns bb tc hd hs c (x.1 + 1) 0 y.2 := by
            have h := hy.2.1
            rw [hke, hnf] at h
            exact marksE_next h
          cbv
          refine ⟨⟨bi⟩, (x.1 + 1, y.2), [(1000, some 1000)], ⟨hlt, hM2, hy.2.2⟩, hmi, ⟨?_⟩, ⟨?_⟩⟩
          · kernel_rfl
          · cbv
            and_intros
            all_goals first | exact trivial | exact ⟨rfl⟩ | exact ⟨ei⟩ | exact ⟨rfl, fun _ _ _ h => h⟩ | exact ⟨by kernel_rfl⟩
    · intro h1
      have h1 : ¬ (x.1 : Int) < (N : Int) := of_decide_eq_false h1
      have hie : x.1 = ns.length := by have := hx.1; omega
      have hT : TwoE ns bb tc hd hs c 0 0 nilV nilV x.2 := twoE_0 (by have h := hx.2.1; rw [hie] at h; exact h) hx.2.2
      cbv
      refine ⟨Nat × Value × Mem, [1000], fun x => [(0, .rv 1000 fun _ => hd), (5, .rv 1000 fun _ => x.2.1), (6, .int .i64 (.s fun _ => (x.1 : Int)))], fun x => [(1000, .cust none (fun _ => memΦ v0 x.2.2))], fun x => x.1 ≤ N ∧ TwoE ns bb tc hd hs c x.1 0 x.2.1 nilV x.2.2, fun x => N - x.1, (0, nilV, x.2), [(1000, some 1000)], ⟨Nat.zero_le _, hT⟩, ⟨?_⟩, fun x hx => ?_⟩
      · cbv
        and_intros
        all_goals first | exact trivial | exact ⟨rfl⟩ | exact ⟨rfl, fun _ _ _ h => h⟩ | exact ⟨by kernel_rfl⟩
      · have r1 := len_c (v0 := v0) (H := x.2.2) Try.underlying53 hsd
        cbv
        refine ⟨Unit, _, _, r1, ⟨by kernel_rfl⟩, fun _ => ⟨⟨by kernel_rfl⟩, ?_⟩⟩
        cbv
        refine And.intro ?_ ?_
        · intro h1
          have h1 : (x.1 : Int) < (N : Int) := of_decide_eq_true h1
          have hlt : x.1 < N := by omega
          have bi : bound64 ((x.1 : Int) + 1) := by unfold bound64; omega
          have ei : (x.1 : Int) + 1 = ((x.1 + 1 : Nat) : Int) := by omega
          have bi1 : bound64 (-1 - (x.1 : Int)) := by unfold bound64; omega
          have bi97 : bound64 ((-1 - (x.1 : Int)) * 1000) := by unfold bound64; omega
          have hmi : N - (x.1 + 1) < N - x.1 := by omega
          have hi1000 : x.1 < 1000 := by omega
          have hnx := hnb _ hlt
          have hsx := hsf _ hlt
          have hT1 : TwoE ns bb tc hd hs c x.1 (nf x.1 + 0) x.2.1 (hf x.1) x.2.2 := by rw [hnf, hhf]; exact twoE_begin hx.2 (hNl _ hlt)
          have r2 := idx_c (v0 := v0) (H := x.2.2) Try.underlying53 rfl rfl hsd hlt (z := (x.1 : Int)) rfl
          have r3 := eload_c (v0 := v0) (H := x.2.2) hx.2.bank (hNl _ hlt) (hhf x.1) hsx.one
          cbv
          refine ⟨Unit, _, _, r2, ⟨by kernel_rfl⟩, fun _ => ⟨⟨by kernel_rfl⟩, ?_⟩⟩
          cbv
          refine ⟨Unit, _, _, r3, ⟨by kernel_rfl⟩, fun _ => ⟨⟨by kernel_rfl⟩, ?_⟩⟩
          cbv
          refine ⟨Nat × Value × Mem, [1000], fun y => [(0, .rv 1000 fun _ => hd), (5, .rv 1000 fun _ => x.2.1), (6, .int .i64 (.s fun _ => (x.1 : Int))), (7, .rv 1000 fun _ => y.2.1), (8, .int .i64 (.s fun _ => (y.1 : Int)))], fun y => [(1000, .cust none (fun _ => memΦ v0 y.2.2))], fun y => y.1 ≤ 8 ∧ TwoE ns bb tc hd hs c x.1 (nf x.1 + y.1) x.2.1 y.2.1 y.2.2, fun y => 8 - y.1, (0, hf x.1, x.2.2), [(1000, some 1000)], ⟨Nat.zero_le _, hT1⟩, ⟨?_⟩, fun y hy => ?_⟩
          · cbv
            and_intros
            all_goals first | exact trivial | exact ⟨rfl⟩ | exact ⟨rfl, fun _ _ _ h => h⟩ | exact ⟨by kernel_rfl⟩
          · cbv
            refine And.intro ?_ ?_
            · intro h2
              have h2 : (y.1 : Int) < 8 := of_decide_eq_true h2
              have hk16 : y.1 < 8 := by omega
              have bk1 : bound64 ((y.1 : Int) + 1) := by unfold bound64; omega
              have bk13 : bound64 ((-1 - (x.1 : Int)) * 1000 + (y.1 : Int)) := by unfold bound64; omega
              have bs : bound64 ((-1 - (x.1 : Int)) * 1000 + (y.1 : Int) + 7000000) := by unfold bound64; omega
              have ek : (y.1 : Int) + 1 = ((y.1 + 1 : Nat) : Int) := by omega
              have hmk : 8 - (y.1 + 1) < 8 - y.1 := by omega
              have r5 := appE_c (v0 := v0) hy.2 (hnf x.1) hnx hk16
              cbv
              refine ⟨⟨bi1⟩, ⟨bi97⟩, ⟨bk13⟩, ⟨bs⟩, ?_⟩
              refine ⟨_, _, _, r5, ⟨by kernel_rfl⟩, fun u => ⟨⟨by kernel_rfl⟩, ?_⟩⟩
              cbv
              refine ⟨⟨bk1⟩, (y.1 + 1, u.1.1, u.1.2), [(1000, some 1000)], ⟨hk16, u.2⟩, hmk, ⟨?_⟩, ⟨?_⟩⟩
              · kernel_rfl
              · cbv
                and_intros
                all_goals first | exact trivial | exact ⟨rfl⟩ | exact ⟨ek⟩ | exact ⟨rfl, fun _ _ _ h => h⟩ | exact ⟨by kernel_rfl⟩
            · intro h2
              have h2 : ¬ (y.1 : Int) < 8 := of_decide_eq_false h2
              have hk16 : y.1 = 8 := by have := hy.1; omega
              have hT2 : TwoE ns bb tc hd hs c x.1 (nf x.1 + 8) x.2.1 y.2.1 y.2.2 := by rw [← hk16]; exact hy.2
              have r6 := pushE_c (v0 := v0) hT2 (hnf x.1) hi1000
              cbv
              refine ⟨_, _, _, r6, ⟨by kernel_rfl⟩, fun u => ⟨⟨by kernel_rfl⟩, ?_⟩⟩
              cbv
              refine ⟨⟨bi⟩, (x.1 + 1, u.1.1, u.1.2), [(1000, some 1000)], ⟨hlt, u.2⟩, hmi, ⟨?_⟩, ⟨?_⟩⟩
              · kernel_rfl
              · cbv
                and_intros
                all_goals first | exact trivial | exact ⟨rfl⟩ | exact ⟨ei⟩ | exact ⟨rfl, fun _ _ _ h => h⟩ | exact ⟨by kernel_rfl⟩
        · intro h1
          have h1 : ¬ (x.1 : Int) < (N : Int) := of_decide_eq_false h1
          have hie : x.1 = N := by have := hx.1; omega
          have hE : ∃ lf, EndE ns x.2.2 x.2.1 nf hf lf := endE_of hx.2 (by omega) hnf hhf
          have hfin : ∀ w v B, memΦ v0 x.2.2 w v B → exΦ v0 (topQ bb tc) w v B := fun w v B h => ⟨x.2.2, hx.2.top, hx.2.nd, h⟩
          have hB : SlM x.2.2 22 1 hd ns.length c hs := hx.2.bank
          cbv
          refine Exists.elim hE fun lf hP => ?_
          have hsl : Shp x.2.1 N := by rw [hNe]; exact hP.shpl
          refine ⟨Nat, [1000], fun j => [(0, .rv 1000 fun _ => hd), (5, .rv 1000 fun _ => x.2.1), (9, .int .i64 (.s fun _ => (j : Int)))], fun _ => [(1000, .cust none (fun _ => memΦ v0 x.2.2))], fun j => j ≤ N, fun j => N - j, 0, [(1000, some 1000)], Nat.zero_le _, ⟨?_⟩, fun j hj => ?_⟩
          · cbv
            and_intros
            all_goals first | exact trivial | exact ⟨rfl⟩ | exact ⟨rfl, fun _ _ _ h => h⟩ | exact ⟨by kernel_rfl⟩
          · have r1 := len_c (v0 := v0) (H := x.2.2) Try.underlying53 hsd
            cbv
            refine ⟨Unit, _, _, r1, ⟨by kernel_rfl⟩, fun _ => ⟨⟨by kernel_rfl⟩, ?_⟩⟩
            cbv
            refine And.intro ?_ ?_
            · intro h1
              have h1 : (j : Int) < (N : Int) := of_decide_eq_true h1
              have hlt : j < N := by omega
              have bi : bound64 ((j : Int) + 1) := by unfold bound64; omega
              have ei : (j : Int) + 1 = ((j + 1 : Nat) : Int) := by omega
              have bi1 : bound64 (-1 - (j : Int)) := by unfold bound64; omega
              have bi97 : bound64 ((j : Int) * 1000) := by unfold bound64; omega
              have bi97' : bound64 ((-1 - (j : Int)) * 1000) := by unfold bound64; omega
              have hmi : N - (j + 1) < N - j := by omega
              have hnx := hnb _ hlt
              have hsx := hsf _ hlt
              have hsy := hP.shpf (hNl _ hlt)
              have r2 := idx_c (v0 := v0) (H := x.2.2) Try.underlying53 rfl rfl hsd hlt (z := (j : Int)) rfl
              have r3 := eload_c (v0 := v0) (H := x.2.2) hB (hNl _ hlt) (hhf j) hsx.one
              have r4 := len_c (v0 := v0) (H := x.2.2) Try.underlying22 hsx
              have r5 := idx_c (v0 := v0) (H := x.2.2) Try.underlying53 rfl rfl hsl hlt (z := (j : Int)) rfl
              have r6 := endE_load (v0 := v0) hP (hNl _ hlt)
              cbv
              refine ⟨Unit, _, _, r2, ⟨by kernel_rfl⟩, fun _ => ⟨⟨by kernel_rfl⟩, ?_⟩⟩
              cbv
              refine ⟨Unit, _, _, r3, ⟨by kernel_rfl⟩, fun _ => ⟨⟨by kernel_rfl⟩, ?_⟩⟩
              cbv
              refine ⟨Unit, _, _, r4, ⟨by kernel_rfl⟩, fun _ => ⟨⟨by kernel_rfl⟩, ?_⟩⟩
              cbv
              refine ⟨Nat, [1000], fun k => [(0, .rv 1000 fun _ => hd), (5, .rv 1000 fun _ => x.2.1), (9, .int .i64 (.s fun _ => (j : Int))), (10, .int .i64 (.s fun _ => (nf j : Int))), (11, .int .i64 (.s fun _ => (k : Int)))], fun _ => [(1000, .cust none (fun _ => memΦ v0 x.2.2))], fun k => k ≤ nf j, fun k => nf j - k, 0, [(1000, some 1000)], Nat.zero_le _, ⟨?_⟩, fun k hk => ?_⟩
              · cbv
                and_intros
                all_goals first | exact trivial | exact ⟨rfl⟩ | exact ⟨rfl, fun _ _ _ h => h⟩ | exact ⟨by kernel_rfl⟩
              · cbv
                refine And.intro ?_ ?_
                · intro h2
                  have h2 : (k : Int) < (nf j : Int) := of_decide_eq_true h2
                  have hkn : k < nf j := by omega
                  have bk1 : bound64 ((k : Int) + 1) := by unfold bound64; omega
                  have bk13 : bound64 ((j : Int) * 1000 + (k : Int)) := by unfold bound64; omega
                  have bs : bound64 ((j : Int) * 1000 + (k : Int) + 7000000) := by unfold bound64; omega
                  have ek : (k : Int) + 1 = ((k + 1 : Nat) : Int) := by omega
                  have hmk : nf j - (k + 1) < nf j - k := by omega
                  have q1 := idx4_c (v0 := v0) (H := x.2.2) Try.underlying22 rfl rfl hsx hkn (z := (k : Int)) rfl
                  have q2 := endE_own (v0 := v0) hP hnf (hNl _ hlt) hkn
                  have q3 := idx4_c (v0 := v0) (H := x.2.2) Try.underlying22 rfl rfl hsy (show k < nf j + 8 by omega) (z := (k : Int)) rfl
                  have q4 := endE_long (v0 := v0) hP hnf (hNl _ hlt) hkn
                  cbv
                  refine ⟨Unit, _, _, r2, ⟨by kernel_rfl⟩, fun _ => ⟨⟨by kernel_rfl⟩, ?_⟩⟩
                  cbv
                  refine ⟨Unit, _, _, r3, ⟨by kernel_rfl⟩, fun _ => ⟨⟨by kernel_rfl⟩, ?_⟩⟩
                  cbv
                  refine ⟨Unit, _, _, q1, ⟨by kernel_rfl⟩, fun _ => ⟨⟨by kernel_rfl⟩, ?_⟩⟩
                  cbv
                  refine ⟨Unit, _, _, field_c, ⟨by kernel_rfl⟩, fun _ => ⟨⟨by kernel_rfl⟩, ?_⟩⟩
                  cbv
                  refine ⟨Unit, _, _, q2, ⟨by kernel_rfl⟩, fun _ => ⟨⟨by kernel_rfl⟩, ?_⟩⟩
                  cbv
                  refine ⟨⟨bi97⟩, ⟨bk13⟩, ⟨bs⟩, fun h3 => ?_, fun h3 => ?_⟩
                  · have h4 : (!decide (IntKind.u32.wrap ((j : Int) * 1000 + (k : Int) + 7000000) = IntKind.u32.wrap ((j : Int) * 1000 + (k : Int) + 7000000))) = true := h3
                    have h5 : False := by simp at h4
                    cbv
                    exact False.elim h5
                  cbv
                  refine ⟨Unit, _, _, r5, ⟨by kernel_rfl⟩, fun _ => ⟨⟨by kernel_rfl⟩, ?_⟩⟩
                  cbv
                  refine ⟨Unit, _, _, r6, ⟨by kernel_rfl⟩, fun _ => ⟨⟨by kernel_rfl⟩, ?_⟩⟩
                  cbv
                  refine ⟨Unit, _, _, q3, ⟨by kernel_rfl⟩, fun _ => ⟨⟨by kernel_rfl⟩, ?_⟩⟩
                  cbv
                  refine ⟨Unit, _, _, field_c, ⟨by kernel_rfl⟩, fun _ => ⟨⟨by kernel_rfl⟩, ?_⟩⟩
                  cbv
                  refine ⟨Unit, _, _, q4, ⟨by kernel_rfl⟩, fun _ => ⟨⟨by kernel_rfl⟩, ?_⟩⟩
                  cbv
                  refine ⟨⟨bi97⟩, ⟨bk13⟩, ⟨bs⟩, fun h3 => ?_, fun h3 => ?_⟩
                  · have h4 : (!decide (IntKind.u32.wrap ((j : Int) * 1000 + (k : Int) + 7000000) = IntKind.u32.wrap ((j : Int) * 1000 + (k : Int) + 7000000))) = true := h3
                    have h5 : False := by simp at h4
                    cbv
                    exact False.elim h5
                  cbv
                  refine ⟨⟨bk1⟩, k + 1, [(1000, some 1000)], hkn, hmk, ⟨?_⟩, ⟨?_⟩⟩
                  · kernel_rfl
                  · cbv
                    and_intros
                    all_goals first | exact trivial | exact ⟨rfl⟩ | exact ⟨ek⟩ | exact ⟨rfl, fun _ _ _ h => h⟩ | exact ⟨by kernel_rfl⟩
                · intro h2
                  cbv
                  refine ⟨Nat, [1000], fun k => [(0, .rv 1000 fun _ => hd), (5, .rv 1000 fun _ => x.2.1), (9, .int .i64 (.s fun _ => (j : Int))), (10, .int .i64 (.s fun _ => (nf j : Int))), (12, .int .i64 (.s fun _ => (k : Int)))], fun _ => [(1000, .cust none (fun _ => memΦ v0 x.2.2))], fun k => k ≤ 8, fun k => 8 - k, 0, [(1000, some 1000)], Nat.zero_le _, ⟨?_⟩, fun k hk => ?_⟩
                  · cbv
                    and_intros
                    all_goals first | exact trivial | exact ⟨rfl⟩ | exact ⟨rfl, fun _ _ _ h => h⟩ | exact ⟨by kernel_rfl⟩
                  · cbv
                    refine And.intro ?_ ?_
                    · intro h2
                      have h2 : (k : Int) < 8 := of_decide_eq_true h2
                      have hkn : k < 8 := by omega
                      have bk1 : bound64 ((k : Int) + 1) := by unfold bound64; omega
                      have bk13 : bound64 ((-1 - (j : Int)) * 1000 + (k : Int)) := by unfold bound64; omega
                      have bn : bound64 ((nf j : Int) + (k : Int)) := by unfold bound64; omega
                      have bs : bound64 ((-1 - (j : Int)) * 1000 + (k : Int) + 7000000) := by unfold bound64; omega
                      have ek : (k : Int) + 1 = ((k + 1 : Nat) : Int) := by omega
                      have hmk : 8 - (k + 1) < 8 - k := by omega
                      have q3 := idx4_c (v0 := v0) (H := x.2.2) Try.underlying22 rfl rfl hsy (show nf j + k < nf j + 8 by omega) (z := (nf j : Int) + (k : Int)) (by omega)
                      have q4 := endE_more (v0 := v0) hP hnf (hNl _ hlt) hkn
                      cbv
                      refine ⟨Unit, _, _, r5, ⟨by kernel_rfl⟩, fun _ => ⟨⟨by kernel_rfl⟩, ?_⟩⟩
                      cbv
                      refine ⟨Unit, _, _, r6, ⟨by kernel_rfl⟩, fun _ => ⟨⟨by kernel_rfl⟩, ?_⟩⟩
                      cbv
                      refine ⟨⟨bn⟩, ?_⟩
                      refine ⟨Unit, _, _, q3, ⟨by kernel_rfl⟩, fun _ => ⟨⟨by kernel_rfl⟩, ?_⟩⟩
                      cbv
                      refine ⟨Unit, _, _, field_c, ⟨by kernel_rfl⟩, fun _ => ⟨⟨by kernel_rfl⟩, ?_⟩⟩
                      cbv
                      refine ⟨Unit, _, _, q4, ⟨by kernel_rfl⟩, fun _ => ⟨⟨by kernel_rfl⟩, ?_⟩⟩
                      cbv
                      refine ⟨⟨bi1⟩, ⟨bi97'⟩, ⟨bk13⟩, ⟨bs⟩, fun h3 => ?_, fun h3 => ?_⟩
                      · have h4 : (!decide (IntKind.u32.wrap ((-1 - (j : Int)) * 1000 + (k : Int) + 7000000) = IntKind.u32.wrap ((-1 - (j : Int)) * 1000 + (k : Int) + 7000000))) = true := h3
                        have h5 : False := by simp at h4
                        cbv
                        exact False.elim h5
                      cbv
                      refine ⟨⟨bk1⟩, k + 1, [(1000, some 1000)], hkn, hmk, ⟨?_⟩, ⟨?_⟩⟩
                      · kernel_rfl
                      · cbv
                        and_intros
                        all_goals first | exact trivial | exact ⟨rfl⟩ | exact ⟨ek⟩ | exact ⟨rfl, fun _ _ _ h => h⟩ | exact ⟨by kernel_rfl⟩
                    · intro h2
                      cbv
                      refine ⟨⟨bi⟩, j + 1, [(1000, some 1000)], hlt, hmi, ⟨?_⟩, ⟨?_⟩⟩
                      · kernel_rfl
                      · cbv
                        and_intros
                        all_goals first | exact trivial | exact ⟨rfl⟩ | exact ⟨ei⟩ | exact ⟨rfl, fun _ _ _ h => h⟩ | exact ⟨by kernel_rfl⟩
            · intro h1
              cbv
              refine ⟨[(1000, some 1000)], [], ?_⟩
              cbv
              and_intros
              all_goals first | exact trivial | exact ⟨rfl⟩ | exact ⟨rfl, hfin⟩ | exact ⟨by kernel_rfl⟩
end Go.Proofs.Ytmdfjipjkkjpcaa

/- The book: Bytes, Entries, Own, as calls that leave ghosts. -/
namespace Go.Proofs.Ytmdfjipjkkjpcaa
open Go.SX

/-- What a list leaves in the book: the book's value and memory, the list's own. -/
abbrev PutB (hb he : List Value) (bs : List UInt8) := {x : (Value × Mem) × (Value × Mem) // BookM (hb ++ [x.2.1]) he x.1.2 ∧ OneB bs x.2}
abbrev PutE (hb he : List Value) (es : List Ent) := {x : ((Value × Mem) × (Value × Mem)) × (Nat → Value) × (Nat → Value) // BookM (hb ++ kvs x.2.1 x.2.2 es.length) (he ++ [x.1.2.1]) x.1.1.2 ∧ OneE es x.2.1 x.2.2 x.1.2}

theorem loc_set {k : Nat} (hk : k ≠ 1000) {η : OEnv} {G : Nat → Prop} {w : World} {o : Nat} {v : Value} {o' : OInfo} (h : SVRel η G w (.loc 1000 o) v) : SVRel (fun j => if j = k then some o' else η j) G w (.loc 1000 o) v := by
  obtain ⟨o2, h1, h2⟩ := h
  exact ⟨o2, by show (if 1000 = k then some o' else η 1000) = some o2; rw [if_neg fun e => hk e.symm]; exact h1, h2⟩

theorem con18k {H : Mem} {hb he : List Value} {v0 : Value} {bs : Unit → List UInt8} {x : Value × Mem} (hB : BookM hb he H) (hone : x.1.oneCell' = true) (hl : hb.length < 1000000) :
    SpecG Try.prog 18 [.loc 1000 0, .rv 1001 (fun _ => x.1)] [(1000, .cust none (fun _ => memΦ v0 H)), (1001, knownB bs x)] {H' : Mem // BookM (hb ++ [x.1]) he H'} (fun _ => .tup []) (fun y => [(1000, .cust none (fun _ => memΦ v0 y.1)), (1001, knownB bs x)]) :=
  specG_frame (k := 1001) frm_cust (objs := [(1000, .cust none (fun _ => memΦ v0 H))]) (objs' := fun y => [(1000, .cust none (fun _ => memΦ v0 y.1))]) (specG_out (con18h hB hone hl).spec) (by rw [lookN_one]; rfl) (fun _ => by rw [lookN_one]; rfl) (look_two (by decide)) (fun _ => look_two (by decide)) (fun _ _ => cst_one cst_cust) (fun _ _ _ => cst_one cst_cust) (fun η G w vs h => by
    match vs, h with
    | [v1, v2], h => exact ⟨loc_keep (by decide) h.1, h.2.1, trivial⟩
    | [], h => exact h.elim
    | [_], h => exact h.2.elim
    | _ :: _ :: _ :: _, h => exact h.2.2.elim) (fun _ => tup_any)

theorem con18g {H : Mem} {hb he : List Value} {v0 : Value} {bs : List UInt8} (hB : BookM hb he H) (hl : hb.length < 1000000) :
    ConG 18 [.loc 1000 0, .own 1001] [(1000, .cust none (fun _ => memΦ v0 H)), (1001, .barr 5 fun _ => bs)] (PutB hb he bs) (fun _ => .tup []) (fun x => [(1000, .cust none (fun _ => memΦ x.1.1.1 x.1.1.2)), (1001, knownB (fun _ => bs) x.1.2)]) := by
  have h := ConG.mk (specG_open (P := Try.prog) (f := 18) (bs := fun _ => bs) (A := .cust none (fun _ => memΦ v0 H)) (Y := fun x => {H' : Mem // BookM (hb ++ [x.1]) he H'}) (o' := fun x y => [(1000, .cust none (fun _ => memΦ v0 y.1)), (1001, knownB (fun _ => bs) x)]) fun x hx hone => con18k hB hone hl)
  exact conG_map h (fun s => ⟨((v0, s.2.1), s.1.1), s.2.2, s.1.2⟩) (fun _ => rfl) (fun _ => rfl)

theorem con29k {H : Mem} {hb he : List Value} {v0 : Value} {es : List Ent} {kv vv : Nat → Value} {x : Value × Mem} (hB : BookM hb he H) (hE : OneE es kv vv x) (hlb : hb.length < 100000) (hle : he.length < 1000000) (hn : es.length < 100000) :
    SpecG Try.prog 29 [.loc 1000 0, .rv 1001 (fun _ => x.1)] [(1000, .cust none (fun _ => memΦ v0 H)), (1001, knownE es x)] {H' : Mem // BookM (hb ++ kvs kv vv es.length) (he ++ [x.1]) H'} (fun _ => .tup []) (fun y => [(1000, .cust none (fun _ => memΦ v0 y.1)), (1001, knownE es x)]) :=
  specG_kn (k := 1001) (hl := x.1) (more := x.2) (specG_outs (con29r hB hE hlb hle hn).spec) (by simp only [look_cons, look_nil]; rfl) (fun _ => by simp only [look_cons, look_nil]; rfl)
    (fun j => by rw [look_two (by decide), look_two (by decide)]; split <;> rfl) (fun _ j => by rw [look_two (by decide), look_two (by decide)]; split <;> rfl)
    (fun j Y h => by
      rw [look_two (by decide)] at h
      split at h
      · cases h; exact cst_cust
      · exact cst_one cst_cust h) (fun _ j Y h => by
      rw [look_two (by decide)] at h
      split at h
      · cases h; exact cst_cust
      · exact cst_one cst_cust h) (fun η G w vs o h => by
    match vs, h with
    | [v1, v2], h => exact ⟨loc_set (by decide) h.1, h.2.1, trivial⟩
    | [], h => exact h.elim
    | [_], h => exact h.2.elim
    | _ :: _ :: _ :: _, h => exact h.2.2.elim) (fun _ => tup_any)

/-- A list of entries handed in becomes known. -/
theorem specG_openE {f : Nat} {A : TObj} {es : List Ent} {Y : (Value × Mem) × (Nat → Value) × (Nat → Value) → Type} {o' : (x : (Value × Mem) × (Nat → Value) × (Nat → Value)) → Y x → Objs}
    (h : ∀ x : (Value × Mem) × (Nat → Value) × (Nat → Value), OneE es x.2.1 x.2.2 x.1 → SpecG Try.prog f [.loc 1000 0, .rv 1001 (fun _ => x.1.1)] [(1000, A), (1001, knownE es x.1)] (Y x) (fun _ => .tup []) (o' x)) :
    SpecG Try.prog f [.loc 1000 0, .own 1001] [(1000, A), (1001, .arrD 74 4 (fun _ => es.length) (lrow encE fun _ => es))] ((x : {x : (Value × Mem) × (Nat → Value) × (Nat → Value) // OneE es x.2.1 x.2.2 x.1}) × Y x.1) (fun _ => .tup []) (fun s => o' s.1.1 s.2) := by
  intro η G vs w hsep hob hs
  have hob1 := hob 1001
  rw [look_two (by decide), if_pos rfl] at hob1
  match vs, hs with
  | [v1, v2], hs =>
    simp only [SVRels] at hs
    obtain ⟨hs1, hs2, -⟩ := hs
    simp only [SVRel] at hs2
    obtain ⟨o, ho, hone, hv⟩ := hs2
    rw [ho] at hob1
    obtain ⟨more, kv, vv, hE, hR⟩ := arrD_known (η := η) (G := G) (w := w) (o := o) hob1 (fun b hb => hsep.mi 1001 o ho b hb)
    have hv2 : v2 = o.val := hv hR.1.1
    refine (h ((o.val, more), kv, vv) hE η G [v1, v2] w hsep (fun j => ?_) ⟨hs1, ⟨hv2, hone⟩, trivial⟩).mono fun v w' ⟨y, η', G', hh⟩ => ⟨⟨⟨_, hE⟩, y⟩, η', G', hh⟩
    have hj := hob j
    rw [look_two (by decide)] at hj ⊢
    by_cases e : j = 1001
    · subst e
      rw [if_pos rfl, ho]; exact hR
    · rw [if_neg e] at hj ⊢; exact hj
  | [], h => exact h.elim
  | [_], h => exact h.2.elim
  | _ :: _ :: _ :: _, h => exact h.2.2.elim

theorem con29g {H : Mem} {hb he : List Value} {v0 : Value} {es : List Ent} (hB : BookM hb he H) (hlb : hb.length < 100000) (hle : he.length < 1000000) (hn : es.length < 100000) :
    ConG 29 [.loc 1000 0, .own 1001] [(1000, .cust none (fun _ => memΦ v0 H)), (1001, .arrD 74 4 (fun _ => es.length) (lrow encE fun _ => es))] (PutE hb he es) (fun _ => .tup []) (fun x => [(1000, .cust none (fun _ => memΦ x.1.1.1.1 x.1.1.1.2)), (1001, knownE es x.1.1.2)]) := by
  have h := ConG.mk (specG_openE (f := 29) (A := .cust none (fun _ => memΦ v0 H)) (Y := fun x => {H' : Mem // BookM (hb ++ kvs x.2.1 x.2.2 es.length) (he ++ [x.1.1]) H'}) (o' := fun x y => [(1000, .cust none (fun _ => memΦ v0 y.1)), (1001, knownE es x.1)]) fun x hx => con29k hB hx hlb hle hn)
  exact conG_map h (fun s => ⟨(((v0, s.2.1), s.1.1.1), s.1.1.2.1, s.1.1.2.2), s.2.2, s.1.2⟩) (fun _ => rfl) (fun _ => rfl)

theorem bookM_new (bb : Nat) : BookM [] [] [(bb, 61, List.replicate 23 nilV)] := ⟨bb, nilV, nilV, [], 0, 0, rfl, .inl ⟨rfl, rfl, rfl, rfl⟩, .inl ⟨rfl, rfl, rfl, rfl⟩⟩
theorem fresh_book {η : OEnv} {G : Nat → Prop} {w : World} {o : OInfo} (ho : ObjRel η G w (.cells 61 nils23) o) : ∃ y : Value × Nat, True ∧ ObjRel η G w (.cust none (fun _ => memΦ y.1 [(y.2, 61, List.replicate 23 nilV)])) o := by
  obtain ⟨h1, h2, b, vs, hm, hh, hs⟩ := ho
  have hv : vs = List.replicate 23 nilV := nils_rel 23 vs hs
  subst hv
  exact ⟨(o.val, b), trivial, h1, h2, fun w' hw' => ⟨⟨rfl, hm, by rw [hm]; simp, fun p hp => by
    simp at hp; subst hp
    unfold HasRow; rw [hw' b (by rw [hm]; simp)]; exact hh⟩, fun x hx => by cases hx⟩⟩
theorem con29g0 {es : List Ent} (hn : es.length < 100000) : ConG 29 [.loc 1000 0, .own 1001] [(1000, .cells 61 [.nil, .nil, .nil, .nil, .nil, .nil, .nil, .nil, .nil, .nil, .nil, .nil, .nil, .nil, .nil, .nil, .nil, .nil, .nil, .nil, .nil, .nil, .nil]), (1001, .arrD 74 4 (fun _ => es.length) (lrow encE fun _ => es))]
    (PutE [] [] es) (fun _ => .tup []) (fun x => [(1000, .cust none (fun _ => memΦ x.1.1.1.1 x.1.1.1.2)), (1001, knownE es x.1.1.2)]) := by
  have h := ConG.mk (specG_conv (P := Try.prog) (f := 29) (k := 1000) (svs := [.loc 1000 0, .own 1001]) (A := .cells 61 nils23) (rest := [(1001, .arrD 74 4 (fun _ => es.length) (lrow encE fun _ => es))]) (Y := Value × Nat) (F := fun _ => True) (A' := fun y => .cust none (fun _ => memΦ y.1 [(y.2, 61, List.replicate 23 nilV)]))
    (X := fun _ => PutE [] [] es) (r := fun _ _ => .tup []) (objs' := fun _ x => [(1000, .cust none (fun _ => memΦ x.1.1.1.1 x.1.1.1.2)), (1001, knownE es x.1.1.2)]) (fun η G w o ho => fresh_book ho)
    fun y _ => (con29g (v0 := y.1) (es := es) (bookM_new y.2) (by decide) (by decide) hn).spec)
  exact conG_map h (fun s => s.2) (fun _ => rfl) (fun _ => rfl)

/- OWN -/
def F2 {α β : Type} (R : α → β → Prop) : List α → List β → Prop
  | [], [] => True
  | a :: l, b :: m => R a b ∧ F2 R l m
  | _, _ => False
theorem F2.app {α β : Type} {R : α → β → Prop} : ∀ {l : List α} {m : List β} {l' : List α} {m' : List β}, F2 R l m → F2 R l' m' → F2 R (l ++ l') (m ++ m')
  | [], [], _, _, _, h => h
  | [], _ :: _, _, _, h, _ => h.elim
  | _ :: _, [], _, _, h, _ => h.elim
  | _ :: _, _ :: _, _, _, h, h' => ⟨h.1, F2.app h.2 h'⟩
theorem F2.mono {α β : Type} {R S : α → β → Prop} (hR : ∀ a b, R a b → S a b) : ∀ {l : List α} {m : List β}, F2 R l m → F2 S l m
  | [], [], _ => trivial
  | [], _ :: _, h => h.elim
  | _ :: _, [], h => h.elim
  | _ :: _, _ :: _, h => ⟨hR _ _ h.1, F2.mono hR h.2⟩
theorem F2.len {α β : Type} {R : α → β → Prop} : ∀ {l : List α} {m : List β}, F2 R l m → l.length = m.length
  | [], [], _ => rfl
  | [], _ :: _, h => h.elim
  | _ :: _, [], h => h.elim
  | _ :: _, _ :: _, h => by rw [List.length_cons, List.length_cons, F2.len h.2]
theorem F2.at {R : Value → Nat → Prop} : ∀ {l : List Value} {m : List Nat}, F2 R l m → ∀ i, i < m.length → R (l.getD i nilV) (m.getD i 0)
  | [], [], _, i, hi => by simp at hi
  | [], _ :: _, h, _, _ => h.elim
  | _ :: _, [], h, _, _ => h.elim
  | _ :: _, _ :: _, h, 0, _ => h.1
  | _ :: _, _ :: _, h, i + 1, hi => F2.at h.2 i (by simpa using hi)

/-- What is known of the lists of a book, in their memory. -/
structure Fac (M : Mem) (hb : List Value) (ns : List Nat) (he : List Value) (es : List Nat) : Prop where
  fb : F2 (LisM M) hb ns
  fe : F2 (fun h n => MarkE M 0 h n 0) he es
  db : (hb.filterMap Value.ownBlock).Nodup
  de : (he.filterMap Value.ownBlock).Nodup
  ib : ∀ b ∈ hb.filterMap Value.ownBlock, b ∈ M.map (·.1)
  ie : ∀ b ∈ he.filterMap Value.ownBlock, b ∈ M.map (·.1)
theorem MarkE.mono {H H' : Mem} {h : Value} {n : Nat} {i j : Nat} (hl : MarkE H i h n 0) (hk : ∀ p ∈ H, p.2.1 = 74 → p ∈ H') : MarkE H' j h n 0 := by
  rcases hl with h | ⟨b, c, cs, q1, q2, q3, q4, q5, _⟩
  · exact .inl h
  · exact .inr ⟨b, c, cs, q1, hk _ q2 rfl, q3, q4, q5, fun k hk => by omega⟩
theorem Fac.nil : Fac [] [] [] [] [] := ⟨trivial, trivial, .nil, .nil, by simp, by simp⟩
theorem Fac.add {M M' : Mem} {hb hb' he he' : List Value} {ns ns' es es' : List Nat} (h : Fac M hb ns he es) (h' : Fac M' hb' ns' he' es') (hn : ((M ++ M').map (·.1)).Nodup) : Fac (M ++ M') (hb ++ hb') (ns ++ ns') (he ++ he') (es ++ es') := by
  rw [List.map_append] at hn
  obtain ⟨_, _, hd⟩ := List.nodup_append.1 hn
  refine ⟨(h.fb.mono fun _ _ q => q.mono fun p hp _ => List.mem_append_left _ hp).app (h'.fb.mono fun _ _ q => q.mono fun p hp _ => List.mem_append_right _ hp),
    (h.fe.mono fun _ _ q => q.mono fun p hp _ => List.mem_append_left _ hp).app (h'.fe.mono fun _ _ q => q.mono fun p hp _ => List.mem_append_right _ hp), ?_, ?_, fun b hb => ?_, fun b hb => ?_⟩
  · rw [List.filterMap_append]
    exact List.nodup_append.2 ⟨h.db, h'.db, fun a ha b hb e => hd a (h.ib a ha) b (h'.ib b hb) e⟩
  · rw [List.filterMap_append]
    exact List.nodup_append.2 ⟨h.de, h'.de, fun a ha b hb e => hd a (h.ie a ha) b (h'.ie b hb) e⟩
  · rw [List.filterMap_append] at hb
    rw [List.map_append]
    exact (List.mem_append.1 hb).elim (fun q => List.mem_append_left _ (h.ib b q)) fun q => List.mem_append_right _ (h'.ib b q)
  · rw [List.filterMap_append] at hb
    rw [List.map_append]
    exact (List.mem_append.1 hb).elim (fun q => List.mem_append_left _ (h.ie b q)) fun q => List.mem_append_right _ (h'.ie b q)
theorem fac_bytes {bs : List UInt8} {x : Value × Mem} (h : OneB bs x) : Fac x.2 [x.1] [bs.length] [] [] := by
  rcases h.1 with ⟨q1, q2, q3⟩ | ⟨b, c, cs, q1, q2, q3, q4, q5⟩
  · exact ⟨⟨.inl ⟨q2, q3⟩, trivial⟩, trivial, by rw [q2]; exact List.Pairwise.nil, .nil, (fun b hb => by rw [q2] at hb; cases hb), by simp⟩
  · exact ⟨⟨.inr ⟨b, c, cs, q2, by rw [q1]; simp, by omega, q4, q5⟩, trivial⟩, trivial, by rw [q2]; simp [Value.ownBlock], .nil, by rw [q2, q1]; simp [Value.ownBlock], by simp⟩
/-- The lengths of a list's keys and values. -/
def kvn (es : List Ent) (n : Nat) : List Nat := (List.range n).flatMap fun i => [(es.getD i default).key.length, (es.getD i default).val.length]
theorem kvn_next (es : List Ent) (n : Nat) : kvn es (n + 1) = kvn es n ++ [(es.getD n default).key.length, (es.getD n default).val.length] := by unfold kvn; rw [List.range_succ, List.flatMap_append]; rfl
theorem fac_ents {es : List Ent} {kv vv : Nat → Value} {x : Value × Mem} (h : OneE es kv vv x) : Fac x.2 (kvs kv vv es.length) (kvn es es.length) [x.1] [es.length] := by
  have hblk : ∀ {v : Value} {n b : Nat}, LisM x.2 v n → v.ownBlock = some b → b ∈ x.2.map (·.1) := fun hl hb => hl.blk hb
  have hf : ∀ n, n ≤ es.length → F2 (LisM x.2) (kvs kv vv n) (kvn es n) ∧ ∀ b ∈ (kvs kv vv n).filterMap Value.ownBlock, b ∈ x.2.map (·.1) := by
    intro n
    induction n with
    | zero => exact fun _ => ⟨trivial, by simp [kvs]⟩
    | succ n ih =>
      intro hn
      obtain ⟨i1, i2⟩ := ih (by omega)
      rw [kvs_next, kvn_next]
      refine ⟨i1.app ⟨h.key n hn, h.val n hn, trivial⟩, fun b hb => ?_⟩
      rw [List.filterMap_append] at hb
      rcases List.mem_append.1 hb with hb | hb
      · exact i2 b hb
      · obtain ⟨v, hv, hvb⟩ := List.mem_filterMap.1 hb
        simp at hv
        rcases hv with rfl | rfl
        · exact hblk (h.key n hn) hvb
        · exact hblk (h.val n hn) hvb
  refine ⟨(hf _ (Nat.le_refl _)).1, ⟨?_, trivial⟩, h.dist, ?_, (hf _ (Nat.le_refl _)).2, ?_⟩
  · rcases h.lst with ⟨q1, q2⟩ | ⟨b, c, cs, q1, q2, q3, q4, q5, q6⟩
    · exact .inl ⟨q1, q2⟩
    · exact .inr ⟨b, c, cs, q1, q2, q3, q4, q5, fun k hk => by omega⟩
  · cases e : x.1.ownBlock <;> simp [e]
  · intro b hb
    rcases h.lst with ⟨q1, q2⟩ | ⟨b', c, cs, q1, q2, q3, q4, q5, q6⟩
    · rw [q1] at hb; simp [nilV, Value.ownBlock] at hb
    · rw [q1] at hb
      simp [Value.ownBlock] at hb
      subst hb
      exact List.mem_map.2 ⟨_, q2, rfl⟩
theorem fac_none : Fac [] [] [] [nilV] [0] := ⟨trivial, ⟨.inl ⟨rfl, rfl⟩, trivial⟩, .nil, List.Pairwise.nil, by simp, fun b hb => by cases hb⟩

theorem con23p {hb he : List Value} {ns es : List Nat} {H M : Mem} {v0 : Value} (hB : BookM hb he H) (hF : Fac M hb ns he es) (hn : ((H ++ M).map (·.1)).Nodup) (hN : ns.length < 1000000) (hE : es.length < 1000) (hb1 : ∀ n ∈ ns, n < 1000000000) (hb2 : ∀ n ∈ es, n < 1000000000) :
    Con 23 [.loc 1000 0] [(1000, .cust none (fun _ => memΦ v0 (H ++ M)))] (.bool .t) [(1000, .dead)] := by
  obtain ⟨bb, hd, e, r, c, c', hH, hbk, hek⟩ := hB
  have top : topQ bb (topC hd e) (H ++ M) := ⟨r ++ M, by rw [hH]; rfl⟩
  have l1 := hF.fb.len
  have l2 := hF.fe.len
  have B : BkAt ns (H ++ M) bb (topC hd e) hd hb c := ⟨top, by rw [← l1]; exact slm_keep hbk fun p hp _ => List.mem_append_left _ hp, l1, fun i hi => (hF.fb.at i hi).mono fun p hp _ => List.mem_append_right _ hp, hF.db⟩
  obtain ⟨K, hK⟩ : ∃ K : Mem, K = (H ++ M).filter fun p => decide (p.2.1 ≠ 5 ∧ p.2.1 ≠ 27) := ⟨_, rfl⟩
  have kK : Kept K (H ++ M) := fun p hp => by
    rw [hK] at hp
    obtain ⟨q1, q2⟩ := List.mem_filter.1 hp
    exact ⟨of_decide_eq_true q2, q1⟩
  refine con23o (K := K) top (slm_one hbk) (slm_one hek) (con49m hN hb1 (marks_0 B kK) hn) fun H' ht' hk' hn' => ?_
  have keep : ∀ p ∈ H ++ M, p.2.1 ≠ 5 → p.2.1 ≠ 27 → p ∈ H' := fun p hp h5 h27 => (hk' p (by rw [hK]; exact List.mem_filter.2 ⟨hp, decide_eq_true ⟨h5, h27⟩⟩)).2
  have A : EkAt es H' bb (topC hd e) e he c' := ⟨ht', by rw [← l2]; exact slm_keep hek fun p hp h => keep p (List.mem_append_left _ hp) (by omega) (by omega), l2, fun i hi => (hF.fe.at i hi).mono fun p hp h => keep p (List.mem_append_right _ hp) (by omega) (by omega), hF.de⟩
  exact con65m hE hb2 (marksE_0 A) hn'
end Go.Proofs.Ytmdfjipjkkjpcaa

/- NodeTurns: callees: what is lent, Halves, Join, the book's Own of six lists. -/
namespace Go.SX
section
variable {P : Program} {f : Nat}
/-- A new object whose blocks all lie within. -/
theorem specX_within {svs : List SV} {d : Option DV} {Φ : Unit → World → Value → List Nat → Prop} (h : SpecX P f svs [] (.own 2000) [(2000, .cust d Φ)]) : SpecX P f svs [] (.own 2000) [(2000, .kn d Φ)] := by
  intro η G vs w hsep hob hs
  have hη : ∀ j, η j = none := fun j => opt_none (hob j)
  refine (h η G vs w hsep hob hs).mono fun v w' ⟨η', G', q1, q2, q3, q4⟩ => ?_
  have hk := q2 2000
  rw [look_cons, if_pos rfl] at hk
  cases ho : η' 2000 with
  | none => rw [ho] at hk; exact hk.elim
  | some o =>
  rw [ho] at hk
  obtain ⟨k1, k2, k3⟩ := hk
  have hot : ∀ j, j ≠ 2000 → η' j = none := fun j hj => opt_none (by have := q2 j; rwa [look_cons, if_neg hj] at this)
  have hin : ∀ {j : Nat} {oj : OInfo}, (if j = 2000 then some (⟨o.val, [], o.main, false⟩ : OInfo) else η' j) = some oj → j = 2000 ∧ oj = ⟨o.val, [], o.main, false⟩ := fun {j oj} hj => by
    by_cases e : j = 2000
    · rw [if_pos e] at hj; cases hj; exact ⟨e, rfl⟩
    · rw [if_neg e, hot j e] at hj; cases hj
  refine ⟨fun j => if j = 2000 then some ⟨o.val, [], o.main, false⟩ else η' j, G', ?_, fun j => ?_, ⟨fun j oj hj b hb => ?_, fun j oj j' oj' hj hj' hne => ?_, fun j oj hj b hb => ?_, q3.glt⟩, ⟨q4.os, q4.tape, q4.out, q4.size, q4.keep, fun j oj hj => ?_, q4.g, q4.g', fun j oj hj b hb => ?_⟩⟩
  · obtain ⟨o', h1, h2, h3⟩ := q1
    rw [ho] at h1; cases h1
    exact ⟨⟨o.val, [], o.main, false⟩, by simp, h2, fun _ => h3 k1⟩
  · show ObjOpt _ G' w' _ (if j = 2000 then some ⟨o.val, [], o.main, false⟩ else η' j)
    by_cases e : j = 2000
    · subst e
      rw [look_cons, if_pos rfl, if_pos rfl]
      exact ⟨⟨rfl, fun _ => rfl⟩, fun w2 hw2 => k3 w2 hw2⟩
    · rw [look_cons, if_neg e, if_neg e, hot j e]; trivial
  · obtain ⟨rfl, rfl⟩ := hin hj
    exact q3.lt 2000 o ho b (by simpa [k2] using hb)
  · obtain ⟨rfl, rfl⟩ := hin hj
    obtain ⟨rfl, rfl⟩ := hin hj'
    exact absurd rfl hne
  · obtain ⟨rfl, rfl⟩ := hin hj
    cases hb
  · rw [hη j] at hj; cases hj
  · obtain ⟨rfl, rfl⟩ := hin hj
    exact q4.blk 2000 o ho b (by simpa [k2] using hb)
/-- An object whose blocks lie within is handed in; it is gone behind. -/
theorem specX_gone {d : Option DV} {Φ : Unit → World → Value → List Nat → Prop} (h : SpecX P f [.own 1000] [(1000, .cust d Φ)] (.tup []) [(1000, .dead)]) : SpecX P f [.own 1000] [(1000, .kn d Φ)] (.tup []) [(1000, .dead)] := by
  intro η G vs w hsep hob hs
  have hk := hob 1000
  rw [look_cons, if_pos rfl] at hk
  cases ho : η 1000 with
  | none => rw [ho] at hk; exact hk.elim
  | some o =>
  rw [ho] at hk
  obtain ⟨⟨k1, _⟩, k3⟩ := hk
  have hot : ∀ j, j ≠ 1000 → η j = none := fun j hj => opt_none (by have := hob j; rwa [look_cons, if_neg hj] at this)
  obtain ⟨o2, ho2⟩ : ∃ o2 : OInfo, o2 = ⟨o.val, o.main ++ o.inner, [], false⟩ := ⟨_, rfl⟩
  have hin : ∀ {j : Nat} {oj : OInfo}, (if j = 1000 then some o2 else η j) = some oj → j = 1000 ∧ oj = o2 := fun {j oj} hj => by
    by_cases e : j = 1000
    · rw [if_pos e] at hj; cases hj; exact ⟨e, rfl⟩
    · rw [if_neg e, hot j e] at hj; cases hj
  have hsep1 : Sep (fun j => if j = 1000 then some o2 else η j) G w := by
    refine ⟨fun j oj hj b hb => ?_, fun j oj j' oj' hj hj' hne => ?_, fun j oj hj b hb => ?_, hsep.glt⟩
    · obtain ⟨rfl, rfl⟩ := hin hj
      exact hsep.lt 1000 o ho b (by rw [ho2] at hb; simpa using hb)
    · obtain ⟨rfl, _⟩ := hin hj
      obtain ⟨rfl, _⟩ := hin hj'
      exact absurd rfl hne
    · obtain ⟨_, rfl⟩ := hin hj
      rw [ho2]; simp
  refine (h (fun j => if j = 1000 then some o2 else η j) G vs w hsep1 (fun j => ?_) ?_).mono fun v w' ⟨η', G', q1, q2, q3, q4⟩ => ⟨η', G', q1, q2, q3, ⟨q4.os, q4.tape, q4.out, q4.size, fun b hb hn => ?_, fun j oj hj => ?_, q4.g, fun b hb => ?_, fun j oj hj b hb => ?_⟩⟩
  · show ObjOpt _ G w _ (if j = 1000 then some o2 else η j)
    by_cases e : j = 1000
    · subst e
      rw [look_cons, if_pos rfl, if_pos rfl]
      exact ⟨by rw [ho2], by rw [ho2], fun w2 hw2 => by rw [ho2] at hw2 ⊢; exact k3 w2 hw2⟩
    · rw [look_cons, if_neg e, if_neg e, hot j e]; trivial
  · match vs, hs with
    | [v1], hs =>
      obtain ⟨⟨o', h1, h2, h3⟩, -⟩ := hs
      rw [ho] at h1; cases h1
      exact ⟨⟨o2, by simp, h2, fun _ => by rw [ho2]; exact h3 k1⟩, trivial⟩
    | [], h => exact h.elim
    | _ :: _ :: _, h => exact h.2.elim
  · refine q4.keep b hb fun j oj hj hm => ?_
    obtain ⟨rfl, rfl⟩ := hin hj
    exact hn 1000 o ho (by rw [ho2] at hm; simpa using hm)
  · by_cases e : j = 1000
    · subst e
      obtain ⟨o', h1, h2⟩ := q4.obj 1000 o2 (by simp)
      refine ⟨o', h1, fun hd => ?_⟩
      have := q2 1000
      rw [look_cons, if_pos rfl, h1] at this
      have hdd : o'.dead = true := this.1
      rw [hd] at hdd; cases hdd
    · rw [hot j e] at hj; cases hj
  · rcases q4.g' b hb with h | h | ⟨j0, o0, h0, hb0⟩
    · exact .inl h
    · exact .inr (.inl h)
    · obtain ⟨rfl, rfl⟩ := hin h0
      exact .inr (.inr ⟨1000, o, ho, by rw [ho2] at hb0; simpa using hb0⟩)
  · rcases q4.blk j oj hj b hb with h | ⟨j0, o0, h0, hb0⟩
    · exact .inl h
    · obtain ⟨rfl, rfl⟩ := hin h0
      exact .inr ⟨1000, o, ho, by rw [ho2] at hb0; simpa using hb0⟩
end
end Go.SX
namespace Go.Proofs.Ytmdfjipjkkjpcaa
open Go.SX

def lentK (es : List Ent) : TObj := .kn (some (lentDV es)) (fun _ => lentΦ es)
theorem con11k {es : List Ent} (hs : ∀ e ∈ es, SmallE e) (hl : es.length < 1000000000) : Con 11 [.dat (entsDV es)] [] (.own 2000) [(2000, lentK es)] := ⟨specX_within (con11 hs hl).spec⟩
theorem con16k {es : List Ent} (hs : ∀ e ∈ es, SmallE e) (hl : es.length < 1000000000) : Con 16 [.own 1000] [(1000, lentK es)] (.tup []) [(1000, .dead)] := ⟨specX_gone (con16 hs hl).spec⟩
theorem rep_args {f : Nat} {A : DV} {es : List Ent} {objs objs' : Objs} {r : SV} (hA : RepE A es) (h : Con f [.dat (entsDV es)] objs r objs') : Con f [.dat A] objs r objs' := h.args fun η G w vs hv => by
  match vs, hv with
  | [v], hv => exact ⟨hA w G v hv.1, trivial⟩
  | [], h => exact h.elim
  | _ :: _ :: _, h => exact h.2.elim
theorem rep_args2 {f : Nat} {L A : DV} {es : List Ent} {objs objs' : Objs} {r : SV} (hA : RepE A es) (h : Con f [.dat L, .dat (entsDV es)] objs r objs') : Con f [.dat L, .dat A] objs r objs' := h.args fun η G w vs hv => by
  match vs, hv with
  | [v1, v2], hv => exact ⟨hv.1, hA w G v2 hv.2.1, trivial⟩
  | [], h => exact h.elim
  | [_], h => exact h.2.elim
  | _ :: _ :: _ :: _, h => exact h.2.2.elim

/-- The first element of what is lent. -/
theorem idx_lent {e : Ent} : Con (rawC 2 22) [.own 1000, .int .i64 (.l 0)] [(1000, lentK [e])] (.ep (some 1000) 4 (encE fun _ => e) 0) [(1000, lentK [e])] := by
  refine ⟨specX_ofG (raw_look (rawSem_rawC (by omega)) fun η G vs w hob hs => ?_)⟩
  match vs, hs with
  | [v1, v2], hs =>
    simp only [SVRels] at hs
    obtain ⟨h1, h2, -⟩ := hs
    simp only [SVRel, IE.den_l] at h2
    subst h2
    obtain ⟨o, ho, hone, hv⟩ := h1
    have hk := hob 1000
    rw [look_cons, if_pos rfl, ho] at hk
    obtain ⟨⟨k1, k2⟩, k3⟩ := hk
    have km : o.main = [] := k2 rfl
    obtain rfl := hv k1
    have hd := lent_ents ((k3 w fun _ _ => rfl).2 _ rfl)
    rw [km, List.nil_append] at hd
    obtain ⟨a, c, hva, hc, hr⟩ := hd
    obtain ⟨b, oo, ha, hb, hj⟩ := hr 0 (show 0 < 1 by omega)
    have hva : o.val = .slice a 1 c := hva
    rw [ha] at hva
    refine ⟨.pointer (some ⟨b, oo + 0 * 4, none⟩), ?_, o, ho, rfl, fun _ => ⟨b, oo, rfl, hb, fun j hj4 => ?_⟩⟩
    · rw [hva]
      exact run_indexAt eok Try.underlying22 (te := ⟨.struct [(27, 0), (27, 1), (72, 2), (72, 3)], 4, 56, [.nil, .nil, .int .u32 (.l 0), .int .u32 (.l 0)], [.bytes fun _ => [], .bytes fun _ => [], .bool fun _ => false, .bool fun _ => false]⟩) rfl b oo 1 c .i64 0 (by omega) (by omega)
    · obtain ⟨u, hu, hd⟩ := hj j hj4
      exact ⟨u, by simpa using hu, hd⟩
  | [], h => exact h.elim
  | [_], h => exact h.2.elim
  | _ :: _ :: _ :: _, h => exact h.2.2.elim

def hA (leaf : Bool) (es : List Ent) : List Ent := if es.length < 2 then es else es.take (cutK leaf es)
def hBb (leaf : Bool) (es : List Ent) : List Ent := if es.length < 2 then [] else halfB leaf es
def hK (leaf : Bool) (es : List Ent) : List UInt8 := if es.length < 2 then [] else ((es.drop (cutK leaf es)).getD 0 default).key

theorem con39g {leaf : Bool} {es : List Ent} (hw : weight es + 20 * es.length < 1000000000000) :
    Con 39 [nodeSV leaf es] [] (.tup [.agg [.bool (.s fun _ => leaf), .dat (entsDV (hA leaf es))], .agg [.bool (.s fun _ => leaf), .dat (entsDV (hBb leaf es))], .dat (.bytes fun _ => hK leaf es)]) [] := by
  unfold hA hBb hK
  by_cases h : es.length < 2
  · simp only [if_pos h]; exact con39s h
  · simp only [if_neg h]; exact con39 hw (by omega)

/-- Nothing, as lists of one's own. -/
theorem con35n {leaf : Bool} {es : List Ent} (h : Con 35 [nodeSV leaf es] [] (.tup [.agg [.bool (.s fun _ => leaf), .own 2000], .agg [.bool (.s fun _ => leaf), .nil], .nil]) [(2000, .arrD 74 4 (fun _ => es.length) (lrow encE fun _ => es))]) :
    Con 35 [nodeSV leaf es] [] (.tup [.agg [.bool (.s fun _ => leaf), .own 2000], .agg [.bool (.s fun _ => leaf), .own 2001], .own 2002])
      [(2000, .arrD 74 4 (fun _ => es.length) (lrow encE fun _ => es)), (2001, .arrD 74 4 (fun _ => ([] : List Ent).length) (lrow encE fun _ => [])), (2002, .barr 5 fun _ => [])] := by
  refine ⟨fun η G vs w hsep hob hs => (h.spec η G vs w hsep hob hs).mono fun v w' ⟨η', G', q1, q2, q3, q4⟩ => ?_⟩
  have hη : ∀ j, η j = none := fun j => opt_none (hob j)
  have hot : ∀ j, j ≠ 2000 → η' j = none := fun j hj => opt_none (by have := q2 j; rwa [look_cons, if_neg hj] at this)
  have hin : ∀ {j : Nat} {oj : OInfo}, (if j = 2001 ∨ j = 2002 then some (nilInfo false) else η' j) = some oj → (oj = nilInfo false) ∨ η' j = some oj := fun {j oj} hj => by
    by_cases e : j = 2001 ∨ j = 2002
    · rw [if_pos e] at hj; cases hj; exact .inl rfl
    · rw [if_neg e] at hj; exact .inr hj
  refine ⟨fun j => if j = 2001 ∨ j = 2002 then some (nilInfo false) else η' j, G', ?_, fun j => ?_, ⟨fun j oj hj b hb => ?_, fun j oj j' oj' hj hj' hne b hb hb' => ?_, fun j oj hj b hb => ?_, q3.glt⟩, ⟨q4.os, q4.tape, q4.out, q4.size, q4.keep, fun j oj hj => ?_, q4.g, q4.g', fun j oj hj b hb => ?_⟩⟩
  · obtain ⟨vs, rfl, hv⟩ := q1
    match vs, hv with
    | [v1, v2, v3], hv =>
      obtain ⟨h1, h2, h3, -⟩ := hv
      have h3 : v3 = .slice none 0 0 := h3
      subst h3
      refine ⟨_, rfl, ?_, ?_, ⟨nilInfo false, by simp, rfl, fun _ => rfl⟩, trivial⟩
      · obtain ⟨us, rfl, hu⟩ := h1
        match us, hu with
        | [u1, u2], hu =>
          obtain ⟨g1, ⟨o, g2, g3⟩, -⟩ := hu
          exact ⟨_, rfl, g1, ⟨o, by simpa using g2, g3⟩, trivial⟩
        | [], h => exact h.elim
        | [_], h => exact h.2.elim
        | _ :: _ :: _ :: _, h => exact h.2.2.elim
      · obtain ⟨us, rfl, hu⟩ := h2
        match us, hu with
        | [u1, u2], hu =>
          obtain ⟨g1, g2, -⟩ := hu
          have g2 : u2 = .slice none 0 0 := g2
          subst g2
          exact ⟨_, rfl, g1, ⟨nilInfo false, by simp, rfl, fun _ => rfl⟩, trivial⟩
        | [], h => exact h.elim
        | [_], h => exact h.2.elim
        | _ :: _ :: _ :: _, h => exact h.2.2.elim
    | [], h => exact h.elim
    | [_], h => exact h.2.elim
    | [_, _], h => exact h.2.2.elim
    | _ :: _ :: _ :: _ :: _, h => exact h.2.2.2.elim
  · show ObjOpt _ G' w' _ (if j = 2001 ∨ j = 2002 then some (nilInfo false) else η' j)
    have hj := q2 j
    simp only [look_cons, look_nil] at hj ⊢
    by_cases e0 : j = 2000
    · subst e0
      rw [if_pos rfl] at hj ⊢
      rw [if_neg (by decide)]
      cases ho : η' 2000 with
      | none => rw [ho] at hj; exact hj.elim
      | some o => rw [ho] at hj; exact hj
    · rw [if_neg e0] at hj ⊢
      by_cases e1 : j = 2001
      · subst e1
        rw [if_pos rfl, if_pos (.inl rfl)]
        exact emptyObj_rel (x := .arrD 74 4 (fun _ => ([] : List Ent).length) (lrow encE fun _ => [])) ⟨rfl⟩ (fun j => if j = 2001 ∨ j = 2002 then some (nilInfo false) else η' j) G' w'
      · rw [if_neg e1]
        by_cases e2 : j = 2002
        · subst e2
          rw [if_pos rfl, if_pos (.inr rfl)]
          exact emptyObj_rel (x := .barr 5 fun _ => []) ⟨rfl⟩ (fun j => if j = 2001 ∨ j = 2002 then some (nilInfo false) else η' j) G' w'
        · rw [if_neg e2, if_neg (fun h => h.elim e1 e2), hot j e0]; trivial
  · rcases hin hj with rfl | hj
    · simp [nilInfo] at hb
    · exact q3.lt j oj hj b hb
  · rcases hin hj with rfl | hj
    · simp [nilInfo] at hb
    · rcases hin hj' with rfl | hj'
      · simp [nilInfo] at hb'
      · exact q3.dj j oj j' oj' hj hj' hne b hb hb'
  · rcases hin hj with rfl | hj
    · simp [nilInfo] at hb
    · exact q3.mi j oj hj b hb
  · rw [hη j] at hj; cases hj
  · rcases hin hj with rfl | hj
    · simp [nilInfo] at hb
    · exact q4.blk j oj hj b hb
theorem con35g {leaf : Bool} {es : List Ent} (hw : weight es + 20 * es.length < 1000000000000) (hs : ∀ e ∈ es, SmallE e) :
    Con 35 [nodeSV leaf es] [] (.tup [.agg [.bool (.s fun _ => leaf), .own 2000], .agg [.bool (.s fun _ => leaf), .own 2001], .own 2002])
      [(2000, .arrD 74 4 (fun _ => (hA leaf es).length) (lrow encE fun _ => hA leaf es)), (2001, .arrD 74 4 (fun _ => (hBb leaf es).length) (lrow encE fun _ => hBb leaf es)), (2002, .barr 5 fun _ => hK leaf es)] := by
  unfold hA hBb hK
  by_cases h : es.length < 2
  · simp only [if_pos h]; exact con35n (con35s hs h)
  · simp only [if_neg h]
    cases leaf with
    | true => exact con35t hw hs (by omega)
    | false => exact con35f hw hs (by omega)

/-- What is lent, for what is read. -/
theorem lent_one {f : Nat} {leaf : Bool} {es : List Ent} {rest : List SV} {objs objs' : Objs} {r : SV} (h : Con f (nodeSV leaf es :: rest) objs r objs') : Con f (lentSV leaf es :: rest) objs r objs' := h.args fun η G w vs hv => by
  match vs, hv with
  | v :: vs, hv => exact ⟨(lent_args η G w [v] ⟨hv.1, trivial⟩).1, hv.2⟩
  | [], h => exact h.elim
theorem nil_two {f : Nat} {n : SV} {leaf : Bool} {k : SV} {objs objs' : Objs} {r : SV} (h : Con f [n, nodeSV leaf [], k] objs r objs') : Con f [n, .agg [.bool (.s fun _ => leaf), .nil], k] objs r objs' := h.args fun η G w vs hv => by
  match vs, hv with
  | [v1, v2, v3], hv =>
    refine ⟨hv.1, ?_, hv.2.2⟩
    obtain ⟨us, rfl, hu⟩ := hv.2.1
    match us, hu with
    | [u1, u2], hu =>
      obtain ⟨g1, g2, -⟩ := hu
      have g2 : u2 = .slice none 0 0 := g2
      subst g2
      exact ⟨_, rfl, g1, ⟨none, 0, rfl, Nat.le_refl _, fun i hi => absurd hi (Nat.not_lt_zero _)⟩, trivial⟩
    | [], h => exact h.elim
    | [_], h => exact h.2.elim
    | _ :: _ :: _ :: _, h => exact h.2.2.elim
  | [], h => exact h.elim
  | [_], h => exact h.2.elim
  | [_, _], h => exact h.2.2.elim
  | _ :: _ :: _ :: _ :: _, h => exact h.2.2.2.elim
end Go.Proofs.Ytmdfjipjkkjpcaa

/- NodeTurns: the book's Own of five lists of entries and one of bytes. -/
namespace Go.Proofs.Ytmdfjipjkkjpcaa
open Go.SX

def TinyE (e : Ent) : Prop := e.key.length < 1000000000 ∧ e.val.length < 1000000000
theorem kvn_tiny {es : List Ent} (h : ∀ e ∈ es, TinyE e) : ∀ n ∈ kvn es es.length, n < 1000000000 := fun n hn => by
  unfold kvn at hn
  obtain ⟨i, hi, hn⟩ := List.mem_flatMap.1 hn
  have hi := List.mem_range.1 hi
  have := h _ (getD_mem hi)
  simp at hn
  rcases hn with rfl | rfl
  · exact this.1
  · exact this.2
theorem kvn_len (es : List Ent) (n : Nat) : (kvn es n).length = 2 * n := by
  induction n with
  | zero => rfl
  | succ n ih => rw [kvn_next, List.length_append, ih]; simp; omega
theorem set_mem {l : List Ent} {i : Nat} {a x : Ent} (h : x ∈ l.set i a) : x ∈ l ∨ x = a := List.mem_or_eq_of_mem_set h
theorem getD_tiny {es : List Ent} (h : ∀ e ∈ es, TinyE e) (i : Nat) : TinyE (es.getD i default) := by
  by_cases hi : i < es.length
  · exact h _ (getD_mem hi)
  · rw [List.getD_eq_getElem?_getD, List.getElem?_eq_none (by omega)]; exact ⟨by decide, by decide⟩
theorem setKey_tiny {a : List Ent} {i : Nat} {k : List UInt8} (ha : ∀ e ∈ a, TinyE e) (hk : k.length < 1000000000) : ∀ e ∈ setKey a i k, TinyE e := fun e he => by
  unfold setKey at he
  rcases set_mem he with h | rfl
  · exact ha e h
  · exact ⟨hk, (getD_tiny ha i).2⟩
theorem put_tiny {es : List Ent} {e : Ent} (h : ∀ e ∈ es, TinyE e) (he : TinyE e) : ∀ x ∈ putL es e, TinyE x := fun x hx => by
  unfold putL at hx
  rcases List.mem_append.1 hx with hx | hx
  · exact h x (List.mem_of_mem_take hx)
  · rcases List.mem_append.1 hx with hx | hx
    · simp at hx; subst hx; exact he
    · exact h x (List.mem_of_mem_drop hx)
theorem put_len_le (es : List Ent) (e : Ent) : (putL es e).length ≤ es.length + 1 := by
  have := placeI_le (p := geP e.key) (es := es)
  unfold putL
  simp only [List.length_append, List.length_take, List.length_drop, List.length_singleton]
  split <;> omega
theorem drop_tiny {es : List Ent} {key : List UInt8} (h : ∀ e ∈ es, TinyE e) : ∀ x ∈ dropL es key, TinyE x := fun x hx => by
  unfold dropL at hx
  rcases List.mem_append.1 hx with hx | hx
  · exact h x (List.mem_of_mem_take hx)
  · exact h x (List.mem_of_mem_drop hx)
theorem drop_len_le (es : List Ent) (key : List UInt8) : (dropL es key).length ≤ es.length := by
  have := placeI_le (p := geP key) (es := es)
  unfold dropL
  simp only [List.length_append, List.length_take, List.length_drop]
  split <;> omega
theorem hA_tiny {leaf : Bool} {es : List Ent} (h : ∀ e ∈ es, TinyE e) : (∀ x ∈ hA leaf es, TinyE x) ∧ (hA leaf es).length ≤ es.length := by
  unfold hA
  split
  · exact ⟨h, Nat.le_refl _⟩
  · exact ⟨fun x hx => h x (List.mem_of_mem_take hx), by rw [List.length_take]; omega⟩
theorem hB_tiny {leaf : Bool} {es : List Ent} (h : ∀ e ∈ es, TinyE e) : (∀ x ∈ hBb leaf es, TinyE x) ∧ (hBb leaf es).length ≤ es.length := by
  unfold hBb halfB
  split
  · exact ⟨by simp, by simp⟩
  · split
    · exact ⟨fun x hx => h x (List.mem_of_mem_drop hx), by rw [List.length_drop]; omega⟩
    · exact ⟨setKey_tiny (fun x hx => h x (List.mem_of_mem_drop hx)) (by simp), by unfold setKey; simp⟩
theorem hK_tiny {leaf : Bool} {es : List Ent} (h : ∀ e ∈ es, TinyE e) : (hK leaf es).length < 1000000000 := by
  unfold hK
  split
  · simp
  · exact (getD_tiny (fun x hx => h x (List.mem_of_mem_drop hx)) 0).1
theorem join_tiny {leaf : Bool} {a b : List Ent} {key : List UInt8} (ha : ∀ e ∈ a, TinyE e) (hb : ∀ e ∈ b, TinyE e) (hk : key.length < 1000000000) : (∀ x ∈ joinL leaf a b key, TinyE x) ∧ (joinL leaf a b key).length = a.length + b.length := by
  have hab : ∀ e ∈ a ++ b, TinyE e := fun e he => (List.mem_append.1 he).elim (ha e) (hb e)
  unfold joinL
  split
  · exact ⟨setKey_tiny hab hk, by unfold setKey; simp⟩
  · exact ⟨hab, by simp⟩

theorem con23t {H : Mem} {v0 : Value} {hb he : List Value} (hB : BookM hb he H) {A1 A2 A3 A4 A5 : List Ent} {bs : List UInt8} {k1 w1 k2 w2 k3 w3 k4 w4 k5 w5 : Nat → Value} {x1 x2 x3 x4 x5 x6 : Value × Mem}
    (e1 : OneE A1 k1 w1 x1) (e2 : OneE A2 k2 w2 x2) (e3 : OneE A3 k3 w3 x3) (e4 : OneE A4 k4 w4 x4) (e5 : OneE A5 k5 w5 x5) (e6 : OneB bs x6)
    (hhb : hb = [] ++ kvs k1 w1 A1.length ++ kvs k2 w2 A2.length ++ kvs k3 w3 A3.length ++ kvs k4 w4 A4.length ++ kvs k5 w5 A5.length ++ [x6.1]) (hhe : he = [] ++ [x1.1] ++ [x2.1] ++ [x3.1] ++ [x4.1] ++ [x5.1])
    (t1 : ∀ e ∈ A1, TinyE e) (t2 : ∀ e ∈ A2, TinyE e) (t3 : ∀ e ∈ A3, TinyE e) (t4 : ∀ e ∈ A4, TinyE e) (t5 : ∀ e ∈ A5, TinyE e) (t6 : bs.length < 1000000000)
    (l1 : A1.length < 10000) (l2 : A2.length < 10000) (l3 : A3.length < 10000) (l4 : A4.length < 10000) (l5 : A5.length < 10000) :
    ConG 23 [.loc 1000 0] [(1000, .cust none (fun _ => memΦ v0 H)), (1001, knownE A1 x1), (1002, knownE A2 x2), (1003, knownE A3 x3), (1004, knownE A4 x4), (1005, knownE A5 x5), (1006, knownB (fun _ => bs) x6)] Unit (fun _ => .bool .t)
      (fun _ => [(1000, .dead), (1001, .dead), (1002, .dead), (1003, .dead), (1004, .dead), (1005, .dead), (1006, .dead)]) := by
  refine ⟨specG_merges (v0 := v0) (r := .bool .t) (fun _ _ _ _ _ h => h) [(1001, knownE A1 x1, x1.2), (1002, knownE A2 x2, x2.2), (1003, knownE A3 x3, x3.2), (1004, knownE A4 x4, x4.2), (1005, knownE A5 x5, x5.2), (1006, knownB (fun _ => bs) x6, x6.2)] H (show ([1000, 1001, 1002, 1003, 1004, 1005, 1006] : List Nat).Nodup by decide) (fun t ht => ?_) fun hn => ?_⟩
  · simp only [List.mem_cons, List.not_mem_nil, or_false] at ht
    rcases ht with rfl | rfl | rfl | rfl | rfl | rfl
    · exact ⟨cst_kn, knm_kn⟩
    · exact ⟨cst_kn, knm_kn⟩
    · exact ⟨cst_kn, knm_kn⟩
    · exact ⟨cst_kn, knm_kn⟩
    · exact ⟨cst_kn, knm_kn⟩
    · exact ⟨cst_cust, knm_cust⟩
  · have hM : H ++ [(1001, knownE A1 x1, x1.2), (1002, knownE A2 x2, x2.2), (1003, knownE A3 x3, x3.2), (1004, knownE A4 x4, x4.2), (1005, knownE A5 x5, x5.2), (1006, knownB (fun _ => bs) x6, x6.2)].flatMap (·.2.2) = H ++ ([] ++ x1.2 ++ x2.2 ++ x3.2 ++ x4.2 ++ x5.2 ++ x6.2) := by simp
    rw [hM] at hn ⊢
    have hs : ∀ M : Mem, (([] ++ x1.2 ++ x2.2 ++ x3.2 ++ x4.2 ++ x5.2 ++ x6.2 : Mem).map (·.1)).Nodup := fun _ => by
      rw [List.map_append] at hn; exact (List.nodup_append.1 hn).2.1
    have n6 := hs []
    have cut : ∀ {a b : Mem}, ((a ++ b).map (·.1)).Nodup → (a.map (·.1)).Nodup := fun h => by rw [List.map_append] at h; exact (List.nodup_append.1 h).1
    have n5 := cut n6
    have n4 := cut n5
    have n3 := cut n4
    have n2 := cut n3
    have n1 := cut n2
    have F := (((((Fac.nil.add (fac_ents e1) n1).add (fac_ents e2) n2).add (fac_ents e3) n3).add (fac_ents e4) n4).add (fac_ents e5) n5).add (fac_bytes e6) n6
    rw [List.append_nil] at F
    rw [hhb, hhe] at hB
    have h := con23p (v0 := v0) hB F hn (by simp only [List.length_append, kvn_len, List.length_nil, List.length_singleton]; omega) (by simp) (fun n hn' => by
      simp only [List.mem_append, List.not_mem_nil, false_or, List.mem_singleton] at hn'
      rcases hn' with ((((h | h) | h) | h) | h) | h
      · exact kvn_tiny t1 n h
      · exact kvn_tiny t2 n h
      · exact kvn_tiny t3 n h
      · exact kvn_tiny t4 n h
      · exact kvn_tiny t5 n h
      · rw [h]; exact t6) (fun n hn' => by
      simp only [List.append_nil, List.mem_append, List.not_mem_nil, false_or, List.mem_singleton, or_false] at hn'
      rcases hn' with (((h | h) | h) | h) | h <;> rw [h] <;> omega)
    exact fun η G vs w q1 q2 q3 => (h.spec η G vs w q1 q2 q3).mono fun _ _ ⟨η', G', hh⟩ => ⟨(), η', G', hh⟩
end Go.Proofs.Ytmdfjipjkkjpcaa

/- The book's Entries and Bytes, with ghosts of which a walk sees little. -/
namespace Go.Proofs.Ytmdfjipjkkjpcaa
open Go.SX

/-- What a list of entries leaves: the book's value and memory, the list's; its keys and values. -/
abbrev RawE := ((Value × Mem) × (Value × Mem)) × (Nat → Value) × (Nat → Value)
abbrev RawB := (Value × Mem) × (Value × Mem)

theorem put29 {H : Mem} {hb he : List Value} {v0 : Value} {es : List Ent} (n m : Nat) (hB : BookM hb he H ∧ hb.length ≤ n ∧ he.length ≤ m) (hn : es.length < 10000) (hlb : n < 100000) (hle : m < 1000) :
    ∃ Q : RawE → Prop, (∀ x, Q x → OneE es x.2.1 x.2.2 x.1.2 ∧ BookM (hb ++ kvs x.2.1 x.2.2 es.length) (he ++ [x.1.2.1]) x.1.1.2 ∧ (hb ++ kvs x.2.1 x.2.2 es.length).length ≤ n + 20000 ∧ (he ++ [x.1.2.1]).length ≤ m + 1) ∧
      ConG 29 [.loc 1000 0, .own 1001] [(1000, .cust none (fun _ => memΦ v0 H)), (1001, .arrD 74 4 (fun _ => es.length) (lrow encE fun _ => es))] {x : RawE // Q x} (fun _ => .tup []) (fun x => [(1000, .cust none (fun _ => memΦ x.1.1.1.1 x.1.1.1.2)), (1001, knownE es x.1.1.2)]) :=
  ⟨_, fun x h => ⟨h.2, h.1, by rw [List.length_append, kvs_len]; omega, by rw [List.length_append, List.length_singleton]; omega⟩, con29g hB.1 (by omega) (by omega) (by omega)⟩
theorem put29z {es : List Ent} (hn : es.length < 10000) :
    ∃ Q : RawE → Prop, (∀ x, Q x → OneE es x.2.1 x.2.2 x.1.2 ∧ BookM ([] ++ kvs x.2.1 x.2.2 es.length) ([] ++ [x.1.2.1]) x.1.1.2 ∧ ([] ++ kvs x.2.1 x.2.2 es.length : List Value).length ≤ 20000 ∧ ([] ++ [x.1.2.1] : List Value).length ≤ 1) ∧
      ConG 29 [.loc 1000 0, .own 1001] [(1000, .cells 61 [.nil, .nil, .nil, .nil, .nil, .nil, .nil, .nil, .nil, .nil, .nil, .nil, .nil, .nil, .nil, .nil, .nil, .nil, .nil, .nil, .nil, .nil, .nil]), (1001, .arrD 74 4 (fun _ => es.length) (lrow encE fun _ => es))]
        {x : RawE // Q x} (fun _ => .tup []) (fun x => [(1000, .cust none (fun _ => memΦ x.1.1.1.1 x.1.1.1.2)), (1001, knownE es x.1.1.2)]) :=
  ⟨_, fun x h => ⟨h.2, h.1, by rw [List.length_append, kvs_len, List.length_nil]; omega, by simp⟩, con29g0 (by omega)⟩
theorem put18 {H : Mem} {hb he : List Value} {v0 : Value} {bs : List UInt8} (n m : Nat) (hB : BookM hb he H ∧ hb.length ≤ n ∧ he.length ≤ m) (hlb : n < 1000000) :
    ∃ Q : RawB → Prop, (∀ x, Q x → OneB bs x.2 ∧ BookM (hb ++ [x.2.1]) he x.1.2) ∧
      ConG 18 [.loc 1000 0, .own 1001] [(1000, .cust none (fun _ => memΦ v0 H)), (1001, .barr 5 fun _ => bs)] {x : RawB // Q x} (fun _ => .tup []) (fun x => [(1000, .cust none (fun _ => memΦ x.1.1.1 x.1.1.2)), (1001, knownB (fun _ => bs) x.1.2)]) :=
  ⟨_, fun x h => ⟨h.2, h.1⟩, con18g hB.1 (by omega)⟩
end Go.Proofs.Ytmdfjipjkkjpcaa

/- NodeTurns: the walk. -/
namespace Go.Proofs.Ytmdfjipjkkjpcaa
open Go.SX

/-- The same, but that the book's calls leave ghosts. -/
def E3 : Env := ⟨tiN, rwN, ConG, fun f => eqN f 18 || (eqN f 23 || eqN f 29)⟩
theorem fieldsOk3 : ∀ (fs : List (Nat × Nat)) (l : List Field), fieldsOk Try.prog E fs l → fieldsOk Try.prog E3 fs l
  | [], [], _ => trivial
  | [], _ :: _, h => h.elim
  | _ :: _, [], h => h.elim
  | (T, o) :: fs, f :: r, ⟨h1, h2, h3, h4⟩ => ⟨h1, h2, h3, fieldsOk3 fs r h4⟩
theorem tdOk3 {td : TD} {d : TypeDesc} (h : TDOk Try.prog E td d) : TDOk Try.prog E3 td d := by
  cases td with
  | struct fs =>
    obtain ⟨fields, h1, h2⟩ := h
    exact ⟨fields, h1, fieldsOk3 _ _ h2⟩
  | _ => exact h
theorem eok3 : EOk Try.prog E3 := fun T ti h => by
  obtain ⟨h1, ⟨d, h2, h3⟩, h4⟩ := eok T ti h
  exact ⟨h1, ⟨d, h2, tdOk3 h3⟩, h4⟩
theorem con_of3 {f : Nat} {fn : Func} {body : Code} (hf : Try.prog.funcs[f]? = some fn) (hb : fn.body = some body) (hname : (fn.name == "runtime.NumGoroutine") = false) {svs : List SV} {objs : Objs} {r : SV} {objs' : Objs} (n : Nat) (res : List ResultVar)
    (hn : fn.ntmps = n) (hres : fn.results.toList = res) (hl : leN svs.length n = true) (ho : borNames objs = true) (h : FnVC Con E3 body n res svs objs r objs') (hlt : f < 4096 := by decide) : Con f svs objs r objs' := by
  subst hn; subst hres
  exact ⟨specX_of (spec_of_vc eok3 (fun _ _ _ _ _ _ h => ConG.spec h) mixed (fun _ _ _ _ _ h => h.spec) hf hb hl ho h) ⟨fn, body, hf, hb, hname⟩ hlt⟩
theorem weight_in {es : List Ent} {x : Ent} (h : x ∈ es) : x.key.length + x.val.length ≤ weight es := by
  induction es with
  | nil => cases h
  | cons e es ih =>
    simp only [weight]
    rcases List.mem_cons.1 h with rfl | h
    · omega
    · have := ih h; omega
theorem self_eqI {a : Int} (h : decide (a = a) = false) : False := by simp at h
theorem self_eqB {a : Bool} (h : (a == a) = false) : False := by simp at h

/-- What NodeTurns' callees answer. -/
structure F8 (leaf lb : Bool) (a b : List Ent) (e : Ent) (key : List UInt8) (P D X Y J0 J1 : List Ent) (Kk : List UInt8) (FI : Int) (FB WB : Bool) : Prop where
  c11 : Con 11 [.dat (entsDV a)] [] (.own 2000) [(2000, lentK a)]
  i0 : Con 11 [.dat (.sl 4 (fun _ => 1) (litRow 4 (dvsE e)))] [] (.own 2000) [(2000, lentK [e])]
  c31 : Con 31 [lentSV leaf a, .dat (.bytes fun _ => key)] [] (.tup [.int .i64 (.s fun _ => FI), .bool (.s fun _ => FB)]) []
  c32 : Con 32 [lentSV leaf a, entSV e] [] (.agg [.bool (.s fun _ => leaf), .own 2000]) [(2000, .arrD 74 4 (fun _ => P.length) (lrow encE fun _ => P))]
  c34 : Con 34 [lentSV leaf a, .dat (.bytes fun _ => key)] [] (.tup [.agg [.bool (.s fun _ => leaf), .own 2000], .bool (.s fun _ => WB)]) [(2000, .arrD 74 4 (fun _ => D.length) (lrow encE fun _ => D))]
  c35 : Con 35 [lentSV leaf a] [] (.tup [.agg [.bool (.s fun _ => leaf), .own 2000], .agg [.bool (.s fun _ => leaf), .own 2001], .own 2002])
      [(2000, .arrD 74 4 (fun _ => X.length) (lrow encE fun _ => X)), (2001, .arrD 74 4 (fun _ => Y.length) (lrow encE fun _ => Y)), (2002, .barr 5 fun _ => Kk)]
  c36 : Con 36 [lentSV leaf a, .agg [.bool (.s fun _ => leaf), .nil], .dat (.bytes fun _ => key)] [] (.agg [.bool (.s fun _ => leaf), .own 2000]) [(2000, .arrD 74 4 (fun _ => J0.length) (lrow encE fun _ => J0))]
  d36 : Con 36 [lentSV leaf a, nodeSV lb b, .dat (.bytes fun _ => key)] [] (.agg [.bool (.s fun _ => leaf), .own 2000]) [(2000, .arrD 74 4 (fun _ => J1.length) (lrow encE fun _ => J1))]
  w1 : Con 15 [.dat (lentDV a), .dat (entsDV a)] [] (.bool .t) []
  w0 : Con 15 [.dat (lentDV [e]), .dat (.sl 4 (fun _ => 1) (litRow 4 (dvsE e)))] [] (.bool .t) []
  s1 : Con 16 [.own 1000] [(1000, lentK a)] (.tup []) [(1000, .dead)]
  s0 : Con 16 [.own 1000] [(1000, lentK [e])] (.tup []) [(1000, .dead)]
  c37 : Con 37 [nodeSV leaf a, .dat (.bytes fun _ => key)] [] (.tup [.int .i64 (.s fun _ => FI), .bool (.s fun _ => FB)]) []
  c38 : Con 38 [nodeSV leaf a, .dat (.bytes fun _ => key)] [] (.tup [.agg [.bool (.s fun _ => leaf), .dat (entsDV D)], .bool (.s fun _ => WB)]) []
  c39 : Con 39 [nodeSV leaf a] [] (.tup [.agg [.bool (.s fun _ => leaf), .dat (entsDV X)], .agg [.bool (.s fun _ => leaf), .dat (entsDV Y)], .dat (.bytes fun _ => Kk)]) []
  c40 : Con 40 [nodeSV leaf a, entSV e] [] (.agg [.bool (.s fun _ => leaf), .dat (entsDV P)]) []
  c41 : Con 41 [nodeSV leaf a, .agg [.bool (.s fun _ => leaf), .nil], .dat (.bytes fun _ => key)] [] (.agg [.bool (.s fun _ => leaf), .dat (entsDV J0)]) []
  d41 : Con 41 [nodeSV leaf a, nodeSV lb b, .dat (.bytes fun _ => key)] [] (.agg [.bool (.s fun _ => leaf), .dat (entsDV J1)]) []
  cP : Con 30 [nodeSV leaf P, nodeSV leaf P] [] (.bool .t) []
  cD : Con 30 [nodeSV leaf D, nodeSV leaf D] [] (.bool .t) []
  cX : Con 30 [nodeSV leaf X, nodeSV leaf X] [] (.bool .t) []
  cY : Con 30 [nodeSV leaf Y, nodeSV leaf Y] [] (.bool .t) []
  cJ : Con 30 [nodeSV leaf J0, nodeSV leaf J0] [] (.bool .t) []
  dJ : Con 30 [nodeSV leaf J1, nodeSV leaf J1] [] (.bool .t) []
  cK : Con 22 [.dat (.bytes fun _ => Kk), .dat (.bytes fun _ => Kk)] [] (.bool .t) []
  tP : ∀ x ∈ P, TinyE x
  tD : ∀ x ∈ D, TinyE x
  tX : ∀ x ∈ X, TinyE x
  tY : ∀ x ∈ Y, TinyE x
  tJ : ∀ x ∈ J0, TinyE x
  sJ : ∀ x ∈ J1, TinyE x
  tK : Kk.length < 1000000000
  lP : P.length < 10000
  lD : D.length < 10000
  lX : X.length < 10000
  lY : Y.length < 10000
  lJ : J0.length < 10000
  kJ : J1.length < 10000

theorem facts8 {leaf lb : Bool} {a b : List Ent} {e : Ent} {key : List UInt8} (hm1 : muchB a = false) (hm2 : muchB b = false) (hk3 : key.length ≤ 20000) (he3 : e.key.length + e.val.length ≤ 20000) (hra : RisesL a) :
    F8 leaf lb a b e key (putL a e) (dropL a key) (hA leaf a) (hBb leaf a) (joinL leaf a [] key) (joinL leaf a b key) (hK leaf a) (findI leaf a key) (findB leaf a key) (wasB a key) := by
  have lwa := much_ok hm1
  have lwb := much_ok hm2
  have hwa : weight a + 20 * a.length < 1000000000000 := by omega
  have hla2 : a.length < 1000000000 := by omega
  have ta : ∀ x ∈ a, TinyE x := fun x hx => by have := weight_in hx; unfold TinyE; omega
  have tb : ∀ x ∈ b, TinyE x := fun x hx => by have := weight_in hx; unfold TinyE; omega
  have te : TinyE e := by unfold TinyE; omega
  have tk : key.length < 1000000000 := by omega
  have small : ∀ {l : List Ent}, (∀ x ∈ l, TinyE x) → ∀ x ∈ l, SmallE x := fun h x hx => by have := h x hx; unfold TinyE at this; unfold SmallE; omega
  have sa := small ta
  have sb := small tb
  have se : SmallE e := by unfold TinyE at te; unfold SmallE; omega
  have see : ∀ x ∈ [e], SmallE x := fun x hx => by simp at hx; subst hx; exact se
  have l1e : [e].length < 1000000000 := by rw [List.length_singleton]; omega
  have l100 : a.length < 100000000000 := by omega
  have d38 := drop_law (key := key) hra
  have c38 := con38 (leaf := leaf) (key := key) hla2
  rw [d38.2, d38.1] at c38
  have lp := put_len_le a e
  have ld := drop_len_le a key
  have tA := hA_tiny (leaf := leaf) ta
  have tB := hB_tiny (leaf := leaf) ta
  have tK := hK_tiny (leaf := leaf) ta
  have tP := put_tiny ta te
  have tD := drop_tiny (key := key) ta
  have j0 := join_tiny (leaf := leaf) (a := a) (b := []) (key := key) ta (by simp) tk
  have j1 := join_tiny (leaf := leaf) (a := a) (b := b) (key := key) ta tb tk
  rw [List.length_nil] at j0
  have sameC : ∀ {l : List Ent}, (∀ x ∈ l, TinyE x) → l.length < 1000000 → Con 30 [nodeSV leaf l, nodeSV leaf l] [] (.bool .t) [] := fun h hl => (con30 (small h) (by omega)).yes (by unfold sameB; simp)
  exact { c11 := con11k sa hla2, i0 := rep_args (rep_one e) (con11k see l1e), c31 := lent_one (con31 (leaf := leaf) (es := a) (key := key) (by omega)), c32 := lent_one (con32 (leaf := leaf) (e := e) sa se l100), c34 := lent_one (con34 (leaf := leaf) (key := key) sa l100), c35 := lent_one (con35g (leaf := leaf) hwa sa),
          c36 := lent_one (nil_two (leaf := leaf) (con36 (leaf := leaf) (lb := leaf) (a := a) (b := []) (key := key) sa (by simp) (by omega) (by rw [List.length_nil]; omega))), d36 := lent_one (con36 (leaf := leaf) (lb := lb) (a := a) (b := b) (key := key) sa sb (by omega) (by omega)),
          w1 := con15 sa hla2, w0 := rep_args2 (rep_one e) (con15 see l1e), s1 := con16k sa hla2, s0 := con16k see l1e, c37 := con37 (leaf := leaf) (key := key) hra hla2, c38 := c38, c39 := con39g (leaf := leaf) hwa, c40 := con40 (leaf := leaf) (e := e) hra hla2,
          c41 := nil_two (leaf := leaf) (con41 (leaf := leaf) (lb := leaf) (a := a) (b := []) (key := key) (by rw [List.length_nil]; omega)), d41 := con41 (leaf := leaf) (lb := lb) (a := a) (b := b) (key := key) (by omega),
          cP := sameC tP (by omega), cD := sameC tD (by omega), cX := sameC tA.1 (by omega), cY := sameC tB.1 (by omega), cJ := sameC j0.1 (by omega), dJ := sameC j1.1 (by omega), cK := (con22 (a := hK leaf a) (b := hK leaf a) (by omega)).yes (by simp),
          tP := tP, tD := tD, tX := tA.1, tY := tB.1, tJ := j0.1, sJ := j1.1, tK := tK, lP := by omega, lD := by omega, lX := by omega, lY := by omega, lJ := by omega, kJ := by omega }

set_option maxRecDepth 20000 in
set_option maxHeartbeats 20000000 in
theorem con8 {leaf lb : Bool} {a b : List Ent} {e : Ent} {key : List UInt8} (ha : ∀ x ∈ a, BigE x) (hla : a.length ≤ 281474976710656) (hb : ∀ x ∈ b, BigE x) (hlb : b.length ≤ 281474976710656) (he : BigE e) (hk : key.length ≤ 281474976710656) :
    Con 8 [nodeSV leaf a, nodeSV lb b, entSV e, .dat (.bytes fun _ => key)] [] (.bool (.s fun _ => true)) [] := by
  have bE : bound64 ((e.key.length : Int) + (e.val.length : Int)) := by unfold bound64; unfold BigE at he; omega
  have hF0 : ∃ P D X Y J0 J1 Kk FI FB WB, muchB a = false → muchB b = false → key.length ≤ 20000 → e.key.length + e.val.length ≤ 20000 → RisesL a → F8 leaf lb a b e key P D X Y J0 J1 Kk FI FB WB := ⟨_, _, _, _, _, _, _, _, _, _, facts8⟩
  obtain ⟨P, D, X, Y, J0, J1, Kk, FI, FB, WB, hF⟩ := hF0
  have mlen : ∀ {l : List Ent}, muchB l = false → l.length < 1000000000 := fun h => by have := much_ok h; omega
  refine con_of3 Try.func8 rfl rfl 225 _ rfl rfl rfl rfl ?_
  cbv
  refine ⟨_, _, con10 (leaf := leaf) ha hla, ⟨?_⟩, ?_⟩
  · kernel_rfl
  cbv
  refine ⟨fun h1 => ?_, fun h1 => ?_⟩
  · cbv
    refine ⟨[], [], ?_⟩
    cbv
    and_intros
    all_goals first | exact trivial | exact ⟨rfl⟩ | exact ⟨by kernel_rfl⟩
  · cbv
    refine ⟨_, _, con10 (leaf := lb) hb hlb, ⟨?_⟩, ?_⟩
    · kernel_rfl
    cbv
    refine ⟨fun h2 => ?_, fun h2 => ?_⟩
    · cbv
      refine ⟨[], [], ?_⟩
      cbv
      and_intros
      all_goals first | exact trivial | exact ⟨rfl⟩ | exact ⟨by kernel_rfl⟩
    · cbv
      refine ⟨fun h3 => ?_, fun h3 => ?_⟩
      · cbv
        refine ⟨[], [], ?_⟩
        cbv
        and_intros
        all_goals first | exact trivial | exact ⟨rfl⟩ | exact ⟨by kernel_rfl⟩
      · have hk2 : ¬ (20000 : Int) < (key.length : Int) := of_decide_eq_false h3
        have hk3 : key.length ≤ 20000 := by omega
        cbv
        refine ⟨⟨bE⟩, fun h4 => ?_, fun h4 => ?_⟩
        · cbv
          refine ⟨[], [], ?_⟩
          cbv
          and_intros
          all_goals first | exact trivial | exact ⟨rfl⟩ | exact ⟨by kernel_rfl⟩
        · have he2 : ¬ (20000 : Int) < (e.key.length : Int) + (e.val.length : Int) := of_decide_eq_false h4
          have he3 : e.key.length + e.val.length ≤ 20000 := by omega
          cbv
          refine ⟨_, _, con33 (leaf := leaf) (mlen h1), ⟨?_⟩, ?_⟩
          · kernel_rfl
          cbv
          refine ⟨fun h5 => ?_, fun h5 => ?_⟩
          · cbv
            refine ⟨[], [], ?_⟩
            cbv
            and_intros
            all_goals first | exact trivial | exact ⟨rfl⟩ | exact ⟨by kernel_rfl⟩
          · have F := hF h1 h2 hk3 he3 (rises_law (bnot_f h5))
            cbv
            refine ⟨_, _, con33 (leaf := lb) (mlen h2), ⟨?_⟩, ?_⟩
            · kernel_rfl
            cbv
            refine ⟨fun h6 => ?_, fun h6 => ?_⟩
            · cbv
              refine ⟨[], [], ?_⟩
              cbv
              and_intros
              all_goals first | exact trivial | exact ⟨rfl⟩ | exact ⟨by kernel_rfl⟩
            · cbv
              refine ⟨_, _, F.c11, ⟨?_⟩, ?_⟩
              · kernel_rfl
              cbv
              refine ⟨⟨by kernel_rfl⟩, ?_⟩
              refine ⟨_, _, F.i0, ⟨?_⟩, ?_⟩
              · kernel_rfl
              cbv
              refine ⟨_, _, F.c31, ⟨?_⟩, ?_⟩
              · kernel_rfl
              cbv
              refine ⟨_, _, idx_lent (e := e), ⟨?_⟩, ?_⟩
              · kernel_rfl
              cbv
              refine ⟨_, _, F.c32, ⟨?_⟩, ?_⟩
              · kernel_rfl
              cbv
              refine ⟨⟨by kernel_rfl⟩, ?_⟩
              refine ⟨_, _, F.c34, ⟨?_⟩, ?_⟩
              · kernel_rfl
              cbv
              refine ⟨_, _, F.c35, ⟨?_⟩, ?_⟩
              · kernel_rfl
              cbv
              refine ⟨fun h7 => ?_, fun h7 => ?_⟩
              · cbv
                refine ⟨_, _, F.c36, ⟨?_⟩, ?_⟩
                · kernel_rfl
                cbv
                refine ⟨_, _, F.w1, ⟨?_⟩, ?_⟩
                · kernel_rfl
                cbv
                refine ⟨_, _, F.w0, ⟨?_⟩, ?_⟩
                · kernel_rfl
                cbv
                refine ⟨_, _, F.s1, ⟨?_⟩, ?_⟩
                · kernel_rfl
                cbv
                refine ⟨_, _, F.s0, ⟨?_⟩, ?_⟩
                · kernel_rfl
                cbv
                refine ⟨_, _, F.c37, ⟨?_⟩, ?_⟩
                · kernel_rfl
                cbv
                refine ⟨_, _, F.c38, ⟨?_⟩, ?_⟩
                · kernel_rfl
                cbv
                refine ⟨_, _, F.c39, ⟨?_⟩, ?_⟩
                · kernel_rfl
                cbv
                refine Exists.elim (put29z F.lP) fun Q1 q1 => ?_
                refine ⟨[], ?_⟩
                cbv
                refine ⟨_, _, _, q1.2, ⟨by kernel_rfl⟩, fun y1 => ⟨⟨by kernel_rfl⟩, ?_⟩⟩
                have B1 := q1.1 y1.1 y1.2
                cbv
                refine Exists.elim (put29 (v0 := y1.1.1.1.1) 20000 1 B1.2 F.lD (by decide) (by decide)) fun Q2 q2 => ?_
                refine ⟨[], ?_⟩
                cbv
                refine ⟨_, _, _, q2.2, ⟨by kernel_rfl⟩, fun y2 => ⟨⟨by kernel_rfl⟩, ?_⟩⟩
                have B2 := q2.1 y2.1 y2.2
                cbv
                refine Exists.elim (put29 (v0 := y2.1.1.1.1) 40000 2 B2.2 F.lX (by decide) (by decide)) fun Q3 q3 => ?_
                refine ⟨[], ?_⟩
                cbv
                refine ⟨_, _, _, q3.2, ⟨by kernel_rfl⟩, fun y3 => ⟨⟨by kernel_rfl⟩, ?_⟩⟩
                have B3 := q3.1 y3.1 y3.2
                cbv
                refine Exists.elim (put29 (v0 := y3.1.1.1.1) 60000 3 B3.2 F.lY (by decide) (by decide)) fun Q4 q4 => ?_
                refine ⟨[], ?_⟩
                cbv
                refine ⟨_, _, _, q4.2, ⟨by kernel_rfl⟩, fun y4 => ⟨⟨by kernel_rfl⟩, ?_⟩⟩
                have B4 := q4.1 y4.1 y4.2
                cbv
                refine Exists.elim (put29 (v0 := y4.1.1.1.1) 80000 4 B4.2 F.lJ (by decide) (by decide)) fun Q5 q5 => ?_
                refine ⟨[], ?_⟩
                cbv
                refine ⟨_, _, _, q5.2, ⟨by kernel_rfl⟩, fun y5 => ⟨⟨by kernel_rfl⟩, ?_⟩⟩
                have B5 := q5.1 y5.1 y5.2
                cbv
                refine Exists.elim (put18 (bs := Kk) (v0 := y5.1.1.1.1) 100000 5 B5.2 (by decide)) fun Q6 q6 => ?_
                refine ⟨[], ?_⟩
                cbv
                have c23 := fun (z : RawB) (hz : Q6 z) => con23t (v0 := z.1.1) (q6.1 z hz).2 B1.1 B2.1 B3.1 B4.1 B5.1 (q6.1 z hz).1 rfl rfl F.tP F.tD F.tX F.tY F.tJ F.tK F.lP F.lD F.lX F.lY F.lJ
                refine ⟨_, _, _, q6.2, ⟨by kernel_rfl⟩, fun y6 => ⟨⟨by kernel_rfl⟩, ?_⟩⟩
                have B6 := q6.1 y6.1 y6.2
                cbv
                refine ⟨fun g1 => ?_, fun g1 => ?_⟩
                · cbv
                  refine ⟨fun g2 => ?_, fun g2 => ?_⟩
                  · cbv
                    refine ⟨fun g3 => ?_, fun g3 => ?_⟩
                    · cbv
                      refine ⟨_, _, F.c40, ⟨?_⟩, ?_⟩
                      · kernel_rfl
                      cbv
                      refine ⟨_, _, F.cP, ⟨?_⟩, ?_⟩
                      · kernel_rfl
                      cbv
                      refine ⟨_, _, F.cD, ⟨?_⟩, ?_⟩
                      · kernel_rfl
                      cbv
                      refine ⟨⟨by kernel_rfl⟩, ?_⟩
                      refine ⟨_, _, F.cX, ⟨?_⟩, ?_⟩
                      · kernel_rfl
                      cbv
                      refine ⟨_, _, F.cY, ⟨?_⟩, ?_⟩
                      · kernel_rfl
                      cbv
                      refine ⟨_, _, F.cK, ⟨?_⟩, ?_⟩
                      · kernel_rfl
                      cbv
                      refine ⟨_, _, F.c41, ⟨?_⟩, ?_⟩
                      · kernel_rfl
                      cbv
                      refine ⟨_, _, F.cJ, ⟨?_⟩, ?_⟩
                      · kernel_rfl
                      cbv
                      refine ⟨⟨by kernel_rfl⟩, ?_⟩
                      refine ⟨_, _, con19, ⟨?_⟩, ?_⟩
                      · kernel_rfl
                      cbv
                      refine ⟨fun g4 => ?_, fun g4 => ?_⟩
                      · cbv
                        refine ⟨[11100, 11500, 12000, 12001, 13500, 12002], ?_⟩
                        cbv
                        refine ⟨_, _, _, c23 y6.1 y6.2, ⟨by kernel_rfl⟩, fun _ => ⟨⟨by kernel_rfl⟩, ?_⟩⟩
                        cbv
                        refine ⟨[], [], ?_⟩
                        cbv
                        and_intros
                        all_goals first | exact trivial | exact ⟨rfl⟩ | exact ⟨by kernel_rfl⟩
                      · have h9 : False := by cases g4
                        cbv
                        exact h9.elim
                    · have h9 : False := self_eqB g3
                      cbv
                      exact h9.elim
                  · have h9 : False := self_eqB g2
                    cbv
                    exact h9.elim
                · have h9 : False := self_eqI g1
                  cbv
                  exact h9.elim
              · cbv
                refine ⟨_, _, F.d36, ⟨?_⟩, ?_⟩
                · kernel_rfl
                cbv
                refine ⟨_, _, F.w1, ⟨?_⟩, ?_⟩
                · kernel_rfl
                cbv
                refine ⟨_, _, F.w0, ⟨?_⟩, ?_⟩
                · kernel_rfl
                cbv
                refine ⟨_, _, F.s1, ⟨?_⟩, ?_⟩
                · kernel_rfl
                cbv
                refine ⟨_, _, F.s0, ⟨?_⟩, ?_⟩
                · kernel_rfl
                cbv
                refine ⟨_, _, F.c37, ⟨?_⟩, ?_⟩
                · kernel_rfl
                cbv
                refine ⟨_, _, F.c38, ⟨?_⟩, ?_⟩
                · kernel_rfl
                cbv
                refine ⟨_, _, F.c39, ⟨?_⟩, ?_⟩
                · kernel_rfl
                cbv
                refine Exists.elim (put29z F.lP) fun Q1 q1 => ?_
                refine ⟨[], ?_⟩
                cbv
                refine ⟨_, _, _, q1.2, ⟨by kernel_rfl⟩, fun y1 => ⟨⟨by kernel_rfl⟩, ?_⟩⟩
                have B1 := q1.1 y1.1 y1.2
                cbv
                refine Exists.elim (put29 (v0 := y1.1.1.1.1) 20000 1 B1.2 F.lD (by decide) (by decide)) fun Q2 q2 => ?_
                refine ⟨[], ?_⟩
                cbv
                refine ⟨_, _, _, q2.2, ⟨by kernel_rfl⟩, fun y2 => ⟨⟨by kernel_rfl⟩, ?_⟩⟩
                have B2 := q2.1 y2.1 y2.2
                cbv
                refine Exists.elim (put29 (v0 := y2.1.1.1.1) 40000 2 B2.2 F.lX (by decide) (by decide)) fun Q3 q3 => ?_
                refine ⟨[], ?_⟩
                cbv
                refine ⟨_, _, _, q3.2, ⟨by kernel_rfl⟩, fun y3 => ⟨⟨by kernel_rfl⟩, ?_⟩⟩
                have B3 := q3.1 y3.1 y3.2
                cbv
                refine Exists.elim (put29 (v0 := y3.1.1.1.1) 60000 3 B3.2 F.lY (by decide) (by decide)) fun Q4 q4 => ?_
                refine ⟨[], ?_⟩
                cbv
                refine ⟨_, _, _, q4.2, ⟨by kernel_rfl⟩, fun y4 => ⟨⟨by kernel_rfl⟩, ?_⟩⟩
                have B4 := q4.1 y4.1 y4.2
                cbv
                refine Exists.elim (put29 (v0 := y4.1.1.1.1) 80000 4 B4.2 F.kJ (by decide) (by decide)) fun Q5 q5 => ?_
                refine ⟨[], ?_⟩
                cbv
                refine ⟨_, _, _, q5.2, ⟨by kernel_rfl⟩, fun y5 => ⟨⟨by kernel_rfl⟩, ?_⟩⟩
                have B5 := q5.1 y5.1 y5.2
                cbv
                refine Exists.elim (put18 (bs := Kk) (v0 := y5.1.1.1.1) 100000 5 B5.2 (by decide)) fun Q6 q6 => ?_
                refine ⟨[], ?_⟩
                cbv
                have c23 := fun (z : RawB) (hz : Q6 z) => con23t (v0 := z.1.1) (q6.1 z hz).2 B1.1 B2.1 B3.1 B4.1 B5.1 (q6.1 z hz).1 rfl rfl F.tP F.tD F.tX F.tY F.sJ F.tK F.lP F.lD F.lX F.lY F.kJ
                refine ⟨_, _, _, q6.2, ⟨by kernel_rfl⟩, fun y6 => ⟨⟨by kernel_rfl⟩, ?_⟩⟩
                have B6 := q6.1 y6.1 y6.2
                cbv
                refine ⟨fun g1 => ?_, fun g1 => ?_⟩
                · cbv
                  refine ⟨fun g2 => ?_, fun g2 => ?_⟩
                  · cbv
                    refine ⟨fun g3 => ?_, fun g3 => ?_⟩
                    · cbv
                      refine ⟨_, _, F.c40, ⟨?_⟩, ?_⟩
                      · kernel_rfl
                      cbv
                      refine ⟨_, _, F.cP, ⟨?_⟩, ?_⟩
                      · kernel_rfl
                      cbv
                      refine ⟨_, _, F.cD, ⟨?_⟩, ?_⟩
                      · kernel_rfl
                      cbv
                      refine ⟨⟨by kernel_rfl⟩, ?_⟩
                      refine ⟨_, _, F.cX, ⟨?_⟩, ?_⟩
                      · kernel_rfl
                      cbv
                      refine ⟨_, _, F.cY, ⟨?_⟩, ?_⟩
                      · kernel_rfl
                      cbv
                      refine ⟨_, _, F.cK, ⟨?_⟩, ?_⟩
                      · kernel_rfl
                      cbv
                      refine ⟨_, _, F.d41, ⟨?_⟩, ?_⟩
                      · kernel_rfl
                      cbv
                      refine ⟨_, _, F.dJ, ⟨?_⟩, ?_⟩
                      · kernel_rfl
                      cbv
                      refine ⟨⟨by kernel_rfl⟩, ?_⟩
                      refine ⟨_, _, con19, ⟨?_⟩, ?_⟩
                      · kernel_rfl
                      cbv
                      refine ⟨fun g4 => ?_, fun g4 => ?_⟩
                      · cbv
                        refine ⟨[11100, 11500, 12000, 12001, 13500, 12002], ?_⟩
                        cbv
                        refine ⟨_, _, _, c23 y6.1 y6.2, ⟨by kernel_rfl⟩, fun _ => ⟨⟨by kernel_rfl⟩, ?_⟩⟩
                        cbv
                        refine ⟨[], [], ?_⟩
                        cbv
                        and_intros
                        all_goals first | exact trivial | exact ⟨rfl⟩ | exact ⟨by kernel_rfl⟩
                      · have h9 : False := by cases g4
                        cbv
                        exact h9.elim
                    · have h9 : False := self_eqB g3
                      cbv
                      exact h9.elim
                  · have h9 : False := self_eqB g2
                    cbv
                    exact h9.elim
                · have h9 : False := self_eqI g1
                  cbv
                  exact h9.elim
end Go.Proofs.Ytmdfjipjkkjpcaa

