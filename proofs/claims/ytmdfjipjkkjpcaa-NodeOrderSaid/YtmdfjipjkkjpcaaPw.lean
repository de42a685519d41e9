/- NodeOrder: the walk. -/
import Derived.Test.YtmdfjipjkkjpcaaNi
import Derived.Test.YtmdfjipjkkjpcaaPo
namespace Go.Proofs.Ytmdfjipjkkjpcaa
open Go.SX

theorem weight_mem {x : Ent} : ∀ {es : List Ent}, x ∈ es → x.key.length + x.val.length ≤ weight es
  | [], h => by cases h
  | e :: es, h => by
      simp only [weight]
      rcases List.mem_cons.1 h with rfl | h
      · omega
      · have := weight_mem h; omega
theorem weight_big {es : List Ent} (hb : ∀ e ∈ es, BigE e) : ∀ i, i ≤ es.length → weight (es.take i) ≤ i * 562949953421312
  | 0, _ => by simp [weight]
  | i + 1, h => by
      have := weight_big hb i (by omega)
      obtain ⟨h1, h2⟩ := hb _ (getD_mem (show i < es.length by omega))
      rw [weight_next es (by omega), Nat.add_mul]; omega

/-- Slots of which nothing is said any more. -/
def forget : List Nat → List (Nat × SV)
  | [] => []
  | k :: r => (k, .any) :: forget r

theorem con19t : Con 19 [] [] (.bool .t) [] := con19.yes rfl

set_option maxRecDepth 20000 in
set_option maxHeartbeats 4000000 in
theorem con7 {es : List Ent} (hb : ∀ e ∈ es, BigE e) : Con 7 [.dat (entsDV es)] [] (.bool (.s fun _ => true)) [] := by
  refine con_of Try.func7 rfl rfl 174 _ rfl rfl rfl rfl ?_
  cbv
  refine And.intro ?_ ?_
  · intro h1
    cbv
    refine ⟨_, _, con19t, ⟨?_⟩, ?_⟩
    · kernel_rfl
    cbv
    refine ⟨[], [], ?_⟩
    cbv
    and_intros
    all_goals first | exact trivial | exact ⟨rfl⟩ | exact ⟨by kernel_rfl⟩
  · intro h1
    have h1 : ¬ (60 : Int) < (es.length : Int) := of_decide_eq_false h1
    have hl : es.length ≤ 60 := by omega
    clear h1
    cbv
    refine ⟨_, _, con19t, ⟨?_⟩, ?_⟩
    · kernel_rfl
    cbv
    cbv
    refine ⟨Nat × Nat, [], fun x => [(3, .int .i64 (.s fun _ => (x.2 : Int))), (4, .int .i64 (.s fun _ => (x.1 : Int)))], fun _ => [],
      fun x => x.1 ≤ es.length ∧ x.2 = weight (es.take x.1) ∧ ∀ a b, a < b → b < x.1 → (es.getD a default).key ≠ (es.getD b default).key, fun x => es.length - x.1, (0, 0), [], ⟨Nat.zero_le _, by simp [weight], fun a b _ h => absurd h (Nat.not_lt_zero _)⟩, ⟨?_⟩, fun x hx => ?_⟩
    · cbv
      and_intros
      all_goals first | exact trivial | exact ⟨rfl⟩ | exact ⟨rfl, fun _ _ _ _ => rfl⟩ | exact ⟨by kernel_rfl⟩
    · obtain ⟨i, n⟩ := x
      obtain ⟨hi, hn, hd⟩ : i ≤ es.length ∧ n = weight (es.take i) ∧ ∀ a b, a < b → b < i → (es.getD a default).key ≠ (es.getD b default).key := hx
      cbv
      refine And.intro ?_ ?_
      · intro h10
        have h10 : (i : Int) < (es.length : Int) := of_decide_eq_true h10
        have hlt : i < es.length := by omega
        have o1 : indexObl (i : Int) es.length := ⟨by omega, h10⟩
        have bi : bound64 ((i : Int) + 1) := by unfold bound64; omega
        have ei : (i : Int) + 1 = ((i + 1 : Nat) : Int) := by omega
        have hms : es.length - (i + 1) < es.length - i := by omega
        have hE := hb _ (getD_mem hlt)
        have hwn := weight_next es hlt
        have hwb := weight_big hb i (by omega)
        obtain ⟨E1, E2⟩ := hE
        have q1 : bound64 (((es.getD i default).key.length : Int) + ((es.getD i default).val.length : Int)) := by unfold bound64; omega
        have q2 : bound64 ((n : Int) + (((es.getD i default).key.length : Int) + ((es.getD i default).val.length : Int))) := by unfold bound64; omega
        obtain ⟨n', hn'0⟩ : ∃ n', n' = n + ((es.getD i default).key.length + (es.getD i default).val.length) := ⟨_, rfl⟩
        have en : (n : Int) + (((es.getD i default).key.length : Int) + ((es.getD i default).val.length : Int)) = (n' : Int) := by omega
        have hn' : n' = weight (es.take (i + 1)) := by rw [hn'0, hn, hwn]
        clear h10 hn'0 hwn
        cbv
        refine ⟨⟨o1⟩, ⟨o1⟩, ⟨q1⟩, ⟨q2⟩, ⟨by kernel_rfl⟩, ?_⟩
        cbv
        refine ⟨Nat, [], fun j => [(5, .int .i64 (.s fun _ => (j : Int)))], fun _ => [], fun j => j ≤ i ∧ ∀ a, a < j → (es.getD a default).key ≠ (es.getD i default).key, fun j => i - j, 0, [], ⟨Nat.zero_le _, fun a h => absurd h (by omega)⟩, ⟨?_⟩, fun j hj => ?_⟩
        · cbv
          and_intros
          all_goals first | exact trivial | exact ⟨rfl⟩ | exact ⟨rfl, fun _ _ _ _ => rfl⟩ | exact ⟨by kernel_rfl⟩
        · obtain ⟨hj1, hj2⟩ : j ≤ i ∧ ∀ a, a < j → (es.getD a default).key ≠ (es.getD i default).key := hj
          cbv
          refine And.intro ?_ ?_
          · intro h11
            have h11 : (j : Int) < (i : Int) := of_decide_eq_true h11
            have hjlt : j < i := by omega
            have oi : indexObl (i : Int) es.length := ⟨by omega, by omega⟩
            have oj : indexObl (j : Int) es.length := ⟨by omega, by omega⟩
            have bj : bound64 ((j : Int) + 1) := by unfold bound64; omega
            have ej : (j : Int) + 1 = ((j + 1 : Nat) : Int) := by omega
            have hmj : i - (j + 1) < i - j := by omega
            clear h11
            cbv
            refine ⟨⟨oi⟩, ⟨oj⟩, ⟨by kernel_rfl⟩, ?_⟩
            cbv
            refine And.intro ?_ ?_
            · intro h12
              cbv
              refine ⟨[], [], ?_⟩
              cbv
              and_intros
              all_goals first | exact trivial | exact ⟨rfl⟩ | exact ⟨by kernel_rfl⟩
            · intro h12
              have h12 : ((es.getD i default).key == (es.getD j default).key) = false := h12
              have hne : (es.getD j default).key ≠ (es.getD i default).key := fun he => by rw [he] at h12; simp at h12
              have hinv : j + 1 ≤ i ∧ ∀ a, a < j + 1 → (es.getD a default).key ≠ (es.getD i default).key := ⟨hjlt, fun a ha => by
                by_cases h : a < j
                · exact hj2 a h
                · have : a = j := by omega
                  rw [this]; exact hne⟩
              clear h12 hne
              cbv
              refine ⟨⟨bj⟩, j + 1, [], hinv, hmj, ⟨?_⟩, ⟨?_⟩⟩
              · kernel_rfl
              · cbv
                and_intros
                all_goals first | exact trivial | exact ⟨ej⟩ | exact ⟨rfl⟩ | exact ⟨rfl, fun _ _ _ _ => rfl⟩ | exact ⟨by kernel_rfl⟩
          · intro h11
            have h11 : ¬ (j : Int) < (i : Int) := of_decide_eq_false h11
            have hinv : i + 1 ≤ es.length ∧ n' = weight (es.take (i + 1)) ∧ ∀ a b, a < b → b < i + 1 → (es.getD a default).key ≠ (es.getD b default).key := ⟨hlt, hn', fun a b hab hb => by
              by_cases h : b < i
              · exact hd a b hab h
              · have : b = i := by omega
                rw [this]; exact hj2 a (by omega)⟩
            clear h11
            cbv
            refine ⟨⟨bi⟩, (i + 1, n'), [], hinv, hms, ⟨?_⟩, ⟨?_⟩⟩
            · kernel_rfl
            · cbv
              and_intros
              all_goals first | exact trivial | exact ⟨ei⟩ | exact ⟨en⟩ | exact ⟨rfl⟩ | exact ⟨rfl, fun _ _ _ _ => rfl⟩ | exact ⟨by kernel_rfl⟩
      · intro h10
        have h10 : ¬ (i : Int) < (es.length : Int) := of_decide_eq_false h10
        have hie : i = es.length := by omega
        clear h10
        cbv
        refine And.intro ?_ ?_
        · intro h14
          cbv
          refine ⟨[], [], ?_⟩
          cbv
          and_intros
          all_goals first | exact trivial | exact ⟨rfl⟩ | exact ⟨by kernel_rfl⟩
        · intro h14
          have h14 : ¬ (20000 : Int) < (n : Int) := of_decide_eq_false h14
          have hun : Unlike es := fun a b hab hb => hd a b hab (by omega)
          have hwt : weight es ≤ 20000 := by rw [hn, hie, List.take_length] at h14; omega
          have hs : ∀ x ∈ es, SmallE x := fun x hx => by have := weight_mem hx; unfold SmallE; omega
          clear h14 hn hd hie
          cbv
          refine ⟨Nat × List Ent × List Ent, [500, 501], fun x => [(8, .int .i64 (.s fun _ => (x.1 : Int)))],
            fun x => [(6, .cells 24 [.bool (.s fun _ => true), .own 500]), (7, .cells 24 [.bool (.s fun _ => true), .own 501]), (500, .arrD 74 4 (fun _ => x.2.1.length) (lrow encE fun _ => x.2.1)), (501, .arrD 74 4 (fun _ => x.2.2.length) (lrow encE fun _ => x.2.2))],
            fun x => x.1 ≤ es.length ∧ x.2.1 = putAll (es.take x.1) ∧ x.2.2 = putAll (es.reverse.take x.1), fun x => es.length - x.1, (0, [], []), [(500, none), (501, none)], ⟨Nat.zero_le _, by simp [putAll], by simp [putAll]⟩, ⟨?_⟩, fun x hx => ?_⟩
          · cbv
            and_intros
            all_goals first | exact trivial | exact ⟨rfl⟩ | exact ⟨rfl, fun _ _ _ _ => rfl⟩ | exact ⟨by kernel_rfl⟩
          · obtain ⟨i, A, B⟩ := x
            obtain ⟨hi, hA, hB⟩ : i ≤ es.length ∧ A = putAll (es.take i) ∧ B = putAll (es.reverse.take i) := hx
            cbv
            refine And.intro ?_ ?_
            · intro h15
              have h15 : (i : Int) < (es.length : Int) := of_decide_eq_true h15
              have hlt : i < es.length := by omega
              have o1 : indexObl (i : Int) es.length := ⟨by omega, h15⟩
              have b1 : bound64 ((es.length : Int) - 1) := by unfold bound64; omega
              have b2 : bound64 ((es.length : Int) - 1 - (i : Int)) := by unfold bound64; omega
              have o2 : indexObl ((es.length : Int) - 1 - (i : Int)) es.length := ⟨by omega, by omega⟩
              have bi : bound64 ((i : Int) + 1) := by unfold bound64; omega
              have ei : (i : Int) + 1 = ((i + 1 : Nat) : Int) := by omega
              have hms : es.length - (i + 1) < es.length - i := by omega
              have et : ((es.length : Int) - 1 - (i : Int)).toNat = es.length - 1 - i := by omega
              have er : es.reverse.getD i default = es.getD ((es.length : Int) - 1 - (i : Int)).toNat default := by
                rw [et, List.getD_eq_getElem?_getD, List.getD_eq_getElem?_getD, List.getElem?_reverse (by omega)]
              obtain ⟨-, hmA, hlA⟩ := putAll_law hun i (by omega)
              obtain ⟨-, hmB, hlB⟩ := putAll_law (unlike_rev hun) i (by rw [List.length_reverse]; omega)
              rw [← hA] at hmA hlA
              rw [← hB] at hmB hlB
              have hsA : ∀ x ∈ A, SmallE x := fun x hx => hs x (List.mem_of_mem_take ((hmA x).1 hx))
              have hsB : ∀ x ∈ B, SmallE x := fun x hx => hs x (List.mem_reverse.1 (List.mem_of_mem_take ((hmB x).1 hx)))
              have s1 : SmallE (es.getD i default) := hs _ (getD_mem hlt)
              have s2 : SmallE (es.getD ((es.length : Int) - 1 - (i : Int)).toNat default) := by rw [et]; exact hs _ (getD_mem (by omega))
              have cA := con32 (leaf := true) hsA s1 (by omega)
              have cB := con32 (leaf := true) hsB s2 (by omega)
              obtain ⟨A', hA'⟩ : ∃ A', A' = putL A (es.getD i default) := ⟨_, rfl⟩
              obtain ⟨B', hB'⟩ : ∃ B', B' = putL B (es.getD ((es.length : Int) - 1 - (i : Int)).toNat default) := ⟨_, rfl⟩
              rw [← hA'] at cA
              rw [← hB'] at cB
              have hinv : i + 1 ≤ es.length ∧ A' = putAll (es.take (i + 1)) ∧ B' = putAll (es.reverse.take (i + 1)) := ⟨hlt, by rw [hA', hA, putAll_next hlt], by rw [hB', hB, putAll_next (by rw [List.length_reverse]; exact hlt), er]⟩
              clear h15 hA hB hA' hB' hmA hmB er
              cbv
              refine ⟨⟨o1⟩, ?_⟩
              refine ⟨_, _, cA, ⟨?_⟩, ?_⟩
              · kernel_rfl
              cbv
              refine ⟨⟨by kernel_rfl⟩, ?_⟩
              cbv
              refine ⟨⟨b1⟩, ⟨b2⟩, ⟨o2⟩, ?_⟩
              refine ⟨_, _, cB, ⟨?_⟩, ?_⟩
              · kernel_rfl
              cbv
              refine ⟨⟨by kernel_rfl⟩, ?_⟩
              cbv
              refine ⟨⟨bi⟩, (i + 1, A', B'), [(500, some 10400), (501, some 11400)], hinv, hms, ⟨?_⟩, ⟨?_⟩⟩
              · kernel_rfl
              · cbv
                and_intros
                all_goals first | exact trivial | exact ⟨ei⟩ | exact ⟨rfl⟩ | exact ⟨rfl, fun _ _ _ _ => rfl⟩ | exact ⟨by kernel_rfl⟩
            · intro h15
              have h15 : ¬ (i : Int) < (es.length : Int) := of_decide_eq_false h15
              have hie : i = es.length := by omega
              clear h15
              have hA1 : A = putAll es := by rw [hA, hie, List.take_length]
              have hB1 : B = putAll es := by rw [hB, hie, ← List.length_reverse, List.take_length, ← putAll_rev hun]
              have hAB : sameB true true A B = true := by unfold sameB; rw [hA1, hB1]; simp
              obtain ⟨hup, hmem, hlA⟩ := putAll_law hun es.length (Nat.le_refl _)
              rw [List.take_length, ← hA1] at hup hmem hlA
              have hsA : ∀ x ∈ A, SmallE x := fun x hx => hs x ((hmem x).1 hx)
              have hlA' : A.length < 1000000000000 := by omega
              have hlen2 : ¬ ¬ (A.length : Int) = (es.length : Int) := by omega
              clear hie hA hB hA1 hB1
              cbv
              refine ⟨_, _, (con30 (la := true) (lb := true) (a := A) (b := B) hsA hlA').yes hAB, ⟨?_⟩, ?_⟩
              · kernel_rfl
              cbv
              refine And.intro ?_ ?_
              · intro h18
                have h18 : ¬ (A.length : Int) = (es.length : Int) := of_decide_eq_false (bnot_t h18)
                exfalso
                exact hlen2 h18
              · intro h18
                cbv
                refine ⟨Nat, [], fun i => [(9, .int .i64 (.s fun _ => (i : Int)))], fun _ => [(6, .cells 24 [.bool (.s fun _ => true), .own 500]), (500, .arrD 74 4 (fun _ => A.length) (lrow encE fun _ => A))],
                  fun i => i ≤ es.length, fun i => es.length - i, 0, [], Nat.zero_le _, ⟨?_⟩, fun i hi => ?_⟩
                · cbv
                  and_intros
                  all_goals first | exact trivial | exact ⟨rfl⟩ | exact ⟨rfl, fun _ _ _ _ => rfl⟩ | exact ⟨by kernel_rfl⟩
                · have hi : i ≤ es.length := hi
                  cbv
                  refine And.intro ?_ ?_
                  · intro h20
                    have h20 : (i : Int) < (es.length : Int) := of_decide_eq_true h20
                    have hlt : i < es.length := by omega
                    have o1 : indexObl (i : Int) es.length := ⟨by omega, h20⟩
                    have oA : indexObl (i : Int) A.length := ⟨by omega, by omega⟩
                    have bi : bound64 ((i : Int) + 1) := by unfold bound64; omega
                    have bm : bound64 ((i : Int) - 1) := by unfold bound64; omega
                    have ei : (i : Int) + 1 = ((i + 1 : Nat) : Int) := by omega
                    have hms : es.length - (i + 1) < es.length - i := by omega
                    obtain ⟨f1, f2⟩ := found_at hup ((hmem _).2 (getD_mem hlt))
                    have hf : foundB A (es.getD i default).key = true := by unfold foundB; rw [decide_eq_true f1, f2, decide_eq_true rfl]; rfl
                    have ca := con31t (es := A) (key := (es.getD i default).key) (by omega)
                    obtain ⟨k, hk⟩ : ∃ k, k = placeI (geP (es.getD i default).key) A := ⟨_, rfl⟩
                    rw [← hk] at f1 f2 ca
                    have ca := ca.yes2 hf
                    have ok : indexObl (k : Int) A.length := ⟨by omega, by omega⟩
                    have nk : ¬ (A.length : Int) ≤ (k : Int) := by omega
                    have hval : ((A.getD k default).val == (es.getD i default).val) = true := by rw [f2]; simp
                    have hpage : (A.getD k default).page = (es.getD i default).page := by rw [f2]
                    have hup1 : 0 < (i : Int) → indexObl ((i : Int) - 1) A.length ∧ (Op.bytesLess (A.getD i default).key (A.getD ((i : Int) - 1).toNat default).key || (A.getD i default).key == (A.getD ((i : Int) - 1).toNat default).key) = false := by
                      intro h0
                      have e1 : ((i : Int) - 1).toNat = i - 1 := by omega
                      refine ⟨⟨by omega, by omega⟩, ?_⟩
                      rw [e1, leq_cmp]
                      have := up_rises hup (i - 1) i (by omega) (by omega)
                      have h2 := cmp_anti (A.getD (i - 1) default).key (A.getD i default).key
                      simp only [gtP, Bool.not_eq_false', decide_eq_true_eq]
                      omega
                    clear h20 hf hk f2
                    cbv
                    refine ⟨⟨o1⟩, ?_⟩
                    refine ⟨_, _, ca, ⟨?_⟩, ?_⟩
                    · kernel_rfl
                    cbv
                    refine ⟨⟨by kernel_rfl⟩, ?_⟩
                    cbv
                    refine And.intro ?_ ?_
                    · intro h22
                      have h22 : (A.length : Int) ≤ (k : Int) := of_decide_eq_true h22
                      exfalso
                      exact nk h22
                    · intro h22
                      cbv
                      refine ⟨⟨ok⟩, ⟨o1⟩, ?_⟩
                      cbv
                      refine And.intro ?_ ?_
                      · intro h23
                        have h23 : ((A.getD k default).val == (es.getD i default).val) = false := bnot_t h23
                        rw [hval] at h23
                        exfalso
                        cases h23
                      · intro h23
                        cbv
                        refine ⟨⟨ok⟩, ⟨o1⟩, ?_⟩
                        cbv
                        refine And.intro ?_ ?_
                        · intro h24
                          have h24 : ¬ (A.getD k default).page = (es.getD i default).page := of_decide_eq_false (bnot_t h24)
                          exfalso
                          exact h24 hpage
                        · intro h24
                          cbv
                          refine And.intro ?_ ?_
                          · intro h25
                            have h25 : (0 : Int) < (i : Int) := of_decide_eq_true h25
                            obtain ⟨om, hle⟩ := hup1 h25
                            clear h25
                            cbv
                            refine ⟨⟨oA⟩, ⟨bm⟩, ⟨om⟩, ?_⟩
                            cbv
                            refine ⟨⟨by kernel_rfl⟩, ?_⟩
                            cbv
                            refine And.intro ?_ ?_
                            · intro h26
                              have h26 : (Op.bytesLess (A.getD i default).key (A.getD ((i : Int) - 1).toNat default).key || (A.getD i default).key == (A.getD ((i : Int) - 1).toNat default).key) = true := h26
                              rw [hle] at h26
                              exfalso
                              cases h26
                            · intro h26
                              cbv
                              refine ⟨⟨bi⟩, i + 1, [], hlt, hms, ⟨?_⟩, ⟨?_⟩⟩
                              · kernel_rfl
                              · cbv
                                and_intros
                                all_goals first | exact trivial | exact ⟨ei⟩ | exact ⟨rfl⟩ | exact ⟨rfl, fun _ _ _ _ => rfl⟩ | exact ⟨by kernel_rfl⟩
                          · intro h25
                            cbv
                            refine ⟨⟨by kernel_rfl⟩, ?_⟩
                            cbv
                            refine ⟨⟨bi⟩, i + 1, [], hlt, hms, ⟨?_⟩, ⟨?_⟩⟩
                            · kernel_rfl
                            · cbv
                              and_intros
                              all_goals first | exact trivial | exact ⟨ei⟩ | exact ⟨rfl⟩ | exact ⟨rfl, fun _ _ _ _ => rfl⟩ | exact ⟨by kernel_rfl⟩
                  · intro h20
                    cbv
                    refine ⟨[], [], ?_⟩
                    cbv
                    and_intros
                    all_goals first | exact trivial | exact ⟨rfl⟩ | exact ⟨by kernel_rfl⟩
end Go.Proofs.Ytmdfjipjkkjpcaa
