/- Texts put together: Df, Wn, Xa, Xb, Wj, Wp. -/
import Derived.Test.YtmdfjipjkkjpcaaUl
import Derived.Test.YtmdfjipjkkjpcaaUm
import Derived.Test.YtmdfjipjkkjpcaaUk
/- NodeReads: the reference's Decode of any bytes. -/
namespace Go.Proofs.Ytmdfjipjkkjpcaa
open Go.SX

def In28 (leaf : Bool) (b : List UInt8) (N i a : Nat) (bad : Bool) (acc : List Ent) : Prop := i ≤ N ∧ a ≤ b.length ∧ acc.length = i ∧ (∀ e ∈ acc, EntS e) ∧
  (bad = true → readP leaf b = none) ∧ (bad = false → readP leaf b = (entsP leaf (N - i) (b.drop a)).map (acc ++ ·))
theorem in28_0 {leaf : Bool} {b : List UInt8} {N a : Nat} {bad : Bool} (h : rdN b 2 0 false = (N, a, bad)) : In28 leaf b N 0 a bad [] ∧ N < 65536 := by
  rcases rdN_cases h with ⟨rfl, hb, rfl, rfl⟩ | ⟨rfl, _, hl, rfl, rfl⟩
  · refine ⟨⟨Nat.le_refl _, Nat.zero_le _, rfl, fun _ h => (by cases h), fun _ => ?_, fun h => by cases h⟩, by decide⟩
    unfold readP
    rw [if_neg]
    rcases hb with hb | hb
    · cases hb
    · omega
  · refine ⟨⟨Nat.zero_le _, by omega, rfl, fun _ h => (by cases h), fun h => (by cases h), fun _ => ?_⟩, by rw [List.drop_zero]; exact num2_lt b⟩
    unfold readP
    rw [if_pos (by omega)]
    simp
theorem in28_s {leaf : Bool} {b : List UInt8} {N i a a' : Nat} {bad bad' : Bool} {acc : List Ent} {e : Ent} (h : In28 leaf b N i a bad acc) (hb : bad = false) (hi : i < N) (ha : a' ≤ b.length) (he : EntS e)
    (hs : (bad' = true ∧ entP leaf (b.drop a) = none) ∨ (bad' = false ∧ entP leaf (b.drop a) = some (e, b.drop a'))) : In28 leaf b N (i + 1) a' bad' (acc ++ [e]) := by
  obtain ⟨h1, h2, h3, h4, _, h6⟩ := h
  have h6 := h6 hb
  rw [show N - i = (N - (i + 1)) + 1 by omega] at h6
  refine ⟨hi, ha, by simp [h3], fun x hx => ?_, fun hq => ?_, fun hq => ?_⟩
  · rcases List.mem_append.1 hx with hx | hx
    · exact h4 x hx
    · rcases List.mem_cons.1 hx with rfl | hx
      · exact he
      · cases hx
  · rcases hs with ⟨_, hs⟩ | ⟨hs, _⟩
    · rw [h6]; simp only [entsP, hs, Option.map_none]
    · rw [hs] at hq; cases hq
  · rcases hs with ⟨hs, _⟩ | ⟨_, hs⟩
    · rw [hs] at hq; cases hq
    · rw [h6]
      simp only [entsP, hs]
      cases entsP leaf (N - (i + 1)) (b.drop a') with
      | none => rfl
      | some tl => simp
theorem in28_done {leaf : Bool} {b : List UInt8} {N i a : Nat} {bad : Bool} {acc : List Ent} (h : In28 leaf b N i a bad acc) (hi : ¬ i < N) (hb : bad = false) : readP leaf b = some acc := by
  obtain ⟨h1, h2, h3, h4, _, h6⟩ := h
  rw [h6 hb, show N - i = 0 by omega]
  simp [entsP]
theorem dec_l {k : Int} {b : List UInt8} {L : Bool} {es : List Ent} {fl : Int} (hd : dec k b = (L, es, fl)) (h : dec k b = (false, [], 90)) : false = L ∧ es = [] ∧ (90 : Int) = fl := by
  rw [h] at hd; cases hd; exact ⟨rfl, rfl, rfl⟩
theorem rng32 {x : Nat} (h : x < 4294967296) : IntKind.u32.wrap (x : Int) = (x : Int) := by rw [IntKind.wrap_u32]; omega
theorem w32 {x : Nat} (h : x < 4294967296) : 0 ≤ IntKind.u32.wrap (x : Int) ∧ IntKind.u32.wrap (x : Int) < 4294967296 := by rw [rng32 h]; omega
theorem z32 : (0 : Int) ≤ 0 ∧ (0 : Int) < 4294967296 := by decide
theorem entS_mk {k v : List UInt8} {p s : Int} (hk : k.length ≤ 255) (hv : v.length ≤ 255) (hp : 0 ≤ p ∧ p < 4294967296) (hs : 0 ≤ s ∧ s < 4294967296) : EntS ⟨k, v, p, s⟩ := ⟨⟨hp, hs⟩, hk, hv⟩

set_option maxRecDepth 20000 in
set_option maxHeartbeats 4000000 in
theorem con28k {k : Int} {b : List UInt8} (h1 : ¬ k = 1) (h2 : ¬ k = 2) : Con 28 [.int .u8 (.s fun _ => k), .dat (.bytes fun _ => b)] [] (decR false 90) (decO []) := by
  refine con_of Try.func28 rfl rfl 98 _ rfl rfl rfl rfl ?_
  cbv
  refine And.intro ?_ ?_
  · intro q
    cbv
    refine And.intro ?_ ?_
    · intro q2
      cbv
      refine ⟨[(2000, none)], [], ?_⟩
      cbv
      and_intros
      all_goals first | exact trivial | exact ⟨rfl⟩ | exact ⟨by kernel_rfl⟩
    · intro q2
      have q2 : k = 2 := of_decide_eq_true (bnot_f q2)
      exact (h2 q2).elim
  · intro q
    have q : k = 1 := of_decide_eq_true (bnot_f q)
    exact (h1 q).elim

set_option maxRecDepth 20000 in
set_option maxHeartbeats 8000000 in
theorem con28m {k : Int} {b : List UInt8} {L : Bool} {es : List Ent} {fl : Int} (hk : k = 1 ∨ k = 2) (hd : dec k b = (L, es, fl)) (hb : b.length < 1000000000000) : Con 28 [.int .u8 (.s fun _ => k), .dat (.bytes fun _ => b)] [] (decR L fl) (decO es) := by
  obtain ⟨leaf, hleaf⟩ : ∃ l, l = decide (k = 1) := ⟨_, rfl⟩
  obtain ⟨N, a0, bad0, e0⟩ : ∃ N a0 bad0, rdN b 2 0 false = (N, a0, bad0) := ⟨_, _, _, rfl⟩
  obtain ⟨hi0, hN⟩ := in28_0 (leaf := leaf) e0
  have ca := con74z (m := 2) (by decide) e0 hb
  refine con_of Try.func28 rfl rfl 98 _ rfl rfl rfl rfl ?_
  cbv
  refine And.intro ?_ ?_
  · intro q
    have q : ¬ k = 1 := of_decide_eq_false (bnot_t q)
    have q0 : k = 2 := by omega
    cbv
    refine And.intro ?_ ?_
    · intro q2
      have q2 : ¬ k = 2 := of_decide_eq_false (bnot_t q2)
      exact (q2 q0).elim
    · intro q2
      clear q2
      cbv
      refine ⟨_, _, ca, ⟨by kernel_rfl⟩, ?_⟩
      cbv
      refine ⟨Nat × Nat × Bool × List Ent, [500], fun x => [(9, .int .i64 (.s fun _ => (x.1 : Int)))],
        fun x => [(4, .cells 24 [.bool .f, .nil]), (6, .cells 24 [.bool (.s fun _ => decide (k = 1)), .own 500]), (26, .cells 116 [.dat (.bytes fun _ => b), .int .i64 (.s fun _ => (x.2.1 : Int)), .bool (.s fun _ => x.2.2.1)]), (500, .arrD 74 4 (fun _ => x.2.2.2.length) (lrow encE fun _ => x.2.2.2))],
        fun x => In28 leaf b N x.1 x.2.1 x.2.2.1 x.2.2.2, fun x => N - x.1, (0, a0, bad0, []), [(500, none)], hi0, ⟨?_⟩, fun x hx => ?_⟩
      · cbv
        and_intros
        all_goals first | exact trivial | exact ⟨rfl⟩ | exact ⟨by kernel_rfl⟩
      · obtain ⟨i, a, bad, acc⟩ := x
        have hx : In28 leaf b N i a bad acc := hx
        have hal := hx.2.2.1
        have hle := hx.2.1
        have hS := hx.2.2.2.1
        have hiN := hx.1
        have hw := weight_s hS
        have c17 := con17o (leaf := decide (k = 1)) (es := acc) (fun e he => (hS e he).1) (by omega)
        have hdec : readP (decide (k = 1)) b = none → false = L ∧ es = [] ∧ (90 : Int) = fl := fun h => dec_l hd (dec_none h)
        have hdb : readP (decide (k = 1)) b = some acc → ¬ (checkI (decide (k = 1)) acc = 0 ∧ encB (decide (k = 1)) acc = b) → false = L ∧ es = [] ∧ (90 : Int) = fl := fun h h2 => dec_l hd (dec_bad h h2)
        have hdo : readP (decide (k = 1)) b = some acc → checkI (decide (k = 1)) acc = 0 → encB (decide (k = 1)) acc = b → decide (k = 1) = L ∧ es = acc ∧ (0 : Int) = fl := fun h h1 h2 => by
          rw [dec_ok hk h h1 h2] at hd; cases hd; exact ⟨rfl, rfl, rfl⟩
        cbv
        refine And.intro ?_ ?_
        · intro g1
          have g1 : (i : Int) < (N : Int) := of_decide_eq_true g1
          have hlt : i < N := by omega
          cbv
          refine And.intro ?_ ?_
          · intro g2
            have g2 : bad = false := bnot_t g2
            obtain ⟨n1, a1, b1, e1⟩ : ∃ n a' b', rdN b 1 a bad = (n, a', b') := ⟨_, _, _, rfl⟩
            obtain ⟨k1, a2, b2, e2⟩ : ∃ n a' b', rdB b n1 a1 b1 = (n, a', b') := ⟨_, _, _, rfl⟩
            obtain ⟨p3, a3b, b3b, e3b⟩ : ∃ n a' b', rdN b 4 a2 b2 = (n, a', b') := ⟨_, _, _, rfl⟩
            obtain ⟨n3, a3, b3, e3⟩ : ∃ n a' b', rdN b 1 a2 b2 = (n, a', b') := ⟨_, _, _, rfl⟩
            obtain ⟨v4, a4v, b4v, e4v⟩ : ∃ n a' b', rdB b n3 a3 b3 = (n, a', b') := ⟨_, _, _, rfl⟩
            obtain ⟨s4, a4, b4, e4⟩ : ∃ n a' b', rdN b 4 a3 b3 = (n, a', b') := ⟨_, _, _, rfl⟩
            obtain ⟨p5, a5, b5, e5⟩ : ∃ n a' b', rdN b 4 a4 b4 = (n, a', b') := ⟨_, _, _, rfl⟩
            have f1 := rdN_le e1 hle
            have f2 := rdB_le e2 f1.1
            have f3b := rdN_le e3b f2.1
            have f3 := rdN_le e3 f2.1
            have f4v := rdB_le e4v f3.1
            have f4 := rdN_le e4 f3.1
            have f5 := rdN_le e5 f4.1
            have w3 := rng32 f3b.2
            have w4 := rng32 f4.2
            have w5 := rng32 f5.2
            have c1 := con74 (m := 1) (by decide) e1 hle hb
            have c2 := con75 (by omega) e2 f1.1 hb
            have c3b := con74 (m := 4) (by decide) e3b f2.1 hb
            have c3 := con74 (m := 1) (by decide) e3 f2.1 hb
            have c4v := con75 (by omega) e4v f3.1 hb
            have c4 := con74 (m := 4) (by decide) e4 f3.1 hb
            have c5 := con74 (m := 4) (by decide) e5 f4.1 hb
            have e1f : rdN b 1 a false = (n1, a1, b1) := by rw [← g2]; exact e1
            have hms : N - (i + 1) < N - i := by omega
            have bi : bound64 ((i : Int) + 1) := by unfold bound64; omega
            have ei : (i : Int) + 1 = ((i + 1 : Nat) : Int) := by omega
            have hlo : lenOk (acc.length + 1) 56 := by unfold lenOk; omega
            have hk1 : k1.length ≤ 255 := by omega
            have hap1 := app_ok acc ⟨k1, [], IntKind.u32.wrap (p3 : Int), 0⟩
            have hap2 := app_ok acc ⟨k1, v4, 0, 0⟩
            have hap3 := app_ok acc ⟨k1, [], IntKind.u32.wrap (p5 : Int), IntKind.u32.wrap (s4 : Int)⟩
            clear hdec hdb hdo
            cbv
            refine ⟨_, _, c1, ⟨by kernel_rfl⟩, ?_⟩
            cbv
            refine ⟨_, _, c2, ⟨by kernel_rfl⟩, ?_⟩
            cbv
            refine And.intro ?_ ?_
            · intro g3
              have g3 : decide (k = 1) = true := g3
              have g3 : leaf = true := by rw [hleaf]; exact g3
              cbv
              refine ⟨_, _, c3, ⟨by kernel_rfl⟩, ?_⟩
              cbv
              refine And.intro ?_ ?_
              · intro g4
                have g4 : ¬ (n3 : Int) = 255 := of_decide_eq_false (bnot_t g4)
                have st := step_val g3 e1f e2 e3 (by omega) e4v
                obtain ⟨acc', hacc⟩ : ∃ x, x = acc ++ [⟨k1, v4, 0, 0⟩] := ⟨_, rfl⟩
                have hra := row_app hacc.symm
                have hinv := in28_s hx g2 hlt f4v.1 (e := ⟨k1, v4, 0, 0⟩) (entS_mk hk1 (by omega) z32 z32) st
                rw [← hacc] at hinv
                clear g4 st hx
                cbv
                refine ⟨_, _, c4v, ⟨by kernel_rfl⟩, ?_⟩
                cbv
                refine ⟨⟨hlo, hap2⟩, ?_⟩
                cbv
                refine ⟨⟨bi⟩, ?_⟩
                refine ⟨(i + 1, a4v, b4v, acc'), [(500, some 74)], hinv, hms, ⟨?_⟩, ⟨?_⟩⟩
                · kernel_rfl
                · cbv
                  and_intros
                  all_goals first | exact trivial | exact ⟨ei⟩ | exact ⟨hra⟩ | exact ⟨rfl⟩ | exact ⟨by kernel_rfl⟩
              · intro g4
                have g4 : (n3 : Int) = 255 := of_decide_eq_true (bnot_f g4)
                have st := step_big g3 e1f e2 e3 (by omega) e4 e5
                have st : (b5 = true ∧ entP leaf (b.drop a) = none) ∨ (b5 = false ∧ entP leaf (b.drop a) = some (⟨k1, [], IntKind.u32.wrap (p5 : Int), IntKind.u32.wrap (s4 : Int)⟩, b.drop a5)) := by rw [w4, w5]; exact st
                obtain ⟨acc', hacc⟩ : ∃ x, x = acc ++ [⟨k1, [], IntKind.u32.wrap (p5 : Int), IntKind.u32.wrap (s4 : Int)⟩] := ⟨_, rfl⟩
                have hra := row_app hacc.symm
                have hinv := in28_s hx g2 hlt f5.1 (e := ⟨k1, [], IntKind.u32.wrap (p5 : Int), IntKind.u32.wrap (s4 : Int)⟩) (entS_mk hk1 (by decide) (w32 f5.2) (w32 f4.2)) st
                rw [← hacc] at hinv
                clear g4 st hx
                cbv
                refine ⟨_, _, c4, ⟨by kernel_rfl⟩, ?_⟩
                cbv
                refine ⟨_, _, c5, ⟨by kernel_rfl⟩, ?_⟩
                cbv
                refine ⟨⟨hlo, hap3⟩, ?_⟩
                cbv
                refine ⟨⟨bi⟩, ?_⟩
                refine ⟨(i + 1, a5, b5, acc'), [(500, some 74)], hinv, hms, ⟨?_⟩, ⟨?_⟩⟩
                · kernel_rfl
                · cbv
                  and_intros
                  all_goals first | exact trivial | exact ⟨ei⟩ | exact ⟨hra⟩ | exact ⟨rfl⟩ | exact ⟨by kernel_rfl⟩
            · intro g3
              have g3 : decide (k = 1) = false := g3
              have g3 : leaf = false := by rw [hleaf]; exact g3
              have st := step_branch g3 e1f e2 e3b
              have st : (b3b = true ∧ entP leaf (b.drop a) = none) ∨ (b3b = false ∧ entP leaf (b.drop a) = some (⟨k1, [], IntKind.u32.wrap (p3 : Int), 0⟩, b.drop a3b)) := by rw [w3]; exact st
              obtain ⟨acc', hacc⟩ : ∃ x, x = acc ++ [⟨k1, [], IntKind.u32.wrap (p3 : Int), 0⟩] := ⟨_, rfl⟩
              have hra := row_app hacc.symm
              have hinv := in28_s hx g2 hlt f3b.1 (e := ⟨k1, [], IntKind.u32.wrap (p3 : Int), 0⟩) (entS_mk hk1 (by decide) (w32 f3b.2) z32) st
              rw [← hacc] at hinv
              clear st hx
              cbv
              refine ⟨_, _, c3b, ⟨by kernel_rfl⟩, ?_⟩
              cbv
              refine ⟨⟨hlo, hap1⟩, ?_⟩
              cbv
              refine ⟨⟨bi⟩, ?_⟩
              refine ⟨(i + 1, a3b, b3b, acc'), [(500, some 74)], hinv, hms, ⟨?_⟩, ⟨?_⟩⟩
              · kernel_rfl
              · cbv
                and_intros
                all_goals first | exact trivial | exact ⟨ei⟩ | exact ⟨hra⟩ | exact ⟨rfl⟩ | exact ⟨by kernel_rfl⟩
          · intro g2
            have g2 : bad = true := bnot_f g2
            have hz := hdec (by rw [← hleaf]; exact hx.2.2.2.2.1 g2)
            cbv
            refine ⟨_, _, c17, ⟨by kernel_rfl⟩, ?_⟩
            cbv
            refine And.intro ?_ ?_
            · intro g3
              have z1 := hz.1
              have z2 : es.length = 0 := by rw [hz.2.1]; rfl
              have z3 := hz.2.2
              cbv
              refine ⟨[(2000, none)], [], ?_⟩
              cbv
              and_intros
              all_goals first | exact trivial | exact ⟨z1⟩ | exact ⟨z2⟩ | exact ⟨z3⟩ | exact ⟨rfl⟩ | exact ⟨z2.symm⟩ | exact ⟨by kernel_rfl⟩
            · intro g3
              have g3 : bad = false := g3
              have hf : False := by rw [g2] at g3; cases g3
              exact hf.elim
        · intro g1
          have g1 : ¬ (i : Int) < (N : Int) := of_decide_eq_false g1
          have hnl : ¬ i < N := by omega
          have hz0 : bad = true → false = L ∧ es = [] ∧ (90 : Int) = fl := fun h => hdec (by rw [← hleaf]; exact hx.2.2.2.2.1 h)
          have hsome : bad = false → readP (decide (k = 1)) b = some acc := fun h => by rw [← hleaf]; exact in28_done hx hnl h
          cbv
          refine ⟨_, _, c17, ⟨by kernel_rfl⟩, ?_⟩
          cbv
          refine And.intro ?_ ?_
          · intro g3
            have hz := hz0 g3
            have z1 := hz.1
            have z2 : es.length = 0 := by rw [hz.2.1]; rfl
            have z3 := hz.2.2
            cbv
            refine ⟨[(2000, none)], [], ?_⟩
            cbv
            and_intros
            all_goals first | exact trivial | exact ⟨z1⟩ | exact ⟨z2⟩ | exact ⟨z3⟩ | exact ⟨rfl⟩ | exact ⟨z2.symm⟩ | exact ⟨by kernel_rfl⟩
          · intro g3
            have g3 : bad = false := g3
            have hsm := hsome g3
            cbv
            refine And.intro ?_ ?_
            · intro g4
              have g4 : ¬ checkI (decide (k = 1)) acc = 0 := of_decide_eq_false (bnot_t g4)
              have hz := hdb hsm (fun h => g4 h.1)
              have z1 := hz.1
              have z2 : es.length = 0 := by rw [hz.2.1]; rfl
              have z3 := hz.2.2
              cbv
              refine ⟨[(2000, none)], [], ?_⟩
              cbv
              and_intros
              all_goals first | exact trivial | exact ⟨z1⟩ | exact ⟨z2⟩ | exact ⟨z3⟩ | exact ⟨rfl⟩ | exact ⟨z2.symm⟩ | exact ⟨by kernel_rfl⟩
            · intro g4
              have g4 : checkI (decide (k = 1)) acc = 0 := of_decide_eq_true (bnot_f g4)
              cbv
              refine And.intro ?_ ?_
              · intro g5
                have g5 : (encB (decide (k = 1)) acc == b) = false := bnot_t g5
                have g5 : ¬ encB (decide (k = 1)) acc = b := by simpa using g5
                have hz := hdb hsm (fun h => g5 h.2)
                have z1 := hz.1
                have z2 : es.length = 0 := by rw [hz.2.1]; rfl
                have z3 := hz.2.2
                cbv
                refine ⟨[(2000, none)], [], ?_⟩
                cbv
                and_intros
                all_goals first | exact trivial | exact ⟨z1⟩ | exact ⟨z2⟩ | exact ⟨z3⟩ | exact ⟨rfl⟩ | exact ⟨z2.symm⟩ | exact ⟨by kernel_rfl⟩
              · intro g5
                have g5 : (encB (decide (k = 1)) acc == b) = true := bnot_f g5
                have g5 : encB (decide (k = 1)) acc = b := by simpa using g5
                have hz := hdo hsm g4 g5
                have z1 := hz.1
                have z2 := row_le hz.2.1.symm
                have z3 := hz.2.2
                cbv
                refine ⟨[(2000, some 500)], [], ?_⟩
                cbv
                and_intros
                all_goals first | exact trivial | exact ⟨z1⟩ | exact ⟨z2⟩ | exact ⟨z3⟩ | exact ⟨rfl⟩ | exact ⟨by kernel_rfl⟩
  · intro q
    clear q
    cbv
    refine ⟨_, _, ca, ⟨by kernel_rfl⟩, ?_⟩
    cbv
    refine ⟨Nat × Nat × Bool × List Ent, [500], fun x => [(9, .int .i64 (.s fun _ => (x.1 : Int)))],
      fun x => [(4, .cells 24 [.bool .f, .nil]), (6, .cells 24 [.bool (.s fun _ => decide (k = 1)), .own 500]), (26, .cells 116 [.dat (.bytes fun _ => b), .int .i64 (.s fun _ => (x.2.1 : Int)), .bool (.s fun _ => x.2.2.1)]), (500, .arrD 74 4 (fun _ => x.2.2.2.length) (lrow encE fun _ => x.2.2.2))],
      fun x => In28 leaf b N x.1 x.2.1 x.2.2.1 x.2.2.2, fun x => N - x.1, (0, a0, bad0, []), [(500, none)], hi0, ⟨?_⟩, fun x hx => ?_⟩
    · cbv
      and_intros
      all_goals first | exact trivial | exact ⟨rfl⟩ | exact ⟨by kernel_rfl⟩
    · obtain ⟨i, a, bad, acc⟩ := x
      have hx : In28 leaf b N i a bad acc := hx
      have hal := hx.2.2.1
      have hle := hx.2.1
      have hS := hx.2.2.2.1
      have hiN := hx.1
      have hw := weight_s hS
      have c17 := con17o (leaf := decide (k = 1)) (es := acc) (fun e he => (hS e he).1) (by omega)
      have hdec : readP (decide (k = 1)) b = none → false = L ∧ es = [] ∧ (90 : Int) = fl := fun h => dec_l hd (dec_none h)
      have hdb : readP (decide (k = 1)) b = some acc → ¬ (checkI (decide (k = 1)) acc = 0 ∧ encB (decide (k = 1)) acc = b) → false = L ∧ es = [] ∧ (90 : Int) = fl := fun h h2 => dec_l hd (dec_bad h h2)
      have hdo : readP (decide (k = 1)) b = some acc → checkI (decide (k = 1)) acc = 0 → encB (decide (k = 1)) acc = b → decide (k = 1) = L ∧ es = acc ∧ (0 : Int) = fl := fun h h1 h2 => by
        rw [dec_ok hk h h1 h2] at hd; cases hd; exact ⟨rfl, rfl, rfl⟩
      cbv
      refine And.intro ?_ ?_
      · intro g1
        have g1 : (i : Int) < (N : Int) := of_decide_eq_true g1
        have hlt : i < N := by omega
        cbv
        refine And.intro ?_ ?_
        · intro g2
          have g2 : bad = false := bnot_t g2
          obtain ⟨n1, a1, b1, e1⟩ : ∃ n a' b', rdN b 1 a bad = (n, a', b') := ⟨_, _, _, rfl⟩
          obtain ⟨k1, a2, b2, e2⟩ : ∃ n a' b', rdB b n1 a1 b1 = (n, a', b') := ⟨_, _, _, rfl⟩
          obtain ⟨p3, a3b, b3b, e3b⟩ : ∃ n a' b', rdN b 4 a2 b2 = (n, a', b') := ⟨_, _, _, rfl⟩
          obtain ⟨n3, a3, b3, e3⟩ : ∃ n a' b', rdN b 1 a2 b2 = (n, a', b') := ⟨_, _, _, rfl⟩
          obtain ⟨v4, a4v, b4v, e4v⟩ : ∃ n a' b', rdB b n3 a3 b3 = (n, a', b') := ⟨_, _, _, rfl⟩
          obtain ⟨s4, a4, b4, e4⟩ : ∃ n a' b', rdN b 4 a3 b3 = (n, a', b') := ⟨_, _, _, rfl⟩
          obtain ⟨p5, a5, b5, e5⟩ : ∃ n a' b', rdN b 4 a4 b4 = (n, a', b') := ⟨_, _, _, rfl⟩
          have f1 := rdN_le e1 hle
          have f2 := rdB_le e2 f1.1
          have f3b := rdN_le e3b f2.1
          have f3 := rdN_le e3 f2.1
          have f4v := rdB_le e4v f3.1
          have f4 := rdN_le e4 f3.1
          have f5 := rdN_le e5 f4.1
          have w3 := rng32 f3b.2
          have w4 := rng32 f4.2
          have w5 := rng32 f5.2
          have c1 := con74 (m := 1) (by decide) e1 hle hb
          have c2 := con75 (by omega) e2 f1.1 hb
          have c3b := con74 (m := 4) (by decide) e3b f2.1 hb
          have c3 := con74 (m := 1) (by decide) e3 f2.1 hb
          have c4v := con75 (by omega) e4v f3.1 hb
          have c4 := con74 (m := 4) (by decide) e4 f3.1 hb
          have c5 := con74 (m := 4) (by decide) e5 f4.1 hb
          have e1f : rdN b 1 a false = (n1, a1, b1) := by rw [← g2]; exact e1
          have hms : N - (i + 1) < N - i := by omega
          have bi : bound64 ((i : Int) + 1) := by unfold bound64; omega
          have ei : (i : Int) + 1 = ((i + 1 : Nat) : Int) := by omega
          have hlo : lenOk (acc.length + 1) 56 := by unfold lenOk; omega
          have hk1 : k1.length ≤ 255 := by omega
          have hap1 := app_ok acc ⟨k1, [], IntKind.u32.wrap (p3 : Int), 0⟩
          have hap2 := app_ok acc ⟨k1, v4, 0, 0⟩
          have hap3 := app_ok acc ⟨k1, [], IntKind.u32.wrap (p5 : Int), IntKind.u32.wrap (s4 : Int)⟩
          clear hdec hdb hdo
          cbv
          refine ⟨_, _, c1, ⟨by kernel_rfl⟩, ?_⟩
          cbv
          refine ⟨_, _, c2, ⟨by kernel_rfl⟩, ?_⟩
          cbv
          refine And.intro ?_ ?_
          · intro g3
            have g3 : decide (k = 1) = true := g3
            have g3 : leaf = true := by rw [hleaf]; exact g3
            cbv
            refine ⟨_, _, c3, ⟨by kernel_rfl⟩, ?_⟩
            cbv
            refine And.intro ?_ ?_
            · intro g4
              have g4 : ¬ (n3 : Int) = 255 := of_decide_eq_false (bnot_t g4)
              have st := step_val g3 e1f e2 e3 (by omega) e4v
              obtain ⟨acc', hacc⟩ : ∃ x, x = acc ++ [⟨k1, v4, 0, 0⟩] := ⟨_, rfl⟩
              have hra := row_app hacc.symm
              have hinv := in28_s hx g2 hlt f4v.1 (e := ⟨k1, v4, 0, 0⟩) (entS_mk hk1 (by omega) z32 z32) st
              rw [← hacc] at hinv
              clear g4 st hx
              cbv
              refine ⟨_, _, c4v, ⟨by kernel_rfl⟩, ?_⟩
              cbv
              refine ⟨⟨hlo, hap2⟩, ?_⟩
              cbv
              refine ⟨⟨bi⟩, ?_⟩
              refine ⟨(i + 1, a4v, b4v, acc'), [(500, some 74)], hinv, hms, ⟨?_⟩, ⟨?_⟩⟩
              · kernel_rfl
              · cbv
                and_intros
                all_goals first | exact trivial | exact ⟨ei⟩ | exact ⟨hra⟩ | exact ⟨rfl⟩ | exact ⟨by kernel_rfl⟩
            · intro g4
              have g4 : (n3 : Int) = 255 := of_decide_eq_true (bnot_f g4)
              have st := step_big g3 e1f e2 e3 (by omega) e4 e5
              have st : (b5 = true ∧ entP leaf (b.drop a) = none) ∨ (b5 = false ∧ entP leaf (b.drop a) = some (⟨k1, [], IntKind.u32.wrap (p5 : Int), IntKind.u32.wrap (s4 : Int)⟩, b.drop a5)) := by rw [w4, w5]; exact st
              obtain ⟨acc', hacc⟩ : ∃ x, x = acc ++ [⟨k1, [], IntKind.u32.wrap (p5 : Int), IntKind.u32.wrap (s4 : Int)⟩] := ⟨_, rfl⟩
              have hra := row_app hacc.symm
              have hinv := in28_s hx g2 hlt f5.1 (e := ⟨k1, [], IntKind.u32.wrap (p5 : Int), IntKind.u32.wrap (s4 : Int)⟩) (entS_mk hk1 (by decide) (w32 f5.2) (w32 f4.2)) st
              rw [← hacc] at hinv
              clear g4 st hx
              cbv
              refine ⟨_, _, c4, ⟨by kernel_rfl⟩, ?_⟩
              cbv
              refine ⟨_, _, c5, ⟨by kernel_rfl⟩, ?_⟩
              cbv
              refine ⟨⟨hlo, hap3⟩, ?_⟩
              cbv
              refine ⟨⟨bi⟩, ?_⟩
              refine ⟨(i + 1, a5, b5, acc'), [(500, some 74)], hinv, hms, ⟨?_⟩, ⟨?_⟩⟩
              · kernel_rfl
              · cbv
                and_intros
                all_goals first | exact trivial | exact ⟨ei⟩ | exact ⟨hra⟩ | exact ⟨rfl⟩ | exact ⟨by kernel_rfl⟩
          · intro g3
            have g3 : decide (k = 1) = false := g3
            have g3 : leaf = false := by rw [hleaf]; exact g3
            have st := step_branch g3 e1f e2 e3b
            have st : (b3b = true ∧ entP leaf (b.drop a) = none) ∨ (b3b = false ∧ entP leaf (b.drop a) = some (⟨k1, [], IntKind.u32.wrap (p3 : Int), 0⟩, b.drop a3b)) := by rw [w3]; exact st
            obtain ⟨acc', hacc⟩ : ∃ x, x = acc ++ [⟨k1, [], IntKind.u32.wrap (p3 : Int), 0⟩] := ⟨_, rfl⟩
            have hra := row_app hacc.symm
            have hinv := in28_s hx g2 hlt f3b.1 (e := ⟨k1, [], IntKind.u32.wrap (p3 : Int), 0⟩) (entS_mk hk1 (by decide) (w32 f3b.2) z32) st
            rw [← hacc] at hinv
            clear st hx
            cbv
            refine ⟨_, _, c3b, ⟨by kernel_rfl⟩, ?_⟩
            cbv
            refine ⟨⟨hlo, hap1⟩, ?_⟩
            cbv
            refine ⟨⟨bi⟩, ?_⟩
            refine ⟨(i + 1, a3b, b3b, acc'), [(500, some 74)], hinv, hms, ⟨?_⟩, ⟨?_⟩⟩
            · kernel_rfl
            · cbv
              and_intros
              all_goals first | exact trivial | exact ⟨ei⟩ | exact ⟨hra⟩ | exact ⟨rfl⟩ | exact ⟨by kernel_rfl⟩
        · intro g2
          have g2 : bad = true := bnot_f g2
          have hz := hdec (by rw [← hleaf]; exact hx.2.2.2.2.1 g2)
          cbv
          refine ⟨_, _, c17, ⟨by kernel_rfl⟩, ?_⟩
          cbv
          refine And.intro ?_ ?_
          · intro g3
            have z1 := hz.1
            have z2 : es.length = 0 := by rw [hz.2.1]; rfl
            have z3 := hz.2.2
            cbv
            refine ⟨[(2000, none)], [], ?_⟩
            cbv
            and_intros
            all_goals first | exact trivial | exact ⟨z1⟩ | exact ⟨z2⟩ | exact ⟨z3⟩ | exact ⟨rfl⟩ | exact ⟨z2.symm⟩ | exact ⟨by kernel_rfl⟩
          · intro g3
            have g3 : bad = false := g3
            have hf : False := by rw [g2] at g3; cases g3
            exact hf.elim
      · intro g1
        have g1 : ¬ (i : Int) < (N : Int) := of_decide_eq_false g1
        have hnl : ¬ i < N := by omega
        have hz0 : bad = true → false = L ∧ es = [] ∧ (90 : Int) = fl := fun h => hdec (by rw [← hleaf]; exact hx.2.2.2.2.1 h)
        have hsome : bad = false → readP (decide (k = 1)) b = some acc := fun h => by rw [← hleaf]; exact in28_done hx hnl h
        cbv
        refine ⟨_, _, c17, ⟨by kernel_rfl⟩, ?_⟩
        cbv
        refine And.intro ?_ ?_
        · intro g3
          have hz := hz0 g3
          have z1 := hz.1
          have z2 : es.length = 0 := by rw [hz.2.1]; rfl
          have z3 := hz.2.2
          cbv
          refine ⟨[(2000, none)], [], ?_⟩
          cbv
          and_intros
          all_goals first | exact trivial | exact ⟨z1⟩ | exact ⟨z2⟩ | exact ⟨z3⟩ | exact ⟨rfl⟩ | exact ⟨z2.symm⟩ | exact ⟨by kernel_rfl⟩
        · intro g3
          have g3 : bad = false := g3
          have hsm := hsome g3
          cbv
          refine And.intro ?_ ?_
          · intro g4
            have g4 : ¬ checkI (decide (k = 1)) acc = 0 := of_decide_eq_false (bnot_t g4)
            have hz := hdb hsm (fun h => g4 h.1)
            have z1 := hz.1
            have z2 : es.length = 0 := by rw [hz.2.1]; rfl
            have z3 := hz.2.2
            cbv
            refine ⟨[(2000, none)], [], ?_⟩
            cbv
            and_intros
            all_goals first | exact trivial | exact ⟨z1⟩ | exact ⟨z2⟩ | exact ⟨z3⟩ | exact ⟨rfl⟩ | exact ⟨z2.symm⟩ | exact ⟨by kernel_rfl⟩
          · intro g4
            have g4 : checkI (decide (k = 1)) acc = 0 := of_decide_eq_true (bnot_f g4)
            cbv
            refine And.intro ?_ ?_
            · intro g5
              have g5 : (encB (decide (k = 1)) acc == b) = false := bnot_t g5
              have g5 : ¬ encB (decide (k = 1)) acc = b := by simpa using g5
              have hz := hdb hsm (fun h => g5 h.2)
              have z1 := hz.1
              have z2 : es.length = 0 := by rw [hz.2.1]; rfl
              have z3 := hz.2.2
              cbv
              refine ⟨[(2000, none)], [], ?_⟩
              cbv
              and_intros
              all_goals first | exact trivial | exact ⟨z1⟩ | exact ⟨z2⟩ | exact ⟨z3⟩ | exact ⟨rfl⟩ | exact ⟨z2.symm⟩ | exact ⟨by kernel_rfl⟩
            · intro g5
              have g5 : (encB (decide (k = 1)) acc == b) = true := bnot_f g5
              have g5 : encB (decide (k = 1)) acc = b := by simpa using g5
              have hz := hdo hsm g4 g5
              have z1 := hz.1
              have z2 := row_le hz.2.1.symm
              have z3 := hz.2.2
              cbv
              refine ⟨[(2000, some 500)], [], ?_⟩
              cbv
              and_intros
              all_goals first | exact trivial | exact ⟨z1⟩ | exact ⟨z2⟩ | exact ⟨z3⟩ | exact ⟨rfl⟩ | exact ⟨by kernel_rfl⟩
theorem con28 {k : Int} {b : List UInt8} {L : Bool} {es : List Ent} {fl : Int} (hd : dec k b = (L, es, fl)) (hb : b.length < 1000000000000) : Con 28 [.int .u8 (.s fun _ => k), .dat (.bytes fun _ => b)] [] (decR L fl) (decO es) := by
  by_cases hk : k = 1 ∨ k = 2
  · exact con28m hk hd hb
  · have h1 : ¬ k = 1 := fun h => hk (.inl h)
    have h2 : ¬ k = 2 := fun h => hk (.inr h)
    rw [dec_kind h1 h2] at hd
    cases hd
    exact con28k h1 h2
end Go.Proofs.Ytmdfjipjkkjpcaa

/- SX: raw memory: a list of one's own is put behind a slice of lists; its block joins the memory. -/
namespace Go.SX

/-- A list by itself: its value, its block. -/
def OneL (more : Mem) (e wd : Nat) (hv : Value) (n : Nat) : Prop :=
  (more = [] ∧ hv = .slice none 0 0 ∧ n = 0) ∨ ∃ b c cs, more = [(b, e, cs)] ∧ hv = .slice (some ⟨b, 0, none⟩) n c ∧ cs.length = c * wd ∧ n ≤ c ∧ c ≤ maxLen

section
variable {P : Program} {E : Env} {η : OEnv} {G : Nat → Prop} {w : World}

theorem barr_one {e : Nat} (he : e ≠ 0) {bs : Unit → List UInt8} {o : OInfo} (h : ObjRel η G w (.barr e bs) o) :
    o.dead = false ∧ o.inner = [] ∧ ∃ more, OneL more e 1 o.val (bs ()).length ∧ o.main = more.map (·.1) ∧ ∀ p ∈ more, HasRow w p.1 p.2.1 p.2.2 := by
  obtain ⟨h1, h2, h3⟩ := h
  refine ⟨h1, h2, ?_⟩
  rcases h3 with ⟨q1, q2, q3⟩ | ⟨b, c, cs, T, q1, q2, q3, ⟨q4, q5⟩, q6, q7, q8⟩
  · exact ⟨[], .inl ⟨rfl, q1, q2⟩, q3, by simp⟩
  · have hT := q5.resolve_left he
    subst hT
    exact ⟨[(b, e, cs.toList)], .inr ⟨b, c, cs.toList, rfl, q1, by simpa using q4, q6, q7⟩, q2, fun p hp => by simp at hp; subst hp; exact q3⟩

/-- A list of one's own, put behind a slice of lists. -/
theorem mem_app_list {T e f n c : Nat} {i : TypeInfo} {z v0 va : Value} {H : Mem} {xs : List Value} {bs : Unit → List UInt8} (ht : P.underlying T = some (.slice e)) (hi : P.info? e = some i) (hz : i.zero = some z) (hzs : z.cells.size = i.size) (hs : i.size = 1) (hbp : 0 < i.bytes) (hf : f ≠ 0)
    (old : SlM H e 1 va n c xs) (hbytes : (n + 1) * i.bytes ≤ 140737488355328) :
    SpecG P (rawC 3 T) [.rv 1000 (fun _ => va), .csl 1001 1 1] [(1000, .cust none (fun _ => memΦ v0 H)), (1001, .cells e [.own 1002]), (1002, .barr f bs)]
      {x : Value × Mem × Mem × Value // OneL x.2.2.1 f 1 x.2.2.2 (bs ()).length ∧ App (H ++ x.2.2.1) e 1 va n c 1 xs [x.2.2.2] x.1 x.2.1} (fun x => .rv 1000 fun _ => x.1.1)
      (fun x => [(1000, .cust none (fun _ => memΦ v0 x.1.2.1)), (1001, .dead), (1002, .dead)]) := by
  intro η G vs w hsep hob hs'
  match vs, hs' with
  | [v1, v2], hs' =>
    simp only [SVRels] at hs'
    obtain ⟨h1, h2, -⟩ := hs'
    simp only [SVRel] at h1
    obtain ⟨h1, _⟩ := h1
    have h1 : v1 = va := h1
    subst v1
    obtain ⟨oi, ho, hd, hin, hv0, hmain, hnd, hrows⟩ := mem_at hob (k := 1000) rfl
    have hc := hob 1001
    simp only [SVRel] at h2
    obtain ⟨o2, ho2, _, h2⟩ := h2
    rw [ho2] at hc
    have hc : ObjRel η G w (.cells e [.own 1002]) o2 := hc
    obtain ⟨c1, c3, b2, us, hm2, hh2, hus⟩ := hc
    obtain ⟨b', hb', rfl⟩ := h2 c1
    obtain rfl := OInfo.at_one hm2 hb'
    match us, hus with
    | [], h => exact h.elim
    | _ :: _ :: _, h => exact h.2.elim
    | [hv], hus =>
    simp only [SVRels, SVRel] at hus
    obtain ⟨⟨o3, ho3, hone, hv3⟩, -⟩ := hus
    have hc3 := hob 1002
    rw [ho3] at hc3
    have hc3 : ObjRel η G w (.barr f bs) o3 := hc3
    obtain ⟨d3, i3, more, hL, hm3, hrows3⟩ := barr_one hf hc3
    obtain rfl := hv3 d3
    have hrd : Rd w (.slice (some ⟨b2, 0, none⟩) 1 1) 1 [o3.val] := ⟨_, _, rfl, fun _ => ⟨_, rfl, fun j u hj => by
      rw [add_none, cell_cells hh2, Nat.zero_add]; simpa using hj⟩⟩
    have hlt : ∀ b ∈ oi.main, b < w.heap.size := fun b hb => (hsep.lt 1000 oi ho b (by simp [hb])).1
    have hlt3 : ∀ b ∈ o3.main, b < w.heap.size := fun b hb => (hsep.lt 1002 o3 ho3 b (by simp [hb])).1
    have hdj : ∀ b ∈ oi.main, b ∉ o3.main := fun b hb h => hsep.dj 1000 oi 1002 o3 ho ho3 (by omega) b (by simp [hb]) (by simp [h])
    have hnd3 : (more.map (·.1)).Nodup := by rcases hL with ⟨rfl, _⟩ | ⟨b, c, cs, rfl, _⟩ <;> simp
    have hndB : ((H ++ more).map (·.1)).Nodup := by
      rw [List.map_append]
      exact List.nodup_append.2 ⟨hnd, hnd3, fun x hx y hy exy => by subst exy; exact hdj x (by rw [hmain]; exact hx) (by rw [hm3]; exact hy)⟩
    have hrowsB : ∀ p ∈ H ++ more, HasRow w p.1 p.2.1 p.2.2 := fun p hp => (List.mem_append.1 hp).elim (hrows p) (hrows3 p)
    have oldB : SlM (H ++ more) e 1 va n c xs := by
      rcases old with h | ⟨b, cs, q1, q2, q3⟩
      · exact .inl h
      · exact .inr ⟨b, cs, q1, List.mem_append_left _ q2, q3⟩
    have hdead : ∀ (M : Mem) (j : Nat), lookN j [(1000, TObj.cust none (fun _ => memΦ v0 M)), (1001, .dead), (1002, .dead)] = if j = 1000 then some (.cust none (fun _ => memΦ v0 M)) else if j ∈ [1001, 1002] then some .dead else none := by
      intro M j
      by_cases e1 : j = 1000
      · subst e1; simp [lookN, eqN_refl]
      · have q1 : eqN 1000 j = false := decide_eq_false fun e => e1 e.symm
        by_cases e2 : j = 1001
        · subst e2; simp [lookN, q1, eqN_refl]
        · have q2 : eqN 1001 j = false := decide_eq_false fun e => e2 e.symm
          by_cases e3 : j = 1002
          · subst e3; simp [lookN, q1, q2, eqN_refl]
          · have q3 : eqN 1002 j = false := decide_eq_false fun e => e3 e.symm
            simp [lookN, q1, q2, q3, e1, e2, e3]
    have hall : ∀ j, j ≠ 1000 → j ∉ [1001, 1002] → lookN j [(1000, TObj.cust none (fun _ => memΦ v0 H)), (1001, .cells e [.own 1002]), (1002, .barr f bs)] = none := by
      intro j e1 e2
      have q1 : eqN 1000 j = false := decide_eq_false fun e => e1 e.symm
      have q2 : eqN 1001 j = false := decide_eq_false fun e => e2 (by simp [e])
      have q3 : eqN 1002 j = false := decide_eq_false fun e => e2 (by simp [e])
      simp [lookN, q1, q2, q3]
    have hk1 : ∀ j ∈ [1001, 1002], lookN j [(1000, TObj.cust none (fun _ => memΦ v0 H)), (1001, .cells e [.own 1002]), (1002, .barr f bs)] ≠ none := by
      intro j hj
      have q1 : eqN 1000 1001 = false := by decide
      have q2 : eqN 1000 1002 = false := by decide
      have q3 : eqN 1001 1002 = false := by decide
      simp at hj
      rcases hj with rfl | rfl
      · simp [lookN, q1, eqN_refl]
      · simp [lookN, q2, q3, eqN_refl]
    have hexm : ∀ b ∈ more.map (·.1), b < w.heap.size ∧ ∃ j ∈ [1001, 1002], ∃ oj, η j = some oj ∧ b ∈ oj.main ++ oj.inner := fun b hb => by
      rw [← hm3] at hb
      exact ⟨hlt3 b hb, 1002, by simp, o3, ho3, by simp [hb]⟩
    unfold RunsX
    rw [rawSem_rawC (by omega)]
    have old' : (va = .slice none 0 0 ∧ n = 0 ∧ c = 0 ∧ xs = []) ∨ ∃ b cs, va = .slice (some ⟨b, 0, none⟩) n c ∧ HasRow w b e cs ∧ cs.length = c * i.size ∧ n ≤ c ∧ cs.take (n * i.size) = xs := by
      rw [hs]
      rcases old with h | ⟨b, cs, q1, q2, q3⟩
      · exact .inl h
      · exact .inr ⟨b, cs, q1, hrows _ q2, q3⟩
    by_cases hroom : n + 1 ≤ c
    · rcases oldB with ⟨_, rfl, rfl, _⟩ | ⟨b, cs, rfl, hm, hcl, hnc, htake⟩
      · omega
      · have hm0 : (b, e, cs) ∈ H := by
          rcases old with ⟨h, _⟩ | ⟨b5, cs5, q1, q2, _⟩
          · cases h
          · have e5 : b = b5 := by cases q1; rfl
            subst e5
            have := mem_eq hndB hm (List.mem_append_left _ q2) rfl
            rw [this]; exact q2
        have hr := run_room (P := P) (ty := T) ht hi (by omega) (hrows _ hm0) (by rw [hs]; exact hcl) hroom hrd (by rw [hs]; rfl) (by simpa using hone)
        rw [hs] at hr
        have hbm : b ∈ oi.main := by rw [hmain]; exact List.mem_map.2 ⟨_, hm0, rfl⟩
        have hu := raw_upd (w' := w.setRow b (cs.take (n * 1) ++ [o3.val] ++ cs.drop ((n + 1) * 1)).toArray) (X := .cust none (fun _ => memΦ v0 (putB (H ++ more) b (cs.take (n * 1) ++ [o3.val] ++ cs.drop ((n + 1) * 1)))))
          (objs' := [(1000, .cust none (fun _ => memΦ v0 (putB (H ++ more) b (cs.take (n * 1) ++ [o3.val] ++ cs.drop ((n + 1) * 1))))), (1001, .dead), (1002, .dead)])
          hsep hob (k := 1000) ho hd hin (ks := [1001, 1002]) (by simp) (by simp [lookN, eqN_refl]) hk1 hall rfl rfl rfl (by simp) (fun b' _ hb' => setRow_other w b b' _ fun e => hb' (e ▸ hbm)) (more.map (·.1)) (fun b' hb' => ⟨by simpa using (hexm b' hb').1, .inr (hexm b' hb').2⟩) (by
            rw [hv0]
            exact mem_rel (by rw [putB_names, hmain, List.map_append]) (by rw [hmain, ← List.map_append]; exact hndB) (putB_rows hndB hrowsB hm)) (hdead _)
        have hx : App (H ++ more) e 1 (.slice (some ⟨b, 0, none⟩) n c) n c 1 xs [o3.val] (.slice (some ⟨b, 0, none⟩) (n + 1) c) (putB (H ++ more) b (cs.take (n * 1) ++ [o3.val] ++ cs.drop ((n + 1) * 1))) :=
          ⟨by rw [putB_names]; exact hndB, .inl ⟨hroom, b, cs, rfl, hm, rfl, rfl⟩⟩
        exact ⟨_, _, hr, ⟨(_, _, more, o3.val), hL, hx⟩, _, G, by simp [SVRel, Value.oneCell'], hu⟩
    · obtain ⟨c', cs', hr, g1, g2, g3, g4⟩ := run_append_more (P := P) (ty := T) ht hi hz hzs hbp old' (by omega) hrd (by rw [hs]; rfl) hbytes (by omega)
      rw [hs] at g3 g4
      have hng : w.heap.size ∉ (H ++ more).map (·.1) := fun h => by
        rw [List.map_append] at h
        rcases List.mem_append.1 h with h | h
        · have := hlt _ (hmain ▸ h); omega
        · have := hlt3 _ (hm3 ▸ h); omega
      have hnd' : ((H ++ more ++ [(w.heap.size, e, cs')]).map (·.1)).Nodup := by
        rw [List.map_append]
        exact List.nodup_append.2 ⟨hndB, by simp, fun x hx y hy exy => by simp at hy; subst exy; subst hy; exact hng hx⟩
      have hu := raw_upd (w' := w.drew.alloc (.cells ⟨cs'⟩ e)) (X := .cust none (fun _ => memΦ v0 (H ++ more ++ [(w.heap.size, e, cs')])))
        (objs' := [(1000, .cust none (fun _ => memΦ v0 (H ++ more ++ [(w.heap.size, e, cs')]))), (1001, .dead), (1002, .dead)])
        hsep hob (k := 1000) ho hd hin (ks := [1001, 1002]) (by simp) (by simp [lookN, eqN_refl]) hk1 hall rfl rfl rfl (by simp) (fun b' hb' _ => heap_alloc_old w.drew _ hb') (more.map (·.1) ++ [w.heap.size]) (fun b hb => by
          rcases List.mem_append.1 hb with hb | hb
          · obtain ⟨q1, q2⟩ := hexm b hb
            exact ⟨by simp; omega, .inr q2⟩
          · simp at hb; subst hb; exact ⟨by simp, .inl (Nat.le_refl _)⟩) (by
          rw [hv0]
          refine mem_rel (by rw [hmain]; simp) (by rw [hmain]; simpa [List.map_append] using hnd') fun p hp => ?_
          rcases List.mem_append.1 hp with hp | hp
          · have hpl : p.1 < w.heap.size := by
              rcases List.mem_append.1 hp with hp | hp
              · exact hlt _ (by rw [hmain]; exact List.mem_map.2 ⟨p, hp, rfl⟩)
              · exact hlt3 _ (by rw [hm3]; exact List.mem_map.2 ⟨p, hp, rfl⟩)
            unfold HasRow
            rw [heap_alloc_old w.drew _ hpl]
            exact hrowsB p hp
          · simp at hp; subst hp
            exact heap_alloc_new w.drew _) (hdead _)
      have hx : App (H ++ more) e 1 va n c 1 xs [o3.val] (.slice (some ⟨w.heap.size, 0, none⟩) (n + 1) c') (H ++ more ++ [(w.heap.size, e, cs')]) :=
        ⟨hnd', .inr ⟨by omega, w.heap.size, c', cs', hng, rfl, rfl, g1, g2, g3, g4⟩⟩
      exact ⟨_, _, hr, ⟨(_, _, more, o3.val), hL, hx⟩, _, G, by simp [SVRel, Value.oneCell'], hu⟩
  | [], h => exact h.elim
  | [_], h => exact h.2.elim
  | _ :: _ :: _ :: _, h => exact h.2.2.elim
end
end Go.SX

/- SX: raw memory: an object beside it that stays; two of them put together. -/
namespace Go.SX

/-- What an object is hangs on no other object. -/
def Cst (X : TObj) : Prop := ∀ (η η' : OEnv) (G G' : Nat → Prop) (w : World) (o : OInfo), ObjRel η G w X o → ObjRel η' G' w X o
theorem Cst.rel {X : TObj} (h : Cst X) {η η' : OEnv} {G G' : Nat → Prop} {w : World} {o : OInfo} (ho : ObjRel η G w X o) : ObjRel η' G' w X o := h η η' G G' w o ho
theorem cst_cust {d : Option DV} {Φ : Unit → World → Value → List Nat → Prop} : Cst (.cust d Φ) := fun _ _ _ _ _ _ h => h
theorem cst_kn {d : Option DV} {Φ : Unit → World → Value → List Nat → Prop} : Cst (.kn d Φ) := fun _ _ _ _ _ _ h => h
theorem cst_dead : Cst .dead := fun _ _ _ _ _ _ h => h
theorem cst_cells {T k : Nat} {v : Unit → Value} : Cst (.cells T [.rv k v]) := fun _ _ _ _ _ _ ⟨h1, h2, b, vs, h3, h4, h5⟩ => ⟨h1, h2, b, vs, h3, h4, by
  match vs, h5 with
  | [x], h5 => exact ⟨h5.1, trivial⟩
  | [], h => exact h.elim
  | _ :: _ :: _, h => exact h.2.elim⟩
/-- What an object is hangs on its own blocks alone. -/
def Frm (X : TObj) : Prop := ∀ (η η' : OEnv) (G G' : Nat → Prop) (w w' : World) (o : OInfo), ObjRel η G w X o → (∀ b ∈ o.main ++ o.inner, w'.heap[b]? = w.heap[b]?) → ObjRel η' G' w' X o
theorem frm_cust {d : Option DV} {Φ : Unit → World → Value → List Nat → Prop} : Frm (.cust d Φ) := fun _ _ _ _ _ _ _ ⟨h1, h2, h3⟩ hw => ⟨h1, h2, fun w2 hw2 => h3 w2 fun b hb => (hw2 b hb).trans (hw b (by simp [hb]))⟩
theorem frm_kn {d : Option DV} {Φ : Unit → World → Value → List Nat → Prop} : Frm (.kn d Φ) := fun _ _ _ _ _ _ _ ⟨h1, h3⟩ hw => ⟨h1, fun w2 hw2 => h3 w2 fun b hb => (hw2 b hb).trans (hw b hb)⟩
/-- Blocks that are known, whatever order they stand in. -/
def knΦ (v0 : Value) (H : Mem) (w : World) (v : Value) (B : List Nat) : Prop := v = v0 ∧ (∀ b, b ∈ B ↔ b ∈ H.map (·.1)) ∧ (H.map (·.1)).Nodup ∧ ∀ p ∈ H, HasRow w p.1 p.2.1 p.2.2
/-- An object's blocks are known. -/
def KnM (A : TObj) (more : Mem) : Prop := ∀ (η : OEnv) (G : Nat → Prop) (w : World) (o : OInfo), ObjRel η G w A o → o.dead = false ∧ (∀ b, b ∈ o.main ++ o.inner ↔ b ∈ more.map (·.1)) ∧ (more.map (·.1)).Nodup ∧ ∀ p ∈ more, HasRow w p.1 p.2.1 p.2.2
theorem knm_cust {d : Option DV} {hv : Value} {more : Mem} : KnM (.cust d (fun _ => memΦ hv more)) more := fun _ _ w _ ⟨h1, h2, h3⟩ => by
  obtain ⟨q1, q2, q3, q4⟩ := (h3 w fun _ _ => rfl).1
  exact ⟨h1, by rw [h2, List.append_nil, q2]; exact fun _ => Iff.rfl, q2 ▸ q3, q4⟩
theorem knm_kn {d : Option DV} {hv : Value} {more : Mem} : KnM (.kn d (fun _ => knΦ hv more)) more := fun _ _ w _ ⟨h1, h3⟩ => by
  obtain ⟨q1, q2, q3, q4⟩ := (h3 w fun _ _ => rfl).1
  exact ⟨h1.1, q2, q3, q4⟩
theorem Cst.opt {x : Option TObj} (h : ∀ X, x = some X → Cst X) {η η' : OEnv} {G G' : Nat → Prop} {w : World} {o : Option OInfo} (ho : ObjOpt η G w x o) : ObjOpt η' G' w x o := by
  cases x with
  | none => cases o with
    | none => trivial
    | some o => exact ho.elim
  | some X => cases o with
    | none => exact ho.elim
    | some o => exact (h X rfl).rel ho
theorem opt_none {η : OEnv} {G : Nat → Prop} {w : World} {o : Option OInfo} (ho : ObjOpt η G w none o) : o = none := by
  cases o with
  | none => rfl
  | some o => exact ho.elim

section
variable {P : Program} {f : Nat} {svs svs2 : List SV} {X : Type} {r : X → SV}

/-- An object beside it stays. -/
theorem specG_frame {objs objs2 : Objs} {objs' objs2' : X → Objs} {k : Nat} {A : TObj} (hA : Frm A) (h : SpecG P f svs objs X r objs') (hk : lookN k objs = none) (hk' : ∀ x, lookN k (objs' x) = none)
    (h2 : ∀ j, lookN j objs2 = if j = k then some A else lookN j objs) (h2' : ∀ x j, lookN j (objs2' x) = if j = k then some A else lookN j (objs' x))
    (hc : ∀ j Y, lookN j objs = some Y → Cst Y) (hc' : ∀ x j Y, lookN j (objs' x) = some Y → Cst Y)
    (hsv : ∀ (η : OEnv) (G : Nat → Prop) (w : World) (vs : List Value), SVRels η G w svs2 vs → SVRels (fun j => if j = k then none else η j) G w svs vs)
    (hr : ∀ (x : X) (η η' : OEnv) (G : Nat → Prop) (w : World) (v : Value), SVRel η G w (r x) v → SVRel η' G w (r x) v) : SpecG P f svs2 objs2 X r objs2' := by
  intro η G vs w hsep hob hs
  have hobk := hob k
  rw [h2 k, if_pos rfl] at hobk
  cases hok : η k with
  | none => rw [hok] at hobk; exact hobk.elim
  | some o =>
  rw [hok] at hobk
  have hobk : ObjRel η G w A o := hobk
  have hin : ∀ {j : Nat} {oj : OInfo}, (if j = k then none else η j) = some oj → j ≠ k ∧ η j = some oj := by
    intro j oj hj
    by_cases e : j = k
    · rw [if_pos e] at hj; cases hj
    · rw [if_neg e] at hj; exact ⟨e, hj⟩
  have hsep1 : Sep (fun j => if j = k then none else η j) G w :=
    ⟨fun j oj hj => hsep.lt j oj (hin hj).2, fun j oj j' oj' hj hj' => hsep.dj j oj j' oj' (hin hj).2 (hin hj').2, fun j oj hj => hsep.mi j oj (hin hj).2, hsep.glt⟩
  refine (h (fun j => if j = k then none else η j) G vs w hsep1 (fun j => ?_) (hsv η G w vs hs)).mono fun v w' ⟨x, η', G', q1, q2, q3, q4⟩ => ?_
  · show ObjOpt _ G w _ (if j = k then none else η j)
    by_cases e : j = k
    · subst e; rw [hk, if_pos rfl]; trivial
    · rw [if_neg e]
      have := hob j
      rw [h2 j, if_neg e] at this
      exact Cst.opt (hc j) this
  · have hkn : η' k = none := opt_none (by have := q2 k; rwa [hk' x] at this)
    have hout : ∀ {j : Nat} {oj : OInfo}, (if j = k then some o else η' j) = some oj → (j = k ∧ oj = o) ∨ (j ≠ k ∧ η' j = some oj) := by
      intro j oj hj
      by_cases e : j = k
      · rw [if_pos e] at hj; cases hj; exact .inl ⟨e, rfl⟩
      · rw [if_neg e] at hj; exact .inr ⟨e, hj⟩
    have hfar : ∀ b ∈ o.main ++ o.inner, ∀ j oj, (if j = k then none else η j) = some oj → b ∉ oj.main ++ oj.inner := fun b hb j oj hj hb' => hsep.dj k o j oj hok (hin hj).2 (fun e => (hin hj).1 e.symm) b hb hb'
    have hnew : ∀ b ∈ o.main ++ o.inner, ∀ j oj, η' j = some oj → b ∉ oj.main ++ oj.inner := fun b hb j oj hj hb' => by
      rcases q4.blk j oj hj b hb' with h | ⟨j0, o0, h0, hb0⟩
      · have := (hsep.lt k o hok b hb).1; omega
      · exact hfar b hb j0 o0 h0 hb0
    have hkeep : ∀ b ∈ o.main ++ o.inner, w'.heap[b]? = w.heap[b]? := fun b hb => q4.keep b (hsep.lt k o hok b hb).1 fun j oj hj => hfar b hb j oj hj
    refine ⟨x, fun j => if j = k then some o else η' j, G', hr x _ _ _ _ _ q1, fun j => ?_, ⟨?_, ?_, ?_, q3.glt⟩, ⟨q4.os, q4.tape, q4.out, q4.size, ?_, ?_, q4.g, ?_, ?_⟩⟩
    · rw [h2' x j]
      show ObjOpt _ G' w' _ (if j = k then some o else η' j)
      by_cases e : j = k
      · rw [if_pos e, if_pos e]
        exact hA _ _ _ _ _ _ _ hobk hkeep
      · rw [if_neg e, if_neg e]
        exact Cst.opt (hc' x j) (q2 j)
    · intro j oj hj b hb
      rcases hout hj with ⟨_, rfl⟩ | ⟨_, hj⟩
      · have := hsep.lt k oj hok b hb
        refine ⟨by have := q4.size; omega, fun hg => ?_⟩
        rcases q4.g' b hg with h | h | ⟨j0, o0, h0, hb0⟩
        · exact this.2 h
        · omega
        · exact hfar b hb j0 o0 h0 hb0
      · exact q3.lt j oj hj b hb
    · intro j oj j' oj' hj hj' hne b hb hb'
      rcases hout hj with ⟨e1, e2⟩ | ⟨e, g1⟩
      · rcases hout hj' with ⟨e3, e4⟩ | ⟨_, g2⟩
        · exact hne (e1.trans e3.symm)
        · exact hnew b (e2 ▸ hb) j' oj' g2 hb'
      · rcases hout hj' with ⟨e3, e4⟩ | ⟨_, g2⟩
        · exact hnew b (e4 ▸ hb') j oj g1 hb
        · exact q3.dj j oj j' oj' g1 g2 hne b hb hb'
    · intro j oj hj
      rcases hout hj with ⟨_, rfl⟩ | ⟨_, hj⟩
      · exact hsep.mi k oj hok
      · exact q3.mi j oj hj
    · intro b hb hn
      exact q4.keep b hb fun j oj hj => hn j oj (hin hj).2
    · intro j oj hj
      by_cases e : j = k
      · subst e
        rw [hok] at hj; cases hj
        exact ⟨o, by simp, fun hd => ⟨hd, rfl, Ext.refl _, fun b hb => ⟨hb, hkeep b (by simp [hb])⟩⟩⟩
      · obtain ⟨o', h1, h2⟩ := q4.obj j oj (by rw [if_neg e]; exact hj)
        exact ⟨o', by rw [if_neg e]; exact h1, h2⟩
    · intro b hb
      rcases q4.g' b hb with h | h | ⟨j0, o0, h0, hb0⟩
      · exact .inl h
      · exact .inr (.inl h)
      · exact .inr (.inr ⟨j0, o0, (hin h0).2, hb0⟩)
    · intro j oj hj b hb
      rcases hout hj with ⟨_, rfl⟩ | ⟨_, hj⟩
      · exact .inr ⟨k, oj, hok, hb⟩
      · rcases q4.blk j oj hj b hb with h | ⟨j0, o0, h0, hb0⟩
        · exact .inl h
        · exact .inr ⟨j0, o0, (hin h0).2, hb0⟩

/-- Two objects of raw memory are put together ahead. -/
theorem specG_merge {objs objs2 : Objs} {objs' objs2' : X → Objs} {k : Nat} {A : TObj} {H more : Mem} {v0 : Value} (hA : KnM A more) (h : ((H ++ more).map (·.1)).Nodup → SpecG P f svs objs X r objs') (hk : lookN k objs = none) (hk' : ∀ x, lookN k (objs' x) = none) (hk0 : k ≠ 1000)
    (h1 : lookN 1000 objs = some (.cust none (fun _ => memΦ v0 (H ++ more))))
    (h2 : ∀ j, lookN j objs2 = if j = 1000 then some (.cust none (fun _ => memΦ v0 H)) else if j = k then some A else lookN j objs) (h2' : ∀ x j, lookN j (objs2' x) = if j = k then some .dead else lookN j (objs' x))
    (hc : ∀ j Y, lookN j objs = some Y → Cst Y) (hc' : ∀ x j Y, lookN j (objs' x) = some Y → Cst Y)
    (hsv : ∀ (η : OEnv) (G : Nat → Prop) (w : World) (vs : List Value) (o om : OInfo), η 1000 = some o → o.dead = false → om.dead = false → om.val = o.val → Ext o.main om.main → SVRels η G w svs2 vs → SVRels (fun j => if j = k then none else if j = 1000 then some om else η j) G w svs vs)
    (hr : ∀ (x : X) (η η' : OEnv) (G : Nat → Prop) (w : World) (v : Value), SVRel η G w (r x) v → SVRel η' G w (r x) v) : SpecG P f svs2 objs2 X r objs2' := by
  intro η G vs w hsep hob hs
  have hob0 := hob 1000
  rw [h2 1000, if_pos rfl] at hob0
  have hobk := hob k
  rw [h2 k, if_neg hk0, if_pos rfl] at hobk
  cases hok : η k with
  | none => rw [hok] at hobk; exact hobk.elim
  | some ok =>
  cases ho : η 1000 with
  | none => rw [ho] at hob0; exact hob0.elim
  | some o =>
  rw [hok] at hobk
  rw [ho] at hob0
  obtain ⟨o1, o2, o3⟩ := hob0
  obtain ⟨m1, m2, m3, m4⟩ := (o3 w fun _ _ => rfl).1
  obtain ⟨k1, n2, n3, n4⟩ := hA η G w ok hobk
  obtain ⟨om, hom⟩ : ∃ om : OInfo, om = ⟨o.val, o.main ++ more.map (·.1), [], false⟩ := ⟨_, rfl⟩
  have hmm : om.main = o.main ++ more.map (·.1) := by rw [hom]
  have hmi : om.inner = [] := by rw [hom]
  have hin : ∀ {j : Nat} {oj : OInfo}, (if j = k then none else if j = 1000 then some om else η j) = some oj → j ≠ k ∧ ((j = 1000 ∧ oj = om) ∨ (j ≠ 1000 ∧ η j = some oj)) := by
    intro j oj hj
    by_cases e : j = k
    · rw [if_pos e] at hj; cases hj
    · rw [if_neg e] at hj
      by_cases e2 : j = 1000
      · rw [if_pos e2] at hj; cases hj; exact ⟨e, .inl ⟨e2, rfl⟩⟩
      · rw [if_neg e2] at hj; exact ⟨e, .inr ⟨e2, hj⟩⟩
  have hold : ∀ {j : Nat} {oj : OInfo}, (if j = k then none else if j = 1000 then some om else η j) = some oj → ∀ b ∈ oj.main ++ oj.inner, ∃ j0 o0, η j0 = some o0 ∧ b ∈ o0.main ++ o0.inner ∧ (j0 = j ∨ (j = 1000 ∧ j0 = k)) := by
    intro j oj hj b hb
    rcases (hin hj).2 with ⟨e, rfl⟩ | ⟨_, h⟩
    · rw [hmm, hmi, List.append_nil] at hb
      rcases List.mem_append.1 hb with hb | hb
      · exact ⟨1000, o, ho, by simp [hb], .inl e.symm⟩
      · exact ⟨k, ok, hok, (n2 b).2 hb, .inr ⟨e, rfl⟩⟩
    · exact ⟨j, oj, h, hb, .inl rfl⟩
  have hnd : (o.main ++ more.map (·.1)).Nodup := List.nodup_append.2 ⟨m3, n3, fun a ha b hb e => hsep.dj 1000 o k ok ho hok (fun e => hk0 e.symm) a (by simp [ha]) (by rw [e]; exact (n2 b).2 hb)⟩
  have hnd' : ((H ++ more).map (·.1)).Nodup := by rw [List.map_append, ← m2]; exact hnd
  have hsep1 : Sep (fun j => if j = k then none else if j = 1000 then some om else η j) G w := by
    refine ⟨fun j oj hj b hb => ?_, fun j oj j' oj' hj hj' hne b hb hb' => ?_, fun j oj hj b hb => ?_, hsep.glt⟩
    · obtain ⟨j0, o0, h0, hb0, _⟩ := hold hj b hb
      exact hsep.lt j0 o0 h0 b hb0
    · obtain ⟨j0, o0, h0, hb0, e0⟩ := hold hj b hb
      obtain ⟨j1, o1', h1', hb1, e1⟩ := hold hj' b hb'
      refine hsep.dj j0 o0 j1 o1' h0 h1' (fun e => ?_) b hb0 hb1
      have := (hin hj).1
      have := (hin hj').1
      omega
    · rcases (hin hj).2 with ⟨e, rfl⟩ | ⟨_, h⟩
      · rw [hmi]; simp
      · exact hsep.mi j oj h b hb
  have hom1 : ∀ w2 : World, (∀ b ∈ om.main, w2.heap[b]? = w.heap[b]?) → memΦ v0 (H ++ more) w2 om.val om.main := by
    intro w2 hw2
    refine ⟨by rw [hom]; exact m1, by rw [hmm, List.map_append, m2], by rw [hmm]; exact hnd, fun p hp => ?_⟩
    rcases List.mem_append.1 hp with hp | hp
    · unfold HasRow
      rw [hw2 _ (by rw [hmm, m2]; exact List.mem_append_left _ (List.mem_map.2 ⟨p, hp, rfl⟩))]
      exact m4 p hp
    · unfold HasRow
      rw [hw2 _ (by rw [hmm]; exact List.mem_append_right _ (List.mem_map.2 ⟨p, hp, rfl⟩))]
      exact n4 p hp
  refine (h hnd' (fun j => if j = k then none else if j = 1000 then some om else η j) G vs w hsep1 (fun j => ?_) (hsv η G w vs o om ho o1 (by rw [hom]) (by rw [hom]) ⟨more.map (·.1), hmm⟩ hs)).mono fun v w' ⟨x, η', G', q1, q2, q3, q4⟩ => ?_
  · show ObjOpt _ G w _ (if j = k then none else if j = 1000 then some om else η j)
    by_cases e : j = k
    · subst e; rw [hk, if_pos rfl]; trivial
    · rw [if_neg e]
      by_cases e2 : j = 1000
      · subst e2
        rw [h1, if_pos rfl]
        exact ⟨by rw [hom], hmi, fun w2 hw2 => ⟨hom1 w2 hw2, fun x hx => by cases hx⟩⟩
      · rw [if_neg e2]
        have := hob j
        rw [h2 j, if_neg e2, if_neg e] at this
        exact Cst.opt (hc j) this
  · have hkn : η' k = none := opt_none (by have := q2 k; rwa [hk' x] at this)
    have hout : ∀ {j : Nat} {oj : OInfo}, (if j = k then some deadInfo else η' j) = some oj → (j = k ∧ oj = deadInfo) ∨ (j ≠ k ∧ η' j = some oj) := by
      intro j oj hj
      by_cases e : j = k
      · rw [if_pos e] at hj; cases hj; exact .inl ⟨e, rfl⟩
      · rw [if_neg e] at hj; exact .inr ⟨e, hj⟩
    refine ⟨x, fun j => if j = k then some deadInfo else η' j, G', hr x _ _ _ _ _ q1, fun j => ?_, ⟨?_, ?_, ?_, q3.glt⟩, ⟨q4.os, q4.tape, q4.out, q4.size, ?_, ?_, q4.g, ?_, ?_⟩⟩
    · rw [h2' x j]
      show ObjOpt _ G' w' _ (if j = k then some deadInfo else η' j)
      by_cases e : j = k
      · rw [if_pos e, if_pos e]; exact ⟨rfl, rfl, rfl⟩
      · rw [if_neg e, if_neg e]; exact Cst.opt (hc' x j) (q2 j)
    · intro j oj hj b hb
      rcases hout hj with ⟨_, rfl⟩ | ⟨_, hj⟩
      · simp [deadInfo] at hb
      · exact q3.lt j oj hj b hb
    · intro j oj j' oj' hj hj' hne b hb hb'
      rcases hout hj with ⟨_, rfl⟩ | ⟨_, hj⟩
      · simp [deadInfo] at hb
      · rcases hout hj' with ⟨_, rfl⟩ | ⟨_, hj'⟩
        · simp [deadInfo] at hb'
        · exact q3.dj j oj j' oj' hj hj' hne b hb hb'
    · intro j oj hj b hb
      rcases hout hj with ⟨_, rfl⟩ | ⟨_, hj⟩
      · simp [deadInfo] at hb
      · exact q3.mi j oj hj b hb
    · intro b hb hn
      refine q4.keep b hb fun j oj hj hm => ?_
      obtain ⟨j0, o0, h0, hb0, _⟩ := hold hj b hm
      exact hn j0 o0 h0 hb0
    · intro j oj hj
      by_cases e : j = k
      · subst e
        exact ⟨deadInfo, by simp, fun hd => by simp [deadInfo] at hd⟩
      · by_cases e2 : j = 1000
        · subst e2
          rw [ho] at hj; cases hj
          obtain ⟨o', h1, h2⟩ := q4.obj 1000 om (by rw [if_neg e, if_pos rfl])
          refine ⟨o', by rw [if_neg e]; exact h1, fun hd => ?_⟩
          obtain ⟨r1, r2, r3, r4⟩ := h2 hd
          exact ⟨o1, by rw [r2, hom], Ext.trans ⟨more.map (·.1), hmm⟩ r3, fun b hb => by rw [o2] at hb; cases hb⟩
        · obtain ⟨o', h1, h2⟩ := q4.obj j oj (by rw [if_neg e, if_neg e2]; exact hj)
          exact ⟨o', by rw [if_neg e]; exact h1, h2⟩
    · intro b hb
      rcases q4.g' b hb with h | h | ⟨j0, o0, h0, hb0⟩
      · exact .inl h
      · exact .inr (.inl h)
      · obtain ⟨j1, o1', h1', hb1, _⟩ := hold h0 b hb0
        exact .inr (.inr ⟨j1, o1', h1', hb1⟩)
    · intro j oj hj b hb
      rcases hout hj with ⟨_, rfl⟩ | ⟨_, hj⟩
      · simp [deadInfo] at hb
      · rcases q4.blk j oj hj b hb with h | ⟨j0, o0, h0, hb0⟩
        · exact .inl h
        · obtain ⟨j1, o1', h1', hb1, _⟩ := hold h0 b hb0
          exact .inr ⟨j1, o1', h1', hb1⟩

theorem look_cons {j k : Nat} {A : TObj} {r : Objs} : lookN j ((k, A) :: r) = if j = k then some A else lookN j r := by
  by_cases e : j = k
  · subst e; simp [lookN, eqN_refl]
  · have q : eqN k j = false := decide_eq_false fun e' => e e'.symm
    simp [lookN, q, e]
theorem look_nil {j : Nat} : lookN j ([] : Objs) = none := rfl
theorem loc_merge (k : Nat) (hk : k ≠ 1000) (η : OEnv) (G : Nat → Prop) (w : World) (vs : List Value) (o om : OInfo) (ho : η 1000 = some o) (hd : o.dead = false) (hdm : om.dead = false) (hv : om.val = o.val) (he : Ext o.main om.main) (h : SVRels η G w [.loc 1000 0] vs) :
    SVRels (fun j => if j = k then none else if j = 1000 then some om else η j) G w [.loc 1000 0] vs := by
  match vs, h with
  | [v], h =>
    obtain ⟨⟨o', h1, h2, h3⟩, -⟩ := h
    rw [ho] at h1; cases h1
    refine ⟨⟨om, by show (if 1000 = k then none else if 1000 = 1000 then some om else η 1000) = some om; rw [if_neg fun e => hk e.symm, if_pos rfl], h2, fun _ => ?_⟩, trivial⟩
    obtain ⟨b, hb, e⟩ := h3 hd
    exact ⟨b, OInfo.at_ext he hb, e⟩
  | [], h => exact h.elim
  | _ :: _ :: _, h => exact h.2.elim
theorem look_none {α : Type} {j : Nat} {g : α → TObj} {n : α → Nat} : ∀ {L : List α}, (∀ t ∈ L, n t ≠ j) → lookN j (L.map fun t => (n t, g t)) = none
  | [], _ => rfl
  | t :: L, h => by
      rw [List.map_cons, look_cons, if_neg (fun e => h t List.mem_cons_self e.symm)]
      exact look_none fun t ht => h t (List.mem_cons_of_mem _ ht)
theorem look_in {α : Type} {j : Nat} {g : α → TObj} {n : α → Nat} {Y : TObj} : ∀ {L : List α}, lookN j (L.map fun t => (n t, g t)) = some Y → ∃ t ∈ L, Y = g t
  | [], h => by cases h
  | t :: L, h => by
      rw [List.map_cons, look_cons] at h
      split at h
      · cases h; exact ⟨t, List.mem_cons_self, rfl⟩
      · obtain ⟨t', h1, h2⟩ := look_in h
        exact ⟨t', List.mem_cons_of_mem _ h1, h2⟩
/-- Many objects are put together ahead: name, object, blocks. -/
theorem specG_merges {f : Nat} {r : SV} {v0 : Value} (hr : ∀ (η η' : OEnv) (G : Nat → Prop) (w : World) (v : Value), SVRel η G w r v → SVRel η' G w r v) : ∀ (L : List (Nat × TObj × Mem)) (H : Mem), (1000 :: L.map (·.1)).Nodup → (∀ t ∈ L, Cst t.2.1 ∧ KnM t.2.1 t.2.2) →
    (((H ++ L.flatMap (·.2.2)).map (·.1)).Nodup → SpecG P f [.loc 1000 0] [(1000, .cust none (fun _ => memΦ v0 (H ++ L.flatMap (·.2.2))))] Unit (fun _ => r) (fun _ => [(1000, .dead)])) →
    SpecG P f [.loc 1000 0] ((1000, .cust none (fun _ => memΦ v0 H)) :: L.map fun t => (t.1, t.2.1)) Unit (fun _ => r) (fun _ => (1000, .dead) :: L.map fun t => (t.1, .dead))
  | [], H, _, _, h => fun η G vs w hsep hob hs => by
      have hk := hob 1000
      rw [look_cons, if_pos rfl] at hk
      cases ho : η 1000 with
      | none => rw [ho] at hk; exact hk.elim
      | some o =>
        rw [ho] at hk
        obtain ⟨h1, h2, h3⟩ := hk
        obtain ⟨m1, m2, m3, _⟩ := (h3 w fun _ _ => rfl).1
        have hq := h (by rw [List.flatMap_nil, List.append_nil, ← m2]; exact m3)
        simp only [List.flatMap_nil, List.append_nil] at hq
        exact hq η G vs w hsep hob hs
  | t :: L, H, hn, hk, h => by
      obtain ⟨n1, n2⟩ := List.nodup_cons.1 hn
      obtain ⟨n3, n4⟩ := List.nodup_cons.1 n2
      have t1 : t.1 ≠ 1000 := fun e => n1 (by simp [e])
      have tl : ∀ t' ∈ L, t'.1 ≠ t.1 := fun t' ht' e => n3 (List.mem_map.2 ⟨t', ht', e⟩)
      have tl0 : ∀ t' ∈ L, t'.1 ≠ 1000 := fun t' ht' e => n1 (by simp only [List.map_cons, List.mem_cons]; exact .inr (List.mem_map.2 ⟨t', ht', e⟩))
      refine specG_merge (v0 := v0) (H := H) (k := t.1) (A := t.2.1) (more := t.2.2) (objs := (1000, .cust none (fun _ => memΦ v0 (H ++ t.2.2))) :: L.map fun t => (t.1, t.2.1)) (objs' := fun _ => (1000, .dead) :: L.map fun t => (t.1, .dead)) (hk t List.mem_cons_self).2
        (fun hn' => specG_merges hr L (H ++ t.2.2) (List.nodup_cons.2 ⟨fun h => by obtain ⟨t', ht', e⟩ := List.mem_map.1 h; exact tl0 t' ht' e, n4⟩) (fun t' ht' => hk t' (List.mem_cons_of_mem _ ht')) (fun hn2 => ?_)) ?_ (fun _ => ?_) t1 ?_ (fun j => ?_) (fun _ j => ?_) (fun j Y hY => ?_) (fun _ j Y hY => ?_) (loc_merge t.1 t1) (fun _ => hr)
      · have e : H ++ (t :: L).flatMap (·.2.2) = H ++ t.2.2 ++ L.flatMap (·.2.2) := by simp
        rw [← e]; exact h (by rw [e]; exact hn2)
      · rw [look_cons, if_neg t1]; exact look_none tl
      · rw [look_cons, if_neg t1]; exact look_none tl
      · rw [look_cons, if_pos rfl]
      · rw [List.map_cons]
        simp only [look_cons]
        by_cases e : j = 1000
        · simp [e]
        · simp [e]
      · rw [List.map_cons]
        simp only [look_cons]
        by_cases e : j = 1000
        · subst e; simp [t1.symm]
        · simp [e]
      · rw [look_cons] at hY
        split at hY
        · cases hY; exact cst_cust
        · obtain ⟨t', ht', rfl⟩ := look_in hY; exact (hk t' (List.mem_cons_of_mem _ ht')).1
      · rw [look_cons] at hY
        split at hY
        · cases hY; exact cst_dead
        · obtain ⟨t', ht', rfl⟩ := look_in hY; exact cst_dead
end
end Go.SX

/- The book: its own memory; lists that it was handed stay readable until Own. -/
namespace Go.SX

/-- A list of bytes, known: its value, its block. -/
def OneB (bs : List UInt8) (x : Value × Mem) : Prop := OneL x.2 5 1 x.1 bs.length ∧ ∀ p ∈ x.2, ∀ (i : Nat) (y : UInt8), bs[i]? = some y → p.2.2[i]? = some (.int .u8 (y.toNat : Int))
def knownB (bs : Unit → List UInt8) (x : Value × Mem) : TObj := .cust (some (.bytes bs)) (fun _ => memΦ x.1 x.2)

theorem barr_known {η : OEnv} {G : Nat → Prop} {w : World} {bs : Unit → List UInt8} {o : OInfo} (h : ObjRel η G w (.barr 5 bs) o) : ∃ more, OneB (bs ()) (o.val, more) ∧ ObjRel η G w (knownB bs (o.val, more)) o := by
  obtain ⟨h1, h2, h3⟩ := h
  rcases h3 with ⟨q1, q2, q3⟩ | ⟨b, c, cs, T, q1, q2, q3, ⟨q4, q5⟩, q6, q7, q8⟩
  · refine ⟨[], ⟨.inl ⟨rfl, q1, q2⟩, by simp⟩, h1, h2, fun w' _ => ⟨⟨rfl, q3, by rw [q3]; simp, by simp⟩, fun x hx => ?_⟩⟩
    cases hx
    exact ⟨none, 0, by rw [q1, q2], by omega, fun i x hx => by
      have := (List.getElem?_eq_some_iff.1 hx).1; omega⟩
  · have hT := q5.resolve_left (by decide)
    subst hT
    refine ⟨[(b, 5, cs.toList)], ⟨.inr ⟨b, c, cs.toList, rfl, q1, by simpa using q4, q6, q7⟩, fun p hp i y hy => by simp at hp; subst hp; have := q8 i y hy; simpa using this⟩, h1, h2, fun w' hw' => ?_⟩
    have hrow : HasRow w' b 5 cs.toList := by unfold HasRow; rw [hw' b (by rw [q2]; simp)]; exact q3
    refine ⟨⟨rfl, q2, by rw [q2]; simp, fun p hp => by simp at hp; subst hp; exact hrow⟩, fun x hx => ?_⟩
    cases hx
    exact ⟨_, c, q1, q6, fun i x hx => ⟨b, 0, rfl, by rw [q2]; simp, by
      rw [cell_cells hrow, Nat.zero_add]; have := q8 i x hx; simpa using this⟩⟩

section
variable {P : Program} {f : Nat}
/-- A list handed in becomes known. -/
theorem specG_open {A : TObj} {bs : Unit → List UInt8} {Y : Value × Mem → Type} {o' : (x : Value × Mem) → Y x → Objs}
    (h : ∀ x : Value × Mem, OneB (bs ()) x → x.1.oneCell' = true → SpecG P f [.loc 1000 0, .rv 1001 (fun _ => x.1)] [(1000, A), (1001, knownB bs x)] (Y x) (fun _ => .tup []) (o' x)) :
    SpecG P f [.loc 1000 0, .own 1001] [(1000, A), (1001, .barr 5 bs)] ((x : {x : Value × Mem // OneB (bs ()) x}) × Y x.1) (fun _ => .tup []) (fun s => o' s.1.1 s.2) := by
  intro η G vs w hsep hob hs
  have hob1 := hob 1001
  have e01 : eqN 1000 1001 = false := by decide
  simp only [lookN, e01, cond_false, eqN_refl, cond_true] at hob1
  match vs, hs with
  | [v1, v2], hs =>
    simp only [SVRels] at hs
    obtain ⟨hs1, hs2, -⟩ := hs
    simp only [SVRel] at hs2
    obtain ⟨o, ho, hone, hv⟩ := hs2
    rw [ho] at hob1
    obtain ⟨more, hB, hR⟩ := barr_known (η := η) (G := G) (w := w) (o := o) hob1
    have hv2 : v2 = o.val := hv hR.1
    refine (h (o.val, more) hB (hv2 ▸ hone) η G [v1, v2] w hsep (fun j => ?_) ⟨hs1, ⟨hv2, hone⟩, trivial⟩).mono fun v w' ⟨y, η', G', hh⟩ => ⟨⟨⟨_, hB⟩, y⟩, η', G', hh⟩
    have hj := hob j
    by_cases e : j = 1001
    · subst e
      simp only [lookN, e01, cond_false, eqN_refl, cond_true]
      rw [ho]; exact hR
    · have q : eqN 1001 j = false := decide_eq_false fun e' => e e'.symm
      simp only [lookN, q, cond_false] at hj ⊢
      exact hj
  | [], h => exact h.elim
  | [_], h => exact h.2.elim
  | _ :: _ :: _ :: _, h => exact h.2.2.elim

theorem specG_conv {k : Nat} {svs : List SV} {A : TObj} {rest : Objs} {Y : Type} {F : Y → Prop} {A' : Y → TObj} {X : Y → Type} {r : (y : Y) → X y → SV} {objs' : (y : Y) → X y → Objs} (h : ∀ (η : OEnv) (G : Nat → Prop) (w : World) (o : OInfo), ObjRel η G w A o → ∃ y, F y ∧ ObjRel η G w (A' y) o)
    (hf : ∀ y, F y → SpecG P f svs ((k, A' y) :: rest) (X y) (r y) (objs' y)) : SpecG P f svs ((k, A) :: rest) ((y : {y : Y // F y}) × X y.1) (fun s => r s.1.1 s.2) (fun s => objs' s.1.1 s.2) := by
  intro η G vs w hsep hob hs
  have hk := hob k
  simp only [lookN, eqN_refl, cond_true] at hk
  cases ho : η k with
  | none => rw [ho] at hk; exact hk.elim
  | some o =>
    rw [ho] at hk
    obtain ⟨y, hy, hy2⟩ := h η G w o hk
    refine (hf y hy η G vs w hsep (fun j => ?_) hs).mono fun v w' ⟨x, η', G', hh⟩ => ⟨⟨⟨y, hy⟩, x⟩, η', G', hh⟩
    by_cases e : j = k
    · subst e
      simp only [lookN, eqN_refl, cond_true, ho]; exact hy2
    · have q : eqN k j = false := decide_eq_false fun e' => e e'.symm
      have := hob j
      simp only [lookN, q, cond_false] at this ⊢
      exact this

/-- What is known of the memory that comes out is a ghost. -/
theorem specG_out {svs : List SV} {objs : Objs} {r : SV} {v0 : Value} {Q : Mem → Prop} (h : SpecX P f svs objs r [(1000, .cust none (fun _ => exΦ v0 Q))]) : SpecG P f svs objs {H : Mem // Q H} (fun _ => r) (fun x => [(1000, .cust none (fun _ => memΦ v0 x.1))]) := by
  intro η G vs w hsep hob hs
  refine (h η G vs w hsep hob hs).mono fun v w' ⟨η', G', h1, h2, h3⟩ => ?_
  have hk := h2 1000
  simp only [lookN, eqN_refl, cond_true] at hk
  cases ho : η' 1000 with
  | none => rw [ho] at hk; exact hk.elim
  | some o =>
    rw [ho] at hk
    obtain ⟨H, q1, q2, q3⟩ := cust_open (η := η') (G := G') ex_id hk
    refine ⟨⟨H, q1⟩, η', G', h1, fun j => ?_, h3⟩
    have hj := h2 j
    rw [lookN_one] at hj ⊢
    by_cases e : j = 1000
    · subst e; rw [if_pos rfl, ho]; exact q3
    · rw [if_neg e] at hj ⊢; exact hj
end
end Go.SX

/- Nothing is owned: no lists were put down. -/
namespace Go.Proofs.Ytmdfjipjkkjpcaa
open Go.SX

theorem lt_self0 (h : decide ((0 : Int) < 0) = true) : False := by simp at h

set_option maxRecDepth 20000 in
set_option maxHeartbeats 400000 in
theorem con50 : Con 50 [.nil] [] (.bool .t) [] := by
  refine con_of Try.func50 rfl rfl 120 _ rfl rfl rfl rfl ?_
  cbv
  refine ⟨Unit, [], fun _ => [(3, .int .i64 (.l 0))], fun _ => [], fun _ => True, fun _ => 0, (), [], trivial, ⟨?_⟩, fun _ _ => ?_⟩
  · cbv
    and_intros
    all_goals first | exact trivial | exact ⟨rfl⟩ | exact ⟨by kernel_rfl⟩
  cbv
  refine And.intro ?_ ?_
  · intro h
    exact False.elim (lt_self0 h)
  intro h
  clear h
  cbv
  refine ⟨Unit, [], fun _ => [(6, .int .i64 (.l 0))], fun _ => [], fun _ => True, fun _ => 0, (), [], trivial, ⟨?_⟩, fun _ _ => ?_⟩
  · cbv
    and_intros
    all_goals first | exact trivial | exact ⟨rfl⟩ | exact ⟨by kernel_rfl⟩
  cbv
  refine And.intro ?_ ?_
  · intro h
    exact False.elim (lt_self0 h)
  intro h
  clear h
  cbv
  refine ⟨Unit, [], fun _ => [(9, .int .i64 (.l 0))], fun _ => [], fun _ => True, fun _ => 0, (), [], trivial, ⟨?_⟩, fun _ _ => ?_⟩
  · cbv
    and_intros
    all_goals first | exact trivial | exact ⟨rfl⟩ | exact ⟨by kernel_rfl⟩
  cbv
  refine And.intro ?_ ?_
  · intro h
    exact False.elim (lt_self0 h)
  intro h
  clear h
  cbv
  refine ⟨[], [], ?_⟩
  cbv
  and_intros
  all_goals first | exact trivial | exact ⟨rfl⟩ | exact ⟨by kernel_rfl⟩

set_option maxRecDepth 20000 in
set_option maxHeartbeats 400000 in
theorem con51 : Con 51 [.nil] [] (.bool .t) [] := by
  refine con_of Try.func51 rfl rfl 125 _ rfl rfl rfl rfl ?_
  cbv
  refine ⟨Unit, [], fun _ => [(3, .int .i64 (.l 0))], fun _ => [], fun _ => True, fun _ => 0, (), [], trivial, ⟨?_⟩, fun _ _ => ?_⟩
  · cbv
    and_intros
    all_goals first | exact trivial | exact ⟨rfl⟩ | exact ⟨by kernel_rfl⟩
  cbv
  refine And.intro ?_ ?_
  · intro h
    exact False.elim (lt_self0 h)
  intro h
  clear h
  cbv
  refine ⟨Unit, [], fun _ => [(6, .int .i64 (.l 0))], fun _ => [], fun _ => True, fun _ => 0, (), [], trivial, ⟨?_⟩, fun _ _ => ?_⟩
  · cbv
    and_intros
    all_goals first | exact trivial | exact ⟨rfl⟩ | exact ⟨by kernel_rfl⟩
  cbv
  refine And.intro ?_ ?_
  · intro h
    exact False.elim (lt_self0 h)
  intro h
  clear h
  cbv
  refine ⟨Unit, [], fun _ => [(9, .int .i64 (.l 0))], fun _ => [], fun _ => True, fun _ => 0, (), [], trivial, ⟨?_⟩, fun _ _ => ?_⟩
  · cbv
    and_intros
    all_goals first | exact trivial | exact ⟨rfl⟩ | exact ⟨by kernel_rfl⟩
  cbv
  refine And.intro ?_ ?_
  · intro h
    exact False.elim (lt_self0 h)
  intro h
  clear h
  cbv
  refine ⟨[], [], ?_⟩
  cbv
  and_intros
  all_goals first | exact trivial | exact ⟨rfl⟩ | exact ⟨by kernel_rfl⟩

set_option maxRecDepth 20000 in
set_option maxHeartbeats 400000 in
theorem con52 : Con 52 [.nil] [] (.bool .t) [] := by
  refine con_of Try.func52 rfl rfl 125 _ rfl rfl rfl rfl ?_
  cbv
  refine ⟨Unit, [], fun _ => [(3, .int .i64 (.l 0))], fun _ => [], fun _ => True, fun _ => 0, (), [], trivial, ⟨?_⟩, fun _ _ => ?_⟩
  · cbv
    and_intros
    all_goals first | exact trivial | exact ⟨rfl⟩ | exact ⟨by kernel_rfl⟩
  cbv
  refine And.intro ?_ ?_
  · intro h
    exact False.elim (lt_self0 h)
  intro h
  clear h
  cbv
  refine ⟨Unit, [], fun _ => [(6, .int .i64 (.l 0))], fun _ => [], fun _ => True, fun _ => 0, (), [], trivial, ⟨?_⟩, fun _ _ => ?_⟩
  · cbv
    and_intros
    all_goals first | exact trivial | exact ⟨rfl⟩ | exact ⟨by kernel_rfl⟩
  cbv
  refine And.intro ?_ ?_
  · intro h
    exact False.elim (lt_self0 h)
  intro h
  clear h
  cbv
  refine ⟨Unit, [], fun _ => [(9, .int .i64 (.l 0))], fun _ => [], fun _ => True, fun _ => 0, (), [], trivial, ⟨?_⟩, fun _ _ => ?_⟩
  · cbv
    and_intros
    all_goals first | exact trivial | exact ⟨rfl⟩ | exact ⟨by kernel_rfl⟩
  cbv
  refine And.intro ?_ ?_
  · intro h
    exact False.elim (lt_self0 h)
  intro h
  clear h
  cbv
  refine ⟨[], [], ?_⟩
  cbv
  and_intros
  all_goals first | exact trivial | exact ⟨rfl⟩ | exact ⟨by kernel_rfl⟩

set_option maxRecDepth 20000 in
set_option maxHeartbeats 400000 in
theorem con53 : Con 53 [.nil] [] (.bool .t) [] := by
  refine con_of Try.func53 rfl rfl 135 _ rfl rfl rfl rfl ?_
  cbv
  refine ⟨Unit, [], fun _ => [(3, .int .i64 (.l 0))], fun _ => [], fun _ => True, fun _ => 0, (), [], trivial, ⟨?_⟩, fun _ _ => ?_⟩
  · cbv
    and_intros
    all_goals first | exact trivial | exact ⟨rfl⟩ | exact ⟨by kernel_rfl⟩
  cbv
  refine And.intro ?_ ?_
  · intro h
    exact False.elim (lt_self0 h)
  intro h
  clear h
  cbv
  refine ⟨Unit, [], fun _ => [(6, .int .i64 (.l 0))], fun _ => [], fun _ => True, fun _ => 0, (), [], trivial, ⟨?_⟩, fun _ _ => ?_⟩
  · cbv
    and_intros
    all_goals first | exact trivial | exact ⟨rfl⟩ | exact ⟨by kernel_rfl⟩
  cbv
  refine And.intro ?_ ?_
  · intro h
    exact False.elim (lt_self0 h)
  intro h
  clear h
  cbv
  refine ⟨Unit, [], fun _ => [(9, .int .i64 (.l 0))], fun _ => [], fun _ => True, fun _ => 0, (), [], trivial, ⟨?_⟩, fun _ _ => ?_⟩
  · cbv
    and_intros
    all_goals first | exact trivial | exact ⟨rfl⟩ | exact ⟨by kernel_rfl⟩
  cbv
  refine And.intro ?_ ?_
  · intro h
    exact False.elim (lt_self0 h)
  intro h
  clear h
  cbv
  refine ⟨[], [], ?_⟩
  cbv
  and_intros
  all_goals first | exact trivial | exact ⟨rfl⟩ | exact ⟨by kernel_rfl⟩

set_option maxRecDepth 20000 in
set_option maxHeartbeats 400000 in
theorem con54 : Con 54 [.nil] [] (.bool .t) [] := by
  refine con_of Try.func54 rfl rfl 135 _ rfl rfl rfl rfl ?_
  cbv
  refine ⟨Unit, [], fun _ => [(3, .int .i64 (.l 0))], fun _ => [], fun _ => True, fun _ => 0, (), [], trivial, ⟨?_⟩, fun _ _ => ?_⟩
  · cbv
    and_intros
    all_goals first | exact trivial | exact ⟨rfl⟩ | exact ⟨by kernel_rfl⟩
  cbv
  refine And.intro ?_ ?_
  · intro h
    exact False.elim (lt_self0 h)
  intro h
  clear h
  cbv
  refine ⟨Unit, [], fun _ => [(6, .int .i64 (.l 0))], fun _ => [], fun _ => True, fun _ => 0, (), [], trivial, ⟨?_⟩, fun _ _ => ?_⟩
  · cbv
    and_intros
    all_goals first | exact trivial | exact ⟨rfl⟩ | exact ⟨by kernel_rfl⟩
  cbv
  refine And.intro ?_ ?_
  · intro h
    exact False.elim (lt_self0 h)
  intro h
  clear h
  cbv
  refine ⟨Unit, [], fun _ => [(9, .int .i64 (.l 0))], fun _ => [], fun _ => True, fun _ => 0, (), [], trivial, ⟨?_⟩, fun _ _ => ?_⟩
  · cbv
    and_intros
    all_goals first | exact trivial | exact ⟨rfl⟩ | exact ⟨by kernel_rfl⟩
  cbv
  refine And.intro ?_ ?_
  · intro h
    exact False.elim (lt_self0 h)
  intro h
  clear h
  cbv
  refine ⟨[], [], ?_⟩
  cbv
  and_intros
  all_goals first | exact trivial | exact ⟨rfl⟩ | exact ⟨by kernel_rfl⟩

set_option maxRecDepth 20000 in
set_option maxHeartbeats 400000 in
theorem con55 : Con 55 [.nil] [] (.bool .t) [] := by
  refine con_of Try.func55 rfl rfl 130 _ rfl rfl rfl rfl ?_
  cbv
  refine ⟨Unit, [], fun _ => [(3, .int .i64 (.l 0))], fun _ => [], fun _ => True, fun _ => 0, (), [], trivial, ⟨?_⟩, fun _ _ => ?_⟩
  · cbv
    and_intros
    all_goals first | exact trivial | exact ⟨rfl⟩ | exact ⟨by kernel_rfl⟩
  cbv
  refine And.intro ?_ ?_
  · intro h
    exact False.elim (lt_self0 h)
  intro h
  clear h
  cbv
  refine ⟨Unit, [], fun _ => [(6, .int .i64 (.l 0))], fun _ => [], fun _ => True, fun _ => 0, (), [], trivial, ⟨?_⟩, fun _ _ => ?_⟩
  · cbv
    and_intros
    all_goals first | exact trivial | exact ⟨rfl⟩ | exact ⟨by kernel_rfl⟩
  cbv
  refine And.intro ?_ ?_
  · intro h
    exact False.elim (lt_self0 h)
  intro h
  clear h
  cbv
  refine ⟨Unit, [], fun _ => [(9, .int .i64 (.l 0))], fun _ => [], fun _ => True, fun _ => 0, (), [], trivial, ⟨?_⟩, fun _ _ => ?_⟩
  · cbv
    and_intros
    all_goals first | exact trivial | exact ⟨rfl⟩ | exact ⟨by kernel_rfl⟩
  cbv
  refine And.intro ?_ ?_
  · intro h
    exact False.elim (lt_self0 h)
  intro h
  clear h
  cbv
  refine ⟨[], [], ?_⟩
  cbv
  and_intros
  all_goals first | exact trivial | exact ⟨rfl⟩ | exact ⟨by kernel_rfl⟩

set_option maxRecDepth 20000 in
set_option maxHeartbeats 400000 in
theorem con56 : Con 56 [.nil] [] (.bool .t) [] := by
  refine con_of Try.func56 rfl rfl 125 _ rfl rfl rfl rfl ?_
  cbv
  refine ⟨Unit, [], fun _ => [(3, .int .i64 (.l 0))], fun _ => [], fun _ => True, fun _ => 0, (), [], trivial, ⟨?_⟩, fun _ _ => ?_⟩
  · cbv
    and_intros
    all_goals first | exact trivial | exact ⟨rfl⟩ | exact ⟨by kernel_rfl⟩
  cbv
  refine And.intro ?_ ?_
  · intro h
    exact False.elim (lt_self0 h)
  intro h
  clear h
  cbv
  refine ⟨Unit, [], fun _ => [(6, .int .i64 (.l 0))], fun _ => [], fun _ => True, fun _ => 0, (), [], trivial, ⟨?_⟩, fun _ _ => ?_⟩
  · cbv
    and_intros
    all_goals first | exact trivial | exact ⟨rfl⟩ | exact ⟨by kernel_rfl⟩
  cbv
  refine And.intro ?_ ?_
  · intro h
    exact False.elim (lt_self0 h)
  intro h
  clear h
  cbv
  refine ⟨Unit, [], fun _ => [(9, .int .i64 (.l 0))], fun _ => [], fun _ => True, fun _ => 0, (), [], trivial, ⟨?_⟩, fun _ _ => ?_⟩
  · cbv
    and_intros
    all_goals first | exact trivial | exact ⟨rfl⟩ | exact ⟨by kernel_rfl⟩
  cbv
  refine And.intro ?_ ?_
  · intro h
    exact False.elim (lt_self0 h)
  intro h
  clear h
  cbv
  refine ⟨[], [], ?_⟩
  cbv
  and_intros
  all_goals first | exact trivial | exact ⟨rfl⟩ | exact ⟨by kernel_rfl⟩

set_option maxRecDepth 20000 in
set_option maxHeartbeats 400000 in
theorem con57 : Con 57 [.nil] [] (.bool .t) [] := by
  refine con_of Try.func57 rfl rfl 130 _ rfl rfl rfl rfl ?_
  cbv
  refine ⟨Unit, [], fun _ => [(3, .int .i64 (.l 0))], fun _ => [], fun _ => True, fun _ => 0, (), [], trivial, ⟨?_⟩, fun _ _ => ?_⟩
  · cbv
    and_intros
    all_goals first | exact trivial | exact ⟨rfl⟩ | exact ⟨by kernel_rfl⟩
  cbv
  refine And.intro ?_ ?_
  · intro h
    exact False.elim (lt_self0 h)
  intro h
  clear h
  cbv
  refine ⟨Unit, [], fun _ => [(6, .int .i64 (.l 0))], fun _ => [], fun _ => True, fun _ => 0, (), [], trivial, ⟨?_⟩, fun _ _ => ?_⟩
  · cbv
    and_intros
    all_goals first | exact trivial | exact ⟨rfl⟩ | exact ⟨by kernel_rfl⟩
  cbv
  refine And.intro ?_ ?_
  · intro h
    exact False.elim (lt_self0 h)
  intro h
  clear h
  cbv
  refine ⟨Unit, [], fun _ => [(9, .int .i64 (.l 0))], fun _ => [], fun _ => True, fun _ => 0, (), [], trivial, ⟨?_⟩, fun _ _ => ?_⟩
  · cbv
    and_intros
    all_goals first | exact trivial | exact ⟨rfl⟩ | exact ⟨by kernel_rfl⟩
  cbv
  refine And.intro ?_ ?_
  · intro h
    exact False.elim (lt_self0 h)
  intro h
  clear h
  cbv
  refine ⟨[], [], ?_⟩
  cbv
  and_intros
  all_goals first | exact trivial | exact ⟨rfl⟩ | exact ⟨by kernel_rfl⟩

set_option maxRecDepth 20000 in
set_option maxHeartbeats 400000 in
theorem con58 : Con 58 [.nil] [] (.bool .t) [] := by
  refine con_of Try.func58 rfl rfl 178 _ rfl rfl rfl rfl ?_
  cbv
  refine ⟨Unit, [], fun _ => [(3, .int .i64 (.l 0))], fun _ => [], fun _ => True, fun _ => 0, (), [], trivial, ⟨?_⟩, fun _ _ => ?_⟩
  · cbv
    and_intros
    all_goals first | exact trivial | exact ⟨rfl⟩ | exact ⟨by kernel_rfl⟩
  cbv
  refine And.intro ?_ ?_
  · intro h
    exact False.elim (lt_self0 h)
  intro h
  clear h
  cbv
  refine ⟨Unit, [], fun _ => [(6, .int .i64 (.l 0))], fun _ => [], fun _ => True, fun _ => 0, (), [], trivial, ⟨?_⟩, fun _ _ => ?_⟩
  · cbv
    and_intros
    all_goals first | exact trivial | exact ⟨rfl⟩ | exact ⟨by kernel_rfl⟩
  cbv
  refine And.intro ?_ ?_
  · intro h
    exact False.elim (lt_self0 h)
  intro h
  clear h
  cbv
  refine ⟨Unit, [], fun _ => [(9, .int .i64 (.l 0))], fun _ => [], fun _ => True, fun _ => 0, (), [], trivial, ⟨?_⟩, fun _ _ => ?_⟩
  · cbv
    and_intros
    all_goals first | exact trivial | exact ⟨rfl⟩ | exact ⟨by kernel_rfl⟩
  cbv
  refine And.intro ?_ ?_
  · intro h
    exact False.elim (lt_self0 h)
  intro h
  clear h
  cbv
  refine ⟨[], [], ?_⟩
  cbv
  and_intros
  all_goals first | exact trivial | exact ⟨rfl⟩ | exact ⟨by kernel_rfl⟩

set_option maxRecDepth 20000 in
set_option maxHeartbeats 400000 in
theorem con59 : Con 59 [.nil] [] (.bool .t) [] := by
  refine con_of Try.func59 rfl rfl 163 _ rfl rfl rfl rfl ?_
  cbv
  refine ⟨Unit, [], fun _ => [(3, .int .i64 (.l 0))], fun _ => [], fun _ => True, fun _ => 0, (), [], trivial, ⟨?_⟩, fun _ _ => ?_⟩
  · cbv
    and_intros
    all_goals first | exact trivial | exact ⟨rfl⟩ | exact ⟨by kernel_rfl⟩
  cbv
  refine And.intro ?_ ?_
  · intro h
    exact False.elim (lt_self0 h)
  intro h
  clear h
  cbv
  refine ⟨Unit, [], fun _ => [(6, .int .i64 (.l 0))], fun _ => [], fun _ => True, fun _ => 0, (), [], trivial, ⟨?_⟩, fun _ _ => ?_⟩
  · cbv
    and_intros
    all_goals first | exact trivial | exact ⟨rfl⟩ | exact ⟨by kernel_rfl⟩
  cbv
  refine And.intro ?_ ?_
  · intro h
    exact False.elim (lt_self0 h)
  intro h
  clear h
  cbv
  refine ⟨Unit, [], fun _ => [(9, .int .i64 (.l 0))], fun _ => [], fun _ => True, fun _ => 0, (), [], trivial, ⟨?_⟩, fun _ _ => ?_⟩
  · cbv
    and_intros
    all_goals first | exact trivial | exact ⟨rfl⟩ | exact ⟨by kernel_rfl⟩
  cbv
  refine And.intro ?_ ?_
  · intro h
    exact False.elim (lt_self0 h)
  intro h
  clear h
  cbv
  refine ⟨[], [], ?_⟩
  cbv
  and_intros
  all_goals first | exact trivial | exact ⟨rfl⟩ | exact ⟨by kernel_rfl⟩

set_option maxRecDepth 20000 in
set_option maxHeartbeats 400000 in
theorem con60 : Con 60 [.nil] [] (.bool .t) [] := by
  refine con_of Try.func60 rfl rfl 168 _ rfl rfl rfl rfl ?_
  cbv
  refine ⟨Unit, [], fun _ => [(3, .int .i64 (.l 0))], fun _ => [], fun _ => True, fun _ => 0, (), [], trivial, ⟨?_⟩, fun _ _ => ?_⟩
  · cbv
    and_intros
    all_goals first | exact trivial | exact ⟨rfl⟩ | exact ⟨by kernel_rfl⟩
  cbv
  refine And.intro ?_ ?_
  · intro h
    exact False.elim (lt_self0 h)
  intro h
  clear h
  cbv
  refine ⟨Unit, [], fun _ => [(6, .int .i64 (.l 0))], fun _ => [], fun _ => True, fun _ => 0, (), [], trivial, ⟨?_⟩, fun _ _ => ?_⟩
  · cbv
    and_intros
    all_goals first | exact trivial | exact ⟨rfl⟩ | exact ⟨by kernel_rfl⟩
  cbv
  refine And.intro ?_ ?_
  · intro h
    exact False.elim (lt_self0 h)
  intro h
  clear h
  cbv
  refine ⟨Unit, [], fun _ => [(9, .int .i64 (.l 0))], fun _ => [], fun _ => True, fun _ => 0, (), [], trivial, ⟨?_⟩, fun _ _ => ?_⟩
  · cbv
    and_intros
    all_goals first | exact trivial | exact ⟨rfl⟩ | exact ⟨by kernel_rfl⟩
  cbv
  refine And.intro ?_ ?_
  · intro h
    exact False.elim (lt_self0 h)
  intro h
  clear h
  cbv
  refine ⟨[], [], ?_⟩
  cbv
  and_intros
  all_goals first | exact trivial | exact ⟨rfl⟩ | exact ⟨by kernel_rfl⟩

set_option maxRecDepth 20000 in
set_option maxHeartbeats 400000 in
theorem con61 : Con 61 [.nil] [] (.bool .t) [] := by
  refine con_of Try.func61 rfl rfl 173 _ rfl rfl rfl rfl ?_
  cbv
  refine ⟨Unit, [], fun _ => [(3, .int .i64 (.l 0))], fun _ => [], fun _ => True, fun _ => 0, (), [], trivial, ⟨?_⟩, fun _ _ => ?_⟩
  · cbv
    and_intros
    all_goals first | exact trivial | exact ⟨rfl⟩ | exact ⟨by kernel_rfl⟩
  cbv
  refine And.intro ?_ ?_
  · intro h
    exact False.elim (lt_self0 h)
  intro h
  clear h
  cbv
  refine ⟨Unit, [], fun _ => [(6, .int .i64 (.l 0))], fun _ => [], fun _ => True, fun _ => 0, (), [], trivial, ⟨?_⟩, fun _ _ => ?_⟩
  · cbv
    and_intros
    all_goals first | exact trivial | exact ⟨rfl⟩ | exact ⟨by kernel_rfl⟩
  cbv
  refine And.intro ?_ ?_
  · intro h
    exact False.elim (lt_self0 h)
  intro h
  clear h
  cbv
  refine ⟨Unit, [], fun _ => [(9, .int .i64 (.l 0))], fun _ => [], fun _ => True, fun _ => 0, (), [], trivial, ⟨?_⟩, fun _ _ => ?_⟩
  · cbv
    and_intros
    all_goals first | exact trivial | exact ⟨rfl⟩ | exact ⟨by kernel_rfl⟩
  cbv
  refine And.intro ?_ ?_
  · intro h
    exact False.elim (lt_self0 h)
  intro h
  clear h
  cbv
  refine ⟨[], [], ?_⟩
  cbv
  and_intros
  all_goals first | exact trivial | exact ⟨rfl⟩ | exact ⟨by kernel_rfl⟩

set_option maxRecDepth 20000 in
set_option maxHeartbeats 400000 in
theorem con62 : Con 62 [.nil] [] (.bool .t) [] := by
  refine con_of Try.func62 rfl rfl 186 _ rfl rfl rfl rfl ?_
  cbv
  refine ⟨Unit, [], fun _ => [(3, .int .i64 (.l 0))], fun _ => [], fun _ => True, fun _ => 0, (), [], trivial, ⟨?_⟩, fun _ _ => ?_⟩
  · cbv
    and_intros
    all_goals first | exact trivial | exact ⟨rfl⟩ | exact ⟨by kernel_rfl⟩
  cbv
  refine And.intro ?_ ?_
  · intro h
    exact False.elim (lt_self0 h)
  intro h
  clear h
  cbv
  refine ⟨Unit, [], fun _ => [(6, .int .i64 (.l 0))], fun _ => [], fun _ => True, fun _ => 0, (), [], trivial, ⟨?_⟩, fun _ _ => ?_⟩
  · cbv
    and_intros
    all_goals first | exact trivial | exact ⟨rfl⟩ | exact ⟨by kernel_rfl⟩
  cbv
  refine And.intro ?_ ?_
  · intro h
    exact False.elim (lt_self0 h)
  intro h
  clear h
  cbv
  refine ⟨Unit, [], fun _ => [(9, .int .i64 (.l 0))], fun _ => [], fun _ => True, fun _ => 0, (), [], trivial, ⟨?_⟩, fun _ _ => ?_⟩
  · cbv
    and_intros
    all_goals first | exact trivial | exact ⟨rfl⟩ | exact ⟨by kernel_rfl⟩
  cbv
  refine And.intro ?_ ?_
  · intro h
    exact False.elim (lt_self0 h)
  intro h
  clear h
  cbv
  refine ⟨[], [], ?_⟩
  cbv
  and_intros
  all_goals first | exact trivial | exact ⟨rfl⟩ | exact ⟨by kernel_rfl⟩

set_option maxRecDepth 20000 in
set_option maxHeartbeats 400000 in
theorem con63 : Con 63 [.nil] [] (.bool .t) [] := by
  refine con_of Try.func63 rfl rfl 186 _ rfl rfl rfl rfl ?_
  cbv
  refine ⟨Unit, [], fun _ => [(3, .int .i64 (.l 0))], fun _ => [], fun _ => True, fun _ => 0, (), [], trivial, ⟨?_⟩, fun _ _ => ?_⟩
  · cbv
    and_intros
    all_goals first | exact trivial | exact ⟨rfl⟩ | exact ⟨by kernel_rfl⟩
  cbv
  refine And.intro ?_ ?_
  · intro h
    exact False.elim (lt_self0 h)
  intro h
  clear h
  cbv
  refine ⟨Unit, [], fun _ => [(6, .int .i64 (.l 0))], fun _ => [], fun _ => True, fun _ => 0, (), [], trivial, ⟨?_⟩, fun _ _ => ?_⟩
  · cbv
    and_intros
    all_goals first | exact trivial | exact ⟨rfl⟩ | exact ⟨by kernel_rfl⟩
  cbv
  refine And.intro ?_ ?_
  · intro h
    exact False.elim (lt_self0 h)
  intro h
  clear h
  cbv
  refine ⟨Unit, [], fun _ => [(9, .int .i64 (.l 0))], fun _ => [], fun _ => True, fun _ => 0, (), [], trivial, ⟨?_⟩, fun _ _ => ?_⟩
  · cbv
    and_intros
    all_goals first | exact trivial | exact ⟨rfl⟩ | exact ⟨by kernel_rfl⟩
  cbv
  refine And.intro ?_ ?_
  · intro h
    exact False.elim (lt_self0 h)
  intro h
  clear h
  cbv
  refine ⟨[], [], ?_⟩
  cbv
  and_intros
  all_goals first | exact trivial | exact ⟨rfl⟩ | exact ⟨by kernel_rfl⟩

set_option maxRecDepth 20000 in
set_option maxHeartbeats 400000 in
theorem con64 : Con 64 [.nil] [] (.bool .t) [] := by
  refine con_of Try.func64 rfl rfl 186 _ rfl rfl rfl rfl ?_
  cbv
  refine ⟨Unit, [], fun _ => [(3, .int .i64 (.l 0))], fun _ => [], fun _ => True, fun _ => 0, (), [], trivial, ⟨?_⟩, fun _ _ => ?_⟩
  · cbv
    and_intros
    all_goals first | exact trivial | exact ⟨rfl⟩ | exact ⟨by kernel_rfl⟩
  cbv
  refine And.intro ?_ ?_
  · intro h
    exact False.elim (lt_self0 h)
  intro h
  clear h
  cbv
  refine ⟨Unit, [], fun _ => [(6, .int .i64 (.l 0))], fun _ => [], fun _ => True, fun _ => 0, (), [], trivial, ⟨?_⟩, fun _ _ => ?_⟩
  · cbv
    and_intros
    all_goals first | exact trivial | exact ⟨rfl⟩ | exact ⟨by kernel_rfl⟩
  cbv
  refine And.intro ?_ ?_
  · intro h
    exact False.elim (lt_self0 h)
  intro h
  clear h
  cbv
  refine ⟨Unit, [], fun _ => [(9, .int .i64 (.l 0))], fun _ => [], fun _ => True, fun _ => 0, (), [], trivial, ⟨?_⟩, fun _ _ => ?_⟩
  · cbv
    and_intros
    all_goals first | exact trivial | exact ⟨rfl⟩ | exact ⟨by kernel_rfl⟩
  cbv
  refine And.intro ?_ ?_
  · intro h
    exact False.elim (lt_self0 h)
  intro h
  clear h
  cbv
  refine ⟨[], [], ?_⟩
  cbv
  and_intros
  all_goals first | exact trivial | exact ⟨rfl⟩ | exact ⟨by kernel_rfl⟩

set_option maxRecDepth 20000 in
set_option maxHeartbeats 400000 in
theorem con65 : Con 65 [.nil] [] (.bool .t) [] := by
  refine con_of Try.func65 rfl rfl 140 _ rfl rfl rfl rfl ?_
  cbv
  refine ⟨Unit, [], fun _ => [(3, .int .i64 (.l 0))], fun _ => [], fun _ => True, fun _ => 0, (), [], trivial, ⟨?_⟩, fun _ _ => ?_⟩
  · cbv
    and_intros
    all_goals first | exact trivial | exact ⟨rfl⟩ | exact ⟨by kernel_rfl⟩
  cbv
  refine And.intro ?_ ?_
  · intro h
    exact False.elim (lt_self0 h)
  intro h
  clear h
  cbv
  refine ⟨Unit, [], fun _ => [(6, .int .i64 (.l 0))], fun _ => [], fun _ => True, fun _ => 0, (), [], trivial, ⟨?_⟩, fun _ _ => ?_⟩
  · cbv
    and_intros
    all_goals first | exact trivial | exact ⟨rfl⟩ | exact ⟨by kernel_rfl⟩
  cbv
  refine And.intro ?_ ?_
  · intro h
    exact False.elim (lt_self0 h)
  intro h
  clear h
  cbv
  refine ⟨Unit, [], fun _ => [(9, .int .i64 (.l 0))], fun _ => [], fun _ => True, fun _ => 0, (), [], trivial, ⟨?_⟩, fun _ _ => ?_⟩
  · cbv
    and_intros
    all_goals first | exact trivial | exact ⟨rfl⟩ | exact ⟨by kernel_rfl⟩
  cbv
  refine And.intro ?_ ?_
  · intro h
    exact False.elim (lt_self0 h)
  intro h
  clear h
  cbv
  refine ⟨[], [], ?_⟩
  cbv
  and_intros
  all_goals first | exact trivial | exact ⟨rfl⟩ | exact ⟨by kernel_rfl⟩

set_option maxRecDepth 20000 in
set_option maxHeartbeats 400000 in
theorem con67 : Con 67 [.nil] [] (.bool .t) [] := by
  refine con_of Try.func67 rfl rfl 130 _ rfl rfl rfl rfl ?_
  cbv
  refine ⟨Unit, [], fun _ => [(3, .int .i64 (.l 0))], fun _ => [], fun _ => True, fun _ => 0, (), [], trivial, ⟨?_⟩, fun _ _ => ?_⟩
  · cbv
    and_intros
    all_goals first | exact trivial | exact ⟨rfl⟩ | exact ⟨by kernel_rfl⟩
  cbv
  refine And.intro ?_ ?_
  · intro h
    exact False.elim (lt_self0 h)
  intro h
  clear h
  cbv
  refine ⟨Unit, [], fun _ => [(6, .int .i64 (.l 0))], fun _ => [], fun _ => True, fun _ => 0, (), [], trivial, ⟨?_⟩, fun _ _ => ?_⟩
  · cbv
    and_intros
    all_goals first | exact trivial | exact ⟨rfl⟩ | exact ⟨by kernel_rfl⟩
  cbv
  refine And.intro ?_ ?_
  · intro h
    exact False.elim (lt_self0 h)
  intro h
  clear h
  cbv
  refine ⟨Unit, [], fun _ => [(9, .int .i64 (.l 0))], fun _ => [], fun _ => True, fun _ => 0, (), [], trivial, ⟨?_⟩, fun _ _ => ?_⟩
  · cbv
    and_intros
    all_goals first | exact trivial | exact ⟨rfl⟩ | exact ⟨by kernel_rfl⟩
  cbv
  refine And.intro ?_ ?_
  · intro h
    exact False.elim (lt_self0 h)
  intro h
  clear h
  cbv
  refine ⟨[], [], ?_⟩
  cbv
  and_intros
  all_goals first | exact trivial | exact ⟨rfl⟩ | exact ⟨by kernel_rfl⟩

set_option maxRecDepth 20000 in
set_option maxHeartbeats 400000 in
theorem con68 : Con 68 [.nil] [] (.bool .t) [] := by
  refine con_of Try.func68 rfl rfl 125 _ rfl rfl rfl rfl ?_
  cbv
  refine ⟨Unit, [], fun _ => [(3, .int .i64 (.l 0))], fun _ => [], fun _ => True, fun _ => 0, (), [], trivial, ⟨?_⟩, fun _ _ => ?_⟩
  · cbv
    and_intros
    all_goals first | exact trivial | exact ⟨rfl⟩ | exact ⟨by kernel_rfl⟩
  cbv
  refine And.intro ?_ ?_
  · intro h
    exact False.elim (lt_self0 h)
  intro h
  clear h
  cbv
  refine ⟨Unit, [], fun _ => [(6, .int .i64 (.l 0))], fun _ => [], fun _ => True, fun _ => 0, (), [], trivial, ⟨?_⟩, fun _ _ => ?_⟩
  · cbv
    and_intros
    all_goals first | exact trivial | exact ⟨rfl⟩ | exact ⟨by kernel_rfl⟩
  cbv
  refine And.intro ?_ ?_
  · intro h
    exact False.elim (lt_self0 h)
  intro h
  clear h
  cbv
  refine ⟨Unit, [], fun _ => [(9, .int .i64 (.l 0))], fun _ => [], fun _ => True, fun _ => 0, (), [], trivial, ⟨?_⟩, fun _ _ => ?_⟩
  · cbv
    and_intros
    all_goals first | exact trivial | exact ⟨rfl⟩ | exact ⟨by kernel_rfl⟩
  cbv
  refine And.intro ?_ ?_
  · intro h
    exact False.elim (lt_self0 h)
  intro h
  clear h
  cbv
  refine ⟨[], [], ?_⟩
  cbv
  and_intros
  all_goals first | exact trivial | exact ⟨rfl⟩ | exact ⟨by kernel_rfl⟩

set_option maxRecDepth 20000 in
set_option maxHeartbeats 400000 in
theorem con69 : Con 69 [.nil] [] (.bool .t) [] := by
  refine con_of Try.func69 rfl rfl 125 _ rfl rfl rfl rfl ?_
  cbv
  refine ⟨Unit, [], fun _ => [(3, .int .i64 (.l 0))], fun _ => [], fun _ => True, fun _ => 0, (), [], trivial, ⟨?_⟩, fun _ _ => ?_⟩
  · cbv
    and_intros
    all_goals first | exact trivial | exact ⟨rfl⟩ | exact ⟨by kernel_rfl⟩
  cbv
  refine And.intro ?_ ?_
  · intro h
    exact False.elim (lt_self0 h)
  intro h
  clear h
  cbv
  refine ⟨Unit, [], fun _ => [(6, .int .i64 (.l 0))], fun _ => [], fun _ => True, fun _ => 0, (), [], trivial, ⟨?_⟩, fun _ _ => ?_⟩
  · cbv
    and_intros
    all_goals first | exact trivial | exact ⟨rfl⟩ | exact ⟨by kernel_rfl⟩
  cbv
  refine And.intro ?_ ?_
  · intro h
    exact False.elim (lt_self0 h)
  intro h
  clear h
  cbv
  refine ⟨Unit, [], fun _ => [(9, .int .i64 (.l 0))], fun _ => [], fun _ => True, fun _ => 0, (), [], trivial, ⟨?_⟩, fun _ _ => ?_⟩
  · cbv
    and_intros
    all_goals first | exact trivial | exact ⟨rfl⟩ | exact ⟨by kernel_rfl⟩
  cbv
  refine And.intro ?_ ?_
  · intro h
    exact False.elim (lt_self0 h)
  intro h
  clear h
  cbv
  refine ⟨[], [], ?_⟩
  cbv
  and_intros
  all_goals first | exact trivial | exact ⟨rfl⟩ | exact ⟨by kernel_rfl⟩

set_option maxRecDepth 20000 in
set_option maxHeartbeats 400000 in
theorem con70 : Con 70 [.nil] [] (.bool .t) [] := by
  refine con_of Try.func70 rfl rfl 125 _ rfl rfl rfl rfl ?_
  cbv
  refine ⟨Unit, [], fun _ => [(3, .int .i64 (.l 0))], fun _ => [], fun _ => True, fun _ => 0, (), [], trivial, ⟨?_⟩, fun _ _ => ?_⟩
  · cbv
    and_intros
    all_goals first | exact trivial | exact ⟨rfl⟩ | exact ⟨by kernel_rfl⟩
  cbv
  refine And.intro ?_ ?_
  · intro h
    exact False.elim (lt_self0 h)
  intro h
  clear h
  cbv
  refine ⟨Unit, [], fun _ => [(6, .int .i64 (.l 0))], fun _ => [], fun _ => True, fun _ => 0, (), [], trivial, ⟨?_⟩, fun _ _ => ?_⟩
  · cbv
    and_intros
    all_goals first | exact trivial | exact ⟨rfl⟩ | exact ⟨by kernel_rfl⟩
  cbv
  refine And.intro ?_ ?_
  · intro h
    exact False.elim (lt_self0 h)
  intro h
  clear h
  cbv
  refine ⟨Unit, [], fun _ => [(9, .int .i64 (.l 0))], fun _ => [], fun _ => True, fun _ => 0, (), [], trivial, ⟨?_⟩, fun _ _ => ?_⟩
  · cbv
    and_intros
    all_goals first | exact trivial | exact ⟨rfl⟩ | exact ⟨by kernel_rfl⟩
  cbv
  refine And.intro ?_ ?_
  · intro h
    exact False.elim (lt_self0 h)
  intro h
  clear h
  cbv
  refine ⟨[], [], ?_⟩
  cbv
  and_intros
  all_goals first | exact trivial | exact ⟨rfl⟩ | exact ⟨by kernel_rfl⟩

set_option maxRecDepth 20000 in
set_option maxHeartbeats 400000 in
theorem con71 : Con 71 [.nil] [] (.bool .t) [] := by
  refine con_of Try.func71 rfl rfl 140 _ rfl rfl rfl rfl ?_
  cbv
  refine ⟨Unit, [], fun _ => [(3, .int .i64 (.l 0))], fun _ => [], fun _ => True, fun _ => 0, (), [], trivial, ⟨?_⟩, fun _ _ => ?_⟩
  · cbv
    and_intros
    all_goals first | exact trivial | exact ⟨rfl⟩ | exact ⟨by kernel_rfl⟩
  cbv
  refine And.intro ?_ ?_
  · intro h
    exact False.elim (lt_self0 h)
  intro h
  clear h
  cbv
  refine ⟨Unit, [], fun _ => [(6, .int .i64 (.l 0))], fun _ => [], fun _ => True, fun _ => 0, (), [], trivial, ⟨?_⟩, fun _ _ => ?_⟩
  · cbv
    and_intros
    all_goals first | exact trivial | exact ⟨rfl⟩ | exact ⟨by kernel_rfl⟩
  cbv
  refine And.intro ?_ ?_
  · intro h
    exact False.elim (lt_self0 h)
  intro h
  clear h
  cbv
  refine ⟨Unit, [], fun _ => [(9, .int .i64 (.l 0))], fun _ => [], fun _ => True, fun _ => 0, (), [], trivial, ⟨?_⟩, fun _ _ => ?_⟩
  · cbv
    and_intros
    all_goals first | exact trivial | exact ⟨rfl⟩ | exact ⟨by kernel_rfl⟩
  cbv
  refine And.intro ?_ ?_
  · intro h
    exact False.elim (lt_self0 h)
  intro h
  clear h
  cbv
  refine ⟨[], [], ?_⟩
  cbv
  and_intros
  all_goals first | exact trivial | exact ⟨rfl⟩ | exact ⟨by kernel_rfl⟩

end Go.Proofs.Ytmdfjipjkkjpcaa

/- Nothing is owned: ownBools. -/
namespace Go.Proofs.Ytmdfjipjkkjpcaa
open Go.SX
theorem info150 : (Try.prog.info? 150).map (fun i => (i.size, i.bytes, i.zero)) = some (1, 24, some (.slice none 0 0)) := by kernel_rfl
theorem info150x : ∃ i, Try.prog.info? 150 = some i ∧ i.zero = some (.slice none 0 0) ∧ i.size = 1 ∧ i.bytes = 24 := by
  have h := info150
  cases hi : Try.prog.info? 150 with
  | none => rw [hi] at h; cases h
  | some i =>
    rw [hi] at h
    simp only [Option.map_some, Option.some.injEq, Prod.mk.injEq] at h
    exact ⟨i, rfl, h.2.2, h.1, h.2.1⟩
set_option maxRecDepth 20000 in
set_option maxHeartbeats 400000 in
theorem con66 : Con 66 [.nil] [] (.bool .t) [] := by
  obtain ⟨i, hi, hz, hs, hb⟩ := info150x
  obtain ⟨c0, h0⟩ : ∃ c0, c0 = (madeCells (Value.slice none 0 0).cells (0 * i.size)).toList := ⟨_, rfl⟩
  have r0 : SpecG Try.prog (rawC 7 54) [.int .i64 (.l 0), .int .i64 (.s fun _ => 0)] [] Unit (fun _ => .own 2000) (fun _ => [(2000, .cust none (fun _ => rowΦ 150 1 0 0 c0))]) :=
    raw_make (sz := 1) (c := 0) rfl hs.symm h0 Try.underlying54 hi hz (by omega) (by omega)
  have r1 : ConG (rawC 7 54) [.int .i64 (.l 0), .int .i64 (.l 0)] [] Unit (fun _ => .own 2000) (fun _ => [(2000, .cust none (fun _ => rowΦ 150 1 0 0 c0))]) :=
    ⟨fun η G vs w a b c => r0 η G vs w a b (by
      match vs, c with
      | [v1, v2], c => simp only [SVRels, SVRel, IE.den_l, IE.den_s] at c ⊢; exact c
      | [], h => exact h.elim
      | [_], h => exact h.2.elim
      | _ :: _ :: _ :: _, h => exact h.2.2.elim)⟩
  have w0 : 0 ≤ IntKind.u64.wrap 0 := by decide
  have w1 : bound64 (2 * 0) := by unfold bound64; omega
  have w2 : ¬ IntKind.i64.wrap (1 * 2 ^ min (IntKind.u64.wrap 0).toNat IntKind.i64.bits) ≤ 2 * 0 := by decide
  refine con_of Try.func66 rfl rfl 136 _ rfl rfl rfl rfl ?_
  cbv
  refine ⟨Unit, _, _, r1, ⟨by kernel_rfl⟩, fun _ => ⟨⟨by kernel_rfl⟩, ?_⟩⟩
  cbv
  refine ⟨Unit, [], fun _ => [(4, .int .i64 (.l 0))], fun _ => [], fun _ => True, fun _ => 0, (), [], trivial, ⟨?_⟩, fun _ _ => ?_⟩
  · cbv
    and_intros
    all_goals first | exact trivial | exact ⟨rfl⟩ | exact ⟨by kernel_rfl⟩
  cbv
  refine And.intro ?_ ?_
  · intro h
    clear h
    cbv
    refine ⟨⟨w0⟩, ⟨w1⟩, ?_⟩
    refine And.intro ?_ ?_
    · intro h
      have h : IntKind.i64.wrap (1 * 2 ^ min (IntKind.u64.wrap 0).toNat IntKind.i64.bits) ≤ 2 * 0 := of_decide_eq_true h
      exact False.elim (w2 h)
    · intro h
      clear h
      cbv
      refine ⟨[], [], ?_⟩
      cbv
      and_intros
      all_goals first | exact trivial | exact ⟨rfl⟩ | exact ⟨by kernel_rfl⟩
  · intro h
    have h : ¬ (0 : Int) < 20 := of_decide_eq_false h
    exact False.elim (h (by decide))
end Go.Proofs.Ytmdfjipjkkjpcaa

