/- Node laws: reading a node that is one. -/
import Derived.Test.YtmdfjipjkkjpcaaNz
namespace Go.Proofs.Ytmdfjipjkkjpcaa
open Go.SX

def entP (leaf : Bool) (b : List UInt8) : Option (Ent × List UInt8) :=
  if 1 ≤ b.length ∧ numN (b.take 1) ≤ (b.drop 1).length then
    let key := (b.drop 1).take (numN (b.take 1))
    let c := (b.drop 1).drop (numN (b.take 1))
    if leaf then
      if 1 ≤ c.length then
        if numN (c.take 1) = 255 then
          if 4 ≤ (c.drop 1).length ∧ 4 ≤ ((c.drop 1).drop 4).length then some (⟨key, [], numN (((c.drop 1).drop 4).take 4), numN ((c.drop 1).take 4)⟩, ((c.drop 1).drop 4).drop 4) else none
        else if numN (c.take 1) ≤ (c.drop 1).length then some (⟨key, (c.drop 1).take (numN (c.take 1)), 0, 0⟩, (c.drop 1).drop (numN (c.take 1))) else none
      else none
    else if 4 ≤ c.length then some (⟨key, [], numN (c.take 4), 0⟩, c.drop 4) else none
  else none
def entsP (leaf : Bool) : Nat → List UInt8 → Option (List Ent)
  | 0, _ => some []
  | n + 1, b => match entP leaf b with
    | none => none
    | some (e, c) => match entsP leaf n c with
      | none => none
      | some es => some (e :: es)
def readP (leaf : Bool) (b : List UInt8) : Option (List Ent) := if 2 ≤ b.length then entsP leaf (numN (b.take 2)) (b.drop 2) else none

theorem entP_key {leaf : Bool} {b : List UInt8} {e : Ent} {r : List UInt8} (h : entP leaf b = some (e, r)) : 1 ≤ b.length ∧ numN (b.take 1) ≤ (b.drop 1).length := by
  unfold entP at h
  split at h
  · assumption
  · cases h
theorem entP_branch {leaf : Bool} {b : List UInt8} {e : Ent} {r : List UInt8} (hl : leaf = false) (h : entP leaf b = some (e, r)) :
    4 ≤ ((b.drop 1).drop (numN (b.take 1))).length ∧ e = ⟨(b.drop 1).take (numN (b.take 1)), [], numN (((b.drop 1).drop (numN (b.take 1))).take 4), 0⟩ ∧ r = ((b.drop 1).drop (numN (b.take 1))).drop 4 := by
  subst hl
  unfold entP at h
  split at h
  · simp only [Bool.false_eq_true, if_false] at h
    split at h
    · simp only [Option.some.injEq, Prod.mk.injEq] at h
      exact ⟨by assumption, h.1.symm, h.2.symm⟩
    · cases h
  · cases h
theorem entP_leaf {leaf : Bool} {b : List UInt8} {e : Ent} {r : List UInt8} (hl : leaf = true) (h : entP leaf b = some (e, r)) :
    1 ≤ ((b.drop 1).drop (numN (b.take 1))).length ∧ entP true b = some (e, r) := by
  subst hl
  refine ⟨?_, h⟩
  unfold entP at h
  split at h
  · simp only [if_true] at h
    split at h
    · assumption
    · cases h
  · cases h
theorem entP_big {b : List UInt8} {e : Ent} {r : List UInt8} (h255 : numN (((b.drop 1).drop (numN (b.take 1))).take 1) = 255) (h : entP true b = some (e, r)) :
    4 ≤ (((b.drop 1).drop (numN (b.take 1))).drop 1).length ∧ 4 ≤ ((((b.drop 1).drop (numN (b.take 1))).drop 1).drop 4).length ∧
      e = ⟨(b.drop 1).take (numN (b.take 1)), [], numN (((((b.drop 1).drop (numN (b.take 1))).drop 1).drop 4).take 4), numN ((((b.drop 1).drop (numN (b.take 1))).drop 1).take 4)⟩ ∧ r = ((((b.drop 1).drop (numN (b.take 1))).drop 1).drop 4).drop 4 := by
  unfold entP at h
  split at h
  · simp only [if_true, h255] at h
    split at h
    · split at h
      · rename_i hq
        simp only [Option.some.injEq, Prod.mk.injEq] at h
        exact ⟨hq.1, hq.2, h.1.symm, h.2.symm⟩
      · cases h
    · cases h
  · cases h
theorem entP_val {b : List UInt8} {e : Ent} {r : List UInt8} (h255 : ¬ numN (((b.drop 1).drop (numN (b.take 1))).take 1) = 255) (h : entP true b = some (e, r)) :
    numN (((b.drop 1).drop (numN (b.take 1))).take 1) ≤ (((b.drop 1).drop (numN (b.take 1))).drop 1).length ∧
      e = ⟨(b.drop 1).take (numN (b.take 1)), (((b.drop 1).drop (numN (b.take 1))).drop 1).take (numN (((b.drop 1).drop (numN (b.take 1))).take 1)), 0, 0⟩ ∧
      r = (((b.drop 1).drop (numN (b.take 1))).drop 1).drop (numN (((b.drop 1).drop (numN (b.take 1))).take 1)) := by
  unfold entP at h
  split at h
  · simp only [if_true, h255, if_false] at h
    split at h
    · split at h
      · simp only [Option.some.injEq, Prod.mk.injEq] at h
        exact ⟨by assumption, h.1.symm, h.2.symm⟩
      · cases h
    · cases h
  · cases h
theorem entsP_next {leaf : Bool} {n : Nat} {b : List UInt8} {es : List Ent} (h : entsP leaf (n + 1) b = some es) : ∃ e c tl, entP leaf b = some (e, c) ∧ entsP leaf n c = some tl ∧ es = e :: tl := by
  simp only [entsP] at h
  cases he : entP leaf b with
  | none => rw [he] at h; cases h
  | some x =>
    obtain ⟨e, c⟩ := x
    rw [he] at h
    simp only at h
    cases ht : entsP leaf n c with
    | none => rw [ht] at h; cases h
    | some tl => rw [ht] at h; simp only [Option.some.injEq] at h; exact ⟨e, c, tl, rfl, ht, h.symm⟩
theorem num1_lt (b : List UInt8) : numN (b.take 1) < 256 := by
  have := numN_lt (b.take 1)
  have h : (b.take 1).length ≤ 1 := by simp; omega
  exact Nat.lt_of_lt_of_le this (Nat.le_trans (Nat.pow_le_pow_right (by decide) h) (by decide))
theorem num2_lt (b : List UInt8) : numN (b.take 2) < 65536 := by
  have := numN_lt (b.take 2)
  have h : (b.take 2).length ≤ 2 := by simp; omega
  exact Nat.lt_of_lt_of_le this (Nat.le_trans (Nat.pow_le_pow_right (by decide) h) (by decide))
theorem wrap_small {x : Nat} (h : x < 65536) : IntKind.i64.wrap (x : Int) = (x : Int) := by rw [IntKind.wrap_i64]; omega
theorem con93z {b : List UInt8} {n : Nat} {z : Int} (hz : z = (n : Int)) (hn : n ≤ b.length) (hb : b.length < 1000000000000) :
    Con 93 [.loc 1000 0, .int .i64 (.s fun _ => z)] [(1000, .cells 172 [.dat (.bytes fun _ => b)])] (.own 2000) [(1000, .cells 172 [.dat (.bytes fun _ => b.drop n)]), (2000, .barr 5 fun _ => b.take n)] := by
  subst hz; exact con93 hn hb

set_option maxRecDepth 20000 in
set_option maxHeartbeats 4000000 in
theorem con72 {leaf : Bool} {b : List UInt8} {ES : List Ent} (hp : readP leaf b = some ES) (hb : b.length < 1000000000000) :
    Con 72 [.bool (.s fun _ => leaf), .dat (.bytes fun _ => b)] [] (.tup [.agg [.bool (.s fun _ => leaf), .own 2000], .bool (.s fun _ => true)])
      [(2000, .arrD 74 4 (fun _ => ES.length) (lrow encE fun _ => ES))] := by
  have h2 : 2 ≤ b.length := by
    unfold readP at hp
    split at hp
    · assumption
    · cases hp
  have hp : entsP leaf (numN (b.take 2)) (b.drop 2) = some ES := by unfold readP at hp; rwa [if_pos h2] at hp
  obtain ⟨N, hN⟩ : ∃ N, N = numN (b.take 2) := ⟨_, rfl⟩
  have hN2 := num2_lt b
  have ca := con92 (m := 2) (by decide) h2 hb
  rw [← hN] at hp hN2 ca
  obtain ⟨B2, hB2⟩ : ∃ B2, B2 = b.drop 2 := ⟨_, rfl⟩
  have hbl : B2.length < 1000000000000 := by rw [hB2, List.length_drop]; omega
  rw [← hB2] at hp ca
  have hi0 : 0 ≤ N ∧ B2.length < 1000000000000 ∧ ([] : List Ent).length = 0 ∧ (∃ tl, entsP leaf (N - 0) B2 = some tl ∧ [] ++ tl = ES) := ⟨Nat.zero_le _, hbl, rfl, ES, hp, rfl⟩
  refine ⟨specX_of (spec_of_vc_defer (E := E) (S := Con) (fn := Try.f72) eok mixed (fun _ _ _ _ _ h => h.spec) Try.func72 rfl rfl rfl rfl rfl rfl rfl rfl idle91 rfl rfl ?_) ⟨_, _, Try.func72, rfl, rfl⟩⟩
  cbv
  refine ⟨_, _, ca, ⟨?_⟩, ?_⟩
  · kernel_rfl
  cbv
  refine ⟨Nat × List UInt8 × List Ent, [500], fun x => [(17, .int .u32 (.s fun _ => (x.1 : Int)))],
    fun x => [(4, .cells 24 [.bool (.s fun _ => leaf), .own 500]), (5, .cells 4 [.bool .f]), (14, .cells 172 [.dat (.bytes fun _ => x.2.1)]), (500, .arrD 74 4 (fun _ => x.2.2.length) (lrow encE fun _ => x.2.2))],
    fun x => x.1 ≤ N ∧ x.2.1.length < 1000000000000 ∧ x.2.2.length = x.1 ∧ (∃ tl, entsP leaf (N - x.1) x.2.1 = some tl ∧ x.2.2 ++ tl = ES), fun x => N - x.1, (0, B2, []), [(500, none)], hi0, ⟨?_⟩, fun x hx => ?_⟩
  · cbv
    and_intros
    all_goals first | exact trivial | exact ⟨rfl⟩ | exact ⟨by kernel_rfl⟩
  · obtain ⟨i, rb, acc⟩ := x
    obtain ⟨hi, hrl, hal, hx⟩ : i ≤ N ∧ rb.length < 1000000000000 ∧ acc.length = i ∧ (∃ tl, entsP leaf (N - i) rb = some tl ∧ acc ++ tl = ES) := hx
    cbv
    refine ⟨fun h1 => ?_, fun h1 => ?_⟩
    · have h1 : (i : Int) < (N : Int) := of_decide_eq_true h1
      have hlt : i < N := by omega
      obtain ⟨tl0, hx1, hES⟩ := hx
      rw [show N - i = (N - (i + 1)) + 1 by omega] at hx1
      obtain ⟨e, rb', tl, he2, htl, rfl⟩ := entsP_next hx1
      obtain ⟨p1, p2⟩ := entP_key he2
      have l1 : (rb.drop 1).length < 1000000000000 := by simp only [List.length_drop]; omega
      have l2 : ((rb.drop 1).drop (numN (rb.take 1))).length < 1000000000000 := by simp only [List.length_drop]; omega
      have l3 : (((rb.drop 1).drop (numN (rb.take 1))).drop 1).length < 1000000000000 := by simp only [List.length_drop]; omega
      have l4 : ((((rb.drop 1).drop (numN (rb.take 1))).drop 1).drop 4).length < 1000000000000 := by simp only [List.length_drop]; omega
      have hz := wrap_small (x := numN (rb.take 1)) (by have := num1_lt rb; omega)
      have hms : N - (i + 1) < N - i := by omega
      have hwi : IntKind.u32.wrap ((i : Int) + 1) = ((i + 1 : Nat) : Int) := by rw [IntKind.wrap_u32]; omega
      clear h1 hx1
      cbv
      refine ⟨_, _, con92 (m := 1) (by decide) p1 hrl, ⟨?_⟩, ?_⟩
      · kernel_rfl
      cbv
      refine ⟨_, _, con93z hz p2 l1, ⟨?_⟩, ?_⟩
      · kernel_rfl
      cbv
      refine ⟨fun h3 => ?_, fun h3 => ?_⟩
      · have h3 : leaf = false := bnot_t h3
        obtain ⟨q4, he, hr⟩ := entP_branch h3 he2
        have hrb' : rb' = ((rb.drop 1).drop (numN (rb.take 1))).drop 4 := hr
        obtain ⟨acc', hacc⟩ : ∃ a, a = acc ++ [e] := ⟨_, rfl⟩
        have hinv : i + 1 ≤ N ∧ rb'.length < 1000000000000 ∧ acc'.length = i + 1 ∧ (∃ tl, entsP leaf (N - (i + 1)) rb' = some tl ∧ acc' ++ tl = ES) := ⟨hlt, by simp only [hrb', List.length_drop]; omega, by rw [hacc]; simp; omega, tl, htl, by rw [hacc, List.append_assoc]; exact hES⟩
        have hap := app_ok acc e
        have hra := row_app hacc.symm
        have hlo : lenOk (acc.length + 1) 56 := by unfold lenOk; omega
        clear hES htl he2
        rw [he] at hap hra
        cbv
        refine ⟨_, _, con92 (m := 4) (by decide) q4 l2, ⟨?_⟩, ?_⟩
        · kernel_rfl
        cbv
        refine ⟨⟨hlo, hap⟩, ?_⟩
        cbv
        refine ⟨(i + 1, rb', acc'), [(500, some 49)], hinv, hms, ⟨?_⟩, ⟨?_⟩⟩
        · kernel_rfl
        · cbv
          and_intros
          all_goals first | exact trivial | exact ⟨rfl⟩ | exact ⟨hwi⟩ | exact ⟨hr.symm⟩ | exact ⟨hra⟩ | exact ⟨by kernel_rfl⟩
      · have h3 : leaf = true := bnot_f h3
        obtain ⟨q1, he3⟩ := entP_leaf h3 he2
        cbv
        refine ⟨_, _, con92 (m := 1) (by decide) q1 l2, ⟨?_⟩, ?_⟩
        · kernel_rfl
        cbv
        refine ⟨fun h4 => ?_, fun h4 => ?_⟩
        · have h4 : (numN (((rb.drop 1).drop (numN (rb.take 1))).take 1) : Int) = 255 := of_decide_eq_true h4
          obtain ⟨q4, q5, he, hr⟩ := entP_big (by omega) he3
          have hrb' := hr
          obtain ⟨acc', hacc⟩ : ∃ a, a = acc ++ [e] := ⟨_, rfl⟩
          have hinv : i + 1 ≤ N ∧ rb'.length < 1000000000000 ∧ acc'.length = i + 1 ∧ (∃ tl, entsP leaf (N - (i + 1)) rb' = some tl ∧ acc' ++ tl = ES) := ⟨hlt, by simp only [hrb', List.length_drop]; omega, by rw [hacc]; simp; omega, tl, htl, by rw [hacc, List.append_assoc]; exact hES⟩
          have hap := app_ok acc e
          have hra := row_app hacc.symm
          have hlo : lenOk (acc.length + 1) 56 := by unfold lenOk; omega
          clear hES htl he2 he3
          rw [he] at hap hra
          cbv
          refine ⟨_, _, con92 (m := 4) (by decide) q4 l3, ⟨?_⟩, ?_⟩
          · kernel_rfl
          cbv
          refine ⟨_, _, con92 (m := 4) (by decide) q5 l4, ⟨?_⟩, ?_⟩
          · kernel_rfl
          cbv
          refine ⟨⟨hlo, hap⟩, ?_⟩
          cbv
          refine ⟨(i + 1, rb', acc'), [(500, some 49)], hinv, hms, ⟨?_⟩, ⟨?_⟩⟩
          · kernel_rfl
          · cbv
            and_intros
            all_goals first | exact trivial | exact ⟨rfl⟩ | exact ⟨hwi⟩ | exact ⟨hr.symm⟩ | exact ⟨hra⟩ | exact ⟨by kernel_rfl⟩
        · have h4 : ¬ (numN (((rb.drop 1).drop (numN (rb.take 1))).take 1) : Int) = 255 := of_decide_eq_false h4
          obtain ⟨q4, he, hr⟩ := entP_val (by omega) he3
          have hrb' := hr
          obtain ⟨acc', hacc⟩ : ∃ a, a = acc ++ [e] := ⟨_, rfl⟩
          have hinv : i + 1 ≤ N ∧ rb'.length < 1000000000000 ∧ acc'.length = i + 1 ∧ (∃ tl, entsP leaf (N - (i + 1)) rb' = some tl ∧ acc' ++ tl = ES) := ⟨hlt, by simp only [hrb', List.length_drop]; omega, by rw [hacc]; simp; omega, tl, htl, by rw [hacc, List.append_assoc]; exact hES⟩
          have hap := app_ok acc e
          have hra := row_app hacc.symm
          have hlo : lenOk (acc.length + 1) 56 := by unfold lenOk; omega
          have hz := wrap_small (x := numN (((rb.drop 1).drop (numN (rb.take 1))).take 1)) (by have := num1_lt ((rb.drop 1).drop (numN (rb.take 1))); omega)
          clear hES htl he2 he3
          rw [he] at hap hra
          cbv
          refine ⟨_, _, con93z hz q4 l3, ⟨?_⟩, ?_⟩
          · kernel_rfl
          cbv
          refine ⟨⟨hlo, hap⟩, ?_⟩
          cbv
          refine ⟨(i + 1, rb', acc'), [(500, some 49)], hinv, hms, ⟨?_⟩, ⟨?_⟩⟩
          · kernel_rfl
          · cbv
            and_intros
            all_goals first | exact trivial | exact ⟨rfl⟩ | exact ⟨hwi⟩ | exact ⟨hr.symm⟩ | exact ⟨hra⟩ | exact ⟨by kernel_rfl⟩
    · have h1 : ¬ (i : Int) < (N : Int) := of_decide_eq_false h1
      have hi0 : N - i = 0 := by omega
      rw [hi0] at hx
      obtain ⟨tl, h3, h4⟩ := hx
      simp only [entsP, Option.some.injEq] at h3
      rw [← h3, List.append_nil] at h4
      have e1 := row_le h4
      clear h1 h3 h4 hi0
      cbv
      refine ⟨[(2000, some 500)], [], ?_⟩
      cbv
      and_intros
      all_goals first | exact trivial | exact ⟨rfl⟩ | exact ⟨e1⟩ | exact ⟨by kernel_rfl⟩
end Go.Proofs.Ytmdfjipjkkjpcaa

