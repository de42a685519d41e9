/- Texts put together: Dl, Dm, Dn, Do, Dp, Dq, Cz, Da, Db, Dc, Dd, Dr, Ds. -/
import Derived.Test.YtkogbobplhebaaaGreatDoorQh
import Derived.Test.YtkogbobplhebaaaGreatDoorQi
import Derived.Test.YtkogbobplhebaaaGreatDoorQg
set_option linter.unusedVariables false
set_option linter.unusedSimpArgs false
set_option linter.unusedSectionVars false
/- Events: reading a varint. -/
namespace Go.Proofs.YtkogbobplhebaaaGreatDoor
open Go.SX Go.Ev

theorem conOk0 : ∀ f svs objs r objs', Con f svs objs r objs' → SpecX Tryz.prog f svs objs r objs' := fun _ _ _ _ _ h => h.spec
/-- What is wrong, where no number is read. -/
def vErr : Nat → List UInt8 → Int
  | _, [] => 20
  | i, c :: r => if (i = 9 ∧ ¬ c = 1) ∨ (0 < i ∧ c = 0) then 21 else if c.toNat < 128 then 0 else vErr (i + 1) r
def vRes (b : List UInt8) : Nat × Nat × Int := match vDec 0 b with
  | some (v, r) => (v, b.length - r.length, 0)
  | none => (0, 0, vErr 0 b)
/-- From the i-th byte on, with what was read so far. -/
def vAt (b : List UInt8) (i acc : Nat) : Nat × Nat × Int := match vDec i (b.drop i) with
  | some (v, r) => (acc + 128 ^ i * v, b.length - r.length, 0)
  | none => (0, 0, vErr i (b.drop i))
theorem vAt_0 (b : List UInt8) : vAt b 0 0 = vRes b := by
  unfold vAt vRes
  rw [List.drop_zero]
  cases vDec 0 b with
  | none => rfl
  | some x => obtain ⟨v, r⟩ := x; simp
theorem vAt_end {b : List UInt8} {i acc : Nat} (h : ¬ i < b.length) : vAt b i acc = (0, 0, 20) := by
  unfold vAt; rw [List.drop_of_length_le (by omega)]; rfl
theorem vAt_bad {b : List UInt8} {i acc : Nat} (h : i < b.length) (h2 : (i = 9 ∧ ¬ b.getD i 0 = 1) ∨ (0 < i ∧ b.getD i 0 = 0)) : vAt b i acc = (0, 0, 21) := by
  unfold vAt
  rw [show b.drop i = b.getD i 0 :: b.drop (i + 1) from drop_at h]
  simp only [vDec, vErr, if_pos h2]
theorem vAt_one {b : List UInt8} {i acc : Nat} (h : i < b.length) (h2 : ¬ ((i = 9 ∧ ¬ b.getD i 0 = 1) ∨ (0 < i ∧ b.getD i 0 = 0))) (h3 : (b.getD i 0).toNat < 128) : vAt b i acc = (acc + 128 ^ i * (b.getD i 0).toNat, i + 1, 0) := by
  unfold vAt
  rw [show b.drop i = b.getD i 0 :: b.drop (i + 1) from drop_at h]
  simp only [vDec, if_neg h2, if_pos h3, List.length_drop]
  congr 2; omega
theorem vAt_more {b : List UInt8} {i acc : Nat} (h : i < b.length) (h2 : ¬ ((i = 9 ∧ ¬ b.getD i 0 = 1) ∨ (0 < i ∧ b.getD i 0 = 0))) (h3 : ¬ (b.getD i 0).toNat < 128) : vAt b i acc = vAt b (i + 1) (acc + 128 ^ i * ((b.getD i 0).toNat - 128)) := by
  unfold vAt
  rw [show b.drop i = b.getD i 0 :: b.drop (i + 1) from drop_at h]
  simp only [vDec, vErr, if_neg h2, if_neg h3]
  cases vDec (i + 1) (b.drop (i + 1)) with
  | none => rfl
  | some x =>
    obtain ⟨v, r⟩ := x
    simp only
    have e : 128 ^ i * ((b.getD i 0).toNat - 128 + 128 * v) = 128 ^ i * ((b.getD i 0).toNat - 128) + 128 ^ (i + 1) * v := by
      rw [Nat.mul_add, Nat.pow_succ, Nat.mul_assoc]
    rw [e, Nat.add_assoc]

theorem and127 : ∀ c : Fin 256, (BitVec.ofInt 8 (c.val : Int) &&& BitVec.ofInt 8 127).toNat = c.val % 128 := by decide +kernel
def orV (acc i c : Nat) : Int := IntKind.u64.wrap ((BitVec.ofInt IntKind.u64.bits (acc : Int) ||| BitVec.ofInt IntKind.u64.bits (IntKind.u64.wrap (IntKind.u64.wrap (IntKind.u8.wrap ((BitVec.ofInt IntKind.u8.bits (c : Int) &&& BitVec.ofInt IntKind.u8.bits 127).toNat : Int)) * 2 ^ min (7 * (i : Int)).toNat IntKind.u64.bits))).toNat : Int)
theorem orV_eq {acc i c : Nat} (h1 : acc < 128 ^ i) (h2 : i ≤ 9) (hc : c < 256) (h3 : i = 9 → c = 1) : orV acc i c = ((acc + 128 ^ i * (c % 128) : Nat) : Int) := by
  have ha : (BitVec.ofInt IntKind.u8.bits (c : Int) &&& BitVec.ofInt IntKind.u8.bits 127).toNat = c % 128 := and127 ⟨c, hc⟩
  have hp : 128 ^ i = 2 ^ (7 * i) := by rw [Nat.pow_mul]
  have hy : 128 ^ i * (c % 128) < 9223372036854775809 := by
    rcases Nat.lt_or_ge i 9 with h | h
    · have : 128 ^ i ≤ 128 ^ 8 := Nat.pow_le_pow_right (by decide) (by omega)
      have h' : 128 ^ i * (c % 128) ≤ 128 ^ 8 * 127 := Nat.mul_le_mul this (by omega)
      have : (128 : Nat) ^ 8 * 127 < 9223372036854775809 := by decide
      omega
    · have : i = 9 := by omega
      subst this
      rw [h3 rfl]; decide
  have hacc : acc < 9223372036854775808 := by
    have : 128 ^ i ≤ 128 ^ 9 := Nat.pow_le_pow_right (by decide) h2
    have : (128 : Nat) ^ 9 ≤ 9223372036854775808 := by decide
    omega
  unfold orV
  rw [ha]
  have e1 : IntKind.u8.wrap ((c % 128 : Nat) : Int) = ((c % 128 : Nat) : Int) := by rw [IntKind.wrap_u8]; omega
  have e2 : IntKind.u64.wrap ((c % 128 : Nat) : Int) = ((c % 128 : Nat) : Int) := by rw [IntKind.wrap_u64]; omega
  have e3 : min (7 * (i : Int)).toNat IntKind.u64.bits = 7 * i := by
    have : IntKind.u64.bits = 64 := rfl
    rw [this]; omega
  have e4 : ((c % 128 : Nat) : Int) * 2 ^ (7 * i) = ((128 ^ i * (c % 128) : Nat) : Int) := by
    rw [hp, Int.mul_comm]; push_cast; rfl
  rw [e1, e2, e3, e4]
  generalize hY : 128 ^ i * (c % 128) = y at hy
  have e5 : IntKind.u64.wrap (y : Int) = (y : Int) := by rw [IntKind.wrap_u64]; omega
  rw [e5]
  have e6 : (BitVec.ofInt IntKind.u64.bits (acc : Int) ||| BitVec.ofInt IntKind.u64.bits (y : Int)).toNat = acc ||| y := by
    have b1 : BitVec.ofInt IntKind.u64.bits (acc : Int) = BitVec.ofNat 64 acc := BitVec.ofInt_natCast 64 acc
    have b2 : BitVec.ofInt IntKind.u64.bits (y : Int) = BitVec.ofNat 64 y := BitVec.ofInt_natCast 64 y
    rw [b1, b2]
    show (BitVec.ofNat 64 acc ||| BitVec.ofNat 64 y).toNat = _
    rw [BitVec.toNat_or, BitVec.toNat_ofNat, BitVec.toNat_ofNat, Nat.mod_eq_of_lt (by omega), Nat.mod_eq_of_lt (by omega)]
  have e7 : acc ||| y = acc + y := by
    have := Nat.shiftLeft_add_eq_or_of_lt (i := 7 * i) (b := acc) (by rw [← hp]; exact h1) (c % 128)
    rw [Nat.shiftLeft_eq, Nat.mul_comm, ← hp, hY] at this
    rw [Nat.or_comm, ← this, Nat.add_comm]
  rw [e6, e7, IntKind.wrap_u64]
  omega
theorem vstep {acc i c : Nat} (h1 : acc < 128 ^ i) (h3 : ¬ c < 128) (hc : c < 256) : acc + 128 ^ i * (c - 128) < 128 ^ (i + 1) ∧ acc + 128 ^ i * (c % 128) = acc + 128 ^ i * (c - 128) := by
  have e : c % 128 = c - 128 := by omega
  rw [e]
  refine ⟨?_, rfl⟩
  have : 128 ^ i * (c - 128) ≤ 128 ^ i * 127 := Nat.mul_le_mul_left _ (by omega)
  rw [Nat.pow_succ]
  omega

set_option maxRecDepth 20000 in
set_option maxHeartbeats 4000000 in
theorem con133 {b : List UInt8} (_hb : b.length < 1000000000) : Con 133 [.dat (.bytes fun _ => b)] [] (.tup [.int .u64 (.s fun _ => ((vRes b).1 : Int)), .int .i64 (.s fun _ => ((vRes b).2.1 : Int)), .int .u16 (.s fun _ => (vRes b).2.2)]) [] := by
  obtain ⟨R, hR⟩ : ∃ R, R = vRes b := ⟨_, rfl⟩
  rw [← hR]
  have hi0 : R = vAt b 0 0 := by rw [hR, vAt_0]
  refine ⟨specX_of (spec_of_wp Tryz.func133 rfl (by kernel_rfl) rfl ?_) ⟨_, _, Tryz.func133, rfl, rfl⟩ (by decide)⟩
  intro η G w a hbor hh
  refine seq_vc eok rawOk mixed conOk0 hbor hh fun Z hZ => ?_
  clear hh
  cbv
  refine ⟨fun a w1 hh => ?_⟩
  rw [hZ]; clear hZ Z
  refine scope_fwd 0 rfl ?_
  refine last_vc eok rawOk mixed conOk0 hbor hh fun Z hZ => ?_
  clear hh
  cbv
  refine ⟨Nat × Nat, [], fun x => [(2, .int .u64 (.s fun _ => (x.2 : Int))), (4, .int .u16 (.l 20)), (9, .int .i64 (.s fun _ => (x.1 : Int)))], fun x => [],
    fun x => x.1 ≤ b.length ∧ x.1 ≤ 9 ∧ x.2 < 128 ^ x.1 ∧ R = vAt b x.1 x.2, fun x => b.length - x.1, (0, 0), [], ⟨Nat.zero_le _, Nat.zero_le _, by decide, hi0⟩, ⟨?_⟩, fun x hx => ?_⟩
  · cbv
    and_intros
    all_goals first | exact trivial | exact ⟨rfl⟩ | exact ⟨by kernel_rfl⟩
  · obtain ⟨i, acc⟩ := x
    obtain ⟨hi, hi9, hacc, hx⟩ : i ≤ b.length ∧ i ≤ 9 ∧ acc < 128 ^ i ∧ R = vAt b i acc := hx
    cbv
    refine And.intro ?_ ?_
    · intro g
      have g : (i : Int) < (b.length : Int) := of_decide_eq_true g
      have hlt : i < b.length := by omega
      have o1 : indexObl (i : Int) b.length := ⟨by omega, g⟩
      clear g
      cbv
      refine ⟨⟨o1⟩, ?_⟩
      obtain ⟨c, hcd⟩ : ∃ c, c = (b.getD i 0).toNat := ⟨_, rfl⟩
      have hc : c < 256 := by rw [hcd]; exact (b.getD i 0).toNat_lt
      have e0 : ((i : Int)).toNat = i := by omega
      have cB : (b.getD ((i : Int)).toNat 0).toNat = c := by rw [e0, hcd]
      have c0 : b.getD i 0 = 0 ↔ c = 0 := by rw [hcd]; exact ⟨fun h => by rw [h]; rfl, fun h => UInt8.toNat_inj.1 h⟩
      have c1 : b.getD i 0 = 1 ↔ c = 1 := by rw [hcd]; exact ⟨fun h => by rw [h]; rfl, fun h => UInt8.toNat_inj.1 h⟩
      have bad : (i = 9 ∧ ¬ c = 1) ∨ (0 < i ∧ c = 0) → R = (0, 0, 21) := fun h => hx.trans (vAt_bad hlt (by rw [c0, c1]; exact h))
      have one : ¬ ((i = 9 ∧ ¬ c = 1) ∨ (0 < i ∧ c = 0)) → c < 128 → R = (acc + 128 ^ i * c, i + 1, 0) := fun h h2 => by rw [hx.trans (vAt_one hlt (by rw [c0, c1]; exact h) (by rw [← hcd]; exact h2)), ← hcd]
      have more : ¬ ((i = 9 ∧ ¬ c = 1) ∨ (0 < i ∧ c = 0)) → ¬ c < 128 → R = vAt b (i + 1) (acc + 128 ^ i * (c - 128)) := fun h h2 => by rw [hx.trans (vAt_more hlt (by rw [c0, c1]; exact h) (by rw [← hcd]; exact h2)), ← hcd]
      have b7 : bound64 (7 * (i : Int)) := by unfold bound64; omega
      have n7 : 0 ≤ 7 * (i : Int) := by omega
      have bi : bound64 ((i : Int) + 1) := by unfold bound64; omega
      have ei : (i : Int) + 1 = ((i + 1 : Nat) : Int) := by omega
      have hms : b.length - (i + 1) < b.length - i := by omega
      have stepE : ¬ ((i = 9 ∧ ¬ c = 1) ∨ (0 < i ∧ c = 0)) → orV acc i (b.getD ((i : Int)).toNat 0).toNat = ((acc + 128 ^ i * (c % 128) : Nat) : Int) := fun h => by rw [cB]; exact orV_eq hacc hi9 hc (by omega)
      iterate 8 (all_goals try (refine And.intro ?_ ?_ <;> (intro g; (try (replace g := of_decide_eq_true g)); (try (replace g := of_decide_eq_false g)); (try (replace g := of_decide_eq_false (bnot_t g))); (try (replace g := of_decide_eq_true (bnot_f g))); (try (replace g : c = 0 := by (have g0 : ((c : Nat) : Int) = 0 := by rw [← cB]; exact g); omega)); (try (replace g : c = 1 := by (have g0 : ((c : Nat) : Int) = 1 := by rw [← cB]; exact g); omega)); (try (replace g : ¬ c = 0 := by (have g0 : ¬ ((c : Nat) : Int) = 0 := by rw [← cB]; exact g); omega)); (try (replace g : ¬ c = 1 := by (have g0 : ¬ ((c : Nat) : Int) = 1 := by rw [← cB]; exact g); omega)); (try (replace g : i = 9 := by (have g0 : ((i : Nat) : Int) = 9 := g); omega)); (try (replace g : ¬ i = 9 := by (have g0 : ¬ ((i : Nat) : Int) = 9 := g); omega)); (try (replace g : (0 < i) := by (have g0 : ((0 : Int) < ((i : Nat) : Int)) := g); omega)); (try (replace g : ¬ (0 < i) := by (have g0 : ¬ ((0 : Int) < ((i : Nat) : Int)) := g); omega)); (try (simp only [IE.den_l, IE.den_s] at g)); cbv)))
      all_goals try (exfalso; omega)
      all_goals first
        | (have hb : (i = 9 ∧ ¬ c = 1) ∨ (0 < i ∧ c = 0) := by first | exact .inl ⟨by omega, by omega⟩ | exact .inr ⟨by omega, by omega⟩
           have hq := bad hb
           subst hq
           refine ⟨fun a w1 hh => ?_⟩
           rw [hZ]; clear hZ Z
           refine post0 (E := E) eok hbor hh ?_
           clear hh
           cbv
           refine ⟨[], [], ?_⟩
           cbv
           and_intros
           all_goals first | exact trivial | exact ⟨rfl⟩ | exact ⟨by kernel_rfl⟩)
        | (have hne : ¬ ((i = 9 ∧ ¬ c = 1) ∨ (0 < i ∧ c = 0)) := by omega
           have stepE := stepE hne
           refine ⟨⟨b7⟩, ⟨n7⟩, ?_⟩
           refine And.intro ?_ ?_
           · intro g1
             have g1 : c < 128 := by
               have g2 : ((c : Nat) : Int) < 128 := by rw [← cB]; exact of_decide_eq_true g1
               omega
             have hq := one hne g1
             rw [Nat.mod_eq_of_lt g1] at stepE
             subst hq
             cbv
             refine ⟨⟨bi⟩, ⟨fun a w1 hh => ?_⟩⟩
             rw [hZ]; clear hZ Z
             refine post0 (E := E) eok hbor hh ?_
             clear hh
             cbv
             refine ⟨[], [], ?_⟩
             cbv
             and_intros
             all_goals first | exact trivial | exact ⟨stepE⟩ | exact ⟨ei⟩ | exact ⟨rfl⟩ | exact ⟨by kernel_rfl⟩
           · intro g1
             have g1 : ¬ c < 128 := by
               have g2 : ¬ ((c : Nat) : Int) < 128 := by rw [← cB]; exact of_decide_eq_false g1
               omega
             obtain ⟨v1, v2⟩ := vstep hacc g1 hc
             rw [v2] at stepE
             have hq := more hne g1
             have hi8 : i + 1 ≤ 9 := by
               rcases Nat.lt_or_ge i 9 with h | h
               · omega
               · have : i = 9 := by omega
                 have : c = 1 := by omega
                 omega
             cbv
             refine ⟨⟨bi⟩, (i + 1, acc + 128 ^ i * (c - 128)), [], ⟨hlt, hi8, v1, hq⟩, hms, ⟨?_⟩, ⟨?_⟩⟩
             · kernel_rfl
             · cbv
               and_intros
               all_goals first | exact trivial | exact ⟨stepE⟩ | exact ⟨ei⟩ | exact ⟨rfl⟩ | exact ⟨by kernel_rfl⟩)
    · intro g
      have g : ¬ (i : Int) < (b.length : Int) := of_decide_eq_false g
      have hx := hx.trans (vAt_end (by omega))
      subst hx
      clear g
      cbv
      refine ⟨fun a w1 hh => ?_⟩
      rw [hZ]; clear hZ Z
      refine post0 (E := E) eok hbor hh ?_
      clear hh
      cbv
      refine ⟨[], [], ?_⟩
      cbv
      and_intros
      all_goals first | exact trivial | exact ⟨rfl⟩ | exact ⟨by kernel_rfl⟩

end Go.Proofs.YtkogbobplhebaaaGreatDoor

/- Events: the reader's numbers and texts. -/
namespace Go.Proofs.YtkogbobplhebaaaGreatDoor
open Go.SX Go.Ev

def varS (s : RS) : RS × Nat := if s.er = 0 then if (vRes (s.b.drop s.at_)).2.2 = 0 then (⟨s.b, s.at_ + (vRes (s.b.drop s.at_)).2.1, s.er, s.ea⟩, (vRes (s.b.drop s.at_)).1) else (failS s (vRes (s.b.drop s.at_)).2.2, 0) else (s, 0)
theorem vRes_le (b : List UInt8) : (vRes b).2.1 ≤ b.length := by
  unfold vRes; split
  · simp only; omega
  · simp

set_option maxRecDepth 20000 in
set_option maxHeartbeats 4000000 in
/-- Reader.Varint. -/
theorem con92 {s : RS} (h : s.Ok) : Con 92 [.loc 1000 0] [(1000, rdO s)] (.int .u64 (.s fun _ => ((varS s).2 : Int))) [(1000, rdO (varS s).1)] := by
  obtain ⟨R, hR⟩ : ∃ R, R = varS s := ⟨_, rfl⟩
  rw [← hR]
  obtain ⟨b, at_, er, ea⟩ := s
  obtain ⟨h1, h2⟩ := h
  have h1 : at_ ≤ b.length := h1
  have h2 : b.length < 1000000000 := h2
  obtain ⟨V, hV⟩ : ∃ V, V = vRes (b.drop at_) := ⟨_, rfl⟩
  have hVl : V.2.1 ≤ b.length - at_ := by rw [hV]; have := vRes_le (b.drop at_); rwa [List.length_drop] at this
  have eX : (b.drop ((at_ : Int)).toNat).take (((b.length : Int)).toNat - ((at_ : Int)).toNat) = b.drop at_ := by
    have e1 : ((at_ : Int)).toNat = at_ := by omega
    have e2 : ((b.length : Int)).toNat = b.length := by omega
    rw [e1, e2, ← List.length_drop]; exact List.take_length
  have c133 : Con 133 [.dat (.bytes fun _ => (b.drop ((at_ : Int)).toNat).take (((b.length : Int)).toNat - ((at_ : Int)).toNat))] [] (.tup [.int .u64 (.s fun _ => (V.1 : Int)), .int .i64 (.s fun _ => (V.2.1 : Int)), .int .u16 (.s fun _ => V.2.2)]) [] := by
    rw [eX, hV]; exact con133 (by rw [List.length_drop]; omega)
  obtain ⟨s1, hs1⟩ : ∃ q, q = failS ⟨b, at_, er, ea⟩ V.2.2 := ⟨_, rfl⟩
  have f1 := con93 (s := ⟨b, at_, er, ea⟩) (e := V.2.2)
  rw [← hs1] at f1
  have hR : R = if er = 0 then if V.2.2 = 0 then (⟨b, at_ + V.2.1, er, ea⟩, V.1) else (s1, 0) else (⟨b, at_, er, ea⟩, 0) := by rw [hR, hs1, hV]; rfl
  obtain ⟨v, n, e⟩ := V
  have hVl : n ≤ b.length - at_ := hVl
  have c133 : Con 133 [.dat (.bytes fun _ => (b.drop ((at_ : Int)).toNat).take (((b.length : Int)).toNat - ((at_ : Int)).toNat))] [] (.tup [.int .u64 (.s fun _ => (v : Int)), .int .i64 (.s fun _ => (n : Int)), .int .u16 (.s fun _ => e)]) [] := c133
  have f1 : Con 93 [.loc 1000 0, .int .u16 (.s fun _ => e)] _ _ _ := f1
  have hR : R = if er = 0 then if e = 0 then (⟨b, at_ + n, er, ea⟩, v) else (s1, 0) else (⟨b, at_, er, ea⟩, 0) := hR
  obtain ⟨R1, R2⟩ := R
  have k0 : ¬ er = 0 → R1 = ⟨b, at_, er, ea⟩ ∧ R2 = 0 := fun h => by rw [if_neg h] at hR; exact ⟨congrArg Prod.fst hR, congrArg Prod.snd hR⟩
  have k1 : er = 0 → ¬ e = 0 → R1 = s1 ∧ R2 = 0 := fun h h' => by rw [if_pos h, if_neg h'] at hR; exact ⟨congrArg Prod.fst hR, congrArg Prod.snd hR⟩
  have k2 : er = 0 → e = 0 → R1 = ⟨b, at_ + n, er, ea⟩ ∧ R2 = v := fun h h' => by rw [if_pos h, if_pos h'] at hR; exact ⟨congrArg Prod.fst hR, congrArg Prod.snd hR⟩
  have bo : bound64 ((at_ : Int) + n) := by unfold bound64; omega
  have ei : (at_ : Int) + n = ((at_ + n : Nat) : Int) := by omega
  have so : sliceObl (at_ : Int) (b.length : Int) b.length := by unfold sliceObl; omega
  clear hR hs1 hV eX
  refine con_of Tryz.func92 rfl rfl 39 _ rfl rfl rfl rfl ?_
  cbv
  iterate 6 (all_goals try (refine And.intro ?_ ?_ <;> (intro g; (try (replace g := of_decide_eq_true g)); (try (replace g := of_decide_eq_false g)); (try (replace g := of_decide_eq_false (bnot_t g))); (try (replace g := of_decide_eq_true (bnot_f g))); (try (simp only [IE.den_l, IE.den_s] at g)); cbv)))
  · obtain ⟨rfl, rfl⟩ := k0 g
    refine ⟨[], [], ?_⟩
    cbv
    and_intros
    all_goals first | exact trivial | exact ⟨rfl⟩ | exact ⟨by kernel_rfl⟩
  rename_i g0
  have g0 : er = 0 := by assumption
  refine ⟨⟨so⟩, ?_⟩
  refine ⟨_, _, c133, ⟨by kernel_rfl⟩, ?_⟩
  cbv
  refine ⟨⟨by kernel_rfl⟩, ?_⟩
  iterate 6 (all_goals try (refine And.intro ?_ ?_ <;> (intro g; (try (replace g := of_decide_eq_true g)); (try (replace g := of_decide_eq_false g)); (try (replace g := of_decide_eq_false (bnot_t g))); (try (replace g := of_decide_eq_true (bnot_f g))); (try (simp only [IE.den_l, IE.den_s] at g)); cbv)))
  · obtain ⟨rfl, rfl⟩ := k1 g0 g
    refine ⟨_, _, f1, ⟨by kernel_rfl⟩, ?_⟩
    cbv
    refine ⟨[], [], ?_⟩
    cbv
    and_intros
    all_goals first | exact trivial | exact ⟨rfl⟩ | exact ⟨by kernel_rfl⟩
  · obtain ⟨rfl, rfl⟩ := k2 g0 g
    refine ⟨⟨bo⟩, ?_⟩
    refine ⟨[], [], ?_⟩
    cbv
    and_intros
    all_goals first | exact trivial | exact ⟨ei⟩ | exact ⟨rfl⟩ | exact ⟨by kernel_rfl⟩

end Go.Proofs.YtkogbobplhebaaaGreatDoor

/- Events: the reader's texts, raw bytes, signed numbers, bytes. -/
namespace Go.Proofs.YtkogbobplhebaaaGreatDoor
open Go.SX Go.Ev

theorem failS_ok {s : RS} {e : Int} (h : s.Ok) : (failS s e).Ok ∧ (failS s e).b = s.b ∧ (failS s e).at_ = s.at_ := by
  unfold failS; split
  · exact ⟨⟨h.le, h.sm⟩, rfl, rfl⟩
  · exact ⟨h, rfl, rfl⟩
theorem varS_ok {s : RS} (h : s.Ok) : (varS s).1.Ok ∧ (varS s).1.b = s.b ∧ s.at_ ≤ (varS s).1.at_ := by
  have hv := vRes_le (s.b.drop s.at_)
  rw [List.length_drop] at hv
  have h1 := h.le
  have h2 := h.sm
  unfold varS
  split
  · split
    · exact ⟨⟨by show s.at_ + _ ≤ s.b.length; omega, h2⟩, rfl, by show s.at_ ≤ s.at_ + _; omega⟩
    · obtain ⟨a, b, c⟩ := failS_ok (e := (vRes (s.b.drop s.at_)).2.2) h
      exact ⟨a, b, by rw [c]; exact Nat.le_refl _⟩
  · exact ⟨h, rfl, Nat.le_refl _⟩
theorem takeS_ok {s : RS} {n : Int} (h : s.Ok) : (takeS s n).1.Ok ∧ (takeS s n).1.b = s.b ∧ s.at_ ≤ (takeS s n).1.at_ ∧ (takeS s n).2.length < 1000000000 := by
  have h1 := h.le
  have h2 := h.sm
  unfold takeS
  split
  · split
    · obtain ⟨a, b, c⟩ := failS_ok (e := 1) h
      exact ⟨a, b, by rw [c]; exact Nat.le_refl _, by simp⟩
    · split
      · obtain ⟨a, b, c⟩ := failS_ok (e := 20) h
        exact ⟨a, b, by rw [c]; exact Nat.le_refl _, by simp⟩
      · refine ⟨⟨by show s.at_ + n.toNat ≤ s.b.length; omega, h2⟩, rfl, by show s.at_ ≤ s.at_ + _; omega, ?_⟩
        simp only [List.length_take, List.length_drop]; omega
  · exact ⟨h, rfl, Nat.le_refl _, by simp⟩
def textS (s : RS) : RS × List UInt8 := if (((varS s).1.b.length - (varS s).1.at_ : Nat) : Int) < ((varS s).2 : Int) then (failS ⟨(varS s).1.b, s.at_, (varS s).1.er, (varS s).1.ea⟩ 20, []) else takeS (varS s).1 (varS s).2

set_option maxRecDepth 20000 in
set_option maxHeartbeats 4000000 in
/-- Reader.Text. -/
theorem con37 {s : RS} (h : s.Ok) : Con 37 [.loc 1000 0] [(1000, rdO s)] (.str fun _ => (textS s).2) [(1000, rdO (textS s).1)] := by
  have hv := varS_ok h
  have c92 := con92 h
  obtain ⟨R, hR⟩ : ∃ R, R = textS s := ⟨_, rfl⟩
  rw [← hR]
  unfold textS at hR
  obtain ⟨V, hV⟩ : ∃ V, V = varS s := ⟨_, rfl⟩
  rw [← hV] at hv c92 hR
  obtain ⟨⟨b1, at1, er1, ea1⟩, n⟩ := V
  obtain ⟨hok, hb, hat⟩ := hv
  have hok : RS.Ok ⟨b1, at1, er1, ea1⟩ := hok
  have h1 : at1 ≤ b1.length := hok.le
  have h2 : b1.length < 1000000000 := hok.sm
  obtain ⟨b, at_, er, ea⟩ := s
  have hb : b1 = b := hb
  subst hb
  have hR : R = if ((b1.length - at1 : Nat) : Int) < (n : Int) then (failS ⟨b1, at_, er1, ea1⟩ 20, []) else takeS ⟨b1, at1, er1, ea1⟩ n := hR
  have f1 := con93l (s := ⟨b1, at_, er1, ea1⟩) (e := 20)
  obtain ⟨s1, hs1⟩ : ∃ q, q = failS ⟨b1, at_, er1, ea1⟩ 20 := ⟨_, rfl⟩
  rw [← hs1] at f1 hR
  have bo : bound64 ((b1.length : Int) - at1) := by unfold bound64; omega
  have k0 : ((b1.length - at1 : Nat) : Int) < (n : Int) → R = (s1, []) := fun h => by rw [if_pos h] at hR; exact hR
  have k1 : ¬ ((b1.length - at1 : Nat) : Int) < (n : Int) → R = takeS ⟨b1, at1, er1, ea1⟩ n := fun h => by rw [if_neg h] at hR; exact hR
  have w1 : IntKind.u64.wrap ((b1.length : Int) - at1) = ((b1.length - at1 : Nat) : Int) := by rw [IntKind.wrap_u64]; omega
  have c91 : ¬ ((b1.length - at1 : Nat) : Int) < (n : Int) → Con 91 [.loc 1000 0, .int .i64 (.s fun _ => IntKind.i64.wrap (n : Int))] [(1000, rdO ⟨b1, at1, er1, ea1⟩)] (.dat (.bytes fun _ => R.2)) [(1000, rdO R.1)] := fun h => by
    have e : IntKind.i64.wrap (n : Int) = (n : Int) := by rw [IntKind.wrap_i64]; omega
    rw [k1 h, e]
    exact con91 hok (by omega)
  have T : ∀ p : Prop, (IntKind.u64.wrap ((b1.length : Int) - at1) < (n : Int) → p) → (((b1.length - at1 : Nat) : Int) < (n : Int) → p) := fun p h h' => h (by rw [w1]; exact h')
  clear hR hs1 hV
  refine con_of Tryz.func37 rfl rfl 35 _ rfl rfl rfl rfl ?_
  cbv
  refine ⟨_, _, c92, ⟨by kernel_rfl⟩, ?_⟩
  cbv
  refine ⟨⟨bo⟩, ⟨by kernel_rfl⟩, ?_⟩
  refine And.intro ?_ ?_
  · intro g
    have g : IntKind.u64.wrap ((b1.length : Int) - at1) < (n : Int) := of_decide_eq_true g
    rw [w1] at g
    have hq := k0 g
    subst hq
    cbv
    refine ⟨_, _, f1, ⟨by kernel_rfl⟩, ?_⟩
    cbv
    refine ⟨[], [], ?_⟩
    cbv
    and_intros
    all_goals first | exact trivial | exact ⟨rfl⟩ | exact ⟨by kernel_rfl⟩
  · intro g
    have g : ¬ IntKind.u64.wrap ((b1.length : Int) - at1) < (n : Int) := of_decide_eq_false g
    rw [w1] at g
    have c91 := c91 g
    obtain ⟨R1, R2⟩ := R
    cbv
    refine ⟨_, _, c91, ⟨by kernel_rfl⟩, ?_⟩
    cbv
    refine ⟨[], [], ?_⟩
    cbv
    and_intros
    all_goals first | exact trivial | exact ⟨rfl⟩ | exact ⟨by kernel_rfl⟩

set_option maxRecDepth 20000 in
set_option maxHeartbeats 4000000 in
/-- Reader.Raw. -/
theorem con40 {s : RS} {n : Int} (h : s.Ok) (hn : n < 9000000000000000000) : Con 40 [.loc 1000 0, .int .i64 (.s fun _ => n)] [(1000, rdO s)] (.dat (.bytes fun _ => (takeS s n).2)) [(1000, rdO (takeS s n).1)] := by
  have c91 := con91 h hn
  have hl := (takeS_ok (n := n) h).2.2.2
  obtain ⟨R, hR⟩ : ∃ R, R = takeS s n := ⟨_, rfl⟩
  rw [← hR] at c91 hl ⊢
  clear hR
  obtain ⟨R1, R2⟩ := R
  have c89 := con89 (bs := R2) (by have : R2.length < 1000000000 := hl; omega)
  have c88 := con88 (bs := R2)
  obtain ⟨b, at_, er, ea⟩ := s
  refine con_of Tryz.func40 rfl rfl 10 _ rfl rfl rfl rfl ?_
  cbv
  refine ⟨_, _, c91, ⟨by kernel_rfl⟩, ?_⟩
  cbv
  refine ⟨_, _, c89, ⟨by kernel_rfl⟩, ?_⟩
  cbv
  refine ⟨_, _, c88, ⟨by kernel_rfl⟩, ?_⟩
  cbv
  refine ⟨[], [3900], ?_⟩
  cbv
  and_intros
  all_goals first | exact trivial | exact ⟨rfl⟩ | exact ⟨by kernel_rfl⟩

def sgV (v : Nat) : Int := IntKind.i64.wrap ((BitVec.ofInt IntKind.i64.bits (IntKind.i64.wrap ((v : Int).fdiv (2 ^ min (1 : Int).toNat IntKind.u64.bits))) ^^^ BitVec.ofInt IntKind.i64.bits (IntKind.i64.wrap (0 - IntKind.i64.wrap (IntKind.u64.wrap ((BitVec.ofInt IntKind.u64.bits (v : Int) &&& BitVec.ofInt IntKind.u64.bits 1).toNat : Int))))).toNat : Int)
theorem sgV_eq {v : Nat} (h : v < 18446744073709551616) : sgV v = unzig v := by
  unfold sgV
  have e1 : (v : Int).fdiv (2 ^ min (1 : Int).toNat IntKind.u64.bits) = ((v / 2 : Nat) : Int) := by
    have e : (2 : Int) ^ min (1 : Int).toNat IntKind.u64.bits = 2 := by decide
    rw [e, Int.fdiv_eq_ediv_of_nonneg _ (by decide)]; omega
  have e2 : IntKind.i64.wrap ((v / 2 : Nat) : Int) = ((v / 2 : Nat) : Int) := by rw [IntKind.wrap_i64]; omega
  have e3 : (BitVec.ofInt IntKind.u64.bits (v : Int) &&& BitVec.ofInt IntKind.u64.bits 1).toNat = v % 2 := by
    have b1 : BitVec.ofInt IntKind.u64.bits (v : Int) = BitVec.ofNat 64 v := BitVec.ofInt_natCast 64 v
    have b2 : BitVec.ofInt IntKind.u64.bits 1 = BitVec.ofNat 64 1 := rfl
    rw [b1, b2]
    show (BitVec.ofNat 64 v &&& BitVec.ofNat 64 1).toNat = _
    rw [BitVec.toNat_and, BitVec.toNat_ofNat, BitVec.toNat_ofNat, Nat.mod_eq_of_lt h]
    exact Nat.and_one_is_mod v
  rw [e1, e2, e3]
  have e4 : BitVec.ofInt IntKind.i64.bits ((v / 2 : Nat) : Int) = BitVec.ofNat 64 (v / 2) := BitVec.ofInt_natCast 64 (v / 2)
  rw [e4]
  have hx : (BitVec.ofNat 64 (v / 2)).toNat = v / 2 := by rw [BitVec.toNat_ofNat]; exact Nat.mod_eq_of_lt (by omega)
  unfold unzig
  by_cases hv : v % 2 = 0
  · rw [if_pos hv, hv]
    have z : BitVec.ofInt 64 (IntKind.i64.wrap (0 - IntKind.i64.wrap (IntKind.u64.wrap ((0 : Nat) : Int)))) = 0#64 := by decide
    show IntKind.i64.wrap (((BitVec.ofNat 64 (v / 2) ^^^ BitVec.ofInt 64 (IntKind.i64.wrap (0 - IntKind.i64.wrap (IntKind.u64.wrap ((0 : Nat) : Int)))) : BitVec 64).toNat : Nat) : Int) = _
    rw [z, BitVec.xor_zero, hx, IntKind.wrap_i64]; omega
  · have hv1 : v % 2 = 1 := by omega
    rw [if_neg hv, hv1]
    have z : BitVec.ofInt 64 (IntKind.i64.wrap (0 - IntKind.i64.wrap (IntKind.u64.wrap ((1 : Nat) : Int)))) = BitVec.allOnes 64 := by decide
    show IntKind.i64.wrap (((BitVec.ofNat 64 (v / 2) ^^^ BitVec.ofInt 64 (IntKind.i64.wrap (0 - IntKind.i64.wrap (IntKind.u64.wrap ((1 : Nat) : Int)))) : BitVec 64).toNat : Nat) : Int) = _
    rw [z, BitVec.xor_allOnes, BitVec.toNat_not, hx, IntKind.wrap_i64]; omega
set_option maxRecDepth 20000 in
set_option maxHeartbeats 4000000 in
/-- Reader.Signed. -/
theorem con171 {s : RS} (h : s.Ok) (hv : (varS s).2 < 18446744073709551616) : Con 171 [.loc 1000 0] [(1000, rdO s)] (.int .i64 (.s fun _ => unzig (varS s).2)) [(1000, rdO (varS s).1)] := by
  have c92 := con92 h
  obtain ⟨R, hR⟩ : ∃ R, R = varS s := ⟨_, rfl⟩
  rw [← hR] at c92 hv ⊢
  clear hR
  obtain ⟨R1, R2⟩ := R
  have e1 : sgV R2 = unzig R2 := sgV_eq hv
  obtain ⟨b, at_, er, ea⟩ := s
  refine con_of Tryz.func171 rfl rfl 14 _ rfl rfl rfl rfl ?_
  cbv
  refine ⟨_, _, c92, ⟨by kernel_rfl⟩, ?_⟩
  cbv
  refine ⟨⟨by decide⟩, ?_⟩
  refine ⟨[], [], ?_⟩
  cbv
  and_intros
  all_goals first | exact trivial | exact ⟨e1⟩ | exact ⟨rfl⟩ | exact ⟨by kernel_rfl⟩

end Go.Proofs.YtkogbobplhebaaaGreatDoor

/- Events: the document's reader. -/
namespace Go.Proofs.YtkogbobplhebaaaGreatDoor
open Go.SX Go.Ev

theorem or8 : ∀ c : Fin 256, IntKind.u64.wrap ((BitVec.ofInt IntKind.u64.bits (IntKind.u64.wrap ((0 : Int) * 2 ^ min (8 : Int).toNat IntKind.u64.bits)) ||| BitVec.ofInt IntKind.u64.bits (IntKind.u64.wrap (c.val : Int))).toNat : Int) = (c.val : Int) := by decide +kernel
set_option maxRecDepth 20000 in
set_option maxHeartbeats 4000000 in
/-- So many bytes, as a number: one. -/
theorem con90 {s : RS} (h : s.Ok) : Con 90 [.int .i64 (.l 1), .fn 4187 [.loc 1000 0]] [(1000, rdO s)] (.int .u64 (.s fun _ => (((takeS s 1).2.headD 0).toNat : Int))) [(1000, rdO (takeS s 1).1)] := by
  have c91 : Con 91 [.loc 1000 0, .int .i64 (.l 1)] [(1000, rdO s)] (.dat (.bytes fun _ => (takeS s 1).2)) [(1000, rdO (takeS s 1).1)] := Con.lit (a := [.loc 1000 0]) (con91 h (by decide))
  have hl : (takeS s 1).2.length ≤ 1 := by
    unfold takeS; split
    · split
      · simp
      · split
        · simp
        · simp only [List.length_take]; omega
    · simp
  obtain ⟨R, hR⟩ : ∃ R, R = takeS s 1 := ⟨_, rfl⟩
  rw [← hR] at c91 hl ⊢
  clear hR
  obtain ⟨R1, L⟩ := R
  have hl : L.length ≤ 1 := hl
  show Con 90 _ _ (.int .u64 (.s fun _ => ((L.headD 0).toNat : Int))) [(1000, rdO R1)]
  have c91 : Con 91 [.loc 1000 0, .int .i64 (.l 1)] [(1000, rdO s)] (.dat (.bytes fun _ => L)) [(1000, rdO R1)] := c91
  obtain ⟨b1, at1, er1, ea1⟩ := R1
  obtain ⟨b, at_, er, ea⟩ := s
  refine con_of Tryz.func90 rfl rfl 22 _ rfl rfl rfl rfl ?_
  cbv
  refine ⟨_, _, c91, ⟨by kernel_rfl⟩, ?_⟩
  cbv
  refine ⟨Nat × Int, [], fun x => [(4, .int .u64 (.s fun _ => x.2)), (11, .int .i64 (.s fun _ => (x.1 : Int)))], fun x => [(1000, rdO ⟨b1, at1, er1, ea1⟩)],
    fun x => x.1 ≤ L.length ∧ x.2 = (((L.take x.1).headD 0).toNat : Int), fun x => L.length - x.1, (0, 0), [], ⟨Nat.zero_le _, rfl⟩, ⟨?_⟩, fun x hx => ?_⟩
  · cbv
    and_intros
    all_goals first | exact trivial | exact ⟨rfl⟩ | exact ⟨by kernel_rfl⟩
  · obtain ⟨i, acc⟩ := x
    obtain ⟨hi, hx⟩ : i ≤ L.length ∧ acc = (((L.take i).headD 0).toNat : Int) := hx
    cbv
    refine And.intro ?_ ?_
    · intro g
      have g : (i : Int) < (L.length : Int) := of_decide_eq_true g
      have hlt : i < L.length := by omega
      have i0 : i = 0 := by omega
      subst i0
      obtain rfl : acc = 0 := by rw [hx]; rfl
      obtain ⟨c, rfl⟩ : ∃ c, L = [c] := by
        match L, hl, hlt with
        | [c], _, _ => exact ⟨c, rfl⟩
        | _ :: _ :: _, h, _ => simp at h
      have o1 : indexObl ((0 : Nat) : Int) [c].length := ⟨by decide, by simp⟩
      have bi : bound64 (((0 : Nat) : Int) + 1) := by unfold bound64; omega
      have h8 : (0 : Int) ≤ 8 := by decide
      have ec := or8 ⟨c.toNat, c.toNat_lt⟩
      have ei : ((0 : Nat) : Int) + 1 = ((1 : Nat) : Int) := by decide
      have hms : [c].length - 1 < [c].length - 0 := by simp
      have hnx : 1 ≤ [c].length ∧ (c.toNat : Int) = ((([c].take 1).headD 0).toNat : Int) := ⟨by simp, rfl⟩
      clear g hx
      cbv
      refine ⟨⟨o1⟩, ⟨h8⟩, ⟨bi⟩, (1, (c.toNat : Int)), [], hnx, hms, ⟨?_⟩, ⟨?_⟩⟩
      · kernel_rfl
      · cbv
        and_intros
        all_goals first | exact trivial | exact ⟨ec⟩ | exact ⟨ei⟩ | exact ⟨rfl⟩ | exact ⟨by kernel_rfl⟩
    · intro g
      have g : ¬ (i : Int) < (L.length : Int) := of_decide_eq_false g
      have e1 : acc = ((L.headD 0).toNat : Int) := by rw [hx, List.take_of_length_le (by omega)]
      clear g hx
      cbv
      refine ⟨[], [], ?_⟩
      cbv
      and_intros
      all_goals first | exact trivial | exact ⟨e1⟩ | exact ⟨rfl⟩ | exact ⟨by kernel_rfl⟩

def u8S (s : RS) : RS × UInt8 := ((takeS s 1).1, (takeS s 1).2.headD 0)
set_option maxRecDepth 20000 in
set_option maxHeartbeats 4000000 in
/-- Reader.U8. -/
theorem con36 {s : RS} (h : s.Ok) : Con 36 [.loc 1000 0] [(1000, rdO s)] (.int .u8 (.s fun _ => ((u8S s).2.toNat : Int))) [(1000, rdO (u8S s).1)] := by
  have c90 := con90 h
  show Con 36 _ _ (.int .u8 (.s fun _ => (((takeS s 1).2.headD 0).toNat : Int))) [(1000, rdO (takeS s 1).1)]
  obtain ⟨R, hR⟩ : ∃ R, R = takeS s 1 := ⟨_, rfl⟩
  rw [← hR] at c90 ⊢
  clear hR
  obtain ⟨R1, L⟩ := R
  obtain ⟨c, hc⟩ : ∃ c, c = L.headD 0 := ⟨_, rfl⟩
  have c90 : Con 90 [.int .i64 (.l 1), .fn 4187 [.loc 1000 0]] [(1000, rdO s)] (.int .u64 (.s fun _ => (c.toNat : Int))) [(1000, rdO R1)] := by rw [hc]; exact c90
  show Con 36 _ _ (.int .u8 (.s fun _ => ((L.headD 0).toNat : Int))) [(1000, rdO R1)]
  rw [← hc]
  have e1 : IntKind.u8.wrap (c.toNat : Int) = (c.toNat : Int) := by have := c.toNat_lt; rw [IntKind.wrap_u8]; omega
  clear hc
  obtain ⟨b1, at1, er1, ea1⟩ := R1
  obtain ⟨b, at_, er, ea⟩ := s
  refine con_of Tryz.func36 rfl rfl 7 _ rfl rfl rfl rfl ?_
  cbv
  refine ⟨_, _, c90, ⟨by kernel_rfl⟩, ?_⟩
  cbv
  refine ⟨[], [], ?_⟩
  cbv
  and_intros
  all_goals first | exact trivial | exact ⟨e1⟩ | exact ⟨rfl⟩ | exact ⟨by kernel_rfl⟩

/-- A document's reader: the bytes' reader, and whether it gave up. -/
structure DS where
  s : RS
  bad : Bool
abbrev drO (d : DS) : Objs := [(1000, .cells 224 [.loc 1001 0, .bool (.s fun _ => d.bad)]), (1001, rdO d.s)]
def DS.wrong (d : DS) : Bool := d.bad || !decide (d.s.er = 0)
set_option maxRecDepth 20000 in
set_option maxHeartbeats 4000000 in
/-- reader.wrong. -/
theorem con170 {d : DS} : Con 170 [.loc 1000 0] (drO d) (.bool (.s fun _ => d.wrong)) (drO d) := by
  have c38 := con38 (s := d.s)
  obtain ⟨r, hr⟩ : ∃ r, r = d.wrong := ⟨_, rfl⟩
  rw [← hr]
  obtain ⟨⟨b, at_, er, ea⟩, bad⟩ := d
  have k1 : bad = true → true = r := fun h => by rw [hr]; unfold DS.wrong; simp [h]
  have k2 : bad = false → (!decide (er = 0)) = r := fun h => by rw [hr]; unfold DS.wrong; simp [h]
  clear hr
  refine con_of Tryz.func170 rfl rfl 21 _ rfl rfl rfl rfl ?_
  cbv
  refine ⟨_, _, c38, ⟨by kernel_rfl⟩, ?_⟩
  cbv
  refine And.intro ?_ ?_
  · intro g
    have g : bad = true := g
    have e1 := k1 g
    cbv
    refine ⟨[], [], ?_⟩
    cbv
    and_intros
    all_goals first | exact trivial | exact ⟨e1⟩ | exact ⟨rfl⟩ | exact ⟨by kernel_rfl⟩
  · intro g
    have g : bad = false := g
    have e1 := k2 g
    cbv
    refine ⟨[], [], ?_⟩
    cbv
    and_intros
    all_goals first | exact trivial | exact ⟨e1⟩ | exact ⟨rfl⟩ | exact ⟨by kernel_rfl⟩

end Go.Proofs.YtkogbobplhebaaaGreatDoor

/- Events: reader.value. -/
namespace Go.Proofs.YtkogbobplhebaaaGreatDoor
open Go.SX Go.Ev

/-- A step of a list's reading. -/
def loopF {α : Type} (f : DS → α × DS) : Nat → DS → List α → List α × DS
  | 0, d, acc => (acc, d)
  | n + 1, d, acc => if d.wrong then (acc, d) else loopF f n (f d).2 (acc ++ [(f d).1])
def vk (k : Int) : Val := .mk k false 0 [] [] [] []
def DS.fail (d : DS) : DS := ⟨d.s, true⟩
/-- What reader.value reads. -/
def valF : Nat → DS → Val × DS
  | 0, d => (zeroV, ⟨(u8S d.s).1, true⟩)
  | k + 1, d => if (DS.mk (u8S d.s).1 d.bad).wrong then (zeroV, ⟨(u8S d.s).1, true⟩) else
    if (u8S d.s).2 = 1 then (vk 1, ⟨(u8S d.s).1, d.bad⟩)
    else if (u8S d.s).2 = 2 then (vk 2, ⟨(u8S d.s).1, d.bad⟩)
    else if (u8S d.s).2 = 3 then (.mk 2 true 0 [] [] [] [], ⟨(u8S d.s).1, d.bad⟩)
    else if (u8S d.s).2 = 4 then (.mk 3 false (unzig (varS (u8S d.s).1).2) [] [] [] [], ⟨(varS (u8S d.s).1).1, d.bad⟩)
    else if (u8S d.s).2 = 5 then (.mk 4 false 0 (textS (u8S d.s).1).2 [] [] [], ⟨(textS (u8S d.s).1).1, d.bad⟩)
    else if (u8S d.s).2 = 6 then (.mk 5 false 0 [] (textS (u8S d.s).1).2 [] [], ⟨(textS (u8S d.s).1).1, d.bad⟩)
    else if (u8S d.s).2 = 7 then (.mk 6 false 0 [] [] (loopF (valF k) (varS (u8S d.s).1).2 ⟨(varS (u8S d.s).1).1, d.bad⟩ []).1 [], (loopF (valF k) (varS (u8S d.s).1).2 ⟨(varS (u8S d.s).1).1, d.bad⟩ []).2)
    else if (u8S d.s).2 = 8 then (.mk 7 false 0 [] [] [] (loopF (fun d => (((textS d.s).2, (valF k ⟨(textS d.s).1, d.bad⟩).1), (valF k ⟨(textS d.s).1, d.bad⟩).2)) (varS (u8S d.s).1).2 ⟨(varS (u8S d.s).1).1, d.bad⟩ []).1,
      (loopF (fun d => (((textS d.s).2, (valF k ⟨(textS d.s).1, d.bad⟩).1), (valF k ⟨(textS d.s).1, d.bad⟩).2)) (varS (u8S d.s).1).2 ⟨(varS (u8S d.s).1).1, d.bad⟩ []).2)
    else (zeroV, ⟨(u8S d.s).1, true⟩)

/- Where reading leads. -/
structure Goes (s s' : RS) : Prop where
  ok : s'.Ok
  b : s'.b = s.b
  at_ : s.at_ ≤ s'.at_
theorem Goes.trans {a b c : RS} (h : Goes a b) (k : Goes b c) : Goes a c := ⟨k.ok, k.b.trans h.b, Nat.le_trans h.at_ k.at_⟩
theorem goes_var {s : RS} (h : s.Ok) : Goes s (varS s).1 := by obtain ⟨a, b, c⟩ := varS_ok h; exact ⟨a, b, c⟩
theorem goes_text {s : RS} (h : s.Ok) : Goes s (textS s).1 := by
  obtain ⟨a, b, c⟩ := varS_ok h
  unfold textS
  split
  · have hok : RS.Ok ⟨(varS s).1.b, s.at_, (varS s).1.er, (varS s).1.ea⟩ := ⟨by show s.at_ ≤ (varS s).1.b.length; rw [b]; exact h.le, a.sm⟩
    obtain ⟨p, q, r⟩ := failS_ok (e := 20) hok
    exact ⟨p, q.trans b, by rw [r]; exact Nat.le_refl _⟩
  · obtain ⟨p, q, r, _⟩ := takeS_ok (n := (varS s).2) a
    exact ⟨p, q.trans b, Nat.le_trans c r⟩
theorem text_len {s : RS} (h : s.Ok) : (textS s).2.length < 1000000000 := by
  obtain ⟨a, b, c⟩ := varS_ok h
  unfold textS
  split
  · simp
  · exact (takeS_ok (n := (varS s).2) a).2.2.2
theorem goes_u8 {s : RS} (h : s.Ok) : Goes s (u8S s).1 ∧ ((u8S s).1.er = 0 → s.at_ + 1 ≤ (u8S s).1.at_) := by
  obtain ⟨a, b, c, _⟩ := takeS_ok (n := 1) h
  refine ⟨⟨a, b, c⟩, ?_⟩
  show (takeS s 1).1.er = 0 → s.at_ + 1 ≤ (takeS s 1).1.at_
  unfold takeS
  intro h0
  split at h0
  · rename_i he
    rw [if_pos he]
    split at h0
    · rename_i hn; exact absurd hn (by decide)
    · split at h0
      · rename_i h1 h2
        unfold failS at h0
        rw [if_pos he] at h0
        exact absurd (show (20 : Int) = 0 from h0) (by decide)
      · rename_i h1 h2
        rw [if_neg h1, if_neg h2]
        show s.at_ + 1 ≤ s.at_ + (1 : Int).toNat
        exact Nat.le_refl _
  · rename_i he; exact absurd h0 he
theorem vDec_lt : ∀ (b : List UInt8) (i : Nat) {n : Nat} {r : List UInt8}, i ≤ 9 → vDec i b = some (n, r) → n * 128 ^ i < 18446744073709551616
  | [], _, _, _, _, h => by cases h
  | c :: b, i, n, r, hi, h => by
    simp only [vDec] at h
    split at h
    · cases h
    · rename_i hq
      have hc := c.toNat_lt
      have h9 : i = 9 → c.toNat = 1 := fun h9 => by
        have : c = 1 := Classical.not_not.1 fun h' => hq (.inl ⟨h9, h'⟩)
        rw [this]; rfl
      split at h
      · rename_i h1
        simp only [Option.some.injEq, Prod.mk.injEq] at h
        obtain ⟨rfl, rfl⟩ := h
        rcases Nat.lt_or_ge i 9 with h8 | h8
        · have : 128 ^ i ≤ 128 ^ 8 := Nat.pow_le_pow_right (by decide) (by omega)
          have h' : c.toNat * 128 ^ i ≤ 127 * 128 ^ 8 := Nat.mul_le_mul (by omega) this
          have : (127 : Nat) * 128 ^ 8 < 18446744073709551616 := by decide
          omega
        · have : i = 9 := by omega
          subst this
          rw [h9 rfl]; decide
      · rename_i h1
        split at h
        · cases h
        · rename_i v r' hv
          simp only [Option.some.injEq, Prod.mk.injEq] at h
          obtain ⟨rfl, rfl⟩ := h
          have hi8 : i < 9 := by
            rcases Nat.lt_or_ge i 9 with h8 | h8
            · exact h8
            · have : i = 9 := by omega
              have := h9 this; omega
          have ih := vDec_lt b (i + 1) (by omega) hv
          rw [Nat.pow_succ] at ih
          -- the last of it is not zero or more than it
          have e : (c.toNat - 128 + 128 * v) * 128 ^ i = (c.toNat - 128) * 128 ^ i + v * (128 ^ i * 128) := by rw [Nat.add_mul]; congr 1; rw [Nat.mul_comm 128 v, Nat.mul_assoc, Nat.mul_comm 128 (128 ^ i)]
          rw [e]
          have hlow : (c.toNat - 128) * 128 ^ i < 128 ^ i * 128 := by
            rw [Nat.mul_comm (128 ^ i) 128]
            exact Nat.mul_lt_mul_of_pos_right (by omega) (Nat.pow_pos (by decide))
          -- both are multiples below the bound of one power
          have hp : 128 ^ i * 128 = 128 ^ (i + 1) := (Nat.pow_succ ..).symm
          rw [hp] at hlow ih ⊢
          have hdvd : 128 ^ (i + 1) * 2 ^ (64 - 7 * (i + 1)) = 18446744073709551616 := by
            have : (128 : Nat) ^ (i + 1) = 2 ^ (7 * (i + 1)) := by rw [Nat.pow_mul]
            rw [this, ← Nat.pow_add, show 7 * (i + 1) + (64 - 7 * (i + 1)) = 64 by omega]
          rw [← hdvd] at ih ⊢
          have hv' : v < 2 ^ (64 - 7 * (i + 1)) := by
            rw [Nat.mul_comm (128 ^ (i + 1))] at ih
            exact Nat.lt_of_mul_lt_mul_right ih
          have hv1 : (v + 1) * 128 ^ (i + 1) ≤ 2 ^ (64 - 7 * (i + 1)) * 128 ^ (i + 1) := Nat.mul_le_mul_right _ hv'
          rw [Nat.add_mul, Nat.one_mul] at hv1
          rw [Nat.mul_comm (128 ^ (i + 1)) (2 ^ _)]
          omega
theorem varS_lt (s : RS) : (varS s).2 < 18446744073709551616 := by
  unfold varS; split
  · split
    · show (vRes (s.b.drop s.at_)).1 < _
      unfold vRes
      split
      · rename_i v r hv
        have := vDec_lt _ 0 (by omega) hv
        simpa using this
      · simp
    · simp
  · simp

/-- What a reading of one thing does. -/
structure Reads {α : Type} (f : DS → α × DS) : Prop where
  goes : ∀ d, d.s.Ok → Goes d.s (f d).2.s
  prog : ∀ d, d.s.Ok → (f d).2.wrong = true ∨ d.s.at_ + 1 ≤ (f d).2.s.at_
theorem loop_goes {α : Type} {f : DS → α × DS} (h : Reads f) : ∀ (n : Nat) (d : DS) (acc : List α), d.s.Ok → Goes d.s (loopF f n d acc).2.s
  | 0, d, acc, hd => ⟨hd, rfl, Nat.le_refl _⟩
  | n + 1, d, acc, hd => by
      simp only [loopF]
      split
      · exact ⟨hd, rfl, Nat.le_refl _⟩
      · exact (h.goes d hd).trans (loop_goes h n (f d).2 _ (h.goes d hd).ok)
theorem wrong_er {d : DS} (h : d.wrong = false) : d.s.er = 0 ∧ d.bad = false := by
  unfold DS.wrong at h
  cases hb : d.bad with
  | true => rw [hb] at h; cases h
  | false =>
    rw [hb, Bool.false_or] at h
    exact ⟨of_decide_eq_true (by simpa using h), rfl⟩
theorem reads_F {f : DS → Val × DS} (h : Reads f) : Reads (fun d : DS => (((textS d.s).2, (f ⟨(textS d.s).1, d.bad⟩).1), (f ⟨(textS d.s).1, d.bad⟩).2)) :=
  ⟨fun d hd => (goes_text hd).trans (h.goes ⟨(textS d.s).1, d.bad⟩ (goes_text hd).ok), fun d hd => by
    rcases h.prog ⟨(textS d.s).1, d.bad⟩ (goes_text hd).ok with h1 | h1
    · exact .inl h1
    · exact .inr (Nat.le_trans (Nat.succ_le_succ (goes_text hd).at_) h1)⟩
theorem reads_val : ∀ k, Reads (valF k)
  | 0 => ⟨fun d hd => (goes_u8 hd).1, fun d hd => .inl rfl⟩
  | k + 1 => by
    have ih := reads_val k
    refine ⟨fun d hd => ?_, fun d hd => ?_⟩
    · obtain ⟨g0, _⟩ := goes_u8 hd
      have g1 := goes_var g0.ok
      have g2 := goes_text g0.ok
      have g3 := loop_goes ih (varS (u8S d.s).1).2 ⟨(varS (u8S d.s).1).1, d.bad⟩ [] g1.ok
      have g4 := loop_goes (reads_F ih) (varS (u8S d.s).1).2 ⟨(varS (u8S d.s).1).1, d.bad⟩ [] g1.ok
      simp only [valF]
      repeat' split
      all_goals first
        | exact g0
        | exact g0.trans g1
        | exact g0.trans g2
        | exact (g0.trans g1).trans g3
        | exact (g0.trans g1).trans g4
    · obtain ⟨g0, p0⟩ := goes_u8 hd
      have g1 := goes_var g0.ok
      have g2 := goes_text g0.ok
      have g3 := loop_goes ih (varS (u8S d.s).1).2 ⟨(varS (u8S d.s).1).1, d.bad⟩ [] g1.ok
      have g4 := loop_goes (reads_F ih) (varS (u8S d.s).1).2 ⟨(varS (u8S d.s).1).1, d.bad⟩ [] g1.ok
      simp only [valF]
      split
      · exact .inl rfl
      · rename_i hw
        have p := p0 (wrong_er (by simpa using hw)).1
        repeat' split
        all_goals first
          | exact .inr p
          | exact .inl rfl
          | exact .inr (Nat.le_trans p g1.at_)
          | exact .inr (Nat.le_trans p g2.at_)
          | exact .inr (Nat.le_trans p (g1.trans g3).at_)
          | exact .inr (Nat.le_trans p (g1.trans g4).at_)
/-- How many there are, at most. -/
def Room {α : Type} (d : DS) (acc : List α) : Prop := acc.length ≤ d.s.at_ ∨ (d.wrong = true ∧ acc.length ≤ d.s.at_ + 1)
theorem room_next {α : Type} {f : DS → α × DS} (h : Reads f) {d : DS} {acc : List α} (hd : d.s.Ok) (hw : d.wrong = false) (hr : Room d acc) : Room (f d).2 (acc ++ [(f d).1]) := by
  have hl : acc.length ≤ d.s.at_ := by
    rcases hr with h | ⟨h, _⟩
    · exact h
    · rw [hw] at h; cases h
  have hg := (h.goes d hd).at_
  unfold Room
  rw [List.length_append, List.length_singleton]
  rcases h.prog d hd with h1 | h1
  · exact .inr ⟨h1, by omega⟩
  · exact .inl (by omega)

/- Rows that are joined. -/
structure Mer (rv : RowG Val) (rf : RowG Fld) : Prop where
  v : ∀ L i L' i' j, mergeDV (fun _ => true) (rv L i j) (rv L' i' j) = rv L i j ∧ mergeDV (fun _ => false) (rv L i j) (rv L' i' j) = rv L' i' j
  f : ∀ L i L' i' j, mergeDV (fun _ => true) (rf L i j) (rf L' i' j) = rf L i j ∧ mergeDV (fun _ => false) (rf L i j) (rf L' i' j) = rf L' i' j
theorem mer_enc {rv : RowG Val} {rf : RowG Fld} (h : Mer rv rf) (a b : Unit → Val) (j : Nat) : mergeDV (fun _ => true) (encG rv rf a j) (encG rv rf b j) = encG rv rf a j ∧ mergeDV (fun _ => false) (encG rv rf a j) (encG rv rf b j) = encG rv rf b j := by
  match j with
  | 0 => exact ⟨rfl, rfl⟩
  | 1 => exact ⟨rfl, rfl⟩
  | 2 => exact ⟨rfl, rfl⟩
  | 3 => exact ⟨rfl, rfl⟩
  | 4 => exact ⟨rfl, rfl⟩
  | 5 =>
    refine ⟨?_, ?_⟩
    · show DV.sl 7 _ (fun i j => mergeDV (fun _ => true) (rv (fun _ => (a ()).list) i j) (rv (fun _ => (b ()).list) i j)) = DV.sl 7 _ (rv fun _ => (a ()).list)
      congr 1
      funext i j
      exact (h.v _ i _ i j).1
    · show DV.sl 7 _ (fun i j => mergeDV (fun _ => false) (rv (fun _ => (a ()).list) i j) (rv (fun _ => (b ()).list) i j)) = DV.sl 7 _ (rv fun _ => (b ()).list)
      congr 1
      funext i j
      exact (h.v _ i _ i j).2
  | j + 6 =>
    refine ⟨?_, ?_⟩
    · show DV.sl 8 _ (fun i j => mergeDV (fun _ => true) (rf (fun _ => (a ()).fields) i j) (rf (fun _ => (b ()).fields) i j)) = DV.sl 8 _ (rf fun _ => (a ()).fields)
      congr 1
      funext i j
      exact (h.f _ i _ i j).1
    · show DV.sl 8 _ (fun i j => mergeDV (fun _ => false) (rf (fun _ => (a ()).fields) i j) (rf (fun _ => (b ()).fields) i j)) = DV.sl 8 _ (rf fun _ => (b ()).fields)
      congr 1
      funext i j
      exact (h.f _ i _ i j).2
theorem mer_step {rv : RowG Val} {rf : RowG Fld} (h : Mer rv rf) : Mer (stepV rv rf) (stepF rv rf) :=
  ⟨fun L i L' i' j => mer_enc h _ _ j, fun L i L' i' j => by
    match j with
    | 0 => exact ⟨rfl, rfl⟩
    | j + 1 => exact mer_enc h (fun _ => ((L ()).getD (i ()) default).2) (fun _ => ((L' ()).getD (i' ()) default).2) j⟩
theorem mer_rows : ∀ d, Mer (rowsG d).1 (rowsG d).2
  | 0 => ⟨fun _ _ _ _ _ => ⟨rfl, rfl⟩, fun _ _ _ _ _ => ⟨rfl, rfl⟩⟩
  | d + 1 => mer_step (mer_rows d)
def dvV (rv : RowG Val) (rf : RowG Fld) (v : Val) : List DV := [.int .u8 fun _ => v.kind, .bool fun _ => v.bool, .int .i64 fun _ => v.int, .str fun _ => v.text, .bytes fun _ => v.bytes, .sl 7 (fun _ => v.list.length) (rv fun _ => v.list), .sl 8 (fun _ => v.fields.length) (rf fun _ => v.fields)]
theorem dvV_at {rv : RowG Val} {rf : RowG Fld} {v : Val} {i : Unit → Nat} : ∀ {j : Nat}, j < 7 → oneRow (dvV rv rf v) i j = encG rv rf (fun _ => v) j
  | 0, _ => rfl
  | 1, _ => rfl
  | 2, _ => rfl
  | 3, _ => rfl
  | 4, _ => rfl
  | 5, _ => rfl
  | 6, _ => rfl
  | j + 7, h => by omega
theorem getD_app {α : Type} [Inhabited α] {acc : List α} {v : α} {i : Nat} : (acc ++ [v]).getD i default = if i < acc.length then acc.getD i default else if i = acc.length then v else default := by
  rw [List.getD_eq_getElem?_getD, List.getElem?_append]
  split
  · rw [List.getD_eq_getElem?_getD]
  · split
    · rename_i h; rw [h]; simp
    · rw [List.getElem?_eq_none (by simp; omega)]; rfl
theorem app_lo {R S : (Unit → Nat) → Nat → DV} {n i j : Nat} (hi : i < n) (h : mergeDV (fun _ => true) (R (fun _ => i) j) (S (fun _ => i - n) j) = R (fun _ => i) j) : appRow (fun _ => n) R S (fun _ => i) j = R (fun _ => i) j := by
  unfold appRow
  have : (fun _ : Unit => ltN i n) = fun _ => true := funext fun _ => decide_eq_true hi
  rw [this]; exact h
theorem app_hi {R S : (Unit → Nat) → Nat → DV} {n i j : Nat} (hi : ¬ i < n) (h : mergeDV (fun _ => false) (R (fun _ => i) j) (S (fun _ => i - n) j) = S (fun _ => i - n) j) : appRow (fun _ => n) R S (fun _ => i) j = S (fun _ => i - n) j := by
  unfold appRow
  have : (fun _ : Unit => ltN i n) = fun _ => false := funext fun _ => decide_eq_false hi
  rw [this]; exact h
section
variable {rv : RowG Val} {rf : RowG Fld} (h : Mer rv rf)
include h
theorem mV (acc : List Val) (v : Val) (i i' : Nat) {j : Nat} (hj : j < 7) : mergeDV (fun _ => true) (stepV rv rf (fun _ => acc) (fun _ => i) j) (oneRow (dvV rv rf v) (fun _ => i') j) = stepV rv rf (fun _ => acc) (fun _ => i) j ∧ mergeDV (fun _ => false) (stepV rv rf (fun _ => acc) (fun _ => i) j) (oneRow (dvV rv rf v) (fun _ => i') j) = oneRow (dvV rv rf v) (fun _ => i') j := by
  rw [dvV_at hj]; exact mer_enc h _ _ j
theorem app_okV (acc : List Val) (v : Val) : AppOk 7 acc.length 1 (stepV rv rf fun _ => acc) (oneRow (dvV rv rf v)) :=
  ⟨fun i hi j hj => app_lo hi (mV h acc v i _ hj).1, fun i hi j hj => by
    rw [app_hi (by omega) (mV h acc v (acc.length + i) _ hj).2, dvV_at hj, dvV_at hj]⟩
theorem row_eqV (acc : List Val) (v : Val) : RowEq 7 (acc ++ [v]).length (appRow (fun _ => acc.length) (stepV rv rf fun _ => acc) (oneRow (dvV rv rf v))) (stepV rv rf fun _ => acc ++ [v]) := fun i hi j hj => by
  rw [List.length_append, List.length_singleton] at hi
  show _ = encG rv rf (fun _ => (acc ++ [v]).getD i default) j
  rw [getD_app]
  by_cases hlt : i < acc.length
  · rw [if_pos hlt, app_lo hlt (mV h acc v i _ hj).1]; rfl
  · rw [if_neg hlt, if_pos (by omega), app_hi hlt (mV h acc v i _ hj).2, dvV_at hj]
def dvF (rv : RowG Val) (rf : RowG Fld) (p : Fld) : List DV := (.str fun _ => p.1) :: dvV rv rf p.2
omit h in
theorem dvF_at {p : Fld} {i : Unit → Nat} : ∀ {j : Nat}, j < 8 → oneRow (dvF rv rf p) i j = encF rv rf (fun _ => p) j
  | 0, _ => rfl
  | j + 1, hj => dvV_at (i := i) (by omega)
theorem mF (acc : List Fld) (v : Fld) (i i' : Nat) {j : Nat} (hj : j < 8) : mergeDV (fun _ => true) (stepF rv rf (fun _ => acc) (fun _ => i) j) (oneRow (dvF rv rf v) (fun _ => i') j) = stepF rv rf (fun _ => acc) (fun _ => i) j ∧ mergeDV (fun _ => false) (stepF rv rf (fun _ => acc) (fun _ => i) j) (oneRow (dvF rv rf v) (fun _ => i') j) = oneRow (dvF rv rf v) (fun _ => i') j := by
  rw [dvF_at hj]
  match j with
  | 0 => exact ⟨rfl, rfl⟩
  | j + 1 => exact mer_enc h (fun _ => (acc.getD i default).2) (fun _ => v.2) j
theorem app_okF (acc : List Fld) (v : Fld) : AppOk 8 acc.length 1 (stepF rv rf fun _ => acc) (oneRow (dvF rv rf v)) :=
  ⟨fun i hi j hj => app_lo hi (mF h acc v i _ hj).1, fun i hi j hj => by
    rw [app_hi (by omega) (mF h acc v (acc.length + i) _ hj).2, dvF_at hj, dvF_at hj]⟩
theorem row_eqF (acc : List Fld) (v : Fld) : RowEq 8 (acc ++ [v]).length (appRow (fun _ => acc.length) (stepF rv rf fun _ => acc) (oneRow (dvF rv rf v))) (stepF rv rf fun _ => acc ++ [v]) := fun i hi j hj => by
  rw [List.length_append, List.length_singleton] at hi
  show _ = encF rv rf (fun _ => (acc ++ [v]).getD i default) j
  rw [getD_app]
  by_cases hlt : i < acc.length
  · rw [if_pos hlt, app_lo hlt (mF h acc v i _ hj).1]; rfl
  · rw [if_neg hlt, if_pos (by omega), app_hi hlt (mF h acc v i _ hj).2, dvF_at hj]
end

set_option maxRecDepth 20000 in
set_option maxHeartbeats 16000000 in
theorem con134s {rv : RowG Val} {rf : RowG Fld} (hmer : Mer rv rf) {d : DS} {k : Nat} (hk : k < 1000) (hd : d.s.Ok)
    (ih : ∀ (d : DS) (z : Int), d.s.Ok → z = (k : Int) → Con 134 [.loc 1000 0, .int .i64 (.s fun _ => z)] (drO d) (valG rv rf (valF k d).1) (drO (valF k d).2)) :
    Con 134 [.loc 1000 0, .int .i64 (.s fun _ => ((k + 1 : Nat) : Int))] (drO d) (valG (stepV rv rf) (stepF rv rf) (valF (k + 1) d).1) (drO (valF (k + 1) d).2) := by
  obtain ⟨R, hR⟩ : ∃ R, R = valF (k + 1) d := ⟨_, rfl⟩
  rw [← hR]
  have c36 := con36 hd
  have hok1 := (goes_u8 hd).1.ok
  have g1 := goes_var hok1
  have g2 := goes_text hok1
  have tl := text_len hok1
  have vl := varS_lt (u8S d.s).1
  have c171 := con171 hok1 vl
  have c37 := con37 hok1
  have c92 := con92 hok1
  have c170 := con170 (d := ⟨(u8S d.s).1, d.bad⟩)
  simp only [valF] at hR
  obtain ⟨fV, hfV⟩ : ∃ f, f = valF k := ⟨_, rfl⟩
  have rV : Reads fV := by rw [hfV]; exact reads_val k
  obtain ⟨fF, hfF⟩ : ∃ f, f = fun d : DS => (((textS d.s).2, (fV ⟨(textS d.s).1, d.bad⟩).1), (fV ⟨(textS d.s).1, d.bad⟩).2) := ⟨_, rfl⟩
  have rF : Reads fF := by rw [hfF]; exact reads_F rV
  rw [← hfV] at hR ih
  rw [← hfF] at hR
  obtain ⟨U, hU⟩ : ∃ U, U = u8S d.s := ⟨_, rfl⟩
  rw [← hU] at hR c36 hok1 g1 g2 tl vl c171 c37 c92 c170
  obtain ⟨s1, c⟩ := U
  have hR : R = if (DS.mk s1 d.bad).wrong then (zeroV, ⟨s1, true⟩) else
    if c = 1 then (vk 1, ⟨s1, d.bad⟩)
    else if c = 2 then (vk 2, ⟨s1, d.bad⟩)
    else if c = 3 then (.mk 2 true 0 [] [] [] [], ⟨s1, d.bad⟩)
    else if c = 4 then (.mk 3 false (unzig (varS s1).2) [] [] [] [], ⟨(varS s1).1, d.bad⟩)
    else if c = 5 then (.mk 4 false 0 (textS s1).2 [] [] [], ⟨(textS s1).1, d.bad⟩)
    else if c = 6 then (.mk 5 false 0 [] (textS s1).2 [] [], ⟨(textS s1).1, d.bad⟩)
    else if c = 7 then (.mk 6 false 0 [] [] (loopF fV (varS s1).2 ⟨(varS s1).1, d.bad⟩ []).1 [], (loopF fV (varS s1).2 ⟨(varS s1).1, d.bad⟩ []).2)
    else if c = 8 then (.mk 7 false 0 [] [] [] (loopF fF (varS s1).2 ⟨(varS s1).1, d.bad⟩ []).1, (loopF fF (varS s1).2 ⟨(varS s1).1, d.bad⟩ []).2)
    else (zeroV, ⟨s1, true⟩) := hR
  obtain ⟨bad, hbad⟩ : ∃ b, b = d.bad := ⟨_, rfl⟩
  obtain ⟨w0, hw0⟩ : ∃ w, w = (DS.mk s1 bad).wrong := ⟨_, rfl⟩
  obtain ⟨V, hV⟩ : ∃ V, V = varS s1 := ⟨_, rfl⟩
  obtain ⟨T, hT⟩ : ∃ T, T = textS s1 := ⟨_, rfl⟩
  rw [← hbad, ← hw0, ← hV, ← hT] at hR
  replace c170 : Con 170 [.loc 1000 0] (drO ⟨s1, bad⟩) (.bool (.s fun _ => w0)) (drO ⟨s1, bad⟩) := by rw [hw0, hbad]; exact c170
  have g1 : Goes s1 (varS s1).1 := g1
  have g2 : Goes s1 (textS s1).1 := g2
  replace c171 : Con 171 [.loc 1000 0] [(1000, rdO s1)] (.int .i64 (.s fun _ => unzig (varS s1).2)) [(1000, rdO (varS s1).1)] := c171
  replace c37 : Con 37 [.loc 1000 0] [(1000, rdO s1)] (.str fun _ => (textS s1).2) [(1000, rdO (textS s1).1)] := c37
  replace c92 : Con 92 [.loc 1000 0] [(1000, rdO s1)] (.int .u64 (.s fun _ => ((varS s1).2 : Int))) [(1000, rdO (varS s1).1)] := c92
  have tl : (textS s1).2.length < 1000000000 := tl
  have vl : (varS s1).2 < 18446744073709551616 := vl
  rw [← hV] at g1 c171 c92 vl
  rw [← hT] at g2 c37 tl
  replace c36 : Con 36 [.loc 1000 0] [(1000, rdO d.s)] (.int .u8 (.s fun _ => (c.toNat : Int))) [(1000, rdO s1)] := c36
  obtain ⟨s2, n⟩ := V
  obtain ⟨s3, tx⟩ := T
  have g1 : Goes s1 s2 := g1
  have vl : n < 18446744073709551616 := vl
  have tl : tx.length < 1000000000 := tl
  replace c171 : Con 171 [.loc 1000 0] [(1000, rdO s1)] (.int .i64 (.s fun _ => unzig n)) [(1000, rdO s2)] := c171
  replace c92 : Con 92 [.loc 1000 0] [(1000, rdO s1)] (.int .u64 (.s fun _ => (n : Int))) [(1000, rdO s2)] := c92
  replace c37 : Con 37 [.loc 1000 0] [(1000, rdO s1)] (.str fun _ => tx) [(1000, rdO s3)] := c37
  have hR : R = if w0 then (zeroV, ⟨s1, true⟩) else
    if c = 1 then (vk 1, ⟨s1, bad⟩)
    else if c = 2 then (vk 2, ⟨s1, bad⟩)
    else if c = 3 then (.mk 2 true 0 [] [] [] [], ⟨s1, bad⟩)
    else if c = 4 then (.mk 3 false (unzig n) [] [] [] [], ⟨s2, bad⟩)
    else if c = 5 then (.mk 4 false 0 tx [] [] [], ⟨s3, bad⟩)
    else if c = 6 then (.mk 5 false 0 [] tx [] [], ⟨s3, bad⟩)
    else if c = 7 then (.mk 6 false 0 [] [] (loopF fV n ⟨s2, bad⟩ []).1 [], (loopF fV n ⟨s2, bad⟩ []).2)
    else if c = 8 then (.mk 7 false 0 [] [] [] (loopF fF n ⟨s2, bad⟩ []).1, (loopF fF n ⟨s2, bad⟩ []).2)
    else (zeroV, ⟨s1, true⟩) := hR
  obtain ⟨zz, hzz⟩ : ∃ z, z = unzig n := ⟨_, rfl⟩
  rw [← hzz] at hR c171
  have cN : ∀ m : Nat, m < 256 → (c = UInt8.ofNat m ↔ c.toNat = m) := fun m hm => ⟨fun h => by rw [h]; simp; omega, fun h => by rw [← h]; simp⟩
  have q1 : c = 1 ↔ c.toNat = 1 := cN 1 (by decide); have q2 : c = 2 ↔ c.toNat = 2 := cN 2 (by decide); have q3 : c = 3 ↔ c.toNat = 3 := cN 3 (by decide); have q4 : c = 4 ↔ c.toNat = 4 := cN 4 (by decide); have q5 : c = 5 ↔ c.toNat = 5 := cN 5 (by decide); have q6 : c = 6 ↔ c.toNat = 6 := cN 6 (by decide); have q7 : c = 7 ↔ c.toNat = 7 := cN 7 (by decide); have q8 : c = 8 ↔ c.toNat = 8 := cN 8 (by decide)
  have K0 : w0 = true → R = (zeroV, ⟨s1, true⟩) := fun h => by rw [hR, if_pos h]
  have hR : w0 = false → _ := fun h => hR.trans (if_neg (by rw [h]; decide))
  have K1 : w0 = false → c.toNat = 1 → R = (vk 1, ⟨s1, bad⟩) := fun hw  h => by rw [hR hw, if_pos (q1.2 h)]
  have K2 : w0 = false → ¬ c.toNat = 1 → c.toNat = 2 → R = (vk 2, ⟨s1, bad⟩) := fun hw h1 h => by rw [hR hw, if_neg (fun h => h1 (q1.1 h)), if_pos (q2.2 h)]
  have K3 : w0 = false → ¬ c.toNat = 1 → ¬ c.toNat = 2 → c.toNat = 3 → R = (.mk 2 true 0 [] [] [] [], ⟨s1, bad⟩) := fun hw h1 h2 h => by rw [hR hw, if_neg (fun h => h1 (q1.1 h)), if_neg (fun h => h2 (q2.1 h)), if_pos (q3.2 h)]
  have K4 : w0 = false → ¬ c.toNat = 1 → ¬ c.toNat = 2 → ¬ c.toNat = 3 → c.toNat = 4 → R = (.mk 3 false zz [] [] [] [], ⟨s2, bad⟩) := fun hw h1 h2 h3 h => by rw [hR hw, if_neg (fun h => h1 (q1.1 h)), if_neg (fun h => h2 (q2.1 h)), if_neg (fun h => h3 (q3.1 h)), if_pos (q4.2 h)]
  have K5 : w0 = false → ¬ c.toNat = 1 → ¬ c.toNat = 2 → ¬ c.toNat = 3 → ¬ c.toNat = 4 → c.toNat = 5 → R = (.mk 4 false 0 tx [] [] [], ⟨s3, bad⟩) := fun hw h1 h2 h3 h4 h => by rw [hR hw, if_neg (fun h => h1 (q1.1 h)), if_neg (fun h => h2 (q2.1 h)), if_neg (fun h => h3 (q3.1 h)), if_neg (fun h => h4 (q4.1 h)), if_pos (q5.2 h)]
  have K6 : w0 = false → ¬ c.toNat = 1 → ¬ c.toNat = 2 → ¬ c.toNat = 3 → ¬ c.toNat = 4 → ¬ c.toNat = 5 → c.toNat = 6 → R = (.mk 5 false 0 [] tx [] [], ⟨s3, bad⟩) := fun hw h1 h2 h3 h4 h5 h => by rw [hR hw, if_neg (fun h => h1 (q1.1 h)), if_neg (fun h => h2 (q2.1 h)), if_neg (fun h => h3 (q3.1 h)), if_neg (fun h => h4 (q4.1 h)), if_neg (fun h => h5 (q5.1 h)), if_pos (q6.2 h)]
  have K7 : w0 = false → ¬ c.toNat = 1 → ¬ c.toNat = 2 → ¬ c.toNat = 3 → ¬ c.toNat = 4 → ¬ c.toNat = 5 → ¬ c.toNat = 6 → c.toNat = 7 → R = (.mk 6 false 0 [] [] (loopF fV n ⟨s2, bad⟩ []).1 [], (loopF fV n ⟨s2, bad⟩ []).2) := fun hw h1 h2 h3 h4 h5 h6 h => by rw [hR hw, if_neg (fun h => h1 (q1.1 h)), if_neg (fun h => h2 (q2.1 h)), if_neg (fun h => h3 (q3.1 h)), if_neg (fun h => h4 (q4.1 h)), if_neg (fun h => h5 (q5.1 h)), if_neg (fun h => h6 (q6.1 h)), if_pos (q7.2 h)]
  have K8 : w0 = false → ¬ c.toNat = 1 → ¬ c.toNat = 2 → ¬ c.toNat = 3 → ¬ c.toNat = 4 → ¬ c.toNat = 5 → ¬ c.toNat = 6 → ¬ c.toNat = 7 → c.toNat = 8 → R = (.mk 7 false 0 [] [] [] (loopF fF n ⟨s2, bad⟩ []).1, (loopF fF n ⟨s2, bad⟩ []).2) := fun hw h1 h2 h3 h4 h5 h6 h7 h => by rw [hR hw, if_neg (fun h => h1 (q1.1 h)), if_neg (fun h => h2 (q2.1 h)), if_neg (fun h => h3 (q3.1 h)), if_neg (fun h => h4 (q4.1 h)), if_neg (fun h => h5 (q5.1 h)), if_neg (fun h => h6 (q6.1 h)), if_neg (fun h => h7 (q7.1 h)), if_pos (q8.2 h)]
  have K9 : w0 = false → ¬ c.toNat = 1 → ¬ c.toNat = 2 → ¬ c.toNat = 3 → ¬ c.toNat = 4 → ¬ c.toNat = 5 → ¬ c.toNat = 6 → ¬ c.toNat = 7 → ¬ c.toNat = 8 → R = (zeroV, ⟨s1, true⟩) := fun hw h1 h2 h3 h4 h5 h6 h7 h8  => by rw [hR hw, if_neg (fun h => h1 (q1.1 h)), if_neg (fun h => h2 (q2.1 h)), if_neg (fun h => h3 (q3.1 h)), if_neg (fun h => h4 (q4.1 h)), if_neg (fun h => h5 (q5.1 h)), if_neg (fun h => h6 (q6.1 h)), if_neg (fun h => h7 (q7.1 h)), if_neg (fun h => h8 (q8.1 h))]
  have ok2 := g1.ok
  have rm0 : ∀ {α : Type}, Room (α := α) ⟨s2, bad⟩ [] := fun {α} => .inl (Nat.zero_le _)
  clear hR hV hT hw0 hU hzz
  obtain ⟨⟨b, at_, er, ea⟩, bad'⟩ := d
  obtain rfl : bad = bad' := hbad
  obtain ⟨Y, hY⟩ : ∃ Y, Y = ((k + 1 : Nat) : Int) := ⟨_, rfl⟩
  have hY1 : ¬ Y = 0 := by omega
  have hYk : Y - 1 = (k : Int) := by omega
  have bY : bound64 (Y - 1) := by unfold bound64; omega
  rw [← hY]
  refine ⟨specX_of (spec_of_wp Tryz.func134 rfl (by kernel_rfl) rfl ?_) ⟨_, _, Tryz.func134, rfl, rfl⟩ (by decide)⟩
  intro η G w a hbor hh
  refine seq_vc eok rawOk mixed conOk0 hbor hh fun Z hZ => ?_
  clear hh
  cbv
  refine ⟨fun a w1 hh => ?_⟩
  rw [hZ]; clear hZ Z
  refine scope_fwd 0 rfl ?_
  refine last_vc eok rawOk mixed conOk0 hbor hh fun Z hZ => ?_
  clear hh
  cbv
  refine ⟨_, _, c36, ⟨by kernel_rfl⟩, ?_⟩
  cbv
  refine And.intro ?_ ?_
  · intro g
    exact absurd (of_decide_eq_true g) hY1
  intro g
  clear g
  cbv
  refine ⟨_, _, c170, ⟨by kernel_rfl⟩, ?_⟩
  cbv
  refine And.intro ?_ ?_
  · intro g
    have hq := K0 g
    subst hq
    cbv
    refine ⟨fun a w1 hh => ?_⟩
    rw [hZ]; clear hZ Z
    refine ⟨rfl, ?_⟩
    refine last_vc eok rawOk mixed conOk0 hbor hh fun Z hZ => ?_
    clear hh
    cbv
    refine ⟨fun a w1 hh => ?_⟩
    rw [hZ]; clear hZ Z
    show bodyPostM _ _ _ _ _ .ret _ _
    refine post0 (E := E) eok hbor hh ?_
    clear hh
    cbv
    refine ⟨[], [], ?_⟩
    cbv
    and_intros
    all_goals first | exact trivial | exact ⟨rfl⟩ | exact ⟨rfl, fun _ _ _ _ => rfl⟩ | exact ⟨by kernel_rfl⟩
  intro g
  have hw : w0 = false := g
  clear g
  cbv
  refine And.intro ?_ ?_
  · intro g
    have h1 : c.toNat = 1 := by have g0 : ((c.toNat : Nat) : Int) = 1 := of_decide_eq_true g; omega
    clear g
    have hq := K1 hw h1
    subst hq
    have e1 : decide ((c.toNat : Int) = 3) = false := by rw [h1]; rfl
    cbv
    refine ⟨fun a w1 hh => ?_⟩
    rw [hZ]; clear hZ Z
    refine post0 (E := E) eok hbor hh ?_
    clear hh
    cbv
    refine ⟨[], [], ?_⟩
    cbv
    and_intros
    all_goals first | exact trivial | exact ⟨e1⟩ | exact ⟨rfl⟩ | exact ⟨rfl, fun _ _ _ _ => rfl⟩ | exact ⟨by kernel_rfl⟩
  · intro g
    have h1 : ¬ c.toNat = 1 := by have g0 : ¬ ((c.toNat : Nat) : Int) = 1 := of_decide_eq_false g; omega
    clear g
    cbv
    refine And.intro ?_ ?_
    · intro g
      have h2 : c.toNat = 2 := by have g0 : ((c.toNat : Nat) : Int) = 2 := of_decide_eq_true g; omega
      clear g
      have hq := K2 hw h1 h2
      subst hq
      have e1 : decide ((c.toNat : Int) = 3) = false := by rw [h2]; rfl
      cbv
      refine And.intro ?_ ?_
      · intro g
        clear g
        cbv
        refine ⟨fun a w1 hh => ?_⟩
        rw [hZ]; clear hZ Z
        refine post0 (E := E) eok hbor hh ?_
        clear hh
        cbv
        refine ⟨[], [], ?_⟩
        cbv
        and_intros
        all_goals first | exact trivial | exact ⟨e1⟩ | exact ⟨rfl⟩ | exact ⟨rfl, fun _ _ _ _ => rfl⟩ | exact ⟨by kernel_rfl⟩
      · intro g
        have g0 : ¬ ((c.toNat : Nat) : Int) = 2 := of_decide_eq_false g
        omega
    · intro g
      have h2 : ¬ c.toNat = 2 := by have g0 : ¬ ((c.toNat : Nat) : Int) = 2 := of_decide_eq_false g; omega
      clear g
      cbv
      refine And.intro ?_ ?_
      · intro g
        have h3 : c.toNat = 3 := by have g0 : ((c.toNat : Nat) : Int) = 3 := of_decide_eq_true g; omega
        clear g
        have hq := K3 hw h1 h2 h3
        subst hq
        have e1 : decide ((c.toNat : Int) = 3) = true := by rw [h3]; rfl
        cbv
        refine ⟨fun a w1 hh => ?_⟩
        rw [hZ]; clear hZ Z
        refine post0 (E := E) eok hbor hh ?_
        clear hh
        cbv
        refine ⟨[], [], ?_⟩
        cbv
        and_intros
        all_goals first | exact trivial | exact ⟨e1⟩ | exact ⟨rfl⟩ | exact ⟨rfl, fun _ _ _ _ => rfl⟩ | exact ⟨by kernel_rfl⟩
      · intro g
        have h3 : ¬ c.toNat = 3 := by have g0 : ¬ ((c.toNat : Nat) : Int) = 3 := of_decide_eq_false g; omega
        clear g
        cbv
        refine And.intro ?_ ?_
        · intro g
          have h4 : c.toNat = 4 := by have g0 : ((c.toNat : Nat) : Int) = 4 := of_decide_eq_true g; omega
          clear g
          have hq := K4 hw h1 h2 h3 h4
          subst hq
          cbv
          refine ⟨_, _, c171, ⟨by kernel_rfl⟩, ?_⟩
          cbv
          refine ⟨fun a w1 hh => ?_⟩
          rw [hZ]; clear hZ Z
          refine post0 (E := E) eok hbor hh ?_
          clear hh
          cbv
          refine ⟨[], [], ?_⟩
          cbv
          and_intros
          all_goals first | exact trivial | exact ⟨rfl⟩ | exact ⟨rfl, fun _ _ _ _ => rfl⟩ | exact ⟨by kernel_rfl⟩
        · intro g
          have h4 : ¬ c.toNat = 4 := by have g0 : ¬ ((c.toNat : Nat) : Int) = 4 := of_decide_eq_false g; omega
          clear g
          cbv
          refine And.intro ?_ ?_
          · intro g
            have h5 : c.toNat = 5 := by have g0 : ((c.toNat : Nat) : Int) = 5 := of_decide_eq_true g; omega
            clear g
            have hq := K5 hw h1 h2 h3 h4 h5
            subst hq
            cbv
            refine ⟨_, _, c37, ⟨by kernel_rfl⟩, ?_⟩
            cbv
            refine ⟨fun a w1 hh => ?_⟩
            rw [hZ]; clear hZ Z
            refine post0 (E := E) eok hbor hh ?_
            clear hh
            cbv
            refine ⟨[], [], ?_⟩
            cbv
            and_intros
            all_goals first | exact trivial | exact ⟨rfl⟩ | exact ⟨rfl, fun _ _ _ _ => rfl⟩ | exact ⟨by kernel_rfl⟩
          · intro g
            have h5 : ¬ c.toNat = 5 := by have g0 : ¬ ((c.toNat : Nat) : Int) = 5 := of_decide_eq_false g; omega
            clear g
            cbv
            refine And.intro ?_ ?_
            · intro g
              have h6 : c.toNat = 6 := by have g0 : ((c.toNat : Nat) : Int) = 6 := of_decide_eq_true g; omega
              clear g
              have hq := K6 hw h1 h2 h3 h4 h5 h6
              subst hq
              have lo : lenOk tx.length 1 := by unfold lenOk; omega
              cbv
              refine ⟨_, _, c37, ⟨by kernel_rfl⟩, ?_⟩
              cbv
              refine ⟨⟨lo⟩, ?_⟩
              refine ⟨fun a w1 hh => ?_⟩
              rw [hZ]; clear hZ Z
              refine post0 (E := E) eok hbor hh ?_
              clear hh
              cbv
              refine ⟨[], [56], ?_⟩
              cbv
              and_intros
              all_goals first | exact trivial | exact ⟨rfl⟩ | exact ⟨rfl, fun _ _ _ _ => rfl⟩ | exact ⟨by kernel_rfl⟩
            · intro g
              have h6 : ¬ c.toNat = 6 := by have g0 : ¬ ((c.toNat : Nat) : Int) = 6 := of_decide_eq_false g; omega
              clear g
              cbv
              refine And.intro ?_ ?_
              · intro g
                have h7 : c.toNat = 7 := by have g0 : ((c.toNat : Nat) : Int) = 7 := of_decide_eq_true g; omega
                clear g
                have hq := K7 hw h1 h2 h3 h4 h5 h6 h7
                cbv
                refine ⟨_, _, c92, ⟨by kernel_rfl⟩, ?_⟩
                cbv
                obtain ⟨F, hF⟩ : ∃ F, F = loopF fV n ⟨s2, bad⟩ [] := ⟨_, rfl⟩
                rw [← hF] at hq
                subst hq
                refine ⟨Nat × DS × List Val, [500], fun x => [(6, .int .u64 (.s fun _ => (x.1 : Int)))], fun x => [(1000, .cells 224 [.loc 1001 0, .bool (.s fun _ => x.2.1.bad)]), (1001, rdO x.2.1.s), (4, .cells 27 [.int .u8 (.l 6), .bool .f, .int .i64 (.l 0), .str (fun _ => []), .nil, .own 500, .nil]), (500, .arrS 27 7 (fun _ => x.2.2.length) (stepV rv rf fun _ => x.2.2))],
                  fun x => x.1 < 18446744073709551616 ∧ x.2.1.s.Ok ∧ Room x.2.1 x.2.2 ∧ F = loopF fV x.1 x.2.1 x.2.2, fun x => x.1, (n, ⟨s2, bad⟩, []), [(500, none)], ⟨vl, ok2, rm0, hF⟩, ⟨?_⟩, fun x hx => ?_⟩
                · cbv
                  and_intros
                  all_goals first | exact trivial | exact ⟨rfl⟩ | exact ⟨rfl, fun _ _ _ _ => rfl⟩ | exact ⟨by kernel_rfl⟩
                · obtain ⟨m, d, acc⟩ := x
                  obtain ⟨hm, hd, hrm, hx⟩ : m < 18446744073709551616 ∧ d.s.Ok ∧ Room d acc ∧ F = loopF fV m d acc := hx
                  cbv
                  refine And.intro ?_ ?_
                  · intro g
                    have g : 0 < m := by have g0 : (0 : Int) < ((m : Nat) : Int) := of_decide_eq_true g; omega
                    obtain ⟨m, rfl⟩ : ∃ q, m = q + 1 := ⟨m - 1, by omega⟩
                    simp only [loopF] at hx
                    have c170 := con170 (d := d)
                    obtain ⟨wr, hwr⟩ : ∃ w, w = d.wrong := ⟨_, rfl⟩
                    rw [← hwr] at hx c170
                    have x1 : wr = true → F = (acc, d) := fun h => by rw [hx, if_pos h]
                    have x2 : wr = false → F = loopF fV m (fV d).2 (acc ++ [(fV d).1]) := fun h => by rw [hx, if_neg (by rw [h]; decide)]
                    have rm2 : wr = false → Room (fV d).2 (acc ++ [(fV d).1]) := fun h => room_next rV hd (by rw [← hwr]; exact h) hrm
                    have ok3 := (rV.goes d hd).ok
                    have al : acc.length < 1000000000 + 1 := by
                      have := hd.le; have := hd.sm
                      rcases hrm with h | ⟨_, h⟩ <;> omega
                    have ca := ih d (Y - 1) hd hYk
                    obtain ⟨P, hP⟩ : ∃ P, P = fV d := ⟨_, rfl⟩
                    rw [← hP] at x2 rm2 ok3 ca
                    obtain ⟨v, d'⟩ := P
                    have ca : Con 134 [.loc 1000 0, .int .i64 (.s fun _ => Y - 1)] (drO d) (valG rv rf v) (drO d') := ca
                    have wm : IntKind.u64.wrap (((m + 1 : Nat) : Int) - 1) = (m : Int) := by rw [IntKind.wrap_u64]; omega
                    have hm' : m < 18446744073709551616 := by omega
                    have hms : m < m + 1 := by omega
                    have la : lenOk (acc.length + 1) 104 ∧ AppOk 7 acc.length 1 (stepV rv rf fun _ => acc) (oneRow (dvV rv rf v)) := ⟨by unfold lenOk; omega, app_okV hmer acc v⟩
                    have le : acc.length + 1 = (acc ++ [v]).length ∧ RowEq 7 (acc ++ [v]).length (appRow (fun _ => acc.length) (stepV rv rf fun _ => acc) (oneRow (dvV rv rf v))) (stepV rv rf fun _ => acc ++ [v]) := ⟨by simp, row_eqV hmer acc v⟩
                    have x2 : wr = false → m < 18446744073709551616 ∧ d'.s.Ok ∧ Room d' (acc ++ [v]) ∧ F = loopF fV m d' (acc ++ [v]) := fun h => ⟨hm', ok3, rm2 h, x2 h⟩
                    unfold valG at ca
                    clear hx hwr g hP rm2
                    cbv
                    refine ⟨_, _, c170, ⟨by kernel_rfl⟩, ?_⟩
                    cbv
                    refine And.intro ?_ ?_
                    · intro g
                      have x2 := x2 (bnot_t g)
                      clear g
                      cbv
                      refine ⟨⟨bY⟩, ?_⟩
                      refine ⟨_, _, ca, ⟨by kernel_rfl⟩, ?_⟩
                      cbv
                      refine ⟨⟨la⟩, ⟨by kernel_rfl⟩, (m, d', acc ++ [v]), [(500, some 83)], x2, hms, ⟨?_⟩, ⟨?_⟩⟩
                      · kernel_rfl
                      · cbv
                        and_intros
                        all_goals first | exact trivial | exact ⟨wm⟩ | exact ⟨le⟩ | exact ⟨rfl⟩ | exact ⟨rfl, fun _ _ _ _ => rfl⟩ | exact ⟨by kernel_rfl⟩
                    · intro g
                      have x1 := x1 (bnot_f g)
                      subst x1
                      clear g
                      cbv
                      refine ⟨fun a w1 hh => ?_⟩
                      rw [hZ]; clear hZ Z
                      refine post0 (E := E) eok hbor hh ?_
                      clear hh
                      cbv
                      refine ⟨[], [500], ?_⟩
                      cbv
                      and_intros
                      all_goals first | exact trivial | exact ⟨rfl⟩ | exact ⟨rfl, fun _ _ _ _ => rfl⟩ | exact ⟨by kernel_rfl⟩
                  · intro g
                    have g : ¬ 0 < m := by have g0 : ¬ (0 : Int) < ((m : Nat) : Int) := of_decide_eq_false g; omega
                    obtain rfl : m = 0 := by omega
                    simp only [loopF] at hx
                    subst hx
                    clear g
                    cbv
                    refine ⟨fun a w1 hh => ?_⟩
                    rw [hZ]; clear hZ Z
                    refine post0 (E := E) eok hbor hh ?_
                    clear hh
                    cbv
                    refine ⟨[], [500], ?_⟩
                    cbv
                    and_intros
                    all_goals first | exact trivial | exact ⟨rfl⟩ | exact ⟨rfl, fun _ _ _ _ => rfl⟩ | exact ⟨by kernel_rfl⟩
              · intro g
                have h7 : ¬ c.toNat = 7 := by have g0 : ¬ ((c.toNat : Nat) : Int) = 7 := of_decide_eq_false g; omega
                clear g
                cbv
                refine And.intro ?_ ?_
                · intro g
                  have h8 : c.toNat = 8 := by have g0 : ((c.toNat : Nat) : Int) = 8 := of_decide_eq_true g; omega
                  clear g
                  have hq := K8 hw h1 h2 h3 h4 h5 h6 h7 h8
                  cbv
                  refine ⟨_, _, c92, ⟨by kernel_rfl⟩, ?_⟩
                  cbv
                  obtain ⟨F, hF⟩ : ∃ F, F = loopF fF n ⟨s2, bad⟩ [] := ⟨_, rfl⟩
                  rw [← hF] at hq
                  subst hq
                  refine ⟨Nat × DS × List Fld, [500], fun x => [(7, .int .u64 (.s fun _ => (x.1 : Int)))], fun x => [(1000, .cells 224 [.loc 1001 0, .bool (.s fun _ => x.2.1.bad)]), (1001, rdO x.2.1.s), (4, .cells 27 [.int .u8 (.l 7), .bool .f, .int .i64 (.l 0), .str (fun _ => []), .nil, .nil, .own 500]), (500, .arrS 132 8 (fun _ => x.2.2.length) (stepF rv rf fun _ => x.2.2))],
                    fun x => x.1 < 18446744073709551616 ∧ x.2.1.s.Ok ∧ Room x.2.1 x.2.2 ∧ F = loopF fF x.1 x.2.1 x.2.2, fun x => x.1, (n, ⟨s2, bad⟩, []), [(500, none)], ⟨vl, ok2, rm0, hF⟩, ⟨?_⟩, fun x hx => ?_⟩
                  · cbv
                    and_intros
                    all_goals first | exact trivial | exact ⟨rfl⟩ | exact ⟨rfl, fun _ _ _ _ => rfl⟩ | exact ⟨by kernel_rfl⟩
                  · obtain ⟨m, d, acc⟩ := x
                    obtain ⟨hm, hd, hrm, hx⟩ : m < 18446744073709551616 ∧ d.s.Ok ∧ Room d acc ∧ F = loopF fF m d acc := hx
                    cbv
                    refine And.intro ?_ ?_
                    · intro g
                      have g : 0 < m := by have g0 : (0 : Int) < ((m : Nat) : Int) := of_decide_eq_true g; omega
                      obtain ⟨m, rfl⟩ : ∃ q, m = q + 1 := ⟨m - 1, by omega⟩
                      simp only [loopF] at hx
                      have c170 := con170 (d := d)
                      obtain ⟨wr, hwr⟩ : ∃ w, w = d.wrong := ⟨_, rfl⟩
                      rw [← hwr] at hx c170
                      have x1 : wr = true → F = (acc, d) := fun h => by rw [hx, if_pos h]
                      have x2 : wr = false → F = loopF fF m (fF d).2 (acc ++ [(fF d).1]) := fun h => by rw [hx, if_neg (by rw [h]; decide)]
                      have rm2 : wr = false → Room (fF d).2 (acc ++ [(fF d).1]) := fun h => room_next rF hd (by rw [← hwr]; exact h) hrm
                      have ok3 := (rF.goes d hd).ok
                      have al : acc.length < 1000000000 + 1 := by
                        have := hd.le; have := hd.sm
                        rcases hrm with h | ⟨_, h⟩ <;> omega
                      have c37b := con37 hd
                      have okt := (goes_text hd).ok
                      have ef : fF d = (((textS d.s).2, (fV ⟨(textS d.s).1, d.bad⟩).1), (fV ⟨(textS d.s).1, d.bad⟩).2) := by rw [hfF]
                      obtain ⟨T4, hT4⟩ : ∃ P, P = textS d.s := ⟨_, rfl⟩
                      rw [← hT4] at c37b okt ef
                      obtain ⟨s4, tx4⟩ := T4
                      have okt : s4.Ok := okt
                      have ef : fF d = ((tx4, (fV ⟨s4, d.bad⟩).1), (fV ⟨s4, d.bad⟩).2) := ef
                      have c37b : Con 37 [.loc 1000 0] [(1000, rdO d.s)] (.str fun _ => tx4) [(1000, rdO s4)] := c37b
                      have ca := ih ⟨s4, d.bad⟩ (Y - 1) okt hYk
                      obtain ⟨P, hP⟩ : ∃ P, P = fV ⟨s4, d.bad⟩ := ⟨_, rfl⟩
                      rw [← hP] at ef ca
                      obtain ⟨v, d'⟩ := P
                      have ef : fF d = ((tx4, v), d') := ef
                      rw [ef] at x2 rm2 ok3
                      have ca : Con 134 [.loc 1000 0, .int .i64 (.s fun _ => Y - 1)] (drO ⟨s4, d.bad⟩) (valG rv rf v) (drO d') := ca
                      have ok3 : d'.s.Ok := ok3
                      have rm2 : wr = false → Room d' (acc ++ [(tx4, v)]) := rm2
                      have wm : IntKind.u64.wrap (((m + 1 : Nat) : Int) - 1) = (m : Int) := by rw [IntKind.wrap_u64]; omega
                      have hm' : m < 18446744073709551616 := by omega
                      have hms : m < m + 1 := by omega
                      have la : lenOk (acc.length + 1) 120 ∧ AppOk 8 acc.length 1 (stepF rv rf fun _ => acc) (oneRow (dvF rv rf (tx4, v))) := ⟨by unfold lenOk; omega, app_okF hmer acc (tx4, v)⟩
                      have le : acc.length + 1 = (acc ++ [(tx4, v)]).length ∧ RowEq 8 (acc ++ [(tx4, v)]).length (appRow (fun _ => acc.length) (stepF rv rf fun _ => acc) (oneRow (dvF rv rf (tx4, v)))) (stepF rv rf fun _ => acc ++ [(tx4, v)]) := ⟨by simp, row_eqF hmer acc (tx4, v)⟩
                      have x2 : wr = false → m < 18446744073709551616 ∧ d'.s.Ok ∧ Room d' (acc ++ [(tx4, v)]) ∧ F = loopF fF m d' (acc ++ [(tx4, v)]) := fun h => ⟨hm', ok3, rm2 h, x2 h⟩
                      unfold valG at ca
                      clear hx hwr g hP rm2 hT4 ef
                      cbv
                      refine ⟨_, _, c170, ⟨by kernel_rfl⟩, ?_⟩
                      cbv
                      refine And.intro ?_ ?_
                      · intro g
                        have x2 := x2 (bnot_t g)
                        clear g
                        cbv
                        refine ⟨_, _, c37b, ⟨by kernel_rfl⟩, ?_⟩
                        cbv
                        refine ⟨⟨bY⟩, ?_⟩
                        refine ⟨_, _, ca, ⟨by kernel_rfl⟩, ?_⟩
                        cbv
                        refine ⟨⟨la⟩, ⟨by kernel_rfl⟩, (m, d', acc ++ [(tx4, v)]), [(500, some 116)], x2, hms, ⟨?_⟩, ⟨?_⟩⟩
                        · kernel_rfl
                        · cbv
                          and_intros
                          all_goals first | exact trivial | exact ⟨wm⟩ | exact ⟨le⟩ | exact ⟨rfl⟩ | exact ⟨rfl, fun _ _ _ _ => rfl⟩ | exact ⟨by kernel_rfl⟩
                      · intro g
                        have x1 := x1 (bnot_f g)
                        subst x1
                        clear g
                        cbv
                        refine ⟨fun a w1 hh => ?_⟩
                        rw [hZ]; clear hZ Z
                        refine post0 (E := E) eok hbor hh ?_
                        clear hh
                        cbv
                        refine ⟨[], [500], ?_⟩
                        cbv
                        and_intros
                        all_goals first | exact trivial | exact ⟨rfl⟩ | exact ⟨rfl, fun _ _ _ _ => rfl⟩ | exact ⟨by kernel_rfl⟩
                    · intro g
                      have g : ¬ 0 < m := by have g0 : ¬ (0 : Int) < ((m : Nat) : Int) := of_decide_eq_false g; omega
                      obtain rfl : m = 0 := by omega
                      simp only [loopF] at hx
                      subst hx
                      clear g
                      cbv
                      refine ⟨fun a w1 hh => ?_⟩
                      rw [hZ]; clear hZ Z
                      refine post0 (E := E) eok hbor hh ?_
                      clear hh
                      cbv
                      refine ⟨[], [500], ?_⟩
                      cbv
                      and_intros
                      all_goals first | exact trivial | exact ⟨rfl⟩ | exact ⟨rfl, fun _ _ _ _ => rfl⟩ | exact ⟨by kernel_rfl⟩
                · intro g
                  have h8 : ¬ c.toNat = 8 := by have g0 : ¬ ((c.toNat : Nat) : Int) = 8 := of_decide_eq_false g; omega
                  clear g
                  cbv
                  have hq := K9 hw h1 h2 h3 h4 h5 h6 h7 h8
                  subst hq
                  refine ⟨fun a w1 hh => ?_⟩
                  rw [hZ]; clear hZ Z
                  refine ⟨rfl, ?_⟩
                  refine last_vc eok rawOk mixed conOk0 hbor hh fun Z hZ => ?_
                  clear hh
                  cbv
                  refine ⟨fun a w1 hh => ?_⟩
                  rw [hZ]; clear hZ Z
                  show bodyPostM _ _ _ _ _ .ret _ _
                  refine post0 (E := E) eok hbor hh ?_
                  clear hh
                  cbv
                  refine ⟨[], [], ?_⟩
                  cbv
                  and_intros
                  all_goals first | exact trivial | exact ⟨rfl⟩ | exact ⟨rfl, fun _ _ _ _ => rfl⟩ | exact ⟨by kernel_rfl⟩
set_option maxRecDepth 20000 in
set_option maxHeartbeats 4000000 in
theorem con134_0 {rv : RowG Val} {rf : RowG Fld} {d : DS} (hd : d.s.Ok) : Con 134 [.loc 1000 0, .int .i64 (.s fun _ => ((0 : Nat) : Int))] (drO d) (valG rv rf (valF 0 d).1) (drO (valF 0 d).2) := by
  have c36 := con36 hd
  show Con 134 _ _ (valG rv rf zeroV) (drO ⟨(u8S d.s).1, true⟩)
  obtain ⟨U, hU⟩ : ∃ U, U = u8S d.s := ⟨_, rfl⟩
  rw [← hU] at c36 ⊢
  clear hU
  obtain ⟨s1, c⟩ := U
  obtain ⟨⟨b, at_, er, ea⟩, bad⟩ := d
  have hz : (0 : Int) = 0 := rfl
  refine ⟨specX_of (spec_of_wp Tryz.func134 rfl (by kernel_rfl) rfl ?_) ⟨_, _, Tryz.func134, rfl, rfl⟩ (by decide)⟩
  intro η G w a hbor hh
  refine seq_vc eok rawOk mixed conOk0 hbor hh fun Z hZ => ?_
  clear hh
  cbv
  refine ⟨fun a w1 hh => ?_⟩
  rw [hZ]; clear hZ Z
  refine scope_fwd 0 rfl ?_
  refine last_vc eok rawOk mixed conOk0 hbor hh fun Z hZ => ?_
  clear hh
  cbv
  refine ⟨_, _, c36, ⟨by kernel_rfl⟩, ?_⟩
  cbv
  refine And.intro ?_ ?_
  · intro g
    clear g
    cbv
    refine ⟨fun a w1 hh => ?_⟩
    rw [hZ]; clear hZ Z
    refine ⟨rfl, ?_⟩
    refine last_vc eok rawOk mixed conOk0 hbor hh fun Z hZ => ?_
    clear hh
    cbv
    refine ⟨fun a w1 hh => ?_⟩
    rw [hZ]; clear hZ Z
    show bodyPostM _ _ _ _ _ .ret _ _
    refine post0 (E := E) eok hbor hh ?_
    clear hh
    cbv
    refine ⟨[], [], ?_⟩
    cbv
    and_intros
    all_goals first | exact trivial | exact ⟨rfl⟩ | exact ⟨rfl, fun _ _ _ _ => rfl⟩ | exact ⟨by kernel_rfl⟩
  · intro g
    exact absurd rfl (of_decide_eq_false g : ¬ (((0 : Nat) : Int) = 0))

/-- reader.value. -/
theorem con134 : ∀ (k : Nat) (d : DS) (z : Int), k < 1000 → d.s.Ok → z = (k : Int) → Con 134 [.loc 1000 0, .int .i64 (.s fun _ => z)] (drO d) (valSV (k + 1) (valF k d).1) (drO (valF k d).2)
  | 0, d, z, _, hd, hz => by subst hz; exact con134_0 hd
  | k + 1, d, z, hk, hd, hz => by
    subst hz
    rw [valSV_next]
    exact con134s (mer_rows (k + 1)) (by omega) hd fun d z hd hz => con134 k d z (by omega) hd hz

end Go.Proofs.YtkogbobplhebaaaGreatDoor

/- Events: what the document's reader reads, as a plain law. -/
namespace Go.Proofs.YtkogbobplhebaaaGreatDoor
open Go.SX Go.Ev

/-- A reader without fault, before those bytes. -/
structure At (s : RS) (r : List UInt8) : Prop where
  r : r = s.b.drop s.at_
  er : s.er = 0
  le : s.at_ ≤ s.b.length
theorem At.len {s : RS} {r : List UInt8} (h : At s r) : r.length = s.b.length - s.at_ := by rw [h.r, List.length_drop]
theorem at_take {s : RS} {r : List UInt8} (h : At s r) {n : Nat} (hn : n ≤ r.length) : ∃ s', takeS s n = (s', r.take n) ∧ At s' (r.drop n) ∧ s'.b = s.b := by
  have hl := h.len
  have hle := h.le
  refine ⟨⟨s.b, s.at_ + n, s.er, s.ea⟩, ?_, ⟨?_, h.er, ?_⟩, rfl⟩
  · unfold takeS
    rw [if_pos h.er, if_neg (by omega), if_neg (by omega), h.r]
    simp
  · show r.drop n = s.b.drop (s.at_ + n)
    rw [h.r, List.drop_drop]
  · show s.at_ + n ≤ s.b.length
    omega
theorem fail_er {s : RS} {e : Int} (he : e ≠ 0) : (failS s e).er ≠ 0 := by
  unfold failS; split
  · exact he
  · assumption
theorem take_er {s : RS} {r : List UInt8} (h : At s r) {n : Nat} (hn : ¬ n ≤ r.length) : (takeS s n).1.er ≠ 0 := by
  have hl := h.len
  have hle := h.le
  unfold takeS
  rw [if_pos h.er, if_neg (by omega), if_pos (by omega)]
  exact fail_er (by decide)
theorem at_u8 {s : RS} {c : UInt8} {r : List UInt8} (h : At s (c :: r)) : ∃ s', u8S s = (s', c) ∧ At s' r ∧ s'.b = s.b := by
  obtain ⟨s', h1, h2, h3⟩ := at_take h (n := 1) (by simp)
  have h1 : takeS s 1 = (s', [c]) := h1
  refine ⟨s', ?_, h2, h3⟩
  unfold u8S; rw [h1]; rfl
theorem u8_er {s : RS} (h : At s []) : (u8S s).1.er ≠ 0 := take_er h (n := 1) (by simp)
theorem vErr_ne : ∀ (i : Nat) (b : List UInt8), vDec i b = none → vErr i b ≠ 0
  | _, [], _ => by simp [vErr]
  | i, c :: r, h => by
    simp only [vDec] at h
    simp only [vErr]
    split at h
    · rename_i hq; rw [if_pos hq]; decide
    · rename_i hq
      rw [if_neg hq]
      split at h
      · cases h
      · rename_i h1
        rw [if_neg h1]
        split at h
        · rename_i hn; exact vErr_ne (i + 1) r hn
        · cases h
theorem at_var {s : RS} {r : List UInt8} (h : At s r) {n : Nat} {r' : List UInt8} (hv : vDec 0 r = some (n, r')) : ∃ s', varS s = (s', n) ∧ At s' r' ∧ s'.b = s.b := by
  have e := (dec_vEnc r hv).1
  have hl := h.len
  have hle := h.le
  have hle' : r'.length ≤ r.length := by rw [e, List.length_append]; omega
  refine ⟨⟨s.b, s.at_ + (r.length - r'.length), s.er, s.ea⟩, ?_, ⟨?_, h.er, ?_⟩, rfl⟩
  · unfold varS
    have hr : vRes (s.b.drop s.at_) = (n, r.length - r'.length, 0) := by unfold vRes; rw [← h.r, hv]
    rw [if_pos h.er, hr, if_pos rfl]
  · show r' = s.b.drop (s.at_ + (r.length - r'.length))
    rw [← List.drop_drop, ← h.r, e, List.length_append]
    rw [show (vEnc n).length + r'.length - r'.length = (vEnc n).length by omega, List.drop_left]
  · show s.at_ + (r.length - r'.length) ≤ s.b.length
    omega
theorem var_er {s : RS} {r : List UInt8} (h : At s r) (hv : vDec 0 r = none) : (varS s).1.er ≠ 0 ∧ (varS s).2 = 0 := by
  unfold varS
  have hr : vRes (s.b.drop s.at_) = (0, 0, vErr 0 r) := by unfold vRes; rw [← h.r, hv]
  have hne := vErr_ne 0 r hv
  rw [if_pos h.er, hr, if_neg hne]
  exact ⟨fail_er hne, rfl⟩
theorem at_text {s : RS} {r : List UInt8} (h : At s r) {t r' : List UInt8} (hv : tDec r = some (t, r')) : ∃ s', textS s = (s', t) ∧ At s' r' ∧ s'.b = s.b := by
  unfold tDec at hv
  split at hv
  · cases hv
  · rename_i n q hq
    split at hv
    · rename_i hn
      simp only [Option.some.injEq, Prod.mk.injEq] at hv
      obtain ⟨rfl, rfl⟩ := hv
      obtain ⟨s1, h1, h2, h3⟩ := at_var h hq
      obtain ⟨s2, h4, h5, h6⟩ := at_take h2 hn
      refine ⟨s2, ?_, h5, h6.trans h3⟩
      have hl := h2.len
      have hle := h2.le
      unfold textS
      rw [h1]
      rw [if_neg (by show ¬ ((s1.b.length - s1.at_ : Nat) : Int) < (n : Int); omega)]
      exact h4
    · cases hv
theorem text_er {s : RS} {r : List UInt8} (h : At s r) (hv : tDec r = none) : (textS s).1.er ≠ 0 := by
  unfold tDec at hv
  split at hv
  · rename_i hq
    obtain ⟨h1, h2⟩ := var_er h hq
    unfold textS
    rw [h2]
    split
    · exact fail_er (by decide)
    · unfold takeS
      rw [if_neg h1]; exact h1
  · rename_i n q hq
    split at hv
    · cases hv
    · rename_i hn
      obtain ⟨s1, h1, h2, h3⟩ := at_var h hq
      have hl := h2.len
      have hle := h2.le
      unfold textS
      rw [h1]
      rw [if_pos (by show ((s1.b.length - s1.at_ : Nat) : Int) < (n : Int); omega)]
      exact fail_er (by decide)
theorem wrong_of_er {s : RS} {b : Bool} (h : s.er ≠ 0) : (DS.mk s b).wrong = true := by
  unfold DS.wrong
  rw [decide_eq_false h]; cases b <;> rfl
theorem right_of {s : RS} {r : List UInt8} (h : At s r) : (DS.mk s false).wrong = false := by
  unfold DS.wrong
  simp [h.er]

/-- A reading follows one of bytes. -/
structure Fol {α : Type} (f : DS → α × DS) (g : List UInt8 → Option (α × List UInt8)) : Prop where
  yes : ∀ {s r x r'}, At s r → g r = some (x, r') → ∃ s', f ⟨s, false⟩ = (x, ⟨s', false⟩) ∧ At s' r' ∧ s'.b = s.b
  no : ∀ {s r}, At s r → g r = none → (f ⟨s, false⟩).2.wrong = true
theorem loop_wrong {α : Type} {f : DS → α × DS} {d : DS} (h : d.wrong = true) : ∀ (n : Nat) (acc : List α), (loopF f n d acc).2.wrong = true
  | 0, _ => h
  | n + 1, acc => by simp only [loopF]; rw [if_pos h]; exact h
theorem fol_loop {α : Type} {f : DS → α × DS} {g : List UInt8 → Option (α × List UInt8)} (h : Fol f g) : ∀ (n : Nat) {s : RS} {r : List UInt8} (acc : List α), At s r →
    match rep g n r with
    | some (l, r') => ∃ s', loopF f n ⟨s, false⟩ acc = (acc ++ l, ⟨s', false⟩) ∧ At s' r' ∧ s'.b = s.b
    | none => (loopF f n ⟨s, false⟩ acc).2.wrong = true
  | 0, s, r, acc, hs => ⟨s, by simp [loopF], hs, rfl⟩
  | n + 1, s, r, acc, hs => by
    simp only [rep, loopF]
    rw [if_neg (by rw [right_of hs]; decide)]
    cases hg : g r with
    | none => exact loop_wrong (h.no hs hg) _ _
    | some p =>
      obtain ⟨x, r1⟩ := p
      obtain ⟨s1, h1, h2, h3⟩ := h.yes hs hg
      have ih := fol_loop h n (acc ++ [x]) h2
      rw [h1]
      simp only
      cases hr : rep g n r1 with
      | none => rw [hr] at ih; exact ih
      | some q =>
        obtain ⟨l, r2⟩ := q
        rw [hr] at ih
        obtain ⟨s2, h4, h5, h6⟩ := ih
        exact ⟨s2, by rw [h4, List.append_assoc]; rfl, h5, h6.trans h3⟩
theorem fol_F {f : DS → Val × DS} {g : List UInt8 → Option (Val × List UInt8)} (h : Fol f g) (hw : ∀ s, s.er ≠ 0 → (f ⟨s, false⟩).2.wrong = true) : Fol (fun d : DS => (((textS d.s).2, (f ⟨(textS d.s).1, d.bad⟩).1), (f ⟨(textS d.s).1, d.bad⟩).2)) (fun q => (tDec q).bind fun t => (g t.2).map fun y => ((t.1, y.1), y.2)) := by
  refine ⟨fun {s r x r'} hs hg => ?_, fun {s r} hs hg => ?_⟩
  · obtain ⟨t, ht, hg⟩ := Option.bind_eq_some_iff.1 hg
    obtain ⟨y, hy, hx⟩ := Option.map_eq_some_iff.1 hg
    obtain ⟨t1, t2⟩ := t
    obtain ⟨y1, y2⟩ := y
    simp only [Prod.mk.injEq] at hx
    obtain ⟨rfl, rfl⟩ := hx
    obtain ⟨s1, h1, h2, h3⟩ := at_text hs ht
    obtain ⟨s2, h4, h5, h6⟩ := h.yes h2 hy
    exact ⟨s2, by simp only [h1, h4], h5, h6.trans h3⟩
  · cases ht : tDec r with
    | none =>
      exact hw _ (text_er hs ht)
    | some t =>
      obtain ⟨t1, t2⟩ := t
      obtain ⟨s1, h1, h2, h3⟩ := at_text hs ht
      rw [ht] at hg
      simp only [Option.bind_some, Option.map_eq_none_iff] at hg
      simp only [h1]
      exact h.no h2 hg
theorem takeS_er {s : RS} {n : Int} (h : s.er ≠ 0) : takeS s n = (s, []) := by unfold takeS; rw [if_neg h]
theorem u8S_er {s : RS} (h : s.er ≠ 0) : (u8S s).1 = s := by unfold u8S; rw [takeS_er h]
theorem val_er : ∀ (k : Nat) {s : RS} {b : Bool}, s.er ≠ 0 → (valF k ⟨s, b⟩).2.wrong = true
  | 0, s, b, h => rfl
  | k + 1, s, b, h => by
    simp only [valF]
    have e := u8S_er h
    rw [e, if_pos (wrong_of_er h)]
    rfl
theorem fol_val : ∀ k, Fol (valF k) (rdV k)
  | 0 => ⟨fun _ hg => (by cases hg), fun _ _ => rfl⟩
  | k + 1 => by
    have ih := fol_val k
    have ihF := fol_F ih fun s h => val_er k h
    have key : ∀ {s : RS} {r : List UInt8}, At s r → match rdV (k + 1) r with
        | some (v, r') => ∃ s', valF (k + 1) ⟨s, false⟩ = (v, ⟨s', false⟩) ∧ At s' r' ∧ s'.b = s.b
        | none => (valF (k + 1) ⟨s, false⟩).2.wrong = true := by
      intro s r hs
      match r, hs with
      | [], hs =>
        simp only [rdV, valF]
        rw [if_pos (wrong_of_er (u8_er hs))]; rfl
      | c :: b, hs =>
        obtain ⟨s1, h1, h2, h3⟩ := at_u8 hs
        simp only [rdV, valF, h1, right_of h2, Bool.false_eq_true, if_false]
        by_cases c1 : c = 1
        · rw [if_pos c1, if_pos c1]; exact ⟨s1, rfl, h2, h3⟩
        rw [if_neg c1, if_neg c1]
        by_cases c2 : c = 2
        · rw [if_pos c2, if_pos c2]; exact ⟨s1, rfl, h2, h3⟩
        rw [if_neg c2, if_neg c2]
        by_cases c3 : c = 3
        · rw [if_pos c3, if_pos c3]; exact ⟨s1, rfl, h2, h3⟩
        rw [if_neg c3, if_neg c3]
        by_cases c4 : c = 4
        · rw [if_pos c4, if_pos c4]
          cases hv : vDec 0 b with
          | none => exact wrong_of_er (var_er h2 hv).1
          | some p =>
            obtain ⟨n, r'⟩ := p
            obtain ⟨s2, h4, h5, h6⟩ := at_var h2 hv
            exact ⟨s2, by rw [h4], h5, h6.trans h3⟩
        rw [if_neg c4, if_neg c4]
        by_cases c5 : c = 5
        · rw [if_pos c5, if_pos c5]
          cases hv : tDec b with
          | none => exact wrong_of_er (text_er h2 hv)
          | some p =>
            obtain ⟨n, r'⟩ := p
            obtain ⟨s2, h4, h5, h6⟩ := at_text h2 hv
            exact ⟨s2, by rw [h4], h5, h6.trans h3⟩
        rw [if_neg c5, if_neg c5]
        by_cases c6 : c = 6
        · rw [if_pos c6, if_pos c6]
          cases hv : tDec b with
          | none => exact wrong_of_er (text_er h2 hv)
          | some p =>
            obtain ⟨n, r'⟩ := p
            obtain ⟨s2, h4, h5, h6⟩ := at_text h2 hv
            exact ⟨s2, by rw [h4], h5, h6.trans h3⟩
        rw [if_neg c6, if_neg c6]
        by_cases c7 : c = 7
        · rw [if_pos c7, if_pos c7]
          cases hv : vDec 0 b with
          | none =>
            exact loop_wrong (wrong_of_er (var_er h2 hv).1) _ _
          | some p =>
            obtain ⟨n, r1⟩ := p
            obtain ⟨s2, h4, h5, h6⟩ := at_var h2 hv
            have hl := fol_loop ih n [] h5
            simp only [Option.bind_some, h4]
            cases hr : rep (rdV k) n r1 with
            | none => rw [hr] at hl; exact hl
            | some q =>
              obtain ⟨l, r2⟩ := q
              rw [hr] at hl
              obtain ⟨s3, h7, h8, h9⟩ := hl
              exact ⟨s3, by rw [h7]; rfl, h8, h9.trans (h6.trans h3)⟩
        rw [if_neg c7, if_neg c7]
        by_cases c8 : c = 8
        · rw [if_pos c8, if_pos c8]
          cases hv : vDec 0 b with
          | none =>
            exact loop_wrong (wrong_of_er (var_er h2 hv).1) _ _
          | some p =>
            obtain ⟨n, r1⟩ := p
            obtain ⟨s2, h4, h5, h6⟩ := at_var h2 hv
            have hl := fol_loop ihF n [] h5
            simp only [Option.bind_some, h4]
            cases hr : rep (fun q => (tDec q).bind fun t => (rdV k t.2).map fun y => ((t.1, y.1), y.2)) n r1 with
            | none => rw [hr] at hl; exact hl
            | some q =>
              obtain ⟨l, r2⟩ := q
              rw [hr] at hl
              obtain ⟨s3, h7, h8, h9⟩ := hl
              exact ⟨s3, by rw [h7]; rfl, h8, h9.trans (h6.trans h3)⟩
        rw [if_neg c8, if_neg c8]
        rfl
    refine ⟨fun {s r x r'} hs hg => ?_, fun {s r} hs hg => ?_⟩
    · have := key hs; rw [hg] at this; exact this
    · have := key hs; rw [hg] at this; exact this
end Go.Proofs.YtkogbobplhebaaaGreatDoor

/- Events: value.own. -/
namespace Go.Proofs.YtkogbobplhebaaaGreatDoor
open Go.SX Go.Ev

/-- Has it what its kind has, alone? -/
def Shape (v : Val) : Prop := ((v.bool == (bareV v).bool) = true ∧ v.int = (bareV v).int ∧ (v.text == (bareV v).text) = true ∧ ((v.bytes.length : Int) = 0 ∨ v.kind = 5) ∧ ((v.list.length : Int) = 0 ∨ v.kind = 6) ∧ ((v.fields.length : Int) = 0 ∨ v.kind = 7) ∧ 1 ≤ v.kind ∧ v.kind ≤ 7)
instance {v : Val} : Decidable (Shape v) := by unfold Shape; infer_instance
/-- Is that field wrong, by its name or its place? -/
def fbad (F : List Fld) (i : Nat) : Bool := !nameB (F.getD i default).1 || (decide (0 < (i : Int)) && (Op.bytesLess (F.getD i default).1 (F.getD ((i : Int) - 1).toNat default).1 || (F.getD i default).1 == (F.getD ((i : Int) - 1).toNat default).1))
/-- What is wrong with a value by itself. -/
def ownE (v : Val) : Int :=
  if ¬ Shape v then 30 else if ¬ ∀ i, i < v.fields.length → fbad v.fields i = false then 30 else if Lib.validD v.text = false then 34
  else if 1000 < (Lib.runeCountL v.text : Int) ∨ 4000 < (v.bytes.length : Int) then 33 else 0

set_option maxRecDepth 20000 in
set_option maxHeartbeats 16000000 in
theorem con131_bad {rv : RowG Val} {rf : RowG Fld} {v : Val} (hsh : ¬ Shape v) : Con 131 [valG (stepV rv rf) (stepF rv rf) v] [] (.int .u16 (.s fun _ => 30)) [] := by
  obtain ⟨Y, hY⟩ : ∃ Y, Y = v.bytes := ⟨_, rfl⟩
  obtain ⟨L, hL⟩ : ∃ L, L = v.list := ⟨_, rfl⟩
  obtain ⟨F, hF⟩ : ∃ F, F = v.fields := ⟨_, rfl⟩
  obtain ⟨B, hB⟩ : ∃ B, B = (bareV v).bool := ⟨_, rfl⟩
  obtain ⟨I, hI⟩ : ∃ I, I = (bareV v).int := ⟨_, rfl⟩
  obtain ⟨T, hT⟩ : ∃ T, T = (bareV v).text := ⟨_, rfl⟩
  have cb : Con 161 [valG (stepV rv rf) (stepF rv rf) v] [] (.agg [.int .u8 (.s fun _ => v.kind), .bool (.s fun _ => B), .int .i64 (.s fun _ => I), .str fun _ => T, .dat (.bytes fun _ => []), .dat (.sl 7 (fun _ => 0) (stepV rv rf fun _ => [])), .dat (.sl 8 (fun _ => 0) (stepF rv rf fun _ => []))]) [] := by
    rw [hB, hI, hT]; exact con161
  have hsh : ¬ ((v.bool == B) = true ∧ v.int = I ∧ (v.text == T) = true ∧ ((Y.length : Int) = 0 ∨ v.kind = 5) ∧ ((L.length : Int) = 0 ∨ v.kind = 6) ∧ ((F.length : Int) = 0 ∨ v.kind = 7) ∧ 1 ≤ v.kind ∧ v.kind ≤ 7) := by unfold Shape at hsh; rw [← hB, ← hI, ← hT, ← hY, ← hL, ← hF] at hsh; exact hsh
  refine con_of Tryz.func131 rfl rfl 121 _ rfl rfl rfl rfl ?_
  unfold valG at cb ⊢
  rw [← hY, ← hL, ← hF] at cb
  rw [← hY, ← hL, ← hF]
  cbv
  refine ⟨_, _, cb, ⟨by kernel_rfl⟩, ?_⟩
  cbv
  clear cb hY hL hF hB hI hT
  iterate 14 (all_goals try (refine And.intro ?_ ?_ <;> (intro g; (try (replace g : (v.bool == B) = true := g)); (try (replace g : (v.bool == B) = false := g)); (try (replace g : (v.text == T) = true := g)); (try (replace g : (v.text == T) = false := g)); (try (replace g : (v.text == T) = false := bnot_t g)); (try (replace g : (v.text == T) = true := bnot_f g)); (try (replace g := of_decide_eq_true g)); (try (replace g := of_decide_eq_false g)); (try (replace g := of_decide_eq_false (bnot_t g))); (try (replace g := of_decide_eq_true (bnot_f g))); (try (simp only [IE.den_l, IE.den_s] at g)); cbv)))
  all_goals first
    | (refine ⟨[], [], ?_⟩
       cbv
       and_intros
       all_goals first | exact trivial | exact ⟨rfl⟩ | exact ⟨by kernel_rfl⟩)
    | (exfalso; exact hsh ⟨(by first | assumption | exact beq_iff_eq.2 (by assumption)), by omega, (by first | assumption | exact beq_iff_eq.2 (by assumption)), by omega, by omega, by omega, by omega, by omega⟩)
    | (exfalso; omega)

set_option maxRecDepth 20000 in
set_option maxHeartbeats 16000000 in
theorem con131_ok {rv : RowG Val} {rf : RowG Fld} {v : Val} (hsh : Shape v) (ht : v.text.length < 9223372036854775807) (hfl : v.fields.length < 1000000000000000) (hnm : ∀ p ∈ v.fields, p.1.length < 9223372036854775807) : Con 131 [valG (stepV rv rf) (stepF rv rf) v] [] (.int .u16 (.s fun _ => ownE v)) [] := by
  obtain ⟨R, hR⟩ : ∃ R, R = ownE v := ⟨_, rfl⟩
  have c163 := con163 ht
  have c164 := con164 (s := v.text) ht
  obtain ⟨V, hV⟩ : ∃ V, V = Lib.validD v.text := ⟨_, rfl⟩
  obtain ⟨C, hC⟩ : ∃ C, C = (Lib.runeCountL v.text : Int) := ⟨_, rfl⟩
  have h30 : ∀ i, i < v.fields.length → fbad v.fields i = true → 30 = R := fun i hi h => by
    rw [hR]; unfold ownE; rw [if_neg (fun h => h hsh), if_pos (fun h2 => by have := h2 i hi; rw [h] at this; cases this)]
  have hall : (∀ i, i < v.fields.length → fbad v.fields i = false) → (V = false → 34 = R) ∧ (V = true → (1000 < C ∨ 4000 < (v.bytes.length : Int)) → 33 = R) ∧ (V = true → ¬ (1000 < C ∨ 4000 < (v.bytes.length : Int)) → 0 = R) := fun h => by
    have e : R = if Lib.validD v.text = false then 34 else if 1000 < (Lib.runeCountL v.text : Int) ∨ 4000 < (v.bytes.length : Int) then 33 else 0 := by
      rw [hR]; unfold ownE; rw [if_neg (fun h => h hsh), if_neg (fun h2 => h2 h)]
    rw [← hV, ← hC] at e
    exact ⟨fun h1 => by rw [e, if_pos h1], fun h1 h2 => by rw [e, if_neg (by rw [h1]; decide), if_pos h2], fun h1 h2 => by rw [e, if_neg (by rw [h1]; decide), if_neg h2]⟩
  rw [← hV] at c163
  rw [← hC] at c164
  rw [← hR]
  have hnm : ∀ i, i < v.fields.length → (v.fields.getD i default).1.length < 9223372036854775807 := fun i hi => hnm _ (getD_in hi)
  obtain ⟨Y, hY⟩ : ∃ Y, Y = v.bytes := ⟨_, rfl⟩
  obtain ⟨L, hL⟩ : ∃ L, L = v.list := ⟨_, rfl⟩
  obtain ⟨F, hF⟩ : ∃ F, F = v.fields := ⟨_, rfl⟩
  obtain ⟨B, hB⟩ : ∃ B, B = (bareV v).bool := ⟨_, rfl⟩
  obtain ⟨I, hI⟩ : ∃ I, I = (bareV v).int := ⟨_, rfl⟩
  obtain ⟨T, hT⟩ : ∃ T, T = (bareV v).text := ⟨_, rfl⟩
  have cb : Con 161 [valG (stepV rv rf) (stepF rv rf) v] [] (.agg [.int .u8 (.s fun _ => v.kind), .bool (.s fun _ => B), .int .i64 (.s fun _ => I), .str fun _ => T, .dat (.bytes fun _ => []), .dat (.sl 7 (fun _ => 0) (stepV rv rf fun _ => [])), .dat (.sl 8 (fun _ => 0) (stepF rv rf fun _ => []))]) [] := by
    rw [hB, hI, hT]; exact con161
  obtain ⟨s1, s2, s3, s4, s5, s6, s7, s8⟩ : ((v.bool == B) = true ∧ v.int = I ∧ (v.text == T) = true ∧ ((Y.length : Int) = 0 ∨ v.kind = 5) ∧ ((L.length : Int) = 0 ∨ v.kind = 6) ∧ ((F.length : Int) = 0 ∨ v.kind = 7) ∧ 1 ≤ v.kind ∧ v.kind ≤ 7) := by unfold Shape at hsh; rw [← hB, ← hI, ← hT, ← hY, ← hL, ← hF] at hsh; exact hsh
  rw [← hF] at h30 hall hnm hfl
  rw [← hY] at hall
  refine con_of Tryz.func131 rfl rfl 121 _ rfl rfl rfl rfl ?_
  unfold valG at cb ⊢
  rw [← hY, ← hL, ← hF] at cb
  rw [← hY, ← hL, ← hF]
  have s1' : v.bool = B := beq_iff_eq.1 s1
  have s3' : v.text = T := beq_iff_eq.1 s3
  cbv
  refine ⟨_, _, cb, ⟨by kernel_rfl⟩, ?_⟩
  cbv
  clear cb hY hL hF hB hI hT hsh hR hV hC
  iterate 14 (all_goals try (refine And.intro ?_ ?_ <;> (intro g; (try (replace g : (v.bool == B) = true := g)); (try (replace g : (v.bool == B) = false := g)); (try (replace g : (v.text == T) = true := g)); (try (replace g : (v.text == T) = false := g)); (try (replace g : (v.text == T) = false := bnot_t g)); (try (replace g : (v.text == T) = true := bnot_f g)); (try (replace g := of_decide_eq_true g)); (try (replace g := of_decide_eq_false g)); (try (replace g := of_decide_eq_false (bnot_t g))); (try (replace g := of_decide_eq_true (bnot_f g))); (try (simp only [IE.den_l, IE.den_s] at g)); cbv)))
  all_goals try (first | (exfalso; omega) | (exfalso; exact absurd s1' (by assumption)) | (exfalso; exact absurd s3 (by rw [show (v.text == T) = false by assumption]; decide)) | (exfalso; exact absurd s3' (by assumption)))
  all_goals
    refine ⟨Nat, [], fun i => [(79, .int .i64 (.s fun _ => (i : Int)))], fun _ => [(1, .cells 27 [.int .u8 (.s fun _ => v.kind), .bool (.s fun _ => v.bool), .int .i64 (.s fun _ => v.int), .str fun _ => v.text, .dat (.bytes fun _ => Y), .dat (.sl 7 (fun _ => L.length) (stepV rv rf fun _ => L)), .dat (.sl 8 (fun _ => F.length) (stepF rv rf fun _ => F))])], fun i => i ≤ F.length ∧ ∀ j, j < i → fbad F j = false, fun i => F.length - i, 0, [], ⟨Nat.zero_le _, fun j hj => absurd hj (Nat.not_lt_zero _)⟩, ⟨?_⟩, fun i hx => ?_⟩
    · cbv
      and_intros
      all_goals first | exact trivial | exact ⟨rfl⟩ | exact ⟨rfl, fun _ _ _ _ => rfl⟩ | exact ⟨by kernel_rfl⟩
    · obtain ⟨hi, hx⟩ : i ≤ F.length ∧ ∀ j, j < i → fbad F j = false := hx
      cbv
      refine And.intro ?_ ?_
      · intro g1
        have g1 : (i : Int) < (F.length : Int) := of_decide_eq_true g1
        have hlt : i < F.length := by omega
        have o1 : indexObl (i : Int) F.length := ⟨by omega, g1⟩
        have o2 : 0 < (i : Int) → indexObl ((i : Int) - 1) F.length := fun h => ⟨by omega, by omega⟩
        have b2 : bound64 ((i : Int) - 1) := by unfold bound64; omega
        have bi : bound64 ((i : Int) + 1) := by unfold bound64; omega
        have ei : (i : Int) + 1 = ((i + 1 : Nat) : Int) := by omega
        have hms : F.length - (i + 1) < F.length - i := by omega
        have hb : ∀ b, fbad F i = b → (b = true → 30 = R) ∧ (b = false → i + 1 ≤ F.length ∧ ∀ j, j < i + 1 → fbad F j = false) := fun b h => ⟨fun h2 => h30 i hlt (by rw [h, h2]), fun h2 => ⟨hlt, fun j hj => by
          rcases Nat.lt_succ_iff_lt_or_eq.1 hj with h3 | h3
          · exact hx j h3
          · rw [h3, h, h2]⟩⟩
        have cn := con162 (s := (F.getD i default).1) (hnm i hlt)
        obtain ⟨q, hq⟩ : ∃ q, q = nameB (F.getD i default).1 := ⟨_, rfl⟩
        have hf : fbad F i = (!q || (decide (0 < (i : Int)) && (Op.bytesLess (F.getD i default).1 (F.getD ((i : Int) - 1).toNat default).1 || (F.getD i default).1 == (F.getD ((i : Int) - 1).toNat default).1))) := by unfold fbad; rw [hq]
        rw [← hq] at cn
        cbv
        refine ⟨⟨o1⟩, ?_⟩
        refine ⟨_, _, cn, ⟨by kernel_rfl⟩, ?_⟩
        cbv
        refine And.intro ?_ ?_
        · intro g
          have g : (!q) = true := g
          have e1 := (hb true (by rw [hf, g]; rfl)).1 rfl
          cbv
          refine ⟨⟨by kernel_rfl⟩, ?_⟩
          cbv
          refine ⟨[], [], ?_⟩
          cbv
          and_intros
          all_goals first | exact trivial | exact ⟨e1⟩ | exact ⟨rfl⟩ | exact ⟨by kernel_rfl⟩
        · intro g
          have gq : (!q) = false := g
          cbv
          refine And.intro ?_ ?_
          · intro g
            have gi : 0 < (i : Int) := of_decide_eq_true g
            have o2 := o2 gi
            obtain ⟨z, hz⟩ : ∃ z, z = (Op.bytesLess (F.getD i default).1 (F.getD ((i : Int) - 1).toNat default).1 || (F.getD i default).1 == (F.getD ((i : Int) - 1).toNat default).1) := ⟨_, rfl⟩
            have hf2 : fbad F i = z := by rw [hf, gq, decide_eq_true gi, hz]; simp
            cbv
            refine ⟨⟨b2⟩, ⟨o2⟩, ⟨by kernel_rfl⟩, ?_⟩
            refine And.intro ?_ ?_
            · intro g
              have g : z = true := by rw [hz]; exact g
              have e1 := (hb z hf2).1 g
              cbv
              refine ⟨[], [], ?_⟩
              cbv
              and_intros
              all_goals first | exact trivial | exact ⟨e1⟩ | exact ⟨rfl⟩ | exact ⟨by kernel_rfl⟩
            · intro g
              have g : z = false := by rw [hz]; exact g
              have e1 := (hb z hf2).2 g
              cbv
              refine ⟨⟨bi⟩, i + 1, [], e1, hms, ⟨?_⟩, ⟨?_⟩⟩
              · kernel_rfl
              · cbv
                and_intros
                all_goals first | exact trivial | exact ⟨ei⟩ | exact ⟨rfl⟩ | exact ⟨rfl, fun _ _ _ _ => rfl⟩ | exact ⟨by kernel_rfl⟩
          · intro g
            have gi : ¬ 0 < (i : Int) := of_decide_eq_false g
            have e1 := (hb false (by rw [hf, gq, decide_eq_false gi]; rfl)).2 rfl
            cbv
            refine ⟨⟨by kernel_rfl⟩, ?_⟩
            refine ⟨⟨bi⟩, i + 1, [], e1, hms, ⟨?_⟩, ⟨?_⟩⟩
            · kernel_rfl
            · cbv
              and_intros
              all_goals first | exact trivial | exact ⟨ei⟩ | exact ⟨rfl⟩ | exact ⟨rfl, fun _ _ _ _ => rfl⟩ | exact ⟨by kernel_rfl⟩
      · intro g1
        have g1 : ¬ (i : Int) < (F.length : Int) := of_decide_eq_false g1
        obtain ⟨e34, e33, e0⟩ := hall fun j hj => hx j (by omega)
        cbv
        refine ⟨_, _, c163, ⟨by kernel_rfl⟩, ?_⟩
        cbv
        refine And.intro ?_ ?_
        · intro g
          have e1 := e34 (bnot_t g)
          cbv
          refine ⟨[], [], ?_⟩
          cbv
          and_intros
          all_goals first | exact trivial | exact ⟨e1⟩ | exact ⟨rfl⟩ | exact ⟨by kernel_rfl⟩
        · intro g
          have gv := bnot_f g
          have e33 := e33 gv
          have e0 := e0 gv
          cbv
          refine ⟨_, _, c164, ⟨by kernel_rfl⟩, ?_⟩
          cbv
          refine And.intro ?_ ?_
          · intro g
            have e1 := e33 (.inl (of_decide_eq_true g))
            cbv
            refine ⟨[], [], ?_⟩
            cbv
            and_intros
            all_goals first | exact trivial | exact ⟨e1⟩ | exact ⟨rfl⟩ | exact ⟨by kernel_rfl⟩
          · intro g
            have gc : ¬ 1000 < C := of_decide_eq_false g
            cbv
            refine And.intro ?_ ?_
            · intro g
              have e1 := e33 (.inr (of_decide_eq_true g))
              cbv
              refine ⟨[], [], ?_⟩
              cbv
              and_intros
              all_goals first | exact trivial | exact ⟨e1⟩ | exact ⟨rfl⟩ | exact ⟨by kernel_rfl⟩
            · intro g
              have gy : ¬ 4000 < (Y.length : Int) := of_decide_eq_false g
              have e1 := e0 fun h => h.elim gc gy
              cbv
              refine ⟨[], [], ?_⟩
              cbv
              and_intros
              all_goals first | exact trivial | exact ⟨e1⟩ | exact ⟨rfl⟩ | exact ⟨by kernel_rfl⟩

end Go.Proofs.YtkogbobplhebaaaGreatDoor

/- Events: value.walk: v and all below, handed to yield; what yield leads to is an object of its own. -/
namespace Go.Proofs.YtkogbobplhebaaaGreatDoor
open Go.SX Go.Ev

/-- value.own. -/
theorem con131 (d : Nat) (v : Val) (hd : v.depth ≤ d) (hv : v.All Sml) : Con 131 [valSV d v] [] (.int .u16 (.s fun _ => ownE v)) [] := by
  cases d with
  | zero => exact (no_depth hd).elim
  | succ d =>
    obtain ⟨⟨f1, f2, f3, f4, f5⟩, aL, aF, dL, dF⟩ := layers hd hv
    rw [valSV_next]
    by_cases hs : Shape v
    · exact con131_ok hs (by omega) (by omega) fun p hp => by have := f5 p hp; omega
    · have e : ownE v = 30 := by unfold ownE; rw [if_pos hs]
      rw [e]; exact con131_bad hs

section
variable {σ : Type}
mutual
/-- What a walk comes to: the state behind it, and whether it went to its end. -/
def walkV (step : σ → Val → σ × Bool) : Val → σ → σ × Bool
  | .mk k b i t y l f, s => if (step s (.mk k b i t y l f)).2 then if (walkL step l (step s (.mk k b i t y l f)).1).2 then walkF step f (walkL step l (step s (.mk k b i t y l f)).1).1 else ((walkL step l (step s (.mk k b i t y l f)).1).1, false) else ((step s (.mk k b i t y l f)).1, false)
def walkL (step : σ → Val → σ × Bool) : List Val → σ → σ × Bool
  | [], s => (s, true)
  | v :: r, s => if (walkV step v s).2 then walkL step r (walkV step v s).1 else ((walkV step v s).1, false)
def walkF (step : σ → Val → σ × Bool) : List (List UInt8 × Val) → σ → σ × Bool
  | [], s => (s, true)
  | (_, v) :: r, s => if (walkV step v s).2 then walkF step r (walkV step v s).1 else ((walkV step v s).1, false)
end
theorem walkV_eq (step : σ → Val → σ × Bool) (v : Val) (s : σ) : walkV step v s = if (step s v).2 then if (walkL step v.list (step s v).1).2 then walkF step v.fields (walkL step v.list (step s v).1).1 else ((walkL step v.list (step s v).1).1, false) else ((step s v).1, false) := by
  cases v; simp only [walkV, Val.list, Val.fields]; rfl
theorem walkL_next {step : σ → Val → σ × Bool} {l : List Val} {i : Nat} {s : σ} (hi : i < l.length) : walkL step (l.drop i) s = if (walkV step (l.getD i default) s).2 then walkL step (l.drop (i + 1)) (walkV step (l.getD i default) s).1 else ((walkV step (l.getD i default) s).1, false) := by
  rw [drop_at hi]; simp only [walkL]
theorem walkF_next {step : σ → Val → σ × Bool} {l : List Fld} {i : Nat} {s : σ} (hi : i < l.length) : walkF step (l.drop i) s = if (walkV step (l.getD i default).2 s).2 then walkF step (l.drop (i + 1)) (walkV step (l.getD i default).2 s).1 else ((walkV step (l.getD i default).2 s).1, false) := by
  rw [drop_at hi]
  obtain ⟨n, x⟩ := l.getD i default
  simp only [walkF]

section
variable {step : σ → Val → σ × Bool} {al : σ → Prop} (ha : ∀ x s, al s → (step s x).2 = true → al (step s x).1)
include ha
mutual
theorem walkV_al : ∀ (v : Val) (s : σ), al s → (walkV step v s).2 = true → al (walkV step v s).1
  | .mk k b i t y l f, s, h, h2 => by
      simp only [walkV] at h2 ⊢
      split at h2
      · rename_i h3
        rw [if_pos h3]
        split at h2
        · rename_i h4
          rw [if_pos h4]
          exact walkF_al f _ (walkL_al l _ (ha _ _ h h3) h4) h2
        · cases h2
      · cases h2
theorem walkL_al : ∀ (l : List Val) (s : σ), al s → (walkL step l s).2 = true → al (walkL step l s).1
  | [], s, h, _ => by simp only [walkL]; exact h
  | v :: r, s, h, h2 => by
      simp only [walkL] at h2 ⊢
      split at h2
      · rename_i h3
        rw [if_pos h3]
        exact walkL_al r _ (walkV_al v s h h3) h2
      · cases h2
theorem walkF_al : ∀ (l : List (List UInt8 × Val)) (s : σ), al s → (walkF step l s).2 = true → al (walkF step l s).1
  | [], s, h, _ => by simp only [walkF]; exact h
  | (_, v) :: r, s, h, h2 => by
      simp only [walkF] at h2 ⊢
      split at h2
      · rename_i h3
        rw [if_pos h3]
        exact walkF_al r _ (walkV_al v s h h3) h2
      · cases h2
end
end
set_option maxRecDepth 20000 in
set_option maxHeartbeats 8000000 in
theorem con160s {rv : RowG Val} {rf : RowG Fld} {v : Val} {n m : Int} {y : Value} {Φ : σ → World → Value → List Nat → Prop} {step : σ → Val → σ × Bool} {al : σ → Prop} {s : σ} (ha : (step s v).2 = true → al (step s v).1) (hw : ∀ x s, al s → (walkV step x s).2 = true → al (walkV step x s).1) (hn : 0 ≤ n ∧ n < 1000000) (hm : m = n + 1) (hL' : v.list.length < 1000000000000) (hF' : v.fields.length < 1000000000000)
    (hy : Con yieldC [.rv 1000 (fun _ => y), .int .i64 (.s fun _ => n), valG (stepV rv rf) (stepF rv rf) v] [(1000, .cust none (fun _ => Φ s))] (.bool (.s fun _ => (step s v).2)) [(1000, .cust none (fun _ => Φ (step s v).1))])
    (ihL : ∀ x ∈ v.list, ∀ s, al s → Con 160 [valG rv rf x, .int .i64 (.s fun _ => m), .rv 1000 (fun _ => y)] [(1000, .cust none (fun _ => Φ s))] (.bool (.s fun _ => (walkV step x s).2)) [(1000, .cust none (fun _ => Φ (walkV step x s).1))])
    (ihF : ∀ p ∈ v.fields, ∀ s, al s → Con 160 [valG rv rf p.2, .int .i64 (.s fun _ => m), .rv 1000 (fun _ => y)] [(1000, .cust none (fun _ => Φ s))] (.bool (.s fun _ => (walkV step p.2 s).2)) [(1000, .cust none (fun _ => Φ (walkV step p.2 s).1))]) :
    Con 160 [valG (stepV rv rf) (stepF rv rf) v, .int .i64 (.s fun _ => n), .rv 1000 (fun _ => y)] [(1000, .cust none (fun _ => Φ s))] (.bool (.s fun _ => (walkV step v s).2)) [(1000, .cust none (fun _ => Φ (walkV step v s).1))] := by
  obtain ⟨R, hR⟩ : ∃ R, R = walkV step v s := ⟨_, rfl⟩
  have hW := walkV_eq step v s
  rw [← hR] at hW ⊢
  obtain ⟨S1, hS1⟩ : ∃ S, S = (step s v).1 := ⟨_, rfl⟩
  obtain ⟨B1, hB1⟩ : ∃ S, S = (step s v).2 := ⟨_, rfl⟩
  rw [← hS1, ← hB1] at hW hy ha
  obtain ⟨Y, hY⟩ : ∃ Y, Y = v.bytes := ⟨_, rfl⟩
  obtain ⟨L, hL⟩ : ∃ L, L = v.list := ⟨_, rfl⟩
  obtain ⟨F, hF⟩ : ∃ F, F = v.fields := ⟨_, rfl⟩
  rw [← hL] at hW hL' ihL
  rw [← hF] at hW hF' ihF
  have stop1 : B1 = false → false = R.2 ∧ (∀ w v B, Φ S1 w v B → Φ R.1 w v B) := fun h => by rw [hW, if_neg (by rw [h]; decide)]; exact ⟨rfl, fun _ _ _ h => h⟩
  have go1 : B1 = true → al S1 ∧ R = if (walkL step (L.drop 0) S1).2 then walkF step F (walkL step (L.drop 0) S1).1 else ((walkL step (L.drop 0) S1).1, false) := fun h => ⟨ha h, by rw [hW, if_pos h, List.drop_zero]⟩
  have bm : bound64 (n + 1) := by unfold bound64; omega
  have hm' : n + 1 = m := hm.symm
  refine con_of Tryz.func160 rfl rfl 45 _ rfl rfl rfl rfl ?_
  unfold valG at hy ⊢
  rw [← hY, ← hL, ← hF] at hy
  rw [← hY, ← hL, ← hF]
  cbv
  refine ⟨_, _, hy, ⟨by kernel_rfl⟩, ?_⟩
  cbv
  refine And.intro ?_ ?_
  · intro g
    obtain ⟨e1, e2⟩ := stop1 (bnot_t g)
    cbv
    refine ⟨[], [], ?_⟩
    cbv
    and_intros
    all_goals first | exact trivial | exact ⟨e1⟩ | exact ⟨rfl, e2⟩ | exact ⟨by kernel_rfl⟩
  intro g
  have go1 := go1 (bnot_f g)
  clear g stop1 hW hS1 hB1 ha
  cbv
  refine ⟨Nat × σ, [], fun x => [(19, .int .i64 (.s fun _ => (x.1 : Int)))], fun x => [(3, .cells 27 [.int .u8 (.s fun _ => v.kind), .bool (.s fun _ => v.bool), .int .i64 (.s fun _ => v.int), .str fun _ => v.text, .dat (.bytes fun _ => Y), .dat (.sl 7 (fun _ => L.length) (stepV rv rf fun _ => L)), .dat (.sl 8 (fun _ => F.length) (stepF rv rf fun _ => F))]), (1000, .cust none (fun _ => Φ x.2))],
    fun x => x.1 ≤ L.length ∧ al x.2 ∧ R = (if (walkL step (L.drop x.1) x.2).2 then walkF step F (walkL step (L.drop x.1) x.2).1 else ((walkL step (L.drop x.1) x.2).1, false)), fun x => L.length - x.1, (0, S1), [], ⟨Nat.zero_le _, go1⟩, ⟨?_⟩, fun x hx => ?_⟩
  · cbv
    and_intros
    all_goals first | exact trivial | exact ⟨rfl⟩ | exact ⟨rfl, fun _ _ _ h => h⟩ | exact ⟨rfl, fun _ _ _ _ => rfl⟩ | exact ⟨by kernel_rfl⟩
  · obtain ⟨i, u⟩ := x
    obtain ⟨hi, hau, hx⟩ : i ≤ L.length ∧ al u ∧ R = (if (walkL step (L.drop i) u).2 then walkF step F (walkL step (L.drop i) u).1 else ((walkL step (L.drop i) u).1, false)) := hx
    cbv
    refine And.intro ?_ ?_
    · intro g1
      have g1 : (i : Int) < (L.length : Int) := of_decide_eq_true g1
      have hlt : i < L.length := by omega
      have o1 : indexObl (i : Int) L.length := ⟨by omega, g1⟩
      have bi : bound64 ((i : Int) + 1) := by unfold bound64; omega
      have ei : (i : Int) + 1 = ((i + 1 : Nat) : Int) := by omega
      have hms : L.length - (i + 1) < L.length - i := by omega
      have ca := ihL (L.getD i default) (getD_in hlt) u hau
      have hw2 := hw (L.getD i default) u hau
      rw [walkL_next hlt] at hx
      obtain ⟨u2, hu2⟩ : ∃ q, q = (walkV step (L.getD i default) u).1 := ⟨_, rfl⟩
      obtain ⟨b2, hb2⟩ : ∃ q, q = (walkV step (L.getD i default) u).2 := ⟨_, rfl⟩
      rw [← hu2, ← hb2] at hx ca hw2
      have stop2 : b2 = false → false = R.2 ∧ (∀ w v B, Φ u2 w v B → Φ R.1 w v B) := fun h => by rw [hx]; simp only [h, Bool.false_eq_true, if_false]; exact ⟨trivial, fun _ _ _ h => h⟩
      have go2 : b2 = true → i + 1 ≤ L.length ∧ al u2 ∧ R = (if (walkL step (L.drop (i + 1)) u2).2 then walkF step F (walkL step (L.drop (i + 1)) u2).1 else ((walkL step (L.drop (i + 1)) u2).1, false)) := fun h => ⟨hlt, hw2 h, by rw [hx]; simp only [h, if_true]⟩
      rw [← hm'] at ca
      clear hx hu2 hb2 hw2
      unfold valG at ca
      cbv
      refine ⟨⟨o1⟩, ?_⟩
      refine ⟨⟨bm⟩, ?_⟩
      refine ⟨_, _, ca, ⟨by kernel_rfl⟩, ?_⟩
      cbv
      refine And.intro ?_ ?_
      · intro g
        obtain ⟨e1, e2⟩ := stop2 (bnot_t g)
        cbv
        refine ⟨[], [], ?_⟩
        cbv
        and_intros
        all_goals first | exact trivial | exact ⟨e1⟩ | exact ⟨rfl, e2⟩ | exact ⟨by kernel_rfl⟩
      · intro g
        have e1 := go2 (bnot_f g)
        cbv
        refine ⟨⟨bi⟩, (i + 1, u2), [], e1, hms, ⟨?_⟩, ⟨?_⟩⟩
        · kernel_rfl
        · cbv
          and_intros
          all_goals first | exact trivial | exact ⟨ei⟩ | exact ⟨rfl⟩ | exact ⟨rfl, fun _ _ _ h => h⟩ | exact ⟨rfl, fun _ _ _ _ => rfl⟩ | exact ⟨by kernel_rfl⟩
    · intro g1
      have g1 : ¬ (i : Int) < (L.length : Int) := of_decide_eq_false g1
      have hx0 : R = walkF step (F.drop 0) u := by
        rw [List.drop_of_length_le (by omega)] at hx
        rw [List.drop_zero, hx]; rfl
      clear hx
      cbv
      refine ⟨Nat × σ, [], fun x => [(33, .int .i64 (.s fun _ => (x.1 : Int)))], fun x => [(1000, .cust none (fun _ => Φ x.2))],
        fun x => x.1 ≤ F.length ∧ al x.2 ∧ R = walkF step (F.drop x.1) x.2, fun x => F.length - x.1, (0, u), [], ⟨Nat.zero_le _, hau, hx0⟩, ⟨?_⟩, fun x hx => ?_⟩
      · cbv
        and_intros
        all_goals first | exact trivial | exact ⟨rfl⟩ | exact ⟨rfl, fun _ _ _ h => h⟩ | exact ⟨rfl, fun _ _ _ _ => rfl⟩ | exact ⟨by kernel_rfl⟩
      · obtain ⟨j, u⟩ := x
        obtain ⟨hj, hau, hx⟩ : j ≤ F.length ∧ al u ∧ R = walkF step (F.drop j) u := hx
        cbv
        refine And.intro ?_ ?_
        · intro g1
          have g1 : (j : Int) < (F.length : Int) := of_decide_eq_true g1
          have hlt : j < F.length := by omega
          have o1 : indexObl (j : Int) F.length := ⟨by omega, g1⟩
          have bi : bound64 ((j : Int) + 1) := by unfold bound64; omega
          have ei : (j : Int) + 1 = ((j + 1 : Nat) : Int) := by omega
          have hms : F.length - (j + 1) < F.length - j := by omega
          have ca := ihF (F.getD j default) (getD_in hlt) u hau
          have hw2 := hw (F.getD j default).2 u hau
          rw [walkF_next hlt] at hx
          obtain ⟨u2, hu2⟩ : ∃ q, q = (walkV step (F.getD j default).2 u).1 := ⟨_, rfl⟩
          obtain ⟨b2, hb2⟩ : ∃ q, q = (walkV step (F.getD j default).2 u).2 := ⟨_, rfl⟩
          rw [← hu2, ← hb2] at hx ca hw2
          have stop2 : b2 = false → false = R.2 ∧ (∀ w v B, Φ u2 w v B → Φ R.1 w v B) := fun h => by rw [hx]; simp only [h, Bool.false_eq_true, if_false]; exact ⟨trivial, fun _ _ _ h => h⟩
          have go2 : b2 = true → j + 1 ≤ F.length ∧ al u2 ∧ R = walkF step (F.drop (j + 1)) u2 := fun h => ⟨hlt, hw2 h, by rw [hx]; simp only [h, if_true]⟩
          rw [← hm'] at ca
          clear hx hu2 hb2 hw2
          unfold valG at ca
          cbv
          refine ⟨⟨o1⟩, ?_⟩
          refine ⟨⟨bm⟩, ?_⟩
          refine ⟨_, _, ca, ⟨by kernel_rfl⟩, ?_⟩
          cbv
          refine And.intro ?_ ?_
          · intro g
            obtain ⟨e1, e2⟩ := stop2 (bnot_t g)
            cbv
            refine ⟨[], [], ?_⟩
            cbv
            and_intros
            all_goals first | exact trivial | exact ⟨e1⟩ | exact ⟨rfl, e2⟩ | exact ⟨by kernel_rfl⟩
          · intro g
            have e1 := go2 (bnot_f g)
            cbv
            refine ⟨⟨bi⟩, (j + 1, u2), [], e1, hms, ⟨?_⟩, ⟨?_⟩⟩
            · kernel_rfl
            · cbv
              and_intros
              all_goals first | exact trivial | exact ⟨ei⟩ | exact ⟨rfl⟩ | exact ⟨rfl, fun _ _ _ h => h⟩ | exact ⟨rfl, fun _ _ _ _ => rfl⟩ | exact ⟨by kernel_rfl⟩
        · intro g1
          have g1 : ¬ (j : Int) < (F.length : Int) := of_decide_eq_false g1
          have hx0 : R = (u, true) := by
            rw [List.drop_of_length_le (by omega)] at hx; exact hx
          have e1 : true = R.2 := by rw [hx0]
          have e2 : ∀ w v B, Φ u w v B → Φ R.1 w v B := by rw [hx0]; exact fun _ _ _ h => h
          cbv
          refine ⟨[], [], ?_⟩
          cbv
          and_intros
          all_goals first | exact trivial | exact ⟨e1⟩ | exact ⟨rfl, e2⟩ | exact ⟨by kernel_rfl⟩
end
end Go.Proofs.YtkogbobplhebaaaGreatDoor

/- Events: value.walk, value.each. -/
namespace Go.Proofs.YtkogbobplhebaaaGreatDoor
open Go.SX Go.Ev

/-- What a call of yield does: a round. -/
structure YieldOk {σ : Type} (y : Value) (Φ : σ → World → Value → List Nat → Prop) (step : σ → Val → σ × Bool) (al : σ → Prop) : Prop where
  con : ∀ (d : Nat) (x : Val) (n : Int) (s : σ), al s → x.depth ≤ d → x.All Sml → Con yieldC [.rv 1000 (fun _ => y), .int .i64 (.s fun _ => n), valSV d x] [(1000, .cust none (fun _ => Φ s))] (.bool (.s fun _ => (step s x).2)) [(1000, .cust none (fun _ => Φ (step s x).1))]
  keep : ∀ x s, al s → (step s x).2 = true → al (step s x).1

/-- value.walk. -/
theorem con160 {σ : Type} {y : Value} {Φ : σ → World → Value → List Nat → Prop} {step : σ → Val → σ × Bool} {al : σ → Prop} (hy : YieldOk y Φ step al) :
    ∀ (d : Nat) (v : Val) (n : Int) (s : σ), al s → v.depth ≤ d → v.All Sml → 0 ≤ n → n + d < 1000000 →
      Con 160 [valSV d v, .int .i64 (.s fun _ => n), .rv 1000 (fun _ => y)] [(1000, .cust none (fun _ => Φ s))] (.bool (.s fun _ => (walkV step v s).2)) [(1000, .cust none (fun _ => Φ (walkV step v s).1))]
  | 0, v, _, _, _, hd, _, _, _ => (no_depth hd).elim
  | d + 1, v, n, s, ha, hd, hv, h0, hn => by
    obtain ⟨⟨f1, f2, f3, f4, f5⟩, aL, aF, dL, dF⟩ := layers hd hv
    have h1 := hy.con (d + 1) v n s ha hd hv
    rw [valSV_next] at h1 ⊢
    exact con160s (al := al) (hy.keep v s ha) (walkV_al hy.keep) ⟨h0, by omega⟩ rfl (by omega) (by omega) h1 (fun x hx s ha => con160 hy d x (n + 1) s ha (dL x hx) (all_in aL hx) (by omega) (by omega)) (fun p hp s ha => con160 hy d p.2 (n + 1) s ha (dF p hp) (allF_in aF hp) (by omega) (by omega))

set_option maxRecDepth 20000 in
set_option maxHeartbeats 4000000 in
theorem con159s {rv : RowG Val} {rf : RowG Fld} {v : Val} {y : Value} {Φ Ψ : World → Value → List Nat → Prop} {b : Bool}
    (ca : Con 160 [valG rv rf v, .int .i64 (.s fun _ => 1), .rv 1000 (fun _ => y)] [(1000, .cust none (fun _ => Φ))] (.bool (.s fun _ => b)) [(1000, .cust none (fun _ => Ψ))]) :
    Con 159 [.rv 1000 (fun _ => y), .loc 1001 0] [(1000, .cust none (fun _ => Φ)), (1001, .cells 27 (valL rv rf v))] (.tup []) [(1000, .cust none (fun _ => Ψ)), (1001, .cells 27 (valL rv rf v))] := by
  obtain ⟨Y, hY⟩ : ∃ Y, Y = v.bytes := ⟨_, rfl⟩
  obtain ⟨L, hL⟩ : ∃ L, L = v.list := ⟨_, rfl⟩
  obtain ⟨F, hF⟩ : ∃ F, F = v.fields := ⟨_, rfl⟩
  have ca := Con.args (svs' := [valG rv rf v, .int .i64 (.l 1), .rv 1000 (fun _ => y)]) ca fun η G w vs h => by
    match vs, h with
    | [], h => exact h.elim
    | [_], h => exact h.2.elim
    | v0 :: v1 :: vs, h =>
      obtain ⟨h0, h1, h2⟩ := h
      refine ⟨h0, ?_, h2⟩
      simp only [SVRel, IE.den_l, IE.den_s] at h1 ⊢
      exact h1
  refine con_of Tryz.func159 rfl rfl 6 _ rfl rfl rfl rfl ?_
  unfold valG at ca
  unfold valL
  rw [← hY, ← hL, ← hF] at ca
  rw [← hY, ← hL, ← hF]
  cbv
  refine ⟨_, _, ca, ⟨by kernel_rfl⟩, ?_⟩
  cbv
  refine ⟨[], [], ?_⟩
  cbv
  and_intros
  all_goals first | exact trivial | exact ⟨rfl⟩ | exact ⟨rfl, fun _ _ _ h => h⟩ | exact ⟨rfl, fun _ _ _ _ => rfl⟩ | exact ⟨by kernel_rfl⟩
/-- The closure that value.each makes. -/
theorem con159 {σ : Type} {y : Value} {Φ : σ → World → Value → List Nat → Prop} {step : σ → Val → σ × Bool} {al : σ → Prop} (hy : YieldOk y Φ step al) (d : Nat) (v : Val) (s : σ) (ha : al s) (hd : v.depth ≤ d) (hv : v.All Sml) (hn : d < 100000) :
    Con 159 [.rv 1000 (fun _ => y), .loc 1001 0] [(1000, .cust none (fun _ => Φ s)), (1001, .cells 27 (valL (rowsG d).1 (rowsG d).2 v))] (.tup []) [(1000, .cust none (fun _ => Φ (walkV step v s).1)), (1001, .cells 27 (valL (rowsG d).1 (rowsG d).2 v))] :=
  con159s (con160 hy d v 1 s ha hd hv (by omega) (by omega))
set_option maxRecDepth 20000 in
set_option maxHeartbeats 4000000 in
/-- value.each. -/
theorem con130 {rv : RowG Val} {rf : RowG Fld} {v : Val} : Con 130 [valG rv rf v] [] (.fn 159 [.loc 2000 0]) [(2000, .cells 27 (valL rv rf v))] := by
  obtain ⟨Y, hY⟩ : ∃ Y, Y = v.bytes := ⟨_, rfl⟩
  obtain ⟨L, hL⟩ : ∃ L, L = v.list := ⟨_, rfl⟩
  obtain ⟨F, hF⟩ : ∃ F, F = v.fields := ⟨_, rfl⟩
  refine con_of Tryz.func130 rfl rfl 4 _ rfl rfl rfl rfl ?_
  unfold valG valL
  rw [← hY, ← hL, ← hF]
  cbv
  refine ⟨[(2000, some 1)], [], ?_⟩
  cbv
  and_intros
  all_goals first | exact trivial | exact ⟨rfl⟩ | exact ⟨rfl, fun _ _ _ _ => rfl⟩ | exact ⟨by kernel_rfl⟩
end Go.Proofs.YtkogbobplhebaaaGreatDoor

/- Events: value.Check: the rounds of its two walks. -/
namespace Go.Proofs.YtkogbobplhebaaaGreatDoor
open Go.SX Go.Ev

theorem conOk : ∀ f svs objs r objs', Con f svs objs r objs' → SpecX Tryz.prog f svs objs r objs' := fun _ _ _ _ _ h => h.spec
noncomputable def rf84 : List (Code × Code) := rfs (Tryz.f84.body.getD .skip)

/- The first walk: how many there are. -/
def cstep (n : Nat) (_ : Val) : Nat × Bool := (n + 1, decide (n + 1 ≤ 512))
def pe84 (n : Nat) : Option Code := if n ≤ 512 then none else some .ret
def rc84 (n : Nat) : Int := if n ≤ 512 then 0 else 32
def ob84 (n : Nat) : Objs := [(1001, .cells 34 [.int .u16 (.s fun _ => rc84 n)]), (1002, .cells 3 [.int .i64 (.s fun _ => (n : Int))])]

set_option maxRecDepth 20000 in
set_option maxHeartbeats 4000000 in
theorem yield84a {r : RI} (hsz : r.tmps.size = 26) (h2 : r.ps = #[11, 12]) (h3 : r.assign = (rf84.getD 0 (.skip, .skip)).1) (h4 : r.body = (rf84.getD 0 (.skip, .skip)).2) {η0 : OEnv} {w00 : World} (hi : ∀ k o, η0 k = some o → o.inner = []) (hn : ∀ k o, η0 k = some o → k = 1001 ∨ k = 1002)
    (hk2 : SVRel η0 (fun _ => False) w00 (.loc 1001 0) (r.tmps.getD 2 undef)) (hk3 : SVRel η0 (fun _ => False) w00 (.loc 1002 0) (r.tmps.getD 3 undef)) :
    YieldOk (.func (.yield r.rcd) #[] #[]) (fun n => RΦ r η0 (pe84 n) (ob84 n)) cstep (fun n => n ≤ 512) := by
  refine ⟨fun d x n s hs hd hx => ?_, fun x s _ h => of_decide_eq_true h⟩
  have hpe : pe84 s = none := if_pos hs
  have hpe' : (cstep s x).2 = (pe84 (cstep s x).1).isNone := by
    show decide (s + 1 ≤ 512) = (pe84 (s + 1)).isNone
    unfold pe84
    by_cases h : s + 1 ≤ 512
    · rw [if_pos h, decide_eq_true h]; rfl
    · rw [if_neg h, decide_eq_false h]; rfl
  have hlt : s < 1000 := by omega
  show Con yieldC _ [(1000, .cust none (fun _ => RΦ r η0 (pe84 s) (ob84 s)))] _ [(1000, .cust none (fun _ => RΦ r η0 (pe84 (s + 1)) (ob84 (s + 1))))]
  rw [hpe]
  refine ⟨yield_sound (S := Con) (E := E) eok rawOk mixed conOk h2 (keep := slots 26 [(2, .loc 1001 0), (3, .loc 1002 0)]) (w00 := w00) hpe' hi (fun k o hk => ?_) rfl (by rw [slots_len, hsz]) ⟨rfl, ?_⟩ (fun k x hk => ?_) (fun t => ?_) ?_⟩
  · rcases hn k o hk with rfl | rfl <;> rfl
  · rfl
  · unfold ob84 at hk
    simp only [lookN] at hk
    cases e1 : eqN 1001 k with
    | true => rw [← eqN_eq e1]; exact ⟨rfl, rfl⟩
    | false =>
      rw [e1] at hk
      cases e2 : eqN 1002 k with
      | true => rw [← eqN_eq e2]; exact ⟨rfl, rfl⟩
      | false => rw [e2] at hk; cases hk
  · refine slots_rel (fun t s hm => ?_) t
    simp only [List.mem_cons, List.not_mem_nil, or_false, Prod.mk.injEq] at hm
    rcases hm with ⟨rfl, rfl⟩ | ⟨rfl, rfl⟩
    · exact hk2
    · exact hk3
  · rw [h3, h4]
    obtain ⟨A2, hA2⟩ : ∃ A, A = valSV d x := ⟨_, rfl⟩
    obtain ⟨pe', hp⟩ : ∃ p, p = pe84 (s + 1) := ⟨_, rfl⟩
    obtain ⟨rc', hr⟩ : ∃ p, p = rc84 (s + 1) := ⟨_, rfl⟩
    obtain ⟨rc, hrc⟩ : ∃ p, p = rc84 s := ⟨_, rfl⟩
    have hrc0 : rc = 0 := by rw [hrc]; exact if_pos hs
    have yes : 512 < (s : Int) + 1 → pe' = some .ret ∧ (32 : Int) = rc' := fun h => by
      have : ¬ s + 1 ≤ 512 := by omega
      rw [hp, hr]; unfold pe84 rc84; rw [if_neg this, if_neg this]; exact ⟨rfl, rfl⟩
    have no : ¬ 512 < (s : Int) + 1 → pe' = none ∧ rc = rc' := fun h => by
      have : s + 1 ≤ 512 := by omega
      rw [hp, hr, hrc0]; unfold pe84 rc84; rw [if_pos this, if_pos this]; exact ⟨rfl, rfl⟩
    have b1 : bound64 ((s : Int) + 1) := by unfold bound64; omega
    have e1 : (s : Int) + 1 = ((s + 1 : Nat) : Int) := by omega
    rw [← hA2]
    unfold ob84
    rw [← hp, ← hr, ← hrc]
    obtain ⟨s', hs'⟩ : ∃ q, q = s + 1 := ⟨_, rfl⟩
    rw [← hs'] at e1 ⊢
    clear hp hr hpe hpe' hA2 hrc hrc0 hs'
    cbv
    refine ⟨⟨b1⟩, fun g => ?_, fun g => ?_⟩
    · obtain ⟨e2, e3⟩ := yes (of_decide_eq_true g)
      cbv
      refine ⟨⟨e2⟩, [], ?_⟩
      cbv
      and_intros
      all_goals first | exact trivial | exact ⟨e3⟩ | exact ⟨e1⟩ | exact ⟨rfl⟩ | exact ⟨by kernel_rfl⟩
    · obtain ⟨e2, e3⟩ := no (of_decide_eq_false g)
      cbv
      refine ⟨⟨e2⟩, [], ?_⟩
      cbv
      and_intros
      all_goals first | exact trivial | exact ⟨e3⟩ | exact ⟨e1⟩ | exact ⟨rfl⟩ | exact ⟨by kernel_rfl⟩

/- The second walk: whether each is well-made by itself. -/
def estep (_ : Int) (x : Val) : Int × Bool := (ownE x, decide (ownE x = 0))
def pe84b (e : Int) : Option Code := if e = 0 then none else some .ret
def ob84b (e : Int) : Objs := [(1001, .cells 34 [.int .u16 (.s fun _ => e)])]

set_option maxRecDepth 20000 in
set_option maxHeartbeats 4000000 in
theorem yield84b {r : RI} (hsz : r.tmps.size = 26) (h2 : r.ps = #[19, 20]) (h3 : r.assign = (rf84.getD 1 (.skip, .skip)).1) (h4 : r.body = (rf84.getD 1 (.skip, .skip)).2) {η0 : OEnv} {w00 : World} (hi : ∀ k o, η0 k = some o → o.inner = []) (hn : ∀ k o, η0 k = some o → k = 1001)
    (hk2 : SVRel η0 (fun _ => False) w00 (.loc 1001 0) (r.tmps.getD 2 undef)) :
    YieldOk (.func (.yield r.rcd) #[] #[]) (fun e => RΦ r η0 (pe84b e) (ob84b e)) estep (fun e => e = 0) := by
  refine ⟨fun d x n s hs hd hx => ?_, fun x s _ h => of_decide_eq_true h⟩
  have hpe : pe84b s = none := if_pos hs
  have ca := con131 d x hd hx
  obtain ⟨eo, heo⟩ : ∃ e, e = ownE x := ⟨_, rfl⟩
  have hpe' : (estep s x).2 = (pe84b (estep s x).1).isNone := by
    show decide (ownE x = 0) = (pe84b (ownE x)).isNone
    unfold pe84b
    by_cases h : ownE x = 0
    · rw [if_pos h, decide_eq_true h]; rfl
    · rw [if_neg h, decide_eq_false h]; rfl
  show Con yieldC _ [(1000, .cust none (fun _ => RΦ r η0 (pe84b s) (ob84b s)))] _ [(1000, .cust none (fun _ => RΦ r η0 (pe84b (ownE x)) (ob84b (ownE x))))]
  rw [hpe]
  refine ⟨yield_sound (S := Con) (E := E) eok rawOk mixed conOk h2 (keep := slots 26 [(2, .loc 1001 0)]) (w00 := w00) hpe' hi (fun k o hk => ?_) rfl (by rw [slots_len, hsz]) ⟨rfl, ?_⟩ (fun k x hk => ?_) (fun t => ?_) ?_⟩
  · rw [hn k o hk]; rfl
  · rfl
  · unfold ob84b at hk
    simp only [lookN] at hk
    cases e1 : eqN 1001 k with
    | true => rw [← eqN_eq e1]; exact ⟨rfl, rfl⟩
    | false => rw [e1] at hk; cases hk
  · refine slots_rel (fun t s hm => ?_) t
    simp only [List.mem_cons, List.not_mem_nil, or_false, Prod.mk.injEq] at hm
    obtain ⟨rfl, rfl⟩ := hm
    exact hk2
  · rw [h3, h4]
    rw [← heo] at ca ⊢
    have yes : ¬ eo = 0 → pe84b eo = some .ret := fun h => if_neg h
    have no : eo = 0 → pe84b eo = none ∧ (0 : Int) = eo := fun h => ⟨if_pos h, h.symm⟩
    obtain ⟨pe', hp⟩ : ∃ p, p = pe84b eo := ⟨_, rfl⟩
    rw [← hp] at yes no ⊢
    subst hs
    unfold valSV at ca ⊢
    obtain ⟨rv, hrv⟩ : ∃ q, q = (rowsG d).1 := ⟨_, rfl⟩
    obtain ⟨rf, hrf⟩ : ∃ q, q = (rowsG d).2 := ⟨_, rfl⟩
    rw [← hrv, ← hrf] at ca ⊢
    obtain ⟨Y, hY⟩ : ∃ Y, Y = x.bytes := ⟨_, rfl⟩
    obtain ⟨L, hL⟩ : ∃ L, L = x.list := ⟨_, rfl⟩
    obtain ⟨F, hF⟩ : ∃ F, F = x.fields := ⟨_, rfl⟩
    unfold valG at ca ⊢
    rw [← hY, ← hL, ← hF] at ca ⊢
    unfold ob84b
    clear hp heo hpe hpe' hrv hrf hY hL hF
    cbv
    refine ⟨_, _, ca, ⟨by kernel_rfl⟩, ?_⟩
    cbv
    refine ⟨fun g => ?_, fun g => ?_⟩
    · have e2 := yes (of_decide_eq_false (bnot_t g))
      cbv
      refine ⟨⟨e2⟩, [], ?_⟩
      cbv
      and_intros
      all_goals first | exact trivial | exact ⟨rfl⟩ | exact ⟨by kernel_rfl⟩
    · have hz : eo = 0 := of_decide_eq_true (bnot_f g)
      obtain ⟨e2, e3⟩ := no hz
      cbv
      refine ⟨⟨e2⟩, [], ?_⟩
      cbv
      and_intros
      all_goals first | exact trivial | exact ⟨e3⟩ | exact ⟨rfl⟩ | exact ⟨by kernel_rfl⟩
end Go.Proofs.YtkogbobplhebaaaGreatDoor

/- Events: value.Check. -/
namespace Go.Proofs.YtkogbobplhebaaaGreatDoor
open Go.SX Go.Ev

theorem sml_fits {v : Val} (h : Sml v) : Fits v := ⟨by have := h.1; omega, by have := h.2.1; omega, by have := h.2.2.1; omega, by have := h.2.2.2.1; omega, fun p hp => by have := h.2.2.2.2 p hp; omega⟩
theorem hit84a {d : Nat} {v : Val} (hd : v.depth ≤ d) (hv : v.All Sml) (hdn : d < 100000) {tmps : Array Value} (hsz : tmps.size = 26) {w : World} (r : RI) (η0 : OEnv) (h1 : r.tmps = tmps) (h2 : r.ps = #[11, 12]) (h3 : r.assign = (rf84.getD 0 (.skip, .skip)).1) (h4 : r.body = (rf84.getD 0 (.skip, .skip)).2)
    (hi : ∀ k o, η0 k = some o → o.inner = []) (hn : ∀ k o, η0 k = some o → k = 1001 ∨ k = 1002) (hk2 : SVRel η0 (fun _ => False) w (.loc 1001 0) (tmps.getD 2 undef)) (hk3 : SVRel η0 (fun _ => False) w (.loc 1002 0) (tmps.getD 3 undef)) :
    SpecX Tryz.prog 159 [.rv 1000 (fun _ => .func (.yield r.rcd) #[] #[]), .loc 1001 0] [(1000, RJ r η0 none (ob84 0)), (1001, .cells 27 (valL (rowsG d).1 (rowsG d).2 v))] (.tup [])
      [(1000, RJ r η0 (pe84 (walkV cstep v 0).1) (ob84 (walkV cstep v 0).1)), (1001, .cells 27 (valL (rowsG d).1 (rowsG d).2 v))] := by
  subst h1
  exact (con159 (yield84a hsz h2 h3 h4 hi hn hk2 hk3) d v 0 (Nat.zero_le _) hd hv hdn).spec
theorem hit84b {d : Nat} {v : Val} (hd : v.depth ≤ d) (hv : v.All Sml) (hdn : d < 100000) {tmps : Array Value} (hsz : tmps.size = 26) {w : World} (r : RI) (η0 : OEnv) (h1 : r.tmps = tmps) (h2 : r.ps = #[19, 20]) (h3 : r.assign = (rf84.getD 1 (.skip, .skip)).1) (h4 : r.body = (rf84.getD 1 (.skip, .skip)).2)
    (hi : ∀ k o, η0 k = some o → o.inner = []) (hn : ∀ k o, η0 k = some o → k = 1001) (hk2 : SVRel η0 (fun _ => False) w (.loc 1001 0) (tmps.getD 2 undef)) :
    SpecX Tryz.prog 159 [.rv 1000 (fun _ => .func (.yield r.rcd) #[] #[]), .loc 1001 0] [(1000, RJ r η0 none (ob84b 0)), (1001, .cells 27 (valL (rowsG d).1 (rowsG d).2 v))] (.tup [])
      [(1000, RJ r η0 (pe84b (walkV estep v 0).1) (ob84b (walkV estep v 0).1)), (1001, .cells 27 (valL (rowsG d).1 (rowsG d).2 v))] := by
  subst h1
  exact (con159 (yield84b hsz h2 h3 h4 hi hn hk2) d v 0 rfl hd hv hdn).spec

/-- What Check answers. -/
def checkE (v : Val) : Int := if deepV 8 v then 31 else if 512 < (walkV cstep v 0).1 then 32 else (walkV estep v 0).1

set_option maxRecDepth 20000 in
set_option maxHeartbeats 4000000 in
theorem con84 {d : Nat} {v : Val} (hd : v.depth ≤ d) (hv : v.All Sml) (hdn : d < 100000) : Con 84 [valSV d v] [] (.int .u16 (.s fun _ => checkE v)) [] := by
  have c129 : Con 129 [valSV d v, .int .i64 (.l 8)] [] (.bool (.s fun _ => deepV 8 v)) [] := Con.lit (a := [valSV d v]) (con129 8 d v (by omega) hd (All.mono (fun _ h => sml_fits h) hv))
  have H1 := @hit84a d v hd hv hdn
  have H2 := @hit84b d v hd hv hdn
  obtain ⟨rr, hr⟩ : ∃ r, r = checkE v := ⟨_, rfl⟩
  rw [← hr]
  unfold checkE at hr
  obtain ⟨dp, hdp⟩ : ∃ b, b = deepV 8 v := ⟨_, rfl⟩
  rw [← hdp] at hr c129
  obtain ⟨n1, hn1⟩ : ∃ b, b = (walkV cstep v 0).1 := ⟨_, rfl⟩
  rw [← hn1] at hr H1
  obtain ⟨n2, hn2⟩ : ∃ b, b = (walkV estep v 0).1 := ⟨_, rfl⟩
  rw [← hn2] at hr H2
  unfold valSV at c129 ⊢
  obtain ⟨rv, hrv⟩ : ∃ q, q = (rowsG d).1 := ⟨_, rfl⟩
  obtain ⟨rf, hrf⟩ : ∃ q, q = (rowsG d).2 := ⟨_, rfl⟩
  have c130 := con130 (rv := rv) (rf := rf) (v := v)
  rw [← hrv, ← hrf] at c129 H1 H2 ⊢
  obtain ⟨Y, hY⟩ : ∃ Y, Y = v.bytes := ⟨_, rfl⟩
  obtain ⟨L, hL⟩ : ∃ L, L = v.list := ⟨_, rfl⟩
  obtain ⟨F, hF⟩ : ∃ F, F = v.fields := ⟨_, rfl⟩
  obtain ⟨vl, hvl⟩ : ∃ q, q = valL rv rf v := ⟨_, rfl⟩
  refine ⟨specX_of (spec_of_marks Tryz.func84 rfl (by kernel_rfl) rfl ?_) ⟨_, _, Tryz.func84, rfl, rfl⟩ (by decide)⟩
  intro η G w a hbor hh
  refine seq_vc eok rawOk mixed conOk hbor hh fun Z hZ => ?_
  clear hdp hn1 hn2 hrv hrf
  unfold valG at c129 c130 hh ⊢
  unfold valL at c130 H1 H2
  rw [← hY, ← hL, ← hF] at c129 c130 hh H1 H2 ⊢
  cbv
  refine ⟨fun a w1 hh => ?_⟩
  rw [hZ]; clear hZ Z
  refine seq_vc eok rawOk mixed conOk hbor hh fun Z hZ => ?_
  cbv
  refine ⟨_, _, c129, ⟨by kernel_rfl⟩, ?_⟩
  cbv
  refine ⟨fun g => ?_, fun g => ?_⟩
  · cbv
    refine ⟨fun a w1 hh => ?_⟩
    rw [hZ]; clear hZ Z
    refine post0 (E := E) eok hbor hh ?_
    clear hh
    have e1 : (31 : Int) = rr := by rw [hr, if_pos g]
    cbv
    refine ⟨[], [], ?_⟩
    cbv
    and_intros
    all_goals first | exact trivial | exact ⟨e1⟩ | exact ⟨rfl⟩ | exact ⟨by kernel_rfl⟩
  · clear hh
    cbv
    refine ⟨fun a w1 hh => ?_⟩
    rw [hZ]; clear hZ Z
    have hr : rr = if 512 < n1 then 32 else n2 := by rw [hr, if_neg (by rw [show dp = false from g]; decide)]
    refine seq_vc eok rawOk mixed conOk hbor hh fun Z hZ => ?_
    clear hh
    cbv
    refine ⟨fun a w1 hh => ?_⟩
    rw [hZ]; clear hZ Z
    refine wpIn_seq ?_
    refine seq_vc eok rawOk mixed conOk hbor hh fun Z hZ => ?_
    clear hh
    cbv
    refine ⟨_, _, c130, ⟨by kernel_rfl⟩, ?_⟩
    cbv
    refine ⟨fun a w1 hh => ?_⟩
    rw [hZ]; clear hZ Z
    refine wpIn_block ?_
    refine rf_vc (f := 159) ⟨_, _, Tryz.func159, rfl, rfl⟩ (by decide) hh 4000 900 27 [(2, 1001), (3, 1002)] (ob84 0) (ob84 n1) (pe84 n1) rfl rfl (by kernel_rfl) (by kernel_rfl) ?_ ?_ ?_ ?_
    · exact ⟨cv_int rfl, cv_int rfl, trivial⟩
    · intro r η0 h1 h2 h3 h4 h5 h6 h7
      refine H1 (here_sz hh) r η0 h1 h2 h3 h4 h5 (fun k o hk => ?_) (h7 2 2 0 rfl 1001 rfl) (h7 3 3 0 rfl 1002 rfl)
      have := h6 k o hk
      simpa [valsL] using this
    · unfold pe84; split
      · exact .inl rfl
      · exact .inr rfl
    · intro d1 a w2 hh
      refine ⟨fun g1 => ?_, fun g1 => ?_⟩
      · have g1 : n1 ≤ 512 := by
          unfold pe84 at g1
          by_cases h : n1 ≤ 512
          · exact h
          · rw [if_neg h] at g1; cases g1
        have hrc : rc84 n1 = 0 := if_pos g1
        have hr : rr = n2 := by rw [hr, if_neg (by omega)]
        show Code.wpIn _ _ _ _ _ _ _
        refine wpIn_seq ?_
        refine seq_vc eok rawOk mixed conOk hbor hh fun Z hZ => ?_
        clear hh
        cbv
        refine ⟨_, _, c130, ⟨by kernel_rfl⟩, ?_⟩
        cbv
        refine ⟨fun a w1 hh => ?_⟩
        rw [hZ]; clear hZ Z
        refine wpIn_block ?_
        refine rf_vc (f := 159) ⟨_, _, Tryz.func159, rfl, rfl⟩ (by decide) hh 4800 901 27 [(2, 1001)] (ob84b 0) (ob84b n2) (pe84b n2) rfl rfl (by kernel_rfl) (by kernel_rfl) ?_ ?_ ?_ ?_
        · exact ⟨cv_int hrc, trivial⟩
        · intro r η0 h1 h2 h3 h4 h5 h6 h7
          refine H2 (here_sz hh) r η0 h1 h2 h3 h4 h5 (fun k o hk => ?_) (h7 2 2 0 rfl 1001 rfl)
          have := h6 k o hk
          simpa [valsL] using this
        · unfold pe84b; split
          · exact .inl rfl
          · exact .inr rfl
        · intro d2 a w2 hh
          refine ⟨fun g2 => ?_, fun g2 => ?_⟩
          · have g2 : n2 = 0 := by
              unfold pe84b at g2
              by_cases h : n2 = 0
              · exact h
              · rw [if_neg h] at g2; cases g2
            have e1 : (0 : Int) = rr := by rw [hr, g2]
            show Code.wpIn _ _ _ _ _ _ _
            refine last_vc eok rawOk mixed conOk hbor hh fun Z hZ => ?_
            clear hh
            cbv
            refine ⟨fun a w1 hh => ?_⟩
            rw [hZ]; clear hZ Z
            refine post2' (E := E) eok 901 900 hbor hh rfl rfl (by decide) ?_
            clear hh
            cbv
            refine ⟨[], [], ?_⟩
            cbv
            and_intros
            all_goals first | exact trivial | exact ⟨e1⟩ | exact ⟨rfl⟩ | exact ⟨by kernel_rfl⟩
          · refine post2' (E := E) eok 901 900 hbor hh rfl rfl (by decide) ?_
            clear hh
            cbv
            refine ⟨[], [], ?_⟩
            cbv
            and_intros
            all_goals first | exact trivial | exact ⟨hr.symm⟩ | exact ⟨rfl⟩ | exact ⟨by kernel_rfl⟩
      · have g1 : ¬ n1 ≤ 512 := by
          unfold pe84 at g1
          by_cases h : n1 ≤ 512
          · rw [if_pos h] at g1; cases g1
          · exact h
        have e1 : rc84 n1 = rr := by rw [hr, if_pos (by omega)]; exact if_neg g1
        refine post1' (E := E) eok 900 hbor hh rfl ?_
        clear hh
        obtain ⟨rc, hrc⟩ : ∃ q, q = rc84 n1 := ⟨_, rfl⟩
        unfold ob84
        rw [← hrc] at e1 ⊢
        cbv
        refine ⟨[], [], ?_⟩
        cbv
        and_intros
        all_goals first | exact trivial | exact ⟨e1⟩ | exact ⟨rfl⟩ | exact ⟨by kernel_rfl⟩
end Go.Proofs.YtkogbobplhebaaaGreatDoor

/- Events: what is read off bytes is small, and of so many layers. -/
namespace Go.Proofs.YtkogbobplhebaaaGreatDoor
open Go.SX Go.Ev

def IntOk (v : Val) : Prop := -9223372036854775808 ≤ v.int ∧ v.int < 9223372036854775808
theorem unzig_range {n : Nat} (h : n < 18446744073709551616) : -9223372036854775808 ≤ unzig n ∧ unzig n < 9223372036854775808 := by unfold unzig; split <;> omega
theorem rep_depthL {f : List UInt8 → Option (Val × List UInt8)} {d : Nat} (hf : ∀ {b v r}, f b = some (v, r) → v.depth ≤ d ∧ v.All IntOk) : ∀ {n : Nat} {b : List UInt8} {xs : List Val} {r : List UInt8}, rep f n b = some (xs, r) → depthL xs ≤ d ∧ AllL IntOk xs
  | 0, _, _, _, h => by simp only [rep, Option.some.injEq, Prod.mk.injEq] at h; rw [← h.1]; exact ⟨Nat.zero_le _, trivial⟩
  | n + 1, b, xs, r, h => by
    simp only [rep] at h
    split at h
    · cases h
    · rename_i x q hx
      split at h
      · cases h
      · rename_i ys q' hr
        simp only [Option.some.injEq, Prod.mk.injEq] at h
        obtain ⟨rfl, rfl⟩ := h
        obtain ⟨e1, o1⟩ := hf hx
        obtain ⟨e2, o2⟩ := rep_depthL (f := f) hf hr
        exact ⟨by simp only [depthL]; omega, o1, o2⟩
theorem rep_depthF {f : List UInt8 → Option (Val × List UInt8)} {d : Nat} (hf : ∀ {b v r}, f b = some (v, r) → v.depth ≤ d ∧ v.All IntOk) : ∀ {n : Nat} {b : List UInt8} {xs : List Fld} {r : List UInt8},
    rep (fun (q : List UInt8) => (tDec q).bind fun (t : List UInt8 × List UInt8) => (f t.2).map fun (y : Val × List UInt8) => ((t.1, y.1), y.2)) n b = some (xs, r) → depthF xs ≤ d ∧ AllF IntOk xs
  | 0, _, _, _, h => by simp only [rep, Option.some.injEq, Prod.mk.injEq] at h; rw [← h.1]; exact ⟨Nat.zero_le _, trivial⟩
  | n + 1, b, xs, r, h => by
    simp only [rep] at h
    split at h
    · cases h
    · rename_i x q hx
      split at h
      · cases h
      · rename_i ys q' hr
        simp only [Option.some.injEq, Prod.mk.injEq] at h
        obtain ⟨rfl, rfl⟩ := h
        obtain ⟨e2, o2⟩ := rep_depthF (f := f) hf hr
        obtain ⟨t, ht, hx⟩ := Option.bind_eq_some_iff.1 hx
        obtain ⟨y, hy, hx⟩ := Option.map_eq_some_iff.1 hx
        obtain ⟨t1, t2⟩ := t
        obtain ⟨y1, y2⟩ := y
        simp only [Prod.mk.injEq] at hx
        obtain ⟨rfl, rfl⟩ := hx
        obtain ⟨e1, o1⟩ := hf hy
        exact ⟨by simp only [depthF]; omega, o1, o2⟩
theorem rdV_small : ∀ {d : Nat} {b : List UInt8} {v : Val} {r : List UInt8}, rdV d b = some (v, r) → v.depth ≤ d ∧ v.All IntOk
  | 0, _, _, _, h => by cases h
  | _ + 1, [], _, _, h => by cases h
  | d + 1, c :: b, v, r, h => by
    have own : ∀ {k b i t y l f}, (-9223372036854775808 ≤ i ∧ i < 9223372036854775808) → depthL l ≤ d ∧ AllL IntOk l → depthF f ≤ d ∧ AllF IntOk f → (Val.mk k b i t y l f).depth ≤ d + 1 ∧ (Val.mk k b i t y l f).All IntOk := fun h1 h2 h3 => ⟨by simp only [Val.depth]; omega, h1, h2.2, h3.2⟩
    have n1 : depthL [] ≤ d ∧ AllL IntOk [] := ⟨Nat.zero_le _, trivial⟩
    have n2 : depthF [] ≤ d ∧ AllF IntOk [] := ⟨Nat.zero_le _, trivial⟩
    have z : (-9223372036854775808 : Int) ≤ 0 ∧ (0 : Int) < 9223372036854775808 := by decide
    simp only [rdV] at h
    split at h
    · simp only [Option.some.injEq, Prod.mk.injEq] at h
      obtain ⟨rfl, rfl⟩ := h
      exact own z n1 n2
    split at h
    · simp only [Option.some.injEq, Prod.mk.injEq] at h
      obtain ⟨rfl, rfl⟩ := h
      exact own z n1 n2
    split at h
    · simp only [Option.some.injEq, Prod.mk.injEq] at h
      obtain ⟨rfl, rfl⟩ := h
      exact own z n1 n2
    split at h
    · obtain ⟨x, hx, h⟩ := Option.map_eq_some_iff.1 h
      simp only [Prod.mk.injEq] at h
      obtain ⟨rfl, rfl⟩ := h
      have := vDec_lt b 0 (n := x.1) (r := x.2) (by omega) hx
      exact own (unzig_range (by simpa using this)) n1 n2
    split at h
    · obtain ⟨x, hx, h⟩ := Option.map_eq_some_iff.1 h
      simp only [Prod.mk.injEq] at h
      obtain ⟨rfl, rfl⟩ := h
      exact own z n1 n2
    split at h
    · obtain ⟨x, hx, h⟩ := Option.map_eq_some_iff.1 h
      simp only [Prod.mk.injEq] at h
      obtain ⟨rfl, rfl⟩ := h
      exact own z n1 n2
    split at h
    · obtain ⟨x, hx, h⟩ := Option.bind_eq_some_iff.1 h
      obtain ⟨y, hy, h⟩ := Option.map_eq_some_iff.1 h
      simp only [Prod.mk.injEq] at h
      obtain ⟨rfl, rfl⟩ := h
      exact own z (rep_depthL (f := rdV d) (fun hq => rdV_small hq) (xs := y.1) (r := y.2) hy) n2
    split at h
    · obtain ⟨x, hx, h⟩ := Option.bind_eq_some_iff.1 h
      obtain ⟨y, hy, h⟩ := Option.map_eq_some_iff.1 h
      simp only [Prod.mk.injEq] at h
      obtain ⟨rfl, rfl⟩ := h
      exact own z n1 (rep_depthF (f := rdV d) (fun hq => rdV_small hq) (xs := y.1) (r := y.2) hy)
    · cases h

/-- No list longer than that. -/
def LenOk (n : Nat) (v : Val) : Prop := v.text.length ≤ n ∧ v.bytes.length ≤ n ∧ v.list.length ≤ n ∧ v.fields.length ≤ n ∧ ∀ p ∈ v.fields, p.1.length ≤ n
theorem txt_ge (s : List UInt8) : s.length + 1 ≤ (txt s).length := by
  have : 1 ≤ (vEnc s.length).length := by rw [vEnc.eq_def]; split <;> simp
  unfold txt; rw [List.length_append]; omega
mutual
theorem doc_pos : ∀ {v : Val}, v.All Go.Ev.Own → 1 ≤ (docB v).length
  | .mk k b i t y l f, h => by
    obtain ⟨⟨hk, _⟩, _, _⟩ := h
    simp only [Val.kind] at hk
    have c : k = 1 ∨ k = 2 ∨ k = 3 ∨ k = 4 ∨ k = 5 ∨ k = 6 ∨ k = 7 := by omega
    rcases c with rfl | rfl | rfl | rfl | rfl | rfl | rfl <;> simp [docB]
end
theorem docL_len : ∀ {l : List Val}, AllL Go.Ev.Own l → l.length ≤ (docL l).length
  | [], _ => Nat.zero_le _
  | v :: r, h => by
    have := doc_pos h.1
    have := docL_len h.2
    simp only [docL, List.length_append, List.length_cons]; omega
theorem docF_len : ∀ {l : List Fld}, AllF Go.Ev.Own l → l.length ≤ (docF l).length ∧ ∀ p ∈ l, p.1.length ≤ (docF l).length
  | [], _ => ⟨Nat.zero_le _, fun p hp => by cases hp⟩
  | (n, v) :: r, h => by
    have := doc_pos h.1
    have := txt_ge n
    obtain ⟨h1, h2⟩ := docF_len h.2
    simp only [docF, List.length_append, List.length_cons]
    refine ⟨by omega, fun p hp => ?_⟩
    rcases List.mem_cons.1 hp with rfl | hp
    · show n.length ≤ _; omega
    · have := h2 p hp; omega
mutual
theorem doc_lens : ∀ {v : Val} {n : Nat}, v.All Go.Ev.Own → (docB v).length ≤ n → v.All (LenOk n)
  | .mk k b i t y l f, n, h, hn => by
    obtain ⟨⟨hk, a2, a3, a4, a5, a6, a7⟩, hl, hf⟩ := h
    simp only [Val.kind, Val.bool, Val.int, Val.text, Val.bytes, Val.list, Val.fields] at hk a2 a3 a4 a5 a6 a7
    have c : k = 1 ∨ k = 2 ∨ k = 3 ∨ k = 4 ∨ k = 5 ∨ k = 6 ∨ k = 7 := by omega
    have z : ∀ {l : List Val} {f : List Fld}, l = [] → f = [] → AllL (LenOk n) l ∧ AllF (LenOk n) f := fun h1 h2 => by rw [h1, h2]; exact ⟨trivial, trivial⟩
    have mk : ∀ {t y : List UInt8} {l : List Val} {f : List Fld}, t.length ≤ n → y.length ≤ n → l.length ≤ n → f.length ≤ n → (∀ p ∈ f, p.1.length ≤ n) → AllL (LenOk n) l → AllF (LenOk n) f → (Val.mk k b i t y l f).All (LenOk n) := fun h1 h2 h3 h4 h5 h6 h7 => ⟨⟨h1, h2, h3, h4, h5⟩, h6, h7⟩
    have e0 : ∀ {α : Type} {l : List α}, l = [] → l.length ≤ n := fun h => by rw [h]; exact Nat.zero_le _
    have e1 : ∀ {l : List Fld}, l = [] → ∀ p ∈ l, p.1.length ≤ n := fun h p hp => by rw [h] at hp; cases hp
    rcases c with rfl | rfl | rfl | rfl | rfl | rfl | rfl
    · have q4 := a4 (by decide); have q5 := a5 (by decide); have q6 := a6 (by decide); have q7 := a7 (by decide)
      exact mk (e0 q4) (e0 q5) (e0 q6) (e0 q7) (e1 q7) (z q6 q7).1 (z q6 q7).2
    · have q4 := a4 (by decide); have q5 := a5 (by decide); have q6 := a6 (by decide); have q7 := a7 (by decide)
      exact mk (e0 q4) (e0 q5) (e0 q6) (e0 q7) (e1 q7) (z q6 q7).1 (z q6 q7).2
    · have q4 := a4 (by decide); have q5 := a5 (by decide); have q6 := a6 (by decide); have q7 := a7 (by decide)
      exact mk (e0 q4) (e0 q5) (e0 q6) (e0 q7) (e1 q7) (z q6 q7).1 (z q6 q7).2
    · have q5 := a5 (by decide); have q6 := a6 (by decide); have q7 := a7 (by decide)
      have := txt_ge t
      simp [docB] at hn
      exact mk (by omega) (e0 q5) (e0 q6) (e0 q7) (e1 q7) (z q6 q7).1 (z q6 q7).2
    · have q4 := a4 (by decide); have q6 := a6 (by decide); have q7 := a7 (by decide)
      have := txt_ge y
      simp [docB] at hn
      exact mk (e0 q4) (by omega) (e0 q6) (e0 q7) (e1 q7) (z q6 q7).1 (z q6 q7).2
    · have q4 := a4 (by decide); have q5 := a5 (by decide); have q7 := a7 (by decide)
      have := docL_len hl
      simp [docB] at hn
      exact mk (e0 q4) (e0 q5) (by omega) (e0 q7) (e1 q7) (docL_lens hl (by omega)) (z rfl q7).2
    · have q4 := a4 (by decide); have q5 := a5 (by decide); have q6 := a6 (by decide)
      obtain ⟨h1, h2⟩ := docF_len hf
      simp [docB] at hn
      exact mk (e0 q4) (e0 q5) (e0 q6) (by omega) (fun p hp => by have := h2 p hp; omega) (z q6 rfl).1 (docF_lens hf (by omega))
theorem docL_lens : ∀ {l : List Val} {n : Nat}, AllL Go.Ev.Own l → (docL l).length ≤ n → AllL (LenOk n) l
  | [], _, _, _ => trivial
  | v :: r, n, h, hn => by
    simp only [docL, List.length_append] at hn
    exact ⟨doc_lens h.1 (by omega), docL_lens h.2 (by omega)⟩
theorem docF_lens : ∀ {l : List (List UInt8 × Val)} {n : Nat}, AllF Go.Ev.Own l → (docF l).length ≤ n → AllF (LenOk n) l
  | [], _, _, _ => trivial
  | (m, v) :: r, n, h, hn => by
    simp only [docF, List.length_append] at hn
    exact ⟨doc_lens h.1 (by omega), docF_lens h.2 (by omega)⟩
end
theorem len_sml {n : Nat} (hn : n < 1000000000) {v : Val} (h : LenOk n v) : Sml v := by
  obtain ⟨a, b, c, d, e⟩ := h
  exact ⟨by omega, by omega, by omega, by omega, fun p hp => by have := e p hp; omega⟩
theorem all_and {P Q : Val → Prop} : ∀ {v : Val}, v.All P → v.All Q → v.All (fun v => P v ∧ Q v) := by
  exact go _
where
  go : ∀ (v : Val), v.All P → v.All Q → v.All (fun v => P v ∧ Q v)
    | .mk _ _ _ _ _ l f, h, k => ⟨⟨h.1, k.1⟩, goL l h.2.1 k.2.1, goF f h.2.2 k.2.2⟩
  goL : ∀ (l : List Val), AllL P l → AllL Q l → AllL (fun v => P v ∧ Q v) l
    | [], _, _ => trivial
    | v :: r, h, k => ⟨go v h.1 k.1, goL r h.2 k.2⟩
  goF : ∀ (l : List (List UInt8 × Val)), AllF P l → AllF Q l → AllF (fun v => P v ∧ Q v) l
    | [], _, _ => trivial
    | (_, v) :: r, h, k => ⟨go v h.1 k.1, goF r h.2 k.2⟩
/-- All that is to be known of what is read. -/
theorem rd_all {d : Nat} {b r : List UInt8} {v : Val} (h : rdV d b = some (v, r)) (hb : b.length < 1000000000) : b = docB v ++ r ∧ v.All Go.Ev.Own ∧ v.depth ≤ d ∧ v.All Sml ∧ v.All Sane := by
  obtain ⟨e, o⟩ := rdV_doc h
  obtain ⟨dp, iv⟩ := rdV_small h
  have hl : (docB v).length < 1000000000 := by rw [e, List.length_append] at hb; omega
  have hs : v.All Sml := All.mono (fun _ h => len_sml (n := 999999999) (by decide) h) (doc_lens o (by omega))
  refine ⟨e, o, dp, hs, All.mono ?_ (all_and o (all_and iv hs))⟩
  intro v h
  obtain ⟨h1, h2, h3⟩ := h
  exact ⟨sml_fits h3, h2, by have := h1.1.1; omega, by have := h1.1.2; omega⟩
end Go.Proofs.YtkogbobplhebaaaGreatDoor

/- Events: doc.Decode. -/
namespace Go.Proofs.YtkogbobplhebaaaGreatDoor
open Go.SX Go.Ev

/-- The value that bytes are. -/
def decV (b : List UInt8) : Option Val := if 8192 < b.length then none else match rdV 9 b with
  | some (v, []) => if checkE v = 0 then some v else none
  | _ => none
theorem dec_law {b : List UInt8} (hb : b.length ≤ 8192) : (valF 9 ⟨⟨b, 0, 0, 0⟩, false⟩).2.bad = true ∧ decV b = none ∨ endE (valF 9 ⟨⟨b, 0, 0, 0⟩, false⟩).2.s ≠ 0 ∧ decV b = none ∨
    (valF 9 ⟨⟨b, 0, 0, 0⟩, false⟩).2.bad = false ∧ endE (valF 9 ⟨⟨b, 0, 0, 0⟩, false⟩).2.s = 0 ∧ rdV 9 b = some ((valF 9 ⟨⟨b, 0, 0, 0⟩, false⟩).1, []) ∧ decV b = if checkE (valF 9 ⟨⟨b, 0, 0, 0⟩, false⟩).1 = 0 then some (valF 9 ⟨⟨b, 0, 0, 0⟩, false⟩).1 else none := by
  have h0 : At ⟨b, 0, 0, 0⟩ b := ⟨rfl, rfl, Nat.zero_le _⟩
  cases hr : rdV 9 b with
  | none =>
    have hw := (fol_val 9).no h0 hr
    obtain ⟨R, hR⟩ : ∃ R, R = valF 9 ⟨⟨b, 0, 0, 0⟩, false⟩ := ⟨_, rfl⟩
    rw [← hR] at hw ⊢
    cases hb' : R.2.bad with
    | true => exact .inl ⟨rfl, by unfold decV; rw [if_neg (by omega), hr]⟩
    | false =>
      refine .inr (.inl ⟨?_, ?_⟩)
      · unfold DS.wrong at hw
        rw [hb', Bool.false_or] at hw
        have : ¬ R.2.s.er = 0 := by simpa using hw
        unfold endE
        rw [if_neg this]; exact this
      · unfold decV; rw [if_neg (by omega), hr]
  | some p =>
    obtain ⟨v, r⟩ := p
    obtain ⟨s', h1, h2, h3⟩ := (fol_val 9).yes h0 hr
    rw [h1]
    have hl := h2.len
    cases r with
    | nil =>
      refine .inr (.inr ⟨rfl, ?_, rfl, ?_⟩)
      · show endE s' = 0
        unfold endE
        have : ¬ s'.at_ < s'.b.length := by simp at hl; omega
        rw [if_pos h2.er, if_neg this]
      · unfold decV; rw [if_neg (by omega), hr]
    | cons c r =>
      refine .inr (.inl ⟨?_, ?_⟩)
      · show endE s' ≠ 0
        unfold endE
        have hle := h2.le
        have : s'.at_ < s'.b.length := by simp at hl; omega
        rw [if_pos h2.er, if_pos this]; decide
      · unfold decV; rw [if_neg (by omega), hr]
theorem Con.obj1 {f : Nat} {svs : List SV} {k : Nat} {x x' : TObj} {r0 : Objs} {r : SV} {objs' : Objs} (h : Con f svs ((k, x) :: r0) r objs') (hx : ∀ η G w o, ObjRel η G w x' o → ObjRel η G w x o) : Con f svs ((k, x') :: r0) r objs' :=
  ⟨fun η G vs w h1 h2 h3 => h.spec η G vs w h1 (fun j => by
    have := h2 j
    simp only [lookN] at this ⊢
    cases hb : eqN k j with
    | false => rw [hb] at this; exact this
    | true =>
      rw [hb] at this
      simp only [cond_true] at this ⊢
      cases ho : η j with
      | none => rw [ho] at this; exact this.elim
      | some o => rw [ho] at this; exact hx _ _ _ _ this) h3⟩
theorem cells_eqv {T : Nat} {cs cs' : List SV} (h : EqvL cs' cs) : ∀ (η : OEnv) (G : Nat → Prop) (w : World) (o : OInfo), ObjRel η G w (.cells T cs') o → ObjRel η G w (.cells T cs) o := fun η G w o h0 => by
  simp only [ObjRel] at h0 ⊢
  obtain ⟨a, b, c, vs, d, f, g⟩ := h0
  exact ⟨a, b, c, vs, d, f, h _ _ _ _ g⟩
def decOr (o : Option Val) : Val := o.getD zeroV
def decC (o : Option Val) (e : Int) : Int := if o.isSome then 0 else e

set_option maxRecDepth 20000 in
set_option maxHeartbeats 8000000 in
theorem con94 {b : List UInt8} (hb : b.length < 1000000000) : Con 94 [.dat (.bytes fun _ => b)] [] (.tup [valSV 10 (decOr (decV b)), .int .u16 (.s fun _ => decC (decV b) 50)]) [] := by
  have c35 := con35 (b := b) (by omega)
  have ok0 : RS.Ok ⟨b, 0, 0, 0⟩ := ⟨Nat.zero_le _, hb⟩
  have c134 : Con 134 [.loc 1000 0, .int .i64 (.l 9)] (drO ⟨⟨b, 0, 0, 0⟩, false⟩) (valSV 10 (valF 9 ⟨⟨b, 0, 0, 0⟩, false⟩).1) (drO (valF 9 ⟨⟨b, 0, 0, 0⟩, false⟩).2) := Con.lit (a := [.loc 1000 0]) (con134 9 ⟨⟨b, 0, 0, 0⟩, false⟩ 9 (by decide) ok0 rfl)
  have c134 := c134.obj1 (x' := .cells 224 [.loc 1001 0, .bool .f]) (cells_eqv (.cons (Eqv.refl _) (.cons eqv_f1 .nil)))
  have law := @dec_law b
  have none_of : 8192 < b.length → decV b = none := fun h => by unfold decV; rw [if_pos h]
  have hdep : ∀ v, rdV 9 b = some (v, []) → v.depth ≤ 10 ∧ v.All Sml := fun v hv => by
    obtain ⟨_, _, h3, h4, _⟩ := rd_all hv hb
    exact ⟨by omega, h4⟩
  obtain ⟨o, ho⟩ : ∃ o, o = decV b := ⟨_, rfl⟩
  rw [← ho] at law none_of ⊢
  obtain ⟨R, hR⟩ : ∃ R, R = valF 9 ⟨⟨b, 0, 0, 0⟩, false⟩ := ⟨_, rfl⟩
  rw [← hR] at law c134
  obtain ⟨v, ⟨s, bad⟩⟩ := R
  have law : b.length ≤ 8192 → bad = true ∧ o = none ∨ endE s ≠ 0 ∧ o = none ∨ bad = false ∧ endE s = 0 ∧ rdV 9 b = some (v, []) ∧ o = if checkE v = 0 then some v else none := law
  have c134 : Con 134 [.loc 1000 0, .int .i64 (.l 9)] [(1000, .cells 224 [.loc 1001 0, .bool .f]), (1001, rdO ⟨b, 0, 0, 0⟩)] (valSV 10 v) (drO ⟨s, bad⟩) := c134
  have c42 := con42 (s := s)
  clear ho hR
  obtain ⟨en, hen⟩ : ∃ e, e = endE s := ⟨_, rfl⟩
  rw [← hen] at law c42
  have c84 : b.length ≤ 8192 → bad = false → en = 0 → Con 84 [valSV 10 v] [] (.int .u16 (.s fun _ => checkE v)) [] := fun h1 h2 h3 => by
    rcases law h1 with h | h | h
    · rw [h2] at h; cases h.1
    · exact absurd h3 h.1
    · obtain ⟨p, q⟩ := hdep v h.2.2.1
      exact con84 p q (by decide)
  have c128 : b.length ≤ 8192 → bad = false → en = 0 → Con 128 [valSV 10 v] [] (valSV 10 v) [] := fun h1 h2 h3 => by
    rcases law h1 with h | h | h
    · rw [h2] at h; cases h.1
    · exact absurd h3 h.1
    · obtain ⟨p, q⟩ := hdep v h.2.2.1
      exact con128 10 v p q
  obtain ⟨ce, hce⟩ : ∃ e, e = checkE v := ⟨_, rfl⟩
  rw [← hce] at law c84
  have k1 : b.length ≤ 8192 → bad = true → o = none := fun h1 h2 => by
    rcases law h1 with h | h | h
    · exact h.2
    · exact h.2
    · rw [h2] at h; cases h.1
  have k2 : b.length ≤ 8192 → bad = false → ¬ en = 0 → o = none := fun h1 h2 h3 => by
    rcases law h1 with h | h | h
    · exact h.2
    · exact h.2
    · exact absurd h.2.1 h3
  have k3 : b.length ≤ 8192 → bad = false → en = 0 → ¬ ce = 0 → o = none := fun h1 h2 h3 h4 => by
    rcases law h1 with h | h | h
    · exact h.2
    · exact h.2
    · rw [h.2.2.2, if_neg h4]
  have k4 : b.length ≤ 8192 → bad = false → en = 0 → ce = 0 → o = some v := fun h1 h2 h3 h4 => by
    rcases law h1 with h | h | h
    · rw [h2] at h; cases h.1
    · exact absurd h3 h.1
    · rw [h.2.2.2, if_pos h4]
  clear law hdep hce hen
  have noneV : o = none → decOr o = zeroV ∧ decC o 50 = 50 := fun h => by subst h; exact ⟨rfl, rfl⟩
  have someV : o = some v → decOr o = v ∧ decC o 50 = 0 := fun h => by subst h; exact ⟨rfl, rfl⟩
  obtain ⟨rs, hrs⟩ : ∃ q, q = decOr o := ⟨_, rfl⟩
  obtain ⟨rc, hrc⟩ : ∃ q, q = decC o 50 := ⟨_, rfl⟩
  rw [← hrs, ← hrc] at noneV someV ⊢
  clear hrs hrc
  obtain ⟨rv, hrv⟩ : ∃ q, q = (rowsG 10).1 := ⟨_, rfl⟩
  obtain ⟨rf, hrf⟩ : ∃ q, q = (rowsG 10).2 := ⟨_, rfl⟩
  unfold valSV at c134 c84 c128 ⊢
  rw [← hrv, ← hrf] at c134 c84 c128 ⊢
  clear hrv hrf
  obtain ⟨Y, hY⟩ : ∃ Y, Y = v.bytes := ⟨_, rfl⟩
  obtain ⟨L, hL⟩ : ∃ L, L = v.list := ⟨_, rfl⟩
  obtain ⟨F, hF⟩ : ∃ F, F = v.fields := ⟨_, rfl⟩
  have someV : o = some v → valG rv rf rs = .agg [.int .u8 (.s fun _ => v.kind), .bool (.s fun _ => v.bool), .int .i64 (.s fun _ => v.int), .str fun _ => v.text, .dat (.bytes fun _ => Y), .dat (.sl 7 (fun _ => L.length) (rv fun _ => L)), .dat (.sl 8 (fun _ => F.length) (rf fun _ => F))] ∧ rc = 0 := fun h => ⟨by rw [(someV h).1, hY, hL, hF]; rfl, (someV h).2⟩
  have noneV : o = none → valG rv rf rs = .agg [.int .u8 (.s fun _ => 0), .bool (.s fun _ => false), .int .i64 (.s fun _ => 0), .str fun _ => [], .dat (.bytes fun _ => []), .dat (.sl 7 (fun _ => 0) (rv fun _ => [])), .dat (.sl 8 (fun _ => 0) (rf fun _ => []))] ∧ rc = 50 := fun h => ⟨by rw [(noneV h).1]; rfl, (noneV h).2⟩
  unfold valG at c134 c84 c128
  rw [← hY, ← hL, ← hF] at c134 c84 c128
  clear hY hL hF
  obtain ⟨r, hr⟩ : ∃ q, q = valG rv rf rs := ⟨_, rfl⟩
  rw [← hr] at someV noneV ⊢
  clear hr
  obtain ⟨b1, at1, er1, ea1⟩ := s
  refine con_of Tryz.func94 rfl rfl 36 _ rfl rfl rfl rfl ?_
  cbv
  iterate 6 (all_goals try (refine And.intro ?_ ?_ <;> (intro g; (try (replace g := of_decide_eq_true g)); (try (replace g := of_decide_eq_false g)); (try (replace g := of_decide_eq_false (bnot_t g))); (try (replace g := of_decide_eq_true (bnot_f g))); (try (replace g : bad = true := g)); (try (replace g : bad = false := g)); (try (simp only [IE.den_l, IE.den_s] at g)); cbv)))
  · obtain ⟨e1, e2⟩ := noneV (none_of (by have g : (8192 : Int) < (b.length : Int) := g; omega))
    subst e1 e2
    refine ⟨[], [], ?_⟩
    cbv
    and_intros
    all_goals first | exact trivial | exact ⟨rfl⟩ | exact ⟨rfl, fun _ _ _ h => h⟩ | exact ⟨rfl, fun _ _ _ _ => rfl⟩ | exact ⟨by kernel_rfl⟩
  have hlen : b.length ≤ 8192 := by have g : ¬ (8192 : Int) < (b.length : Int) := g; omega
  have c84 := c84 hlen
  have c128 := c128 hlen
  have k1 := k1 hlen
  have k2 := k2 hlen
  have k3 := k3 hlen
  have k4 := k4 hlen
  clear g hlen none_of
  refine ⟨_, _, c35, ⟨by kernel_rfl⟩, ?_⟩
  cbv
  refine ⟨_, _, c134, ⟨by kernel_rfl⟩, ?_⟩
  cbv
  iterate 6 (all_goals try (refine And.intro ?_ ?_ <;> (intro g; (try (replace g := of_decide_eq_true g)); (try (replace g := of_decide_eq_false g)); (try (replace g := of_decide_eq_false (bnot_t g))); (try (replace g := of_decide_eq_true (bnot_f g))); (try (replace g : bad = true := g)); (try (replace g : bad = false := g)); (try (simp only [IE.den_l, IE.den_s] at g)); cbv)))
  · obtain ⟨e1, e2⟩ := noneV (k1 g)
    subst e1 e2
    refine ⟨[], [], ?_⟩
    cbv
    and_intros
    all_goals first | exact trivial | exact ⟨rfl⟩ | exact ⟨rfl, fun _ _ _ h => h⟩ | exact ⟨rfl, fun _ _ _ _ => rfl⟩ | exact ⟨by kernel_rfl⟩
  have n1 : bad = false := g
  have c84 := c84 n1
  have c128 := c128 n1
  have k2 := k2 n1
  have k3 := k3 n1
  have k4 := k4 n1
  clear g
  refine ⟨_, _, c42, ⟨by kernel_rfl⟩, ?_⟩
  cbv
  iterate 4 (all_goals try (refine And.intro ?_ ?_ <;> (intro g; (try (replace g := of_decide_eq_true g)); (try (replace g := of_decide_eq_false g)); (try (replace g := of_decide_eq_false (bnot_t g))); (try (replace g := of_decide_eq_true (bnot_f g))); (try (simp only [IE.den_l, IE.den_s] at g)); cbv)))
  · obtain ⟨e1, e2⟩ := noneV (k2 g)
    subst e1 e2
    refine ⟨[], [], ?_⟩
    cbv
    and_intros
    all_goals first | exact trivial | exact ⟨rfl⟩ | exact ⟨rfl, fun _ _ _ h => h⟩ | exact ⟨rfl, fun _ _ _ _ => rfl⟩ | exact ⟨by kernel_rfl⟩
  have c84 := c84 g
  have c128 := c128 g
  have k3 := k3 g
  have k4 := k4 g
  clear g
  refine ⟨_, _, c84, ⟨by kernel_rfl⟩, ?_⟩
  cbv
  iterate 4 (all_goals try (refine And.intro ?_ ?_ <;> (intro g; (try (replace g := of_decide_eq_true g)); (try (replace g := of_decide_eq_false g)); (try (replace g := of_decide_eq_false (bnot_t g))); (try (replace g := of_decide_eq_true (bnot_f g))); (try (simp only [IE.den_l, IE.den_s] at g)); cbv)))
  · obtain ⟨e1, e2⟩ := noneV (k3 g)
    subst e1 e2
    refine ⟨[], [], ?_⟩
    cbv
    and_intros
    all_goals first | exact trivial | exact ⟨rfl⟩ | exact ⟨rfl, fun _ _ _ h => h⟩ | exact ⟨rfl, fun _ _ _ _ => rfl⟩ | exact ⟨by kernel_rfl⟩
  obtain ⟨e1, e2⟩ := someV (k4 g)
  subst e1 e2
  refine ⟨_, _, c128, ⟨by kernel_rfl⟩, ?_⟩
  cbv
  refine ⟨[], [], ?_⟩
  cbv
  and_intros
  all_goals first | exact trivial | exact ⟨rfl⟩ | exact ⟨rfl, fun _ _ _ h => h⟩ | exact ⟨rfl, fun _ _ _ _ => rfl⟩ | exact ⟨by kernel_rfl⟩
end Go.Proofs.YtkogbobplhebaaaGreatDoor

