/- Node laws: the reader, where it does not give up. -/
import Derived.Test.YtmdfjipjkkjpcaaNy
namespace Go.Proofs.Ytmdfjipjkkjpcaa
open Go.SX

set_option maxRecDepth 20000 in
set_option maxHeartbeats 4000000 in
theorem con93 {b : List UInt8} {n : Nat} (hn : n ≤ b.length) (hb : b.length < 1000000000000) :
    Con 93 [.loc 1000 0, .int .i64 (.s fun _ => (n : Int))] [(1000, .cells 172 [.dat (.bytes fun _ => b)])] (.own 2000) [(1000, .cells 172 [.dat (.bytes fun _ => b.drop n)]), (2000, .barr 5 fun _ => b.take n)] := by
  refine con_of Try.func93 rfl rfl 32 _ rfl rfl rfl rfl ?_
  have so1 : sliceObl 0 (n : Int) b.length := ⟨by omega, by omega, by omega⟩
  have so2 : sliceObl (n : Int) (b.length : Int) b.length := ⟨by omega, by omega, by omega⟩
  have hng : ¬ (b.length : Int) < (n : Int) := by omega
  have e1 : (b.drop n).take ((b.length : Int).toNat - (n : Int).toNat) = b.drop n := by rw [List.take_of_length_le]; simp
  have e2 : (b.drop 0).take ((n : Int).toNat - 0) = b.take n := by simp
  have l1 : ((b.drop 0).take ((n : Int).toNat - 0)).length < 1000000000000 := by rw [e2]; simp only [List.length_take]; omega
  cbv
  refine ⟨fun h1 => ?_, fun _ => ?_⟩
  · have h1 : (b.length : Int) < (n : Int) := of_decide_eq_true h1
    exfalso
    exact hng h1
  · cbv
    refine ⟨⟨so1⟩, ⟨so2⟩, _, _, con84 l1, ⟨?_⟩, ?_⟩
    · rfl
    cbv
    refine ⟨[(2000, some 6100)], [], ?_⟩
    cbv
    and_intros
    all_goals first | exact trivial | exact ⟨rfl⟩ | exact ⟨e1⟩ | exact ⟨e2⟩ | exact ⟨by kernel_rfl⟩

def numN : List UInt8 → Nat
  | [] => 0
  | c :: r => c.toNat + 256 * numN r
theorem numN_app (c : UInt8) : ∀ (l : List UInt8), numN (l ++ [c]) = numN l + c.toNat * 256 ^ l.length
  | [] => by simp [numN]
  | x :: l => by
      have := numN_app c l
      simp only [List.cons_append, numN, this, List.length_cons, Nat.pow_succ]
      have : c.toNat * (256 ^ l.length * 256) = 256 * (c.toNat * 256 ^ l.length) := by rw [← Nat.mul_assoc]; exact Nat.mul_comm _ _
      rw [this]; omega
theorem numN_lt : ∀ (l : List UInt8), numN l < 256 ^ l.length
  | [] => by simp [numN]
  | x :: l => by
      have := numN_lt l
      have := x.toNat_lt
      simp only [numN, List.length_cons, Nat.pow_succ]
      omega
theorem or_num {x c i : Nat} (hx : x < 256 ^ i) (hc : c < 256) (hi : i < 4) :
    IntKind.u32.wrap ((BitVec.ofInt IntKind.u32.bits (x : Int) ||| BitVec.ofInt IntKind.u32.bits (IntKind.u32.wrap (IntKind.u32.wrap (c : Int) * 2 ^ (min (8 * (i : Int)).toNat IntKind.u32.bits)))).toNat : Int) = ((x + c * 256 ^ i : Nat) : Int) := by
  have e8 : (8 * (i : Int)).toNat = 8 * i := by omega
  have em : min (8 * i) IntKind.u32.bits = 8 * i := by simp [IntKind.bits]; omega
  have ec : IntKind.u32.wrap (c : Int) = (c : Int) := by rw [IntKind.wrap_u32]; omega
  have ep : (2 : Nat) ^ (8 * i) = 256 ^ i := by rw [Nat.pow_mul]
  have hb : c * 256 ^ i < 4294967296 := by
    have : i = 0 ∨ i = 1 ∨ i = 2 ∨ i = 3 := by omega
    rcases this with rfl | rfl | rfl | rfl <;> simp <;> omega
  have hx4 : x < 4294967296 := by
    have : i = 0 ∨ i = 1 ∨ i = 2 ∨ i = 3 := by omega
    rcases this with rfl | rfl | rfl | rfl <;> simp at hx <;> omega
  have hs : x + c * 256 ^ i < 4294967296 := by
    have : i = 0 ∨ i = 1 ∨ i = 2 ∨ i = 3 := by omega
    rcases this with rfl | rfl | rfl | rfl <;> simp at hx ⊢ <;> omega
  have ew : IntKind.u32.wrap ((c : Int) * 2 ^ (8 * i)) = ((c * 256 ^ i : Nat) : Int) := by
    have : (c : Int) * 2 ^ (8 * i) = ((c * 256 ^ i : Nat) : Int) := by rw [← ep]; push_cast; rfl
    rw [this, IntKind.wrap_u32]; omega
  rw [e8, em, ec, ew, BitVec.toNat_or]
  have t1 : (BitVec.ofInt IntKind.u32.bits (x : Int)).toNat = x := by
    rw [BitVec.ofInt_natCast, BitVec.toNat_ofNat]; exact Nat.mod_eq_of_lt (by simpa [IntKind.bits] using hx4)
  have t2 : (BitVec.ofInt IntKind.u32.bits ((c * 256 ^ i : Nat) : Int)).toNat = c * 256 ^ i := by
    rw [BitVec.ofInt_natCast, BitVec.toNat_ofNat]; exact Nat.mod_eq_of_lt (by simpa [IntKind.bits] using hb)
  rw [t1, t2]
  have h3 : x ||| c * 256 ^ i = x + c * 256 ^ i := by
    have := Nat.two_pow_add_eq_or_of_lt (i := 8 * i) (b := x) (by rw [ep]; exact hx) c
    rw [ep, Nat.mul_comm] at this
    rw [Nat.or_comm, ← this, Nat.add_comm]
  rw [h3, IntKind.wrap_u32]
  omega

set_option maxRecDepth 20000 in
set_option maxHeartbeats 4000000 in
theorem con92s {b : List UInt8} {m : Nat} (hm : m ≤ 4) (hn : m ≤ b.length) (hb : b.length < 1000000000000) :
    Con 92 [.loc 1000 0, .int .i64 (.s fun _ => (m : Int))] [(1000, .cells 172 [.dat (.bytes fun _ => b)])] (.int .u32 (.s fun _ => (numN (b.take m) : Int))) [(1000, .cells 172 [.dat (.bytes fun _ => b.drop m)])] := by
  obtain ⟨T, hT⟩ : ∃ T, T = b.take m := ⟨_, rfl⟩
  have hTl : T.length = m := by rw [hT, List.length_take]; omega
  have ca := con93 hn hb
  rw [← hT] at ca ⊢
  refine con_of Try.func92 rfl rfl 26 _ rfl rfl rfl rfl ?_
  cbv
  refine ⟨_, _, ca, ⟨?_⟩, ?_⟩
  · rfl
  cbv
  refine ⟨Nat, [], fun i => [(5, .int .u32 (.s fun _ => (numN (T.take i) : Int))), (12, .int .i64 (.s fun _ => (i : Int)))], fun _ => [(1000, .cells 172 [.dat (.bytes fun _ => b.drop m)]), (4000, .barr 5 fun _ => T)],
    fun i => i ≤ T.length, fun i => T.length - i, 0, [], Nat.zero_le _, ⟨?_⟩, fun i hi => ?_⟩
  · cbv
    and_intros
    all_goals first | exact trivial | exact ⟨rfl⟩ | exact ⟨by kernel_rfl⟩
  · have hi : i ≤ T.length := hi
    cbv
    refine ⟨fun h1 => ?_, fun h1 => ?_⟩
    · have h1 : (i : Int) < (T.length : Int) := of_decide_eq_true h1
      have hlt : i < T.length := by omega
      have o1 : indexObl (i : Int) T.length := ⟨by omega, h1⟩
      have bi : bound64 ((i : Int) + 1) := by unfold bound64; omega
      have b8 : bound64 (8 * (i : Int)) := by unfold bound64; omega
      have p8 : 0 ≤ 8 * (i : Int) := by omega
      have ei : (i : Int) + 1 = ((i + 1 : Nat) : Int) := by omega
      have hms : T.length - (i + 1) < T.length - i := by omega
      have hor := or_num (x := numN (T.take i)) (c := (T.getD i default).toNat) (i := i) (by have := numN_lt (T.take i); rw [List.length_take, Nat.min_eq_left (by omega)] at this; exact this) (UInt8.toNat_lt _) (by omega)
      have hnx : numN (T.take (i + 1)) = numN (T.take i) + (T.getD i default).toNat * 256 ^ i := by
        rw [getD_take T hlt, numN_app, List.length_take, Nat.min_eq_left (by omega)]
      rw [← hnx] at hor
      clear h1 hnx
      cbv
      refine ⟨⟨o1⟩, ?_⟩
      cbv
      refine ⟨⟨b8⟩, ⟨p8⟩, ⟨bi⟩, i + 1, [], hlt, hms, ⟨?_⟩, ⟨?_⟩⟩
      · kernel_rfl
      · cbv
        and_intros
        all_goals first | exact trivial | exact ⟨rfl⟩ | exact ⟨hor⟩ | exact ⟨ei⟩ | exact ⟨by kernel_rfl⟩
    · have h1 : ¬ (i : Int) < (T.length : Int) := of_decide_eq_false h1
      have e1 : (numN (T.take i) : Int) = (numN T : Int) := by rw [List.take_of_length_le (by omega)]
      clear h1
      cbv
      refine ⟨[], [], ?_⟩
      cbv
      and_intros
      all_goals first | exact trivial | exact ⟨rfl⟩ | exact ⟨e1⟩ | exact ⟨by kernel_rfl⟩

theorem con92 {b : List UInt8} {m : Nat} (hm : m ≤ 4) (hn : m ≤ b.length) (hb : b.length < 1000000000000) :
    Con 92 [.loc 1000 0, .int .i64 (.l (m : Int))] [(1000, .cells 172 [.dat (.bytes fun _ => b)])] (.int .u32 (.s fun _ => (numN (b.take m) : Int))) [(1000, .cells 172 [.dat (.bytes fun _ => b.drop m)])] :=
  Con.lit (a := [.loc 1000 0]) (con92s hm hn hb)
end Go.Proofs.Ytmdfjipjkkjpcaa
