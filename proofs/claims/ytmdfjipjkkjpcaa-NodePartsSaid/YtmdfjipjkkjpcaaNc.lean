/- Node laws: the bytes of a node. -/
import Derived.Test.YtmdfjipjkkjpcaaNb
namespace Go.Proofs.Ytmdfjipjkkjpcaa
open Go.SX

def lowN (n : Nat) : Nat → Nat
  | 0 => n
  | k + 1 => lowN (n / 256) k
def lowB (n : Nat) : Nat → List UInt8
  | 0 => []
  | k + 1 => UInt8.ofNat n :: lowB (n / 256) k

theorem lowN_succ : ∀ (k n : Nat), lowN n (k + 1) = lowN n k / 256
  | 0, n => rfl
  | k + 1, n => lowN_succ k (n / 256)

theorem lowB_succ : ∀ (k n : Nat), lowB n (k + 1) = lowB n k ++ [UInt8.ofNat (lowN n k)]
  | 0, n => rfl
  | k + 1, n => by
      have := lowB_succ k (n / 256)
      simp only [lowB, List.cons_append, lowN] at this ⊢
      rw [this]

theorem lowB_length : ∀ (k n : Nat), (lowB n k).length = k
  | 0, n => rfl
  | k + 1, n => by simp [lowB, lowB_length k]

theorem lowN_le : ∀ (k n : Nat), lowN n k ≤ n
  | 0, n => Nat.le_refl _
  | k + 1, n => by
      have := lowN_le k (n / 256)
      simp only [lowN]
      omega

theorem u8_wrap (n : Nat) : UInt8.ofNat (IntKind.u8.wrap (n : Int)).toNat = UInt8.ofNat n := by
  rw [IntKind.wrap_u8]
  apply UInt8.toNat.inj
  simp only [UInt8.toNat_ofNat']
  omega

theorem u8_range (n : Int) : 0 ≤ IntKind.u8.wrap n ∧ IntKind.u8.wrap n < 256 := by
  rw [IntKind.wrap_u8]; omega

theorem shr8 (n : Nat) : ((n : Int).fdiv (2 ^ min (8 : Int).toNat IntKind.u32.bits)) = ((n / 256 : Nat) : Int) := by
  have : (2 : Int) ^ min (8 : Int).toNat IntKind.u32.bits = 256 := by decide
  rw [this, Int.fdiv_eq_ediv_of_nonneg _ (by omega)]
  omega

theorem con42 {bs : List UInt8} {n m : Nat} (hm : m ≤ 8) (hl : bs.length < 1000000000000) :
    Con 42 [.own 1000, .int .u32 (.s fun _ => (n : Int)), .int .i64 (.s fun _ => (m : Int))] [(1000, .barr 5 fun _ => bs)] (.own 2000) [(1000, .dead), (2000, .barr 5 fun _ => bs ++ lowB n m)] := by
  refine con_of Try.func42 rfl rfl 19 _ rfl rfl rfl rfl ?_
  cbv
  refine ⟨Nat, [500], fun i => [(0, .own 500), (1, .int .u32 (.s fun _ => (lowN n i : Int))), (8, .int .i64 (.s fun _ => (i : Int)))], fun i => [(1000, .dead), (500, .barr 5 fun _ => bs ++ lowB n i)],
    fun i => i ≤ m, fun i => m - i, 0, [(500, some 1000)], Nat.zero_le _, ⟨?_⟩, fun i hi => ?_⟩
  · cbv
    exact ⟨⟨⟨rfl⟩, ⟨rfl⟩, trivial⟩, ⟨⟨(List.append_nil bs).symm⟩, trivial⟩, ⟨rfl⟩⟩
  · have hi : i ≤ m := hi
    have hlen := lowB_length i n
    cbv
    refine ⟨fun h1 => ?_, fun h1 => ?_⟩
    · have h1 : (i : Int) < (m : Int) := of_decide_eq_true h1
      have hlt : i < m := by omega
      have b2 : bound64 ((i : Int) + 1) := by unfold bound64; omega
      have b1 : lenOk ((bs ++ lowB n i).length + 1) 1 := by unfold lenOk; simp only [List.length_append, hlen]; omega
      have b0 := u8_range (lowN n i : Int)
      have e1 : UInt8.ofNat (IntKind.u8.wrap (lowN n i : Int)).toNat = UInt8.ofNat (lowN n i) := u8_wrap _
      have e2 := lowB_succ i n
      have e3 : ((lowN n i : Int).fdiv (2 ^ min (8 : Int).toNat IntKind.u32.bits)) = ((lowN n (i + 1) : Nat) : Int) := by rw [lowN_succ]; exact shr8 _
      have e4 : (i : Int) + 1 = ((i + 1 : Nat) : Int) := by omega
      have e5 : (bs ++ lowB n i) ++ [UInt8.ofNat (IntKind.u8.wrap (lowN n i : Int)).toNat] = bs ++ lowB n (i + 1) := by rw [e1, e2, List.append_assoc]
      clear h1
      cbv
      refine ⟨⟨⟨b0, trivial⟩, b1⟩, ⟨by decide⟩, ⟨b2⟩, i + 1, [(500, some 14)], hlt, ?_, ⟨rfl⟩, ⟨?_⟩⟩
      · show m - (i + 1) < m - i
        omega
      · cbv
        refine ⟨⟨⟨e3⟩, ⟨e4⟩, trivial⟩, ⟨⟨e5⟩, trivial⟩, ⟨rfl⟩⟩
    · have h1 : ¬ ((i : Int) < (m : Int)) := of_decide_eq_false h1
      have hle : i = m := by omega
      subst hle
      cbv
      refine ⟨[(2000, some 500)], [], ?_⟩
      cbv
      exact ⟨⟨⟨rfl⟩, trivial⟩, ⟨rfl⟩⟩
theorem con42n {n m : Nat} (hm : m ≤ 8) :
    Con 42 [.nil, .int .u32 (.s fun _ => (n : Int)), .int .i64 (.s fun _ => (m : Int))] [] (.own 2000) [(2000, .barr 5 fun _ => lowB n m)] := by
  refine con_of Try.func42 rfl rfl 19 _ rfl rfl rfl rfl ?_
  cbv
  refine ⟨Nat, [500], fun i => [(0, .own 500), (1, .int .u32 (.s fun _ => (lowN n i : Int))), (8, .int .i64 (.s fun _ => (i : Int)))], fun i => [(500, .barr 5 fun _ => lowB n i)],
    fun i => i ≤ m, fun i => m - i, 0, [(500, none)], Nat.zero_le _, ⟨?_⟩, fun i hi => ?_⟩
  · cbv
    exact ⟨⟨⟨rfl⟩, ⟨rfl⟩, trivial⟩, ⟨⟨rfl⟩, trivial⟩, ⟨rfl⟩⟩
  · have hi : i ≤ m := hi
    have hlen := lowB_length i n
    cbv
    refine ⟨fun h1 => ?_, fun h1 => ?_⟩
    · have h1 : (i : Int) < (m : Int) := of_decide_eq_true h1
      have hlt : i < m := by omega
      have b2 : bound64 ((i : Int) + 1) := by unfold bound64; omega
      have b1 : lenOk ((lowB n i).length + 1) 1 := by unfold lenOk; rw [hlen]; omega
      have b0 := u8_range (lowN n i : Int)
      have e1 : UInt8.ofNat (IntKind.u8.wrap (lowN n i : Int)).toNat = UInt8.ofNat (lowN n i) := u8_wrap _
      have e2 := lowB_succ i n
      have e3 : ((lowN n i : Int).fdiv (2 ^ min (8 : Int).toNat IntKind.u32.bits)) = ((lowN n (i + 1) : Nat) : Int) := by rw [lowN_succ]; exact shr8 _
      have e4 : (i : Int) + 1 = ((i + 1 : Nat) : Int) := by omega
      have e5 : lowB n i ++ [UInt8.ofNat (IntKind.u8.wrap (lowN n i : Int)).toNat] = lowB n (i + 1) := by rw [e1, e2]
      clear h1
      cbv
      refine ⟨⟨⟨b0, trivial⟩, b1⟩, ⟨by decide⟩, ⟨b2⟩, i + 1, [(500, some 14)], hlt, ?_, ⟨rfl⟩, ⟨?_⟩⟩
      · show m - (i + 1) < m - i
        omega
      · cbv
        refine ⟨⟨⟨e3⟩, ⟨e4⟩, trivial⟩, ⟨⟨e5⟩, trivial⟩, ⟨rfl⟩⟩
    · have h1 : ¬ ((i : Int) < (m : Int)) := of_decide_eq_false h1
      have hle : i = m := by omega
      subst hle
      cbv
      refine ⟨[(2000, some 500)], [], ?_⟩
      cbv
      exact ⟨⟨⟨rfl⟩, trivial⟩, ⟨rfl⟩⟩


def isPageB (n : Int) : Bool := decide (2 ≤ n) && decide (n < 16384)

theorem con98 {n : Int} : Con 98 [.int .u32 (.s fun _ => n)] [] (.bool (.s fun _ => isPageB n)) [] := by
  refine con_of Try.func98 rfl rfl 9 _ rfl rfl rfl rfl ?_
  cbv
  refine ⟨fun h1 => ?_, fun h1 => ?_⟩
  · have h1 : 2 ≤ n := of_decide_eq_true h1
    have e : decide (n < 16384) = isPageB n := by simp [isPageB, h1]
    cbv
    refine ⟨[], [], ?_⟩
    cbv
    exact ⟨⟨e⟩, ⟨rfl⟩⟩
  · have h1 : ¬ (2 ≤ n) := of_decide_eq_false h1
    have e : false = isPageB n := by simp [isPageB, h1]
    cbv
    refine ⟨[], [], ?_⟩
    cbv
    exact ⟨⟨e⟩, ⟨rfl⟩⟩

def kidB (e : Ent) : Bool := decide (e.val.length = 0) && (decide (e.size = 0) && isPageB e.page)

theorem con86 {e : Ent} : Con 86 [entSV e] [] (.bool (.s fun _ => kidB e)) [] := by
  refine con_of Try.func86 rfl rfl 17 _ rfl rfl rfl rfl ?_
  cbv
  refine ⟨fun h1 => ?_, fun h1 => ?_⟩
  · have h1 : (e.val.length : Int) = 0 := of_decide_eq_true h1
    have h1 : e.val.length = 0 := by omega
    cbv
    refine ⟨fun h2 => ?_, fun h2 => ?_⟩
    · have h2 : e.size = 0 := of_decide_eq_true h2
      have e1 : isPageB e.page = kidB e := by simp [kidB, h1, h2]
      cbv
      refine ⟨_, _, con98, ⟨rfl⟩, ?_⟩
      cbv
      refine ⟨[], [], ?_⟩
      cbv
      exact ⟨⟨e1⟩, ⟨rfl⟩⟩
    · have h2 : ¬ (e.size = 0) := of_decide_eq_false h2
      have e1 : false = kidB e := by simp [kidB, h2]
      cbv
      refine ⟨[], [], ?_⟩
      cbv
      exact ⟨⟨e1⟩, ⟨rfl⟩⟩
  · have h1 : ¬ ((e.val.length : Int) = 0) := of_decide_eq_false h1
    have h1 : ¬ (e.val.length = 0) := by omega
    have e1 : false = kidB e := by simp only [kidB, h1, decide_false, Bool.false_and]
    cbv
    refine ⟨[], [], ?_⟩
    cbv
    exact ⟨⟨e1⟩, ⟨rfl⟩⟩
def leafyB (e : Ent) : Bool :=
  if e.page = 0 then decide (e.size = 0) && decide (e.val.length ≤ 64)
  else decide (e.val.length = 0) && (isPageB e.page && (decide (64 < e.size) && decide (e.size ≤ 8192)))

theorem con87 {e : Ent} : Con 87 [entSV e] [] (.bool (.s fun _ => leafyB e)) [] := by
  refine con_of Try.func87 rfl rfl 34 _ rfl rfl rfl rfl ?_
  cbv
  refine ⟨fun h1 => ?_, fun h1 => ?_⟩
  · have h1 : e.page = 0 := of_decide_eq_true h1
    have e0 : leafyB e = (decide (e.size = 0) && decide (e.val.length ≤ 64)) := if_pos h1
    cbv
    refine ⟨fun h2 => ?_, fun h2 => ?_⟩
    · have h2 : e.size = 0 := of_decide_eq_true h2
      have e2 : decide ((e.val.length : Int) ≤ 64) = decide (e.val.length ≤ 64) := decide_eq_decide.2 (by omega)
      have e1 : decide ((e.val.length : Int) ≤ 64) = leafyB e := by rw [e0, h2, e2]; rfl
      clear e0
      cbv
      refine ⟨[], [], ?_⟩
      cbv
      exact ⟨⟨e1⟩, ⟨rfl⟩⟩
    · have h2 : ¬ (e.size = 0) := of_decide_eq_false h2
      have e1 : false = leafyB e := by rw [e0]; simp only [h2, decide_false, Bool.false_and]
      clear e0
      cbv
      refine ⟨[], [], ?_⟩
      cbv
      exact ⟨⟨e1⟩, ⟨rfl⟩⟩
  · have h1 : ¬ (e.page = 0) := of_decide_eq_false h1
    have e0 : leafyB e = (decide (e.val.length = 0) && (isPageB e.page && (decide (64 < e.size) && decide (e.size ≤ 8192)))) := if_neg h1
    cbv
    refine ⟨fun h2 => ?_, fun h2 => ?_⟩
    · have h2 : (e.val.length : Int) = 0 := of_decide_eq_true h2
      have h2 : e.val.length = 0 := by omega
      have e0 : leafyB e = (isPageB e.page && (decide (64 < e.size) && decide (e.size ≤ 8192))) := by rw [e0, h2]; rfl
      clear h2
      cbv
      refine ⟨_, _, con98, ⟨rfl⟩, ?_⟩
      cbv
      refine ⟨fun h3 => ?_, fun h3 => ?_⟩
      · have h3 : isPageB e.page = true := h3
        have e0 : leafyB e = (decide (64 < e.size) && decide (e.size ≤ 8192)) := by rw [e0, h3]; rfl
        cbv
        refine ⟨fun h4 => ?_, fun h4 => ?_⟩
        · have h4 : 64 < e.size := of_decide_eq_true h4
          have e1 : decide (e.size ≤ 8192) = leafyB e := by rw [e0]; simp only [h4, decide_true, Bool.true_and]
          clear e0
          cbv
          refine ⟨[], [], ?_⟩
          cbv
          exact ⟨⟨e1⟩, ⟨rfl⟩⟩
        · have h4 : ¬ (64 < e.size) := of_decide_eq_false h4
          have e1 : false = leafyB e := by rw [e0]; simp only [h4, decide_false, Bool.false_and]
          clear e0
          cbv
          refine ⟨[], [], ?_⟩
          cbv
          exact ⟨⟨e1⟩, ⟨rfl⟩⟩
      · have h3 : isPageB e.page = false := h3
        have e1 : false = leafyB e := by rw [e0, h3]; rfl
        clear e0
        cbv
        refine ⟨[], [], ?_⟩
        cbv
        exact ⟨⟨e1⟩, ⟨rfl⟩⟩
    · have h2 : ¬ ((e.val.length : Int) = 0) := of_decide_eq_false h2
      have h2 : ¬ (e.val.length = 0) := by omega
      have e1 : false = leafyB e := by rw [e0]; simp only [h2, decide_false, Bool.false_and]
      clear e0 h2
      cbv
      refine ⟨[], [], ?_⟩
      cbv
      exact ⟨⟨e1⟩, ⟨rfl⟩⟩
end Go.Proofs.Ytmdfjipjkkjpcaa
