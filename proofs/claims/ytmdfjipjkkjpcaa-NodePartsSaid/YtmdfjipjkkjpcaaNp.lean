/- Node laws: places. -/
import Derived.Test.YtmdfjipjkkjpcaaNo
namespace Go.Proofs.Ytmdfjipjkkjpcaa
open Go.SX

def geP (key x : List UInt8) : Bool := decide ((0 : Int) ≤ Lib.compareBytes x key)
def gtP (key x : List UInt8) : Bool := decide ((0 : Int) < Lib.compareBytes x key)

def binS (p : Nat → Bool) (i j : Nat) : Nat :=
  if h : i < j then (if p ((i + j) / 2) then binS p i ((i + j) / 2) else binS p ((i + j) / 2 + 1) j) else i
termination_by j - i
decreasing_by all_goals omega

theorem binS_yes {p : Nat → Bool} {i j : Nat} (h : i < j) (hp : p ((i + j) / 2) = true) : binS p i ((i + j) / 2) = binS p i j := by
  rw [binS.eq_1 p i j, dif_pos h, if_pos hp]
theorem binS_no {p : Nat → Bool} {i j : Nat} (h : i < j) (hp : p ((i + j) / 2) = false) : binS p ((i + j) / 2 + 1) j = binS p i j := by
  rw [binS.eq_1 p i j, dif_pos h, if_neg (by rw [hp]; decide)]
theorem binS_end {p : Nat → Bool} {i j : Nat} (h : ¬ i < j) : i = binS p i j := by
  rw [binS.eq_1 p i j, dif_neg h]
theorem wrap_u64_id {x : Int} (h1 : 0 ≤ x) (h2 : x < 18446744073709551616) : IntKind.u64.wrap x = x := by
  simp only [IntKind.wrap, IntKind.bits, IntKind.signed]
  simp
  omega
theorem half_eq {i j : Nat} (h : i + j < 4611686018427387904) : IntKind.i64.wrap ((IntKind.u64.wrap ((i : Int) + (j : Int))).fdiv (2 ^ min (1 : Int).toNat IntKind.u64.bits)) = (((i + j) / 2 : Nat) : Int) := by
  have e : (2 : Int) ^ min (1 : Int).toNat IntKind.u64.bits = 2 := by decide
  have e1 : IntKind.u64.wrap ((i : Int) + (j : Int)) = (i : Int) + (j : Int) := by apply wrap_u64_id <;> omega
  rw [e, e1, Int.fdiv_eq_ediv_of_nonneg _ (by omega), IntKind.wrap_i64]
  omega
theorem half_bound {i j : Nat} (h : i + j < 4611686018427387904) : bound64 ((i : Int) + (j : Int)) := by unfold bound64; omega

def placeI (p : List UInt8 → Bool) (es : List Ent) : Nat := binS (fun i => p (es.getD i default).key) 0 es.length

theorem con73 {a b : List UInt8} : Con 73 [.dat (.bytes fun _ => a), .dat (.bytes fun _ => b)] [] (.bool (.s fun _ => decide (a = b))) [] := by
  refine con_of Try.func73 rfl rfl 10 _ rfl rfl rfl rfl ?_
  have e1 : (a == b) = decide (a = b) := by rw [Bool.eq_iff_iff]; simp
  cbv
  refine ⟨[], [], ?_⟩
  cbv
  exact ⟨⟨e1⟩, ⟨rfl⟩⟩


theorem con78 {key : List UInt8} {x : List UInt8} : Con 78 [.dat (.bytes fun _ => x), .loc 1000 0] [(1000, .cells 27 [.dat (.bytes fun _ => key)])] (.bool (.s fun _ => geP key x)) [(1000, .cells 27 [.dat (.bytes fun _ => key)])] := by
  refine con_of Try.func78 rfl rfl 8 _ rfl rfl rfl rfl ?_
  cbv
  refine ⟨_, _, con79 (a := x) (b := key), ⟨?_⟩, ?_⟩
  · rfl
  cbv
  refine ⟨[], [], ?_⟩
  cbv
  and_intros
  all_goals first | exact trivial | exact ⟨rfl⟩ | exact ⟨rfl, fun _ _ _ _ => rfl⟩ | exact ⟨by kernel_rfl⟩

theorem con95_78 {key : List UInt8} {leaf : Bool} {es : List Ent} {i : Nat} (hi : i < es.length) :
    Con 95 [.int .i64 (.s fun _ => (i : Int)), .loc 1000 0, .loc 1001 0] [(1000, .cells 121 [.fn 78 [.loc 1002 0]]), (1001, .cells 24 [.bool (.s fun _ => leaf), .dat (entsDV es)]), (1002, .cells 27 [.dat (.bytes fun _ => key)])]
      (.bool (.s fun _ => geP key (es.getD i default).key)) [(1000, .cells 121 [.fn 78 [.loc 1002 0]]), (1001, .cells 24 [.bool (.s fun _ => leaf), .dat (entsDV es)]), (1002, .cells 27 [.dat (.bytes fun _ => key)])] := by
  refine con_of Try.func95 rfl rfl 13 _ rfl rfl rfl rfl ?_
  have o1 : indexObl (i : Int) es.length := ⟨by omega, by omega⟩
  cbv
  refine ⟨⟨o1⟩, _, _, con78 (key := key), ⟨?_⟩, ?_⟩
  · kernel_rfl
  cbv
  refine ⟨⟨by kernel_rfl⟩, ?_⟩
  cbv
  refine ⟨[], [], ?_⟩
  cbv
  and_intros
  all_goals first | exact trivial | exact ⟨rfl⟩ | exact ⟨rfl, fun _ _ _ _ => rfl⟩ | exact ⟨by kernel_rfl⟩


set_option maxRecDepth 20000 in
set_option maxHeartbeats 4000000 in
theorem con94_78 {key : List UInt8} {leaf : Bool} {es : List Ent} (hl : es.length < 1000000000000) :
    Con 94 [.int .i64 (.s fun _ => (es.length : Int)), .fn 95 [.loc 1000 0, .loc 1001 0]] [(1000, .cells 121 [.fn 78 [.loc 1002 0]]), (1001, .cells 24 [.bool (.s fun _ => leaf), .dat (entsDV es)]), (1002, .cells 27 [.dat (.bytes fun _ => key)])]
      (.int .i64 (.s fun _ => (placeI (geP key) es : Int))) [(1000, .cells 121 [.fn 78 [.loc 1002 0]]), (1001, .cells 24 [.bool (.s fun _ => leaf), .dat (entsDV es)]), (1002, .cells 27 [.dat (.bytes fun _ => key)])] := by
  obtain ⟨n, hn⟩ : ∃ n, n = es.length := ⟨_, rfl⟩
  have en : ((es.length : Nat) : Int) = (n : Int) := by rw [hn]
  have hb0 : 0 ≤ n ∧ n ≤ es.length ∧ binS (fun i => geP key (es.getD i default).key) 0 n = placeI (geP key) es := ⟨Nat.zero_le _, by omega, by rw [hn]; rfl⟩
  refine con_of Try.func94 rfl rfl 26 _ rfl rfl rfl rfl ?_
  cbv
  refine ⟨Nat × Nat, [], fun x => [(5, .int .i64 (.s fun _ => (x.1 : Int))), (6, .int .i64 (.s fun _ => (x.2 : Int)))], fun x => [(1000, .cells 121 [.fn 78 [.loc 1002 0]]), (1001, .cells 24 [.bool (.s fun _ => leaf), .dat (entsDV es)]), (1002, .cells 27 [.dat (.bytes fun _ => key)])],
    fun x => x.1 ≤ x.2 ∧ x.2 ≤ es.length ∧ binS (fun i => geP key (es.getD i default).key) x.1 x.2 = placeI (geP key) es, fun x => x.2 - x.1, (0, n), [], hb0, ⟨?_⟩, fun x hx => ?_⟩
  · cbv
    and_intros
    all_goals first | exact trivial | exact ⟨en⟩ | exact ⟨rfl⟩ | exact ⟨rfl, fun _ _ _ _ => rfl⟩ | exact ⟨by kernel_rfl⟩
  · obtain ⟨i, j⟩ := x
    obtain ⟨hij, hj, hb⟩ : i ≤ j ∧ j ≤ es.length ∧ binS (fun i => geP key (es.getD i default).key) i j = placeI (geP key) es := hx
    cbv
    refine ⟨fun h1 => ?_, fun h1 => ?_⟩
    · have h1 : (i : Int) < (j : Int) := of_decide_eq_true h1
      have hlt : i < j := by omega
      have hh := half_eq (i := i) (j := j) (by omega)
      have hb1 := half_bound (i := i) (j := j) (by omega)
      obtain ⟨m, em⟩ : ∃ m, m = (i + j) / 2 := ⟨_, rfl⟩
      rw [← em] at hh
      have hm : m < es.length := by omega
      have bh : bound64 ((m : Int) + 1) := by unfold bound64; omega
      have bh : bound64 (IntKind.i64.wrap ((IntKind.u64.wrap ((i : Int) + (j : Int))).fdiv (2 ^ min (1 : Int).toNat IntKind.u64.bits)) + 1) := by rw [hh]; exact bh
      have eh : IntKind.i64.wrap ((IntKind.u64.wrap ((i : Int) + (j : Int))).fdiv (2 ^ min (1 : Int).toNat IntKind.u64.bits)) + 1 = ((m + 1 : Nat) : Int) := by rw [hh]; omega
      have m1 : j - (m + 1) < j - i := by omega
      have m2 : m - i < j - i := by omega
      have k1 : m + 1 ≤ j := by omega
      have k2 : i ≤ m ∧ m ≤ es.length := by omega
      have ca := con95_78 (key := key) (leaf := leaf) hm
      rw [← hh] at ca
      clear h1
      cbv
      refine ⟨⟨hb1⟩, ⟨by decide⟩, _, _, ca, ⟨?_⟩, ?_⟩
      · kernel_rfl
      cbv
      refine ⟨fun h2 => ?_, fun h2 => ?_⟩
      · have h2 : geP key (es.getD (m) default).key = false := bnot_t h2
        have hb' := (by rw [em] at h2 ⊢; exact (binS_no (p := fun i => geP key (es.getD i default).key) hlt h2).trans hb : binS (fun i => geP key (es.getD i default).key) (m + 1) j = placeI (geP key) es)
        cbv
        refine ⟨⟨bh⟩, (m + 1, j), [], ⟨k1, hj, hb'⟩, m1, ⟨?_⟩, ⟨?_⟩⟩
        · kernel_rfl
        · cbv
          and_intros
          all_goals first | exact trivial | exact ⟨eh⟩ | exact ⟨rfl⟩ | exact ⟨rfl, fun _ _ _ _ => rfl⟩ | exact ⟨by kernel_rfl⟩
      · have h2 : geP key (es.getD (m) default).key = true := bnot_f h2
        have hb' := (by rw [em] at h2 ⊢; exact (binS_yes (p := fun i => geP key (es.getD i default).key) hlt h2).trans hb : binS (fun i => geP key (es.getD i default).key) i m = placeI (geP key) es)
        cbv
        refine ⟨(i, m), [], ⟨k2.1, k2.2, hb'⟩, m2, ⟨?_⟩, ⟨?_⟩⟩
        · kernel_rfl
        · cbv
          and_intros
          all_goals first | exact trivial | exact ⟨hh⟩ | exact ⟨rfl⟩ | exact ⟨rfl, fun _ _ _ _ => rfl⟩ | exact ⟨by kernel_rfl⟩
    · have h1 : ¬ (i : Int) < (j : Int) := of_decide_eq_false h1
      have e1 : (i : Int) = (placeI (geP key) es : Int) := by
        rw [← hb, ← binS_end (by omega)]
      clear h1
      cbv
      refine ⟨[], [], ?_⟩
      cbv
      and_intros
      all_goals first | exact trivial | exact ⟨e1⟩ | exact ⟨rfl⟩ | exact ⟨rfl, fun _ _ _ _ => rfl⟩ | exact ⟨by kernel_rfl⟩

theorem con77_78 {key : List UInt8} {leaf : Bool} {es : List Ent} (hl : es.length < 1000000000000) :
    Con 77 [nodeSV leaf es, .fn 78 [.loc 1000 0]] [(1000, .cells 27 [.dat (.bytes fun _ => key)])]
      (.int .i64 (.s fun _ => (placeI (geP key) es : Int))) [(1000, .cells 27 [.dat (.bytes fun _ => key)])] := by
  refine con_of Try.func77 rfl rfl 10 _ rfl rfl rfl rfl ?_
  cbv
  refine ⟨_, _, con94_78 (key := key) (leaf := leaf) (es := es) hl, ⟨?_⟩, ?_⟩
  · kernel_rfl
  cbv
  refine ⟨[], [], ?_⟩
  cbv
  and_intros
  all_goals first | exact trivial | exact ⟨rfl⟩ | exact ⟨rfl, fun _ _ _ _ => rfl⟩ | exact ⟨by kernel_rfl⟩


theorem con80 {key : List UInt8} {x : List UInt8} : Con 80 [.dat (.bytes fun _ => x), .loc 1000 0] [(1000, .cells 27 [.dat (.bytes fun _ => key)])] (.bool (.s fun _ => gtP key x)) [(1000, .cells 27 [.dat (.bytes fun _ => key)])] := by
  refine con_of Try.func80 rfl rfl 8 _ rfl rfl rfl rfl ?_
  cbv
  refine ⟨_, _, con79 (a := x) (b := key), ⟨?_⟩, ?_⟩
  · rfl
  cbv
  refine ⟨[], [], ?_⟩
  cbv
  and_intros
  all_goals first | exact trivial | exact ⟨rfl⟩ | exact ⟨rfl, fun _ _ _ _ => rfl⟩ | exact ⟨by kernel_rfl⟩

theorem con95_80 {key : List UInt8} {leaf : Bool} {es : List Ent} {i : Nat} (hi : i < es.length) :
    Con 95 [.int .i64 (.s fun _ => (i : Int)), .loc 1000 0, .loc 1001 0] [(1000, .cells 121 [.fn 80 [.loc 1002 0]]), (1001, .cells 24 [.bool (.s fun _ => leaf), .dat (entsDV es)]), (1002, .cells 27 [.dat (.bytes fun _ => key)])]
      (.bool (.s fun _ => gtP key (es.getD i default).key)) [(1000, .cells 121 [.fn 80 [.loc 1002 0]]), (1001, .cells 24 [.bool (.s fun _ => leaf), .dat (entsDV es)]), (1002, .cells 27 [.dat (.bytes fun _ => key)])] := by
  refine con_of Try.func95 rfl rfl 13 _ rfl rfl rfl rfl ?_
  have o1 : indexObl (i : Int) es.length := ⟨by omega, by omega⟩
  cbv
  refine ⟨⟨o1⟩, _, _, con80 (key := key), ⟨?_⟩, ?_⟩
  · kernel_rfl
  cbv
  refine ⟨⟨by kernel_rfl⟩, ?_⟩
  cbv
  refine ⟨[], [], ?_⟩
  cbv
  and_intros
  all_goals first | exact trivial | exact ⟨rfl⟩ | exact ⟨rfl, fun _ _ _ _ => rfl⟩ | exact ⟨by kernel_rfl⟩


set_option maxRecDepth 20000 in
set_option maxHeartbeats 4000000 in
theorem con94_80 {key : List UInt8} {leaf : Bool} {es : List Ent} (hl : es.length < 1000000000000) :
    Con 94 [.int .i64 (.s fun _ => (es.length : Int)), .fn 95 [.loc 1000 0, .loc 1001 0]] [(1000, .cells 121 [.fn 80 [.loc 1002 0]]), (1001, .cells 24 [.bool (.s fun _ => leaf), .dat (entsDV es)]), (1002, .cells 27 [.dat (.bytes fun _ => key)])]
      (.int .i64 (.s fun _ => (placeI (gtP key) es : Int))) [(1000, .cells 121 [.fn 80 [.loc 1002 0]]), (1001, .cells 24 [.bool (.s fun _ => leaf), .dat (entsDV es)]), (1002, .cells 27 [.dat (.bytes fun _ => key)])] := by
  obtain ⟨n, hn⟩ : ∃ n, n = es.length := ⟨_, rfl⟩
  have en : ((es.length : Nat) : Int) = (n : Int) := by rw [hn]
  have hb0 : 0 ≤ n ∧ n ≤ es.length ∧ binS (fun i => gtP key (es.getD i default).key) 0 n = placeI (gtP key) es := ⟨Nat.zero_le _, by omega, by rw [hn]; rfl⟩
  refine con_of Try.func94 rfl rfl 26 _ rfl rfl rfl rfl ?_
  cbv
  refine ⟨Nat × Nat, [], fun x => [(5, .int .i64 (.s fun _ => (x.1 : Int))), (6, .int .i64 (.s fun _ => (x.2 : Int)))], fun x => [(1000, .cells 121 [.fn 80 [.loc 1002 0]]), (1001, .cells 24 [.bool (.s fun _ => leaf), .dat (entsDV es)]), (1002, .cells 27 [.dat (.bytes fun _ => key)])],
    fun x => x.1 ≤ x.2 ∧ x.2 ≤ es.length ∧ binS (fun i => gtP key (es.getD i default).key) x.1 x.2 = placeI (gtP key) es, fun x => x.2 - x.1, (0, n), [], hb0, ⟨?_⟩, fun x hx => ?_⟩
  · cbv
    and_intros
    all_goals first | exact trivial | exact ⟨en⟩ | exact ⟨rfl⟩ | exact ⟨rfl, fun _ _ _ _ => rfl⟩ | exact ⟨by kernel_rfl⟩
  · obtain ⟨i, j⟩ := x
    obtain ⟨hij, hj, hb⟩ : i ≤ j ∧ j ≤ es.length ∧ binS (fun i => gtP key (es.getD i default).key) i j = placeI (gtP key) es := hx
    cbv
    refine ⟨fun h1 => ?_, fun h1 => ?_⟩
    · have h1 : (i : Int) < (j : Int) := of_decide_eq_true h1
      have hlt : i < j := by omega
      have hh := half_eq (i := i) (j := j) (by omega)
      have hb1 := half_bound (i := i) (j := j) (by omega)
      obtain ⟨m, em⟩ : ∃ m, m = (i + j) / 2 := ⟨_, rfl⟩
      rw [← em] at hh
      have hm : m < es.length := by omega
      have bh : bound64 ((m : Int) + 1) := by unfold bound64; omega
      have bh : bound64 (IntKind.i64.wrap ((IntKind.u64.wrap ((i : Int) + (j : Int))).fdiv (2 ^ min (1 : Int).toNat IntKind.u64.bits)) + 1) := by rw [hh]; exact bh
      have eh : IntKind.i64.wrap ((IntKind.u64.wrap ((i : Int) + (j : Int))).fdiv (2 ^ min (1 : Int).toNat IntKind.u64.bits)) + 1 = ((m + 1 : Nat) : Int) := by rw [hh]; omega
      have m1 : j - (m + 1) < j - i := by omega
      have m2 : m - i < j - i := by omega
      have k1 : m + 1 ≤ j := by omega
      have k2 : i ≤ m ∧ m ≤ es.length := by omega
      have ca := con95_80 (key := key) (leaf := leaf) hm
      rw [← hh] at ca
      clear h1
      cbv
      refine ⟨⟨hb1⟩, ⟨by decide⟩, _, _, ca, ⟨?_⟩, ?_⟩
      · kernel_rfl
      cbv
      refine ⟨fun h2 => ?_, fun h2 => ?_⟩
      · have h2 : gtP key (es.getD (m) default).key = false := bnot_t h2
        have hb' := (by rw [em] at h2 ⊢; exact (binS_no (p := fun i => gtP key (es.getD i default).key) hlt h2).trans hb : binS (fun i => gtP key (es.getD i default).key) (m + 1) j = placeI (gtP key) es)
        cbv
        refine ⟨⟨bh⟩, (m + 1, j), [], ⟨k1, hj, hb'⟩, m1, ⟨?_⟩, ⟨?_⟩⟩
        · kernel_rfl
        · cbv
          and_intros
          all_goals first | exact trivial | exact ⟨eh⟩ | exact ⟨rfl⟩ | exact ⟨rfl, fun _ _ _ _ => rfl⟩ | exact ⟨by kernel_rfl⟩
      · have h2 : gtP key (es.getD (m) default).key = true := bnot_f h2
        have hb' := (by rw [em] at h2 ⊢; exact (binS_yes (p := fun i => gtP key (es.getD i default).key) hlt h2).trans hb : binS (fun i => gtP key (es.getD i default).key) i m = placeI (gtP key) es)
        cbv
        refine ⟨(i, m), [], ⟨k2.1, k2.2, hb'⟩, m2, ⟨?_⟩, ⟨?_⟩⟩
        · kernel_rfl
        · cbv
          and_intros
          all_goals first | exact trivial | exact ⟨hh⟩ | exact ⟨rfl⟩ | exact ⟨rfl, fun _ _ _ _ => rfl⟩ | exact ⟨by kernel_rfl⟩
    · have h1 : ¬ (i : Int) < (j : Int) := of_decide_eq_false h1
      have e1 : (i : Int) = (placeI (gtP key) es : Int) := by
        rw [← hb, ← binS_end (by omega)]
      clear h1
      cbv
      refine ⟨[], [], ?_⟩
      cbv
      and_intros
      all_goals first | exact trivial | exact ⟨e1⟩ | exact ⟨rfl⟩ | exact ⟨rfl, fun _ _ _ _ => rfl⟩ | exact ⟨by kernel_rfl⟩

theorem con77_80 {key : List UInt8} {leaf : Bool} {es : List Ent} (hl : es.length < 1000000000000) :
    Con 77 [nodeSV leaf es, .fn 80 [.loc 1000 0]] [(1000, .cells 27 [.dat (.bytes fun _ => key)])]
      (.int .i64 (.s fun _ => (placeI (gtP key) es : Int))) [(1000, .cells 27 [.dat (.bytes fun _ => key)])] := by
  refine con_of Try.func77 rfl rfl 10 _ rfl rfl rfl rfl ?_
  cbv
  refine ⟨_, _, con94_80 (key := key) (leaf := leaf) (es := es) hl, ⟨?_⟩, ?_⟩
  · kernel_rfl
  cbv
  refine ⟨[], [], ?_⟩
  cbv
  and_intros
  all_goals first | exact trivial | exact ⟨rfl⟩ | exact ⟨rfl, fun _ _ _ _ => rfl⟩ | exact ⟨by kernel_rfl⟩


theorem con81 {e : Ent} {x : List UInt8} : Con 81 [.dat (.bytes fun _ => x), .loc 1000 0] [(1000, .cells 74 [.dat (.bytes fun _ => e.key), .dat (.bytes fun _ => e.val), .int .u32 (.s fun _ => e.page), .int .u32 (.s fun _ => e.size)])] (.bool (.s fun _ => geP e.key x)) [(1000, .cells 74 [.dat (.bytes fun _ => e.key), .dat (.bytes fun _ => e.val), .int .u32 (.s fun _ => e.page), .int .u32 (.s fun _ => e.size)])] := by
  refine con_of Try.func81 rfl rfl 9 _ rfl rfl rfl rfl ?_
  cbv
  refine ⟨_, _, con79 (a := x) (b := e.key), ⟨?_⟩, ?_⟩
  · rfl
  cbv
  refine ⟨[], [], ?_⟩
  cbv
  and_intros
  all_goals first | exact trivial | exact ⟨rfl⟩ | exact ⟨rfl, fun _ _ _ _ => rfl⟩ | exact ⟨by kernel_rfl⟩

theorem con95_81 {e : Ent} {leaf : Bool} {es : List Ent} {i : Nat} (hi : i < es.length) :
    Con 95 [.int .i64 (.s fun _ => (i : Int)), .loc 1000 0, .loc 1001 0] [(1000, .cells 121 [.fn 81 [.loc 1002 0]]), (1001, .cells 24 [.bool (.s fun _ => leaf), .dat (entsDV es)]), (1002, .cells 74 [.dat (.bytes fun _ => e.key), .dat (.bytes fun _ => e.val), .int .u32 (.s fun _ => e.page), .int .u32 (.s fun _ => e.size)])]
      (.bool (.s fun _ => geP e.key (es.getD i default).key)) [(1000, .cells 121 [.fn 81 [.loc 1002 0]]), (1001, .cells 24 [.bool (.s fun _ => leaf), .dat (entsDV es)]), (1002, .cells 74 [.dat (.bytes fun _ => e.key), .dat (.bytes fun _ => e.val), .int .u32 (.s fun _ => e.page), .int .u32 (.s fun _ => e.size)])] := by
  refine con_of Try.func95 rfl rfl 13 _ rfl rfl rfl rfl ?_
  have o1 : indexObl (i : Int) es.length := ⟨by omega, by omega⟩
  cbv
  refine ⟨⟨o1⟩, _, _, con81 (e := e), ⟨?_⟩, ?_⟩
  · kernel_rfl
  cbv
  refine ⟨⟨by kernel_rfl⟩, ?_⟩
  cbv
  refine ⟨[], [], ?_⟩
  cbv
  and_intros
  all_goals first | exact trivial | exact ⟨rfl⟩ | exact ⟨rfl, fun _ _ _ _ => rfl⟩ | exact ⟨by kernel_rfl⟩


set_option maxRecDepth 20000 in
set_option maxHeartbeats 4000000 in
theorem con94_81 {e : Ent} {leaf : Bool} {es : List Ent} (hl : es.length < 1000000000000) :
    Con 94 [.int .i64 (.s fun _ => (es.length : Int)), .fn 95 [.loc 1000 0, .loc 1001 0]] [(1000, .cells 121 [.fn 81 [.loc 1002 0]]), (1001, .cells 24 [.bool (.s fun _ => leaf), .dat (entsDV es)]), (1002, .cells 74 [.dat (.bytes fun _ => e.key), .dat (.bytes fun _ => e.val), .int .u32 (.s fun _ => e.page), .int .u32 (.s fun _ => e.size)])]
      (.int .i64 (.s fun _ => (placeI (geP e.key) es : Int))) [(1000, .cells 121 [.fn 81 [.loc 1002 0]]), (1001, .cells 24 [.bool (.s fun _ => leaf), .dat (entsDV es)]), (1002, .cells 74 [.dat (.bytes fun _ => e.key), .dat (.bytes fun _ => e.val), .int .u32 (.s fun _ => e.page), .int .u32 (.s fun _ => e.size)])] := by
  obtain ⟨n, hn⟩ : ∃ n, n = es.length := ⟨_, rfl⟩
  have en : ((es.length : Nat) : Int) = (n : Int) := by rw [hn]
  have hb0 : 0 ≤ n ∧ n ≤ es.length ∧ binS (fun i => geP e.key (es.getD i default).key) 0 n = placeI (geP e.key) es := ⟨Nat.zero_le _, by omega, by rw [hn]; rfl⟩
  refine con_of Try.func94 rfl rfl 26 _ rfl rfl rfl rfl ?_
  cbv
  refine ⟨Nat × Nat, [], fun x => [(5, .int .i64 (.s fun _ => (x.1 : Int))), (6, .int .i64 (.s fun _ => (x.2 : Int)))], fun x => [(1000, .cells 121 [.fn 81 [.loc 1002 0]]), (1001, .cells 24 [.bool (.s fun _ => leaf), .dat (entsDV es)]), (1002, .cells 74 [.dat (.bytes fun _ => e.key), .dat (.bytes fun _ => e.val), .int .u32 (.s fun _ => e.page), .int .u32 (.s fun _ => e.size)])],
    fun x => x.1 ≤ x.2 ∧ x.2 ≤ es.length ∧ binS (fun i => geP e.key (es.getD i default).key) x.1 x.2 = placeI (geP e.key) es, fun x => x.2 - x.1, (0, n), [], hb0, ⟨?_⟩, fun x hx => ?_⟩
  · cbv
    and_intros
    all_goals first | exact trivial | exact ⟨en⟩ | exact ⟨rfl⟩ | exact ⟨rfl, fun _ _ _ _ => rfl⟩ | exact ⟨by kernel_rfl⟩
  · obtain ⟨i, j⟩ := x
    obtain ⟨hij, hj, hb⟩ : i ≤ j ∧ j ≤ es.length ∧ binS (fun i => geP e.key (es.getD i default).key) i j = placeI (geP e.key) es := hx
    cbv
    refine ⟨fun h1 => ?_, fun h1 => ?_⟩
    · have h1 : (i : Int) < (j : Int) := of_decide_eq_true h1
      have hlt : i < j := by omega
      have hh := half_eq (i := i) (j := j) (by omega)
      have hb1 := half_bound (i := i) (j := j) (by omega)
      obtain ⟨m, em⟩ : ∃ m, m = (i + j) / 2 := ⟨_, rfl⟩
      rw [← em] at hh
      have hm : m < es.length := by omega
      have bh : bound64 ((m : Int) + 1) := by unfold bound64; omega
      have bh : bound64 (IntKind.i64.wrap ((IntKind.u64.wrap ((i : Int) + (j : Int))).fdiv (2 ^ min (1 : Int).toNat IntKind.u64.bits)) + 1) := by rw [hh]; exact bh
      have eh : IntKind.i64.wrap ((IntKind.u64.wrap ((i : Int) + (j : Int))).fdiv (2 ^ min (1 : Int).toNat IntKind.u64.bits)) + 1 = ((m + 1 : Nat) : Int) := by rw [hh]; omega
      have m1 : j - (m + 1) < j - i := by omega
      have m2 : m - i < j - i := by omega
      have k1 : m + 1 ≤ j := by omega
      have k2 : i ≤ m ∧ m ≤ es.length := by omega
      have ca := con95_81 (e := e) (leaf := leaf) hm
      rw [← hh] at ca
      clear h1
      cbv
      refine ⟨⟨hb1⟩, ⟨by decide⟩, _, _, ca, ⟨?_⟩, ?_⟩
      · kernel_rfl
      cbv
      refine ⟨fun h2 => ?_, fun h2 => ?_⟩
      · have h2 : geP e.key (es.getD (m) default).key = false := bnot_t h2
        have hb' := (by rw [em] at h2 ⊢; exact (binS_no (p := fun i => geP e.key (es.getD i default).key) hlt h2).trans hb : binS (fun i => geP e.key (es.getD i default).key) (m + 1) j = placeI (geP e.key) es)
        cbv
        refine ⟨⟨bh⟩, (m + 1, j), [], ⟨k1, hj, hb'⟩, m1, ⟨?_⟩, ⟨?_⟩⟩
        · kernel_rfl
        · cbv
          and_intros
          all_goals first | exact trivial | exact ⟨eh⟩ | exact ⟨rfl⟩ | exact ⟨rfl, fun _ _ _ _ => rfl⟩ | exact ⟨by kernel_rfl⟩
      · have h2 : geP e.key (es.getD (m) default).key = true := bnot_f h2
        have hb' := (by rw [em] at h2 ⊢; exact (binS_yes (p := fun i => geP e.key (es.getD i default).key) hlt h2).trans hb : binS (fun i => geP e.key (es.getD i default).key) i m = placeI (geP e.key) es)
        cbv
        refine ⟨(i, m), [], ⟨k2.1, k2.2, hb'⟩, m2, ⟨?_⟩, ⟨?_⟩⟩
        · kernel_rfl
        · cbv
          and_intros
          all_goals first | exact trivial | exact ⟨hh⟩ | exact ⟨rfl⟩ | exact ⟨rfl, fun _ _ _ _ => rfl⟩ | exact ⟨by kernel_rfl⟩
    · have h1 : ¬ (i : Int) < (j : Int) := of_decide_eq_false h1
      have e1 : (i : Int) = (placeI (geP e.key) es : Int) := by
        rw [← hb, ← binS_end (by omega)]
      clear h1
      cbv
      refine ⟨[], [], ?_⟩
      cbv
      and_intros
      all_goals first | exact trivial | exact ⟨e1⟩ | exact ⟨rfl⟩ | exact ⟨rfl, fun _ _ _ _ => rfl⟩ | exact ⟨by kernel_rfl⟩

theorem con77_81 {e : Ent} {leaf : Bool} {es : List Ent} (hl : es.length < 1000000000000) :
    Con 77 [nodeSV leaf es, .fn 81 [.loc 1000 0]] [(1000, .cells 74 [.dat (.bytes fun _ => e.key), .dat (.bytes fun _ => e.val), .int .u32 (.s fun _ => e.page), .int .u32 (.s fun _ => e.size)])]
      (.int .i64 (.s fun _ => (placeI (geP e.key) es : Int))) [(1000, .cells 74 [.dat (.bytes fun _ => e.key), .dat (.bytes fun _ => e.val), .int .u32 (.s fun _ => e.page), .int .u32 (.s fun _ => e.size)])] := by
  refine con_of Try.func77 rfl rfl 10 _ rfl rfl rfl rfl ?_
  cbv
  refine ⟨_, _, con94_81 (e := e) (leaf := leaf) (es := es) hl, ⟨?_⟩, ?_⟩
  · kernel_rfl
  cbv
  refine ⟨[], [], ?_⟩
  cbv
  and_intros
  all_goals first | exact trivial | exact ⟨rfl⟩ | exact ⟨rfl, fun _ _ _ _ => rfl⟩ | exact ⟨by kernel_rfl⟩


theorem con83 {key : List UInt8} {x : List UInt8} : Con 83 [.dat (.bytes fun _ => x), .loc 1000 0] [(1000, .cells 27 [.dat (.bytes fun _ => key)])] (.bool (.s fun _ => geP key x)) [(1000, .cells 27 [.dat (.bytes fun _ => key)])] := by
  refine con_of Try.func83 rfl rfl 8 _ rfl rfl rfl rfl ?_
  cbv
  refine ⟨_, _, con79 (a := x) (b := key), ⟨?_⟩, ?_⟩
  · rfl
  cbv
  refine ⟨[], [], ?_⟩
  cbv
  and_intros
  all_goals first | exact trivial | exact ⟨rfl⟩ | exact ⟨rfl, fun _ _ _ _ => rfl⟩ | exact ⟨by kernel_rfl⟩

theorem con95_83 {key : List UInt8} {leaf : Bool} {es : List Ent} {i : Nat} (hi : i < es.length) :
    Con 95 [.int .i64 (.s fun _ => (i : Int)), .loc 1000 0, .loc 1001 0] [(1000, .cells 121 [.fn 83 [.loc 1002 0]]), (1001, .cells 24 [.bool (.s fun _ => leaf), .dat (entsDV es)]), (1002, .cells 27 [.dat (.bytes fun _ => key)])]
      (.bool (.s fun _ => geP key (es.getD i default).key)) [(1000, .cells 121 [.fn 83 [.loc 1002 0]]), (1001, .cells 24 [.bool (.s fun _ => leaf), .dat (entsDV es)]), (1002, .cells 27 [.dat (.bytes fun _ => key)])] := by
  refine con_of Try.func95 rfl rfl 13 _ rfl rfl rfl rfl ?_
  have o1 : indexObl (i : Int) es.length := ⟨by omega, by omega⟩
  cbv
  refine ⟨⟨o1⟩, _, _, con83 (key := key), ⟨?_⟩, ?_⟩
  · kernel_rfl
  cbv
  refine ⟨⟨by kernel_rfl⟩, ?_⟩
  cbv
  refine ⟨[], [], ?_⟩
  cbv
  and_intros
  all_goals first | exact trivial | exact ⟨rfl⟩ | exact ⟨rfl, fun _ _ _ _ => rfl⟩ | exact ⟨by kernel_rfl⟩


set_option maxRecDepth 20000 in
set_option maxHeartbeats 4000000 in
theorem con94_83 {key : List UInt8} {leaf : Bool} {es : List Ent} (hl : es.length < 1000000000000) :
    Con 94 [.int .i64 (.s fun _ => (es.length : Int)), .fn 95 [.loc 1000 0, .loc 1001 0]] [(1000, .cells 121 [.fn 83 [.loc 1002 0]]), (1001, .cells 24 [.bool (.s fun _ => leaf), .dat (entsDV es)]), (1002, .cells 27 [.dat (.bytes fun _ => key)])]
      (.int .i64 (.s fun _ => (placeI (geP key) es : Int))) [(1000, .cells 121 [.fn 83 [.loc 1002 0]]), (1001, .cells 24 [.bool (.s fun _ => leaf), .dat (entsDV es)]), (1002, .cells 27 [.dat (.bytes fun _ => key)])] := by
  obtain ⟨n, hn⟩ : ∃ n, n = es.length := ⟨_, rfl⟩
  have en : ((es.length : Nat) : Int) = (n : Int) := by rw [hn]
  have hb0 : 0 ≤ n ∧ n ≤ es.length ∧ binS (fun i => geP key (es.getD i default).key) 0 n = placeI (geP key) es := ⟨Nat.zero_le _, by omega, by rw [hn]; rfl⟩
  refine con_of Try.func94 rfl rfl 26 _ rfl rfl rfl rfl ?_
  cbv
  refine ⟨Nat × Nat, [], fun x => [(5, .int .i64 (.s fun _ => (x.1 : Int))), (6, .int .i64 (.s fun _ => (x.2 : Int)))], fun x => [(1000, .cells 121 [.fn 83 [.loc 1002 0]]), (1001, .cells 24 [.bool (.s fun _ => leaf), .dat (entsDV es)]), (1002, .cells 27 [.dat (.bytes fun _ => key)])],
    fun x => x.1 ≤ x.2 ∧ x.2 ≤ es.length ∧ binS (fun i => geP key (es.getD i default).key) x.1 x.2 = placeI (geP key) es, fun x => x.2 - x.1, (0, n), [], hb0, ⟨?_⟩, fun x hx => ?_⟩
  · cbv
    and_intros
    all_goals first | exact trivial | exact ⟨en⟩ | exact ⟨rfl⟩ | exact ⟨rfl, fun _ _ _ _ => rfl⟩ | exact ⟨by kernel_rfl⟩
  · obtain ⟨i, j⟩ := x
    obtain ⟨hij, hj, hb⟩ : i ≤ j ∧ j ≤ es.length ∧ binS (fun i => geP key (es.getD i default).key) i j = placeI (geP key) es := hx
    cbv
    refine ⟨fun h1 => ?_, fun h1 => ?_⟩
    · have h1 : (i : Int) < (j : Int) := of_decide_eq_true h1
      have hlt : i < j := by omega
      have hh := half_eq (i := i) (j := j) (by omega)
      have hb1 := half_bound (i := i) (j := j) (by omega)
      obtain ⟨m, em⟩ : ∃ m, m = (i + j) / 2 := ⟨_, rfl⟩
      rw [← em] at hh
      have hm : m < es.length := by omega
      have bh : bound64 ((m : Int) + 1) := by unfold bound64; omega
      have bh : bound64 (IntKind.i64.wrap ((IntKind.u64.wrap ((i : Int) + (j : Int))).fdiv (2 ^ min (1 : Int).toNat IntKind.u64.bits)) + 1) := by rw [hh]; exact bh
      have eh : IntKind.i64.wrap ((IntKind.u64.wrap ((i : Int) + (j : Int))).fdiv (2 ^ min (1 : Int).toNat IntKind.u64.bits)) + 1 = ((m + 1 : Nat) : Int) := by rw [hh]; omega
      have m1 : j - (m + 1) < j - i := by omega
      have m2 : m - i < j - i := by omega
      have k1 : m + 1 ≤ j := by omega
      have k2 : i ≤ m ∧ m ≤ es.length := by omega
      have ca := con95_83 (key := key) (leaf := leaf) hm
      rw [← hh] at ca
      clear h1
      cbv
      refine ⟨⟨hb1⟩, ⟨by decide⟩, _, _, ca, ⟨?_⟩, ?_⟩
      · kernel_rfl
      cbv
      refine ⟨fun h2 => ?_, fun h2 => ?_⟩
      · have h2 : geP key (es.getD (m) default).key = false := bnot_t h2
        have hb' := (by rw [em] at h2 ⊢; exact (binS_no (p := fun i => geP key (es.getD i default).key) hlt h2).trans hb : binS (fun i => geP key (es.getD i default).key) (m + 1) j = placeI (geP key) es)
        cbv
        refine ⟨⟨bh⟩, (m + 1, j), [], ⟨k1, hj, hb'⟩, m1, ⟨?_⟩, ⟨?_⟩⟩
        · kernel_rfl
        · cbv
          and_intros
          all_goals first | exact trivial | exact ⟨eh⟩ | exact ⟨rfl⟩ | exact ⟨rfl, fun _ _ _ _ => rfl⟩ | exact ⟨by kernel_rfl⟩
      · have h2 : geP key (es.getD (m) default).key = true := bnot_f h2
        have hb' := (by rw [em] at h2 ⊢; exact (binS_yes (p := fun i => geP key (es.getD i default).key) hlt h2).trans hb : binS (fun i => geP key (es.getD i default).key) i m = placeI (geP key) es)
        cbv
        refine ⟨(i, m), [], ⟨k2.1, k2.2, hb'⟩, m2, ⟨?_⟩, ⟨?_⟩⟩
        · kernel_rfl
        · cbv
          and_intros
          all_goals first | exact trivial | exact ⟨hh⟩ | exact ⟨rfl⟩ | exact ⟨rfl, fun _ _ _ _ => rfl⟩ | exact ⟨by kernel_rfl⟩
    · have h1 : ¬ (i : Int) < (j : Int) := of_decide_eq_false h1
      have e1 : (i : Int) = (placeI (geP key) es : Int) := by
        rw [← hb, ← binS_end (by omega)]
      clear h1
      cbv
      refine ⟨[], [], ?_⟩
      cbv
      and_intros
      all_goals first | exact trivial | exact ⟨e1⟩ | exact ⟨rfl⟩ | exact ⟨rfl, fun _ _ _ _ => rfl⟩ | exact ⟨by kernel_rfl⟩

theorem con77_83 {key : List UInt8} {leaf : Bool} {es : List Ent} (hl : es.length < 1000000000000) :
    Con 77 [nodeSV leaf es, .fn 83 [.loc 1000 0]] [(1000, .cells 27 [.dat (.bytes fun _ => key)])]
      (.int .i64 (.s fun _ => (placeI (geP key) es : Int))) [(1000, .cells 27 [.dat (.bytes fun _ => key)])] := by
  refine con_of Try.func77 rfl rfl 10 _ rfl rfl rfl rfl ?_
  cbv
  refine ⟨_, _, con94_83 (key := key) (leaf := leaf) (es := es) hl, ⟨?_⟩, ?_⟩
  · kernel_rfl
  cbv
  refine ⟨[], [], ?_⟩
  cbv
  and_intros
  all_goals first | exact trivial | exact ⟨rfl⟩ | exact ⟨rfl, fun _ _ _ _ => rfl⟩ | exact ⟨by kernel_rfl⟩

end Go.Proofs.Ytmdfjipjkkjpcaa
