/- Texts put together: Np, Nq, Nr, Ns, Nu, Nv, Nw, Ny, Nz, Na. -/
import Derived.Test.YtmdfjipjkkjpcaaUg
import Derived.Test.YtmdfjipjkkjpcaaUf
/- Node laws: places. -/
namespace Go.Proofs.Ytmdfjipjkkjpcaa
open Go.SX

def geP (key x : List UInt8) : Bool := decide ((0 : Int) ≤ Lib.compareBytes x key)
def gtP (key x : List UInt8) : Bool := decide ((0 : Int) < Lib.compareBytes x key)

def binS (p : Nat → Bool) (i j : Nat) : Nat :=
  if h : i < j then (if p ((i + j) / 2) then binS p i ((i + j) / 2) else binS p ((i + j) / 2 + 1) j) else i
termination_by j - i
decreasing_by all_goals omega

theorem binS_yes {p : Nat → Bool} {i j : Nat} (h : i < j) (hp : p ((i + j) / 2) = true) : binS p i ((i + j) / 2) = binS p i j := by
  rw [binS.eq_1 p i j, dif_pos h, if_pos hp]
theorem binS_no {p : Nat → Bool} {i j : Nat} (h : i < j) (hp : p ((i + j) / 2) = false) : binS p ((i + j) / 2 + 1) j = binS p i j := by
  rw [binS.eq_1 p i j, dif_pos h, if_neg (by rw [hp]; decide)]
theorem binS_end {p : Nat → Bool} {i j : Nat} (h : ¬ i < j) : i = binS p i j := by
  rw [binS.eq_1 p i j, dif_neg h]
theorem wrap_u64_id {x : Int} (h1 : 0 ≤ x) (h2 : x < 18446744073709551616) : IntKind.u64.wrap x = x := by
  simp only [IntKind.wrap, IntKind.bits, IntKind.signed]
  simp
  omega
theorem half_eq {i j : Nat} (h : i + j < 4611686018427387904) : IntKind.i64.wrap ((IntKind.u64.wrap ((i : Int) + (j : Int))).fdiv (2 ^ min (1 : Int).toNat IntKind.u64.bits)) = (((i + j) / 2 : Nat) : Int) := by
  have e : (2 : Int) ^ min (1 : Int).toNat IntKind.u64.bits = 2 := by decide
  have e1 : IntKind.u64.wrap ((i : Int) + (j : Int)) = (i : Int) + (j : Int) := by apply wrap_u64_id <;> omega
  rw [e, e1, Int.fdiv_eq_ediv_of_nonneg _ (by omega), IntKind.wrap_i64]
  omega
theorem half_bound {i j : Nat} (h : i + j < 4611686018427387904) : bound64 ((i : Int) + (j : Int)) := by unfold bound64; omega

def placeI (p : List UInt8 → Bool) (es : List Ent) : Nat := binS (fun i => p (es.getD i default).key) 0 es.length

theorem con73 {a b : List UInt8} : Con 73 [.dat (.bytes fun _ => a), .dat (.bytes fun _ => b)] [] (.bool (.s fun _ => decide (a = b))) [] := by
  refine con_of Try.func73 rfl rfl 10 _ rfl rfl rfl rfl ?_
  have e1 : (a == b) = decide (a = b) := by rw [Bool.eq_iff_iff]; simp
  cbv
  refine ⟨[], [], ?_⟩
  cbv
  exact ⟨⟨e1⟩, ⟨rfl⟩⟩


theorem con78 {key : List UInt8} {x : List UInt8} : Con 78 [.dat (.bytes fun _ => x), .loc 1000 0] [(1000, .cells 27 [.dat (.bytes fun _ => key)])] (.bool (.s fun _ => geP key x)) [(1000, .cells 27 [.dat (.bytes fun _ => key)])] := by
  refine con_of Try.func78 rfl rfl 8 _ rfl rfl rfl rfl ?_
  cbv
  refine ⟨_, _, con79 (a := x) (b := key), ⟨?_⟩, ?_⟩
  · rfl
  cbv
  refine ⟨[], [], ?_⟩
  cbv
  and_intros
  all_goals first | exact trivial | exact ⟨rfl⟩ | exact ⟨rfl, fun _ _ _ _ => rfl⟩ | exact ⟨by kernel_rfl⟩

theorem con95_78 {key : List UInt8} {leaf : Bool} {es : List Ent} {i : Nat} (hi : i < es.length) :
    Con 95 [.int .i64 (.s fun _ => (i : Int)), .loc 1000 0, .loc 1001 0] [(1000, .cells 121 [.fn 78 [.loc 1002 0]]), (1001, .cells 24 [.bool (.s fun _ => leaf), .dat (entsDV es)]), (1002, .cells 27 [.dat (.bytes fun _ => key)])]
      (.bool (.s fun _ => geP key (es.getD i default).key)) [(1000, .cells 121 [.fn 78 [.loc 1002 0]]), (1001, .cells 24 [.bool (.s fun _ => leaf), .dat (entsDV es)]), (1002, .cells 27 [.dat (.bytes fun _ => key)])] := by
  refine con_of Try.func95 rfl rfl 13 _ rfl rfl rfl rfl ?_
  have o1 : indexObl (i : Int) es.length := ⟨by omega, by omega⟩
  cbv
  refine ⟨⟨o1⟩, _, _, con78 (key := key), ⟨?_⟩, ?_⟩
  · kernel_rfl
  cbv
  refine ⟨⟨by kernel_rfl⟩, ?_⟩
  cbv
  refine ⟨[], [], ?_⟩
  cbv
  and_intros
  all_goals first | exact trivial | exact ⟨rfl⟩ | exact ⟨rfl, fun _ _ _ _ => rfl⟩ | exact ⟨by kernel_rfl⟩


set_option maxRecDepth 20000 in
set_option maxHeartbeats 4000000 in
theorem con94_78 {key : List UInt8} {leaf : Bool} {es : List Ent} (hl : es.length < 1000000000000) :
    Con 94 [.int .i64 (.s fun _ => (es.length : Int)), .fn 95 [.loc 1000 0, .loc 1001 0]] [(1000, .cells 121 [.fn 78 [.loc 1002 0]]), (1001, .cells 24 [.bool (.s fun _ => leaf), .dat (entsDV es)]), (1002, .cells 27 [.dat (.bytes fun _ => key)])]
      (.int .i64 (.s fun _ => (placeI (geP key) es : Int))) [(1000, .cells 121 [.fn 78 [.loc 1002 0]]), (1001, .cells 24 [.bool (.s fun _ => leaf), .dat (entsDV es)]), (1002, .cells 27 [.dat (.bytes fun _ => key)])] := by
  obtain ⟨n, hn⟩ : ∃ n, n = es.length := ⟨_, rfl⟩
  have en : ((es.length : Nat) : Int) = (n : Int) := by rw [hn]
  have hb0 : 0 ≤ n ∧ n ≤ es.length ∧ binS (fun i => geP key (es.getD i default).key) 0 n = placeI (geP key) es := ⟨Nat.zero_le _, by omega, by rw [hn]; rfl⟩
  refine con_of Try.func94 rfl rfl 26 _ rfl rfl rfl rfl ?_
  cbv
  refine ⟨Nat × Nat, [], fun x => [(5, .int .i64 (.s fun _ => (x.1 : Int))), (6, .int .i64 (.s fun _ => (x.2 : Int)))], fun x => [(1000, .cells 121 [.fn 78 [.loc 1002 0]]), (1001, .cells 24 [.bool (.s fun _ => leaf), .dat (entsDV es)]), (1002, .cells 27 [.dat (.bytes fun _ => key)])],
    fun x => x.1 ≤ x.2 ∧ x.2 ≤ es.length ∧ binS (fun i => geP key (es.getD i default).key) x.1 x.2 = placeI (geP key) es, fun x => x.2 - x.1, (0, n), [], hb0, ⟨?_⟩, fun x hx => ?_⟩
  · cbv
    and_intros
    all_goals first | exact trivial | exact ⟨en⟩ | exact ⟨rfl⟩ | exact ⟨rfl, fun _ _ _ _ => rfl⟩ | exact ⟨by kernel_rfl⟩
  · obtain ⟨i, j⟩ := x
    obtain ⟨hij, hj, hb⟩ : i ≤ j ∧ j ≤ es.length ∧ binS (fun i => geP key (es.getD i default).key) i j = placeI (geP key) es := hx
    cbv
    refine ⟨fun h1 => ?_, fun h1 => ?_⟩
    · have h1 : (i : Int) < (j : Int) := of_decide_eq_true h1
      have hlt : i < j := by omega
      have hh := half_eq (i := i) (j := j) (by omega)
      have hb1 := half_bound (i := i) (j := j) (by omega)
      obtain ⟨m, em⟩ : ∃ m, m = (i + j) / 2 := ⟨_, rfl⟩
      rw [← em] at hh
      have hm : m < es.length := by omega
      have bh : bound64 ((m : Int) + 1) := by unfold bound64; omega
      have bh : bound64 (IntKind.i64.wrap ((IntKind.u64.wrap ((i : Int) + (j : Int))).fdiv (2 ^ min (1 : Int).toNat IntKind.u64.bits)) + 1) := by rw [hh]; exact bh
      have eh : IntKind.i64.wrap ((IntKind.u64.wrap ((i : Int) + (j : Int))).fdiv (2 ^ min (1 : Int).toNat IntKind.u64.bits)) + 1 = ((m + 1 : Nat) : Int) := by rw [hh]; omega
      have m1 : j - (m + 1) < j - i := by omega
      have m2 : m - i < j - i := by omega
      have k1 : m + 1 ≤ j := by omega
      have k2 : i ≤ m ∧ m ≤ es.length := by omega
      have ca := con95_78 (key := key) (leaf := leaf) hm
      rw [← hh] at ca
      clear h1
      cbv
      refine ⟨⟨hb1⟩, ⟨by decide⟩, _, _, ca, ⟨?_⟩, ?_⟩
      · kernel_rfl
      cbv
      refine ⟨fun h2 => ?_, fun h2 => ?_⟩
      · have h2 : geP key (es.getD (m) default).key = false := bnot_t h2
        have hb' := (by rw [em] at h2 ⊢; exact (binS_no (p := fun i => geP key (es.getD i default).key) hlt h2).trans hb : binS (fun i => geP key (es.getD i default).key) (m + 1) j = placeI (geP key) es)
        cbv
        refine ⟨⟨bh⟩, (m + 1, j), [], ⟨k1, hj, hb'⟩, m1, ⟨?_⟩, ⟨?_⟩⟩
        · kernel_rfl
        · cbv
          and_intros
          all_goals first | exact trivial | exact ⟨eh⟩ | exact ⟨rfl⟩ | exact ⟨rfl, fun _ _ _ _ => rfl⟩ | exact ⟨by kernel_rfl⟩
      · have h2 : geP key (es.getD (m) default).key = true := bnot_f h2
        have hb' := (by rw [em] at h2 ⊢; exact (binS_yes (p := fun i => geP key (es.getD i default).key) hlt h2).trans hb : binS (fun i => geP key (es.getD i default).key) i m = placeI (geP key) es)
        cbv
        refine ⟨(i, m), [], ⟨k2.1, k2.2, hb'⟩, m2, ⟨?_⟩, ⟨?_⟩⟩
        · kernel_rfl
        · cbv
          and_intros
          all_goals first | exact trivial | exact ⟨hh⟩ | exact ⟨rfl⟩ | exact ⟨rfl, fun _ _ _ _ => rfl⟩ | exact ⟨by kernel_rfl⟩
    · have h1 : ¬ (i : Int) < (j : Int) := of_decide_eq_false h1
      have e1 : (i : Int) = (placeI (geP key) es : Int) := by
        rw [← hb, ← binS_end (by omega)]
      clear h1
      cbv
      refine ⟨[], [], ?_⟩
      cbv
      and_intros
      all_goals first | exact trivial | exact ⟨e1⟩ | exact ⟨rfl⟩ | exact ⟨rfl, fun _ _ _ _ => rfl⟩ | exact ⟨by kernel_rfl⟩

theorem con77_78 {key : List UInt8} {leaf : Bool} {es : List Ent} (hl : es.length < 1000000000000) :
    Con 77 [nodeSV leaf es, .fn 78 [.loc 1000 0]] [(1000, .cells 27 [.dat (.bytes fun _ => key)])]
      (.int .i64 (.s fun _ => (placeI (geP key) es : Int))) [(1000, .cells 27 [.dat (.bytes fun _ => key)])] := by
  refine con_of Try.func77 rfl rfl 10 _ rfl rfl rfl rfl ?_
  cbv
  refine ⟨_, _, con94_78 (key := key) (leaf := leaf) (es := es) hl, ⟨?_⟩, ?_⟩
  · kernel_rfl
  cbv
  refine ⟨[], [], ?_⟩
  cbv
  and_intros
  all_goals first | exact trivial | exact ⟨rfl⟩ | exact ⟨rfl, fun _ _ _ _ => rfl⟩ | exact ⟨by kernel_rfl⟩


theorem con80 {key : List UInt8} {x : List UInt8} : Con 80 [.dat (.bytes fun _ => x), .loc 1000 0] [(1000, .cells 27 [.dat (.bytes fun _ => key)])] (.bool (.s fun _ => gtP key x)) [(1000, .cells 27 [.dat (.bytes fun _ => key)])] := by
  refine con_of Try.func80 rfl rfl 8 _ rfl rfl rfl rfl ?_
  cbv
  refine ⟨_, _, con79 (a := x) (b := key), ⟨?_⟩, ?_⟩
  · rfl
  cbv
  refine ⟨[], [], ?_⟩
  cbv
  and_intros
  all_goals first | exact trivial | exact ⟨rfl⟩ | exact ⟨rfl, fun _ _ _ _ => rfl⟩ | exact ⟨by kernel_rfl⟩

theorem con95_80 {key : List UInt8} {leaf : Bool} {es : List Ent} {i : Nat} (hi : i < es.length) :
    Con 95 [.int .i64 (.s fun _ => (i : Int)), .loc 1000 0, .loc 1001 0] [(1000, .cells 121 [.fn 80 [.loc 1002 0]]), (1001, .cells 24 [.bool (.s fun _ => leaf), .dat (entsDV es)]), (1002, .cells 27 [.dat (.bytes fun _ => key)])]
      (.bool (.s fun _ => gtP key (es.getD i default).key)) [(1000, .cells 121 [.fn 80 [.loc 1002 0]]), (1001, .cells 24 [.bool (.s fun _ => leaf), .dat (entsDV es)]), (1002, .cells 27 [.dat (.bytes fun _ => key)])] := by
  refine con_of Try.func95 rfl rfl 13 _ rfl rfl rfl rfl ?_
  have o1 : indexObl (i : Int) es.length := ⟨by omega, by omega⟩
  cbv
  refine ⟨⟨o1⟩, _, _, con80 (key := key), ⟨?_⟩, ?_⟩
  · kernel_rfl
  cbv
  refine ⟨⟨by kernel_rfl⟩, ?_⟩
  cbv
  refine ⟨[], [], ?_⟩
  cbv
  and_intros
  all_goals first | exact trivial | exact ⟨rfl⟩ | exact ⟨rfl, fun _ _ _ _ => rfl⟩ | exact ⟨by kernel_rfl⟩


set_option maxRecDepth 20000 in
set_option maxHeartbeats 4000000 in
theorem con94_80 {key : List UInt8} {leaf : Bool} {es : List Ent} (hl : es.length < 1000000000000) :
    Con 94 [.int .i64 (.s fun _ => (es.length : Int)), .fn 95 [.loc 1000 0, .loc 1001 0]] [(1000, .cells 121 [.fn 80 [.loc 1002 0]]), (1001, .cells 24 [.bool (.s fun _ => leaf), .dat (entsDV es)]), (1002, .cells 27 [.dat (.bytes fun _ => key)])]
      (.int .i64 (.s fun _ => (placeI (gtP key) es : Int))) [(1000, .cells 121 [.fn 80 [.loc 1002 0]]), (1001, .cells 24 [.bool (.s fun _ => leaf), .dat (entsDV es)]), (1002, .cells 27 [.dat (.bytes fun _ => key)])] := by
  obtain ⟨n, hn⟩ : ∃ n, n = es.length := ⟨_, rfl⟩
  have en : ((es.length : Nat) : Int) = (n : Int) := by rw [hn]
  have hb0 : 0 ≤ n ∧ n ≤ es.length ∧ binS (fun i => gtP key (es.getD i default).key) 0 n = placeI (gtP key) es := ⟨Nat.zero_le _, by omega, by rw [hn]; rfl⟩
  refine con_of Try.func94 rfl rfl 26 _ rfl rfl rfl rfl ?_
  cbv
  refine ⟨Nat × Nat, [], fun x => [(5, .int .i64 (.s fun _ => (x.1 : Int))), (6, .int .i64 (.s fun _ => (x.2 : Int)))], fun x => [(1000, .cells 121 [.fn 80 [.loc 1002 0]]), (1001, .cells 24 [.bool (.s fun _ => leaf), .dat (entsDV es)]), (1002, .cells 27 [.dat (.bytes fun _ => key)])],
    fun x => x.1 ≤ x.2 ∧ x.2 ≤ es.length ∧ binS (fun i => gtP key (es.getD i default).key) x.1 x.2 = placeI (gtP key) es, fun x => x.2 - x.1, (0, n), [], hb0, ⟨?_⟩, fun x hx => ?_⟩
  · cbv
    and_intros
    all_goals first | exact trivial | exact ⟨en⟩ | exact ⟨rfl⟩ | exact ⟨rfl, fun _ _ _ _ => rfl⟩ | exact ⟨by kernel_rfl⟩
  · obtain ⟨i, j⟩ := x
    obtain ⟨hij, hj, hb⟩ : i ≤ j ∧ j ≤ es.length ∧ binS (fun i => gtP key (es.getD i default).key) i j = placeI (gtP key) es := hx
    cbv
    refine ⟨fun h1 => ?_, fun h1 => ?_⟩
    · have h1 : (i : Int) < (j : Int) := of_decide_eq_true h1
      have hlt : i < j := by omega
      have hh := half_eq (i := i) (j := j) (by omega)
      have hb1 := half_bound (i := i) (j := j) (by omega)
      obtain ⟨m, em⟩ : ∃ m, m = (i + j) / 2 := ⟨_, rfl⟩
      rw [← em] at hh
      have hm : m < es.length := by omega
      have bh : bound64 ((m : Int) + 1) := by unfold bound64; omega
      have bh : bound64 (IntKind.i64.wrap ((IntKind.u64.wrap ((i : Int) + (j : Int))).fdiv (2 ^ min (1 : Int).toNat IntKind.u64.bits)) + 1) := by rw [hh]; exact bh
      have eh : IntKind.i64.wrap ((IntKind.u64.wrap ((i : Int) + (j : Int))).fdiv (2 ^ min (1 : Int).toNat IntKind.u64.bits)) + 1 = ((m + 1 : Nat) : Int) := by rw [hh]; omega
      have m1 : j - (m + 1) < j - i := by omega
      have m2 : m - i < j - i := by omega
      have k1 : m + 1 ≤ j := by omega
      have k2 : i ≤ m ∧ m ≤ es.length := by omega
      have ca := con95_80 (key := key) (leaf := leaf) hm
      rw [← hh] at ca
      clear h1
      cbv
      refine ⟨⟨hb1⟩, ⟨by decide⟩, _, _, ca, ⟨?_⟩, ?_⟩
      · kernel_rfl
      cbv
      refine ⟨fun h2 => ?_, fun h2 => ?_⟩
      · have h2 : gtP key (es.getD (m) default).key = false := bnot_t h2
        have hb' := (by rw [em] at h2 ⊢; exact (binS_no (p := fun i => gtP key (es.getD i default).key) hlt h2).trans hb : binS (fun i => gtP key (es.getD i default).key) (m + 1) j = placeI (gtP key) es)
        cbv
        refine ⟨⟨bh⟩, (m + 1, j), [], ⟨k1, hj, hb'⟩, m1, ⟨?_⟩, ⟨?_⟩⟩
        · kernel_rfl
        · cbv
          and_intros
          all_goals first | exact trivial | exact ⟨eh⟩ | exact ⟨rfl⟩ | exact ⟨rfl, fun _ _ _ _ => rfl⟩ | exact ⟨by kernel_rfl⟩
      · have h2 : gtP key (es.getD (m) default).key = true := bnot_f h2
        have hb' := (by rw [em] at h2 ⊢; exact (binS_yes (p := fun i => gtP key (es.getD i default).key) hlt h2).trans hb : binS (fun i => gtP key (es.getD i default).key) i m = placeI (gtP key) es)
        cbv
        refine ⟨(i, m), [], ⟨k2.1, k2.2, hb'⟩, m2, ⟨?_⟩, ⟨?_⟩⟩
        · kernel_rfl
        · cbv
          and_intros
          all_goals first | exact trivial | exact ⟨hh⟩ | exact ⟨rfl⟩ | exact ⟨rfl, fun _ _ _ _ => rfl⟩ | exact ⟨by kernel_rfl⟩
    · have h1 : ¬ (i : Int) < (j : Int) := of_decide_eq_false h1
      have e1 : (i : Int) = (placeI (gtP key) es : Int) := by
        rw [← hb, ← binS_end (by omega)]
      clear h1
      cbv
      refine ⟨[], [], ?_⟩
      cbv
      and_intros
      all_goals first | exact trivial | exact ⟨e1⟩ | exact ⟨rfl⟩ | exact ⟨rfl, fun _ _ _ _ => rfl⟩ | exact ⟨by kernel_rfl⟩

theorem con77_80 {key : List UInt8} {leaf : Bool} {es : List Ent} (hl : es.length < 1000000000000) :
    Con 77 [nodeSV leaf es, .fn 80 [.loc 1000 0]] [(1000, .cells 27 [.dat (.bytes fun _ => key)])]
      (.int .i64 (.s fun _ => (placeI (gtP key) es : Int))) [(1000, .cells 27 [.dat (.bytes fun _ => key)])] := by
  refine con_of Try.func77 rfl rfl 10 _ rfl rfl rfl rfl ?_
  cbv
  refine ⟨_, _, con94_80 (key := key) (leaf := leaf) (es := es) hl, ⟨?_⟩, ?_⟩
  · kernel_rfl
  cbv
  refine ⟨[], [], ?_⟩
  cbv
  and_intros
  all_goals first | exact trivial | exact ⟨rfl⟩ | exact ⟨rfl, fun _ _ _ _ => rfl⟩ | exact ⟨by kernel_rfl⟩


theorem con81 {e : Ent} {x : List UInt8} : Con 81 [.dat (.bytes fun _ => x), .loc 1000 0] [(1000, .cells 74 [.dat (.bytes fun _ => e.key), .dat (.bytes fun _ => e.val), .int .u32 (.s fun _ => e.page), .int .u32 (.s fun _ => e.size)])] (.bool (.s fun _ => geP e.key x)) [(1000, .cells 74 [.dat (.bytes fun _ => e.key), .dat (.bytes fun _ => e.val), .int .u32 (.s fun _ => e.page), .int .u32 (.s fun _ => e.size)])] := by
  refine con_of Try.func81 rfl rfl 9 _ rfl rfl rfl rfl ?_
  cbv
  refine ⟨_, _, con79 (a := x) (b := e.key), ⟨?_⟩, ?_⟩
  · rfl
  cbv
  refine ⟨[], [], ?_⟩
  cbv
  and_intros
  all_goals first | exact trivial | exact ⟨rfl⟩ | exact ⟨rfl, fun _ _ _ _ => rfl⟩ | exact ⟨by kernel_rfl⟩

theorem con95_81 {e : Ent} {leaf : Bool} {es : List Ent} {i : Nat} (hi : i < es.length) :
    Con 95 [.int .i64 (.s fun _ => (i : Int)), .loc 1000 0, .loc 1001 0] [(1000, .cells 121 [.fn 81 [.loc 1002 0]]), (1001, .cells 24 [.bool (.s fun _ => leaf), .dat (entsDV es)]), (1002, .cells 74 [.dat (.bytes fun _ => e.key), .dat (.bytes fun _ => e.val), .int .u32 (.s fun _ => e.page), .int .u32 (.s fun _ => e.size)])]
      (.bool (.s fun _ => geP e.key (es.getD i default).key)) [(1000, .cells 121 [.fn 81 [.loc 1002 0]]), (1001, .cells 24 [.bool (.s fun _ => leaf), .dat (entsDV es)]), (1002, .cells 74 [.dat (.bytes fun _ => e.key), .dat (.bytes fun _ => e.val), .int .u32 (.s fun _ => e.page), .int .u32 (.s fun _ => e.size)])] := by
  refine con_of Try.func95 rfl rfl 13 _ rfl rfl rfl rfl ?_
  have o1 : indexObl (i : Int) es.length := ⟨by omega, by omega⟩
  cbv
  refine ⟨⟨o1⟩, _, _, con81 (e := e), ⟨?_⟩, ?_⟩
  · kernel_rfl
  cbv
  refine ⟨⟨by kernel_rfl⟩, ?_⟩
  cbv
  refine ⟨[], [], ?_⟩
  cbv
  and_intros
  all_goals first | exact trivial | exact ⟨rfl⟩ | exact ⟨rfl, fun _ _ _ _ => rfl⟩ | exact ⟨by kernel_rfl⟩


set_option maxRecDepth 20000 in
set_option maxHeartbeats 4000000 in
theorem con94_81 {e : Ent} {leaf : Bool} {es : List Ent} (hl : es.length < 1000000000000) :
    Con 94 [.int .i64 (.s fun _ => (es.length : Int)), .fn 95 [.loc 1000 0, .loc 1001 0]] [(1000, .cells 121 [.fn 81 [.loc 1002 0]]), (1001, .cells 24 [.bool (.s fun _ => leaf), .dat (entsDV es)]), (1002, .cells 74 [.dat (.bytes fun _ => e.key), .dat (.bytes fun _ => e.val), .int .u32 (.s fun _ => e.page), .int .u32 (.s fun _ => e.size)])]
      (.int .i64 (.s fun _ => (placeI (geP e.key) es : Int))) [(1000, .cells 121 [.fn 81 [.loc 1002 0]]), (1001, .cells 24 [.bool (.s fun _ => leaf), .dat (entsDV es)]), (1002, .cells 74 [.dat (.bytes fun _ => e.key), .dat (.bytes fun _ => e.val), .int .u32 (.s fun _ => e.page), .int .u32 (.s fun _ => e.size)])] := by
  obtain ⟨n, hn⟩ : ∃ n, n = es.length := ⟨_, rfl⟩
  have en : ((es.length : Nat) : Int) = (n : Int) := by rw [hn]
  have hb0 : 0 ≤ n ∧ n ≤ es.length ∧ binS (fun i => geP e.key (es.getD i default).key) 0 n = placeI (geP e.key) es := ⟨Nat.zero_le _, by omega, by rw [hn]; rfl⟩
  refine con_of Try.func94 rfl rfl 26 _ rfl rfl rfl rfl ?_
  cbv
  refine ⟨Nat × Nat, [], fun x => [(5, .int .i64 (.s fun _ => (x.1 : Int))), (6, .int .i64 (.s fun _ => (x.2 : Int)))], fun x => [(1000, .cells 121 [.fn 81 [.loc 1002 0]]), (1001, .cells 24 [.bool (.s fun _ => leaf), .dat (entsDV es)]), (1002, .cells 74 [.dat (.bytes fun _ => e.key), .dat (.bytes fun _ => e.val), .int .u32 (.s fun _ => e.page), .int .u32 (.s fun _ => e.size)])],
    fun x => x.1 ≤ x.2 ∧ x.2 ≤ es.length ∧ binS (fun i => geP e.key (es.getD i default).key) x.1 x.2 = placeI (geP e.key) es, fun x => x.2 - x.1, (0, n), [], hb0, ⟨?_⟩, fun x hx => ?_⟩
  · cbv
    and_intros
    all_goals first | exact trivial | exact ⟨en⟩ | exact ⟨rfl⟩ | exact ⟨rfl, fun _ _ _ _ => rfl⟩ | exact ⟨by kernel_rfl⟩
  · obtain ⟨i, j⟩ := x
    obtain ⟨hij, hj, hb⟩ : i ≤ j ∧ j ≤ es.length ∧ binS (fun i => geP e.key (es.getD i default).key) i j = placeI (geP e.key) es := hx
    cbv
    refine ⟨fun h1 => ?_, fun h1 => ?_⟩
    · have h1 : (i : Int) < (j : Int) := of_decide_eq_true h1
      have hlt : i < j := by omega
      have hh := half_eq (i := i) (j := j) (by omega)
      have hb1 := half_bound (i := i) (j := j) (by omega)
      obtain ⟨m, em⟩ : ∃ m, m = (i + j) / 2 := ⟨_, rfl⟩
      rw [← em] at hh
      have hm : m < es.length := by omega
      have bh : bound64 ((m : Int) + 1) := by unfold bound64; omega
      have bh : bound64 (IntKind.i64.wrap ((IntKind.u64.wrap ((i : Int) + (j : Int))).fdiv (2 ^ min (1 : Int).toNat IntKind.u64.bits)) + 1) := by rw [hh]; exact bh
      have eh : IntKind.i64.wrap ((IntKind.u64.wrap ((i : Int) + (j : Int))).fdiv (2 ^ min (1 : Int).toNat IntKind.u64.bits)) + 1 = ((m + 1 : Nat) : Int) := by rw [hh]; omega
      have m1 : j - (m + 1) < j - i := by omega
      have m2 : m - i < j - i := by omega
      have k1 : m + 1 ≤ j := by omega
      have k2 : i ≤ m ∧ m ≤ es.length := by omega
      have ca := con95_81 (e := e) (leaf := leaf) hm
      rw [← hh] at ca
      clear h1
      cbv
      refine ⟨⟨hb1⟩, ⟨by decide⟩, _, _, ca, ⟨?_⟩, ?_⟩
      · kernel_rfl
      cbv
      refine ⟨fun h2 => ?_, fun h2 => ?_⟩
      · have h2 : geP e.key (es.getD (m) default).key = false := bnot_t h2
        have hb' := (by rw [em] at h2 ⊢; exact (binS_no (p := fun i => geP e.key (es.getD i default).key) hlt h2).trans hb : binS (fun i => geP e.key (es.getD i default).key) (m + 1) j = placeI (geP e.key) es)
        cbv
        refine ⟨⟨bh⟩, (m + 1, j), [], ⟨k1, hj, hb'⟩, m1, ⟨?_⟩, ⟨?_⟩⟩
        · kernel_rfl
        · cbv
          and_intros
          all_goals first | exact trivial | exact ⟨eh⟩ | exact ⟨rfl⟩ | exact ⟨rfl, fun _ _ _ _ => rfl⟩ | exact ⟨by kernel_rfl⟩
      · have h2 : geP e.key (es.getD (m) default).key = true := bnot_f h2
        have hb' := (by rw [em] at h2 ⊢; exact (binS_yes (p := fun i => geP e.key (es.getD i default).key) hlt h2).trans hb : binS (fun i => geP e.key (es.getD i default).key) i m = placeI (geP e.key) es)
        cbv
        refine ⟨(i, m), [], ⟨k2.1, k2.2, hb'⟩, m2, ⟨?_⟩, ⟨?_⟩⟩
        · kernel_rfl
        · cbv
          and_intros
          all_goals first | exact trivial | exact ⟨hh⟩ | exact ⟨rfl⟩ | exact ⟨rfl, fun _ _ _ _ => rfl⟩ | exact ⟨by kernel_rfl⟩
    · have h1 : ¬ (i : Int) < (j : Int) := of_decide_eq_false h1
      have e1 : (i : Int) = (placeI (geP e.key) es : Int) := by
        rw [← hb, ← binS_end (by omega)]
      clear h1
      cbv
      refine ⟨[], [], ?_⟩
      cbv
      and_intros
      all_goals first | exact trivial | exact ⟨e1⟩ | exact ⟨rfl⟩ | exact ⟨rfl, fun _ _ _ _ => rfl⟩ | exact ⟨by kernel_rfl⟩

theorem con77_81 {e : Ent} {leaf : Bool} {es : List Ent} (hl : es.length < 1000000000000) :
    Con 77 [nodeSV leaf es, .fn 81 [.loc 1000 0]] [(1000, .cells 74 [.dat (.bytes fun _ => e.key), .dat (.bytes fun _ => e.val), .int .u32 (.s fun _ => e.page), .int .u32 (.s fun _ => e.size)])]
      (.int .i64 (.s fun _ => (placeI (geP e.key) es : Int))) [(1000, .cells 74 [.dat (.bytes fun _ => e.key), .dat (.bytes fun _ => e.val), .int .u32 (.s fun _ => e.page), .int .u32 (.s fun _ => e.size)])] := by
  refine con_of Try.func77 rfl rfl 10 _ rfl rfl rfl rfl ?_
  cbv
  refine ⟨_, _, con94_81 (e := e) (leaf := leaf) (es := es) hl, ⟨?_⟩, ?_⟩
  · kernel_rfl
  cbv
  refine ⟨[], [], ?_⟩
  cbv
  and_intros
  all_goals first | exact trivial | exact ⟨rfl⟩ | exact ⟨rfl, fun _ _ _ _ => rfl⟩ | exact ⟨by kernel_rfl⟩


theorem con83 {key : List UInt8} {x : List UInt8} : Con 83 [.dat (.bytes fun _ => x), .loc 1000 0] [(1000, .cells 27 [.dat (.bytes fun _ => key)])] (.bool (.s fun _ => geP key x)) [(1000, .cells 27 [.dat (.bytes fun _ => key)])] := by
  refine con_of Try.func83 rfl rfl 8 _ rfl rfl rfl rfl ?_
  cbv
  refine ⟨_, _, con79 (a := x) (b := key), ⟨?_⟩, ?_⟩
  · rfl
  cbv
  refine ⟨[], [], ?_⟩
  cbv
  and_intros
  all_goals first | exact trivial | exact ⟨rfl⟩ | exact ⟨rfl, fun _ _ _ _ => rfl⟩ | exact ⟨by kernel_rfl⟩

theorem con95_83 {key : List UInt8} {leaf : Bool} {es : List Ent} {i : Nat} (hi : i < es.length) :
    Con 95 [.int .i64 (.s fun _ => (i : Int)), .loc 1000 0, .loc 1001 0] [(1000, .cells 121 [.fn 83 [.loc 1002 0]]), (1001, .cells 24 [.bool (.s fun _ => leaf), .dat (entsDV es)]), (1002, .cells 27 [.dat (.bytes fun _ => key)])]
      (.bool (.s fun _ => geP key (es.getD i default).key)) [(1000, .cells 121 [.fn 83 [.loc 1002 0]]), (1001, .cells 24 [.bool (.s fun _ => leaf), .dat (entsDV es)]), (1002, .cells 27 [.dat (.bytes fun _ => key)])] := by
  refine con_of Try.func95 rfl rfl 13 _ rfl rfl rfl rfl ?_
  have o1 : indexObl (i : Int) es.length := ⟨by omega, by omega⟩
  cbv
  refine ⟨⟨o1⟩, _, _, con83 (key := key), ⟨?_⟩, ?_⟩
  · kernel_rfl
  cbv
  refine ⟨⟨by kernel_rfl⟩, ?_⟩
  cbv
  refine ⟨[], [], ?_⟩
  cbv
  and_intros
  all_goals first | exact trivial | exact ⟨rfl⟩ | exact ⟨rfl, fun _ _ _ _ => rfl⟩ | exact ⟨by kernel_rfl⟩


set_option maxRecDepth 20000 in
set_option maxHeartbeats 4000000 in
theorem con94_83 {key : List UInt8} {leaf : Bool} {es : List Ent} (hl : es.length < 1000000000000) :
    Con 94 [.int .i64 (.s fun _ => (es.length : Int)), .fn 95 [.loc 1000 0, .loc 1001 0]] [(1000, .cells 121 [.fn 83 [.loc 1002 0]]), (1001, .cells 24 [.bool (.s fun _ => leaf), .dat (entsDV es)]), (1002, .cells 27 [.dat (.bytes fun _ => key)])]
      (.int .i64 (.s fun _ => (placeI (geP key) es : Int))) [(1000, .cells 121 [.fn 83 [.loc 1002 0]]), (1001, .cells 24 [.bool (.s fun _ => leaf), .dat (entsDV es)]), (1002, .cells 27 [.dat (.bytes fun _ => key)])] := by
  obtain ⟨n, hn⟩ : ∃ n, n = es.length := ⟨_, rfl⟩
  have en : ((es.length : Nat) : Int) = (n : Int) := by rw [hn]
  have hb0 : 0 ≤ n ∧ n ≤ es.length ∧ binS (fun i => geP key (es.getD i default).key) 0 n = placeI (geP key) es := ⟨Nat.zero_le _, by omega, by rw [hn]; rfl⟩
  refine con_of Try.func94 rfl rfl 26 _ rfl rfl rfl rfl ?_
  cbv
  refine ⟨Nat × Nat, [], fun x => [(5, .int .i64 (.s fun _ => (x.1 : Int))), (6, .int .i64 (.s fun _ => (x.2 : Int)))], fun x => [(1000, .cells 121 [.fn 83 [.loc 1002 0]]), (1001, .cells 24 [.bool (.s fun _ => leaf), .dat (entsDV es)]), (1002, .cells 27 [.dat (.bytes fun _ => key)])],
    fun x => x.1 ≤ x.2 ∧ x.2 ≤ es.length ∧ binS (fun i => geP key (es.getD i default).key) x.1 x.2 = placeI (geP key) es, fun x => x.2 - x.1, (0, n), [], hb0, ⟨?_⟩, fun x hx => ?_⟩
  · cbv
    and_intros
    all_goals first | exact trivial | exact ⟨en⟩ | exact ⟨rfl⟩ | exact ⟨rfl, fun _ _ _ _ => rfl⟩ | exact ⟨by kernel_rfl⟩
  · obtain ⟨i, j⟩ := x
    obtain ⟨hij, hj, hb⟩ : i ≤ j ∧ j ≤ es.length ∧ binS (fun i => geP key (es.getD i default).key) i j = placeI (geP key) es := hx
    cbv
    refine ⟨fun h1 => ?_, fun h1 => ?_⟩
    · have h1 : (i : Int) < (j : Int) := of_decide_eq_true h1
      have hlt : i < j := by omega
      have hh := half_eq (i := i) (j := j) (by omega)
      have hb1 := half_bound (i := i) (j := j) (by omega)
      obtain ⟨m, em⟩ : ∃ m, m = (i + j) / 2 := ⟨_, rfl⟩
      rw [← em] at hh
      have hm : m < es.length := by omega
      have bh : bound64 ((m : Int) + 1) := by unfold bound64; omega
      have bh : bound64 (IntKind.i64.wrap ((IntKind.u64.wrap ((i : Int) + (j : Int))).fdiv (2 ^ min (1 : Int).toNat IntKind.u64.bits)) + 1) := by rw [hh]; exact bh
      have eh : IntKind.i64.wrap ((IntKind.u64.wrap ((i : Int) + (j : Int))).fdiv (2 ^ min (1 : Int).toNat IntKind.u64.bits)) + 1 = ((m + 1 : Nat) : Int) := by rw [hh]; omega
      have m1 : j - (m + 1) < j - i := by omega
      have m2 : m - i < j - i := by omega
      have k1 : m + 1 ≤ j := by omega
      have k2 : i ≤ m ∧ m ≤ es.length := by omega
      have ca := con95_83 (key := key) (leaf := leaf) hm
      rw [← hh] at ca
      clear h1
      cbv
      refine ⟨⟨hb1⟩, ⟨by decide⟩, _, _, ca, ⟨?_⟩, ?_⟩
      · kernel_rfl
      cbv
      refine ⟨fun h2 => ?_, fun h2 => ?_⟩
      · have h2 : geP key (es.getD (m) default).key = false := bnot_t h2
        have hb' := (by rw [em] at h2 ⊢; exact (binS_no (p := fun i => geP key (es.getD i default).key) hlt h2).trans hb : binS (fun i => geP key (es.getD i default).key) (m + 1) j = placeI (geP key) es)
        cbv
        refine ⟨⟨bh⟩, (m + 1, j), [], ⟨k1, hj, hb'⟩, m1, ⟨?_⟩, ⟨?_⟩⟩
        · kernel_rfl
        · cbv
          and_intros
          all_goals first | exact trivial | exact ⟨eh⟩ | exact ⟨rfl⟩ | exact ⟨rfl, fun _ _ _ _ => rfl⟩ | exact ⟨by kernel_rfl⟩
      · have h2 : geP key (es.getD (m) default).key = true := bnot_f h2
        have hb' := (by rw [em] at h2 ⊢; exact (binS_yes (p := fun i => geP key (es.getD i default).key) hlt h2).trans hb : binS (fun i => geP key (es.getD i default).key) i m = placeI (geP key) es)
        cbv
        refine ⟨(i, m), [], ⟨k2.1, k2.2, hb'⟩, m2, ⟨?_⟩, ⟨?_⟩⟩
        · kernel_rfl
        · cbv
          and_intros
          all_goals first | exact trivial | exact ⟨hh⟩ | exact ⟨rfl⟩ | exact ⟨rfl, fun _ _ _ _ => rfl⟩ | exact ⟨by kernel_rfl⟩
    · have h1 : ¬ (i : Int) < (j : Int) := of_decide_eq_false h1
      have e1 : (i : Int) = (placeI (geP key) es : Int) := by
        rw [← hb, ← binS_end (by omega)]
      clear h1
      cbv
      refine ⟨[], [], ?_⟩
      cbv
      and_intros
      all_goals first | exact trivial | exact ⟨e1⟩ | exact ⟨rfl⟩ | exact ⟨rfl, fun _ _ _ _ => rfl⟩ | exact ⟨by kernel_rfl⟩

theorem con77_83 {key : List UInt8} {leaf : Bool} {es : List Ent} (hl : es.length < 1000000000000) :
    Con 77 [nodeSV leaf es, .fn 83 [.loc 1000 0]] [(1000, .cells 27 [.dat (.bytes fun _ => key)])]
      (.int .i64 (.s fun _ => (placeI (geP key) es : Int))) [(1000, .cells 27 [.dat (.bytes fun _ => key)])] := by
  refine con_of Try.func77 rfl rfl 10 _ rfl rfl rfl rfl ?_
  cbv
  refine ⟨_, _, con94_83 (key := key) (leaf := leaf) (es := es) hl, ⟨?_⟩, ?_⟩
  · kernel_rfl
  cbv
  refine ⟨[], [], ?_⟩
  cbv
  and_intros
  all_goals first | exact trivial | exact ⟨rfl⟩ | exact ⟨rfl, fun _ _ _ _ => rfl⟩ | exact ⟨by kernel_rfl⟩

end Go.Proofs.Ytmdfjipjkkjpcaa

/- Node laws: Find. -/
namespace Go.Proofs.Ytmdfjipjkkjpcaa
open Go.SX

theorem binS_le {p : Nat → Bool} (i j : Nat) (h : i ≤ j) : i ≤ binS p i j ∧ binS p i j ≤ j := by
  rw [binS.eq_1 p i j]
  split
  · rename_i hlt
    split
    · have := binS_le (p := p) i ((i + j) / 2) (by omega); omega
    · have := binS_le (p := p) ((i + j) / 2 + 1) j (by omega); omega
  · omega
termination_by j - i
decreasing_by all_goals omega
theorem placeI_le {p : List UInt8 → Bool} {es : List Ent} : placeI p es ≤ es.length := (binS_le 0 es.length (Nat.zero_le _)).2

def foundB (es : List Ent) (key : List UInt8) : Bool := decide (placeI (geP key) es < es.length) && decide ((es.getD (placeI (geP key) es) default).key = key)

set_option maxRecDepth 20000 in
set_option maxHeartbeats 4000000 in
theorem con31t {es : List Ent} {key : List UInt8} (hl : es.length < 1000000000000) :
    Con 31 [nodeSV true es, .dat (.bytes fun _ => key)] [] (.tup [.int .i64 (.s fun _ => (placeI (geP key) es : Int)), .bool (.s fun _ => foundB es key)]) [] := by
  have hp := placeI_le (p := geP key) (es := es)
  obtain ⟨k, hk⟩ : ∃ k, k = placeI (geP key) es := ⟨_, rfl⟩
  have ca := con77_78 (key := key) (leaf := true) hl
  unfold foundB
  rw [← hk] at ca hp ⊢
  refine con_of Try.func31 rfl rfl 39 _ rfl rfl rfl rfl ?_
  cbv
  refine ⟨fun _ => ?_, fun h => by cases h⟩
  cbv
  refine ⟨_, _, ca, ⟨?_⟩, ?_⟩
  · kernel_rfl
  cbv
  refine ⟨fun h1 => ?_, fun h1 => ?_⟩
  · have h1 : (k : Int) < (es.length : Int) := of_decide_eq_true h1
    have hlt : k < es.length := by omega
    have o1 : indexObl (k : Int) es.length := ⟨by omega, h1⟩
    have e1 : decide ((es.getD k default).key = key) = (decide (k < es.length) && decide ((es.getD k default).key = key)) := by rw [decide_eq_true hlt, Bool.true_and]
    clear h1
    cbv
    refine ⟨⟨o1⟩, _, _, con73, ⟨?_⟩, ?_⟩
    · rfl
    cbv
    refine ⟨⟨by kernel_rfl⟩, ?_⟩
    cbv
    refine ⟨[], [], ?_⟩
    cbv
    and_intros
    all_goals first | exact trivial | exact ⟨e1⟩ | exact ⟨rfl⟩ | exact ⟨by kernel_rfl⟩
  · have h1 : ¬ (k : Int) < (es.length : Int) := of_decide_eq_false h1
    have e1 : false = (decide (k < es.length) && decide ((es.getD k default).key = key)) := by rw [decide_eq_false (by omega), Bool.false_and]
    clear h1
    cbv
    refine ⟨⟨by kernel_rfl⟩, ?_⟩
    cbv
    refine ⟨[], [], ?_⟩
    cbv
    and_intros
    all_goals first | exact trivial | exact ⟨e1⟩ | exact ⟨rfl⟩ | exact ⟨by kernel_rfl⟩

set_option maxRecDepth 20000 in
set_option maxHeartbeats 4000000 in
theorem con31f {es : List Ent} {key : List UInt8} (hl : es.length < 1000000000000) :
    Con 31 [nodeSV false es, .dat (.bytes fun _ => key)] [] (.tup [.int .i64 (.s fun _ => ((placeI (gtP key) es - 1 : Nat) : Int)), .bool (.s fun _ => decide (0 < es.length))]) [] := by
  have hp := placeI_le (p := gtP key) (es := es)
  obtain ⟨k, hk⟩ : ∃ k, k = placeI (gtP key) es := ⟨_, rfl⟩
  have ca := con77_80 (key := key) (leaf := false) hl
  rw [← hk] at ca hp ⊢
  have b1 : bound64 ((k : Int) - 1) := by unfold bound64; omega
  obtain ⟨k', hk'⟩ : ∃ k', k' = k - 1 := ⟨_, rfl⟩
  have e1 : (if (k : Int) - 1 > 0 then (k : Int) - 1 else 0) = (k' : Int) := by split <;> omega
  have e2 : decide ((0 : Int) < (es.length : Int)) = decide (0 < es.length) := decide_eq_decide.2 (by omega)
  rw [← hk']
  refine con_of Try.func31 rfl rfl 39 _ rfl rfl rfl rfl ?_
  cbv
  refine ⟨fun h => (by cases h), fun _ => ?_⟩
  cbv
  refine ⟨_, _, ca, ⟨?_⟩, ?_⟩
  · kernel_rfl
  cbv
  refine ⟨⟨b1⟩, ⟨by kernel_rfl⟩, ?_⟩
  cbv
  refine ⟨[], [], ?_⟩
  cbv
  and_intros
  all_goals first | exact trivial | exact ⟨e1⟩ | exact ⟨e2⟩ | exact ⟨rfl⟩ | exact ⟨by kernel_rfl⟩
end Go.Proofs.Ytmdfjipjkkjpcaa

/- Node laws: copies. -/
namespace Go.Proofs.Ytmdfjipjkkjpcaa
open Go.SX

theorem con84n {c : Nat} : Con 84 [.val (.slice none 0 c)] [] (.own 2000) [(2000, .barr 5 fun _ => [])] := by
  refine con_of Try.func84 rfl rfl 8 _ rfl rfl rfl rfl ?_
  cbv
  refine ⟨[(2000, none)], [], ?_⟩
  cbv
  and_intros
  all_goals first | exact trivial | exact ⟨rfl⟩ | exact ⟨by kernel_rfl⟩

theorem con84nn {bs : List UInt8} (hb : bs.length < 1000000000000) : Con 84 [.nn (.bytes fun _ => bs)] [] (.own 2000) [(2000, .barr 5 fun _ => bs)] := by
  have b1 : lenOk (([] : List UInt8).length + bs.length) 1 := by unfold lenOk; simp; omega
  refine con_of Try.func84 rfl rfl 8 _ rfl rfl rfl rfl ?_
  cbv
  refine ⟨⟨trivial, b1⟩, ?_⟩
  cbv
  refine ⟨[(2000, some 7)], [], ?_⟩
  cbv
  and_intros
  all_goals first | exact trivial | exact ⟨rfl⟩ | exact ⟨by kernel_rfl⟩
theorem con84 {bs : List UInt8} (hb : bs.length < 1000000000000) : Con 84 [.dat (.bytes fun _ => bs)] [] (.own 2000) [(2000, .barr 5 fun _ => bs)] := by
  refine ⟨fun η G vs w h1 h2 h3 => ?_⟩
  match vs, h3 with
  | [v], h3 =>
    obtain ⟨h3, -⟩ := h3
    have h4 := h3
    simp only [SVRel, DVRel] at h4
    obtain ⟨p, c, rfl, hc, hr⟩ := h4
    cases p with
    | none =>
      have hn : bs = [] := by
        cases bs with
        | nil => rfl
        | cons x l => obtain ⟨b, o, hb, _⟩ := hr 0 x rfl; cases hb
      subst hn
      exact (con84n (c := c)).spec η G _ w h1 h2 ⟨by simp [SVRel], trivial⟩
    | some p => exact (con84nn hb).spec η G _ w h1 h2 ⟨⟨h3, _, _, _, rfl⟩, trivial⟩
  | [], h3 => exact h3.elim
  | _ :: _ :: _, h3 => exact h3.2.elim

set_option maxRecDepth 20000 in
set_option maxHeartbeats 4000000 in
theorem con97 {e : Ent} (hk : e.key.length < 1000000000000) (hv : e.val.length < 1000000000000) :
    Con 97 [entSV e] [] (.agg [.own 2000, .own 2001, .int .u32 (.s fun _ => e.page), .int .u32 (.s fun _ => e.size)]) [(2000, .barr 5 fun _ => e.key), (2001, .barr 5 fun _ => e.val)] := by
  refine con_of Try.func97 rfl rfl 12 _ rfl rfl rfl rfl ?_
  cbv
  refine ⟨_, _, con84 hk, ⟨?_⟩, ?_⟩
  · rfl
  cbv
  refine ⟨_, _, con84 hv, ⟨?_⟩, ?_⟩
  · rfl
  cbv
  refine ⟨⟨by kernel_rfl⟩, ?_⟩
  cbv
  refine ⟨[(2000, some 3500), (2001, some 3800)], [], ?_⟩
  cbv
  and_intros
  all_goals first | exact trivial | exact ⟨rfl⟩ | exact ⟨by kernel_rfl⟩

/-- Rows that stand for entries. -/
def RepE (A : DV) (a : List Ent) : Prop := ∀ (w : World) (S : Nat → Prop) (v : Value), DVRel w S A v → DVRel w S (entsDV a) v

theorem rep_row {n : Nat} {row : (Unit → Nat) → Nat → DV} {a : List Ent} (hn : n = a.length) (h : ∀ i, i < n → ∀ j, j < 4 → row (fun _ => i) j = encE (fun _ => a.getD i default) j) : RepE (.sl 4 (fun _ => n) row) a := by
  subst hn
  intro w S v hv
  simp only [entsDV, DVRel] at hv ⊢
  obtain ⟨p, c, rfl, hc, hr⟩ := hv
  refine ⟨p, c, rfl, hc, fun i hi => ?_⟩
  obtain ⟨b, o, hb, hS, hj⟩ := hr i hi
  refine ⟨b, o, hb, hS, fun j hj' => ?_⟩
  obtain ⟨u, hu, hd⟩ := hj j hj'
  refine ⟨u, hu, ?_⟩
  rw [h i hi j hj'] at hd
  exact hd
theorem rep_self {a : List Ent} : RepE (entsDV a) a := fun _ _ _ h => h
theorem rep_take {a : List Ent} {k : Nat} (hk : k ≤ a.length) : RepE (.sl 4 (fun _ => k) (lrow encE fun _ => a)) (a.take k) :=
  rep_row (by simp; omega) fun i hi j _ => by
    simp only [lrow, List.getD_eq_getElem?_getD]
    rw [List.getElem?_take_of_lt hi]
theorem rep_drop {a : List Ent} {k n : Nat} (hn : n = a.length - k) : RepE (.sl 4 (fun _ => n) fun i j => lrow encE (fun _ => a) (fun _ => k + i ()) j) (a.drop k) :=
  rep_row (by simp; omega) fun i hi j _ => by
    simp only [lrow, List.getD_eq_getElem?_getD, List.getElem?_drop]

def encL (a : Unit → List Ent) : Nat → DV := fun _ => .sl 4 (fun _ => (a ()).length) (lrow encE a)
end Go.Proofs.Ytmdfjipjkkjpcaa

/- Node laws: nodes of entries of their own. -/
namespace Go.Proofs.Ytmdfjipjkkjpcaa
open Go.SX

def dvsE (e : Ent) : List DV := [.bytes fun _ => e.key, .bytes fun _ => e.val, .int .u32 fun _ => e.page, .int .u32 fun _ => e.size]

theorem merge_t (x y : Ent) (j : Nat) : mergeDV (fun _ => true) (encE (fun _ => x) j) (encE (fun _ => y) j) = encE (fun _ => x) j := by
  match j with
  | 0 => rfl
  | 1 => rfl
  | 2 => rfl
  | _ + 3 => rfl
theorem merge_f (x y : Ent) (j : Nat) : mergeDV (fun _ => false) (encE (fun _ => x) j) (encE (fun _ => y) j) = encE (fun _ => y) j := by
  match j with
  | 0 => rfl
  | 1 => rfl
  | 2 => rfl
  | _ + 3 => rfl
theorem one_enc (e : Ent) {i : Unit → Nat} {j : Nat} (hj : j < 4) : oneRow (dvsE e) i j = encE (fun _ => e) j := by
  match j, hj with
  | 0, _ => rfl
  | 1, _ => rfl
  | 2, _ => rfl
  | 3, _ => rfl
  | _ + 4, h => omega
theorem app_row (es : List Ent) (e : Ent) {i : Nat} (hi : i < es.length + 1) {j : Nat} (hj : j < 4) :
    appRow (fun _ => es.length) (lrow encE fun _ => es) (oneRow (dvsE e)) (fun _ => i) j = lrow encE (fun _ => es ++ [e]) (fun _ => i) j := by
  unfold appRow
  rw [one_enc e hj]
  by_cases h : i < es.length
  · have h1 : ltN i es.length = true := by simp [ltN, h]
    simp only [h1, lrow]
    rw [merge_t]
    simp only [List.getD_eq_getElem?_getD, List.getElem?_append_left h]
  · have h1 : ltN i es.length = false := by simp [ltN, h]
    have hie : i = es.length := by omega
    subst hie
    simp only [h1, lrow]
    rw [merge_f]
    simp
theorem app_ok (es : List Ent) (e : Ent) : AppOk 4 es.length 1 (lrow encE fun _ => es) (oneRow (dvsE e)) := by
  refine ⟨fun i hi j hj => ?_, fun i hi j hj => ?_⟩
  · rw [app_row es e (by omega) hj]
    simp only [lrow, List.getD_eq_getElem?_getD, List.getElem?_append_left hi]
  · have : i = 0 := by omega
    subst this
    rw [Nat.add_zero, app_row es e (by omega) hj, one_enc e hj]
    simp [lrow]

theorem row_le {old new : List Ent} (h : old = new) : old.length = new.length ∧ RowEq 4 new.length (lrow encE fun _ => old) (lrow encE fun _ => new) := by
  subst h; exact ⟨rfl, fun _ _ _ _ => rfl⟩
theorem row_app {es new : List Ent} {e : Ent} (h : es ++ [e] = new) : es.length + 1 = new.length ∧ RowEq 4 new.length (appRow (fun _ => es.length) (lrow encE fun _ => es) (oneRow (dvsE e))) (lrow encE fun _ => new) := by
  subst h
  refine ⟨by simp, fun i hi j hj => app_row es e (by simpa using hi) hj⟩

def SmallE (e : Ent) : Prop := e.key.length < 1000000000000 ∧ e.val.length < 1000000000000

theorem flat_next (ls : List (List Ent)) {i : Nat} (hi : i < ls.length) : (ls.take (i + 1)).flatten = (ls.take i).flatten ++ ls.getD i default := by
  rw [getD_take ls hi, List.flatten_append]
  simp
theorem flat_len (ls : List (List Ent)) {i j : Nat} (hi : i < ls.length) (hj : j ≤ (ls.getD i default).length) : ((ls.take i).flatten ++ (ls.getD i default).take j).length ≤ ls.flatten.length := by
  have h : ls.take (i + 1) ++ ls.drop (i + 1) = ls := List.take_append_drop _ _
  have h2 := congrArg (fun l => (List.flatten l).length) h
  simp only [List.flatten_append, List.length_append, flat_next ls hi] at h2
  simp only [List.length_append, List.length_take]
  omega
theorem getD_mem {α : Type} [Inhabited α] {l : List α} {i : Nat} (hi : i < l.length) : l.getD i default ∈ l := by
  rw [List.getD_eq_getElem?_getD, List.getElem?_eq_getElem hi]
  exact List.getElem_mem hi

set_option maxRecDepth 20000 in
set_option maxHeartbeats 4000000 in
theorem con82 {leaf : Bool} {ls : List (List Ent)} (hs : ∀ a ∈ ls, ∀ e ∈ a, SmallE e) (hl : ls.flatten.length < 1000000000000) (hn : ls.length < 1000000000000) :
    Con 82 [.bool (.s fun _ => leaf), .dat (.sl 1 (fun _ => ls.length) (lrow encL fun _ => ls))] [] (.agg [.bool (.s fun _ => leaf), .own 2000])
      [(2000, .arrD 74 4 (fun _ => ls.flatten.length) (lrow encE fun _ => ls.flatten))] := by
  refine con_of Try.func82 rfl rfl 34 _ rfl rfl rfl rfl ?_
  cbv
  refine ⟨Nat, [500], fun i => [(14, .int .i64 (.s fun _ => (i : Int)))],
    fun i => [(4, .cells 24 [.bool .f, .nil]), (5, .cells 24 [.bool (.s fun _ => leaf), .own 500]), (500, .arrD 74 4 (fun _ => (ls.take i).flatten.length) (lrow encE fun _ => (ls.take i).flatten))],
    fun i => i ≤ ls.length, fun i => ls.length - i, 0, [(500, none)], Nat.zero_le _, ⟨?_⟩, fun i hi => ?_⟩
  · cbv
    and_intros
    all_goals first | exact trivial | exact ⟨rfl⟩ | exact ⟨by kernel_rfl⟩
  · have hi : i ≤ ls.length := hi
    cbv
    refine ⟨fun h1 => ?_, fun h1 => ?_⟩
    · have h1 : (i : Int) < (ls.length : Int) := of_decide_eq_true h1
      have hlt : i < ls.length := by omega
      have o1 : indexObl (i : Int) ls.length := ⟨by omega, h1⟩
      have bi : bound64 ((i : Int) + 1) := by unfold bound64; omega
      have ei : (i : Int) + 1 = ((i + 1 : Nat) : Int) := by omega
      have hm := hs _ (getD_mem hlt)
      have hfn := flat_next ls hlt
      obtain ⟨B, hB⟩ : ∃ B, B = (ls.take i).flatten := ⟨_, rfl⟩
      rw [← hB] at hfn
      have e3 : (ls.take i).flatten = B ++ (ls.getD i default).take 0 := by rw [hB, List.take_zero, List.append_nil]
      have e3 := row_le e3
      clear h1
      cbv
      refine ⟨⟨o1⟩, ?_⟩
      cbv
      refine ⟨Nat, [500], fun j => [(20, .int .i64 (.s fun _ => (j : Int)))],
        fun j => [(4, .cells 24 [.bool .f, .nil]), (5, .cells 24 [.bool (.s fun _ => leaf), .own 500]), (500, .arrD 74 4 (fun _ => (B ++ (ls.getD i default).take j).length) (lrow encE fun _ => B ++ (ls.getD i default).take j))],
        fun j => j ≤ (ls.getD i default).length, fun j => (ls.getD i default).length - j, 0, [], Nat.zero_le _, ⟨?_⟩, fun j hj => ?_⟩
      · cbv
        and_intros
        all_goals first | exact trivial | exact ⟨rfl⟩ | exact ⟨e3⟩ | exact ⟨by kernel_rfl⟩
      · have hj : j ≤ (ls.getD i default).length := hj
        have hfl := flat_len ls hlt hj
        rw [← hB] at hfl
        cbv
        refine ⟨fun h2 => ?_, fun h2 => ?_⟩
        · have h2 : (j : Int) < ((ls.getD i default).length : Int) := of_decide_eq_true h2
          have hjl : j < (ls.getD i default).length := by omega
          have o2 : indexObl (j : Int) (ls.getD i default).length := ⟨by omega, h2⟩
          have bj : bound64 ((j : Int) + 1) := by
            have : (ls.getD i default).length ≤ ls.flatten.length := by
              have := flat_len ls hlt (Nat.le_refl _)
              simp only [List.length_append, List.length_take] at this
              omega
            unfold bound64; omega
          have ej : (j : Int) + 1 = ((j + 1 : Nat) : Int) := by omega
          obtain ⟨hk, hv⟩ := hm _ (getD_mem hjl)
          have hap := app_ok (B ++ (ls.getD i default).take j) ((ls.getD i default).getD j default)
          have hnx : (B ++ (ls.getD i default).take j) ++ [(ls.getD i default).getD j default] = B ++ (ls.getD i default).take (j + 1) := by
            rw [getD_take _ hjl, List.append_assoc]
          have hra := row_app hnx
          have hlo : lenOk ((B ++ (ls.getD i default).take j).length + 1) 56 := by unfold lenOk; omega
          have hms : (ls.getD i default).length - (j + 1) < (ls.getD i default).length - j := by omega
          clear h2
          cbv
          refine ⟨⟨o2⟩, ?_⟩
          cbv
          refine ⟨_, _, con97 (e := (ls.getD i default).getD j default) hk hv, ⟨?_⟩, ?_⟩
          · rfl
          cbv
          refine ⟨⟨hlo, hap⟩, ?_⟩
          cbv
          refine ⟨⟨by kernel_rfl⟩, ?_⟩
          cbv
          refine ⟨⟨bj⟩, j + 1, [(500, some 29)], hjl, hms, ⟨?_⟩, ⟨?_⟩⟩
          · kernel_rfl
          · cbv
            and_intros
            all_goals first | exact trivial | exact ⟨rfl⟩ | exact ⟨ej⟩ | exact ⟨hra⟩ | exact ⟨by kernel_rfl⟩
        · have h2 : ¬ ((j : Int) < ((ls.getD i default).length : Int)) := of_decide_eq_false h2
          have hje : j = (ls.getD i default).length := by omega
          subst hje
          have e4 : B ++ (ls.getD i default).take (ls.getD i default).length = (ls.take (i + 1)).flatten := by rw [List.take_length, hfn]
          have e4 := row_le e4
          have hms : ls.length - (i + 1) < ls.length - i := by omega
          clear h2
          cbv
          refine ⟨⟨bi⟩, i + 1, [], hlt, hms, ⟨?_⟩, ⟨?_⟩⟩
          · kernel_rfl
          · cbv
            and_intros
            all_goals first | exact trivial | exact ⟨rfl⟩ | exact ⟨ei⟩ | exact ⟨e4⟩ | exact ⟨by kernel_rfl⟩
    · have h1 : ¬ ((i : Int) < (ls.length : Int)) := of_decide_eq_false h1
      have hle : i = ls.length := by omega
      subst hle
      have e1 : (ls.take ls.length).flatten = ls.flatten := by rw [List.take_length]
      have e2 := row_le e1
      clear h1
      cbv
      refine ⟨[(2000, some 500)], [], ?_⟩
      cbv
      and_intros
      all_goals first | exact trivial | exact ⟨rfl⟩ | exact ⟨e2⟩ | exact ⟨by kernel_rfl⟩
end Go.Proofs.Ytmdfjipjkkjpcaa

/- Node laws: halves. -/
namespace Go.Proofs.Ytmdfjipjkkjpcaa
open Go.SX

theorem rep_sub {a b : List Ent} {l h : Nat} (hb : b = (a.drop l).take (h - l)) (hh : h ≤ a.length) :
    RepE (.sl 4 (fun _ => h - l) (subRow (lrow encE fun _ => a) fun _ => l)) b := by
  subst hb
  refine rep_row (by simp; omega) fun i hi j _ => ?_
  simp only [subRow, lrow, List.getD_eq_getElem?_getD]
  rw [List.getElem?_take_of_lt hi, List.getElem?_drop]

theorem con82_1 {leaf : Bool} {A : DV} {a : List Ent} (hA : RepE A a) (hs : ∀ e ∈ a, SmallE e) (hl : a.length < 1000000000000) :
    Con 82 [.bool (.s fun _ => leaf), .dat (.sl 1 (fun _ => 1) (litRow 1 [A]))] [] (.agg [.bool (.s fun _ => leaf), .own 2000])
      [(2000, .arrD 74 4 (fun _ => a.length) (lrow encE fun _ => a))] := by
  have h := con82 (leaf := leaf) (ls := [a]) (by simpa using hs) (by simpa using hl) (by simp)
  have e : [a].flatten = a := by simp
  rw [e] at h
  refine h.args fun η G w vs hv => ?_
  match vs, hv with
  | [v1, v2], hv =>
    obtain ⟨h1, h2, -⟩ := hv
    refine ⟨h1, ?_, trivial⟩
    simp only [SVRel, DVRel] at h2 ⊢
    obtain ⟨p, c, rfl, hc, hr⟩ := h2
    refine ⟨p, c, rfl, hc, fun i hi => ?_⟩
    obtain ⟨b, o, hb, hG, hj⟩ := hr i hi
    refine ⟨b, o, hb, hG, fun j hj' => ?_⟩
    obtain ⟨u, hu, hd⟩ := hj j hj'
    refine ⟨u, hu, ?_⟩
    have hi0 : i = 0 := by simp at hi; omega
    have hj0 : j = 0 := by omega
    subst hi0; subst hj0
    exact hA w G u hd
  | [], hv => exact hv.elim
  | [_], hv => exact hv.2.elim
  | _ :: _ :: _ :: _, hv => exact hv.2.2.elim

def goesB (leaf : Bool) (es : List Ent) (k : Nat) : Bool := decide (k = 0) || (decide (2 * sizeL leaf (es.take k) < sizeL leaf es) && decide (k < es.length - 1))
def cutF (leaf : Bool) (es : List Ent) : Nat → Nat → Nat
  | 0, k => k
  | f + 1, k => if goesB leaf es k then cutF leaf es f (k + 1) else k
def cutK (leaf : Bool) (es : List Ent) : Nat := cutF leaf es es.length 0

theorem hsE_of {es : List Ent} (hs : ∀ e ∈ es, SmallE e) : ∀ e ∈ es, e.key.length + e.val.length < 10000000000000 := fun e he => by have := hs e he; unfold SmallE at this; omega
theorem cut_go {leaf : Bool} {es : List Ent} {k : Nat} (hk : k < es.length) (h : goesB leaf es k = true) : cutF leaf es (es.length - (k + 1)) (k + 1) = cutF leaf es (es.length - k) k := by
  rw [show es.length - k = (es.length - (k + 1)) + 1 by omega]
  simp only [cutF, h, if_true]
theorem cut_end {leaf : Bool} {es : List Ent} {k : Nat} (hk : k < es.length) (h : goesB leaf es k = false) : cutF leaf es (es.length - k) k = k := by
  rw [show es.length - k = (es.length - (k + 1)) + 1 by omega]
  simp only [cutF, h, Bool.false_eq_true, if_false]
theorem cut_at {leaf : Bool} {es : List Ent} (h2 : 2 ≤ es.length) : 1 ≤ cutK leaf es ∧ cutK leaf es < es.length := by
  have key : ∀ f k, k + f = es.length → k < es.length → (k = 0 ∨ 1 ≤ k) → 1 ≤ cutF leaf es f k ∧ cutF leaf es f k < es.length := by
    intro f
    induction f with
    | zero => intro k h h' _; omega
    | succ f ih =>
      intro k h h' h0
      simp only [cutF]
      by_cases hg : goesB leaf es k = true
      · rw [if_pos hg]
        have : k + 1 < es.length := by
          simp only [goesB, Bool.or_eq_true, Bool.and_eq_true, decide_eq_true_eq] at hg
          omega
        exact ih (k + 1) (by omega) this (by omega)
      · rw [if_neg hg]
        have : k ≠ 0 := by
          intro h; subst h; exact hg (by simp [goesB])
        omega
  exact key es.length 0 (by omega) (by omega) (Or.inl rfl)

set_option maxRecDepth 20000 in
set_option maxHeartbeats 4000000 in
theorem con35t {es : List Ent} (hw : weight es + 20 * es.length < 1000000000000) (hs : ∀ e ∈ es, SmallE e) (h2 : 2 ≤ es.length) :
    Con 35 [nodeSV true es] [] (.tup [.agg [.bool (.s fun _ => true), .own 2000], .agg [.bool (.s fun _ => true), .own 2001], .own 2002])
      [(2000, .arrD 74 4 (fun _ => (es.take (cutK true es)).length) (lrow encE fun _ => es.take (cutK true es))),
       (2001, .arrD 74 4 (fun _ => (es.drop (cutK true es)).length) (lrow encE fun _ => es.drop (cutK true es))),
       (2002, .barr 5 fun _ => ((es.drop (cutK true es)).getD 0 default).key)] := by
  have b0 : bound64 ((2 + sizeL true es) - 2) := by have := sizeL_le true es; unfold bound64; omega
  refine con_of Try.func35 rfl rfl 87 _ rfl rfl rfl rfl ?_
  cbv
  refine ⟨fun h1 => ?_, fun h1 => ?_⟩
  · have h1 : (es.length : Int) < 2 := of_decide_eq_true h1
    have h1 : ¬ 2 ≤ es.length := by omega
    exfalso
    exact h1 h2
  · clear h1
    cbv
    refine ⟨_, _, con14 (leaf := true) (es := es) hw, ⟨?_⟩, ?_⟩
    · rfl
    cbv
    refine ⟨⟨b0⟩, ?_⟩
    cbv
    refine ⟨Nat, [], fun k => [(6, .int .i64 (.s fun _ => sizeL true (es.take k))), (7, .int .i64 (.s fun _ => (k : Int)))],
      fun _ => [(1, .cells 24 [.bool (.s fun _ => true), .dat (entsDV es)]), (2, .cells 24 [.bool .f, .nil]), (3, .cells 24 [.bool .f, .nil])],
      fun k => k < es.length ∧ cutF true es (es.length - k) k = cutK true es, fun k => es.length - k, 0, [], ⟨by omega, rfl⟩, ⟨?_⟩, fun k hx => ?_⟩
    · cbv
      and_intros
      all_goals first | exact trivial | exact ⟨rfl⟩ | exact ⟨rfl, fun _ _ _ _ => rfl⟩ | exact ⟨by kernel_rfl⟩
    · obtain ⟨hk, hc⟩ : k < es.length ∧ cutF true es (es.length - k) k = cutK true es := hx
      have oi : indexObl (k : Int) es.length := ⟨by omega, by omega⟩
      have bk : bound64 ((k : Int) + 1) := by unfold bound64; omega
      have bl : bound64 ((es.length : Int) - 1) := by unfold bound64; omega
      have ek : (k : Int) + 1 = ((k + 1 : Nat) : Int) := by omega
      have b2 : bound64 (2 * sizeL true (es.take k)) := by have := sizeL_le true (es.take k); have := sizeL_mono true (es := es) (i := k); have := sizeL_le true es; unfold bound64; omega
      have b5 : 2 + sizeL true es - 2 = sizeL true es := by omega
      have hms : es.length - (k + 1) < es.length - k := by omega
      have hnx : sizeL true (es.take (k + 1)) = sizeL true (es.take k) + bytesOfI true (es.getD k default).key (es.getD k default).val (es.getD k default).page := by
        rw [getD_take es hk, sizeL_app]; simp only [sizeL]; omega
      have hnx' := hnx.symm
      have so1 : sliceObl 0 (k : Int) es.length := ⟨by omega, by omega, by omega⟩
      have so2 : sliceObl (k : Int) (es.length : Int) es.length := ⟨by omega, by omega, by omega⟩
      have oi0 : indexObl 0 (es.drop k).length := ⟨by omega, by simp; omega⟩
      have ha : ∀ e ∈ es.take k, SmallE e := fun e he => hs e (List.mem_of_mem_take he)
      have hb : ∀ e ∈ es.drop k, SmallE e := fun e he => hs e (List.mem_of_mem_drop he)
      have la : (es.take k).length < 1000000000000 := by simp only [List.length_take]; omega
      have lb : (es.drop k).length < 1000000000000 := by simp only [List.length_drop]; omega
      have ra : RepE (.sl 4 (fun _ => (k : Int).toNat - 0) (subRow (lrow encE fun _ => es) fun _ => 0)) (es.take k) := rep_sub (by simp) (by omega)
      have rb : RepE (.sl 4 (fun _ => (es.length : Int).toNat - (k : Int).toNat) (subRow (lrow encE fun _ => es) fun _ => (k : Int).toNat)) (es.drop k) := rep_sub (a := es) (b := es.drop k) (l := k) (h := es.length) (by rw [List.take_of_length_le (by simp)]) (Nat.le_refl _)
      have kl : ((es.drop k).getD 0 default).key.length < 1000000000000 := (hb _ (getD_mem (by simp; omega))).1
      cbv
      refine ⟨fun h3 => ?_, fun h3 => ?_⟩
      · have h3 : (k : Int) = 0 := of_decide_eq_true h3
        have hg : goesB true es k = true := by simp only [goesB, decide_eq_true (show k = 0 by omega), Bool.true_or]
        have hlt : k + 1 < es.length := by omega
        have ob1 : bound64 ((sizeL true (es.take k)) + bytesOfI true (es.getD k default).key (es.getD k default).val (es.getD k default).page) := by
          rw [← hnx]; have := sizeL_le true (es.take (k + 1)); have := sizeL_mono true (es := es) (i := k + 1); have := sizeL_le true es; unfold bound64; omega
        have hgo := (cut_go hk hg).trans hc
        clear hg hc
        cbv
        refine ⟨⟨oi⟩, _, _, con44 (leaf := true) (Nat.lt_of_le_of_lt (by have := weight_take es hk; omega : (es.getD k default).key.length + (es.getD k default).val.length ≤ weight es) (by omega)), ⟨?_⟩, ?_⟩
        · rfl
        cbv
        refine ⟨⟨ob1⟩, ⟨by kernel_rfl⟩, ?_⟩
        cbv
        refine ⟨⟨bk⟩, k + 1, [], ⟨hlt, hgo⟩, hms, ⟨?_⟩, ⟨?_⟩⟩
        · kernel_rfl
        · cbv
          and_intros
          all_goals first | exact trivial | exact ⟨hnx'⟩ | exact ⟨ek⟩ | exact ⟨rfl⟩ | exact ⟨rfl, fun _ _ _ _ => rfl⟩ | exact ⟨by kernel_rfl⟩
      · have h3 : ¬ (k : Int) = 0 := of_decide_eq_false h3
        have h3 : ¬ k = 0 := by omega
        cbv
        refine ⟨⟨b2⟩, ?_⟩
        cbv
        refine ⟨fun h4 => ?_, fun h4 => ?_⟩
        · have h4 : 2 * sizeL true (es.take k) < 2 + sizeL true es - 2 := of_decide_eq_true h4
          cbv
          refine ⟨⟨bl⟩, ?_⟩
          cbv
          refine ⟨fun h5 => ?_, fun h5 => ?_⟩
          · have h5 : (k : Int) < (es.length : Int) - 1 := of_decide_eq_true h5
            have hlt : k + 1 < es.length := by omega
            have hg : goesB true es k = true := by simp only [goesB, decide_eq_true (show 2 * sizeL true (es.take k) < sizeL true es by omega), decide_eq_true (show k < es.length - 1 by omega), Bool.true_and, Bool.or_true]
            have ob1 : bound64 ((sizeL true (es.take k)) + bytesOfI true (es.getD k default).key (es.getD k default).val (es.getD k default).page) := by
              rw [← hnx]; have := sizeL_le true (es.take (k + 1)); have := sizeL_mono true (es := es) (i := k + 1); have := sizeL_le true es; unfold bound64; omega
            have hgo := (cut_go hk hg).trans hc
            clear hg hc
            cbv
            refine ⟨⟨oi⟩, _, _, con44 (leaf := true) (Nat.lt_of_le_of_lt (by have := weight_take es hk; omega : (es.getD k default).key.length + (es.getD k default).val.length ≤ weight es) (by omega)), ⟨?_⟩, ?_⟩
            · rfl
            cbv
            refine ⟨⟨ob1⟩, ⟨by kernel_rfl⟩, ?_⟩
            cbv
            refine ⟨⟨bk⟩, k + 1, [], ⟨hlt, hgo⟩, hms, ⟨?_⟩, ⟨?_⟩⟩
            · kernel_rfl
            · cbv
              and_intros
              all_goals first | exact trivial | exact ⟨hnx'⟩ | exact ⟨ek⟩ | exact ⟨rfl⟩ | exact ⟨rfl, fun _ _ _ _ => rfl⟩ | exact ⟨by kernel_rfl⟩
          · have h5 : ¬ (k : Int) < (es.length : Int) - 1 := of_decide_eq_false h5
            have hg : goesB true es k = false := by simp only [goesB, decide_eq_false h3, decide_eq_false (show ¬ k < es.length - 1 by omega), Bool.and_false, Bool.or_false]
            have hkk : k = cutK true es := by rw [← hc]; exact (cut_end hk hg).symm
            rw [← hkk]
            clear hg hc
            cbv
            refine ⟨⟨so1⟩, _, _, con82_1 (leaf := true) ra ha la, ⟨?_⟩, ?_⟩
            · rfl
            cbv
            refine ⟨⟨so2⟩, _, _, con82_1 (leaf := true) rb hb lb, ⟨?_⟩, ?_⟩
            · kernel_rfl
            cbv
            refine ⟨⟨by kernel_rfl⟩, ?_⟩
            cbv
            refine ⟨⟨oi0⟩, _, _, con84 kl, ⟨?_⟩, ?_⟩
            · kernel_rfl
            cbv
            refine ⟨fun h => (by cases h), fun _ => ?_⟩
            cbv
            refine ⟨⟨by kernel_rfl⟩, ?_⟩
            cbv
            refine ⟨[(2000, some 9200), (2001, some 10000), (2002, some 10600)], [], ?_⟩
            cbv
            and_intros
            all_goals first | exact trivial | exact ⟨rfl⟩ | exact ⟨rfl, fun _ _ _ _ => rfl⟩ | exact ⟨by kernel_rfl⟩
        · have h4 : ¬ 2 * sizeL true (es.take k) < 2 + sizeL true es - 2 := of_decide_eq_false h4
          have hg : goesB true es k = false := by simp only [goesB, decide_eq_false h3, decide_eq_false (show ¬ 2 * sizeL true (es.take k) < sizeL true es by omega), Bool.false_and, Bool.or_false]
          have hkk : k = cutK true es := by rw [← hc]; exact (cut_end hk hg).symm
          rw [← hkk]
          clear hg hc
          cbv
          refine ⟨⟨so1⟩, _, _, con82_1 (leaf := true) ra ha la, ⟨?_⟩, ?_⟩
          · rfl
          cbv
          refine ⟨⟨so2⟩, _, _, con82_1 (leaf := true) rb hb lb, ⟨?_⟩, ?_⟩
          · kernel_rfl
          cbv
          refine ⟨⟨by kernel_rfl⟩, ?_⟩
          cbv
          refine ⟨⟨oi0⟩, _, _, con84 kl, ⟨?_⟩, ?_⟩
          · kernel_rfl
          cbv
          refine ⟨fun h => (by cases h), fun _ => ?_⟩
          cbv
          refine ⟨⟨by kernel_rfl⟩, ?_⟩
          cbv
          refine ⟨[(2000, some 9200), (2001, some 10000), (2002, some 10600)], [], ?_⟩
          cbv
          and_intros
          all_goals first | exact trivial | exact ⟨rfl⟩ | exact ⟨rfl, fun _ _ _ _ => rfl⟩ | exact ⟨by kernel_rfl⟩
end Go.Proofs.Ytmdfjipjkkjpcaa

/- Node laws: the law's own aids. -/
namespace Go.Proofs.Ytmdfjipjkkjpcaa
open Go.SX

def pairL : List (List UInt8) → List Ent
  | k :: v :: r => ⟨k, v, 0, 0⟩ :: pairL r
  | _ => []
def strRow (l : List (List UInt8)) : (Unit → Nat) → Nat → DV := fun i _ => .str fun _ => l.getD (i ()) default

theorem pair_next : ∀ (l : List (List UInt8)) (m : Nat), 2 * m + 1 < l.length → pairL (l.take (2 * (m + 1))) = pairL (l.take (2 * m)) ++ [⟨l.getD (2 * m) default, l.getD (2 * m + 1) default, 0, 0⟩]
  | [], m, h => by simp at h
  | [_], m, h => by simp at h
  | a :: b :: r, 0, h => by simp [pairL]
  | a :: b :: r, m + 1, h => by
      have ih := pair_next r m (by simp at h; omega)
      rw [show 2 * (m + 1 + 1) = 2 * (m + 1) + 2 by omega, show 2 * (m + 1) = 2 * m + 2 by omega]
      simp only [List.take_succ_cons, pairL]
      rw [show 2 * (m + 1) = 2 * m + 2 by omega] at ih
      rw [ih]
      simp [List.getD_eq_getElem?_getD, show 2 * m + 2 + 1 = (2 * m + 1) + 1 + 1 by omega]
theorem pair_end : ∀ (l : List (List UInt8)) (m : Nat), ¬ 2 * m + 1 < l.length → pairL (l.take (2 * m)) = pairL l
  | [], m, h => by simp
  | [a], 0, h => rfl
  | [a], m + 1, h => by rw [show 2 * (m + 1) = 2 * m + 1 + 1 by omega]; simp
  | a :: b :: r, 0, h => by simp at h
  | a :: b :: r, m + 1, h => by
      have ih := pair_end r m (by simp at h; omega)
      rw [show 2 * (m + 1) = 2 * m + 2 by omega]
      simp only [List.take_succ_cons, pairL]
      rw [ih]
theorem pair_len : ∀ (l : List (List UInt8)), (pairL l).length ≤ l.length
  | [] => by simp [pairL]
  | [_] => by simp [pairL]
  | a :: b :: r => by have := pair_len r; simp only [pairL, List.length_cons]; omega

set_option maxRecDepth 20000 in
set_option maxHeartbeats 4000000 in
theorem con46 {l : List (List UInt8)} (hs : ∀ s ∈ l, s.length < 1000000000000) (hl : l.length < 1000000000000) :
    Con 46 [.dat (.sl 1 (fun _ => l.length) (strRow l))] [] (.agg [.bool (.s fun _ => true), .own 2000]) [(2000, .arrD 1074 4 (fun _ => (pairL l).length) (lrow encE fun _ => pairL l))] := by
  refine con_of Try.func46 rfl rfl 31 _ rfl rfl rfl rfl ?_
  cbv
  refine ⟨Nat, [500], fun m => [(4, .int .i64 (.s fun _ => 2 * (m : Int)))],
    fun m => [(2, .cells 24 [.bool .f, .nil]), (3, .cells 24 [.bool .t, .own 500]), (500, .arrD 1074 4 (fun _ => (pairL (l.take (2 * m))).length) (lrow encE fun _ => pairL (l.take (2 * m))))],
    fun m => 2 * m ≤ l.length + 1, fun m => l.length + 2 - 2 * m, 0, [(500, none)], by omega, ⟨?_⟩, fun m hm => ?_⟩
  · cbv
    and_intros
    all_goals first | exact trivial | exact ⟨rfl⟩ | exact ⟨by kernel_rfl⟩
  · have hm : 2 * m ≤ l.length + 1 := hm
    have b1 : bound64 (2 * (m : Int) + 1) := by unfold bound64; omega
    have b2 : bound64 (2 * (m : Int) + 2) := by unfold bound64; omega
    cbv
    refine ⟨⟨b1⟩, ?_⟩
    cbv
    refine ⟨fun h1 => ?_, fun h1 => ?_⟩
    · have h1 : 2 * (m : Int) + 1 < (l.length : Int) := of_decide_eq_true h1
      have hlt : 2 * m + 1 < l.length := by omega
      have t1 : (2 * (m : Int)).toNat = 2 * m := by omega
      have t2 : (2 * (m : Int) + 1).toNat = 2 * m + 1 := by omega
      have o1 : indexObl (2 * (m : Int)) l.length := ⟨by omega, by omega⟩
      have o2 : indexObl (2 * (m : Int) + 1) l.length := ⟨by omega, by omega⟩
      have s1 : (l.getD (2 * (m : Int)).toNat default).length < 1000000000000 := by rw [t1]; exact hs _ (getD_mem (by omega))
      have s2 : (l.getD (2 * (m : Int) + 1).toNat default).length < 1000000000000 := by rw [t2]; exact hs _ (getD_mem (by omega))
      have q1 : lenOk (l.getD (2 * (m : Int)).toNat default).length 1 := by unfold lenOk; omega
      have q2 : lenOk (l.getD (2 * (m : Int) + 1).toNat default).length 1 := by unfold lenOk; omega
      have hap := app_ok (pairL (l.take (2 * m))) ⟨l.getD (2 * (m : Int)).toNat default, l.getD (2 * (m : Int) + 1).toNat default, 0, 0⟩
      have hpn := pair_next l m hlt
      have hpl := pair_len (l.take (2 * m))
      have hlo : lenOk ((pairL (l.take (2 * m))).length + 1) 56 := by
        simp only [List.length_take] at hpl
        unfold lenOk; omega
      have hra := row_app (es := pairL (l.take (2 * m))) (e := ⟨l.getD (2 * (m : Int)).toNat default, l.getD (2 * (m : Int) + 1).toNat default, 0, 0⟩) (new := pairL (l.take (2 * (m + 1)))) (by rw [hpn, t1, t2])
      have hmi : 2 * (m + 1) ≤ l.length + 1 := by omega
      have hms : l.length + 2 - 2 * (m + 1) < l.length + 2 - 2 * m := by omega
      have em : 2 * (m : Int) + 2 = 2 * ((m + 1 : Nat) : Int) := by omega
      clear h1 s1 s2 hpn hpl
      cbv
      refine ⟨⟨o1⟩, ⟨q1⟩, ⟨b1⟩, ⟨o2⟩, ⟨q2⟩, ?_⟩
      cbv
      refine ⟨⟨hlo, hap⟩, ?_⟩
      cbv
      refine ⟨⟨by kernel_rfl⟩, ?_⟩
      cbv
      refine ⟨⟨b2⟩, m + 1, [(500, some 28)], hmi, hms, ⟨?_⟩, ⟨?_⟩⟩
      · kernel_rfl
      · cbv
        and_intros
        all_goals first | exact trivial | exact ⟨rfl⟩ | exact ⟨em⟩ | exact ⟨hra⟩ | exact ⟨by kernel_rfl⟩
    · have h1 : ¬ 2 * (m : Int) + 1 < (l.length : Int) := of_decide_eq_false h1
      have e1 := row_le (pair_end l m (by omega))
      clear h1
      cbv
      refine ⟨[(2000, some 500)], [], ?_⟩
      cbv
      and_intros
      all_goals first | exact trivial | exact ⟨rfl⟩ | exact ⟨e1⟩ | exact ⟨by kernel_rfl⟩
end Go.Proofs.Ytmdfjipjkkjpcaa

/- Node laws: what is the same. -/
namespace Go.Proofs.Ytmdfjipjkkjpcaa
open Go.SX

deriving instance DecidableEq for Ent

theorem take_eq_next {α : Type} [Inhabited α] {a b : List α} {i : Nat} (ha : i < a.length) (hb : i < b.length) (h : a.take i = b.take i) (he : a.getD i default = b.getD i default) : a.take (i + 1) = b.take (i + 1) := by
  rw [getD_take a ha, getD_take b hb, h, he]
theorem take_eq_end {α : Type} {a b : List α} {i : Nat} (hl : a.length = b.length) (hi : ¬ i < a.length) (h : a.take i = b.take i) : a = b := by
  rwa [List.take_of_length_le (by omega), List.take_of_length_le (by omega)] at h
theorem ent_ext {x y : Ent} (h1 : x.page = y.page) (h2 : x.size = y.size) (h3 : x.key = y.key) (h4 : x.val = y.val) : x = y := by
  cases x; cases y
  cases h1; cases h2; cases h3; cases h4
  rfl
theorem u8_neq {x y : UInt8} (h : ¬ (x.toNat : Int) = (y.toNat : Int)) : x ≠ y := by
  intro e; subst e; exact h rfl
theorem u8_eq {x y : UInt8} (h : (x.toNat : Int) = (y.toNat : Int)) : x = y := UInt8.toNat.inj (by omega)

set_option maxRecDepth 20000 in
set_option maxHeartbeats 4000000 in
theorem con22 {a b : List UInt8} (hl : a.length < 1000000000000) : Con 22 [.dat (.bytes fun _ => a), .dat (.bytes fun _ => b)] [] (.bool (.s fun _ => decide (a = b))) [] := by
  refine con_of Try.func22 rfl rfl 26 _ rfl rfl rfl rfl ?_
  cbv
  refine ⟨fun h1 => ?_, fun h1 => ?_⟩
  · have h1 : ¬ (a.length : Int) = (b.length : Int) := of_decide_eq_false (bnot_t h1)
    have e1 : false = decide (a = b) := (decide_eq_false (by intro e; subst e; exact h1 rfl)).symm
    clear h1
    cbv
    refine ⟨[], [], ?_⟩
    cbv
    and_intros
    all_goals first | exact trivial | exact ⟨e1⟩ | exact ⟨rfl⟩
  · have h1 : (a.length : Int) = (b.length : Int) := of_decide_eq_true (bnot_f h1)
    have hab : a.length = b.length := by omega
    clear h1
    cbv
    refine ⟨Nat, [], fun i => [(5, .int .i64 (.s fun _ => (i : Int)))], fun i => [], fun i => i ≤ a.length ∧ a.take i = b.take i, fun i => a.length - i, 0, [], ⟨Nat.zero_le _, rfl⟩, ⟨?_⟩, fun i hx => ?_⟩
    · cbv
      and_intros
      all_goals first | exact trivial | exact ⟨rfl⟩ | exact ⟨by kernel_rfl⟩
    · obtain ⟨hi, ht⟩ : i ≤ a.length ∧ a.take i = b.take i := hx
      cbv
      refine ⟨fun h2 => ?_, fun h2 => ?_⟩
      · have h2 : (i : Int) < (a.length : Int) := of_decide_eq_true h2
        have hlt : i < a.length := by omega
        have hlb : i < b.length := by omega
        have o1 : indexObl (i : Int) a.length := ⟨by omega, h2⟩
        have o2 : indexObl (i : Int) b.length := ⟨by omega, by omega⟩
        have bi : bound64 ((i : Int) + 1) := by unfold bound64; omega
        have ei : (i : Int) + 1 = ((i + 1 : Nat) : Int) := by omega
        have hms : a.length - (i + 1) < a.length - i := by omega
        have nx := take_eq_next hlt hlb ht
        clear h2
        cbv
        refine ⟨⟨o1⟩, ⟨o2⟩, ⟨by kernel_rfl⟩, ?_⟩
        cbv
        refine ⟨fun h3 => ?_, fun h3 => ?_⟩
        · have h3 : ¬ (((a.getD i 0).toNat : Int) = ((b.getD i 0).toNat : Int)) := of_decide_eq_false (bnot_t h3)
          have e1 : false = decide (a = b) := (decide_eq_false (by intro e; subst e; exact h3 rfl)).symm
          clear h3
          cbv
          refine ⟨[], [], ?_⟩
          cbv
          and_intros
          all_goals first | exact trivial | exact ⟨e1⟩ | exact ⟨rfl⟩ | exact ⟨by kernel_rfl⟩
        · have h3 : ((a.getD i 0).toNat : Int) = ((b.getD i 0).toNat : Int) := of_decide_eq_true (bnot_f h3)
          have nx := nx (u8_eq h3)
          clear h3
          cbv
          refine ⟨⟨bi⟩, i + 1, [], ⟨hlt, nx⟩, hms, ⟨?_⟩, ⟨?_⟩⟩
          · kernel_rfl
          · cbv
            and_intros
            all_goals first | exact trivial | exact ⟨rfl⟩ | exact ⟨ei⟩ | exact ⟨by kernel_rfl⟩
      · have h2 : ¬ (i : Int) < (a.length : Int) := of_decide_eq_false h2
        have e1 : true = decide (a = b) := (decide_eq_true (take_eq_end hab (by omega) ht)).symm
        clear h2
        cbv
        refine ⟨[], [], ?_⟩
        cbv
        and_intros
        all_goals first | exact trivial | exact ⟨e1⟩ | exact ⟨rfl⟩ | exact ⟨by kernel_rfl⟩

set_option maxRecDepth 20000 in
set_option maxHeartbeats 4000000 in
theorem con76 {a b : List Ent} (hs : ∀ e ∈ a, SmallE e) (hl : a.length < 1000000000000) : Con 76 [.dat (entsDV a), .dat (entsDV b)] [] (.bool (.s fun _ => decide (a = b))) [] := by
  refine con_of Try.func76 rfl rfl 69 _ rfl rfl rfl rfl ?_
  cbv
  refine ⟨fun h1 => ?_, fun h1 => ?_⟩
  · have h1 : ¬ (a.length : Int) = (b.length : Int) := of_decide_eq_false (bnot_t h1)
    have e1 : false = decide (a = b) := (decide_eq_false (by intro e; subst e; exact h1 rfl)).symm
    clear h1
    cbv
    refine ⟨[], [], ?_⟩
    cbv
    and_intros
    all_goals first | exact trivial | exact ⟨e1⟩ | exact ⟨rfl⟩
  · have h1 : (a.length : Int) = (b.length : Int) := of_decide_eq_true (bnot_f h1)
    have hab : a.length = b.length := by omega
    clear h1
    cbv
    refine ⟨Nat, [], fun i => [(5, .int .i64 (.s fun _ => (i : Int)))], fun i => [], fun i => i ≤ a.length ∧ a.take i = b.take i, fun i => a.length - i, 0, [], ⟨Nat.zero_le _, rfl⟩, ⟨?_⟩, fun i hx => ?_⟩
    · cbv
      and_intros
      all_goals first | exact trivial | exact ⟨rfl⟩ | exact ⟨by kernel_rfl⟩
    · obtain ⟨hi, ht⟩ : i ≤ a.length ∧ a.take i = b.take i := hx
      cbv
      refine ⟨fun h2 => ?_, fun h2 => ?_⟩
      · have h2 : (i : Int) < (a.length : Int) := of_decide_eq_true h2
        have hlt : i < a.length := by omega
        have hlb : i < b.length := by omega
        have o1 : indexObl (i : Int) a.length := ⟨by omega, h2⟩
        have o2 : indexObl (i : Int) b.length := ⟨by omega, by omega⟩
        have bi : bound64 ((i : Int) + 1) := by unfold bound64; omega
        have ei : (i : Int) + 1 = ((i + 1 : Nat) : Int) := by omega
        have hms : a.length - (i + 1) < a.length - i := by omega
        have nx := take_eq_next hlt hlb ht
        have hsi := hs _ (getD_mem hlt)
        have bad : ∀ (f : Ent → Prop), f (a.getD i default) → ¬ f (b.getD i default) → false = decide (a = b) := fun f h h' => (decide_eq_false (by intro e; subst e; exact h' h)).symm
        have gd : (a.getD i default).page = (b.getD i default).page → (a.getD i default).size = (b.getD i default).size → (a.getD i default).key = (b.getD i default).key → (a.getD i default).val = (b.getD i default).val → a.getD i default = b.getD i default := ent_ext
        clear h2
        cbv
        refine ⟨⟨o1⟩, ⟨o2⟩, ?_⟩
        cbv
        refine ⟨fun h3 => ?_, fun h3 => ?_⟩
        · have h3 : ¬ ((a.getD i default).page = (b.getD i default).page) := of_decide_eq_false (bnot_t h3)
          have e1 := bad (fun e => (a.getD i default).page = e.page) rfl h3
          clear h3
          cbv
          refine ⟨⟨by kernel_rfl⟩, ?_⟩
          cbv
          refine ⟨[], [], ?_⟩
          cbv
          and_intros
          all_goals first | exact trivial | exact ⟨e1⟩ | exact ⟨rfl⟩ | exact ⟨by kernel_rfl⟩
        · have h3 : (a.getD i default).page = (b.getD i default).page := of_decide_eq_true (bnot_f h3)
          cbv
          refine ⟨⟨o1⟩, ⟨o2⟩, ?_⟩
          cbv
          refine ⟨fun h4 => ?_, fun h4 => ?_⟩
          · have h4 : ¬ ((a.getD i default).size = (b.getD i default).size) := of_decide_eq_false (bnot_t h4)
            have e1 := bad (fun e => (a.getD i default).size = e.size) rfl h4
            clear h4
            cbv
            refine ⟨⟨by kernel_rfl⟩, ?_⟩
            cbv
            refine ⟨[], [], ?_⟩
            cbv
            and_intros
            all_goals first | exact trivial | exact ⟨e1⟩ | exact ⟨rfl⟩ | exact ⟨by kernel_rfl⟩
          · have h4 : (a.getD i default).size = (b.getD i default).size := of_decide_eq_true (bnot_f h4)
            cbv
            refine ⟨⟨o1⟩, ⟨o2⟩, _, _, con22 hsi.1, ⟨?_⟩, ?_⟩
            · rfl
            cbv
            refine ⟨fun h5 => ?_, fun h5 => ?_⟩
            · have h5 : ¬ ((a.getD i default).key = (b.getD i default).key) := of_decide_eq_false (bnot_t h5)
              have e1 := bad (fun e => (a.getD i default).key = e.key) rfl h5
              clear h5
              cbv
              refine ⟨⟨by kernel_rfl⟩, ?_⟩
              cbv
              refine ⟨[], [], ?_⟩
              cbv
              and_intros
              all_goals first | exact trivial | exact ⟨e1⟩ | exact ⟨rfl⟩ | exact ⟨by kernel_rfl⟩
            · have h5 : (a.getD i default).key = (b.getD i default).key := of_decide_eq_true (bnot_f h5)
              cbv
              refine ⟨⟨o1⟩, ⟨o2⟩, _, _, con22 hsi.2, ⟨?_⟩, ?_⟩
              · rfl
              cbv
              refine ⟨⟨by kernel_rfl⟩, ?_⟩
              cbv
              refine ⟨fun h6 => ?_, fun h6 => ?_⟩
              · have h6 : ¬ ((a.getD i default).val = (b.getD i default).val) := of_decide_eq_false (bnot_t h6)
                have e1 := bad (fun e => (a.getD i default).val = e.val) rfl h6
                clear h6
                cbv
                refine ⟨[], [], ?_⟩
                cbv
                and_intros
                all_goals first | exact trivial | exact ⟨e1⟩ | exact ⟨rfl⟩ | exact ⟨by kernel_rfl⟩
              · have h6 : (a.getD i default).val = (b.getD i default).val := of_decide_eq_true (bnot_f h6)
                have nx := nx (gd h3 h4 h5 h6)
                cbv
                refine ⟨⟨bi⟩, i + 1, [], ⟨hlt, nx⟩, hms, ⟨?_⟩, ⟨?_⟩⟩
                · kernel_rfl
                · cbv
                  and_intros
                  all_goals first | exact trivial | exact ⟨rfl⟩ | exact ⟨ei⟩ | exact ⟨by kernel_rfl⟩
      · have h2 : ¬ (i : Int) < (a.length : Int) := of_decide_eq_false h2
        have e1 : true = decide (a = b) := (decide_eq_true (take_eq_end hab (by omega) ht)).symm
        clear h2
        cbv
        refine ⟨[], [], ?_⟩
        cbv
        and_intros
        all_goals first | exact trivial | exact ⟨e1⟩ | exact ⟨rfl⟩ | exact ⟨by kernel_rfl⟩

def sameB (la lb : Bool) (a b : List Ent) : Bool := (la == lb) && decide (a = b)

theorem con30 {la lb : Bool} {a b : List Ent} (hs : ∀ e ∈ a, SmallE e) (hl : a.length < 1000000000000) : Con 30 [nodeSV la a, nodeSV lb b] [] (.bool (.s fun _ => sameB la lb a b)) [] := by
  refine con_of Try.func30 rfl rfl 17 _ rfl rfl rfl rfl ?_
  cbv
  refine ⟨fun h1 => ?_, fun h1 => ?_⟩
  · have h1 : (la == lb) = true := h1
    have e1 : decide (a = b) = sameB la lb a b := by unfold sameB; rw [h1, Bool.true_and]
    cbv
    refine ⟨_, _, con76 hs hl, ⟨?_⟩, ?_⟩
    · rfl
    cbv
    refine ⟨[], [], ?_⟩
    cbv
    and_intros
    all_goals first | exact trivial | exact ⟨e1⟩ | exact ⟨rfl⟩ | exact ⟨by kernel_rfl⟩
  · have h1 : (la == lb) = false := h1
    have e1 : false = sameB la lb a b := by unfold sameB; rw [h1, Bool.false_and]
    cbv
    refine ⟨[], [], ?_⟩
    cbv
    and_intros
    all_goals first | exact trivial | exact ⟨e1⟩ | exact ⟨rfl⟩ | exact ⟨by kernel_rfl⟩
end Go.Proofs.Ytmdfjipjkkjpcaa

/- Node laws: the deferred closure does nothing where no panic is. -/
namespace Go.Proofs.Ytmdfjipjkkjpcaa
open Go.SX

theorem idle91 : Idle Try.prog 91 2 := by
  intro cv w hcv
  refine ⟨run_callFunc ⟨_, _, Try.func91, rfl, rfl⟩ _ _, ?_⟩
  match cv, hcv with
  | [p, q], _ =>
    refine callsD_of_wpS Try.func91 rfl fun c₀ cs hu => ?_
    apply wpS_seq
    apply wpS_region
    simp [wpOpsS, go_sem, recoverD, hu, Exit.thenS]
    have hneq : ∀ w, (binOp .neq 20 .nilIface .nilIface).run Try.prog w = .ok (.bool false) w := fun _ => by kernel_rfl
    apply wpS_seq
    apply wpS_region
    simp [wpOpsS, go_sem, Exit.thenS, hneq]
    refine wpS_cond (t := false) (by simp [Act.eval, Array.replicate]) ?_
    simp only [Bool.false_eq_true, if_false]
    refine wpS_of_wp (wp_skip ?_)
    cases c₀
    simp_all [bodyPostS, results, Exit.thenS]
end Go.Proofs.Ytmdfjipjkkjpcaa

/- Node laws: the reader, where it does not give up. -/
namespace Go.Proofs.Ytmdfjipjkkjpcaa
open Go.SX

set_option maxRecDepth 20000 in
set_option maxHeartbeats 4000000 in
theorem con93 {b : List UInt8} {n : Nat} (hn : n ≤ b.length) (hb : b.length < 1000000000000) :
    Con 93 [.loc 1000 0, .int .i64 (.s fun _ => (n : Int))] [(1000, .cells 172 [.dat (.bytes fun _ => b)])] (.own 2000) [(1000, .cells 172 [.dat (.bytes fun _ => b.drop n)]), (2000, .barr 5 fun _ => b.take n)] := by
  refine con_of Try.func93 rfl rfl 32 _ rfl rfl rfl rfl ?_
  have so1 : sliceObl 0 (n : Int) b.length := ⟨by omega, by omega, by omega⟩
  have so2 : sliceObl (n : Int) (b.length : Int) b.length := ⟨by omega, by omega, by omega⟩
  have hng : ¬ (b.length : Int) < (n : Int) := by omega
  have e1 : (b.drop n).take ((b.length : Int).toNat - (n : Int).toNat) = b.drop n := by rw [List.take_of_length_le]; simp
  have e2 : (b.drop 0).take ((n : Int).toNat - 0) = b.take n := by simp
  have l1 : ((b.drop 0).take ((n : Int).toNat - 0)).length < 1000000000000 := by rw [e2]; simp only [List.length_take]; omega
  cbv
  refine ⟨fun h1 => ?_, fun _ => ?_⟩
  · have h1 : (b.length : Int) < (n : Int) := of_decide_eq_true h1
    exfalso
    exact hng h1
  · cbv
    refine ⟨⟨so1⟩, ⟨so2⟩, _, _, con84 l1, ⟨?_⟩, ?_⟩
    · rfl
    cbv
    refine ⟨[(2000, some 6100)], [], ?_⟩
    cbv
    and_intros
    all_goals first | exact trivial | exact ⟨rfl⟩ | exact ⟨e1⟩ | exact ⟨e2⟩ | exact ⟨by kernel_rfl⟩

def numN : List UInt8 → Nat
  | [] => 0
  | c :: r => c.toNat + 256 * numN r
theorem numN_app (c : UInt8) : ∀ (l : List UInt8), numN (l ++ [c]) = numN l + c.toNat * 256 ^ l.length
  | [] => by simp [numN]
  | x :: l => by
      have := numN_app c l
      simp only [List.cons_append, numN, this, List.length_cons, Nat.pow_succ]
      have : c.toNat * (256 ^ l.length * 256) = 256 * (c.toNat * 256 ^ l.length) := by rw [← Nat.mul_assoc]; exact Nat.mul_comm _ _
      rw [this]; omega
theorem numN_lt : ∀ (l : List UInt8), numN l < 256 ^ l.length
  | [] => by simp [numN]
  | x :: l => by
      have := numN_lt l
      have := x.toNat_lt
      simp only [numN, List.length_cons, Nat.pow_succ]
      omega
theorem or_num {x c i : Nat} (hx : x < 256 ^ i) (hc : c < 256) (hi : i < 4) :
    IntKind.u32.wrap ((BitVec.ofInt IntKind.u32.bits (x : Int) ||| BitVec.ofInt IntKind.u32.bits (IntKind.u32.wrap (IntKind.u32.wrap (c : Int) * 2 ^ (min (8 * (i : Int)).toNat IntKind.u32.bits)))).toNat : Int) = ((x + c * 256 ^ i : Nat) : Int) := by
  have e8 : (8 * (i : Int)).toNat = 8 * i := by omega
  have em : min (8 * i) IntKind.u32.bits = 8 * i := by simp [IntKind.bits]; omega
  have ec : IntKind.u32.wrap (c : Int) = (c : Int) := by rw [IntKind.wrap_u32]; omega
  have ep : (2 : Nat) ^ (8 * i) = 256 ^ i := by rw [Nat.pow_mul]
  have hb : c * 256 ^ i < 4294967296 := by
    have : i = 0 ∨ i = 1 ∨ i = 2 ∨ i = 3 := by omega
    rcases this with rfl | rfl | rfl | rfl <;> simp <;> omega
  have hx4 : x < 4294967296 := by
    have : i = 0 ∨ i = 1 ∨ i = 2 ∨ i = 3 := by omega
    rcases this with rfl | rfl | rfl | rfl <;> simp at hx <;> omega
  have hs : x + c * 256 ^ i < 4294967296 := by
    have : i = 0 ∨ i = 1 ∨ i = 2 ∨ i = 3 := by omega
    rcases this with rfl | rfl | rfl | rfl <;> simp at hx ⊢ <;> omega
  have ew : IntKind.u32.wrap ((c : Int) * 2 ^ (8 * i)) = ((c * 256 ^ i : Nat) : Int) := by
    have : (c : Int) * 2 ^ (8 * i) = ((c * 256 ^ i : Nat) : Int) := by rw [← ep]; push_cast; rfl
    rw [this, IntKind.wrap_u32]; omega
  rw [e8, em, ec, ew, BitVec.toNat_or]
  have t1 : (BitVec.ofInt IntKind.u32.bits (x : Int)).toNat = x := by
    rw [BitVec.ofInt_natCast, BitVec.toNat_ofNat]; exact Nat.mod_eq_of_lt (by simpa [IntKind.bits] using hx4)
  have t2 : (BitVec.ofInt IntKind.u32.bits ((c * 256 ^ i : Nat) : Int)).toNat = c * 256 ^ i := by
    rw [BitVec.ofInt_natCast, BitVec.toNat_ofNat]; exact Nat.mod_eq_of_lt (by simpa [IntKind.bits] using hb)
  rw [t1, t2]
  have h3 : x ||| c * 256 ^ i = x + c * 256 ^ i := by
    have := Nat.two_pow_add_eq_or_of_lt (i := 8 * i) (b := x) (by rw [ep]; exact hx) c
    rw [ep, Nat.mul_comm] at this
    rw [Nat.or_comm, ← this, Nat.add_comm]
  rw [h3, IntKind.wrap_u32]
  omega

set_option maxRecDepth 20000 in
set_option maxHeartbeats 4000000 in
theorem con92s {b : List UInt8} {m : Nat} (hm : m ≤ 4) (hn : m ≤ b.length) (hb : b.length < 1000000000000) :
    Con 92 [.loc 1000 0, .int .i64 (.s fun _ => (m : Int))] [(1000, .cells 172 [.dat (.bytes fun _ => b)])] (.int .u32 (.s fun _ => (numN (b.take m) : Int))) [(1000, .cells 172 [.dat (.bytes fun _ => b.drop m)])] := by
  obtain ⟨T, hT⟩ : ∃ T, T = b.take m := ⟨_, rfl⟩
  have hTl : T.length = m := by rw [hT, List.length_take]; omega
  have ca := con93 hn hb
  rw [← hT] at ca ⊢
  refine con_of Try.func92 rfl rfl 26 _ rfl rfl rfl rfl ?_
  cbv
  refine ⟨_, _, ca, ⟨?_⟩, ?_⟩
  · rfl
  cbv
  refine ⟨Nat, [], fun i => [(5, .int .u32 (.s fun _ => (numN (T.take i) : Int))), (12, .int .i64 (.s fun _ => (i : Int)))], fun _ => [(1000, .cells 172 [.dat (.bytes fun _ => b.drop m)]), (4000, .barr 5 fun _ => T)],
    fun i => i ≤ T.length, fun i => T.length - i, 0, [], Nat.zero_le _, ⟨?_⟩, fun i hi => ?_⟩
  · cbv
    and_intros
    all_goals first | exact trivial | exact ⟨rfl⟩ | exact ⟨by kernel_rfl⟩
  · have hi : i ≤ T.length := hi
    cbv
    refine ⟨fun h1 => ?_, fun h1 => ?_⟩
    · have h1 : (i : Int) < (T.length : Int) := of_decide_eq_true h1
      have hlt : i < T.length := by omega
      have o1 : indexObl (i : Int) T.length := ⟨by omega, h1⟩
      have bi : bound64 ((i : Int) + 1) := by unfold bound64; omega
      have b8 : bound64 (8 * (i : Int)) := by unfold bound64; omega
      have p8 : 0 ≤ 8 * (i : Int) := by omega
      have ei : (i : Int) + 1 = ((i + 1 : Nat) : Int) := by omega
      have hms : T.length - (i + 1) < T.length - i := by omega
      have hor := or_num (x := numN (T.take i)) (c := (T.getD i default).toNat) (i := i) (by have := numN_lt (T.take i); rw [List.length_take, Nat.min_eq_left (by omega)] at this; exact this) (UInt8.toNat_lt _) (by omega)
      have hnx : numN (T.take (i + 1)) = numN (T.take i) + (T.getD i default).toNat * 256 ^ i := by
        rw [getD_take T hlt, numN_app, List.length_take, Nat.min_eq_left (by omega)]
      rw [← hnx] at hor
      clear h1 hnx
      cbv
      refine ⟨⟨o1⟩, ?_⟩
      cbv
      refine ⟨⟨b8⟩, ⟨p8⟩, ⟨bi⟩, i + 1, [], hlt, hms, ⟨?_⟩, ⟨?_⟩⟩
      · kernel_rfl
      · cbv
        and_intros
        all_goals first | exact trivial | exact ⟨rfl⟩ | exact ⟨hor⟩ | exact ⟨ei⟩ | exact ⟨by kernel_rfl⟩
    · have h1 : ¬ (i : Int) < (T.length : Int) := of_decide_eq_false h1
      have e1 : (numN (T.take i) : Int) = (numN T : Int) := by rw [List.take_of_length_le (by omega)]
      clear h1
      cbv
      refine ⟨[], [], ?_⟩
      cbv
      and_intros
      all_goals first | exact trivial | exact ⟨rfl⟩ | exact ⟨e1⟩ | exact ⟨by kernel_rfl⟩

theorem con92 {b : List UInt8} {m : Nat} (hm : m ≤ 4) (hn : m ≤ b.length) (hb : b.length < 1000000000000) :
    Con 92 [.loc 1000 0, .int .i64 (.l (m : Int))] [(1000, .cells 172 [.dat (.bytes fun _ => b)])] (.int .u32 (.s fun _ => (numN (b.take m) : Int))) [(1000, .cells 172 [.dat (.bytes fun _ => b.drop m)])] :=
  Con.lit (a := [.loc 1000 0]) (con92s hm hn hb)
end Go.Proofs.Ytmdfjipjkkjpcaa

/- Node laws: reading a node that is one. -/
namespace Go.Proofs.Ytmdfjipjkkjpcaa
open Go.SX

def entP (leaf : Bool) (b : List UInt8) : Option (Ent × List UInt8) :=
  if 1 ≤ b.length ∧ numN (b.take 1) ≤ (b.drop 1).length then
    let key := (b.drop 1).take (numN (b.take 1))
    let c := (b.drop 1).drop (numN (b.take 1))
    if leaf then
      if 1 ≤ c.length then
        if numN (c.take 1) = 255 then
          if 4 ≤ (c.drop 1).length ∧ 4 ≤ ((c.drop 1).drop 4).length then some (⟨key, [], numN (((c.drop 1).drop 4).take 4), numN ((c.drop 1).take 4)⟩, ((c.drop 1).drop 4).drop 4) else none
        else if numN (c.take 1) ≤ (c.drop 1).length then some (⟨key, (c.drop 1).take (numN (c.take 1)), 0, 0⟩, (c.drop 1).drop (numN (c.take 1))) else none
      else none
    else if 4 ≤ c.length then some (⟨key, [], numN (c.take 4), 0⟩, c.drop 4) else none
  else none
def entsP (leaf : Bool) : Nat → List UInt8 → Option (List Ent)
  | 0, _ => some []
  | n + 1, b => match entP leaf b with
    | none => none
    | some (e, c) => match entsP leaf n c with
      | none => none
      | some es => some (e :: es)
def readP (leaf : Bool) (b : List UInt8) : Option (List Ent) := if 2 ≤ b.length then entsP leaf (numN (b.take 2)) (b.drop 2) else none

theorem entP_key {leaf : Bool} {b : List UInt8} {e : Ent} {r : List UInt8} (h : entP leaf b = some (e, r)) : 1 ≤ b.length ∧ numN (b.take 1) ≤ (b.drop 1).length := by
  unfold entP at h
  split at h
  · assumption
  · cases h
theorem entP_branch {leaf : Bool} {b : List UInt8} {e : Ent} {r : List UInt8} (hl : leaf = false) (h : entP leaf b = some (e, r)) :
    4 ≤ ((b.drop 1).drop (numN (b.take 1))).length ∧ e = ⟨(b.drop 1).take (numN (b.take 1)), [], numN (((b.drop 1).drop (numN (b.take 1))).take 4), 0⟩ ∧ r = ((b.drop 1).drop (numN (b.take 1))).drop 4 := by
  subst hl
  unfold entP at h
  split at h
  · simp only [Bool.false_eq_true, if_false] at h
    split at h
    · simp only [Option.some.injEq, Prod.mk.injEq] at h
      exact ⟨by assumption, h.1.symm, h.2.symm⟩
    · cases h
  · cases h
theorem entP_leaf {leaf : Bool} {b : List UInt8} {e : Ent} {r : List UInt8} (hl : leaf = true) (h : entP leaf b = some (e, r)) :
    1 ≤ ((b.drop 1).drop (numN (b.take 1))).length ∧ entP true b = some (e, r) := by
  subst hl
  refine ⟨?_, h⟩
  unfold entP at h
  split at h
  · simp only [if_true] at h
    split at h
    · assumption
    · cases h
  · cases h
theorem entP_big {b : List UInt8} {e : Ent} {r : List UInt8} (h255 : numN (((b.drop 1).drop (numN (b.take 1))).take 1) = 255) (h : entP true b = some (e, r)) :
    4 ≤ (((b.drop 1).drop (numN (b.take 1))).drop 1).length ∧ 4 ≤ ((((b.drop 1).drop (numN (b.take 1))).drop 1).drop 4).length ∧
      e = ⟨(b.drop 1).take (numN (b.take 1)), [], numN (((((b.drop 1).drop (numN (b.take 1))).drop 1).drop 4).take 4), numN ((((b.drop 1).drop (numN (b.take 1))).drop 1).take 4)⟩ ∧ r = ((((b.drop 1).drop (numN (b.take 1))).drop 1).drop 4).drop 4 := by
  unfold entP at h
  split at h
  · simp only [if_true, h255] at h
    split at h
    · split at h
      · rename_i hq
        simp only [Option.some.injEq, Prod.mk.injEq] at h
        exact ⟨hq.1, hq.2, h.1.symm, h.2.symm⟩
      · cases h
    · cases h
  · cases h
theorem entP_val {b : List UInt8} {e : Ent} {r : List UInt8} (h255 : ¬ numN (((b.drop 1).drop (numN (b.take 1))).take 1) = 255) (h : entP true b = some (e, r)) :
    numN (((b.drop 1).drop (numN (b.take 1))).take 1) ≤ (((b.drop 1).drop (numN (b.take 1))).drop 1).length ∧
      e = ⟨(b.drop 1).take (numN (b.take 1)), (((b.drop 1).drop (numN (b.take 1))).drop 1).take (numN (((b.drop 1).drop (numN (b.take 1))).take 1)), 0, 0⟩ ∧
      r = (((b.drop 1).drop (numN (b.take 1))).drop 1).drop (numN (((b.drop 1).drop (numN (b.take 1))).take 1)) := by
  unfold entP at h
  split at h
  · simp only [if_true, h255, if_false] at h
    split at h
    · split at h
      · simp only [Option.some.injEq, Prod.mk.injEq] at h
        exact ⟨by assumption, h.1.symm, h.2.symm⟩
      · cases h
    · cases h
  · cases h
theorem entsP_next {leaf : Bool} {n : Nat} {b : List UInt8} {es : List Ent} (h : entsP leaf (n + 1) b = some es) : ∃ e c tl, entP leaf b = some (e, c) ∧ entsP leaf n c = some tl ∧ es = e :: tl := by
  simp only [entsP] at h
  cases he : entP leaf b with
  | none => rw [he] at h; cases h
  | some x =>
    obtain ⟨e, c⟩ := x
    rw [he] at h
    simp only at h
    cases ht : entsP leaf n c with
    | none => rw [ht] at h; cases h
    | some tl => rw [ht] at h; simp only [Option.some.injEq] at h; exact ⟨e, c, tl, rfl, ht, h.symm⟩
theorem num1_lt (b : List UInt8) : numN (b.take 1) < 256 := by
  have := numN_lt (b.take 1)
  have h : (b.take 1).length ≤ 1 := by simp; omega
  exact Nat.lt_of_lt_of_le this (Nat.le_trans (Nat.pow_le_pow_right (by decide) h) (by decide))
theorem num2_lt (b : List UInt8) : numN (b.take 2) < 65536 := by
  have := numN_lt (b.take 2)
  have h : (b.take 2).length ≤ 2 := by simp; omega
  exact Nat.lt_of_lt_of_le this (Nat.le_trans (Nat.pow_le_pow_right (by decide) h) (by decide))
theorem wrap_small {x : Nat} (h : x < 65536) : IntKind.i64.wrap (x : Int) = (x : Int) := by rw [IntKind.wrap_i64]; omega
theorem con93z {b : List UInt8} {n : Nat} {z : Int} (hz : z = (n : Int)) (hn : n ≤ b.length) (hb : b.length < 1000000000000) :
    Con 93 [.loc 1000 0, .int .i64 (.s fun _ => z)] [(1000, .cells 172 [.dat (.bytes fun _ => b)])] (.own 2000) [(1000, .cells 172 [.dat (.bytes fun _ => b.drop n)]), (2000, .barr 5 fun _ => b.take n)] := by
  subst hz; exact con93 hn hb

set_option maxRecDepth 20000 in
set_option maxHeartbeats 4000000 in
theorem con72 {leaf : Bool} {b : List UInt8} {ES : List Ent} (hp : readP leaf b = some ES) (hb : b.length < 1000000000000) :
    Con 72 [.bool (.s fun _ => leaf), .dat (.bytes fun _ => b)] [] (.tup [.agg [.bool (.s fun _ => leaf), .own 2000], .bool (.s fun _ => true)])
      [(2000, .arrD 74 4 (fun _ => ES.length) (lrow encE fun _ => ES))] := by
  have h2 : 2 ≤ b.length := by
    unfold readP at hp
    split at hp
    · assumption
    · cases hp
  have hp : entsP leaf (numN (b.take 2)) (b.drop 2) = some ES := by unfold readP at hp; rwa [if_pos h2] at hp
  obtain ⟨N, hN⟩ : ∃ N, N = numN (b.take 2) := ⟨_, rfl⟩
  have hN2 := num2_lt b
  have ca := con92 (m := 2) (by decide) h2 hb
  rw [← hN] at hp hN2 ca
  obtain ⟨B2, hB2⟩ : ∃ B2, B2 = b.drop 2 := ⟨_, rfl⟩
  have hbl : B2.length < 1000000000000 := by rw [hB2, List.length_drop]; omega
  rw [← hB2] at hp ca
  have hi0 : 0 ≤ N ∧ B2.length < 1000000000000 ∧ ([] : List Ent).length = 0 ∧ (∃ tl, entsP leaf (N - 0) B2 = some tl ∧ [] ++ tl = ES) := ⟨Nat.zero_le _, hbl, rfl, ES, hp, rfl⟩
  refine ⟨specX_of (spec_of_vc_defer (E := E) (S := Con) (fn := Try.f72) eok rawOk mixed (fun _ _ _ _ _ h => h.spec) Try.func72 rfl rfl rfl rfl rfl rfl rfl rfl idle91 rfl rfl ?_) ⟨_, _, Try.func72, rfl, rfl⟩ (by decide)⟩
  cbv
  refine ⟨_, _, ca, ⟨?_⟩, ?_⟩
  · kernel_rfl
  cbv
  refine ⟨Nat × List UInt8 × List Ent, [500], fun x => [(17, .int .u32 (.s fun _ => (x.1 : Int)))],
    fun x => [(4, .cells 24 [.bool (.s fun _ => leaf), .own 500]), (5, .cells 4 [.bool .f]), (14, .cells 172 [.dat (.bytes fun _ => x.2.1)]), (500, .arrD 74 4 (fun _ => x.2.2.length) (lrow encE fun _ => x.2.2))],
    fun x => x.1 ≤ N ∧ x.2.1.length < 1000000000000 ∧ x.2.2.length = x.1 ∧ (∃ tl, entsP leaf (N - x.1) x.2.1 = some tl ∧ x.2.2 ++ tl = ES), fun x => N - x.1, (0, B2, []), [(500, none)], hi0, ⟨?_⟩, fun x hx => ?_⟩
  · cbv
    and_intros
    all_goals first | exact trivial | exact ⟨rfl⟩ | exact ⟨by kernel_rfl⟩
  · obtain ⟨i, rb, acc⟩ := x
    obtain ⟨hi, hrl, hal, hx⟩ : i ≤ N ∧ rb.length < 1000000000000 ∧ acc.length = i ∧ (∃ tl, entsP leaf (N - i) rb = some tl ∧ acc ++ tl = ES) := hx
    cbv
    refine ⟨fun h1 => ?_, fun h1 => ?_⟩
    · have h1 : (i : Int) < (N : Int) := of_decide_eq_true h1
      have hlt : i < N := by omega
      obtain ⟨tl0, hx1, hES⟩ := hx
      rw [show N - i = (N - (i + 1)) + 1 by omega] at hx1
      obtain ⟨e, rb', tl, he2, htl, rfl⟩ := entsP_next hx1
      obtain ⟨p1, p2⟩ := entP_key he2
      have l1 : (rb.drop 1).length < 1000000000000 := by simp only [List.length_drop]; omega
      have l2 : ((rb.drop 1).drop (numN (rb.take 1))).length < 1000000000000 := by simp only [List.length_drop]; omega
      have l3 : (((rb.drop 1).drop (numN (rb.take 1))).drop 1).length < 1000000000000 := by simp only [List.length_drop]; omega
      have l4 : ((((rb.drop 1).drop (numN (rb.take 1))).drop 1).drop 4).length < 1000000000000 := by simp only [List.length_drop]; omega
      have hz := wrap_small (x := numN (rb.take 1)) (by have := num1_lt rb; omega)
      have hms : N - (i + 1) < N - i := by omega
      have hwi : IntKind.u32.wrap ((i : Int) + 1) = ((i + 1 : Nat) : Int) := by rw [IntKind.wrap_u32]; omega
      clear h1 hx1
      cbv
      refine ⟨_, _, con92 (m := 1) (by decide) p1 hrl, ⟨?_⟩, ?_⟩
      · kernel_rfl
      cbv
      refine ⟨_, _, con93z hz p2 l1, ⟨?_⟩, ?_⟩
      · kernel_rfl
      cbv
      refine ⟨fun h3 => ?_, fun h3 => ?_⟩
      · have h3 : leaf = false := bnot_t h3
        obtain ⟨q4, he, hr⟩ := entP_branch h3 he2
        have hrb' : rb' = ((rb.drop 1).drop (numN (rb.take 1))).drop 4 := hr
        obtain ⟨acc', hacc⟩ : ∃ a, a = acc ++ [e] := ⟨_, rfl⟩
        have hinv : i + 1 ≤ N ∧ rb'.length < 1000000000000 ∧ acc'.length = i + 1 ∧ (∃ tl, entsP leaf (N - (i + 1)) rb' = some tl ∧ acc' ++ tl = ES) := ⟨hlt, by simp only [hrb', List.length_drop]; omega, by rw [hacc]; simp; omega, tl, htl, by rw [hacc, List.append_assoc]; exact hES⟩
        have hap := app_ok acc e
        have hra := row_app hacc.symm
        have hlo : lenOk (acc.length + 1) 56 := by unfold lenOk; omega
        clear hES htl he2
        rw [he] at hap hra
        cbv
        refine ⟨_, _, con92 (m := 4) (by decide) q4 l2, ⟨?_⟩, ?_⟩
        · kernel_rfl
        cbv
        refine ⟨⟨hlo, hap⟩, ?_⟩
        cbv
        refine ⟨(i + 1, rb', acc'), [(500, some 49)], hinv, hms, ⟨?_⟩, ⟨?_⟩⟩
        · kernel_rfl
        · cbv
          and_intros
          all_goals first | exact trivial | exact ⟨rfl⟩ | exact ⟨hwi⟩ | exact ⟨hr.symm⟩ | exact ⟨hra⟩ | exact ⟨by kernel_rfl⟩
      · have h3 : leaf = true := bnot_f h3
        obtain ⟨q1, he3⟩ := entP_leaf h3 he2
        cbv
        refine ⟨_, _, con92 (m := 1) (by decide) q1 l2, ⟨?_⟩, ?_⟩
        · kernel_rfl
        cbv
        refine ⟨fun h4 => ?_, fun h4 => ?_⟩
        · have h4 : (numN (((rb.drop 1).drop (numN (rb.take 1))).take 1) : Int) = 255 := of_decide_eq_true h4
          obtain ⟨q4, q5, he, hr⟩ := entP_big (by omega) he3
          have hrb' := hr
          obtain ⟨acc', hacc⟩ : ∃ a, a = acc ++ [e] := ⟨_, rfl⟩
          have hinv : i + 1 ≤ N ∧ rb'.length < 1000000000000 ∧ acc'.length = i + 1 ∧ (∃ tl, entsP leaf (N - (i + 1)) rb' = some tl ∧ acc' ++ tl = ES) := ⟨hlt, by simp only [hrb', List.length_drop]; omega, by rw [hacc]; simp; omega, tl, htl, by rw [hacc, List.append_assoc]; exact hES⟩
          have hap := app_ok acc e
          have hra := row_app hacc.symm
          have hlo : lenOk (acc.length + 1) 56 := by unfold lenOk; omega
          clear hES htl he2 he3
          rw [he] at hap hra
          cbv
          refine ⟨_, _, con92 (m := 4) (by decide) q4 l3, ⟨?_⟩, ?_⟩
          · kernel_rfl
          cbv
          refine ⟨_, _, con92 (m := 4) (by decide) q5 l4, ⟨?_⟩, ?_⟩
          · kernel_rfl
          cbv
          refine ⟨⟨hlo, hap⟩, ?_⟩
          cbv
          refine ⟨(i + 1, rb', acc'), [(500, some 49)], hinv, hms, ⟨?_⟩, ⟨?_⟩⟩
          · kernel_rfl
          · cbv
            and_intros
            all_goals first | exact trivial | exact ⟨rfl⟩ | exact ⟨hwi⟩ | exact ⟨hr.symm⟩ | exact ⟨hra⟩ | exact ⟨by kernel_rfl⟩
        · have h4 : ¬ (numN (((rb.drop 1).drop (numN (rb.take 1))).take 1) : Int) = 255 := of_decide_eq_false h4
          obtain ⟨q4, he, hr⟩ := entP_val (by omega) he3
          have hrb' := hr
          obtain ⟨acc', hacc⟩ : ∃ a, a = acc ++ [e] := ⟨_, rfl⟩
          have hinv : i + 1 ≤ N ∧ rb'.length < 1000000000000 ∧ acc'.length = i + 1 ∧ (∃ tl, entsP leaf (N - (i + 1)) rb' = some tl ∧ acc' ++ tl = ES) := ⟨hlt, by simp only [hrb', List.length_drop]; omega, by rw [hacc]; simp; omega, tl, htl, by rw [hacc, List.append_assoc]; exact hES⟩
          have hap := app_ok acc e
          have hra := row_app hacc.symm
          have hlo : lenOk (acc.length + 1) 56 := by unfold lenOk; omega
          have hz := wrap_small (x := numN (((rb.drop 1).drop (numN (rb.take 1))).take 1)) (by have := num1_lt ((rb.drop 1).drop (numN (rb.take 1))); omega)
          clear hES htl he2 he3
          rw [he] at hap hra
          cbv
          refine ⟨_, _, con93z hz q4 l3, ⟨?_⟩, ?_⟩
          · kernel_rfl
          cbv
          refine ⟨⟨hlo, hap⟩, ?_⟩
          cbv
          refine ⟨(i + 1, rb', acc'), [(500, some 49)], hinv, hms, ⟨?_⟩, ⟨?_⟩⟩
          · kernel_rfl
          · cbv
            and_intros
            all_goals first | exact trivial | exact ⟨rfl⟩ | exact ⟨hwi⟩ | exact ⟨hr.symm⟩ | exact ⟨hra⟩ | exact ⟨by kernel_rfl⟩
    · have h1 : ¬ (i : Int) < (N : Int) := of_decide_eq_false h1
      have hi0 : N - i = 0 := by omega
      rw [hi0] at hx
      obtain ⟨tl, h3, h4⟩ := hx
      simp only [entsP, Option.some.injEq] at h3
      rw [← h3, List.append_nil] at h4
      have e1 := row_le h4
      clear h1 h3 h4 hi0
      cbv
      refine ⟨[(2000, some 500)], [], ?_⟩
      cbv
      and_intros
      all_goals first | exact trivial | exact ⟨rfl⟩ | exact ⟨e1⟩ | exact ⟨by kernel_rfl⟩
end Go.Proofs.Ytmdfjipjkkjpcaa

