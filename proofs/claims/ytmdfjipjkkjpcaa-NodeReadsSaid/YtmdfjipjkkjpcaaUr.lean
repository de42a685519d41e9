/- NodeReads: the row's step. -/
import Derived.Test.YtmdfjipjkkjpcaaUi
import Derived.Test.YtmdfjipjkkjpcaaUq
namespace Go.Proofs.Ytmdfjipjkkjpcaa
open Go.SX
open Go.ChangeShapes Go.WideShapes Go.ChangeAt Go.RowKit

set_option maxRecDepth 100000 in
theorem one_cell5 {W : World} {base : Nat} {v : Value} {u : Value} (hval : Value.okWide Try.prog W .any base 5 v) (h : v.cells.toList = [u]) : v = u := by
  simp only [Value.okWide, Cell.okWide, Try.underlying5] at hval
  cases v with
  | agg cs => simp [Cell.ok, Try.underlying5] at hval
  | _ => simpa [Value.cells] using h
set_option maxRecDepth 100000 in
theorem open_u8 {H : Type} {enc : TypeId × Value → H} {W : World} {v : Value} {d : DataW H} {p : List MemPlace} {base : Nat}
    (hval : Value.okWide Try.prog W .any base 5 v) (h : DataW.Trod enc Try.prog W 0 (fun _ => true) true 5 v d p) :
    ∃ k : Int, SVRel (fun _ => none) (Old W) W (.int .u8 (.s fun _ => k)) v := by
  obtain ⟨fuel, h⟩ := h
  obtain ⟨n, hcs⟩ := data_u8 (x := (d, p)) Try.underlying5 h
  have := one_cell5 hval hcs
  subst this
  exact ⟨(n.toNat : Int), by simp [SVRel, IE.den]⟩

set_option maxRecDepth 100000 in
theorem reads_lifted (os : Os) (started : os.Started) (H : Type) (enc : TypeId × Value → H) :
    ReturnsInHanded {} Try.checked os 4 .any (Rows.nodeReadsSpec.pre6 enc Try.prog Try.f4 Rows.nodeReadsRow.domain false) (Rows.nodeReadsSpec.post enc Try.prog Try.f4 false true false false) := by
  refine returnsInHanded_of_change_sized (C := Try.checked) Try.own' started (by kernel_rfl) Try.func4
    (ChangeSpec.witness6 (enc := enc) (C := Try.checked) false ⟨#[], #[.int .u8 0, .slice none 0 0, .agg #[.bool false, .slice none 0 0]], []⟩ 4 (by kernel_rfl) (by kernel_rfl) (by kernel_rfl) (by kernel_rfl)) ?_
  intro W base args ds gs before hval0 hW hcnd hsz _
  have hval : ∀ (j : Nat) t v, Try.f4.params[j]? = some t → args[j]? = some v → Value.okWide Try.prog W .any base t v := hval0
  have hW' := hW
  obtain ⟨p, q, hA0, hV, rfl, hfz, hnd⟩ := hW
  have hA : DataW.TrodAll enc Try.prog W 0 (fun _ => true) true Try.f4.params.toList args.toList ds p := hA0
  have hsz : (DataW.weightsEach Try.prog (Try.f4.params.toList ++ Rows.nodeReadsSpec.plain.varTypes Try.prog) (ds ++ gs)).all (· ≤ reachBytes) = true := hsz
  rw [Try.params4] at hA hval hsz
  obtain ⟨v0, v1, v2, d0, d1, d2, p0, p1, p2, rfl, rfl, rfl, h0, h1, h2⟩ := trodAll_three hA
  obtain ⟨rfl, rfl⟩ := trodVars_none hV
  obtain ⟨k, r0⟩ := open_u8 (hval 0 5 v0 rfl rfl) h0
  obtain ⟨b, r1, l1⟩ := open_bytes' (hval 1 27 v1 rfl rfl) h1 (wt_of hsz (j := 1) rfl rfl)
  obtain ⟨leaf, es, r2, l2, e2⟩ := open_node (hval 2 24 v2 rfl rfl) h2 (wt_of hsz (j := 2) rfl rfl)
  have hrb : reachBytes ≤ 281474976710656 := by decide
  clear hA0 hval0
  simp only [List.append_nil] at hW'
  rw [List.append_assoc] at hW'
  refine (calls_of_con (con4 (k := k) (b := b) (leaf := leaf) (es := es) (fun e he => (e2 e he).1) (big_of e2) (by omega)) ⟨_, _, Try.func4, rfl, rfl⟩ (vs := [v0, v1, v2]) ⟨r0, r1, r2, trivial⟩).mono fun e W' ⟨he, hb⟩ => ?_
  subst he
  have hlt : ∀ x ∈ p0 ++ (p1 ++ p2), x.block < W.heap.size := fun x hx => hW'.lt x hx
  refine ⟨_, rfl, post_below (pa := p0 ++ (p1 ++ p2)) (pv := []) hW' (fun _ _ _ => trodAll_mk1 (shut_bool Try.underlying4 _)) (trodAll_mk3 (Below.trod Try.laidOut' (by kernel_rfl) (of_decide_eq_true (by kernel_rfl)) h0 hb fun x hx => hlt x (by simp [hx])) (Below.trod Try.laidOut' (by kernel_rfl) (of_decide_eq_true (by kernel_rfl)) h1 hb fun x hx => hlt x (by simp [hx]))
    (Below.trod Try.laidOut' (by kernel_rfl) (of_decide_eq_true (by kernel_rfl)) h2 hb fun x hx => hlt x (by simp [hx]))) rfl (by simp) hb⟩

/-- NodeReads is true for every input. -/
theorem reads_holds : Rows.NodeReadsSaid :=
  OpenClaim.holds_of_wide 4 Try.f4 rfl rfl rfl rfl rfl rfl rfl ⟨rfl, rfl, rfl, rfl, rfl⟩ rfl rfl rfl rfl rfl (by kernel_rfl) Try.func4 (by kernel_rfl)
    (of_decide_eq_true (by kernel_rfl)) (by unfold Func.isWrapper; first | (rw [if_pos (by decide +kernel)]; kernel_rfl) | (rw [if_neg (by decide +kernel)]; exact ⟨rfl, rfl⟩))
    (fun os started H enc _ => reads_lifted os started H enc)
end Go.Proofs.Ytmdfjipjkkjpcaa

