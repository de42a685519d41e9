/- NodeParts: the row's step. -/
import Derived.Test.YtmdfjipjkkjpcaaNh
import Derived.Test.YtmdfjipjkkjpcaaPt
namespace Go.Proofs.Ytmdfjipjkkjpcaa
open Go.SX
open Go.ChangeShapes Go.WideShapes Go.ChangeAt Go.RowKit

set_option maxRecDepth 100000 in
/-- An entry's SV, off its reading. -/
theorem open_ent {H : Type} {enc : TypeId × Value → H} {W : World} {v : Value} {d : DataW H} {p : List MemPlace} {base : Nat}
    (hval : Value.okWide Try.prog W .any base 74 v) (h : DataW.Trod enc Try.prog W 0 (fun _ => true) true 74 v d p) (hw : Wt Try.prog 74 d) :
    ∃ e : Ent, SVRel (fun _ => none) (Old W) W (entSV e) v ∧ EntOk e ∧ e.key.length ≤ reachBytes ∧ e.val.length ≤ reachBytes := by
  obtain ⟨fuel, h⟩ := h
  obtain ⟨e, c0, c1, c2, c3, hcs, hok, r0, r1, r2, r3⟩ := data_ent (x := (d, p)) Try.underlying74 (by kernel_rfl) Try.underlying27 Try.underlying5 (by kernel_rfl) (by kernel_rfl) (by kernel_rfl) Try.underlying72 (by kernel_rfl)
    ⟨_, _, _, _, rfl, ⟨rfl, rfl⟩, ⟨rfl, rfl⟩, ⟨rfl, rfl⟩, ⟨rfl, rfl⟩⟩ h hw
  refine ⟨e, ?_, hok⟩
  simp only [Value.okWide, Try.underlying74] at hval
  obtain ⟨cs, rfl, -, -⟩ := hval
  have hcs : cs.toList = [c0, c1, c2, c3] := hcs
  obtain ⟨cs⟩ := cs
  simp only at hcs
  subst hcs
  simp only [encE, DVRel] at r2 r3
  exact ⟨_, rfl, r0, r1, r2, r3, trivial⟩

set_option maxRecDepth 100000 in
theorem parts_lifted (os : Os) (started : os.Started) (H : Type) (enc : TypeId × Value → H) :
    ReturnsInHanded {} Try.checked os 9 .any (Rows.nodePartsSpec.pre6 enc Try.prog Try.f9 Rows.nodePartsRow.domain false) (Rows.nodePartsSpec.post enc Try.prog Try.f9 false true false false) := by
  refine returnsInHanded_of_change_sized (C := Try.checked) Try.own' started (by kernel_rfl) Try.func9
    (ChangeSpec.witness6 (enc := enc) (C := Try.checked) false ⟨#[], #[.agg #[.bool false, .slice none 0 0], .agg #[.slice none 0 0, .slice none 0 0, .int .u32 0, .int .u32 0]], []⟩ 8 (by kernel_rfl) (by kernel_rfl) (by kernel_rfl) (by kernel_rfl)) ?_
  intro W base args ds gs before hval0 hW hcnd hsz _
  have hval : ∀ (j : Nat) t v, Try.f9.params[j]? = some t → args[j]? = some v → Value.okWide Try.prog W .any base t v := hval0
  have hW' := hW
  obtain ⟨p, q, hA0, hV, rfl, hfz, hnd⟩ := hW
  have hA : DataW.TrodAll enc Try.prog W 0 (fun _ => true) true Try.f9.params.toList args.toList ds p := hA0
  have hsz : (DataW.weightsEach Try.prog (Try.f9.params.toList ++ Rows.nodePartsSpec.plain.varTypes Try.prog) (ds ++ gs)).all (· ≤ reachBytes) = true := hsz
  rw [Try.params9] at hA hval hsz
  obtain ⟨v0, v1, d0, d1, p0, p1, rfl, rfl, rfl, h0, h1⟩ := trodAll_two hA
  obtain ⟨rfl, rfl⟩ := trodVars_none hV
  obtain ⟨leaf, es, r0, l0, e0⟩ := open_node (hval 0 24 v0 rfl rfl) h0 (wt_of hsz (j := 0) rfl rfl)
  obtain ⟨e, r1, k0, k1, k2⟩ := open_ent (hval 1 74 v1 rfl rfl) h1 (wt_of hsz (j := 1) rfl rfl)
  have hrb : reachBytes ≤ 281474976710656 := by decide
  clear hA0 hval0
  simp only [List.append_nil] at hW'
  refine (calls_of_con (con9 (leaf := leaf) (es := es) (e := e) (fun e he => (e0 e he).1) (big_of e0) (by omega) k0 ⟨by omega, by omega⟩) ⟨_, _, Try.func9, rfl, rfl⟩ (vs := [v0, v1]) ⟨r0, r1, trivial⟩).mono fun e W' ⟨he, hb⟩ => ?_
  subst he
  have hlt : ∀ x ∈ p0 ++ p1, x.block < W.heap.size := fun x hx => hW'.lt x hx
  refine ⟨_, rfl, post_below (pa := p0 ++ p1) (pv := []) hW' (fun _ _ _ => trodAll_mk1 (shut_bool Try.underlying4 _)) (trodAll_mk2 (Below.trod Try.laidOut' (by kernel_rfl) (of_decide_eq_true (by kernel_rfl)) h0 hb fun x hx => hlt x (by simp [hx])) (Below.trod Try.laidOut' (by kernel_rfl) (of_decide_eq_true (by kernel_rfl)) h1 hb fun x hx => hlt x (by simp [hx]))) rfl (by simp) hb⟩

/-- NodeParts is true for every input. -/
theorem parts_holds : Rows.NodePartsSaid :=
  OpenClaim.holds_of_wide 9 Try.f9 rfl rfl rfl rfl rfl rfl rfl ⟨rfl, rfl, rfl, rfl, rfl⟩ rfl rfl rfl rfl rfl (by kernel_rfl) Try.func9 (by kernel_rfl)
    (of_decide_eq_true (by kernel_rfl)) (by unfold Func.isWrapper; first | (rw [if_pos (by decide +kernel)]; kernel_rfl) | (rw [if_neg (by decide +kernel)]; exact ⟨rfl, rfl⟩))
    (fun os started H enc _ => parts_lifted os started H enc)
end Go.Proofs.Ytmdfjipjkkjpcaa
