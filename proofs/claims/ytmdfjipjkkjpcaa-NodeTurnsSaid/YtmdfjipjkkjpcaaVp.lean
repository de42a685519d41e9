/- NodeTurns: the row's step. -/
import Derived.Test.YtmdfjipjkkjpcaaVi
import Derived.Test.YtmdfjipjkkjpcaaVo
namespace Go.Proofs.Ytmdfjipjkkjpcaa
open Go.SX
open Go.ChangeShapes Go.WideShapes Go.ChangeAt Go.RowKit

set_option maxRecDepth 100000 in
/-- An entry's SV, off its reading. -/
theorem open_ent {H : Type} {enc : TypeId × Value → H} {W : World} {v : Value} {d : DataW H} {p : List MemPlace} {base : Nat}
    (hval : Value.okWide Try.prog W .any base 74 v) (h : DataW.Trod enc Try.prog W 0 (fun _ => true) true 74 v d p) (hw : Wt Try.prog 74 d) :
    ∃ e : Ent, SVRel (fun _ => none) (Old W) W (entSV e) v ∧ EntOk e ∧ e.key.length ≤ reachBytes ∧ e.val.length ≤ reachBytes := by
  obtain ⟨fuel, h⟩ := h
  obtain ⟨e, c0, c1, c2, c3, hcs, hok, r0, r1, r2, r3⟩ := data_ent (x := (d, p)) Try.underlying74 (by kernel_rfl) Try.underlying27 Try.underlying5 (by kernel_rfl) (by kernel_rfl) (by kernel_rfl) Try.underlying72 (by kernel_rfl)
    ⟨_, _, _, _, rfl, ⟨rfl, rfl⟩, ⟨rfl, rfl⟩, ⟨rfl, rfl⟩, ⟨rfl, rfl⟩⟩ h hw
  refine ⟨e, ?_, hok⟩
  simp only [Value.okWide, Try.underlying74] at hval
  obtain ⟨cs, rfl, -, -⟩ := hval
  have hcs : cs.toList = [c0, c1, c2, c3] := hcs
  obtain ⟨cs⟩ := cs
  simp only at hcs
  subst hcs
  simp only [encE, DVRel] at r2 r3
  exact ⟨_, rfl, r0, r1, r2, r3, trivial⟩

theorem trodAll_four {H : Type} {enc : TypeId × Value → H} {P : Program} {w : World} {base : Nat} {spare : Nat → Bool} {held : Bool} {t1 t2 t3 t4 : TypeId} {args : Array Value} {ds : List (DataW H)} {ps : List MemPlace} (h : DataW.TrodAll enc P w base spare held [t1, t2, t3, t4] args.toList ds ps) :
    ∃ v1 v2 v3 v4 d1 d2 d3 d4 p1 p2 p3 p4, args = #[v1, v2, v3, v4] ∧ ds = [d1, d2, d3, d4] ∧ ps = p1 ++ (p2 ++ (p3 ++ p4)) ∧ DataW.Trod enc P w base spare held t1 v1 d1 p1 ∧ DataW.Trod enc P w base spare held t2 v2 d2 p2 ∧ DataW.Trod enc P w base spare held t3 v3 d3 p3 ∧ DataW.Trod enc P w base spare held t4 v4 d4 p4 := by
  obtain ⟨v1, vs, d1, ds1, p1, q1, hargs, rfl, rfl, h1, r1⟩ := trodAll_cons h
  obtain ⟨v2, vs2, d2, ds2, p2, q2, rfl, rfl, rfl, h2, r2⟩ := trodAll_cons r1
  obtain ⟨v3, vs3, d3, ds3, p3, q3, rfl, rfl, rfl, h3, r3⟩ := trodAll_cons r2
  obtain ⟨v4, vs4, d4, ds4, p4, q4, rfl, rfl, rfl, h4, r4⟩ := trodAll_cons r3
  obtain ⟨rfl, rfl, rfl⟩ := trodAll_nil r4
  exact ⟨v1, v2, v3, v4, d1, d2, d3, d4, p1, p2, p3, p4, by cases args; simp_all, rfl, by simp, h1, h2, h3, h4⟩
theorem trodAll_mk4 {H : Type} {enc : TypeId × Value → H} {P : Program} {w : World} {base : Nat} {spare : Nat → Bool} {held : Bool} {t1 t2 t3 t4 : TypeId} {v1 v2 v3 v4 : Value} {d1 d2 d3 d4 : DataW H} {p1 p2 p3 p4 : List MemPlace} (h1 : DataW.Trod enc P w base spare held t1 v1 d1 p1) (h2 : DataW.Trod enc P w base spare held t2 v2 d2 p2)
    (h3 : DataW.Trod enc P w base spare held t3 v3 d3 p3) (h4 : DataW.Trod enc P w base spare held t4 v4 d4 p4) : DataW.TrodAll enc P w base spare held [t1, t2, t3, t4] [v1, v2, v3, v4] [d1, d2, d3, d4] (p1 ++ (p2 ++ (p3 ++ p4))) := ⟨p1, _, h1, trodAll_mk3 h2 h3 h4, rfl⟩

set_option maxRecDepth 100000 in
theorem turns_lifted (os : Os) (started : os.Started) (H : Type) (enc : TypeId × Value → H) :
    ReturnsInHanded {} Try.checked os 8 .any (Rows.nodeTurnsSpec.pre6 enc Try.prog Try.f8 Rows.nodeTurnsRow.domain false) (Rows.nodeTurnsSpec.post enc Try.prog Try.f8 false true false false) := by
  refine returnsInHanded_of_change_sized (C := Try.checked) Try.own' started (by kernel_rfl) Try.func8
    (ChangeSpec.witness6 (enc := enc) (C := Try.checked) false ⟨#[], #[.agg #[.bool false, .slice none 0 0], .agg #[.bool false, .slice none 0 0], .agg #[.slice none 0 0, .slice none 0 0, .int .u32 0, .int .u32 0], .slice none 0 0], []⟩ 8 (by kernel_rfl) (by kernel_rfl) (by kernel_rfl) (by kernel_rfl)) ?_
  intro W base args ds gs before hval0 hW hcnd hsz _
  have hval : ∀ (j : Nat) t v, Try.f8.params[j]? = some t → args[j]? = some v → Value.okWide Try.prog W .any base t v := hval0
  have hW' := hW
  obtain ⟨p, q, hA0, hV, rfl, hfz, hnd⟩ := hW
  have hA : DataW.TrodAll enc Try.prog W 0 (fun _ => true) true Try.f8.params.toList args.toList ds p := hA0
  have hsz : (DataW.weightsEach Try.prog (Try.f8.params.toList ++ Rows.nodeTurnsSpec.plain.varTypes Try.prog) (ds ++ gs)).all (· ≤ reachBytes) = true := hsz
  rw [Try.params8] at hA hval hsz
  obtain ⟨v0, v1, v2, v3, d0, d1, d2, d3, p0, p1, p2, p3, rfl, rfl, rfl, h0, h1, h2, h3⟩ := trodAll_four hA
  obtain ⟨rfl, rfl⟩ := trodVars_none hV
  obtain ⟨leaf, a, r0, l0, e0⟩ := open_node (hval 0 24 v0 rfl rfl) h0 (wt_of hsz (j := 0) rfl rfl)
  obtain ⟨lb, b, r1, l1, e1⟩ := open_node (hval 1 24 v1 rfl rfl) h1 (wt_of hsz (j := 1) rfl rfl)
  obtain ⟨e, r2, k0, k1, k2⟩ := open_ent (hval 2 74 v2 rfl rfl) h2 (wt_of hsz (j := 2) rfl rfl)
  obtain ⟨key, r3, l3⟩ := open_bytes' (hval 3 27 v3 rfl rfl) h3 (wt_of hsz (j := 3) rfl rfl)
  have hrb : reachBytes ≤ 281474976710656 := by decide
  clear hA0 hval0
  simp only [List.append_nil] at hW'
  refine (calls_of_con (con8 (leaf := leaf) (lb := lb) (a := a) (b := b) (e := e) (key := key) (big_of e0) (by omega) (big_of e1) (by omega) ⟨by omega, by omega⟩ (by omega)) ⟨_, _, Try.func8, rfl, rfl⟩ (vs := [v0, v1, v2, v3]) ⟨r0, r1, r2, r3, trivial⟩).mono fun e W' ⟨he, hb⟩ => ?_
  subst he
  have hlt : ∀ x ∈ p0 ++ (p1 ++ (p2 ++ p3)), x.block < W.heap.size := fun x hx => hW'.lt x hx
  refine ⟨_, rfl, post_below (pa := p0 ++ (p1 ++ (p2 ++ p3))) (pv := []) hW' (fun _ _ _ => trodAll_mk1 (shut_bool Try.underlying4 _)) (trodAll_mk4 (Below.trod Try.laidOut' (by kernel_rfl) (of_decide_eq_true (by kernel_rfl)) h0 hb fun x hx => hlt x (by simp [hx])) (Below.trod Try.laidOut' (by kernel_rfl) (of_decide_eq_true (by kernel_rfl)) h1 hb fun x hx => hlt x (by simp [hx]))
    (Below.trod Try.laidOut' (by kernel_rfl) (of_decide_eq_true (by kernel_rfl)) h2 hb fun x hx => hlt x (by simp [hx])) (Below.trod Try.laidOut' (by kernel_rfl) (of_decide_eq_true (by kernel_rfl)) h3 hb fun x hx => hlt x (by simp [hx]))) rfl (by simp) hb⟩

/-- NodeTurns is true for every input. -/
theorem turns_holds : Rows.NodeTurnsSaid :=
  OpenClaim.holds_of_wide 8 Try.f8 rfl rfl rfl rfl rfl rfl rfl ⟨rfl, rfl, rfl, rfl, rfl⟩ rfl rfl rfl rfl rfl (by kernel_rfl) Try.func8 (by kernel_rfl)
    (of_decide_eq_true (by kernel_rfl)) (by unfold Func.isWrapper; first | (rw [if_pos (by decide +kernel)]; kernel_rfl) | (rw [if_neg (by decide +kernel)]; exact ⟨rfl, rfl⟩))
    (fun os started H enc _ => turns_lifted os started H enc)
end Go.Proofs.Ytmdfjipjkkjpcaa

