/- Node laws: the row's step. -/
import Derived.Test.YtmdfjipjkkjpcaaRows
import Derived.Test.YtmdfjipjkkjpcaaNj
namespace Go.Proofs.Ytmdfjipjkkjpcaa
open Go.SX
open Go.ChangeShapes Go.WideShapes Go.ChangeAt Go.RowKit

theorem Try.own' : ownKnob Try.prog.godebug = none := by kernel_rfl
theorem Try.laidOut' : laidOutB Try.prog = true := by kernel_rfl

theorem calls_of_con {f : Nat} {svs : List SV} (h : Con f svs [] (.bool (.s fun _ => true)) []) (hf : FnOk Try.prog f) {W : World} {vs : List Value} (hs : SVRels (fun _ => none) (Old W) W svs vs) :
    Calls Try.prog f ⟨vs⟩ W fun e W' => e = .returned (.bool true) ∧ Below W.heap.size W W' := by
  have hsep : Sep (fun _ => none) (Old W) W := ⟨fun k o h => (by cases h), fun k o k' o' h => (by cases h), fun k o h => (by cases h), fun b h => h⟩
  rcases h.spec (fun _ => none) (Old W) vs W hsep (fun k => trivial) hs with ⟨_, hc⟩ | ⟨v, w', hc, _⟩
  · refine hc.mono ?_
    rintro e w' ⟨v, rfl, η', G', hv, -, -, hev⟩
    refine ⟨?_, hev.os, hev.tape, hev.out, hev.size, fun k hk => hev.keep k hk fun k o h => (by cases h)⟩
    simp only [SVRel, BE.den] at hv
    rw [hv]
  · rw [run_callFunc hf] at hc
    cases hc

theorem post_below {H : Type} {enc : TypeId × Value → H} {P : Program} {f : Func} {s : ChangeSpec} {apart fresh handsOn : Bool} {W W' : World} {args : Array Value} {v : Value} {ds gs : List (DataW H)} {before pa pv : List MemPlace}
    (hW : DataW.Whole enc P f.params.toList s.vars apart W args.toList ds gs before)
    (hres : ∀ (b : Nat) (sp : Nat → Bool) (hd : Bool), DataW.TrodAll enc P W' b sp hd f.resultTypes.toList (v.resultList f.resultTypes.size) (s.fn H (ds ++ gs)).results [])
    (hargs : DataW.TrodAll enc P W' 0 (fun b => decide (b < W.heap.size)) true f.params.toList args.toList (s.fn H (ds ++ gs)).args pa)
    (hvars : DataW.TrodVars enc P W' (fun b => decide (b < W.heap.size)) s.vars (s.fn H (ds ++ gs)).vars pv)
    (hps : before = pa ++ pv) (hb : Below W.heap.size W W') : s.post enc P f apart fresh handsOn false W args v W' := by
  refine ⟨ds, gs, before, [], pa, pv, hW, hres _ _ _, hargs, hvars, World.keptBut_mono (fun p hp => ⟨hp, ?_⟩) (hb.frame (· ∈ before)), fun h => by cases h⟩
  rw [hps, List.mem_append] at hp
  exact Or.inr hp

set_option maxRecDepth 100000 in
/-- A node's SV, off its reading. -/
theorem open_node {H : Type} {enc : TypeId × Value → H} {W : World} {v : Value} {d : DataW H} {p : List MemPlace} {base : Nat}
    (hval : Value.okWide Try.prog W .any base 24 v) (h : DataW.Trod enc Try.prog W 0 (fun _ => true) true 24 v d p) (hw : Wt Try.prog 24 d) :
    ∃ (leaf : Bool) (es : List Ent), SVRel (fun _ => none) (Old W) W (nodeSV leaf es) v ∧ es.length ≤ reachBytes ∧ ∀ y ∈ es, EntOk y ∧ y.key.length ≤ reachBytes ∧ y.val.length ≤ reachBytes := by
  obtain ⟨fuel, h⟩ := h
  obtain ⟨leaf, es, u, hcs, h1, h2, h3⟩ := data_node (x := (d, p)) Try.underlying24 (by kernel_rfl) Try.underlying4 (by kernel_rfl) (by kernel_rfl) ⟨_, _, rfl, ⟨rfl, rfl⟩, ⟨rfl, rfl⟩⟩ Try.underlying22 Try.underlying74 (by kernel_rfl) (of_decide_eq_true (by kernel_rfl))
    Try.underlying27 Try.underlying5 (by kernel_rfl) (by kernel_rfl) (by kernel_rfl) Try.underlying72 (by kernel_rfl) ⟨_, _, _, _, rfl, ⟨rfl, rfl⟩, ⟨rfl, rfl⟩, ⟨rfl, rfl⟩, ⟨rfl, rfl⟩⟩ h hw
  refine ⟨leaf, es, ?_, h1, h3⟩
  simp only [Value.okWide, Try.underlying24] at hval
  obtain ⟨cs, rfl, -, -⟩ := hval
  have hcs : cs.toList = [.bool leaf, u] := hcs
  obtain ⟨cs⟩ := cs
  simp only at hcs
  subst hcs
  exact ⟨_, rfl, rfl, h2, trivial⟩

set_option maxRecDepth 100000 in
theorem one_cell {W : World} {base : Nat} {v : Value} {u : Value} (hval : Value.okWide Try.prog W .any base 27 v) (h : v.cells.toList = [u]) : v = u := by
  simp only [Value.okWide, Cell.okWide, Try.underlying27] at hval
  cases v with
  | agg cs => simp [Cell.ok, Try.underlying27] at hval
  | _ => simpa [Value.cells] using h

set_option maxRecDepth 100000 in
theorem open_bytes' {H : Type} {enc : TypeId × Value → H} {W : World} {v : Value} {d : DataW H} {p : List MemPlace} {base : Nat}
    (hval : Value.okWide Try.prog W .any base 27 v) (h : DataW.Trod enc Try.prog W 0 (fun _ => true) true 27 v d p) (hw : Wt Try.prog 27 d) :
    ∃ bs : List UInt8, SVRel (fun _ => none) (Old W) W (.dat (.bytes fun _ => bs)) v ∧ bs.length ≤ reachBytes := by
  obtain ⟨fuel, h⟩ := h
  obtain ⟨bs, u, hcs, h1, h2⟩ := data_bytes (x := (d, p)) Try.underlying27 Try.underlying5 (by kernel_rfl) (by kernel_rfl) h hw
  have := one_cell hval hcs
  subst this
  exact ⟨bs, h2, h1⟩

theorem wt_of {H : Type} {P : Program} {ts : List TypeId} {ds : List (DataW H)} (h : (DataW.weightsEach P ts ds).all (· ≤ reachBytes) = true) {j : Nat} {t : TypeId} {d : DataW H} (ht : ts[j]? = some t) (hd : ds[j]? = some d) : Wt P t d := by
  intro n hn
  have := List.all_eq_true.1 h _ (DataW.weights_mem_each ht hd n hn)
  simpa using this
theorem big_of {es : List Ent} (h : ∀ y ∈ es, EntOk y ∧ y.key.length ≤ reachBytes ∧ y.val.length ≤ reachBytes) : ∀ e ∈ es, BigE e := by
  intro e he
  obtain ⟨-, h1, h2⟩ := h e he
  have : reachBytes ≤ 281474976710656 := by decide
  exact ⟨by omega, by omega⟩

set_option maxRecDepth 100000 in
theorem places_lifted (os : Os) (started : os.Started) (H : Type) (enc : TypeId × Value → H) :
    ReturnsInHanded {} Try.checked os 5 .any (Rows.nodePlacesSpec.pre6 enc Try.prog Try.f5 Rows.nodePlacesRow.domain false) (Rows.nodePlacesSpec.post enc Try.prog Try.f5 false true false false) := by
  refine returnsInHanded_of_change_sized (C := Try.checked) Try.own' started (by kernel_rfl) Try.func5
    (ChangeSpec.witness6 (enc := enc) (C := Try.checked) false ⟨#[], #[.agg #[.bool false, .slice none 0 0], .slice none 0 0], []⟩ 8 (by kernel_rfl) (by kernel_rfl) (by kernel_rfl) (by kernel_rfl)) ?_
  intro W base args ds gs before hval0 hW hcnd hsz _
  have hval : ∀ (j : Nat) t v, Try.f5.params[j]? = some t → args[j]? = some v → Value.okWide Try.prog W .any base t v := hval0
  have hW' := hW
  obtain ⟨p, q, hA0, hV, rfl, hfz, hnd⟩ := hW
  have hA : DataW.TrodAll enc Try.prog W 0 (fun _ => true) true Try.f5.params.toList args.toList ds p := hA0
  have hsz : (DataW.weightsEach Try.prog (Try.f5.params.toList ++ Rows.nodePlacesSpec.plain.varTypes Try.prog) (ds ++ gs)).all (· ≤ reachBytes) = true := hsz
  rw [Try.params5] at hA hval hsz
  obtain ⟨v0, v1, d0, d1, p0, p1, rfl, rfl, rfl, h0, h1⟩ := trodAll_two hA
  obtain ⟨rfl, rfl⟩ := trodVars_none hV
  obtain ⟨leaf, es, r0, l0, e0⟩ := open_node (hval 0 24 v0 rfl rfl) h0 (wt_of hsz (j := 0) rfl rfl)
  obtain ⟨key, r1, l1⟩ := open_bytes' (hval 1 27 v1 rfl rfl) h1 (wt_of hsz (j := 1) rfl rfl)
  have hrb : reachBytes ≤ 281474976710656 := by decide
  clear hA0 hval0
  simp only [List.append_nil] at hW'
  refine (calls_of_con (con5 (leaf := leaf) (es := es) (key := key) (fun e he => (e0 e he).1) (big_of e0) (by omega)) ⟨_, _, Try.func5, rfl, rfl⟩ (vs := [v0, v1]) ⟨r0, r1, trivial⟩).mono fun e W' ⟨he, hb⟩ => ?_
  subst he
  have hlt : ∀ x ∈ p0 ++ p1, x.block < W.heap.size := fun x hx => hW'.lt x hx
  refine ⟨_, rfl, post_below (pa := p0 ++ p1) (pv := []) hW' (fun _ _ _ => trodAll_mk1 (shut_bool Try.underlying4 _)) (trodAll_mk2 (Below.trod Try.laidOut' (by kernel_rfl) (of_decide_eq_true (by kernel_rfl)) h0 hb fun x hx => hlt x (by simp [hx])) (Below.trod Try.laidOut' (by kernel_rfl) (of_decide_eq_true (by kernel_rfl)) h1 hb fun x hx => hlt x (by simp [hx]))) rfl (by simp) hb⟩

/-- NodePlaces is true for every input. -/
theorem places_holds : Rows.NodePlacesSaid :=
  OpenClaim.holds_of_wide 5 Try.f5 rfl rfl rfl rfl rfl rfl rfl ⟨rfl, rfl, rfl, rfl, rfl⟩ rfl rfl rfl rfl rfl (by kernel_rfl) Try.func5 (by kernel_rfl)
    (of_decide_eq_true (by kernel_rfl)) (by unfold Func.isWrapper; first | (rw [if_pos (by decide +kernel)]; kernel_rfl) | (rw [if_neg (by decide +kernel)]; exact ⟨rfl, rfl⟩))
    (fun os started H enc _ => places_lifted os started H enc)
end Go.Proofs.Ytmdfjipjkkjpcaa
