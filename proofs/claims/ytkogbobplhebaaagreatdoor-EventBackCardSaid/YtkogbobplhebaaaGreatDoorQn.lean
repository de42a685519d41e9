/- Events: what the rows of this seat share. -/
import Derived.Test.YtkogbobplhebaaaGreatDoorRows
import Derived.Lib.LaidIn
import Derived.Lib.LaidU8T
import Derived.Deep.DeepHandedRow
import Derived.Deep.DeepWitnessRowRef
import Derived.Test.YtkogbobplhebaaaGreatDoorQm
set_option linter.unusedVariables false
set_option linter.unusedSimpArgs false
set_option linter.unusedSectionVars false
namespace Go.Proofs.YtkogbobplhebaaaGreatDoor
open Go.SX Go.Ev Go.Shelf
open Go.ChangeShapes Go.WideShapes Go.ChangeAt Go.RowKit Go.Lib

theorem Tryz.own' : ownKnob Tryz.prog.godebug = none := by kernel_rfl
theorem Tryz.laidOut' : laidOutB Tryz.prog = true := by kernel_rfl

theorem calls_of_con {f : Nat} {svs : List SV} (h : Con f svs [] (.bool (.s fun _ => true)) []) (hf : FnOk Tryz.prog f) {W : World} (htab : TabOk (fun _ => none) W) {vs : List Value} (hs : SVRels (fun _ => none) (Old W) W svs vs) (hlt : f < 4096 := by decide) :
    Calls Tryz.prog f ⟨vs⟩ W fun e W' => e = .returned (.bool true) ∧ Below W.heap.size W W' := by
  have hsep : Sep (fun _ => none) (Old W) W := ⟨fun k o h => (by cases h), fun k o k' o' h => (by cases h), fun k o h => (by cases h), fun b h => h⟩
  have h0 := h.spec (fun _ => none) (Old W) vs W hsep (fun k => trivial) hs htab
  rw [runs_calls hlt] at h0
  rcases h0 with ⟨_, hc⟩ | ⟨v, w', hc, _⟩
  · refine hc.mono ?_
    rintro e w' ⟨v, rfl, η', G', hv, -, -, hev⟩
    refine ⟨?_, hev.os, hev.tape, hev.out, hev.size, fun k hk => hev.keep k hk fun k o h => (by cases h)⟩
    simp only [SVRel, BE.den] at hv
    rw [hv]
  · rw [run_callFunc hf] at hc
    cases hc

theorem post_below {H : Type} {enc : TypeId × Value → H} {P : Program} {f : Func} {s : ChangeSpec} {apart fresh handsOn : Bool} {W W' : World} {args : Array Value} {v : Value} {ds gs : List (DataW H)} {before pa pv : List MemPlace}
    (hW : DataW.Whole enc P f.params.toList s.vars apart W args.toList ds gs before)
    (hres : ∀ (b : Nat) (sp : Nat → Bool) (hd : Bool), DataW.TrodAll enc P W' b sp hd f.resultTypes.toList (v.resultList f.resultTypes.size) (s.fn H (ds ++ gs)).results [])
    (hargs : DataW.TrodAll enc P W' 0 (fun b => decide (b < W.heap.size)) true f.params.toList args.toList (s.fn H (ds ++ gs)).args pa)
    (hvars : DataW.TrodVars enc P W' (fun b => decide (b < W.heap.size)) s.vars (s.fn H (ds ++ gs)).vars pv)
    (hps : before = pa ++ pv) (hb : Below W.heap.size W W') : s.post enc P f apart fresh handsOn false W args v W' := by
  refine ⟨ds, gs, before, [], pa, pv, hW, hres _ _ _, hargs, hvars, World.keptBut_mono (fun p hp => ⟨hp, ?_⟩) (hb.frame (· ∈ before)), fun h => by cases h⟩
  rw [hps, List.mem_append] at hp
  exact Or.inr hp

set_option maxRecDepth 100000 in
/-- An event's SV, off its reading. -/
theorem open_ev {H : Type} {enc : TypeId × Value → H} {W : World} {v : Value} {d : DataW H} {p : List MemPlace} {base : Nat}
    (hval : Value.okWide Tryz.prog W .any base 29 v) (h : DataW.Trod enc Tryz.prog W 0 (fun _ => true) true 29 v d p) (hw : Wt Tryz.prog 29 d) :
    ∃ e : Evt, Given e ∧ ∀ d, e.key.depth ≤ d → e.doc.depth ≤ d → SVRel (fun _ => none) (Old W) W (evSV d e) v := by
  obtain ⟨fuel, h⟩ := h
  obtain ⟨e, h1, h2, h3, h4, h5⟩ := data_ev (x := (d, p)) h hw
  refine ⟨e, ⟨h1, h2, h3, h4⟩, fun d hk hd => ?_⟩
  have h5 := h5 d hk hd
  simp only [Value.okWide, Tryz.underlying29] at hval
  obtain ⟨cs, rfl, -, -⟩ := hval
  exact ⟨cs.toList, rfl, h5⟩
set_option maxRecDepth 100000 in
theorem one_cell {W : World} {base : Nat} {v : Value} {u : Value} (hval : Value.okWide Tryz.prog W .any base 23 v) (h : v.cells.toList = [u]) : v = u := by
  simp only [Value.okWide, Cell.okWide, Tryz.underlying23] at hval
  cases v with
  | agg cs => simp [Cell.ok, Tryz.underlying23] at hval
  | _ => simpa [Value.cells] using h
set_option maxRecDepth 100000 in
theorem open_bytes' {H : Type} {enc : TypeId × Value → H} {W : World} {v : Value} {d : DataW H} {p : List MemPlace} {base : Nat}
    (hval : Value.okWide Tryz.prog W .any base 23 v) (h : DataW.Trod enc Tryz.prog W 0 (fun _ => true) true 23 v d p) (hw : Wt Tryz.prog 23 d) :
    ∃ bs : List UInt8, SVRel (fun _ => none) (Old W) W (.dat (.bytes fun _ => bs)) v ∧ bs.length ≤ reachBytes := by
  obtain ⟨fuel, h⟩ := h
  obtain ⟨bs, u, hcs, h1, h2⟩ := data_bytes (x := (d, p)) Tryz.underlying23 Tryz.underlying5 (by kernel_rfl) (by kernel_rfl) h hw
  have := one_cell hval hcs
  subst this
  exact ⟨bs, h2, h1⟩
theorem wt_of {H : Type} {P : Program} {ts : List TypeId} {ds : List (DataW H)} (h : (DataW.weightsEach P ts ds).all (· ≤ reachBytes) = true) {j : Nat} {t : TypeId} {d : DataW H} (ht : ts[j]? = some t) (hd : ds[j]? = some d) : Wt P t d := by
  intro n hn
  have := List.all_eq_true.1 h _ (DataW.weights_mem_each ht hd n hn)
  simpa using this

/-- The witness: the settled world, the two tables holding what their initialisers lay. -/
noncomputable def laidWorld (os : Os) : World :=
  let w0 := World.holding Tryz.prog os ⟨#[], #[], []⟩
  let put (h : Array Obj) (g : Nat) (cs : Array Value) : Array Obj := h.modify g fun
    | .cells _ t frozen => .cells cs t frozen
    | o => o
  let h1 := put w0.heap 0 (Lib.firstTab.map fun z => Value.int .u8 z).toArray
  let h2 := put h1 1 ((List.range 16).flatMap fun i => [Value.int .u8 (Lib.accLo i), Value.int .u8 (Lib.accHi i)]).toArray
  { w0 with heap := h2 }
def laidL : List (String × DataW Unit) := [("unicode/utf8.acceptRanges", Lib.acceptData), ("unicode/utf8.first", Lib.firstData)]
theorem laid_met (os : Os) (args : Array Value) : laidMet Tryz.prog laidL ((laidWorld os).forCall (fun _ _ => 0) ⟨#[], args, []⟩).memory :=
  (LaidIn.of_run (l := laidL) [1, 0] 8 (by kernel_rfl) (by kernel_rfl) (by kernel_rfl) (by kernel_rfl)).met
theorem tabs_of {W : World} (hL : laidMet Tryz.prog laidL W) : TabOk (fun _ => none) W := by
  have h := utf8Tabs_of_readsT (ρ := lays196_ren) (U8Types.of196 lays196) ⟨by kernel_rfl, by kernel_rfl, by kernel_rfl, by kernel_rfl, by kernel_rfl, by kernel_rfl, by kernel_rfl⟩ (Lib.laidMet.reads hL (.tail _ (.head _))) (Lib.laidMet.reads hL (.head _))
  have h : Lib.Utf8Tabs 0 1 W := h
  refine ⟨?_, h, fun k o h => by cases h⟩
  have := (cell_spot (h.2 0 (by decide)).1).2
  exact this
end Go.Proofs.YtkogbobplhebaaaGreatDoor

