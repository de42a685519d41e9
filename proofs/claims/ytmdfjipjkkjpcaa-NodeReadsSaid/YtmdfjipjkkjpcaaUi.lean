/- Texts put together: Nf, Nk, Ng, Nl, Ni, Nj, Nh. -/
import Derived.Carry
import Derived.ProofKit
import Derived.SizedLaws
import Derived.Test.YtmdfjipjkkjpcaaRows
import Derived.Test.YtmdfjipjkkjpcaaUh
/- Node laws: Decode of what is written. -/
namespace Go.Proofs.Ytmdfjipjkkjpcaa
open Go.SX

set_option maxRecDepth 20000 in
set_option maxHeartbeats 4000000 in
theorem con12o {leaf : Bool} {es : List Ent} (hp : ∀ e ∈ es, EntOk e) (hw : weight es + 20 * es.length < 1000000000000) (hc0 : checkI leaf es = 0) :
    Con 12 [nodeSV leaf es] [] (.tup [.own 2000, .int .u16 (.s fun _ => 0)]) [(2000, .barr 5 fun _ => nodeB leaf es)] := by
  refine con_of Try.func12 rfl rfl 68 _ rfl rfl rfl rfl ?_
  cbv
  refine ⟨_, _, con13 (leaf := leaf) (es := es) hp hw, ⟨?_⟩, ?_⟩
  · rfl
  cbv
  refine ⟨fun h1 => ?_, fun h1 => ?_⟩
  · have h1 : ¬ checkI leaf es = 0 := of_decide_eq_false (bnot_t h1)
    exfalso
    exact h1 hc0
  · have h1 : checkI leaf es = 0 := of_decide_eq_true (bnot_f h1)
    obtain ⟨hm, hs⟩ := checkI_ok h1
    have hl := sizeL_len leaf es
    have w1 : (IntKind.u32.wrap (es.length : Int)).toNat = es.length := by rw [IntKind.wrap_u32]; omega
    have w2 : 0 ≤ IntKind.u32.wrap (es.length : Int) := by rw [IntKind.wrap_u32]; omega
    have e0 : lowB (IntKind.u32.wrap (es.length : Int)).toNat 2 = encTo leaf es 0 := by rw [w1]; simp [encTo, entsB]
    cbv
    refine ⟨_, _, con42nl w2, ⟨?_⟩, ?_⟩
    · rfl
    cbv
    refine ⟨Nat, [500], fun i => [(5, .own 500), (21, .int .i64 (.s fun _ => (i : Int)))], fun i => [(1, .cells 24 [.bool (.s fun _ => leaf), .dat (entsDV es)]), (500, .barr 5 fun _ => encTo leaf es i)],
      fun i => i ≤ es.length, fun i => es.length - i, 0, [(500, some 4700)], Nat.zero_le _, ⟨?_⟩, fun i hi => ?_⟩
    · cbv
      exact ⟨⟨⟨rfl⟩, trivial⟩, ⟨⟨⟨rfl⟩, ⟨rfl, fun _ _ _ _ => rfl⟩, trivial⟩, ⟨e0⟩, trivial⟩, ⟨by kernel_rfl⟩⟩
    · have hi : i ≤ es.length := hi
      cbv
      refine ⟨fun h2 => ?_, fun h2 => ?_⟩
      · have h2 : (i : Int) < (es.length : Int) := of_decide_eq_true h2
        have hlt : i < es.length := by omega
        have o1 : indexObl (i : Int) es.length := ⟨by omega, h2⟩
        have hE := entOk_at hp hlt
        have hL := encTo_length (i := i) hs
        have hN := encTo_next (leaf := leaf) hlt
        have hL' := encTo_length (i := i + 1) hs
        have hB := entB_length leaf (es.getD i default)
        rw [hN, List.length_append] at hL'
        have b0 := u8_range ((es.getD i default).key.length : Int)
        have b1 : lenOk ((encTo leaf es i).length + 1) 1 := by unfold lenOk; omega
        have b2 : lenOk ((encTo leaf es i ++ [UInt8.ofNat (IntKind.u8.wrap ((es.getD i default).key.length : Int)).toNat]).length + (es.getD i default).key.length) 1 := by
          have : (es.getD i default).key.length < (entB leaf (es.getD i default)).length := by unfold entB; simp only [List.length_cons, List.length_append]; omega
          unfold lenOk; simp only [List.length_append, List.length_cons, List.length_nil]; omega
        have l1 : (encTo leaf es i ++ [UInt8.ofNat (IntKind.u8.wrap ((es.getD i default).key.length : Int)).toNat] ++ (es.getD i default).key).length ≤ 4000 := by
          have : (es.getD i default).key.length < (entB leaf (es.getD i default)).length := by unfold entB; simp only [List.length_cons, List.length_append]; omega
          simp only [List.length_append, List.length_cons, List.length_nil]; omega
        have bi : bound64 ((i : Int) + 1) := by unfold bound64; omega
        have ei : (i : Int) + 1 = ((i + 1 : Nat) : Int) := by omega
        clear h2
        cbv
        refine ⟨⟨o1⟩, ?_⟩
        cbv
        refine ⟨⟨⟨b0, trivial⟩, b1⟩, ?_⟩
        cbv
        refine ⟨⟨trivial, b2⟩, ⟨by kernel_rfl⟩, ?_⟩
        cbv
        refine ⟨fun h3 => ?_, fun h3 => ?_⟩
        · have h3 : leaf = false := bnot_t h3
          have e5 := (enc_page (encTo leaf es i) (e := es.getD i default) h3).trans hN.symm
          cbv
          refine ⟨_, _, con42l hE.1.1 ?_, ⟨?_⟩, ?_⟩
          · exact Nat.lt_of_le_of_lt l1 (by decide)
          · rfl
          cbv
          refine ⟨⟨bi⟩, i + 1, [(500, some 8100)], hlt, ?_, ⟨?_⟩, ⟨?_⟩⟩
          · show es.length - (i + 1) < es.length - i
            omega
          · kernel_rfl
          · cbv
            exact ⟨⟨⟨ei⟩, trivial⟩, ⟨⟨⟨rfl⟩, ⟨rfl, fun _ _ _ _ => rfl⟩, trivial⟩, ⟨e5⟩, trivial⟩, ⟨by kernel_rfl⟩⟩
        · have h3 : leaf = true := bnot_f h3
          cbv
          refine ⟨fun h4 => ?_, fun h4 => ?_⟩
          · have h4 : (es.getD i default).page = 0 := of_decide_eq_true h4
            have e5 := (enc_val (encTo leaf es i) (e := es.getD i default) h3 h4).trans hN.symm
            have b3 := u8_range ((es.getD i default).val.length : Int)
            have lE : 2 + (es.getD i default).key.length + (es.getD i default).val.length = (entB leaf (es.getD i default)).length := by
              unfold entB; simp only [h3, h4, if_true, List.length_cons, List.length_append]; omega
            have b4 : lenOk ((encTo leaf es i ++ [UInt8.ofNat (IntKind.u8.wrap ((es.getD i default).key.length : Int)).toNat] ++ (es.getD i default).key).length + 1) 1 := len1 l1
            have lV : (es.getD i default).val.length ≤ 1008 := by omega
            have b5 : lenOk ((encTo leaf es i ++ [UInt8.ofNat (IntKind.u8.wrap ((es.getD i default).key.length : Int)).toNat] ++ (es.getD i default).key ++ [UInt8.ofNat (IntKind.u8.wrap ((es.getD i default).val.length : Int)).toNat]).length + (es.getD i default).val.length) 1 := len4 l1 lV
            cbv
            refine ⟨⟨⟨b3, trivial⟩, b4⟩, ⟨trivial, b5⟩, ⟨by kernel_rfl⟩, ?_⟩
            cbv
            refine ⟨⟨bi⟩, i + 1, [(500, some 65)], hlt, ?_, ⟨?_⟩, ⟨?_⟩⟩
            · show es.length - (i + 1) < es.length - i
              omega
            · kernel_rfl
            · cbv
              exact ⟨⟨⟨ei⟩, trivial⟩, ⟨⟨⟨rfl⟩, ⟨rfl, fun _ _ _ _ => rfl⟩, trivial⟩, ⟨e5⟩, trivial⟩, ⟨by kernel_rfl⟩⟩
          · have h4 : ¬ (es.getD i default).page = 0 := of_decide_eq_false h4
            have e5 := (enc_big (encTo leaf es i) (e := es.getD i default) h3 h4).trans hN.symm
            have b3 : (0 : Int) ≤ 255 ∧ (255 : Int) < 256 := by decide
            have b4 : lenOk ((encTo leaf es i ++ [UInt8.ofNat (IntKind.u8.wrap ((es.getD i default).key.length : Int)).toNat] ++ (es.getD i default).key).length + 1) 1 := len1 l1
            have l2 : (encTo leaf es i ++ [UInt8.ofNat (IntKind.u8.wrap ((es.getD i default).key.length : Int)).toNat] ++ (es.getD i default).key ++ [UInt8.ofNat (255 : Int).toNat]).length ≤ 5000 := len2 l1
            have l3 : (encTo leaf es i ++ [UInt8.ofNat (IntKind.u8.wrap ((es.getD i default).key.length : Int)).toNat] ++ (es.getD i default).key ++ [UInt8.ofNat (255 : Int).toNat] ++ lowB (es.getD i default).size.toNat 4).length ≤ 6000 := len3 l2
            cbv
            refine ⟨⟨⟨b3, trivial⟩, b4⟩, _, _, con42l hE.2.1 ?_, ⟨?_⟩, ?_⟩
            · exact Nat.lt_of_le_of_lt l2 (by decide)
            · rfl
            cbv
            refine ⟨_, _, con42l hE.1.1 ?_, ⟨?_⟩, ?_⟩
            · exact Nat.lt_of_le_of_lt l3 (by decide)
            · rfl
            cbv
            refine ⟨⟨by kernel_rfl⟩, ?_⟩
            cbv
            refine ⟨⟨bi⟩, i + 1, [(500, some 7300)], hlt, ?_, ⟨?_⟩, ⟨?_⟩⟩
            · show es.length - (i + 1) < es.length - i
              omega
            · kernel_rfl
            · cbv
              exact ⟨⟨⟨ei⟩, trivial⟩, ⟨⟨⟨rfl⟩, ⟨rfl, fun _ _ _ _ => rfl⟩, trivial⟩, ⟨e5⟩, trivial⟩, ⟨by kernel_rfl⟩⟩
      · have h2 : ¬ ((i : Int) < (es.length : Int)) := of_decide_eq_false h2
        have hle : i = es.length := by omega
        subst hle
        have e1 : encTo leaf es es.length = nodeB leaf es := by unfold encTo nodeB; rw [List.take_length]
        clear h2
        cbv
        refine ⟨[(2000, some 500)], [], ?_⟩
        cbv
        and_intros
        all_goals first | exact trivial | exact ⟨rfl⟩ | exact ⟨e1⟩ | exact ⟨h1.symm⟩ | exact ⟨by kernel_rfl⟩

set_option maxRecDepth 20000 in
set_option maxHeartbeats 4000000 in
theorem con25t {b : List UInt8} {es : List Ent} (hr : readP true b = some es) (hb : b.length < 1000000000000) (hp : ∀ e ∈ es, EntOk e) (hw : weight es + 20 * es.length < 1000000000000)
    (hc : checkI true es = 0) (he : nodeB true es = b) :
    Con 25 [.int .u8 (.l 1), .dat (.bytes fun _ => b)] [] (.tup [.agg [.bool (.s fun _ => true), .own 2000], .int .u16 (.s fun _ => 0)])
      [(2000, .arrD 74 4 (fun _ => es.length) (lrow encE fun _ => es))] := by
  refine con_of Try.func25 rfl rfl 42 _ rfl rfl rfl rfl ?_
  have hbad : ¬ (decide (nodeB true es = b) = false) := by rw [decide_eq_true he]; decide
  cbv
  refine ⟨fun h1 => ?_, fun h1 => ?_⟩
  · have h1 : ¬ (1 : Int) = 1 := of_decide_eq_false (bnot_t h1)
    exfalso
    exact h1 rfl
  · clear h1
    cbv
    refine ⟨_, _, con72 hr hb, ⟨?_⟩, ?_⟩
    · rfl
    cbv
    refine ⟨fun h2 => (by cases h2), fun _ => ?_⟩
    cbv
    refine ⟨_, _, con12o (leaf := true) (es := es) hp hw hc, ⟨?_⟩, ?_⟩
    · kernel_rfl
    cbv
    refine ⟨fun h3 => ?_, fun h3 => ?_⟩
    · have h3 : ¬ (0 : Int) = 0 := of_decide_eq_false (bnot_t h3)
      exfalso
      exact h3 rfl
    · clear h3
      cbv
      refine ⟨_, _, con73, ⟨?_⟩, ?_⟩
      · kernel_rfl
      cbv
      refine ⟨fun h4 => ?_, fun h4 => ?_⟩
      · have h4 : decide (nodeB true es = b) = false := bnot_t h4
        exfalso
        exact hbad h4
      · clear h4
        cbv
        refine ⟨[(2000, some 5100)], [], ?_⟩
        cbv
        and_intros
        all_goals first | exact trivial | exact ⟨rfl⟩ | exact ⟨rfl, fun _ _ _ _ => rfl⟩ | exact ⟨by kernel_rfl⟩
end Go.Proofs.Ytmdfjipjkkjpcaa

/- Node laws: what the chapter's examples fix. -/
namespace Go.Proofs.Ytmdfjipjkkjpcaa
open Go.SX

theorem con46l {l : List (List UInt8)} (hs : ∀ s ∈ l, s.length < 1000000000000) (hl : l.length < 1000000000000) :
    Con 46 [.dat (.sl 1 (fun _ => l.length) (litRow 1 (l.map fun s => .str fun _ => s)))] [] (.agg [.bool (.s fun _ => true), .own 2000]) [(2000, .arrD 1074 4 (fun _ => (pairL l).length) (lrow encE fun _ => pairL l))] := by
  refine (con46 hs hl).args fun η G w vs hv => ?_
  match vs, hv with
  | [v], hv =>
    refine ⟨?_, trivial⟩
    have hv := hv.1
    simp only [SVRel, DVRel] at hv ⊢
    obtain ⟨p, c, rfl, hc, hr⟩ := hv
    refine ⟨p, c, rfl, hc, fun i hi => ?_⟩
    obtain ⟨b, o, hb, hG, hj⟩ := hr i hi
    refine ⟨b, o, hb, hG, fun j hj' => ?_⟩
    obtain ⟨u, hu, hd⟩ := hj j hj'
    refine ⟨u, hu, ?_⟩
    have hj0 : j = 0 := by omega
    subst hj0
    have e : litRow 1 (l.map fun s => DV.str fun _ => s) (fun _ => i) 0 = strRow l (fun _ => i) 0 := by
      have key : ∀ (l : List (List UInt8)) (i : Nat), i < l.length → nthD (l.map fun s => DV.str fun _ => s) i (.bool fun _ => false) = DV.str fun _ => l.getD i default := by
        intro l
        induction l with
        | nil => intro i h; simp at h
        | cons s l ih =>
          intro i h
          cases i with
          | zero => rfl
          | succ i => simpa [nthD] using ih i (by simpa using h)
      unfold litRow strRow
      have := key l i hi
      simpa using this
    rw [e] at hd
    exact hd
  | [], hv => exact hv.elim
  | _ :: _ :: _, hv => exact hv.2.elim

def L1 : List (List UInt8) := [[97], [49]]
def L2 : List (List UInt8) := [[97], [49], [99], [49]]
def L3 : List (List UInt8) := [[97], [49], [98], [49], [99], [49]]
def L4 : List (List UInt8) := [[97], [49], [98], [49]]
def L5 : List (List UInt8) := [[99], [49]]
def L6 : List (List UInt8) := [[98], [49], [97], [49]]
theorem entOkL : ∀ (l : List (List UInt8)), ∀ e ∈ pairL l, EntOk e
  | [], e, h => by cases h
  | [_], e, h => by cases h
  | a :: b :: r, e, h => by
      simp only [pairL, List.mem_cons] at h
      rcases h with rfl | h
      · exact ⟨⟨Int.le_refl 0, by show (0 : Int) < 4294967296; decide⟩, Int.le_refl 0, by show (0 : Int) < 4294967296; decide⟩
      · exact entOkL r e h
theorem smallL : ∀ (l : List (List UInt8)), (∀ s ∈ l, s.length < 1000000000000) → ∀ e ∈ pairL l, SmallE e
  | [], _, e, h => by cases h
  | [_], _, e, h => by cases h
  | a :: b :: r, hs, e, h => by
      simp only [pairL, List.mem_cons] at h
      rcases h with rfl | h
      · exact ⟨hs a (by simp), hs b (by simp)⟩
      · exact smallL r (fun s h => hs s (by simp [h])) e h

theorem con31b {es : List Ent} (hl : es.length < 1000000000000) :
    Con 31 [nodeSV true es, .dat (.sl 1 (fun _ => 1) (litRow 1 [.int .u8 fun _ => 98]))] [] (.tup [.int .i64 (.s fun _ => (placeI (geP [98]) es : Int)), .bool (.s fun _ => foundB es [98])]) [] := by
  refine (con31t (key := [98]) hl).args fun η G w vs hv => ?_
  match vs, hv with
  | [v1, v2], hv =>
    obtain ⟨h1, h2, -⟩ := hv
    refine ⟨h1, ?_, trivial⟩
    simp only [SVRel, DVRel] at h2 ⊢
    obtain ⟨p, c, rfl, hc, hr⟩ := h2
    refine ⟨p, c, rfl, hc, fun i x hx => ?_⟩
    have hi : i = 0 := by
      cases i with
      | zero => rfl
      | succ i => simp at hx
    subst hi
    simp at hx
    subst hx
    obtain ⟨b, o, hb, hG, hj⟩ := hr 0 (by decide)
    obtain ⟨u, hu, hd⟩ := hj 0 (by decide)
    refine ⟨b, o, hb, hG, ?_⟩
    have hu' : w.cell? ⟨b, o + 0, none⟩ = some u := by simpa using hu
    rw [hu']
    simp only [litRow, nthD, DVRel] at hd
    rw [hd]; rfl
  | [], hv => exact hv.elim
  | [_], hv => exact hv.2.elim
  | _ :: _ :: _ :: _, hv => exact hv.2.2.elim

set_option maxRecDepth 20000 in
set_option maxHeartbeats 4000000 in
theorem con19 : Con 19 [] [] (.bool (.s fun _ => true)) [] := by
  refine con_of Try.func19 rfl rfl 92 _ rfl rfl rfl rfl ?_
  cbv
  refine ⟨_, _, con46l (l := L1) (by decide) (by decide), ⟨?_⟩, ?_⟩
  · kernel_rfl
  cbv
  refine ⟨_, _, con12o (leaf := true) (es := pairL L1) (entOkL _) (by decide) (by kernel_rfl), ⟨?_⟩, ?_⟩
  · kernel_rfl
  cbv
  refine ⟨_, _, con25t (b := nodeB true (pairL L1)) (es := pairL L1) (by kernel_rfl) (by decide) (entOkL _) (by decide) (by kernel_rfl) rfl, ⟨?_⟩, ?_⟩
  · kernel_rfl
  cbv
  refine ⟨_, _, con46l (l := L3) (by decide) (by decide), ⟨?_⟩, ?_⟩
  · kernel_rfl
  cbv
  refine ⟨_, _, con35t (es := pairL L3) (by decide) (smallL _ (by decide)) (by decide), ⟨?_⟩, ?_⟩
  · kernel_rfl
  cbv
  refine ⟨_, _, con46l (l := L2) (by decide) (by decide), ⟨?_⟩, ?_⟩
  · kernel_rfl
  cbv
  refine ⟨⟨⟨by decide, trivial⟩, by unfold lenOk; decide⟩, ?_⟩
  cbv
  refine ⟨_, _, con31t (es := pairL L2) (key := [98]) (by decide), ⟨?_⟩, ?_⟩
  · kernel_rfl
  cbv
  refine ⟨fun h1 => ?_, fun h1 => ?_⟩
  rotate_left
  · exfalso
    have h' : true = false := Eq.trans (by kernel_rfl) h1
    cases h'
  cbv
  refine ⟨fun h2 => ?_, fun h2 => ?_⟩
  rotate_left
  · exfalso
    have h' : true = false := Eq.trans (by kernel_rfl) h2
    cases h'
  cbv
  refine ⟨fun h3 => ?_, fun h3 => ?_⟩
  rotate_left
  · exfalso
    have h' : true = false := Eq.trans (by kernel_rfl) h3
    cases h'
  cbv
  refine ⟨_, _, con46l (l := L1) (by decide) (by decide), ⟨?_⟩, ?_⟩
  · kernel_rfl
  cbv
  refine ⟨_, _, con30 (la := true) (lb := true) (a := pairL L1) (b := pairL L1) (smallL _ (by decide)) (by decide), ⟨?_⟩, ?_⟩
  · kernel_rfl
  cbv
  refine ⟨fun h4 => ?_, fun h4 => ?_⟩
  rotate_left
  · exfalso
    have h' : true = false := Eq.trans (by kernel_rfl) h4
    cases h'
  cbv
  refine ⟨fun h5 => ?_, fun h5 => ?_⟩
  rotate_left
  · exfalso
    have h' : true = false := Eq.trans (by kernel_rfl) h5
    cases h'
  cbv
  refine ⟨⟨by kernel_rfl⟩, ?_⟩
  cbv
  refine ⟨fun h6 => ?_, fun h6 => ?_⟩
  rotate_left
  · exfalso
    have h' : true = false := Eq.trans (by kernel_rfl) h6
    cases h'
  cbv
  refine ⟨_, _, con46l (l := L4) (by decide) (by decide), ⟨?_⟩, ?_⟩
  · kernel_rfl
  cbv
  refine ⟨_, _, con30 (la := true) (lb := true) (a := (pairL L3).take (cutK true (pairL L3))) (b := pairL L4) (fun e he => smallL _ (by decide) e (List.mem_of_mem_take he)) (Nat.lt_of_le_of_lt (List.length_take_le _ _) (by decide)), ⟨?_⟩, ?_⟩
  · kernel_rfl
  cbv
  refine ⟨fun h7 => ?_, fun h7 => ?_⟩
  rotate_left
  · exfalso
    have h' : true = false := Eq.trans (by kernel_rfl) h7
    cases h'
  cbv
  refine ⟨_, _, con46l (l := L5) (by decide) (by decide), ⟨?_⟩, ?_⟩
  · kernel_rfl
  cbv
  refine ⟨_, _, con30 (la := true) (lb := true) (a := (pairL L3).drop (cutK true (pairL L3))) (b := pairL L5) (fun e he => smallL _ (by decide) e (List.mem_of_mem_drop he)) (Nat.lt_of_le_of_lt (by rw [List.length_drop]; exact Nat.sub_le _ _) (show (pairL L3).length < _ by decide)), ⟨?_⟩, ?_⟩
  · kernel_rfl
  cbv
  refine ⟨fun h8 => ?_, fun h8 => ?_⟩
  rotate_left
  · exfalso
    have h' : true = false := Eq.trans (by kernel_rfl) h8
    cases h'
  cbv
  refine ⟨fun h9 => ?_, fun h9 => ?_⟩
  rotate_left
  · exfalso
    have h' : true = false := Eq.trans (by kernel_rfl) h9
    cases h'
  cbv
  refine ⟨_, _, con46l (l := L6) (by decide) (by decide), ⟨?_⟩, ?_⟩
  · kernel_rfl
  cbv
  refine ⟨_, _, con13 (leaf := true) (es := pairL L6) (entOkL _) (by decide), ⟨?_⟩, ?_⟩
  · kernel_rfl
  cbv
  refine ⟨fun h10 => ?_, fun h10 => ?_⟩
  rotate_left
  · exfalso
    have h' : true = false := Eq.trans (by kernel_rfl) h10
    cases h'
  cbv
  refine ⟨_, _, con46l (l := L1) (by decide) (by decide), ⟨?_⟩, ?_⟩
  · kernel_rfl
  cbv
  refine ⟨_, _, con14 (leaf := true) (es := pairL L1) (by decide), ⟨?_⟩, ?_⟩
  · kernel_rfl
  cbv
  refine ⟨⟨by kernel_rfl⟩, ?_⟩
  cbv
  refine ⟨[], [], ?_⟩
  cbv
  and_intros
  all_goals first | exact trivial | exact ⟨by kernel_rfl⟩
end Go.Proofs.Ytmdfjipjkkjpcaa

/- Node laws: what is too much. -/
namespace Go.Proofs.Ytmdfjipjkkjpcaa
open Go.SX

def muchB (es : List Ent) : Bool := decide (20000 < es.length + weight es) || decide (500 < es.length)
def BigE (e : Ent) : Prop := e.key.length ≤ 281474976710656 ∧ e.val.length ≤ 281474976710656

theorem weight_next (es : List Ent) {i : Nat} (h : i < es.length) : weight (es.take (i + 1)) = weight (es.take i) + ((es.getD i default).key.length + (es.getD i default).val.length) := by
  rw [getD_take es h, weight_app]; simp [weight]
theorem weight_le (es : List Ent) (i : Nat) : weight (es.take i) ≤ weight es := by
  have h : es.take i ++ es.drop i = es := List.take_append_drop _ _
  have h2 := weight_app (es.take i) (es.drop i)
  rw [h] at h2
  omega

set_option maxRecDepth 20000 in
set_option maxHeartbeats 4000000 in
theorem con10 {leaf : Bool} {es : List Ent} (hb : ∀ e ∈ es, BigE e) (hl : es.length ≤ 281474976710656) : Con 10 [nodeSV leaf es] [] (.bool (.s fun _ => muchB es)) [] := by
  obtain ⟨n, hn⟩ : ∃ n, n = es.length := ⟨_, rfl⟩
  have en : ((es.length : Nat) : Int) = (n : Int) := by rw [hn]
  have hi0 : 0 ≤ es.length ∧ n = es.length + weight (es.take 0) ∧ (0 < es.length → n ≤ n + 0) := ⟨Nat.zero_le _, by simp [weight, hn], fun _ => by omega⟩
  refine con_of Try.func10 rfl rfl 44 _ rfl rfl rfl rfl ?_
  cbv
  refine ⟨Nat × Nat, [], fun x => [(3, .int .i64 (.s fun _ => (x.2 : Int))), (4, .int .i64 (.s fun _ => (x.1 : Int)))], fun x => [(1, .cells 24 [.bool (.s fun _ => leaf), .dat (entsDV es)])],
    fun x => x.1 ≤ es.length ∧ x.2 = es.length + weight (es.take x.1), fun x => es.length - x.1, (0, n), [], ⟨hi0.1, hi0.2.1⟩, ⟨?_⟩, fun x hx => ?_⟩
  · cbv
    and_intros
    all_goals first | exact trivial | exact ⟨en⟩ | exact ⟨rfl⟩ | exact ⟨rfl, fun _ _ _ _ => rfl⟩ | exact ⟨by kernel_rfl⟩
  · obtain ⟨i, s⟩ := x
    obtain ⟨hi, hs⟩ : i ≤ es.length ∧ s = es.length + weight (es.take i) := hx
    have hwl := weight_le es i
    have hbig : (20000 : Int) < (s : Int) → muchB es = true := fun h => by simp only [muchB, Bool.or_eq_true, decide_eq_true_eq]; left; omega
    cbv
    refine ⟨fun h1 => ?_, fun h1 => ?_⟩
    · have h1 : (i : Int) < (es.length : Int) := of_decide_eq_true h1
      have hlt : i < es.length := by omega
      have o1 : indexObl (i : Int) es.length := ⟨by omega, h1⟩
      have bi : bound64 ((i : Int) + 1) := by unfold bound64; omega
      have ei : (i : Int) + 1 = ((i + 1 : Nat) : Int) := by omega
      have hms : es.length - (i + 1) < es.length - i := by omega
      have hE := hb _ (getD_mem hlt)
      have hwn := weight_next es hlt
      cbv
      refine ⟨fun h2 => ?_, fun h2 => ?_⟩
      · have h2 : (s : Int) ≤ 20000 := of_decide_eq_true h2
        obtain ⟨E1, E2⟩ := hE
        have q1 : bound64 (((es.getD i default).key.length : Int) + ((es.getD i default).val.length : Int)) := by unfold bound64; omega
        have q2 : bound64 ((s : Int) + (((es.getD i default).key.length : Int) + ((es.getD i default).val.length : Int))) := by unfold bound64; omega
        obtain ⟨s', hs'⟩ : ∃ s', s' = s + ((es.getD i default).key.length + (es.getD i default).val.length) := ⟨_, rfl⟩
        have es' : (s : Int) + (((es.getD i default).key.length : Int) + ((es.getD i default).val.length : Int)) = (s' : Int) := by omega
        have hinv : i + 1 ≤ es.length ∧ s' = es.length + weight (es.take (i + 1)) := ⟨hlt, by rw [hs', hs, hwn]; omega⟩
        clear h1 h2 hs' hwn
        cbv
        refine ⟨⟨o1⟩, ⟨o1⟩, ⟨q1⟩, ⟨q2⟩, ⟨by kernel_rfl⟩, ?_⟩
        cbv
        refine ⟨⟨bi⟩, (i + 1, s'), [], hinv, hms, ⟨?_⟩, ⟨?_⟩⟩
        · kernel_rfl
        · cbv
          and_intros
          all_goals first | exact trivial | exact ⟨rfl⟩ | exact ⟨es'⟩ | exact ⟨ei⟩ | exact ⟨rfl, fun _ _ _ _ => rfl⟩ | exact ⟨by kernel_rfl⟩
      · have h2 : ¬ (s : Int) ≤ 20000 := of_decide_eq_false h2
        have hsmall : ¬ (20000 : Int) < (s : Int) → decide ((500 : Int) < (es.length : Int)) = muchB es := fun h => by omega
        cbv
        refine ⟨fun h5 => ?_, fun h5 => ?_⟩
        · have h5 : (20000 : Int) < (s : Int) := of_decide_eq_true h5
          have e1 : true = muchB es := (hbig h5).symm
          cbv
          refine ⟨[], [], ?_⟩
          cbv
          and_intros
          all_goals first | exact trivial | exact ⟨e1⟩ | exact ⟨rfl⟩ | exact ⟨rfl, fun _ _ _ _ => rfl⟩ | exact ⟨by kernel_rfl⟩
        · have h5 : ¬ (20000 : Int) < (s : Int) := of_decide_eq_false h5
          have e1 : decide ((500 : Int) < (es.length : Int)) = muchB es := hsmall h5
          cbv
          refine ⟨[], [], ?_⟩
          cbv
          and_intros
          all_goals first | exact trivial | exact ⟨e1⟩ | exact ⟨rfl⟩ | exact ⟨rfl, fun _ _ _ _ => rfl⟩ | exact ⟨by kernel_rfl⟩
    · have h1 : ¬ (i : Int) < (es.length : Int) := of_decide_eq_false h1
      have hle : i = es.length := by omega
      have hsmall : ¬ (20000 : Int) < (s : Int) → decide ((500 : Int) < (es.length : Int)) = muchB es := fun h => by
        rw [hle, List.take_length] at hs
        have : decide (20000 < es.length + weight es) = false := decide_eq_false (by omega)
        simp only [muchB, this, Bool.false_or]
        exact decide_eq_decide.2 (by omega)
      clear h1 hle
      cbv
      refine ⟨fun h5 => ?_, fun h5 => ?_⟩
      · have h5 : (20000 : Int) < (s : Int) := of_decide_eq_true h5
        have e1 : true = muchB es := (hbig h5).symm
        cbv
        refine ⟨[], [], ?_⟩
        cbv
        and_intros
        all_goals first | exact trivial | exact ⟨e1⟩ | exact ⟨rfl⟩ | exact ⟨rfl, fun _ _ _ _ => rfl⟩ | exact ⟨by kernel_rfl⟩
      · have h5 : ¬ (20000 : Int) < (s : Int) := of_decide_eq_false h5
        have e1 : decide ((500 : Int) < (es.length : Int)) = muchB es := hsmall h5
        cbv
        refine ⟨[], [], ?_⟩
        cbv
        and_intros
        all_goals first | exact trivial | exact ⟨e1⟩ | exact ⟨rfl⟩ | exact ⟨rfl, fun _ _ _ _ => rfl⟩ | exact ⟨by kernel_rfl⟩
end Go.Proofs.Ytmdfjipjkkjpcaa

/- Node laws: the order of bytes, and of keys. -/
namespace Go.Proofs.Ytmdfjipjkkjpcaa
open Go.SX

theorem u8_lt {a b : UInt8} : a < b ↔ a.toNat < b.toNat := Iff.rfl
theorem u8_tri (a b : UInt8) : a < b ∨ b < a ∨ a = b := by
  rcases Nat.lt_trichotomy a.toNat b.toNat with h | h | h
  · exact .inl h
  · exact .inr (.inr (UInt8.toNat.inj h))
  · exact .inr (.inl h)

theorem cmp_self : ∀ (a : List UInt8), Lib.compareBytes a a = 0
  | [] => rfl
  | x :: a => by
      have h : ¬ x < x := by rw [u8_lt]; omega
      simp only [Lib.compareBytes, h, if_false, cmp_self a]
theorem cmp_zero : ∀ {a b : List UInt8}, Lib.compareBytes a b = 0 → a = b
  | [], [], _ => rfl
  | [], _ :: _, h => by simp [Lib.compareBytes] at h
  | _ :: _, [], h => by simp [Lib.compareBytes] at h
  | x :: a, y :: b, h => by
      unfold Lib.compareBytes at h
      split at h
      · omega
      · split at h
        · omega
        · rcases u8_tri x y with h1 | h1 | h1
          · contradiction
          · contradiction
          · rw [h1, cmp_zero h]
theorem cmp_anti : ∀ (a b : List UInt8), Lib.compareBytes b a = - Lib.compareBytes a b
  | [], [] => rfl
  | [], _ :: _ => rfl
  | _ :: _, [] => rfl
  | x :: a, y :: b => by
      unfold Lib.compareBytes
      rcases u8_tri x y with h | h | h
      · have h' : ¬ y < x := by rw [u8_lt] at h ⊢; omega
        simp [h, h']
      · have h' : ¬ x < y := by rw [u8_lt] at h ⊢; omega
        simp [h, h']
      · subst h
        have h' : ¬ x < x := by rw [u8_lt]; omega
        simp only [h', if_false]
        exact cmp_anti a b
theorem cmp_trans : ∀ {a b d : List UInt8}, Lib.compareBytes a b < 0 → Lib.compareBytes b d < 0 → Lib.compareBytes a d < 0
  | [], b, [], h1, h2 => by cases b <;> simp [Lib.compareBytes] at h1 h2
  | [], _, _ :: _, _, _ => by simp [Lib.compareBytes]
  | _ :: _, [], _, h1, _ => by simp [Lib.compareBytes] at h1
  | _ :: _, _ :: _, [], _, h2 => by simp [Lib.compareBytes] at h2
  | x :: a, y :: b, z :: d, h1, h2 => by
      unfold Lib.compareBytes at h1 h2 ⊢
      simp only [u8_lt] at h1 h2 ⊢
      by_cases hxy : x.toNat < y.toNat
      · by_cases hyz : y.toNat < z.toNat
        · rw [if_pos (by omega)]; omega
        · rw [if_neg hyz] at h2
          by_cases hzy : z.toNat < y.toNat
          · rw [if_pos hzy] at h2; omega
          · rw [if_pos (by omega)]; omega
      · rw [if_neg hxy] at h1
        by_cases hyx : y.toNat < x.toNat
        · rw [if_pos hyx] at h1; omega
        · rw [if_neg hyx] at h1
          by_cases hyz : y.toNat < z.toNat
          · rw [if_pos (by omega)]; omega
          · rw [if_neg hyz] at h2
            by_cases hzy : z.toNat < y.toNat
            · rw [if_pos hzy] at h2; omega
            · rw [if_neg hzy] at h2
              rw [if_neg (by omega), if_neg (by omega)]
              exact cmp_trans h1 h2
theorem less_cmp : ∀ (a b : List UInt8), Op.bytesLess a b = decide (Lib.compareBytes a b < 0)
  | [], [] => rfl
  | [], _ :: _ => by simp [Op.bytesLess, Lib.compareBytes]
  | _ :: _, [] => by simp [Op.bytesLess, Lib.compareBytes]
  | x :: a, y :: b => by
      unfold Op.bytesLess Lib.compareBytes
      rw [less_cmp a b]
      rcases u8_tri x y with h | h | h
      · simp [h]
      · have h' : ¬ x < y := by rw [u8_lt] at h ⊢; omega
        have h2 : x ≠ y := by intro e; subst e; rw [u8_lt] at h; omega
        simp [h, h', h2]
      · subst h
        have h' : ¬ x < x := by rw [u8_lt]; omega
        simp [h']
theorem leq_cmp (a b : List UInt8) : (Op.bytesLess a b || a == b) = !gtP b a := by
  rw [less_cmp]
  have h0 := @cmp_zero a b
  unfold gtP
  rcases Int.lt_trichotomy (Lib.compareBytes a b) 0 with h | h | h
  · have : ¬ 0 < Lib.compareBytes a b := by omega
    simp [h, this]
  · have := h0 h
    subst this
    simp [h]
  · have h1 : ¬ Lib.compareBytes a b < 0 := by omega
    have h2 : a ≠ b := by intro e; subst e; rw [cmp_self] at h; omega
    simp [h, h1, h2]

/-- Do the keys rise? -/
def RisesL (es : List Ent) : Prop := ∀ i j, i < j → j < es.length → Lib.compareBytes (es.getD i default).key (es.getD j default).key < 0

theorem rises_of {es : List Ent} (h : ∀ i, 0 < i → i < es.length → Lib.compareBytes (es.getD (i - 1) default).key (es.getD i default).key < 0) : RisesL es := by
  intro i j hij
  induction j with
  | zero => omega
  | succ j ih =>
    intro hj
    have h1 := h (j + 1) (by omega) hj
    simp only [Nat.add_sub_cancel] at h1
    by_cases he : i = j
    · subst he; exact h1
    · exact cmp_trans (ih (by omega) (by omega)) h1

theorem okTo_at {leaf : Bool} {es : List Ent} : ∀ {n i : Nat}, okTo leaf es n = true → i < n → okAt leaf es i = true
  | 0, i, _, h => by omega
  | n + 1, i, h, hi => by
      simp only [okTo, Bool.and_eq_true] at h
      by_cases he : i = n
      · subst he; exact h.2
      · exact okTo_at h.1 (by omega)
theorem may_at {leaf : Bool} {es : List Ent} (h : mayB leaf es = true) : 0 < es.length ∧ ∀ i, i < es.length → keyBad leaf i (es.getD i default) = false ∧ orderBad leaf es i (es.getD i default) = false := by
  simp only [mayB, Bool.and_eq_true, decide_eq_true_eq] at h
  refine ⟨h.2, fun i hi => ?_⟩
  have := okTo_at h.1 hi
  simp only [okAt, Bool.and_eq_true, Bool.not_eq_true'] at this
  exact this
theorem may_rises {leaf : Bool} {es : List Ent} (h : mayB leaf es = true) : RisesL es := by
  obtain ⟨_, h⟩ := may_at h
  refine rises_of fun i h0 hi => ?_
  have := (h i hi).2
  simp only [orderBad, Bool.or_eq_false_iff, Bool.and_eq_false_iff, decide_eq_false_iff_not] at this
  rcases this.1 with h1 | h1 <;> omega
theorem may_first {es : List Ent} (h : mayB false es = true) : (es.getD 0 default).key = [] := by
  obtain ⟨h0, h⟩ := may_at h
  have := (h 0 h0).1
  simp only [keyBad, Bool.or_eq_false_iff] at this
  have := this.1
  simp at this
  exact this

theorem binS_law {p : Nat → Bool} {n : Nat} (hm : ∀ i j, i ≤ j → j < n → p i = true → p j = true) : ∀ (i j : Nat), i ≤ j → j ≤ n → (∀ k, k < i → p k = false) → (∀ k, j ≤ k → k < n → p k = true) →
    (∀ k, k < binS p i j → p k = false) ∧ ∀ k, binS p i j ≤ k → k < n → p k = true := by
  intro i j hij hj h1 h2
  rw [binS.eq_1 p i j]
  split
  · rename_i hlt
    split
    · rename_i hp
      exact binS_law hm i ((i + j) / 2) (by omega) (by omega) h1 fun k hk hk' => hm _ _ hk hk' hp
    · rename_i hp
      refine binS_law hm ((i + j) / 2 + 1) j (by omega) hj (fun k hk => ?_) h2
      cases hc : p k with
      | false => rfl
      | true => exact absurd (hm k ((i + j) / 2) (by omega) (by omega) hc) hp
  · exact ⟨fun k hk => h1 k hk, fun k hk hk' => h2 k (by omega) hk'⟩
termination_by i j => j - i
decreasing_by all_goals omega

theorem place_law {p : List UInt8 → Bool} {es : List Ent} (hm : ∀ i j, i ≤ j → j < es.length → p (es.getD i default).key = true → p (es.getD j default).key = true) :
    (∀ k, k < placeI p es → p (es.getD k default).key = false) ∧ ∀ k, placeI p es ≤ k → k < es.length → p (es.getD k default).key = true :=
  binS_law (p := fun i => p (es.getD i default).key) hm 0 es.length (Nat.zero_le _) (Nat.le_refl _) (fun k hk => by omega) (fun k hk hk' => by omega)

theorem gt_mono {es : List Ent} (hr : RisesL es) (key : List UInt8) : ∀ i j, i ≤ j → j < es.length → gtP key (es.getD i default).key = true → gtP key (es.getD j default).key = true := by
  intro i j hij hj h
  by_cases he : i = j
  · subst he; exact h
  · have h1 := hr i j (by omega) hj
    simp only [gtP, decide_eq_true_eq] at h ⊢
    have h2 := cmp_anti (es.getD i default).key key
    have h3 := cmp_anti (es.getD i default).key (es.getD j default).key
    have h4 := cmp_anti (es.getD j default).key key
    have h5 : Lib.compareBytes key (es.getD i default).key < 0 := by omega
    have := cmp_trans h5 h1
    omega
theorem ge_mono {es : List Ent} (hr : RisesL es) (key : List UInt8) : ∀ i j, i ≤ j → j < es.length → geP key (es.getD i default).key = true → geP key (es.getD j default).key = true := by
  intro i j hij hj h
  by_cases he : i = j
  · subst he; exact h
  · have h1 := hr i j (by omega) hj
    simp only [geP, decide_eq_true_eq] at h ⊢
    have h2 := cmp_anti (es.getD i default).key key
    have h4 := cmp_anti (es.getD j default).key key
    by_cases h0 : Lib.compareBytes key (es.getD i default).key = 0
    · have := cmp_zero h0
      rw [← this] at h1
      omega
    · have h5 : Lib.compareBytes key (es.getD i default).key < 0 := by omega
      have := cmp_trans h5 h1
      omega

/-- NodePlaces' law. -/
theorem places_law {es : List Ent} {key : List UInt8} (h : mayB false es = true) : placeI (gtP key) es - 1 < es.length ∧ ∀ i, i < es.length →
    ((Op.bytesLess (es.getD i default).key key || (es.getD i default).key == key) != decide (i ≤ placeI (gtP key) es - 1)) = false := by
  have hr := may_rises h
  obtain ⟨h0, _⟩ := may_at h
  obtain ⟨l1, l2⟩ := place_law (gt_mono hr key)
  have hle := placeI_le (p := gtP key) (es := es)
  have hf := may_first h
  have hpos : 1 ≤ placeI (gtP key) es := by
    rcases Nat.eq_zero_or_pos (placeI (gtP key) es) with hz | hz
    · have := l2 0 (by omega) h0
      rw [hf] at this
      simp only [gtP, decide_eq_true_eq] at this
      cases key <;> simp [Lib.compareBytes] at this
    · exact hz
  refine ⟨by omega, fun i hi => ?_⟩
  rw [leq_cmp]
  by_cases hc : i < placeI (gtP key) es
  · rw [l1 i hc, decide_eq_true (by omega)]; rfl
  · rw [l2 i (by omega) hi, decide_eq_false (by omega)]; rfl
end Go.Proofs.Ytmdfjipjkkjpcaa

/- NodePlaces: the walk. -/
namespace Go.Proofs.Ytmdfjipjkkjpcaa
open Go.SX

theorem much_ok {es : List Ent} (h : muchB es = false) : es.length ≤ 500 ∧ es.length + weight es ≤ 20000 := by
  simp only [muchB, Bool.or_eq_false_iff, decide_eq_false_iff_not] at h
  omega
theorem may_of_check {leaf : Bool} {es : List Ent} (h : ¬ checkI leaf es = 90) : mayB leaf es = true := by
  cases hm : mayB leaf es with
  | true => rfl
  | false => exact absurd (by unfold checkI; rw [hm]; rfl) h

set_option maxRecDepth 20000 in
set_option maxHeartbeats 4000000 in
theorem con5 {leaf : Bool} {es : List Ent} {key : List UInt8} (hp : ∀ e ∈ es, EntOk e) (hb : ∀ e ∈ es, BigE e) (hl : es.length ≤ 281474976710656) :
    Con 5 [nodeSV leaf es, .dat (.bytes fun _ => key)] [] (.bool (.s fun _ => true)) [] := by
  refine con_of Try.func5 rfl rfl 67 _ rfl rfl rfl rfl ?_
  cbv
  refine ⟨_, _, con10 (leaf := leaf) hb hl, ⟨?_⟩, ?_⟩
  · kernel_rfl
  cbv
  refine ⟨fun h1 => ?_, fun h1 => ?_⟩
  · cbv
    refine ⟨_, _, con19, ⟨?_⟩, ?_⟩
    · kernel_rfl
    cbv
    refine ⟨[], [], ?_⟩
    cbv
    and_intros
    all_goals first | exact trivial | exact ⟨rfl⟩ | exact ⟨by kernel_rfl⟩
  · have h1 : muchB es = false := h1
    obtain ⟨hlen, hwt⟩ := much_ok h1
    have hw2 : weight es + 20 * es.length < 1000000000000 := by omega
    have hl2 : es.length < 1000000000000 := by omega
    cbv
    refine ⟨fun h2 => ?_, fun h2 => ?_⟩
    · cbv
      refine ⟨_, _, con19, ⟨?_⟩, ?_⟩
      · kernel_rfl
      cbv
      refine ⟨[], [], ?_⟩
      cbv
      and_intros
      all_goals first | exact trivial | exact ⟨rfl⟩ | exact ⟨by kernel_rfl⟩
    · clear h2
      cbv
      refine ⟨_, _, con19, ⟨?_⟩, ?_⟩
      · kernel_rfl
      cbv
      refine ⟨fun h3 => ?_, fun h3 => ?_⟩
      · exfalso
        cases h3
      · cbv
        refine ⟨fun h4 => ?_, fun h4 => ?_⟩
        · cbv
          refine ⟨[], [], ?_⟩
          cbv
          and_intros
          all_goals first | exact trivial | exact ⟨rfl⟩ | exact ⟨by kernel_rfl⟩
        · have h4 : leaf = false := h4
          subst h4
          cbv
          refine ⟨_, _, con13 (leaf := false) (es := es) hp hw2, ⟨?_⟩, ?_⟩
          · kernel_rfl
          cbv
          refine ⟨fun h5 => ?_, fun h5 => ?_⟩
          · cbv
            refine ⟨[], [], ?_⟩
            cbv
            and_intros
            all_goals first | exact trivial | exact ⟨rfl⟩ | exact ⟨by kernel_rfl⟩
          · have h5 : ¬ checkI false es = 90 := of_decide_eq_false h5
            have hm := may_of_check h5
            have hlw := places_law (key := key) hm
            have ca := con31f (key := key) hl2
            obtain ⟨k, hk⟩ : ∃ k, k = placeI (gtP key) es - 1 := ⟨_, rfl⟩
            rw [← hk] at hlw ca
            obtain ⟨hkl, hlaw⟩ := hlw
            have hpos : 0 < es.length := by omega
            have hk0 : ¬ (k : Int) < 0 := by omega
            have hk1 : ¬ (es.length : Int) ≤ (k : Int) := by omega
            clear h5 hk
            cbv
            refine ⟨_, _, ca, ⟨?_⟩, ?_⟩
            · kernel_rfl
            cbv
            refine ⟨fun h6 => ?_, fun h6 => ?_⟩
            · have h6 : decide (0 < es.length) = false := bnot_t h6
              rw [decide_eq_true hpos] at h6
              exfalso
              cases h6
            · cbv
              refine ⟨fun h7 => ?_, fun h7 => ?_⟩
              · have h7 : (k : Int) < 0 := of_decide_eq_true h7
                exfalso
                exact hk0 h7
              · cbv
                refine ⟨fun h8 => ?_, fun h8 => ?_⟩
                · have h8 : (es.length : Int) ≤ (k : Int) := of_decide_eq_true h8
                  exfalso
                  exact hk1 h8
                · cbv
                  refine ⟨Nat, [], fun i => [(7, .int .i64 (.s fun _ => (i : Int)))], fun _ => [(2, .cells 24 [.bool (.s fun _ => false), .dat (entsDV es)])],
                    fun i => i ≤ es.length, fun i => es.length - i, 0, [], Nat.zero_le _, ⟨?_⟩, fun i hi => ?_⟩
                  · cbv
                    and_intros
                    all_goals first | exact trivial | exact ⟨rfl⟩ | exact ⟨rfl, fun _ _ _ _ => rfl⟩ | exact ⟨by kernel_rfl⟩
                  · have hi : i ≤ es.length := hi
                    cbv
                    refine ⟨fun h9 => ?_, fun h9 => ?_⟩
                    · have h9 : (i : Int) < (es.length : Int) := of_decide_eq_true h9
                      have hlt : i < es.length := by omega
                      have o1 : indexObl (i : Int) es.length := ⟨by omega, h9⟩
                      have bi : bound64 ((i : Int) + 1) := by unfold bound64; omega
                      have ei : (i : Int) + 1 = ((i + 1 : Nat) : Int) := by omega
                      have hms : es.length - (i + 1) < es.length - i := by omega
                      have hlw := hlaw i hlt
                      have hik : decide ((i : Int) ≤ (k : Int)) = decide (i ≤ k) := decide_eq_decide.2 (by omega)
                      rw [← hik] at hlw
                      clear h9
                      cbv
                      refine ⟨⟨o1⟩, ⟨by kernel_rfl⟩, ?_⟩
                      cbv
                      refine ⟨fun h10 => ?_, fun h10 => ?_⟩
                      · have h10 : ((Op.bytesLess (es.getD i default).key key || (es.getD i default).key == key) != decide ((i : Int) ≤ (k : Int))) = true := h10
                        rw [hlw] at h10
                        exfalso
                        cases h10
                      · cbv
                        refine ⟨⟨bi⟩, i + 1, [], hlt, hms, ⟨?_⟩, ⟨?_⟩⟩
                        · kernel_rfl
                        · cbv
                          and_intros
                          all_goals first | exact trivial | exact ⟨rfl⟩ | exact ⟨ei⟩ | exact ⟨rfl, fun _ _ _ _ => rfl⟩ | exact ⟨by kernel_rfl⟩
                    · cbv
                      refine ⟨[], [], ?_⟩
                      cbv
                      and_intros
                      all_goals first | exact trivial | exact ⟨rfl⟩ | exact ⟨by kernel_rfl⟩
end Go.Proofs.Ytmdfjipjkkjpcaa

/- Node laws: an argument's data, off its reading. -/
namespace Go.Proofs.Ytmdfjipjkkjpcaa
open Go.SX

theorem list_of {α : Type} [Inhabited α] {Q : Nat → α → Prop} : ∀ (n : Nat), (∀ i, i < n → ∃ y, Q i y) → ∃ ys : List α, ys.length = n ∧ ∀ i, i < n → Q i (ys.getD i default)
  | 0, _ => ⟨[], rfl, fun i h => by omega⟩
  | n + 1, h => by
      obtain ⟨ys, h1, h2⟩ := list_of n fun i hi => h i (by omega)
      obtain ⟨y, hy⟩ := h n (by omega)
      refine ⟨ys ++ [y], by simp [h1], fun i hi => ?_⟩
      by_cases he : i < n
      · rw [List.getD_eq_getElem?_getD, List.getElem?_append_left (by omega), ← List.getD_eq_getElem?_getD]
        exact h2 i he
      · have : i = n := by omega
        subst this
        rw [List.getD_eq_getElem?_getD, List.getElem?_append_right (by omega), h1]
        simpa using hy

theorem cell_spot {w : World} {a : Addr} {v : Value} (h : w.cell? a = some v) : a.spot = none ∧ a.block < w.heap.size := by
  unfold World.cell? at h
  split at h
  · rename_i c t fr hh
    split at h
    · cases h
    · rename_i hs
      exact ⟨by simpa using hs, (Array.getElem?_eq_some_iff.1 hh).1⟩
  · cases h

def Old (w : World) (b : Nat) : Prop := b < w.heap.size

section
variable {H : Type} {enc : TypeId × Value → H} {P : Program} {w : World} {base : Nat} {spare : Nat → Bool} {held : Bool}

theorem data_u8 {fuel : Nat} {cs : List Value} {x : DataW H × List MemPlace} {T : TypeId} (hT : P.underlying T = some (.int .u8)) (h : DataW.trod enc P w base spare held fuel T cs = some x) : ∃ b : UInt8, cs = [.int .u8 (b.toNat : Int)] := by
  obtain ⟨n, rfl, -, hw⟩ := DataW.trod_int hT h
  simp only [Lit.wf, Bool.and_eq_true, decide_eq_true_eq, IntKind.min, IntKind.max, IntKind.bits, IntKind.signed] at hw
  refine ⟨UInt8.ofNat n.toNat, ?_⟩
  have h1 : 0 ≤ n ∧ n ≤ 255 := by simpa using hw
  have : ((UInt8.ofNat n.toNat).toNat : Int) = n := by simp only [UInt8.toNat_ofNat']; omega
  rw [this]
theorem data_u32 {fuel : Nat} {cs : List Value} {x : DataW H × List MemPlace} {T : TypeId} (hT : P.underlying T = some (.int .u32)) (h : DataW.trod enc P w base spare held fuel T cs = some x) : ∃ n : Int, cs = [.int .u32 n] ∧ 0 ≤ n ∧ n < 4294967296 := by
  obtain ⟨n, rfl, -, hw⟩ := DataW.trod_int hT h
  simp only [Lit.wf, Bool.and_eq_true, decide_eq_true_eq, IntKind.min, IntKind.max, IntKind.bits, IntKind.signed] at hw
  have h1 : 0 ≤ n ∧ n ≤ 4294967295 := by simpa using hw
  exact ⟨n, rfl, h1.1, by omega⟩

/-- Is nothing of it greater than the form's own reach? -/
def Wt (P : Program) (t : TypeId) (d : DataW H) : Prop := ∀ n ∈ d.weights P t, n ≤ reachBytes

theorem wt_slice {T e : TypeId} {ds sp : List (DataW H)} (hT : P.underlying T = some (.slice e)) (h : Wt P T (.slice ds sp)) : (ds.length + sp.length) * P.bytesOf e ≤ reachBytes ∧ ∀ (i : Nat) (y : DataW H), ds[i]? = some y → Wt P e y := by
  unfold Wt at h
  simp only [DataW.weights, hT] at h
  refine ⟨h _ (by simp), fun i y hy n hn => h n ?_⟩
  have : ∀ (l : List (DataW H)) (i : Nat), l[i]? = some y → n ∈ DataW.weightsAll P e l := by
    intro l
    induction l with
    | nil => intro i h; simp at h
    | cons a l ih =>
      intro i h
      simp only [DataW.weightsAll, List.mem_append]
      cases i with
      | zero => simp at h; subst h; exact .inl hn
      | succ i => exact .inr (ih i (by simpa using h))
  simp only [List.mem_cons, List.mem_append]
  exact .inr (.inl (this ds i hy))

theorem wt_struct {T : TypeId} {fs : Array Field} {ps : List (DataW H)} (hT : P.underlying T = some (.struct fs)) (h : Wt P T (.agg ps)) : ∀ (i : Nat) (f : Field) (y : DataW H), fs[i]? = some f → ps[i]? = some y → Wt P f.type y := by
  unfold Wt at h
  simp only [DataW.weights, hT] at h
  intro i f y hf hy n hn
  exact h n (DataW.weights_mem_each (j := i) (by simp [hf]) hy n hn)

/-- A slice's elements. -/
theorem data_slice {fuel : Nat} {cs : List Value} {x : DataW H × List MemPlace} {T e : TypeId} (hT : P.underlying T = some (.slice e)) (h : DataW.trod enc P w base spare held fuel T cs = some x) (hw : Wt P T x.1) :
    ∃ (p : Option Addr) (len cap : Nat), cs = [.slice p len cap] ∧ len ≤ cap ∧ len * P.bytesOf e ≤ reachBytes ∧ (len = 0 ∨ ∃ a, p = some a) ∧ ∀ a, p = some a → ∀ i, i < len →
      ∃ (n : Nat) (es : List Value) (y : DataW H × List MemPlace), w.cells? base (a.add (i * P.cellsOf e)) (P.cellsOf e) = some es ∧ DataW.trod enc P w base spare held n e es = some y ∧ Wt P e y.1 := by
  rcases DataW.trod_slice hT h with ⟨rfl, -⟩ | ⟨a, len, cap, elems, rest, n, -, rfl, hx, -, h1, h2, hl, he, -⟩
  · exact ⟨none, 0, 0, rfl, Nat.le_refl _, by simp, .inl rfl, fun a h => by cases h⟩
  · rw [hx] at hw
    obtain ⟨hw1, hw2⟩ := wt_slice hT hw
    have hw1 : len * P.bytesOf e ≤ reachBytes := Nat.le_trans (Nat.mul_le_mul_right _ (by simp [hl])) hw1
    refine ⟨some a, len, cap, rfl, h1, hw1, .inr ⟨a, rfl⟩, fun a' ha i hi => ?_⟩
    cases ha
    have hx := he i hi
    have hi' : i < elems.length := by omega
    rw [List.getElem?_eq_getElem hi'] at hx
    obtain ⟨es, h3, h4⟩ := Option.bind_eq_some_iff.1 hx
    exact ⟨n, es, _, h3, h4, hw2 i _ (by simp [hi'])⟩

theorem data_bytes {fuel : Nat} {cs : List Value} {x : DataW H × List MemPlace} {T e : TypeId} (hT : P.underlying T = some (.slice e)) (he : P.underlying e = some (.int .u8)) (hc : P.cellsOf e = 1) (hb : P.bytesOf e = 1)
    (h : DataW.trod enc P w base spare held fuel T cs = some x) (hw : Wt P T x.1) : ∃ (bs : List UInt8) (v : Value), cs = [v] ∧ bs.length ≤ reachBytes ∧ DVRel w (Old w) (.bytes fun _ => bs) v := by
  obtain ⟨p, len, cap, rfl, h1, h2, hp, hel⟩ := data_slice hT h hw
  rw [hb, Nat.mul_one] at h2
  rcases hp with rfl | ⟨a, rfl⟩
  · exact ⟨[], _, rfl, Nat.zero_le _, p, cap, rfl, Nat.zero_le _, fun i x hx => by simp at hx⟩
  · have key : ∀ i, i < len → ∃ b : UInt8, w.cell? (a.add i) = some (.int .u8 (b.toNat : Int)) := by
      intro i hi
      obtain ⟨n, es, y, h3, h4, -⟩ := hel a rfl i hi
      obtain ⟨b, rfl⟩ := data_u8 he h4
      have := (World.cells?_some h3).2.2 0 (by rw [hc]; decide)
      rw [hc, Nat.mul_one] at this
      exact ⟨b, by simpa [Addr.add] using this⟩
    obtain ⟨bs, hb1, hb2⟩ := list_of len key
    refine ⟨bs, _, rfl, by omega, some a, cap, by simp only [hb1], by simp only [hb1]; exact h1, fun i x hx => ?_⟩
    have hil : i < len := by rw [← hb1]; exact (List.getElem?_eq_some_iff.1 hx).1
    have hbx : bs.getD i default = x := by rw [List.getD_eq_getElem?_getD, hx]; rfl
    have hs := cell_spot (hb2 0 (by omega))
    obtain ⟨b, o, sp⟩ := a
    have hsp : sp = none := by simpa [Addr.add] using hs.1
    subst hsp
    refine ⟨b, o, rfl, (by simpa [Addr.add] using hs.2 : b < w.heap.size), ?_⟩
    have := hb2 i hil
    rw [hbx, add_none] at this
    exact this

def fieldsE (B W8 : TypeId) (fs : Array Field) : Prop :=
  ∃ f0 f1 f2 f3, fs = #[f0, f1, f2, f3] ∧ (f0.type = B ∧ f0.offset = 0) ∧ (f1.type = B ∧ f1.offset = 1) ∧ (f2.type = W8 ∧ f2.offset = 2) ∧ (f3.type = W8 ∧ f3.offset = 3)

/-- An entry's four cells. -/
theorem data_ent {fuel : Nat} {cs : List Value} {x : DataW H × List MemPlace} {e B u W8 : TypeId} {fs : Array Field} (he : P.underlying e = some (.struct fs)) (hc : P.cellsOf e = 4)
    (hB : P.underlying B = some (.slice u)) (hu : P.underlying u = some (.int .u8)) (hu1 : P.cellsOf u = 1) (hub : P.bytesOf u = 1) (hB1 : P.cellsOf B = 1) (hW : P.underlying W8 = some (.int .u32)) (hW1 : P.cellsOf W8 = 1)
    (hfs : fieldsE B W8 fs) (h : DataW.trod enc P w base spare held fuel e cs = some x) (hw : Wt P e x.1) :
    ∃ (y : Ent) (c0 c1 c2 c3 : Value), cs = [c0, c1, c2, c3] ∧ (EntOk y ∧ y.key.length ≤ reachBytes ∧ y.val.length ≤ reachBytes) ∧
      DVRel w (Old w) (encE (fun _ => y) 0) c0 ∧ DVRel w (Old w) (encE (fun _ => y) 1) c1 ∧ DVRel w (Old w) (encE (fun _ => y) 2) c2 ∧ DVRel w (Old w) (encE (fun _ => y) 3) c3 := by
  obtain ⟨f0, f1, f2, f3, rfl, ⟨t0, o0⟩, ⟨t1, o1⟩, ⟨t2, o2⟩, ⟨t3, o3⟩⟩ := hfs
  obtain ⟨xs, m, -, hx, hl4, hxl, hf⟩ := DataW.trod_struct he h
  have hxl : xs.length = 4 := by simpa using hxl
  rw [hx] at hw
  have hws := wt_struct he hw
  have q : ∀ (k : Nat) (f : Field) (t : TypeId) (o : Nat), (#[f0, f1, f2, f3] : Array Field)[k]? = some f → f.type = t → f.offset = o → P.cellsOf t = 1 → k < 4 → ∃ z, DataW.trod enc P w base spare held m t ((cs.drop o).take 1) = some z ∧ Wt P t z.1 := by
    intro k f t o hk ht ho hct hk4
    have h1 := hf k f hk
    rw [ht, ho, hct] at h1
    rw [h1, List.getElem?_eq_getElem (by omega)]
    refine ⟨_, rfl, ?_⟩
    rw [← ht]
    exact hws k f _ hk (by simp [show k < xs.length by omega])
  obtain ⟨z0, q0, w0⟩ := q 0 f0 B 0 rfl t0 o0 hB1 (by decide)
  obtain ⟨z1, q1, w1⟩ := q 1 f1 B 1 rfl t1 o1 hB1 (by decide)
  obtain ⟨z2, q2, w2⟩ := q 2 f2 W8 2 rfl t2 o2 hW1 (by decide)
  obtain ⟨z3, q3, w3⟩ := q 3 f3 W8 3 rfl t3 o3 hW1 (by decide)
  obtain ⟨kb, kv, ke, kl, kd⟩ := data_bytes hB hu hu1 hub q0 w0
  obtain ⟨vb, vv, ve, vl, vd⟩ := data_bytes hB hu hu1 hub q1 w1
  obtain ⟨pg, pe, pr⟩ := data_u32 hW q2
  obtain ⟨sz, se, sr⟩ := data_u32 hW q3
  rw [hc] at hl4
  match cs, hl4 with
  | [c0, c1, c2, c3], _ =>
    simp at ke ve pe se
    subst ke; subst ve; subst pe; subst se
    exact ⟨⟨kb, vb, pg, sz⟩, _, _, _, _, rfl, ⟨⟨pr, sr⟩, kl, vl⟩, kd, vd, rfl, rfl⟩

theorem data_ents {fuel : Nat} {cs : List Value} {x : DataW H × List MemPlace} {T e B u W8 : TypeId} {fs : Array Field} (hT : P.underlying T = some (.slice e)) (he : P.underlying e = some (.struct fs)) (hc : P.cellsOf e = 4) (heb : 0 < P.bytesOf e)
    (hB : P.underlying B = some (.slice u)) (hu : P.underlying u = some (.int .u8)) (hu1 : P.cellsOf u = 1) (hub : P.bytesOf u = 1) (hB1 : P.cellsOf B = 1) (hW : P.underlying W8 = some (.int .u32)) (hW1 : P.cellsOf W8 = 1)
    (hfs : fieldsE B W8 fs) (h : DataW.trod enc P w base spare held fuel T cs = some x) (hw : Wt P T x.1) : ∃ (es : List Ent) (v : Value), cs = [v] ∧ es.length ≤ reachBytes ∧ DVRel w (Old w) (entsDV es) v ∧
      ∀ y ∈ es, EntOk y ∧ y.key.length ≤ reachBytes ∧ y.val.length ≤ reachBytes := by
  obtain ⟨p, len, cap, rfl, h1, h2, hp, hel⟩ := data_slice hT h hw
  have h2 : len ≤ reachBytes := Nat.le_trans (Nat.le_mul_of_pos_right _ heb) h2
  rcases hp with rfl | ⟨a, rfl⟩
  · exact ⟨[], _, rfl, Nat.zero_le _, ⟨p, cap, rfl, Nat.zero_le _, fun i hi => by simp at hi⟩, fun y hy => by cases hy⟩
  · have key : ∀ i, i < len → ∃ y : Ent, (EntOk y ∧ y.key.length ≤ reachBytes ∧ y.val.length ≤ reachBytes) ∧ ∀ j, j < 4 → ∃ v, w.cell? ((a.add (i * 4)).add j) = some v ∧ DVRel w (Old w) (encE (fun _ => y) j) v := by
      intro i hi
      obtain ⟨n, es, y, h3, h4, hwy⟩ := hel a rfl i hi
      rw [hc] at h3
      obtain ⟨-, -, hcell⟩ := World.cells?_some h3
      obtain ⟨e, c0, c1, c2, c3, rfl, hok, d0, d1, d2, d3⟩ := data_ent he hc hB hu hu1 hub hB1 hW hW1 hfs h4 hwy
      refine ⟨e, hok, fun j hj => ?_⟩
      match j, hj with
      | 0, _ => exact ⟨_, hcell 0 (by decide), d0⟩
      | 1, _ => exact ⟨_, hcell 1 (by decide), d1⟩
      | 2, _ => exact ⟨_, hcell 2 (by decide), d2⟩
      | 3, _ => exact ⟨_, hcell 3 (by decide), d3⟩
      | j + 4, hj => omega
    obtain ⟨es, hb1, hb2⟩ := list_of len key
    refine ⟨es, _, rfl, by omega, ⟨some a, cap, by simp only [hb1], by simp only [hb1]; exact h1, fun i hi => ?_⟩, fun y hy => ?_⟩
    · simp only [hb1] at hi
      obtain ⟨v0, hv0, -⟩ := (hb2 0 (by omega)).2 0 (by decide)
      have hs := cell_spot hv0
      obtain ⟨b, o, sp⟩ := a
      have hsp : sp = none := by simpa [Addr.add] using hs.1
      subst hsp
      refine ⟨b, o, rfl, (by simpa [Addr.add] using hs.2 : b < w.heap.size), fun j hj => ?_⟩
      obtain ⟨v, hv, hd⟩ := (hb2 i hi).2 j hj
      rw [add_none, add_none] at hv
      exact ⟨v, hv, hd⟩
    · obtain ⟨i, hi, rfl⟩ := List.getElem_of_mem hy
      have := (hb2 i (by omega)).1
      rw [List.getD_eq_getElem?_getD, List.getElem?_eq_getElem hi] at this
      exact this

/-- A node's two cells. -/
theorem data_node {fuel : Nat} {cs : List Value} {x : DataW H × List MemPlace} {N L T e B u W8 : TypeId} {fs gs : Array Field} (hN : P.underlying N = some (.struct gs)) (hNc : P.cellsOf N = 2) (hL : P.underlying L = some .bool) (hLc : P.cellsOf L = 1) (hTc : P.cellsOf T = 1)
    (hgs : ∃ g0 g1, gs = #[g0, g1] ∧ (g0.type = L ∧ g0.offset = 0) ∧ (g1.type = T ∧ g1.offset = 1))
    (hT : P.underlying T = some (.slice e)) (he : P.underlying e = some (.struct fs)) (hc : P.cellsOf e = 4) (heb : 0 < P.bytesOf e)
    (hB : P.underlying B = some (.slice u)) (hu : P.underlying u = some (.int .u8)) (hu1 : P.cellsOf u = 1) (hub : P.bytesOf u = 1) (hB1 : P.cellsOf B = 1) (hW : P.underlying W8 = some (.int .u32)) (hW1 : P.cellsOf W8 = 1)
    (hfs : fieldsE B W8 fs) (h : DataW.trod enc P w base spare held fuel N cs = some x) (hw : Wt P N x.1) :
    ∃ (leaf : Bool) (es : List Ent) (v : Value), cs = [.bool leaf, v] ∧ es.length ≤ reachBytes ∧ DVRel w (Old w) (entsDV es) v ∧ ∀ y ∈ es, EntOk y ∧ y.key.length ≤ reachBytes ∧ y.val.length ≤ reachBytes := by
  obtain ⟨g0, g1, rfl, ⟨t0, o0⟩, ⟨t1, o1⟩⟩ := hgs
  obtain ⟨xs, m, -, hx, hl2, hxl, hf⟩ := DataW.trod_struct hN h
  have hxl : xs.length = 2 := by simpa using hxl
  rw [hx] at hw
  have hws := wt_struct hN hw
  have h0 := hf 0 g0 rfl
  have h1 := hf 1 g1 rfl
  rw [t0, o0, hLc, List.getElem?_eq_getElem (by omega)] at h0
  rw [t1, o1, hTc, List.getElem?_eq_getElem (by omega)] at h1
  have hw1 := hws 1 g1 _ rfl (show (xs.map (·.1))[1]? = some (xs[1]'(by omega)).1 by simp [show 1 < xs.length by omega])
  rw [t1] at hw1
  obtain ⟨b, hb, -⟩ := DataW.trod_bool hL h0
  obtain ⟨es, v, hv, he1, he2, he3⟩ := data_ents hT he hc heb hB hu hu1 hub hB1 hW hW1 hfs h1 hw1
  rw [hNc] at hl2
  match cs, hl2 with
  | [c0, c1], _ =>
    simp at hb hv
    subst hb; subst hv
    exact ⟨b, es, _, rfl, he1, he2, he3⟩
end
end Go.Proofs.Ytmdfjipjkkjpcaa

/- Node laws: the row's step. -/
namespace Go.Proofs.Ytmdfjipjkkjpcaa
open Go.SX
open Go.ChangeShapes Go.WideShapes Go.ChangeAt Go.RowKit

theorem Try.own' : ownKnob Try.prog.godebug = none := by kernel_rfl
theorem Try.laidOut' : laidOutB Try.prog = true := by kernel_rfl

theorem calls_of_con {f : Nat} {svs : List SV} (h : Con f svs [] (.bool (.s fun _ => true)) []) (hf : FnOk Try.prog f) {W : World} {vs : List Value} (hs : SVRels (fun _ => none) (Old W) W svs vs) (hlt : f < 4096 := by decide) :
    Calls Try.prog f ⟨vs⟩ W fun e W' => e = .returned (.bool true) ∧ Below W.heap.size W W' := by
  have hsep : Sep (fun _ => none) (Old W) W := ⟨fun k o h => (by cases h), fun k o k' o' h => (by cases h), fun k o h => (by cases h), fun b h => h⟩
  have h0 := h.spec (fun _ => none) (Old W) vs W hsep (fun k => trivial) hs
  rw [runs_calls hlt] at h0
  rcases h0 with ⟨_, hc⟩ | ⟨v, w', hc, _⟩
  · refine hc.mono ?_
    rintro e w' ⟨v, rfl, η', G', hv, -, -, hev⟩
    refine ⟨?_, hev.os, hev.tape, hev.out, hev.size, fun k hk => hev.keep k hk fun k o h => (by cases h)⟩
    simp only [SVRel, BE.den] at hv
    rw [hv]
  · rw [run_callFunc hf] at hc
    cases hc

theorem post_below {H : Type} {enc : TypeId × Value → H} {P : Program} {f : Func} {s : ChangeSpec} {apart fresh handsOn : Bool} {W W' : World} {args : Array Value} {v : Value} {ds gs : List (DataW H)} {before pa pv : List MemPlace}
    (hW : DataW.Whole enc P f.params.toList s.vars apart W args.toList ds gs before)
    (hres : ∀ (b : Nat) (sp : Nat → Bool) (hd : Bool), DataW.TrodAll enc P W' b sp hd f.resultTypes.toList (v.resultList f.resultTypes.size) (s.fn H (ds ++ gs)).results [])
    (hargs : DataW.TrodAll enc P W' 0 (fun b => decide (b < W.heap.size)) true f.params.toList args.toList (s.fn H (ds ++ gs)).args pa)
    (hvars : DataW.TrodVars enc P W' (fun b => decide (b < W.heap.size)) s.vars (s.fn H (ds ++ gs)).vars pv)
    (hps : before = pa ++ pv) (hb : Below W.heap.size W W') : s.post enc P f apart fresh handsOn false W args v W' := by
  refine ⟨ds, gs, before, [], pa, pv, hW, hres _ _ _, hargs, hvars, World.keptBut_mono (fun p hp => ⟨hp, ?_⟩) (hb.frame (· ∈ before)), fun h => by cases h⟩
  rw [hps, List.mem_append] at hp
  exact Or.inr hp

set_option maxRecDepth 100000 in
/-- A node's SV, off its reading. -/
theorem open_node {H : Type} {enc : TypeId × Value → H} {W : World} {v : Value} {d : DataW H} {p : List MemPlace} {base : Nat}
    (hval : Value.okWide Try.prog W .any base 24 v) (h : DataW.Trod enc Try.prog W 0 (fun _ => true) true 24 v d p) (hw : Wt Try.prog 24 d) :
    ∃ (leaf : Bool) (es : List Ent), SVRel (fun _ => none) (Old W) W (nodeSV leaf es) v ∧ es.length ≤ reachBytes ∧ ∀ y ∈ es, EntOk y ∧ y.key.length ≤ reachBytes ∧ y.val.length ≤ reachBytes := by
  obtain ⟨fuel, h⟩ := h
  obtain ⟨leaf, es, u, hcs, h1, h2, h3⟩ := data_node (x := (d, p)) Try.underlying24 (by kernel_rfl) Try.underlying4 (by kernel_rfl) (by kernel_rfl) ⟨_, _, rfl, ⟨rfl, rfl⟩, ⟨rfl, rfl⟩⟩ Try.underlying22 Try.underlying74 (by kernel_rfl) (of_decide_eq_true (by kernel_rfl))
    Try.underlying27 Try.underlying5 (by kernel_rfl) (by kernel_rfl) (by kernel_rfl) Try.underlying72 (by kernel_rfl) ⟨_, _, _, _, rfl, ⟨rfl, rfl⟩, ⟨rfl, rfl⟩, ⟨rfl, rfl⟩, ⟨rfl, rfl⟩⟩ h hw
  refine ⟨leaf, es, ?_, h1, h3⟩
  simp only [Value.okWide, Try.underlying24] at hval
  obtain ⟨cs, rfl, -, -⟩ := hval
  have hcs : cs.toList = [.bool leaf, u] := hcs
  obtain ⟨cs⟩ := cs
  simp only at hcs
  subst hcs
  exact ⟨_, rfl, rfl, h2, trivial⟩

set_option maxRecDepth 100000 in
theorem one_cell {W : World} {base : Nat} {v : Value} {u : Value} (hval : Value.okWide Try.prog W .any base 27 v) (h : v.cells.toList = [u]) : v = u := by
  simp only [Value.okWide, Cell.okWide, Try.underlying27] at hval
  cases v with
  | agg cs => simp [Cell.ok, Try.underlying27] at hval
  | _ => simpa [Value.cells] using h

set_option maxRecDepth 100000 in
theorem open_bytes' {H : Type} {enc : TypeId × Value → H} {W : World} {v : Value} {d : DataW H} {p : List MemPlace} {base : Nat}
    (hval : Value.okWide Try.prog W .any base 27 v) (h : DataW.Trod enc Try.prog W 0 (fun _ => true) true 27 v d p) (hw : Wt Try.prog 27 d) :
    ∃ bs : List UInt8, SVRel (fun _ => none) (Old W) W (.dat (.bytes fun _ => bs)) v ∧ bs.length ≤ reachBytes := by
  obtain ⟨fuel, h⟩ := h
  obtain ⟨bs, u, hcs, h1, h2⟩ := data_bytes (x := (d, p)) Try.underlying27 Try.underlying5 (by kernel_rfl) (by kernel_rfl) h hw
  have := one_cell hval hcs
  subst this
  exact ⟨bs, h2, h1⟩

theorem wt_of {H : Type} {P : Program} {ts : List TypeId} {ds : List (DataW H)} (h : (DataW.weightsEach P ts ds).all (· ≤ reachBytes) = true) {j : Nat} {t : TypeId} {d : DataW H} (ht : ts[j]? = some t) (hd : ds[j]? = some d) : Wt P t d := by
  intro n hn
  have := List.all_eq_true.1 h _ (DataW.weights_mem_each ht hd n hn)
  simpa using this
theorem big_of {es : List Ent} (h : ∀ y ∈ es, EntOk y ∧ y.key.length ≤ reachBytes ∧ y.val.length ≤ reachBytes) : ∀ e ∈ es, BigE e := by
  intro e he
  obtain ⟨-, h1, h2⟩ := h e he
  have : reachBytes ≤ 281474976710656 := by decide
  exact ⟨by omega, by omega⟩

set_option maxRecDepth 100000 in
theorem places_lifted (os : Os) (started : os.Started) (H : Type) (enc : TypeId × Value → H) :
    ReturnsInHanded {} Try.checked os 5 .any (Rows.nodePlacesSpec.pre6 enc Try.prog Try.f5 Rows.nodePlacesRow.domain false) (Rows.nodePlacesSpec.post enc Try.prog Try.f5 false true false false) := by
  refine returnsInHanded_of_change_sized (C := Try.checked) Try.own' started (by kernel_rfl) Try.func5
    (ChangeSpec.witness6 (enc := enc) (C := Try.checked) false ⟨#[], #[.agg #[.bool false, .slice none 0 0], .slice none 0 0], []⟩ 8 (by kernel_rfl) (by kernel_rfl) (by kernel_rfl) (by kernel_rfl)) ?_
  intro W base args ds gs before hval0 hW hcnd hsz _
  have hval : ∀ (j : Nat) t v, Try.f5.params[j]? = some t → args[j]? = some v → Value.okWide Try.prog W .any base t v := hval0
  have hW' := hW
  obtain ⟨p, q, hA0, hV, rfl, hfz, hnd⟩ := hW
  have hA : DataW.TrodAll enc Try.prog W 0 (fun _ => true) true Try.f5.params.toList args.toList ds p := hA0
  have hsz : (DataW.weightsEach Try.prog (Try.f5.params.toList ++ Rows.nodePlacesSpec.plain.varTypes Try.prog) (ds ++ gs)).all (· ≤ reachBytes) = true := hsz
  rw [Try.params5] at hA hval hsz
  obtain ⟨v0, v1, d0, d1, p0, p1, rfl, rfl, rfl, h0, h1⟩ := trodAll_two hA
  obtain ⟨rfl, rfl⟩ := trodVars_none hV
  obtain ⟨leaf, es, r0, l0, e0⟩ := open_node (hval 0 24 v0 rfl rfl) h0 (wt_of hsz (j := 0) rfl rfl)
  obtain ⟨key, r1, l1⟩ := open_bytes' (hval 1 27 v1 rfl rfl) h1 (wt_of hsz (j := 1) rfl rfl)
  have hrb : reachBytes ≤ 281474976710656 := by decide
  clear hA0 hval0
  simp only [List.append_nil] at hW'
  refine (calls_of_con (con5 (leaf := leaf) (es := es) (key := key) (fun e he => (e0 e he).1) (big_of e0) (by omega)) ⟨_, _, Try.func5, rfl, rfl⟩ (vs := [v0, v1]) ⟨r0, r1, trivial⟩).mono fun e W' ⟨he, hb⟩ => ?_
  subst he
  have hlt : ∀ x ∈ p0 ++ p1, x.block < W.heap.size := fun x hx => hW'.lt x hx
  refine ⟨_, rfl, post_below (pa := p0 ++ p1) (pv := []) hW' (fun _ _ _ => trodAll_mk1 (shut_bool Try.underlying4 _)) (trodAll_mk2 (Below.trod Try.laidOut' (by kernel_rfl) (of_decide_eq_true (by kernel_rfl)) h0 hb fun x hx => hlt x (by simp [hx])) (Below.trod Try.laidOut' (by kernel_rfl) (of_decide_eq_true (by kernel_rfl)) h1 hb fun x hx => hlt x (by simp [hx]))) rfl (by simp) hb⟩

/-- NodePlaces is true for every input. -/
theorem places_holds : Rows.NodePlacesSaid :=
  OpenClaim.holds_of_wide 5 Try.f5 rfl rfl rfl rfl rfl rfl rfl ⟨rfl, rfl, rfl, rfl, rfl⟩ rfl rfl rfl rfl rfl (by kernel_rfl) Try.func5 (by kernel_rfl)
    (of_decide_eq_true (by kernel_rfl)) (by unfold Func.isWrapper; first | (rw [if_pos (by decide +kernel)]; kernel_rfl) | (rw [if_neg (by decide +kernel)]; exact ⟨rfl, rfl⟩))
    (fun os started H enc _ => places_lifted os started H enc)
end Go.Proofs.Ytmdfjipjkkjpcaa

