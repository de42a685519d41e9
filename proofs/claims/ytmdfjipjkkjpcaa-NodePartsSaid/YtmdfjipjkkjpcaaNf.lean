/- Node laws: Decode of what is written. -/
import Derived.Test.YtmdfjipjkkjpcaaNa
namespace Go.Proofs.Ytmdfjipjkkjpcaa
open Go.SX

set_option maxRecDepth 20000 in
set_option maxHeartbeats 4000000 in
theorem con12o {leaf : Bool} {es : List Ent} (hp : ∀ e ∈ es, EntOk e) (hw : weight es + 20 * es.length < 1000000000000) (hc0 : checkI leaf es = 0) :
    Con 12 [nodeSV leaf es] [] (.tup [.own 2000, .int .u16 (.s fun _ => 0)]) [(2000, .barr 5 fun _ => nodeB leaf es)] := by
  refine con_of Try.func12 rfl rfl 68 _ rfl rfl rfl rfl ?_
  cbv
  refine ⟨_, _, con13 (leaf := leaf) (es := es) hp hw, ⟨?_⟩, ?_⟩
  · rfl
  cbv
  refine ⟨fun h1 => ?_, fun h1 => ?_⟩
  · have h1 : ¬ checkI leaf es = 0 := of_decide_eq_false (bnot_t h1)
    exfalso
    exact h1 hc0
  · have h1 : checkI leaf es = 0 := of_decide_eq_true (bnot_f h1)
    obtain ⟨hm, hs⟩ := checkI_ok h1
    have hl := sizeL_len leaf es
    have w1 : (IntKind.u32.wrap (es.length : Int)).toNat = es.length := by rw [IntKind.wrap_u32]; omega
    have w2 : 0 ≤ IntKind.u32.wrap (es.length : Int) := by rw [IntKind.wrap_u32]; omega
    have e0 : lowB (IntKind.u32.wrap (es.length : Int)).toNat 2 = encTo leaf es 0 := by rw [w1]; simp [encTo, entsB]
    cbv
    refine ⟨_, _, con42nl w2, ⟨?_⟩, ?_⟩
    · rfl
    cbv
    refine ⟨Nat, [500], fun i => [(5, .own 500), (21, .int .i64 (.s fun _ => (i : Int)))], fun i => [(1, .cells 24 [.bool (.s fun _ => leaf), .dat (entsDV es)]), (500, .barr 5 fun _ => encTo leaf es i)],
      fun i => i ≤ es.length, fun i => es.length - i, 0, [(500, some 4700)], Nat.zero_le _, ⟨?_⟩, fun i hi => ?_⟩
    · cbv
      exact ⟨⟨⟨rfl⟩, trivial⟩, ⟨⟨⟨rfl⟩, ⟨rfl, fun _ _ _ _ => rfl⟩, trivial⟩, ⟨e0⟩, trivial⟩, ⟨by kernel_rfl⟩⟩
    · have hi : i ≤ es.length := hi
      cbv
      refine ⟨fun h2 => ?_, fun h2 => ?_⟩
      · have h2 : (i : Int) < (es.length : Int) := of_decide_eq_true h2
        have hlt : i < es.length := by omega
        have o1 : indexObl (i : Int) es.length := ⟨by omega, h2⟩
        have hE := entOk_at hp hlt
        have hL := encTo_length (i := i) hs
        have hN := encTo_next (leaf := leaf) hlt
        have hL' := encTo_length (i := i + 1) hs
        have hB := entB_length leaf (es.getD i default)
        rw [hN, List.length_append] at hL'
        have b0 := u8_range ((es.getD i default).key.length : Int)
        have b1 : lenOk ((encTo leaf es i).length + 1) 1 := by unfold lenOk; omega
        have b2 : lenOk ((encTo leaf es i ++ [UInt8.ofNat (IntKind.u8.wrap ((es.getD i default).key.length : Int)).toNat]).length + (es.getD i default).key.length) 1 := by
          have : (es.getD i default).key.length < (entB leaf (es.getD i default)).length := by unfold entB; simp only [List.length_cons, List.length_append]; omega
          unfold lenOk; simp only [List.length_append, List.length_cons, List.length_nil]; omega
        have l1 : (encTo leaf es i ++ [UInt8.ofNat (IntKind.u8.wrap ((es.getD i default).key.length : Int)).toNat] ++ (es.getD i default).key).length ≤ 4000 := by
          have : (es.getD i default).key.length < (entB leaf (es.getD i default)).length := by unfold entB; simp only [List.length_cons, List.length_append]; omega
          simp only [List.length_append, List.length_cons, List.length_nil]; omega
        have bi : bound64 ((i : Int) + 1) := by unfold bound64; omega
        have ei : (i : Int) + 1 = ((i + 1 : Nat) : Int) := by omega
        clear h2
        cbv
        refine ⟨⟨o1⟩, ?_⟩
        cbv
        refine ⟨⟨⟨b0, trivial⟩, b1⟩, ?_⟩
        cbv
        refine ⟨⟨trivial, b2⟩, ⟨by kernel_rfl⟩, ?_⟩
        cbv
        refine ⟨fun h3 => ?_, fun h3 => ?_⟩
        · have h3 : leaf = false := bnot_t h3
          have e5 := (enc_page (encTo leaf es i) (e := es.getD i default) h3).trans hN.symm
          cbv
          refine ⟨_, _, con42l hE.1.1 ?_, ⟨?_⟩, ?_⟩
          · exact Nat.lt_of_le_of_lt l1 (by decide)
          · rfl
          cbv
          refine ⟨⟨bi⟩, i + 1, [(500, some 8100)], hlt, ?_, ⟨?_⟩, ⟨?_⟩⟩
          · show es.length - (i + 1) < es.length - i
            omega
          · kernel_rfl
          · cbv
            exact ⟨⟨⟨ei⟩, trivial⟩, ⟨⟨⟨rfl⟩, ⟨rfl, fun _ _ _ _ => rfl⟩, trivial⟩, ⟨e5⟩, trivial⟩, ⟨by kernel_rfl⟩⟩
        · have h3 : leaf = true := bnot_f h3
          cbv
          refine ⟨fun h4 => ?_, fun h4 => ?_⟩
          · have h4 : (es.getD i default).page = 0 := of_decide_eq_true h4
            have e5 := (enc_val (encTo leaf es i) (e := es.getD i default) h3 h4).trans hN.symm
            have b3 := u8_range ((es.getD i default).val.length : Int)
            have lE : 2 + (es.getD i default).key.length + (es.getD i default).val.length = (entB leaf (es.getD i default)).length := by
              unfold entB; simp only [h3, h4, if_true, List.length_cons, List.length_append]; omega
            have b4 : lenOk ((encTo leaf es i ++ [UInt8.ofNat (IntKind.u8.wrap ((es.getD i default).key.length : Int)).toNat] ++ (es.getD i default).key).length + 1) 1 := len1 l1
            have lV : (es.getD i default).val.length ≤ 1008 := by omega
            have b5 : lenOk ((encTo leaf es i ++ [UInt8.ofNat (IntKind.u8.wrap ((es.getD i default).key.length : Int)).toNat] ++ (es.getD i default).key ++ [UInt8.ofNat (IntKind.u8.wrap ((es.getD i default).val.length : Int)).toNat]).length + (es.getD i default).val.length) 1 := len4 l1 lV
            cbv
            refine ⟨⟨⟨b3, trivial⟩, b4⟩, ⟨trivial, b5⟩, ⟨by kernel_rfl⟩, ?_⟩
            cbv
            refine ⟨⟨bi⟩, i + 1, [(500, some 65)], hlt, ?_, ⟨?_⟩, ⟨?_⟩⟩
            · show es.length - (i + 1) < es.length - i
              omega
            · kernel_rfl
            · cbv
              exact ⟨⟨⟨ei⟩, trivial⟩, ⟨⟨⟨rfl⟩, ⟨rfl, fun _ _ _ _ => rfl⟩, trivial⟩, ⟨e5⟩, trivial⟩, ⟨by kernel_rfl⟩⟩
          · have h4 : ¬ (es.getD i default).page = 0 := of_decide_eq_false h4
            have e5 := (enc_big (encTo leaf es i) (e := es.getD i default) h3 h4).trans hN.symm
            have b3 : (0 : Int) ≤ 255 ∧ (255 : Int) < 256 := by decide
            have b4 : lenOk ((encTo leaf es i ++ [UInt8.ofNat (IntKind.u8.wrap ((es.getD i default).key.length : Int)).toNat] ++ (es.getD i default).key).length + 1) 1 := len1 l1
            have l2 : (encTo leaf es i ++ [UInt8.ofNat (IntKind.u8.wrap ((es.getD i default).key.length : Int)).toNat] ++ (es.getD i default).key ++ [UInt8.ofNat (255 : Int).toNat]).length ≤ 5000 := len2 l1
            have l3 : (encTo leaf es i ++ [UInt8.ofNat (IntKind.u8.wrap ((es.getD i default).key.length : Int)).toNat] ++ (es.getD i default).key ++ [UInt8.ofNat (255 : Int).toNat] ++ lowB (es.getD i default).size.toNat 4).length ≤ 6000 := len3 l2
            cbv
            refine ⟨⟨⟨b3, trivial⟩, b4⟩, _, _, con42l hE.2.1 ?_, ⟨?_⟩, ?_⟩
            · exact Nat.lt_of_le_of_lt l2 (by decide)
            · rfl
            cbv
            refine ⟨_, _, con42l hE.1.1 ?_, ⟨?_⟩, ?_⟩
            · exact Nat.lt_of_le_of_lt l3 (by decide)
            · rfl
            cbv
            refine ⟨⟨by kernel_rfl⟩, ?_⟩
            cbv
            refine ⟨⟨bi⟩, i + 1, [(500, some 7300)], hlt, ?_, ⟨?_⟩, ⟨?_⟩⟩
            · show es.length - (i + 1) < es.length - i
              omega
            · kernel_rfl
            · cbv
              exact ⟨⟨⟨ei⟩, trivial⟩, ⟨⟨⟨rfl⟩, ⟨rfl, fun _ _ _ _ => rfl⟩, trivial⟩, ⟨e5⟩, trivial⟩, ⟨by kernel_rfl⟩⟩
      · have h2 : ¬ ((i : Int) < (es.length : Int)) := of_decide_eq_false h2
        have hle : i = es.length := by omega
        subst hle
        have e1 : encTo leaf es es.length = nodeB leaf es := by unfold encTo nodeB; rw [List.take_length]
        clear h2
        cbv
        refine ⟨[(2000, some 500)], [], ?_⟩
        cbv
        and_intros
        all_goals first | exact trivial | exact ⟨rfl⟩ | exact ⟨e1⟩ | exact ⟨h1.symm⟩ | exact ⟨by kernel_rfl⟩

set_option maxRecDepth 20000 in
set_option maxHeartbeats 4000000 in
theorem con25t {b : List UInt8} {es : List Ent} (hr : readP true b = some es) (hb : b.length < 1000000000000) (hp : ∀ e ∈ es, EntOk e) (hw : weight es + 20 * es.length < 1000000000000)
    (hc : checkI true es = 0) (he : nodeB true es = b) :
    Con 25 [.int .u8 (.l 1), .dat (.bytes fun _ => b)] [] (.tup [.agg [.bool (.s fun _ => true), .own 2000], .int .u16 (.s fun _ => 0)])
      [(2000, .arrD 74 4 (fun _ => es.length) (lrow encE fun _ => es))] := by
  refine con_of Try.func25 rfl rfl 42 _ rfl rfl rfl rfl ?_
  have hbad : ¬ (decide (nodeB true es = b) = false) := by rw [decide_eq_true he]; decide
  cbv
  refine ⟨fun h1 => ?_, fun h1 => ?_⟩
  · have h1 : ¬ (1 : Int) = 1 := of_decide_eq_false (bnot_t h1)
    exfalso
    exact h1 rfl
  · clear h1
    cbv
    refine ⟨_, _, con72 hr hb, ⟨?_⟩, ?_⟩
    · rfl
    cbv
    refine ⟨fun h2 => (by cases h2), fun _ => ?_⟩
    cbv
    refine ⟨_, _, con12o (leaf := true) (es := es) hp hw hc, ⟨?_⟩, ?_⟩
    · kernel_rfl
    cbv
    refine ⟨fun h3 => ?_, fun h3 => ?_⟩
    · have h3 : ¬ (0 : Int) = 0 := of_decide_eq_false (bnot_t h3)
      exfalso
      exact h3 rfl
    · clear h3
      cbv
      refine ⟨_, _, con73, ⟨?_⟩, ?_⟩
      · kernel_rfl
      cbv
      refine ⟨fun h4 => ?_, fun h4 => ?_⟩
      · have h4 : decide (nodeB true es = b) = false := bnot_t h4
        exfalso
        exact hbad h4
      · clear h4
        cbv
        refine ⟨[(2000, some 5100)], [], ?_⟩
        cbv
        and_intros
        all_goals first | exact trivial | exact ⟨rfl⟩ | exact ⟨rfl, fun _ _ _ _ => rfl⟩ | exact ⟨by kernel_rfl⟩
end Go.Proofs.Ytmdfjipjkkjpcaa
