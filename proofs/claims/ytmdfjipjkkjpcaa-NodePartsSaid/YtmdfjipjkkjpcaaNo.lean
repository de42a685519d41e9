/- Node laws: what is written. -/
import Derived.Test.YtmdfjipjkkjpcaaNm
namespace Go.Proofs.Ytmdfjipjkkjpcaa
open Go.SX

def checkI (leaf : Bool) (es : List Ent) : Int := if mayB leaf es then (if 1008 < 2 + sizeL leaf es then 91 else 0) else 90

set_option maxRecDepth 20000 in
set_option maxHeartbeats 4000000 in
theorem con13 {leaf : Bool} {es : List Ent} (hp : ∀ e ∈ es, EntOk e) (hw : weight es + 20 * es.length < 1000000000000) : Con 13 [nodeSV leaf es] [] (.int .u16 (.s fun _ => checkI leaf es)) [] := by
  refine con_of Try.func13 rfl rfl 11 _ rfl rfl rfl rfl ?_
  cbv
  refine ⟨_, _, con43 (leaf := leaf) (es := es) hp hw, ⟨?_⟩, ?_⟩
  · rfl
  cbv
  refine ⟨fun h1 => ?_, fun h1 => ?_⟩
  · have h1 : mayB leaf es = false := bnot_t h1
    have e1 : (90 : Int) = checkI leaf es := by unfold checkI; rw [h1]; rfl
    cbv
    refine ⟨[], [], ?_⟩
    cbv
    exact ⟨⟨e1⟩, ⟨rfl⟩⟩
  · have h1 : mayB leaf es = true := bnot_f h1
    have e0 : checkI leaf es = if 1008 < 2 + sizeL leaf es then 91 else 0 := by unfold checkI; rw [h1]; rfl
    cbv
    refine ⟨_, _, con14 (leaf := leaf) (es := es) hw, ⟨?_⟩, ?_⟩
    · rfl
    cbv
    refine ⟨fun h2 => ?_, fun h2 => ?_⟩
    · have h2 : (1008 : Int) < 2 + sizeL leaf es := of_decide_eq_true h2
      have e1 : (91 : Int) = checkI leaf es := by rw [e0, if_pos h2]
      cbv
      refine ⟨[], [], ?_⟩
      cbv
      exact ⟨⟨e1⟩, ⟨rfl⟩⟩
    · have h2 : ¬ (1008 : Int) < 2 + sizeL leaf es := of_decide_eq_false h2
      have e1 : (0 : Int) = checkI leaf es := by rw [e0, if_neg h2]
      cbv
      refine ⟨[], [], ?_⟩
      cbv
      exact ⟨⟨e1⟩, ⟨rfl⟩⟩

def entB (leaf : Bool) (e : Ent) : List UInt8 :=
  UInt8.ofNat e.key.length :: (e.key ++ if leaf then (if e.page = 0 then UInt8.ofNat e.val.length :: e.val else 255 :: (lowB e.size.toNat 4 ++ lowB e.page.toNat 4)) else lowB e.page.toNat 4)
def entsB (leaf : Bool) : List Ent → List UInt8
  | [] => []
  | e :: es => entB leaf e ++ entsB leaf es
def nodeB (leaf : Bool) (es : List Ent) : List UInt8 := lowB es.length 2 ++ entsB leaf es
def encB (leaf : Bool) (es : List Ent) : List UInt8 := if checkI leaf es = 0 then nodeB leaf es else []

theorem entB_length (leaf : Bool) (e : Ent) : ((entB leaf e).length : Int) = bytesOfI leaf e.key e.val e.page := by
  unfold entB bytesOfI
  cases leaf
  · simp only [List.length_cons, List.length_append, lowB_length, Bool.not_false, if_true, Bool.false_eq_true, if_false]; omega
  · simp only [List.length_cons, List.length_append, lowB_length, Bool.not_true, Bool.false_eq_true, if_true, if_false]
    by_cases h : e.page = 0
    · simp only [h, if_true, ne_eq, not_true_eq_false, if_false, List.length_cons]; omega
    · simp only [h, if_false, ne_eq, not_false_eq_true, if_true, List.length_cons, List.length_append, lowB_length]; omega
theorem entsB_app (leaf : Bool) : ∀ (a b : List Ent), entsB leaf (a ++ b) = entsB leaf a ++ entsB leaf b
  | [], b => rfl
  | e :: a, b => by simp only [List.cons_append, entsB, entsB_app leaf a b, List.append_assoc]
theorem entsB_length (leaf : Bool) : ∀ (es : List Ent), ((entsB leaf es).length : Int) = sizeL leaf es
  | [] => rfl
  | e :: es => by
      have := entB_length leaf e
      have := entsB_length leaf es
      simp only [entsB, sizeL, List.length_append]; omega
theorem nodeB_length (leaf : Bool) (es : List Ent) : ((nodeB leaf es).length : Int) = 2 + sizeL leaf es := by
  have := entsB_length leaf es
  simp only [nodeB, List.length_append, lowB_length]; omega
theorem sizeL_mono (leaf : Bool) {es : List Ent} {i : Nat} : sizeL leaf (es.take i) ≤ sizeL leaf es := by
  have h : es.take i ++ es.drop i = es := List.take_append_drop _ _
  have h2 := sizeL_app leaf (es.take i) (es.drop i)
  rw [h] at h2
  have := (sizeL_le leaf (es.drop i)).1
  omega
theorem checkI_ok {leaf : Bool} {es : List Ent} (h : checkI leaf es = 0) : mayB leaf es = true ∧ 2 + sizeL leaf es ≤ 1008 := by
  unfold checkI at h
  cases hm : mayB leaf es with
  | false => rw [hm] at h; simp at h
  | true =>
    rw [hm] at h
    refine ⟨rfl, ?_⟩
    by_cases h2 : 1008 < 2 + sizeL leaf es
    · simp [h2] at h
    · omega

theorem Con.args {f : Nat} {svs svs' : List SV} {objs : Objs} {r : SV} {objs' : Objs} (h : Con f svs objs r objs') (hs : ∀ (η : OEnv) (G : Nat → Prop) (w : World) (vs : List Value), SVRels η G w svs' vs → SVRels η G w svs vs) : Con f svs' objs r objs' :=
  ⟨fun η G vs w h1 h2 h3 => h.spec η G vs w h1 h2 (hs η G w vs h3)⟩
theorem Con.lit {f : Nat} {a : List SV} {k : IntKind} {n : Int} {objs : Objs} {r : SV} {objs' : Objs} (h : Con f (a ++ [.int k (.s fun _ => n)]) objs r objs') : Con f (a ++ [.int k (.l n)]) objs r objs' := by
  refine h.args fun η G w => ?_
  clear h
  induction a with
  | nil => intro vs hv; cases vs with
    | nil => exact hv
    | cons v vs => simpa [SVRels, SVRel, IE.den] using hv
  | cons s a ih' => intro vs hv; cases vs with
    | nil => exact hv
    | cons v vs => exact ⟨hv.1, ih' vs hv.2⟩

theorem con42z {bs : List UInt8} {z : Int} {m : Nat} (hz : 0 ≤ z) (hm : m ≤ 8) (hl : bs.length < 1000000000000) :
    Con 42 [.own 1000, .int .u32 (.s fun _ => z), .int .i64 (.s fun _ => (m : Int))] [(1000, .barr 5 fun _ => bs)] (.own 2000) [(1000, .dead), (2000, .barr 5 fun _ => bs ++ lowB z.toNat m)] := by
  obtain ⟨n, rfl⟩ := Int.eq_ofNat_of_zero_le hz
  exact con42 hm hl
theorem con42nz {z : Int} {m : Nat} (hz : 0 ≤ z) (hm : m ≤ 8) :
    Con 42 [.nil, .int .u32 (.s fun _ => z), .int .i64 (.s fun _ => (m : Int))] [] (.own 2000) [(2000, .barr 5 fun _ => lowB z.toNat m)] := by
  obtain ⟨n, rfl⟩ := Int.eq_ofNat_of_zero_le hz
  exact con42n hm

theorem sizeL_len (leaf : Bool) : ∀ (es : List Ent), 2 * (es.length : Int) ≤ sizeL leaf es
  | [] => by simp [sizeL]
  | e :: es => by
      have := sizeL_len leaf es
      simp only [sizeL, bytesOfI, List.length_cons]
      split
      · omega
      · split <;> omega
def encTo (leaf : Bool) (es : List Ent) (i : Nat) : List UInt8 := lowB es.length 2 ++ entsB leaf (es.take i)
theorem encTo_next {leaf : Bool} {es : List Ent} {i : Nat} (hi : i < es.length) : encTo leaf es (i + 1) = encTo leaf es i ++ entB leaf (es.getD i default) := by
  unfold encTo
  rw [getD_take es hi, entsB_app, List.append_assoc]
  simp [entsB]
theorem encTo_length {leaf : Bool} {es : List Ent} {i : Nat} (h : 2 + sizeL leaf es ≤ 1008) : (encTo leaf es i).length ≤ 1008 := by
  have h1 := entsB_length leaf (es.take i)
  have h2 := sizeL_mono leaf (es := es) (i := i)
  simp only [encTo, List.length_append, lowB_length]
  omega
theorem enc_page {leaf : Bool} {e : Ent} (b : List UInt8) (h : leaf = false) : (b ++ [UInt8.ofNat (IntKind.u8.wrap (e.key.length : Int)).toNat] ++ e.key) ++ lowB e.page.toNat 4 = b ++ entB leaf e := by
  rw [u8_wrap]; simp [entB, h]
theorem enc_val {leaf : Bool} {e : Ent} (b : List UInt8) (h : leaf = true) (hp : e.page = 0) :
    b ++ [UInt8.ofNat (IntKind.u8.wrap (e.key.length : Int)).toNat] ++ e.key ++ [UInt8.ofNat (IntKind.u8.wrap (e.val.length : Int)).toNat] ++ e.val = b ++ entB leaf e := by
  rw [u8_wrap, u8_wrap]; simp [entB, h, hp]
theorem enc_big {leaf : Bool} {e : Ent} (b : List UInt8) (h : leaf = true) (hp : ¬ e.page = 0) :
    b ++ [UInt8.ofNat (IntKind.u8.wrap (e.key.length : Int)).toNat] ++ e.key ++ [UInt8.ofNat (255 : Int).toNat] ++ lowB e.size.toNat 4 ++ lowB e.page.toNat 4 = b ++ entB leaf e := by
  rw [u8_wrap]; simp [entB, h, hp]

theorem len1 {X : List UInt8} (h : X.length ≤ 4000) : lenOk (X.length + 1) 1 := by unfold lenOk; omega
theorem len2 {X : List UInt8} {x : UInt8} (h : X.length ≤ 4000) : (X ++ [x]).length ≤ 5000 := by rw [List.length_append]; simp only [List.length_cons, List.length_nil]; omega
theorem len3 {X : List UInt8} {n : Nat} (h : X.length ≤ 5000) : (X ++ lowB n 4).length ≤ 6000 := by rw [List.length_append, lowB_length]; omega
theorem len4 {X v : List UInt8} {x : UInt8} (h : X.length ≤ 4000) (hv : v.length ≤ 1008) : lenOk ((X ++ [x]).length + v.length) 1 := by
  unfold lenOk; rw [List.length_append]; simp only [List.length_cons, List.length_nil]; omega

theorem con42l {bs : List UInt8} {z : Int} (hz : 0 ≤ z) (hl : bs.length < 1000000000000) :
    Con 42 [.own 1000, .int .u32 (.s fun _ => z), .int .i64 (.l 4)] [(1000, .barr 5 fun _ => bs)] (.own 2000) [(1000, .dead), (2000, .barr 5 fun _ => bs ++ lowB z.toNat 4)] :=
  Con.lit (a := [.own 1000, .int .u32 (.s fun _ => z)]) (con42z (m := 4) hz (by decide) hl)
theorem con42nl {z : Int} (hz : 0 ≤ z) : Con 42 [.nil, .int .u32 (.s fun _ => z), .int .i64 (.l 2)] [] (.own 2000) [(2000, .barr 5 fun _ => lowB z.toNat 2)] :=
  Con.lit (a := [.nil, .int .u32 (.s fun _ => z)]) (con42nz (m := 2) hz (by decide))

set_option maxRecDepth 20000 in
set_option maxHeartbeats 4000000 in
theorem con12 {leaf : Bool} {es : List Ent} (hp : ∀ e ∈ es, EntOk e) (hw : weight es + 20 * es.length < 1000000000000) :
    Con 12 [nodeSV leaf es] [] (.tup [.dat (.bytes fun _ => encB leaf es), .int .u16 (.s fun _ => checkI leaf es)]) [] := by
  refine con_of Try.func12 rfl rfl 68 _ rfl rfl rfl rfl ?_
  cbv
  refine ⟨_, _, con13 (leaf := leaf) (es := es) hp hw, ⟨?_⟩, ?_⟩
  · rfl
  cbv
  refine ⟨fun h1 => ?_, fun h1 => ?_⟩
  · have h1 : ¬ checkI leaf es = 0 := of_decide_eq_false (bnot_t h1)
    have e1 : encB leaf es = [] := by unfold encB; rw [if_neg h1]
    clear h1
    cbv
    refine ⟨[], [], ?_⟩
    cbv
    exact ⟨⟨⟨e1⟩, ⟨rfl⟩, trivial⟩, ⟨by kernel_rfl⟩⟩
  · have h1 : checkI leaf es = 0 := of_decide_eq_true (bnot_f h1)
    obtain ⟨hm, hs⟩ := checkI_ok h1
    have hl := sizeL_len leaf es
    have w1 : (IntKind.u32.wrap (es.length : Int)).toNat = es.length := by rw [IntKind.wrap_u32]; omega
    have w2 : 0 ≤ IntKind.u32.wrap (es.length : Int) := by rw [IntKind.wrap_u32]; omega
    have e0 : lowB (IntKind.u32.wrap (es.length : Int)).toNat 2 = encTo leaf es 0 := by rw [w1]; simp [encTo, entsB]
    cbv
    refine ⟨_, _, con42nl w2, ⟨?_⟩, ?_⟩
    · rfl
    cbv
    refine ⟨Nat, [500], fun i => [(5, .own 500), (21, .int .i64 (.s fun _ => (i : Int)))], fun i => [(1, .cells 24 [.bool (.s fun _ => leaf), .dat (entsDV es)]), (500, .barr 5 fun _ => encTo leaf es i)],
      fun i => i ≤ es.length, fun i => es.length - i, 0, [(500, some 4700)], Nat.zero_le _, ⟨?_⟩, fun i hi => ?_⟩
    · cbv
      exact ⟨⟨⟨rfl⟩, trivial⟩, ⟨⟨⟨rfl⟩, ⟨rfl, fun _ _ _ _ => rfl⟩, trivial⟩, ⟨e0⟩, trivial⟩, ⟨by kernel_rfl⟩⟩
    · have hi : i ≤ es.length := hi
      cbv
      refine ⟨fun h2 => ?_, fun h2 => ?_⟩
      · have h2 : (i : Int) < (es.length : Int) := of_decide_eq_true h2
        have hlt : i < es.length := by omega
        have o1 : indexObl (i : Int) es.length := ⟨by omega, h2⟩
        have hE := entOk_at hp hlt
        have hL := encTo_length (i := i) hs
        have hN := encTo_next (leaf := leaf) hlt
        have hL' := encTo_length (i := i + 1) hs
        have hB := entB_length leaf (es.getD i default)
        rw [hN, List.length_append] at hL'
        have b0 := u8_range ((es.getD i default).key.length : Int)
        have b1 : lenOk ((encTo leaf es i).length + 1) 1 := by unfold lenOk; omega
        have b2 : lenOk ((encTo leaf es i ++ [UInt8.ofNat (IntKind.u8.wrap ((es.getD i default).key.length : Int)).toNat]).length + (es.getD i default).key.length) 1 := by
          have : (es.getD i default).key.length < (entB leaf (es.getD i default)).length := by unfold entB; simp only [List.length_cons, List.length_append]; omega
          unfold lenOk; simp only [List.length_append, List.length_cons, List.length_nil]; omega
        have l1 : (encTo leaf es i ++ [UInt8.ofNat (IntKind.u8.wrap ((es.getD i default).key.length : Int)).toNat] ++ (es.getD i default).key).length ≤ 4000 := by
          have : (es.getD i default).key.length < (entB leaf (es.getD i default)).length := by unfold entB; simp only [List.length_cons, List.length_append]; omega
          simp only [List.length_append, List.length_cons, List.length_nil]; omega
        have bi : bound64 ((i : Int) + 1) := by unfold bound64; omega
        have ei : (i : Int) + 1 = ((i + 1 : Nat) : Int) := by omega
        clear h2
        cbv
        refine ⟨⟨o1⟩, ?_⟩
        cbv
        refine ⟨⟨⟨b0, trivial⟩, b1⟩, ?_⟩
        cbv
        refine ⟨⟨trivial, b2⟩, ⟨by kernel_rfl⟩, ?_⟩
        cbv
        refine ⟨fun h3 => ?_, fun h3 => ?_⟩
        · have h3 : leaf = false := bnot_t h3
          have e5 := (enc_page (encTo leaf es i) (e := es.getD i default) h3).trans hN.symm
          cbv
          refine ⟨_, _, con42l hE.1.1 ?_, ⟨?_⟩, ?_⟩
          · exact Nat.lt_of_le_of_lt l1 (by decide)
          · rfl
          cbv
          refine ⟨⟨bi⟩, i + 1, [(500, some 8100)], hlt, ?_, ⟨?_⟩, ⟨?_⟩⟩
          · show es.length - (i + 1) < es.length - i
            omega
          · kernel_rfl
          · cbv
            exact ⟨⟨⟨ei⟩, trivial⟩, ⟨⟨⟨rfl⟩, ⟨rfl, fun _ _ _ _ => rfl⟩, trivial⟩, ⟨e5⟩, trivial⟩, ⟨by kernel_rfl⟩⟩
        · have h3 : leaf = true := bnot_f h3
          cbv
          refine ⟨fun h4 => ?_, fun h4 => ?_⟩
          · have h4 : (es.getD i default).page = 0 := of_decide_eq_true h4
            have e5 := (enc_val (encTo leaf es i) (e := es.getD i default) h3 h4).trans hN.symm
            have b3 := u8_range ((es.getD i default).val.length : Int)
            have lE : 2 + (es.getD i default).key.length + (es.getD i default).val.length = (entB leaf (es.getD i default)).length := by
              unfold entB; simp only [h3, h4, if_true, List.length_cons, List.length_append]; omega
            have b4 : lenOk ((encTo leaf es i ++ [UInt8.ofNat (IntKind.u8.wrap ((es.getD i default).key.length : Int)).toNat] ++ (es.getD i default).key).length + 1) 1 := len1 l1
            have lV : (es.getD i default).val.length ≤ 1008 := by omega
            have b5 : lenOk ((encTo leaf es i ++ [UInt8.ofNat (IntKind.u8.wrap ((es.getD i default).key.length : Int)).toNat] ++ (es.getD i default).key ++ [UInt8.ofNat (IntKind.u8.wrap ((es.getD i default).val.length : Int)).toNat]).length + (es.getD i default).val.length) 1 := len4 l1 lV
            cbv
            refine ⟨⟨⟨b3, trivial⟩, b4⟩, ⟨trivial, b5⟩, ⟨by kernel_rfl⟩, ?_⟩
            cbv
            refine ⟨⟨bi⟩, i + 1, [(500, some 65)], hlt, ?_, ⟨?_⟩, ⟨?_⟩⟩
            · show es.length - (i + 1) < es.length - i
              omega
            · kernel_rfl
            · cbv
              exact ⟨⟨⟨ei⟩, trivial⟩, ⟨⟨⟨rfl⟩, ⟨rfl, fun _ _ _ _ => rfl⟩, trivial⟩, ⟨e5⟩, trivial⟩, ⟨by kernel_rfl⟩⟩
          · have h4 : ¬ (es.getD i default).page = 0 := of_decide_eq_false h4
            have e5 := (enc_big (encTo leaf es i) (e := es.getD i default) h3 h4).trans hN.symm
            have b3 : (0 : Int) ≤ 255 ∧ (255 : Int) < 256 := by decide
            have b4 : lenOk ((encTo leaf es i ++ [UInt8.ofNat (IntKind.u8.wrap ((es.getD i default).key.length : Int)).toNat] ++ (es.getD i default).key).length + 1) 1 := len1 l1
            have l2 : (encTo leaf es i ++ [UInt8.ofNat (IntKind.u8.wrap ((es.getD i default).key.length : Int)).toNat] ++ (es.getD i default).key ++ [UInt8.ofNat (255 : Int).toNat]).length ≤ 5000 := len2 l1
            have l3 : (encTo leaf es i ++ [UInt8.ofNat (IntKind.u8.wrap ((es.getD i default).key.length : Int)).toNat] ++ (es.getD i default).key ++ [UInt8.ofNat (255 : Int).toNat] ++ lowB (es.getD i default).size.toNat 4).length ≤ 6000 := len3 l2
            cbv
            refine ⟨⟨⟨b3, trivial⟩, b4⟩, _, _, con42l hE.2.1 ?_, ⟨?_⟩, ?_⟩
            · exact Nat.lt_of_le_of_lt l2 (by decide)
            · rfl
            cbv
            refine ⟨_, _, con42l hE.1.1 ?_, ⟨?_⟩, ?_⟩
            · exact Nat.lt_of_le_of_lt l3 (by decide)
            · rfl
            cbv
            refine ⟨⟨by kernel_rfl⟩, ?_⟩
            cbv
            refine ⟨⟨bi⟩, i + 1, [(500, some 7300)], hlt, ?_, ⟨?_⟩, ⟨?_⟩⟩
            · show es.length - (i + 1) < es.length - i
              omega
            · kernel_rfl
            · cbv
              exact ⟨⟨⟨ei⟩, trivial⟩, ⟨⟨⟨rfl⟩, ⟨rfl, fun _ _ _ _ => rfl⟩, trivial⟩, ⟨e5⟩, trivial⟩, ⟨by kernel_rfl⟩⟩
      · have h2 : ¬ ((i : Int) < (es.length : Int)) := of_decide_eq_false h2
        have hle : i = es.length := by omega
        subst hle
        have e1 : encTo leaf es es.length = encB leaf es := by unfold encB encTo nodeB; rw [if_pos h1, List.take_length]
        clear h2
        cbv
        refine ⟨[], [500], ?_⟩
        cbv
        exact ⟨⟨⟨e1⟩, ⟨h1.symm⟩, trivial⟩, ⟨by kernel_rfl⟩⟩
end Go.Proofs.Ytmdfjipjkkjpcaa
