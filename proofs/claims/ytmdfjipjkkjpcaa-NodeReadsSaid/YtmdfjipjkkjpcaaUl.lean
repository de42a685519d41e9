/- Texts put together: Dd, Wb, Wc, Wd, We, Wi, Wk, De. -/
import Derived.Test.YtmdfjipjkkjpcaaUh
import Derived.Test.YtmdfjipjkkjpcaaUk
/- NodeReads: what reading answers, and that both ways of it answer alike. -/
namespace Go.Proofs.Ytmdfjipjkkjpcaa
open Go.SX

def EntS (e : Ent) : Prop := EntOk e ∧ e.key.length ≤ 255 ∧ e.val.length ≤ 255
theorem num4_lt (b : List UInt8) : numN (b.take 4) < 4294967296 := by
  have := numN_lt (b.take 4)
  have h : (b.take 4).length ≤ 4 := by simp; omega
  exact Nat.lt_of_lt_of_le this (Nat.le_trans (Nat.pow_le_pow_right (by decide) h) (by decide))
theorem numN_lt' {b : List UInt8} {m : Nat} (h : b.length ≤ m) : numN b < 256 ^ m := Nat.lt_of_lt_of_le (numN_lt b) (Nat.pow_le_pow_right (by decide) h)
theorem entP_s {leaf : Bool} {b : List UInt8} {e : Ent} {r : List UInt8} (h : entP leaf b = some (e, r)) : EntS e := by
  have k1 := num1_lt b
  cases leaf with
  | false =>
    obtain ⟨_, he, _⟩ := entP_branch rfl h
    have := num4_lt ((b.drop 1).drop (numN (b.take 1)))
    subst he
    refine ⟨⟨⟨?_, ?_⟩, ?_, ?_⟩, ?_, ?_⟩ <;> simp only [List.length_take, List.length_nil] <;> omega
  | true =>
    by_cases h255 : numN (((b.drop 1).drop (numN (b.take 1))).take 1) = 255
    · obtain ⟨_, _, he, _⟩ := entP_big h255 h
      have q1 := num4_lt ((((b.drop 1).drop (numN (b.take 1))).drop 1).drop 4)
      have q2 := num4_lt (((b.drop 1).drop (numN (b.take 1))).drop 1)
      subst he
      refine ⟨⟨⟨?_, ?_⟩, ?_, ?_⟩, ?_, ?_⟩ <;> simp only [List.length_take, List.length_nil] <;> omega
    · obtain ⟨_, he, _⟩ := entP_val h255 h
      have q1 := num1_lt ((b.drop 1).drop (numN (b.take 1)))
      subst he
      refine ⟨⟨⟨?_, ?_⟩, ?_, ?_⟩, ?_, ?_⟩ <;> simp only [List.length_take] <;> omega
theorem entsP_s {leaf : Bool} : ∀ {n : Nat} {b : List UInt8} {es : List Ent}, entsP leaf n b = some es → (∀ e ∈ es, EntS e) ∧ es.length = n
  | 0, b, es, h => by simp only [entsP, Option.some.injEq] at h; subst h; exact ⟨fun _ h => (by cases h), rfl⟩
  | n + 1, b, es, h => by
    obtain ⟨e, c, tl, he, ht, rfl⟩ := entsP_next h
    obtain ⟨h1, h2⟩ := entsP_s ht
    refine ⟨fun x hx => ?_, by simp [h2]⟩
    rcases List.mem_cons.1 hx with rfl | hx
    · exact entP_s he
    · exact h1 x hx
theorem readP_s {leaf : Bool} {b : List UInt8} {es : List Ent} (h : readP leaf b = some es) : (∀ e ∈ es, EntS e) ∧ es.length < 65536 := by
  unfold readP at h
  split at h
  · obtain ⟨h1, h2⟩ := entsP_s h
    exact ⟨h1, by rw [h2]; exact num2_lt b⟩
  · cases h
theorem weight_s : ∀ {es : List Ent}, (∀ e ∈ es, EntS e) → weight es ≤ 510 * es.length
  | [], _ => by simp [weight]
  | e :: es, h => by
    have h1 := weight_s (es := es) fun x hx => h x (List.mem_cons_of_mem _ hx)
    obtain ⟨_, h2, h3⟩ := h e List.mem_cons_self
    simp only [weight, List.length_cons]
    omega

def decP (leaf : Bool) (b : List UInt8) : Option (List Ent) := match readP leaf b with
  | none => none
  | some es => if checkI leaf es = 0 ∧ encB leaf es = b then some es else none
def dec (k : Int) (b : List UInt8) : Bool × List Ent × Int := if k = 1 ∨ k = 2 then
    match decP (decide (k = 1)) b with
    | some es => (decide (k = 1), es, 0)
    | none => (false, [], 90)
  else (false, [], 90)

theorem dec_kind {k : Int} {b : List UInt8} (h1 : ¬ k = 1) (h2 : ¬ k = 2) : dec k b = (false, [], 90) := by unfold dec; rw [if_neg (by simp [h1, h2])]
theorem dec_none {k : Int} {b : List UInt8} (h : readP (decide (k = 1)) b = none) : dec k b = (false, [], 90) := by
  unfold dec decP; rw [h]; split <;> rfl
theorem dec_bad {k : Int} {b : List UInt8} {es : List Ent} (h : readP (decide (k = 1)) b = some es) (hc : ¬ (checkI (decide (k = 1)) es = 0 ∧ encB (decide (k = 1)) es = b)) : dec k b = (false, [], 90) := by
  unfold dec decP; rw [h]; simp only [if_neg hc]; split <;> rfl
theorem dec_ok {k : Int} {b : List UInt8} {es : List Ent} (hk : k = 1 ∨ k = 2) (h : readP (decide (k = 1)) b = some es) (hc : checkI (decide (k = 1)) es = 0) (he : encB (decide (k = 1)) es = b) : dec k b = (decide (k = 1), es, 0) := by
  unfold dec decP; rw [h]; simp only [if_pos hk, if_pos (And.intro hc he)]

theorem rdN_cases {b : List UInt8} {m a n a' : Nat} {bad bad' : Bool} (h : rdN b m a bad = (n, a', bad')) :
    (bad' = true ∧ (bad = true ∨ b.length < a + m) ∧ n = 0 ∧ a' = a) ∨ (bad' = false ∧ bad = false ∧ a + m ≤ b.length ∧ n = numN ((b.drop a).take m) ∧ a' = a + m) := by
  unfold rdN at h
  split at h
  · cases h; exact .inl ⟨rfl, by assumption, rfl, rfl⟩
  · rename_i hn
    cases h
    refine .inr ⟨rfl, ?_, by omega, rfl, rfl⟩
    cases bad with
    | false => rfl
    | true => exact absurd (.inl rfl) hn
theorem rdB_cases {b : List UInt8} {m a a' : Nat} {n : List UInt8} {bad bad' : Bool} (h : rdB b m a bad = (n, a', bad')) :
    (bad' = true ∧ (bad = true ∨ b.length < a + m) ∧ n = [] ∧ a' = a) ∨ (bad' = false ∧ bad = false ∧ a + m ≤ b.length ∧ n = (b.drop a).take m ∧ a' = a + m) := by
  unfold rdB at h
  split at h
  · cases h; exact .inl ⟨rfl, by assumption, rfl, rfl⟩
  · rename_i hn
    cases h
    refine .inr ⟨rfl, ?_, by omega, rfl, rfl⟩
    cases bad with
    | false => rfl
    | true => exact absurd (.inl rfl) hn
theorem rdN_le {b : List UInt8} {m a n a' : Nat} {bad bad' : Bool} (h : rdN b m a bad = (n, a', bad')) (ha : a ≤ b.length) : a' ≤ b.length ∧ n < 256 ^ m := by
  rcases rdN_cases h with ⟨_, _, rfl, rfl⟩ | ⟨_, _, h1, rfl, rfl⟩
  · exact ⟨ha, Nat.pow_pos (by decide)⟩
  · exact ⟨h1, numN_lt' (by simp; omega)⟩
theorem rdB_le {b : List UInt8} {m a a' : Nat} {n : List UInt8} {bad bad' : Bool} (h : rdB b m a bad = (n, a', bad')) (ha : a ≤ b.length) : a' ≤ b.length ∧ n.length ≤ m := by
  rcases rdB_cases h with ⟨_, _, rfl, rfl⟩ | ⟨_, _, h1, rfl, rfl⟩
  · exact ⟨ha, by simp⟩
  · exact ⟨h1, by simp; omega⟩

/-- One entry: both readers agree. -/
theorem step_key {leaf : Bool} {b : List UInt8} {a n1 a1 a2 : Nat} {k : List UInt8} {b1 b2 : Bool} (h1 : rdN b 1 a false = (n1, a1, b1)) (h2 : rdB b n1 a1 b1 = (k, a2, b2)) :
    (b2 = true ∧ entP leaf (b.drop a) = none) ∨ (b2 = false ∧ 1 ≤ (b.drop a).length ∧ numN ((b.drop a).take 1) ≤ ((b.drop a).drop 1).length ∧ k = ((b.drop a).drop 1).take (numN ((b.drop a).take 1)) ∧ b.drop a2 = ((b.drop a).drop 1).drop (numN ((b.drop a).take 1)) ∧ a2 ≤ b.length) := by
  have no : (1 ≤ (b.drop a).length → numN ((b.drop a).take 1) ≤ ((b.drop a).drop 1).length → False) → entP leaf (b.drop a) = none := by
    intro hn
    cases he : entP leaf (b.drop a) with
    | none => rfl
    | some x =>
      obtain ⟨e, r⟩ := x
      obtain ⟨q1, q2⟩ := entP_key he
      exact (hn q1 q2).elim
  simp only [List.length_drop] at no ⊢
  rcases rdN_cases h1 with ⟨rfl, hb, rfl, rfl⟩ | ⟨rfl, _, hl, rfl, rfl⟩
  · rcases rdB_cases h2 with ⟨rfl, _, rfl, rfl⟩ | ⟨_, h, _⟩
    · refine .inl ⟨rfl, no fun q1 _ => ?_⟩
      rcases hb with hb | hb
      · cases hb
      · omega
    · cases h
  · rcases rdB_cases h2 with ⟨rfl, hb, rfl, rfl⟩ | ⟨rfl, _, hl2, rfl, rfl⟩
    · refine .inl ⟨rfl, no fun q1 q2 => ?_⟩
      rcases hb with hb | hb
      · cases hb
      · omega
    · exact .inr ⟨rfl, by omega, by omega, by rw [List.drop_drop], by rw [List.drop_drop, List.drop_drop, Nat.add_assoc], hl2⟩
theorem step_branch {leaf : Bool} {b : List UInt8} {a n1 a1 a2 p a3 : Nat} {k : List UInt8} {b1 b2 b3 : Bool} (hl : leaf = false) (h1 : rdN b 1 a false = (n1, a1, b1)) (h2 : rdB b n1 a1 b1 = (k, a2, b2)) (h3 : rdN b 4 a2 b2 = (p, a3, b3)) :
    (b3 = true ∧ entP leaf (b.drop a) = none) ∨ (b3 = false ∧ entP leaf (b.drop a) = some (⟨k, [], (p : Int), 0⟩, b.drop a3)) := by
  rcases step_key (leaf := leaf) h1 h2 with ⟨rfl, hn⟩ | ⟨rfl, q1, q2, qk, qd, qa⟩
  · rcases rdN_cases h3 with ⟨rfl, _⟩ | ⟨_, h, _⟩
    · exact .inl ⟨rfl, hn⟩
    · cases h
  · rcases rdN_cases h3 with ⟨rfl, hb, _, _⟩ | ⟨rfl, _, hle, rfl, rfl⟩
    · refine .inl ⟨rfl, ?_⟩
      cases he : entP leaf (b.drop a) with
      | none => rfl
      | some x =>
        obtain ⟨e, r⟩ := x
        obtain ⟨q4, _⟩ := entP_branch hl he
        rw [← qd, List.length_drop] at q4
        rcases hb with hb | hb
        · cases hb
        · omega
    · have q4 : 4 ≤ (((b.drop a).drop 1).drop (numN ((b.drop a).take 1))).length := by rw [← qd, List.length_drop]; omega
      refine .inr ⟨rfl, ?_⟩
      rw [← List.drop_drop (i := 4), qd, qk]
      subst hl
      simp only [entP, q1, q2, q4, and_self, if_true, Bool.false_eq_true, if_false]
theorem step_val {leaf : Bool} {b : List UInt8} {a n1 a1 a2 n3 a3 a4 : Nat} {k v : List UInt8} {b1 b2 b3 b4 : Bool} (hl : leaf = true) (h1 : rdN b 1 a false = (n1, a1, b1)) (h2 : rdB b n1 a1 b1 = (k, a2, b2)) (h3 : rdN b 1 a2 b2 = (n3, a3, b3)) (hne : ¬ n3 = 255) (h4 : rdB b n3 a3 b3 = (v, a4, b4)) :
    (b4 = true ∧ entP leaf (b.drop a) = none) ∨ (b4 = false ∧ entP leaf (b.drop a) = some (⟨k, v, 0, 0⟩, b.drop a4)) := by
  rcases step_key (leaf := leaf) h1 h2 with ⟨rfl, hn⟩ | ⟨rfl, q1, q2, qk, qd, qa⟩
  · rcases rdN_cases h3 with ⟨rfl, _⟩ | ⟨_, h, _⟩
    · rcases rdB_cases h4 with ⟨rfl, _⟩ | ⟨_, h, _⟩
      · exact .inl ⟨rfl, hn⟩
      · cases h
    · cases h
  · rcases rdN_cases h3 with ⟨rfl, hb, _, _⟩ | ⟨rfl, _, hle, rfl, rfl⟩
    · rcases rdB_cases h4 with ⟨rfl, _⟩ | ⟨_, h, _⟩
      · refine .inl ⟨rfl, ?_⟩
        cases he : entP leaf (b.drop a) with
        | none => rfl
        | some x =>
          obtain ⟨e, r⟩ := x
          obtain ⟨q4, _⟩ := entP_leaf hl he
          rw [← qd, List.length_drop] at q4
          rcases hb with hb | hb
          · cases hb
          · omega
      · cases h
    · have q4 : 1 ≤ (((b.drop a).drop 1).drop (numN ((b.drop a).take 1))).length := by rw [← qd, List.length_drop]; omega
      rw [qd] at hne h4
      rcases rdB_cases h4 with ⟨rfl, hb, _, _⟩ | ⟨rfl, _, hle2, rfl, rfl⟩
      · refine .inl ⟨rfl, ?_⟩
        cases he : entP leaf (b.drop a) with
        | none => rfl
        | some x =>
          obtain ⟨e, r⟩ := x
          obtain ⟨_, he⟩ := entP_leaf hl he
          obtain ⟨q5, _⟩ := entP_val hne he
          rw [← qd, List.length_drop, List.length_drop, qd] at q5
          rcases hb with hb | hb
          · cases hb
          · omega
      · have q5 : numN ((((b.drop a).drop 1).drop (numN ((b.drop a).take 1))).take 1) ≤ ((((b.drop a).drop 1).drop (numN ((b.drop a).take 1))).drop 1).length := by
          rw [List.length_drop, ← qd, List.length_drop, qd]; omega
        refine .inr ⟨rfl, ?_⟩
        rw [show ∀ j, b.drop (a2 + 1 + j) = ((b.drop a2).drop 1).drop j from fun j => by simp only [List.drop_drop], show b.drop (a2 + 1) = (b.drop a2).drop 1 by simp only [List.drop_drop], qd, qk]
        subst hl
        simp only [entP, q1, q2, q4, q5, hne, and_self, if_true, if_false]
theorem step_big {leaf : Bool} {b : List UInt8} {a n1 a1 a2 n3 a3 s a4 p a5 : Nat} {k : List UInt8} {b1 b2 b3 b4 b5 : Bool} (hl : leaf = true) (h1 : rdN b 1 a false = (n1, a1, b1)) (h2 : rdB b n1 a1 b1 = (k, a2, b2)) (h3 : rdN b 1 a2 b2 = (n3, a3, b3)) (hne : n3 = 255)
    (h4 : rdN b 4 a3 b3 = (s, a4, b4)) (h5 : rdN b 4 a4 b4 = (p, a5, b5)) :
    (b5 = true ∧ entP leaf (b.drop a) = none) ∨ (b5 = false ∧ entP leaf (b.drop a) = some (⟨k, [], (p : Int), (s : Int)⟩, b.drop a5)) := by
  rcases step_key (leaf := leaf) h1 h2 with ⟨rfl, hn⟩ | ⟨rfl, q1, q2, qk, qd, qa⟩
  · rcases rdN_cases h3 with ⟨rfl, _, rfl, _⟩ | ⟨_, h, _⟩
    · cases hne
    · cases h
  · rcases rdN_cases h3 with ⟨rfl, _, rfl, _⟩ | ⟨rfl, _, hle, rfl, rfl⟩
    · cases hne
    · have q4 : 1 ≤ (((b.drop a).drop 1).drop (numN ((b.drop a).take 1))).length := by rw [← qd, List.length_drop]; omega
      rw [qd] at hne
      have no : (a2 + 9 ≤ b.length → False) → entP leaf (b.drop a) = none := by
        intro hn
        cases he : entP leaf (b.drop a) with
        | none => rfl
        | some x =>
          obtain ⟨e, r⟩ := x
          obtain ⟨_, he⟩ := entP_leaf hl he
          obtain ⟨q5, q6, _⟩ := entP_big hne he
          rw [← qd] at q6
          simp only [List.length_drop] at q6
          exact (hn (by omega)).elim
      rcases rdN_cases h4 with ⟨rfl, hb, _, _⟩ | ⟨rfl, _, hle2, rfl, rfl⟩
      · rcases rdN_cases h5 with ⟨rfl, _⟩ | ⟨_, h, _⟩
        · refine .inl ⟨rfl, no fun h => ?_⟩
          rcases hb with hb | hb
          · cases hb
          · omega
        · cases h
      · rcases rdN_cases h5 with ⟨rfl, hb, _, _⟩ | ⟨rfl, _, hle3, rfl, rfl⟩
        · refine .inl ⟨rfl, no fun h => ?_⟩
          rcases hb with hb | hb
          · cases hb
          · omega
        · have q5 : 4 ≤ ((((b.drop a).drop 1).drop (numN ((b.drop a).take 1))).drop 1).length := by rw [← qd]; simp only [List.length_drop]; omega
          have q6 : 4 ≤ (((((b.drop a).drop 1).drop (numN ((b.drop a).take 1))).drop 1).drop 4).length := by rw [← qd]; simp only [List.length_drop]; omega
          refine .inr ⟨rfl, ?_⟩
          rw [show b.drop (a2 + 1 + 4 + 4) = (((b.drop a2).drop 1).drop 4).drop 4 by simp only [List.drop_drop], show b.drop (a2 + 1 + 4) = ((b.drop a2).drop 1).drop 4 by simp only [List.drop_drop], show b.drop (a2 + 1) = (b.drop a2).drop 1 by simp only [List.drop_drop], qd, qk]
          subst hl
          simp only [entP, q1, q2, q4, q5, q6, hne, and_self, if_true]
end Go.Proofs.Ytmdfjipjkkjpcaa

/- What is lent: bytes. -/
namespace Go.Proofs.Ytmdfjipjkkjpcaa
open Go.SX

def roomC (l : List UInt8) : List Value := l.map u8v ++ [u8v 91, u8v 92]
/-- Bytes with two of room behind that have marks. -/
def roomΦ (l : List UInt8) (w : World) (v : Value) (B : List Nat) : Prop := rowΦ 5 1 l.length (l.length + 2) (roomC l) w v B

theorem room_dv {l : List UInt8} {w : World} {b : Nat} (h : HasRow w b 5 (roomC l)) : DVRel w (fun x => x ∈ [b]) (.bytes fun _ => l) (.slice (some ⟨b, 0, none⟩) l.length (l.length + 2)) := by
  refine ⟨_, _, rfl, by show l.length ≤ l.length + 2; omega, fun i x hx => ⟨b, 0, rfl, by simp, ?_⟩⟩
  rw [cell_cells h, Nat.zero_add]
  have hlt : i < l.length := (List.getElem?_eq_some_iff.1 hx).1
  rw [show (⟨roomC l⟩ : Array Value)[i]? = (roomC l)[i]? by simp]
  unfold roomC
  rw [List.getElem?_append_left (by simpa using hlt), List.getElem?_map, hx]; rfl

theorem info5x : ∃ i, Try.prog.info? 5 = some i ∧ i.zero = some (.int .u8 0) ∧ i.size = 1 ∧ i.bytes = 1 := by
  have h := info5
  cases hi : Try.prog.info? 5 with
  | none => rw [hi] at h; cases h
  | some i =>
    rw [hi] at h
    simp only [Option.map_some, Option.some.injEq, Prod.mk.injEq] at h
    exact ⟨i, rfl, h.2.2, h.1, h.2.1⟩

theorem made_bytes (n : Nat) : (madeCells (Value.int .u8 0).cells (n * 1)).toList = List.replicate n (u8v 0) := by
  apply List.ext_getElem
  · simp [size_madeCells]
  · intro i h1 h2
    simp [madeCells, Value.cells, u8v, Nat.mod_one]

theorem lit_rd {η : OEnv} {G : Nat → Prop} {w : World} {v : Value} {Φ : World → Value → List Nat → Prop} (hob : ∀ k, ObjOpt η G w (lookN k [(1000, TObj.cust none (fun _ => Φ)), (1001, TObj.cells 5 [.int .u8 (.l 91), .int .u8 (.l 92)])]) (η k)) (hv : SVRel η G w (.csl 1001 1 2) v) : Rd w v 2 [u8v 91, u8v 92] := by
  have h := hob 1001
  simp only [SVRel] at hv
  obtain ⟨o, ho, h1, hv⟩ := hv
  rw [ho] at h
  have h : ObjRel η G w (.cells 5 [.int .u8 (.l 91), .int .u8 (.l 92)]) o := h
  obtain ⟨h2, h3, b, us, hm, hh, hs⟩ := h
  obtain ⟨b', hb', rfl⟩ := hv h2
  obtain rfl := OInfo.at_one hm hb'
  match us, hs with
  | [u1, u2], hs =>
    simp only [SVRels, SVRel, IE.den_l] at hs
    obtain ⟨rfl, rfl, -⟩ := hs
    refine ⟨_, _, rfl, fun _ => ⟨_, rfl, fun j u hj => ?_⟩⟩
    rw [add_none, cell_cells hh, Nat.zero_add]
    simpa [u8v] using hj
  | [], hs => exact hs.elim
  | [_], hs => exact hs.2.elim
  | _ :: _ :: _ :: _, hs => exact hs.2.2.elim

set_option maxRecDepth 20000 in
set_option maxHeartbeats 4000000 in
theorem con24 {l : List UInt8} (hl : l.length < 1000000000000) : Con 24 [.dat (.bytes fun _ => l)] [] (.own 2000) [(2000, .cust (some (.bytes fun _ => l)) (fun _ => roomΦ l))] := by
  obtain ⟨i, hi, hz, hs, hb⟩ := info5x
  obtain ⟨c, hc⟩ : ∃ c, c = l.length + 2 := ⟨_, rfl⟩
  have bc : bound64 ((l.length : Int) + 2) := by unfold bound64; omega
  have hzc : (l.length : Int) + 2 = (c : Int) := by omega
  obtain ⟨c0, h0⟩ : ∃ c0, c0 = (madeCells (Value.int .u8 0).cells (c * i.size)).toList := ⟨_, rfl⟩
  obtain ⟨n1, hn1⟩ : ∃ n1, n1 = 0 + l.length := ⟨_, rfl⟩
  obtain ⟨c1, h1⟩ : ∃ c1, c1 = c0.take (0 * i.size) ++ l.map u8v ++ c0.drop ((0 + l.length) * i.size) := ⟨_, rfl⟩
  obtain ⟨n2, hn2⟩ : ∃ n2, n2 = n1 + 2 := ⟨_, rfl⟩
  obtain ⟨c2, h2⟩ : ∃ c2, c2 = c1.take (n1 * i.size) ++ [u8v 91, u8v 92] ++ c1.drop ((n1 + 2) * i.size) := ⟨_, rfl⟩
  have hc0 : c0 = List.replicate c (u8v 0) := by rw [h0, hs]; exact made_bytes c
  have hc2 : c2 = roomC l := by
    rw [h2, h1, hs, hc0, hn1, hc]
    unfold roomC
    simp
  have r1 : ConG (rawC 7 27) [.int .i64 (.l 0), .int .i64 (.s fun _ => (l.length : Int) + 2)] [] Unit (fun _ => .own 2000) (fun _ => [(2000, .cust none (fun _ => rowΦ 5 1 0 c c0))]) :=
    ⟨raw_make (sz := 1) hzc hs.symm h0 Try.underlying27 hi hz (by rw [hb]; omega) (by omega)⟩
  have r2 : ConG (rawC 3 27) [.own 1000, .dat (.bytes fun _ => l)] [(1000, .cust none (fun _ => rowΦ 5 1 0 c c0))] Unit (fun _ => .own 2000) (fun _ => [(1000, .dead), (2000, .cust none (fun _ => rowΦ 5 1 n1 c c1))]) :=
    ⟨raw_app (sz := 1) (rest := []) (m := l.length) (news := l.map u8v) hs.symm hn1 h1 Try.underlying27 hi (by omega) (by omega) (by rw [hs]; simp) (u8v_one l) (by simp [namesOf]) fun η G w v _ hv => by simp only [SVRel] at hv; exact rd_bytes (bs := fun _ => l) hv⟩
  have r3 : ConG (rawC 3 27) [.own 1000, .csl 1001 1 2] [(1000, .cust none (fun _ => rowΦ 5 1 n1 c c1)), (1001, .cells 5 [.int .u8 (.l 91), .int .u8 (.l 92)])] Unit (fun _ => .own 2000) (fun _ => [(1000, .dead), (1001, .dead), (2000, .cust none (fun _ => rowΦ 5 1 n2 c c2))]) :=
    ⟨raw_app (sz := 1) (rest := [(1001, .cells 5 [.int .u8 (.l 91), .int .u8 (.l 92)])]) (m := 2) (news := [u8v 91, u8v 92]) hs.symm hn2 h2 Try.underlying27 hi (by omega) (by omega) (by rw [hs]; rfl) (by intro u hu; simp at hu; rcases hu with rfl | rfl <;> rfl) (by simp [namesOf]) fun η G w v hob hv => lit_rd hob hv⟩
  have r4 : ConG (rawC 6 27) [.own 1000, .int .i64 (.s fun _ => (l.length : Int))] [(1000, .cust none (fun _ => rowΦ 5 1 n2 c c2))] Unit (fun _ => .own 2000) (fun _ => [(1000, .dead), (2000, .cust (some (.bytes fun _ => l)) (fun _ => roomΦ l))]) :=
    ⟨raw_cut (n := n2) (m := l.length) (c := c) rfl Try.underlying27 hi (by omega) (fun w v B h => ⟨_, h.choose_spec.1⟩) fun w b B h => by
      obtain ⟨b', h1, rfl, h3, h4, h5⟩ := h
      cases h1
      rw [hc2] at h3 h4
      refine ⟨⟨b, by rw [hc], rfl, h3, by rw [h4, hc], by omega⟩, fun x hx => ?_⟩
      cases hx
      rw [hc]
      exact room_dv h3⟩
  clear h0 h1 h2 hn1 hn2 hc0 hc2
  refine con_of Try.func24 rfl rfl 18 _ rfl rfl rfl rfl ?_
  cbv
  refine ⟨⟨bc⟩, ?_⟩
  refine ⟨Unit, _, _, r1, ⟨by kernel_rfl⟩, fun _ => ⟨⟨by kernel_rfl⟩, ?_⟩⟩
  cbv
  refine ⟨Unit, _, _, r2, ⟨by kernel_rfl⟩, fun _ => ⟨⟨by kernel_rfl⟩, ?_⟩⟩
  cbv
  refine ⟨Unit, _, _, r3, ⟨by kernel_rfl⟩, fun _ => ⟨⟨by kernel_rfl⟩, ?_⟩⟩
  cbv
  refine ⟨Unit, _, _, r4, ⟨by kernel_rfl⟩, fun _ => ⟨⟨by kernel_rfl⟩, ?_⟩⟩
  cbv
  refine ⟨[(2000, some 4700)], [], ?_⟩
  cbv
  and_intros
  all_goals first | exact trivial | exact ⟨rfl⟩ | exact ⟨rfl, fun _ _ _ h => h⟩ | exact ⟨by kernel_rfl⟩
end Go.Proofs.Ytmdfjipjkkjpcaa

/- What is lent: entries. -/
namespace Go.Proofs.Ytmdfjipjkkjpcaa
open Go.SX

theorem specX_ofG {P : Program} {f : Nat} {svs : List SV} {objs : Objs} {r : Unit → SV} {objs' : Unit → Objs} (h : SpecG P f svs objs Unit r objs') : SpecX P f svs objs (r ()) (objs' ()) :=
  fun η G vs w h1 h2 h3 => (h η G vs w h1 h2 h3).mono fun _ _ ⟨_, h⟩ => h

theorem csl_at {η : OEnv} {G : Nat → Prop} {w : World} {objs : Objs} (hob : ∀ k, ObjOpt η G w (lookN k objs) (η k)) {k wd n T : Nat} {cs : List SV} (hk : lookN k objs = some (.cells T cs)) {v : Value} (hv : SVRel η G w (.csl k wd n) v) :
    ∃ o b us, η k = some o ∧ o.main = [b] ∧ o.inner = [] ∧ v = .slice (some ⟨b, 0, none⟩) n n ∧ HasRow w b T us ∧ SVRels η G w cs us := by
  have h := hob k
  simp only [SVRel] at hv
  obtain ⟨o, ho, h1, hv⟩ := hv
  rw [hk, ho] at h
  have h : ObjRel η G w (.cells T cs) o := h
  obtain ⟨h2, h3, b, us, hm, hh, hs⟩ := h
  obtain ⟨b', hb', rfl⟩ := hv h2
  obtain rfl := OInfo.at_one hm hb'
  exact ⟨o, b, us, ho, hm, h3, rfl, hh, hs⟩

def hdr (b : Nat) (l : List UInt8) : Value := .slice (some ⟨b, 0, none⟩) l.length (l.length + 2)
abbrev Slot := Nat × Nat × Ent
def Slot.cells (t : Slot) : List Value := [hdr t.1 t.2.2.key, hdr t.2.1 t.2.2.val, .int .u32 t.2.2.page, .int .u32 t.2.2.size]
def Slot.blks (t : Slot) : List Nat := [t.1, t.2.1]
def lastC : List Value := [.slice none 0 0, .slice none 0 0, .int .u32 77, .int .u32 0]

structure LentAt (es : List Ent) (n c : Nat) (tail : List Value) (w : World) (v : Value) (B : List Nat) (b : Nat) (L : List Slot) : Prop where
  hes : L.map (·.2.2) = es
  hv : v = .slice (some ⟨b, 0, none⟩) n c
  hB : B = b :: L.flatMap Slot.blks
  nd : B.Nodup
  row : HasRow w b 74 (L.flatMap Slot.cells ++ tail)
  len : es.length * 4 + tail.length = c * 4
  rooms : ∀ t ∈ L, HasRow w t.1 5 (roomC t.2.2.key) ∧ HasRow w t.2.1 5 (roomC t.2.2.val)

/-- A part of what is lent, with room behind. -/
def lentP (es : List Ent) (c : Nat) (w : World) (v : Value) (B : List Nat) : Prop := ∃ b L tail, LentAt es es.length c tail w v B b L
/-- All of it, and what marks the end. -/
def lentF (es : List Ent) (w : World) (v : Value) (B : List Nat) : Prop := ∃ b L, LentAt es (es.length + 1) (es.length + 1) lastC w v B b L
def lentΦ (es : List Ent) (w : World) (v : Value) (B : List Nat) : Prop := ∃ b L, LentAt es es.length (es.length + 1) lastC w v B b L

theorem cells_len (L : List Slot) : (L.flatMap Slot.cells).length = L.length * 4 := by
  induction L with
  | nil => rfl
  | cons t L ih => simp only [List.flatMap_cons, List.length_append, ih, List.length_cons]; simp [Slot.cells]; omega

theorem LentAt.keep {es : List Ent} {n c : Nat} {tail : List Value} {w w' : World} {v : Value} {B : List Nat} {b : Nat} {L : List Slot} (h : LentAt es n c tail w v B b L) (hw : ∀ x ∈ B, w'.heap[x]? = w.heap[x]?) : LentAt es n c tail w' v B b L := by
  have hB := h.hB
  have hin : ∀ t ∈ L, t.1 ∈ B ∧ t.2.1 ∈ B := fun t ht => by
    rw [hB]
    exact ⟨List.mem_cons_of_mem _ (List.mem_flatMap.2 ⟨t, ht, by simp [Slot.blks]⟩), List.mem_cons_of_mem _ (List.mem_flatMap.2 ⟨t, ht, by simp [Slot.blks]⟩)⟩
  exact ⟨h.hes, h.hv, h.hB, h.nd, by unfold HasRow; rw [hw b (by rw [hB]; simp)]; exact h.row, h.len, fun t ht => ⟨by unfold HasRow; rw [hw _ (hin t ht).1]; exact (h.rooms t ht).1, by unfold HasRow; rw [hw _ (hin t ht).2]; exact (h.rooms t ht).2⟩⟩

theorem room_at {η : OEnv} {G : Nat → Prop} {w : World} {objs : Objs} (hob : ∀ k, ObjOpt η G w (lookN k objs) (η k)) {k : Nat} {l : List UInt8} {d : Option DV} (hk : lookN k objs = some (.cust d (fun _ => roomΦ l))) {v : Value} (hv : SVRel η G w (.own k) v) :
    ∃ o b, η k = some o ∧ o.main = [b] ∧ v = hdr b l ∧ HasRow w b 5 (roomC l) := by
  obtain ⟨o, ho, _, _, rfl, hq⟩ := cust_at hob hk hv
  obtain ⟨b, h1, h2, h3, _, _⟩ := (hq w fun _ _ => rfl).1
  exact ⟨o, b, ho, h2, h1, h3⟩

theorem info74x : ∃ i, Try.prog.info? 74 = some i ∧ i.zero = some (.agg #[.slice none 0 0, .slice none 0 0, .int .u32 0, .int .u32 0]) ∧ i.size = 4 ∧ i.bytes = 56 := by
  have h := info74
  cases hi : Try.prog.info? 74 with
  | none => rw [hi] at h; cases h
  | some i =>
    rw [hi] at h
    simp only [Option.map_some, Option.some.injEq, Prod.mk.injEq] at h
    exact ⟨i, rfl, h.2.2, h.1, h.2.1⟩

/-- One entry more is lent. -/
theorem raw_lend {es : List Ent} {e : Ent} {c : Nat} (hroom : es.length + 1 ≤ c) {dk dv : Option DV} :
    SpecG Try.prog (rawC 3 22) [.own 1000, .csl 1001 4 1] [(1000, .cust none (fun _ => lentP es c)), (1001, .cells 74 [.own 1002, .own 1003, .int .u32 (.s fun _ => e.page), .int .u32 (.s fun _ => e.size)]), (1002, .cust dk (fun _ => roomΦ e.key)), (1003, .cust dv (fun _ => roomΦ e.val))]
      Unit (fun _ => .own 2000) (fun _ => [(1000, .dead), (1001, .dead), (1002, .dead), (1003, .dead), (2000, .cust none (fun _ => lentP (es ++ [e]) c))]) := by
  intro η G vs w hsep hob hs'
  match vs, hs' with
  | [v0, v1], hs' =>
    simp only [SVRels] at hs'
    obtain ⟨h0, hy1, -⟩ := hs'
    obtain ⟨o, ho, hd, hin, rfl, hq⟩ := cust_at hob (k := 1000) rfl h0
    obtain ⟨b, L, tail, hL⟩ := (hq w fun _ _ => rfl).1
    obtain ⟨o1, b1, us, ho1, hm1, hi1, rfl, hrow1, hus⟩ := csl_at hob (k := 1001) rfl hy1
    match us, hus with
    | [u1, u2, u3, u4], hus =>
      simp only [SVRels] at hus
      obtain ⟨k1, k2, k3, k4, -⟩ := hus
      simp only [SVRel, IE.den_s] at k3 k4
      subst k3; subst k4
      obtain ⟨o2, kb, ho2, hm2, rfl, hrk⟩ := room_at hob (k := 1002) rfl k1
      obtain ⟨o3, vb, ho3, hm3, rfl, hrv⟩ := room_at hob (k := 1003) rfl k2
      obtain ⟨i, hi, hz, hs, hb⟩ := info74x
      have hlL : L.length = es.length := by have := congrArg List.length hL.hes; simpa using this
      have hcl := cells_len L
      have hc : (L.flatMap Slot.cells ++ tail).length = c * i.size := by rw [List.length_append, hcl, hs, hlL]; exact hL.len
      have hrd : Rd w (.slice (some ⟨b1, 0, none⟩) 1 1) 1 (Slot.cells (kb, vb, e)) := ⟨_, _, rfl, fun _ => ⟨_, rfl, fun j u hj => by
        rw [add_none, cell_cells hrow1, Nat.zero_add]
        simpa [Slot.cells] using hj⟩⟩
      have hr := run_room (P := Try.prog) (ty := 22) Try.underlying22 hi (by omega) hL.row hc hroom hrd (by rw [hs]; rfl) (by intro u hu; simp [Slot.cells] at hu; rcases hu with rfl | rfl | rfl | rfl <;> rfl)
      unfold RunsX
      rw [rawSem_rawC (by omega)]
      refine ⟨_, _, by rw [hL.hv]; exact hr, (), ?_⟩
      have hne : ∀ (j : Nat) (oj : OInfo) (x : Nat), η j = some oj → x ∈ oj.main → j ≠ 1000 → x ∉ o.main := fun j oj x hj hx hne hx' => hsep.dj j oj 1000 o hj ho hne x (List.mem_append_left _ hx) (List.mem_append_left _ hx')
      have hkB : kb ∉ o.main := hne 1002 o2 kb ho2 (by simp [hm2]) (by omega)
      have hvB : vb ∉ o.main := hne 1003 o3 vb ho3 (by simp [hm3]) (by omega)
      have hkv : kb ≠ vb := fun e => hsep.dj 1002 o2 1003 o3 ho2 ho3 (by omega) kb (by simp [hm2]) (by simp [hm3, e])
      have hbB : b ∈ o.main := by rw [hL.hB]; simp
      have hother : ∀ x, x ≠ b → (w.setRow b ((L.flatMap Slot.cells ++ tail).take (es.length * i.size) ++ Slot.cells (kb, vb, e) ++ (L.flatMap Slot.cells ++ tail).drop ((es.length + 1) * i.size)).toArray).heap[x]? = w.heap[x]? := fun x hx => setRow_other w b x _ hx
      have hcs : (L.flatMap Slot.cells ++ tail).take (es.length * i.size) ++ Slot.cells (kb, vb, e) ++ (L.flatMap Slot.cells ++ tail).drop ((es.length + 1) * i.size) = (L ++ [(kb, vb, e)]).flatMap Slot.cells ++ tail.drop 4 := by
        rw [hs, ← hlL]
        have e1 : (L.flatMap Slot.cells ++ tail).take (L.length * 4) = L.flatMap Slot.cells := by rw [← hcl]; exact List.take_left
        have e2 : (L.flatMap Slot.cells ++ tail).drop ((L.length + 1) * 4) = tail.drop 4 := by
          rw [show (L.length + 1) * 4 = (L.flatMap Slot.cells).length + 4 by omega, ← List.drop_drop, List.drop_left]
        rw [e1, e2]
        simp
      have hat : LentAt (es ++ [e]) (es ++ [e]).length c (tail.drop 4) (w.setRow b ((L.flatMap Slot.cells ++ tail).take (es.length * i.size) ++ Slot.cells (kb, vb, e) ++ (L.flatMap Slot.cells ++ tail).drop ((es.length + 1) * i.size)).toArray)
          (.slice (some ⟨b, 0, none⟩) (es.length + 1) c) (o.main ++ [kb, vb]) b (L ++ [(kb, vb, e)]) := by
        refine ⟨by simp [hL.hes], by simp, by rw [hL.hB]; simp [Slot.blks], ?_, by rw [← hcs]; exact setRow_has hL.row, ?_, fun t ht => ?_⟩
        · refine List.nodup_append.2 ⟨hL.nd, by simp [hkv], fun x hx y hy e => ?_⟩
          subst e
          simp at hy
          rcases hy with rfl | rfl
          · exact hkB hx
          · exact hvB hx
        · have := hL.len
          simp only [List.length_append, List.length_cons, List.length_nil, List.length_drop]; omega
        · rcases List.mem_append.1 ht with ht | ht
          · have hb1 : t.1 ≠ b ∧ t.2.1 ≠ b := by
              have hnd := hL.nd
              rw [hL.hB] at hnd
              have hn := (List.nodup_cons.1 hnd).1
              exact ⟨fun e => hn (by rw [← e]; exact List.mem_flatMap.2 ⟨t, ht, by simp [Slot.blks]⟩), fun e => hn (by rw [← e]; exact List.mem_flatMap.2 ⟨t, ht, by simp [Slot.blks]⟩)⟩
            exact ⟨by unfold HasRow; rw [hother _ hb1.1]; exact (hL.rooms t ht).1, by unfold HasRow; rw [hother _ hb1.2]; exact (hL.rooms t ht).2⟩
          · simp at ht
            subst ht
            exact ⟨(hother kb fun e => hkB (by rw [e]; exact hbB)).trans hrk, (hother vb fun e => hvB (by rw [e]; exact hbB)).trans hrv⟩
      refine raw_own (objs := [(1000, .cust none (fun _ => lentP es c)), (1001, .cells 74 [.own 1002, .own 1003, .int .u32 (.s fun _ => e.page), .int .u32 (.s fun _ => e.size)]), (1002, .cust dk (fun _ => roomΦ e.key)), (1003, .cust dv (fun _ => roomΦ e.val))])
        (o := ⟨.slice (some ⟨b, 0, none⟩) (es.length + 1) c, o.main ++ [kb, vb], [], false⟩) (by simp [namesOf]) hsep hob
        ⟨rfl, rfl, rfl, by simp, fun b' hb' hno => hother b' fun e => hno 1000 (by simp [namesOf]) o ho (by rw [e]; simp [hbB]), fun b' hb' => ?_, by simp⟩ rfl
        (cust_rel fun w' hw' => ⟨⟨b, _, _, hat.keep hw'⟩, fun x hx => by cases hx⟩)
      simp only [List.append_nil, List.mem_append, List.mem_cons, List.not_mem_nil, or_false] at hb'
      rcases hb' with hb' | rfl | rfl
      · exact ⟨by simpa using (hsep.lt 1000 o ho b' (by simp [hb'])).1, .inr ⟨1000, by simp [namesOf], o, ho, by simp [hb']⟩⟩
      · exact ⟨by simpa using (hsep.lt 1002 o2 ho2 b' (by simp [hm2])).1, .inr ⟨1002, by simp [namesOf], o2, ho2, by simp [hm2]⟩⟩
      · exact ⟨by simpa using (hsep.lt 1003 o3 ho3 b' (by simp [hm3])).1, .inr ⟨1003, by simp [namesOf], o3, ho3, by simp [hm3]⟩⟩
    | [], h => exact h.elim
    | [_], h => exact h.2.elim
    | [_, _], h => exact h.2.2.elim
    | [_, _, _], h => exact h.2.2.2.elim
    | _ :: _ :: _ :: _ :: _ :: _, h => exact h.2.2.2.2.elim
  | [], h => exact h.elim
  | [_], h => exact h.2.elim
  | _ :: _ :: _ :: _, h => exact h.2.2.elim

theorem cells_at : ∀ (L : List Slot) (i j : Nat), i < L.length → j < 4 → (L.flatMap Slot.cells)[i * 4 + j]? = (Slot.cells (L.getD i default))[j]?
  | [], i, j, h, _ => by simp at h
  | t :: L, 0, j, _, hj => by
      simp only [List.flatMap_cons, Nat.zero_mul, Nat.zero_add]
      rw [List.getElem?_append_left (by simp [Slot.cells]; omega)]; rfl
  | t :: L, i + 1, j, h, hj => by
      simp only [List.flatMap_cons]
      rw [List.getElem?_append_right (by simp [Slot.cells]; omega), show (i + 1) * 4 + j - (Slot.cells t).length = i * 4 + j by simp [Slot.cells]; omega, cells_at L i j (by simpa using h) hj]; rfl

/-- An entry whose lists have room behind. -/
def encX (e : Unit → Ent) : Nat → DV
  | 0 => .rb (fun _ => (e ()).key) fun _ => [91, 92]
  | 1 => .rb (fun _ => (e ()).val) fun _ => [91, 92]
  | 2 => .int .u32 fun _ => (e ()).page
  | _ => .int .u32 fun _ => (e ()).size
def lastE : Ent := ⟨[], [], 77, 0⟩
def lentDV (es : List Ent) : DV := .rs 4 (fun _ => es.length) (fun _ => es.length + 1) (lrow encX fun _ => es) (lrow encE fun _ => es ++ [lastE])

theorem room_rb {l : List UInt8} {w : World} {b : Nat} (h : HasRow w b 5 (roomC l)) {S : Nat → Prop} (hb : S b) : DVRel w S (.rb (fun _ => l) fun _ => [91, 92]) (hdr b l) := by
  refine ⟨b, 0, rfl, hb, fun i x hx => ?_⟩
  rw [cell_cells h, Nat.zero_add]
  rw [show (⟨roomC l⟩ : Array Value)[i]? = (roomC l)[i]? by simp]
  have e : roomC l = (l ++ [91, 92]).map u8v := by simp [roomC]
  rw [e, List.getElem?_map, hx]; rfl
theorem rb_bytes {w : World} {S : Nat → Prop} {bs tail : Unit → List UInt8} {v : Value} (h : DVRel w S (.rb bs tail) v) : DVRel w S (.bytes bs) v := by
  obtain ⟨b, o, rfl, hb, hr⟩ := h
  exact ⟨_, _, rfl, by omega, fun i x hx => ⟨b, o, rfl, hb, hr i x (by rw [List.getElem?_append_left (List.getElem?_eq_some_iff.1 hx).1]; exact hx)⟩⟩

theorem lent_dv {es : List Ent} {w : World} {v : Value} {B : List Nat} {b : Nat} {L : List Slot} (h : LentAt es es.length (es.length + 1) lastC w v B b L) : DVRel w (fun x => x ∈ B) (lentDV es) v := by
  have hlL : L.length = es.length := by have := congrArg List.length h.hes; simpa using this
  have hbB : b ∈ B := by rw [h.hB]; simp
  have cell : ∀ i j, i < es.length → j < 4 → ∃ u, w.cell? ⟨b, 0 + i * 4 + j, none⟩ = some u ∧ DVRel w (fun x => x ∈ B) (encX (fun _ => es.getD i default) j) u := by
    intro i j hi hj
    have hi : i < L.length := by rw [hlL]; exact hi
    have hmem : L.getD i default ∈ L := getD_mem hi
    have he : es.getD i default = (L.getD i default).2.2 := by
      rw [← h.hes, List.getD_eq_getElem?_getD, List.getD_eq_getElem?_getD, List.getElem?_map, List.getElem?_eq_getElem hi]; rfl
    have hrooms := h.rooms _ hmem
    have hin : (L.getD i default).1 ∈ B ∧ (L.getD i default).2.1 ∈ B := by
      rw [h.hB]
      exact ⟨List.mem_cons_of_mem _ (List.mem_flatMap.2 ⟨_, hmem, by simp [Slot.blks]⟩), List.mem_cons_of_mem _ (List.mem_flatMap.2 ⟨_, hmem, by simp [Slot.blks]⟩)⟩
    have hcell : ∀ u, (Slot.cells (L.getD i default))[j]? = some u → w.cell? ⟨b, 0 + i * 4 + j, none⟩ = some u := by
      intro u hu
      rw [cell_cells h.row, Nat.zero_add]
      have : (L.flatMap Slot.cells ++ lastC)[i * 4 + j]? = some u := by
        rw [List.getElem?_append_left (by rw [cells_len]; omega), cells_at L i j hi hj, hu]
      simpa using this
    rw [he]
    match j, hj with
    | 0, _ => exact ⟨_, hcell _ rfl, room_rb hrooms.1 hin.1⟩
    | 1, _ => exact ⟨_, hcell _ rfl, room_rb hrooms.2 hin.2⟩
    | 2, _ => exact ⟨_, hcell _ rfl, rfl⟩
    | 3, _ => exact ⟨_, hcell _ rfl, rfl⟩
    | j + 4, h => omega
  refine ⟨b, 0, h.hv, hbB, by show es.length ≤ es.length + 1; omega, fun i hi j hj => cell i j hi hj, fun i hi j hj => ?_⟩
  have hi : i < es.length + 1 := hi
  show ∃ u, w.cell? ⟨b, 0 + i * 4 + j, none⟩ = some u ∧ DVRel w (fun x => x ∈ B) (encE (fun _ => (es ++ [lastE]).getD i default) j) u
  by_cases hlt : i < es.length
  · have e : (es ++ [lastE]).getD i default = es.getD i default := by rw [List.getD_eq_getElem?_getD, List.getD_eq_getElem?_getD, List.getElem?_append_left hlt]
    rw [e]
    obtain ⟨u, hu, hd⟩ := cell i j hlt hj
    refine ⟨u, hu, ?_⟩
    match j, hj with
    | 0, _ => exact rb_bytes hd
    | 1, _ => exact rb_bytes hd
    | 2, _ => exact hd
    | 3, _ => exact hd
    | j + 4, h => omega
  · have hie : i = es.length := by omega
    subst hie
    have e : (es ++ [lastE]).getD es.length default = lastE := by rw [List.getD_eq_getElem?_getD, List.getElem?_append_right (Nat.le_refl _)]; simp
    rw [e]
    have hcell : ∀ u, lastC[j]? = some u → w.cell? ⟨b, 0 + es.length * 4 + j, none⟩ = some u := by
      intro u hu
      rw [cell_cells h.row, Nat.zero_add]
      have : (L.flatMap Slot.cells ++ lastC)[es.length * 4 + j]? = some u := by
        rw [List.getElem?_append_right (by rw [cells_len, hlL]; omega), cells_len, hlL, show es.length * 4 + j - es.length * 4 = j by omega, hu]
      simpa using this
    match j, hj with
    | 0, _ => exact ⟨_, hcell _ rfl, none, 0, rfl, Nat.le_refl _, fun i x hx => by simp [lastE] at hx⟩
    | 1, _ => exact ⟨_, hcell _ rfl, none, 0, rfl, Nat.le_refl _, fun i x hx => by simp [lastE] at hx⟩
    | 2, _ => exact ⟨_, hcell _ rfl, rfl⟩
    | 3, _ => exact ⟨_, hcell _ rfl, rfl⟩
    | j + 4, h => omega

/-- What is lent, as entries. -/
theorem lent_ents {es : List Ent} {w : World} {S : Nat → Prop} {v : Value} (h : DVRel w S (lentDV es) v) : DVRel w S (entsDV es) v := by
  obtain ⟨b, o, hv, hb, hn, -, hr⟩ := h
  refine ⟨_, _, hv, hn, fun i hi => ⟨b, o, rfl, hb, fun j hj => ?_⟩⟩
  have hi : i < es.length := hi
  obtain ⟨u, hu, hd⟩ := hr i (by show i < es.length + 1; omega) j hj
  refine ⟨u, hu, ?_⟩
  have e : (es ++ [lastE]).getD i default = es.getD i default := by rw [List.getD_eq_getElem?_getD, List.getD_eq_getElem?_getD, List.getElem?_append_left hi]
  have hd : DVRel w S (encE (fun _ => (es ++ [lastE]).getD i default) j) u := hd
  rw [e] at hd
  exact hd

/-- The mark behind. -/
theorem raw_last {es : List Ent} :
    SpecG Try.prog (rawC 3 22) [.own 1000, .csl 1001 4 1] [(1000, .cust none (fun _ => lentP es (es.length + 1))), (1001, .cells 74 [.nil, .nil, .int .u32 (.l 77), .int .u32 (.l 0)])]
      Unit (fun _ => .own 2000) (fun _ => [(1000, .dead), (1001, .dead), (2000, .cust none (fun _ => lentF es))]) := by
  intro η G vs w hsep hob hs'
  match vs, hs' with
  | [v0, v1], hs' =>
    simp only [SVRels] at hs'
    obtain ⟨h0, hy1, -⟩ := hs'
    obtain ⟨o, ho, hd, hin, rfl, hq⟩ := cust_at hob (k := 1000) rfl h0
    obtain ⟨b, L, tail, hL⟩ := (hq w fun _ _ => rfl).1
    obtain ⟨o1, b1, us, ho1, hm1, hi1, rfl, hrow1, hus⟩ := csl_at hob (k := 1001) rfl hy1
    match us, hus with
    | [u1, u2, u3, u4], hus =>
      simp only [SVRels, SVRel, IE.den_l] at hus
      obtain ⟨rfl, rfl, rfl, rfl, -⟩ := hus
      obtain ⟨i, hi, hz, hs, hb⟩ := info74x
      have hlL : L.length = es.length := by have := congrArg List.length hL.hes; simpa using this
      have hcl := cells_len L
      have hc : (L.flatMap Slot.cells ++ tail).length = (es.length + 1) * i.size := by rw [List.length_append, hcl, hs, hlL]; exact hL.len
      have hrd : Rd w (.slice (some ⟨b1, 0, none⟩) 1 1) 1 lastC := ⟨_, _, rfl, fun _ => ⟨_, rfl, fun j u hj => by
        rw [add_none, cell_cells hrow1, Nat.zero_add]
        simpa [lastC] using hj⟩⟩
      have hr := run_room (P := Try.prog) (ty := 22) Try.underlying22 hi (by omega) hL.row hc (Nat.le_refl _) hrd (by rw [hs]; rfl) (by intro u hu; simp [lastC] at hu; rcases hu with rfl | rfl | rfl <;> rfl)
      unfold RunsX
      rw [rawSem_rawC (by omega)]
      refine ⟨_, _, by rw [hL.hv]; exact hr, (), ?_⟩
      have hbB : b ∈ o.main := by rw [hL.hB]; simp
      have hcs : (L.flatMap Slot.cells ++ tail).take (es.length * i.size) ++ lastC ++ (L.flatMap Slot.cells ++ tail).drop ((es.length + 1) * i.size) = L.flatMap Slot.cells ++ lastC := by
        rw [← hc, List.drop_length, List.append_nil, hs, ← hlL, ← hcl, List.take_left]
      rw [hcs]
      have hother : ∀ x, x ≠ b → (w.setRow b (L.flatMap Slot.cells ++ lastC).toArray).heap[x]? = w.heap[x]? := fun x hx => setRow_other w b x _ hx
      have hat : LentAt es (es.length + 1) (es.length + 1) lastC (w.setRow b (L.flatMap Slot.cells ++ lastC).toArray) (.slice (some ⟨b, 0, none⟩) (es.length + 1) (es.length + 1)) o.main b L := by
        refine ⟨hL.hes, rfl, hL.hB, hL.nd, setRow_has hL.row, by simp [lastC]; omega, fun t ht => ?_⟩
        have hb1 : t.1 ≠ b ∧ t.2.1 ≠ b := by
          have hnd := hL.nd
          rw [hL.hB] at hnd
          have hn := (List.nodup_cons.1 hnd).1
          exact ⟨fun e => hn (by rw [← e]; exact List.mem_flatMap.2 ⟨t, ht, by simp [Slot.blks]⟩), fun e => hn (by rw [← e]; exact List.mem_flatMap.2 ⟨t, ht, by simp [Slot.blks]⟩)⟩
        exact ⟨by unfold HasRow; rw [hother _ hb1.1]; exact (hL.rooms t ht).1, by unfold HasRow; rw [hother _ hb1.2]; exact (hL.rooms t ht).2⟩
      exact raw_own (objs := [(1000, .cust none (fun _ => lentP es (es.length + 1))), (1001, .cells 74 [.nil, .nil, .int .u32 (.l 77), .int .u32 (.l 0)])])
        (o := ⟨.slice (some ⟨b, 0, none⟩) (es.length + 1) (es.length + 1), o.main, [], false⟩) (by simp [namesOf]) hsep hob
        ⟨rfl, rfl, rfl, by simp, fun b' hb' hno => hother b' fun e => hno 1000 (by simp [namesOf]) o ho (by rw [e]; simp [hbB]), fun b' hb' => by
          simp only [List.append_nil] at hb'
          exact ⟨by simpa using (hsep.lt 1000 o ho b' (by simp [hb'])).1, .inr ⟨1000, by simp [namesOf], o, ho, by simp [hb']⟩⟩, by simp⟩ rfl
        (cust_rel fun w' hw' => ⟨⟨b, _, hat.keep hw'⟩, fun x hx => by cases hx⟩)
    | [], h => exact h.elim
    | [_], h => exact h.2.elim
    | [_, _], h => exact h.2.2.elim
    | [_, _, _], h => exact h.2.2.2.elim
    | _ :: _ :: _ :: _ :: _ :: _, h => exact h.2.2.2.2.elim
  | [], h => exact h.elim
  | [_], h => exact h.2.elim
  | _ :: _ :: _ :: _, h => exact h.2.2.elim

theorem rowΦ_lentP {c : Nat} {cs : List Value} {w : World} {v : Value} {B : List Nat} (h : rowΦ 74 4 0 c cs w v B) : lentP [] c w v B := by
  obtain ⟨b, h1, rfl, h3, h4, _⟩ := h
  exact ⟨b, [], cs, rfl, h1, by simp, by simp, by simpa using h3, by simpa using h4, by simp⟩

set_option maxRecDepth 20000 in
set_option maxHeartbeats 4000000 in
theorem con11 {es : List Ent} (hs : ∀ e ∈ es, SmallE e) (hl : es.length < 1000000000) : Con 11 [.dat (entsDV es)] [] (.own 2000) [(2000, .cust (some (lentDV es)) (fun _ => lentΦ es))] := by
  obtain ⟨i, hi, hz, hsz, hb⟩ := info74x
  have bc : bound64 ((es.length : Int) + 1) := by unfold bound64; omega
  obtain ⟨c, hc⟩ : ∃ c, c = es.length + 1 := ⟨_, rfl⟩
  have hzc : (es.length : Int) + 1 = (c : Int) := by omega
  obtain ⟨c0, h0⟩ : ∃ c0, c0 = (madeCells (Value.agg #[.slice none 0 0, .slice none 0 0, .int .u32 0, .int .u32 0]).cells (c * i.size)).toList := ⟨_, rfl⟩
  have r1 : ConG (rawC 7 22) [.int .i64 (.l 0), .int .i64 (.s fun _ => (es.length : Int) + 1)] [] Unit (fun _ => .own 2000) (fun _ => [(2000, .cust none (fun _ => rowΦ 74 4 0 c c0))]) :=
    ⟨raw_make (sz := 4) hzc hsz.symm h0 Try.underlying22 hi hz (by rw [hb]; omega) (by omega)⟩
  have r3 : ConG (rawC 3 22) _ _ Unit _ _ := ⟨raw_last (es := es)⟩
  rw [← hc] at r3
  have r4 : ConG (rawC 6 22) [.own 1000, .int .i64 (.s fun _ => (es.length : Int))] [(1000, .cust none (fun _ => lentF es))] Unit (fun _ => .own 2000) (fun _ => [(1000, .dead), (2000, .cust (some (lentDV es)) (fun _ => lentΦ es))]) :=
    ⟨raw_cut (n := es.length + 1) (m := es.length) (c := es.length + 1) rfl Try.underlying22 hi (by omega) (fun w v B h => by obtain ⟨b, L, h⟩ := h; exact ⟨b, h.hv⟩) fun w b B h => by
      obtain ⟨b', L, h⟩ := h
      have hbb : b = b' := by have := h.hv; cases this; rfl
      subst hbb
      have h' : LentAt es es.length (es.length + 1) lastC w (.slice (some ⟨b, 0, none⟩) es.length (es.length + 1)) B b L := ⟨h.hes, rfl, h.hB, h.nd, h.row, h.len, h.rooms⟩
      refine ⟨⟨b, L, h'⟩, fun x hx => ?_⟩
      cases hx
      exact lent_dv h'⟩
  refine con_of Try.func11 rfl rfl 50 _ rfl rfl rfl rfl ?_
  cbv
  refine ⟨⟨bc⟩, ?_⟩
  refine ⟨Unit, _, _, r1, ⟨by kernel_rfl⟩, fun _ => ⟨⟨by kernel_rfl⟩, ?_⟩⟩
  cbv
  refine ⟨Nat × List Ent, [500], fun x => [(3, .own 500), (4, .int .i64 (.s fun _ => (x.1 : Int)))], fun x => [(500, .cust none (fun _ => lentP x.2 c))],
    fun x => x.1 ≤ es.length ∧ x.2 = es.take x.1, fun x => es.length - x.1, (0, []), [(500, some 3900)], ⟨Nat.zero_le _, rfl⟩, ⟨?_⟩, fun x hx => ?_⟩
  · cbv
    and_intros
    all_goals first | exact trivial | exact ⟨rfl⟩ | exact ⟨rfl, fun _ _ _ h => rowΦ_lentP h⟩ | exact ⟨by kernel_rfl⟩
  · obtain ⟨k, P⟩ := x
    obtain ⟨hk, hP⟩ : k ≤ es.length ∧ P = es.take k := hx
    have hPl : P.length = k := by rw [hP]; simp; omega
    cbv
    refine ⟨fun h1 => ?_, fun h1 => ?_⟩
    · have h1 : (k : Int) < (es.length : Int) := of_decide_eq_true h1
      have hlt : k < es.length := by omega
      have o1 : indexObl (k : Int) es.length := ⟨by omega, h1⟩
      have bk : bound64 ((k : Int) + 1) := by unfold bound64; omega
      have ek : (k : Int) + 1 = ((k + 1 : Nat) : Int) := by omega
      have hms : es.length - (k + 1) < es.length - k := by omega
      have hse := hs _ (getD_mem hlt)
      have ck := con24 hse.1
      have cv := con24 hse.2
      have r2 : Con (rawC 3 22) _ _ _ _ := ⟨specX_ofG (raw_lend (es := P) (e := es.getD k default) (c := c) (dk := some (.bytes fun _ => (es.getD k default).key)) (dv := some (.bytes fun _ => (es.getD k default).val)) (by omega))⟩
      have hnx : k + 1 ≤ es.length ∧ P ++ [es.getD k default] = es.take (k + 1) := ⟨hlt, by rw [getD_take es hlt, hP]⟩
      obtain ⟨P', hP'⟩ : ∃ P', P' = P ++ [es.getD k default] := ⟨_, rfl⟩
      rw [← hP'] at r2 hnx
      clear h1 hP hP' hPl
      cbv
      refine ⟨⟨o1⟩, ⟨o1⟩, ⟨o1⟩, ?_⟩
      refine ⟨_, _, ck, ⟨?_⟩, ?_⟩
      · kernel_rfl
      cbv
      refine ⟨⟨o1⟩, _, _, cv, ⟨?_⟩, ?_⟩
      · kernel_rfl
      cbv
      refine ⟨_, _, r2, ⟨?_⟩, ?_⟩
      · kernel_rfl
      cbv
      refine ⟨⟨by kernel_rfl⟩, ?_⟩
      cbv
      refine ⟨⟨bk⟩, (k + 1, P'), [(500, some 7100)], hnx, hms, ⟨?_⟩, ⟨?_⟩⟩
      · kernel_rfl
      · cbv
        and_intros
        all_goals first | exact trivial | exact ⟨rfl⟩ | exact ⟨ek⟩ | exact ⟨rfl, fun _ _ _ h => h⟩ | exact ⟨by kernel_rfl⟩
    · have h1 : ¬ (k : Int) < (es.length : Int) := of_decide_eq_false h1
      have hPe : P = es := by rw [hP, List.take_of_length_le (by omega)]
      clear h1 hP hPl
      subst hPe
      cbv
      refine ⟨Unit, _, _, r3, ⟨by kernel_rfl⟩, fun _ => ⟨⟨by kernel_rfl⟩, ?_⟩⟩
      cbv
      refine ⟨Unit, _, _, r4, ⟨by kernel_rfl⟩, fun _ => ⟨⟨by kernel_rfl⟩, ?_⟩⟩
      cbv
      refine ⟨[(2000, some 7900)], [], ?_⟩
      cbv
      and_intros
      all_goals first | exact trivial | exact ⟨rfl⟩ | exact ⟨rfl, fun _ _ _ h => h⟩ | exact ⟨by kernel_rfl⟩
end Go.Proofs.Ytmdfjipjkkjpcaa

/- What is lent: is it whole? -/
namespace Go.Proofs.Ytmdfjipjkkjpcaa
open Go.SX

theorem con22r {a b : List UInt8} {t : Unit → List UInt8} (hl : a.length < 1000000000000) : Con 22 [.dat (.rb (fun _ => a) t), .dat (.bytes fun _ => b)] [] (.bool (.s fun _ => decide (a = b))) [] := by
  refine (con22 (a := a) (b := b) hl).args fun η G w vs hv => ?_
  match vs, hv with
  | [v1, v2], hv =>
    refine ⟨?_, hv.2.1, trivial⟩
    have h := hv.1
    simp only [SVRel] at h ⊢
    exact rb_bytes h
  | [], hv => exact hv.elim
  | [_], hv => exact hv.2.elim
  | _ :: _ :: _ :: _, hv => exact hv.2.2.elim

set_option maxRecDepth 20000 in
set_option maxHeartbeats 4000000 in
theorem con26 {l : List UInt8} (hl : l.length < 1000000000000) : Con 26 [.dat (.rb (fun _ => l) fun _ => [91, 92]), .dat (.bytes fun _ => l)] [] (.bool (.s fun _ => true)) [] := by
  have b2 : bound64 ((l.length : Int) + 2) := by unfold bound64; omega
  have b1 : bound64 ((l.length : Int) + 1) := by unfold bound64; omega
  have hcap : ¬ ((l.length + [91, 92].length : Nat) : Int) < (l.length : Int) + 2 := by simp
  have so : 0 ≤ (l.length : Int) + 2 ∧ (l.length : Int) + 2 ≤ ((l.length + [91, 92].length : Nat) : Int) := by simp; omega
  have ey : (l ++ [91, 92]).take ((l.length : Int) + 2).toNat = l ++ [91, 92] := by rw [List.take_of_length_le]; simp; omega
  have o0 : indexObl (l.length : Int) ((l ++ [91, 92]).take ((l.length : Int) + 2).toNat).length := by rw [ey]; unfold indexObl; simp; omega
  have o1 : indexObl ((l.length : Int) + 1) ((l ++ [91, 92]).take ((l.length : Int) + 2).toNat).length := by rw [ey]; unfold indexObl; simp; omega
  have g0 : ((((l ++ [91, 92]).take ((l.length : Int) + 2).toNat).getD ((l.length : Int)).toNat 0).toNat : Int) = 91 := by rw [ey]; simp
  have g1 : ((((l ++ [91, 92]).take ((l.length : Int) + 2).toNat).getD ((l.length : Int) + 1).toNat 0).toNat : Int) = 92 := by rw [ey, show ((l.length : Int) + 1).toNat = l.length + 1 by omega]; simp
  have cs := (con22r (a := l) (b := l) (t := fun _ => [91, 92]) (by omega)).yes (decide_eq_true rfl)
  clear ey
  refine con_of Try.func26 rfl rfl 37 _ rfl rfl rfl rfl ?_
  cbv
  refine ⟨⟨b2⟩, ?_⟩
  cbv
  refine And.intro ?_ ?_
  · intro h1
    have h1 : ((l.length + [91, 92].length : Nat) : Int) < (l.length : Int) + 2 := of_decide_eq_true h1
    exact False.elim (hcap h1)
  · intro h1
    clear h1 hcap
    cbv
    refine ⟨⟨b2⟩, ⟨so⟩, ?_⟩
    cbv
    refine ⟨⟨o0⟩, ?_⟩
    cbv
    refine And.intro ?_ ?_
    · intro h2
      clear h2
      cbv
      refine ⟨⟨b1⟩, ⟨o1⟩, ?_⟩
      cbv
      refine And.intro ?_ ?_
      · intro h3
        clear h3
        cbv
        refine ⟨_, _, cs, ⟨?_⟩, ?_⟩
        · kernel_rfl
        cbv
        refine ⟨[], [], ?_⟩
        cbv
        and_intros
        all_goals first | exact trivial | exact ⟨rfl⟩ | exact ⟨by kernel_rfl⟩
      · intro h3
        have h3 : ¬ (((((l ++ [91, 92]).take ((l.length : Int) + 2).toNat).getD ((l.length : Int) + 1).toNat 0).toNat : Int) = 92) := of_decide_eq_false h3
        exact False.elim (h3 g1)
    · intro h2
      have h2 : ¬ (((((l ++ [91, 92]).take ((l.length : Int) + 2).toNat).getD ((l.length : Int)).toNat 0).toNat : Int) = 91) := of_decide_eq_false h2
      exact False.elim (h2 g0)
end Go.Proofs.Ytmdfjipjkkjpcaa

/- What is lent: are entries whole? -/
namespace Go.Proofs.Ytmdfjipjkkjpcaa
open Go.SX

theorem ne_self {α : Type} [DecidableEq α] {a : α} (h : (!decide (a = a)) = true) : False := by simp at h

set_option maxRecDepth 20000 in
set_option maxHeartbeats 400000 in
theorem con15 {es : List Ent} (hs : ∀ e ∈ es, SmallE e) (hl : es.length < 1000000000) : Con 15 [.dat (lentDV es), .dat (entsDV es)] [] (.bool .t) [] := by
  have b1 : bound64 ((es.length : Int) + 1) := by unfold bound64; omega
  have hcap : ¬ ((es.length + 1 : Nat) : Int) < (es.length : Int) + 1 := by omega
  have so : 0 ≤ (es.length : Int) + 1 ∧ (es.length : Int) + 1 ≤ ((es.length + 1 : Nat) : Int) := by omega
  have o0 : indexObl (es.length : Int) ((es.length : Int) + 1).toNat := by unfold indexObl; omega
  have g0 : ((es ++ [lastE]).getD (es.length : Int).toNat default).page = 77 := by simp [lastE]
  refine con_of Try.func15 rfl rfl 90 _ rfl rfl rfl rfl ?_
  cbv
  refine And.intro ?_ ?_
  · intro h
    exact (ne_self h).elim
  · intro h
    clear h
    cbv
    refine ⟨⟨b1⟩, ?_⟩
    cbv
    refine And.intro ?_ ?_
    · intro h
      have h : ((es.length + 1 : Nat) : Int) < (es.length : Int) + 1 := of_decide_eq_true h
      exact False.elim (hcap h)
    · intro h
      clear h hcap
      cbv
      refine ⟨⟨b1⟩, ⟨so⟩, ?_⟩
      cbv
      refine ⟨⟨o0⟩, ?_⟩
      cbv
      refine And.intro ?_ ?_
      · intro h
        have h : ¬ (((es ++ [lastE]).getD (es.length : Int).toNat default).page = 77) := of_decide_eq_false (bnot_t h)
        exact False.elim (h g0)
      · intro h
        clear h g0
        cbv
        refine ⟨Nat, [], fun i => [(6, .int .i64 (.s fun _ => (i : Int)))], fun i => [], fun i => i ≤ es.length, fun i => es.length - i, 0, [], Nat.zero_le _, ⟨?_⟩, fun i hx => ?_⟩
        · cbv
          and_intros
          all_goals first | exact trivial | exact ⟨rfl⟩ | exact ⟨by kernel_rfl⟩
        · have hi : i ≤ es.length := hx
          cbv
          refine And.intro ?_ ?_
          · intro h2
            have h2 : (i : Int) < (es.length : Int) := of_decide_eq_true h2
            have hlt : i < es.length := by omega
            have o1 : indexObl (i : Int) es.length := ⟨by omega, h2⟩
            have bi : bound64 ((i : Int) + 1) := by unfold bound64; omega
            have ei : (i : Int) + 1 = ((i + 1 : Nat) : Int) := by omega
            have hms : es.length - (i + 1) < es.length - i := by omega
            have hsi := hs _ (getD_mem hlt)
            have ck := (con26 (l := (es.getD i default).key) hsi.1).yes rfl
            have cv := (con26 (l := (es.getD i default).val) hsi.2).yes rfl
            have hlt : i + 1 ≤ es.length := hlt
            clear h2 hsi
            cbv
            refine ⟨⟨o1⟩, ⟨o1⟩, ?_⟩
            cbv
            refine And.intro ?_ ?_
            · intro h3
              have h3 : (!decide ((es.getD i default).page = (es.getD i default).page)) = true := h3
              have h3 : False := ne_self h3
              cbv
              exact h3.elim
            · intro h3
              clear h3
              cbv
              refine ⟨⟨o1⟩, ⟨o1⟩, ?_⟩
              cbv
              refine And.intro ?_ ?_
              · intro h3
                have h3 : (!decide ((es.getD i default).size = (es.getD i default).size)) = true := h3
                have h3 : False := ne_self h3
                cbv
                exact h3.elim
              · intro h3
                clear h3
                cbv
                refine ⟨⟨o1⟩, ⟨o1⟩, _, _, ck, ⟨?_⟩, ?_⟩
                · kernel_rfl
                cbv
                refine ⟨⟨o1⟩, ⟨o1⟩, _, _, cv, ⟨?_⟩, ?_⟩
                · kernel_rfl
                cbv
                refine ⟨⟨by kernel_rfl⟩, ?_⟩
                cbv
                refine ⟨⟨bi⟩, i + 1, [], hlt, hms, ⟨?_⟩, ⟨?_⟩⟩
                · kernel_rfl
                · cbv
                  and_intros
                  all_goals first | exact trivial | exact ⟨rfl⟩ | exact ⟨ei⟩ | exact ⟨by kernel_rfl⟩
          · intro h2
            clear h2
            cbv
            refine ⟨[], [], ?_⟩
            cbv
            and_intros
            all_goals first | exact trivial | exact ⟨rfl⟩ | exact ⟨by kernel_rfl⟩
end Go.Proofs.Ytmdfjipjkkjpcaa

/- What is lent: written over. -/
namespace Go.Proofs.Ytmdfjipjkkjpcaa
open Go.SX

theorem conG {f : Nat} {svs : List SV} {objs : Objs} {r : SV} {objs' : Objs} (h : SpecX Try.prog f svs objs r objs') : ConG f svs objs Unit (fun _ => r) (fun _ => objs') :=
  ⟨fun η G vs w h1 h2 h3 => (h η G vs w h1 h2 h3).mono fun _ _ ⟨η', G', hh⟩ => ⟨(), η', G', hh⟩⟩

set_option maxRecDepth 20000 in
set_option maxHeartbeats 1000000 in
theorem con27 {kb n c : Nat} {v0 : Value} {Q : Mem → Prop} (hc : c < 2000000000000) (hQ : ∀ H, Q H → (H.map (·.1)).Nodup → ∃ cs, (kb, 5, cs) ∈ H ∧ cs.length = c ∧ ∀ cs' : List Value, cs'.length = c → Q (putB H kb cs')) :
    Con 27 [.rv 1000 (fun _ => .slice (some ⟨kb, 0, none⟩) n c)] [(1000, .cust none (fun _ => exΦ v0 Q))] (.tup []) [(1000, .cust none (fun _ => exΦ v0 Q))] := by
  obtain ⟨i5, hi5, -⟩ := info5x
  have r1 := conG (ex_cap (T := 27) (Q := Q) (v0 := v0) (a := .rv 1000 fun _ => .slice (some ⟨kb, 0, none⟩) n c) Try.underlying27 (.inl rfl))
  have r2 := conG (ex_cut (T := 27) (Q := Q) (v0 := v0) (m := c) (zm := (c : Int)) (a := .rv 1000 fun _ => .slice (some ⟨kb, 0, none⟩) n c) Try.underlying27 hi5 (.inl rfl) rfl (Nat.le_refl _))
  have r3 := conG (ex_len (T := 27) (Q := Q) (v0 := v0) (a := .rv 1000 fun _ => .slice (some ⟨kb, 0, none⟩) c c) Try.underlying27 (.inl rfl))
  refine con_of Try.func27 rfl rfl 17 _ rfl rfl rfl rfl ?_
  cbv
  refine ⟨Unit, _, _, r1, ⟨by kernel_rfl⟩, fun _ => ⟨⟨by kernel_rfl⟩, ?_⟩⟩
  cbv
  refine ⟨Unit, _, _, r2, ⟨by kernel_rfl⟩, fun _ => ⟨⟨by kernel_rfl⟩, ?_⟩⟩
  cbv
  refine ⟨Nat, [1000], fun i => [(2, .rv 1000 fun _ => .slice (some ⟨kb, 0, none⟩) c c), (3, .int .i64 (.s fun _ => (i : Int)))], fun i => [(1000, .cust none (fun _ => exΦ v0 Q))], fun i => i ≤ c, fun i => c - i, 0, [(1000, some 1000)], Nat.zero_le _, ⟨?_⟩, fun i hx => ?_⟩
  · cbv
    and_intros
    all_goals first | exact trivial | exact ⟨rfl⟩ | exact ⟨rfl, fun _ _ _ h => h⟩ | exact ⟨by kernel_rfl⟩
  · have hi : i ≤ c := hx
    cbv
    refine ⟨Unit, _, _, r3, ⟨by kernel_rfl⟩, fun _ => ⟨⟨by kernel_rfl⟩, ?_⟩⟩
    cbv
    refine And.intro ?_ ?_
    · intro h1
      have h1 : (i : Int) < (c : Int) := of_decide_eq_true h1
      have hlt : i < c := by omega
      have bk : bound64 ((i : Int) + 1) := by unfold bound64; omega
      have ek : (i : Int) + 1 = ((i + 1 : Nat) : Int) := by omega
      have hms : c - (i + 1) < c - i := by omega
      have r4 := conG (ex_idx eok (T := 27) (Q := Q) (v0 := v0) (i := i) (z := (i : Int)) (te := ⟨.int .u8, 1, 1, [.int .u8 (.l 0)], [.bool fun _ => false]⟩) (a := .rv 1000 fun _ => .slice (some ⟨kb, 0, none⟩) c c) Try.underlying27 rfl (.inl rfl) rfl hlt)
      have r5 := conG (ex_store eok (T := 5) (b := kb) (o := i) (Q := Q) (Q' := Q) (v0 := v0) (us := [.int .u8 238]) (a := .rv 1000 fun _ => .pointer (some ⟨kb, i, none⟩)) (x := .int .u8 (.l 238)) (ti := ⟨.int .u8, 1, 1, [.int .u8 (.l 0)], [.bool fun _ => false]⟩) rfl rfl (by simp [Value.oneCell'])
        (fun η G w v hv => by simp only [SVRel, IE.den_l] at hv; subst hv; rfl) fun H hq hn => by
          obtain ⟨cs, q1, q2, q3⟩ := hQ H hq hn
          exact ⟨.inl rfl, 5, cs, q1, by rw [q2]; exact hlt, q3 _ (by simp; omega)⟩)
      have e4 : 0 + i * 1 = i := by omega
      simp only [e4] at r4
      clear h1
      cbv
      refine ⟨Unit, _, _, r4, ⟨by kernel_rfl⟩, fun _ => ⟨⟨by kernel_rfl⟩, ?_⟩⟩
      cbv
      refine ⟨Unit, _, _, r5, ⟨by kernel_rfl⟩, fun _ => ⟨⟨by kernel_rfl⟩, ?_⟩⟩
      cbv
      refine ⟨⟨bk⟩, i + 1, [(1000, some 1000)], hlt, hms, ⟨?_⟩, ⟨?_⟩⟩
      · kernel_rfl
      · cbv
        and_intros
        all_goals first | exact trivial | exact ⟨rfl⟩ | exact ⟨ek⟩ | exact ⟨rfl, fun _ _ _ h => h⟩ | exact ⟨by kernel_rfl⟩
    · intro h1
      clear h1
      cbv
      refine ⟨[(1000, some 1000)], [], ?_⟩
      cbv
      and_intros
      all_goals first | exact trivial | exact ⟨rfl⟩ | exact ⟨rfl, fun _ _ _ h => h⟩ | exact ⟨by kernel_rfl⟩

/-- What is lent, as blocks: the row as it was, each list's block as long as it was. -/
def Sh (L : List Slot) (b : Nat) (H : Mem) : Prop := (b, 74, L.flatMap Slot.cells ++ lastC) ∈ H ∧ ∀ t ∈ L, (∃ cs, (t.1, 5, cs) ∈ H ∧ cs.length = t.2.2.key.length + 2) ∧ ∃ cs, (t.2.1, 5, cs) ∈ H ∧ cs.length = t.2.2.val.length + 2
/-- The row is as long as it was. -/
def Sr (c b : Nat) (H : Mem) : Prop := ∃ cs, (b, 74, cs) ∈ H ∧ cs.length = c * 4

theorem Sh.put {L : List Slot} {b : Nat} {H : Mem} (h : Sh L b H) (hn : (H.map (·.1)).Nodup) {kb : Nat} {cs cs' : List Value} (hk : (kb, 5, cs) ∈ H) (hl : cs'.length = cs.length) : Sh L b (putB H kb cs') := by
  have room : ∀ {t n : Nat}, (∃ c2 : List Value, (t, 5, c2) ∈ H ∧ c2.length = n) → ∃ c2 : List Value, (t, 5, c2) ∈ putB H kb cs' ∧ c2.length = n := by
    rintro t n ⟨c2, h1, h2⟩
    by_cases e : t = kb
    · subst e
      have e2 := mem_eq hn h1 hk rfl
      simp only [Prod.mk.injEq, true_and] at e2
      exact ⟨cs', putB_mem hk, by rw [hl, ← e2, h2]⟩
    · exact ⟨c2, putB_other h1 e, h2⟩
  refine ⟨putB_other h.1 fun e => ?_, fun t ht => ⟨room (h.2 t ht).1, room (h.2 t ht).2⟩⟩
  have e2 := mem_eq hn h.1 hk e
  simp at e2
theorem Sh.row {L : List Slot} {b : Nat} {H : Mem} (h : Sh L b H) : Sr (L.length + 1) b H := ⟨_, h.1, by rw [List.length_append, cells_len]; simp [lastC]; omega⟩
theorem Sh.at {L : List Slot} {b : Nat} {H : Mem} (h : Sh L b H) {i j : Nat} (hi : i < L.length) (hj : j < 4) {u : Value} (hu : (Slot.cells (L.getD i default))[j]? = some u) : ∃ Tb cs, (b, Tb, cs) ∈ H ∧ cs[i * 4 + j]? = some u :=
  ⟨_, _, h.1, by rw [List.getElem?_append_left (by rw [cells_len]; omega), cells_at L i j hi hj, hu]⟩

def te5 : TI := ⟨.int .u8, 1, 1, [.int .u8 (.l 0)], [.bool fun _ => false]⟩

set_option maxRecDepth 20000 in
set_option maxHeartbeats 1000000 in
theorem con16m {L : List Slot} {b : Nat} (hL : L.length < 1000000000) (hs : ∀ t ∈ L, SmallE t.2.2) :
    Con 16 [.own 1000] [(1000, .cust none (fun _ => exΦ (.slice (some ⟨b, 0, none⟩) L.length (L.length + 1)) (Sh L b)))] (.tup []) [(1000, .dead)] := by
  obtain ⟨n, hn⟩ : ∃ n, n = L.length := ⟨_, rfl⟩
  obtain ⟨c, hc⟩ : ∃ c, c = L.length + 1 := ⟨_, rfl⟩
  obtain ⟨v0, hv0⟩ : ∃ v0, v0 = Value.slice (some ⟨b, 0, none⟩) n c := ⟨_, rfl⟩
  obtain ⟨i74, hi74, -⟩ := info74x
  rw [← hn] at hL
  have hv0' : Value.slice (some ⟨b, 0, none⟩) L.length (L.length + 1) = v0 := by rw [hv0, hn, hc]
  rw [hv0']
  have r1 := conG (ex_len (T := 22) (Q := Sh L b) (v0 := v0) (n := n) (c := c) (a := .own 1000) Try.underlying22 (.inr ⟨rfl, hv0.symm⟩))
  have r6 := conG (ex_cap (T := 22) (Q := Sh L b) (v0 := v0) (n := n) (c := c) (a := .own 1000) Try.underlying22 (.inr ⟨rfl, hv0.symm⟩))
  have r7 := conG (ex_cut (T := 22) (Q := Sh L b) (v0 := v0) (n := n) (c := c) (m := c) (zm := (c : Int)) (a := .own 1000) Try.underlying22 hi74 (.inr ⟨rfl, hv0.symm⟩) rfl (Nat.le_refl _))
  refine con_of Try.func16 rfl rfl 37 _ rfl rfl rfl rfl ?_
  cbv
  refine ⟨Nat, [1000], fun i => [(0, .own 1000), (2, .int .i64 (.s fun _ => (i : Int)))], fun i => [(1000, .cust none (fun _ => exΦ v0 (Sh L b)))], fun i => i ≤ n, fun i => n - i, 0, [(1000, some 1000)], Nat.zero_le _, ⟨?_⟩, fun i hx => ?_⟩
  · cbv
    and_intros
    all_goals first | exact trivial | exact ⟨rfl⟩ | exact ⟨rfl, fun _ _ _ h => h⟩ | exact ⟨by kernel_rfl⟩
  · have hi : i ≤ n := hx
    cbv
    refine ⟨Unit, _, _, r1, ⟨by kernel_rfl⟩, fun _ => ⟨⟨by kernel_rfl⟩, ?_⟩⟩
    cbv
    refine And.intro ?_ ?_
    · intro h1
      have h1 : (i : Int) < (n : Int) := of_decide_eq_true h1
      have hlt : i < n := by omega
      have bk : bound64 ((i : Int) + 1) := by unfold bound64; omega
      have ek : (i : Int) + 1 = ((i + 1 : Nat) : Int) := by omega
      have hms : n - (i + 1) < n - i := by omega
      have hltL : i < L.length := by omega
      have ht := getD_mem hltL
      obtain ⟨t, hte⟩ : ∃ t, t = L.getD i default := ⟨_, rfl⟩
      rw [← hte] at ht
      have hst := hs _ ht
      have r2 := conG (ex_idx eok (T := 22) (e := 74) (o := 0) (Q := Sh L b) (v0 := v0) (n := n) (c := c) (i := i) (z := (i : Int)) (a := .own 1000) Try.underlying22 rfl (.inr ⟨rfl, hv0.symm⟩) rfl hlt)
      have e4 : ∀ k, 0 + i * k = i * k := fun k => by omega
      simp only [e4] at r2
      have r3 := conG (ex_field eok (S := 74) (f := 0) (b := b) (o := i * 4) (Q := Sh L b) (v0 := v0) (off := 0) (a := .rv 1000 fun _ => .pointer (some ⟨b, i * 4, none⟩)) rfl rfl (by decide) (by decide) rfl (.inl rfl))
      have r4 := conG (ex_field eok (S := 74) (f := 1) (b := b) (o := i * 4) (Q := Sh L b) (v0 := v0) (off := 1) (a := .rv 1000 fun _ => .pointer (some ⟨b, i * 4, none⟩)) rfl rfl (by decide) (by decide) rfl (.inl rfl))
      have l3 := conG (ex_load eok (T := 27) (b := b) (o := i * 4 + 0) (Q := Sh L b) (v0 := v0) (u := .slice (some ⟨t.1, 0, none⟩) t.2.2.key.length (t.2.2.key.length + 2)) (a := .rv 1000 fun _ => .pointer (some ⟨b, i * 4 + 0, none⟩)) (r := .rv 1000 fun _ => .slice (some ⟨t.1, 0, none⟩) t.2.2.key.length (t.2.2.key.length + 2)) rfl rfl (fun H hq => ⟨.inl rfl, hq.at hltL (by omega) (by rw [← hte]; rfl)⟩) fun η G w => by simp [SVRel, Value.oneCell'])
      have l4 := conG (ex_load eok (T := 27) (b := b) (o := i * 4 + 1) (Q := Sh L b) (v0 := v0) (u := .slice (some ⟨t.2.1, 0, none⟩) t.2.2.val.length (t.2.2.val.length + 2)) (a := .rv 1000 fun _ => .pointer (some ⟨b, i * 4 + 1, none⟩)) (r := .rv 1000 fun _ => .slice (some ⟨t.2.1, 0, none⟩) t.2.2.val.length (t.2.2.val.length + 2)) rfl rfl (fun H hq => ⟨.inl rfl, hq.at hltL (by omega) (by rw [← hte]; rfl)⟩) fun η G w => by simp [SVRel, Value.oneCell'])
      have ck := con27 (kb := t.1) (n := t.2.2.key.length) (c := t.2.2.key.length + 2) (v0 := v0) (Q := Sh L b) (by have := hst.1; omega) fun H hq hn => by
        obtain ⟨cs, q1, q2⟩ := (hq.2 t ht).1
        exact ⟨cs, q1, q2, fun cs' h => hq.put hn q1 (by rw [h, q2])⟩
      have cv := con27 (kb := t.2.1) (n := t.2.2.val.length) (c := t.2.2.val.length + 2) (v0 := v0) (Q := Sh L b) (by have := hst.2; omega) fun H hq hn => by
        obtain ⟨cs, q1, q2⟩ := (hq.2 t ht).2
        exact ⟨cs, q1, q2, fun cs' h => hq.put hn q1 (by rw [h, q2])⟩
      clear h1 hte ht hst e4
      cbv
      refine ⟨Unit, _, _, r2, ⟨by kernel_rfl⟩, fun _ => ⟨⟨by kernel_rfl⟩, ?_⟩⟩
      cbv
      refine ⟨Unit, _, _, r3, ⟨by kernel_rfl⟩, fun _ => ⟨⟨by kernel_rfl⟩, ?_⟩⟩
      cbv
      refine ⟨Unit, _, _, l3, ⟨by kernel_rfl⟩, fun _ => ⟨⟨by kernel_rfl⟩, ?_⟩⟩
      cbv
      refine ⟨_, _, ck, ⟨?_⟩, ?_⟩
      · kernel_rfl
      cbv
      refine ⟨Unit, _, _, r2, ⟨by kernel_rfl⟩, fun _ => ⟨⟨by kernel_rfl⟩, ?_⟩⟩
      cbv
      refine ⟨Unit, _, _, r4, ⟨by kernel_rfl⟩, fun _ => ⟨⟨by kernel_rfl⟩, ?_⟩⟩
      cbv
      refine ⟨Unit, _, _, l4, ⟨by kernel_rfl⟩, fun _ => ⟨⟨by kernel_rfl⟩, ?_⟩⟩
      cbv
      refine ⟨_, _, cv, ⟨?_⟩, ?_⟩
      · kernel_rfl
      cbv
      refine ⟨⟨bk⟩, i + 1, [(1000, some 1000)], hlt, hms, ⟨?_⟩, ⟨?_⟩⟩
      · kernel_rfl
      · cbv
        and_intros
        all_goals first | exact trivial | exact ⟨rfl⟩ | exact ⟨ek⟩ | exact ⟨rfl, fun _ _ _ h => h⟩ | exact ⟨by kernel_rfl⟩
    · intro h1
      clear h1
      cbv
      refine ⟨Unit, _, _, r6, ⟨by kernel_rfl⟩, fun _ => ⟨⟨by kernel_rfl⟩, ?_⟩⟩
      cbv
      refine ⟨Unit, _, _, r7, ⟨by kernel_rfl⟩, fun _ => ⟨⟨by kernel_rfl⟩, ?_⟩⟩
      cbv
      refine ⟨Nat, [1000], fun i => [(3, .rv 1000 fun _ => .slice (some ⟨b, 0, none⟩) c c), (4, .int .i64 (.s fun _ => (i : Int)))], fun i => [(1000, .cust none (fun _ => exΦ v0 (Sr c b)))], fun i => i ≤ c, fun i => c - i, 0, [(1000, some 1000)], Nat.zero_le _, ⟨?_⟩, fun i hx => ?_⟩
      · have hsr : ∀ w v B, exΦ v0 (Sh L b) w v B → exΦ v0 (Sr c b) w v B := fun w v B ⟨H, h1, h2⟩ => ⟨H, by rw [hc]; exact h1.row, h2⟩
        cbv
        and_intros
        all_goals first | exact trivial | exact ⟨rfl⟩ | exact ⟨rfl, hsr⟩ | exact ⟨by kernel_rfl⟩
      · have hi : i ≤ c := hx
        have r1 := conG (ex_len (T := 22) (Q := Sr c b) (v0 := v0) (n := c) (c := c) (a := .rv 1000 fun _ => .slice (some ⟨b, 0, none⟩) c c) Try.underlying22 (.inl rfl))
        cbv
        refine ⟨Unit, _, _, r1, ⟨by kernel_rfl⟩, fun _ => ⟨⟨by kernel_rfl⟩, ?_⟩⟩
        cbv
        refine And.intro ?_ ?_
        · intro h1
          have h1 : (i : Int) < (c : Int) := of_decide_eq_true h1
          have hlt : i < c := by omega
          have bk : bound64 ((i : Int) + 1) := by unfold bound64; omega
          have ek : (i : Int) + 1 = ((i + 1 : Nat) : Int) := by omega
          have hms : c - (i + 1) < c - i := by omega
          have r2 := conG (ex_idx eok (T := 22) (e := 74) (o := 0) (Q := Sr c b) (v0 := v0) (n := c) (c := c) (i := i) (z := (i : Int)) (a := .rv 1000 fun _ => .slice (some ⟨b, 0, none⟩) c c) Try.underlying22 rfl (.inl rfl) rfl hlt)
          have e4 : ∀ k, 0 + i * k = i * k := fun k => by omega
          simp only [e4] at r2
          have r5 := conG (ex_store eok (T := 74) (b := b) (o := i * 4) (Q := Sr c b) (Q' := Sr c b) (v0 := v0) (us := [.slice none 0 0, .slice none 0 0, .int .u32 0, .int .u32 0]) (a := .rv 1000 fun _ => .pointer (some ⟨b, i * 4, none⟩)) (x := .agg [.nil, .nil, .int .u32 (.l 0), .int .u32 (.l 0)]) rfl rfl (by simp [Value.oneCell'])
            (fun η G w v hv => by
              obtain ⟨vs, rfl, hv⟩ := hv
              match vs, hv with
              | [u1, u2, u3, u4], hv =>
                simp only [SVRels, SVRel, IE.den_l] at hv
                obtain ⟨rfl, rfl, rfl, rfl, -⟩ := hv
                rfl
              | [], h => exact h.elim
              | [_], h => exact h.2.elim
              | [_, _], h => exact h.2.2.elim
              | [_, _, _], h => exact h.2.2.2.elim
              | _ :: _ :: _ :: _ :: _ :: _, h => exact h.2.2.2.2.elim) fun H hq hn => by
            obtain ⟨cs, q1, q2⟩ := hq
            exact ⟨.inl rfl, 74, cs, q1, by rw [q2]; simp; omega, _, putB_mem q1, by simp; omega⟩)
          clear h1 e4
          cbv
          refine ⟨Unit, _, _, r2, ⟨by kernel_rfl⟩, fun _ => ⟨⟨by kernel_rfl⟩, ?_⟩⟩
          cbv
          refine ⟨Unit, _, _, r5, ⟨by kernel_rfl⟩, fun _ => ⟨⟨by kernel_rfl⟩, ?_⟩⟩
          cbv
          refine ⟨⟨bk⟩, i + 1, [(1000, some 1000)], hlt, hms, ⟨?_⟩, ⟨?_⟩⟩
          · kernel_rfl
          · cbv
            and_intros
            all_goals first | exact trivial | exact ⟨rfl⟩ | exact ⟨ek⟩ | exact ⟨rfl, fun _ _ _ h => h⟩ | exact ⟨by kernel_rfl⟩
        · intro h1
          clear h1
          cbv
          refine ⟨[(1000, some 1000)], [], ?_⟩
          cbv
          and_intros
          all_goals first | exact trivial | exact ⟨rfl⟩ | exact ⟨rfl, fun _ _ _ h => h⟩ | exact ⟨by kernel_rfl⟩

def memL (b : Nat) (L : List Slot) : Mem := (b, 74, L.flatMap Slot.cells ++ lastC) :: L.flatMap fun t => [(t.1, 5, roomC t.2.2.key), (t.2.1, 5, roomC t.2.2.val)]
theorem memL_names (b : Nat) (L : List Slot) : (memL b L).map (·.1) = b :: L.flatMap Slot.blks := by
  simp only [memL, List.map_cons, List.map_flatMap]; rfl
theorem memL_sh (b : Nat) (L : List Slot) : Sh L b (memL b L) :=
  ⟨by simp [memL], fun t ht => ⟨⟨roomC t.2.2.key, List.mem_cons_of_mem _ (List.mem_flatMap.2 ⟨t, ht, by simp⟩), by simp [roomC]⟩, roomC t.2.2.val, List.mem_cons_of_mem _ (List.mem_flatMap.2 ⟨t, ht, by simp⟩), by simp [roomC]⟩⟩
theorem LentAt.mem {es : List Ent} {w : World} {v : Value} {B : List Nat} {b : Nat} {L : List Slot} (h : LentAt es es.length (es.length + 1) lastC w v B b L) : memΦ v (memL b L) w v B := by
  refine ⟨rfl, by rw [memL_names]; exact h.hB, h.nd, fun p hp => ?_⟩
  rcases List.mem_cons.1 hp with rfl | hp
  · exact h.row
  · obtain ⟨t, ht, hp⟩ := List.mem_flatMap.1 hp
    simp at hp
    rcases hp with rfl | rfl
    · exact (h.rooms t ht).1
    · exact (h.rooms t ht).2

/-- What is lent is written over. -/
theorem con16 {es : List Ent} (hs : ∀ e ∈ es, SmallE e) (hl : es.length < 1000000000) : Con 16 [.own 1000] [(1000, .cust (some (lentDV es)) (fun _ => lentΦ es))] (.tup []) [(1000, .dead)] := by
  refine ⟨specX_conv (Y := Nat × List Slot) (F := fun y => y.2.map (·.2.2) = es) (X' := fun y => .cust none (fun _ => exΦ (.slice (some ⟨y.1, 0, none⟩) y.2.length (y.2.length + 1)) (Sh y.2 y.1))) (fun η G w o ho => ?_) fun y hy => ?_⟩
  · obtain ⟨h1, h2, h3⟩ := ho
    obtain ⟨b, L, hat⟩ := (h3 w fun _ _ => rfl).1
    have hlL : L.length = es.length := by have := congrArg List.length hat.hes; simpa using this
    refine ⟨(b, L), hat.hes, h1, h2, fun w' hw' => ⟨⟨memL b L, memL_sh b L, ?_, ?_⟩, fun x hx => by cases hx⟩⟩
    · rw [memL_names, ← hat.hB]; exact hat.nd
    · have := (hat.keep hw').mem
      have hv := hat.hv
      rw [← hlL] at hv
      rw [hv] at this ⊢
      exact this
  · obtain ⟨b, L⟩ := y
    have hy : L.map (·.2.2) = es := hy
    subst hy
    exact (con16m (L := L) (b := b) (by simpa using hl) fun t ht => hs _ (List.mem_map.2 ⟨t, ht, rfl⟩)).spec
end Go.Proofs.Ytmdfjipjkkjpcaa

/- What is lent: it is written, checked, measured. -/
namespace Go.Proofs.Ytmdfjipjkkjpcaa
open Go.SX

set_option maxRecDepth 20000 in
set_option maxHeartbeats 4000000 in
theorem con12u {leaf : Bool} {es : List Ent} (hp : ∀ e ∈ es, EntOk e) (hw : weight es + 20 * es.length < 1000000000000) :
    Con 12 [nodeSV leaf es] [] (.tup [.own 2000, .int .u16 (.s fun _ => checkI leaf es)]) [(2000, .barr 5 fun _ => encB leaf es)] := by
  refine con_of Try.func12 rfl rfl 68 _ rfl rfl rfl rfl ?_
  cbv
  refine ⟨_, _, con13 (leaf := leaf) (es := es) hp hw, ⟨?_⟩, ?_⟩
  · rfl
  cbv
  refine ⟨fun h1 => ?_, fun h1 => ?_⟩
  · have h1 : ¬ checkI leaf es = 0 := of_decide_eq_false (bnot_t h1)
    have e1 : encB leaf es = [] := by unfold encB; rw [if_neg h1]
    clear h1
    cbv
    refine ⟨[(2000, none)], [], ?_⟩
    cbv
    and_intros
    all_goals first | exact trivial | exact ⟨rfl⟩ | exact ⟨e1⟩ | exact ⟨e1.symm⟩ | exact ⟨by kernel_rfl⟩
  · have h1 : checkI leaf es = 0 := of_decide_eq_true (bnot_f h1)
    obtain ⟨hm, hs⟩ := checkI_ok h1
    have hl := sizeL_len leaf es
    have w1 : (IntKind.u32.wrap (es.length : Int)).toNat = es.length := by rw [IntKind.wrap_u32]; omega
    have w2 : 0 ≤ IntKind.u32.wrap (es.length : Int) := by rw [IntKind.wrap_u32]; omega
    have e0 : lowB (IntKind.u32.wrap (es.length : Int)).toNat 2 = encTo leaf es 0 := by rw [w1]; simp [encTo, entsB]
    cbv
    refine ⟨_, _, con42nl w2, ⟨?_⟩, ?_⟩
    · rfl
    cbv
    refine ⟨Nat, [500], fun i => [(5, .own 500), (21, .int .i64 (.s fun _ => (i : Int)))], fun i => [(1, .cells 24 [.bool (.s fun _ => leaf), .dat (entsDV es)]), (500, .barr 5 fun _ => encTo leaf es i)],
      fun i => i ≤ es.length, fun i => es.length - i, 0, [(500, some 4700)], Nat.zero_le _, ⟨?_⟩, fun i hi => ?_⟩
    · cbv
      exact ⟨⟨⟨rfl⟩, trivial⟩, ⟨⟨⟨rfl⟩, ⟨rfl, fun _ _ _ _ => rfl⟩, trivial⟩, ⟨e0⟩, trivial⟩, ⟨by kernel_rfl⟩⟩
    · have hi : i ≤ es.length := hi
      cbv
      refine ⟨fun h2 => ?_, fun h2 => ?_⟩
      · have h2 : (i : Int) < (es.length : Int) := of_decide_eq_true h2
        have hlt : i < es.length := by omega
        have o1 : indexObl (i : Int) es.length := ⟨by omega, h2⟩
        have hE := entOk_at hp hlt
        have hL := encTo_length (i := i) hs
        have hN := encTo_next (leaf := leaf) hlt
        have hL' := encTo_length (i := i + 1) hs
        have hB := entB_length leaf (es.getD i default)
        rw [hN, List.length_append] at hL'
        have b0 := u8_range ((es.getD i default).key.length : Int)
        have b1 : lenOk ((encTo leaf es i).length + 1) 1 := by unfold lenOk; omega
        have b2 : lenOk ((encTo leaf es i ++ [UInt8.ofNat (IntKind.u8.wrap ((es.getD i default).key.length : Int)).toNat]).length + (es.getD i default).key.length) 1 := by
          have : (es.getD i default).key.length < (entB leaf (es.getD i default)).length := by unfold entB; simp only [List.length_cons, List.length_append]; omega
          unfold lenOk; simp only [List.length_append, List.length_cons, List.length_nil]; omega
        have l1 : (encTo leaf es i ++ [UInt8.ofNat (IntKind.u8.wrap ((es.getD i default).key.length : Int)).toNat] ++ (es.getD i default).key).length ≤ 4000 := by
          have : (es.getD i default).key.length < (entB leaf (es.getD i default)).length := by unfold entB; simp only [List.length_cons, List.length_append]; omega
          simp only [List.length_append, List.length_cons, List.length_nil]; omega
        have bi : bound64 ((i : Int) + 1) := by unfold bound64; omega
        have ei : (i : Int) + 1 = ((i + 1 : Nat) : Int) := by omega
        clear h2
        cbv
        refine ⟨⟨o1⟩, ?_⟩
        cbv
        refine ⟨⟨⟨b0, trivial⟩, b1⟩, ?_⟩
        cbv
        refine ⟨⟨trivial, b2⟩, ⟨by kernel_rfl⟩, ?_⟩
        cbv
        refine ⟨fun h3 => ?_, fun h3 => ?_⟩
        · have h3 : leaf = false := bnot_t h3
          have e5 := (enc_page (encTo leaf es i) (e := es.getD i default) h3).trans hN.symm
          cbv
          refine ⟨_, _, con42l hE.1.1 ?_, ⟨?_⟩, ?_⟩
          · exact Nat.lt_of_le_of_lt l1 (by decide)
          · rfl
          cbv
          refine ⟨⟨bi⟩, i + 1, [(500, some 8100)], hlt, ?_, ⟨?_⟩, ⟨?_⟩⟩
          · show es.length - (i + 1) < es.length - i
            omega
          · kernel_rfl
          · cbv
            exact ⟨⟨⟨ei⟩, trivial⟩, ⟨⟨⟨rfl⟩, ⟨rfl, fun _ _ _ _ => rfl⟩, trivial⟩, ⟨e5⟩, trivial⟩, ⟨by kernel_rfl⟩⟩
        · have h3 : leaf = true := bnot_f h3
          cbv
          refine ⟨fun h4 => ?_, fun h4 => ?_⟩
          · have h4 : (es.getD i default).page = 0 := of_decide_eq_true h4
            have e5 := (enc_val (encTo leaf es i) (e := es.getD i default) h3 h4).trans hN.symm
            have b3 := u8_range ((es.getD i default).val.length : Int)
            have lE : 2 + (es.getD i default).key.length + (es.getD i default).val.length = (entB leaf (es.getD i default)).length := by
              unfold entB; simp only [h3, h4, if_true, List.length_cons, List.length_append]; omega
            have b4 : lenOk ((encTo leaf es i ++ [UInt8.ofNat (IntKind.u8.wrap ((es.getD i default).key.length : Int)).toNat] ++ (es.getD i default).key).length + 1) 1 := len1 l1
            have lV : (es.getD i default).val.length ≤ 1008 := by omega
            have b5 : lenOk ((encTo leaf es i ++ [UInt8.ofNat (IntKind.u8.wrap ((es.getD i default).key.length : Int)).toNat] ++ (es.getD i default).key ++ [UInt8.ofNat (IntKind.u8.wrap ((es.getD i default).val.length : Int)).toNat]).length + (es.getD i default).val.length) 1 := len4 l1 lV
            cbv
            refine ⟨⟨⟨b3, trivial⟩, b4⟩, ⟨trivial, b5⟩, ⟨by kernel_rfl⟩, ?_⟩
            cbv
            refine ⟨⟨bi⟩, i + 1, [(500, some 65)], hlt, ?_, ⟨?_⟩, ⟨?_⟩⟩
            · show es.length - (i + 1) < es.length - i
              omega
            · kernel_rfl
            · cbv
              exact ⟨⟨⟨ei⟩, trivial⟩, ⟨⟨⟨rfl⟩, ⟨rfl, fun _ _ _ _ => rfl⟩, trivial⟩, ⟨e5⟩, trivial⟩, ⟨by kernel_rfl⟩⟩
          · have h4 : ¬ (es.getD i default).page = 0 := of_decide_eq_false h4
            have e5 := (enc_big (encTo leaf es i) (e := es.getD i default) h3 h4).trans hN.symm
            have b3 : (0 : Int) ≤ 255 ∧ (255 : Int) < 256 := by decide
            have b4 : lenOk ((encTo leaf es i ++ [UInt8.ofNat (IntKind.u8.wrap ((es.getD i default).key.length : Int)).toNat] ++ (es.getD i default).key).length + 1) 1 := len1 l1
            have l2 : (encTo leaf es i ++ [UInt8.ofNat (IntKind.u8.wrap ((es.getD i default).key.length : Int)).toNat] ++ (es.getD i default).key ++ [UInt8.ofNat (255 : Int).toNat]).length ≤ 5000 := len2 l1
            have l3 : (encTo leaf es i ++ [UInt8.ofNat (IntKind.u8.wrap ((es.getD i default).key.length : Int)).toNat] ++ (es.getD i default).key ++ [UInt8.ofNat (255 : Int).toNat] ++ lowB (es.getD i default).size.toNat 4).length ≤ 6000 := len3 l2
            cbv
            refine ⟨⟨⟨b3, trivial⟩, b4⟩, _, _, con42l hE.2.1 ?_, ⟨?_⟩, ?_⟩
            · exact Nat.lt_of_le_of_lt l2 (by decide)
            · rfl
            cbv
            refine ⟨_, _, con42l hE.1.1 ?_, ⟨?_⟩, ?_⟩
            · exact Nat.lt_of_le_of_lt l3 (by decide)
            · rfl
            cbv
            refine ⟨⟨by kernel_rfl⟩, ?_⟩
            cbv
            refine ⟨⟨bi⟩, i + 1, [(500, some 7300)], hlt, ?_, ⟨?_⟩, ⟨?_⟩⟩
            · show es.length - (i + 1) < es.length - i
              omega
            · kernel_rfl
            · cbv
              exact ⟨⟨⟨ei⟩, trivial⟩, ⟨⟨⟨rfl⟩, ⟨rfl, fun _ _ _ _ => rfl⟩, trivial⟩, ⟨e5⟩, trivial⟩, ⟨by kernel_rfl⟩⟩
      · have h2 : ¬ ((i : Int) < (es.length : Int)) := of_decide_eq_false h2
        have hle : i = es.length := by omega
        subst hle
        have e1 : encTo leaf es es.length = encB leaf es := by unfold encB encTo nodeB; rw [if_pos h1, List.take_length]
        clear h2
        cbv
        refine ⟨[(2000, some 500)], [], ?_⟩
        cbv
        and_intros
        all_goals first | exact trivial | exact ⟨rfl⟩ | exact ⟨e1⟩ | exact ⟨e1.symm⟩ | exact ⟨h1.symm⟩ | exact ⟨by kernel_rfl⟩

def lentSV (leaf : Bool) (es : List Ent) : SV := .agg [.bool (.s fun _ => leaf), .dat (lentDV es)]
theorem lent_args {leaf : Bool} {es : List Ent} : ∀ (η : OEnv) (G : Nat → Prop) (w : World) (vs : List Value), SVRels η G w [lentSV leaf es] vs → SVRels η G w [nodeSV leaf es] vs := by
  intro η G w vs hv
  match vs, hv with
  | [v], hv =>
    refine ⟨?_, trivial⟩
    obtain ⟨us, rfl, hu⟩ := hv.1
    match us, hu with
    | [u1, u2], hu =>
      refine ⟨_, rfl, hu.1, ?_, trivial⟩
      have h := hu.2.1
      simp only [SVRel] at h ⊢
      exact lent_ents h
    | [], h => exact h.elim
    | [_], h => exact h.2.elim
    | _ :: _ :: _ :: _, h => exact h.2.2.elim
  | [], h => exact h.elim
  | _ :: _ :: _, h => exact h.2.elim
theorem con12l {leaf : Bool} {es : List Ent} (hp : ∀ e ∈ es, EntOk e) (hw : weight es + 20 * es.length < 1000000000000) : Con 12 [lentSV leaf es] [] (.tup [.own 2000, .int .u16 (.s fun _ => checkI leaf es)]) [(2000, .barr 5 fun _ => encB leaf es)] := (con12u hp hw).args lent_args
theorem con13l {leaf : Bool} {es : List Ent} (hp : ∀ e ∈ es, EntOk e) (hw : weight es + 20 * es.length < 1000000000000) : Con 13 [lentSV leaf es] [] (.int .u16 (.s fun _ => checkI leaf es)) [] := (con13 hp hw).args lent_args
theorem con14l {leaf : Bool} {es : List Ent} (hw : weight es + 20 * es.length < 1000000000000) : Con 14 [lentSV leaf es] [] (.int .i64 (.s fun _ => 2 + sizeL leaf es)) [] := (con14 hw).args lent_args
end Go.Proofs.Ytmdfjipjkkjpcaa

/- NodeReads: the program's Decode of any bytes. -/
namespace Go.Proofs.Ytmdfjipjkkjpcaa
open Go.SX

abbrev decR (L : Bool) (fl : Int) : SV := .tup [.agg [.bool (.s fun _ => L), .own 2000], .int .u16 (.s fun _ => fl)]
abbrev decO (es : List Ent) : Objs := [(2000, .arrD 74 4 (fun _ => es.length) (lrow encE fun _ => es))]

set_option maxRecDepth 20000 in
set_option maxHeartbeats 4000000 in
theorem con25k {k : Int} {b : List UInt8} (h1 : ¬ k = 1) (h2 : ¬ k = 2) : Con 25 [.int .u8 (.s fun _ => k), .dat (.bytes fun _ => b)] [] (decR false 90) (decO []) := by
  refine con_of Try.func25 rfl rfl 42 _ rfl rfl rfl rfl ?_
  cbv
  refine And.intro ?_ ?_
  · intro q
    cbv
    refine And.intro ?_ ?_
    · intro q2
      cbv
      refine ⟨[(2000, none)], [], ?_⟩
      cbv
      and_intros
      all_goals first | exact trivial | exact ⟨rfl⟩ | exact ⟨by kernel_rfl⟩
    · intro q2
      have q2 : k = 2 := of_decide_eq_true (bnot_f q2)
      exact (h2 q2).elim
  · intro q
    have q : k = 1 := of_decide_eq_true (bnot_f q)
    exact (h1 q).elim

set_option maxRecDepth 20000 in
set_option maxHeartbeats 4000000 in
theorem con25n {k : Int} {b : List UInt8} (hk : k = 1 ∨ k = 2) (hr : readP (decide (k = 1)) b = none) (hb : b.length < 1000000000000) : Con 25 [.int .u8 (.s fun _ => k), .dat (.bytes fun _ => b)] [] (decR false 90) (decO []) := by
  obtain ⟨leaf, hleaf⟩ : ∃ l, l = decide (k = 1) := ⟨_, rfl⟩
  rw [← hleaf] at hr
  have ca := con72n hr hb
  rw [hleaf] at ca
  refine con_of Try.func25 rfl rfl 42 _ rfl rfl rfl rfl ?_
  cbv
  have tail : ∀ (h : False), False := fun h => h
  refine And.intro ?_ ?_
  · intro q
    have q : ¬ k = 1 := of_decide_eq_false (bnot_t q)
    have q0 : k = 2 := by omega
    cbv
    refine And.intro ?_ ?_
    · intro q2
      have q2 : ¬ k = 2 := of_decide_eq_false (bnot_t q2)
      exact (q2 q0).elim
    · intro q2
      clear q2
      cbv
      refine ⟨_, _, ca, ⟨by kernel_rfl⟩, ?_⟩
      cbv
      refine ⟨[(2000, none)], [], ?_⟩
      cbv
      and_intros
      all_goals first | exact trivial | exact ⟨rfl⟩ | exact ⟨by kernel_rfl⟩
  · intro q
    clear q
    cbv
    refine ⟨_, _, ca, ⟨by kernel_rfl⟩, ?_⟩
    cbv
    refine ⟨[(2000, none)], [], ?_⟩
    cbv
    and_intros
    all_goals first | exact trivial | exact ⟨rfl⟩ | exact ⟨by kernel_rfl⟩
set_option maxRecDepth 20000 in
set_option maxHeartbeats 4000000 in
theorem con25b {k : Int} {b : List UInt8} {es : List Ent} (hk : k = 1 ∨ k = 2) (hr : readP (decide (k = 1)) b = some es) (hc : ¬ (checkI (decide (k = 1)) es = 0 ∧ encB (decide (k = 1)) es = b)) (hb : b.length < 1000000000000) : Con 25 [.int .u8 (.s fun _ => k), .dat (.bytes fun _ => b)] [] (decR false 90) (decO []) := by
  obtain ⟨hs, hl⟩ := readP_s hr
  have hw := weight_s hs
  have cb := con12u (leaf := decide (k = 1)) (es := es) (fun e he => (hs e he).1) (by omega)
  have ca := con72 hr hb
  refine con_of Try.func25 rfl rfl 42 _ rfl rfl rfl rfl ?_
  cbv
  refine And.intro ?_ ?_
  · intro q
    have q : ¬ k = 1 := of_decide_eq_false (bnot_t q)
    have q0 : k = 2 := by omega
    cbv
    refine And.intro ?_ ?_
    · intro q2
      have q2 : ¬ k = 2 := of_decide_eq_false (bnot_t q2)
      exact (q2 q0).elim
    · intro q2
      clear q2
      cbv
      refine ⟨_, _, ca, ⟨by kernel_rfl⟩, ?_⟩
      cbv
      refine And.intro ?_ ?_
      · intro h2
        cases h2
      · intro h2
        clear h2
        cbv
        refine ⟨_, _, cb, ⟨by kernel_rfl⟩, ?_⟩
        cbv
        refine And.intro ?_ ?_
        · intro q3
          have q3 : ¬ checkI (decide (k = 1)) es = 0 := of_decide_eq_false (bnot_t q3)
          clear q3
          cbv
          refine ⟨[(2000, none)], [], ?_⟩
          cbv
          and_intros
          all_goals first | exact trivial | exact ⟨rfl⟩ | exact ⟨by kernel_rfl⟩
        · intro q3
          have q3 : checkI (decide (k = 1)) es = 0 := of_decide_eq_true (bnot_f q3)
          cbv
          refine ⟨_, _, con73, ⟨by kernel_rfl⟩, ?_⟩
          cbv
          refine And.intro ?_ ?_
          · intro q4
            have q4 : decide (encB (decide (k = 1)) es = b) = false := bnot_t q4
            clear q4
            cbv
            refine ⟨[(2000, none)], [], ?_⟩
            cbv
            and_intros
            all_goals first | exact trivial | exact ⟨rfl⟩ | exact ⟨by kernel_rfl⟩
          · intro q4
            have q4 : decide (encB (decide (k = 1)) es = b) = true := bnot_f q4
            exact (hc ⟨q3, of_decide_eq_true q4⟩).elim
  · intro q
    clear q
    cbv
    refine ⟨_, _, ca, ⟨by kernel_rfl⟩, ?_⟩
    cbv
    refine And.intro ?_ ?_
    · intro h2
      cases h2
    · intro h2
      clear h2
      cbv
      refine ⟨_, _, cb, ⟨by kernel_rfl⟩, ?_⟩
      cbv
      refine And.intro ?_ ?_
      · intro q3
        have q3 : ¬ checkI (decide (k = 1)) es = 0 := of_decide_eq_false (bnot_t q3)
        clear q3
        cbv
        refine ⟨[(2000, none)], [], ?_⟩
        cbv
        and_intros
        all_goals first | exact trivial | exact ⟨rfl⟩ | exact ⟨by kernel_rfl⟩
      · intro q3
        have q3 : checkI (decide (k = 1)) es = 0 := of_decide_eq_true (bnot_f q3)
        cbv
        refine ⟨_, _, con73, ⟨by kernel_rfl⟩, ?_⟩
        cbv
        refine And.intro ?_ ?_
        · intro q4
          have q4 : decide (encB (decide (k = 1)) es = b) = false := bnot_t q4
          clear q4
          cbv
          refine ⟨[(2000, none)], [], ?_⟩
          cbv
          and_intros
          all_goals first | exact trivial | exact ⟨rfl⟩ | exact ⟨by kernel_rfl⟩
        · intro q4
          have q4 : decide (encB (decide (k = 1)) es = b) = true := bnot_f q4
          exact (hc ⟨q3, of_decide_eq_true q4⟩).elim

set_option maxRecDepth 20000 in
set_option maxHeartbeats 4000000 in
theorem con25y {k : Int} {b : List UInt8} {es : List Ent} (hk : k = 1 ∨ k = 2) (hr : readP (decide (k = 1)) b = some es) (hc : checkI (decide (k = 1)) es = 0) (he : encB (decide (k = 1)) es = b) (hb : b.length < 1000000000000) : Con 25 [.int .u8 (.s fun _ => k), .dat (.bytes fun _ => b)] [] (decR (decide (k = 1)) 0) (decO es) := by
  obtain ⟨hs, hl⟩ := readP_s hr
  have hw := weight_s hs
  have cb := con12u (leaf := decide (k = 1)) (es := es) (fun e he => (hs e he).1) (by omega)
  have ca := con72 hr hb
  refine con_of Try.func25 rfl rfl 42 _ rfl rfl rfl rfl ?_
  cbv
  refine And.intro ?_ ?_
  · intro q
    have q : ¬ k = 1 := of_decide_eq_false (bnot_t q)
    have q0 : k = 2 := by omega
    cbv
    refine And.intro ?_ ?_
    · intro q2
      have q2 : ¬ k = 2 := of_decide_eq_false (bnot_t q2)
      exact (q2 q0).elim
    · intro q2
      clear q2
      cbv
      refine ⟨_, _, ca, ⟨by kernel_rfl⟩, ?_⟩
      cbv
      refine And.intro ?_ ?_
      · intro h2
        cases h2
      · intro h2
        clear h2
        cbv
        refine ⟨_, _, cb, ⟨by kernel_rfl⟩, ?_⟩
        cbv
        refine And.intro ?_ ?_
        · intro q3
          have q3 : ¬ checkI (decide (k = 1)) es = 0 := of_decide_eq_false (bnot_t q3)
          exact (q3 hc).elim
        · intro q3
          have q3 : checkI (decide (k = 1)) es = 0 := of_decide_eq_true (bnot_f q3)
          cbv
          refine ⟨_, _, con73, ⟨by kernel_rfl⟩, ?_⟩
          cbv
          refine And.intro ?_ ?_
          · intro q4
            have q4 : decide (encB (decide (k = 1)) es = b) = false := bnot_t q4
            exact (of_decide_eq_false q4 he).elim
          · intro q4
            have q4 : decide (encB (decide (k = 1)) es = b) = true := bnot_f q4
            clear q4
            cbv
            refine ⟨[(2000, some 5100)], [], ?_⟩
            cbv
            and_intros
            all_goals first | exact trivial | exact ⟨rfl⟩ | exact ⟨rfl, fun _ _ _ _ => rfl⟩ | exact ⟨by kernel_rfl⟩
  · intro q
    clear q
    cbv
    refine ⟨_, _, ca, ⟨by kernel_rfl⟩, ?_⟩
    cbv
    refine And.intro ?_ ?_
    · intro h2
      cases h2
    · intro h2
      clear h2
      cbv
      refine ⟨_, _, cb, ⟨by kernel_rfl⟩, ?_⟩
      cbv
      refine And.intro ?_ ?_
      · intro q3
        have q3 : ¬ checkI (decide (k = 1)) es = 0 := of_decide_eq_false (bnot_t q3)
        exact (q3 hc).elim
      · intro q3
        have q3 : checkI (decide (k = 1)) es = 0 := of_decide_eq_true (bnot_f q3)
        cbv
        refine ⟨_, _, con73, ⟨by kernel_rfl⟩, ?_⟩
        cbv
        refine And.intro ?_ ?_
        · intro q4
          have q4 : decide (encB (decide (k = 1)) es = b) = false := bnot_t q4
          exact (of_decide_eq_false q4 he).elim
        · intro q4
          have q4 : decide (encB (decide (k = 1)) es = b) = true := bnot_f q4
          clear q4
          cbv
          refine ⟨[(2000, some 5100)], [], ?_⟩
          cbv
          and_intros
          all_goals first | exact trivial | exact ⟨rfl⟩ | exact ⟨rfl, fun _ _ _ _ => rfl⟩ | exact ⟨by kernel_rfl⟩

theorem con25 {k : Int} {b : List UInt8} {L : Bool} {es : List Ent} {fl : Int} (hd : dec k b = (L, es, fl)) (hb : b.length < 1000000000000) : Con 25 [.int .u8 (.s fun _ => k), .dat (.bytes fun _ => b)] [] (decR L fl) (decO es) := by
  by_cases hk : k = 1 ∨ k = 2
  · cases hr : readP (decide (k = 1)) b with
    | none =>
      rw [dec_none hr] at hd
      cases hd
      exact con25n hk hr hb
    | some xs =>
      by_cases hc : checkI (decide (k = 1)) xs = 0 ∧ encB (decide (k = 1)) xs = b
      · rw [dec_ok hk hr hc.1 hc.2] at hd
        cases hd
        exact con25y hk hr hc.1 hc.2 hb
      · rw [dec_bad hr hc] at hd
        cases hd
        exact con25b hk hr hc hb
  · have h1 : ¬ k = 1 := fun h => hk (.inl h)
    have h2 : ¬ k = 2 := fun h => hk (.inr h)
    rw [dec_kind h1 h2] at hd
    cases hd
    exact con25k h1 h2
end Go.Proofs.Ytmdfjipjkkjpcaa

