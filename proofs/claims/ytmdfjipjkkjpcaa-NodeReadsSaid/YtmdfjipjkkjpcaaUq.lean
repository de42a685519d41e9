/- Texts put together: Dh, Di, Dj, Dk. -/
import Derived.Test.YtmdfjipjkkjpcaaUl
import Derived.Test.YtmdfjipjkkjpcaaUp
import Derived.Test.YtmdfjipjkkjpcaaUk
import Derived.Test.YtmdfjipjkkjpcaaUi
import Derived.Test.YtmdfjipjkkjpcaaUn
/- NodeReads: bytes that are lent: all blocks within; written over. -/
namespace Go.Proofs.Ytmdfjipjkkjpcaa
open Go.SX

def roomK (l : List UInt8) : TObj := .kn (some (.rb (fun _ => l) fun _ => [91, 92])) (fun _ => roomΦ l)
theorem room_rbΦ {l : List UInt8} {w : World} {v : Value} {B : List Nat} (h : roomΦ l w v B) : DVRel w (fun b => b ∈ B) (.rb (fun _ => l) fun _ => [91, 92]) v := by
  obtain ⟨b, h1, h2, h3, _, _⟩ := h
  subst h2
  have := room_rb h3 (S := fun x => x ∈ [b]) (List.mem_singleton.2 rfl)
  rw [h1]
  exact this
theorem con24k {l : List UInt8} (hl : l.length < 1000000000000) : Con 24 [.dat (.bytes fun _ => l)] [] (.own 2000) [(2000, roomK l)] := by
  have h0 : SpecX Try.prog 24 [.dat (.bytes fun _ => l)] [] (.own 2000) [(2000, .cust (some (.rb (fun _ => l) fun _ => [91, 92])) (fun _ => roomΦ l))] := by
    intro η G vs w hsep hob hs
    refine ((con24 hl).spec η G vs w hsep hob hs).mono fun v w' ⟨η', G', q1, q2, q3, q4⟩ => ⟨η', G', q1, fun j => ?_, q3, q4⟩
    have hj := q2 j
    rw [look_cons] at hj ⊢
    by_cases e : j = 2000
    · rw [if_pos e] at hj ⊢
      cases ho : η' j with
      | none => rw [ho] at hj; exact hj.elim
      | some o =>
        rw [ho] at hj
        obtain ⟨k1, k2, k3⟩ := hj
        exact ⟨k1, k2, fun w2 hw2 => ⟨(k3 w2 hw2).1, fun x hx => by cases hx; exact room_rbΦ (k3 w2 hw2).1⟩⟩
    · rw [if_neg e] at hj ⊢; exact hj
  exact ⟨specX_within h0⟩

def Sb (kb c : Nat) (H : Mem) : Prop := ∃ cs, (kb, 5, cs) ∈ H ∧ cs.length = c
set_option maxRecDepth 20000 in
set_option maxHeartbeats 1000000 in
theorem con27m {kb n c : Nat} (hc : c < 2000000000000) :
    Con 27 [.own 1000] [(1000, .cust none (fun _ => exΦ (.slice (some ⟨kb, 0, none⟩) n c) (Sb kb c)))] (.tup []) [(1000, .dead)] := by
  obtain ⟨v0, hv0⟩ : ∃ v0, v0 = Value.slice (some ⟨kb, 0, none⟩) n c := ⟨_, rfl⟩
  rw [← hv0]
  obtain ⟨i5, hi5, -⟩ := info5x
  have hQ : ∀ H, Sb kb c H → (H.map (·.1)).Nodup → ∃ cs, (kb, 5, cs) ∈ H ∧ cs.length = c ∧ ∀ cs' : List Value, cs'.length = c → Sb kb c (putB H kb cs') := fun H ⟨cs, h1, h2⟩ hn =>
    ⟨cs, h1, h2, fun cs' hl => ⟨cs', putB_mem h1, hl⟩⟩
  obtain ⟨Q, hQe⟩ : ∃ Q, Q = Sb kb c := ⟨_, rfl⟩
  rw [← hQe] at hQ ⊢
  have r1 := conG (ex_cap (T := 27) (Q := Q) (v0 := v0) (n := n) (c := c) (a := .own 1000) Try.underlying27 (.inr ⟨rfl, hv0.symm⟩))
  have r2 := conG (ex_cut (T := 27) (Q := Q) (v0 := v0) (n := n) (c := c) (m := c) (zm := (c : Int)) (a := .own 1000) Try.underlying27 hi5 (.inr ⟨rfl, hv0.symm⟩) rfl (Nat.le_refl _))
  have r3 := conG (ex_len (T := 27) (Q := Q) (v0 := v0) (a := .rv 1000 fun _ => .slice (some ⟨kb, 0, none⟩) c c) Try.underlying27 (.inl rfl))
  clear hv0
  refine con_of Try.func27 rfl rfl 17 _ rfl rfl rfl rfl ?_
  cbv
  refine ⟨Unit, _, _, r1, ⟨by kernel_rfl⟩, fun _ => ⟨⟨by kernel_rfl⟩, ?_⟩⟩
  cbv
  refine ⟨Unit, _, _, r2, ⟨by kernel_rfl⟩, fun _ => ⟨⟨by kernel_rfl⟩, ?_⟩⟩
  cbv
  refine ⟨Nat, [1000], fun i => [(2, .rv 1000 fun _ => .slice (some ⟨kb, 0, none⟩) c c), (3, .int .i64 (.s fun _ => (i : Int)))], fun i => [(1000, .cust none (fun _ => exΦ v0 Q))], fun i => i ≤ c, fun i => c - i, 0, [(1000, some 1000)], Nat.zero_le _, ⟨?_⟩, fun i hx => ?_⟩
  · cbv
    and_intros
    all_goals first | exact trivial | exact ⟨rfl⟩ | exact ⟨rfl, fun _ _ _ h => h⟩ | exact ⟨by kernel_rfl⟩
  · have hi : i ≤ c := hx
    cbv
    refine ⟨Unit, _, _, r3, ⟨by kernel_rfl⟩, fun _ => ⟨⟨by kernel_rfl⟩, ?_⟩⟩
    cbv
    refine And.intro ?_ ?_
    · intro h1
      have h1 : (i : Int) < (c : Int) := of_decide_eq_true h1
      have hlt : i < c := by omega
      have bk : bound64 ((i : Int) + 1) := by unfold bound64; omega
      have ek : (i : Int) + 1 = ((i + 1 : Nat) : Int) := by omega
      have hms : c - (i + 1) < c - i := by omega
      have r4 := conG (ex_idx eok (T := 27) (Q := Q) (v0 := v0) (i := i) (z := (i : Int)) (te := ⟨.int .u8, 1, 1, [.int .u8 (.l 0)], [.bool fun _ => false]⟩) (a := .rv 1000 fun _ => .slice (some ⟨kb, 0, none⟩) c c) Try.underlying27 rfl (.inl rfl) rfl hlt)
      have r5 := conG (ex_store eok (T := 5) (b := kb) (o := i) (Q := Q) (Q' := Q) (v0 := v0) (us := [.int .u8 238]) (a := .rv 1000 fun _ => .pointer (some ⟨kb, i, none⟩)) (x := .int .u8 (.l 238)) (ti := ⟨.int .u8, 1, 1, [.int .u8 (.l 0)], [.bool fun _ => false]⟩) rfl rfl (by simp [Value.oneCell'])
        (fun η G w v hv => by simp only [SVRel, IE.den_l] at hv; subst hv; rfl) fun H hq hn => by
          obtain ⟨cs, q1, q2, q3⟩ := hQ H hq hn
          exact ⟨.inl rfl, 5, cs, q1, by rw [q2]; exact hlt, q3 _ (by simp; omega)⟩)
      have e4 : 0 + i * 1 = i := by omega
      simp only [e4] at r4
      clear h1
      cbv
      refine ⟨Unit, _, _, r4, ⟨by kernel_rfl⟩, fun _ => ⟨⟨by kernel_rfl⟩, ?_⟩⟩
      cbv
      refine ⟨Unit, _, _, r5, ⟨by kernel_rfl⟩, fun _ => ⟨⟨by kernel_rfl⟩, ?_⟩⟩
      cbv
      refine ⟨⟨bk⟩, i + 1, [(1000, some 1000)], hlt, hms, ⟨?_⟩, ⟨?_⟩⟩
      · kernel_rfl
      · cbv
        and_intros
        all_goals first | exact trivial | exact ⟨rfl⟩ | exact ⟨ek⟩ | exact ⟨rfl, fun _ _ _ h => h⟩ | exact ⟨by kernel_rfl⟩
    · intro h1
      clear h1
      cbv
      refine ⟨[(1000, some 1000)], [], ?_⟩
      cbv
      and_intros
      all_goals first | exact trivial | exact ⟨rfl⟩ | exact ⟨rfl, fun _ _ _ h => h⟩ | exact ⟨by kernel_rfl⟩
theorem con27k {l : List UInt8} (hl : l.length < 1000000000000) : Con 27 [.own 1000] [(1000, roomK l)] (.tup []) [(1000, .dead)] := by
  have h0 : SpecX Try.prog 27 [.own 1000] [(1000, .cust (some (.rb (fun _ => l) fun _ => [91, 92])) (fun _ => roomΦ l))] (.tup []) [(1000, .dead)] := by
    refine specX_conv (Y := Nat) (F := fun _ => True) (X' := fun b => .cust none (fun _ => exΦ (.slice (some ⟨b, 0, none⟩) l.length (l.length + 2)) (Sb b (l.length + 2)))) (fun η G w o ho => ?_) fun b _ => (con27m (kb := b) (n := l.length) (c := l.length + 2) (by omega)).spec
    obtain ⟨h1, h2, h3⟩ := ho
    obtain ⟨b, k1, k2, k3, k4, k5⟩ := (h3 w fun _ _ => rfl).1
    refine ⟨b, trivial, h1, h2, fun w' hw' => ⟨⟨[(b, 5, roomC l)], ⟨roomC l, List.mem_singleton.2 rfl, by rw [k4]; omega⟩, by simp, ?_⟩, fun x hx => by cases hx⟩⟩
    obtain ⟨b', m1, m2, m3, m4, m5⟩ := (h3 w' hw').1
    rw [k2] at m2
    obtain rfl : b = b' := by simpa using m2
    refine ⟨m1, by rw [k2]; rfl, by rw [k2]; simp, fun p hp => ?_⟩
    obtain rfl := List.mem_singleton.1 hp
    exact m3
  exact ⟨specX_gone h0⟩
theorem rb_args {f : Nat} {s : SV} {l : List UInt8} {t : Unit → List UInt8} {objs objs' : Objs} {r : SV} (h : Con f [s, .dat (.bytes fun _ => l)] objs r objs') : Con f [s, .dat (.rb (fun _ => l) t)] objs r objs' := h.args fun η G w vs hv => by
  match vs, hv with
  | [v1, v2], hv =>
    have h2 := hv.2.1
    simp only [SVRel] at h2
    exact ⟨hv.1, by simp only [SVRel]; exact rb_bytes h2, trivial⟩
  | [], h => exact h.elim
  | [_], h => exact h.2.elim
  | _ :: _ :: _ :: _, h => exact h.2.2.elim
end Go.Proofs.Ytmdfjipjkkjpcaa

/- NodeReads: the book's Own of one list of entries, and of two. -/
namespace Go.Proofs.Ytmdfjipjkkjpcaa
open Go.SX

theorem con23u {H : Mem} {v0 : Value} {hb he : List Value} (hB : BookM hb he H) {A1 : List Ent} {k1 w1 : Nat → Value} {x1 : Value × Mem}
    (e1 : OneE A1 k1 w1 x1) (hhb : hb = [] ++ kvs k1 w1 A1.length) (hhe : he = [] ++ [x1.1]) (t1 : ∀ e ∈ A1, TinyE e) (l1 : A1.length < 10000) :
    ConG 23 [.loc 1000 0] [(1000, .cust none (fun _ => memΦ v0 H)), (1001, knownE A1 x1)] Unit (fun _ => .bool .t)
      (fun _ => [(1000, .dead), (1001, .dead)]) := by
  refine ⟨specG_merges (v0 := v0) (r := .bool .t) (fun _ _ _ _ _ h => h) [(1001, knownE A1 x1, x1.2)] H (show ([1000, 1001] : List Nat).Nodup by decide) (fun t ht => ?_) fun hn => ?_⟩
  · simp only [List.mem_cons, List.not_mem_nil, or_false] at ht
    rcases ht with rfl
    exact ⟨cst_kn, knm_kn⟩
  · have hM : H ++ [(1001, knownE A1 x1, x1.2)].flatMap (·.2.2) = H ++ ([] ++ x1.2) := by simp
    rw [hM] at hn ⊢
    have hs : ∀ M : Mem, (([] ++ x1.2 : Mem).map (·.1)).Nodup := fun _ => by
      rw [List.map_append] at hn; exact (List.nodup_append.1 hn).2.1
    have n1 := hs []
    have F := Fac.nil.add (fac_ents e1) n1
    rw [hhb, hhe] at hB
    have h := con23p (v0 := v0) hB F hn (by simp only [List.length_append, kvn_len, List.length_nil]; omega) (by simp) (fun n hn' => by
      simp only [List.mem_append, List.not_mem_nil, false_or] at hn'
      exact kvn_tiny t1 n hn') (fun n hn' => by
      simp only [List.append_nil, List.mem_append, List.not_mem_nil, false_or, List.mem_singleton, or_false] at hn'
      rw [hn']; omega)
    exact fun η G vs w q1 q2 q3 => (h.spec η G vs w q1 q2 q3).mono fun _ _ ⟨η', G', hh⟩ => ⟨(), η', G', hh⟩

theorem con23v {H : Mem} {v0 : Value} {hb he : List Value} (hB : BookM hb he H) {A1 A2 : List Ent} {k1 w1 k2 w2 : Nat → Value} {x1 x2 : Value × Mem}
    (e1 : OneE A1 k1 w1 x1) (e2 : OneE A2 k2 w2 x2) (hhb : hb = [] ++ kvs k1 w1 A1.length ++ kvs k2 w2 A2.length) (hhe : he = [] ++ [x1.1] ++ [x2.1]) (t1 : ∀ e ∈ A1, TinyE e) (t2 : ∀ e ∈ A2, TinyE e) (l1 : A1.length < 10000) (l2 : A2.length < 10000) :
    ConG 23 [.loc 1000 0] [(1000, .cust none (fun _ => memΦ v0 H)), (1001, knownE A1 x1), (1002, knownE A2 x2)] Unit (fun _ => .bool .t)
      (fun _ => [(1000, .dead), (1001, .dead), (1002, .dead)]) := by
  refine ⟨specG_merges (v0 := v0) (r := .bool .t) (fun _ _ _ _ _ h => h) [(1001, knownE A1 x1, x1.2), (1002, knownE A2 x2, x2.2)] H (show ([1000, 1001, 1002] : List Nat).Nodup by decide) (fun t ht => ?_) fun hn => ?_⟩
  · simp only [List.mem_cons, List.not_mem_nil, or_false] at ht
    rcases ht with rfl | rfl
    · exact ⟨cst_kn, knm_kn⟩
    · exact ⟨cst_kn, knm_kn⟩
  · have hM : H ++ [(1001, knownE A1 x1, x1.2), (1002, knownE A2 x2, x2.2)].flatMap (·.2.2) = H ++ ([] ++ x1.2 ++ x2.2) := by simp
    rw [hM] at hn ⊢
    have hs : ∀ M : Mem, (([] ++ x1.2 ++ x2.2 : Mem).map (·.1)).Nodup := fun _ => by
      rw [List.map_append] at hn; exact (List.nodup_append.1 hn).2.1
    have n2 := hs []
    have cut : ∀ {a b : Mem}, ((a ++ b).map (·.1)).Nodup → (a.map (·.1)).Nodup := fun h => by rw [List.map_append] at h; exact (List.nodup_append.1 h).1
    have n1 := cut n2
    have F := (Fac.nil.add (fac_ents e1) n1).add (fac_ents e2) n2
    rw [hhb, hhe] at hB
    have h := con23p (v0 := v0) hB F hn (by simp only [List.length_append, kvn_len, List.length_nil]; omega) (by simp) (fun n hn' => by
      simp only [List.mem_append, List.not_mem_nil, false_or] at hn'
      rcases hn' with h | h
      · exact kvn_tiny t1 n h
      · exact kvn_tiny t2 n h) (fun n hn' => by
      simp only [List.append_nil, List.mem_append, List.not_mem_nil, false_or, List.mem_singleton, or_false] at hn'
      rcases hn' with h | h <;> rw [h] <;> omega)
    exact fun η G vs w q1 q2 q3 => (h.spec η G vs w q1 q2 q3).mono fun _ _ ⟨η', G', hh⟩ => ⟨(), η', G', hh⟩
end Go.Proofs.Ytmdfjipjkkjpcaa

/- NodeReads: what is written is read again, and is no node of the other kind. -/
namespace Go.Proofs.Ytmdfjipjkkjpcaa
open Go.SX

theorem numN_low : ∀ (k n : Nat), numN (lowB n k) = n % 256 ^ k
  | 0, n => by simp [lowB, numN, Nat.mod_one]
  | k + 1, n => by
    simp only [lowB, numN, numN_low k, UInt8.toNat_ofNat']
    rw [show 256 ^ (k + 1) = 256 * 256 ^ k by rw [Nat.pow_succ, Nat.mul_comm], Nat.mod_mul]
def GoodE (leaf : Bool) (e : Ent) : Prop := EntOk e ∧ e.key.length ≤ 160 ∧ (if leaf then leafyB e else kidB e) = true
theorem numN_one {n : Nat} (h : n < 256) : numN [UInt8.ofNat n] = n := by
  simp only [numN, UInt8.toNat_ofNat']; omega
theorem ent_eq {e : Ent} {k v : List UInt8} {p s : Int} (h1 : k = e.key) (h2 : v = e.val) (h3 : p = e.page) (h4 : s = e.size) : (⟨k, v, p, s⟩ : Ent) = e := by
  subst h1 h2 h3 h4; rfl
theorem len0 {l : List UInt8} (h : l.length = 0) : [] = l := by cases l with
  | nil => rfl
  | cons _ _ => simp at h
theorem low_page {x : Int} (h : 0 ≤ x ∧ x < 4294967296) : ((numN (lowB x.toNat 4) : Nat) : Int) = x := by
  rw [numN_low]; omega
theorem entP_entB {leaf : Bool} {e : Ent} {r : List UInt8} (h : GoodE leaf e) : entP leaf (entB leaf e ++ r) = some (e, r) := by
  obtain ⟨⟨hp, hs⟩, hk, hg⟩ := h
  have l4 : ∀ n, (lowB n 4).length = 4 := fun n => lowB_length ..
  obtain ⟨X, hX⟩ : ∃ X, X = (if leaf then (if e.page = 0 then UInt8.ofNat e.val.length :: e.val else 255 :: (lowB e.size.toNat 4 ++ lowB e.page.toNat 4)) else lowB e.page.toNat 4) ++ r := ⟨_, rfl⟩
  have hb : entB leaf e ++ r = UInt8.ofNat e.key.length :: (e.key ++ X) := by rw [hX]; unfold entB; simp
  rw [hb]
  have t1 : numN ((UInt8.ofNat e.key.length :: (e.key ++ X)).take 1) = e.key.length := numN_one (by omega)
  have d1 : (UInt8.ofNat e.key.length :: (e.key ++ X)).drop 1 = e.key ++ X := rfl
  have d2 : (e.key ++ X).drop e.key.length = X := List.drop_left
  have k2 : (e.key ++ X).take e.key.length = e.key := List.take_left
  have c1 : 1 ≤ (UInt8.ofNat e.key.length :: (e.key ++ X)).length := by simp
  have c2 : e.key.length ≤ (e.key ++ X).length := by simp
  cases leaf with
  | false =>
    simp only [Bool.false_eq_true, if_false] at hX hg
    unfold kidB at hg
    simp only [Bool.and_eq_true, decide_eq_true_eq] at hg
    have c3 : 4 ≤ X.length := by rw [hX, List.length_append, l4]; omega
    rw [entP_mkb rfl c1 (by rw [t1, d1]; exact c2) (by rw [t1, d1, d2]; exact c3), t1, d1, d2, k2]
    have x4 : X.take 4 = lowB e.page.toNat 4 := by rw [hX]; exact List.take_left' (l4 _)
    have y4 : X.drop 4 = r := by rw [hX]; exact List.drop_left' (l4 _)
    rw [x4, y4]
    exact congrArg some (Prod.ext (ent_eq rfl (len0 hg.1) (low_page hp) hg.2.1.symm) rfl)
  | true =>
    simp only [if_true] at hX hg
    unfold leafyB at hg
    by_cases h0 : e.page = 0
    · rw [if_pos h0] at hX hg
      simp only [Bool.and_eq_true, decide_eq_true_eq] at hg
      have q1 : numN (X.take 1) = e.val.length := by rw [hX]; exact numN_one (by omega)
      have q2 : X.drop 1 = e.val ++ r := by rw [hX]; rfl
      have c3 : 1 ≤ X.length := by rw [hX]; simp
      rw [entP_mkv rfl c1 (by rw [t1, d1]; exact c2) (by rw [t1, d1, d2]; exact c3) (by rw [t1, d1, d2, q1]; omega) (by rw [t1, d1, d2, q1, q2]; simp), t1, d1, d2, k2, q1, q2]
      rw [List.take_left, List.drop_left]
      exact congrArg some (Prod.ext (ent_eq rfl rfl h0.symm hg.1.symm) rfl)
    · rw [if_neg h0] at hX hg
      simp only [Bool.and_eq_true, decide_eq_true_eq] at hg
      have q1 : numN (X.take 1) = 255 := by rw [hX]; rfl
      have q2 : X.drop 1 = lowB e.size.toNat 4 ++ (lowB e.page.toNat 4 ++ r) := by rw [hX]; simp
      have q3 : (X.drop 1).take 4 = lowB e.size.toNat 4 := by rw [q2]; exact List.take_left' (l4 _)
      have q4 : (X.drop 1).drop 4 = lowB e.page.toNat 4 ++ r := by rw [q2]; exact List.drop_left' (l4 _)
      have c3 : 1 ≤ X.length := by rw [hX]; simp
      have x4 : (lowB e.page.toNat 4 ++ r).take 4 = lowB e.page.toNat 4 := List.take_left' (l4 _)
      have y4 : (lowB e.page.toNat 4 ++ r).drop 4 = r := List.drop_left' (l4 _)
      rw [entP_mkl rfl c1 (by rw [t1, d1]; exact c2) (by rw [t1, d1, d2]; exact c3) (by rw [t1, d1, d2, q1]) (by rw [t1, d1, d2, q2, List.length_append, l4]; omega) (by rw [t1, d1, d2, q4, List.length_append, l4]; omega), t1, d1, d2, k2, q3, q4, x4, y4]
      exact congrArg some (Prod.ext (ent_eq rfl (len0 hg.1) (low_page hp) (low_page hs)) rfl)
theorem entsP_entsB {leaf : Bool} : ∀ {es : List Ent}, (∀ e ∈ es, GoodE leaf e) → entsP leaf es.length (entsB leaf es) = some es
  | [], _ => rfl
  | e :: es, h => by
    have ih := entsP_entsB (es := es) fun x hx => h x (List.mem_cons_of_mem _ hx)
    simp only [entsB, List.length_cons, entsP, entP_entB (h e List.mem_cons_self), ih]
theorem good_of {leaf : Bool} {es : List Ent} (hp : ∀ e ∈ es, EntOk e) (hm : mayB leaf es = true) : ∀ e ∈ es, GoodE leaf e := by
  intro e he
  obtain ⟨i, hi, rfl⟩ := List.mem_iff_getElem.1 he
  have h := ((may_at hm).2 i hi).1
  rw [show es.getD i default = es[i] by simp [List.getD_eq_getElem?_getD, hi]] at h
  unfold keyBad at h
  simp only [Bool.or_eq_false_iff, decide_eq_false_iff_not, Bool.not_eq_false'] at h
  exact ⟨hp _ he, by omega, h.2.2⟩
theorem readP_nodeB {leaf : Bool} {es : List Ent} (hp : ∀ e ∈ es, EntOk e) (hc : checkI leaf es = 0) : readP leaf (nodeB leaf es) = some es := by
  obtain ⟨hm, hs⟩ := checkI_ok hc
  have hl := sizeL_len leaf es
  have l2 : (lowB es.length 2).length = 2 := lowB_length ..
  unfold readP nodeB
  rw [if_pos (by rw [List.length_append, l2]; omega), List.take_left' l2, List.drop_left' l2, numN_low, show es.length % 256 ^ 2 = es.length by omega]
  exact entsP_entsB (good_of hp hm)
theorem encB_nodeB {leaf : Bool} {es : List Ent} (hc : checkI leaf es = 0) : encB leaf es = nodeB leaf es := by unfold encB; rw [if_pos hc]

/-- The kind of a node, and the other one. -/
def kindI (leaf : Bool) : Int := if leaf then 1 else 2
theorem dec_node {leaf : Bool} {es : List Ent} (hp : ∀ e ∈ es, EntOk e) (hc : checkI leaf es = 0) : dec (kindI leaf) (encB leaf es) = (leaf, es, 0) := by
  have hk : decide (kindI leaf = 1) = leaf := by cases leaf <;> rfl
  have hk2 : kindI leaf = 1 ∨ kindI leaf = 2 := by cases leaf; exact .inr rfl; exact .inl rfl
  have h := dec_ok hk2 (b := encB leaf es) (es := es) (by rw [hk, encB_nodeB hc]; exact readP_nodeB hp hc) (by rw [hk]; exact hc) (by rw [hk])
  rw [hk] at h; exact h
theorem entP_klen {leaf : Bool} {b : List UInt8} {e : Ent} {r : List UInt8} (h : entP leaf b = some (e, r)) : e.key.length = numN (b.take 1) := by
  have h1 := entP_key h
  have key : e.key = (b.drop 1).take (numN (b.take 1)) := by
    cases leaf with
    | false => rw [(entP_branch rfl h).2.1]
    | true =>
      by_cases h255 : numN (((b.drop 1).drop (numN (b.take 1))).take 1) = 255
      · rw [(entP_big h255 h).2.2.1]
      · rw [(entP_val h255 h).2.1]
  rw [key, List.length_take]; omega
theorem may_first9 {leaf : Bool} {e : Ent} {es : List Ent} (hm : mayB leaf (e :: es) = true) : (!leaf) = decide (e.key.length = 0) := by
  have h := ((may_at hm).2 0 (by simp)).1
  simp only [keyBad, List.getD_eq_getElem?_getD, List.getElem?_cons_zero, Option.getD_some, decide_true, Bool.true_and, Bool.or_eq_false_iff] at h
  have h1 := h.1
  cases leaf <;> cases hd : decide (e.key.length = 0) <;> rw [hd] at h1 <;> first | rfl | cases h1
theorem dec_other {leaf : Bool} {es : List Ent} (hp : ∀ e ∈ es, EntOk e) (hc : checkI leaf es = 0) : dec (kindI (!leaf)) (encB leaf es) = (false, [], 90) := by
  have hk : decide (kindI (!leaf) = 1) = !leaf := by cases leaf <;> rfl
  cases hr : readP (decide (kindI (!leaf) = 1)) (encB leaf es) with
  | none => exact dec_none hr
  | some xs =>
    refine dec_bad hr fun ⟨hq, _⟩ => ?_
    rw [hk] at hr hq
    rw [encB_nodeB hc] at hr
    obtain ⟨hm, hs⟩ := checkI_ok hc
    obtain ⟨hm', _⟩ := checkI_ok hq
    have hl := sizeL_len leaf es
    have l2 : (lowB es.length 2).length = 2 := lowB_length ..
    unfold readP nodeB at hr
    rw [if_pos (by rw [List.length_append, l2]; omega), List.take_left' l2, List.drop_left' l2, numN_low, show es.length % 256 ^ 2 = es.length by omega] at hr
    cases es with
    | nil => exact absurd (may_at hm).1 (by simp)
    | cons e tl =>
      have he := good_of hp hm e List.mem_cons_self
      rw [List.length_cons] at hr
      obtain ⟨e', c, tl', h1, h2, rfl⟩ := entsP_next hr
      have k1 := entP_klen h1
      have k2 : numN ((entsB leaf (e :: tl)).take 1) = e.key.length := by
        simp only [entsB, entB, List.cons_append, List.take_succ_cons, List.take_zero]
        exact numN_one (by have := he.2.1; omega)
      rw [k2] at k1
      have f1 := may_first9 hm
      have f2 := may_first9 hm'
      rw [k1, ← f1] at f2
      cases leaf <;> cases f2
theorem dec_small {k : Int} {b : List UInt8} {L : Bool} {es : List Ent} {fl : Int} (h : dec k b = (L, es, fl)) : es.length < 10000 ∧ ∀ e ∈ es, EntS e := by
  unfold dec decP at h
  split at h
  · split at h
    · rename_i xs hx
      split at hx
      · cases hx
      · rename_i ys hr
        split at hx
        · rename_i hc
          cases hx
          cases h
          obtain ⟨_, hs⟩ := checkI_ok hc.1
          have hl := sizeL_len (decide (k = 1)) es
          exact ⟨by omega, (readP_s hr).1⟩
        · cases hx
    · cases h; exact ⟨by decide, fun e he => by cases he⟩
  · cases h; exact ⟨by decide, fun e he => by cases he⟩
theorem tiny_s {es : List Ent} (h : ∀ e ∈ es, EntS e) : ∀ e ∈ es, TinyE e := fun e he => by have := (h e he).2; unfold TinyE; omega
theorem small_s {es : List Ent} (h : ∀ e ∈ es, EntS e) : ∀ e ∈ es, SmallE e := fun e he => by have := (h e he).2; unfold SmallE; omega
end Go.Proofs.Ytmdfjipjkkjpcaa

/- NodeReads: the walk. -/
namespace Go.Proofs.Ytmdfjipjkkjpcaa
open Go.SX

/-- The same, but that the book's calls leave ghosts. -/
def E5 : Env := ⟨tiN, rwN, ConG, fun f => eqN f 18 || (eqN f 23 || eqN f 29), fun _ => false⟩
theorem fieldsOk5 : ∀ (fs : List (Nat × Nat)) (l : List Field), fieldsOk Try.prog E fs l → fieldsOk Try.prog E5 fs l
  | [], [], _ => trivial
  | [], _ :: _, h => h.elim
  | _ :: _, [], h => h.elim
  | (_, _) :: fs, _ :: r, ⟨h1, h2, h3, h4⟩ => ⟨h1, h2, h3, fieldsOk5 fs r h4⟩
theorem tdOk5 {td : TD} {d : TypeDesc} (h : TDOk Try.prog E td d) : TDOk Try.prog E5 td d := by
  cases td with
  | struct fs =>
    obtain ⟨fields, h1, h2⟩ := h
    exact ⟨fields, h1, fieldsOk5 _ _ h2⟩
  | _ => exact h
theorem eok5 : EOk Try.prog E5 := fun T ti h => by
  obtain ⟨h1, ⟨d, h2, h3⟩, h4⟩ := eok T ti h
  exact ⟨h1, ⟨d, h2, tdOk5 h3⟩, h4⟩
theorem con_of5 {f : Nat} {fn : Func} {body : Code} (hf : Try.prog.funcs[f]? = some fn) (hb : fn.body = some body) (hname : (fn.name == "runtime.NumGoroutine") = false) {svs : List SV} {objs : Objs} {r : SV} {objs' : Objs} (n : Nat) (res : List ResultVar)
    (hn : fn.ntmps = n) (hres : fn.results.toList = res) (hl : leN svs.length n = true) (ho : borNames objs = true) (h : FnVC Con E5 body n res svs objs r objs') (hlt : f < 4096 := by decide) : Con f svs objs r objs' := by
  subst hn; subst hres
  exact ⟨specX_of (spec_of_vc eok5 (fun _ _ _ _ _ _ h => ConG.spec h) mixed (fun _ _ _ _ _ h => h.spec) hf hb hl ho h) ⟨fn, body, hf, hb, hname⟩ hlt⟩

theorem lit_args {f : Nat} {z n : Int} {s : SV} {objs objs' : Objs} {r : SV} (hz : z = n) (h : Con f [.int .u8 (.s fun _ => z), s] objs r objs') : Con f [.int .u8 (.l n), s] objs r objs' := h.args fun η G w vs hv => by
  subst hz
  match vs, hv with
  | [v1, v2], hv => exact ⟨by simpa [SVRel, IE.den] using hv.1, hv.2.1, trivial⟩
  | [], h => exact h.elim
  | [_], h => exact h.2.elim
  | _ :: _ :: _ :: _, h => exact h.2.2.elim
theorem s_args {f : Nat} {z n : Int} {s : SV} {objs objs' : Objs} {r : SV} (hz : z = n) (h : Con f [.int .u8 (.s fun _ => z), s] objs r objs') : Con f [.int .u8 (.s fun _ => n), s] objs r objs' := by subst hz; exact h

/-- What NodeReads' callees answer. -/
structure F4 (k : Int) (b : List UInt8) (leaf : Bool) (es : List Ent) (L : Bool) (X : List Ent) (fl : Int) : Prop where
  c24 : Con 24 [.dat (.bytes fun _ => b)] [] (.own 2000) [(2000, roomK b)]
  c25 : Con 25 [.int .u8 (.s fun _ => k), .dat (.rb (fun _ => b) fun _ => [91, 92])] [] (decR L fl) (decO X)
  c26 : Con 26 [.dat (.rb (fun _ => b) fun _ => [91, 92]), .dat (.bytes fun _ => b)] [] (.bool .t) []
  c27 : Con 27 [.own 1000] [(1000, roomK b)] (.tup []) [(1000, .dead)]
  c28 : Con 28 [.int .u8 (.s fun _ => k), .dat (.bytes fun _ => b)] [] (decR L fl) (decO X)
  c19 : Con 19 [] [] (.bool .t) []
  cX : Con 30 [nodeSV L X, nodeSV L X] [] (.bool .t) []
  c12 : Con 12 [nodeSV leaf es] [] (.tup [.own 2000, .int .u16 (.s fun _ => checkI leaf es)]) [(2000, .barr 5 fun _ => encB leaf es)]
  cN : checkI leaf es = 0 → Con 25 [.int .u8 (.s fun _ => kindI leaf), .dat (.bytes fun _ => encB leaf es)] [] (decR leaf 0) (decO es)
  cO : checkI leaf es = 0 → Con 25 [.int .u8 (.s fun _ => kindI (!leaf)), .dat (.bytes fun _ => encB leaf es)] [] (decR false 90) (decO [])
  cE : Con 30 [nodeSV leaf es, nodeSV leaf es] [] (.bool .t) []
  lX : X.length < 10000
  tX : ∀ e ∈ X, TinyE e
  lE : es.length < 10000
  tE : ∀ e ∈ es, TinyE e
theorem facts4 {k : Int} {b : List UInt8} {leaf : Bool} {es : List Ent} {L : Bool} {X : List Ent} {fl : Int} (hd : dec k b = (L, X, fl)) (hp : ∀ e ∈ es, EntOk e) (hb : b.length ≤ 20000) (hm : muchB es = false) : F4 k b leaf es L X fl := by
  obtain ⟨hm1, hm2⟩ := much_ok hm
  obtain ⟨lX, sX⟩ := dec_small hd
  have tE : ∀ e ∈ es, TinyE e := fun e he => by
    have : e.key.length + e.val.length ≤ weight es := by
      clear hm hm1 hm2 hp
      induction es with
      | nil => cases he
      | cons x xs ih =>
        simp only [weight]
        rcases List.mem_cons.1 he with rfl | h
        · omega
        · have := ih h; omega
    unfold TinyE; omega
  have sE : ∀ e ∈ es, SmallE e := fun e he => by have := tE e he; unfold TinyE at this; unfold SmallE; omega
  have hbl : b.length < 1000000000000 := by omega
  have hel : checkI leaf es = 0 → (encB leaf es).length < 1000000000000 := fun hc => by
    obtain ⟨_, hs⟩ := checkI_ok hc
    have := encTo_length (leaf := leaf) (es := es) (i := es.length) hs
    rw [encB_nodeB hc]
    have e : encTo leaf es es.length = nodeB leaf es := by unfold encTo nodeB; rw [List.take_length]
    rw [e] at this
    exact Nat.lt_of_le_of_lt this (by decide)
  exact { c24 := con24k hbl, c25 := rb_args (con25 hd hbl), c26 := (con26 hbl).yes rfl, c27 := con27k hbl, c28 := con28 hd hbl, c19 := con19.yes rfl,
          cX := (con30 (small_s sX) (by omega)).yes (by unfold sameB; simp), c12 := con12u hp (by omega), cN := fun hc => con25 (dec_node hp hc) (hel hc), cO := fun hc => con25 (dec_other hp hc) (hel hc),
          cE := (con30 sE (by omega)).yes (by unfold sameB; simp), lX := lX, tX := tiny_s sX, lE := by omega, tE := tE }

theorem self_eqI5 {a : Int} (h : (!decide (a = a)) = true) : False := by simp at h

set_option maxRecDepth 20000 in
set_option maxHeartbeats 20000000 in
theorem con4 {k : Int} {b : List UInt8} {leaf : Bool} {es : List Ent} (hp : ∀ e ∈ es, EntOk e) (hB : ∀ e ∈ es, BigE e) (hl : es.length ≤ 281474976710656) :
    Con 4 [.int .u8 (.s fun _ => k), .dat (.bytes fun _ => b), nodeSV leaf es] [] (.bool (.s fun _ => true)) [] := by
  have hF0 : ∃ L X fl, b.length ≤ 20000 → muchB es = false → F4 k b leaf es L X fl := ⟨_, _, _, facts4 rfl hp⟩
  obtain ⟨L, X, fl, hF⟩ := hF0
  refine con_of5 Try.func4 rfl rfl 110 _ rfl rfl rfl rfl ?_
  cbv
  refine And.intro ?_ ?_
  · intro h1
    cbv
    refine ⟨[], [], ?_⟩
    cbv
    and_intros
    all_goals first | exact trivial | exact ⟨rfl⟩ | exact ⟨by kernel_rfl⟩
  · intro h1
    have h1 : ¬ (20000 : Int) < (b.length : Int) := of_decide_eq_false h1
    have hb2 : b.length ≤ 20000 := by omega
    cbv
    refine ⟨_, _, con10 (leaf := leaf) hB hl, ⟨by kernel_rfl⟩, ?_⟩
    cbv
    refine And.intro ?_ ?_
    · intro h2
      cbv
      refine ⟨[], [], ?_⟩
      cbv
      and_intros
      all_goals first | exact trivial | exact ⟨rfl⟩ | exact ⟨by kernel_rfl⟩
    · intro h2
      have F := hF hb2 h2
      cbv
      refine ⟨_, _, F.c24, ⟨by kernel_rfl⟩, ?_⟩
      cbv
      refine ⟨_, _, F.c25, ⟨by kernel_rfl⟩, ?_⟩
      cbv
      refine ⟨_, _, F.c26, ⟨by kernel_rfl⟩, ?_⟩
      cbv
      refine ⟨_, _, F.c27, ⟨by kernel_rfl⟩, ?_⟩
      cbv
      refine ⟨_, _, F.c28, ⟨by kernel_rfl⟩, ?_⟩
      cbv
      refine Exists.elim (put29z F.lX) fun Q1 q1 => ?_
      refine ⟨[], ?_⟩
      cbv
      refine ⟨_, _, _, q1.2, ⟨by kernel_rfl⟩, fun y1 => ⟨⟨by kernel_rfl⟩, ?_⟩⟩
      have B1 := q1.1 y1.1 y1.2
      cbv
      refine ⟨_, _, F.c19, ⟨by kernel_rfl⟩, ?_⟩
      cbv
      refine And.intro ?_ ?_
      · intro g1
        have h9 : False := self_eqI5 g1
        cbv
        exact h9.elim
      · intro g1
        clear g1
        cbv
        refine ⟨_, _, F.cX, ⟨by kernel_rfl⟩, ?_⟩
        cbv
        refine ⟨_, _, F.c12, ⟨by kernel_rfl⟩, ?_⟩
        cbv
        refine And.intro ?_ ?_
        · intro h3
          have h3 : checkI leaf es = 0 := of_decide_eq_true h3
          have cN := F.cN h3
          have cO := F.cO h3
          cbv
          refine And.intro ?_ ?_
          · intro h4
            have h4 : leaf = true := h4
            have cN1 := lit_args (n := 1) (by rw [h4]; rfl) cN
            have cO1 := s_args (n := IntKind.u8.wrap (3 - 1)) (by rw [h4]; rfl) cO
            have cO2 := lit_args (n := 2) (by rw [h4]; rfl) cO
            cbv
            refine ⟨_, _, cN1, ⟨by kernel_rfl⟩, ?_⟩
            cbv
            refine ⟨_, _, cO1, ⟨by kernel_rfl⟩, ?_⟩
            cbv
            refine Exists.elim (put29 (v0 := y1.1.1.1.1) 20000 1 B1.2 F.lE (by decide) (by decide)) fun Q2 q2 => ?_
            refine ⟨[], ?_⟩
            cbv
            refine ⟨_, _, _, q2.2, ⟨by kernel_rfl⟩, fun y2 => ⟨⟨by kernel_rfl⟩, ?_⟩⟩
            have B2 := q2.1 y2.1 y2.2
            have c23 := con23v (v0 := y2.1.1.1.1) B2.2.1 B1.1 B2.1 rfl rfl F.tX F.tE F.lX F.lE
            cbv
            refine And.intro ?_ ?_
            · intro g2
              have h9 : False := self_eqI5 g2
              cbv
              exact h9.elim
            · intro g2
              clear g2
              cbv
              refine ⟨_, _, F.cE, ⟨by kernel_rfl⟩, ?_⟩
              cbv
              refine And.intro ?_ ?_
              · intro g3
                have h9 : False := self_eqI5 g3
                cbv
                exact h9.elim
              · intro g3
                clear g3
                cbv
                refine ⟨[6300, 11200], ?_⟩
                cbv
                refine ⟨_, _, _, c23, ⟨by kernel_rfl⟩, fun _ => ⟨⟨by kernel_rfl⟩, ?_⟩⟩
                cbv
                refine ⟨[], [], ?_⟩
                cbv
                and_intros
                all_goals first | exact trivial | exact ⟨rfl⟩ | exact ⟨by kernel_rfl⟩
          · intro h4
            have h4 : leaf = false := h4
            have cN1 := lit_args (n := 2) (by rw [h4]; rfl) cN
            have cO1 := s_args (n := IntKind.u8.wrap (3 - 2)) (by rw [h4]; rfl) cO
            have cO2 := lit_args (n := 1) (by rw [h4]; rfl) cO
            cbv
            refine ⟨_, _, cN1, ⟨by kernel_rfl⟩, ?_⟩
            cbv
            refine ⟨_, _, cO1, ⟨by kernel_rfl⟩, ?_⟩
            cbv
            refine Exists.elim (put29 (v0 := y1.1.1.1.1) 20000 1 B1.2 F.lE (by decide) (by decide)) fun Q2 q2 => ?_
            refine ⟨[], ?_⟩
            cbv
            refine ⟨_, _, _, q2.2, ⟨by kernel_rfl⟩, fun y2 => ⟨⟨by kernel_rfl⟩, ?_⟩⟩
            have B2 := q2.1 y2.1 y2.2
            have c23 := con23v (v0 := y2.1.1.1.1) B2.2.1 B1.1 B2.1 rfl rfl F.tX F.tE F.lX F.lE
            cbv
            refine And.intro ?_ ?_
            · intro g2
              have h9 : False := self_eqI5 g2
              cbv
              exact h9.elim
            · intro g2
              clear g2
              cbv
              refine ⟨_, _, F.cE, ⟨by kernel_rfl⟩, ?_⟩
              cbv
              refine And.intro ?_ ?_
              · intro g3
                have h9 : False := self_eqI5 g3
                cbv
                exact h9.elim
              · intro g3
                clear g3
                cbv
                refine ⟨[6300, 11200], ?_⟩
                cbv
                refine ⟨_, _, _, c23, ⟨by kernel_rfl⟩, fun _ => ⟨⟨by kernel_rfl⟩, ?_⟩⟩
                cbv
                refine ⟨[], [], ?_⟩
                cbv
                and_intros
                all_goals first | exact trivial | exact ⟨rfl⟩ | exact ⟨by kernel_rfl⟩
        · intro h3
          have c23 := con23u (v0 := y1.1.1.1.1) B1.2.1 B1.1 rfl rfl F.tX F.lX
          cbv
          refine ⟨[6300], ?_⟩
          cbv
          refine ⟨_, _, _, c23, ⟨by kernel_rfl⟩, fun _ => ⟨⟨by kernel_rfl⟩, ?_⟩⟩
          cbv
          refine ⟨[], [], ?_⟩
          cbv
          and_intros
          all_goals first | exact trivial | exact ⟨rfl⟩ | exact ⟨by kernel_rfl⟩
end Go.Proofs.Ytmdfjipjkkjpcaa

