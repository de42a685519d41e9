/- Texts put together: Wa, Wg, Da, Db, Wh, Dc. -/
import Derived.Laws.MakeOwn
import Derived.Test.YtmdfjipjkkjpcaaUf
import Derived.Test.YtmdfjipjkkjpcaaUj
import Derived.Test.YtmdfjipjkkjpcaaUh
/- SX: raw rows: what is made, appended to where there is room, and cut. -/
namespace Go.SX

def HasRow (w : World) (b T : Nat) (cs : List Value) : Prop := w.heap[b]? = some (.cells ⟨cs⟩ T (0, 0))
/-- A row of its own: so many elements of so many, and all its cells. -/
def rowΦ (T wd n c : Nat) (cs : List Value) : World → Value → List Nat → Prop :=
  fun w v B => ∃ b, v = .slice (some ⟨b, 0, none⟩) n c ∧ B = [b] ∧ HasRow w b T cs ∧ cs.length = c * wd ∧ n ≤ c

section
variable {P : Program} {η : OEnv} {G : Nat → Prop} {w : World}

theorem dummy {objs : Objs} (hsep : Sep η G w) (hob : ∀ k, ObjOpt η G w (lookN k objs) (η k)) : Holds [] η G 0 (fun _ => .any) (fun k => lookN k objs) ⟨#[], []⟩ w :=
  ⟨rfl, rfl, fun _ => by simp [SVRel], hob, hsep⟩

theorem lookN_names {α : Type} {k : Nat} {x : α} {l : List (Nat × α)} (h : lookN k l = some x) : k ∈ l.map (·.1) := List.mem_map.2 ⟨_, lookN_mem h, rfl⟩
theorem names_map : ∀ (objs : Objs), namesOf objs = objs.map (·.1)
  | [] => rfl
  | (k, x) :: r => by simp [namesOf, names_map r]
theorem killN_map : ∀ (ks : List Nat), (killN ks).map (·.1) = ks
  | [] => rfl
  | k :: r => by simp [killN, killN_map r]

theorem lookN_app {k : Nat} {X : TObj} {d : Nat} : ∀ (ks : List Nat), lookN k (killN ks ++ [(d, X)]) = if k ∈ ks then some .dead else if k = d then some X else none
  | [] => by
      simp only [killN, List.nil_append, lookN, List.not_mem_nil, if_false]
      by_cases h : k = d
      · subst h; simp [eqN_refl]
      · have : eqN d k = false := decide_eq_false (fun e => h e.symm)
        simp [this, h]
  | j :: r => by
      simp only [killN, List.cons_append, lookN]
      by_cases h : k = j
      · subst h; simp [eqN_refl]
      · have : eqN j k = false := decide_eq_false (fun e => h e.symm)
        simp only [this, cond_false, lookN_app r, List.mem_cons, h, false_or]

/-- All objects are taken, one new one is there. -/
theorem raw_own {objs : Objs} (hlt : ∀ k ∈ namesOf objs, k < 2000) (hsep : Sep η G w) (hob : ∀ k, ObjOpt η G w (lookN k objs) (η k)) {w' : World} {o : OInfo} {X : TObj}
    (T : Takes η w (namesOf objs) w' o) (h1 : o.val.oneCell' = true) (hX : ObjRel (updE (killE η (namesOf objs)) 2000 o) G w' X o) :
    ∃ η' G', SVRel η' G' w' (.own 2000) o.val ∧ (∀ k, ObjOpt η' G' w' (lookN k (killN (namesOf objs) ++ [(2000, X)])) (η' k)) ∧ Sep η' G' w' ∧ Evol η G w η' G' w' := by
  have H := dummy hsep hob
  have hd : lookN 2000 objs = none := by
    cases h : lookN 2000 objs with
    | none => rfl
    | some x => have := hlt 2000 (by rw [names_map]; exact lookN_names h); omega
  have hks : ∀ k ∈ namesOf objs, lookN k objs ≠ none := fun k hk => by
    rw [names_map] at hk
    obtain ⟨p, hp, rfl⟩ := List.mem_map.1 hk
    exact fun h => lookN_none.1 h p.2 hp
  have A := after_take H hd hks T (fun _ => hX) (sv := .own 2000) (v := o.val) (own_rel h1)
  refine ⟨_, _, A.sv, fun k => ?_, A.sp, A.ev⟩
  have := A.ob k
  rw [updF_append] at this
  simp only [updF, updF_kill] at this
  rw [lookN_app]
  by_cases hk : k ∈ namesOf objs
  · have hne : k ≠ 2000 := fun e => by have := hlt k hk; omega
    rw [if_neg hne, if_pos hk] at this
    rw [if_pos hk]; exact this
  · rw [if_neg hk]
    by_cases hk2 : k = 2000
    · subst hk2
      rw [if_pos rfl] at this ⊢; exact this
    · rw [if_neg hk2, if_neg hk] at this
      rw [if_neg hk2]
      have hn : lookN k objs = none := lookN_none.2 fun x hx => hk (by rw [names_map]; exact List.mem_map.2 ⟨_, hx, rfl⟩)
      rw [hn] at this; exact this

theorem cust_rel {d : Option DV} {Φ : World → Value → List Nat → Prop} {v : Value} {B : List Nat} (h : ∀ w' : World, (∀ b ∈ B, w'.heap[b]? = w.heap[b]?) → Φ w' v B ∧ ∀ x, d = some x → DVRel w' (fun b => b ∈ B) x v) :
    ObjRel η G w (.cust d (fun _ => Φ)) ⟨v, B, [], false⟩ := ⟨rfl, rfl, h⟩

/-- A raw object, looked into. -/
theorem cust_at {objs : Objs} (hob : ∀ k, ObjOpt η G w (lookN k objs) (η k)) {k : Nat} {d : Option DV} {Φ : World → Value → List Nat → Prop} (hk : lookN k objs = some (.cust d (fun _ => Φ))) {v : Value} (hv : SVRel η G w (.own k) v) :
    ∃ o, η k = some o ∧ o.dead = false ∧ o.inner = [] ∧ v = o.val ∧ (∀ w' : World, (∀ b ∈ o.main, w'.heap[b]? = w.heap[b]?) → Φ w' v o.main ∧ ∀ x, d = some x → DVRel w' (fun b => b ∈ o.main) x v) := by
  have h := hob k
  simp only [SVRel] at hv
  obtain ⟨o, ho, h1, hv⟩ := hv
  rw [hk, ho] at h
  simp only [ObjOpt, ObjRel] at h
  obtain ⟨h2, h3, h4⟩ := h
  have := hv h2
  subst this
  exact ⟨o, ho, h2, h3, rfl, h4⟩

theorem rowΦ_keep {T wd n c : Nat} {cs : List Value} {w w' : World} {v : Value} {B : List Nat} (h : rowΦ T wd n c cs w v B) (hw : ∀ b ∈ B, w'.heap[b]? = w.heap[b]?) : rowΦ T wd n c cs w' v B := by
  obtain ⟨b, h1, rfl, h3, h4, h5⟩ := h
  exact ⟨b, h1, rfl, by unfold HasRow; rw [hw b (by simp)]; exact h3, h4, h5⟩

/-- 'make', of a length of 0. -/
theorem raw_make {T e c sz : Nat} {i : TypeInfo} {z : Value} {zc : Int} {cs : List Value} (hzc : zc = (c : Int)) (hsz : sz = i.size) (hcs : cs = (madeCells z.cells (c * i.size)).toList) (ht : P.underlying T = some (.slice e)) (hi : P.info? e = some i) (hz : i.zero = some z) (hb : i.bytes * c ≤ 281474976710656) (h63 : c ≤ 9223372036854775807) :
    SpecG P (rawC 7 T) [.int .i64 (.l 0), .int .i64 (.s fun _ => zc)] [] Unit (fun _ => .own 2000) (fun _ => [(2000, .cust none (fun _ => rowΦ e sz 0 c cs))]) := by
  subst hzc; subst hsz; subst hcs
  intro η G vs w hsep hob hs
  match vs, hs with
  | [v0, v1], hs =>
    simp only [SVRels, SVRel, IE.den_l, IE.den_s] at hs
    obtain ⟨rfl, rfl, -⟩ := hs
    unfold RunsX
    rw [rawSem_rawC (by omega)]
    have hb' : (i.bytes : Int) * (c : Int) ≤ 281474976710656 := by
      have h : ((i.bytes * c : Nat) : Int) ≤ 281474976710656 := by omega
      rwa [Int.natCast_mul] at h
    have hr := run_make (P := P) w T e i z ht hi hz .i64 .i64 0 c (Int.le_refl _) (by omega) hb' (by omega)
    refine ⟨_, _, hr, (), ?_⟩
    simp only [Int.toNat_natCast, Int.toNat_zero]
    exact raw_own (objs := []) (w' := w.alloc (.cells (madeCells z.cells (c * i.size)) e)) (o := ⟨.slice (some ⟨w.heap.size, 0, none⟩) 0 c, [w.heap.size], [], false⟩) (by simp [namesOf]) hsep hob
      ⟨rfl, rfl, rfl, by simp, fun b hb _ => heap_alloc_old w _ hb, fun b hb => by simp at hb; subst hb; exact ⟨by simp, .inl (Nat.le_refl _)⟩, by simp⟩ rfl
      (cust_rel fun w' hw' => ⟨⟨w.heap.size, rfl, rfl, by unfold HasRow; rw [hw' _ (by simp)]; exact heap_alloc_new w _, by simp [size_madeCells], Nat.zero_le _⟩, fun x hx => by cases hx⟩)
  | [], h => exact h.elim
  | [_], h => exact h.2.elim
  | _ :: _ :: _ :: _, h => exact h.2.2.elim

theorem run_bounds_hi {n c : Nat} {k : IntKind} {m : Nat} (hm : m ≤ c) : (Instr.sliceBounds true n c none (some (.int k (m : Int))) none).run P w = .ok (0, m, c) w := by
  have h1 : ¬ ((m : Int) < 0) := by omega
  have h2 : ¬ (c < m) := by omega
  simp [Instr.sliceBounds, Instr.sliceBound, asInt, asIntOf, h1, h2, hm]

/-- The first part of a row, as long as there is room. -/
theorem raw_cut {T e n m c : Nat} {zm : Int} (hzm : zm = (m : Int)) {i : TypeInfo} (ht : P.underlying T = some (.slice e)) (hi : P.info? e = some i) (hm : m ≤ c) {Φ Ψ : World → Value → List Nat → Prop} {d : Option DV}
    (hΦ : ∀ w v B, Φ w v B → ∃ b, v = .slice (some ⟨b, 0, none⟩) n c) (hΨ : ∀ w b B, Φ w (.slice (some ⟨b, 0, none⟩) n c) B → Ψ w (.slice (some ⟨b, 0, none⟩) m c) B ∧ ∀ x, d = some x → DVRel w (fun b => b ∈ B) x (.slice (some ⟨b, 0, none⟩) m c)) :
    SpecG P (rawC 6 T) [.own 1000, .int .i64 (.s fun _ => zm)] [(1000, .cust none (fun _ => Φ))] Unit (fun _ => .own 2000) (fun _ => [(1000, .dead), (2000, .cust d (fun _ => Ψ))]) := by
  subst hzm
  intro η G vs w hsep hob hs
  match vs, hs with
  | [v0, v1], hs =>
    simp only [SVRels] at hs
    obtain ⟨h0, h1, -⟩ := hs
    simp only [SVRel, IE.den_s] at h1
    subst h1
    obtain ⟨o, ho, hd, hin, rfl, hq⟩ := cust_at hob (k := 1000) rfl h0
    obtain ⟨b, hv⟩ := hΦ _ _ _ (hq w fun _ _ => rfl).1
    unfold RunsX
    rw [rawSem_rawC (by omega)]
    have hbd := run_bounds_hi (P := P) (w := w) (n := n) (k := .i64) hm
    refine ⟨.slice (some ⟨b, 0, none⟩) m c, w, ?_, (), ?_⟩
    · rw [hv]
      simp [Instr.sliceAt, Instr.slice, run_underlying ht, hbd, sizeOf, typeInfo, hi]
      intro _; rw [add_none]
    · exact raw_own (objs := [(1000, .cust none (fun _ => Φ))]) (w' := w) (o := ⟨.slice (some ⟨b, 0, none⟩) m c, o.main, [], false⟩) (by simp [namesOf]) hsep hob
        ⟨rfl, rfl, rfl, Nat.le_refl _, fun _ _ _ => rfl, fun b' hb' => ⟨(hsep.lt 1000 o ho b' (by simpa [hin] using hb')).1, .inr ⟨1000, by simp [namesOf], o, ho, by simpa [hin] using hb'⟩⟩, by simp⟩ rfl
        (cust_rel fun w' hw' => by
          have := (hq w' hw').1
          rw [hv] at this
          exact hΨ _ _ _ this)
  | [], h => exact h.elim
  | [_], h => exact h.2.elim
  | _ :: _ :: _ :: _, h => exact h.2.2.elim

/-- 'append' where there is room: the row's own block alone is written. -/
theorem run_room {T ty e : Nat} {i : TypeInfo} (ht : P.underlying T = some (.slice e)) (hi : P.info? e = some i) (hs : 0 < i.size) {b n c m : Nat} {cs news : List Value} {vy : Value} (hrow : HasRow w b e cs) (hc : cs.length = c * i.size) (hroom : n + m ≤ c)
    (rd : Rd w vy m news) (hl : news.length = m * i.size) (h1 : ∀ u ∈ news, u.oneCell' = true) :
    (Builtin.append_ #[T, T] ty #[.slice (some ⟨b, 0, none⟩) n c, vy]).run P w = .ok (.slice (some ⟨b, 0, none⟩) (n + m) c) (w.setRow b (cs.take (n * i.size) ++ news ++ cs.drop ((n + m) * i.size)).toArray) := by
  obtain ⟨p, c', rfl, hp⟩ := rd
  have hrow' : w.heap[b]? = some (.cells ⟨cs⟩ e (0, 0)) := hrow
  by_cases hm : m = 0
  · subst hm
    have hn : news = [] := List.eq_nil_of_length_eq_zero (by simpa using hl)
    subst hn
    rw [run_append_zero ht hi rfl (by omega) p, Nat.add_zero]
    simp only [List.append_nil, List.take_append_drop]
    rw [show (cs.toArray : Array Value) = ⟨cs⟩ from rfl, setRow_self w b _ e (0, 0) hrow']
  · obtain ⟨a, rfl, hnews⟩ := hp hm
    have hfit : n * i.size + news.length ≤ (⟨cs⟩ : Array Value).size := by
      rw [hl, ← Nat.add_mul]
      show (n + m) * i.size ≤ cs.length
      rw [hc]; exact Nat.mul_le_mul_right _ hroom
    have hr := run_append_room (P := P) w T ty e i ht hi b n c _ hrow' a m c' news hl hnews h1 hroom hfit
    rw [hr, hl, ← Nat.add_mul]

theorem setRow_has {b T : Nat} {cs cs' : List Value} (h : HasRow w b T cs) : HasRow (w.setRow b cs'.toArray) b T cs' := setRow_heap w b ⟨cs⟩ cs'.toArray T (0, 0) h
theorem put_rows_len {cs news : List Value} {n m c wd : Nat} (hc : cs.length = c * wd) (hn : news.length = m * wd) (h : n + m ≤ c) : (cs.take (n * wd) ++ news ++ cs.drop ((n + m) * wd)).length = c * wd := by
  have h1 : n * wd ≤ c * wd := Nat.mul_le_mul_right _ (by omega)
  have h2 : (n + m) * wd ≤ c * wd := Nat.mul_le_mul_right _ h
  have h3 : (n + m) * wd = n * wd + m * wd := Nat.add_mul _ _ _
  simp only [List.length_append, List.length_take, List.length_drop]
  omega

/-- Plain cells behind a row where there is room. -/
theorem raw_app {T e n m n' c sz : Nat} {i : TypeInfo} {cs cs' news : List Value} (hsz : sz = i.size) (hn' : n' = n + m) (hcs' : cs' = cs.take (n * i.size) ++ news ++ cs.drop ((n + m) * i.size)) (ht : P.underlying T = some (.slice e)) (hi : P.info? e = some i) (hs : 0 < i.size) (hroom : n + m ≤ c) (hl : news.length = m * i.size) (h1 : ∀ u ∈ news, u.oneCell' = true)
    {ys : SV} {rest : Objs} (hlt : ∀ k ∈ namesOf rest, 1001 ≤ k ∧ k < 2000)
    (hy : ∀ (η : OEnv) (G : Nat → Prop) (w : World) (v : Value), (∀ k, ObjOpt η G w (lookN k ((1000, .cust none (fun _ => rowΦ e sz n c cs)) :: rest)) (η k)) → SVRel η G w ys v → Rd w v m news) :
    SpecG P (rawC 3 T) [.own 1000, ys] ((1000, .cust none (fun _ => rowΦ e sz n c cs)) :: rest) Unit (fun _ => .own 2000)
      (fun _ => killN (1000 :: namesOf rest) ++ [(2000, .cust none (fun _ => rowΦ e sz n' c cs'))]) := by
  subst hsz; subst hn'; subst hcs'
  intro η G vs w hsep hob hs'
  match vs, hs' with
  | [v0, v1], hs' =>
    simp only [SVRels] at hs'
    obtain ⟨h0, hy1, -⟩ := hs'
    obtain ⟨o, ho, hd, hin, rfl, hq⟩ := cust_at (d := none) (Φ := rowΦ e i.size n c cs) hob (k := 1000) (by simp [lookN, eqN_refl]) h0
    obtain ⟨b, hv, hB, hrow, hc, hn⟩ := (hq w fun _ _ => rfl).1
    unfold RunsX
    rw [rawSem_rawC (by omega)]
    have hr := run_room (P := P) (ty := T) ht hi hs hrow hc hroom (hy η G w v1 hob hy1) hl h1
    refine ⟨_, _, by rw [hv]; exact hr, (), ?_⟩
    have hnn : namesOf ((1000, TObj.cust none (fun _ => rowΦ e i.size n c cs)) :: rest) = 1000 :: namesOf rest := rfl
    rw [← hnn]
    have hblt : b < w.heap.size := (hsep.lt 1000 o ho b (by simp [hB])).1
    exact raw_own (objs := (1000, .cust none (fun _ => rowΦ e i.size n c cs)) :: rest) (o := ⟨.slice (some ⟨b, 0, none⟩) (n + m) c, [b], [], false⟩) (by
        intro k hk
        rcases List.mem_cons.1 hk with rfl | hk
        · omega
        · exact (hlt k hk).2) hsep hob
      ⟨rfl, rfl, rfl, by simp, fun b' hb' hno => setRow_other w b b' _ fun e => hno 1000 (by simp [namesOf]) o ho (by rw [e, hB]; simp), fun b' hb' => by
        simp at hb'; subst hb'
        exact ⟨by simpa using hblt, .inr ⟨1000, by simp [namesOf], o, ho, by simp [hB]⟩⟩, by simp⟩ rfl
      (cust_rel fun w' hw' => ⟨rowΦ_keep ⟨b, rfl, rfl, setRow_has hrow, put_rows_len hc hl hroom, hroom⟩ hw', fun x hx => by cases hx⟩)
  | [], h => exact h.elim
  | [_], h => exact h.2.elim
  | _ :: _ :: _ :: _, h => exact h.2.2.elim
end
end Go.SX

/- SX: raw memory whose blocks are known, one by one; what each raw operation does to it. -/
namespace Go.SX

/-- Blocks: a number, its elements' type, its cells. -/
abbrev Mem := List (Nat × Nat × List Value)
def memΦ (v0 : Value) (H : Mem) (w : World) (v : Value) (B : List Nat) : Prop := v = v0 ∧ B = H.map (·.1) ∧ B.Nodup ∧ ∀ p ∈ H, HasRow w p.1 p.2.1 p.2.2
/-- A value that leads to raw memory, or that memory's own value. -/
def IsV (k : Nat) (v0 : Value) (a : SV) (va : Value) : Prop := a = .rv k (fun _ => va) ∨ (a = .own k ∧ va = v0)
/-- An address in raw memory, or of its first block. -/
def IsP (H : Mem) (a : SV) (b o : Nat) : Prop := a = .rv 1000 (fun _ => .pointer (some ⟨b, o, none⟩)) ∨ (a = .loc 1000 o ∧ ∃ T cs r, H = (b, T, cs) :: r)
/-- A block gets other cells. -/
def putB (H : Mem) (b : Nat) (cs : List Value) : Mem := H.map fun p => if p.1 = b then (p.1, p.2.1, cs) else p

theorem putB_names (H : Mem) (b : Nat) (cs : List Value) : (putB H b cs).map (·.1) = H.map (·.1) := by
  unfold putB
  rw [List.map_map]
  apply List.map_congr_left
  intro p _
  simp only [Function.comp]
  split <;> rfl
theorem putB_mem {H : Mem} {b T : Nat} {cs cs' : List Value} (h : (b, T, cs) ∈ H) : (b, T, cs') ∈ putB H b cs' := by
  unfold putB
  exact List.mem_map.2 ⟨_, h, by simp⟩
theorem putB_other {H : Mem} {b : Nat} {cs' : List Value} {p : Nat × Nat × List Value} (h : p ∈ H) (hp : p.1 ≠ b) : p ∈ putB H b cs' := by
  unfold putB
  exact List.mem_map.2 ⟨_, h, by simp [hp]⟩
theorem putB_in {H : Mem} {b : Nat} {cs' : List Value} {p : Nat × Nat × List Value} (h : p ∈ putB H b cs') : (p ∈ H ∧ p.1 ≠ b) ∨ ∃ cs, (p.1, p.2.1, cs) ∈ H ∧ p.1 = b ∧ p.2.2 = cs' := by
  unfold putB at h
  obtain ⟨q, hq, rfl⟩ := List.mem_map.1 h
  split
  · rename_i e; exact .inr ⟨q.2.2, hq, e, rfl⟩
  · rename_i e; exact .inl ⟨hq, e⟩
theorem mem_eq {H : Mem} (hn : (H.map (·.1)).Nodup) {p q : Nat × Nat × List Value} (hp : p ∈ H) (hq : q ∈ H) (h : p.1 = q.1) : p = q := by
  induction H with
  | nil => cases hp
  | cons x H ih =>
    obtain ⟨n1, n2⟩ := List.nodup_cons.1 hn
    rcases List.mem_cons.1 hp with h1 | h1
    · rcases List.mem_cons.1 hq with h2 | h2
      · rw [h1, h2]
      · exact absurd (List.mem_map.2 ⟨q, h2, by rw [← h, h1]⟩ : x.1 ∈ H.map (·.1)) n1
    · rcases List.mem_cons.1 hq with h2 | h2
      · exact absurd (List.mem_map.2 ⟨p, h1, by rw [h, h2]⟩ : x.1 ∈ H.map (·.1)) n1
      · exact ih n2 h1 h2

section
variable {P : Program} {E : Env} {η : OEnv} {G : Nat → Prop} {w : World}

theorem mem_at {objs : Objs} (hob : ∀ k, ObjOpt η G w (lookN k objs) (η k)) {k : Nat} {d : Option DV} {v0 : Value} {H : Mem} (hk : lookN k objs = some (.cust d (fun _ => memΦ v0 H))) :
    ∃ o, η k = some o ∧ o.dead = false ∧ o.inner = [] ∧ o.val = v0 ∧ o.main = H.map (·.1) ∧ (H.map (·.1)).Nodup ∧ ∀ p ∈ H, HasRow w p.1 p.2.1 p.2.2 := by
  have h := hob k
  rw [hk] at h
  cases ho : η k with
  | none => rw [ho] at h; exact h.elim
  | some o =>
    rw [ho] at h
    simp only [ObjOpt, ObjRel] at h
    obtain ⟨h2, h3, h4⟩ := h
    obtain ⟨q1, q2, q3, q4⟩ := (h4 w fun _ _ => rfl).1
    exact ⟨o, rfl, h2, h3, q1, q2, q2 ▸ q3, q4⟩

theorem isV_eq {k : Nat} {v0 va v : Value} {a : SV} (h : IsV k v0 a va) {o : OInfo} (ho : η k = some o) (hd : o.dead = false) (hv0 : o.val = v0) (hv : SVRel η G w a v) : v = va := by
  rcases h with rfl | ⟨rfl, rfl⟩
  · simp only [SVRel] at hv; exact hv.1
  · simp only [SVRel] at hv
    obtain ⟨o', ho', _, h⟩ := hv
    rw [ho] at ho'; cases ho'
    rw [h hd, hv0]

theorem isP_eq {H : Mem} {b oo : Nat} {v : Value} {a : SV} (h : IsP H a b oo) {o : OInfo} (ho : η 1000 = some o) (hd : o.dead = false) (hm : o.main = H.map (·.1)) (hv : SVRel η G w a v) : v = .pointer (some ⟨b, oo, none⟩) := by
  rcases h with rfl | ⟨rfl, T, cs, r, rfl⟩
  · simp only [SVRel] at hv; exact hv.1
  · simp only [SVRel] at hv
    obtain ⟨o', ho', _, h⟩ := hv
    rw [ho] at ho'; cases ho'
    obtain ⟨b', hb', rfl⟩ := h hd
    obtain ⟨t, ht⟩ := hb'
    rw [hm] at ht
    cases ht; rfl

/-- A look: nothing changes. -/
theorem raw_look {f : Nat} {svs : List SV} {objs : Objs} {r : SV} {s : Array Value → Sem Value} (hf : rawSem f = some s)
    (h : ∀ (η : OEnv) (G : Nat → Prop) (vs : List Value) (w : World), (∀ k, ObjOpt η G w (lookN k objs) (η k)) → SVRels η G w svs vs → ∃ v, (s ⟨vs⟩).run P w = .ok v w ∧ SVRel η G w r v) : SpecG P f svs objs Unit (fun _ => r) (fun _ => objs) := by
  intro η G vs w hsep hob hs
  obtain ⟨v, hr, hv⟩ := h η G vs w hob hs
  unfold RunsX
  rw [hf]
  exact ⟨v, w, hr, (), η, G, hv, hob, hsep, Evol.refl η G w⟩

/-- One object is changed, the others are taken into it. -/
theorem raw_upd {objs : Objs} (hsep : Sep η G w) (hob : ∀ k, ObjOpt η G w (lookN k objs) (η k)) {k : Nat} {o : OInfo} (hk : η k = some o) (hd : o.dead = false) (hin : o.inner = []) {ks : List Nat} (hkk : k ∉ ks) (hkob : lookN k objs ≠ none) (hks : ∀ j ∈ ks, lookN j objs ≠ none)
    (hall : ∀ j, j ≠ k → j ∉ ks → lookN j objs = none) {w' : World} (hos : w'.os = w.os) (htp : w'.tape = w.tape) (hou : w'.output = w.output) (hsz : w.heap.size ≤ w'.heap.size)
    (hother : ∀ b, b < w.heap.size → b ∉ o.main → w'.heap[b]? = w.heap[b]?) (extra : List Nat) (hex : ∀ b ∈ extra, b < w'.heap.size ∧ (w.heap.size ≤ b ∨ ∃ j ∈ ks, ∃ oj, η j = some oj ∧ b ∈ oj.main ++ oj.inner))
    {X : TObj} (hX : ObjRel (updE (killE η ks) k ⟨o.val, o.main ++ extra, [], false⟩) G w' X ⟨o.val, o.main ++ extra, [], false⟩) {objs' : Objs} (ho' : ∀ j, lookN j objs' = if j = k then some X else if j ∈ ks then some .dead else none) :
    (∀ j, ObjOpt (updE (killE η ks) k ⟨o.val, o.main ++ extra, [], false⟩) G w' (lookN j objs') (updE (killE η ks) k ⟨o.val, o.main ++ extra, [], false⟩ j)) ∧
      Sep (updE (killE η ks) k ⟨o.val, o.main ++ extra, [], false⟩) G w' ∧ Evol η G w (updE (killE η ks) k ⟨o.val, o.main ++ extra, [], false⟩) G w' := by
  have hnone : ∀ j, j ≠ k → j ∉ ks → η j = none := fun j h1 h2 => by
    have h := hob j
    rw [hall j h1 h2] at h
    cases hj : η j with
    | none => rfl
    | some oj => rw [hj] at h; exact h.elim
  have hnew : ∀ j oj, updE (killE η ks) k ⟨o.val, o.main ++ extra, [], false⟩ j = some oj → (j = k ∧ oj = ⟨o.val, o.main ++ extra, [], false⟩) ∨ (j ≠ k ∧ oj = deadInfo) := by
    intro j oj hj
    by_cases e : j = k
    · subst e; rw [updE_same] at hj; cases hj; exact .inl ⟨rfl, rfl⟩
    · rw [updE_other _ _ e] at hj
      rcases killE_in hj with ⟨_, rfl, _⟩ | ⟨h1, h2⟩
      · exact .inr ⟨e, rfl⟩
      · rw [hnone j e h1] at h2; cases h2
  refine ⟨fun j => ?_, ⟨?_, ?_, ?_, ?_⟩, ⟨hos, htp, hou, hsz, fun b hb hn => hother b hb fun hm => hn k o hk (by simp [hm]), ?_, fun _ h => h, fun _ h => .inl h, ?_⟩⟩
  · rw [ho' j]
    by_cases e : j = k
    · subst e; rw [if_pos rfl, updE_same]; exact hX
    · rw [if_neg e, updE_other _ _ e]
      by_cases e2 : j ∈ ks
      · rw [if_pos e2]
        unfold killE
        rw [if_pos e2]
        have h := hob j
        cases h1 : lookN j objs with
        | none => exact absurd h1 (hks j e2)
        | some x =>
          rw [h1] at h
          cases h2 : η j with
          | none => rw [h2] at h; exact h.elim
          | some oj => simp only [Option.map_some, ObjOpt, ObjRel, deadInfo]; exact ⟨trivial, trivial, trivial⟩
      · rw [if_neg e2]
        unfold killE
        rw [if_neg e2, hnone j e e2]; trivial
  · intro j oj hj b hb
    rcases hnew j oj hj with ⟨rfl, rfl⟩ | ⟨_, rfl⟩
    · simp only [List.append_nil, List.mem_append] at hb
      rcases hb with hb | hb
      · have := hsep.lt j o hk b (by simp [hb])
        exact ⟨by omega, this.2⟩
      · obtain ⟨h1, h2⟩ := hex b hb
        refine ⟨h1, fun hg => ?_⟩
        rcases h2 with h2 | ⟨j', _, oj, hoj, hm⟩
        · have := hsep.glt b hg; omega
        · exact (hsep.lt j' oj hoj b hm).2 hg
    · simp [deadInfo] at hb
  · intro j oj j' oj' hj hj' hne b hb hb'
    rcases hnew j oj hj with ⟨rfl, rfl⟩ | ⟨_, rfl⟩
    · rcases hnew j' oj' hj' with ⟨rfl, rfl⟩ | ⟨_, rfl⟩
      · exact hne rfl
      · simp [deadInfo] at hb'
    · simp [deadInfo] at hb
  · intro j oj hj b hb
    rcases hnew j oj hj with ⟨rfl, rfl⟩ | ⟨_, rfl⟩
    · simp
    · simp [deadInfo]
  · intro b hb
    have := hsep.glt b hb
    omega
  · intro j oj hj
    by_cases e : j = k
    · subst e
      rw [hk] at hj; cases hj
      exact ⟨_, updE_same _ _ _, fun _ => ⟨hd, rfl, ⟨extra, rfl⟩, fun b hb => by rw [hin] at hb; cases hb⟩⟩
    · obtain ⟨o2, h2, h3⟩ := killE_some (ks := ks) hj
      refine ⟨o2, by rw [updE_other _ _ e]; exact h2, fun hdd => ?_⟩
      obtain ⟨hn, rfl⟩ := h3 hdd
      rw [hnone j e hn] at hj; cases hj
  · intro j oj hj b hb
    rcases hnew j oj hj with ⟨rfl, rfl⟩ | ⟨_, rfl⟩
    · simp only [List.append_nil, List.mem_append] at hb
      rcases hb with hb | hb
      · exact .inr ⟨j, o, hk, by simp [hb]⟩
      · rcases (hex b hb).2 with h | ⟨j', _, oj, hoj, hm⟩
        · exact .inl h
        · exact .inr ⟨j', oj, hoj, hm⟩
    · simp [deadInfo] at hb

theorem mem_rel {η' : OEnv} {G' : Nat → Prop} {w' : World} {v0 : Value} {H' : Mem} {B : List Nat} (hB : B = H'.map (·.1)) (hn : B.Nodup) (hr : ∀ p ∈ H', HasRow w' p.1 p.2.1 p.2.2) : ObjRel η' G' w' (.cust none (fun _ => memΦ v0 H')) ⟨v0, B, [], false⟩ :=
  ⟨rfl, rfl, fun w2 hw2 => ⟨⟨rfl, hB, hn, fun p hp => by
    have hb : p.1 ∈ B := by rw [hB]; exact List.mem_map.2 ⟨p, hp, rfl⟩
    unfold HasRow; rw [hw2 _ hb]; exact hr p hp⟩, fun x hx => by cases hx⟩⟩

theorem putB_rows {w : World} {H : Mem} {b T : Nat} {cs cs' : List Value} (hn : (H.map (·.1)).Nodup) (hr : ∀ p ∈ H, HasRow w p.1 p.2.1 p.2.2) (hm : (b, T, cs) ∈ H) : ∀ p ∈ putB H b cs', HasRow (w.setRow b cs'.toArray) p.1 p.2.1 p.2.2 := by
  intro p hp
  rcases putB_in hp with ⟨h1, h2⟩ | ⟨cs2, h1, h2, h3⟩
  · unfold HasRow; rw [setRow_other w b _ _ h2]; exact hr p h1
  · have e := mem_eq hn h1 hm h2
    simp only [Prod.mk.injEq] at e
    have hrow := hr _ hm
    have := setRow_has (cs' := cs') hrow
    rw [h3, h2, e.2.1]; exact this

/-- A cell is loaded. -/
theorem mem_load (hE : EOk P E) {T b o Tb : Nat} {ti : TI} {v0 u : Value} {H : Mem} {cs : List Value} {a r : SV} (ha : IsP H a b o) (hti : E.ti T = some ti) (hag : ti.td.isAgg = false) (hm : (b, Tb, cs) ∈ H) (hu : cs[o]? = some u) (hr : ∀ (η : OEnv) (G : Nat → Prop) (w : World), SVRel η G w r u) :
    SpecG P (rawC 0 T) [a] [(1000, .cust none (fun _ => memΦ v0 H))] Unit (fun _ => r) (fun _ => [(1000, .cust none (fun _ => memΦ v0 H))]) := by
  refine raw_look (rawSem_rawC (by omega)) fun η G vs w hob hs => ?_
  match vs, hs with
  | [v1], hs =>
    simp only [SVRels] at hs
    obtain ⟨oi, ho, hd, _, _, hmain, _, hrows⟩ := mem_at hob (k := 1000) rfl
    obtain rfl := isP_eq ha ho hd hmain hs.1
    have hrow := hrows _ hm
    refine ⟨u, ?_, hr η G w⟩
    exact run_loadVar_one (hE T ti hti) hag b o u (by rw [cell_cells hrow]; simpa using hu)
  | [], h => exact h.elim
  | _ :: _ :: _, h => exact h.2.elim

/-- An element's address. -/
theorem mem_idx (hE : EOk P E) {T e b o n c i : Nat} {te : TI} {v0 : Value} {H : Mem} {a : SV} {z : Int} (ht : P.underlying T = some (.slice e)) (he : E.ti e = some te) (ha : IsV 1000 v0 a (.slice (some ⟨b, o, none⟩) n c)) (hz : z = (i : Int)) (hi : i < n) :
    SpecG P (rawC 2 T) [a, .int .i64 (.s fun _ => z)] [(1000, .cust none (fun _ => memΦ v0 H))] Unit (fun _ => .rv 1000 fun _ => .pointer (some ⟨b, o + i * te.size, none⟩)) (fun _ => [(1000, .cust none (fun _ => memΦ v0 H))]) := by
  subst hz
  refine raw_look (rawSem_rawC (by omega)) fun η G vs w hob hs => ?_
  match vs, hs with
  | [v1, v2], hs =>
    simp only [SVRels] at hs
    obtain ⟨h1, h2, -⟩ := hs
    simp only [SVRel, IE.den_s] at h2
    subst h2
    obtain ⟨oi, ho, hd, _, hv0, _, _, hrows⟩ := mem_at hob (k := 1000) rfl
    obtain rfl := isV_eq ha ho hd hv0 h1
    refine ⟨_, run_indexAt hE ht he b o n c .i64 (i : Int) (by omega) (by omega), ?_⟩
    simp [SVRel, Value.oneCell']
  | [], h => exact h.elim
  | [_], h => exact h.2.elim
  | _ :: _ :: _ :: _, h => exact h.2.2.elim

/-- A length. -/
theorem mem_len {T e n c : Nat} {p : Option Addr} {v0 : Value} {H : Mem} {a : SV} (ht : P.underlying T = some (.slice e)) (ha : IsV 1000 v0 a (.slice p n c)) :
    SpecG P (rawC 4 T) [a] [(1000, .cust none (fun _ => memΦ v0 H))] Unit (fun _ => .int .i64 (.s fun _ => (n : Int))) (fun _ => [(1000, .cust none (fun _ => memΦ v0 H))]) := by
  refine raw_look (rawSem_rawC (by omega)) fun η G vs w hob hs => ?_
  match vs, hs with
  | [v1], hs =>
    simp only [SVRels] at hs
    obtain ⟨oi, ho, hd, _, hv0, _, _, hrows⟩ := mem_at hob (k := 1000) rfl
    obtain rfl := isV_eq ha ho hd hv0 hs.1
    refine ⟨.int .i64 (n : Int), ?_, by simp [SVRel]⟩
    simp [Builtin.len_, run_underlying ht, Builtin.lenOf, goInt]
  | [], h => exact h.elim
  | _ :: _ :: _, h => exact h.2.elim

theorem mem_cap {T e n c : Nat} {p : Option Addr} {v0 : Value} {H : Mem} {a : SV} (ht : P.underlying T = some (.slice e)) (ha : IsV 1000 v0 a (.slice p n c)) :
    SpecG P (rawC 5 T) [a] [(1000, .cust none (fun _ => memΦ v0 H))] Unit (fun _ => .int .i64 (.s fun _ => (c : Int))) (fun _ => [(1000, .cust none (fun _ => memΦ v0 H))]) := by
  refine raw_look (rawSem_rawC (by omega)) fun η G vs w hob hs => ?_
  match vs, hs with
  | [v1], hs =>
    simp only [SVRels] at hs
    obtain ⟨oi, ho, hd, _, hv0, _, _, hrows⟩ := mem_at hob (k := 1000) rfl
    obtain rfl := isV_eq ha ho hd hv0 hs.1
    refine ⟨.int .i64 (c : Int), ?_, by simp [SVRel]⟩
    simp [Builtin.cap_, run_underlying ht, goInt]
  | [], h => exact h.elim
  | _ :: _ :: _, h => exact h.2.elim

/-- A field's address. -/
theorem mem_field (hE : EOk P E) {S f b o off : Nat} {fs : List (Nat × Nat)} {ti : TI} {v0 : Value} {H : Mem} {a : SV} (hti : E.ti S = some ti) (htd : ti.td = .struct fs) (hf : f < fs.length) (h32 : f < 32) (hoff : (nthD fs f (0, 0)).2 = off) (ha : IsV 1000 v0 a (.pointer (some ⟨b, o, none⟩))) :
    SpecG P (rawC 8 (S * 32 + f)) [a] [(1000, .cust none (fun _ => memΦ v0 H))] Unit (fun _ => .rv 1000 fun _ => .pointer (some ⟨b, o + off, none⟩)) (fun _ => [(1000, .cust none (fun _ => memΦ v0 H))]) := by
  refine raw_look (rawSem_rawC (by omega)) fun η G vs w hob hs => ?_
  match vs, hs with
  | [v1], hs =>
    simp only [SVRels] at hs
    obtain ⟨oi, ho, hd, _, hv0, _, _, hrows⟩ := mem_at hob (k := 1000) rfl
    obtain rfl := isV_eq ha ho hd hv0 hs.1
    obtain ⟨d, hd, ht⟩ := (hE S ti hti).desc
    rw [htd] at ht
    obtain ⟨fields, rfl, hfo⟩ := ht
    obtain ⟨fd, j, h1, h2, h3, h4, h5, h6⟩ := fieldsOk_at f hfo hf
    refine ⟨.pointer (some ⟨b, o + off, none⟩), ?_, by simp [SVRel, Value.oneCell']⟩
    have e1 : (S * 32 + f) / 32 = S := by omega
    have e2 : (S * 32 + f) % 32 = f := by omega
    simp only [e1, e2]
    simp [Instr.fieldAt, run_underlying hd, h1, Instr.sureAddr, fieldPlace, sizeOf, typeInfo, h4, h6, add_none, h3, hoff]
  | [], h => exact h.elim
  | _ :: _ :: _, h => exact h.2.elim

/-- The first part of a slice. -/
theorem mem_cut {T e b n c m : Nat} {v0 : Value} {H : Mem} {a : SV} {zm : Int} {i : TypeInfo} (ht : P.underlying T = some (.slice e)) (hi : P.info? e = some i) (ha : IsV 1000 v0 a (.slice (some ⟨b, 0, none⟩) n c)) (hz : zm = (m : Int)) (hm : m ≤ c) :
    SpecG P (rawC 6 T) [a, .int .i64 (.s fun _ => zm)] [(1000, .cust none (fun _ => memΦ v0 H))] Unit (fun _ => .rv 1000 fun _ => .slice (some ⟨b, 0, none⟩) m c) (fun _ => [(1000, .cust none (fun _ => memΦ v0 H))]) := by
  subst hz
  refine raw_look (rawSem_rawC (by omega)) fun η G vs w hob hs => ?_
  match vs, hs with
  | [v1, v2], hs =>
    simp only [SVRels] at hs
    obtain ⟨h1, h2, -⟩ := hs
    simp only [SVRel, IE.den_s] at h2
    subst h2
    obtain ⟨oi, ho, hd, _, hv0, _, _, hrows⟩ := mem_at hob (k := 1000) rfl
    obtain rfl := isV_eq ha ho hd hv0 h1
    have hbd := run_bounds_hi (P := P) (w := w) (n := n) (k := .i64) hm
    refine ⟨.slice (some ⟨b, 0, none⟩) m c, ?_, by simp [SVRel, Value.oneCell']⟩
    simp [Instr.sliceAt, Instr.slice, run_underlying ht, hbd, sizeOf, typeInfo, hi]
    intro _; rw [add_none]
  | [], h => exact h.elim
  | [_], h => exact h.2.elim
  | _ :: _ :: _ :: _, h => exact h.2.2.elim

/-- Cells are written. -/
theorem mem_store (hE : EOk P E) {T b o Tb : Nat} {ti : TI} {v0 : Value} {H : Mem} {cs us : List Value} {a x : SV} (ha : IsP H a b o) (hti : E.ti T = some ti) (hm : (b, Tb, cs) ∈ H) (hfit : o + us.length ≤ cs.length) (hsz : us.length = ti.size) (hone : ∀ u ∈ us, u.oneCell' = true)
    (hx : ∀ (η : OEnv) (G : Nat → Prop) (w : World) (v : Value), SVRel η G w x v → v.cells.toList = us) :
    SpecG P (rawC 1 T) [a, x] [(1000, .cust none (fun _ => memΦ v0 H))] Unit (fun _ => .any)
      (fun _ => [(1000, .cust none (fun _ => memΦ v0 (putB H b (cs.take o ++ us ++ cs.drop (o + us.length)))))]) := by
  intro η G vs w hsep hob hs
  match vs, hs with
  | [v1, v2], hs =>
    simp only [SVRels] at hs
    obtain ⟨h1, h2, -⟩ := hs
    obtain ⟨oi, ho, hd, hin, hv0, hmain, hnd, hrows⟩ := mem_at hob (k := 1000) rfl
    obtain rfl := isP_eq ha ho hd hmain h1
    have hrow : w.heap[b]? = some (.cells ⟨cs⟩ Tb (0, 0)) := hrows _ hm
    have hcl := hx η G w v2 h2
    have hst := run_storeCells_at P b o Tb us 0 ⟨cs⟩ w hrow (by simpa using hfit) hone
    simp only [Nat.add_zero] at hst
    have hvs : v2.cells.size = ti.size := by rw [← hsz, ← hcl]; simp
    have hbm : b ∈ oi.main := by rw [hmain]; exact List.mem_map.2 ⟨_, hm, rfl⟩
    unfold RunsX
    rw [rawSem_rawC (by omega)]
    refine ⟨undef, w.setRow b (cs.take o ++ us ++ cs.drop (o + us.length)).toArray, ?_, (), ?_⟩
    · simp [Instr.storeAt, Instr.sureAddr, storeVar, sizeOf_run (hE T ti hti), hvs, hcl]
      simp only [List.append_assoc] at hst
      rw [hst]; rfl
    · have := raw_upd (w' := w.setRow b (cs.take o ++ us ++ cs.drop (o + us.length)).toArray) (objs' := [(1000, .cust none (fun _ => memΦ v0 (putB H b (cs.take o ++ us ++ cs.drop (o + us.length)))))]) (X := .cust none (fun _ => memΦ v0 (putB H b (cs.take o ++ us ++ cs.drop (o + us.length)))))
        hsep hob (k := 1000) ho hd hin (ks := []) (by simp) (by simp [lookN, eqN_refl]) (by simp) (fun j hj _ => by
          have : eqN 1000 j = false := decide_eq_false fun e => hj e.symm
          simp [lookN, this]) rfl rfl rfl (by simp) (fun b' _ hb' => setRow_other w b b' _ fun e => hb' (e ▸ hbm)) [] (by simp) (by
            rw [hv0]
            exact mem_rel (by rw [putB_names, hmain]; simp) (by rw [hmain]; simpa using hnd) (putB_rows hnd hrows hm)) (fun j => by
          by_cases e : j = 1000
          · subst e; simp [lookN, eqN_refl]
          · have : eqN 1000 j = false := decide_eq_false fun e' => e e'.symm
            simp [lookN, this, e])
      exact ⟨_, G, by simp [SVRel], this⟩
  | [], h => exact h.elim
  | [_], h => exact h.2.elim
  | _ :: _ :: _ :: _, h => exact h.2.2.elim

/-- A slice in raw memory: so many elements, room for so many, the elements' cells. -/
def SlM (H : Mem) (e s : Nat) (va : Value) (n c : Nat) (xs : List Value) : Prop :=
  (va = .slice none 0 0 ∧ n = 0 ∧ c = 0 ∧ xs = []) ∨ ∃ b cs, va = .slice (some ⟨b, 0, none⟩) n c ∧ (b, e, cs) ∈ H ∧ cs.length = c * s ∧ n ≤ c ∧ cs.take (n * s) = xs
/-- What 'append' leaves. -/
def App (H : Mem) (e s : Nat) (va : Value) (n c m : Nat) (xs news : List Value) (va' : Value) (H' : Mem) : Prop :=
  (H'.map (·.1)).Nodup ∧ ((n + m ≤ c ∧ ∃ b cs, va = .slice (some ⟨b, 0, none⟩) n c ∧ (b, e, cs) ∈ H ∧ va' = .slice (some ⟨b, 0, none⟩) (n + m) c ∧ H' = putB H b (cs.take (n * s) ++ news ++ cs.drop ((n + m) * s))) ∨
    (c < n + m ∧ ∃ g c' cs', g ∉ H.map (·.1) ∧ va' = .slice (some ⟨g, 0, none⟩) (n + m) c' ∧ H' = H ++ [(g, e, cs')] ∧ n + m ≤ c' ∧ c' ≤ maxLen ∧ cs'.length = c' * s ∧ cs'.take ((n + m) * s) = xs ++ news))

theorem run_append_more {T ty e n c m : Nat} {i : TypeInfo} {z : Value} (ht : P.underlying T = some (.slice e)) (hi : P.info? e = some i) (hz : i.zero = some z) (hzs : z.cells.size = i.size) (hbp : 0 < i.bytes) {v vy : Value} {xs news : List Value}
    (old : (v = .slice none 0 0 ∧ n = 0 ∧ c = 0 ∧ xs = []) ∨ ∃ b cs, v = .slice (some ⟨b, 0, none⟩) n c ∧ HasRow w b e cs ∧ cs.length = c * i.size ∧ n ≤ c ∧ cs.take (n * i.size) = xs) (hm : 0 < m) (rd : Rd w vy m news) (hl : news.length = m * i.size)
    (hbytes : (n + m) * i.bytes ≤ 140737488355328) (hg : c < n + m) :
    ∃ c' cs', (Builtin.append_ #[T, T] ty #[v, vy]).run P w = .ok (.slice (some ⟨w.heap.size, 0, none⟩) (n + m) c') (w.drew.alloc (.cells ⟨cs'⟩ e)) ∧ n + m ≤ c' ∧ c' ≤ maxLen ∧ cs'.length = c' * i.size ∧ cs'.take ((n + m) * i.size) = xs ++ news := by
  have h63 : n + m ≤ maxLen := by
    have : (n + m) * 1 ≤ (n + m) * i.bytes := Nat.mul_le_mul_left _ hbp
    simp only [maxLen]; omega
  obtain ⟨p, c2, rfl, hp⟩ := rd
  obtain ⟨a, rfl, hnews⟩ := hp (by omega)
  have hxl : xs.length = n * i.size := by
    rcases old with ⟨_, rfl, _, rfl⟩ | ⟨b, cs, _, _, h2, h3, rfl⟩
    · simp
    · have := Nat.mul_le_mul_right i.size h3
      rw [List.length_take]; omega
  have hlen : (xs ++ news).length = (n + m) * i.size := by rw [List.length_append, hxl, hl, Nat.add_mul]
  have grown : ∀ (old : Nat), old < n + m → n + m ≤ grownCap w (n + m) old e ∧ grownCap w (n + m) old e ≤ maxLen ∧
      (xs.toArray ++ news.toArray ++ Builtin.zeroCells z.cells (grownCap w (n + m) old e - (n + m))).toList.length = grownCap w (n + m) old e * i.size ∧
      (xs.toArray ++ news.toArray ++ Builtin.zeroCells z.cells (grownCap w (n + m) old e - (n + m))).toList.take ((n + m) * i.size) = xs ++ news := by
    intro old ho
    have hge := grownCap_ge w (n + m) old e
    refine ⟨hge, grownCap_le_maxLen w (n + m) old e h63, ?_, ?_⟩
    · rw [Array.length_toList]
      simp only [Array.size_append, List.size_toArray, size_zeroCells, hzs, hxl, hl, ← Nat.add_mul]
      congr 1
      omega
    · simp only [Array.toList_append, List.append_assoc]
      rw [← List.append_assoc, ← hlen]
      exact List.take_left
  rcases old with ⟨rfl, rfl, rfl, rfl⟩ | ⟨b, cs, rfl, hrow, hcl, hnc, htake⟩
  · have hr := run_append_nil (P := P) w T ty e i z ht hi hz a m c2 news hl hnews (by omega) (by simp only [maxLen] at h63; omega) (by have hb := hbytes; simp only [Nat.zero_add] at hb; omega)
    have hgr := grown 0 (by omega)
    simp only [Nat.zero_add, List.nil_append, Array.empty_append] at hgr ⊢
    exact ⟨_, _, hr, hgr⟩
  · have hrow' : w.heap[b]? = some (.cells ⟨cs⟩ e (0, 0)) := hrow
    have holds : ∀ j u, xs[j]? = some u → w.cell? ((⟨b, 0, none⟩ : Addr).add j) = some u := by
      intro j u hu
      rw [add_none, cell_cells hrow', Nat.zero_add]
      rw [← htake, List.getElem?_take] at hu
      split at hu
      · simpa using hu
      · cases hu
    have hr := run_append_grow (P := P) w T ty e i z ht hi hz ⟨b, 0, none⟩ n c xs hxl holds a m c2 news hl hnews (by omega) (by simp only [maxLen] at h63; omega) (growslice_fits (by omega) hbytes)
    exact ⟨_, _, hr, grown c (by omega)⟩

/-- One element behind a slice: in its room, or all anew. -/
theorem mem_app {T e n c s : Nat} {i : TypeInfo} {z v0 va : Value} {H : Mem} {xs news : List Value} {cells : List SV} (ht : P.underlying T = some (.slice e)) (hi : P.info? e = some i) (hz : i.zero = some z) (hzs : z.cells.size = i.size) (hs : i.size = s) (hs0 : 0 < s) (hbp : 0 < i.bytes)
    (old : SlM H e s va n c xs) (hl : news.length = s) (hone : ∀ u ∈ news, u.oneCell' = true) (hnews : ∀ (η : OEnv) (G : Nat → Prop) (w : World) (us : List Value), SVRels η G w cells us → us = news) (hbytes : (n + 1) * i.bytes ≤ 140737488355328) :
    SpecG P (rawC 3 T) [.rv 1000 (fun _ => va), .csl 1001 s 1] [(1000, .cust none (fun _ => memΦ v0 H)), (1001, .cells e cells)] {x : Value × Mem // App H e s va n c 1 xs news x.1 x.2} (fun x => .rv 1000 fun _ => x.1.1)
      (fun x => [(1000, .cust none (fun _ => memΦ v0 x.1.2)), (1001, .dead)]) := by
  subst hs
  intro η G vs w hsep hob hs
  match vs, hs with
  | [v1, v2], hs =>
    simp only [SVRels] at hs
    obtain ⟨h1, h2, -⟩ := hs
    simp only [SVRel] at h1
    obtain ⟨h1, _⟩ := h1
    have h1 : v1 = va := h1
    subst v1
    obtain ⟨oi, ho, hd, hin, hv0, hmain, hnd, hrows⟩ := mem_at hob (k := 1000) rfl
    have hc := hob 1001
    simp only [SVRel] at h2
    obtain ⟨o2, ho2, _, h2⟩ := h2
    rw [ho2] at hc
    have hc : ObjRel η G w (.cells e cells) o2 := hc
    obtain ⟨c1, c3, b2, us, hm2, hh2, hus⟩ := hc
    obtain ⟨b', hb', rfl⟩ := h2 c1
    obtain rfl := OInfo.at_one hm2 hb'
    obtain rfl := hnews η G w us hus
    have hrd : Rd w (.slice (some ⟨b2, 0, none⟩) 1 1) 1 us := ⟨_, _, rfl, fun _ => ⟨_, rfl, fun j u hj => by
      rw [add_none, cell_cells hh2, Nat.zero_add]; simpa using hj⟩⟩
    have hlt : ∀ b ∈ oi.main, b < w.heap.size := fun b hb => (hsep.lt 1000 oi ho b (by simp [hb])).1
    have hdead : ∀ (M : Mem) (j : Nat), lookN j [(1000, TObj.cust none (fun _ => memΦ v0 M)), (1001, .dead)] = if j = 1000 then some (.cust none (fun _ => memΦ v0 M)) else if j ∈ [1001] then some .dead else none := by
      intro M j
      by_cases e1 : j = 1000
      · subst e1; simp [lookN, eqN_refl]
      · have q1 : eqN 1000 j = false := decide_eq_false fun e => e1 e.symm
        by_cases e2 : j = 1001
        · subst e2; simp [lookN, q1, eqN_refl]
        · have q2 : eqN 1001 j = false := decide_eq_false fun e => e2 e.symm
          simp [lookN, q1, q2, e1, e2]
    have hall : ∀ j, j ≠ 1000 → j ∉ [1001] → lookN j [(1000, TObj.cust none (fun _ => memΦ v0 H)), (1001, .cells e cells)] = none := by
      intro j e1 e2
      have q1 : eqN 1000 j = false := decide_eq_false fun e => e1 e.symm
      have q2 : eqN 1001 j = false := decide_eq_false fun e => e2 (by simp [e])
      simp [lookN, q1, q2]
    have hk1 : ∀ j ∈ [1001], lookN j [(1000, TObj.cust none (fun _ => memΦ v0 H)), (1001, .cells e cells)] ≠ none := by
      intro j hj
      simp at hj; subst hj
      have q1 : eqN 1000 1001 = false := by decide
      simp [lookN, q1, eqN_refl]
    unfold RunsX
    rw [rawSem_rawC (by omega)]
    have old' : (va = .slice none 0 0 ∧ n = 0 ∧ c = 0 ∧ xs = []) ∨ ∃ b cs, va = .slice (some ⟨b, 0, none⟩) n c ∧ HasRow w b e cs ∧ cs.length = c * i.size ∧ n ≤ c ∧ cs.take (n * i.size) = xs := by
      rcases old with h | ⟨b, cs, q1, q2, q3⟩
      · exact .inl h
      · exact .inr ⟨b, cs, q1, hrows _ q2, q3⟩
    by_cases hroom : n + 1 ≤ c
    · rcases old with ⟨_, rfl, rfl, _⟩ | ⟨b, cs, rfl, hm, hcl, hnc, htake⟩
      · omega
      · have hr := run_room (P := P) (ty := T) ht hi (by omega) (hrows _ hm) hcl hroom hrd (by omega) hone
        have hbm : b ∈ oi.main := by rw [hmain]; exact List.mem_map.2 ⟨_, hm, rfl⟩
        have hu := raw_upd (w' := w.setRow b (cs.take (n * i.size) ++ us ++ cs.drop ((n + 1) * i.size)).toArray) (X := .cust none (fun _ => memΦ v0 (putB H b (cs.take (n * i.size) ++ us ++ cs.drop ((n + 1) * i.size)))))
          (objs' := [(1000, .cust none (fun _ => memΦ v0 (putB H b (cs.take (n * i.size) ++ us ++ cs.drop ((n + 1) * i.size))))), (1001, .dead)])
          hsep hob (k := 1000) ho hd hin (ks := [1001]) (by simp) (by simp [lookN, eqN_refl]) hk1 hall rfl rfl rfl (by simp) (fun b' _ hb' => setRow_other w b b' _ fun e => hb' (e ▸ hbm)) [] (by simp) (by
            rw [hv0]
            exact mem_rel (by rw [putB_names, hmain]; simp) (by rw [hmain]; simpa using hnd) (putB_rows hnd hrows hm)) (hdead _)
        have hx : App H e i.size (.slice (some ⟨b, 0, none⟩) n c) n c 1 xs us (.slice (some ⟨b, 0, none⟩) (n + 1) c) (putB H b (cs.take (n * i.size) ++ us ++ cs.drop ((n + 1) * i.size))) :=
          ⟨by rw [putB_names]; exact hnd, .inl ⟨hroom, b, cs, rfl, hm, rfl, rfl⟩⟩
        exact ⟨_, _, hr, ⟨(_, _), hx⟩, _, G, by simp [SVRel, Value.oneCell'], hu⟩
    · obtain ⟨c', cs', hr, g1, g2, g3, g4⟩ := run_append_more (P := P) (ty := T) ht hi hz hzs hbp old' (by omega) hrd (by omega) hbytes (by omega)
      have hng : w.heap.size ∉ H.map (·.1) := fun h => by have := hlt _ (hmain ▸ h); omega
      have hnd' : ((H ++ [(w.heap.size, e, cs')]).map (·.1)).Nodup := by
        rw [List.map_append]
        exact List.nodup_append.2 ⟨hnd, by simp, fun x hx y hy exy => by simp at hy; subst exy; subst hy; exact hng hx⟩
      have hu := raw_upd (w' := w.drew.alloc (.cells ⟨cs'⟩ e)) (X := .cust none (fun _ => memΦ v0 (H ++ [(w.heap.size, e, cs')])))
        (objs' := [(1000, .cust none (fun _ => memΦ v0 (H ++ [(w.heap.size, e, cs')]))), (1001, .dead)])
        hsep hob (k := 1000) ho hd hin (ks := [1001]) (by simp) (by simp [lookN, eqN_refl]) hk1 hall rfl rfl rfl (by simp) (fun b' hb' _ => heap_alloc_old w.drew _ hb') [w.heap.size] (fun b hb => by simp at hb; subst hb; exact ⟨by simp, .inl (Nat.le_refl _)⟩) (by
          rw [hv0]
          refine mem_rel (by rw [List.map_append, hmain]; rfl) (by rw [hmain]; simpa [List.map_append] using hnd') fun p hp => ?_
          rcases List.mem_append.1 hp with hp | hp
          · unfold HasRow
            rw [heap_alloc_old w.drew _ (hlt _ (by rw [hmain]; exact List.mem_map.2 ⟨p, hp, rfl⟩))]
            exact hrows p hp
          · simp at hp; subst hp
            exact heap_alloc_new w.drew _) (hdead _)
      have hx : App H e i.size va n c 1 xs us (.slice (some ⟨w.heap.size, 0, none⟩) (n + 1) c') (H ++ [(w.heap.size, e, cs')]) :=
        ⟨hnd', .inr ⟨by omega, w.heap.size, c', cs', hng, rfl, rfl, g1, g2, g3, g4⟩⟩
      exact ⟨_, _, hr, ⟨(_, _), hx⟩, _, G, by simp [SVRel, Value.oneCell'], hu⟩
  | [], h => exact h.elim
  | [_], h => exact h.2.elim
  | _ :: _ :: _ :: _, h => exact h.2.2.elim
end
end Go.SX

/- NodeReads: the reader where it gives up. -/
namespace Go.Proofs.Ytmdfjipjkkjpcaa
open Go.SX

/-- The same, but that the reader's calls may panic. -/
def E4 : Env := ⟨tiN, rwN, ConG, fun _ => false, fun f => eqN f 92 || eqN f 93⟩
theorem fieldsOk4 : ∀ (fs : List (Nat × Nat)) (l : List Field), fieldsOk Try.prog E fs l → fieldsOk Try.prog E4 fs l
  | [], [], _ => trivial
  | [], _ :: _, h => h.elim
  | _ :: _, [], h => h.elim
  | (_, _) :: fs, _ :: r, ⟨h1, h2, h3, h4⟩ => ⟨h1, h2, h3, fieldsOk4 fs r h4⟩
theorem tdOk4 {td : TD} {d : TypeDesc} (h : TDOk Try.prog E td d) : TDOk Try.prog E4 td d := by
  cases td with
  | struct fs =>
    obtain ⟨fields, h1, h2⟩ := h
    exact ⟨fields, h1, fieldsOk4 _ _ h2⟩
  | _ => exact h
theorem eok4 : EOk Try.prog E4 := fun T ti h => by
  obtain ⟨h1, ⟨d, h2, h3⟩, h4⟩ := eok T ti h
  exact ⟨h1, ⟨d, h2, tdOk4 h3⟩, h4⟩
theorem raw4 : ∀ f svs objs X r objs', E4.raw f svs objs X r objs' → SpecG Try.prog f svs objs X r objs' := fun _ _ _ _ _ _ h => ConG.spec h

theorem con_pan {f : Nat} {fn : Func} {body : Code} (hf : Try.prog.funcs[f]? = some fn) (hb : fn.body = some body) (hname : (fn.name == "runtime.NumGoroutine") = false) {svs : List SV} {objs : Objs} {objs' : Objs} (n : Nat)
    (hn : fn.ntmps = n) (hl : leN svs.length n = true) (ho : borNames objs = true) (h : FnPan Con E4 body n svs objs objs') : Con (rawC 12 f) svs objs (.tup []) objs' := by
  subst hn
  exact ⟨pan_of_vc eok4 raw4 mixed (fun _ _ _ _ _ h => h.spec) hf hb ⟨fn, body, hf, hb, hname⟩ hl ho h⟩

theorem r9 : ConG (rawC 9 168) [.val mineV] [] Unit (fun _ => .tup [.agg [], .bool .t]) (fun _ => []) := ⟨raw_look (rawSem_rawC (by omega)) fun η G vs w hob hs => by
  match vs, hs with
  | [v], hs =>
    obtain rfl : v = mineV := hs.1
    exact ⟨.tuple #[.agg #[], .bool true], by kernel_rfl, ⟨[.agg #[], .bool true], rfl, ⟨[], rfl, trivial⟩, rfl, trivial⟩⟩
  | [], h => exact h.elim
  | _ :: _ :: _, h => exact h.2.elim⟩
theorem r10 : ConG (rawC 10 168) [.agg []] [] Unit (fun _ => .val mineV) (fun _ => []) := ⟨raw_look (rawSem_rawC (by omega)) fun η G vs w hob hs => by
  match vs, hs with
  | [v], hs =>
    obtain ⟨us, rfl, hu⟩ := hs.1
    match us, hu with
    | [], _ => exact ⟨mineV, by kernel_rfl, rfl⟩
    | _ :: _, h => exact h.elim
  | [], h => exact h.elim
  | _ :: _ :: _, h => exact h.2.elim⟩
theorem r11 : ConG (rawC 11 20) [.val mineV, .val .nilIface] [] Unit (fun _ => .bool .t) (fun _ => []) := ⟨raw_look (rawSem_rawC (by omega)) fun η G vs w hob hs => by
  match vs, hs with
  | [v, u], hs =>
    obtain rfl : v = mineV := hs.1
    obtain rfl : u = .nilIface := hs.2.1
    exact ⟨.bool true, by kernel_rfl, rfl⟩
  | [], h => exact h.elim
  | [_], h => exact h.2.elim
  | _ :: _ :: _ :: _, h => exact h.2.2.elim⟩

set_option maxRecDepth 20000 in
set_option maxHeartbeats 4000000 in
theorem pan93 {b : List UInt8} {n : Int} (hn : (b.length : Int) < n) :
    Con (rawC 12 93) [.loc 1000 0, .int .i64 (.s fun _ => n)] [(1000, .cells 172 [.dat (.bytes fun _ => b)])] (.tup []) [(1000, .cells 172 [.dat (.bytes fun _ => b)])] := by
  refine con_pan Try.func93 rfl rfl 32 rfl rfl rfl ?_
  have hng : ¬ ¬ (b.length : Int) < n := fun h => h hn
  cbv
  refine ⟨fun _ => ?_, fun h1 => ?_⟩
  · cbv
    refine ⟨Unit, _, _, r10, ⟨by kernel_rfl⟩, fun _ => ⟨⟨by kernel_rfl⟩, ?_⟩⟩
    cbv
    refine ⟨⟨rfl⟩, ⟨rfl⟩, [(1000, some 1000)], [], ?_⟩
    cbv
    and_intros
    all_goals first | exact trivial | exact ⟨rfl⟩ | exact ⟨by kernel_rfl⟩
  · have h1 : ¬ (b.length : Int) < n := of_decide_eq_false h1
    exact (hng h1).elim

theorem pan93z {b : List UInt8} {n : Int} {z : Int} (hz : z = n) (hn : (b.length : Int) < n) :
    Con (rawC 12 93) [.loc 1000 0, .int .i64 (.s fun _ => z)] [(1000, .cells 172 [.dat (.bytes fun _ => b)])] (.tup []) [(1000, .cells 172 [.dat (.bytes fun _ => b)])] := by
  subst hz; exact pan93 hn

set_option maxRecDepth 20000 in
set_option maxHeartbeats 4000000 in
theorem pan92s {b : List UInt8} {n : Int} (hn : (b.length : Int) < n) :
    Con (rawC 12 92) [.loc 1000 0, .int .i64 (.s fun _ => n)] [(1000, .cells 172 [.dat (.bytes fun _ => b)])] (.tup []) [(1000, .cells 172 [.dat (.bytes fun _ => b)])] := by
  refine con_pan Try.func92 rfl rfl 26 rfl rfl rfl ?_
  cbv
  refine .inr ⟨_, _, pan93 hn, ⟨by kernel_rfl⟩, ?_⟩
  cbv
  refine ⟨⟨rfl⟩, [(1000, some 1000)], [], ?_⟩
  cbv
  and_intros
  all_goals first | exact trivial | exact ⟨rfl⟩ | exact ⟨by kernel_rfl⟩
theorem pan92 {b : List UInt8} {m : Nat} (hn : ¬ m ≤ b.length) :
    Con (rawC 12 92) [.loc 1000 0, .int .i64 (.l (m : Int))] [(1000, .cells 172 [.dat (.bytes fun _ => b)])] (.tup []) [(1000, .cells 172 [.dat (.bytes fun _ => b)])] :=
  Con.lit (a := [.loc 1000 0]) (pan92s (by omega))

set_option maxRecDepth 20000 in
set_option maxHeartbeats 4000000 in
theorem rec91n {leaf : Bool} :
    Con (rawC 13 91) [.loc 1000 0, .loc 1001 0] [(1000, .cells 24 [.bool (.s fun _ => leaf), .nil]), (1001, .cells 4 [.bool .f])] (.tup []) [(1000, .cells 24 [.bool .f, .nil]), (1001, .cells 4 [.bool .f])] := by
  refine ⟨rec_of_vc (S := Con) (E := E4) eok4 raw4 mixed (fun _ _ _ _ _ h => h.spec) (fn := Try.f91) Try.func91 rfl ⟨_, _, Try.func91, rfl, rfl⟩ rfl rfl rfl rfl rfl rfl (by decide) rfl rfl ?_⟩
  cbv
  refine ⟨Unit, _, _, r11, ⟨by kernel_rfl⟩, fun _ => ⟨⟨by kernel_rfl⟩, ?_⟩⟩
  cbv
  refine ⟨Unit, _, _, r9, ⟨by kernel_rfl⟩, fun _ => ⟨⟨by kernel_rfl⟩, ?_⟩⟩
  cbv
  refine ⟨[(1000, some 1000), (1001, some 1001)], [], ?_⟩
  cbv
  and_intros
  all_goals first | exact trivial | exact ⟨rfl⟩ | exact ⟨by kernel_rfl⟩

set_option maxRecDepth 20000 in
set_option maxHeartbeats 4000000 in
theorem rec91 {leaf : Bool} {acc : List Ent} :
    Con (rawC 13 91) [.loc 1000 0, .loc 1001 0] [(1000, .cells 24 [.bool (.s fun _ => leaf), .own 1002]), (1001, .cells 4 [.bool .f]), (1002, .arrD 74 4 (fun _ => acc.length) (lrow encE fun _ => acc))] (.tup [])
      [(1000, .cells 24 [.bool .f, .nil]), (1001, .cells 4 [.bool .f]), (1002, .arrD 74 4 (fun _ => acc.length) (lrow encE fun _ => acc))] := by
  refine ⟨rec_of_vc (S := Con) (E := E4) eok4 raw4 mixed (fun _ _ _ _ _ h => h.spec) (fn := Try.f91) Try.func91 rfl ⟨_, _, Try.func91, rfl, rfl⟩ rfl rfl rfl rfl rfl rfl (by decide) rfl rfl ?_⟩
  have e1 := row_le (rfl : acc = acc)
  cbv
  refine ⟨Unit, _, _, r11, ⟨by kernel_rfl⟩, fun _ => ⟨⟨by kernel_rfl⟩, ?_⟩⟩
  cbv
  refine ⟨Unit, _, _, r9, ⟨by kernel_rfl⟩, fun _ => ⟨⟨by kernel_rfl⟩, ?_⟩⟩
  cbv
  refine ⟨[(1000, some 1000), (1001, some 1001), (1002, some 1002)], [], ?_⟩
  cbv
  and_intros
  all_goals first | exact trivial | exact ⟨rfl⟩ | exact ⟨e1⟩ | exact ⟨by kernel_rfl⟩
end Go.Proofs.Ytmdfjipjkkjpcaa

/- NodeReads: read, where the bytes are no node: it recovers. -/
namespace Go.SX
/-- What a function leaves may be forgotten, where its result names none of it. -/
theorem spec_drop {P : Program} {f : Nat} {svs : List SV} {r : SV} {objs' : Objs} (hr : namesOnly [] r = true) (h : Spec P f svs [] r objs') : Spec P f svs [] r [] := by
  intro η G vs w hsep hob hs
  have h0 : ∀ k, η k = none := fun k => by
    have := hob k
    cases hk : η k with
    | none => rfl
    | some o => rw [hk] at this; exact this.elim
  refine (h η G vs w hsep hob hs).mono ?_
  rintro e w' ⟨η', G', v, rfl, hv, _, hsp, hev⟩
  exact ⟨fun _ => none, G', v, rfl, names_rel (fun k hk => by cases hk) (fun _ h => h) r v hr hv, fun _ => trivial,
    ⟨fun k o h => (by cases h), fun k o k' o' h => (by cases h), fun k o h => (by cases h), hsp.glt⟩,
    hev.os, hev.tape, hev.out, hev.size, hev.keep, fun k o h => (by rw [h0] at h; cases h), hev.g, hev.g', fun j o h => (by cases h)⟩
end Go.SX
namespace Go.Proofs.Ytmdfjipjkkjpcaa
open Go.SX

theorem entsP_nil {leaf : Bool} {n : Nat} {b : List UInt8} (h : entsP leaf (n + 1) b = none) : entP leaf b = none ∨ ∃ e c, entP leaf b = some (e, c) ∧ entsP leaf n c = none := by
  simp only [entsP] at h
  cases he : entP leaf b with
  | none => exact .inl rfl
  | some x =>
    obtain ⟨e, c⟩ := x
    rw [he] at h
    simp only at h
    cases ht : entsP leaf n c with
    | none => exact .inr ⟨e, c, rfl, ht⟩
    | some tl => rw [ht] at h; cases h
theorem entP_mkb {leaf : Bool} {b : List UInt8} (hl : leaf = false) (h1 : 1 ≤ b.length) (h2 : numN (b.take 1) ≤ (b.drop 1).length) (h3 : 4 ≤ ((b.drop 1).drop (numN (b.take 1))).length) :
    entP leaf b = some (⟨(b.drop 1).take (numN (b.take 1)), [], numN (((b.drop 1).drop (numN (b.take 1))).take 4), 0⟩, ((b.drop 1).drop (numN (b.take 1))).drop 4) := by
  subst hl
  simp only [entP, h1, h2, h3, and_self, if_true, Bool.false_eq_true, if_false]
theorem entP_mkl {leaf : Bool} {b : List UInt8} (hl : leaf = true) (h1 : 1 ≤ b.length) (h2 : numN (b.take 1) ≤ (b.drop 1).length) (h3 : 1 ≤ ((b.drop 1).drop (numN (b.take 1))).length) (h4 : numN (((b.drop 1).drop (numN (b.take 1))).take 1) = 255)
    (h5 : 4 ≤ (((b.drop 1).drop (numN (b.take 1))).drop 1).length) (h6 : 4 ≤ ((((b.drop 1).drop (numN (b.take 1))).drop 1).drop 4).length) :
    entP leaf b = some (⟨(b.drop 1).take (numN (b.take 1)), [], numN (((((b.drop 1).drop (numN (b.take 1))).drop 1).drop 4).take 4), numN ((((b.drop 1).drop (numN (b.take 1))).drop 1).take 4)⟩, ((((b.drop 1).drop (numN (b.take 1))).drop 1).drop 4).drop 4) := by
  subst hl
  simp only [entP, h1, h2, h3, h4, h5, h6, and_self, if_true]
theorem entP_mkv {leaf : Bool} {b : List UInt8} (hl : leaf = true) (h1 : 1 ≤ b.length) (h2 : numN (b.take 1) ≤ (b.drop 1).length) (h3 : 1 ≤ ((b.drop 1).drop (numN (b.take 1))).length) (h4 : ¬ numN (((b.drop 1).drop (numN (b.take 1))).take 1) = 255)
    (h5 : numN (((b.drop 1).drop (numN (b.take 1))).take 1) ≤ (((b.drop 1).drop (numN (b.take 1))).drop 1).length) :
    entP leaf b = some (⟨(b.drop 1).take (numN (b.take 1)), (((b.drop 1).drop (numN (b.take 1))).drop 1).take (numN (((b.drop 1).drop (numN (b.take 1))).take 1)), 0, 0⟩,
      (((b.drop 1).drop (numN (b.take 1))).drop 1).drop (numN (((b.drop 1).drop (numN (b.take 1))).take 1))) := by
  subst hl
  simp only [entP, h1, h2, h3, h4, h5, and_self, if_true, if_false]
theorem ren45 : renOk [(4, 1004), (5, 1005)] := by
  refine ⟨fun k k' h => ?_, fun k k' j h h' => ?_⟩
  · rcases List.mem_cons.1 h with h | h
    · cases h; exact ⟨rfl, rfl⟩
    · rcases List.mem_cons.1 h with h | h
      · cases h; exact ⟨rfl, rfl⟩
      · cases h
  · have key : ∀ {x}, lookN x (swapL [(4, 1004), (5, 1005)]) = some k → (x = 1004 ∧ k = 4) ∨ (x = 1005 ∧ k = 5) := by
      intro x hx
      simp only [swapL, lookN] at hx
      cases h1 : eqN 1004 x with
      | true => rw [h1] at hx; cases hx; exact .inl ⟨(eqN_eq h1).symm, rfl⟩
      | false =>
        rw [h1] at hx
        cases h2 : eqN 1005 x with
        | true => rw [h2] at hx; cases hx; exact .inr ⟨(eqN_eq h2).symm, rfl⟩
        | false => rw [h2] at hx; cases hx
    rcases key h with ⟨a1, a2⟩ | ⟨a1, a2⟩ <;> rcases key h' with ⟨b1, b2⟩ | ⟨b1, b2⟩ <;> omega

set_option maxRecDepth 20000 in
set_option maxHeartbeats 8000000 in
theorem con72n {leaf : Bool} {b : List UInt8} (hp : readP leaf b = none) (hb : b.length < 1000000000000) :
    Con 72 [.bool (.s fun _ => leaf), .dat (.bytes fun _ => b)] [] (.tup [.agg [.bool .f, .nil], .bool .f]) [] := by
  refine ⟨specX_of (spec_drop (objs' := [(1004, .dead), (1005, .dead)]) rfl (spec_of_vc_rec (E := E4) (S := Con) (fn := Try.f72) eok4 raw4 mixed (fun _ _ _ _ _ h => h.spec) [(4, 1004), (5, 1005)] ren45 Try.func72 rfl rfl rfl rfl rfl rfl rfl rfl idle91 rfl ?_)) ⟨_, _, Try.func72, rfl, rfl⟩ (by decide)⟩
  cbv
  refine ⟨⟨rfl⟩, ?_⟩
  cbv
  by_cases h2 : 2 ≤ b.length
  case neg =>
    refine .inr ⟨_, _, pan92 (m := 2) h2, ⟨by kernel_rfl⟩, ?_⟩
    cbv
    refine ⟨⟨rfl⟩, ⟨_, _, rec91n, ⟨by kernel_rfl⟩, ?_⟩⟩
    cbv
    refine ⟨[], [], ?_⟩
    cbv
    and_intros
    all_goals first | exact trivial | exact ⟨rfl⟩ | exact ⟨by kernel_rfl⟩
  have hp : entsP leaf (numN (b.take 2)) (b.drop 2) = none := by unfold readP at hp; rwa [if_pos h2] at hp
  obtain ⟨N, hN⟩ : ∃ N, N = numN (b.take 2) := ⟨_, rfl⟩
  have hN2 := num2_lt b
  have ca := con92 (m := 2) (by decide) h2 hb
  rw [← hN] at hp hN2 ca
  obtain ⟨B2, hB2⟩ : ∃ B2, B2 = b.drop 2 := ⟨_, rfl⟩
  have hbl : B2.length < 1000000000000 := by rw [hB2, List.length_drop]; omega
  rw [← hB2] at hp ca
  have hi0 : 0 ≤ N ∧ B2.length < 1000000000000 ∧ ([] : List Ent).length = 0 ∧ entsP leaf (N - 0) B2 = none := ⟨Nat.zero_le _, hbl, rfl, hp⟩
  refine .inl ⟨_, _, ca, ⟨by kernel_rfl⟩, ?_⟩
  cbv
  refine ⟨Nat × List UInt8 × List Ent, [500], fun x => [(17, .int .u32 (.s fun _ => (x.1 : Int)))],
    fun x => [(1004, .cells 24 [.bool (.s fun _ => leaf), .own 500]), (1005, .cells 4 [.bool .f]), (14, .cells 172 [.dat (.bytes fun _ => x.2.1)]), (500, .arrD 74 4 (fun _ => x.2.2.length) (lrow encE fun _ => x.2.2))],
    fun x => x.1 ≤ N ∧ x.2.1.length < 1000000000000 ∧ x.2.2.length = x.1 ∧ entsP leaf (N - x.1) x.2.1 = none, fun x => N - x.1, (0, B2, []), [(500, none)], hi0, ⟨?_⟩, fun x hx => ?_⟩
  · cbv
    and_intros
    all_goals first | exact trivial | exact ⟨rfl⟩ | exact ⟨by kernel_rfl⟩
  · obtain ⟨i, rb, acc⟩ := x
    obtain ⟨hi, hrl, hal, hx⟩ : i ≤ N ∧ rb.length < 1000000000000 ∧ acc.length = i ∧ entsP leaf (N - i) rb = none := hx
    cbv
    refine ⟨fun h1 => ?_, fun h1 => ?_⟩
    · have h1 : (i : Int) < (N : Int) := of_decide_eq_true h1
      have hlt : i < N := by omega
      rw [show N - i = (N - (i + 1)) + 1 by omega] at hx
      have l1 : (rb.drop 1).length < 1000000000000 := by simp only [List.length_drop]; omega
      have l2 : ((rb.drop 1).drop (numN (rb.take 1))).length < 1000000000000 := by simp only [List.length_drop]; omega
      have l3 : (((rb.drop 1).drop (numN (rb.take 1))).drop 1).length < 1000000000000 := by simp only [List.length_drop]; omega
      have l4 : ((((rb.drop 1).drop (numN (rb.take 1))).drop 1).drop 4).length < 1000000000000 := by simp only [List.length_drop]; omega
      have hz := wrap_small (x := numN (rb.take 1)) (by have := num1_lt rb; omega)
      have hms : N - (i + 1) < N - i := by omega
      have hwi : IntKind.u32.wrap ((i : Int) + 1) = ((i + 1 : Nat) : Int) := by rw [IntKind.wrap_u32]; omega
      have hnx := entsP_nil hx
      clear h1 hx
      by_cases p1 : 1 ≤ rb.length
      case neg =>
        cbv
        refine .inr ⟨_, _, pan92 (m := 1) p1, ⟨by kernel_rfl⟩, ?_⟩
        cbv
        refine ⟨⟨rfl⟩, ⟨_, _, rec91, ⟨by kernel_rfl⟩, ?_⟩⟩
        cbv
        refine ⟨[], [], ?_⟩
        cbv
        and_intros
        all_goals first | exact trivial | exact ⟨rfl⟩ | exact ⟨by kernel_rfl⟩
      by_cases p2 : numN (rb.take 1) ≤ (rb.drop 1).length
      case neg =>
        have p2' : ((rb.drop 1).length : Int) < (numN (rb.take 1) : Int) := by omega
        cbv
        refine .inl ⟨_, _, con92 (m := 1) (by decide) p1 hrl, ⟨by kernel_rfl⟩, ?_⟩
        cbv
        refine .inr ⟨_, _, pan93z hz p2', ⟨by kernel_rfl⟩, ?_⟩
        cbv
        refine ⟨⟨rfl⟩, ⟨_, _, rec91, ⟨by kernel_rfl⟩, ?_⟩⟩
        cbv
        refine ⟨[], [], ?_⟩
        cbv
        and_intros
        all_goals first | exact trivial | exact ⟨rfl⟩ | exact ⟨by kernel_rfl⟩
      cbv
      refine .inl ⟨_, _, con92 (m := 1) (by decide) p1 hrl, ⟨by kernel_rfl⟩, ?_⟩
      cbv
      refine .inl ⟨_, _, con93z hz p2 l1, ⟨by kernel_rfl⟩, ?_⟩
      cbv
      refine ⟨fun h3 => ?_, fun h3 => ?_⟩
      · have h3 : leaf = false := bnot_t h3
        by_cases q4 : 4 ≤ ((rb.drop 1).drop (numN (rb.take 1))).length
        case neg =>
          cbv
          refine .inr ⟨_, _, pan92 (m := 4) q4, ⟨by kernel_rfl⟩, ?_⟩
          cbv
          refine ⟨⟨rfl⟩, ⟨_, _, rec91, ⟨by kernel_rfl⟩, ?_⟩⟩
          cbv
          refine ⟨[], [], ?_⟩
          cbv
          and_intros
          all_goals first | exact trivial | exact ⟨rfl⟩ | exact ⟨by kernel_rfl⟩
        have hmk := entP_mkb h3 p1 p2 q4
        obtain ⟨e, he⟩ : ∃ e, entP leaf rb = some e := ⟨_, hmk⟩
        have hnn : entsP leaf (N - (i + 1)) e.2 = none := by
          rcases hnx with h | ⟨e', c', h, h'⟩
          · rw [he] at h; cases h
          · rw [he] at h; cases h; exact h'
        have hee := hmk.symm.trans he
        simp only [Option.some.injEq] at hee
        obtain ⟨acc', hacc⟩ : ∃ a, a = acc ++ [e.1] := ⟨_, rfl⟩
        have hlen2 : e.2.length < 1000000000000 := by rw [← hee]; simp only [List.length_drop]; omega
        have hinv : i + 1 ≤ N ∧ e.2.length < 1000000000000 ∧ acc'.length = i + 1 ∧ entsP leaf (N - (i + 1)) e.2 = none := ⟨hlt, hlen2, by rw [hacc]; simp; omega, hnn⟩
        have hap := app_ok acc e.1
        have hra := row_app hacc.symm
        have hlo : lenOk (acc.length + 1) 56 := by unfold lenOk; omega
        have hr := congrArg Prod.snd hee
        simp only at hr
        have he1 := congrArg Prod.fst hee
        simp only at he1
        rw [← he1] at hap hra
        cbv
        refine .inl ⟨_, _, con92 (m := 4) (by decide) q4 l2, ⟨by kernel_rfl⟩, ?_⟩
        cbv
        refine ⟨⟨hlo, hap⟩, ?_⟩
        cbv
        refine ⟨(i + 1, e.2, acc'), [(500, some 49)], hinv, hms, ⟨?_⟩, ⟨?_⟩⟩
        · kernel_rfl
        · cbv
          and_intros
          all_goals first | exact trivial | exact ⟨rfl⟩ | exact ⟨hwi⟩ | exact ⟨hr⟩ | exact ⟨hra⟩ | exact ⟨by kernel_rfl⟩
      · have h3 : leaf = true := bnot_f h3
        by_cases q1 : 1 ≤ ((rb.drop 1).drop (numN (rb.take 1))).length
        case neg =>
          cbv
          refine .inr ⟨_, _, pan92 (m := 1) q1, ⟨by kernel_rfl⟩, ?_⟩
          cbv
          refine ⟨⟨rfl⟩, ⟨_, _, rec91, ⟨by kernel_rfl⟩, ?_⟩⟩
          cbv
          refine ⟨[], [], ?_⟩
          cbv
          and_intros
          all_goals first | exact trivial | exact ⟨rfl⟩ | exact ⟨by kernel_rfl⟩
        cbv
        refine .inl ⟨_, _, con92 (m := 1) (by decide) q1 l2, ⟨by kernel_rfl⟩, ?_⟩
        cbv
        refine ⟨fun h4 => ?_, fun h4 => ?_⟩
        · have h4 : (numN (((rb.drop 1).drop (numN (rb.take 1))).take 1) : Int) = 255 := of_decide_eq_true h4
          have h4 : numN (((rb.drop 1).drop (numN (rb.take 1))).take 1) = 255 := by omega
          by_cases q4 : 4 ≤ (((rb.drop 1).drop (numN (rb.take 1))).drop 1).length
          case neg =>
            cbv
            refine .inr ⟨_, _, pan92 (m := 4) q4, ⟨by kernel_rfl⟩, ?_⟩
            cbv
            refine ⟨⟨rfl⟩, ⟨_, _, rec91, ⟨by kernel_rfl⟩, ?_⟩⟩
            cbv
            refine ⟨[], [], ?_⟩
            cbv
            and_intros
            all_goals first | exact trivial | exact ⟨rfl⟩ | exact ⟨by kernel_rfl⟩
          by_cases q5 : 4 ≤ ((((rb.drop 1).drop (numN (rb.take 1))).drop 1).drop 4).length
          case neg =>
            cbv
            refine .inl ⟨_, _, con92 (m := 4) (by decide) q4 l3, ⟨by kernel_rfl⟩, ?_⟩
            cbv
            refine .inr ⟨_, _, pan92 (m := 4) q5, ⟨by kernel_rfl⟩, ?_⟩
            cbv
            refine ⟨⟨rfl⟩, ⟨_, _, rec91, ⟨by kernel_rfl⟩, ?_⟩⟩
            cbv
            refine ⟨[], [], ?_⟩
            cbv
            and_intros
            all_goals first | exact trivial | exact ⟨rfl⟩ | exact ⟨by kernel_rfl⟩
          have hmk := entP_mkl h3 p1 p2 q1 h4 q4 q5
          obtain ⟨e, he⟩ : ∃ e, entP leaf rb = some e := ⟨_, hmk⟩
          have hnn : entsP leaf (N - (i + 1)) e.2 = none := by
            rcases hnx with h | ⟨e', c', h, h'⟩
            · rw [he] at h; cases h
            · rw [he] at h; cases h; exact h'
          have hee := hmk.symm.trans he
          simp only [Option.some.injEq] at hee
          obtain ⟨acc', hacc⟩ : ∃ a, a = acc ++ [e.1] := ⟨_, rfl⟩
          have hlen2 : e.2.length < 1000000000000 := by rw [← hee]; simp only [List.length_drop]; omega
          have hinv : i + 1 ≤ N ∧ e.2.length < 1000000000000 ∧ acc'.length = i + 1 ∧ entsP leaf (N - (i + 1)) e.2 = none := ⟨hlt, hlen2, by rw [hacc]; simp; omega, hnn⟩
          have hap := app_ok acc e.1
          have hra := row_app hacc.symm
          have hlo : lenOk (acc.length + 1) 56 := by unfold lenOk; omega
          have hr := congrArg Prod.snd hee
          simp only at hr
          have he1 := congrArg Prod.fst hee
          simp only at he1
          rw [← he1] at hap hra
          cbv
          refine .inl ⟨_, _, con92 (m := 4) (by decide) q4 l3, ⟨by kernel_rfl⟩, ?_⟩
          cbv
          refine .inl ⟨_, _, con92 (m := 4) (by decide) q5 l4, ⟨by kernel_rfl⟩, ?_⟩
          cbv
          refine ⟨⟨hlo, hap⟩, ?_⟩
          cbv
          refine ⟨(i + 1, e.2, acc'), [(500, some 49)], hinv, hms, ⟨?_⟩, ⟨?_⟩⟩
          · kernel_rfl
          · cbv
            and_intros
            all_goals first | exact trivial | exact ⟨rfl⟩ | exact ⟨hwi⟩ | exact ⟨hr⟩ | exact ⟨hra⟩ | exact ⟨by kernel_rfl⟩
        · have h4 : ¬ (numN (((rb.drop 1).drop (numN (rb.take 1))).take 1) : Int) = 255 := of_decide_eq_false h4
          have h4 : ¬ numN (((rb.drop 1).drop (numN (rb.take 1))).take 1) = 255 := by omega
          have hz2 := wrap_small (x := numN (((rb.drop 1).drop (numN (rb.take 1))).take 1)) (by have := num1_lt ((rb.drop 1).drop (numN (rb.take 1))); omega)
          by_cases q4 : numN (((rb.drop 1).drop (numN (rb.take 1))).take 1) ≤ (((rb.drop 1).drop (numN (rb.take 1))).drop 1).length
          case neg =>
            have q4' : ((((rb.drop 1).drop (numN (rb.take 1))).drop 1).length : Int) < (numN (((rb.drop 1).drop (numN (rb.take 1))).take 1) : Int) := by omega
            cbv
            refine .inr ⟨_, _, pan93z hz2 q4', ⟨by kernel_rfl⟩, ?_⟩
            cbv
            refine ⟨⟨rfl⟩, ⟨_, _, rec91, ⟨by kernel_rfl⟩, ?_⟩⟩
            cbv
            refine ⟨[], [], ?_⟩
            cbv
            and_intros
            all_goals first | exact trivial | exact ⟨rfl⟩ | exact ⟨by kernel_rfl⟩
          have hmk := entP_mkv h3 p1 p2 q1 h4 q4
          obtain ⟨e, he⟩ : ∃ e, entP leaf rb = some e := ⟨_, hmk⟩
          have hnn : entsP leaf (N - (i + 1)) e.2 = none := by
            rcases hnx with h | ⟨e', c', h, h'⟩
            · rw [he] at h; cases h
            · rw [he] at h; cases h; exact h'
          have hee := hmk.symm.trans he
          simp only [Option.some.injEq] at hee
          obtain ⟨acc', hacc⟩ : ∃ a, a = acc ++ [e.1] := ⟨_, rfl⟩
          have hlen2 : e.2.length < 1000000000000 := by rw [← hee]; simp only [List.length_drop]; omega
          have hinv : i + 1 ≤ N ∧ e.2.length < 1000000000000 ∧ acc'.length = i + 1 ∧ entsP leaf (N - (i + 1)) e.2 = none := ⟨hlt, hlen2, by rw [hacc]; simp; omega, hnn⟩
          have hap := app_ok acc e.1
          have hra := row_app hacc.symm
          have hlo : lenOk (acc.length + 1) 56 := by unfold lenOk; omega
          have hr := congrArg Prod.snd hee
          simp only at hr
          have he1 := congrArg Prod.fst hee
          simp only at he1
          rw [← he1] at hap hra
          cbv
          refine .inl ⟨_, _, con93z hz2 q4 l3, ⟨by kernel_rfl⟩, ?_⟩
          cbv
          refine ⟨⟨hlo, hap⟩, ?_⟩
          cbv
          refine ⟨(i + 1, e.2, acc'), [(500, some 49)], hinv, hms, ⟨?_⟩, ⟨?_⟩⟩
          · kernel_rfl
          · cbv
            and_intros
            all_goals first | exact trivial | exact ⟨rfl⟩ | exact ⟨hwi⟩ | exact ⟨hr⟩ | exact ⟨hra⟩ | exact ⟨by kernel_rfl⟩
    · have h1 : ¬ (i : Int) < (N : Int) := of_decide_eq_false h1
      have hi0 : N - i = 0 := by omega
      rw [hi0] at hx
      simp only [entsP, reduceCtorEq] at hx
end Go.Proofs.Ytmdfjipjkkjpcaa

/- SX: raw memory of which something is known; raw operations keep what is known, or change it. -/
namespace Go.SX

/-- Raw memory of which Q is known. -/
def exΦ (v0 : Value) (Q : Mem → Prop) (w : World) (v : Value) (B : List Nat) : Prop := ∃ H, Q H ∧ (H.map (·.1)).Nodup ∧ memΦ v0 H w v B

section
variable {P : Program} {E : Env} {η : OEnv} {G : Nat → Prop} {w : World}

theorem mem_stay {v0 v : Value} {H : Mem} {B : List Nat} {w w' : World} (h : memΦ v0 H w v B) (hw : ∀ b ∈ B, w'.heap[b]? = w.heap[b]?) : memΦ v0 H w' v B := by
  obtain ⟨h1, h2, h3, h4⟩ := h
  exact ⟨h1, h2, h3, fun p hp => by unfold HasRow; rw [hw _ (by rw [h2]; exact List.mem_map.2 ⟨p, hp, rfl⟩)]; exact h4 p hp⟩

/-- What is known of raw memory, looked into. -/
theorem cust_open {d : Option DV} {Φ : World → Value → List Nat → Prop} {v0 : Value} {Q : Mem → Prop} (hΦ : ∀ w v B, Φ w v B → exΦ v0 Q w v B) {o : OInfo} (h : ObjRel η G w (.cust d (fun _ => Φ)) o) :
    ∃ H, Q H ∧ (H.map (·.1)).Nodup ∧ ObjRel η G w (.cust none (fun _ => memΦ v0 H)) o := by
  obtain ⟨h1, h2, h3⟩ := h
  obtain ⟨H, hq, hn, hm⟩ := hΦ _ _ _ (h3 w fun _ _ => rfl).1
  exact ⟨H, hq, hn, h1, h2, fun w' hw' => ⟨mem_stay hm hw', fun x hx => by cases hx⟩⟩
theorem cust_close {v0 : Value} {H : Mem} {Φ : World → Value → List Nat → Prop} {o : OInfo} (h : ObjRel η G w (.cust none (fun _ => memΦ v0 H)) o) (hΦ : ∀ w v B, memΦ v0 H w v B → Φ w v B) : ObjRel η G w (.cust none (fun _ => Φ)) o := by
  obtain ⟨h1, h2, h3⟩ := h
  exact ⟨h1, h2, fun w' hw' => ⟨hΦ _ _ _ (h3 w' hw').1, fun x hx => by cases hx⟩⟩

/-- An object is looked at in another way ahead. -/
theorem specX_conv {f k : Nat} {svs : List SV} {X : TObj} {rest : Objs} {r : SV} {objs' : Objs} {Y : Type} {F : Y → Prop} {X' : Y → TObj} (h : ∀ (η : OEnv) (G : Nat → Prop) (w : World) (o : OInfo), ObjRel η G w X o → ∃ y, F y ∧ ObjRel η G w (X' y) o)
    (hf : ∀ y, F y → SpecX P f svs ((k, X' y) :: rest) r objs') : SpecX P f svs ((k, X) :: rest) r objs' := by
  intro η G vs w hsep hob hs
  have hk := hob k
  simp only [lookN, eqN_refl, cond_true] at hk
  cases ho : η k with
  | none => rw [ho] at hk; exact hk.elim
  | some o =>
    rw [ho] at hk
    obtain ⟨y, hy, hy2⟩ := h η G w o hk
    refine hf y hy η G vs w hsep (fun j => ?_) hs
    by_cases e : j = k
    · subst e
      simp only [lookN, eqN_refl, cond_true, ho]; exact hy2
    · have q : eqN k j = false := decide_eq_false fun e' => e e'.symm
      have := hob j
      simp only [lookN, q, cond_false] at this ⊢
      exact this

theorem lookN_one {X : TObj} {j : Nat} : lookN j [(1000, X)] = if j = 1000 then some X else none := by
  by_cases e : j = 1000
  · subst e; simp [lookN, eqN_refl]
  · have q : eqN 1000 j = false := decide_eq_false fun e' => e e'.symm
    simp [lookN, q, e]

/-- A raw operation, by what is known. -/
theorem ex_op {f : Nat} {svs : List SV} {d : Option DV} {Φ Φ' : World → Value → List Nat → Prop} {v0 : Value} {Q : Mem → Prop} {r : SV} (hΦ : ∀ w v B, Φ w v B → exΦ v0 Q w v B)
    (h : ∀ H, Q H → (H.map (·.1)).Nodup → SpecG P f svs [(1000, .cust none (fun _ => memΦ v0 H))] Unit (fun _ => r) (fun _ => [(1000, .cust none (fun _ => memΦ v0 H))])) (hΦ' : ∀ H w v B, Q H → (H.map (·.1)).Nodup → memΦ v0 H w v B → Φ' w v B) :
    SpecX P f svs [(1000, .cust d (fun _ => Φ))] r [(1000, .cust none (fun _ => Φ'))] := by
  refine specX_conv (Y := Mem) (F := fun H => Q H ∧ (H.map (·.1)).Nodup) (X' := fun H => .cust none (fun _ => memΦ v0 H)) (fun η G w o ho => ?_) fun H ⟨hq, hn⟩ => ?_
  · obtain ⟨H, q1, q2, q3⟩ := cust_open hΦ ho
    exact ⟨H, ⟨q1, q2⟩, q3⟩
  · intro η G vs w hsep hob hs
    refine (h H hq hn η G vs w hsep hob hs).mono fun v w' ⟨_, η', G', h1, h2, h3⟩ => ⟨η', G', h1, fun j => ?_, h3⟩
    have := h2 j
    rw [lookN_one] at this ⊢
    by_cases e : j = 1000
    · rw [if_pos e] at this ⊢
      cases ho : η' j with
      | none => rw [ho] at this; exact this.elim
      | some o => rw [ho] at this; exact cust_close (η := η') (G := G') this fun w v B hm => hΦ' H w v B hq hn hm
    · rw [if_neg e] at this ⊢; exact this

theorem ex_id {v0 : Value} {Q : Mem → Prop} : ∀ (w : World) (v : Value) (B : List Nat), exΦ v0 Q w v B → exΦ v0 Q w v B := fun _ _ _ h => h
theorem ex_in {v0 : Value} {Q : Mem → Prop} : ∀ (H : Mem) (w : World) (v : Value) (B : List Nat), Q H → (H.map (·.1)).Nodup → memΦ v0 H w v B → exΦ v0 Q w v B := fun H _ _ _ h1 h2 h3 => ⟨H, h1, h2, h3⟩

theorem ex_load (hE : EOk P E) {T b o : Nat} {ti : TI} {v0 u : Value} {Q : Mem → Prop} {a r : SV} (hti : E.ti T = some ti) (hag : ti.td.isAgg = false) (hm : ∀ H, Q H → IsP H a b o ∧ ∃ Tb cs, (b, Tb, cs) ∈ H ∧ cs[o]? = some u) (hr : ∀ (η : OEnv) (G : Nat → Prop) (w : World), SVRel η G w r u) :
    SpecX P (rawC 0 T) [a] [(1000, .cust none (fun _ => exΦ v0 Q))] r [(1000, .cust none (fun _ => exΦ v0 Q))] :=
  ex_op ex_id (fun H hq _ => by obtain ⟨h1, Tb, cs, h2, h3⟩ := hm H hq; exact mem_load hE h1 hti hag h2 h3 hr) ex_in
theorem ex_idx (hE : EOk P E) {T e b o n c i : Nat} {te : TI} {v0 : Value} {Q : Mem → Prop} {a : SV} {z : Int} (ht : P.underlying T = some (.slice e)) (he : E.ti e = some te) (ha : IsV 1000 v0 a (.slice (some ⟨b, o, none⟩) n c)) (hz : z = (i : Int)) (hi : i < n) :
    SpecX P (rawC 2 T) [a, .int .i64 (.s fun _ => z)] [(1000, .cust none (fun _ => exΦ v0 Q))] (.rv 1000 fun _ => .pointer (some ⟨b, o + i * te.size, none⟩)) [(1000, .cust none (fun _ => exΦ v0 Q))] :=
  ex_op ex_id (fun _ _ _ => mem_idx hE ht he ha hz hi) ex_in
theorem ex_len {T e n c : Nat} {p : Option Addr} {v0 : Value} {Q : Mem → Prop} {a : SV} (ht : P.underlying T = some (.slice e)) (ha : IsV 1000 v0 a (.slice p n c)) :
    SpecX P (rawC 4 T) [a] [(1000, .cust none (fun _ => exΦ v0 Q))] (.int .i64 (.s fun _ => (n : Int))) [(1000, .cust none (fun _ => exΦ v0 Q))] :=
  ex_op ex_id (fun _ _ _ => mem_len ht ha) ex_in
theorem ex_cap {T e n c : Nat} {p : Option Addr} {v0 : Value} {Q : Mem → Prop} {a : SV} (ht : P.underlying T = some (.slice e)) (ha : IsV 1000 v0 a (.slice p n c)) :
    SpecX P (rawC 5 T) [a] [(1000, .cust none (fun _ => exΦ v0 Q))] (.int .i64 (.s fun _ => (c : Int))) [(1000, .cust none (fun _ => exΦ v0 Q))] :=
  ex_op ex_id (fun _ _ _ => mem_cap ht ha) ex_in
theorem ex_field (hE : EOk P E) {S f b o off : Nat} {fs : List (Nat × Nat)} {ti : TI} {v0 : Value} {Q : Mem → Prop} {a : SV} (hti : E.ti S = some ti) (htd : ti.td = .struct fs) (hf : f < fs.length) (h32 : f < 32) (hoff : (nthD fs f (0, 0)).2 = off) (ha : IsV 1000 v0 a (.pointer (some ⟨b, o, none⟩))) :
    SpecX P (rawC 8 (S * 32 + f)) [a] [(1000, .cust none (fun _ => exΦ v0 Q))] (.rv 1000 fun _ => .pointer (some ⟨b, o + off, none⟩)) [(1000, .cust none (fun _ => exΦ v0 Q))] :=
  ex_op ex_id (fun _ _ _ => mem_field hE hti htd hf h32 hoff ha) ex_in
theorem ex_cut {T e b n c m : Nat} {v0 : Value} {Q : Mem → Prop} {a : SV} {zm : Int} {i : TypeInfo} (ht : P.underlying T = some (.slice e)) (hi : P.info? e = some i) (ha : IsV 1000 v0 a (.slice (some ⟨b, 0, none⟩) n c)) (hz : zm = (m : Int)) (hm : m ≤ c) :
    SpecX P (rawC 6 T) [a, .int .i64 (.s fun _ => zm)] [(1000, .cust none (fun _ => exΦ v0 Q))] (.rv 1000 fun _ => .slice (some ⟨b, 0, none⟩) m c) [(1000, .cust none (fun _ => exΦ v0 Q))] :=
  ex_op ex_id (fun _ _ _ => mem_cut ht hi ha hz hm) ex_in
theorem ex_store (hE : EOk P E) {T b o : Nat} {ti : TI} {v0 : Value} {Q Q' : Mem → Prop} {us : List Value} {a x : SV} (hti : E.ti T = some ti) (hsz : us.length = ti.size) (hone : ∀ u ∈ us, u.oneCell' = true)
    (hx : ∀ (η : OEnv) (G : Nat → Prop) (w : World) (v : Value), SVRel η G w x v → v.cells.toList = us)
    (hm : ∀ H, Q H → (H.map (·.1)).Nodup → IsP H a b o ∧ ∃ Tb cs, (b, Tb, cs) ∈ H ∧ o + us.length ≤ cs.length ∧ Q' (putB H b (cs.take o ++ us ++ cs.drop (o + us.length)))) :
    SpecX P (rawC 1 T) [a, x] [(1000, .cust none (fun _ => exΦ v0 Q))] .any [(1000, .cust none (fun _ => exΦ v0 Q'))] := by
  refine specX_conv (Y := Mem) (F := fun H => Q H ∧ (H.map (·.1)).Nodup) (X' := fun H => .cust none (fun _ => memΦ v0 H)) (fun η G w o ho => ?_) fun H ⟨hq, hn⟩ => ?_
  · obtain ⟨H, q1, q2, q3⟩ := cust_open ex_id ho
    exact ⟨H, ⟨q1, q2⟩, q3⟩
  · obtain ⟨h1, Tb, cs, h2, h3, h4⟩ := hm H hq hn
    intro η G vs w hsep hob hs
    refine (mem_store hE h1 hti h2 h3 hsz hone hx η G vs w hsep hob hs).mono fun v w' ⟨_, η', G', k1, k2, k3⟩ => ⟨η', G', k1, fun j => ?_, k3⟩
    have := k2 j
    rw [lookN_one] at this ⊢
    by_cases e : j = 1000
    · rw [if_pos e] at this ⊢
      cases ho : η' j with
      | none => rw [ho] at this; exact this.elim
      | some o => rw [ho] at this; exact cust_close (η := η') (G := G') this fun w v B hm => ⟨_, h4, by rw [putB_names]; exact hn, hm⟩
    · rw [if_neg e] at this ⊢; exact this
end
end Go.SX

/- NodeReads: the reference's reader. -/
namespace Go.Proofs.Ytmdfjipjkkjpcaa
open Go.SX

/-- The reference's number and bytes: where it stands, and whether it has given up. -/
def rdN (b : List UInt8) (m at' : Nat) (bad : Bool) : Nat × Nat × Bool := if bad = true ∨ b.length < at' + m then (0, at', true) else (numN ((b.drop at').take m), at' + m, false)
def rdB (b : List UInt8) (m at' : Nat) (bad : Bool) : List UInt8 × Nat × Bool := if bad = true ∨ b.length < at' + m then ([], at', true) else ((b.drop at').take m, at' + m, false)

theorem drop_cons {T : List UInt8} {j : Nat} (hj : j < T.length) : numN (T.drop (T.length - (j + 1))) = numN (T.drop (T.length - j)) * 256 + (T.getD (T.length - (j + 1)) default).toNat := by
  have e : T.length - j = (T.length - (j + 1)) + 1 := by omega
  have h : T.length - (j + 1) < T.length := by omega
  rw [List.drop_eq_getElem_cons h, e]
  simp only [numN, List.getD_eq_getElem?_getD, List.getElem?_eq_getElem h, Option.getD_some]
  omega
theorem getD_win {b : List UInt8} {at' m i : Nat} (hi : i < m) : (b.take (at' + m)).getD (at' + i) default = ((b.drop at').take m).getD i default := by
  simp only [List.getD_eq_getElem?_getD, List.getElem?_take, List.getElem?_drop]
  rw [if_pos (by omega), if_pos hi]
theorem getD_win' {b : List UInt8} {at' m i : Nat} (hi : i < m) : b.getD (at' + i) default = ((b.drop at').take m).getD i default := by
  simp only [List.getD_eq_getElem?_getD, List.getElem?_take, List.getElem?_drop]
  rw [if_pos hi]

set_option maxRecDepth 20000 in
set_option maxHeartbeats 4000000 in
theorem con74s {b : List UInt8} {m n a a' : Nat} {bad bad' : Bool} (hm : m ≤ 4) (hr : rdN b m a bad = (n, a', bad')) (ha : a ≤ b.length) (hb : b.length < 1000000000000) :
    Con 74 [.loc 1000 0, .int .i64 (.s fun _ => (m : Int))] [(1000, .cells 116 [.dat (.bytes fun _ => b), .int .i64 (.s fun _ => (a : Int)), .bool (.s fun _ => bad)])] (.int .i64 (.s fun _ => (n : Int)))
      [(1000, .cells 116 [.dat (.bytes fun _ => b), .int .i64 (.s fun _ => (a' : Int)), .bool (.s fun _ => bad')])] := by
  refine con_of Try.func74 rfl rfl 59 _ rfl rfl rfl rfl ?_
  have b1 : bound64 ((a : Int) + (m : Int)) := by unfold bound64; omega
  cbv
  refine ⟨fun h1 => ?_, fun h1 => ?_⟩
  · have h1 : bad = true := h1
    have e1 : rdN b m a bad = (0, a, true) := by unfold rdN; rw [if_pos (.inl h1)]
    rw [hr] at e1
    cases e1
    cbv
    refine ⟨⟨by kernel_rfl⟩, ?_⟩
    refine ⟨[], [], ?_⟩
    cbv
    and_intros
    all_goals first | exact trivial | exact ⟨rfl⟩ | exact ⟨by kernel_rfl⟩
  · have h1 : bad = false := h1
    cbv
    refine ⟨⟨b1⟩, ⟨by kernel_rfl⟩, ?_⟩
    refine ⟨fun h2 => ?_, fun h2 => ?_⟩
    · have h2 : (b.length : Int) < (a : Int) + (m : Int) := of_decide_eq_true h2
      have e1 : rdN b m a bad = (0, a, true) := by unfold rdN; rw [if_pos (.inr (by omega))]
      rw [hr] at e1
      cases e1
      cbv
      refine ⟨[], [], ?_⟩
      cbv
      and_intros
      all_goals first | exact trivial | exact ⟨rfl⟩ | exact ⟨by kernel_rfl⟩
    · have h2 : ¬ (b.length : Int) < (a : Int) + (m : Int) := of_decide_eq_false h2
      obtain ⟨T, hT⟩ : ∃ T, T = (b.drop a).take m := ⟨_, rfl⟩
      have hTl : T.length = m := by rw [hT, List.length_take, List.length_drop]; omega
      have e1 : rdN b m a bad = (numN T, a + m, false) := by
        unfold rdN; rw [if_neg (by rw [h1]; intro h; rcases h with h | h; cases h; omega), hT]
      rw [hr] at e1
      simp only [Prod.mk.injEq] at e1
      obtain ⟨rfl, rfl, rfl⟩ := e1
      have bm : bound64 ((m : Int) - 1) := by unfold bound64; omega
      have e0 : (0 : Int) = (numN (T.drop (T.length - 0)) : Int) := by rw [Nat.sub_zero, List.drop_length]; rfl
      have e00 : (m : Int) - 1 = (m : Int) - 1 - ((0 : Nat) : Int) := by omega
      have hin : a + m ≤ b.length := by omega
      clear h2
      cbv
      refine ⟨⟨bm⟩, ?_⟩
      cbv
      refine ⟨Nat, [], fun j => [(5, .int .i64 (.s fun _ => (numN (T.drop (T.length - j)) : Int))), (6, .int .i64 (.s fun _ => (m : Int) - 1 - (j : Int)))],
        fun _ => [(1000, .cells 116 [.dat (.bytes fun _ => b), .int .i64 (.s fun _ => (a : Int)), .bool (.s fun _ => bad)])],
        fun j => j ≤ m, fun j => m - j, 0, [], Nat.zero_le _, ⟨?_⟩, fun j hj => ?_⟩
      · cbv
        and_intros
        all_goals first | exact trivial | exact ⟨rfl⟩ | exact ⟨e0⟩ | exact ⟨e00⟩ | exact ⟨by kernel_rfl⟩
      · have hj : j ≤ m := hj
        cbv
        refine ⟨fun h3 => ?_, fun h3 => ?_⟩
        · have h3 : (0 : Int) ≤ (m : Int) - 1 - (j : Int) := of_decide_eq_true h3
          have hlt : j < m := by omega
          obtain ⟨X, hX⟩ : ∃ X, X = numN (T.drop (T.length - j)) := ⟨_, rfl⟩
          have hXlt : X < 16777216 := by
            have := numN_lt (T.drop (T.length - j))
            rw [← hX, List.length_drop, show T.length - (T.length - j) = j by omega] at this
            exact Nat.lt_of_lt_of_le this (Nat.le_trans (Nat.pow_le_pow_right (by decide) (show j ≤ 3 by omega)) (by decide))
          obtain ⟨c, hc⟩ : ∃ c, c = b.getD ((a : Int) + ((m : Int) - 1 - (j : Int))).toNat default := ⟨_, rfl⟩
          have hq : ((a : Int) + ((m : Int) - 1 - (j : Int))).toNat = a + (T.length - (j + 1)) := by omega
          have hc2 : c = T.getD (T.length - (j + 1)) default := by rw [hc, hq, getD_win' (m := m) (i := T.length - (j + 1)) (by omega), ← hT]
          have hcl := UInt8.toNat_lt c
          have hw : IntKind.i64.wrap (c.toNat : Int) = (c.toNat : Int) := by rw [IntKind.wrap_i64]; omega
          have o1 : indexObl ((a : Int) + ((m : Int) - 1 - (j : Int))) b.length := ⟨by omega, by omega⟩
          have ba : bound64 ((a : Int) + ((m : Int) - 1 - (j : Int))) := by unfold bound64; omega
          have bN : bound64 ((X : Int) * 256) := by unfold bound64; omega
          have bS : bound64 ((X : Int) * 256 + IntKind.i64.wrap (c.toNat : Int)) := by rw [hw]; unfold bound64; omega
          have hv : (X : Int) * 256 + IntKind.i64.wrap (c.toNat : Int) = (numN (T.drop (T.length - (j + 1))) : Int) := by
            rw [hw, drop_cons (by omega), ← hX, ← hc2]; omega
          have bj : bound64 ((m : Int) - 1 - (j : Int) - 1) := by unfold bound64; omega
          have ej : (m : Int) - 1 - (j : Int) - 1 = (m : Int) - 1 - ((j + 1 : Nat) : Int) := by omega
          have hms : m - (j + 1) < m - j := by omega
          have hz1 : (m : Int) - 1 - (j : Int) = ((m : Int) - 1 - (j : Int)) := rfl
          rw [hX] at bN bS hv
          rw [hc] at bS hv
          clear h3 hX hc hc2 hXlt
          cbv
          refine ⟨⟨bN⟩, ⟨ba⟩, ⟨o1⟩, ⟨bS⟩, ⟨by kernel_rfl⟩, ?_⟩
          cbv
          refine ⟨⟨bj⟩, ?_⟩
          refine ⟨j + 1, [], hlt, hms, ⟨?_⟩, ⟨?_⟩⟩
          · kernel_rfl
          · cbv
            and_intros
            all_goals first | exact trivial | exact ⟨rfl⟩ | exact ⟨hv⟩ | exact ⟨ej⟩ | exact ⟨by kernel_rfl⟩
        · have h3 : ¬ (0 : Int) ≤ (m : Int) - 1 - (j : Int) := of_decide_eq_false h3
          have hjm : j = m := by omega
          have e1 : (numN (T.drop (T.length - j)) : Int) = (numN T : Int) := by rw [show T.length - j = 0 by omega, List.drop_zero]
          have e2 : bound64 ((a : Int) + (m : Int)) := b1
          have e3 : (a : Int) + (m : Int) = ((a + m : Nat) : Int) := by omega
          have e4 : bad = false := h1
          clear h3
          cbv
          refine ⟨⟨e2⟩, ?_⟩
          refine ⟨[], [], ?_⟩
          cbv
          and_intros
          all_goals first | exact trivial | exact ⟨rfl⟩ | exact ⟨e1⟩ | exact ⟨e3⟩ | exact ⟨e4⟩ | exact ⟨by kernel_rfl⟩

theorem con74 {b : List UInt8} {m n a a' : Nat} {bad bad' : Bool} (hm : m ≤ 4) (hr : rdN b m a bad = (n, a', bad')) (ha : a ≤ b.length) (hb : b.length < 1000000000000) :
    Con 74 [.loc 1000 0, .int .i64 (.l (m : Int))] [(1000, .cells 116 [.dat (.bytes fun _ => b), .int .i64 (.s fun _ => (a : Int)), .bool (.s fun _ => bad)])] (.int .i64 (.s fun _ => (n : Int)))
      [(1000, .cells 116 [.dat (.bytes fun _ => b), .int .i64 (.s fun _ => (a' : Int)), .bool (.s fun _ => bad')])] := Con.lit (a := [.loc 1000 0]) (con74s hm hr ha hb)

theorem conv74 {b : List UInt8} {η : OEnv} {G : Nat → Prop} {w : World} {o : OInfo} (h : ObjRel η G w (.cells 116 [.dat (.bytes fun _ => b), .int .i64 (.l 0), .bool .f]) o) :
    ObjRel η G w (.cells 116 [.dat (.bytes fun _ => b), .int .i64 (.s fun _ => ((0 : Nat) : Int)), .bool (.s fun _ => false)]) o := by
  obtain ⟨h1, h2, k, vs, h3, h4, h5⟩ := h
  refine ⟨h1, h2, k, vs, h3, h4, ?_⟩
  match vs, h5 with
  | [x, y, z], h5 => exact ⟨h5.1, by simpa [SVRel, IE.den] using h5.2.1, by simpa [SVRel, BE.den] using h5.2.2.1, trivial⟩
  | [], h => exact h.elim
  | [_], h => exact h.2.elim
  | [_, _], h => exact h.2.2.elim
  | _ :: _ :: _ :: _ :: _, h => exact h.2.2.2.elim
/-- The first one: where nothing is read yet. -/
theorem con74z {b : List UInt8} {m n a' : Nat} {bad' : Bool} (hm : m ≤ 4) (hr : rdN b m 0 false = (n, a', bad')) (hb : b.length < 1000000000000) :
    Con 74 [.loc 1000 0, .int .i64 (.l (m : Int))] [(1000, .cells 116 [.dat (.bytes fun _ => b), .int .i64 (.l 0), .bool .f])] (.int .i64 (.s fun _ => (n : Int)))
      [(1000, .cells 116 [.dat (.bytes fun _ => b), .int .i64 (.s fun _ => (a' : Int)), .bool (.s fun _ => bad')])] :=
  ⟨specX_conv (Y := Unit) (F := fun _ => True) (X' := fun _ => .cells 116 [.dat (.bytes fun _ => b), .int .i64 (.s fun _ => ((0 : Nat) : Int)), .bool (.s fun _ => false)]) (fun _ _ _ _ h => ⟨(), trivial, conv74 h⟩)
    fun _ _ => by
      have h := con74 hm hr (Nat.zero_le _) hb
      exact h.spec⟩

set_option maxRecDepth 20000 in
set_option maxHeartbeats 4000000 in
theorem con75 {b : List UInt8} {m a a' : Nat} {k : List UInt8} {bad bad' : Bool} (hm : m < 1000000000000) (hr : rdB b m a bad = (k, a', bad')) (ha : a ≤ b.length) (hb : b.length < 1000000000000) :
    Con 75 [.loc 1000 0, .int .i64 (.s fun _ => (m : Int))] [(1000, .cells 116 [.dat (.bytes fun _ => b), .int .i64 (.s fun _ => (a : Int)), .bool (.s fun _ => bad)])] (.own 2000)
      [(1000, .cells 116 [.dat (.bytes fun _ => b), .int .i64 (.s fun _ => (a' : Int)), .bool (.s fun _ => bad')]), (2000, .barr 5 fun _ => k)] := by
  refine con_of Try.func75 rfl rfl 53 _ rfl rfl rfl rfl ?_
  have b1 : bound64 ((a : Int) + (m : Int)) := by unfold bound64; omega
  cbv
  refine And.intro ?_ ?_
  · intro h1
    have h1 : bad = true := h1
    have e1 : rdB b m a bad = ([], a, true) := by unfold rdB; rw [if_pos (.inl h1)]
    rw [hr] at e1
    cases e1
    cbv
    refine ⟨⟨by kernel_rfl⟩, ?_⟩
    refine ⟨[(2000, none)], [], ?_⟩
    cbv
    and_intros
    all_goals first | exact trivial | exact ⟨rfl⟩ | exact ⟨by kernel_rfl⟩
  · intro h1
    have h1 : bad = false := h1
    cbv
    refine ⟨⟨b1⟩, ⟨by kernel_rfl⟩, ?_⟩
    refine And.intro ?_ ?_
    · intro h2
      have h2 : (b.length : Int) < (a : Int) + (m : Int) := of_decide_eq_true h2
      have e1 : rdB b m a bad = ([], a, true) := by unfold rdB; rw [if_pos (.inr (by omega))]
      rw [hr] at e1
      cases e1
      cbv
      refine ⟨[(2000, none)], [], ?_⟩
      cbv
      and_intros
      all_goals first | exact trivial | exact ⟨rfl⟩ | exact ⟨by kernel_rfl⟩
    · intro h2
      have h2 : ¬ (b.length : Int) < (a : Int) + (m : Int) := of_decide_eq_false h2
      have e1 : rdB b m a bad = ((b.drop a).take m, a + m, false) := by
        unfold rdB; rw [if_neg (by rw [h1]; intro h; rcases h with h | h; cases h; omega)]
      rw [hr] at e1
      simp only [Prod.mk.injEq] at e1
      have q1 := e1.1
      have q2 := e1.2.1
      have q3 := e1.2.2
      have so : sliceObl (a : Int) ((a : Int) + (m : Int)) b.length := ⟨by omega, by omega, by omega⟩
      have ecut : (b.drop (a : Int).toNat).take (((a : Int) + (m : Int)).toNat - (a : Int).toNat) = k := by
        rw [q1, show (a : Int).toNat = a by omega, show ((a : Int) + (m : Int)).toNat - a = m by omega]
      have e2 : bound64 ((a : Int) + (m : Int)) := b1
      have e3 : (a : Int) + (m : Int) = (a' : Int) := by rw [q2]; omega
      have e4 : bad = bad' := by rw [q3]; exact h1
      have hlo : lenOk (([] : List UInt8).length + ((b.drop (a : Int).toNat).take (((a : Int) + (m : Int)).toNat - (a : Int).toNat)).length) 1 := by
        unfold lenOk; simp only [List.length_take, List.length_drop, List.length_nil]; omega
      clear h2
      cbv
      refine ⟨⟨e2⟩, ⟨so⟩, ⟨trivial, hlo⟩, ⟨by kernel_rfl⟩, ⟨e2⟩, ?_⟩
      refine ⟨[(2000, some 43)], [], ?_⟩
      cbv
      and_intros
      all_goals first | exact trivial | exact ⟨ecut⟩ | exact ⟨e3⟩ | exact ⟨e4⟩ | exact ⟨rfl⟩ | exact ⟨by kernel_rfl⟩
end Go.Proofs.Ytmdfjipjkkjpcaa

