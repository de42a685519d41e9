/- Node laws: an argument's data, off its reading. -/
import Derived.Carry
import Derived.ProofKit
import Derived.SizedLaws
import Derived.Test.YtmdfjipjkkjpcaaNi
namespace Go.Proofs.Ytmdfjipjkkjpcaa
open Go.SX

theorem list_of {α : Type} [Inhabited α] {Q : Nat → α → Prop} : ∀ (n : Nat), (∀ i, i < n → ∃ y, Q i y) → ∃ ys : List α, ys.length = n ∧ ∀ i, i < n → Q i (ys.getD i default)
  | 0, _ => ⟨[], rfl, fun i h => by omega⟩
  | n + 1, h => by
      obtain ⟨ys, h1, h2⟩ := list_of n fun i hi => h i (by omega)
      obtain ⟨y, hy⟩ := h n (by omega)
      refine ⟨ys ++ [y], by simp [h1], fun i hi => ?_⟩
      by_cases he : i < n
      · rw [List.getD_eq_getElem?_getD, List.getElem?_append_left (by omega), ← List.getD_eq_getElem?_getD]
        exact h2 i he
      · have : i = n := by omega
        subst this
        rw [List.getD_eq_getElem?_getD, List.getElem?_append_right (by omega), h1]
        simpa using hy

theorem cell_spot {w : World} {a : Addr} {v : Value} (h : w.cell? a = some v) : a.spot = none ∧ a.block < w.heap.size := by
  unfold World.cell? at h
  split at h
  · rename_i c t fr hh
    split at h
    · cases h
    · rename_i hs
      exact ⟨by simpa using hs, (Array.getElem?_eq_some_iff.1 hh).1⟩
  · cases h

def Old (w : World) (b : Nat) : Prop := b < w.heap.size

section
variable {H : Type} {enc : TypeId × Value → H} {P : Program} {w : World} {base : Nat} {spare : Nat → Bool} {held : Bool}

theorem data_u8 {fuel : Nat} {cs : List Value} {x : DataW H × List MemPlace} {T : TypeId} (hT : P.underlying T = some (.int .u8)) (h : DataW.trod enc P w base spare held fuel T cs = some x) : ∃ b : UInt8, cs = [.int .u8 (b.toNat : Int)] := by
  obtain ⟨n, rfl, -, hw⟩ := DataW.trod_int hT h
  simp only [Lit.wf, Bool.and_eq_true, decide_eq_true_eq, IntKind.min, IntKind.max, IntKind.bits, IntKind.signed] at hw
  refine ⟨UInt8.ofNat n.toNat, ?_⟩
  have h1 : 0 ≤ n ∧ n ≤ 255 := by simpa using hw
  have : ((UInt8.ofNat n.toNat).toNat : Int) = n := by simp only [UInt8.toNat_ofNat']; omega
  rw [this]
theorem data_u32 {fuel : Nat} {cs : List Value} {x : DataW H × List MemPlace} {T : TypeId} (hT : P.underlying T = some (.int .u32)) (h : DataW.trod enc P w base spare held fuel T cs = some x) : ∃ n : Int, cs = [.int .u32 n] ∧ 0 ≤ n ∧ n < 4294967296 := by
  obtain ⟨n, rfl, -, hw⟩ := DataW.trod_int hT h
  simp only [Lit.wf, Bool.and_eq_true, decide_eq_true_eq, IntKind.min, IntKind.max, IntKind.bits, IntKind.signed] at hw
  have h1 : 0 ≤ n ∧ n ≤ 4294967295 := by simpa using hw
  exact ⟨n, rfl, h1.1, by omega⟩

/-- Is nothing of it greater than the form's own reach? -/
def Wt (P : Program) (t : TypeId) (d : DataW H) : Prop := ∀ n ∈ d.weights P t, n ≤ reachBytes

theorem wt_slice {T e : TypeId} {ds sp : List (DataW H)} (hT : P.underlying T = some (.slice e)) (h : Wt P T (.slice ds sp)) : (ds.length + sp.length) * P.bytesOf e ≤ reachBytes ∧ ∀ (i : Nat) (y : DataW H), ds[i]? = some y → Wt P e y := by
  unfold Wt at h
  simp only [DataW.weights, hT] at h
  refine ⟨h _ (by simp), fun i y hy n hn => h n ?_⟩
  have : ∀ (l : List (DataW H)) (i : Nat), l[i]? = some y → n ∈ DataW.weightsAll P e l := by
    intro l
    induction l with
    | nil => intro i h; simp at h
    | cons a l ih =>
      intro i h
      simp only [DataW.weightsAll, List.mem_append]
      cases i with
      | zero => simp at h; subst h; exact .inl hn
      | succ i => exact .inr (ih i (by simpa using h))
  simp only [List.mem_cons, List.mem_append]
  exact .inr (.inl (this ds i hy))

theorem wt_struct {T : TypeId} {fs : Array Field} {ps : List (DataW H)} (hT : P.underlying T = some (.struct fs)) (h : Wt P T (.agg ps)) : ∀ (i : Nat) (f : Field) (y : DataW H), fs[i]? = some f → ps[i]? = some y → Wt P f.type y := by
  unfold Wt at h
  simp only [DataW.weights, hT] at h
  intro i f y hf hy n hn
  exact h n (DataW.weights_mem_each (j := i) (by simp [hf]) hy n hn)

/-- A slice's elements. -/
theorem data_slice {fuel : Nat} {cs : List Value} {x : DataW H × List MemPlace} {T e : TypeId} (hT : P.underlying T = some (.slice e)) (h : DataW.trod enc P w base spare held fuel T cs = some x) (hw : Wt P T x.1) :
    ∃ (p : Option Addr) (len cap : Nat), cs = [.slice p len cap] ∧ len ≤ cap ∧ len * P.bytesOf e ≤ reachBytes ∧ (len = 0 ∨ ∃ a, p = some a) ∧ ∀ a, p = some a → ∀ i, i < len →
      ∃ (n : Nat) (es : List Value) (y : DataW H × List MemPlace), w.cells? base (a.add (i * P.cellsOf e)) (P.cellsOf e) = some es ∧ DataW.trod enc P w base spare held n e es = some y ∧ Wt P e y.1 := by
  rcases DataW.trod_slice hT h with ⟨rfl, -⟩ | ⟨a, len, cap, elems, rest, n, -, rfl, hx, -, h1, h2, hl, he, -⟩
  · exact ⟨none, 0, 0, rfl, Nat.le_refl _, by simp, .inl rfl, fun a h => by cases h⟩
  · rw [hx] at hw
    obtain ⟨hw1, hw2⟩ := wt_slice hT hw
    have hw1 : len * P.bytesOf e ≤ reachBytes := Nat.le_trans (Nat.mul_le_mul_right _ (by simp [hl])) hw1
    refine ⟨some a, len, cap, rfl, h1, hw1, .inr ⟨a, rfl⟩, fun a' ha i hi => ?_⟩
    cases ha
    have hx := he i hi
    have hi' : i < elems.length := by omega
    rw [List.getElem?_eq_getElem hi'] at hx
    obtain ⟨es, h3, h4⟩ := Option.bind_eq_some_iff.1 hx
    exact ⟨n, es, _, h3, h4, hw2 i _ (by simp [hi'])⟩

theorem data_bytes {fuel : Nat} {cs : List Value} {x : DataW H × List MemPlace} {T e : TypeId} (hT : P.underlying T = some (.slice e)) (he : P.underlying e = some (.int .u8)) (hc : P.cellsOf e = 1) (hb : P.bytesOf e = 1)
    (h : DataW.trod enc P w base spare held fuel T cs = some x) (hw : Wt P T x.1) : ∃ (bs : List UInt8) (v : Value), cs = [v] ∧ bs.length ≤ reachBytes ∧ DVRel w (Old w) (.bytes fun _ => bs) v := by
  obtain ⟨p, len, cap, rfl, h1, h2, hp, hel⟩ := data_slice hT h hw
  rw [hb, Nat.mul_one] at h2
  rcases hp with rfl | ⟨a, rfl⟩
  · exact ⟨[], _, rfl, Nat.zero_le _, p, cap, rfl, Nat.zero_le _, fun i x hx => by simp at hx⟩
  · have key : ∀ i, i < len → ∃ b : UInt8, w.cell? (a.add i) = some (.int .u8 (b.toNat : Int)) := by
      intro i hi
      obtain ⟨n, es, y, h3, h4, -⟩ := hel a rfl i hi
      obtain ⟨b, rfl⟩ := data_u8 he h4
      have := (World.cells?_some h3).2.2 0 (by rw [hc]; decide)
      rw [hc, Nat.mul_one] at this
      exact ⟨b, by simpa [Addr.add] using this⟩
    obtain ⟨bs, hb1, hb2⟩ := list_of len key
    refine ⟨bs, _, rfl, by omega, some a, cap, by simp only [hb1], by simp only [hb1]; exact h1, fun i x hx => ?_⟩
    have hil : i < len := by rw [← hb1]; exact (List.getElem?_eq_some_iff.1 hx).1
    have hbx : bs.getD i default = x := by rw [List.getD_eq_getElem?_getD, hx]; rfl
    have hs := cell_spot (hb2 0 (by omega))
    obtain ⟨b, o, sp⟩ := a
    have hsp : sp = none := by simpa [Addr.add] using hs.1
    subst hsp
    refine ⟨b, o, rfl, (by simpa [Addr.add] using hs.2 : b < w.heap.size), ?_⟩
    have := hb2 i hil
    rw [hbx, add_none] at this
    exact this

def fieldsE (B W8 : TypeId) (fs : Array Field) : Prop :=
  ∃ f0 f1 f2 f3, fs = #[f0, f1, f2, f3] ∧ (f0.type = B ∧ f0.offset = 0) ∧ (f1.type = B ∧ f1.offset = 1) ∧ (f2.type = W8 ∧ f2.offset = 2) ∧ (f3.type = W8 ∧ f3.offset = 3)

/-- An entry's four cells. -/
theorem data_ent {fuel : Nat} {cs : List Value} {x : DataW H × List MemPlace} {e B u W8 : TypeId} {fs : Array Field} (he : P.underlying e = some (.struct fs)) (hc : P.cellsOf e = 4)
    (hB : P.underlying B = some (.slice u)) (hu : P.underlying u = some (.int .u8)) (hu1 : P.cellsOf u = 1) (hub : P.bytesOf u = 1) (hB1 : P.cellsOf B = 1) (hW : P.underlying W8 = some (.int .u32)) (hW1 : P.cellsOf W8 = 1)
    (hfs : fieldsE B W8 fs) (h : DataW.trod enc P w base spare held fuel e cs = some x) (hw : Wt P e x.1) :
    ∃ (y : Ent) (c0 c1 c2 c3 : Value), cs = [c0, c1, c2, c3] ∧ (EntOk y ∧ y.key.length ≤ reachBytes ∧ y.val.length ≤ reachBytes) ∧
      DVRel w (Old w) (encE (fun _ => y) 0) c0 ∧ DVRel w (Old w) (encE (fun _ => y) 1) c1 ∧ DVRel w (Old w) (encE (fun _ => y) 2) c2 ∧ DVRel w (Old w) (encE (fun _ => y) 3) c3 := by
  obtain ⟨f0, f1, f2, f3, rfl, ⟨t0, o0⟩, ⟨t1, o1⟩, ⟨t2, o2⟩, ⟨t3, o3⟩⟩ := hfs
  obtain ⟨xs, m, -, hx, hl4, hxl, hf⟩ := DataW.trod_struct he h
  have hxl : xs.length = 4 := by simpa using hxl
  rw [hx] at hw
  have hws := wt_struct he hw
  have q : ∀ (k : Nat) (f : Field) (t : TypeId) (o : Nat), (#[f0, f1, f2, f3] : Array Field)[k]? = some f → f.type = t → f.offset = o → P.cellsOf t = 1 → k < 4 → ∃ z, DataW.trod enc P w base spare held m t ((cs.drop o).take 1) = some z ∧ Wt P t z.1 := by
    intro k f t o hk ht ho hct hk4
    have h1 := hf k f hk
    rw [ht, ho, hct] at h1
    rw [h1, List.getElem?_eq_getElem (by omega)]
    refine ⟨_, rfl, ?_⟩
    rw [← ht]
    exact hws k f _ hk (by simp [show k < xs.length by omega])
  obtain ⟨z0, q0, w0⟩ := q 0 f0 B 0 rfl t0 o0 hB1 (by decide)
  obtain ⟨z1, q1, w1⟩ := q 1 f1 B 1 rfl t1 o1 hB1 (by decide)
  obtain ⟨z2, q2, w2⟩ := q 2 f2 W8 2 rfl t2 o2 hW1 (by decide)
  obtain ⟨z3, q3, w3⟩ := q 3 f3 W8 3 rfl t3 o3 hW1 (by decide)
  obtain ⟨kb, kv, ke, kl, kd⟩ := data_bytes hB hu hu1 hub q0 w0
  obtain ⟨vb, vv, ve, vl, vd⟩ := data_bytes hB hu hu1 hub q1 w1
  obtain ⟨pg, pe, pr⟩ := data_u32 hW q2
  obtain ⟨sz, se, sr⟩ := data_u32 hW q3
  rw [hc] at hl4
  match cs, hl4 with
  | [c0, c1, c2, c3], _ =>
    simp at ke ve pe se
    subst ke; subst ve; subst pe; subst se
    exact ⟨⟨kb, vb, pg, sz⟩, _, _, _, _, rfl, ⟨⟨pr, sr⟩, kl, vl⟩, kd, vd, rfl, rfl⟩

theorem data_ents {fuel : Nat} {cs : List Value} {x : DataW H × List MemPlace} {T e B u W8 : TypeId} {fs : Array Field} (hT : P.underlying T = some (.slice e)) (he : P.underlying e = some (.struct fs)) (hc : P.cellsOf e = 4) (heb : 0 < P.bytesOf e)
    (hB : P.underlying B = some (.slice u)) (hu : P.underlying u = some (.int .u8)) (hu1 : P.cellsOf u = 1) (hub : P.bytesOf u = 1) (hB1 : P.cellsOf B = 1) (hW : P.underlying W8 = some (.int .u32)) (hW1 : P.cellsOf W8 = 1)
    (hfs : fieldsE B W8 fs) (h : DataW.trod enc P w base spare held fuel T cs = some x) (hw : Wt P T x.1) : ∃ (es : List Ent) (v : Value), cs = [v] ∧ es.length ≤ reachBytes ∧ DVRel w (Old w) (entsDV es) v ∧
      ∀ y ∈ es, EntOk y ∧ y.key.length ≤ reachBytes ∧ y.val.length ≤ reachBytes := by
  obtain ⟨p, len, cap, rfl, h1, h2, hp, hel⟩ := data_slice hT h hw
  have h2 : len ≤ reachBytes := Nat.le_trans (Nat.le_mul_of_pos_right _ heb) h2
  rcases hp with rfl | ⟨a, rfl⟩
  · exact ⟨[], _, rfl, Nat.zero_le _, ⟨p, cap, rfl, Nat.zero_le _, fun i hi => by simp at hi⟩, fun y hy => by cases hy⟩
  · have key : ∀ i, i < len → ∃ y : Ent, (EntOk y ∧ y.key.length ≤ reachBytes ∧ y.val.length ≤ reachBytes) ∧ ∀ j, j < 4 → ∃ v, w.cell? ((a.add (i * 4)).add j) = some v ∧ DVRel w (Old w) (encE (fun _ => y) j) v := by
      intro i hi
      obtain ⟨n, es, y, h3, h4, hwy⟩ := hel a rfl i hi
      rw [hc] at h3
      obtain ⟨-, -, hcell⟩ := World.cells?_some h3
      obtain ⟨e, c0, c1, c2, c3, rfl, hok, d0, d1, d2, d3⟩ := data_ent he hc hB hu hu1 hub hB1 hW hW1 hfs h4 hwy
      refine ⟨e, hok, fun j hj => ?_⟩
      match j, hj with
      | 0, _ => exact ⟨_, hcell 0 (by decide), d0⟩
      | 1, _ => exact ⟨_, hcell 1 (by decide), d1⟩
      | 2, _ => exact ⟨_, hcell 2 (by decide), d2⟩
      | 3, _ => exact ⟨_, hcell 3 (by decide), d3⟩
      | j + 4, hj => omega
    obtain ⟨es, hb1, hb2⟩ := list_of len key
    refine ⟨es, _, rfl, by omega, ⟨some a, cap, by simp only [hb1], by simp only [hb1]; exact h1, fun i hi => ?_⟩, fun y hy => ?_⟩
    · simp only [hb1] at hi
      obtain ⟨v0, hv0, -⟩ := (hb2 0 (by omega)).2 0 (by decide)
      have hs := cell_spot hv0
      obtain ⟨b, o, sp⟩ := a
      have hsp : sp = none := by simpa [Addr.add] using hs.1
      subst hsp
      refine ⟨b, o, rfl, (by simpa [Addr.add] using hs.2 : b < w.heap.size), fun j hj => ?_⟩
      obtain ⟨v, hv, hd⟩ := (hb2 i hi).2 j hj
      rw [add_none, add_none] at hv
      exact ⟨v, hv, hd⟩
    · obtain ⟨i, hi, rfl⟩ := List.getElem_of_mem hy
      have := (hb2 i (by omega)).1
      rw [List.getD_eq_getElem?_getD, List.getElem?_eq_getElem hi] at this
      exact this

/-- A node's two cells. -/
theorem data_node {fuel : Nat} {cs : List Value} {x : DataW H × List MemPlace} {N L T e B u W8 : TypeId} {fs gs : Array Field} (hN : P.underlying N = some (.struct gs)) (hNc : P.cellsOf N = 2) (hL : P.underlying L = some .bool) (hLc : P.cellsOf L = 1) (hTc : P.cellsOf T = 1)
    (hgs : ∃ g0 g1, gs = #[g0, g1] ∧ (g0.type = L ∧ g0.offset = 0) ∧ (g1.type = T ∧ g1.offset = 1))
    (hT : P.underlying T = some (.slice e)) (he : P.underlying e = some (.struct fs)) (hc : P.cellsOf e = 4) (heb : 0 < P.bytesOf e)
    (hB : P.underlying B = some (.slice u)) (hu : P.underlying u = some (.int .u8)) (hu1 : P.cellsOf u = 1) (hub : P.bytesOf u = 1) (hB1 : P.cellsOf B = 1) (hW : P.underlying W8 = some (.int .u32)) (hW1 : P.cellsOf W8 = 1)
    (hfs : fieldsE B W8 fs) (h : DataW.trod enc P w base spare held fuel N cs = some x) (hw : Wt P N x.1) :
    ∃ (leaf : Bool) (es : List Ent) (v : Value), cs = [.bool leaf, v] ∧ es.length ≤ reachBytes ∧ DVRel w (Old w) (entsDV es) v ∧ ∀ y ∈ es, EntOk y ∧ y.key.length ≤ reachBytes ∧ y.val.length ≤ reachBytes := by
  obtain ⟨g0, g1, rfl, ⟨t0, o0⟩, ⟨t1, o1⟩⟩ := hgs
  obtain ⟨xs, m, -, hx, hl2, hxl, hf⟩ := DataW.trod_struct hN h
  have hxl : xs.length = 2 := by simpa using hxl
  rw [hx] at hw
  have hws := wt_struct hN hw
  have h0 := hf 0 g0 rfl
  have h1 := hf 1 g1 rfl
  rw [t0, o0, hLc, List.getElem?_eq_getElem (by omega)] at h0
  rw [t1, o1, hTc, List.getElem?_eq_getElem (by omega)] at h1
  have hw1 := hws 1 g1 _ rfl (show (xs.map (·.1))[1]? = some (xs[1]'(by omega)).1 by simp [show 1 < xs.length by omega])
  rw [t1] at hw1
  obtain ⟨b, hb, -⟩ := DataW.trod_bool hL h0
  obtain ⟨es, v, hv, he1, he2, he3⟩ := data_ents hT he hc heb hB hu hu1 hub hB1 hW hW1 hfs h1 hw1
  rw [hNc] at hl2
  match cs, hl2 with
  | [c0, c1], _ =>
    simp at hb hv
    subst hb; subst hv
    exact ⟨b, es, _, rfl, he1, he2, he3⟩
end
end Go.Proofs.Ytmdfjipjkkjpcaa
