/- Texts put together: Wc, Wd, We, Pu, Po. -/
import Derived.Test.YtmdfjipjkkjpcaaQi
import Derived.Test.YtmdfjipjkkjpcaaQh
/- What is lent: entries. -/
namespace Go.Proofs.Ytmdfjipjkkjpcaa
open Go.SX

theorem specX_ofG {P : Program} {f : Nat} {svs : List SV} {objs : Objs} {r : Unit → SV} {objs' : Unit → Objs} (h : SpecG P f svs objs Unit r objs') : SpecX P f svs objs (r ()) (objs' ()) :=
  fun η G vs w h1 h2 h3 => (h η G vs w h1 h2 h3).mono fun _ _ ⟨_, h⟩ => h

theorem csl_at {η : OEnv} {G : Nat → Prop} {w : World} {objs : Objs} (hob : ∀ k, ObjOpt η G w (lookN k objs) (η k)) {k wd n T : Nat} {cs : List SV} (hk : lookN k objs = some (.cells T cs)) {v : Value} (hv : SVRel η G w (.csl k wd n) v) :
    ∃ o b us, η k = some o ∧ o.main = [b] ∧ o.inner = [] ∧ v = .slice (some ⟨b, 0, none⟩) n n ∧ HasRow w b T us ∧ SVRels η G w cs us := by
  have h := hob k
  simp only [SVRel] at hv
  obtain ⟨o, ho, h1, hv⟩ := hv
  rw [hk, ho] at h
  have h : ObjRel η G w (.cells T cs) o := h
  obtain ⟨h2, h3, b, us, hm, hh, hs⟩ := h
  obtain ⟨b', hb', rfl⟩ := hv h2
  obtain rfl := OInfo.at_one hm hb'
  exact ⟨o, b, us, ho, hm, h3, rfl, hh, hs⟩

def hdr (b : Nat) (l : List UInt8) : Value := .slice (some ⟨b, 0, none⟩) l.length (l.length + 2)
abbrev Slot := Nat × Nat × Ent
def Slot.cells (t : Slot) : List Value := [hdr t.1 t.2.2.key, hdr t.2.1 t.2.2.val, .int .u32 t.2.2.page, .int .u32 t.2.2.size]
def Slot.blks (t : Slot) : List Nat := [t.1, t.2.1]
def lastC : List Value := [.slice none 0 0, .slice none 0 0, .int .u32 77, .int .u32 0]

structure LentAt (es : List Ent) (n c : Nat) (tail : List Value) (w : World) (v : Value) (B : List Nat) (b : Nat) (L : List Slot) : Prop where
  hes : L.map (·.2.2) = es
  hv : v = .slice (some ⟨b, 0, none⟩) n c
  hB : B = b :: L.flatMap Slot.blks
  nd : B.Nodup
  row : HasRow w b 74 (L.flatMap Slot.cells ++ tail)
  len : es.length * 4 + tail.length = c * 4
  rooms : ∀ t ∈ L, HasRow w t.1 5 (roomC t.2.2.key) ∧ HasRow w t.2.1 5 (roomC t.2.2.val)

/-- A part of what is lent, with room behind. -/
def lentP (es : List Ent) (c : Nat) (w : World) (v : Value) (B : List Nat) : Prop := ∃ b L tail, LentAt es es.length c tail w v B b L
/-- All of it, and what marks the end. -/
def lentF (es : List Ent) (w : World) (v : Value) (B : List Nat) : Prop := ∃ b L, LentAt es (es.length + 1) (es.length + 1) lastC w v B b L
def lentΦ (es : List Ent) (w : World) (v : Value) (B : List Nat) : Prop := ∃ b L, LentAt es es.length (es.length + 1) lastC w v B b L

theorem cells_len (L : List Slot) : (L.flatMap Slot.cells).length = L.length * 4 := by
  induction L with
  | nil => rfl
  | cons t L ih => simp only [List.flatMap_cons, List.length_append, ih, List.length_cons]; simp [Slot.cells]; omega

theorem LentAt.keep {es : List Ent} {n c : Nat} {tail : List Value} {w w' : World} {v : Value} {B : List Nat} {b : Nat} {L : List Slot} (h : LentAt es n c tail w v B b L) (hw : ∀ x ∈ B, w'.heap[x]? = w.heap[x]?) : LentAt es n c tail w' v B b L := by
  have hB := h.hB
  have hin : ∀ t ∈ L, t.1 ∈ B ∧ t.2.1 ∈ B := fun t ht => by
    rw [hB]
    exact ⟨List.mem_cons_of_mem _ (List.mem_flatMap.2 ⟨t, ht, by simp [Slot.blks]⟩), List.mem_cons_of_mem _ (List.mem_flatMap.2 ⟨t, ht, by simp [Slot.blks]⟩)⟩
  exact ⟨h.hes, h.hv, h.hB, h.nd, by unfold HasRow; rw [hw b (by rw [hB]; simp)]; exact h.row, h.len, fun t ht => ⟨by unfold HasRow; rw [hw _ (hin t ht).1]; exact (h.rooms t ht).1, by unfold HasRow; rw [hw _ (hin t ht).2]; exact (h.rooms t ht).2⟩⟩

theorem room_at {η : OEnv} {G : Nat → Prop} {w : World} {objs : Objs} (hob : ∀ k, ObjOpt η G w (lookN k objs) (η k)) {k : Nat} {l : List UInt8} {d : Option DV} (hk : lookN k objs = some (.cust d (fun _ => roomΦ l))) {v : Value} (hv : SVRel η G w (.own k) v) :
    ∃ o b, η k = some o ∧ o.main = [b] ∧ v = hdr b l ∧ HasRow w b 5 (roomC l) := by
  obtain ⟨o, ho, _, _, rfl, hq⟩ := cust_at hob hk hv
  obtain ⟨b, h1, h2, h3, _, _⟩ := (hq w fun _ _ => rfl).1
  exact ⟨o, b, ho, h2, h1, h3⟩

theorem info74x : ∃ i, Try.prog.info? 74 = some i ∧ i.zero = some (.agg #[.slice none 0 0, .slice none 0 0, .int .u32 0, .int .u32 0]) ∧ i.size = 4 ∧ i.bytes = 56 := by
  have h := info74
  cases hi : Try.prog.info? 74 with
  | none => rw [hi] at h; cases h
  | some i =>
    rw [hi] at h
    simp only [Option.map_some, Option.some.injEq, Prod.mk.injEq] at h
    exact ⟨i, rfl, h.2.2, h.1, h.2.1⟩

/-- One entry more is lent. -/
theorem raw_lend {es : List Ent} {e : Ent} {c : Nat} (hroom : es.length + 1 ≤ c) {dk dv : Option DV} :
    SpecG Try.prog (rawC 3 22) [.own 1000, .csl 1001 4 1] [(1000, .cust none (fun _ => lentP es c)), (1001, .cells 74 [.own 1002, .own 1003, .int .u32 (.s fun _ => e.page), .int .u32 (.s fun _ => e.size)]), (1002, .cust dk (fun _ => roomΦ e.key)), (1003, .cust dv (fun _ => roomΦ e.val))]
      Unit (fun _ => .own 2000) (fun _ => [(1000, .dead), (1001, .dead), (1002, .dead), (1003, .dead), (2000, .cust none (fun _ => lentP (es ++ [e]) c))]) := by
  intro η G vs w hsep hob hs'
  match vs, hs' with
  | [v0, v1], hs' =>
    simp only [SVRels] at hs'
    obtain ⟨h0, hy1, -⟩ := hs'
    obtain ⟨o, ho, hd, hin, rfl, hq⟩ := cust_at hob (k := 1000) rfl h0
    obtain ⟨b, L, tail, hL⟩ := (hq w fun _ _ => rfl).1
    obtain ⟨o1, b1, us, ho1, hm1, hi1, rfl, hrow1, hus⟩ := csl_at hob (k := 1001) rfl hy1
    match us, hus with
    | [u1, u2, u3, u4], hus =>
      simp only [SVRels] at hus
      obtain ⟨k1, k2, k3, k4, -⟩ := hus
      simp only [SVRel, IE.den_s] at k3 k4
      subst k3; subst k4
      obtain ⟨o2, kb, ho2, hm2, rfl, hrk⟩ := room_at hob (k := 1002) rfl k1
      obtain ⟨o3, vb, ho3, hm3, rfl, hrv⟩ := room_at hob (k := 1003) rfl k2
      obtain ⟨i, hi, hz, hs, hb⟩ := info74x
      have hlL : L.length = es.length := by have := congrArg List.length hL.hes; simpa using this
      have hcl := cells_len L
      have hc : (L.flatMap Slot.cells ++ tail).length = c * i.size := by rw [List.length_append, hcl, hs, hlL]; exact hL.len
      have hrd : Rd w (.slice (some ⟨b1, 0, none⟩) 1 1) 1 (Slot.cells (kb, vb, e)) := ⟨_, _, rfl, fun _ => ⟨_, rfl, fun j u hj => by
        rw [add_none, cell_cells hrow1, Nat.zero_add]
        simpa [Slot.cells] using hj⟩⟩
      have hr := run_room (P := Try.prog) (ty := 22) Try.underlying22 hi (by omega) hL.row hc hroom hrd (by rw [hs]; rfl) (by intro u hu; simp [Slot.cells] at hu; rcases hu with rfl | rfl | rfl | rfl <;> rfl)
      unfold RunsX
      rw [rawSem_rawC (by omega)]
      refine ⟨_, _, by rw [hL.hv]; exact hr, (), ?_⟩
      have hne : ∀ (j : Nat) (oj : OInfo) (x : Nat), η j = some oj → x ∈ oj.main → j ≠ 1000 → x ∉ o.main := fun j oj x hj hx hne hx' => hsep.dj j oj 1000 o hj ho hne x (List.mem_append_left _ hx) (List.mem_append_left _ hx')
      have hkB : kb ∉ o.main := hne 1002 o2 kb ho2 (by simp [hm2]) (by omega)
      have hvB : vb ∉ o.main := hne 1003 o3 vb ho3 (by simp [hm3]) (by omega)
      have hkv : kb ≠ vb := fun e => hsep.dj 1002 o2 1003 o3 ho2 ho3 (by omega) kb (by simp [hm2]) (by simp [hm3, e])
      have hbB : b ∈ o.main := by rw [hL.hB]; simp
      have hother : ∀ x, x ≠ b → (w.setRow b ((L.flatMap Slot.cells ++ tail).take (es.length * i.size) ++ Slot.cells (kb, vb, e) ++ (L.flatMap Slot.cells ++ tail).drop ((es.length + 1) * i.size)).toArray).heap[x]? = w.heap[x]? := fun x hx => setRow_other w b x _ hx
      have hcs : (L.flatMap Slot.cells ++ tail).take (es.length * i.size) ++ Slot.cells (kb, vb, e) ++ (L.flatMap Slot.cells ++ tail).drop ((es.length + 1) * i.size) = (L ++ [(kb, vb, e)]).flatMap Slot.cells ++ tail.drop 4 := by
        rw [hs, ← hlL]
        have e1 : (L.flatMap Slot.cells ++ tail).take (L.length * 4) = L.flatMap Slot.cells := by rw [← hcl]; exact List.take_left
        have e2 : (L.flatMap Slot.cells ++ tail).drop ((L.length + 1) * 4) = tail.drop 4 := by
          rw [show (L.length + 1) * 4 = (L.flatMap Slot.cells).length + 4 by omega, ← List.drop_drop, List.drop_left]
        rw [e1, e2]
        simp
      have hat : LentAt (es ++ [e]) (es ++ [e]).length c (tail.drop 4) (w.setRow b ((L.flatMap Slot.cells ++ tail).take (es.length * i.size) ++ Slot.cells (kb, vb, e) ++ (L.flatMap Slot.cells ++ tail).drop ((es.length + 1) * i.size)).toArray)
          (.slice (some ⟨b, 0, none⟩) (es.length + 1) c) (o.main ++ [kb, vb]) b (L ++ [(kb, vb, e)]) := by
        refine ⟨by simp [hL.hes], by simp, by rw [hL.hB]; simp [Slot.blks], ?_, by rw [← hcs]; exact setRow_has hL.row, ?_, fun t ht => ?_⟩
        · refine List.nodup_append.2 ⟨hL.nd, by simp [hkv], fun x hx y hy e => ?_⟩
          subst e
          simp at hy
          rcases hy with rfl | rfl
          · exact hkB hx
          · exact hvB hx
        · have := hL.len
          simp only [List.length_append, List.length_cons, List.length_nil, List.length_drop]; omega
        · rcases List.mem_append.1 ht with ht | ht
          · have hb1 : t.1 ≠ b ∧ t.2.1 ≠ b := by
              have hnd := hL.nd
              rw [hL.hB] at hnd
              have hn := (List.nodup_cons.1 hnd).1
              exact ⟨fun e => hn (by rw [← e]; exact List.mem_flatMap.2 ⟨t, ht, by simp [Slot.blks]⟩), fun e => hn (by rw [← e]; exact List.mem_flatMap.2 ⟨t, ht, by simp [Slot.blks]⟩)⟩
            exact ⟨by unfold HasRow; rw [hother _ hb1.1]; exact (hL.rooms t ht).1, by unfold HasRow; rw [hother _ hb1.2]; exact (hL.rooms t ht).2⟩
          · simp at ht
            subst ht
            exact ⟨(hother kb fun e => hkB (by rw [e]; exact hbB)).trans hrk, (hother vb fun e => hvB (by rw [e]; exact hbB)).trans hrv⟩
      refine raw_own (objs := [(1000, .cust none (fun _ => lentP es c)), (1001, .cells 74 [.own 1002, .own 1003, .int .u32 (.s fun _ => e.page), .int .u32 (.s fun _ => e.size)]), (1002, .cust dk (fun _ => roomΦ e.key)), (1003, .cust dv (fun _ => roomΦ e.val))])
        (o := ⟨.slice (some ⟨b, 0, none⟩) (es.length + 1) c, o.main ++ [kb, vb], [], false⟩) (by simp [namesOf]) hsep hob
        ⟨rfl, rfl, rfl, by simp, fun b' hb' hno => hother b' fun e => hno 1000 (by simp [namesOf]) o ho (by rw [e]; simp [hbB]), fun b' hb' => ?_, by simp⟩ rfl
        (cust_rel fun w' hw' => ⟨⟨b, _, _, hat.keep hw'⟩, fun x hx => by cases hx⟩)
      simp only [List.append_nil, List.mem_append, List.mem_cons, List.not_mem_nil, or_false] at hb'
      rcases hb' with hb' | rfl | rfl
      · exact ⟨by simpa using (hsep.lt 1000 o ho b' (by simp [hb'])).1, .inr ⟨1000, by simp [namesOf], o, ho, by simp [hb']⟩⟩
      · exact ⟨by simpa using (hsep.lt 1002 o2 ho2 b' (by simp [hm2])).1, .inr ⟨1002, by simp [namesOf], o2, ho2, by simp [hm2]⟩⟩
      · exact ⟨by simpa using (hsep.lt 1003 o3 ho3 b' (by simp [hm3])).1, .inr ⟨1003, by simp [namesOf], o3, ho3, by simp [hm3]⟩⟩
    | [], h => exact h.elim
    | [_], h => exact h.2.elim
    | [_, _], h => exact h.2.2.elim
    | [_, _, _], h => exact h.2.2.2.elim
    | _ :: _ :: _ :: _ :: _ :: _, h => exact h.2.2.2.2.elim
  | [], h => exact h.elim
  | [_], h => exact h.2.elim
  | _ :: _ :: _ :: _, h => exact h.2.2.elim

theorem cells_at : ∀ (L : List Slot) (i j : Nat), i < L.length → j < 4 → (L.flatMap Slot.cells)[i * 4 + j]? = (Slot.cells (L.getD i default))[j]?
  | [], i, j, h, _ => by simp at h
  | t :: L, 0, j, _, hj => by
      simp only [List.flatMap_cons, Nat.zero_mul, Nat.zero_add]
      rw [List.getElem?_append_left (by simp [Slot.cells]; omega)]; rfl
  | t :: L, i + 1, j, h, hj => by
      simp only [List.flatMap_cons]
      rw [List.getElem?_append_right (by simp [Slot.cells]; omega), show (i + 1) * 4 + j - (Slot.cells t).length = i * 4 + j by simp [Slot.cells]; omega, cells_at L i j (by simpa using h) hj]; rfl

/-- An entry whose lists have room behind. -/
def encX (e : Unit → Ent) : Nat → DV
  | 0 => .rb (fun _ => (e ()).key) fun _ => [91, 92]
  | 1 => .rb (fun _ => (e ()).val) fun _ => [91, 92]
  | 2 => .int .u32 fun _ => (e ()).page
  | _ => .int .u32 fun _ => (e ()).size
def lastE : Ent := ⟨[], [], 77, 0⟩
def lentDV (es : List Ent) : DV := .rs 4 (fun _ => es.length) (fun _ => es.length + 1) (lrow encX fun _ => es) (lrow encE fun _ => es ++ [lastE])

theorem room_rb {l : List UInt8} {w : World} {b : Nat} (h : HasRow w b 5 (roomC l)) {S : Nat → Prop} (hb : S b) : DVRel w S (.rb (fun _ => l) fun _ => [91, 92]) (hdr b l) := by
  refine ⟨b, 0, rfl, hb, fun i x hx => ?_⟩
  rw [cell_cells h, Nat.zero_add]
  rw [show (⟨roomC l⟩ : Array Value)[i]? = (roomC l)[i]? by simp]
  have e : roomC l = (l ++ [91, 92]).map u8v := by simp [roomC]
  rw [e, List.getElem?_map, hx]; rfl
theorem rb_bytes {w : World} {S : Nat → Prop} {bs tail : Unit → List UInt8} {v : Value} (h : DVRel w S (.rb bs tail) v) : DVRel w S (.bytes bs) v := by
  obtain ⟨b, o, rfl, hb, hr⟩ := h
  exact ⟨_, _, rfl, by omega, fun i x hx => ⟨b, o, rfl, hb, hr i x (by rw [List.getElem?_append_left (List.getElem?_eq_some_iff.1 hx).1]; exact hx)⟩⟩

theorem lent_dv {es : List Ent} {w : World} {v : Value} {B : List Nat} {b : Nat} {L : List Slot} (h : LentAt es es.length (es.length + 1) lastC w v B b L) : DVRel w (fun x => x ∈ B) (lentDV es) v := by
  have hlL : L.length = es.length := by have := congrArg List.length h.hes; simpa using this
  have hbB : b ∈ B := by rw [h.hB]; simp
  have cell : ∀ i j, i < es.length → j < 4 → ∃ u, w.cell? ⟨b, 0 + i * 4 + j, none⟩ = some u ∧ DVRel w (fun x => x ∈ B) (encX (fun _ => es.getD i default) j) u := by
    intro i j hi hj
    have hi : i < L.length := by rw [hlL]; exact hi
    have hmem : L.getD i default ∈ L := getD_mem hi
    have he : es.getD i default = (L.getD i default).2.2 := by
      rw [← h.hes, List.getD_eq_getElem?_getD, List.getD_eq_getElem?_getD, List.getElem?_map, List.getElem?_eq_getElem hi]; rfl
    have hrooms := h.rooms _ hmem
    have hin : (L.getD i default).1 ∈ B ∧ (L.getD i default).2.1 ∈ B := by
      rw [h.hB]
      exact ⟨List.mem_cons_of_mem _ (List.mem_flatMap.2 ⟨_, hmem, by simp [Slot.blks]⟩), List.mem_cons_of_mem _ (List.mem_flatMap.2 ⟨_, hmem, by simp [Slot.blks]⟩)⟩
    have hcell : ∀ u, (Slot.cells (L.getD i default))[j]? = some u → w.cell? ⟨b, 0 + i * 4 + j, none⟩ = some u := by
      intro u hu
      rw [cell_cells h.row, Nat.zero_add]
      have : (L.flatMap Slot.cells ++ lastC)[i * 4 + j]? = some u := by
        rw [List.getElem?_append_left (by rw [cells_len]; omega), cells_at L i j hi hj, hu]
      simpa using this
    rw [he]
    match j, hj with
    | 0, _ => exact ⟨_, hcell _ rfl, room_rb hrooms.1 hin.1⟩
    | 1, _ => exact ⟨_, hcell _ rfl, room_rb hrooms.2 hin.2⟩
    | 2, _ => exact ⟨_, hcell _ rfl, rfl⟩
    | 3, _ => exact ⟨_, hcell _ rfl, rfl⟩
    | j + 4, h => omega
  refine ⟨b, 0, h.hv, hbB, by show es.length ≤ es.length + 1; omega, fun i hi j hj => cell i j hi hj, fun i hi j hj => ?_⟩
  have hi : i < es.length + 1 := hi
  show ∃ u, w.cell? ⟨b, 0 + i * 4 + j, none⟩ = some u ∧ DVRel w (fun x => x ∈ B) (encE (fun _ => (es ++ [lastE]).getD i default) j) u
  by_cases hlt : i < es.length
  · have e : (es ++ [lastE]).getD i default = es.getD i default := by rw [List.getD_eq_getElem?_getD, List.getD_eq_getElem?_getD, List.getElem?_append_left hlt]
    rw [e]
    obtain ⟨u, hu, hd⟩ := cell i j hlt hj
    refine ⟨u, hu, ?_⟩
    match j, hj with
    | 0, _ => exact rb_bytes hd
    | 1, _ => exact rb_bytes hd
    | 2, _ => exact hd
    | 3, _ => exact hd
    | j + 4, h => omega
  · have hie : i = es.length := by omega
    subst hie
    have e : (es ++ [lastE]).getD es.length default = lastE := by rw [List.getD_eq_getElem?_getD, List.getElem?_append_right (Nat.le_refl _)]; simp
    rw [e]
    have hcell : ∀ u, lastC[j]? = some u → w.cell? ⟨b, 0 + es.length * 4 + j, none⟩ = some u := by
      intro u hu
      rw [cell_cells h.row, Nat.zero_add]
      have : (L.flatMap Slot.cells ++ lastC)[es.length * 4 + j]? = some u := by
        rw [List.getElem?_append_right (by rw [cells_len, hlL]; omega), cells_len, hlL, show es.length * 4 + j - es.length * 4 = j by omega, hu]
      simpa using this
    match j, hj with
    | 0, _ => exact ⟨_, hcell _ rfl, none, 0, rfl, Nat.le_refl _, fun i x hx => by simp [lastE] at hx⟩
    | 1, _ => exact ⟨_, hcell _ rfl, none, 0, rfl, Nat.le_refl _, fun i x hx => by simp [lastE] at hx⟩
    | 2, _ => exact ⟨_, hcell _ rfl, rfl⟩
    | 3, _ => exact ⟨_, hcell _ rfl, rfl⟩
    | j + 4, h => omega

/-- What is lent, as entries. -/
theorem lent_ents {es : List Ent} {w : World} {S : Nat → Prop} {v : Value} (h : DVRel w S (lentDV es) v) : DVRel w S (entsDV es) v := by
  obtain ⟨b, o, hv, hb, hn, -, hr⟩ := h
  refine ⟨_, _, hv, hn, fun i hi => ⟨b, o, rfl, hb, fun j hj => ?_⟩⟩
  have hi : i < es.length := hi
  obtain ⟨u, hu, hd⟩ := hr i (by show i < es.length + 1; omega) j hj
  refine ⟨u, hu, ?_⟩
  have e : (es ++ [lastE]).getD i default = es.getD i default := by rw [List.getD_eq_getElem?_getD, List.getD_eq_getElem?_getD, List.getElem?_append_left hi]
  have hd : DVRel w S (encE (fun _ => (es ++ [lastE]).getD i default) j) u := hd
  rw [e] at hd
  exact hd

/-- The mark behind. -/
theorem raw_last {es : List Ent} :
    SpecG Try.prog (rawC 3 22) [.own 1000, .csl 1001 4 1] [(1000, .cust none (fun _ => lentP es (es.length + 1))), (1001, .cells 74 [.nil, .nil, .int .u32 (.l 77), .int .u32 (.l 0)])]
      Unit (fun _ => .own 2000) (fun _ => [(1000, .dead), (1001, .dead), (2000, .cust none (fun _ => lentF es))]) := by
  intro η G vs w hsep hob hs'
  match vs, hs' with
  | [v0, v1], hs' =>
    simp only [SVRels] at hs'
    obtain ⟨h0, hy1, -⟩ := hs'
    obtain ⟨o, ho, hd, hin, rfl, hq⟩ := cust_at hob (k := 1000) rfl h0
    obtain ⟨b, L, tail, hL⟩ := (hq w fun _ _ => rfl).1
    obtain ⟨o1, b1, us, ho1, hm1, hi1, rfl, hrow1, hus⟩ := csl_at hob (k := 1001) rfl hy1
    match us, hus with
    | [u1, u2, u3, u4], hus =>
      simp only [SVRels, SVRel, IE.den_l] at hus
      obtain ⟨rfl, rfl, rfl, rfl, -⟩ := hus
      obtain ⟨i, hi, hz, hs, hb⟩ := info74x
      have hlL : L.length = es.length := by have := congrArg List.length hL.hes; simpa using this
      have hcl := cells_len L
      have hc : (L.flatMap Slot.cells ++ tail).length = (es.length + 1) * i.size := by rw [List.length_append, hcl, hs, hlL]; exact hL.len
      have hrd : Rd w (.slice (some ⟨b1, 0, none⟩) 1 1) 1 lastC := ⟨_, _, rfl, fun _ => ⟨_, rfl, fun j u hj => by
        rw [add_none, cell_cells hrow1, Nat.zero_add]
        simpa [lastC] using hj⟩⟩
      have hr := run_room (P := Try.prog) (ty := 22) Try.underlying22 hi (by omega) hL.row hc (Nat.le_refl _) hrd (by rw [hs]; rfl) (by intro u hu; simp [lastC] at hu; rcases hu with rfl | rfl | rfl <;> rfl)
      unfold RunsX
      rw [rawSem_rawC (by omega)]
      refine ⟨_, _, by rw [hL.hv]; exact hr, (), ?_⟩
      have hbB : b ∈ o.main := by rw [hL.hB]; simp
      have hcs : (L.flatMap Slot.cells ++ tail).take (es.length * i.size) ++ lastC ++ (L.flatMap Slot.cells ++ tail).drop ((es.length + 1) * i.size) = L.flatMap Slot.cells ++ lastC := by
        rw [← hc, List.drop_length, List.append_nil, hs, ← hlL, ← hcl, List.take_left]
      rw [hcs]
      have hother : ∀ x, x ≠ b → (w.setRow b (L.flatMap Slot.cells ++ lastC).toArray).heap[x]? = w.heap[x]? := fun x hx => setRow_other w b x _ hx
      have hat : LentAt es (es.length + 1) (es.length + 1) lastC (w.setRow b (L.flatMap Slot.cells ++ lastC).toArray) (.slice (some ⟨b, 0, none⟩) (es.length + 1) (es.length + 1)) o.main b L := by
        refine ⟨hL.hes, rfl, hL.hB, hL.nd, setRow_has hL.row, by simp [lastC]; omega, fun t ht => ?_⟩
        have hb1 : t.1 ≠ b ∧ t.2.1 ≠ b := by
          have hnd := hL.nd
          rw [hL.hB] at hnd
          have hn := (List.nodup_cons.1 hnd).1
          exact ⟨fun e => hn (by rw [← e]; exact List.mem_flatMap.2 ⟨t, ht, by simp [Slot.blks]⟩), fun e => hn (by rw [← e]; exact List.mem_flatMap.2 ⟨t, ht, by simp [Slot.blks]⟩)⟩
        exact ⟨by unfold HasRow; rw [hother _ hb1.1]; exact (hL.rooms t ht).1, by unfold HasRow; rw [hother _ hb1.2]; exact (hL.rooms t ht).2⟩
      exact raw_own (objs := [(1000, .cust none (fun _ => lentP es (es.length + 1))), (1001, .cells 74 [.nil, .nil, .int .u32 (.l 77), .int .u32 (.l 0)])])
        (o := ⟨.slice (some ⟨b, 0, none⟩) (es.length + 1) (es.length + 1), o.main, [], false⟩) (by simp [namesOf]) hsep hob
        ⟨rfl, rfl, rfl, by simp, fun b' hb' hno => hother b' fun e => hno 1000 (by simp [namesOf]) o ho (by rw [e]; simp [hbB]), fun b' hb' => by
          simp only [List.append_nil] at hb'
          exact ⟨by simpa using (hsep.lt 1000 o ho b' (by simp [hb'])).1, .inr ⟨1000, by simp [namesOf], o, ho, by simp [hb']⟩⟩, by simp⟩ rfl
        (cust_rel fun w' hw' => ⟨⟨b, _, hat.keep hw'⟩, fun x hx => by cases hx⟩)
    | [], h => exact h.elim
    | [_], h => exact h.2.elim
    | [_, _], h => exact h.2.2.elim
    | [_, _, _], h => exact h.2.2.2.elim
    | _ :: _ :: _ :: _ :: _ :: _, h => exact h.2.2.2.2.elim
  | [], h => exact h.elim
  | [_], h => exact h.2.elim
  | _ :: _ :: _ :: _, h => exact h.2.2.elim

theorem rowΦ_lentP {c : Nat} {cs : List Value} {w : World} {v : Value} {B : List Nat} (h : rowΦ 74 4 0 c cs w v B) : lentP [] c w v B := by
  obtain ⟨b, h1, rfl, h3, h4, _⟩ := h
  exact ⟨b, [], cs, rfl, h1, by simp, by simp, by simpa using h3, by simpa using h4, by simp⟩

set_option maxRecDepth 20000 in
set_option maxHeartbeats 4000000 in
theorem con11 {es : List Ent} (hs : ∀ e ∈ es, SmallE e) (hl : es.length < 1000000000) : Con 11 [.dat (entsDV es)] [] (.own 2000) [(2000, .cust (some (lentDV es)) (fun _ => lentΦ es))] := by
  obtain ⟨i, hi, hz, hsz, hb⟩ := info74x
  have bc : bound64 ((es.length : Int) + 1) := by unfold bound64; omega
  obtain ⟨c, hc⟩ : ∃ c, c = es.length + 1 := ⟨_, rfl⟩
  have hzc : (es.length : Int) + 1 = (c : Int) := by omega
  obtain ⟨c0, h0⟩ : ∃ c0, c0 = (madeCells (Value.agg #[.slice none 0 0, .slice none 0 0, .int .u32 0, .int .u32 0]).cells (c * i.size)).toList := ⟨_, rfl⟩
  have r1 : ConG (rawC 7 22) [.int .i64 (.l 0), .int .i64 (.s fun _ => (es.length : Int) + 1)] [] Unit (fun _ => .own 2000) (fun _ => [(2000, .cust none (fun _ => rowΦ 74 4 0 c c0))]) :=
    ⟨raw_make (sz := 4) hzc hsz.symm h0 Try.underlying22 hi hz (by rw [hb]; omega) (by omega)⟩
  have r3 : ConG (rawC 3 22) _ _ Unit _ _ := ⟨raw_last (es := es)⟩
  rw [← hc] at r3
  have r4 : ConG (rawC 6 22) [.own 1000, .int .i64 (.s fun _ => (es.length : Int))] [(1000, .cust none (fun _ => lentF es))] Unit (fun _ => .own 2000) (fun _ => [(1000, .dead), (2000, .cust (some (lentDV es)) (fun _ => lentΦ es))]) :=
    ⟨raw_cut (n := es.length + 1) (m := es.length) (c := es.length + 1) rfl Try.underlying22 hi (by omega) (fun w v B h => by obtain ⟨b, L, h⟩ := h; exact ⟨b, h.hv⟩) fun w b B h => by
      obtain ⟨b', L, h⟩ := h
      have hbb : b = b' := by have := h.hv; cases this; rfl
      subst hbb
      have h' : LentAt es es.length (es.length + 1) lastC w (.slice (some ⟨b, 0, none⟩) es.length (es.length + 1)) B b L := ⟨h.hes, rfl, h.hB, h.nd, h.row, h.len, h.rooms⟩
      refine ⟨⟨b, L, h'⟩, fun x hx => ?_⟩
      cases hx
      exact lent_dv h'⟩
  refine con_of Try.func11 rfl rfl 50 _ rfl rfl rfl rfl ?_
  cbv
  refine ⟨⟨bc⟩, ?_⟩
  refine ⟨Unit, _, _, r1, ⟨by kernel_rfl⟩, fun _ => ⟨⟨by kernel_rfl⟩, ?_⟩⟩
  cbv
  refine ⟨Nat × List Ent, [500], fun x => [(3, .own 500), (4, .int .i64 (.s fun _ => (x.1 : Int)))], fun x => [(500, .cust none (fun _ => lentP x.2 c))],
    fun x => x.1 ≤ es.length ∧ x.2 = es.take x.1, fun x => es.length - x.1, (0, []), [(500, some 3900)], ⟨Nat.zero_le _, rfl⟩, ⟨?_⟩, fun x hx => ?_⟩
  · cbv
    and_intros
    all_goals first | exact trivial | exact ⟨rfl⟩ | exact ⟨rfl, fun _ _ _ h => rowΦ_lentP h⟩ | exact ⟨by kernel_rfl⟩
  · obtain ⟨k, P⟩ := x
    obtain ⟨hk, hP⟩ : k ≤ es.length ∧ P = es.take k := hx
    have hPl : P.length = k := by rw [hP]; simp; omega
    cbv
    refine ⟨fun h1 => ?_, fun h1 => ?_⟩
    · have h1 : (k : Int) < (es.length : Int) := of_decide_eq_true h1
      have hlt : k < es.length := by omega
      have o1 : indexObl (k : Int) es.length := ⟨by omega, h1⟩
      have bk : bound64 ((k : Int) + 1) := by unfold bound64; omega
      have ek : (k : Int) + 1 = ((k + 1 : Nat) : Int) := by omega
      have hms : es.length - (k + 1) < es.length - k := by omega
      have hse := hs _ (getD_mem hlt)
      have ck := con24 hse.1
      have cv := con24 hse.2
      have r2 : Con (rawC 3 22) _ _ _ _ := ⟨specX_ofG (raw_lend (es := P) (e := es.getD k default) (c := c) (dk := some (.bytes fun _ => (es.getD k default).key)) (dv := some (.bytes fun _ => (es.getD k default).val)) (by omega))⟩
      have hnx : k + 1 ≤ es.length ∧ P ++ [es.getD k default] = es.take (k + 1) := ⟨hlt, by rw [getD_take es hlt, hP]⟩
      obtain ⟨P', hP'⟩ : ∃ P', P' = P ++ [es.getD k default] := ⟨_, rfl⟩
      rw [← hP'] at r2 hnx
      clear h1 hP hP' hPl
      cbv
      refine ⟨⟨o1⟩, ⟨o1⟩, ⟨o1⟩, ?_⟩
      refine ⟨_, _, ck, ⟨?_⟩, ?_⟩
      · kernel_rfl
      cbv
      refine ⟨⟨o1⟩, _, _, cv, ⟨?_⟩, ?_⟩
      · kernel_rfl
      cbv
      refine ⟨_, _, r2, ⟨?_⟩, ?_⟩
      · kernel_rfl
      cbv
      refine ⟨⟨by kernel_rfl⟩, ?_⟩
      cbv
      refine ⟨⟨bk⟩, (k + 1, P'), [(500, some 7100)], hnx, hms, ⟨?_⟩, ⟨?_⟩⟩
      · kernel_rfl
      · cbv
        and_intros
        all_goals first | exact trivial | exact ⟨rfl⟩ | exact ⟨ek⟩ | exact ⟨rfl, fun _ _ _ h => h⟩ | exact ⟨by kernel_rfl⟩
    · have h1 : ¬ (k : Int) < (es.length : Int) := of_decide_eq_false h1
      have hPe : P = es := by rw [hP, List.take_of_length_le (by omega)]
      clear h1 hP hPl
      subst hPe
      cbv
      refine ⟨Unit, _, _, r3, ⟨by kernel_rfl⟩, fun _ => ⟨⟨by kernel_rfl⟩, ?_⟩⟩
      cbv
      refine ⟨Unit, _, _, r4, ⟨by kernel_rfl⟩, fun _ => ⟨⟨by kernel_rfl⟩, ?_⟩⟩
      cbv
      refine ⟨[(2000, some 7900)], [], ?_⟩
      cbv
      and_intros
      all_goals first | exact trivial | exact ⟨rfl⟩ | exact ⟨rfl, fun _ _ _ h => h⟩ | exact ⟨by kernel_rfl⟩
end Go.Proofs.Ytmdfjipjkkjpcaa

/- What is lent: is it whole? -/
namespace Go.Proofs.Ytmdfjipjkkjpcaa
open Go.SX

theorem con22r {a b : List UInt8} {t : Unit → List UInt8} (hl : a.length < 1000000000000) : Con 22 [.dat (.rb (fun _ => a) t), .dat (.bytes fun _ => b)] [] (.bool (.s fun _ => decide (a = b))) [] := by
  refine (con22 (a := a) (b := b) hl).args fun η G w vs hv => ?_
  match vs, hv with
  | [v1, v2], hv =>
    refine ⟨?_, hv.2.1, trivial⟩
    have h := hv.1
    simp only [SVRel] at h ⊢
    exact rb_bytes h
  | [], hv => exact hv.elim
  | [_], hv => exact hv.2.elim
  | _ :: _ :: _ :: _, hv => exact hv.2.2.elim

set_option maxRecDepth 20000 in
set_option maxHeartbeats 4000000 in
theorem con26 {l : List UInt8} (hl : l.length < 1000000000000) : Con 26 [.dat (.rb (fun _ => l) fun _ => [91, 92]), .dat (.bytes fun _ => l)] [] (.bool (.s fun _ => true)) [] := by
  have b2 : bound64 ((l.length : Int) + 2) := by unfold bound64; omega
  have b1 : bound64 ((l.length : Int) + 1) := by unfold bound64; omega
  have hcap : ¬ ((l.length + [91, 92].length : Nat) : Int) < (l.length : Int) + 2 := by simp
  have so : 0 ≤ (l.length : Int) + 2 ∧ (l.length : Int) + 2 ≤ ((l.length + [91, 92].length : Nat) : Int) := by simp; omega
  have ey : (l ++ [91, 92]).take ((l.length : Int) + 2).toNat = l ++ [91, 92] := by rw [List.take_of_length_le]; simp; omega
  have o0 : indexObl (l.length : Int) ((l ++ [91, 92]).take ((l.length : Int) + 2).toNat).length := by rw [ey]; unfold indexObl; simp; omega
  have o1 : indexObl ((l.length : Int) + 1) ((l ++ [91, 92]).take ((l.length : Int) + 2).toNat).length := by rw [ey]; unfold indexObl; simp; omega
  have g0 : ((((l ++ [91, 92]).take ((l.length : Int) + 2).toNat).getD ((l.length : Int)).toNat 0).toNat : Int) = 91 := by rw [ey]; simp
  have g1 : ((((l ++ [91, 92]).take ((l.length : Int) + 2).toNat).getD ((l.length : Int) + 1).toNat 0).toNat : Int) = 92 := by rw [ey, show ((l.length : Int) + 1).toNat = l.length + 1 by omega]; simp
  have cs := (con22r (a := l) (b := l) (t := fun _ => [91, 92]) (by omega)).yes (decide_eq_true rfl)
  clear ey
  refine con_of Try.func26 rfl rfl 37 _ rfl rfl rfl rfl ?_
  cbv
  refine ⟨⟨b2⟩, ?_⟩
  cbv
  refine And.intro ?_ ?_
  · intro h1
    have h1 : ((l.length + [91, 92].length : Nat) : Int) < (l.length : Int) + 2 := of_decide_eq_true h1
    exact False.elim (hcap h1)
  · intro h1
    clear h1 hcap
    cbv
    refine ⟨⟨b2⟩, ⟨so⟩, ?_⟩
    cbv
    refine ⟨⟨o0⟩, ?_⟩
    cbv
    refine And.intro ?_ ?_
    · intro h2
      clear h2
      cbv
      refine ⟨⟨b1⟩, ⟨o1⟩, ?_⟩
      cbv
      refine And.intro ?_ ?_
      · intro h3
        clear h3
        cbv
        refine ⟨_, _, cs, ⟨?_⟩, ?_⟩
        · kernel_rfl
        cbv
        refine ⟨[], [], ?_⟩
        cbv
        and_intros
        all_goals first | exact trivial | exact ⟨rfl⟩ | exact ⟨by kernel_rfl⟩
      · intro h3
        have h3 : ¬ (((((l ++ [91, 92]).take ((l.length : Int) + 2).toNat).getD ((l.length : Int) + 1).toNat 0).toNat : Int) = 92) := of_decide_eq_false h3
        exact False.elim (h3 g1)
    · intro h2
      have h2 : ¬ (((((l ++ [91, 92]).take ((l.length : Int) + 2).toNat).getD ((l.length : Int)).toNat 0).toNat : Int) = 91) := of_decide_eq_false h2
      exact False.elim (h2 g0)
end Go.Proofs.Ytmdfjipjkkjpcaa

/- What is lent: are entries whole? -/
namespace Go.Proofs.Ytmdfjipjkkjpcaa
open Go.SX

theorem ne_self {α : Type} [DecidableEq α] {a : α} (h : (!decide (a = a)) = true) : False := by simp at h

set_option maxRecDepth 20000 in
set_option maxHeartbeats 400000 in
theorem con15 {es : List Ent} (hs : ∀ e ∈ es, SmallE e) (hl : es.length < 1000000000) : Con 15 [.dat (lentDV es), .dat (entsDV es)] [] (.bool .t) [] := by
  have b1 : bound64 ((es.length : Int) + 1) := by unfold bound64; omega
  have hcap : ¬ ((es.length + 1 : Nat) : Int) < (es.length : Int) + 1 := by omega
  have so : 0 ≤ (es.length : Int) + 1 ∧ (es.length : Int) + 1 ≤ ((es.length + 1 : Nat) : Int) := by omega
  have o0 : indexObl (es.length : Int) ((es.length : Int) + 1).toNat := by unfold indexObl; omega
  have g0 : ((es ++ [lastE]).getD (es.length : Int).toNat default).page = 77 := by simp [lastE]
  refine con_of Try.func15 rfl rfl 90 _ rfl rfl rfl rfl ?_
  cbv
  refine And.intro ?_ ?_
  · intro h
    exact (ne_self h).elim
  · intro h
    clear h
    cbv
    refine ⟨⟨b1⟩, ?_⟩
    cbv
    refine And.intro ?_ ?_
    · intro h
      have h : ((es.length + 1 : Nat) : Int) < (es.length : Int) + 1 := of_decide_eq_true h
      exact False.elim (hcap h)
    · intro h
      clear h hcap
      cbv
      refine ⟨⟨b1⟩, ⟨so⟩, ?_⟩
      cbv
      refine ⟨⟨o0⟩, ?_⟩
      cbv
      refine And.intro ?_ ?_
      · intro h
        have h : ¬ (((es ++ [lastE]).getD (es.length : Int).toNat default).page = 77) := of_decide_eq_false (bnot_t h)
        exact False.elim (h g0)
      · intro h
        clear h g0
        cbv
        refine ⟨Nat, [], fun i => [(6, .int .i64 (.s fun _ => (i : Int)))], fun i => [], fun i => i ≤ es.length, fun i => es.length - i, 0, [], Nat.zero_le _, ⟨?_⟩, fun i hx => ?_⟩
        · cbv
          and_intros
          all_goals first | exact trivial | exact ⟨rfl⟩ | exact ⟨by kernel_rfl⟩
        · have hi : i ≤ es.length := hx
          cbv
          refine And.intro ?_ ?_
          · intro h2
            have h2 : (i : Int) < (es.length : Int) := of_decide_eq_true h2
            have hlt : i < es.length := by omega
            have o1 : indexObl (i : Int) es.length := ⟨by omega, h2⟩
            have bi : bound64 ((i : Int) + 1) := by unfold bound64; omega
            have ei : (i : Int) + 1 = ((i + 1 : Nat) : Int) := by omega
            have hms : es.length - (i + 1) < es.length - i := by omega
            have hsi := hs _ (getD_mem hlt)
            have ck := (con26 (l := (es.getD i default).key) hsi.1).yes rfl
            have cv := (con26 (l := (es.getD i default).val) hsi.2).yes rfl
            have hlt : i + 1 ≤ es.length := hlt
            clear h2 hsi
            cbv
            refine ⟨⟨o1⟩, ⟨o1⟩, ?_⟩
            cbv
            refine And.intro ?_ ?_
            · intro h3
              have h3 : (!decide ((es.getD i default).page = (es.getD i default).page)) = true := h3
              have h3 : False := ne_self h3
              cbv
              exact h3.elim
            · intro h3
              clear h3
              cbv
              refine ⟨⟨o1⟩, ⟨o1⟩, ?_⟩
              cbv
              refine And.intro ?_ ?_
              · intro h3
                have h3 : (!decide ((es.getD i default).size = (es.getD i default).size)) = true := h3
                have h3 : False := ne_self h3
                cbv
                exact h3.elim
              · intro h3
                clear h3
                cbv
                refine ⟨⟨o1⟩, ⟨o1⟩, _, _, ck, ⟨?_⟩, ?_⟩
                · kernel_rfl
                cbv
                refine ⟨⟨o1⟩, ⟨o1⟩, _, _, cv, ⟨?_⟩, ?_⟩
                · kernel_rfl
                cbv
                refine ⟨⟨by kernel_rfl⟩, ?_⟩
                cbv
                refine ⟨⟨bi⟩, i + 1, [], hlt, hms, ⟨?_⟩, ⟨?_⟩⟩
                · kernel_rfl
                · cbv
                  and_intros
                  all_goals first | exact trivial | exact ⟨rfl⟩ | exact ⟨ei⟩ | exact ⟨by kernel_rfl⟩
          · intro h2
            clear h2
            cbv
            refine ⟨[], [], ?_⟩
            cbv
            and_intros
            all_goals first | exact trivial | exact ⟨rfl⟩ | exact ⟨by kernel_rfl⟩
end Go.Proofs.Ytmdfjipjkkjpcaa

/- Node laws: Put, Drop, Halves, Join. -/
namespace Go.Proofs.Ytmdfjipjkkjpcaa
open Go.SX

def putL (es : List Ent) (e : Ent) : List Ent :=
  es.take (placeI (geP e.key) es) ++ ([e] ++ es.drop (if placeI (geP e.key) es < es.length ∧ (es.getD (placeI (geP e.key) es) default).key = e.key then placeI (geP e.key) es + 1 else placeI (geP e.key) es))

theorem rep_one (e : Ent) : RepE (.sl 4 (fun _ => 1) (litRow 4 (dvsE e))) [e] := rep_row (by simp) fun i hi j hj => by
  have hi0 : i = 0 := by omega
  subst hi0
  match j, hj with
  | 0, _ => rfl
  | 1, _ => rfl
  | 2, _ => rfl
  | 3, _ => rfl
  | j + 4, h => omega

theorem con82_3 {leaf : Bool} {A B C : DV} {a b c : List Ent} (hA : RepE A a) (hB : RepE B b) (hC : RepE C c) (ha : ∀ e ∈ a, SmallE e) (hb : ∀ e ∈ b, SmallE e) (hc : ∀ e ∈ c, SmallE e) (hl : [a, b, c].flatten.length < 1000000000000) :
    Con 82 [.bool (.s fun _ => leaf), .dat (.sl 1 (fun _ => 3) (litRow 1 [A, B, C]))] [] (.agg [.bool (.s fun _ => leaf), .own 2000])
      [(2000, .arrD 74 4 (fun _ => [a, b, c].flatten.length) (lrow encE fun _ => [a, b, c].flatten))] := by
  have h := con82 (leaf := leaf) (ls := [a, b, c]) (by
    intro x hx
    simp only [List.mem_cons, List.not_mem_nil, or_false] at hx
    rcases hx with rfl | rfl | rfl
    · exact ha
    · exact hb
    · exact hc) hl (by simp)
  refine h.args fun η G w vs hv => ?_
  match vs, hv with
  | [v1, v2], hv =>
    obtain ⟨h1, h2, -⟩ := hv
    refine ⟨h1, ?_, trivial⟩
    simp only [SVRel, DVRel] at h2 ⊢
    obtain ⟨p, cp, rfl, hcp, hr⟩ := h2
    refine ⟨p, cp, rfl, hcp, fun i hi => ?_⟩
    obtain ⟨b, o, hb, hG, hj⟩ := hr i hi
    refine ⟨b, o, hb, hG, fun j hj' => ?_⟩
    obtain ⟨u, hu, hd⟩ := hj j hj'
    refine ⟨u, hu, ?_⟩
    have hj0 : j = 0 := by omega
    subst hj0
    match i, hi with
    | 0, _ => exact hA w G u hd
    | 1, _ => exact hB w G u hd
    | 2, _ => exact hC w G u hd
    | i + 3, h => simp at h; omega
  | [], hv => exact hv.elim
  | [_], hv => exact hv.2.elim
  | _ :: _ :: _ :: _, hv => exact hv.2.2.elim

set_option maxRecDepth 20000 in
set_option maxHeartbeats 4000000 in
theorem con32 {leaf : Bool} {es : List Ent} {e : Ent} (hs : ∀ e ∈ es, SmallE e) (he : SmallE e) (hl : es.length < 100000000000) :
    Con 32 [nodeSV leaf es, entSV e] [] (.agg [.bool (.s fun _ => leaf), .own 2000]) [(2000, .arrD 74 4 (fun _ => (putL es e).length) (lrow encE fun _ => putL es e))] := by
  have hk := placeI_le (p := geP e.key) (es := es)
  have ca := con77_81 (e := e) (leaf := leaf) (es := es) (by omega)
  have hput : putL es e = es.take (placeI (geP e.key) es) ++ ([e] ++ es.drop (if placeI (geP e.key) es < es.length ∧ (es.getD (placeI (geP e.key) es) default).key = e.key then placeI (geP e.key) es + 1 else placeI (geP e.key) es)) := rfl
  obtain ⟨k, hk0⟩ : ∃ k, k = placeI (geP e.key) es := ⟨_, rfl⟩
  rw [← hk0] at hk ca hput
  obtain ⟨R, hR⟩ : ∃ R, R = putL es e := ⟨_, rfl⟩
  rw [← hR] at hput ⊢
  have hRl : R.length ≤ es.length + 1 := by
    rw [hput]; simp only [List.length_append, List.length_take, List.length_drop, List.length_cons, List.length_nil]; split <;> omega
  have hlp : R.length < 1000000000000 := by omega
  have hput1 : k < es.length → (es.getD k default).key = e.key → [es.take k, [e], es.drop (k + 1)].flatten = R := fun h h2 => by rw [hput, if_pos ⟨h, h2⟩]; simp
  have hput0 : (k < es.length → ¬ (es.getD k default).key = e.key) → [es.take k, [e], es.drop k].flatten = R := fun h => by rw [hput, if_neg (fun hc => h hc.1 hc.2)]; simp
  have so1 : sliceObl 0 (k : Int) es.length := ⟨by omega, by omega, by omega⟩
  have so2 : sliceObl (k : Int) (es.length : Int) es.length := ⟨by omega, by omega, by omega⟩
  have ra : RepE (.sl 4 (fun _ => (k : Int).toNat - 0) (subRow (lrow encE fun _ => es) fun _ => 0)) (es.take k) := rep_sub (by simp) (by omega)
  have rb : RepE (.sl 4 (fun _ => (es.length : Int).toNat - (k : Int).toNat) (subRow (lrow encE fun _ => es) fun _ => (k : Int).toNat)) (es.drop k) := rep_sub (a := es) (b := es.drop k) (l := k) (h := es.length) (by rw [List.take_of_length_le (by simp)]) (Nat.le_refl _)
  have rone := rep_one e
  have sa : ∀ x ∈ es.take k, SmallE x := fun x hx => hs x (List.mem_of_mem_take hx)
  have sb : ∀ x ∈ es.drop k, SmallE x := fun x hx => hs x (List.mem_of_mem_drop hx)
  have sc : ∀ x ∈ es.drop (k + 1), SmallE x := fun x hx => hs x (List.mem_of_mem_drop hx)
  have so : ∀ x ∈ [e], SmallE x := fun x hx => by rw [List.mem_singleton] at hx; rw [hx]; exact he
  refine con_of Try.func32 rfl rfl 43 _ rfl rfl rfl rfl ?_
  cbv
  refine ⟨_, _, ca, ⟨?_⟩, ?_⟩
  · kernel_rfl
  cbv
  refine ⟨fun h1 => ?_, fun h1 => ?_⟩
  · have h1 : (k : Int) < (es.length : Int) := of_decide_eq_true h1
    have hlt : k < es.length := by omega
    have o1 : indexObl (k : Int) es.length := ⟨by omega, h1⟩
    have bk : bound64 ((k : Int) + 1) := by unfold bound64; omega
    have so3 : sliceObl ((k : Int) + 1) (es.length : Int) es.length := ⟨by omega, by omega, by omega⟩
    have rc : RepE (.sl 4 (fun _ => (es.length : Int).toNat - ((k : Int) + 1).toNat) (subRow (lrow encE fun _ => es) fun _ => ((k : Int) + 1).toNat)) (es.drop (k + 1)) := rep_sub (a := es) (b := es.drop (k + 1)) (l := k + 1) (h := es.length) (by rw [List.take_of_length_le (by simp)]) (Nat.le_refl _)
    clear h1
    cbv
    refine ⟨⟨o1⟩, _, _, con73, ⟨?_⟩, ?_⟩
    · kernel_rfl
    cbv
    refine ⟨⟨by kernel_rfl⟩, ?_⟩
    cbv
    refine ⟨fun h2 => ?_, fun h2 => ?_⟩
    · have h2 : (es.getD k default).key = e.key := of_decide_eq_true h2
      have fl := hput1 hlt h2
      clear h2
      cbv
      refine ⟨⟨bk⟩, ?_⟩
      cbv
      refine ⟨⟨so1⟩, ⟨so3⟩, ?_⟩
      cbv
      refine ⟨_, _, con82_3 (leaf := leaf) ra rone rc sa so sc (by rw [fl]; exact hlp), ⟨?_⟩, ?_⟩
      · kernel_rfl
      cbv
      refine ⟨⟨by kernel_rfl⟩, ?_⟩
      cbv
      refine ⟨[(2000, some 7200)], [], ?_⟩
      cbv
      and_intros
      all_goals first | exact trivial | exact ⟨rfl⟩ | exact ⟨row_le fl⟩ | exact ⟨by kernel_rfl⟩
    · have h2 : ¬ (es.getD k default).key = e.key := of_decide_eq_false h2
      have fl := hput0 (fun _ => h2)
      clear h2
      cbv
      refine ⟨⟨so1⟩, ⟨so2⟩, ?_⟩
      cbv
      refine ⟨_, _, con82_3 (leaf := leaf) ra rone rb sa so sb (by rw [fl]; exact hlp), ⟨?_⟩, ?_⟩
      · kernel_rfl
      cbv
      refine ⟨⟨by kernel_rfl⟩, ?_⟩
      cbv
      refine ⟨[(2000, some 7200)], [], ?_⟩
      cbv
      and_intros
      all_goals first | exact trivial | exact ⟨rfl⟩ | exact ⟨row_le fl⟩ | exact ⟨by kernel_rfl⟩
  · have h1 : ¬ (k : Int) < (es.length : Int) := of_decide_eq_false h1
    have fl := hput0 (fun h => absurd h (by omega))
    clear h1
    cbv
    refine ⟨⟨by kernel_rfl⟩, ?_⟩
    cbv
    refine ⟨⟨so1⟩, ⟨so2⟩, ?_⟩
    cbv
    refine ⟨_, _, con82_3 (leaf := leaf) ra rone rb sa so sb (by rw [fl]; exact hlp), ⟨?_⟩, ?_⟩
    · kernel_rfl
    cbv
    refine ⟨⟨by kernel_rfl⟩, ?_⟩
    cbv
    refine ⟨[(2000, some 7200)], [], ?_⟩
    cbv
    and_intros
    all_goals first | exact trivial | exact ⟨rfl⟩ | exact ⟨row_le fl⟩ | exact ⟨by kernel_rfl⟩


def dropL (es : List Ent) (key : List UInt8) : List Ent :=
  es.take (placeI (geP key) es) ++ es.drop (if placeI (geP key) es < es.length ∧ (es.getD (placeI (geP key) es) default).key = key then placeI (geP key) es + 1 else placeI (geP key) es)
def wasB (es : List Ent) (key : List UInt8) : Bool := decide (placeI (geP key) es < es.length ∧ (es.getD (placeI (geP key) es) default).key = key)



theorem con82_2 {leaf : Bool} {A B : DV} {a b : List Ent} (hA : RepE A a) (hB : RepE B b) (ha : ∀ e ∈ a, SmallE e) (hb : ∀ e ∈ b, SmallE e) (hl : [a, b].flatten.length < 1000000000000) :
    Con 82 [.bool (.s fun _ => leaf), .dat (.sl 1 (fun _ => 2) (litRow 1 [A, B]))] [] (.agg [.bool (.s fun _ => leaf), .own 2000])
      [(2000, .arrD 74 4 (fun _ => [a, b].flatten.length) (lrow encE fun _ => [a, b].flatten))] := by
  have h := con82 (leaf := leaf) (ls := [a, b]) (by
    intro x hx
    simp only [List.mem_cons, List.not_mem_nil, or_false] at hx
    rcases hx with rfl | rfl
    · exact ha
    · exact hb) hl (by simp)
  refine h.args fun η G w vs hv => ?_
  match vs, hv with
  | [v1, v2], hv =>
    obtain ⟨h1, h2, -⟩ := hv
    refine ⟨h1, ?_, trivial⟩
    simp only [SVRel, DVRel] at h2 ⊢
    obtain ⟨p, cp, rfl, hcp, hr⟩ := h2
    refine ⟨p, cp, rfl, hcp, fun i hi => ?_⟩
    obtain ⟨b, o, hb, hG, hj⟩ := hr i hi
    refine ⟨b, o, hb, hG, fun j hj' => ?_⟩
    obtain ⟨u, hu, hd⟩ := hj j hj'
    refine ⟨u, hu, ?_⟩
    have hj0 : j = 0 := by omega
    subst hj0
    match i, hi with
    | 0, _ => exact hA w G u hd
    | 1, _ => exact hB w G u hd
    | i + 2, h => simp at h; omega
  | [], hv => exact hv.elim
  | [_], hv => exact hv.2.elim
  | _ :: _ :: _ :: _, hv => exact hv.2.2.elim

set_option maxRecDepth 20000 in
set_option maxHeartbeats 4000000 in
theorem con34 {leaf : Bool} {es : List Ent} {key : List UInt8} (hs : ∀ e ∈ es, SmallE e) (hl : es.length < 100000000000) :
    Con 34 [nodeSV leaf es, .dat (.bytes fun _ => key)] [] (.tup [.agg [.bool (.s fun _ => leaf), .own 2000], .bool (.s fun _ => wasB es key)]) [(2000, .arrD 74 4 (fun _ => (dropL es key).length) (lrow encE fun _ => dropL es key))] := by
  have hk := placeI_le (p := geP key) (es := es)
  have ca := con77_83 (key := key) (leaf := leaf) (es := es) (by omega)
  have hdr : dropL es key = es.take (placeI (geP key) es) ++ es.drop (if placeI (geP key) es < es.length ∧ (es.getD (placeI (geP key) es) default).key = key then placeI (geP key) es + 1 else placeI (geP key) es) := rfl
  have hwb : wasB es key = decide (placeI (geP key) es < es.length ∧ (es.getD (placeI (geP key) es) default).key = key) := rfl
  obtain ⟨k, hk0⟩ : ∃ k, k = placeI (geP key) es := ⟨_, rfl⟩
  rw [← hk0] at hk ca hdr hwb
  obtain ⟨R, hR⟩ : ∃ R, R = dropL es key := ⟨_, rfl⟩
  obtain ⟨wb, hw⟩ : ∃ wb, wb = wasB es key := ⟨_, rfl⟩
  rw [← hR] at hdr ⊢
  rw [← hw] at hwb ⊢
  have hRl : R.length ≤ es.length := by
    rw [hdr]; simp only [List.length_append, List.length_take, List.length_drop]; split <;> omega
  have hlp : R.length < 1000000000000 := by omega
  have hput1 : (k < es.length ∧ (es.getD k default).key = key) → [es.take k, es.drop (k + 1)].flatten = R := fun h => by rw [hdr, if_pos h]; simp
  have hput0 : ¬ (k < es.length ∧ (es.getD k default).key = key) → es = R := fun h => by rw [hdr, if_neg h]; simp
  have hwas1 : (k < es.length ∧ (es.getD k default).key = key) → true = wb := fun h => by rw [hwb, decide_eq_true h]
  have hwas0 : ¬ (k < es.length ∧ (es.getD k default).key = key) → false = wb := fun h => by rw [hwb, decide_eq_false h]
  have so1 : sliceObl 0 (k : Int) es.length := ⟨by omega, by omega, by omega⟩
  have ra : RepE (.sl 4 (fun _ => (k : Int).toNat - 0) (subRow (lrow encE fun _ => es) fun _ => 0)) (es.take k) := rep_sub (by simp) (by omega)
  have sa : ∀ x ∈ es.take k, SmallE x := fun x hx => hs x (List.mem_of_mem_take hx)
  have sc : ∀ x ∈ es.drop (k + 1), SmallE x := fun x hx => hs x (List.mem_of_mem_drop hx)
  refine con_of Try.func34 rfl rfl 45 _ rfl rfl rfl rfl ?_
  cbv
  refine ⟨_, _, ca, ⟨?_⟩, ?_⟩
  · kernel_rfl
  cbv
  refine ⟨fun h1 => ?_, fun h1 => ?_⟩
  · have h1 : (k : Int) = (es.length : Int) := of_decide_eq_true h1
    have hn : ¬ (k < es.length ∧ (es.getD k default).key = key) := fun h => by omega
    have fl := hput0 hn
    have ew := hwas0 hn
    clear h1
    cbv
    refine ⟨⟨by kernel_rfl⟩, ?_⟩
    cbv
    refine ⟨_, _, con82_1 (leaf := leaf) rep_self hs (by omega), ⟨?_⟩, ?_⟩
    · kernel_rfl
    cbv
    refine ⟨[(2000, some 6100)], [], ?_⟩
    cbv
    and_intros
    all_goals first | exact trivial | exact ⟨rfl⟩ | exact ⟨ew⟩ | exact ⟨row_le fl⟩ | exact ⟨by kernel_rfl⟩
  · have h1 : ¬ (k : Int) = (es.length : Int) := of_decide_eq_false h1
    have hlt : k < es.length := by omega
    have o1 : indexObl (k : Int) es.length := ⟨by omega, by omega⟩
    have bk : bound64 ((k : Int) + 1) := by unfold bound64; omega
    have so3 : sliceObl ((k : Int) + 1) (es.length : Int) es.length := ⟨by omega, by omega, by omega⟩
    have rc : RepE (.sl 4 (fun _ => (es.length : Int).toNat - ((k : Int) + 1).toNat) (subRow (lrow encE fun _ => es) fun _ => ((k : Int) + 1).toNat)) (es.drop (k + 1)) := rep_sub (a := es) (b := es.drop (k + 1)) (l := k + 1) (h := es.length) (by rw [List.take_of_length_le (by simp)]) (Nat.le_refl _)
    clear h1
    cbv
    refine ⟨⟨o1⟩, _, _, con73, ⟨?_⟩, ?_⟩
    · kernel_rfl
    cbv
    refine ⟨⟨by kernel_rfl⟩, ?_⟩
    cbv
    refine ⟨fun h2 => ?_, fun h2 => ?_⟩
    · have h2 : ¬ (es.getD k default).key = key := of_decide_eq_false (bnot_t h2)
      have hn : ¬ (k < es.length ∧ (es.getD k default).key = key) := fun h => h2 h.2
      have fl := hput0 hn
      have ew := hwas0 hn
      clear h2
      cbv
      refine ⟨_, _, con82_1 (leaf := leaf) rep_self hs (by omega), ⟨?_⟩, ?_⟩
      · kernel_rfl
      cbv
      refine ⟨[(2000, some 6100)], [], ?_⟩
      cbv
      and_intros
      all_goals first | exact trivial | exact ⟨rfl⟩ | exact ⟨ew⟩ | exact ⟨row_le fl⟩ | exact ⟨by kernel_rfl⟩
    · have h2 : (es.getD k default).key = key := of_decide_eq_true (bnot_f h2)
      have hn : k < es.length ∧ (es.getD k default).key = key := ⟨hlt, h2⟩
      have fl := hput1 hn
      have ew := hwas1 hn
      clear h2
      cbv
      refine ⟨⟨so1⟩, ⟨bk⟩, ⟨so3⟩, ?_⟩
      cbv
      refine ⟨_, _, con82_2 (leaf := leaf) ra rc sa sc (by rw [fl]; exact hlp), ⟨?_⟩, ?_⟩
      · kernel_rfl
      cbv
      refine ⟨⟨by kernel_rfl⟩, ?_⟩
      cbv
      refine ⟨[(2000, some 7400)], [], ?_⟩
      cbv
      and_intros
      all_goals first | exact trivial | exact ⟨rfl⟩ | exact ⟨ew⟩ | exact ⟨row_le fl⟩ | exact ⟨by kernel_rfl⟩


/-- A list with another key at a place. -/
def setKey (a : List Ent) (i : Nat) (k : List UInt8) : List Ent := a.set i { a.getD i default with key := k }

theorem eqN_false {a b : Nat} (h : a ≠ b) : eqN a b = false := decide_eq_false h
theorem store_key {a : List Ent} {n i : Nat} {bs : List UInt8} : StoreOk 4 n i (lrow encE fun _ => a) 0 (.bytes fun _ => bs) := by
  refine ⟨?_, fun i' _ hne j hj => ?_⟩
  · simp only [putRow, eqN_refl, cond_true, lrow, encE, mergeDV]
  · match j, hj with
    | 0, _ => simp only [putRow, eqN_refl, cond_true, lrow, encE, mergeDV, eqN_false hne, cond_false]
    | 1, _ => rfl
    | 2, _ => rfl
    | 3, _ => rfl
    | j + 4, h => omega
theorem setKey_len {a : List Ent} {i : Nat} {bs : List UInt8} : a.length = (setKey a i bs).length := by simp [setKey]
theorem setKey_getD {a : List Ent} {i q : Nat} {bs : List UInt8} (h : q < a.length) : (setKey a i bs).getD q default = if q = i then { a.getD i default with key := bs } else a.getD q default := by
  simp only [setKey, List.getD_eq_getElem?_getD, List.getElem?_set]
  by_cases hq : i = q
  · subst hq
    simp [h]
  · rw [if_neg hq, if_neg (fun e => hq e.symm)]
theorem setKey_row {a : List Ent} {i : Nat} {bs : List UInt8} : RowEq 4 (setKey a i bs).length (putRow (lrow encE fun _ => a) (fun _ => i) 0 (.bytes fun _ => bs)) (lrow encE fun _ => setKey a i bs) := by
  intro q hq j hj
  have hq : q < a.length := by rwa [← setKey_len] at hq
  have hg := setKey_getD (i := i) (bs := bs) hq
  match j, hj with
  | 0, _ =>
    simp only [putRow, eqN_refl, cond_true, lrow, encE, mergeDV, hg]
    by_cases h : q = i
    · subst h; simp only [eqN_refl, cond_true, if_true]
    · simp only [eqN_false h, cond_false, if_neg h]
  | 1, _ => simp only [putRow, lrow, encE, show eqN 1 0 = false from rfl, cond_false, hg]; split <;> simp_all
  | 2, _ => simp only [putRow, lrow, encE, show eqN 2 0 = false from rfl, cond_false, hg]; split <;> simp_all
  | 3, _ => simp only [putRow, lrow, encE, show eqN 3 0 = false from rfl, cond_false, hg]; split <;> simp_all
  | j + 4, h => omega

set_option maxRecDepth 20000 in
set_option maxHeartbeats 4000000 in
theorem con35f {es : List Ent} (hw : weight es + 20 * es.length < 1000000000000) (hs : ∀ e ∈ es, SmallE e) (h2 : 2 ≤ es.length) :
    Con 35 [nodeSV false es] [] (.tup [.agg [.bool (.s fun _ => false), .own 2000], .agg [.bool (.s fun _ => false), .own 2001], .own 2002])
      [(2000, .arrD 74 4 (fun _ => (es.take (cutK false es)).length) (lrow encE fun _ => es.take (cutK false es))),
       (2001, .arrD 74 4 (fun _ => (setKey (es.drop (cutK false es)) 0 []).length) (lrow encE fun _ => setKey (es.drop (cutK false es)) 0 [])),
       (2002, .barr 5 fun _ => ((es.drop (cutK false es)).getD 0 default).key)] := by
  have b0 : bound64 ((2 + sizeL false es) - 2) := by have := sizeL_le false es; unfold bound64; omega
  refine con_of Try.func35 rfl rfl 87 _ rfl rfl rfl rfl ?_
  cbv
  refine ⟨fun h1 => ?_, fun h1 => ?_⟩
  · have h1 : (es.length : Int) < 2 := of_decide_eq_true h1
    have h1 : ¬ 2 ≤ es.length := by omega
    exfalso
    exact h1 h2
  · clear h1
    cbv
    refine ⟨_, _, con14 (leaf := false) (es := es) hw, ⟨?_⟩, ?_⟩
    · rfl
    cbv
    refine ⟨⟨b0⟩, ?_⟩
    cbv
    refine ⟨Nat, [], fun k => [(6, .int .i64 (.s fun _ => sizeL false (es.take k))), (7, .int .i64 (.s fun _ => (k : Int)))],
      fun _ => [(1, .cells 24 [.bool (.s fun _ => false), .dat (entsDV es)]), (2, .cells 24 [.bool .f, .nil]), (3, .cells 24 [.bool .f, .nil])],
      fun k => k < es.length ∧ cutF false es (es.length - k) k = cutK false es, fun k => es.length - k, 0, [], ⟨by omega, rfl⟩, ⟨?_⟩, fun k hx => ?_⟩
    · cbv
      and_intros
      all_goals first | exact trivial | exact ⟨rfl⟩ | exact ⟨rfl, fun _ _ _ _ => rfl⟩ | exact ⟨setKey_len, setKey_row⟩ | exact ⟨by kernel_rfl⟩
    · obtain ⟨hk, hc⟩ : k < es.length ∧ cutF false es (es.length - k) k = cutK false es := hx
      have oi : indexObl (k : Int) es.length := ⟨by omega, by omega⟩
      have bk : bound64 ((k : Int) + 1) := by unfold bound64; omega
      have bl : bound64 ((es.length : Int) - 1) := by unfold bound64; omega
      have ek : (k : Int) + 1 = ((k + 1 : Nat) : Int) := by omega
      have b2 : bound64 (2 * sizeL false (es.take k)) := by have := sizeL_le false (es.take k); have := sizeL_mono false (es := es) (i := k); have := sizeL_le false es; unfold bound64; omega
      have b5 : 2 + sizeL false es - 2 = sizeL false es := by omega
      have hms : es.length - (k + 1) < es.length - k := by omega
      have hnx : sizeL false (es.take (k + 1)) = sizeL false (es.take k) + bytesOfI false (es.getD k default).key (es.getD k default).val (es.getD k default).page := by
        rw [getD_take es hk, sizeL_app]; simp only [sizeL]; omega
      have hnx' := hnx.symm
      have so1 : sliceObl 0 (k : Int) es.length := ⟨by omega, by omega, by omega⟩
      have so2 : sliceObl (k : Int) (es.length : Int) es.length := ⟨by omega, by omega, by omega⟩
      have oi0 : indexObl 0 (es.drop k).length := ⟨by omega, by simp; omega⟩
      have ha : ∀ e ∈ es.take k, SmallE e := fun e he => hs e (List.mem_of_mem_take he)
      have hb : ∀ e ∈ es.drop k, SmallE e := fun e he => hs e (List.mem_of_mem_drop he)
      have la : (es.take k).length < 1000000000000 := by simp only [List.length_take]; omega
      have lb : (es.drop k).length < 1000000000000 := by simp only [List.length_drop]; omega
      have ra : RepE (.sl 4 (fun _ => (k : Int).toNat - 0) (subRow (lrow encE fun _ => es) fun _ => 0)) (es.take k) := rep_sub (by simp) (by omega)
      have rb : RepE (.sl 4 (fun _ => (es.length : Int).toNat - (k : Int).toNat) (subRow (lrow encE fun _ => es) fun _ => (k : Int).toNat)) (es.drop k) := rep_sub (a := es) (b := es.drop k) (l := k) (h := es.length) (by rw [List.take_of_length_le (by simp)]) (Nat.le_refl _)
      have kl : ((es.drop k).getD 0 default).key.length < 1000000000000 := (hb _ (getD_mem (by simp; omega))).1
      cbv
      refine ⟨fun h3 => ?_, fun h3 => ?_⟩
      · have h3 : (k : Int) = 0 := of_decide_eq_true h3
        have hg : goesB false es k = true := by simp only [goesB, decide_eq_true (show k = 0 by omega), Bool.true_or]
        have hlt : k + 1 < es.length := by omega
        have ob1 : bound64 ((sizeL false (es.take k)) + bytesOfI false (es.getD k default).key (es.getD k default).val (es.getD k default).page) := by
          rw [← hnx]; have := sizeL_le false (es.take (k + 1)); have := sizeL_mono false (es := es) (i := k + 1); have := sizeL_le false es; unfold bound64; omega
        have hgo := (cut_go hk hg).trans hc
        clear hg hc
        cbv
        refine ⟨⟨oi⟩, _, _, con44 (leaf := false) (Nat.lt_of_le_of_lt (by have := weight_take es hk; omega : (es.getD k default).key.length + (es.getD k default).val.length ≤ weight es) (by omega)), ⟨?_⟩, ?_⟩
        · rfl
        cbv
        refine ⟨⟨ob1⟩, ⟨by kernel_rfl⟩, ?_⟩
        cbv
        refine ⟨⟨bk⟩, k + 1, [], ⟨hlt, hgo⟩, hms, ⟨?_⟩, ⟨?_⟩⟩
        · kernel_rfl
        · cbv
          and_intros
          all_goals first | exact trivial | exact ⟨hnx'⟩ | exact ⟨ek⟩ | exact ⟨rfl⟩ | exact ⟨rfl, fun _ _ _ _ => rfl⟩ | exact ⟨setKey_len, setKey_row⟩ | exact ⟨by kernel_rfl⟩
      · have h3 : ¬ (k : Int) = 0 := of_decide_eq_false h3
        have h3 : ¬ k = 0 := by omega
        cbv
        refine ⟨⟨b2⟩, ?_⟩
        cbv
        refine ⟨fun h4 => ?_, fun h4 => ?_⟩
        · have h4 : 2 * sizeL false (es.take k) < 2 + sizeL false es - 2 := of_decide_eq_true h4
          cbv
          refine ⟨⟨bl⟩, ?_⟩
          cbv
          refine ⟨fun h5 => ?_, fun h5 => ?_⟩
          · have h5 : (k : Int) < (es.length : Int) - 1 := of_decide_eq_true h5
            have hlt : k + 1 < es.length := by omega
            have hg : goesB false es k = true := by simp only [goesB, decide_eq_true (show 2 * sizeL false (es.take k) < sizeL false es by omega), decide_eq_true (show k < es.length - 1 by omega), Bool.true_and, Bool.or_true]
            have ob1 : bound64 ((sizeL false (es.take k)) + bytesOfI false (es.getD k default).key (es.getD k default).val (es.getD k default).page) := by
              rw [← hnx]; have := sizeL_le false (es.take (k + 1)); have := sizeL_mono false (es := es) (i := k + 1); have := sizeL_le false es; unfold bound64; omega
            have hgo := (cut_go hk hg).trans hc
            clear hg hc
            cbv
            refine ⟨⟨oi⟩, _, _, con44 (leaf := false) (Nat.lt_of_le_of_lt (by have := weight_take es hk; omega : (es.getD k default).key.length + (es.getD k default).val.length ≤ weight es) (by omega)), ⟨?_⟩, ?_⟩
            · rfl
            cbv
            refine ⟨⟨ob1⟩, ⟨by kernel_rfl⟩, ?_⟩
            cbv
            refine ⟨⟨bk⟩, k + 1, [], ⟨hlt, hgo⟩, hms, ⟨?_⟩, ⟨?_⟩⟩
            · kernel_rfl
            · cbv
              and_intros
              all_goals first | exact trivial | exact ⟨hnx'⟩ | exact ⟨ek⟩ | exact ⟨rfl⟩ | exact ⟨rfl, fun _ _ _ _ => rfl⟩ | exact ⟨setKey_len, setKey_row⟩ | exact ⟨by kernel_rfl⟩
          · have h5 : ¬ (k : Int) < (es.length : Int) - 1 := of_decide_eq_false h5
            have hg : goesB false es k = false := by simp only [goesB, decide_eq_false h3, decide_eq_false (show ¬ k < es.length - 1 by omega), Bool.and_false, Bool.or_false]
            have hkk : k = cutK false es := by rw [← hc]; exact (cut_end hk hg).symm
            rw [← hkk]
            clear hg hc
            cbv
            refine ⟨⟨so1⟩, _, _, con82_1 (leaf := false) ra ha la, ⟨?_⟩, ?_⟩
            · rfl
            cbv
            refine ⟨⟨so2⟩, _, _, con82_1 (leaf := false) rb hb lb, ⟨?_⟩, ?_⟩
            · kernel_rfl
            cbv
            refine ⟨⟨by kernel_rfl⟩, ?_⟩
            cbv
            refine ⟨⟨oi0⟩, _, _, con84 kl, ⟨?_⟩, ?_⟩
            · kernel_rfl
            cbv
            refine ⟨fun _ => ?_, fun h => (by cases h)⟩
            cbv
            refine ⟨⟨oi0⟩, ⟨store_key⟩, ?_⟩
            cbv
            refine ⟨⟨by kernel_rfl⟩, ?_⟩
            cbv
            refine ⟨[(2000, some 9200), (2001, some 10000), (2002, some 10600)], [], ?_⟩
            cbv
            and_intros
            all_goals first | exact trivial | exact ⟨rfl⟩ | exact ⟨rfl, fun _ _ _ _ => rfl⟩ | exact ⟨setKey_len, setKey_row⟩ | exact ⟨by kernel_rfl⟩
        · have h4 : ¬ 2 * sizeL false (es.take k) < 2 + sizeL false es - 2 := of_decide_eq_false h4
          have hg : goesB false es k = false := by simp only [goesB, decide_eq_false h3, decide_eq_false (show ¬ 2 * sizeL false (es.take k) < sizeL false es by omega), Bool.false_and, Bool.or_false]
          have hkk : k = cutK false es := by rw [← hc]; exact (cut_end hk hg).symm
          rw [← hkk]
          clear hg hc
          cbv
          refine ⟨⟨so1⟩, _, _, con82_1 (leaf := false) ra ha la, ⟨?_⟩, ?_⟩
          · rfl
          cbv
          refine ⟨⟨so2⟩, _, _, con82_1 (leaf := false) rb hb lb, ⟨?_⟩, ?_⟩
          · kernel_rfl
          cbv
          refine ⟨⟨by kernel_rfl⟩, ?_⟩
          cbv
          refine ⟨⟨oi0⟩, _, _, con84 kl, ⟨?_⟩, ?_⟩
          · kernel_rfl
          cbv
          refine ⟨fun _ => ?_, fun h => (by cases h)⟩
          cbv
          refine ⟨⟨oi0⟩, ⟨store_key⟩, ?_⟩
          cbv
          refine ⟨⟨by kernel_rfl⟩, ?_⟩
          cbv
          refine ⟨[(2000, some 9200), (2001, some 10000), (2002, some 10600)], [], ?_⟩
          cbv
          and_intros
          all_goals first | exact trivial | exact ⟨rfl⟩ | exact ⟨rfl, fun _ _ _ _ => rfl⟩ | exact ⟨setKey_len, setKey_row⟩ | exact ⟨by kernel_rfl⟩
set_option maxRecDepth 20000 in
set_option maxHeartbeats 4000000 in
theorem con35s {leaf : Bool} {es : List Ent} (hs : ∀ e ∈ es, SmallE e) (h2 : es.length < 2) :
    Con 35 [nodeSV leaf es] [] (.tup [.agg [.bool (.s fun _ => leaf), .own 2000], .agg [.bool (.s fun _ => leaf), .nil], .nil]) [(2000, .arrD 74 4 (fun _ => es.length) (lrow encE fun _ => es))] := by
  refine con_of Try.func35 rfl rfl 87 _ rfl rfl rfl rfl ?_
  cbv
  refine ⟨fun h1 => ?_, fun h1 => ?_⟩
  · cbv
    refine ⟨_, _, con82_1 (leaf := leaf) rep_self hs (by omega), ⟨?_⟩, ?_⟩
    · kernel_rfl
    cbv
    refine ⟨⟨by kernel_rfl⟩, ?_⟩
    cbv
    refine ⟨[(2000, some 5000)], [], ?_⟩
    cbv
    and_intros
    all_goals first | exact trivial | exact ⟨rfl⟩ | exact ⟨rfl, fun _ _ _ _ => rfl⟩ | exact ⟨by kernel_rfl⟩
  · have h1 : ¬ (es.length : Int) < 2 := of_decide_eq_false h1
    exfalso
    omega

def joinL (leaf : Bool) (a b : List Ent) (key : List UInt8) : List Ent := if leaf = false ∧ a.length < (a ++ b).length then setKey (a ++ b) a.length key else a ++ b

set_option maxRecDepth 20000 in
set_option maxHeartbeats 4000000 in
theorem con36 {leaf lb : Bool} {a b : List Ent} {key : List UInt8} (ha : ∀ e ∈ a, SmallE e) (hb : ∀ e ∈ b, SmallE e) (hk : key.length < 1000000000000) (hl : a.length + b.length < 100000000000) :
    Con 36 [nodeSV leaf a, nodeSV lb b, .dat (.bytes fun _ => key)] [] (.agg [.bool (.s fun _ => leaf), .own 2000]) [(2000, .arrD 74 4 (fun _ => (joinL leaf a b key).length) (lrow encE fun _ => joinL leaf a b key))] := by
  obtain ⟨R, hR⟩ : ∃ R, R = a ++ b := ⟨_, rfl⟩
  have hf : [a, b].flatten = R := by rw [hR]; simp
  have hRl : R.length = a.length + b.length := by rw [hR]; simp
  obtain ⟨J, hJ⟩ : ∃ J, J = joinL leaf a b key := ⟨_, rfl⟩
  have hj : J = if leaf = false ∧ a.length < R.length then setKey R a.length key else R := by rw [hJ, hR]; rfl
  rw [← hJ]
  obtain ⟨n, hn⟩ : ∃ n, n = a.length := ⟨_, rfl⟩
  have hj1 : leaf = false → n < R.length → J = setKey R n key := fun h1 h2 => by rw [hj, hn, if_pos ⟨h1, by omega⟩]
  have hj0 : ¬ (leaf = false ∧ n < R.length) → R = J := fun h => by rw [hj, if_neg (fun hc => h ⟨hc.1, by omega⟩)]
  have ca := con82_2 (leaf := leaf) (rep_self (a := a)) (rep_self (a := b)) ha hb (by rw [hf]; omega)
  rw [hf] at ca
  clear hj hJ hR hf
  refine con_of Try.func36 rfl rfl 38 _ rfl rfl rfl rfl ?_
  cbv
  refine ⟨_, _, ca, ⟨?_⟩, ?_⟩
  · kernel_rfl
  cbv
  rw [← hn]
  refine ⟨fun h1 => ?_, fun h1 => ?_⟩
  · have h1 : leaf = false := bnot_t h1
    cbv
    refine ⟨fun h2 => ?_, fun h2 => ?_⟩
    · have h2 : (n : Int) < (R.length : Int) := of_decide_eq_true h2
      have hlt : n < R.length := by omega
      have o1 : indexObl (n : Int) R.length := ⟨by omega, h2⟩
      have ej := hj1 h1 hlt
      have e1 : R.length = J.length := by rw [ej]; exact setKey_len
      have e2 : RowEq 4 J.length (putRow (lrow encE fun _ => R) (fun _ => n) 0 (.bytes fun _ => key)) (lrow encE fun _ => J) := by rw [ej]; exact setKey_row
      clear h2
      cbv
      refine ⟨_, _, con84 hk, ⟨?_⟩, ?_⟩
      · kernel_rfl
      cbv
      refine ⟨⟨o1⟩, ⟨store_key⟩, ?_⟩
      cbv
      refine ⟨⟨by kernel_rfl⟩, ?_⟩
      cbv
      refine ⟨[(2000, some 4600)], [], ?_⟩
      cbv
      and_intros
      all_goals first | exact trivial | exact ⟨rfl⟩ | exact ⟨e1, e2⟩ | exact ⟨by kernel_rfl⟩
    · have h2 : ¬ (n : Int) < (R.length : Int) := of_decide_eq_false h2
      have ej : R = J := hj0 (fun h => absurd h.2 (by omega))
      clear h2
      cbv
      refine ⟨[(2000, some 4600)], [], ?_⟩
      cbv
      and_intros
      all_goals first | exact trivial | exact ⟨rfl⟩ | exact ⟨row_le ej⟩ | exact row_le ej | exact ⟨by kernel_rfl⟩
  · have h1 : leaf = true := bnot_f h1
    have ej : R = J := hj0 (fun h => absurd h.1 (by rw [h1]; decide))
    cbv
    refine ⟨[(2000, some 4600)], [], ?_⟩
    cbv
    and_intros
    all_goals first | exact trivial | exact ⟨rfl⟩ | exact ⟨row_le ej⟩ | exact row_le ej | exact ⟨by kernel_rfl⟩
end Go.Proofs.Ytmdfjipjkkjpcaa

/- Node laws: what Put comes to. -/
namespace Go.Proofs.Ytmdfjipjkkjpcaa
open Go.SX

abbrev Less (a b : Ent) : Prop := Lib.compareBytes a.key b.key < 0
def Up (es : List Ent) : Prop := es.Pairwise Less

theorem up_rises {es : List Ent} (h : Up es) : RisesL es := by
  intro i j hij hj
  have := List.pairwise_iff_getElem.1 h i j (by omega) hj hij
  simpa [List.getD_eq_getElem?_getD, List.getElem?_eq_getElem hj, List.getElem?_eq_getElem (show i < es.length by omega)] using this

theorem less_irr {a : Ent} : ¬ Less a a := by unfold Less; rw [cmp_self]; omega

theorem put_split {es : List Ent} (h : Up es) (e : Ent) : ∃ A M C, es = A ++ (M ++ C) ∧ putL es e = A ++ e :: C ∧ (∀ x ∈ A, Less x e) ∧ (∀ x ∈ C, Less e x) ∧ ∀ x ∈ M, x.key = e.key := by
  have hr := up_rises h
  obtain ⟨l1, l2⟩ := place_law (ge_mono hr e.key)
  have hle := placeI_le (p := geP e.key) (es := es)
  have hput : putL es e = es.take (placeI (geP e.key) es) ++ ([e] ++ es.drop (if placeI (geP e.key) es < es.length ∧ (es.getD (placeI (geP e.key) es) default).key = e.key then placeI (geP e.key) es + 1 else placeI (geP e.key) es)) := rfl
  generalize placeI (geP e.key) es = k at l1 l2 hle hput
  have hA : ∀ x ∈ es.take k, Less x e := by
    intro x hx
    obtain ⟨i, hi, rfl⟩ := List.getElem_of_mem hx
    have hi' : i < k ∧ i < es.length := by simp at hi; omega
    have := l1 i hi'.1
    simp only [geP, decide_eq_false_iff_not] at this
    simp only [List.getElem_take]
    rw [List.getD_eq_getElem?_getD, List.getElem?_eq_getElem hi'.2] at this
    simp only [Option.getD_some] at this
    unfold Less; omega
  have hge : ∀ i (hi : i < es.length), k ≤ i → 0 ≤ Lib.compareBytes es[i].key e.key := by
    intro i hi hk
    have := l2 i hk hi
    simp only [geP, decide_eq_true_eq] at this
    rwa [List.getD_eq_getElem?_getD, List.getElem?_eq_getElem hi] at this
  by_cases hc : k < es.length ∧ (es.getD k default).key = e.key
  · rw [if_pos hc] at hput
    have hek : es[k].key = e.key := by have := hc.2; rwa [List.getD_eq_getElem?_getD, List.getElem?_eq_getElem hc.1] at this
    refine ⟨es.take k, [es[k]], es.drop (k + 1), ?_, by rw [hput]; rfl, hA, ?_, ?_⟩
    · conv => lhs; rw [← List.take_append_drop k es, List.drop_eq_getElem_cons hc.1]
      simp
    · intro x hx
      obtain ⟨i, hi, rfl⟩ := List.getElem_of_mem hx
      simp only [List.length_drop] at hi
      simp only [List.getElem_drop]
      have := List.pairwise_iff_getElem.1 h k (k + 1 + i) hc.1 (by omega) (by omega)
      unfold Less at this ⊢
      rwa [hek] at this
    · intro x hx
      rw [List.mem_singleton] at hx
      rw [hx]; exact hek
  · rw [if_neg hc] at hput
    refine ⟨es.take k, [], es.drop k, by simp, by rw [hput]; rfl, hA, ?_, fun x hx => by cases hx⟩
    intro x hx
    obtain ⟨i, hi, rfl⟩ := List.getElem_of_mem hx
    simp only [List.length_drop] at hi
    simp only [List.getElem_drop]
    have hk : k < es.length := by omega
    have hne : es[k].key ≠ e.key := fun he => hc ⟨hk, by rw [List.getD_eq_getElem?_getD, List.getElem?_eq_getElem hk]; exact he⟩
    have h0 := hge k hk (Nat.le_refl _)
    have h0' : Less e es[k] := by
      have h1 := cmp_anti es[k].key e.key
      have h2 : Lib.compareBytes es[k].key e.key ≠ 0 := fun hz => hne (cmp_zero hz)
      unfold Less; omega
    by_cases hi0 : i = 0
    · subst hi0; exact h0'
    · exact cmp_trans h0' (List.pairwise_iff_getElem.1 h k (k + i) hk (by omega) (by omega))

theorem put_up {es : List Ent} (h : Up es) (e : Ent) : Up (putL es e) := by
  obtain ⟨A, M, C, h1, h2, hA, hC, -⟩ := put_split h e
  rw [h2]
  unfold Up at h ⊢
  rw [h1, List.pairwise_append] at h
  obtain ⟨a1, a2, a3⟩ := h
  have c1 := (List.pairwise_append.1 a2).2.1
  rw [List.pairwise_append]
  refine ⟨a1, List.pairwise_cons.2 ⟨hC, c1⟩, fun x hx y hy => ?_⟩
  rcases List.mem_cons.1 hy with rfl | hy
  · exact hA x hx
  · exact a3 x hx y (by simp [hy])
theorem put_mem {es : List Ent} (h : Up es) (e x : Ent) : x ∈ putL es e ↔ x = e ∨ (x ∈ es ∧ x.key ≠ e.key) := by
  obtain ⟨A, M, C, h1, h2, hA, hC, hM⟩ := put_split h e
  rw [h2, h1]
  simp only [List.mem_append, List.mem_cons]
  have nA : x ∈ A → x.key ≠ e.key := fun hx he => by have := hA x hx; unfold Less at this; rw [he, cmp_self] at this; omega
  have nC : x ∈ C → x.key ≠ e.key := fun hx he => by have := hC x hx; unfold Less at this; rw [he, cmp_self] at this; omega
  constructor
  · rintro (hx | rfl | hx)
    · exact .inr ⟨.inl hx, nA hx⟩
    · exact .inl rfl
    · exact .inr ⟨.inr (.inr hx), nC hx⟩
  · rintro (rfl | ⟨hx | hx | hx, hn⟩)
    · exact .inr (.inl rfl)
    · exact .inl hx
    · exact absurd (hM x hx) hn
    · exact .inr (.inr hx)
theorem put_len {es : List Ent} (h : Up es) (e : Ent) (hn : ∀ x ∈ es, x.key ≠ e.key) : (putL es e).length = es.length + 1 := by
  obtain ⟨A, M, C, h1, h2, -, -, hM⟩ := put_split h e
  have : M = [] := by
    cases M with
    | nil => rfl
    | cons x M => exact absurd (hM x (by simp)) (hn x (by rw [h1]; simp))
  subst this
  rw [h2]
  conv => rhs; rw [h1]
  simp only [List.length_append, List.length_cons, List.nil_append]; omega

theorem up_unique : ∀ {a b : List Ent}, Up a → Up b → (∀ x, x ∈ a ↔ x ∈ b) → a = b
  | [], [], _, _, _ => rfl
  | [], y :: b, _, _, h => by have := (h y).2 (by simp); cases this
  | x :: a, [], _, _, h => by have := (h x).1 (by simp); cases this
  | x :: a, y :: b, ha, hb, h => by
      obtain ⟨a1, a2⟩ := List.pairwise_cons.1 ha
      obtain ⟨b1, b2⟩ := List.pairwise_cons.1 hb
      have hxy : x = y := by
        rcases List.mem_cons.1 ((h x).1 (by simp)) with h1 | h1
        · exact h1
        · rcases List.mem_cons.1 ((h y).2 (by simp)) with h2 | h2
          · exact h2.symm
          · exact absurd (cmp_trans (a1 y h2) (b1 x h1)) less_irr
      subst hxy
      rw [up_unique a2 b2 fun z => ?_]
      constructor
      · intro hz
        rcases List.mem_cons.1 ((h z).1 (by simp [hz])) with h1 | h1
        · subst h1; exact absurd (a1 _ hz) less_irr
        · exact h1
      · intro hz
        rcases List.mem_cons.1 ((h z).2 (by simp [hz])) with h1 | h1
        · subst h1; exact absurd (b1 _ hz) less_irr
        · exact h1

def putAll (m : List Ent) : List Ent := m.foldl putL []
theorem putAll_next {m : List Ent} {i : Nat} (hi : i < m.length) : putAll (m.take (i + 1)) = putL (putAll (m.take i)) (m.getD i default) := by
  rw [getD_take m hi]; simp [putAll]
def Unlike (m : List Ent) : Prop := ∀ i j, i < j → j < m.length → (m.getD i default).key ≠ (m.getD j default).key

theorem putAll_law {m : List Ent} (hd : Unlike m) : ∀ n, n ≤ m.length → Up (putAll (m.take n)) ∧ (∀ x, x ∈ putAll (m.take n) ↔ x ∈ m.take n) ∧ (putAll (m.take n)).length = n
  | 0, _ => ⟨by simp [putAll, Up], by simp [putAll], by simp [putAll]⟩
  | n + 1, hn => by
      obtain ⟨h1, h2, h3⟩ := putAll_law hd n (by omega)
      have hne : ∀ x ∈ m.take n, x.key ≠ (m.getD n default).key := by
        intro x hx
        obtain ⟨i, hi, rfl⟩ := List.getElem_of_mem hx
        have hi' : i < n ∧ i < m.length := by simp at hi; omega
        have := hd i n hi'.1 (by omega)
        simp only [List.getElem_take]
        rwa [List.getD_eq_getElem?_getD, List.getElem?_eq_getElem hi'.2] at this
      rw [putAll_next (by omega)]
      refine ⟨put_up h1 _, fun x => ?_, ?_⟩
      · rw [put_mem h1, h2, getD_take m (by omega), List.mem_append, List.mem_singleton]
        constructor
        · rintro (h | ⟨h, _⟩)
          · exact .inr h
          · exact .inl h
        · rintro (h | h)
          · exact .inr ⟨h, hne x h⟩
          · exact .inl h
      · rw [put_len h1 _ (fun x hx => hne x ((h2 x).1 hx)), h3]

theorem unlike_rev {m : List Ent} (h : Unlike m) : Unlike m.reverse := by
  intro i j hij hj
  simp only [List.length_reverse] at hj
  have := h (m.length - 1 - j) (m.length - 1 - i) (by omega) (by omega)
  have e1 : m.reverse.getD i default = m.getD (m.length - 1 - i) default := by
    rw [List.getD_eq_getElem?_getD, List.getD_eq_getElem?_getD, List.getElem?_reverse (by omega)]
  have e2 : m.reverse.getD j default = m.getD (m.length - 1 - j) default := by
    rw [List.getD_eq_getElem?_getD, List.getD_eq_getElem?_getD, List.getElem?_reverse (by omega)]
  rw [e1, e2]
  exact fun he => this he.symm
theorem putAll_rev {m : List Ent} (h : Unlike m) : putAll m = putAll m.reverse := by
  have h1 := putAll_law h m.length (Nat.le_refl _)
  have h2 := putAll_law (unlike_rev h) m.reverse.length (Nat.le_refl _)
  rw [List.take_length] at h1 h2
  exact up_unique h1.1 h2.1 fun x => by rw [h1.2.1, h2.2.1, List.mem_reverse]

/-- In a rising list each key is found where it stands. -/
theorem found_at {S : List Ent} (h : Up S) {e : Ent} (he : e ∈ S) : placeI (geP e.key) S < S.length ∧ S.getD (placeI (geP e.key) S) default = e := by
  have hr := up_rises h
  obtain ⟨l1, l2⟩ := place_law (ge_mono hr e.key)
  have hle := placeI_le (p := geP e.key) (es := S)
  generalize placeI (geP e.key) S = k at l1 l2 hle
  obtain ⟨j, hj, hje⟩ := List.getElem_of_mem he
  have hgj : S.getD j default = e := by rw [List.getD_eq_getElem?_getD, List.getElem?_eq_getElem hj]; exact hje
  have hkj : k ≤ j := by
    rcases Nat.lt_or_ge j k with hlt | hge
    · have := l1 j hlt
      rw [hgj] at this
      simp only [geP, cmp_self] at this
      simp at this
    · exact hge
  rcases Nat.lt_or_ge k j with hlt | hge
  · have h1 := l2 k (Nat.le_refl _) (by omega)
    have h2 := hr k j hlt hj
    rw [hgj] at h2
    simp only [geP, decide_eq_true_eq] at h1
    omega
  · have : k = j := by omega
    subst this
    exact ⟨hj, hgj⟩
end Go.Proofs.Ytmdfjipjkkjpcaa

