/- Texts put together: Wn, Xa, Xb, Wb, Wc, Wd, We, Wi. -/
import Derived.Test.YtmdfjipjkkjpcaaVk
import Derived.Test.YtmdfjipjkkjpcaaVh
/- SX: raw memory: a list of one's own is put behind a slice of lists; its block joins the memory. -/
namespace Go.SX

/-- A list by itself: its value, its block. -/
def OneL (more : Mem) (e wd : Nat) (hv : Value) (n : Nat) : Prop :=
  (more = [] ∧ hv = .slice none 0 0 ∧ n = 0) ∨ ∃ b c cs, more = [(b, e, cs)] ∧ hv = .slice (some ⟨b, 0, none⟩) n c ∧ cs.length = c * wd ∧ n ≤ c ∧ c ≤ maxLen

section
variable {P : Program} {E : Env} {η : OEnv} {G : Nat → Prop} {w : World}

theorem barr_one {e : Nat} (he : e ≠ 0) {bs : Unit → List UInt8} {o : OInfo} (h : ObjRel η G w (.barr e bs) o) :
    o.dead = false ∧ o.inner = [] ∧ ∃ more, OneL more e 1 o.val (bs ()).length ∧ o.main = more.map (·.1) ∧ ∀ p ∈ more, HasRow w p.1 p.2.1 p.2.2 := by
  obtain ⟨h1, h2, h3⟩ := h
  refine ⟨h1, h2, ?_⟩
  rcases h3 with ⟨q1, q2, q3⟩ | ⟨b, c, cs, T, q1, q2, q3, ⟨q4, q5⟩, q6, q7, q8⟩
  · exact ⟨[], .inl ⟨rfl, q1, q2⟩, q3, by simp⟩
  · have hT := q5.resolve_left he
    subst hT
    exact ⟨[(b, e, cs.toList)], .inr ⟨b, c, cs.toList, rfl, q1, by simpa using q4, q6, q7⟩, q2, fun p hp => by simp at hp; subst hp; exact q3⟩

/-- A list of one's own, put behind a slice of lists. -/
theorem mem_app_list {T e f n c : Nat} {i : TypeInfo} {z v0 va : Value} {H : Mem} {xs : List Value} {bs : Unit → List UInt8} (ht : P.underlying T = some (.slice e)) (hi : P.info? e = some i) (hz : i.zero = some z) (hzs : z.cells.size = i.size) (hs : i.size = 1) (hbp : 0 < i.bytes) (hf : f ≠ 0)
    (old : SlM H e 1 va n c xs) (hbytes : (n + 1) * i.bytes ≤ 140737488355328) :
    SpecG P (rawC 3 T) [.rv 1000 (fun _ => va), .csl 1001 1 1] [(1000, .cust none (fun _ => memΦ v0 H)), (1001, .cells e [.own 1002]), (1002, .barr f bs)]
      {x : Value × Mem × Mem × Value // OneL x.2.2.1 f 1 x.2.2.2 (bs ()).length ∧ App (H ++ x.2.2.1) e 1 va n c 1 xs [x.2.2.2] x.1 x.2.1} (fun x => .rv 1000 fun _ => x.1.1)
      (fun x => [(1000, .cust none (fun _ => memΦ v0 x.1.2.1)), (1001, .dead), (1002, .dead)]) := by
  intro η G vs w hsep hob hs'
  match vs, hs' with
  | [v1, v2], hs' =>
    simp only [SVRels] at hs'
    obtain ⟨h1, h2, -⟩ := hs'
    simp only [SVRel] at h1
    obtain ⟨h1, _⟩ := h1
    have h1 : v1 = va := h1
    subst v1
    obtain ⟨oi, ho, hd, hin, hv0, hmain, hnd, hrows⟩ := mem_at hob (k := 1000) rfl
    have hc := hob 1001
    simp only [SVRel] at h2
    obtain ⟨o2, ho2, _, h2⟩ := h2
    rw [ho2] at hc
    have hc : ObjRel η G w (.cells e [.own 1002]) o2 := hc
    obtain ⟨c1, c3, b2, us, hm2, hh2, hus⟩ := hc
    obtain ⟨b', hb', rfl⟩ := h2 c1
    obtain rfl := OInfo.at_one hm2 hb'
    match us, hus with
    | [], h => exact h.elim
    | _ :: _ :: _, h => exact h.2.elim
    | [hv], hus =>
    simp only [SVRels, SVRel] at hus
    obtain ⟨⟨o3, ho3, hone, hv3⟩, -⟩ := hus
    have hc3 := hob 1002
    rw [ho3] at hc3
    have hc3 : ObjRel η G w (.barr f bs) o3 := hc3
    obtain ⟨d3, i3, more, hL, hm3, hrows3⟩ := barr_one hf hc3
    obtain rfl := hv3 d3
    have hrd : Rd w (.slice (some ⟨b2, 0, none⟩) 1 1) 1 [o3.val] := ⟨_, _, rfl, fun _ => ⟨_, rfl, fun j u hj => by
      rw [add_none, cell_cells hh2, Nat.zero_add]; simpa using hj⟩⟩
    have hlt : ∀ b ∈ oi.main, b < w.heap.size := fun b hb => (hsep.lt 1000 oi ho b (by simp [hb])).1
    have hlt3 : ∀ b ∈ o3.main, b < w.heap.size := fun b hb => (hsep.lt 1002 o3 ho3 b (by simp [hb])).1
    have hdj : ∀ b ∈ oi.main, b ∉ o3.main := fun b hb h => hsep.dj 1000 oi 1002 o3 ho ho3 (by omega) b (by simp [hb]) (by simp [h])
    have hnd3 : (more.map (·.1)).Nodup := by rcases hL with ⟨rfl, _⟩ | ⟨b, c, cs, rfl, _⟩ <;> simp
    have hndB : ((H ++ more).map (·.1)).Nodup := by
      rw [List.map_append]
      exact List.nodup_append.2 ⟨hnd, hnd3, fun x hx y hy exy => by subst exy; exact hdj x (by rw [hmain]; exact hx) (by rw [hm3]; exact hy)⟩
    have hrowsB : ∀ p ∈ H ++ more, HasRow w p.1 p.2.1 p.2.2 := fun p hp => (List.mem_append.1 hp).elim (hrows p) (hrows3 p)
    have oldB : SlM (H ++ more) e 1 va n c xs := by
      rcases old with h | ⟨b, cs, q1, q2, q3⟩
      · exact .inl h
      · exact .inr ⟨b, cs, q1, List.mem_append_left _ q2, q3⟩
    have hdead : ∀ (M : Mem) (j : Nat), lookN j [(1000, TObj.cust none (fun _ => memΦ v0 M)), (1001, .dead), (1002, .dead)] = if j = 1000 then some (.cust none (fun _ => memΦ v0 M)) else if j ∈ [1001, 1002] then some .dead else none := by
      intro M j
      by_cases e1 : j = 1000
      · subst e1; simp [lookN, eqN_refl]
      · have q1 : eqN 1000 j = false := decide_eq_false fun e => e1 e.symm
        by_cases e2 : j = 1001
        · subst e2; simp [lookN, q1, eqN_refl]
        · have q2 : eqN 1001 j = false := decide_eq_false fun e => e2 e.symm
          by_cases e3 : j = 1002
          · subst e3; simp [lookN, q1, q2, eqN_refl]
          · have q3 : eqN 1002 j = false := decide_eq_false fun e => e3 e.symm
            simp [lookN, q1, q2, q3, e1, e2, e3]
    have hall : ∀ j, j ≠ 1000 → j ∉ [1001, 1002] → lookN j [(1000, TObj.cust none (fun _ => memΦ v0 H)), (1001, .cells e [.own 1002]), (1002, .barr f bs)] = none := by
      intro j e1 e2
      have q1 : eqN 1000 j = false := decide_eq_false fun e => e1 e.symm
      have q2 : eqN 1001 j = false := decide_eq_false fun e => e2 (by simp [e])
      have q3 : eqN 1002 j = false := decide_eq_false fun e => e2 (by simp [e])
      simp [lookN, q1, q2, q3]
    have hk1 : ∀ j ∈ [1001, 1002], lookN j [(1000, TObj.cust none (fun _ => memΦ v0 H)), (1001, .cells e [.own 1002]), (1002, .barr f bs)] ≠ none := by
      intro j hj
      have q1 : eqN 1000 1001 = false := by decide
      have q2 : eqN 1000 1002 = false := by decide
      have q3 : eqN 1001 1002 = false := by decide
      simp at hj
      rcases hj with rfl | rfl
      · simp [lookN, q1, eqN_refl]
      · simp [lookN, q2, q3, eqN_refl]
    have hexm : ∀ b ∈ more.map (·.1), b < w.heap.size ∧ ∃ j ∈ [1001, 1002], ∃ oj, η j = some oj ∧ b ∈ oj.main ++ oj.inner := fun b hb => by
      rw [← hm3] at hb
      exact ⟨hlt3 b hb, 1002, by simp, o3, ho3, by simp [hb]⟩
    unfold RunsX
    rw [rawSem_rawC (by omega)]
    have old' : (va = .slice none 0 0 ∧ n = 0 ∧ c = 0 ∧ xs = []) ∨ ∃ b cs, va = .slice (some ⟨b, 0, none⟩) n c ∧ HasRow w b e cs ∧ cs.length = c * i.size ∧ n ≤ c ∧ cs.take (n * i.size) = xs := by
      rw [hs]
      rcases old with h | ⟨b, cs, q1, q2, q3⟩
      · exact .inl h
      · exact .inr ⟨b, cs, q1, hrows _ q2, q3⟩
    by_cases hroom : n + 1 ≤ c
    · rcases oldB with ⟨_, rfl, rfl, _⟩ | ⟨b, cs, rfl, hm, hcl, hnc, htake⟩
      · omega
      · have hm0 : (b, e, cs) ∈ H := by
          rcases old with ⟨h, _⟩ | ⟨b5, cs5, q1, q2, _⟩
          · cases h
          · have e5 : b = b5 := by cases q1; rfl
            subst e5
            have := mem_eq hndB hm (List.mem_append_left _ q2) rfl
            rw [this]; exact q2
        have hr := run_room (P := P) (ty := T) ht hi (by omega) (hrows _ hm0) (by rw [hs]; exact hcl) hroom hrd (by rw [hs]; rfl) (by simpa using hone)
        rw [hs] at hr
        have hbm : b ∈ oi.main := by rw [hmain]; exact List.mem_map.2 ⟨_, hm0, rfl⟩
        have hu := raw_upd (w' := w.setRow b (cs.take (n * 1) ++ [o3.val] ++ cs.drop ((n + 1) * 1)).toArray) (X := .cust none (fun _ => memΦ v0 (putB (H ++ more) b (cs.take (n * 1) ++ [o3.val] ++ cs.drop ((n + 1) * 1)))))
          (objs' := [(1000, .cust none (fun _ => memΦ v0 (putB (H ++ more) b (cs.take (n * 1) ++ [o3.val] ++ cs.drop ((n + 1) * 1))))), (1001, .dead), (1002, .dead)])
          hsep hob (k := 1000) ho hd hin (ks := [1001, 1002]) (by simp) (by simp [lookN, eqN_refl]) hk1 hall rfl rfl rfl (by simp) (fun b' _ hb' => setRow_other w b b' _ fun e => hb' (e ▸ hbm)) (more.map (·.1)) (fun b' hb' => ⟨by simpa using (hexm b' hb').1, .inr (hexm b' hb').2⟩) (by
            rw [hv0]
            exact mem_rel (by rw [putB_names, hmain, List.map_append]) (by rw [hmain, ← List.map_append]; exact hndB) (putB_rows hndB hrowsB hm)) (hdead _)
        have hx : App (H ++ more) e 1 (.slice (some ⟨b, 0, none⟩) n c) n c 1 xs [o3.val] (.slice (some ⟨b, 0, none⟩) (n + 1) c) (putB (H ++ more) b (cs.take (n * 1) ++ [o3.val] ++ cs.drop ((n + 1) * 1))) :=
          ⟨by rw [putB_names]; exact hndB, .inl ⟨hroom, b, cs, rfl, hm, rfl, rfl⟩⟩
        exact ⟨_, _, hr, ⟨(_, _, more, o3.val), hL, hx⟩, _, G, by simp [SVRel, Value.oneCell'], hu⟩
    · obtain ⟨c', cs', hr, g1, g2, g3, g4⟩ := run_append_more (P := P) (ty := T) ht hi hz hzs hbp old' (by omega) hrd (by rw [hs]; rfl) hbytes (by omega)
      rw [hs] at g3 g4
      have hng : w.heap.size ∉ (H ++ more).map (·.1) := fun h => by
        rw [List.map_append] at h
        rcases List.mem_append.1 h with h | h
        · have := hlt _ (hmain ▸ h); omega
        · have := hlt3 _ (hm3 ▸ h); omega
      have hnd' : ((H ++ more ++ [(w.heap.size, e, cs')]).map (·.1)).Nodup := by
        rw [List.map_append]
        exact List.nodup_append.2 ⟨hndB, by simp, fun x hx y hy exy => by simp at hy; subst exy; subst hy; exact hng hx⟩
      have hu := raw_upd (w' := w.drew.alloc (.cells ⟨cs'⟩ e)) (X := .cust none (fun _ => memΦ v0 (H ++ more ++ [(w.heap.size, e, cs')])))
        (objs' := [(1000, .cust none (fun _ => memΦ v0 (H ++ more ++ [(w.heap.size, e, cs')]))), (1001, .dead), (1002, .dead)])
        hsep hob (k := 1000) ho hd hin (ks := [1001, 1002]) (by simp) (by simp [lookN, eqN_refl]) hk1 hall rfl rfl rfl (by simp) (fun b' hb' _ => heap_alloc_old w.drew _ hb') (more.map (·.1) ++ [w.heap.size]) (fun b hb => by
          rcases List.mem_append.1 hb with hb | hb
          · obtain ⟨q1, q2⟩ := hexm b hb
            exact ⟨by simp; omega, .inr q2⟩
          · simp at hb; subst hb; exact ⟨by simp, .inl (Nat.le_refl _)⟩) (by
          rw [hv0]
          refine mem_rel (by rw [hmain]; simp) (by rw [hmain]; simpa [List.map_append] using hnd') fun p hp => ?_
          rcases List.mem_append.1 hp with hp | hp
          · have hpl : p.1 < w.heap.size := by
              rcases List.mem_append.1 hp with hp | hp
              · exact hlt _ (by rw [hmain]; exact List.mem_map.2 ⟨p, hp, rfl⟩)
              · exact hlt3 _ (by rw [hm3]; exact List.mem_map.2 ⟨p, hp, rfl⟩)
            unfold HasRow
            rw [heap_alloc_old w.drew _ hpl]
            exact hrowsB p hp
          · simp at hp; subst hp
            exact heap_alloc_new w.drew _) (hdead _)
      have hx : App (H ++ more) e 1 va n c 1 xs [o3.val] (.slice (some ⟨w.heap.size, 0, none⟩) (n + 1) c') (H ++ more ++ [(w.heap.size, e, cs')]) :=
        ⟨hnd', .inr ⟨by omega, w.heap.size, c', cs', hng, rfl, rfl, g1, g2, g3, g4⟩⟩
      exact ⟨_, _, hr, ⟨(_, _, more, o3.val), hL, hx⟩, _, G, by simp [SVRel, Value.oneCell'], hu⟩
  | [], h => exact h.elim
  | [_], h => exact h.2.elim
  | _ :: _ :: _ :: _, h => exact h.2.2.elim
end
end Go.SX

/- SX: raw memory: an object beside it that stays; two of them put together. -/
namespace Go.SX

/-- What an object is hangs on no other object. -/
def Cst (X : TObj) : Prop := ∀ (η η' : OEnv) (G G' : Nat → Prop) (w : World) (o : OInfo), ObjRel η G w X o → ObjRel η' G' w X o
theorem Cst.rel {X : TObj} (h : Cst X) {η η' : OEnv} {G G' : Nat → Prop} {w : World} {o : OInfo} (ho : ObjRel η G w X o) : ObjRel η' G' w X o := h η η' G G' w o ho
theorem cst_cust {d : Option DV} {Φ : Unit → World → Value → List Nat → Prop} : Cst (.cust d Φ) := fun _ _ _ _ _ _ h => h
theorem cst_kn {d : Option DV} {Φ : Unit → World → Value → List Nat → Prop} : Cst (.kn d Φ) := fun _ _ _ _ _ _ h => h
theorem cst_dead : Cst .dead := fun _ _ _ _ _ _ h => h
theorem cst_cells {T k : Nat} {v : Unit → Value} : Cst (.cells T [.rv k v]) := fun _ _ _ _ _ _ ⟨h1, h2, b, vs, h3, h4, h5⟩ => ⟨h1, h2, b, vs, h3, h4, by
  match vs, h5 with
  | [x], h5 => exact ⟨h5.1, trivial⟩
  | [], h => exact h.elim
  | _ :: _ :: _, h => exact h.2.elim⟩
/-- What an object is hangs on its own blocks alone. -/
def Frm (X : TObj) : Prop := ∀ (η η' : OEnv) (G G' : Nat → Prop) (w w' : World) (o : OInfo), ObjRel η G w X o → (∀ b ∈ o.main ++ o.inner, w'.heap[b]? = w.heap[b]?) → ObjRel η' G' w' X o
theorem frm_cust {d : Option DV} {Φ : Unit → World → Value → List Nat → Prop} : Frm (.cust d Φ) := fun _ _ _ _ _ _ _ ⟨h1, h2, h3⟩ hw => ⟨h1, h2, fun w2 hw2 => h3 w2 fun b hb => (hw2 b hb).trans (hw b (by simp [hb]))⟩
theorem frm_kn {d : Option DV} {Φ : Unit → World → Value → List Nat → Prop} : Frm (.kn d Φ) := fun _ _ _ _ _ _ _ ⟨h1, h3⟩ hw => ⟨h1, fun w2 hw2 => h3 w2 fun b hb => (hw2 b hb).trans (hw b hb)⟩
/-- Blocks that are known, whatever order they stand in. -/
def knΦ (v0 : Value) (H : Mem) (w : World) (v : Value) (B : List Nat) : Prop := v = v0 ∧ (∀ b, b ∈ B ↔ b ∈ H.map (·.1)) ∧ (H.map (·.1)).Nodup ∧ ∀ p ∈ H, HasRow w p.1 p.2.1 p.2.2
/-- An object's blocks are known. -/
def KnM (A : TObj) (more : Mem) : Prop := ∀ (η : OEnv) (G : Nat → Prop) (w : World) (o : OInfo), ObjRel η G w A o → o.dead = false ∧ (∀ b, b ∈ o.main ++ o.inner ↔ b ∈ more.map (·.1)) ∧ (more.map (·.1)).Nodup ∧ ∀ p ∈ more, HasRow w p.1 p.2.1 p.2.2
theorem knm_cust {d : Option DV} {hv : Value} {more : Mem} : KnM (.cust d (fun _ => memΦ hv more)) more := fun _ _ w _ ⟨h1, h2, h3⟩ => by
  obtain ⟨q1, q2, q3, q4⟩ := (h3 w fun _ _ => rfl).1
  exact ⟨h1, by rw [h2, List.append_nil, q2]; exact fun _ => Iff.rfl, q2 ▸ q3, q4⟩
theorem knm_kn {d : Option DV} {hv : Value} {more : Mem} : KnM (.kn d (fun _ => knΦ hv more)) more := fun _ _ w _ ⟨h1, h3⟩ => by
  obtain ⟨q1, q2, q3, q4⟩ := (h3 w fun _ _ => rfl).1
  exact ⟨h1.1, q2, q3, q4⟩
theorem Cst.opt {x : Option TObj} (h : ∀ X, x = some X → Cst X) {η η' : OEnv} {G G' : Nat → Prop} {w : World} {o : Option OInfo} (ho : ObjOpt η G w x o) : ObjOpt η' G' w x o := by
  cases x with
  | none => cases o with
    | none => trivial
    | some o => exact ho.elim
  | some X => cases o with
    | none => exact ho.elim
    | some o => exact (h X rfl).rel ho
theorem opt_none {η : OEnv} {G : Nat → Prop} {w : World} {o : Option OInfo} (ho : ObjOpt η G w none o) : o = none := by
  cases o with
  | none => rfl
  | some o => exact ho.elim

section
variable {P : Program} {f : Nat} {svs svs2 : List SV} {X : Type} {r : X → SV}

/-- An object beside it stays. -/
theorem specG_frame {objs objs2 : Objs} {objs' objs2' : X → Objs} {k : Nat} {A : TObj} (hA : Frm A) (h : SpecG P f svs objs X r objs') (hk : lookN k objs = none) (hk' : ∀ x, lookN k (objs' x) = none)
    (h2 : ∀ j, lookN j objs2 = if j = k then some A else lookN j objs) (h2' : ∀ x j, lookN j (objs2' x) = if j = k then some A else lookN j (objs' x))
    (hc : ∀ j Y, lookN j objs = some Y → Cst Y) (hc' : ∀ x j Y, lookN j (objs' x) = some Y → Cst Y)
    (hsv : ∀ (η : OEnv) (G : Nat → Prop) (w : World) (vs : List Value), SVRels η G w svs2 vs → SVRels (fun j => if j = k then none else η j) G w svs vs)
    (hr : ∀ (x : X) (η η' : OEnv) (G : Nat → Prop) (w : World) (v : Value), SVRel η G w (r x) v → SVRel η' G w (r x) v) : SpecG P f svs2 objs2 X r objs2' := by
  intro η G vs w hsep hob hs
  have hobk := hob k
  rw [h2 k, if_pos rfl] at hobk
  cases hok : η k with
  | none => rw [hok] at hobk; exact hobk.elim
  | some o =>
  rw [hok] at hobk
  have hobk : ObjRel η G w A o := hobk
  have hin : ∀ {j : Nat} {oj : OInfo}, (if j = k then none else η j) = some oj → j ≠ k ∧ η j = some oj := by
    intro j oj hj
    by_cases e : j = k
    · rw [if_pos e] at hj; cases hj
    · rw [if_neg e] at hj; exact ⟨e, hj⟩
  have hsep1 : Sep (fun j => if j = k then none else η j) G w :=
    ⟨fun j oj hj => hsep.lt j oj (hin hj).2, fun j oj j' oj' hj hj' => hsep.dj j oj j' oj' (hin hj).2 (hin hj').2, fun j oj hj => hsep.mi j oj (hin hj).2, hsep.glt⟩
  refine (h (fun j => if j = k then none else η j) G vs w hsep1 (fun j => ?_) (hsv η G w vs hs)).mono fun v w' ⟨x, η', G', q1, q2, q3, q4⟩ => ?_
  · show ObjOpt _ G w _ (if j = k then none else η j)
    by_cases e : j = k
    · subst e; rw [hk, if_pos rfl]; trivial
    · rw [if_neg e]
      have := hob j
      rw [h2 j, if_neg e] at this
      exact Cst.opt (hc j) this
  · have hkn : η' k = none := opt_none (by have := q2 k; rwa [hk' x] at this)
    have hout : ∀ {j : Nat} {oj : OInfo}, (if j = k then some o else η' j) = some oj → (j = k ∧ oj = o) ∨ (j ≠ k ∧ η' j = some oj) := by
      intro j oj hj
      by_cases e : j = k
      · rw [if_pos e] at hj; cases hj; exact .inl ⟨e, rfl⟩
      · rw [if_neg e] at hj; exact .inr ⟨e, hj⟩
    have hfar : ∀ b ∈ o.main ++ o.inner, ∀ j oj, (if j = k then none else η j) = some oj → b ∉ oj.main ++ oj.inner := fun b hb j oj hj hb' => hsep.dj k o j oj hok (hin hj).2 (fun e => (hin hj).1 e.symm) b hb hb'
    have hnew : ∀ b ∈ o.main ++ o.inner, ∀ j oj, η' j = some oj → b ∉ oj.main ++ oj.inner := fun b hb j oj hj hb' => by
      rcases q4.blk j oj hj b hb' with h | ⟨j0, o0, h0, hb0⟩
      · have := (hsep.lt k o hok b hb).1; omega
      · exact hfar b hb j0 o0 h0 hb0
    have hkeep : ∀ b ∈ o.main ++ o.inner, w'.heap[b]? = w.heap[b]? := fun b hb => q4.keep b (hsep.lt k o hok b hb).1 fun j oj hj => hfar b hb j oj hj
    refine ⟨x, fun j => if j = k then some o else η' j, G', hr x _ _ _ _ _ q1, fun j => ?_, ⟨?_, ?_, ?_, q3.glt⟩, ⟨q4.os, q4.tape, q4.out, q4.size, ?_, ?_, q4.g, ?_, ?_⟩⟩
    · rw [h2' x j]
      show ObjOpt _ G' w' _ (if j = k then some o else η' j)
      by_cases e : j = k
      · rw [if_pos e, if_pos e]
        exact hA _ _ _ _ _ _ _ hobk hkeep
      · rw [if_neg e, if_neg e]
        exact Cst.opt (hc' x j) (q2 j)
    · intro j oj hj b hb
      rcases hout hj with ⟨_, rfl⟩ | ⟨_, hj⟩
      · have := hsep.lt k oj hok b hb
        refine ⟨by have := q4.size; omega, fun hg => ?_⟩
        rcases q4.g' b hg with h | h | ⟨j0, o0, h0, hb0⟩
        · exact this.2 h
        · omega
        · exact hfar b hb j0 o0 h0 hb0
      · exact q3.lt j oj hj b hb
    · intro j oj j' oj' hj hj' hne b hb hb'
      rcases hout hj with ⟨e1, e2⟩ | ⟨e, g1⟩
      · rcases hout hj' with ⟨e3, e4⟩ | ⟨_, g2⟩
        · exact hne (e1.trans e3.symm)
        · exact hnew b (e2 ▸ hb) j' oj' g2 hb'
      · rcases hout hj' with ⟨e3, e4⟩ | ⟨_, g2⟩
        · exact hnew b (e4 ▸ hb') j oj g1 hb
        · exact q3.dj j oj j' oj' g1 g2 hne b hb hb'
    · intro j oj hj
      rcases hout hj with ⟨_, rfl⟩ | ⟨_, hj⟩
      · exact hsep.mi k oj hok
      · exact q3.mi j oj hj
    · intro b hb hn
      exact q4.keep b hb fun j oj hj => hn j oj (hin hj).2
    · intro j oj hj
      by_cases e : j = k
      · subst e
        rw [hok] at hj; cases hj
        exact ⟨o, by simp, fun hd => ⟨hd, rfl, Ext.refl _, fun b hb => ⟨hb, hkeep b (by simp [hb])⟩⟩⟩
      · obtain ⟨o', h1, h2⟩ := q4.obj j oj (by rw [if_neg e]; exact hj)
        exact ⟨o', by rw [if_neg e]; exact h1, h2⟩
    · intro b hb
      rcases q4.g' b hb with h | h | ⟨j0, o0, h0, hb0⟩
      · exact .inl h
      · exact .inr (.inl h)
      · exact .inr (.inr ⟨j0, o0, (hin h0).2, hb0⟩)
    · intro j oj hj b hb
      rcases hout hj with ⟨_, rfl⟩ | ⟨_, hj⟩
      · exact .inr ⟨k, oj, hok, hb⟩
      · rcases q4.blk j oj hj b hb with h | ⟨j0, o0, h0, hb0⟩
        · exact .inl h
        · exact .inr ⟨j0, o0, (hin h0).2, hb0⟩

/-- Two objects of raw memory are put together ahead. -/
theorem specG_merge {objs objs2 : Objs} {objs' objs2' : X → Objs} {k : Nat} {A : TObj} {H more : Mem} {v0 : Value} (hA : KnM A more) (h : ((H ++ more).map (·.1)).Nodup → SpecG P f svs objs X r objs') (hk : lookN k objs = none) (hk' : ∀ x, lookN k (objs' x) = none) (hk0 : k ≠ 1000)
    (h1 : lookN 1000 objs = some (.cust none (fun _ => memΦ v0 (H ++ more))))
    (h2 : ∀ j, lookN j objs2 = if j = 1000 then some (.cust none (fun _ => memΦ v0 H)) else if j = k then some A else lookN j objs) (h2' : ∀ x j, lookN j (objs2' x) = if j = k then some .dead else lookN j (objs' x))
    (hc : ∀ j Y, lookN j objs = some Y → Cst Y) (hc' : ∀ x j Y, lookN j (objs' x) = some Y → Cst Y)
    (hsv : ∀ (η : OEnv) (G : Nat → Prop) (w : World) (vs : List Value) (o om : OInfo), η 1000 = some o → o.dead = false → om.dead = false → om.val = o.val → Ext o.main om.main → SVRels η G w svs2 vs → SVRels (fun j => if j = k then none else if j = 1000 then some om else η j) G w svs vs)
    (hr : ∀ (x : X) (η η' : OEnv) (G : Nat → Prop) (w : World) (v : Value), SVRel η G w (r x) v → SVRel η' G w (r x) v) : SpecG P f svs2 objs2 X r objs2' := by
  intro η G vs w hsep hob hs
  have hob0 := hob 1000
  rw [h2 1000, if_pos rfl] at hob0
  have hobk := hob k
  rw [h2 k, if_neg hk0, if_pos rfl] at hobk
  cases hok : η k with
  | none => rw [hok] at hobk; exact hobk.elim
  | some ok =>
  cases ho : η 1000 with
  | none => rw [ho] at hob0; exact hob0.elim
  | some o =>
  rw [hok] at hobk
  rw [ho] at hob0
  obtain ⟨o1, o2, o3⟩ := hob0
  obtain ⟨m1, m2, m3, m4⟩ := (o3 w fun _ _ => rfl).1
  obtain ⟨k1, n2, n3, n4⟩ := hA η G w ok hobk
  obtain ⟨om, hom⟩ : ∃ om : OInfo, om = ⟨o.val, o.main ++ more.map (·.1), [], false⟩ := ⟨_, rfl⟩
  have hmm : om.main = o.main ++ more.map (·.1) := by rw [hom]
  have hmi : om.inner = [] := by rw [hom]
  have hin : ∀ {j : Nat} {oj : OInfo}, (if j = k then none else if j = 1000 then some om else η j) = some oj → j ≠ k ∧ ((j = 1000 ∧ oj = om) ∨ (j ≠ 1000 ∧ η j = some oj)) := by
    intro j oj hj
    by_cases e : j = k
    · rw [if_pos e] at hj; cases hj
    · rw [if_neg e] at hj
      by_cases e2 : j = 1000
      · rw [if_pos e2] at hj; cases hj; exact ⟨e, .inl ⟨e2, rfl⟩⟩
      · rw [if_neg e2] at hj; exact ⟨e, .inr ⟨e2, hj⟩⟩
  have hold : ∀ {j : Nat} {oj : OInfo}, (if j = k then none else if j = 1000 then some om else η j) = some oj → ∀ b ∈ oj.main ++ oj.inner, ∃ j0 o0, η j0 = some o0 ∧ b ∈ o0.main ++ o0.inner ∧ (j0 = j ∨ (j = 1000 ∧ j0 = k)) := by
    intro j oj hj b hb
    rcases (hin hj).2 with ⟨e, rfl⟩ | ⟨_, h⟩
    · rw [hmm, hmi, List.append_nil] at hb
      rcases List.mem_append.1 hb with hb | hb
      · exact ⟨1000, o, ho, by simp [hb], .inl e.symm⟩
      · exact ⟨k, ok, hok, (n2 b).2 hb, .inr ⟨e, rfl⟩⟩
    · exact ⟨j, oj, h, hb, .inl rfl⟩
  have hnd : (o.main ++ more.map (·.1)).Nodup := List.nodup_append.2 ⟨m3, n3, fun a ha b hb e => hsep.dj 1000 o k ok ho hok (fun e => hk0 e.symm) a (by simp [ha]) (by rw [e]; exact (n2 b).2 hb)⟩
  have hnd' : ((H ++ more).map (·.1)).Nodup := by rw [List.map_append, ← m2]; exact hnd
  have hsep1 : Sep (fun j => if j = k then none else if j = 1000 then some om else η j) G w := by
    refine ⟨fun j oj hj b hb => ?_, fun j oj j' oj' hj hj' hne b hb hb' => ?_, fun j oj hj b hb => ?_, hsep.glt⟩
    · obtain ⟨j0, o0, h0, hb0, _⟩ := hold hj b hb
      exact hsep.lt j0 o0 h0 b hb0
    · obtain ⟨j0, o0, h0, hb0, e0⟩ := hold hj b hb
      obtain ⟨j1, o1', h1', hb1, e1⟩ := hold hj' b hb'
      refine hsep.dj j0 o0 j1 o1' h0 h1' (fun e => ?_) b hb0 hb1
      have := (hin hj).1
      have := (hin hj').1
      omega
    · rcases (hin hj).2 with ⟨e, rfl⟩ | ⟨_, h⟩
      · rw [hmi]; simp
      · exact hsep.mi j oj h b hb
  have hom1 : ∀ w2 : World, (∀ b ∈ om.main, w2.heap[b]? = w.heap[b]?) → memΦ v0 (H ++ more) w2 om.val om.main := by
    intro w2 hw2
    refine ⟨by rw [hom]; exact m1, by rw [hmm, List.map_append, m2], by rw [hmm]; exact hnd, fun p hp => ?_⟩
    rcases List.mem_append.1 hp with hp | hp
    · unfold HasRow
      rw [hw2 _ (by rw [hmm, m2]; exact List.mem_append_left _ (List.mem_map.2 ⟨p, hp, rfl⟩))]
      exact m4 p hp
    · unfold HasRow
      rw [hw2 _ (by rw [hmm]; exact List.mem_append_right _ (List.mem_map.2 ⟨p, hp, rfl⟩))]
      exact n4 p hp
  refine (h hnd' (fun j => if j = k then none else if j = 1000 then some om else η j) G vs w hsep1 (fun j => ?_) (hsv η G w vs o om ho o1 (by rw [hom]) (by rw [hom]) ⟨more.map (·.1), hmm⟩ hs)).mono fun v w' ⟨x, η', G', q1, q2, q3, q4⟩ => ?_
  · show ObjOpt _ G w _ (if j = k then none else if j = 1000 then some om else η j)
    by_cases e : j = k
    · subst e; rw [hk, if_pos rfl]; trivial
    · rw [if_neg e]
      by_cases e2 : j = 1000
      · subst e2
        rw [h1, if_pos rfl]
        exact ⟨by rw [hom], hmi, fun w2 hw2 => ⟨hom1 w2 hw2, fun x hx => by cases hx⟩⟩
      · rw [if_neg e2]
        have := hob j
        rw [h2 j, if_neg e2, if_neg e] at this
        exact Cst.opt (hc j) this
  · have hkn : η' k = none := opt_none (by have := q2 k; rwa [hk' x] at this)
    have hout : ∀ {j : Nat} {oj : OInfo}, (if j = k then some deadInfo else η' j) = some oj → (j = k ∧ oj = deadInfo) ∨ (j ≠ k ∧ η' j = some oj) := by
      intro j oj hj
      by_cases e : j = k
      · rw [if_pos e] at hj; cases hj; exact .inl ⟨e, rfl⟩
      · rw [if_neg e] at hj; exact .inr ⟨e, hj⟩
    refine ⟨x, fun j => if j = k then some deadInfo else η' j, G', hr x _ _ _ _ _ q1, fun j => ?_, ⟨?_, ?_, ?_, q3.glt⟩, ⟨q4.os, q4.tape, q4.out, q4.size, ?_, ?_, q4.g, ?_, ?_⟩⟩
    · rw [h2' x j]
      show ObjOpt _ G' w' _ (if j = k then some deadInfo else η' j)
      by_cases e : j = k
      · rw [if_pos e, if_pos e]; exact ⟨rfl, rfl, rfl⟩
      · rw [if_neg e, if_neg e]; exact Cst.opt (hc' x j) (q2 j)
    · intro j oj hj b hb
      rcases hout hj with ⟨_, rfl⟩ | ⟨_, hj⟩
      · simp [deadInfo] at hb
      · exact q3.lt j oj hj b hb
    · intro j oj j' oj' hj hj' hne b hb hb'
      rcases hout hj with ⟨_, rfl⟩ | ⟨_, hj⟩
      · simp [deadInfo] at hb
      · rcases hout hj' with ⟨_, rfl⟩ | ⟨_, hj'⟩
        · simp [deadInfo] at hb'
        · exact q3.dj j oj j' oj' hj hj' hne b hb hb'
    · intro j oj hj b hb
      rcases hout hj with ⟨_, rfl⟩ | ⟨_, hj⟩
      · simp [deadInfo] at hb
      · exact q3.mi j oj hj b hb
    · intro b hb hn
      refine q4.keep b hb fun j oj hj hm => ?_
      obtain ⟨j0, o0, h0, hb0, _⟩ := hold hj b hm
      exact hn j0 o0 h0 hb0
    · intro j oj hj
      by_cases e : j = k
      · subst e
        exact ⟨deadInfo, by simp, fun hd => by simp [deadInfo] at hd⟩
      · by_cases e2 : j = 1000
        · subst e2
          rw [ho] at hj; cases hj
          obtain ⟨o', h1, h2⟩ := q4.obj 1000 om (by rw [if_neg e, if_pos rfl])
          refine ⟨o', by rw [if_neg e]; exact h1, fun hd => ?_⟩
          obtain ⟨r1, r2, r3, r4⟩ := h2 hd
          exact ⟨o1, by rw [r2, hom], Ext.trans ⟨more.map (·.1), hmm⟩ r3, fun b hb => by rw [o2] at hb; cases hb⟩
        · obtain ⟨o', h1, h2⟩ := q4.obj j oj (by rw [if_neg e, if_neg e2]; exact hj)
          exact ⟨o', by rw [if_neg e]; exact h1, h2⟩
    · intro b hb
      rcases q4.g' b hb with h | h | ⟨j0, o0, h0, hb0⟩
      · exact .inl h
      · exact .inr (.inl h)
      · obtain ⟨j1, o1', h1', hb1, _⟩ := hold h0 b hb0
        exact .inr (.inr ⟨j1, o1', h1', hb1⟩)
    · intro j oj hj b hb
      rcases hout hj with ⟨_, rfl⟩ | ⟨_, hj⟩
      · simp [deadInfo] at hb
      · rcases q4.blk j oj hj b hb with h | ⟨j0, o0, h0, hb0⟩
        · exact .inl h
        · obtain ⟨j1, o1', h1', hb1, _⟩ := hold h0 b hb0
          exact .inr ⟨j1, o1', h1', hb1⟩

theorem look_cons {j k : Nat} {A : TObj} {r : Objs} : lookN j ((k, A) :: r) = if j = k then some A else lookN j r := by
  by_cases e : j = k
  · subst e; simp [lookN, eqN_refl]
  · have q : eqN k j = false := decide_eq_false fun e' => e e'.symm
    simp [lookN, q, e]
theorem look_nil {j : Nat} : lookN j ([] : Objs) = none := rfl
theorem loc_merge (k : Nat) (hk : k ≠ 1000) (η : OEnv) (G : Nat → Prop) (w : World) (vs : List Value) (o om : OInfo) (ho : η 1000 = some o) (hd : o.dead = false) (hdm : om.dead = false) (hv : om.val = o.val) (he : Ext o.main om.main) (h : SVRels η G w [.loc 1000 0] vs) :
    SVRels (fun j => if j = k then none else if j = 1000 then some om else η j) G w [.loc 1000 0] vs := by
  match vs, h with
  | [v], h =>
    obtain ⟨⟨o', h1, h2, h3⟩, -⟩ := h
    rw [ho] at h1; cases h1
    refine ⟨⟨om, by show (if 1000 = k then none else if 1000 = 1000 then some om else η 1000) = some om; rw [if_neg fun e => hk e.symm, if_pos rfl], h2, fun _ => ?_⟩, trivial⟩
    obtain ⟨b, hb, e⟩ := h3 hd
    exact ⟨b, OInfo.at_ext he hb, e⟩
  | [], h => exact h.elim
  | _ :: _ :: _, h => exact h.2.elim
theorem look_none {α : Type} {j : Nat} {g : α → TObj} {n : α → Nat} : ∀ {L : List α}, (∀ t ∈ L, n t ≠ j) → lookN j (L.map fun t => (n t, g t)) = none
  | [], _ => rfl
  | t :: L, h => by
      rw [List.map_cons, look_cons, if_neg (fun e => h t List.mem_cons_self e.symm)]
      exact look_none fun t ht => h t (List.mem_cons_of_mem _ ht)
theorem look_in {α : Type} {j : Nat} {g : α → TObj} {n : α → Nat} {Y : TObj} : ∀ {L : List α}, lookN j (L.map fun t => (n t, g t)) = some Y → ∃ t ∈ L, Y = g t
  | [], h => by cases h
  | t :: L, h => by
      rw [List.map_cons, look_cons] at h
      split at h
      · cases h; exact ⟨t, List.mem_cons_self, rfl⟩
      · obtain ⟨t', h1, h2⟩ := look_in h
        exact ⟨t', List.mem_cons_of_mem _ h1, h2⟩
/-- Many objects are put together ahead: name, object, blocks. -/
theorem specG_merges {f : Nat} {r : SV} {v0 : Value} (hr : ∀ (η η' : OEnv) (G : Nat → Prop) (w : World) (v : Value), SVRel η G w r v → SVRel η' G w r v) : ∀ (L : List (Nat × TObj × Mem)) (H : Mem), (1000 :: L.map (·.1)).Nodup → (∀ t ∈ L, Cst t.2.1 ∧ KnM t.2.1 t.2.2) →
    (((H ++ L.flatMap (·.2.2)).map (·.1)).Nodup → SpecG P f [.loc 1000 0] [(1000, .cust none (fun _ => memΦ v0 (H ++ L.flatMap (·.2.2))))] Unit (fun _ => r) (fun _ => [(1000, .dead)])) →
    SpecG P f [.loc 1000 0] ((1000, .cust none (fun _ => memΦ v0 H)) :: L.map fun t => (t.1, t.2.1)) Unit (fun _ => r) (fun _ => (1000, .dead) :: L.map fun t => (t.1, .dead))
  | [], H, _, _, h => fun η G vs w hsep hob hs => by
      have hk := hob 1000
      rw [look_cons, if_pos rfl] at hk
      cases ho : η 1000 with
      | none => rw [ho] at hk; exact hk.elim
      | some o =>
        rw [ho] at hk
        obtain ⟨h1, h2, h3⟩ := hk
        obtain ⟨m1, m2, m3, _⟩ := (h3 w fun _ _ => rfl).1
        have hq := h (by rw [List.flatMap_nil, List.append_nil, ← m2]; exact m3)
        simp only [List.flatMap_nil, List.append_nil] at hq
        exact hq η G vs w hsep hob hs
  | t :: L, H, hn, hk, h => by
      obtain ⟨n1, n2⟩ := List.nodup_cons.1 hn
      obtain ⟨n3, n4⟩ := List.nodup_cons.1 n2
      have t1 : t.1 ≠ 1000 := fun e => n1 (by simp [e])
      have tl : ∀ t' ∈ L, t'.1 ≠ t.1 := fun t' ht' e => n3 (List.mem_map.2 ⟨t', ht', e⟩)
      have tl0 : ∀ t' ∈ L, t'.1 ≠ 1000 := fun t' ht' e => n1 (by simp only [List.map_cons, List.mem_cons]; exact .inr (List.mem_map.2 ⟨t', ht', e⟩))
      refine specG_merge (v0 := v0) (H := H) (k := t.1) (A := t.2.1) (more := t.2.2) (objs := (1000, .cust none (fun _ => memΦ v0 (H ++ t.2.2))) :: L.map fun t => (t.1, t.2.1)) (objs' := fun _ => (1000, .dead) :: L.map fun t => (t.1, .dead)) (hk t List.mem_cons_self).2
        (fun hn' => specG_merges hr L (H ++ t.2.2) (List.nodup_cons.2 ⟨fun h => by obtain ⟨t', ht', e⟩ := List.mem_map.1 h; exact tl0 t' ht' e, n4⟩) (fun t' ht' => hk t' (List.mem_cons_of_mem _ ht')) (fun hn2 => ?_)) ?_ (fun _ => ?_) t1 ?_ (fun j => ?_) (fun _ j => ?_) (fun j Y hY => ?_) (fun _ j Y hY => ?_) (loc_merge t.1 t1) (fun _ => hr)
      · have e : H ++ (t :: L).flatMap (·.2.2) = H ++ t.2.2 ++ L.flatMap (·.2.2) := by simp
        rw [← e]; exact h (by rw [e]; exact hn2)
      · rw [look_cons, if_neg t1]; exact look_none tl
      · rw [look_cons, if_neg t1]; exact look_none tl
      · rw [look_cons, if_pos rfl]
      · rw [List.map_cons]
        simp only [look_cons]
        by_cases e : j = 1000
        · simp [e]
        · simp [e]
      · rw [List.map_cons]
        simp only [look_cons]
        by_cases e : j = 1000
        · subst e; simp [t1.symm]
        · simp [e]
      · rw [look_cons] at hY
        split at hY
        · cases hY; exact cst_cust
        · obtain ⟨t', ht', rfl⟩ := look_in hY; exact (hk t' (List.mem_cons_of_mem _ ht')).1
      · rw [look_cons] at hY
        split at hY
        · cases hY; exact cst_dead
        · obtain ⟨t', ht', rfl⟩ := look_in hY; exact cst_dead
end
end Go.SX

/- The book: its own memory; lists that it was handed stay readable until Own. -/
namespace Go.SX

/-- A list of bytes, known: its value, its block. -/
def OneB (bs : List UInt8) (x : Value × Mem) : Prop := OneL x.2 5 1 x.1 bs.length ∧ ∀ p ∈ x.2, ∀ (i : Nat) (y : UInt8), bs[i]? = some y → p.2.2[i]? = some (.int .u8 (y.toNat : Int))
def knownB (bs : Unit → List UInt8) (x : Value × Mem) : TObj := .cust (some (.bytes bs)) (fun _ => memΦ x.1 x.2)

theorem barr_known {η : OEnv} {G : Nat → Prop} {w : World} {bs : Unit → List UInt8} {o : OInfo} (h : ObjRel η G w (.barr 5 bs) o) : ∃ more, OneB (bs ()) (o.val, more) ∧ ObjRel η G w (knownB bs (o.val, more)) o := by
  obtain ⟨h1, h2, h3⟩ := h
  rcases h3 with ⟨q1, q2, q3⟩ | ⟨b, c, cs, T, q1, q2, q3, ⟨q4, q5⟩, q6, q7, q8⟩
  · refine ⟨[], ⟨.inl ⟨rfl, q1, q2⟩, by simp⟩, h1, h2, fun w' _ => ⟨⟨rfl, q3, by rw [q3]; simp, by simp⟩, fun x hx => ?_⟩⟩
    cases hx
    exact ⟨none, 0, by rw [q1, q2], by omega, fun i x hx => by
      have := (List.getElem?_eq_some_iff.1 hx).1; omega⟩
  · have hT := q5.resolve_left (by decide)
    subst hT
    refine ⟨[(b, 5, cs.toList)], ⟨.inr ⟨b, c, cs.toList, rfl, q1, by simpa using q4, q6, q7⟩, fun p hp i y hy => by simp at hp; subst hp; have := q8 i y hy; simpa using this⟩, h1, h2, fun w' hw' => ?_⟩
    have hrow : HasRow w' b 5 cs.toList := by unfold HasRow; rw [hw' b (by rw [q2]; simp)]; exact q3
    refine ⟨⟨rfl, q2, by rw [q2]; simp, fun p hp => by simp at hp; subst hp; exact hrow⟩, fun x hx => ?_⟩
    cases hx
    exact ⟨_, c, q1, q6, fun i x hx => ⟨b, 0, rfl, by rw [q2]; simp, by
      rw [cell_cells hrow, Nat.zero_add]; have := q8 i x hx; simpa using this⟩⟩

section
variable {P : Program} {f : Nat}
/-- A list handed in becomes known. -/
theorem specG_open {A : TObj} {bs : Unit → List UInt8} {Y : Value × Mem → Type} {o' : (x : Value × Mem) → Y x → Objs}
    (h : ∀ x : Value × Mem, OneB (bs ()) x → x.1.oneCell' = true → SpecG P f [.loc 1000 0, .rv 1001 (fun _ => x.1)] [(1000, A), (1001, knownB bs x)] (Y x) (fun _ => .tup []) (o' x)) :
    SpecG P f [.loc 1000 0, .own 1001] [(1000, A), (1001, .barr 5 bs)] ((x : {x : Value × Mem // OneB (bs ()) x}) × Y x.1) (fun _ => .tup []) (fun s => o' s.1.1 s.2) := by
  intro η G vs w hsep hob hs
  have hob1 := hob 1001
  have e01 : eqN 1000 1001 = false := by decide
  simp only [lookN, e01, cond_false, eqN_refl, cond_true] at hob1
  match vs, hs with
  | [v1, v2], hs =>
    simp only [SVRels] at hs
    obtain ⟨hs1, hs2, -⟩ := hs
    simp only [SVRel] at hs2
    obtain ⟨o, ho, hone, hv⟩ := hs2
    rw [ho] at hob1
    obtain ⟨more, hB, hR⟩ := barr_known (η := η) (G := G) (w := w) (o := o) hob1
    have hv2 : v2 = o.val := hv hR.1
    refine (h (o.val, more) hB (hv2 ▸ hone) η G [v1, v2] w hsep (fun j => ?_) ⟨hs1, ⟨hv2, hone⟩, trivial⟩).mono fun v w' ⟨y, η', G', hh⟩ => ⟨⟨⟨_, hB⟩, y⟩, η', G', hh⟩
    have hj := hob j
    by_cases e : j = 1001
    · subst e
      simp only [lookN, e01, cond_false, eqN_refl, cond_true]
      rw [ho]; exact hR
    · have q : eqN 1001 j = false := decide_eq_false fun e' => e e'.symm
      simp only [lookN, q, cond_false] at hj ⊢
      exact hj
  | [], h => exact h.elim
  | [_], h => exact h.2.elim
  | _ :: _ :: _ :: _, h => exact h.2.2.elim

theorem specG_conv {k : Nat} {svs : List SV} {A : TObj} {rest : Objs} {Y : Type} {F : Y → Prop} {A' : Y → TObj} {X : Y → Type} {r : (y : Y) → X y → SV} {objs' : (y : Y) → X y → Objs} (h : ∀ (η : OEnv) (G : Nat → Prop) (w : World) (o : OInfo), ObjRel η G w A o → ∃ y, F y ∧ ObjRel η G w (A' y) o)
    (hf : ∀ y, F y → SpecG P f svs ((k, A' y) :: rest) (X y) (r y) (objs' y)) : SpecG P f svs ((k, A) :: rest) ((y : {y : Y // F y}) × X y.1) (fun s => r s.1.1 s.2) (fun s => objs' s.1.1 s.2) := by
  intro η G vs w hsep hob hs
  have hk := hob k
  simp only [lookN, eqN_refl, cond_true] at hk
  cases ho : η k with
  | none => rw [ho] at hk; exact hk.elim
  | some o =>
    rw [ho] at hk
    obtain ⟨y, hy, hy2⟩ := h η G w o hk
    refine (hf y hy η G vs w hsep (fun j => ?_) hs).mono fun v w' ⟨x, η', G', hh⟩ => ⟨⟨⟨y, hy⟩, x⟩, η', G', hh⟩
    by_cases e : j = k
    · subst e
      simp only [lookN, eqN_refl, cond_true, ho]; exact hy2
    · have q : eqN k j = false := decide_eq_false fun e' => e e'.symm
      have := hob j
      simp only [lookN, q, cond_false] at this ⊢
      exact this

/-- What is known of the memory that comes out is a ghost. -/
theorem specG_out {svs : List SV} {objs : Objs} {r : SV} {v0 : Value} {Q : Mem → Prop} (h : SpecX P f svs objs r [(1000, .cust none (fun _ => exΦ v0 Q))]) : SpecG P f svs objs {H : Mem // Q H} (fun _ => r) (fun x => [(1000, .cust none (fun _ => memΦ v0 x.1))]) := by
  intro η G vs w hsep hob hs
  refine (h η G vs w hsep hob hs).mono fun v w' ⟨η', G', h1, h2, h3⟩ => ?_
  have hk := h2 1000
  simp only [lookN, eqN_refl, cond_true] at hk
  cases ho : η' 1000 with
  | none => rw [ho] at hk; exact hk.elim
  | some o =>
    rw [ho] at hk
    obtain ⟨H, q1, q2, q3⟩ := cust_open (η := η') (G := G') ex_id hk
    refine ⟨⟨H, q1⟩, η', G', h1, fun j => ?_, h3⟩
    have hj := h2 j
    rw [lookN_one] at hj ⊢
    by_cases e : j = 1000
    · subst e; rw [if_pos rfl, ho]; exact q3
    · rw [if_neg e] at hj ⊢; exact hj
end
end Go.SX

/- What is lent: bytes. -/
namespace Go.Proofs.Ytmdfjipjkkjpcaa
open Go.SX

def roomC (l : List UInt8) : List Value := l.map u8v ++ [u8v 91, u8v 92]
/-- Bytes with two of room behind that have marks. -/
def roomΦ (l : List UInt8) (w : World) (v : Value) (B : List Nat) : Prop := rowΦ 5 1 l.length (l.length + 2) (roomC l) w v B

theorem room_dv {l : List UInt8} {w : World} {b : Nat} (h : HasRow w b 5 (roomC l)) : DVRel w (fun x => x ∈ [b]) (.bytes fun _ => l) (.slice (some ⟨b, 0, none⟩) l.length (l.length + 2)) := by
  refine ⟨_, _, rfl, by show l.length ≤ l.length + 2; omega, fun i x hx => ⟨b, 0, rfl, by simp, ?_⟩⟩
  rw [cell_cells h, Nat.zero_add]
  have hlt : i < l.length := (List.getElem?_eq_some_iff.1 hx).1
  rw [show (⟨roomC l⟩ : Array Value)[i]? = (roomC l)[i]? by simp]
  unfold roomC
  rw [List.getElem?_append_left (by simpa using hlt), List.getElem?_map, hx]; rfl

theorem info5x : ∃ i, Try.prog.info? 5 = some i ∧ i.zero = some (.int .u8 0) ∧ i.size = 1 ∧ i.bytes = 1 := by
  have h := info5
  cases hi : Try.prog.info? 5 with
  | none => rw [hi] at h; cases h
  | some i =>
    rw [hi] at h
    simp only [Option.map_some, Option.some.injEq, Prod.mk.injEq] at h
    exact ⟨i, rfl, h.2.2, h.1, h.2.1⟩

theorem made_bytes (n : Nat) : (madeCells (Value.int .u8 0).cells (n * 1)).toList = List.replicate n (u8v 0) := by
  apply List.ext_getElem
  · simp [size_madeCells]
  · intro i h1 h2
    simp [madeCells, Value.cells, u8v, Nat.mod_one]

theorem lit_rd {η : OEnv} {G : Nat → Prop} {w : World} {v : Value} {Φ : World → Value → List Nat → Prop} (hob : ∀ k, ObjOpt η G w (lookN k [(1000, TObj.cust none (fun _ => Φ)), (1001, TObj.cells 5 [.int .u8 (.l 91), .int .u8 (.l 92)])]) (η k)) (hv : SVRel η G w (.csl 1001 1 2) v) : Rd w v 2 [u8v 91, u8v 92] := by
  have h := hob 1001
  simp only [SVRel] at hv
  obtain ⟨o, ho, h1, hv⟩ := hv
  rw [ho] at h
  have h : ObjRel η G w (.cells 5 [.int .u8 (.l 91), .int .u8 (.l 92)]) o := h
  obtain ⟨h2, h3, b, us, hm, hh, hs⟩ := h
  obtain ⟨b', hb', rfl⟩ := hv h2
  obtain rfl := OInfo.at_one hm hb'
  match us, hs with
  | [u1, u2], hs =>
    simp only [SVRels, SVRel, IE.den_l] at hs
    obtain ⟨rfl, rfl, -⟩ := hs
    refine ⟨_, _, rfl, fun _ => ⟨_, rfl, fun j u hj => ?_⟩⟩
    rw [add_none, cell_cells hh, Nat.zero_add]
    simpa [u8v] using hj
  | [], hs => exact hs.elim
  | [_], hs => exact hs.2.elim
  | _ :: _ :: _ :: _, hs => exact hs.2.2.elim

set_option maxRecDepth 20000 in
set_option maxHeartbeats 4000000 in
theorem con24 {l : List UInt8} (hl : l.length < 1000000000000) : Con 24 [.dat (.bytes fun _ => l)] [] (.own 2000) [(2000, .cust (some (.bytes fun _ => l)) (fun _ => roomΦ l))] := by
  obtain ⟨i, hi, hz, hs, hb⟩ := info5x
  obtain ⟨c, hc⟩ : ∃ c, c = l.length + 2 := ⟨_, rfl⟩
  have bc : bound64 ((l.length : Int) + 2) := by unfold bound64; omega
  have hzc : (l.length : Int) + 2 = (c : Int) := by omega
  obtain ⟨c0, h0⟩ : ∃ c0, c0 = (madeCells (Value.int .u8 0).cells (c * i.size)).toList := ⟨_, rfl⟩
  obtain ⟨n1, hn1⟩ : ∃ n1, n1 = 0 + l.length := ⟨_, rfl⟩
  obtain ⟨c1, h1⟩ : ∃ c1, c1 = c0.take (0 * i.size) ++ l.map u8v ++ c0.drop ((0 + l.length) * i.size) := ⟨_, rfl⟩
  obtain ⟨n2, hn2⟩ : ∃ n2, n2 = n1 + 2 := ⟨_, rfl⟩
  obtain ⟨c2, h2⟩ : ∃ c2, c2 = c1.take (n1 * i.size) ++ [u8v 91, u8v 92] ++ c1.drop ((n1 + 2) * i.size) := ⟨_, rfl⟩
  have hc0 : c0 = List.replicate c (u8v 0) := by rw [h0, hs]; exact made_bytes c
  have hc2 : c2 = roomC l := by
    rw [h2, h1, hs, hc0, hn1, hc]
    unfold roomC
    simp
  have r1 : ConG (rawC 7 27) [.int .i64 (.l 0), .int .i64 (.s fun _ => (l.length : Int) + 2)] [] Unit (fun _ => .own 2000) (fun _ => [(2000, .cust none (fun _ => rowΦ 5 1 0 c c0))]) :=
    ⟨raw_make (sz := 1) hzc hs.symm h0 Try.underlying27 hi hz (by rw [hb]; omega) (by omega)⟩
  have r2 : ConG (rawC 3 27) [.own 1000, .dat (.bytes fun _ => l)] [(1000, .cust none (fun _ => rowΦ 5 1 0 c c0))] Unit (fun _ => .own 2000) (fun _ => [(1000, .dead), (2000, .cust none (fun _ => rowΦ 5 1 n1 c c1))]) :=
    ⟨raw_app (sz := 1) (rest := []) (m := l.length) (news := l.map u8v) hs.symm hn1 h1 Try.underlying27 hi (by omega) (by omega) (by rw [hs]; simp) (u8v_one l) (by simp [namesOf]) fun η G w v _ hv => by simp only [SVRel] at hv; exact rd_bytes (bs := fun _ => l) hv⟩
  have r3 : ConG (rawC 3 27) [.own 1000, .csl 1001 1 2] [(1000, .cust none (fun _ => rowΦ 5 1 n1 c c1)), (1001, .cells 5 [.int .u8 (.l 91), .int .u8 (.l 92)])] Unit (fun _ => .own 2000) (fun _ => [(1000, .dead), (1001, .dead), (2000, .cust none (fun _ => rowΦ 5 1 n2 c c2))]) :=
    ⟨raw_app (sz := 1) (rest := [(1001, .cells 5 [.int .u8 (.l 91), .int .u8 (.l 92)])]) (m := 2) (news := [u8v 91, u8v 92]) hs.symm hn2 h2 Try.underlying27 hi (by omega) (by omega) (by rw [hs]; rfl) (by intro u hu; simp at hu; rcases hu with rfl | rfl <;> rfl) (by simp [namesOf]) fun η G w v hob hv => lit_rd hob hv⟩
  have r4 : ConG (rawC 6 27) [.own 1000, .int .i64 (.s fun _ => (l.length : Int))] [(1000, .cust none (fun _ => rowΦ 5 1 n2 c c2))] Unit (fun _ => .own 2000) (fun _ => [(1000, .dead), (2000, .cust (some (.bytes fun _ => l)) (fun _ => roomΦ l))]) :=
    ⟨raw_cut (n := n2) (m := l.length) (c := c) rfl Try.underlying27 hi (by omega) (fun w v B h => ⟨_, h.choose_spec.1⟩) fun w b B h => by
      obtain ⟨b', h1, rfl, h3, h4, h5⟩ := h
      cases h1
      rw [hc2] at h3 h4
      refine ⟨⟨b, by rw [hc], rfl, h3, by rw [h4, hc], by omega⟩, fun x hx => ?_⟩
      cases hx
      rw [hc]
      exact room_dv h3⟩
  clear h0 h1 h2 hn1 hn2 hc0 hc2
  refine con_of Try.func24 rfl rfl 18 _ rfl rfl rfl rfl ?_
  cbv
  refine ⟨⟨bc⟩, ?_⟩
  refine ⟨Unit, _, _, r1, ⟨by kernel_rfl⟩, fun _ => ⟨⟨by kernel_rfl⟩, ?_⟩⟩
  cbv
  refine ⟨Unit, _, _, r2, ⟨by kernel_rfl⟩, fun _ => ⟨⟨by kernel_rfl⟩, ?_⟩⟩
  cbv
  refine ⟨Unit, _, _, r3, ⟨by kernel_rfl⟩, fun _ => ⟨⟨by kernel_rfl⟩, ?_⟩⟩
  cbv
  refine ⟨Unit, _, _, r4, ⟨by kernel_rfl⟩, fun _ => ⟨⟨by kernel_rfl⟩, ?_⟩⟩
  cbv
  refine ⟨[(2000, some 4700)], [], ?_⟩
  cbv
  and_intros
  all_goals first | exact trivial | exact ⟨rfl⟩ | exact ⟨rfl, fun _ _ _ h => h⟩ | exact ⟨by kernel_rfl⟩
end Go.Proofs.Ytmdfjipjkkjpcaa

/- What is lent: entries. -/
namespace Go.Proofs.Ytmdfjipjkkjpcaa
open Go.SX

theorem specX_ofG {P : Program} {f : Nat} {svs : List SV} {objs : Objs} {r : Unit → SV} {objs' : Unit → Objs} (h : SpecG P f svs objs Unit r objs') : SpecX P f svs objs (r ()) (objs' ()) :=
  fun η G vs w h1 h2 h3 => (h η G vs w h1 h2 h3).mono fun _ _ ⟨_, h⟩ => h

theorem csl_at {η : OEnv} {G : Nat → Prop} {w : World} {objs : Objs} (hob : ∀ k, ObjOpt η G w (lookN k objs) (η k)) {k wd n T : Nat} {cs : List SV} (hk : lookN k objs = some (.cells T cs)) {v : Value} (hv : SVRel η G w (.csl k wd n) v) :
    ∃ o b us, η k = some o ∧ o.main = [b] ∧ o.inner = [] ∧ v = .slice (some ⟨b, 0, none⟩) n n ∧ HasRow w b T us ∧ SVRels η G w cs us := by
  have h := hob k
  simp only [SVRel] at hv
  obtain ⟨o, ho, h1, hv⟩ := hv
  rw [hk, ho] at h
  have h : ObjRel η G w (.cells T cs) o := h
  obtain ⟨h2, h3, b, us, hm, hh, hs⟩ := h
  obtain ⟨b', hb', rfl⟩ := hv h2
  obtain rfl := OInfo.at_one hm hb'
  exact ⟨o, b, us, ho, hm, h3, rfl, hh, hs⟩

def hdr (b : Nat) (l : List UInt8) : Value := .slice (some ⟨b, 0, none⟩) l.length (l.length + 2)
abbrev Slot := Nat × Nat × Ent
def Slot.cells (t : Slot) : List Value := [hdr t.1 t.2.2.key, hdr t.2.1 t.2.2.val, .int .u32 t.2.2.page, .int .u32 t.2.2.size]
def Slot.blks (t : Slot) : List Nat := [t.1, t.2.1]
def lastC : List Value := [.slice none 0 0, .slice none 0 0, .int .u32 77, .int .u32 0]

structure LentAt (es : List Ent) (n c : Nat) (tail : List Value) (w : World) (v : Value) (B : List Nat) (b : Nat) (L : List Slot) : Prop where
  hes : L.map (·.2.2) = es
  hv : v = .slice (some ⟨b, 0, none⟩) n c
  hB : B = b :: L.flatMap Slot.blks
  nd : B.Nodup
  row : HasRow w b 74 (L.flatMap Slot.cells ++ tail)
  len : es.length * 4 + tail.length = c * 4
  rooms : ∀ t ∈ L, HasRow w t.1 5 (roomC t.2.2.key) ∧ HasRow w t.2.1 5 (roomC t.2.2.val)

/-- A part of what is lent, with room behind. -/
def lentP (es : List Ent) (c : Nat) (w : World) (v : Value) (B : List Nat) : Prop := ∃ b L tail, LentAt es es.length c tail w v B b L
/-- All of it, and what marks the end. -/
def lentF (es : List Ent) (w : World) (v : Value) (B : List Nat) : Prop := ∃ b L, LentAt es (es.length + 1) (es.length + 1) lastC w v B b L
def lentΦ (es : List Ent) (w : World) (v : Value) (B : List Nat) : Prop := ∃ b L, LentAt es es.length (es.length + 1) lastC w v B b L

theorem cells_len (L : List Slot) : (L.flatMap Slot.cells).length = L.length * 4 := by
  induction L with
  | nil => rfl
  | cons t L ih => simp only [List.flatMap_cons, List.length_append, ih, List.length_cons]; simp [Slot.cells]; omega

theorem LentAt.keep {es : List Ent} {n c : Nat} {tail : List Value} {w w' : World} {v : Value} {B : List Nat} {b : Nat} {L : List Slot} (h : LentAt es n c tail w v B b L) (hw : ∀ x ∈ B, w'.heap[x]? = w.heap[x]?) : LentAt es n c tail w' v B b L := by
  have hB := h.hB
  have hin : ∀ t ∈ L, t.1 ∈ B ∧ t.2.1 ∈ B := fun t ht => by
    rw [hB]
    exact ⟨List.mem_cons_of_mem _ (List.mem_flatMap.2 ⟨t, ht, by simp [Slot.blks]⟩), List.mem_cons_of_mem _ (List.mem_flatMap.2 ⟨t, ht, by simp [Slot.blks]⟩)⟩
  exact ⟨h.hes, h.hv, h.hB, h.nd, by unfold HasRow; rw [hw b (by rw [hB]; simp)]; exact h.row, h.len, fun t ht => ⟨by unfold HasRow; rw [hw _ (hin t ht).1]; exact (h.rooms t ht).1, by unfold HasRow; rw [hw _ (hin t ht).2]; exact (h.rooms t ht).2⟩⟩

theorem room_at {η : OEnv} {G : Nat → Prop} {w : World} {objs : Objs} (hob : ∀ k, ObjOpt η G w (lookN k objs) (η k)) {k : Nat} {l : List UInt8} {d : Option DV} (hk : lookN k objs = some (.cust d (fun _ => roomΦ l))) {v : Value} (hv : SVRel η G w (.own k) v) :
    ∃ o b, η k = some o ∧ o.main = [b] ∧ v = hdr b l ∧ HasRow w b 5 (roomC l) := by
  obtain ⟨o, ho, _, _, rfl, hq⟩ := cust_at hob hk hv
  obtain ⟨b, h1, h2, h3, _, _⟩ := (hq w fun _ _ => rfl).1
  exact ⟨o, b, ho, h2, h1, h3⟩

theorem info74x : ∃ i, Try.prog.info? 74 = some i ∧ i.zero = some (.agg #[.slice none 0 0, .slice none 0 0, .int .u32 0, .int .u32 0]) ∧ i.size = 4 ∧ i.bytes = 56 := by
  have h := info74
  cases hi : Try.prog.info? 74 with
  | none => rw [hi] at h; cases h
  | some i =>
    rw [hi] at h
    simp only [Option.map_some, Option.some.injEq, Prod.mk.injEq] at h
    exact ⟨i, rfl, h.2.2, h.1, h.2.1⟩

/-- One entry more is lent. -/
theorem raw_lend {es : List Ent} {e : Ent} {c : Nat} (hroom : es.length + 1 ≤ c) {dk dv : Option DV} :
    SpecG Try.prog (rawC 3 22) [.own 1000, .csl 1001 4 1] [(1000, .cust none (fun _ => lentP es c)), (1001, .cells 74 [.own 1002, .own 1003, .int .u32 (.s fun _ => e.page), .int .u32 (.s fun _ => e.size)]), (1002, .cust dk (fun _ => roomΦ e.key)), (1003, .cust dv (fun _ => roomΦ e.val))]
      Unit (fun _ => .own 2000) (fun _ => [(1000, .dead), (1001, .dead), (1002, .dead), (1003, .dead), (2000, .cust none (fun _ => lentP (es ++ [e]) c))]) := by
  intro η G vs w hsep hob hs'
  match vs, hs' with
  | [v0, v1], hs' =>
    simp only [SVRels] at hs'
    obtain ⟨h0, hy1, -⟩ := hs'
    obtain ⟨o, ho, hd, hin, rfl, hq⟩ := cust_at hob (k := 1000) rfl h0
    obtain ⟨b, L, tail, hL⟩ := (hq w fun _ _ => rfl).1
    obtain ⟨o1, b1, us, ho1, hm1, hi1, rfl, hrow1, hus⟩ := csl_at hob (k := 1001) rfl hy1
    match us, hus with
    | [u1, u2, u3, u4], hus =>
      simp only [SVRels] at hus
      obtain ⟨k1, k2, k3, k4, -⟩ := hus
      simp only [SVRel, IE.den_s] at k3 k4
      subst k3; subst k4
      obtain ⟨o2, kb, ho2, hm2, rfl, hrk⟩ := room_at hob (k := 1002) rfl k1
      obtain ⟨o3, vb, ho3, hm3, rfl, hrv⟩ := room_at hob (k := 1003) rfl k2
      obtain ⟨i, hi, hz, hs, hb⟩ := info74x
      have hlL : L.length = es.length := by have := congrArg List.length hL.hes; simpa using this
      have hcl := cells_len L
      have hc : (L.flatMap Slot.cells ++ tail).length = c * i.size := by rw [List.length_append, hcl, hs, hlL]; exact hL.len
      have hrd : Rd w (.slice (some ⟨b1, 0, none⟩) 1 1) 1 (Slot.cells (kb, vb, e)) := ⟨_, _, rfl, fun _ => ⟨_, rfl, fun j u hj => by
        rw [add_none, cell_cells hrow1, Nat.zero_add]
        simpa [Slot.cells] using hj⟩⟩
      have hr := run_room (P := Try.prog) (ty := 22) Try.underlying22 hi (by omega) hL.row hc hroom hrd (by rw [hs]; rfl) (by intro u hu; simp [Slot.cells] at hu; rcases hu with rfl | rfl | rfl | rfl <;> rfl)
      unfold RunsX
      rw [rawSem_rawC (by omega)]
      refine ⟨_, _, by rw [hL.hv]; exact hr, (), ?_⟩
      have hne : ∀ (j : Nat) (oj : OInfo) (x : Nat), η j = some oj → x ∈ oj.main → j ≠ 1000 → x ∉ o.main := fun j oj x hj hx hne hx' => hsep.dj j oj 1000 o hj ho hne x (List.mem_append_left _ hx) (List.mem_append_left _ hx')
      have hkB : kb ∉ o.main := hne 1002 o2 kb ho2 (by simp [hm2]) (by omega)
      have hvB : vb ∉ o.main := hne 1003 o3 vb ho3 (by simp [hm3]) (by omega)
      have hkv : kb ≠ vb := fun e => hsep.dj 1002 o2 1003 o3 ho2 ho3 (by omega) kb (by simp [hm2]) (by simp [hm3, e])
      have hbB : b ∈ o.main := by rw [hL.hB]; simp
      have hother : ∀ x, x ≠ b → (w.setRow b ((L.flatMap Slot.cells ++ tail).take (es.length * i.size) ++ Slot.cells (kb, vb, e) ++ (L.flatMap Slot.cells ++ tail).drop ((es.length + 1) * i.size)).toArray).heap[x]? = w.heap[x]? := fun x hx => setRow_other w b x _ hx
      have hcs : (L.flatMap Slot.cells ++ tail).take (es.length * i.size) ++ Slot.cells (kb, vb, e) ++ (L.flatMap Slot.cells ++ tail).drop ((es.length + 1) * i.size) = (L ++ [(kb, vb, e)]).flatMap Slot.cells ++ tail.drop 4 := by
        rw [hs, ← hlL]
        have e1 : (L.flatMap Slot.cells ++ tail).take (L.length * 4) = L.flatMap Slot.cells := by rw [← hcl]; exact List.take_left
        have e2 : (L.flatMap Slot.cells ++ tail).drop ((L.length + 1) * 4) = tail.drop 4 := by
          rw [show (L.length + 1) * 4 = (L.flatMap Slot.cells).length + 4 by omega, ← List.drop_drop, List.drop_left]
        rw [e1, e2]
        simp
      have hat : LentAt (es ++ [e]) (es ++ [e]).length c (tail.drop 4) (w.setRow b ((L.flatMap Slot.cells ++ tail).take (es.length * i.size) ++ Slot.cells (kb, vb, e) ++ (L.flatMap Slot.cells ++ tail).drop ((es.length + 1) * i.size)).toArray)
          (.slice (some ⟨b, 0, none⟩) (es.length + 1) c) (o.main ++ [kb, vb]) b (L ++ [(kb, vb, e)]) := by
        refine ⟨by simp [hL.hes], by simp, by rw [hL.hB]; simp [Slot.blks], ?_, by rw [← hcs]; exact setRow_has hL.row, ?_, fun t ht => ?_⟩
        · refine List.nodup_append.2 ⟨hL.nd, by simp [hkv], fun x hx y hy e => ?_⟩
          subst e
          simp at hy
          rcases hy with rfl | rfl
          · exact hkB hx
          · exact hvB hx
        · have := hL.len
          simp only [List.length_append, List.length_cons, List.length_nil, List.length_drop]; omega
        · rcases List.mem_append.1 ht with ht | ht
          · have hb1 : t.1 ≠ b ∧ t.2.1 ≠ b := by
              have hnd := hL.nd
              rw [hL.hB] at hnd
              have hn := (List.nodup_cons.1 hnd).1
              exact ⟨fun e => hn (by rw [← e]; exact List.mem_flatMap.2 ⟨t, ht, by simp [Slot.blks]⟩), fun e => hn (by rw [← e]; exact List.mem_flatMap.2 ⟨t, ht, by simp [Slot.blks]⟩)⟩
            exact ⟨by unfold HasRow; rw [hother _ hb1.1]; exact (hL.rooms t ht).1, by unfold HasRow; rw [hother _ hb1.2]; exact (hL.rooms t ht).2⟩
          · simp at ht
            subst ht
            exact ⟨(hother kb fun e => hkB (by rw [e]; exact hbB)).trans hrk, (hother vb fun e => hvB (by rw [e]; exact hbB)).trans hrv⟩
      refine raw_own (objs := [(1000, .cust none (fun _ => lentP es c)), (1001, .cells 74 [.own 1002, .own 1003, .int .u32 (.s fun _ => e.page), .int .u32 (.s fun _ => e.size)]), (1002, .cust dk (fun _ => roomΦ e.key)), (1003, .cust dv (fun _ => roomΦ e.val))])
        (o := ⟨.slice (some ⟨b, 0, none⟩) (es.length + 1) c, o.main ++ [kb, vb], [], false⟩) (by simp [namesOf]) hsep hob
        ⟨rfl, rfl, rfl, by simp, fun b' hb' hno => hother b' fun e => hno 1000 (by simp [namesOf]) o ho (by rw [e]; simp [hbB]), fun b' hb' => ?_, by simp⟩ rfl
        (cust_rel fun w' hw' => ⟨⟨b, _, _, hat.keep hw'⟩, fun x hx => by cases hx⟩)
      simp only [List.append_nil, List.mem_append, List.mem_cons, List.not_mem_nil, or_false] at hb'
      rcases hb' with hb' | rfl | rfl
      · exact ⟨by simpa using (hsep.lt 1000 o ho b' (by simp [hb'])).1, .inr ⟨1000, by simp [namesOf], o, ho, by simp [hb']⟩⟩
      · exact ⟨by simpa using (hsep.lt 1002 o2 ho2 b' (by simp [hm2])).1, .inr ⟨1002, by simp [namesOf], o2, ho2, by simp [hm2]⟩⟩
      · exact ⟨by simpa using (hsep.lt 1003 o3 ho3 b' (by simp [hm3])).1, .inr ⟨1003, by simp [namesOf], o3, ho3, by simp [hm3]⟩⟩
    | [], h => exact h.elim
    | [_], h => exact h.2.elim
    | [_, _], h => exact h.2.2.elim
    | [_, _, _], h => exact h.2.2.2.elim
    | _ :: _ :: _ :: _ :: _ :: _, h => exact h.2.2.2.2.elim
  | [], h => exact h.elim
  | [_], h => exact h.2.elim
  | _ :: _ :: _ :: _, h => exact h.2.2.elim

theorem cells_at : ∀ (L : List Slot) (i j : Nat), i < L.length → j < 4 → (L.flatMap Slot.cells)[i * 4 + j]? = (Slot.cells (L.getD i default))[j]?
  | [], i, j, h, _ => by simp at h
  | t :: L, 0, j, _, hj => by
      simp only [List.flatMap_cons, Nat.zero_mul, Nat.zero_add]
      rw [List.getElem?_append_left (by simp [Slot.cells]; omega)]; rfl
  | t :: L, i + 1, j, h, hj => by
      simp only [List.flatMap_cons]
      rw [List.getElem?_append_right (by simp [Slot.cells]; omega), show (i + 1) * 4 + j - (Slot.cells t).length = i * 4 + j by simp [Slot.cells]; omega, cells_at L i j (by simpa using h) hj]; rfl

/-- An entry whose lists have room behind. -/
def encX (e : Unit → Ent) : Nat → DV
  | 0 => .rb (fun _ => (e ()).key) fun _ => [91, 92]
  | 1 => .rb (fun _ => (e ()).val) fun _ => [91, 92]
  | 2 => .int .u32 fun _ => (e ()).page
  | _ => .int .u32 fun _ => (e ()).size
def lastE : Ent := ⟨[], [], 77, 0⟩
def lentDV (es : List Ent) : DV := .rs 4 (fun _ => es.length) (fun _ => es.length + 1) (lrow encX fun _ => es) (lrow encE fun _ => es ++ [lastE])

theorem room_rb {l : List UInt8} {w : World} {b : Nat} (h : HasRow w b 5 (roomC l)) {S : Nat → Prop} (hb : S b) : DVRel w S (.rb (fun _ => l) fun _ => [91, 92]) (hdr b l) := by
  refine ⟨b, 0, rfl, hb, fun i x hx => ?_⟩
  rw [cell_cells h, Nat.zero_add]
  rw [show (⟨roomC l⟩ : Array Value)[i]? = (roomC l)[i]? by simp]
  have e : roomC l = (l ++ [91, 92]).map u8v := by simp [roomC]
  rw [e, List.getElem?_map, hx]; rfl
theorem rb_bytes {w : World} {S : Nat → Prop} {bs tail : Unit → List UInt8} {v : Value} (h : DVRel w S (.rb bs tail) v) : DVRel w S (.bytes bs) v := by
  obtain ⟨b, o, rfl, hb, hr⟩ := h
  exact ⟨_, _, rfl, by omega, fun i x hx => ⟨b, o, rfl, hb, hr i x (by rw [List.getElem?_append_left (List.getElem?_eq_some_iff.1 hx).1]; exact hx)⟩⟩

theorem lent_dv {es : List Ent} {w : World} {v : Value} {B : List Nat} {b : Nat} {L : List Slot} (h : LentAt es es.length (es.length + 1) lastC w v B b L) : DVRel w (fun x => x ∈ B) (lentDV es) v := by
  have hlL : L.length = es.length := by have := congrArg List.length h.hes; simpa using this
  have hbB : b ∈ B := by rw [h.hB]; simp
  have cell : ∀ i j, i < es.length → j < 4 → ∃ u, w.cell? ⟨b, 0 + i * 4 + j, none⟩ = some u ∧ DVRel w (fun x => x ∈ B) (encX (fun _ => es.getD i default) j) u := by
    intro i j hi hj
    have hi : i < L.length := by rw [hlL]; exact hi
    have hmem : L.getD i default ∈ L := getD_mem hi
    have he : es.getD i default = (L.getD i default).2.2 := by
      rw [← h.hes, List.getD_eq_getElem?_getD, List.getD_eq_getElem?_getD, List.getElem?_map, List.getElem?_eq_getElem hi]; rfl
    have hrooms := h.rooms _ hmem
    have hin : (L.getD i default).1 ∈ B ∧ (L.getD i default).2.1 ∈ B := by
      rw [h.hB]
      exact ⟨List.mem_cons_of_mem _ (List.mem_flatMap.2 ⟨_, hmem, by simp [Slot.blks]⟩), List.mem_cons_of_mem _ (List.mem_flatMap.2 ⟨_, hmem, by simp [Slot.blks]⟩)⟩
    have hcell : ∀ u, (Slot.cells (L.getD i default))[j]? = some u → w.cell? ⟨b, 0 + i * 4 + j, none⟩ = some u := by
      intro u hu
      rw [cell_cells h.row, Nat.zero_add]
      have : (L.flatMap Slot.cells ++ lastC)[i * 4 + j]? = some u := by
        rw [List.getElem?_append_left (by rw [cells_len]; omega), cells_at L i j hi hj, hu]
      simpa using this
    rw [he]
    match j, hj with
    | 0, _ => exact ⟨_, hcell _ rfl, room_rb hrooms.1 hin.1⟩
    | 1, _ => exact ⟨_, hcell _ rfl, room_rb hrooms.2 hin.2⟩
    | 2, _ => exact ⟨_, hcell _ rfl, rfl⟩
    | 3, _ => exact ⟨_, hcell _ rfl, rfl⟩
    | j + 4, h => omega
  refine ⟨b, 0, h.hv, hbB, by show es.length ≤ es.length + 1; omega, fun i hi j hj => cell i j hi hj, fun i hi j hj => ?_⟩
  have hi : i < es.length + 1 := hi
  show ∃ u, w.cell? ⟨b, 0 + i * 4 + j, none⟩ = some u ∧ DVRel w (fun x => x ∈ B) (encE (fun _ => (es ++ [lastE]).getD i default) j) u
  by_cases hlt : i < es.length
  · have e : (es ++ [lastE]).getD i default = es.getD i default := by rw [List.getD_eq_getElem?_getD, List.getD_eq_getElem?_getD, List.getElem?_append_left hlt]
    rw [e]
    obtain ⟨u, hu, hd⟩ := cell i j hlt hj
    refine ⟨u, hu, ?_⟩
    match j, hj with
    | 0, _ => exact rb_bytes hd
    | 1, _ => exact rb_bytes hd
    | 2, _ => exact hd
    | 3, _ => exact hd
    | j + 4, h => omega
  · have hie : i = es.length := by omega
    subst hie
    have e : (es ++ [lastE]).getD es.length default = lastE := by rw [List.getD_eq_getElem?_getD, List.getElem?_append_right (Nat.le_refl _)]; simp
    rw [e]
    have hcell : ∀ u, lastC[j]? = some u → w.cell? ⟨b, 0 + es.length * 4 + j, none⟩ = some u := by
      intro u hu
      rw [cell_cells h.row, Nat.zero_add]
      have : (L.flatMap Slot.cells ++ lastC)[es.length * 4 + j]? = some u := by
        rw [List.getElem?_append_right (by rw [cells_len, hlL]; omega), cells_len, hlL, show es.length * 4 + j - es.length * 4 = j by omega, hu]
      simpa using this
    match j, hj with
    | 0, _ => exact ⟨_, hcell _ rfl, none, 0, rfl, Nat.le_refl _, fun i x hx => by simp [lastE] at hx⟩
    | 1, _ => exact ⟨_, hcell _ rfl, none, 0, rfl, Nat.le_refl _, fun i x hx => by simp [lastE] at hx⟩
    | 2, _ => exact ⟨_, hcell _ rfl, rfl⟩
    | 3, _ => exact ⟨_, hcell _ rfl, rfl⟩
    | j + 4, h => omega

/-- What is lent, as entries. -/
theorem lent_ents {es : List Ent} {w : World} {S : Nat → Prop} {v : Value} (h : DVRel w S (lentDV es) v) : DVRel w S (entsDV es) v := by
  obtain ⟨b, o, hv, hb, hn, -, hr⟩ := h
  refine ⟨_, _, hv, hn, fun i hi => ⟨b, o, rfl, hb, fun j hj => ?_⟩⟩
  have hi : i < es.length := hi
  obtain ⟨u, hu, hd⟩ := hr i (by show i < es.length + 1; omega) j hj
  refine ⟨u, hu, ?_⟩
  have e : (es ++ [lastE]).getD i default = es.getD i default := by rw [List.getD_eq_getElem?_getD, List.getD_eq_getElem?_getD, List.getElem?_append_left hi]
  have hd : DVRel w S (encE (fun _ => (es ++ [lastE]).getD i default) j) u := hd
  rw [e] at hd
  exact hd

/-- The mark behind. -/
theorem raw_last {es : List Ent} :
    SpecG Try.prog (rawC 3 22) [.own 1000, .csl 1001 4 1] [(1000, .cust none (fun _ => lentP es (es.length + 1))), (1001, .cells 74 [.nil, .nil, .int .u32 (.l 77), .int .u32 (.l 0)])]
      Unit (fun _ => .own 2000) (fun _ => [(1000, .dead), (1001, .dead), (2000, .cust none (fun _ => lentF es))]) := by
  intro η G vs w hsep hob hs'
  match vs, hs' with
  | [v0, v1], hs' =>
    simp only [SVRels] at hs'
    obtain ⟨h0, hy1, -⟩ := hs'
    obtain ⟨o, ho, hd, hin, rfl, hq⟩ := cust_at hob (k := 1000) rfl h0
    obtain ⟨b, L, tail, hL⟩ := (hq w fun _ _ => rfl).1
    obtain ⟨o1, b1, us, ho1, hm1, hi1, rfl, hrow1, hus⟩ := csl_at hob (k := 1001) rfl hy1
    match us, hus with
    | [u1, u2, u3, u4], hus =>
      simp only [SVRels, SVRel, IE.den_l] at hus
      obtain ⟨rfl, rfl, rfl, rfl, -⟩ := hus
      obtain ⟨i, hi, hz, hs, hb⟩ := info74x
      have hlL : L.length = es.length := by have := congrArg List.length hL.hes; simpa using this
      have hcl := cells_len L
      have hc : (L.flatMap Slot.cells ++ tail).length = (es.length + 1) * i.size := by rw [List.length_append, hcl, hs, hlL]; exact hL.len
      have hrd : Rd w (.slice (some ⟨b1, 0, none⟩) 1 1) 1 lastC := ⟨_, _, rfl, fun _ => ⟨_, rfl, fun j u hj => by
        rw [add_none, cell_cells hrow1, Nat.zero_add]
        simpa [lastC] using hj⟩⟩
      have hr := run_room (P := Try.prog) (ty := 22) Try.underlying22 hi (by omega) hL.row hc (Nat.le_refl _) hrd (by rw [hs]; rfl) (by intro u hu; simp [lastC] at hu; rcases hu with rfl | rfl | rfl <;> rfl)
      unfold RunsX
      rw [rawSem_rawC (by omega)]
      refine ⟨_, _, by rw [hL.hv]; exact hr, (), ?_⟩
      have hbB : b ∈ o.main := by rw [hL.hB]; simp
      have hcs : (L.flatMap Slot.cells ++ tail).take (es.length * i.size) ++ lastC ++ (L.flatMap Slot.cells ++ tail).drop ((es.length + 1) * i.size) = L.flatMap Slot.cells ++ lastC := by
        rw [← hc, List.drop_length, List.append_nil, hs, ← hlL, ← hcl, List.take_left]
      rw [hcs]
      have hother : ∀ x, x ≠ b → (w.setRow b (L.flatMap Slot.cells ++ lastC).toArray).heap[x]? = w.heap[x]? := fun x hx => setRow_other w b x _ hx
      have hat : LentAt es (es.length + 1) (es.length + 1) lastC (w.setRow b (L.flatMap Slot.cells ++ lastC).toArray) (.slice (some ⟨b, 0, none⟩) (es.length + 1) (es.length + 1)) o.main b L := by
        refine ⟨hL.hes, rfl, hL.hB, hL.nd, setRow_has hL.row, by simp [lastC]; omega, fun t ht => ?_⟩
        have hb1 : t.1 ≠ b ∧ t.2.1 ≠ b := by
          have hnd := hL.nd
          rw [hL.hB] at hnd
          have hn := (List.nodup_cons.1 hnd).1
          exact ⟨fun e => hn (by rw [← e]; exact List.mem_flatMap.2 ⟨t, ht, by simp [Slot.blks]⟩), fun e => hn (by rw [← e]; exact List.mem_flatMap.2 ⟨t, ht, by simp [Slot.blks]⟩)⟩
        exact ⟨by unfold HasRow; rw [hother _ hb1.1]; exact (hL.rooms t ht).1, by unfold HasRow; rw [hother _ hb1.2]; exact (hL.rooms t ht).2⟩
      exact raw_own (objs := [(1000, .cust none (fun _ => lentP es (es.length + 1))), (1001, .cells 74 [.nil, .nil, .int .u32 (.l 77), .int .u32 (.l 0)])])
        (o := ⟨.slice (some ⟨b, 0, none⟩) (es.length + 1) (es.length + 1), o.main, [], false⟩) (by simp [namesOf]) hsep hob
        ⟨rfl, rfl, rfl, by simp, fun b' hb' hno => hother b' fun e => hno 1000 (by simp [namesOf]) o ho (by rw [e]; simp [hbB]), fun b' hb' => by
          simp only [List.append_nil] at hb'
          exact ⟨by simpa using (hsep.lt 1000 o ho b' (by simp [hb'])).1, .inr ⟨1000, by simp [namesOf], o, ho, by simp [hb']⟩⟩, by simp⟩ rfl
        (cust_rel fun w' hw' => ⟨⟨b, _, hat.keep hw'⟩, fun x hx => by cases hx⟩)
    | [], h => exact h.elim
    | [_], h => exact h.2.elim
    | [_, _], h => exact h.2.2.elim
    | [_, _, _], h => exact h.2.2.2.elim
    | _ :: _ :: _ :: _ :: _ :: _, h => exact h.2.2.2.2.elim
  | [], h => exact h.elim
  | [_], h => exact h.2.elim
  | _ :: _ :: _ :: _, h => exact h.2.2.elim

theorem rowΦ_lentP {c : Nat} {cs : List Value} {w : World} {v : Value} {B : List Nat} (h : rowΦ 74 4 0 c cs w v B) : lentP [] c w v B := by
  obtain ⟨b, h1, rfl, h3, h4, _⟩ := h
  exact ⟨b, [], cs, rfl, h1, by simp, by simp, by simpa using h3, by simpa using h4, by simp⟩

set_option maxRecDepth 20000 in
set_option maxHeartbeats 4000000 in
theorem con11 {es : List Ent} (hs : ∀ e ∈ es, SmallE e) (hl : es.length < 1000000000) : Con 11 [.dat (entsDV es)] [] (.own 2000) [(2000, .cust (some (lentDV es)) (fun _ => lentΦ es))] := by
  obtain ⟨i, hi, hz, hsz, hb⟩ := info74x
  have bc : bound64 ((es.length : Int) + 1) := by unfold bound64; omega
  obtain ⟨c, hc⟩ : ∃ c, c = es.length + 1 := ⟨_, rfl⟩
  have hzc : (es.length : Int) + 1 = (c : Int) := by omega
  obtain ⟨c0, h0⟩ : ∃ c0, c0 = (madeCells (Value.agg #[.slice none 0 0, .slice none 0 0, .int .u32 0, .int .u32 0]).cells (c * i.size)).toList := ⟨_, rfl⟩
  have r1 : ConG (rawC 7 22) [.int .i64 (.l 0), .int .i64 (.s fun _ => (es.length : Int) + 1)] [] Unit (fun _ => .own 2000) (fun _ => [(2000, .cust none (fun _ => rowΦ 74 4 0 c c0))]) :=
    ⟨raw_make (sz := 4) hzc hsz.symm h0 Try.underlying22 hi hz (by rw [hb]; omega) (by omega)⟩
  have r3 : ConG (rawC 3 22) _ _ Unit _ _ := ⟨raw_last (es := es)⟩
  rw [← hc] at r3
  have r4 : ConG (rawC 6 22) [.own 1000, .int .i64 (.s fun _ => (es.length : Int))] [(1000, .cust none (fun _ => lentF es))] Unit (fun _ => .own 2000) (fun _ => [(1000, .dead), (2000, .cust (some (lentDV es)) (fun _ => lentΦ es))]) :=
    ⟨raw_cut (n := es.length + 1) (m := es.length) (c := es.length + 1) rfl Try.underlying22 hi (by omega) (fun w v B h => by obtain ⟨b, L, h⟩ := h; exact ⟨b, h.hv⟩) fun w b B h => by
      obtain ⟨b', L, h⟩ := h
      have hbb : b = b' := by have := h.hv; cases this; rfl
      subst hbb
      have h' : LentAt es es.length (es.length + 1) lastC w (.slice (some ⟨b, 0, none⟩) es.length (es.length + 1)) B b L := ⟨h.hes, rfl, h.hB, h.nd, h.row, h.len, h.rooms⟩
      refine ⟨⟨b, L, h'⟩, fun x hx => ?_⟩
      cases hx
      exact lent_dv h'⟩
  refine con_of Try.func11 rfl rfl 50 _ rfl rfl rfl rfl ?_
  cbv
  refine ⟨⟨bc⟩, ?_⟩
  refine ⟨Unit, _, _, r1, ⟨by kernel_rfl⟩, fun _ => ⟨⟨by kernel_rfl⟩, ?_⟩⟩
  cbv
  refine ⟨Nat × List Ent, [500], fun x => [(3, .own 500), (4, .int .i64 (.s fun _ => (x.1 : Int)))], fun x => [(500, .cust none (fun _ => lentP x.2 c))],
    fun x => x.1 ≤ es.length ∧ x.2 = es.take x.1, fun x => es.length - x.1, (0, []), [(500, some 3900)], ⟨Nat.zero_le _, rfl⟩, ⟨?_⟩, fun x hx => ?_⟩
  · cbv
    and_intros
    all_goals first | exact trivial | exact ⟨rfl⟩ | exact ⟨rfl, fun _ _ _ h => rowΦ_lentP h⟩ | exact ⟨by kernel_rfl⟩
  · obtain ⟨k, P⟩ := x
    obtain ⟨hk, hP⟩ : k ≤ es.length ∧ P = es.take k := hx
    have hPl : P.length = k := by rw [hP]; simp; omega
    cbv
    refine ⟨fun h1 => ?_, fun h1 => ?_⟩
    · have h1 : (k : Int) < (es.length : Int) := of_decide_eq_true h1
      have hlt : k < es.length := by omega
      have o1 : indexObl (k : Int) es.length := ⟨by omega, h1⟩
      have bk : bound64 ((k : Int) + 1) := by unfold bound64; omega
      have ek : (k : Int) + 1 = ((k + 1 : Nat) : Int) := by omega
      have hms : es.length - (k + 1) < es.length - k := by omega
      have hse := hs _ (getD_mem hlt)
      have ck := con24 hse.1
      have cv := con24 hse.2
      have r2 : Con (rawC 3 22) _ _ _ _ := ⟨specX_ofG (raw_lend (es := P) (e := es.getD k default) (c := c) (dk := some (.bytes fun _ => (es.getD k default).key)) (dv := some (.bytes fun _ => (es.getD k default).val)) (by omega))⟩
      have hnx : k + 1 ≤ es.length ∧ P ++ [es.getD k default] = es.take (k + 1) := ⟨hlt, by rw [getD_take es hlt, hP]⟩
      obtain ⟨P', hP'⟩ : ∃ P', P' = P ++ [es.getD k default] := ⟨_, rfl⟩
      rw [← hP'] at r2 hnx
      clear h1 hP hP' hPl
      cbv
      refine ⟨⟨o1⟩, ⟨o1⟩, ⟨o1⟩, ?_⟩
      refine ⟨_, _, ck, ⟨?_⟩, ?_⟩
      · kernel_rfl
      cbv
      refine ⟨⟨o1⟩, _, _, cv, ⟨?_⟩, ?_⟩
      · kernel_rfl
      cbv
      refine ⟨_, _, r2, ⟨?_⟩, ?_⟩
      · kernel_rfl
      cbv
      refine ⟨⟨by kernel_rfl⟩, ?_⟩
      cbv
      refine ⟨⟨bk⟩, (k + 1, P'), [(500, some 7100)], hnx, hms, ⟨?_⟩, ⟨?_⟩⟩
      · kernel_rfl
      · cbv
        and_intros
        all_goals first | exact trivial | exact ⟨rfl⟩ | exact ⟨ek⟩ | exact ⟨rfl, fun _ _ _ h => h⟩ | exact ⟨by kernel_rfl⟩
    · have h1 : ¬ (k : Int) < (es.length : Int) := of_decide_eq_false h1
      have hPe : P = es := by rw [hP, List.take_of_length_le (by omega)]
      clear h1 hP hPl
      subst hPe
      cbv
      refine ⟨Unit, _, _, r3, ⟨by kernel_rfl⟩, fun _ => ⟨⟨by kernel_rfl⟩, ?_⟩⟩
      cbv
      refine ⟨Unit, _, _, r4, ⟨by kernel_rfl⟩, fun _ => ⟨⟨by kernel_rfl⟩, ?_⟩⟩
      cbv
      refine ⟨[(2000, some 7900)], [], ?_⟩
      cbv
      and_intros
      all_goals first | exact trivial | exact ⟨rfl⟩ | exact ⟨rfl, fun _ _ _ h => h⟩ | exact ⟨by kernel_rfl⟩
end Go.Proofs.Ytmdfjipjkkjpcaa

/- What is lent: is it whole? -/
namespace Go.Proofs.Ytmdfjipjkkjpcaa
open Go.SX

theorem con22r {a b : List UInt8} {t : Unit → List UInt8} (hl : a.length < 1000000000000) : Con 22 [.dat (.rb (fun _ => a) t), .dat (.bytes fun _ => b)] [] (.bool (.s fun _ => decide (a = b))) [] := by
  refine (con22 (a := a) (b := b) hl).args fun η G w vs hv => ?_
  match vs, hv with
  | [v1, v2], hv =>
    refine ⟨?_, hv.2.1, trivial⟩
    have h := hv.1
    simp only [SVRel] at h ⊢
    exact rb_bytes h
  | [], hv => exact hv.elim
  | [_], hv => exact hv.2.elim
  | _ :: _ :: _ :: _, hv => exact hv.2.2.elim

set_option maxRecDepth 20000 in
set_option maxHeartbeats 4000000 in
theorem con26 {l : List UInt8} (hl : l.length < 1000000000000) : Con 26 [.dat (.rb (fun _ => l) fun _ => [91, 92]), .dat (.bytes fun _ => l)] [] (.bool (.s fun _ => true)) [] := by
  have b2 : bound64 ((l.length : Int) + 2) := by unfold bound64; omega
  have b1 : bound64 ((l.length : Int) + 1) := by unfold bound64; omega
  have hcap : ¬ ((l.length + [91, 92].length : Nat) : Int) < (l.length : Int) + 2 := by simp
  have so : 0 ≤ (l.length : Int) + 2 ∧ (l.length : Int) + 2 ≤ ((l.length + [91, 92].length : Nat) : Int) := by simp; omega
  have ey : (l ++ [91, 92]).take ((l.length : Int) + 2).toNat = l ++ [91, 92] := by rw [List.take_of_length_le]; simp; omega
  have o0 : indexObl (l.length : Int) ((l ++ [91, 92]).take ((l.length : Int) + 2).toNat).length := by rw [ey]; unfold indexObl; simp; omega
  have o1 : indexObl ((l.length : Int) + 1) ((l ++ [91, 92]).take ((l.length : Int) + 2).toNat).length := by rw [ey]; unfold indexObl; simp; omega
  have g0 : ((((l ++ [91, 92]).take ((l.length : Int) + 2).toNat).getD ((l.length : Int)).toNat 0).toNat : Int) = 91 := by rw [ey]; simp
  have g1 : ((((l ++ [91, 92]).take ((l.length : Int) + 2).toNat).getD ((l.length : Int) + 1).toNat 0).toNat : Int) = 92 := by rw [ey, show ((l.length : Int) + 1).toNat = l.length + 1 by omega]; simp
  have cs := (con22r (a := l) (b := l) (t := fun _ => [91, 92]) (by omega)).yes (decide_eq_true rfl)
  clear ey
  refine con_of Try.func26 rfl rfl 37 _ rfl rfl rfl rfl ?_
  cbv
  refine ⟨⟨b2⟩, ?_⟩
  cbv
  refine And.intro ?_ ?_
  · intro h1
    have h1 : ((l.length + [91, 92].length : Nat) : Int) < (l.length : Int) + 2 := of_decide_eq_true h1
    exact False.elim (hcap h1)
  · intro h1
    clear h1 hcap
    cbv
    refine ⟨⟨b2⟩, ⟨so⟩, ?_⟩
    cbv
    refine ⟨⟨o0⟩, ?_⟩
    cbv
    refine And.intro ?_ ?_
    · intro h2
      clear h2
      cbv
      refine ⟨⟨b1⟩, ⟨o1⟩, ?_⟩
      cbv
      refine And.intro ?_ ?_
      · intro h3
        clear h3
        cbv
        refine ⟨_, _, cs, ⟨?_⟩, ?_⟩
        · kernel_rfl
        cbv
        refine ⟨[], [], ?_⟩
        cbv
        and_intros
        all_goals first | exact trivial | exact ⟨rfl⟩ | exact ⟨by kernel_rfl⟩
      · intro h3
        have h3 : ¬ (((((l ++ [91, 92]).take ((l.length : Int) + 2).toNat).getD ((l.length : Int) + 1).toNat 0).toNat : Int) = 92) := of_decide_eq_false h3
        exact False.elim (h3 g1)
    · intro h2
      have h2 : ¬ (((((l ++ [91, 92]).take ((l.length : Int) + 2).toNat).getD ((l.length : Int)).toNat 0).toNat : Int) = 91) := of_decide_eq_false h2
      exact False.elim (h2 g0)
end Go.Proofs.Ytmdfjipjkkjpcaa

/- What is lent: are entries whole? -/
namespace Go.Proofs.Ytmdfjipjkkjpcaa
open Go.SX

theorem ne_self {α : Type} [DecidableEq α] {a : α} (h : (!decide (a = a)) = true) : False := by simp at h

set_option maxRecDepth 20000 in
set_option maxHeartbeats 400000 in
theorem con15 {es : List Ent} (hs : ∀ e ∈ es, SmallE e) (hl : es.length < 1000000000) : Con 15 [.dat (lentDV es), .dat (entsDV es)] [] (.bool .t) [] := by
  have b1 : bound64 ((es.length : Int) + 1) := by unfold bound64; omega
  have hcap : ¬ ((es.length + 1 : Nat) : Int) < (es.length : Int) + 1 := by omega
  have so : 0 ≤ (es.length : Int) + 1 ∧ (es.length : Int) + 1 ≤ ((es.length + 1 : Nat) : Int) := by omega
  have o0 : indexObl (es.length : Int) ((es.length : Int) + 1).toNat := by unfold indexObl; omega
  have g0 : ((es ++ [lastE]).getD (es.length : Int).toNat default).page = 77 := by simp [lastE]
  refine con_of Try.func15 rfl rfl 90 _ rfl rfl rfl rfl ?_
  cbv
  refine And.intro ?_ ?_
  · intro h
    exact (ne_self h).elim
  · intro h
    clear h
    cbv
    refine ⟨⟨b1⟩, ?_⟩
    cbv
    refine And.intro ?_ ?_
    · intro h
      have h : ((es.length + 1 : Nat) : Int) < (es.length : Int) + 1 := of_decide_eq_true h
      exact False.elim (hcap h)
    · intro h
      clear h hcap
      cbv
      refine ⟨⟨b1⟩, ⟨so⟩, ?_⟩
      cbv
      refine ⟨⟨o0⟩, ?_⟩
      cbv
      refine And.intro ?_ ?_
      · intro h
        have h : ¬ (((es ++ [lastE]).getD (es.length : Int).toNat default).page = 77) := of_decide_eq_false (bnot_t h)
        exact False.elim (h g0)
      · intro h
        clear h g0
        cbv
        refine ⟨Nat, [], fun i => [(6, .int .i64 (.s fun _ => (i : Int)))], fun i => [], fun i => i ≤ es.length, fun i => es.length - i, 0, [], Nat.zero_le _, ⟨?_⟩, fun i hx => ?_⟩
        · cbv
          and_intros
          all_goals first | exact trivial | exact ⟨rfl⟩ | exact ⟨by kernel_rfl⟩
        · have hi : i ≤ es.length := hx
          cbv
          refine And.intro ?_ ?_
          · intro h2
            have h2 : (i : Int) < (es.length : Int) := of_decide_eq_true h2
            have hlt : i < es.length := by omega
            have o1 : indexObl (i : Int) es.length := ⟨by omega, h2⟩
            have bi : bound64 ((i : Int) + 1) := by unfold bound64; omega
            have ei : (i : Int) + 1 = ((i + 1 : Nat) : Int) := by omega
            have hms : es.length - (i + 1) < es.length - i := by omega
            have hsi := hs _ (getD_mem hlt)
            have ck := (con26 (l := (es.getD i default).key) hsi.1).yes rfl
            have cv := (con26 (l := (es.getD i default).val) hsi.2).yes rfl
            have hlt : i + 1 ≤ es.length := hlt
            clear h2 hsi
            cbv
            refine ⟨⟨o1⟩, ⟨o1⟩, ?_⟩
            cbv
            refine And.intro ?_ ?_
            · intro h3
              have h3 : (!decide ((es.getD i default).page = (es.getD i default).page)) = true := h3
              have h3 : False := ne_self h3
              cbv
              exact h3.elim
            · intro h3
              clear h3
              cbv
              refine ⟨⟨o1⟩, ⟨o1⟩, ?_⟩
              cbv
              refine And.intro ?_ ?_
              · intro h3
                have h3 : (!decide ((es.getD i default).size = (es.getD i default).size)) = true := h3
                have h3 : False := ne_self h3
                cbv
                exact h3.elim
              · intro h3
                clear h3
                cbv
                refine ⟨⟨o1⟩, ⟨o1⟩, _, _, ck, ⟨?_⟩, ?_⟩
                · kernel_rfl
                cbv
                refine ⟨⟨o1⟩, ⟨o1⟩, _, _, cv, ⟨?_⟩, ?_⟩
                · kernel_rfl
                cbv
                refine ⟨⟨by kernel_rfl⟩, ?_⟩
                cbv
                refine ⟨⟨bi⟩, i + 1, [], hlt, hms, ⟨?_⟩, ⟨?_⟩⟩
                · kernel_rfl
                · cbv
                  and_intros
                  all_goals first | exact trivial | exact ⟨rfl⟩ | exact ⟨ei⟩ | exact ⟨by kernel_rfl⟩
          · intro h2
            clear h2
            cbv
            refine ⟨[], [], ?_⟩
            cbv
            and_intros
            all_goals first | exact trivial | exact ⟨rfl⟩ | exact ⟨by kernel_rfl⟩
end Go.Proofs.Ytmdfjipjkkjpcaa

/- What is lent: written over. -/
namespace Go.Proofs.Ytmdfjipjkkjpcaa
open Go.SX

theorem conG {f : Nat} {svs : List SV} {objs : Objs} {r : SV} {objs' : Objs} (h : SpecX Try.prog f svs objs r objs') : ConG f svs objs Unit (fun _ => r) (fun _ => objs') :=
  ⟨fun η G vs w h1 h2 h3 => (h η G vs w h1 h2 h3).mono fun _ _ ⟨η', G', hh⟩ => ⟨(), η', G', hh⟩⟩

set_option maxRecDepth 20000 in
set_option maxHeartbeats 1000000 in
theorem con27 {kb n c : Nat} {v0 : Value} {Q : Mem → Prop} (hc : c < 2000000000000) (hQ : ∀ H, Q H → (H.map (·.1)).Nodup → ∃ cs, (kb, 5, cs) ∈ H ∧ cs.length = c ∧ ∀ cs' : List Value, cs'.length = c → Q (putB H kb cs')) :
    Con 27 [.rv 1000 (fun _ => .slice (some ⟨kb, 0, none⟩) n c)] [(1000, .cust none (fun _ => exΦ v0 Q))] (.tup []) [(1000, .cust none (fun _ => exΦ v0 Q))] := by
  obtain ⟨i5, hi5, -⟩ := info5x
  have r1 := conG (ex_cap (T := 27) (Q := Q) (v0 := v0) (a := .rv 1000 fun _ => .slice (some ⟨kb, 0, none⟩) n c) Try.underlying27 (.inl rfl))
  have r2 := conG (ex_cut (T := 27) (Q := Q) (v0 := v0) (m := c) (zm := (c : Int)) (a := .rv 1000 fun _ => .slice (some ⟨kb, 0, none⟩) n c) Try.underlying27 hi5 (.inl rfl) rfl (Nat.le_refl _))
  have r3 := conG (ex_len (T := 27) (Q := Q) (v0 := v0) (a := .rv 1000 fun _ => .slice (some ⟨kb, 0, none⟩) c c) Try.underlying27 (.inl rfl))
  refine con_of Try.func27 rfl rfl 17 _ rfl rfl rfl rfl ?_
  cbv
  refine ⟨Unit, _, _, r1, ⟨by kernel_rfl⟩, fun _ => ⟨⟨by kernel_rfl⟩, ?_⟩⟩
  cbv
  refine ⟨Unit, _, _, r2, ⟨by kernel_rfl⟩, fun _ => ⟨⟨by kernel_rfl⟩, ?_⟩⟩
  cbv
  refine ⟨Nat, [1000], fun i => [(2, .rv 1000 fun _ => .slice (some ⟨kb, 0, none⟩) c c), (3, .int .i64 (.s fun _ => (i : Int)))], fun i => [(1000, .cust none (fun _ => exΦ v0 Q))], fun i => i ≤ c, fun i => c - i, 0, [(1000, some 1000)], Nat.zero_le _, ⟨?_⟩, fun i hx => ?_⟩
  · cbv
    and_intros
    all_goals first | exact trivial | exact ⟨rfl⟩ | exact ⟨rfl, fun _ _ _ h => h⟩ | exact ⟨by kernel_rfl⟩
  · have hi : i ≤ c := hx
    cbv
    refine ⟨Unit, _, _, r3, ⟨by kernel_rfl⟩, fun _ => ⟨⟨by kernel_rfl⟩, ?_⟩⟩
    cbv
    refine And.intro ?_ ?_
    · intro h1
      have h1 : (i : Int) < (c : Int) := of_decide_eq_true h1
      have hlt : i < c := by omega
      have bk : bound64 ((i : Int) + 1) := by unfold bound64; omega
      have ek : (i : Int) + 1 = ((i + 1 : Nat) : Int) := by omega
      have hms : c - (i + 1) < c - i := by omega
      have r4 := conG (ex_idx eok (T := 27) (Q := Q) (v0 := v0) (i := i) (z := (i : Int)) (te := ⟨.int .u8, 1, 1, [.int .u8 (.l 0)], [.bool fun _ => false]⟩) (a := .rv 1000 fun _ => .slice (some ⟨kb, 0, none⟩) c c) Try.underlying27 rfl (.inl rfl) rfl hlt)
      have r5 := conG (ex_store eok (T := 5) (b := kb) (o := i) (Q := Q) (Q' := Q) (v0 := v0) (us := [.int .u8 238]) (a := .rv 1000 fun _ => .pointer (some ⟨kb, i, none⟩)) (x := .int .u8 (.l 238)) (ti := ⟨.int .u8, 1, 1, [.int .u8 (.l 0)], [.bool fun _ => false]⟩) rfl rfl (by simp [Value.oneCell'])
        (fun η G w v hv => by simp only [SVRel, IE.den_l] at hv; subst hv; rfl) fun H hq hn => by
          obtain ⟨cs, q1, q2, q3⟩ := hQ H hq hn
          exact ⟨.inl rfl, 5, cs, q1, by rw [q2]; exact hlt, q3 _ (by simp; omega)⟩)
      have e4 : 0 + i * 1 = i := by omega
      simp only [e4] at r4
      clear h1
      cbv
      refine ⟨Unit, _, _, r4, ⟨by kernel_rfl⟩, fun _ => ⟨⟨by kernel_rfl⟩, ?_⟩⟩
      cbv
      refine ⟨Unit, _, _, r5, ⟨by kernel_rfl⟩, fun _ => ⟨⟨by kernel_rfl⟩, ?_⟩⟩
      cbv
      refine ⟨⟨bk⟩, i + 1, [(1000, some 1000)], hlt, hms, ⟨?_⟩, ⟨?_⟩⟩
      · kernel_rfl
      · cbv
        and_intros
        all_goals first | exact trivial | exact ⟨rfl⟩ | exact ⟨ek⟩ | exact ⟨rfl, fun _ _ _ h => h⟩ | exact ⟨by kernel_rfl⟩
    · intro h1
      clear h1
      cbv
      refine ⟨[(1000, some 1000)], [], ?_⟩
      cbv
      and_intros
      all_goals first | exact trivial | exact ⟨rfl⟩ | exact ⟨rfl, fun _ _ _ h => h⟩ | exact ⟨by kernel_rfl⟩

/-- What is lent, as blocks: the row as it was, each list's block as long as it was. -/
def Sh (L : List Slot) (b : Nat) (H : Mem) : Prop := (b, 74, L.flatMap Slot.cells ++ lastC) ∈ H ∧ ∀ t ∈ L, (∃ cs, (t.1, 5, cs) ∈ H ∧ cs.length = t.2.2.key.length + 2) ∧ ∃ cs, (t.2.1, 5, cs) ∈ H ∧ cs.length = t.2.2.val.length + 2
/-- The row is as long as it was. -/
def Sr (c b : Nat) (H : Mem) : Prop := ∃ cs, (b, 74, cs) ∈ H ∧ cs.length = c * 4

theorem Sh.put {L : List Slot} {b : Nat} {H : Mem} (h : Sh L b H) (hn : (H.map (·.1)).Nodup) {kb : Nat} {cs cs' : List Value} (hk : (kb, 5, cs) ∈ H) (hl : cs'.length = cs.length) : Sh L b (putB H kb cs') := by
  have room : ∀ {t n : Nat}, (∃ c2 : List Value, (t, 5, c2) ∈ H ∧ c2.length = n) → ∃ c2 : List Value, (t, 5, c2) ∈ putB H kb cs' ∧ c2.length = n := by
    rintro t n ⟨c2, h1, h2⟩
    by_cases e : t = kb
    · subst e
      have e2 := mem_eq hn h1 hk rfl
      simp only [Prod.mk.injEq, true_and] at e2
      exact ⟨cs', putB_mem hk, by rw [hl, ← e2, h2]⟩
    · exact ⟨c2, putB_other h1 e, h2⟩
  refine ⟨putB_other h.1 fun e => ?_, fun t ht => ⟨room (h.2 t ht).1, room (h.2 t ht).2⟩⟩
  have e2 := mem_eq hn h.1 hk e
  simp at e2
theorem Sh.row {L : List Slot} {b : Nat} {H : Mem} (h : Sh L b H) : Sr (L.length + 1) b H := ⟨_, h.1, by rw [List.length_append, cells_len]; simp [lastC]; omega⟩
theorem Sh.at {L : List Slot} {b : Nat} {H : Mem} (h : Sh L b H) {i j : Nat} (hi : i < L.length) (hj : j < 4) {u : Value} (hu : (Slot.cells (L.getD i default))[j]? = some u) : ∃ Tb cs, (b, Tb, cs) ∈ H ∧ cs[i * 4 + j]? = some u :=
  ⟨_, _, h.1, by rw [List.getElem?_append_left (by rw [cells_len]; omega), cells_at L i j hi hj, hu]⟩

def te5 : TI := ⟨.int .u8, 1, 1, [.int .u8 (.l 0)], [.bool fun _ => false]⟩

set_option maxRecDepth 20000 in
set_option maxHeartbeats 1000000 in
theorem con16m {L : List Slot} {b : Nat} (hL : L.length < 1000000000) (hs : ∀ t ∈ L, SmallE t.2.2) :
    Con 16 [.own 1000] [(1000, .cust none (fun _ => exΦ (.slice (some ⟨b, 0, none⟩) L.length (L.length + 1)) (Sh L b)))] (.tup []) [(1000, .dead)] := by
  obtain ⟨n, hn⟩ : ∃ n, n = L.length := ⟨_, rfl⟩
  obtain ⟨c, hc⟩ : ∃ c, c = L.length + 1 := ⟨_, rfl⟩
  obtain ⟨v0, hv0⟩ : ∃ v0, v0 = Value.slice (some ⟨b, 0, none⟩) n c := ⟨_, rfl⟩
  obtain ⟨i74, hi74, -⟩ := info74x
  rw [← hn] at hL
  have hv0' : Value.slice (some ⟨b, 0, none⟩) L.length (L.length + 1) = v0 := by rw [hv0, hn, hc]
  rw [hv0']
  have r1 := conG (ex_len (T := 22) (Q := Sh L b) (v0 := v0) (n := n) (c := c) (a := .own 1000) Try.underlying22 (.inr ⟨rfl, hv0.symm⟩))
  have r6 := conG (ex_cap (T := 22) (Q := Sh L b) (v0 := v0) (n := n) (c := c) (a := .own 1000) Try.underlying22 (.inr ⟨rfl, hv0.symm⟩))
  have r7 := conG (ex_cut (T := 22) (Q := Sh L b) (v0 := v0) (n := n) (c := c) (m := c) (zm := (c : Int)) (a := .own 1000) Try.underlying22 hi74 (.inr ⟨rfl, hv0.symm⟩) rfl (Nat.le_refl _))
  refine con_of Try.func16 rfl rfl 37 _ rfl rfl rfl rfl ?_
  cbv
  refine ⟨Nat, [1000], fun i => [(0, .own 1000), (2, .int .i64 (.s fun _ => (i : Int)))], fun i => [(1000, .cust none (fun _ => exΦ v0 (Sh L b)))], fun i => i ≤ n, fun i => n - i, 0, [(1000, some 1000)], Nat.zero_le _, ⟨?_⟩, fun i hx => ?_⟩
  · cbv
    and_intros
    all_goals first | exact trivial | exact ⟨rfl⟩ | exact ⟨rfl, fun _ _ _ h => h⟩ | exact ⟨by kernel_rfl⟩
  · have hi : i ≤ n := hx
    cbv
    refine ⟨Unit, _, _, r1, ⟨by kernel_rfl⟩, fun _ => ⟨⟨by kernel_rfl⟩, ?_⟩⟩
    cbv
    refine And.intro ?_ ?_
    · intro h1
      have h1 : (i : Int) < (n : Int) := of_decide_eq_true h1
      have hlt : i < n := by omega
      have bk : bound64 ((i : Int) + 1) := by unfold bound64; omega
      have ek : (i : Int) + 1 = ((i + 1 : Nat) : Int) := by omega
      have hms : n - (i + 1) < n - i := by omega
      have hltL : i < L.length := by omega
      have ht := getD_mem hltL
      obtain ⟨t, hte⟩ : ∃ t, t = L.getD i default := ⟨_, rfl⟩
      rw [← hte] at ht
      have hst := hs _ ht
      have r2 := conG (ex_idx eok (T := 22) (e := 74) (o := 0) (Q := Sh L b) (v0 := v0) (n := n) (c := c) (i := i) (z := (i : Int)) (a := .own 1000) Try.underlying22 rfl (.inr ⟨rfl, hv0.symm⟩) rfl hlt)
      have e4 : ∀ k, 0 + i * k = i * k := fun k => by omega
      simp only [e4] at r2
      have r3 := conG (ex_field eok (S := 74) (f := 0) (b := b) (o := i * 4) (Q := Sh L b) (v0 := v0) (off := 0) (a := .rv 1000 fun _ => .pointer (some ⟨b, i * 4, none⟩)) rfl rfl (by decide) (by decide) rfl (.inl rfl))
      have r4 := conG (ex_field eok (S := 74) (f := 1) (b := b) (o := i * 4) (Q := Sh L b) (v0 := v0) (off := 1) (a := .rv 1000 fun _ => .pointer (some ⟨b, i * 4, none⟩)) rfl rfl (by decide) (by decide) rfl (.inl rfl))
      have l3 := conG (ex_load eok (T := 27) (b := b) (o := i * 4 + 0) (Q := Sh L b) (v0 := v0) (u := .slice (some ⟨t.1, 0, none⟩) t.2.2.key.length (t.2.2.key.length + 2)) (a := .rv 1000 fun _ => .pointer (some ⟨b, i * 4 + 0, none⟩)) (r := .rv 1000 fun _ => .slice (some ⟨t.1, 0, none⟩) t.2.2.key.length (t.2.2.key.length + 2)) rfl rfl (fun H hq => ⟨.inl rfl, hq.at hltL (by omega) (by rw [← hte]; rfl)⟩) fun η G w => by simp [SVRel, Value.oneCell'])
      have l4 := conG (ex_load eok (T := 27) (b := b) (o := i * 4 + 1) (Q := Sh L b) (v0 := v0) (u := .slice (some ⟨t.2.1, 0, none⟩) t.2.2.val.length (t.2.2.val.length + 2)) (a := .rv 1000 fun _ => .pointer (some ⟨b, i * 4 + 1, none⟩)) (r := .rv 1000 fun _ => .slice (some ⟨t.2.1, 0, none⟩) t.2.2.val.length (t.2.2.val.length + 2)) rfl rfl (fun H hq => ⟨.inl rfl, hq.at hltL (by omega) (by rw [← hte]; rfl)⟩) fun η G w => by simp [SVRel, Value.oneCell'])
      have ck := con27 (kb := t.1) (n := t.2.2.key.length) (c := t.2.2.key.length + 2) (v0 := v0) (Q := Sh L b) (by have := hst.1; omega) fun H hq hn => by
        obtain ⟨cs, q1, q2⟩ := (hq.2 t ht).1
        exact ⟨cs, q1, q2, fun cs' h => hq.put hn q1 (by rw [h, q2])⟩
      have cv := con27 (kb := t.2.1) (n := t.2.2.val.length) (c := t.2.2.val.length + 2) (v0 := v0) (Q := Sh L b) (by have := hst.2; omega) fun H hq hn => by
        obtain ⟨cs, q1, q2⟩ := (hq.2 t ht).2
        exact ⟨cs, q1, q2, fun cs' h => hq.put hn q1 (by rw [h, q2])⟩
      clear h1 hte ht hst e4
      cbv
      refine ⟨Unit, _, _, r2, ⟨by kernel_rfl⟩, fun _ => ⟨⟨by kernel_rfl⟩, ?_⟩⟩
      cbv
      refine ⟨Unit, _, _, r3, ⟨by kernel_rfl⟩, fun _ => ⟨⟨by kernel_rfl⟩, ?_⟩⟩
      cbv
      refine ⟨Unit, _, _, l3, ⟨by kernel_rfl⟩, fun _ => ⟨⟨by kernel_rfl⟩, ?_⟩⟩
      cbv
      refine ⟨_, _, ck, ⟨?_⟩, ?_⟩
      · kernel_rfl
      cbv
      refine ⟨Unit, _, _, r2, ⟨by kernel_rfl⟩, fun _ => ⟨⟨by kernel_rfl⟩, ?_⟩⟩
      cbv
      refine ⟨Unit, _, _, r4, ⟨by kernel_rfl⟩, fun _ => ⟨⟨by kernel_rfl⟩, ?_⟩⟩
      cbv
      refine ⟨Unit, _, _, l4, ⟨by kernel_rfl⟩, fun _ => ⟨⟨by kernel_rfl⟩, ?_⟩⟩
      cbv
      refine ⟨_, _, cv, ⟨?_⟩, ?_⟩
      · kernel_rfl
      cbv
      refine ⟨⟨bk⟩, i + 1, [(1000, some 1000)], hlt, hms, ⟨?_⟩, ⟨?_⟩⟩
      · kernel_rfl
      · cbv
        and_intros
        all_goals first | exact trivial | exact ⟨rfl⟩ | exact ⟨ek⟩ | exact ⟨rfl, fun _ _ _ h => h⟩ | exact ⟨by kernel_rfl⟩
    · intro h1
      clear h1
      cbv
      refine ⟨Unit, _, _, r6, ⟨by kernel_rfl⟩, fun _ => ⟨⟨by kernel_rfl⟩, ?_⟩⟩
      cbv
      refine ⟨Unit, _, _, r7, ⟨by kernel_rfl⟩, fun _ => ⟨⟨by kernel_rfl⟩, ?_⟩⟩
      cbv
      refine ⟨Nat, [1000], fun i => [(3, .rv 1000 fun _ => .slice (some ⟨b, 0, none⟩) c c), (4, .int .i64 (.s fun _ => (i : Int)))], fun i => [(1000, .cust none (fun _ => exΦ v0 (Sr c b)))], fun i => i ≤ c, fun i => c - i, 0, [(1000, some 1000)], Nat.zero_le _, ⟨?_⟩, fun i hx => ?_⟩
      · have hsr : ∀ w v B, exΦ v0 (Sh L b) w v B → exΦ v0 (Sr c b) w v B := fun w v B ⟨H, h1, h2⟩ => ⟨H, by rw [hc]; exact h1.row, h2⟩
        cbv
        and_intros
        all_goals first | exact trivial | exact ⟨rfl⟩ | exact ⟨rfl, hsr⟩ | exact ⟨by kernel_rfl⟩
      · have hi : i ≤ c := hx
        have r1 := conG (ex_len (T := 22) (Q := Sr c b) (v0 := v0) (n := c) (c := c) (a := .rv 1000 fun _ => .slice (some ⟨b, 0, none⟩) c c) Try.underlying22 (.inl rfl))
        cbv
        refine ⟨Unit, _, _, r1, ⟨by kernel_rfl⟩, fun _ => ⟨⟨by kernel_rfl⟩, ?_⟩⟩
        cbv
        refine And.intro ?_ ?_
        · intro h1
          have h1 : (i : Int) < (c : Int) := of_decide_eq_true h1
          have hlt : i < c := by omega
          have bk : bound64 ((i : Int) + 1) := by unfold bound64; omega
          have ek : (i : Int) + 1 = ((i + 1 : Nat) : Int) := by omega
          have hms : c - (i + 1) < c - i := by omega
          have r2 := conG (ex_idx eok (T := 22) (e := 74) (o := 0) (Q := Sr c b) (v0 := v0) (n := c) (c := c) (i := i) (z := (i : Int)) (a := .rv 1000 fun _ => .slice (some ⟨b, 0, none⟩) c c) Try.underlying22 rfl (.inl rfl) rfl hlt)
          have e4 : ∀ k, 0 + i * k = i * k := fun k => by omega
          simp only [e4] at r2
          have r5 := conG (ex_store eok (T := 74) (b := b) (o := i * 4) (Q := Sr c b) (Q' := Sr c b) (v0 := v0) (us := [.slice none 0 0, .slice none 0 0, .int .u32 0, .int .u32 0]) (a := .rv 1000 fun _ => .pointer (some ⟨b, i * 4, none⟩)) (x := .agg [.nil, .nil, .int .u32 (.l 0), .int .u32 (.l 0)]) rfl rfl (by simp [Value.oneCell'])
            (fun η G w v hv => by
              obtain ⟨vs, rfl, hv⟩ := hv
              match vs, hv with
              | [u1, u2, u3, u4], hv =>
                simp only [SVRels, SVRel, IE.den_l] at hv
                obtain ⟨rfl, rfl, rfl, rfl, -⟩ := hv
                rfl
              | [], h => exact h.elim
              | [_], h => exact h.2.elim
              | [_, _], h => exact h.2.2.elim
              | [_, _, _], h => exact h.2.2.2.elim
              | _ :: _ :: _ :: _ :: _ :: _, h => exact h.2.2.2.2.elim) fun H hq hn => by
            obtain ⟨cs, q1, q2⟩ := hq
            exact ⟨.inl rfl, 74, cs, q1, by rw [q2]; simp; omega, _, putB_mem q1, by simp; omega⟩)
          clear h1 e4
          cbv
          refine ⟨Unit, _, _, r2, ⟨by kernel_rfl⟩, fun _ => ⟨⟨by kernel_rfl⟩, ?_⟩⟩
          cbv
          refine ⟨Unit, _, _, r5, ⟨by kernel_rfl⟩, fun _ => ⟨⟨by kernel_rfl⟩, ?_⟩⟩
          cbv
          refine ⟨⟨bk⟩, i + 1, [(1000, some 1000)], hlt, hms, ⟨?_⟩, ⟨?_⟩⟩
          · kernel_rfl
          · cbv
            and_intros
            all_goals first | exact trivial | exact ⟨rfl⟩ | exact ⟨ek⟩ | exact ⟨rfl, fun _ _ _ h => h⟩ | exact ⟨by kernel_rfl⟩
        · intro h1
          clear h1
          cbv
          refine ⟨[(1000, some 1000)], [], ?_⟩
          cbv
          and_intros
          all_goals first | exact trivial | exact ⟨rfl⟩ | exact ⟨rfl, fun _ _ _ h => h⟩ | exact ⟨by kernel_rfl⟩

def memL (b : Nat) (L : List Slot) : Mem := (b, 74, L.flatMap Slot.cells ++ lastC) :: L.flatMap fun t => [(t.1, 5, roomC t.2.2.key), (t.2.1, 5, roomC t.2.2.val)]
theorem memL_names (b : Nat) (L : List Slot) : (memL b L).map (·.1) = b :: L.flatMap Slot.blks := by
  simp only [memL, List.map_cons, List.map_flatMap]; rfl
theorem memL_sh (b : Nat) (L : List Slot) : Sh L b (memL b L) :=
  ⟨by simp [memL], fun t ht => ⟨⟨roomC t.2.2.key, List.mem_cons_of_mem _ (List.mem_flatMap.2 ⟨t, ht, by simp⟩), by simp [roomC]⟩, roomC t.2.2.val, List.mem_cons_of_mem _ (List.mem_flatMap.2 ⟨t, ht, by simp⟩), by simp [roomC]⟩⟩
theorem LentAt.mem {es : List Ent} {w : World} {v : Value} {B : List Nat} {b : Nat} {L : List Slot} (h : LentAt es es.length (es.length + 1) lastC w v B b L) : memΦ v (memL b L) w v B := by
  refine ⟨rfl, by rw [memL_names]; exact h.hB, h.nd, fun p hp => ?_⟩
  rcases List.mem_cons.1 hp with rfl | hp
  · exact h.row
  · obtain ⟨t, ht, hp⟩ := List.mem_flatMap.1 hp
    simp at hp
    rcases hp with rfl | rfl
    · exact (h.rooms t ht).1
    · exact (h.rooms t ht).2

/-- What is lent is written over. -/
theorem con16 {es : List Ent} (hs : ∀ e ∈ es, SmallE e) (hl : es.length < 1000000000) : Con 16 [.own 1000] [(1000, .cust (some (lentDV es)) (fun _ => lentΦ es))] (.tup []) [(1000, .dead)] := by
  refine ⟨specX_conv (Y := Nat × List Slot) (F := fun y => y.2.map (·.2.2) = es) (X' := fun y => .cust none (fun _ => exΦ (.slice (some ⟨y.1, 0, none⟩) y.2.length (y.2.length + 1)) (Sh y.2 y.1))) (fun η G w o ho => ?_) fun y hy => ?_⟩
  · obtain ⟨h1, h2, h3⟩ := ho
    obtain ⟨b, L, hat⟩ := (h3 w fun _ _ => rfl).1
    have hlL : L.length = es.length := by have := congrArg List.length hat.hes; simpa using this
    refine ⟨(b, L), hat.hes, h1, h2, fun w' hw' => ⟨⟨memL b L, memL_sh b L, ?_, ?_⟩, fun x hx => by cases hx⟩⟩
    · rw [memL_names, ← hat.hB]; exact hat.nd
    · have := (hat.keep hw').mem
      have hv := hat.hv
      rw [← hlL] at hv
      rw [hv] at this ⊢
      exact this
  · obtain ⟨b, L⟩ := y
    have hy : L.map (·.2.2) = es := hy
    subst hy
    exact (con16m (L := L) (b := b) (by simpa using hl) fun t ht => hs _ (List.mem_map.2 ⟨t, ht, rfl⟩)).spec
end Go.Proofs.Ytmdfjipjkkjpcaa

