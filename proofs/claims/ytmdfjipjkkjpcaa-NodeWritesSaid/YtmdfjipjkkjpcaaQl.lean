/- Texts put together: Wn, Xa, Xb, Wi, Wj, Wk. -/
import Derived.Test.YtmdfjipjkkjpcaaQk
import Derived.Test.YtmdfjipjkkjpcaaQj
/- SX: raw memory: a list of one's own is put behind a slice of lists; its block joins the memory. -/
namespace Go.SX

/-- A list by itself: its value, its block. -/
def OneL (more : Mem) (e wd : Nat) (hv : Value) (n : Nat) : Prop :=
  (more = [] ∧ hv = .slice none 0 0 ∧ n = 0) ∨ ∃ b c cs, more = [(b, e, cs)] ∧ hv = .slice (some ⟨b, 0, none⟩) n c ∧ cs.length = c * wd ∧ n ≤ c ∧ c ≤ maxLen

section
variable {P : Program} {E : Env} {η : OEnv} {G : Nat → Prop} {w : World}

theorem barr_one {e : Nat} (he : e ≠ 0) {bs : Unit → List UInt8} {o : OInfo} (h : ObjRel η G w (.barr e bs) o) :
    o.dead = false ∧ o.inner = [] ∧ ∃ more, OneL more e 1 o.val (bs ()).length ∧ o.main = more.map (·.1) ∧ ∀ p ∈ more, HasRow w p.1 p.2.1 p.2.2 := by
  obtain ⟨h1, h2, h3⟩ := h
  refine ⟨h1, h2, ?_⟩
  rcases h3 with ⟨q1, q2, q3⟩ | ⟨b, c, cs, T, q1, q2, q3, ⟨q4, q5⟩, q6, q7, q8⟩
  · exact ⟨[], .inl ⟨rfl, q1, q2⟩, q3, by simp⟩
  · have hT := q5.resolve_left he
    subst hT
    exact ⟨[(b, e, cs.toList)], .inr ⟨b, c, cs.toList, rfl, q1, by simpa using q4, q6, q7⟩, q2, fun p hp => by simp at hp; subst hp; exact q3⟩

/-- A list of one's own, put behind a slice of lists. -/
theorem mem_app_list {T e f n c : Nat} {i : TypeInfo} {z v0 va : Value} {H : Mem} {xs : List Value} {bs : Unit → List UInt8} (ht : P.underlying T = some (.slice e)) (hi : P.info? e = some i) (hz : i.zero = some z) (hzs : z.cells.size = i.size) (hs : i.size = 1) (hbp : 0 < i.bytes) (hf : f ≠ 0)
    (old : SlM H e 1 va n c xs) (hbytes : (n + 1) * i.bytes ≤ 140737488355328) :
    SpecG P (rawC 3 T) [.rv 1000 (fun _ => va), .csl 1001 1 1] [(1000, .cust none (fun _ => memΦ v0 H)), (1001, .cells e [.own 1002]), (1002, .barr f bs)]
      {x : Value × Mem × Mem × Value // OneL x.2.2.1 f 1 x.2.2.2 (bs ()).length ∧ App (H ++ x.2.2.1) e 1 va n c 1 xs [x.2.2.2] x.1 x.2.1} (fun x => .rv 1000 fun _ => x.1.1)
      (fun x => [(1000, .cust none (fun _ => memΦ v0 x.1.2.1)), (1001, .dead), (1002, .dead)]) := by
  intro η G vs w hsep hob hs'
  match vs, hs' with
  | [v1, v2], hs' =>
    simp only [SVRels] at hs'
    obtain ⟨h1, h2, -⟩ := hs'
    simp only [SVRel] at h1
    obtain ⟨h1, _⟩ := h1
    have h1 : v1 = va := h1
    subst v1
    obtain ⟨oi, ho, hd, hin, hv0, hmain, hnd, hrows⟩ := mem_at hob (k := 1000) rfl
    have hc := hob 1001
    simp only [SVRel] at h2
    obtain ⟨o2, ho2, _, h2⟩ := h2
    rw [ho2] at hc
    have hc : ObjRel η G w (.cells e [.own 1002]) o2 := hc
    obtain ⟨c1, c3, b2, us, hm2, hh2, hus⟩ := hc
    obtain ⟨b', hb', rfl⟩ := h2 c1
    obtain rfl := OInfo.at_one hm2 hb'
    match us, hus with
    | [], h => exact h.elim
    | _ :: _ :: _, h => exact h.2.elim
    | [hv], hus =>
    simp only [SVRels, SVRel] at hus
    obtain ⟨⟨o3, ho3, hone, hv3⟩, -⟩ := hus
    have hc3 := hob 1002
    rw [ho3] at hc3
    have hc3 : ObjRel η G w (.barr f bs) o3 := hc3
    obtain ⟨d3, i3, more, hL, hm3, hrows3⟩ := barr_one hf hc3
    obtain rfl := hv3 d3
    have hrd : Rd w (.slice (some ⟨b2, 0, none⟩) 1 1) 1 [o3.val] := ⟨_, _, rfl, fun _ => ⟨_, rfl, fun j u hj => by
      rw [add_none, cell_cells hh2, Nat.zero_add]; simpa using hj⟩⟩
    have hlt : ∀ b ∈ oi.main, b < w.heap.size := fun b hb => (hsep.lt 1000 oi ho b (by simp [hb])).1
    have hlt3 : ∀ b ∈ o3.main, b < w.heap.size := fun b hb => (hsep.lt 1002 o3 ho3 b (by simp [hb])).1
    have hdj : ∀ b ∈ oi.main, b ∉ o3.main := fun b hb h => hsep.dj 1000 oi 1002 o3 ho ho3 (by omega) b (by simp [hb]) (by simp [h])
    have hnd3 : (more.map (·.1)).Nodup := by rcases hL with ⟨rfl, _⟩ | ⟨b, c, cs, rfl, _⟩ <;> simp
    have hndB : ((H ++ more).map (·.1)).Nodup := by
      rw [List.map_append]
      exact List.nodup_append.2 ⟨hnd, hnd3, fun x hx y hy exy => by subst exy; exact hdj x (by rw [hmain]; exact hx) (by rw [hm3]; exact hy)⟩
    have hrowsB : ∀ p ∈ H ++ more, HasRow w p.1 p.2.1 p.2.2 := fun p hp => (List.mem_append.1 hp).elim (hrows p) (hrows3 p)
    have oldB : SlM (H ++ more) e 1 va n c xs := by
      rcases old with h | ⟨b, cs, q1, q2, q3⟩
      · exact .inl h
      · exact .inr ⟨b, cs, q1, List.mem_append_left _ q2, q3⟩
    have hdead : ∀ (M : Mem) (j : Nat), lookN j [(1000, TObj.cust none (fun _ => memΦ v0 M)), (1001, .dead), (1002, .dead)] = if j = 1000 then some (.cust none (fun _ => memΦ v0 M)) else if j ∈ [1001, 1002] then some .dead else none := by
      intro M j
      by_cases e1 : j = 1000
      · subst e1; simp [lookN, eqN_refl]
      · have q1 : eqN 1000 j = false := decide_eq_false fun e => e1 e.symm
        by_cases e2 : j = 1001
        · subst e2; simp [lookN, q1, eqN_refl]
        · have q2 : eqN 1001 j = false := decide_eq_false fun e => e2 e.symm
          by_cases e3 : j = 1002
          · subst e3; simp [lookN, q1, q2, eqN_refl]
          · have q3 : eqN 1002 j = false := decide_eq_false fun e => e3 e.symm
            simp [lookN, q1, q2, q3, e1, e2, e3]
    have hall : ∀ j, j ≠ 1000 → j ∉ [1001, 1002] → lookN j [(1000, TObj.cust none (fun _ => memΦ v0 H)), (1001, .cells e [.own 1002]), (1002, .barr f bs)] = none := by
      intro j e1 e2
      have q1 : eqN 1000 j = false := decide_eq_false fun e => e1 e.symm
      have q2 : eqN 1001 j = false := decide_eq_false fun e => e2 (by simp [e])
      have q3 : eqN 1002 j = false := decide_eq_false fun e => e2 (by simp [e])
      simp [lookN, q1, q2, q3]
    have hk1 : ∀ j ∈ [1001, 1002], lookN j [(1000, TObj.cust none (fun _ => memΦ v0 H)), (1001, .cells e [.own 1002]), (1002, .barr f bs)] ≠ none := by
      intro j hj
      have q1 : eqN 1000 1001 = false := by decide
      have q2 : eqN 1000 1002 = false := by decide
      have q3 : eqN 1001 1002 = false := by decide
      simp at hj
      rcases hj with rfl | rfl
      · simp [lookN, q1, eqN_refl]
      · simp [lookN, q2, q3, eqN_refl]
    have hexm : ∀ b ∈ more.map (·.1), b < w.heap.size ∧ ∃ j ∈ [1001, 1002], ∃ oj, η j = some oj ∧ b ∈ oj.main ++ oj.inner := fun b hb => by
      rw [← hm3] at hb
      exact ⟨hlt3 b hb, 1002, by simp, o3, ho3, by simp [hb]⟩
    unfold RunsX
    rw [rawSem_rawC (by omega)]
    have old' : (va = .slice none 0 0 ∧ n = 0 ∧ c = 0 ∧ xs = []) ∨ ∃ b cs, va = .slice (some ⟨b, 0, none⟩) n c ∧ HasRow w b e cs ∧ cs.length = c * i.size ∧ n ≤ c ∧ cs.take (n * i.size) = xs := by
      rw [hs]
      rcases old with h | ⟨b, cs, q1, q2, q3⟩
      · exact .inl h
      · exact .inr ⟨b, cs, q1, hrows _ q2, q3⟩
    by_cases hroom : n + 1 ≤ c
    · rcases oldB with ⟨_, rfl, rfl, _⟩ | ⟨b, cs, rfl, hm, hcl, hnc, htake⟩
      · omega
      · have hm0 : (b, e, cs) ∈ H := by
          rcases old with ⟨h, _⟩ | ⟨b5, cs5, q1, q2, _⟩
          · cases h
          · have e5 : b = b5 := by cases q1; rfl
            subst e5
            have := mem_eq hndB hm (List.mem_append_left _ q2) rfl
            rw [this]; exact q2
        have hr := run_room (P := P) (ty := T) ht hi (by omega) (hrows _ hm0) (by rw [hs]; exact hcl) hroom hrd (by rw [hs]; rfl) (by simpa using hone)
        rw [hs] at hr
        have hbm : b ∈ oi.main := by rw [hmain]; exact List.mem_map.2 ⟨_, hm0, rfl⟩
        have hu := raw_upd (w' := w.setRow b (cs.take (n * 1) ++ [o3.val] ++ cs.drop ((n + 1) * 1)).toArray) (X := .cust none (fun _ => memΦ v0 (putB (H ++ more) b (cs.take (n * 1) ++ [o3.val] ++ cs.drop ((n + 1) * 1)))))
          (objs' := [(1000, .cust none (fun _ => memΦ v0 (putB (H ++ more) b (cs.take (n * 1) ++ [o3.val] ++ cs.drop ((n + 1) * 1))))), (1001, .dead), (1002, .dead)])
          hsep hob (k := 1000) ho hd hin (ks := [1001, 1002]) (by simp) (by simp [lookN, eqN_refl]) hk1 hall rfl rfl rfl (by simp) (fun b' _ hb' => setRow_other w b b' _ fun e => hb' (e ▸ hbm)) (more.map (·.1)) (fun b' hb' => ⟨by simpa using (hexm b' hb').1, .inr (hexm b' hb').2⟩) (by
            rw [hv0]
            exact mem_rel (by rw [putB_names, hmain, List.map_append]) (by rw [hmain, ← List.map_append]; exact hndB) (putB_rows hndB hrowsB hm)) (hdead _)
        have hx : App (H ++ more) e 1 (.slice (some ⟨b, 0, none⟩) n c) n c 1 xs [o3.val] (.slice (some ⟨b, 0, none⟩) (n + 1) c) (putB (H ++ more) b (cs.take (n * 1) ++ [o3.val] ++ cs.drop ((n + 1) * 1))) :=
          ⟨by rw [putB_names]; exact hndB, .inl ⟨hroom, b, cs, rfl, hm, rfl, rfl⟩⟩
        exact ⟨_, _, hr, ⟨(_, _, more, o3.val), hL, hx⟩, _, G, by simp [SVRel, Value.oneCell'], hu⟩
    · obtain ⟨c', cs', hr, g1, g2, g3, g4⟩ := run_append_more (P := P) (ty := T) ht hi hz hzs hbp old' (by omega) hrd (by rw [hs]; rfl) hbytes (by omega)
      rw [hs] at g3 g4
      have hng : w.heap.size ∉ (H ++ more).map (·.1) := fun h => by
        rw [List.map_append] at h
        rcases List.mem_append.1 h with h | h
        · have := hlt _ (hmain ▸ h); omega
        · have := hlt3 _ (hm3 ▸ h); omega
      have hnd' : ((H ++ more ++ [(w.heap.size, e, cs')]).map (·.1)).Nodup := by
        rw [List.map_append]
        exact List.nodup_append.2 ⟨hndB, by simp, fun x hx y hy exy => by simp at hy; subst exy; subst hy; exact hng hx⟩
      have hu := raw_upd (w' := w.drew.alloc (.cells ⟨cs'⟩ e)) (X := .cust none (fun _ => memΦ v0 (H ++ more ++ [(w.heap.size, e, cs')])))
        (objs' := [(1000, .cust none (fun _ => memΦ v0 (H ++ more ++ [(w.heap.size, e, cs')]))), (1001, .dead), (1002, .dead)])
        hsep hob (k := 1000) ho hd hin (ks := [1001, 1002]) (by simp) (by simp [lookN, eqN_refl]) hk1 hall rfl rfl rfl (by simp) (fun b' hb' _ => heap_alloc_old w.drew _ hb') (more.map (·.1) ++ [w.heap.size]) (fun b hb => by
          rcases List.mem_append.1 hb with hb | hb
          · obtain ⟨q1, q2⟩ := hexm b hb
            exact ⟨by simp; omega, .inr q2⟩
          · simp at hb; subst hb; exact ⟨by simp, .inl (Nat.le_refl _)⟩) (by
          rw [hv0]
          refine mem_rel (by rw [hmain]; simp) (by rw [hmain]; simpa [List.map_append] using hnd') fun p hp => ?_
          rcases List.mem_append.1 hp with hp | hp
          · have hpl : p.1 < w.heap.size := by
              rcases List.mem_append.1 hp with hp | hp
              · exact hlt _ (by rw [hmain]; exact List.mem_map.2 ⟨p, hp, rfl⟩)
              · exact hlt3 _ (by rw [hm3]; exact List.mem_map.2 ⟨p, hp, rfl⟩)
            unfold HasRow
            rw [heap_alloc_old w.drew _ hpl]
            exact hrowsB p hp
          · simp at hp; subst hp
            exact heap_alloc_new w.drew _) (hdead _)
      have hx : App (H ++ more) e 1 va n c 1 xs [o3.val] (.slice (some ⟨w.heap.size, 0, none⟩) (n + 1) c') (H ++ more ++ [(w.heap.size, e, cs')]) :=
        ⟨hnd', .inr ⟨by omega, w.heap.size, c', cs', hng, rfl, rfl, g1, g2, g3, g4⟩⟩
      exact ⟨_, _, hr, ⟨(_, _, more, o3.val), hL, hx⟩, _, G, by simp [SVRel, Value.oneCell'], hu⟩
  | [], h => exact h.elim
  | [_], h => exact h.2.elim
  | _ :: _ :: _ :: _, h => exact h.2.2.elim
end
end Go.SX

/- SX: raw memory: an object beside it that stays; two of them put together. -/
namespace Go.SX

/-- What an object is hangs on no other object. -/
def Cst (X : TObj) : Prop := (∃ d Φ, X = .cust d Φ) ∨ X = .dead
theorem Cst.rel {X : TObj} (h : Cst X) {η η' : OEnv} {G G' : Nat → Prop} {w : World} {o : OInfo} (ho : ObjRel η G w X o) : ObjRel η' G' w X o := by
  rcases h with ⟨d, Φ, rfl⟩ | rfl
  · exact ho
  · exact ho
theorem Cst.opt {x : Option TObj} (h : ∀ X, x = some X → Cst X) {η η' : OEnv} {G G' : Nat → Prop} {w : World} {o : Option OInfo} (ho : ObjOpt η G w x o) : ObjOpt η' G' w x o := by
  cases x with
  | none => cases o with
    | none => trivial
    | some o => exact ho.elim
  | some X => cases o with
    | none => exact ho.elim
    | some o => exact (h X rfl).rel ho
theorem opt_none {η : OEnv} {G : Nat → Prop} {w : World} {o : Option OInfo} (ho : ObjOpt η G w none o) : o = none := by
  cases o with
  | none => rfl
  | some o => exact ho.elim

section
variable {P : Program} {f : Nat} {svs svs2 : List SV} {X : Type} {r : X → SV}

/-- An object beside it stays. -/
theorem specG_frame {objs objs2 : Objs} {objs' objs2' : X → Objs} {k : Nat} {d : Option DV} {Φ : Unit → World → Value → List Nat → Prop} (h : SpecG P f svs objs X r objs') (hk : lookN k objs = none) (hk' : ∀ x, lookN k (objs' x) = none)
    (h2 : ∀ j, lookN j objs2 = if j = k then some (.cust d Φ) else lookN j objs) (h2' : ∀ x j, lookN j (objs2' x) = if j = k then some (.cust d Φ) else lookN j (objs' x))
    (hc : ∀ j Y, lookN j objs = some Y → Cst Y) (hc' : ∀ x j Y, lookN j (objs' x) = some Y → Cst Y)
    (hsv : ∀ (η : OEnv) (G : Nat → Prop) (w : World) (vs : List Value), SVRels η G w svs2 vs → SVRels (fun j => if j = k then none else η j) G w svs vs)
    (hr : ∀ (x : X) (η η' : OEnv) (G : Nat → Prop) (w : World) (v : Value), SVRel η G w (r x) v → SVRel η' G w (r x) v) : SpecG P f svs2 objs2 X r objs2' := by
  intro η G vs w hsep hob hs
  have hobk := hob k
  rw [h2 k, if_pos rfl] at hobk
  cases hok : η k with
  | none => rw [hok] at hobk; exact hobk.elim
  | some o =>
  rw [hok] at hobk
  have hobk : ObjRel η G w (.cust d Φ) o := hobk
  have hin : ∀ {j : Nat} {oj : OInfo}, (if j = k then none else η j) = some oj → j ≠ k ∧ η j = some oj := by
    intro j oj hj
    by_cases e : j = k
    · rw [if_pos e] at hj; cases hj
    · rw [if_neg e] at hj; exact ⟨e, hj⟩
  have hsep1 : Sep (fun j => if j = k then none else η j) G w :=
    ⟨fun j oj hj => hsep.lt j oj (hin hj).2, fun j oj j' oj' hj hj' => hsep.dj j oj j' oj' (hin hj).2 (hin hj').2, fun j oj hj => hsep.mi j oj (hin hj).2, hsep.glt⟩
  refine (h (fun j => if j = k then none else η j) G vs w hsep1 (fun j => ?_) (hsv η G w vs hs)).mono fun v w' ⟨x, η', G', q1, q2, q3, q4⟩ => ?_
  · show ObjOpt _ G w _ (if j = k then none else η j)
    by_cases e : j = k
    · subst e; rw [hk, if_pos rfl]; trivial
    · rw [if_neg e]
      have := hob j
      rw [h2 j, if_neg e] at this
      exact Cst.opt (hc j) this
  · have hkn : η' k = none := opt_none (by have := q2 k; rwa [hk' x] at this)
    have hout : ∀ {j : Nat} {oj : OInfo}, (if j = k then some o else η' j) = some oj → (j = k ∧ oj = o) ∨ (j ≠ k ∧ η' j = some oj) := by
      intro j oj hj
      by_cases e : j = k
      · rw [if_pos e] at hj; cases hj; exact .inl ⟨e, rfl⟩
      · rw [if_neg e] at hj; exact .inr ⟨e, hj⟩
    have hfar : ∀ b ∈ o.main ++ o.inner, ∀ j oj, (if j = k then none else η j) = some oj → b ∉ oj.main ++ oj.inner := fun b hb j oj hj hb' => hsep.dj k o j oj hok (hin hj).2 (fun e => (hin hj).1 e.symm) b hb hb'
    have hnew : ∀ b ∈ o.main ++ o.inner, ∀ j oj, η' j = some oj → b ∉ oj.main ++ oj.inner := fun b hb j oj hj hb' => by
      rcases q4.blk j oj hj b hb' with h | ⟨j0, o0, h0, hb0⟩
      · have := (hsep.lt k o hok b hb).1; omega
      · exact hfar b hb j0 o0 h0 hb0
    have hkeep : ∀ b ∈ o.main, w'.heap[b]? = w.heap[b]? := fun b hb => q4.keep b (hsep.lt k o hok b (by simp [hb])).1 fun j oj hj => hfar b (by simp [hb]) j oj hj
    refine ⟨x, fun j => if j = k then some o else η' j, G', hr x _ _ _ _ _ q1, fun j => ?_, ⟨?_, ?_, ?_, q3.glt⟩, ⟨q4.os, q4.tape, q4.out, q4.size, ?_, ?_, q4.g, ?_, ?_⟩⟩
    · rw [h2' x j]
      show ObjOpt _ G' w' _ (if j = k then some o else η' j)
      by_cases e : j = k
      · rw [if_pos e, if_pos e]
        obtain ⟨r1, r2, r3⟩ := hobk
        exact ⟨r1, r2, fun w2 hw2 => r3 w2 fun b hb => (hw2 b hb).trans (hkeep b hb)⟩
      · rw [if_neg e, if_neg e]
        exact Cst.opt (hc' x j) (q2 j)
    · intro j oj hj b hb
      rcases hout hj with ⟨_, rfl⟩ | ⟨_, hj⟩
      · have := hsep.lt k oj hok b hb
        refine ⟨by have := q4.size; omega, fun hg => ?_⟩
        rcases q4.g' b hg with h | h | ⟨j0, o0, h0, hb0⟩
        · exact this.2 h
        · omega
        · exact hfar b hb j0 o0 h0 hb0
      · exact q3.lt j oj hj b hb
    · intro j oj j' oj' hj hj' hne b hb hb'
      rcases hout hj with ⟨e1, e2⟩ | ⟨e, g1⟩
      · rcases hout hj' with ⟨e3, e4⟩ | ⟨_, g2⟩
        · exact hne (e1.trans e3.symm)
        · exact hnew b (e2 ▸ hb) j' oj' g2 hb'
      · rcases hout hj' with ⟨e3, e4⟩ | ⟨_, g2⟩
        · exact hnew b (e4 ▸ hb') j oj g1 hb
        · exact q3.dj j oj j' oj' g1 g2 hne b hb hb'
    · intro j oj hj
      rcases hout hj with ⟨_, rfl⟩ | ⟨_, hj⟩
      · exact hsep.mi k oj hok
      · exact q3.mi j oj hj
    · intro b hb hn
      exact q4.keep b hb fun j oj hj => hn j oj (hin hj).2
    · intro j oj hj
      by_cases e : j = k
      · subst e
        rw [hok] at hj; cases hj
        exact ⟨o, by simp, fun hd => ⟨hd, rfl, Ext.refl _, fun b hb => by rw [hobk.2.1] at hb; cases hb⟩⟩
      · obtain ⟨o', h1, h2⟩ := q4.obj j oj (by rw [if_neg e]; exact hj)
        exact ⟨o', by rw [if_neg e]; exact h1, h2⟩
    · intro b hb
      rcases q4.g' b hb with h | h | ⟨j0, o0, h0, hb0⟩
      · exact .inl h
      · exact .inr (.inl h)
      · exact .inr (.inr ⟨j0, o0, (hin h0).2, hb0⟩)
    · intro j oj hj b hb
      rcases hout hj with ⟨_, rfl⟩ | ⟨_, hj⟩
      · exact .inr ⟨k, oj, hok, hb⟩
      · rcases q4.blk j oj hj b hb with h | ⟨j0, o0, h0, hb0⟩
        · exact .inl h
        · exact .inr ⟨j0, o0, (hin h0).2, hb0⟩

/-- Two objects of raw memory are put together ahead. -/
theorem specG_merge {objs objs2 : Objs} {objs' objs2' : X → Objs} {k : Nat} {d : Option DV} {H more : Mem} {v0 hv : Value} (h : ((H ++ more).map (·.1)).Nodup → SpecG P f svs objs X r objs') (hk : lookN k objs = none) (hk' : ∀ x, lookN k (objs' x) = none) (hk0 : k ≠ 1000)
    (h1 : lookN 1000 objs = some (.cust none (fun _ => memΦ v0 (H ++ more))))
    (h2 : ∀ j, lookN j objs2 = if j = 1000 then some (.cust none (fun _ => memΦ v0 H)) else if j = k then some (.cust d (fun _ => memΦ hv more)) else lookN j objs) (h2' : ∀ x j, lookN j (objs2' x) = if j = k then some .dead else lookN j (objs' x))
    (hc : ∀ j Y, lookN j objs = some Y → Cst Y) (hc' : ∀ x j Y, lookN j (objs' x) = some Y → Cst Y)
    (hsv : ∀ (η : OEnv) (G : Nat → Prop) (w : World) (vs : List Value) (o om : OInfo), η 1000 = some o → o.dead = false → om.dead = false → om.val = o.val → Ext o.main om.main → SVRels η G w svs2 vs → SVRels (fun j => if j = k then none else if j = 1000 then some om else η j) G w svs vs)
    (hr : ∀ (x : X) (η η' : OEnv) (G : Nat → Prop) (w : World) (v : Value), SVRel η G w (r x) v → SVRel η' G w (r x) v) : SpecG P f svs2 objs2 X r objs2' := by
  intro η G vs w hsep hob hs
  have hob0 := hob 1000
  rw [h2 1000, if_pos rfl] at hob0
  have hobk := hob k
  rw [h2 k, if_neg hk0, if_pos rfl] at hobk
  cases hok : η k with
  | none => rw [hok] at hobk; exact hobk.elim
  | some ok =>
  cases ho : η 1000 with
  | none => rw [ho] at hob0; exact hob0.elim
  | some o =>
  rw [hok] at hobk
  rw [ho] at hob0
  obtain ⟨o1, o2, o3⟩ := hob0
  obtain ⟨k1, k2, k3⟩ := hobk
  obtain ⟨m1, m2, m3, m4⟩ := (o3 w fun _ _ => rfl).1
  obtain ⟨n1, n2, n3, n4⟩ := (k3 w fun _ _ => rfl).1
  obtain ⟨om, hom⟩ : ∃ om : OInfo, om = ⟨o.val, o.main ++ ok.main, [], false⟩ := ⟨_, rfl⟩
  have hmm : om.main = o.main ++ ok.main := by rw [hom]
  have hmi : om.inner = [] := by rw [hom]
  have hin : ∀ {j : Nat} {oj : OInfo}, (if j = k then none else if j = 1000 then some om else η j) = some oj → j ≠ k ∧ ((j = 1000 ∧ oj = om) ∨ (j ≠ 1000 ∧ η j = some oj)) := by
    intro j oj hj
    by_cases e : j = k
    · rw [if_pos e] at hj; cases hj
    · rw [if_neg e] at hj
      by_cases e2 : j = 1000
      · rw [if_pos e2] at hj; cases hj; exact ⟨e, .inl ⟨e2, rfl⟩⟩
      · rw [if_neg e2] at hj; exact ⟨e, .inr ⟨e2, hj⟩⟩
  have hold : ∀ {j : Nat} {oj : OInfo}, (if j = k then none else if j = 1000 then some om else η j) = some oj → ∀ b ∈ oj.main ++ oj.inner, ∃ j0 o0, η j0 = some o0 ∧ b ∈ o0.main ++ o0.inner ∧ (j0 = j ∨ (j = 1000 ∧ j0 = k)) := by
    intro j oj hj b hb
    rcases (hin hj).2 with ⟨e, rfl⟩ | ⟨_, h⟩
    · rw [hmm, hmi, List.append_nil] at hb
      rcases List.mem_append.1 hb with hb | hb
      · exact ⟨1000, o, ho, by simp [hb], .inl e.symm⟩
      · exact ⟨k, ok, hok, by simp [hb], .inr ⟨e, rfl⟩⟩
    · exact ⟨j, oj, h, hb, .inl rfl⟩
  have hnd : (o.main ++ ok.main).Nodup := List.nodup_append.2 ⟨m3, n3, fun a ha b hb e => hsep.dj 1000 o k ok ho hok (fun e => hk0 e.symm) a (by simp [ha]) (by simp [e, hb])⟩
  have hnd' : ((H ++ more).map (·.1)).Nodup := by rw [List.map_append, ← m2, ← n2]; exact hnd
  have hsep1 : Sep (fun j => if j = k then none else if j = 1000 then some om else η j) G w := by
    refine ⟨fun j oj hj b hb => ?_, fun j oj j' oj' hj hj' hne b hb hb' => ?_, fun j oj hj b hb => ?_, hsep.glt⟩
    · obtain ⟨j0, o0, h0, hb0, _⟩ := hold hj b hb
      exact hsep.lt j0 o0 h0 b hb0
    · obtain ⟨j0, o0, h0, hb0, e0⟩ := hold hj b hb
      obtain ⟨j1, o1', h1', hb1, e1⟩ := hold hj' b hb'
      refine hsep.dj j0 o0 j1 o1' h0 h1' (fun e => ?_) b hb0 hb1
      have := (hin hj).1
      have := (hin hj').1
      omega
    · rcases (hin hj).2 with ⟨e, rfl⟩ | ⟨_, h⟩
      · rw [hmi]; simp
      · exact hsep.mi j oj h b hb
  have hom1 : ∀ w2 : World, (∀ b ∈ om.main, w2.heap[b]? = w.heap[b]?) → memΦ v0 (H ++ more) w2 om.val om.main := by
    intro w2 hw2
    refine ⟨by rw [hom]; exact m1, by rw [hmm, List.map_append, m2, n2], by rw [hmm]; exact hnd, fun p hp => ?_⟩
    rcases List.mem_append.1 hp with hp | hp
    · unfold HasRow
      rw [hw2 _ (by rw [hmm, m2]; exact List.mem_append_left _ (List.mem_map.2 ⟨p, hp, rfl⟩))]
      exact m4 p hp
    · unfold HasRow
      rw [hw2 _ (by rw [hmm, n2]; exact List.mem_append_right _ (List.mem_map.2 ⟨p, hp, rfl⟩))]
      exact n4 p hp
  refine (h hnd' (fun j => if j = k then none else if j = 1000 then some om else η j) G vs w hsep1 (fun j => ?_) (hsv η G w vs o om ho o1 (by rw [hom]) (by rw [hom]) ⟨ok.main, hmm⟩ hs)).mono fun v w' ⟨x, η', G', q1, q2, q3, q4⟩ => ?_
  · show ObjOpt _ G w _ (if j = k then none else if j = 1000 then some om else η j)
    by_cases e : j = k
    · subst e; rw [hk, if_pos rfl]; trivial
    · rw [if_neg e]
      by_cases e2 : j = 1000
      · subst e2
        rw [h1, if_pos rfl]
        exact ⟨by rw [hom], hmi, fun w2 hw2 => ⟨hom1 w2 hw2, fun x hx => by cases hx⟩⟩
      · rw [if_neg e2]
        have := hob j
        rw [h2 j, if_neg e2, if_neg e] at this
        exact Cst.opt (hc j) this
  · have hkn : η' k = none := opt_none (by have := q2 k; rwa [hk' x] at this)
    have hout : ∀ {j : Nat} {oj : OInfo}, (if j = k then some deadInfo else η' j) = some oj → (j = k ∧ oj = deadInfo) ∨ (j ≠ k ∧ η' j = some oj) := by
      intro j oj hj
      by_cases e : j = k
      · rw [if_pos e] at hj; cases hj; exact .inl ⟨e, rfl⟩
      · rw [if_neg e] at hj; exact .inr ⟨e, hj⟩
    refine ⟨x, fun j => if j = k then some deadInfo else η' j, G', hr x _ _ _ _ _ q1, fun j => ?_, ⟨?_, ?_, ?_, q3.glt⟩, ⟨q4.os, q4.tape, q4.out, q4.size, ?_, ?_, q4.g, ?_, ?_⟩⟩
    · rw [h2' x j]
      show ObjOpt _ G' w' _ (if j = k then some deadInfo else η' j)
      by_cases e : j = k
      · rw [if_pos e, if_pos e]; exact ⟨rfl, rfl, rfl⟩
      · rw [if_neg e, if_neg e]; exact Cst.opt (hc' x j) (q2 j)
    · intro j oj hj b hb
      rcases hout hj with ⟨_, rfl⟩ | ⟨_, hj⟩
      · simp [deadInfo] at hb
      · exact q3.lt j oj hj b hb
    · intro j oj j' oj' hj hj' hne b hb hb'
      rcases hout hj with ⟨_, rfl⟩ | ⟨_, hj⟩
      · simp [deadInfo] at hb
      · rcases hout hj' with ⟨_, rfl⟩ | ⟨_, hj'⟩
        · simp [deadInfo] at hb'
        · exact q3.dj j oj j' oj' hj hj' hne b hb hb'
    · intro j oj hj b hb
      rcases hout hj with ⟨_, rfl⟩ | ⟨_, hj⟩
      · simp [deadInfo] at hb
      · exact q3.mi j oj hj b hb
    · intro b hb hn
      refine q4.keep b hb fun j oj hj hm => ?_
      obtain ⟨j0, o0, h0, hb0, _⟩ := hold hj b hm
      exact hn j0 o0 h0 hb0
    · intro j oj hj
      by_cases e : j = k
      · subst e
        exact ⟨deadInfo, by simp, fun hd => by simp [deadInfo] at hd⟩
      · by_cases e2 : j = 1000
        · subst e2
          rw [ho] at hj; cases hj
          obtain ⟨o', h1, h2⟩ := q4.obj 1000 om (by rw [if_neg e, if_pos rfl])
          refine ⟨o', by rw [if_neg e]; exact h1, fun hd => ?_⟩
          obtain ⟨r1, r2, r3, r4⟩ := h2 hd
          exact ⟨o1, by rw [r2, hom], Ext.trans ⟨ok.main, hmm⟩ r3, fun b hb => by rw [o2] at hb; cases hb⟩
        · obtain ⟨o', h1, h2⟩ := q4.obj j oj (by rw [if_neg e, if_neg e2]; exact hj)
          exact ⟨o', by rw [if_neg e]; exact h1, h2⟩
    · intro b hb
      rcases q4.g' b hb with h | h | ⟨j0, o0, h0, hb0⟩
      · exact .inl h
      · exact .inr (.inl h)
      · obtain ⟨j1, o1', h1', hb1, _⟩ := hold h0 b hb0
        exact .inr (.inr ⟨j1, o1', h1', hb1⟩)
    · intro j oj hj b hb
      rcases hout hj with ⟨_, rfl⟩ | ⟨_, hj⟩
      · simp [deadInfo] at hb
      · rcases q4.blk j oj hj b hb with h | ⟨j0, o0, h0, hb0⟩
        · exact .inl h
        · obtain ⟨j1, o1', h1', hb1, _⟩ := hold h0 b hb0
          exact .inr ⟨j1, o1', h1', hb1⟩
end
end Go.SX

/- The book: its own memory; lists that it was handed stay readable until Own. -/
namespace Go.SX

/-- A list of bytes, known: its value, its block. -/
def OneB (bs : List UInt8) (x : Value × Mem) : Prop := OneL x.2 5 1 x.1 bs.length ∧ ∀ p ∈ x.2, ∀ (i : Nat) (y : UInt8), bs[i]? = some y → p.2.2[i]? = some (.int .u8 (y.toNat : Int))
def knownB (bs : Unit → List UInt8) (x : Value × Mem) : TObj := .cust (some (.bytes bs)) (fun _ => memΦ x.1 x.2)

theorem barr_known {η : OEnv} {G : Nat → Prop} {w : World} {bs : Unit → List UInt8} {o : OInfo} (h : ObjRel η G w (.barr 5 bs) o) : ∃ more, OneB (bs ()) (o.val, more) ∧ ObjRel η G w (knownB bs (o.val, more)) o := by
  obtain ⟨h1, h2, h3⟩ := h
  rcases h3 with ⟨q1, q2, q3⟩ | ⟨b, c, cs, T, q1, q2, q3, ⟨q4, q5⟩, q6, q7, q8⟩
  · refine ⟨[], ⟨.inl ⟨rfl, q1, q2⟩, by simp⟩, h1, h2, fun w' _ => ⟨⟨rfl, q3, by rw [q3]; simp, by simp⟩, fun x hx => ?_⟩⟩
    cases hx
    exact ⟨none, 0, by rw [q1, q2], by omega, fun i x hx => by
      have := (List.getElem?_eq_some_iff.1 hx).1; omega⟩
  · have hT := q5.resolve_left (by decide)
    subst hT
    refine ⟨[(b, 5, cs.toList)], ⟨.inr ⟨b, c, cs.toList, rfl, q1, by simpa using q4, q6, q7⟩, fun p hp i y hy => by simp at hp; subst hp; have := q8 i y hy; simpa using this⟩, h1, h2, fun w' hw' => ?_⟩
    have hrow : HasRow w' b 5 cs.toList := by unfold HasRow; rw [hw' b (by rw [q2]; simp)]; exact q3
    refine ⟨⟨rfl, q2, by rw [q2]; simp, fun p hp => by simp at hp; subst hp; exact hrow⟩, fun x hx => ?_⟩
    cases hx
    exact ⟨_, c, q1, q6, fun i x hx => ⟨b, 0, rfl, by rw [q2]; simp, by
      rw [cell_cells hrow, Nat.zero_add]; have := q8 i x hx; simpa using this⟩⟩

section
variable {P : Program} {f : Nat}
/-- A list handed in becomes known. -/
theorem specG_open {A : TObj} {bs : Unit → List UInt8} {Y : Value × Mem → Type} {o' : (x : Value × Mem) → Y x → Objs}
    (h : ∀ x : Value × Mem, OneB (bs ()) x → x.1.oneCell' = true → SpecG P f [.loc 1000 0, .rv 1001 (fun _ => x.1)] [(1000, A), (1001, knownB bs x)] (Y x) (fun _ => .tup []) (o' x)) :
    SpecG P f [.loc 1000 0, .own 1001] [(1000, A), (1001, .barr 5 bs)] ((x : {x : Value × Mem // OneB (bs ()) x}) × Y x.1) (fun _ => .tup []) (fun s => o' s.1.1 s.2) := by
  intro η G vs w hsep hob hs
  have hob1 := hob 1001
  have e01 : eqN 1000 1001 = false := by decide
  simp only [lookN, e01, cond_false, eqN_refl, cond_true] at hob1
  match vs, hs with
  | [v1, v2], hs =>
    simp only [SVRels] at hs
    obtain ⟨hs1, hs2, -⟩ := hs
    simp only [SVRel] at hs2
    obtain ⟨o, ho, hone, hv⟩ := hs2
    rw [ho] at hob1
    obtain ⟨more, hB, hR⟩ := barr_known (η := η) (G := G) (w := w) (o := o) hob1
    have hv2 : v2 = o.val := hv hR.1
    refine (h (o.val, more) hB (hv2 ▸ hone) η G [v1, v2] w hsep (fun j => ?_) ⟨hs1, ⟨hv2, hone⟩, trivial⟩).mono fun v w' ⟨y, η', G', hh⟩ => ⟨⟨⟨_, hB⟩, y⟩, η', G', hh⟩
    have hj := hob j
    by_cases e : j = 1001
    · subst e
      simp only [lookN, e01, cond_false, eqN_refl, cond_true]
      rw [ho]; exact hR
    · have q : eqN 1001 j = false := decide_eq_false fun e' => e e'.symm
      simp only [lookN, q, cond_false] at hj ⊢
      exact hj
  | [], h => exact h.elim
  | [_], h => exact h.2.elim
  | _ :: _ :: _ :: _, h => exact h.2.2.elim

theorem specG_conv {k : Nat} {svs : List SV} {A : TObj} {rest : Objs} {Y : Type} {F : Y → Prop} {A' : Y → TObj} {X : Y → Type} {r : (y : Y) → X y → SV} {objs' : (y : Y) → X y → Objs} (h : ∀ (η : OEnv) (G : Nat → Prop) (w : World) (o : OInfo), ObjRel η G w A o → ∃ y, F y ∧ ObjRel η G w (A' y) o)
    (hf : ∀ y, F y → SpecG P f svs ((k, A' y) :: rest) (X y) (r y) (objs' y)) : SpecG P f svs ((k, A) :: rest) ((y : {y : Y // F y}) × X y.1) (fun s => r s.1.1 s.2) (fun s => objs' s.1.1 s.2) := by
  intro η G vs w hsep hob hs
  have hk := hob k
  simp only [lookN, eqN_refl, cond_true] at hk
  cases ho : η k with
  | none => rw [ho] at hk; exact hk.elim
  | some o =>
    rw [ho] at hk
    obtain ⟨y, hy, hy2⟩ := h η G w o hk
    refine (hf y hy η G vs w hsep (fun j => ?_) hs).mono fun v w' ⟨x, η', G', hh⟩ => ⟨⟨⟨y, hy⟩, x⟩, η', G', hh⟩
    by_cases e : j = k
    · subst e
      simp only [lookN, eqN_refl, cond_true, ho]; exact hy2
    · have q : eqN k j = false := decide_eq_false fun e' => e e'.symm
      have := hob j
      simp only [lookN, q, cond_false] at this ⊢
      exact this

/-- What is known of the memory that comes out is a ghost. -/
theorem specG_out {svs : List SV} {objs : Objs} {r : SV} {v0 : Value} {Q : Mem → Prop} (h : SpecX P f svs objs r [(1000, .cust none (fun _ => exΦ v0 Q))]) : SpecG P f svs objs {H : Mem // Q H} (fun _ => r) (fun x => [(1000, .cust none (fun _ => memΦ v0 x.1))]) := by
  intro η G vs w hsep hob hs
  refine (h η G vs w hsep hob hs).mono fun v w' ⟨η', G', h1, h2, h3⟩ => ?_
  have hk := h2 1000
  simp only [lookN, eqN_refl, cond_true] at hk
  cases ho : η' 1000 with
  | none => rw [ho] at hk; exact hk.elim
  | some o =>
    rw [ho] at hk
    obtain ⟨H, q1, q2, q3⟩ := cust_open (η := η') (G := G') ex_id hk
    refine ⟨⟨H, q1⟩, η', G', h1, fun j => ?_, h3⟩
    have hj := h2 j
    rw [lookN_one] at hj ⊢
    by_cases e : j = 1000
    · subst e; rw [if_pos rfl, ho]; exact q3
    · rw [if_neg e] at hj ⊢; exact hj
end
end Go.SX

/- What is lent: written over. -/
namespace Go.Proofs.Ytmdfjipjkkjpcaa
open Go.SX

theorem conG {f : Nat} {svs : List SV} {objs : Objs} {r : SV} {objs' : Objs} (h : SpecX Try.prog f svs objs r objs') : ConG f svs objs Unit (fun _ => r) (fun _ => objs') :=
  ⟨fun η G vs w h1 h2 h3 => (h η G vs w h1 h2 h3).mono fun _ _ ⟨η', G', hh⟩ => ⟨(), η', G', hh⟩⟩

set_option maxRecDepth 20000 in
set_option maxHeartbeats 1000000 in
theorem con27 {kb n c : Nat} {v0 : Value} {Q : Mem → Prop} (hc : c < 2000000000000) (hQ : ∀ H, Q H → (H.map (·.1)).Nodup → ∃ cs, (kb, 5, cs) ∈ H ∧ cs.length = c ∧ ∀ cs' : List Value, cs'.length = c → Q (putB H kb cs')) :
    Con 27 [.rv 1000 (fun _ => .slice (some ⟨kb, 0, none⟩) n c)] [(1000, .cust none (fun _ => exΦ v0 Q))] (.tup []) [(1000, .cust none (fun _ => exΦ v0 Q))] := by
  obtain ⟨i5, hi5, -⟩ := info5x
  have r1 := conG (ex_cap (T := 27) (Q := Q) (v0 := v0) (a := .rv 1000 fun _ => .slice (some ⟨kb, 0, none⟩) n c) Try.underlying27 (.inl rfl))
  have r2 := conG (ex_cut (T := 27) (Q := Q) (v0 := v0) (m := c) (zm := (c : Int)) (a := .rv 1000 fun _ => .slice (some ⟨kb, 0, none⟩) n c) Try.underlying27 hi5 (.inl rfl) rfl (Nat.le_refl _))
  have r3 := conG (ex_len (T := 27) (Q := Q) (v0 := v0) (a := .rv 1000 fun _ => .slice (some ⟨kb, 0, none⟩) c c) Try.underlying27 (.inl rfl))
  refine con_of Try.func27 rfl rfl 17 _ rfl rfl rfl rfl ?_
  cbv
  refine ⟨Unit, _, _, r1, ⟨by kernel_rfl⟩, fun _ => ⟨⟨by kernel_rfl⟩, ?_⟩⟩
  cbv
  refine ⟨Unit, _, _, r2, ⟨by kernel_rfl⟩, fun _ => ⟨⟨by kernel_rfl⟩, ?_⟩⟩
  cbv
  refine ⟨Nat, [1000], fun i => [(2, .rv 1000 fun _ => .slice (some ⟨kb, 0, none⟩) c c), (3, .int .i64 (.s fun _ => (i : Int)))], fun i => [(1000, .cust none (fun _ => exΦ v0 Q))], fun i => i ≤ c, fun i => c - i, 0, [(1000, some 1000)], Nat.zero_le _, ⟨?_⟩, fun i hx => ?_⟩
  · cbv
    and_intros
    all_goals first | exact trivial | exact ⟨rfl⟩ | exact ⟨rfl, fun _ _ _ h => h⟩ | exact ⟨by kernel_rfl⟩
  · have hi : i ≤ c := hx
    cbv
    refine ⟨Unit, _, _, r3, ⟨by kernel_rfl⟩, fun _ => ⟨⟨by kernel_rfl⟩, ?_⟩⟩
    cbv
    refine And.intro ?_ ?_
    · intro h1
      have h1 : (i : Int) < (c : Int) := of_decide_eq_true h1
      have hlt : i < c := by omega
      have bk : bound64 ((i : Int) + 1) := by unfold bound64; omega
      have ek : (i : Int) + 1 = ((i + 1 : Nat) : Int) := by omega
      have hms : c - (i + 1) < c - i := by omega
      have r4 := conG (ex_idx eok (T := 27) (Q := Q) (v0 := v0) (i := i) (z := (i : Int)) (te := ⟨.int .u8, 1, 1, [.int .u8 (.l 0)], [.bool fun _ => false]⟩) (a := .rv 1000 fun _ => .slice (some ⟨kb, 0, none⟩) c c) Try.underlying27 rfl (.inl rfl) rfl hlt)
      have r5 := conG (ex_store eok (T := 5) (b := kb) (o := i) (Q := Q) (Q' := Q) (v0 := v0) (us := [.int .u8 238]) (a := .rv 1000 fun _ => .pointer (some ⟨kb, i, none⟩)) (x := .int .u8 (.l 238)) (ti := ⟨.int .u8, 1, 1, [.int .u8 (.l 0)], [.bool fun _ => false]⟩) rfl rfl (by simp [Value.oneCell'])
        (fun η G w v hv => by simp only [SVRel, IE.den_l] at hv; subst hv; rfl) fun H hq hn => by
          obtain ⟨cs, q1, q2, q3⟩ := hQ H hq hn
          exact ⟨.inl rfl, 5, cs, q1, by rw [q2]; exact hlt, q3 _ (by simp; omega)⟩)
      have e4 : 0 + i * 1 = i := by omega
      simp only [e4] at r4
      clear h1
      cbv
      refine ⟨Unit, _, _, r4, ⟨by kernel_rfl⟩, fun _ => ⟨⟨by kernel_rfl⟩, ?_⟩⟩
      cbv
      refine ⟨Unit, _, _, r5, ⟨by kernel_rfl⟩, fun _ => ⟨⟨by kernel_rfl⟩, ?_⟩⟩
      cbv
      refine ⟨⟨bk⟩, i + 1, [(1000, some 1000)], hlt, hms, ⟨?_⟩, ⟨?_⟩⟩
      · kernel_rfl
      · cbv
        and_intros
        all_goals first | exact trivial | exact ⟨rfl⟩ | exact ⟨ek⟩ | exact ⟨rfl, fun _ _ _ h => h⟩ | exact ⟨by kernel_rfl⟩
    · intro h1
      clear h1
      cbv
      refine ⟨[(1000, some 1000)], [], ?_⟩
      cbv
      and_intros
      all_goals first | exact trivial | exact ⟨rfl⟩ | exact ⟨rfl, fun _ _ _ h => h⟩ | exact ⟨by kernel_rfl⟩

/-- What is lent, as blocks: the row as it was, each list's block as long as it was. -/
def Sh (L : List Slot) (b : Nat) (H : Mem) : Prop := (b, 74, L.flatMap Slot.cells ++ lastC) ∈ H ∧ ∀ t ∈ L, (∃ cs, (t.1, 5, cs) ∈ H ∧ cs.length = t.2.2.key.length + 2) ∧ ∃ cs, (t.2.1, 5, cs) ∈ H ∧ cs.length = t.2.2.val.length + 2
/-- The row is as long as it was. -/
def Sr (c b : Nat) (H : Mem) : Prop := ∃ cs, (b, 74, cs) ∈ H ∧ cs.length = c * 4

theorem Sh.put {L : List Slot} {b : Nat} {H : Mem} (h : Sh L b H) (hn : (H.map (·.1)).Nodup) {kb : Nat} {cs cs' : List Value} (hk : (kb, 5, cs) ∈ H) (hl : cs'.length = cs.length) : Sh L b (putB H kb cs') := by
  have room : ∀ {t n : Nat}, (∃ c2 : List Value, (t, 5, c2) ∈ H ∧ c2.length = n) → ∃ c2 : List Value, (t, 5, c2) ∈ putB H kb cs' ∧ c2.length = n := by
    rintro t n ⟨c2, h1, h2⟩
    by_cases e : t = kb
    · subst e
      have e2 := mem_eq hn h1 hk rfl
      simp only [Prod.mk.injEq, true_and] at e2
      exact ⟨cs', putB_mem hk, by rw [hl, ← e2, h2]⟩
    · exact ⟨c2, putB_other h1 e, h2⟩
  refine ⟨putB_other h.1 fun e => ?_, fun t ht => ⟨room (h.2 t ht).1, room (h.2 t ht).2⟩⟩
  have e2 := mem_eq hn h.1 hk e
  simp at e2
theorem Sh.row {L : List Slot} {b : Nat} {H : Mem} (h : Sh L b H) : Sr (L.length + 1) b H := ⟨_, h.1, by rw [List.length_append, cells_len]; simp [lastC]; omega⟩
theorem Sh.at {L : List Slot} {b : Nat} {H : Mem} (h : Sh L b H) {i j : Nat} (hi : i < L.length) (hj : j < 4) {u : Value} (hu : (Slot.cells (L.getD i default))[j]? = some u) : ∃ Tb cs, (b, Tb, cs) ∈ H ∧ cs[i * 4 + j]? = some u :=
  ⟨_, _, h.1, by rw [List.getElem?_append_left (by rw [cells_len]; omega), cells_at L i j hi hj, hu]⟩

def te5 : TI := ⟨.int .u8, 1, 1, [.int .u8 (.l 0)], [.bool fun _ => false]⟩

set_option maxRecDepth 20000 in
set_option maxHeartbeats 1000000 in
theorem con16m {L : List Slot} {b : Nat} (hL : L.length < 1000000000) (hs : ∀ t ∈ L, SmallE t.2.2) :
    Con 16 [.own 1000] [(1000, .cust none (fun _ => exΦ (.slice (some ⟨b, 0, none⟩) L.length (L.length + 1)) (Sh L b)))] (.tup []) [(1000, .dead)] := by
  obtain ⟨n, hn⟩ : ∃ n, n = L.length := ⟨_, rfl⟩
  obtain ⟨c, hc⟩ : ∃ c, c = L.length + 1 := ⟨_, rfl⟩
  obtain ⟨v0, hv0⟩ : ∃ v0, v0 = Value.slice (some ⟨b, 0, none⟩) n c := ⟨_, rfl⟩
  obtain ⟨i74, hi74, -⟩ := info74x
  rw [← hn] at hL
  have hv0' : Value.slice (some ⟨b, 0, none⟩) L.length (L.length + 1) = v0 := by rw [hv0, hn, hc]
  rw [hv0']
  have r1 := conG (ex_len (T := 22) (Q := Sh L b) (v0 := v0) (n := n) (c := c) (a := .own 1000) Try.underlying22 (.inr ⟨rfl, hv0.symm⟩))
  have r6 := conG (ex_cap (T := 22) (Q := Sh L b) (v0 := v0) (n := n) (c := c) (a := .own 1000) Try.underlying22 (.inr ⟨rfl, hv0.symm⟩))
  have r7 := conG (ex_cut (T := 22) (Q := Sh L b) (v0 := v0) (n := n) (c := c) (m := c) (zm := (c : Int)) (a := .own 1000) Try.underlying22 hi74 (.inr ⟨rfl, hv0.symm⟩) rfl (Nat.le_refl _))
  refine con_of Try.func16 rfl rfl 37 _ rfl rfl rfl rfl ?_
  cbv
  refine ⟨Nat, [1000], fun i => [(0, .own 1000), (2, .int .i64 (.s fun _ => (i : Int)))], fun i => [(1000, .cust none (fun _ => exΦ v0 (Sh L b)))], fun i => i ≤ n, fun i => n - i, 0, [(1000, some 1000)], Nat.zero_le _, ⟨?_⟩, fun i hx => ?_⟩
  · cbv
    and_intros
    all_goals first | exact trivial | exact ⟨rfl⟩ | exact ⟨rfl, fun _ _ _ h => h⟩ | exact ⟨by kernel_rfl⟩
  · have hi : i ≤ n := hx
    cbv
    refine ⟨Unit, _, _, r1, ⟨by kernel_rfl⟩, fun _ => ⟨⟨by kernel_rfl⟩, ?_⟩⟩
    cbv
    refine And.intro ?_ ?_
    · intro h1
      have h1 : (i : Int) < (n : Int) := of_decide_eq_true h1
      have hlt : i < n := by omega
      have bk : bound64 ((i : Int) + 1) := by unfold bound64; omega
      have ek : (i : Int) + 1 = ((i + 1 : Nat) : Int) := by omega
      have hms : n - (i + 1) < n - i := by omega
      have hltL : i < L.length := by omega
      have ht := getD_mem hltL
      obtain ⟨t, hte⟩ : ∃ t, t = L.getD i default := ⟨_, rfl⟩
      rw [← hte] at ht
      have hst := hs _ ht
      have r2 := conG (ex_idx eok (T := 22) (e := 74) (o := 0) (Q := Sh L b) (v0 := v0) (n := n) (c := c) (i := i) (z := (i : Int)) (a := .own 1000) Try.underlying22 rfl (.inr ⟨rfl, hv0.symm⟩) rfl hlt)
      have e4 : ∀ k, 0 + i * k = i * k := fun k => by omega
      simp only [e4] at r2
      have r3 := conG (ex_field eok (S := 74) (f := 0) (b := b) (o := i * 4) (Q := Sh L b) (v0 := v0) (off := 0) (a := .rv 1000 fun _ => .pointer (some ⟨b, i * 4, none⟩)) rfl rfl (by decide) (by decide) rfl (.inl rfl))
      have r4 := conG (ex_field eok (S := 74) (f := 1) (b := b) (o := i * 4) (Q := Sh L b) (v0 := v0) (off := 1) (a := .rv 1000 fun _ => .pointer (some ⟨b, i * 4, none⟩)) rfl rfl (by decide) (by decide) rfl (.inl rfl))
      have l3 := conG (ex_load eok (T := 27) (b := b) (o := i * 4 + 0) (Q := Sh L b) (v0 := v0) (u := .slice (some ⟨t.1, 0, none⟩) t.2.2.key.length (t.2.2.key.length + 2)) (a := .rv 1000 fun _ => .pointer (some ⟨b, i * 4 + 0, none⟩)) (r := .rv 1000 fun _ => .slice (some ⟨t.1, 0, none⟩) t.2.2.key.length (t.2.2.key.length + 2)) rfl rfl (fun H hq => ⟨.inl rfl, hq.at hltL (by omega) (by rw [← hte]; rfl)⟩) fun η G w => by simp [SVRel, Value.oneCell'])
      have l4 := conG (ex_load eok (T := 27) (b := b) (o := i * 4 + 1) (Q := Sh L b) (v0 := v0) (u := .slice (some ⟨t.2.1, 0, none⟩) t.2.2.val.length (t.2.2.val.length + 2)) (a := .rv 1000 fun _ => .pointer (some ⟨b, i * 4 + 1, none⟩)) (r := .rv 1000 fun _ => .slice (some ⟨t.2.1, 0, none⟩) t.2.2.val.length (t.2.2.val.length + 2)) rfl rfl (fun H hq => ⟨.inl rfl, hq.at hltL (by omega) (by rw [← hte]; rfl)⟩) fun η G w => by simp [SVRel, Value.oneCell'])
      have ck := con27 (kb := t.1) (n := t.2.2.key.length) (c := t.2.2.key.length + 2) (v0 := v0) (Q := Sh L b) (by have := hst.1; omega) fun H hq hn => by
        obtain ⟨cs, q1, q2⟩ := (hq.2 t ht).1
        exact ⟨cs, q1, q2, fun cs' h => hq.put hn q1 (by rw [h, q2])⟩
      have cv := con27 (kb := t.2.1) (n := t.2.2.val.length) (c := t.2.2.val.length + 2) (v0 := v0) (Q := Sh L b) (by have := hst.2; omega) fun H hq hn => by
        obtain ⟨cs, q1, q2⟩ := (hq.2 t ht).2
        exact ⟨cs, q1, q2, fun cs' h => hq.put hn q1 (by rw [h, q2])⟩
      clear h1 hte ht hst e4
      cbv
      refine ⟨Unit, _, _, r2, ⟨by kernel_rfl⟩, fun _ => ⟨⟨by kernel_rfl⟩, ?_⟩⟩
      cbv
      refine ⟨Unit, _, _, r3, ⟨by kernel_rfl⟩, fun _ => ⟨⟨by kernel_rfl⟩, ?_⟩⟩
      cbv
      refine ⟨Unit, _, _, l3, ⟨by kernel_rfl⟩, fun _ => ⟨⟨by kernel_rfl⟩, ?_⟩⟩
      cbv
      refine ⟨_, _, ck, ⟨?_⟩, ?_⟩
      · kernel_rfl
      cbv
      refine ⟨Unit, _, _, r2, ⟨by kernel_rfl⟩, fun _ => ⟨⟨by kernel_rfl⟩, ?_⟩⟩
      cbv
      refine ⟨Unit, _, _, r4, ⟨by kernel_rfl⟩, fun _ => ⟨⟨by kernel_rfl⟩, ?_⟩⟩
      cbv
      refine ⟨Unit, _, _, l4, ⟨by kernel_rfl⟩, fun _ => ⟨⟨by kernel_rfl⟩, ?_⟩⟩
      cbv
      refine ⟨_, _, cv, ⟨?_⟩, ?_⟩
      · kernel_rfl
      cbv
      refine ⟨⟨bk⟩, i + 1, [(1000, some 1000)], hlt, hms, ⟨?_⟩, ⟨?_⟩⟩
      · kernel_rfl
      · cbv
        and_intros
        all_goals first | exact trivial | exact ⟨rfl⟩ | exact ⟨ek⟩ | exact ⟨rfl, fun _ _ _ h => h⟩ | exact ⟨by kernel_rfl⟩
    · intro h1
      clear h1
      cbv
      refine ⟨Unit, _, _, r6, ⟨by kernel_rfl⟩, fun _ => ⟨⟨by kernel_rfl⟩, ?_⟩⟩
      cbv
      refine ⟨Unit, _, _, r7, ⟨by kernel_rfl⟩, fun _ => ⟨⟨by kernel_rfl⟩, ?_⟩⟩
      cbv
      refine ⟨Nat, [1000], fun i => [(3, .rv 1000 fun _ => .slice (some ⟨b, 0, none⟩) c c), (4, .int .i64 (.s fun _ => (i : Int)))], fun i => [(1000, .cust none (fun _ => exΦ v0 (Sr c b)))], fun i => i ≤ c, fun i => c - i, 0, [(1000, some 1000)], Nat.zero_le _, ⟨?_⟩, fun i hx => ?_⟩
      · have hsr : ∀ w v B, exΦ v0 (Sh L b) w v B → exΦ v0 (Sr c b) w v B := fun w v B ⟨H, h1, h2⟩ => ⟨H, by rw [hc]; exact h1.row, h2⟩
        cbv
        and_intros
        all_goals first | exact trivial | exact ⟨rfl⟩ | exact ⟨rfl, hsr⟩ | exact ⟨by kernel_rfl⟩
      · have hi : i ≤ c := hx
        have r1 := conG (ex_len (T := 22) (Q := Sr c b) (v0 := v0) (n := c) (c := c) (a := .rv 1000 fun _ => .slice (some ⟨b, 0, none⟩) c c) Try.underlying22 (.inl rfl))
        cbv
        refine ⟨Unit, _, _, r1, ⟨by kernel_rfl⟩, fun _ => ⟨⟨by kernel_rfl⟩, ?_⟩⟩
        cbv
        refine And.intro ?_ ?_
        · intro h1
          have h1 : (i : Int) < (c : Int) := of_decide_eq_true h1
          have hlt : i < c := by omega
          have bk : bound64 ((i : Int) + 1) := by unfold bound64; omega
          have ek : (i : Int) + 1 = ((i + 1 : Nat) : Int) := by omega
          have hms : c - (i + 1) < c - i := by omega
          have r2 := conG (ex_idx eok (T := 22) (e := 74) (o := 0) (Q := Sr c b) (v0 := v0) (n := c) (c := c) (i := i) (z := (i : Int)) (a := .rv 1000 fun _ => .slice (some ⟨b, 0, none⟩) c c) Try.underlying22 rfl (.inl rfl) rfl hlt)
          have e4 : ∀ k, 0 + i * k = i * k := fun k => by omega
          simp only [e4] at r2
          have r5 := conG (ex_store eok (T := 74) (b := b) (o := i * 4) (Q := Sr c b) (Q' := Sr c b) (v0 := v0) (us := [.slice none 0 0, .slice none 0 0, .int .u32 0, .int .u32 0]) (a := .rv 1000 fun _ => .pointer (some ⟨b, i * 4, none⟩)) (x := .agg [.nil, .nil, .int .u32 (.l 0), .int .u32 (.l 0)]) rfl rfl (by simp [Value.oneCell'])
            (fun η G w v hv => by
              obtain ⟨vs, rfl, hv⟩ := hv
              match vs, hv with
              | [u1, u2, u3, u4], hv =>
                simp only [SVRels, SVRel, IE.den_l] at hv
                obtain ⟨rfl, rfl, rfl, rfl, -⟩ := hv
                rfl
              | [], h => exact h.elim
              | [_], h => exact h.2.elim
              | [_, _], h => exact h.2.2.elim
              | [_, _, _], h => exact h.2.2.2.elim
              | _ :: _ :: _ :: _ :: _ :: _, h => exact h.2.2.2.2.elim) fun H hq hn => by
            obtain ⟨cs, q1, q2⟩ := hq
            exact ⟨.inl rfl, 74, cs, q1, by rw [q2]; simp; omega, _, putB_mem q1, by simp; omega⟩)
          clear h1 e4
          cbv
          refine ⟨Unit, _, _, r2, ⟨by kernel_rfl⟩, fun _ => ⟨⟨by kernel_rfl⟩, ?_⟩⟩
          cbv
          refine ⟨Unit, _, _, r5, ⟨by kernel_rfl⟩, fun _ => ⟨⟨by kernel_rfl⟩, ?_⟩⟩
          cbv
          refine ⟨⟨bk⟩, i + 1, [(1000, some 1000)], hlt, hms, ⟨?_⟩, ⟨?_⟩⟩
          · kernel_rfl
          · cbv
            and_intros
            all_goals first | exact trivial | exact ⟨rfl⟩ | exact ⟨ek⟩ | exact ⟨rfl, fun _ _ _ h => h⟩ | exact ⟨by kernel_rfl⟩
        · intro h1
          clear h1
          cbv
          refine ⟨[(1000, some 1000)], [], ?_⟩
          cbv
          and_intros
          all_goals first | exact trivial | exact ⟨rfl⟩ | exact ⟨rfl, fun _ _ _ h => h⟩ | exact ⟨by kernel_rfl⟩

def memL (b : Nat) (L : List Slot) : Mem := (b, 74, L.flatMap Slot.cells ++ lastC) :: L.flatMap fun t => [(t.1, 5, roomC t.2.2.key), (t.2.1, 5, roomC t.2.2.val)]
theorem memL_names (b : Nat) (L : List Slot) : (memL b L).map (·.1) = b :: L.flatMap Slot.blks := by
  simp only [memL, List.map_cons, List.map_flatMap]; rfl
theorem memL_sh (b : Nat) (L : List Slot) : Sh L b (memL b L) :=
  ⟨by simp [memL], fun t ht => ⟨⟨roomC t.2.2.key, List.mem_cons_of_mem _ (List.mem_flatMap.2 ⟨t, ht, by simp⟩), by simp [roomC]⟩, roomC t.2.2.val, List.mem_cons_of_mem _ (List.mem_flatMap.2 ⟨t, ht, by simp⟩), by simp [roomC]⟩⟩
theorem LentAt.mem {es : List Ent} {w : World} {v : Value} {B : List Nat} {b : Nat} {L : List Slot} (h : LentAt es es.length (es.length + 1) lastC w v B b L) : memΦ v (memL b L) w v B := by
  refine ⟨rfl, by rw [memL_names]; exact h.hB, h.nd, fun p hp => ?_⟩
  rcases List.mem_cons.1 hp with rfl | hp
  · exact h.row
  · obtain ⟨t, ht, hp⟩ := List.mem_flatMap.1 hp
    simp at hp
    rcases hp with rfl | rfl
    · exact (h.rooms t ht).1
    · exact (h.rooms t ht).2

/-- What is lent is written over. -/
theorem con16 {es : List Ent} (hs : ∀ e ∈ es, SmallE e) (hl : es.length < 1000000000) : Con 16 [.own 1000] [(1000, .cust (some (lentDV es)) (fun _ => lentΦ es))] (.tup []) [(1000, .dead)] := by
  refine ⟨specX_conv (Y := Nat × List Slot) (F := fun y => y.2.map (·.2.2) = es) (X' := fun y => .cust none (fun _ => exΦ (.slice (some ⟨y.1, 0, none⟩) y.2.length (y.2.length + 1)) (Sh y.2 y.1))) (fun η G w o ho => ?_) fun y hy => ?_⟩
  · obtain ⟨h1, h2, h3⟩ := ho
    obtain ⟨b, L, hat⟩ := (h3 w fun _ _ => rfl).1
    have hlL : L.length = es.length := by have := congrArg List.length hat.hes; simpa using this
    refine ⟨(b, L), hat.hes, h1, h2, fun w' hw' => ⟨⟨memL b L, memL_sh b L, ?_, ?_⟩, fun x hx => by cases hx⟩⟩
    · rw [memL_names, ← hat.hB]; exact hat.nd
    · have := (hat.keep hw').mem
      have hv := hat.hv
      rw [← hlL] at hv
      rw [hv] at this ⊢
      exact this
  · obtain ⟨b, L⟩ := y
    have hy : L.map (·.2.2) = es := hy
    subst hy
    exact (con16m (L := L) (b := b) (by simpa using hl) fun t ht => hs _ (List.mem_map.2 ⟨t, ht, rfl⟩)).spec
end Go.Proofs.Ytmdfjipjkkjpcaa

/- Nothing is owned: no lists were put down. -/
namespace Go.Proofs.Ytmdfjipjkkjpcaa
open Go.SX

theorem lt_self0 (h : decide ((0 : Int) < 0) = true) : False := by simp at h

set_option maxRecDepth 20000 in
set_option maxHeartbeats 400000 in
theorem con50 : Con 50 [.nil] [] (.bool .t) [] := by
  refine con_of Try.func50 rfl rfl 120 _ rfl rfl rfl rfl ?_
  cbv
  refine ⟨Unit, [], fun _ => [(3, .int .i64 (.l 0))], fun _ => [], fun _ => True, fun _ => 0, (), [], trivial, ⟨?_⟩, fun _ _ => ?_⟩
  · cbv
    and_intros
    all_goals first | exact trivial | exact ⟨rfl⟩ | exact ⟨by kernel_rfl⟩
  cbv
  refine And.intro ?_ ?_
  · intro h
    exact False.elim (lt_self0 h)
  intro h
  clear h
  cbv
  refine ⟨Unit, [], fun _ => [(6, .int .i64 (.l 0))], fun _ => [], fun _ => True, fun _ => 0, (), [], trivial, ⟨?_⟩, fun _ _ => ?_⟩
  · cbv
    and_intros
    all_goals first | exact trivial | exact ⟨rfl⟩ | exact ⟨by kernel_rfl⟩
  cbv
  refine And.intro ?_ ?_
  · intro h
    exact False.elim (lt_self0 h)
  intro h
  clear h
  cbv
  refine ⟨Unit, [], fun _ => [(9, .int .i64 (.l 0))], fun _ => [], fun _ => True, fun _ => 0, (), [], trivial, ⟨?_⟩, fun _ _ => ?_⟩
  · cbv
    and_intros
    all_goals first | exact trivial | exact ⟨rfl⟩ | exact ⟨by kernel_rfl⟩
  cbv
  refine And.intro ?_ ?_
  · intro h
    exact False.elim (lt_self0 h)
  intro h
  clear h
  cbv
  refine ⟨[], [], ?_⟩
  cbv
  and_intros
  all_goals first | exact trivial | exact ⟨rfl⟩ | exact ⟨by kernel_rfl⟩

set_option maxRecDepth 20000 in
set_option maxHeartbeats 400000 in
theorem con51 : Con 51 [.nil] [] (.bool .t) [] := by
  refine con_of Try.func51 rfl rfl 125 _ rfl rfl rfl rfl ?_
  cbv
  refine ⟨Unit, [], fun _ => [(3, .int .i64 (.l 0))], fun _ => [], fun _ => True, fun _ => 0, (), [], trivial, ⟨?_⟩, fun _ _ => ?_⟩
  · cbv
    and_intros
    all_goals first | exact trivial | exact ⟨rfl⟩ | exact ⟨by kernel_rfl⟩
  cbv
  refine And.intro ?_ ?_
  · intro h
    exact False.elim (lt_self0 h)
  intro h
  clear h
  cbv
  refine ⟨Unit, [], fun _ => [(6, .int .i64 (.l 0))], fun _ => [], fun _ => True, fun _ => 0, (), [], trivial, ⟨?_⟩, fun _ _ => ?_⟩
  · cbv
    and_intros
    all_goals first | exact trivial | exact ⟨rfl⟩ | exact ⟨by kernel_rfl⟩
  cbv
  refine And.intro ?_ ?_
  · intro h
    exact False.elim (lt_self0 h)
  intro h
  clear h
  cbv
  refine ⟨Unit, [], fun _ => [(9, .int .i64 (.l 0))], fun _ => [], fun _ => True, fun _ => 0, (), [], trivial, ⟨?_⟩, fun _ _ => ?_⟩
  · cbv
    and_intros
    all_goals first | exact trivial | exact ⟨rfl⟩ | exact ⟨by kernel_rfl⟩
  cbv
  refine And.intro ?_ ?_
  · intro h
    exact False.elim (lt_self0 h)
  intro h
  clear h
  cbv
  refine ⟨[], [], ?_⟩
  cbv
  and_intros
  all_goals first | exact trivial | exact ⟨rfl⟩ | exact ⟨by kernel_rfl⟩

set_option maxRecDepth 20000 in
set_option maxHeartbeats 400000 in
theorem con52 : Con 52 [.nil] [] (.bool .t) [] := by
  refine con_of Try.func52 rfl rfl 125 _ rfl rfl rfl rfl ?_
  cbv
  refine ⟨Unit, [], fun _ => [(3, .int .i64 (.l 0))], fun _ => [], fun _ => True, fun _ => 0, (), [], trivial, ⟨?_⟩, fun _ _ => ?_⟩
  · cbv
    and_intros
    all_goals first | exact trivial | exact ⟨rfl⟩ | exact ⟨by kernel_rfl⟩
  cbv
  refine And.intro ?_ ?_
  · intro h
    exact False.elim (lt_self0 h)
  intro h
  clear h
  cbv
  refine ⟨Unit, [], fun _ => [(6, .int .i64 (.l 0))], fun _ => [], fun _ => True, fun _ => 0, (), [], trivial, ⟨?_⟩, fun _ _ => ?_⟩
  · cbv
    and_intros
    all_goals first | exact trivial | exact ⟨rfl⟩ | exact ⟨by kernel_rfl⟩
  cbv
  refine And.intro ?_ ?_
  · intro h
    exact False.elim (lt_self0 h)
  intro h
  clear h
  cbv
  refine ⟨Unit, [], fun _ => [(9, .int .i64 (.l 0))], fun _ => [], fun _ => True, fun _ => 0, (), [], trivial, ⟨?_⟩, fun _ _ => ?_⟩
  · cbv
    and_intros
    all_goals first | exact trivial | exact ⟨rfl⟩ | exact ⟨by kernel_rfl⟩
  cbv
  refine And.intro ?_ ?_
  · intro h
    exact False.elim (lt_self0 h)
  intro h
  clear h
  cbv
  refine ⟨[], [], ?_⟩
  cbv
  and_intros
  all_goals first | exact trivial | exact ⟨rfl⟩ | exact ⟨by kernel_rfl⟩

set_option maxRecDepth 20000 in
set_option maxHeartbeats 400000 in
theorem con53 : Con 53 [.nil] [] (.bool .t) [] := by
  refine con_of Try.func53 rfl rfl 135 _ rfl rfl rfl rfl ?_
  cbv
  refine ⟨Unit, [], fun _ => [(3, .int .i64 (.l 0))], fun _ => [], fun _ => True, fun _ => 0, (), [], trivial, ⟨?_⟩, fun _ _ => ?_⟩
  · cbv
    and_intros
    all_goals first | exact trivial | exact ⟨rfl⟩ | exact ⟨by kernel_rfl⟩
  cbv
  refine And.intro ?_ ?_
  · intro h
    exact False.elim (lt_self0 h)
  intro h
  clear h
  cbv
  refine ⟨Unit, [], fun _ => [(6, .int .i64 (.l 0))], fun _ => [], fun _ => True, fun _ => 0, (), [], trivial, ⟨?_⟩, fun _ _ => ?_⟩
  · cbv
    and_intros
    all_goals first | exact trivial | exact ⟨rfl⟩ | exact ⟨by kernel_rfl⟩
  cbv
  refine And.intro ?_ ?_
  · intro h
    exact False.elim (lt_self0 h)
  intro h
  clear h
  cbv
  refine ⟨Unit, [], fun _ => [(9, .int .i64 (.l 0))], fun _ => [], fun _ => True, fun _ => 0, (), [], trivial, ⟨?_⟩, fun _ _ => ?_⟩
  · cbv
    and_intros
    all_goals first | exact trivial | exact ⟨rfl⟩ | exact ⟨by kernel_rfl⟩
  cbv
  refine And.intro ?_ ?_
  · intro h
    exact False.elim (lt_self0 h)
  intro h
  clear h
  cbv
  refine ⟨[], [], ?_⟩
  cbv
  and_intros
  all_goals first | exact trivial | exact ⟨rfl⟩ | exact ⟨by kernel_rfl⟩

set_option maxRecDepth 20000 in
set_option maxHeartbeats 400000 in
theorem con54 : Con 54 [.nil] [] (.bool .t) [] := by
  refine con_of Try.func54 rfl rfl 135 _ rfl rfl rfl rfl ?_
  cbv
  refine ⟨Unit, [], fun _ => [(3, .int .i64 (.l 0))], fun _ => [], fun _ => True, fun _ => 0, (), [], trivial, ⟨?_⟩, fun _ _ => ?_⟩
  · cbv
    and_intros
    all_goals first | exact trivial | exact ⟨rfl⟩ | exact ⟨by kernel_rfl⟩
  cbv
  refine And.intro ?_ ?_
  · intro h
    exact False.elim (lt_self0 h)
  intro h
  clear h
  cbv
  refine ⟨Unit, [], fun _ => [(6, .int .i64 (.l 0))], fun _ => [], fun _ => True, fun _ => 0, (), [], trivial, ⟨?_⟩, fun _ _ => ?_⟩
  · cbv
    and_intros
    all_goals first | exact trivial | exact ⟨rfl⟩ | exact ⟨by kernel_rfl⟩
  cbv
  refine And.intro ?_ ?_
  · intro h
    exact False.elim (lt_self0 h)
  intro h
  clear h
  cbv
  refine ⟨Unit, [], fun _ => [(9, .int .i64 (.l 0))], fun _ => [], fun _ => True, fun _ => 0, (), [], trivial, ⟨?_⟩, fun _ _ => ?_⟩
  · cbv
    and_intros
    all_goals first | exact trivial | exact ⟨rfl⟩ | exact ⟨by kernel_rfl⟩
  cbv
  refine And.intro ?_ ?_
  · intro h
    exact False.elim (lt_self0 h)
  intro h
  clear h
  cbv
  refine ⟨[], [], ?_⟩
  cbv
  and_intros
  all_goals first | exact trivial | exact ⟨rfl⟩ | exact ⟨by kernel_rfl⟩

set_option maxRecDepth 20000 in
set_option maxHeartbeats 400000 in
theorem con55 : Con 55 [.nil] [] (.bool .t) [] := by
  refine con_of Try.func55 rfl rfl 130 _ rfl rfl rfl rfl ?_
  cbv
  refine ⟨Unit, [], fun _ => [(3, .int .i64 (.l 0))], fun _ => [], fun _ => True, fun _ => 0, (), [], trivial, ⟨?_⟩, fun _ _ => ?_⟩
  · cbv
    and_intros
    all_goals first | exact trivial | exact ⟨rfl⟩ | exact ⟨by kernel_rfl⟩
  cbv
  refine And.intro ?_ ?_
  · intro h
    exact False.elim (lt_self0 h)
  intro h
  clear h
  cbv
  refine ⟨Unit, [], fun _ => [(6, .int .i64 (.l 0))], fun _ => [], fun _ => True, fun _ => 0, (), [], trivial, ⟨?_⟩, fun _ _ => ?_⟩
  · cbv
    and_intros
    all_goals first | exact trivial | exact ⟨rfl⟩ | exact ⟨by kernel_rfl⟩
  cbv
  refine And.intro ?_ ?_
  · intro h
    exact False.elim (lt_self0 h)
  intro h
  clear h
  cbv
  refine ⟨Unit, [], fun _ => [(9, .int .i64 (.l 0))], fun _ => [], fun _ => True, fun _ => 0, (), [], trivial, ⟨?_⟩, fun _ _ => ?_⟩
  · cbv
    and_intros
    all_goals first | exact trivial | exact ⟨rfl⟩ | exact ⟨by kernel_rfl⟩
  cbv
  refine And.intro ?_ ?_
  · intro h
    exact False.elim (lt_self0 h)
  intro h
  clear h
  cbv
  refine ⟨[], [], ?_⟩
  cbv
  and_intros
  all_goals first | exact trivial | exact ⟨rfl⟩ | exact ⟨by kernel_rfl⟩

set_option maxRecDepth 20000 in
set_option maxHeartbeats 400000 in
theorem con56 : Con 56 [.nil] [] (.bool .t) [] := by
  refine con_of Try.func56 rfl rfl 125 _ rfl rfl rfl rfl ?_
  cbv
  refine ⟨Unit, [], fun _ => [(3, .int .i64 (.l 0))], fun _ => [], fun _ => True, fun _ => 0, (), [], trivial, ⟨?_⟩, fun _ _ => ?_⟩
  · cbv
    and_intros
    all_goals first | exact trivial | exact ⟨rfl⟩ | exact ⟨by kernel_rfl⟩
  cbv
  refine And.intro ?_ ?_
  · intro h
    exact False.elim (lt_self0 h)
  intro h
  clear h
  cbv
  refine ⟨Unit, [], fun _ => [(6, .int .i64 (.l 0))], fun _ => [], fun _ => True, fun _ => 0, (), [], trivial, ⟨?_⟩, fun _ _ => ?_⟩
  · cbv
    and_intros
    all_goals first | exact trivial | exact ⟨rfl⟩ | exact ⟨by kernel_rfl⟩
  cbv
  refine And.intro ?_ ?_
  · intro h
    exact False.elim (lt_self0 h)
  intro h
  clear h
  cbv
  refine ⟨Unit, [], fun _ => [(9, .int .i64 (.l 0))], fun _ => [], fun _ => True, fun _ => 0, (), [], trivial, ⟨?_⟩, fun _ _ => ?_⟩
  · cbv
    and_intros
    all_goals first | exact trivial | exact ⟨rfl⟩ | exact ⟨by kernel_rfl⟩
  cbv
  refine And.intro ?_ ?_
  · intro h
    exact False.elim (lt_self0 h)
  intro h
  clear h
  cbv
  refine ⟨[], [], ?_⟩
  cbv
  and_intros
  all_goals first | exact trivial | exact ⟨rfl⟩ | exact ⟨by kernel_rfl⟩

set_option maxRecDepth 20000 in
set_option maxHeartbeats 400000 in
theorem con57 : Con 57 [.nil] [] (.bool .t) [] := by
  refine con_of Try.func57 rfl rfl 130 _ rfl rfl rfl rfl ?_
  cbv
  refine ⟨Unit, [], fun _ => [(3, .int .i64 (.l 0))], fun _ => [], fun _ => True, fun _ => 0, (), [], trivial, ⟨?_⟩, fun _ _ => ?_⟩
  · cbv
    and_intros
    all_goals first | exact trivial | exact ⟨rfl⟩ | exact ⟨by kernel_rfl⟩
  cbv
  refine And.intro ?_ ?_
  · intro h
    exact False.elim (lt_self0 h)
  intro h
  clear h
  cbv
  refine ⟨Unit, [], fun _ => [(6, .int .i64 (.l 0))], fun _ => [], fun _ => True, fun _ => 0, (), [], trivial, ⟨?_⟩, fun _ _ => ?_⟩
  · cbv
    and_intros
    all_goals first | exact trivial | exact ⟨rfl⟩ | exact ⟨by kernel_rfl⟩
  cbv
  refine And.intro ?_ ?_
  · intro h
    exact False.elim (lt_self0 h)
  intro h
  clear h
  cbv
  refine ⟨Unit, [], fun _ => [(9, .int .i64 (.l 0))], fun _ => [], fun _ => True, fun _ => 0, (), [], trivial, ⟨?_⟩, fun _ _ => ?_⟩
  · cbv
    and_intros
    all_goals first | exact trivial | exact ⟨rfl⟩ | exact ⟨by kernel_rfl⟩
  cbv
  refine And.intro ?_ ?_
  · intro h
    exact False.elim (lt_self0 h)
  intro h
  clear h
  cbv
  refine ⟨[], [], ?_⟩
  cbv
  and_intros
  all_goals first | exact trivial | exact ⟨rfl⟩ | exact ⟨by kernel_rfl⟩

set_option maxRecDepth 20000 in
set_option maxHeartbeats 400000 in
theorem con58 : Con 58 [.nil] [] (.bool .t) [] := by
  refine con_of Try.func58 rfl rfl 178 _ rfl rfl rfl rfl ?_
  cbv
  refine ⟨Unit, [], fun _ => [(3, .int .i64 (.l 0))], fun _ => [], fun _ => True, fun _ => 0, (), [], trivial, ⟨?_⟩, fun _ _ => ?_⟩
  · cbv
    and_intros
    all_goals first | exact trivial | exact ⟨rfl⟩ | exact ⟨by kernel_rfl⟩
  cbv
  refine And.intro ?_ ?_
  · intro h
    exact False.elim (lt_self0 h)
  intro h
  clear h
  cbv
  refine ⟨Unit, [], fun _ => [(6, .int .i64 (.l 0))], fun _ => [], fun _ => True, fun _ => 0, (), [], trivial, ⟨?_⟩, fun _ _ => ?_⟩
  · cbv
    and_intros
    all_goals first | exact trivial | exact ⟨rfl⟩ | exact ⟨by kernel_rfl⟩
  cbv
  refine And.intro ?_ ?_
  · intro h
    exact False.elim (lt_self0 h)
  intro h
  clear h
  cbv
  refine ⟨Unit, [], fun _ => [(9, .int .i64 (.l 0))], fun _ => [], fun _ => True, fun _ => 0, (), [], trivial, ⟨?_⟩, fun _ _ => ?_⟩
  · cbv
    and_intros
    all_goals first | exact trivial | exact ⟨rfl⟩ | exact ⟨by kernel_rfl⟩
  cbv
  refine And.intro ?_ ?_
  · intro h
    exact False.elim (lt_self0 h)
  intro h
  clear h
  cbv
  refine ⟨[], [], ?_⟩
  cbv
  and_intros
  all_goals first | exact trivial | exact ⟨rfl⟩ | exact ⟨by kernel_rfl⟩

set_option maxRecDepth 20000 in
set_option maxHeartbeats 400000 in
theorem con59 : Con 59 [.nil] [] (.bool .t) [] := by
  refine con_of Try.func59 rfl rfl 163 _ rfl rfl rfl rfl ?_
  cbv
  refine ⟨Unit, [], fun _ => [(3, .int .i64 (.l 0))], fun _ => [], fun _ => True, fun _ => 0, (), [], trivial, ⟨?_⟩, fun _ _ => ?_⟩
  · cbv
    and_intros
    all_goals first | exact trivial | exact ⟨rfl⟩ | exact ⟨by kernel_rfl⟩
  cbv
  refine And.intro ?_ ?_
  · intro h
    exact False.elim (lt_self0 h)
  intro h
  clear h
  cbv
  refine ⟨Unit, [], fun _ => [(6, .int .i64 (.l 0))], fun _ => [], fun _ => True, fun _ => 0, (), [], trivial, ⟨?_⟩, fun _ _ => ?_⟩
  · cbv
    and_intros
    all_goals first | exact trivial | exact ⟨rfl⟩ | exact ⟨by kernel_rfl⟩
  cbv
  refine And.intro ?_ ?_
  · intro h
    exact False.elim (lt_self0 h)
  intro h
  clear h
  cbv
  refine ⟨Unit, [], fun _ => [(9, .int .i64 (.l 0))], fun _ => [], fun _ => True, fun _ => 0, (), [], trivial, ⟨?_⟩, fun _ _ => ?_⟩
  · cbv
    and_intros
    all_goals first | exact trivial | exact ⟨rfl⟩ | exact ⟨by kernel_rfl⟩
  cbv
  refine And.intro ?_ ?_
  · intro h
    exact False.elim (lt_self0 h)
  intro h
  clear h
  cbv
  refine ⟨[], [], ?_⟩
  cbv
  and_intros
  all_goals first | exact trivial | exact ⟨rfl⟩ | exact ⟨by kernel_rfl⟩

set_option maxRecDepth 20000 in
set_option maxHeartbeats 400000 in
theorem con60 : Con 60 [.nil] [] (.bool .t) [] := by
  refine con_of Try.func60 rfl rfl 168 _ rfl rfl rfl rfl ?_
  cbv
  refine ⟨Unit, [], fun _ => [(3, .int .i64 (.l 0))], fun _ => [], fun _ => True, fun _ => 0, (), [], trivial, ⟨?_⟩, fun _ _ => ?_⟩
  · cbv
    and_intros
    all_goals first | exact trivial | exact ⟨rfl⟩ | exact ⟨by kernel_rfl⟩
  cbv
  refine And.intro ?_ ?_
  · intro h
    exact False.elim (lt_self0 h)
  intro h
  clear h
  cbv
  refine ⟨Unit, [], fun _ => [(6, .int .i64 (.l 0))], fun _ => [], fun _ => True, fun _ => 0, (), [], trivial, ⟨?_⟩, fun _ _ => ?_⟩
  · cbv
    and_intros
    all_goals first | exact trivial | exact ⟨rfl⟩ | exact ⟨by kernel_rfl⟩
  cbv
  refine And.intro ?_ ?_
  · intro h
    exact False.elim (lt_self0 h)
  intro h
  clear h
  cbv
  refine ⟨Unit, [], fun _ => [(9, .int .i64 (.l 0))], fun _ => [], fun _ => True, fun _ => 0, (), [], trivial, ⟨?_⟩, fun _ _ => ?_⟩
  · cbv
    and_intros
    all_goals first | exact trivial | exact ⟨rfl⟩ | exact ⟨by kernel_rfl⟩
  cbv
  refine And.intro ?_ ?_
  · intro h
    exact False.elim (lt_self0 h)
  intro h
  clear h
  cbv
  refine ⟨[], [], ?_⟩
  cbv
  and_intros
  all_goals first | exact trivial | exact ⟨rfl⟩ | exact ⟨by kernel_rfl⟩

set_option maxRecDepth 20000 in
set_option maxHeartbeats 400000 in
theorem con61 : Con 61 [.nil] [] (.bool .t) [] := by
  refine con_of Try.func61 rfl rfl 173 _ rfl rfl rfl rfl ?_
  cbv
  refine ⟨Unit, [], fun _ => [(3, .int .i64 (.l 0))], fun _ => [], fun _ => True, fun _ => 0, (), [], trivial, ⟨?_⟩, fun _ _ => ?_⟩
  · cbv
    and_intros
    all_goals first | exact trivial | exact ⟨rfl⟩ | exact ⟨by kernel_rfl⟩
  cbv
  refine And.intro ?_ ?_
  · intro h
    exact False.elim (lt_self0 h)
  intro h
  clear h
  cbv
  refine ⟨Unit, [], fun _ => [(6, .int .i64 (.l 0))], fun _ => [], fun _ => True, fun _ => 0, (), [], trivial, ⟨?_⟩, fun _ _ => ?_⟩
  · cbv
    and_intros
    all_goals first | exact trivial | exact ⟨rfl⟩ | exact ⟨by kernel_rfl⟩
  cbv
  refine And.intro ?_ ?_
  · intro h
    exact False.elim (lt_self0 h)
  intro h
  clear h
  cbv
  refine ⟨Unit, [], fun _ => [(9, .int .i64 (.l 0))], fun _ => [], fun _ => True, fun _ => 0, (), [], trivial, ⟨?_⟩, fun _ _ => ?_⟩
  · cbv
    and_intros
    all_goals first | exact trivial | exact ⟨rfl⟩ | exact ⟨by kernel_rfl⟩
  cbv
  refine And.intro ?_ ?_
  · intro h
    exact False.elim (lt_self0 h)
  intro h
  clear h
  cbv
  refine ⟨[], [], ?_⟩
  cbv
  and_intros
  all_goals first | exact trivial | exact ⟨rfl⟩ | exact ⟨by kernel_rfl⟩

set_option maxRecDepth 20000 in
set_option maxHeartbeats 400000 in
theorem con62 : Con 62 [.nil] [] (.bool .t) [] := by
  refine con_of Try.func62 rfl rfl 186 _ rfl rfl rfl rfl ?_
  cbv
  refine ⟨Unit, [], fun _ => [(3, .int .i64 (.l 0))], fun _ => [], fun _ => True, fun _ => 0, (), [], trivial, ⟨?_⟩, fun _ _ => ?_⟩
  · cbv
    and_intros
    all_goals first | exact trivial | exact ⟨rfl⟩ | exact ⟨by kernel_rfl⟩
  cbv
  refine And.intro ?_ ?_
  · intro h
    exact False.elim (lt_self0 h)
  intro h
  clear h
  cbv
  refine ⟨Unit, [], fun _ => [(6, .int .i64 (.l 0))], fun _ => [], fun _ => True, fun _ => 0, (), [], trivial, ⟨?_⟩, fun _ _ => ?_⟩
  · cbv
    and_intros
    all_goals first | exact trivial | exact ⟨rfl⟩ | exact ⟨by kernel_rfl⟩
  cbv
  refine And.intro ?_ ?_
  · intro h
    exact False.elim (lt_self0 h)
  intro h
  clear h
  cbv
  refine ⟨Unit, [], fun _ => [(9, .int .i64 (.l 0))], fun _ => [], fun _ => True, fun _ => 0, (), [], trivial, ⟨?_⟩, fun _ _ => ?_⟩
  · cbv
    and_intros
    all_goals first | exact trivial | exact ⟨rfl⟩ | exact ⟨by kernel_rfl⟩
  cbv
  refine And.intro ?_ ?_
  · intro h
    exact False.elim (lt_self0 h)
  intro h
  clear h
  cbv
  refine ⟨[], [], ?_⟩
  cbv
  and_intros
  all_goals first | exact trivial | exact ⟨rfl⟩ | exact ⟨by kernel_rfl⟩

set_option maxRecDepth 20000 in
set_option maxHeartbeats 400000 in
theorem con63 : Con 63 [.nil] [] (.bool .t) [] := by
  refine con_of Try.func63 rfl rfl 186 _ rfl rfl rfl rfl ?_
  cbv
  refine ⟨Unit, [], fun _ => [(3, .int .i64 (.l 0))], fun _ => [], fun _ => True, fun _ => 0, (), [], trivial, ⟨?_⟩, fun _ _ => ?_⟩
  · cbv
    and_intros
    all_goals first | exact trivial | exact ⟨rfl⟩ | exact ⟨by kernel_rfl⟩
  cbv
  refine And.intro ?_ ?_
  · intro h
    exact False.elim (lt_self0 h)
  intro h
  clear h
  cbv
  refine ⟨Unit, [], fun _ => [(6, .int .i64 (.l 0))], fun _ => [], fun _ => True, fun _ => 0, (), [], trivial, ⟨?_⟩, fun _ _ => ?_⟩
  · cbv
    and_intros
    all_goals first | exact trivial | exact ⟨rfl⟩ | exact ⟨by kernel_rfl⟩
  cbv
  refine And.intro ?_ ?_
  · intro h
    exact False.elim (lt_self0 h)
  intro h
  clear h
  cbv
  refine ⟨Unit, [], fun _ => [(9, .int .i64 (.l 0))], fun _ => [], fun _ => True, fun _ => 0, (), [], trivial, ⟨?_⟩, fun _ _ => ?_⟩
  · cbv
    and_intros
    all_goals first | exact trivial | exact ⟨rfl⟩ | exact ⟨by kernel_rfl⟩
  cbv
  refine And.intro ?_ ?_
  · intro h
    exact False.elim (lt_self0 h)
  intro h
  clear h
  cbv
  refine ⟨[], [], ?_⟩
  cbv
  and_intros
  all_goals first | exact trivial | exact ⟨rfl⟩ | exact ⟨by kernel_rfl⟩

set_option maxRecDepth 20000 in
set_option maxHeartbeats 400000 in
theorem con64 : Con 64 [.nil] [] (.bool .t) [] := by
  refine con_of Try.func64 rfl rfl 186 _ rfl rfl rfl rfl ?_
  cbv
  refine ⟨Unit, [], fun _ => [(3, .int .i64 (.l 0))], fun _ => [], fun _ => True, fun _ => 0, (), [], trivial, ⟨?_⟩, fun _ _ => ?_⟩
  · cbv
    and_intros
    all_goals first | exact trivial | exact ⟨rfl⟩ | exact ⟨by kernel_rfl⟩
  cbv
  refine And.intro ?_ ?_
  · intro h
    exact False.elim (lt_self0 h)
  intro h
  clear h
  cbv
  refine ⟨Unit, [], fun _ => [(6, .int .i64 (.l 0))], fun _ => [], fun _ => True, fun _ => 0, (), [], trivial, ⟨?_⟩, fun _ _ => ?_⟩
  · cbv
    and_intros
    all_goals first | exact trivial | exact ⟨rfl⟩ | exact ⟨by kernel_rfl⟩
  cbv
  refine And.intro ?_ ?_
  · intro h
    exact False.elim (lt_self0 h)
  intro h
  clear h
  cbv
  refine ⟨Unit, [], fun _ => [(9, .int .i64 (.l 0))], fun _ => [], fun _ => True, fun _ => 0, (), [], trivial, ⟨?_⟩, fun _ _ => ?_⟩
  · cbv
    and_intros
    all_goals first | exact trivial | exact ⟨rfl⟩ | exact ⟨by kernel_rfl⟩
  cbv
  refine And.intro ?_ ?_
  · intro h
    exact False.elim (lt_self0 h)
  intro h
  clear h
  cbv
  refine ⟨[], [], ?_⟩
  cbv
  and_intros
  all_goals first | exact trivial | exact ⟨rfl⟩ | exact ⟨by kernel_rfl⟩

set_option maxRecDepth 20000 in
set_option maxHeartbeats 400000 in
theorem con65 : Con 65 [.nil] [] (.bool .t) [] := by
  refine con_of Try.func65 rfl rfl 140 _ rfl rfl rfl rfl ?_
  cbv
  refine ⟨Unit, [], fun _ => [(3, .int .i64 (.l 0))], fun _ => [], fun _ => True, fun _ => 0, (), [], trivial, ⟨?_⟩, fun _ _ => ?_⟩
  · cbv
    and_intros
    all_goals first | exact trivial | exact ⟨rfl⟩ | exact ⟨by kernel_rfl⟩
  cbv
  refine And.intro ?_ ?_
  · intro h
    exact False.elim (lt_self0 h)
  intro h
  clear h
  cbv
  refine ⟨Unit, [], fun _ => [(6, .int .i64 (.l 0))], fun _ => [], fun _ => True, fun _ => 0, (), [], trivial, ⟨?_⟩, fun _ _ => ?_⟩
  · cbv
    and_intros
    all_goals first | exact trivial | exact ⟨rfl⟩ | exact ⟨by kernel_rfl⟩
  cbv
  refine And.intro ?_ ?_
  · intro h
    exact False.elim (lt_self0 h)
  intro h
  clear h
  cbv
  refine ⟨Unit, [], fun _ => [(9, .int .i64 (.l 0))], fun _ => [], fun _ => True, fun _ => 0, (), [], trivial, ⟨?_⟩, fun _ _ => ?_⟩
  · cbv
    and_intros
    all_goals first | exact trivial | exact ⟨rfl⟩ | exact ⟨by kernel_rfl⟩
  cbv
  refine And.intro ?_ ?_
  · intro h
    exact False.elim (lt_self0 h)
  intro h
  clear h
  cbv
  refine ⟨[], [], ?_⟩
  cbv
  and_intros
  all_goals first | exact trivial | exact ⟨rfl⟩ | exact ⟨by kernel_rfl⟩

set_option maxRecDepth 20000 in
set_option maxHeartbeats 400000 in
theorem con67 : Con 67 [.nil] [] (.bool .t) [] := by
  refine con_of Try.func67 rfl rfl 130 _ rfl rfl rfl rfl ?_
  cbv
  refine ⟨Unit, [], fun _ => [(3, .int .i64 (.l 0))], fun _ => [], fun _ => True, fun _ => 0, (), [], trivial, ⟨?_⟩, fun _ _ => ?_⟩
  · cbv
    and_intros
    all_goals first | exact trivial | exact ⟨rfl⟩ | exact ⟨by kernel_rfl⟩
  cbv
  refine And.intro ?_ ?_
  · intro h
    exact False.elim (lt_self0 h)
  intro h
  clear h
  cbv
  refine ⟨Unit, [], fun _ => [(6, .int .i64 (.l 0))], fun _ => [], fun _ => True, fun _ => 0, (), [], trivial, ⟨?_⟩, fun _ _ => ?_⟩
  · cbv
    and_intros
    all_goals first | exact trivial | exact ⟨rfl⟩ | exact ⟨by kernel_rfl⟩
  cbv
  refine And.intro ?_ ?_
  · intro h
    exact False.elim (lt_self0 h)
  intro h
  clear h
  cbv
  refine ⟨Unit, [], fun _ => [(9, .int .i64 (.l 0))], fun _ => [], fun _ => True, fun _ => 0, (), [], trivial, ⟨?_⟩, fun _ _ => ?_⟩
  · cbv
    and_intros
    all_goals first | exact trivial | exact ⟨rfl⟩ | exact ⟨by kernel_rfl⟩
  cbv
  refine And.intro ?_ ?_
  · intro h
    exact False.elim (lt_self0 h)
  intro h
  clear h
  cbv
  refine ⟨[], [], ?_⟩
  cbv
  and_intros
  all_goals first | exact trivial | exact ⟨rfl⟩ | exact ⟨by kernel_rfl⟩

set_option maxRecDepth 20000 in
set_option maxHeartbeats 400000 in
theorem con68 : Con 68 [.nil] [] (.bool .t) [] := by
  refine con_of Try.func68 rfl rfl 125 _ rfl rfl rfl rfl ?_
  cbv
  refine ⟨Unit, [], fun _ => [(3, .int .i64 (.l 0))], fun _ => [], fun _ => True, fun _ => 0, (), [], trivial, ⟨?_⟩, fun _ _ => ?_⟩
  · cbv
    and_intros
    all_goals first | exact trivial | exact ⟨rfl⟩ | exact ⟨by kernel_rfl⟩
  cbv
  refine And.intro ?_ ?_
  · intro h
    exact False.elim (lt_self0 h)
  intro h
  clear h
  cbv
  refine ⟨Unit, [], fun _ => [(6, .int .i64 (.l 0))], fun _ => [], fun _ => True, fun _ => 0, (), [], trivial, ⟨?_⟩, fun _ _ => ?_⟩
  · cbv
    and_intros
    all_goals first | exact trivial | exact ⟨rfl⟩ | exact ⟨by kernel_rfl⟩
  cbv
  refine And.intro ?_ ?_
  · intro h
    exact False.elim (lt_self0 h)
  intro h
  clear h
  cbv
  refine ⟨Unit, [], fun _ => [(9, .int .i64 (.l 0))], fun _ => [], fun _ => True, fun _ => 0, (), [], trivial, ⟨?_⟩, fun _ _ => ?_⟩
  · cbv
    and_intros
    all_goals first | exact trivial | exact ⟨rfl⟩ | exact ⟨by kernel_rfl⟩
  cbv
  refine And.intro ?_ ?_
  · intro h
    exact False.elim (lt_self0 h)
  intro h
  clear h
  cbv
  refine ⟨[], [], ?_⟩
  cbv
  and_intros
  all_goals first | exact trivial | exact ⟨rfl⟩ | exact ⟨by kernel_rfl⟩

set_option maxRecDepth 20000 in
set_option maxHeartbeats 400000 in
theorem con69 : Con 69 [.nil] [] (.bool .t) [] := by
  refine con_of Try.func69 rfl rfl 125 _ rfl rfl rfl rfl ?_
  cbv
  refine ⟨Unit, [], fun _ => [(3, .int .i64 (.l 0))], fun _ => [], fun _ => True, fun _ => 0, (), [], trivial, ⟨?_⟩, fun _ _ => ?_⟩
  · cbv
    and_intros
    all_goals first | exact trivial | exact ⟨rfl⟩ | exact ⟨by kernel_rfl⟩
  cbv
  refine And.intro ?_ ?_
  · intro h
    exact False.elim (lt_self0 h)
  intro h
  clear h
  cbv
  refine ⟨Unit, [], fun _ => [(6, .int .i64 (.l 0))], fun _ => [], fun _ => True, fun _ => 0, (), [], trivial, ⟨?_⟩, fun _ _ => ?_⟩
  · cbv
    and_intros
    all_goals first | exact trivial | exact ⟨rfl⟩ | exact ⟨by kernel_rfl⟩
  cbv
  refine And.intro ?_ ?_
  · intro h
    exact False.elim (lt_self0 h)
  intro h
  clear h
  cbv
  refine ⟨Unit, [], fun _ => [(9, .int .i64 (.l 0))], fun _ => [], fun _ => True, fun _ => 0, (), [], trivial, ⟨?_⟩, fun _ _ => ?_⟩
  · cbv
    and_intros
    all_goals first | exact trivial | exact ⟨rfl⟩ | exact ⟨by kernel_rfl⟩
  cbv
  refine And.intro ?_ ?_
  · intro h
    exact False.elim (lt_self0 h)
  intro h
  clear h
  cbv
  refine ⟨[], [], ?_⟩
  cbv
  and_intros
  all_goals first | exact trivial | exact ⟨rfl⟩ | exact ⟨by kernel_rfl⟩

set_option maxRecDepth 20000 in
set_option maxHeartbeats 400000 in
theorem con70 : Con 70 [.nil] [] (.bool .t) [] := by
  refine con_of Try.func70 rfl rfl 125 _ rfl rfl rfl rfl ?_
  cbv
  refine ⟨Unit, [], fun _ => [(3, .int .i64 (.l 0))], fun _ => [], fun _ => True, fun _ => 0, (), [], trivial, ⟨?_⟩, fun _ _ => ?_⟩
  · cbv
    and_intros
    all_goals first | exact trivial | exact ⟨rfl⟩ | exact ⟨by kernel_rfl⟩
  cbv
  refine And.intro ?_ ?_
  · intro h
    exact False.elim (lt_self0 h)
  intro h
  clear h
  cbv
  refine ⟨Unit, [], fun _ => [(6, .int .i64 (.l 0))], fun _ => [], fun _ => True, fun _ => 0, (), [], trivial, ⟨?_⟩, fun _ _ => ?_⟩
  · cbv
    and_intros
    all_goals first | exact trivial | exact ⟨rfl⟩ | exact ⟨by kernel_rfl⟩
  cbv
  refine And.intro ?_ ?_
  · intro h
    exact False.elim (lt_self0 h)
  intro h
  clear h
  cbv
  refine ⟨Unit, [], fun _ => [(9, .int .i64 (.l 0))], fun _ => [], fun _ => True, fun _ => 0, (), [], trivial, ⟨?_⟩, fun _ _ => ?_⟩
  · cbv
    and_intros
    all_goals first | exact trivial | exact ⟨rfl⟩ | exact ⟨by kernel_rfl⟩
  cbv
  refine And.intro ?_ ?_
  · intro h
    exact False.elim (lt_self0 h)
  intro h
  clear h
  cbv
  refine ⟨[], [], ?_⟩
  cbv
  and_intros
  all_goals first | exact trivial | exact ⟨rfl⟩ | exact ⟨by kernel_rfl⟩

set_option maxRecDepth 20000 in
set_option maxHeartbeats 400000 in
theorem con71 : Con 71 [.nil] [] (.bool .t) [] := by
  refine con_of Try.func71 rfl rfl 140 _ rfl rfl rfl rfl ?_
  cbv
  refine ⟨Unit, [], fun _ => [(3, .int .i64 (.l 0))], fun _ => [], fun _ => True, fun _ => 0, (), [], trivial, ⟨?_⟩, fun _ _ => ?_⟩
  · cbv
    and_intros
    all_goals first | exact trivial | exact ⟨rfl⟩ | exact ⟨by kernel_rfl⟩
  cbv
  refine And.intro ?_ ?_
  · intro h
    exact False.elim (lt_self0 h)
  intro h
  clear h
  cbv
  refine ⟨Unit, [], fun _ => [(6, .int .i64 (.l 0))], fun _ => [], fun _ => True, fun _ => 0, (), [], trivial, ⟨?_⟩, fun _ _ => ?_⟩
  · cbv
    and_intros
    all_goals first | exact trivial | exact ⟨rfl⟩ | exact ⟨by kernel_rfl⟩
  cbv
  refine And.intro ?_ ?_
  · intro h
    exact False.elim (lt_self0 h)
  intro h
  clear h
  cbv
  refine ⟨Unit, [], fun _ => [(9, .int .i64 (.l 0))], fun _ => [], fun _ => True, fun _ => 0, (), [], trivial, ⟨?_⟩, fun _ _ => ?_⟩
  · cbv
    and_intros
    all_goals first | exact trivial | exact ⟨rfl⟩ | exact ⟨by kernel_rfl⟩
  cbv
  refine And.intro ?_ ?_
  · intro h
    exact False.elim (lt_self0 h)
  intro h
  clear h
  cbv
  refine ⟨[], [], ?_⟩
  cbv
  and_intros
  all_goals first | exact trivial | exact ⟨rfl⟩ | exact ⟨by kernel_rfl⟩

end Go.Proofs.Ytmdfjipjkkjpcaa

/- What is lent: it is written, checked, measured. -/
namespace Go.Proofs.Ytmdfjipjkkjpcaa
open Go.SX

set_option maxRecDepth 20000 in
set_option maxHeartbeats 4000000 in
theorem con12u {leaf : Bool} {es : List Ent} (hp : ∀ e ∈ es, EntOk e) (hw : weight es + 20 * es.length < 1000000000000) :
    Con 12 [nodeSV leaf es] [] (.tup [.own 2000, .int .u16 (.s fun _ => checkI leaf es)]) [(2000, .barr 5 fun _ => encB leaf es)] := by
  refine con_of Try.func12 rfl rfl 68 _ rfl rfl rfl rfl ?_
  cbv
  refine ⟨_, _, con13 (leaf := leaf) (es := es) hp hw, ⟨?_⟩, ?_⟩
  · rfl
  cbv
  refine ⟨fun h1 => ?_, fun h1 => ?_⟩
  · have h1 : ¬ checkI leaf es = 0 := of_decide_eq_false (bnot_t h1)
    have e1 : encB leaf es = [] := by unfold encB; rw [if_neg h1]
    clear h1
    cbv
    refine ⟨[(2000, none)], [], ?_⟩
    cbv
    and_intros
    all_goals first | exact trivial | exact ⟨rfl⟩ | exact ⟨e1⟩ | exact ⟨e1.symm⟩ | exact ⟨by kernel_rfl⟩
  · have h1 : checkI leaf es = 0 := of_decide_eq_true (bnot_f h1)
    obtain ⟨hm, hs⟩ := checkI_ok h1
    have hl := sizeL_len leaf es
    have w1 : (IntKind.u32.wrap (es.length : Int)).toNat = es.length := by rw [IntKind.wrap_u32]; omega
    have w2 : 0 ≤ IntKind.u32.wrap (es.length : Int) := by rw [IntKind.wrap_u32]; omega
    have e0 : lowB (IntKind.u32.wrap (es.length : Int)).toNat 2 = encTo leaf es 0 := by rw [w1]; simp [encTo, entsB]
    cbv
    refine ⟨_, _, con42nl w2, ⟨?_⟩, ?_⟩
    · rfl
    cbv
    refine ⟨Nat, [500], fun i => [(5, .own 500), (21, .int .i64 (.s fun _ => (i : Int)))], fun i => [(1, .cells 24 [.bool (.s fun _ => leaf), .dat (entsDV es)]), (500, .barr 5 fun _ => encTo leaf es i)],
      fun i => i ≤ es.length, fun i => es.length - i, 0, [(500, some 4700)], Nat.zero_le _, ⟨?_⟩, fun i hi => ?_⟩
    · cbv
      exact ⟨⟨⟨rfl⟩, trivial⟩, ⟨⟨⟨rfl⟩, ⟨rfl, fun _ _ _ _ => rfl⟩, trivial⟩, ⟨e0⟩, trivial⟩, ⟨by kernel_rfl⟩⟩
    · have hi : i ≤ es.length := hi
      cbv
      refine ⟨fun h2 => ?_, fun h2 => ?_⟩
      · have h2 : (i : Int) < (es.length : Int) := of_decide_eq_true h2
        have hlt : i < es.length := by omega
        have o1 : indexObl (i : Int) es.length := ⟨by omega, h2⟩
        have hE := entOk_at hp hlt
        have hL := encTo_length (i := i) hs
        have hN := encTo_next (leaf := leaf) hlt
        have hL' := encTo_length (i := i + 1) hs
        have hB := entB_length leaf (es.getD i default)
        rw [hN, List.length_append] at hL'
        have b0 := u8_range ((es.getD i default).key.length : Int)
        have b1 : lenOk ((encTo leaf es i).length + 1) 1 := by unfold lenOk; omega
        have b2 : lenOk ((encTo leaf es i ++ [UInt8.ofNat (IntKind.u8.wrap ((es.getD i default).key.length : Int)).toNat]).length + (es.getD i default).key.length) 1 := by
          have : (es.getD i default).key.length < (entB leaf (es.getD i default)).length := by unfold entB; simp only [List.length_cons, List.length_append]; omega
          unfold lenOk; simp only [List.length_append, List.length_cons, List.length_nil]; omega
        have l1 : (encTo leaf es i ++ [UInt8.ofNat (IntKind.u8.wrap ((es.getD i default).key.length : Int)).toNat] ++ (es.getD i default).key).length ≤ 4000 := by
          have : (es.getD i default).key.length < (entB leaf (es.getD i default)).length := by unfold entB; simp only [List.length_cons, List.length_append]; omega
          simp only [List.length_append, List.length_cons, List.length_nil]; omega
        have bi : bound64 ((i : Int) + 1) := by unfold bound64; omega
        have ei : (i : Int) + 1 = ((i + 1 : Nat) : Int) := by omega
        clear h2
        cbv
        refine ⟨⟨o1⟩, ?_⟩
        cbv
        refine ⟨⟨⟨b0, trivial⟩, b1⟩, ?_⟩
        cbv
        refine ⟨⟨trivial, b2⟩, ⟨by kernel_rfl⟩, ?_⟩
        cbv
        refine ⟨fun h3 => ?_, fun h3 => ?_⟩
        · have h3 : leaf = false := bnot_t h3
          have e5 := (enc_page (encTo leaf es i) (e := es.getD i default) h3).trans hN.symm
          cbv
          refine ⟨_, _, con42l hE.1.1 ?_, ⟨?_⟩, ?_⟩
          · exact Nat.lt_of_le_of_lt l1 (by decide)
          · rfl
          cbv
          refine ⟨⟨bi⟩, i + 1, [(500, some 8100)], hlt, ?_, ⟨?_⟩, ⟨?_⟩⟩
          · show es.length - (i + 1) < es.length - i
            omega
          · kernel_rfl
          · cbv
            exact ⟨⟨⟨ei⟩, trivial⟩, ⟨⟨⟨rfl⟩, ⟨rfl, fun _ _ _ _ => rfl⟩, trivial⟩, ⟨e5⟩, trivial⟩, ⟨by kernel_rfl⟩⟩
        · have h3 : leaf = true := bnot_f h3
          cbv
          refine ⟨fun h4 => ?_, fun h4 => ?_⟩
          · have h4 : (es.getD i default).page = 0 := of_decide_eq_true h4
            have e5 := (enc_val (encTo leaf es i) (e := es.getD i default) h3 h4).trans hN.symm
            have b3 := u8_range ((es.getD i default).val.length : Int)
            have lE : 2 + (es.getD i default).key.length + (es.getD i default).val.length = (entB leaf (es.getD i default)).length := by
              unfold entB; simp only [h3, h4, if_true, List.length_cons, List.length_append]; omega
            have b4 : lenOk ((encTo leaf es i ++ [UInt8.ofNat (IntKind.u8.wrap ((es.getD i default).key.length : Int)).toNat] ++ (es.getD i default).key).length + 1) 1 := len1 l1
            have lV : (es.getD i default).val.length ≤ 1008 := by omega
            have b5 : lenOk ((encTo leaf es i ++ [UInt8.ofNat (IntKind.u8.wrap ((es.getD i default).key.length : Int)).toNat] ++ (es.getD i default).key ++ [UInt8.ofNat (IntKind.u8.wrap ((es.getD i default).val.length : Int)).toNat]).length + (es.getD i default).val.length) 1 := len4 l1 lV
            cbv
            refine ⟨⟨⟨b3, trivial⟩, b4⟩, ⟨trivial, b5⟩, ⟨by kernel_rfl⟩, ?_⟩
            cbv
            refine ⟨⟨bi⟩, i + 1, [(500, some 65)], hlt, ?_, ⟨?_⟩, ⟨?_⟩⟩
            · show es.length - (i + 1) < es.length - i
              omega
            · kernel_rfl
            · cbv
              exact ⟨⟨⟨ei⟩, trivial⟩, ⟨⟨⟨rfl⟩, ⟨rfl, fun _ _ _ _ => rfl⟩, trivial⟩, ⟨e5⟩, trivial⟩, ⟨by kernel_rfl⟩⟩
          · have h4 : ¬ (es.getD i default).page = 0 := of_decide_eq_false h4
            have e5 := (enc_big (encTo leaf es i) (e := es.getD i default) h3 h4).trans hN.symm
            have b3 : (0 : Int) ≤ 255 ∧ (255 : Int) < 256 := by decide
            have b4 : lenOk ((encTo leaf es i ++ [UInt8.ofNat (IntKind.u8.wrap ((es.getD i default).key.length : Int)).toNat] ++ (es.getD i default).key).length + 1) 1 := len1 l1
            have l2 : (encTo leaf es i ++ [UInt8.ofNat (IntKind.u8.wrap ((es.getD i default).key.length : Int)).toNat] ++ (es.getD i default).key ++ [UInt8.ofNat (255 : Int).toNat]).length ≤ 5000 := len2 l1
            have l3 : (encTo leaf es i ++ [UInt8.ofNat (IntKind.u8.wrap ((es.getD i default).key.length : Int)).toNat] ++ (es.getD i default).key ++ [UInt8.ofNat (255 : Int).toNat] ++ lowB (es.getD i default).size.toNat 4).length ≤ 6000 := len3 l2
            cbv
            refine ⟨⟨⟨b3, trivial⟩, b4⟩, _, _, con42l hE.2.1 ?_, ⟨?_⟩, ?_⟩
            · exact Nat.lt_of_le_of_lt l2 (by decide)
            · rfl
            cbv
            refine ⟨_, _, con42l hE.1.1 ?_, ⟨?_⟩, ?_⟩
            · exact Nat.lt_of_le_of_lt l3 (by decide)
            · rfl
            cbv
            refine ⟨⟨by kernel_rfl⟩, ?_⟩
            cbv
            refine ⟨⟨bi⟩, i + 1, [(500, some 7300)], hlt, ?_, ⟨?_⟩, ⟨?_⟩⟩
            · show es.length - (i + 1) < es.length - i
              omega
            · kernel_rfl
            · cbv
              exact ⟨⟨⟨ei⟩, trivial⟩, ⟨⟨⟨rfl⟩, ⟨rfl, fun _ _ _ _ => rfl⟩, trivial⟩, ⟨e5⟩, trivial⟩, ⟨by kernel_rfl⟩⟩
      · have h2 : ¬ ((i : Int) < (es.length : Int)) := of_decide_eq_false h2
        have hle : i = es.length := by omega
        subst hle
        have e1 : encTo leaf es es.length = encB leaf es := by unfold encB encTo nodeB; rw [if_pos h1, List.take_length]
        clear h2
        cbv
        refine ⟨[(2000, some 500)], [], ?_⟩
        cbv
        and_intros
        all_goals first | exact trivial | exact ⟨rfl⟩ | exact ⟨e1⟩ | exact ⟨e1.symm⟩ | exact ⟨h1.symm⟩ | exact ⟨by kernel_rfl⟩

def lentSV (leaf : Bool) (es : List Ent) : SV := .agg [.bool (.s fun _ => leaf), .dat (lentDV es)]
theorem lent_args {leaf : Bool} {es : List Ent} : ∀ (η : OEnv) (G : Nat → Prop) (w : World) (vs : List Value), SVRels η G w [lentSV leaf es] vs → SVRels η G w [nodeSV leaf es] vs := by
  intro η G w vs hv
  match vs, hv with
  | [v], hv =>
    refine ⟨?_, trivial⟩
    obtain ⟨us, rfl, hu⟩ := hv.1
    match us, hu with
    | [u1, u2], hu =>
      refine ⟨_, rfl, hu.1, ?_, trivial⟩
      have h := hu.2.1
      simp only [SVRel] at h ⊢
      exact lent_ents h
    | [], h => exact h.elim
    | [_], h => exact h.2.elim
    | _ :: _ :: _ :: _, h => exact h.2.2.elim
  | [], h => exact h.elim
  | _ :: _ :: _, h => exact h.2.elim
theorem con12l {leaf : Bool} {es : List Ent} (hp : ∀ e ∈ es, EntOk e) (hw : weight es + 20 * es.length < 1000000000000) : Con 12 [lentSV leaf es] [] (.tup [.own 2000, .int .u16 (.s fun _ => checkI leaf es)]) [(2000, .barr 5 fun _ => encB leaf es)] := (con12u hp hw).args lent_args
theorem con13l {leaf : Bool} {es : List Ent} (hp : ∀ e ∈ es, EntOk e) (hw : weight es + 20 * es.length < 1000000000000) : Con 13 [lentSV leaf es] [] (.int .u16 (.s fun _ => checkI leaf es)) [] := (con13 hp hw).args lent_args
theorem con14l {leaf : Bool} {es : List Ent} (hw : weight es + 20 * es.length < 1000000000000) : Con 14 [lentSV leaf es] [] (.int .i64 (.s fun _ => 2 + sizeL leaf es)) [] := (con14 hw).args lent_args
end Go.Proofs.Ytmdfjipjkkjpcaa

