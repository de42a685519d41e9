/- Texts put together: Wo, Wr, Yq, Wt, Ea, Wu, Eb, Ba. -/
import Derived.Test.YtmdfjipjkkjpcaaUl
import Derived.Test.YtmdfjipjkkjpcaaUn
/- The book: lists that came out. -/
namespace Go.Proofs.Ytmdfjipjkkjpcaa
open Go.SX

def nilV : Value := .slice none 0 0
/-- A list of bytes in raw memory. -/
def LisM (H : Mem) (h : Value) (n : Nat) : Prop := (h = nilV ∧ n = 0) ∨ ∃ b c cs, h = .slice (some ⟨b, 0, none⟩) n c ∧ (b, 5, cs) ∈ H ∧ cs.length = c ∧ n ≤ c ∧ c ≤ maxLen
structure BookAt (ns : List Nat) (H : Mem) (bb : Nat) (hd : Value) (r : Mem) (hs : List Value) (c : Nat) : Prop where
  top : H = (bb, 61, hd :: List.replicate 22 nilV) :: r
  bank : SlM H 27 1 hd ns.length c hs
  len : hs.length = ns.length
  lis : ∀ i, i < ns.length → LisM H (hs.getD i nilV) (ns.getD i 0)
  dist : (hs.filterMap Value.ownBlock).Nodup
/-- The book has lists of these lengths. -/
def bookQ (ns : List Nat) (H : Mem) : Prop := ∃ bb hd r hs c, BookAt ns H bb hd r hs c

theorem app_keep {H H' : Mem} {e s n c m : Nat} {va va' : Value} {xs news : List Value} (h : App H e s va n c m xs news va' H') (hn : (H.map (·.1)).Nodup) {p : Nat × Nat × List Value} (hp : p ∈ H) (he : p.2.1 ≠ e) : p ∈ H' := by
  rcases h.2 with ⟨_, b, cs, _, hb, _, rfl⟩ | ⟨_, g, c', cs', _, _, rfl, _⟩
  · refine putB_other hp fun e1 => he ?_
    have := mem_eq hn hp hb e1
    rw [this]
  · exact List.mem_append_left _ hp
theorem app_slm {H H' : Mem} {e s n c m : Nat} {va va' : Value} {xs news : List Value} (h : App H e s va n c m xs news va' H') (hn : (H.map (·.1)).Nodup) (old : SlM H e s va n c xs) (hl : news.length = m * s) : ∃ c', SlM H' e s va' (n + m) c' (xs ++ news) := by
  rcases h.2 with ⟨h1, b, cs, rfl, hb, rfl, rfl⟩ | ⟨_, g, c', cs', _, rfl, rfl, g1, g2, g3, g4⟩
  · rcases old with ⟨h, _⟩ | ⟨b', cs', q1, q2, q3, q4, q5⟩
    · cases h
    · have e1 : b = b' := by cases q1; rfl
      subst e1
      have e2 := mem_eq hn hb q2 rfl
      simp only [Prod.mk.injEq, true_and] at e2
      subst e2
      have h4 : n * s ≤ c * s := Nat.mul_le_mul_right _ q4
      have h5 : (n + m) * s ≤ c * s := Nat.mul_le_mul_right _ h1
      have h6 : (n + m) * s = n * s + m * s := Nat.add_mul _ _ _
      refine ⟨c, .inr ⟨b, _, rfl, putB_mem hb, ?_, h1, ?_⟩⟩
      · simp only [List.length_append, List.length_take, List.length_drop]; omega
      · have hxl : (cs.take (n * s) ++ news).length = (n + m) * s := by simp only [List.length_append, List.length_take]; omega
        rw [← hxl, List.take_left, q5]
  · exact ⟨c', .inr ⟨g, cs', rfl, by simp, g3, g1, g4⟩⟩
theorem app_top {H H' : Mem} {e s n c m : Nat} {va va' : Value} {xs news : List Value} (h : App H e s va n c m xs news va' H') (hn : (H.map (·.1)).Nodup) {p : Nat × Nat × List Value} {r : Mem} (hH : H = p :: r) (he : p.2.1 ≠ e) : ∃ r', H' = p :: r' := by
  subst hH
  rcases h.2 with ⟨_, b, cs, _, hb, _, rfl⟩ | ⟨_, g, c', cs', _, _, rfl, _⟩
  · have hne : p.1 ≠ b := fun e1 => he (by have := mem_eq hn List.mem_cons_self hb e1; rw [this])
    exact ⟨putB r b _, by unfold putB; rw [List.map_cons, if_neg hne]⟩
  · exact ⟨r ++ [(g, e, cs')], rfl⟩
theorem LisM.mono {H H' : Mem} {h : Value} {n : Nat} (hl : LisM H h n) (hk : ∀ p ∈ H, p.2.1 = 5 → p ∈ H') : LisM H' h n := by
  rcases hl with h | ⟨b, c, cs, q1, q2, q3⟩
  · exact .inl h
  · exact .inr ⟨b, c, cs, q1, hk _ q2 rfl, q3⟩
theorem LisM.blk {H : Mem} {h : Value} {n b : Nat} (hl : LisM H h n) (hb : h.ownBlock = some b) : b ∈ H.map (·.1) := by
  rcases hl with ⟨rfl, _⟩ | ⟨b', c, cs, rfl, q2, q3⟩
  · simp [nilV, Value.ownBlock] at hb
  · have : b' = b := by simpa [Value.ownBlock] using hb
    subst this
    exact List.mem_map.2 ⟨_, q2, rfl⟩
theorem putB_top {p : Nat × Nat × List Value} {r : Mem} (hn : ((p :: r).map (·.1)).Nodup) (cs : List Value) : putB (p :: r) p.1 cs = (p.1, p.2.1, cs) :: r := by
  unfold putB
  rw [List.map_cons, if_pos rfl]
  congr 1
  have h1 := (List.nodup_cons.1 hn).1
  have : ∀ q ∈ r, (if q.1 = p.1 then (q.1, q.2.1, cs) else q) = q := fun q hq => if_neg fun e => h1 (List.mem_map.2 ⟨q, hq, e⟩)
  rw [List.map_congr_left this, List.map_id']

/-- One list more stands in the book. -/
theorem book_put {ns : List Nat} {H H' more : Mem} {bb c n : Nat} {hd hv va' : Value} {r : Mem} {hs : List Value} (hB : BookAt ns H bb hd r hs c) (hnd : ((H ++ more).map (·.1)).Nodup) (hL : OneL more 5 1 hv n) (hA : App (H ++ more) 27 1 hd ns.length c 1 hs [hv] va' H') :
    ∃ r', H' = (bb, 61, hd :: List.replicate 22 nilV) :: r' ∧ bookQ (ns ++ [n]) (putB H' bb (va' :: List.replicate 22 nilV)) := by
  have hbank : SlM (H ++ more) 27 1 hd ns.length c hs := by
    rcases hB.bank with h | ⟨b, cs, q1, q2, q3⟩
    · exact .inl h
    · exact .inr ⟨b, cs, q1, List.mem_append_left _ q2, q3⟩
  obtain ⟨r', hr'⟩ := app_top hA hnd (p := (bb, 61, hd :: List.replicate 22 nilV)) (r := r ++ more) (by rw [hB.top]; rfl) (by show (61 : Nat) ≠ 27; decide)
  obtain ⟨c', hsl⟩ := app_slm hA hnd hbank rfl
  have hnd' := hA.1
  rw [hr'] at hnd'
  have hput : putB H' bb (va' :: List.replicate 22 nilV) = (bb, 61, va' :: List.replicate 22 nilV) :: r' := by rw [hr']; exact putB_top (p := (bb, 61, hd :: List.replicate 22 nilV)) hnd' _
  have stay : ∀ p ∈ H', p.2.1 ≠ 61 → p ∈ putB H' bb (va' :: List.replicate 22 nilV) := fun p hp h61 => putB_other hp fun e => h61 (by
    have := mem_eq (p := p) (q := (bb, 61, hd :: List.replicate 22 nilV)) hA.1 hp (by rw [hr']; exact List.mem_cons_self) e
    rw [this])
  have k5 : ∀ p ∈ H ++ more, p.2.1 = 5 → p ∈ putB H' bb (va' :: List.replicate 22 nilV) := fun p hp h5 => stay p (app_keep hA hnd hp (by omega)) (by omega)
  have hnew : LisM more hv n := by
    rcases hL with ⟨rfl, rfl, rfl⟩ | ⟨b, c, cs, rfl, rfl, q1, q2⟩
    · exact .inl ⟨rfl, rfl⟩
    · exact .inr ⟨b, c, cs, rfl, by simp, by simpa using q1, q2⟩
  refine ⟨r', hr', bb, va', r', hs ++ [hv], c', ⟨hput, ?_, by simp [hB.len], fun i hi => ?_, ?_⟩⟩
  · rw [List.length_append]
    rcases hsl with ⟨q1, q2, q3, q4⟩ | ⟨b, cs, q1, q2, q3⟩
    · exact absurd q2 (by omega)
    · exact .inr ⟨b, cs, q1, stay _ q2 (by show (27 : Nat) ≠ 61; decide), q3⟩
  · by_cases h : i < ns.length
    · have e1 : (hs ++ [hv]).getD i nilV = hs.getD i nilV := by rw [List.getD_eq_getElem?_getD, List.getD_eq_getElem?_getD, List.getElem?_append_left (by rw [hB.len]; exact h)]
      have e2 : (ns ++ [n]).getD i 0 = ns.getD i 0 := by rw [List.getD_eq_getElem?_getD, List.getD_eq_getElem?_getD, List.getElem?_append_left h]
      rw [e1, e2]
      exact (hB.lis i h).mono fun p hp h5 => k5 p (List.mem_append_left _ hp) h5
    · have hi' : i = ns.length := by simp at hi; omega
      subst hi'
      have e1 : (hs ++ [hv]).getD ns.length nilV = hv := by rw [← hB.len, List.getD_eq_getElem?_getD, List.getElem?_append_right (Nat.le_refl _)]; simp
      have e2 : (ns ++ [n]).getD ns.length 0 = n := by rw [List.getD_eq_getElem?_getD, List.getElem?_append_right (Nat.le_refl _)]; simp
      rw [e1, e2]
      exact hnew.mono fun p hp h5 => k5 p (List.mem_append_right _ hp) h5
  · rw [List.filterMap_append]
    refine List.nodup_append.2 ⟨hB.dist, ?_, fun x hx y hy exy => ?_⟩
    · cases h : hv.ownBlock <;> simp [h]
    · subst exy
      have hy : hv.ownBlock = some x := by
        simp only [List.mem_filterMap, List.mem_cons, List.not_mem_nil, or_false] at hy
        obtain ⟨a, rfl, ha⟩ := hy; exact ha
      obtain ⟨h, hh, hx⟩ := List.mem_filterMap.1 hx
      obtain ⟨i, hi, rfl⟩ := List.getElem_of_mem hh
      have hl := hB.lis i (by rw [← hB.len]; exact hi)
      rw [List.getD_eq_getElem?_getD, List.getElem?_eq_getElem hi] at hl
      have hb1 := LisM.blk hl hx
      have hb2 := LisM.blk hnew hy
      rw [List.map_append] at hnd
      exact (List.nodup_append.1 hnd).2.2 x hb1 x hb2 rfl

theorem app_nodup {H H' : Mem} {e s n c m : Nat} {va va' : Value} {xs news : List Value} (h : App H e s va n c m xs news va' H') : (H.map (·.1)).Nodup := by
  have h1 := h.1
  rcases h.2 with ⟨_, b, cs, _, hb, _, rfl⟩ | ⟨_, g, c', cs', _, _, rfl, _⟩
  · rwa [putB_names] at h1
  · rw [List.map_append] at h1; exact (List.nodup_append.1 h1).1

theorem info27x : ∃ i, Try.prog.info? 27 = some i ∧ i.zero = some (.slice none 0 0) ∧ i.size = 1 ∧ i.bytes = 24 := by
  have h := info27
  cases hi : Try.prog.info? 27 with
  | none => rw [hi] at h; cases h
  | some i =>
    rw [hi] at h
    simp only [Option.map_some, Option.some.injEq, Prod.mk.injEq] at h
    exact ⟨i, rfl, h.2.2, h.1, h.2.1⟩

set_option maxRecDepth 20000 in
set_option maxHeartbeats 1000000 in
theorem con18m {ns : List Nat} {H : Mem} {bb c : Nat} {hd v0 : Value} {r : Mem} {hs : List Value} {bs : List UInt8} (hB : BookAt ns H bb hd r hs c) (hl : ns.length < 1000000) :
    Con 18 [.loc 1000 0, .own 1001] [(1000, .cust none (fun _ => memΦ v0 H)), (1001, .barr 5 fun _ => bs)] (.tup []) [(1000, .cust none (fun _ => exΦ v0 (bookQ (ns ++ [bs.length])))), (1001, .dead)] := by
  obtain ⟨i, hi, hz, hs1, hb⟩ := info27x
  have hone : ∀ η G w, SVRel η G w (.rv 1000 fun _ => hd) hd := fun η G w => ⟨rfl, by
    rcases hB.bank with ⟨h, _⟩ | ⟨b, cs, h, _⟩ <;> rw [h] <;> rfl⟩
  have hmem : (bb, 61, hd :: List.replicate 22 nilV) ∈ H := by rw [hB.top]; exact List.mem_cons_self
  have r1 : ConG (rawC 0 37) [.loc 1000 0] [(1000, .cust none (fun _ => memΦ v0 H))] Unit (fun _ => .rv 1000 fun _ => hd) (fun _ => [(1000, .cust none (fun _ => memΦ v0 H))]) :=
    ⟨mem_load eok (T := 37) (b := bb) (o := 0) (u := hd) (.inr ⟨rfl, _, _, _, hB.top⟩) rfl rfl hmem rfl hone⟩
  have r2 := ConG.mk (mem_app_list (T := 37) (f := 5) (v0 := v0) (bs := fun _ => bs) Try.underlying37 hi hz (by rw [hs1]; rfl) hs1 (by omega) (by decide) hB.bank (by rw [hb]; omega))
  refine con_of Try.func18 rfl rfl 14 _ rfl rfl rfl rfl ?_
  cbv
  refine ⟨Unit, _, _, r1, ⟨by kernel_rfl⟩, fun _ => ⟨⟨by kernel_rfl⟩, ?_⟩⟩
  cbv
  refine ⟨_, _, _, r2, ⟨by kernel_rfl⟩, fun x => ⟨⟨by kernel_rfl⟩, ?_⟩⟩
  obtain ⟨⟨va', H', more, hv⟩, hL, hA⟩ := x
  have hL : OneL more 5 1 hv bs.length := hL
  have hA : App (H ++ more) 27 1 hd ns.length c 1 hs [hv] va' H' := hA
  obtain ⟨r', htop, hq⟩ := book_put hB (app_nodup hA) hL hA
  have hmem' : (bb, 61, hd :: List.replicate 22 nilV) ∈ H' := by rw [htop]; exact List.mem_cons_self
  have hva : va'.oneCell' = true := by rcases hA.2 with ⟨_, b, cs, _, _, rfl, _⟩ | ⟨_, g, c', cs', _, rfl, _⟩ <;> rfl
  have r3 := ConG.mk (mem_store eok (T := 37) (b := bb) (o := 0) (v0 := v0) (us := [va']) (a := .loc 1000 0) (x := .rv 1000 fun _ => va') (.inr ⟨rfl, _, _, _, htop⟩) rfl hmem' (by simp) rfl (by simpa using hva) (fun η G w v h => by
    simp only [SVRel] at h
    obtain ⟨rfl, h⟩ := h
    rw [one_cells h]))
  have fin : ∀ w v B, memΦ v0 (putB H' bb ((hd :: List.replicate 22 nilV).take 0 ++ [va'] ++ (hd :: List.replicate 22 nilV).drop (0 + [va'].length))) w v B → exΦ v0 (bookQ (ns ++ [bs.length])) w v B := fun w v B h =>
    ⟨_, hq, by rw [putB_names]; exact hA.1, h⟩
  clear hL hA hq
  cbv
  refine ⟨Unit, _, _, r3, ⟨by kernel_rfl⟩, fun _ => ⟨⟨by kernel_rfl⟩, ?_⟩⟩
  cbv
  refine ⟨[(1000, some 1000), (1001, some 1001)], [], ?_⟩
  cbv
  and_intros
  all_goals first | exact trivial | exact ⟨rfl⟩ | exact ⟨rfl, fin⟩ | exact ⟨by kernel_rfl⟩

theorem specX_exit {f : Nat} {svs : List SV} {objs : Objs} {r : SV} {k : Nat} {Φ Φ' : World → Value → List Nat → Prop} {rest : Objs} (h : SpecX Try.prog f svs objs r ((k, .cust none (fun _ => Φ)) :: rest)) (hΦ : ∀ w v B, Φ w v B → Φ' w v B) : SpecX Try.prog f svs objs r ((k, .cust none (fun _ => Φ')) :: rest) := by
  intro η G vs w hsep hob hs
  refine (h η G vs w hsep hob hs).mono fun v w' ⟨η', G', h1, h2, h3⟩ => ⟨η', G', h1, fun j => ?_, h3⟩
  have := h2 j
  by_cases e : j = k
  · subst e
    simp only [lookN, eqN_refl, cond_true] at this ⊢
    cases ho : η' j with
    | none => rw [ho] at this; exact this.elim
    | some o => rw [ho] at this; exact ⟨this.1, this.2.1, fun w2 hw2 => ⟨hΦ _ _ _ (this.2.2 w2 hw2).1, fun x hx => by cases hx⟩⟩
  · have q : eqN k j = false := decide_eq_false fun e' => e e'.symm
    simp only [lookN, q, cond_false] at this ⊢
    exact this

/-- The book, with lists of these lengths. -/
def bookΦ (ns : List Nat) (w : World) (v : Value) (B : List Nat) : Prop := exΦ v (bookQ ns) w v B
theorem book_own {v0 : Value} {ns : List Nat} (w : World) (v : Value) (B : List Nat) (h : exΦ v0 (bookQ ns) w v B) : bookΦ ns w v B := by
  obtain ⟨H, h1, h2, h3⟩ := h
  have := h3.1
  subst this
  exact ⟨H, h1, h2, h3⟩

def nils23 : List SV := [.nil, .nil, .nil, .nil, .nil, .nil, .nil, .nil, .nil, .nil, .nil, .nil, .nil, .nil, .nil, .nil, .nil, .nil, .nil, .nil, .nil, .nil, .nil]
theorem nils_rel {η : OEnv} {G : Nat → Prop} {w : World} : ∀ (n : Nat) (vs : List Value), SVRels η G w (List.replicate n .nil) vs → vs = List.replicate n nilV
  | 0, [], _ => rfl
  | 0, _ :: _, h => h.elim
  | n + 1, [], h => h.elim
  | n + 1, v :: vs, h => by
      have h1 : v = nilV := h.1
      rw [h1, nils_rel n vs h.2]; rfl

theorem con18a {bs : List UInt8} : Con 18 [.loc 1000 0, .own 1001] [(1000, .cells 61 [.nil, .nil, .nil, .nil, .nil, .nil, .nil, .nil, .nil, .nil, .nil, .nil, .nil, .nil, .nil, .nil, .nil, .nil, .nil, .nil, .nil, .nil, .nil]), (1001, .barr 5 fun _ => bs)] (.tup [])
    [(1000, .cust none (fun _ => bookΦ [bs.length])), (1001, .dead)] := by
  refine ⟨specX_conv (Y := Value × Nat) (F := fun _ => True) (X' := fun y => .cust none (fun _ => memΦ y.1 [(y.2, 61, nilV :: List.replicate 22 nilV)])) (fun η G w o ho => ?_) fun y _ => ?_⟩
  · obtain ⟨h1, h2, b, vs, hm, hh, hs⟩ := ho
    have hv : vs = List.replicate 23 nilV := nils_rel 23 vs hs
    subst hv
    exact ⟨(o.val, b), trivial, h1, h2, fun w' hw' => ⟨⟨rfl, hm, by rw [hm]; simp, fun p hp => by
      simp at hp; subst hp
      unfold HasRow; rw [hw' b (by rw [hm]; simp)]; exact hh⟩, fun x hx => by cases hx⟩⟩
  · have hB : BookAt [] [(y.2, 61, nilV :: List.replicate 22 nilV)] y.2 nilV [] [] 0 := ⟨rfl, .inl ⟨rfl, rfl, rfl, rfl⟩, rfl, fun i hi => by simp at hi, by simp⟩
    exact specX_exit (con18m (v0 := y.1) (bs := bs) hB (by simp)).spec book_own

theorem con18b {ns : List Nat} {bs : List UInt8} (hl : ns.length < 1000000) : Con 18 [.loc 1000 0, .own 1001] [(1000, .cust none (fun _ => bookΦ ns)), (1001, .barr 5 fun _ => bs)] (.tup [])
    [(1000, .cust none (fun _ => bookΦ (ns ++ [bs.length]))), (1001, .dead)] := by
  refine ⟨specX_conv (Y := Value × Mem) (F := fun y => bookQ ns y.2) (X' := fun y => .cust none (fun _ => memΦ y.1 y.2)) (fun η G w o ho => ?_) fun y hy => ?_⟩
  · obtain ⟨h1, h2, h3⟩ := ho
    obtain ⟨H, q1, q2, q3⟩ := (h3 w fun _ _ => rfl).1
    exact ⟨(o.val, H), q1, h1, h2, fun w' hw' => ⟨mem_stay q3 hw', fun x hx => by cases hx⟩⟩
  · obtain ⟨bb, hd, r, hs, c, hB⟩ := hy
    exact specX_exit (con18m (v0 := y.1) (bs := bs) hB hl).spec book_own
end Go.Proofs.Ytmdfjipjkkjpcaa

/- The book's lists of bytes: marks (plain law). -/
namespace Go.Proofs.Ytmdfjipjkkjpcaa
open Go.SX

def mk (i k : Nat) : Value := .int .u8 (IntKind.u8.wrap ((i : Int) * 97 + (k : Int) * 13))
/-- A list whose first cells are marked. -/
def MarkAt (H : Mem) (i : Nat) (h : Value) (n m : Nat) : Prop := (h = nilV ∧ n = 0) ∨ ∃ b c cs, h = .slice (some ⟨b, 0, none⟩) n c ∧ (b, 5, cs) ∈ H ∧ cs.length = c ∧ n ≤ c ∧ c ≤ maxLen ∧ ∀ k, k < m → cs[k]? = some (mk i k)
/-- What is marked of list j, where list i is marked up to k. -/
def upTo (ns : List Nat) (i k j : Nat) : Nat := if j < i then ns.getD j 0 else if j = i then k else 0
/-- The book's own block is as it was. -/
def topQ (bb : Nat) (tc : List Value) (H : Mem) : Prop := ∃ r, H = (bb, 61, tc) :: r
/-- Blocks that are neither bytes' nor headers' of such. -/
def Kept (K H : Mem) : Prop := ∀ p ∈ K, (p.2.1 ≠ 5 ∧ p.2.1 ≠ 27) ∧ p ∈ H
structure Marks (ns : List Nat) (bb : Nat) (tc : List Value) (K : Mem) (hd : Value) (hs : List Value) (c i k : Nat) (H : Mem) : Prop where
  top : topQ bb tc H
  kp : Kept K H
  bank : SlM H 27 1 hd ns.length c hs
  len : hs.length = ns.length
  lis : ∀ j, j < ns.length → MarkAt H j (hs.getD j nilV) (ns.getD j 0) (upTo ns i k j)
  dist : (hs.filterMap Value.ownBlock).Nodup

/-- The book's lists of bytes. -/
structure BkAt (ns : List Nat) (H : Mem) (bb : Nat) (tc : List Value) (hd : Value) (hs : List Value) (c : Nat) : Prop where
  top : topQ bb tc H
  bank : SlM H 27 1 hd ns.length c hs
  len : hs.length = ns.length
  lis : ∀ i, i < ns.length → LisM H (hs.getD i nilV) (ns.getD i 0)
  dist : (hs.filterMap Value.ownBlock).Nodup
theorem marks_0 {ns : List Nat} {H K : Mem} {bb c : Nat} {tc : List Value} {hd : Value} {hs : List Value} (hB : BkAt ns H bb tc hd hs c) (hK : Kept K H) : Marks ns bb tc K hd hs c 0 0 H :=
  ⟨hB.top, hK, hB.bank, hB.len, fun j hj => by
    rcases hB.lis j hj with h | ⟨b, c, cs, h1, h2, h3, h4, h5⟩
    · exact .inl h
    · exact .inr ⟨b, c, cs, h1, h2, h3, h4, h5, fun k hk => by unfold upTo at hk; split at hk <;> (try split at hk) <;> omega⟩, hB.dist⟩
theorem marks_next {ns : List Nat} {bb c i : Nat} {hd : Value} {hs tc : List Value} {H K : Mem} (h : Marks ns bb tc K hd hs c i (ns.getD i 0) H) : Marks ns bb tc K hd hs c (i + 1) 0 H :=
  ⟨h.top, h.kp, h.bank, h.len, fun j hj => by
    have := h.lis j hj
    have e : upTo ns (i + 1) 0 j = upTo ns i (ns.getD i 0) j := by
      unfold upTo
      by_cases h1 : j < i
      · rw [if_pos (by omega), if_pos h1]
      · by_cases h2 : j = i
        · subst h2; rw [if_pos (by omega), if_neg (by omega), if_pos rfl]
        · rw [if_neg (by omega), if_neg h1, if_neg h2]
          split <;> rfl
    rw [e]; exact this, h.dist⟩

theorem getD_nil {hs : List Value} {i : Nat} (h : i < hs.length) : hs.getD i nilV ∈ hs := by rw [List.getD_eq_getElem?_getD, List.getElem?_eq_getElem h]; exact List.getElem_mem h
theorem own_inj : ∀ {hs : List Value}, (hs.filterMap Value.ownBlock).Nodup → ∀ {i j b : Nat}, i < hs.length → j < hs.length → (hs.getD i nilV).ownBlock = some b → (hs.getD j nilV).ownBlock = some b → i = j
  | [], _, i, j, b, hi, _, _, _ => by simp at hi
  | h :: hs, hn, 0, 0, b, _, _, _, _ => rfl
  | h :: hs, hn, 0, j + 1, b, _, hj, h1, h2 => by
      have h1 : h.ownBlock = some b := h1
      simp only [List.filterMap_cons, h1] at hn
      have hj' : j < hs.length := by simpa using hj
      refine absurd (List.mem_filterMap.2 ⟨hs.getD j nilV, getD_nil hj', h2⟩) (List.nodup_cons.1 hn).1
  | h :: hs, hn, i + 1, 0, b, hi, _, h1, h2 => by
      have h2 : h.ownBlock = some b := h2
      simp only [List.filterMap_cons, h2] at hn
      have hi' : i < hs.length := by simpa using hi
      refine absurd (List.mem_filterMap.2 ⟨hs.getD i nilV, getD_nil hi', h1⟩) (List.nodup_cons.1 hn).1
  | h :: hs, hn, i + 1, j + 1, b, hi, hj, h1, h2 => by
      have hn' : (hs.filterMap Value.ownBlock).Nodup := by
        simp only [List.filterMap_cons] at hn
        split at hn
        · exact hn
        · exact (List.nodup_cons.1 hn).2
      rw [own_inj hn' (by simpa using hi) (by simpa using hj) h1 h2]

/-- One mark more. -/
theorem marks_put {ns : List Nat} {bb c i k b n cb : Nat} {hd : Value} {hs tc : List Value} {H K : Mem} (h : Marks ns bb tc K hd hs c i k H) (hn : (H.map (·.1)).Nodup) (hi : i < ns.length) (hk : k < ns.getD i 0) (hb : hs.getD i nilV = .slice (some ⟨b, 0, none⟩) n cb) :
    ∃ cs, (b, 5, cs) ∈ H ∧ k + 1 ≤ cs.length ∧ Marks ns bb tc K hd hs c i (k + 1) (putB H b (cs.take k ++ [mk i k] ++ cs.drop (k + 1))) := by
  rcases h.lis i hi with ⟨_, h0⟩ | ⟨b', c', cs, h1, h2, h3, h4, h5, h6⟩
  · omega
  · have e : b' = b := by rw [h1] at hb; cases hb; rfl
    subst e
    have hkc : k < cs.length := by omega
    have hup : upTo ns i k i = k := by unfold upTo; rw [if_neg (by omega), if_pos rfl]
    rw [hup] at h6
    refine ⟨cs, h2, by omega, ⟨?_, fun p hp => ⟨(h.kp p hp).1, putB_other (h.kp p hp).2 fun e => (h.kp p hp).1.1 (by rw [mem_eq hn (h.kp p hp).2 h2 e])⟩, ?_, h.len, fun j hj => ?_, h.dist⟩⟩
    · obtain ⟨r, hr⟩ := h.top
      have hne : bb ≠ b' := fun e => by
        have := mem_eq hn (p := (bb, 61, tc)) (by rw [hr]; exact List.mem_cons_self) h2 e
        simp at this
      exact ⟨putB r b' _, by rw [hr]; unfold putB; rw [List.map_cons, if_neg hne]⟩
    · rcases h.bank with q | ⟨b2, cs2, q1, q2, q3⟩
      · exact .inl q
      · exact .inr ⟨b2, cs2, q1, putB_other q2 fun e => by
          have := mem_eq hn q2 h2 e
          simp at this, q3⟩
    · by_cases e : j = i
      · subst e
        have hup' : upTo ns j (k + 1) j = k + 1 := by unfold upTo; rw [if_neg (by omega), if_pos rfl]
        rw [hup']
        refine .inr ⟨b', c', _, h1, putB_mem h2, by simp; omega, h4, h5, fun q hq => ?_⟩
        by_cases e2 : q = k
        · subst e2
          rw [List.getElem?_append_left (by simp; omega), List.getElem?_append_right (by rw [List.length_take]; omega), List.length_take, Nat.min_eq_left (by omega)]
          simp
        · rw [List.append_assoc, List.getElem?_append_left (by simp; omega), List.getElem?_take, if_pos (by omega)]
          exact h6 q (by omega)
      · have hup' : upTo ns i (k + 1) j = upTo ns i k j := by unfold upTo; split <;> simp [e]
        rw [hup']
        rcases h.lis j hj with q | ⟨b2, c2, cs2, q1, q2, q3, q4, q5, q6⟩
        · exact .inl q
        · refine .inr ⟨b2, c2, cs2, q1, putB_other q2 fun e2 => e ?_, q3, q4, q5, q6⟩
          have e2 : b2 = b' := e2
          subst e2
          exact own_inj h.dist (by rw [h.len]; exact hj) (by rw [h.len]; exact hi) (b := b2) (by rw [q1]; rfl) (by rw [h1]; rfl)
end Go.Proofs.Ytmdfjipjkkjpcaa

/- The book: Own, given that of its lists of bytes and of its lists of entries. (Printed by gen_yq.py.) -/
namespace Go.Proofs.Ytmdfjipjkkjpcaa
open Go.SX

/-- The book's cells: the headers of the lists of bytes, and of the lists of entries. -/
def topC (hd e : Value) : List Value := [hd, nilV, nilV, nilV, nilV, nilV, nilV, nilV, nilV, nilV, nilV, nilV, nilV, nilV, nilV, nilV, e, nilV, nilV, nilV, nilV, nilV, nilV]
theorem topQ.cell {bb o : Nat} {hd e u : Value} {H : Mem} (h : topQ bb (topC hd e) H) (hu : (topC hd e)[o]? = some u) : IsP H (.loc 1000 o) bb o ∧ ∃ Tb cs, (bb, Tb, cs) ∈ H ∧ cs[o]? = some u := by
  obtain ⟨r, rfl⟩ := h
  exact ⟨.inr ⟨rfl, _, _, _, rfl⟩, _, _, List.mem_cons_self, hu⟩

set_option maxRecDepth 20000 in
set_option maxHeartbeats 2000000 in
theorem con23o {H K : Mem} {bb : Nat} {hd e v0 : Value} (ht : topQ bb (topC hd e) H) (h1d : hd.oneCell' = true) (h1e : e.oneCell' = true)
    (c49 : Con 49 [.rv 1000 (fun _ => hd)] [(1000, .cust none (fun _ => memΦ v0 H))] (.bool .t) [(1000, .cust none (fun _ => exΦ v0 (fun H => topQ bb (topC hd e) H ∧ Kept K H)))])
    (c65 : ∀ H', topQ bb (topC hd e) H' → Kept K H' → (H'.map (·.1)).Nodup → Con 65 [.rv 1000 (fun _ => e)] [(1000, .cust none (fun _ => memΦ v0 H'))] (.bool .t) [(1000, .cust none (fun _ => exΦ v0 (topQ bb (topC hd e))))]) :
    Con 23 [.loc 1000 0] [(1000, .cust none (fun _ => memΦ v0 H))] (.bool .t) [(1000, .dead)] := by
  have c65' : Con 65 [.rv 1000 (fun _ => e)] [(1000, .cust none (fun _ => exΦ v0 (fun H => topQ bb (topC hd e) H ∧ Kept K H)))] (.bool .t) [(1000, .cust none (fun _ => exΦ v0 (topQ bb (topC hd e))))] :=
    ⟨specX_conv (Y := Mem) (F := fun H => (topQ bb (topC hd e) H ∧ Kept K H) ∧ (H.map (·.1)).Nodup) (X' := fun H => .cust none (fun _ => memΦ v0 H)) (fun η G w o ho => by
      obtain ⟨H, q1, q2, q3⟩ := cust_open (η := η) (G := G) ex_id ho
      exact ⟨H, ⟨q1, q2⟩, q3⟩) fun H hH => (c65 H hH.1.1 hH.1.2 hH.2).spec⟩
  have r1 : ConG (rawC 0 37) [.loc 1000 0] [(1000, .cust none (fun _ => memΦ v0 H))] Unit (fun _ => .rv 1000 fun _ => hd) (fun _ => [(1000, .cust none (fun _ => memΦ v0 H))]) := by
    obtain ⟨p1, Tb, cs, p2, p3⟩ := ht.cell (o := 0) rfl
    exact ⟨mem_load eok (T := 37) (b := bb) (o := 0) (u := hd) p1 rfl rfl p2 p3 fun η G w => ⟨rfl, h1d⟩⟩
  have l1 := conG (ex_load eok (T := 38) (b := bb) (o := 1) (Q := (fun H => topQ bb (topC hd e) H ∧ Kept K H)) (v0 := v0) (u := nilV) (a := .loc 1000 1) (r := .nil) rfl rfl (fun _ h => h.1.cell (o := 1) rfl) fun _ _ _ => rfl)
  have l2 := conG (ex_load eok (T := 39) (b := bb) (o := 2) (Q := (fun H => topQ bb (topC hd e) H ∧ Kept K H)) (v0 := v0) (u := nilV) (a := .loc 1000 2) (r := .nil) rfl rfl (fun _ h => h.1.cell (o := 2) rfl) fun _ _ _ => rfl)
  have l3 := conG (ex_load eok (T := 40) (b := bb) (o := 3) (Q := (fun H => topQ bb (topC hd e) H ∧ Kept K H)) (v0 := v0) (u := nilV) (a := .loc 1000 3) (r := .nil) rfl rfl (fun _ h => h.1.cell (o := 3) rfl) fun _ _ _ => rfl)
  have l4 := conG (ex_load eok (T := 41) (b := bb) (o := 4) (Q := (fun H => topQ bb (topC hd e) H ∧ Kept K H)) (v0 := v0) (u := nilV) (a := .loc 1000 4) (r := .nil) rfl rfl (fun _ h => h.1.cell (o := 4) rfl) fun _ _ _ => rfl)
  have l5 := conG (ex_load eok (T := 42) (b := bb) (o := 5) (Q := (fun H => topQ bb (topC hd e) H ∧ Kept K H)) (v0 := v0) (u := nilV) (a := .loc 1000 5) (r := .nil) rfl rfl (fun _ h => h.1.cell (o := 5) rfl) fun _ _ _ => rfl)
  have l6 := conG (ex_load eok (T := 43) (b := bb) (o := 6) (Q := (fun H => topQ bb (topC hd e) H ∧ Kept K H)) (v0 := v0) (u := nilV) (a := .loc 1000 6) (r := .nil) rfl rfl (fun _ h => h.1.cell (o := 6) rfl) fun _ _ _ => rfl)
  have l7 := conG (ex_load eok (T := 44) (b := bb) (o := 7) (Q := (fun H => topQ bb (topC hd e) H ∧ Kept K H)) (v0 := v0) (u := nilV) (a := .loc 1000 7) (r := .nil) rfl rfl (fun _ h => h.1.cell (o := 7) rfl) fun _ _ _ => rfl)
  have l8 := conG (ex_load eok (T := 45) (b := bb) (o := 8) (Q := (fun H => topQ bb (topC hd e) H ∧ Kept K H)) (v0 := v0) (u := nilV) (a := .loc 1000 8) (r := .nil) rfl rfl (fun _ h => h.1.cell (o := 8) rfl) fun _ _ _ => rfl)
  have l9 := conG (ex_load eok (T := 46) (b := bb) (o := 9) (Q := (fun H => topQ bb (topC hd e) H ∧ Kept K H)) (v0 := v0) (u := nilV) (a := .loc 1000 9) (r := .nil) rfl rfl (fun _ h => h.1.cell (o := 9) rfl) fun _ _ _ => rfl)
  have l10 := conG (ex_load eok (T := 47) (b := bb) (o := 10) (Q := (fun H => topQ bb (topC hd e) H ∧ Kept K H)) (v0 := v0) (u := nilV) (a := .loc 1000 10) (r := .nil) rfl rfl (fun _ h => h.1.cell (o := 10) rfl) fun _ _ _ => rfl)
  have l11 := conG (ex_load eok (T := 48) (b := bb) (o := 11) (Q := (fun H => topQ bb (topC hd e) H ∧ Kept K H)) (v0 := v0) (u := nilV) (a := .loc 1000 11) (r := .nil) rfl rfl (fun _ h => h.1.cell (o := 11) rfl) fun _ _ _ => rfl)
  have l12 := conG (ex_load eok (T := 49) (b := bb) (o := 12) (Q := (fun H => topQ bb (topC hd e) H ∧ Kept K H)) (v0 := v0) (u := nilV) (a := .loc 1000 12) (r := .nil) rfl rfl (fun _ h => h.1.cell (o := 12) rfl) fun _ _ _ => rfl)
  have l13 := conG (ex_load eok (T := 50) (b := bb) (o := 13) (Q := (fun H => topQ bb (topC hd e) H ∧ Kept K H)) (v0 := v0) (u := nilV) (a := .loc 1000 13) (r := .nil) rfl rfl (fun _ h => h.1.cell (o := 13) rfl) fun _ _ _ => rfl)
  have l14 := conG (ex_load eok (T := 51) (b := bb) (o := 14) (Q := (fun H => topQ bb (topC hd e) H ∧ Kept K H)) (v0 := v0) (u := nilV) (a := .loc 1000 14) (r := .nil) rfl rfl (fun _ h => h.1.cell (o := 14) rfl) fun _ _ _ => rfl)
  have l15 := conG (ex_load eok (T := 52) (b := bb) (o := 15) (Q := (fun H => topQ bb (topC hd e) H ∧ Kept K H)) (v0 := v0) (u := nilV) (a := .loc 1000 15) (r := .nil) rfl rfl (fun _ h => h.1.cell (o := 15) rfl) fun _ _ _ => rfl)
  have l16 := conG (ex_load eok (T := 53) (b := bb) (o := 16) (Q := (fun H => topQ bb (topC hd e) H ∧ Kept K H)) (v0 := v0) (u := e) (a := .loc 1000 16) (r := .rv 1000 fun _ => e) rfl rfl (fun _ h => h.1.cell (o := 16) rfl) fun _ _ _ => ⟨rfl, h1e⟩)
  have l17 := conG (ex_load eok (T := 54) (b := bb) (o := 17) (Q := (topQ bb (topC hd e))) (v0 := v0) (u := nilV) (a := .loc 1000 17) (r := .nil) rfl rfl (fun _ h => h.cell (o := 17) rfl) fun _ _ _ => rfl)
  have l18 := conG (ex_load eok (T := 55) (b := bb) (o := 18) (Q := (topQ bb (topC hd e))) (v0 := v0) (u := nilV) (a := .loc 1000 18) (r := .nil) rfl rfl (fun _ h => h.cell (o := 18) rfl) fun _ _ _ => rfl)
  have l19 := conG (ex_load eok (T := 56) (b := bb) (o := 19) (Q := (topQ bb (topC hd e))) (v0 := v0) (u := nilV) (a := .loc 1000 19) (r := .nil) rfl rfl (fun _ h => h.cell (o := 19) rfl) fun _ _ _ => rfl)
  have l20 := conG (ex_load eok (T := 57) (b := bb) (o := 20) (Q := (topQ bb (topC hd e))) (v0 := v0) (u := nilV) (a := .loc 1000 20) (r := .nil) rfl rfl (fun _ h => h.cell (o := 20) rfl) fun _ _ _ => rfl)
  have l21 := conG (ex_load eok (T := 58) (b := bb) (o := 21) (Q := (topQ bb (topC hd e))) (v0 := v0) (u := nilV) (a := .loc 1000 21) (r := .nil) rfl rfl (fun _ h => h.cell (o := 21) rfl) fun _ _ _ => rfl)
  have l22 := conG (ex_load eok (T := 59) (b := bb) (o := 22) (Q := (topQ bb (topC hd e))) (v0 := v0) (u := nilV) (a := .loc 1000 22) (r := .nil) rfl rfl (fun _ h => h.cell (o := 22) rfl) fun _ _ _ => rfl)
  refine con_of Try.func23 rfl rfl 166 _ rfl rfl rfl rfl ?_
  cbv
  refine ⟨Unit, _, _, r1, ⟨by kernel_rfl⟩, fun _ => ⟨⟨by kernel_rfl⟩, ?_⟩⟩
  cbv
  refine ⟨_, _, c49, ⟨?_⟩, ?_⟩
  · kernel_rfl
  cbv
  refine ⟨Unit, _, _, l1, ⟨by kernel_rfl⟩, fun _ => ⟨⟨by kernel_rfl⟩, ?_⟩⟩
  cbv
  refine ⟨_, _, con50, ⟨?_⟩, ?_⟩
  · kernel_rfl
  cbv
  refine ⟨Unit, _, _, l2, ⟨by kernel_rfl⟩, fun _ => ⟨⟨by kernel_rfl⟩, ?_⟩⟩
  cbv
  refine ⟨_, _, con51, ⟨?_⟩, ?_⟩
  · kernel_rfl
  cbv
  refine ⟨Unit, _, _, l3, ⟨by kernel_rfl⟩, fun _ => ⟨⟨by kernel_rfl⟩, ?_⟩⟩
  cbv
  refine ⟨_, _, con52, ⟨?_⟩, ?_⟩
  · kernel_rfl
  cbv
  refine ⟨Unit, _, _, l4, ⟨by kernel_rfl⟩, fun _ => ⟨⟨by kernel_rfl⟩, ?_⟩⟩
  cbv
  refine ⟨_, _, con53, ⟨?_⟩, ?_⟩
  · kernel_rfl
  cbv
  refine ⟨Unit, _, _, l5, ⟨by kernel_rfl⟩, fun _ => ⟨⟨by kernel_rfl⟩, ?_⟩⟩
  cbv
  refine ⟨_, _, con54, ⟨?_⟩, ?_⟩
  · kernel_rfl
  cbv
  refine ⟨Unit, _, _, l6, ⟨by kernel_rfl⟩, fun _ => ⟨⟨by kernel_rfl⟩, ?_⟩⟩
  cbv
  refine ⟨_, _, con55, ⟨?_⟩, ?_⟩
  · kernel_rfl
  cbv
  refine ⟨Unit, _, _, l7, ⟨by kernel_rfl⟩, fun _ => ⟨⟨by kernel_rfl⟩, ?_⟩⟩
  cbv
  refine ⟨_, _, con56, ⟨?_⟩, ?_⟩
  · kernel_rfl
  cbv
  refine ⟨Unit, _, _, l8, ⟨by kernel_rfl⟩, fun _ => ⟨⟨by kernel_rfl⟩, ?_⟩⟩
  cbv
  refine ⟨_, _, con57, ⟨?_⟩, ?_⟩
  · kernel_rfl
  cbv
  refine ⟨Unit, _, _, l9, ⟨by kernel_rfl⟩, fun _ => ⟨⟨by kernel_rfl⟩, ?_⟩⟩
  cbv
  refine ⟨_, _, con58, ⟨?_⟩, ?_⟩
  · kernel_rfl
  cbv
  refine ⟨Unit, _, _, l10, ⟨by kernel_rfl⟩, fun _ => ⟨⟨by kernel_rfl⟩, ?_⟩⟩
  cbv
  refine ⟨_, _, con59, ⟨?_⟩, ?_⟩
  · kernel_rfl
  cbv
  refine ⟨Unit, _, _, l11, ⟨by kernel_rfl⟩, fun _ => ⟨⟨by kernel_rfl⟩, ?_⟩⟩
  cbv
  refine ⟨_, _, con60, ⟨?_⟩, ?_⟩
  · kernel_rfl
  cbv
  refine ⟨Unit, _, _, l12, ⟨by kernel_rfl⟩, fun _ => ⟨⟨by kernel_rfl⟩, ?_⟩⟩
  cbv
  refine ⟨_, _, con61, ⟨?_⟩, ?_⟩
  · kernel_rfl
  cbv
  refine ⟨Unit, _, _, l13, ⟨by kernel_rfl⟩, fun _ => ⟨⟨by kernel_rfl⟩, ?_⟩⟩
  cbv
  refine ⟨_, _, con62, ⟨?_⟩, ?_⟩
  · kernel_rfl
  cbv
  refine ⟨Unit, _, _, l14, ⟨by kernel_rfl⟩, fun _ => ⟨⟨by kernel_rfl⟩, ?_⟩⟩
  cbv
  refine ⟨_, _, con63, ⟨?_⟩, ?_⟩
  · kernel_rfl
  cbv
  refine ⟨Unit, _, _, l15, ⟨by kernel_rfl⟩, fun _ => ⟨⟨by kernel_rfl⟩, ?_⟩⟩
  cbv
  refine ⟨_, _, con64, ⟨?_⟩, ?_⟩
  · kernel_rfl
  cbv
  refine ⟨Unit, _, _, l16, ⟨by kernel_rfl⟩, fun _ => ⟨⟨by kernel_rfl⟩, ?_⟩⟩
  cbv
  refine ⟨_, _, c65', ⟨?_⟩, ?_⟩
  · kernel_rfl
  cbv
  refine ⟨Unit, _, _, l17, ⟨by kernel_rfl⟩, fun _ => ⟨⟨by kernel_rfl⟩, ?_⟩⟩
  cbv
  refine ⟨_, _, con66, ⟨?_⟩, ?_⟩
  · kernel_rfl
  cbv
  refine ⟨Unit, _, _, l18, ⟨by kernel_rfl⟩, fun _ => ⟨⟨by kernel_rfl⟩, ?_⟩⟩
  cbv
  refine ⟨_, _, con67, ⟨?_⟩, ?_⟩
  · kernel_rfl
  cbv
  refine ⟨Unit, _, _, l19, ⟨by kernel_rfl⟩, fun _ => ⟨⟨by kernel_rfl⟩, ?_⟩⟩
  cbv
  refine ⟨_, _, con68, ⟨?_⟩, ?_⟩
  · kernel_rfl
  cbv
  refine ⟨Unit, _, _, l20, ⟨by kernel_rfl⟩, fun _ => ⟨⟨by kernel_rfl⟩, ?_⟩⟩
  cbv
  refine ⟨_, _, con69, ⟨?_⟩, ?_⟩
  · kernel_rfl
  cbv
  refine ⟨Unit, _, _, l21, ⟨by kernel_rfl⟩, fun _ => ⟨⟨by kernel_rfl⟩, ?_⟩⟩
  cbv
  refine ⟨_, _, con70, ⟨?_⟩, ?_⟩
  · kernel_rfl
  cbv
  refine ⟨Unit, _, _, l22, ⟨by kernel_rfl⟩, fun _ => ⟨⟨by kernel_rfl⟩, ?_⟩⟩
  cbv
  refine ⟨_, _, con71, ⟨?_⟩, ?_⟩
  · kernel_rfl
  cbv
  refine ⟨[(1000, some 1000)], [], ?_⟩
  cbv
  and_intros
  all_goals first | exact trivial | exact ⟨rfl⟩ | exact ⟨by kernel_rfl⟩
end Go.Proofs.Ytmdfjipjkkjpcaa

/- The book's lists of bytes: what is put behind them (plain law). -/
namespace Go.Proofs.Ytmdfjipjkkjpcaa
open Go.SX

def mk' (i k : Nat) : Value := .int .u8 (IntKind.u8.wrap ((-1 - (i : Int)) * 97 + (k : Int) * 13))
/-- What stands at place k of list j, its own cells or those put behind. -/
def cellAt (ns : List Nat) (j k : Nat) : Value := if k < ns.getD j 0 then mk j k else mk' j (k - ns.getD j 0)
/-- List j: its block is its own, its cells are what is to stand there. -/
def LA (ns : List Nat) (own : Nat → Nat) (H : Mem) (j : Nat) (h : Value) (n : Nat) : Prop :=
  (h = nilV ∧ n = 0) ∨ ∃ b c cs, h = .slice (some ⟨b, 0, none⟩) n c ∧ (b, 5, cs) ∈ H ∧ cs.length = c ∧ n ≤ c ∧ c ≤ maxLen ∧ own b = j ∧ ∀ k, k < n → cs[k]? = some (cellAt ns j k)
structure Two (ns : List Nat) (bb : Nat) (tc : List Value) (K : Mem) (hd : Value) (hs : List Value) (c i nx : Nat) (lv x : Value) (H : Mem) : Prop where
  nd : (H.map (·.1)).Nodup
  top : topQ bb tc H
  kp : Kept K H
  bank : SlM H 27 1 hd ns.length c hs
  len : hs.length = ns.length
  apart : ∀ b, hd.ownBlock = some b → lv.ownBlock ≠ some b
  more : ∃ own cl ls, SlM H 27 1 lv i cl ls ∧ (∀ j, j < ns.length → LA ns own H j (hs.getD j nilV) (ns.getD j 0)) ∧ (∀ j, j < i → LA ns own H j (ls.getD j nilV) (ns.getD j 0 + 16)) ∧ LA ns own H i x nx

theorem LA.one {ns : List Nat} {own : Nat → Nat} {H : Mem} {j : Nat} {h : Value} {n : Nat} (hl : LA ns own H j h n) : h.oneCell' = true := by
  rcases hl with ⟨rfl, _⟩ | ⟨b, c, cs, rfl, _⟩ <;> rfl
theorem LA.keep {ns : List Nat} {own own' : Nat → Nat} {H H' : Mem} {j : Nat} {h : Value} {n : Nat} (hl : LA ns own H j h n) (hk : ∀ p ∈ H, p.2.1 = 5 → p ∈ H' ∧ own' p.1 = own p.1) : LA ns own' H' j h n := by
  rcases hl with h | ⟨b, c, cs, h1, h2, h3, h4, h5, h6, h7⟩
  · exact .inl h
  · exact .inr ⟨b, c, cs, h1, (hk _ h2 rfl).1, h3, h4, h5, by rw [(hk _ h2 rfl).2]; exact h6, h7⟩
theorem slm_len {H : Mem} {e n c : Nat} {va : Value} {xs : List Value} (h : SlM H e 1 va n c xs) : xs.length = n := by
  rcases h with ⟨_, rfl, _, rfl⟩ | ⟨b, cs, _, _, h1, h2, rfl⟩
  · rfl
  · rw [List.length_take]; omega
theorem slm_blk {H : Mem} {e n c s b : Nat} {va : Value} {xs : List Value} (h : SlM H e s va n c xs) (hb : va.ownBlock = some b) : b ∈ H.map (·.1) := by
  rcases h with ⟨rfl, _⟩ | ⟨b', cs, rfl, h1, _⟩
  · simp [Value.ownBlock] at hb
  · have : b' = b := by simpa [Value.ownBlock] using hb
    subst this
    exact List.mem_map.2 ⟨_, h1, rfl⟩

theorem two_0 {ns : List Nat} {bb c : Nat} {hd : Value} {hs tc : List Value} {H K : Mem} (h : Marks ns bb tc K hd hs c ns.length 0 H) (hn : (H.map (·.1)).Nodup) : Two ns bb tc K hd hs c 0 0 nilV nilV H := by
  classical
  refine ⟨hn, h.top, h.kp, h.bank, h.len, fun b _ => by simp [nilV, Value.ownBlock], fun b => if hb : ∃ j, j < hs.length ∧ (hs.getD j nilV).ownBlock = some b then hb.choose else 0, 0, [], .inl ⟨rfl, rfl, rfl, rfl⟩, fun j hj => ?_, fun j hj => absurd hj (by omega), .inl ⟨rfl, rfl⟩⟩
  rcases h.lis j hj with h1 | ⟨b, c', cs, h1, h2, h3, h4, h5, h6⟩
  · exact .inl h1
  · refine .inr ⟨b, c', cs, h1, h2, h3, h4, h5, ?_, fun k hk => ?_⟩
    · have hb : ∃ j, j < hs.length ∧ (hs.getD j nilV).ownBlock = some b := ⟨j, by rw [h.len]; exact hj, by rw [h1]; rfl⟩
      show (if hb : ∃ j, j < hs.length ∧ (hs.getD j nilV).ownBlock = some b then hb.choose else 0) = j
      rw [dif_pos hb]
      have := hb.choose_spec
      exact own_inj h.dist this.1 (by rw [h.len]; exact hj) this.2 (by rw [h1]; rfl)
    · unfold cellAt
      rw [if_pos hk]
      exact h6 k (by unfold upTo; rw [if_pos hj]; exact hk)
theorem two_begin {ns : List Nat} {bb c i nx : Nat} {hd lv x : Value} {hs tc : List Value} {H K : Mem} (h : Two ns bb tc K hd hs c i nx lv x H) (hi : i < ns.length) : Two ns bb tc K hd hs c i (ns.getD i 0) lv (hs.getD i nilV) H := by
  obtain ⟨own, cl, ls, h1, h2, h3, _⟩ := h.more
  exact ⟨h.nd, h.top, h.kp, h.bank, h.len, h.apart, own, cl, ls, h1, h2, h3, h2 i hi⟩

theorem two_app {ns : List Nat} {bb c i nx : Nat} {hd lv x : Value} {hs tc : List Value} {H K : Mem} (h : Two ns bb tc K hd hs c i nx lv x H) :
    ∃ cx xs, SlM H 5 1 x nx cx xs ∧ ∀ x' H', App H 5 1 x nx cx 1 xs [cellAt ns i nx] x' H' → Two ns bb tc K hd hs c i (nx + 1) lv x' H' := by
  obtain ⟨own, cl, ls, h1, h2, h3, h4⟩ := h.more
  have out : ∀ {cx : Nat} {xs : List Value} {x' : Value} {H' : Mem} (own' : Nat → Nat), App H 5 1 x nx cx 1 xs [cellAt ns i nx] x' H' → (∀ j v n, LA ns own H j v n → LA ns own' H' j v n) → LA ns own' H' i x' (nx + 1) → Two ns bb tc K hd hs c i (nx + 1) lv x' H' := by
    intro cx xs x' H' own' hA hk hx
    have k27 : ∀ {va : Value} {n c : Nat} {us : List Value}, SlM H 27 1 va n c us → SlM H' 27 1 va n c us := by
      rintro va n c us (q | ⟨b2, cs2, q1, q2, q3⟩)
      · exact .inl q
      · exact .inr ⟨b2, cs2, q1, app_keep hA h.nd q2 (by show (27 : Nat) ≠ 5; decide), q3⟩
    obtain ⟨r, hr⟩ := h.top
    exact ⟨hA.1, app_top hA h.nd hr (by show (61 : Nat) ≠ 5; decide), fun p hp => ⟨(h.kp p hp).1, app_keep hA h.nd (h.kp p hp).2 (h.kp p hp).1.1⟩, k27 h.bank, h.len, h.apart, own', cl, ls, k27 h1, fun j hj => hk _ _ _ (h2 j hj), fun j hj => hk _ _ _ (h3 j hj), hx⟩
  have grow : ∀ {cx : Nat} {xs : List Value} {x' : Value} {H' : Mem}, App H 5 1 x nx cx 1 xs [cellAt ns i nx] x' H' → xs.length = nx → (∀ k, k < nx → xs[k]? = some (cellAt ns i k)) → (∃ g c' cs', g ∉ H.map (·.1) ∧ x' = .slice (some ⟨g, 0, none⟩) (nx + 1) c' ∧ H' = H ++ [(g, 5, cs')] ∧ nx + 1 ≤ c' ∧ c' ≤ maxLen ∧ cs'.length = c' * 1 ∧ cs'.take ((nx + 1) * 1) = xs ++ [cellAt ns i nx]) → Two ns bb tc K hd hs c i (nx + 1) lv x' H' := by
    intro cx xs x' H' hA hxl hxs ⟨g, c', cs', g1, g2, g3, g4, g5, g6, g7⟩
    refine out (fun b => if b = g then i else own b) hA (fun j v n hl => hl.keep fun p hp h5 => ⟨by rw [g3]; exact List.mem_append_left _ hp, if_neg fun (e : p.1 = g) => g1 (List.mem_map.2 ⟨p, hp, e⟩)⟩) (.inr ⟨g, c', cs', g2, by rw [g3]; simp, by simpa using g6, g4, g5, if_pos rfl, fun k hk => ?_⟩)
    have e1 : cs'[k]? = (cs'.take ((nx + 1) * 1))[k]? := by rw [List.getElem?_take, if_pos (by omega)]
    rw [e1, g7]
    by_cases e : k < nx
    · rw [List.getElem?_append_left (by omega)]; exact hxs k e
    · have : k = nx := by omega
      subst this
      rw [List.getElem?_append_right (by omega), hxl]; simp
  rcases h4 with ⟨q1, q2⟩ | ⟨b, cx, cs, q1, q2, q3, q4, q5, q6, q7⟩
  · refine ⟨0, [], .inl ⟨q1, q2, rfl, rfl⟩, fun x' H' hA => ?_⟩
    rcases hA.2 with ⟨r1, _⟩ | ⟨_, r⟩
    · omega
    · exact grow hA (by simp [q2]) (fun k hk => by omega) r
  · refine ⟨cx, cs.take (nx * 1), .inr ⟨b, cs, q1, q2, by omega, q4, rfl⟩, fun x' H' hA => ?_⟩
    rcases hA.2 with ⟨r1, b', cs', r2, r3, r4, r5⟩ | ⟨_, r⟩
    · have e1 : b' = b := by rw [q1] at r2; cases r2; rfl
      subst e1
      have e2 := mem_eq h.nd q2 r3 rfl
      simp only [Prod.mk.injEq, true_and] at e2
      subst e2
      have hcell : ∀ k : Nat, k ≠ nx → (cs.take (nx * 1) ++ [cellAt ns i nx] ++ cs.drop ((nx + 1) * 1))[k]? = cs[k]? := by
        intro k hk
        by_cases e : k < nx
        · rw [List.append_assoc, List.getElem?_append_left (by rw [List.length_take]; omega), List.getElem?_take, if_pos (by omega)]
        · rw [List.getElem?_append_right (by simp only [List.length_append, List.length_take, List.length_singleton]; omega), List.getElem?_drop]
          congr 1
          simp only [List.length_append, List.length_take, List.length_singleton]; omega
      have hnew : (cs.take (nx * 1) ++ [cellAt ns i nx] ++ cs.drop ((nx + 1) * 1))[nx]? = some (cellAt ns i nx) := by
        rw [List.append_assoc, List.getElem?_append_right (by rw [List.length_take]; omega), List.length_take, Nat.min_eq_left (by omega)]
        simp
      have hlen : (cs.take (nx * 1) ++ [cellAt ns i nx] ++ cs.drop ((nx + 1) * 1)).length = cx := by
        simp only [List.length_append, List.length_take, List.length_drop, List.length_singleton]; omega
      refine out own hA (fun j v n hl => ?_) (.inr ⟨b', cx, _, r4, by rw [r5]; exact putB_mem q2, hlen, r1, q5, q6, fun k hk => ?_⟩)
      · rcases hl with hl | ⟨b2, c2, cs2, s1, s2, s3, s4, s5, s6, s7⟩
        · exact .inl hl
        · by_cases e : b2 = b'
          · subst e
            have e2 := mem_eq h.nd q2 s2 rfl
            simp only [Prod.mk.injEq, true_and] at e2
            subst e2
            have hji : i = j := by rw [← q6, ← s6]
            subst hji
            refine .inr ⟨b2, c2, _, s1, by rw [r5]; exact putB_mem q2, by rw [hlen, ← q3, s3], s4, s5, s6, fun k hk => ?_⟩
            by_cases e : k = nx
            · subst e; exact hnew
            · rw [hcell k e]; exact s7 k hk
          · exact .inr ⟨b2, c2, cs2, s1, by rw [r5]; exact putB_other s2 e, s3, s4, s5, s6, s7⟩
      · by_cases e : k = nx
        · subst e; exact hnew
        · rw [hcell k e]; exact q7 k (by omega)
    · exact grow hA (by rw [List.length_take]; omega) (fun k hk => by rw [List.getElem?_take, if_pos (by omega)]; exact q7 k hk) r

theorem two_push {ns : List Nat} {bb c i : Nat} {hd lv x : Value} {hs tc : List Value} {H K : Mem} (h : Two ns bb tc K hd hs c i (ns.getD i 0 + 16) lv x H) :
    ∃ cl ls, SlM H 27 1 lv i cl ls ∧ ∀ lv' H', App H 27 1 lv i cl 1 ls [x] lv' H' → Two ns bb tc K hd hs c (i + 1) 0 lv' nilV H' := by
  obtain ⟨own, cl, ls, h1, h2, h3, h4⟩ := h.more
  refine ⟨cl, ls, h1, fun lv' H' hA => ?_⟩
  have hk : ∀ j v n, LA ns own H j v n → LA ns own H' j v n := fun j v n hl => hl.keep fun p hp h5 => ⟨app_keep hA h.nd hp (by omega), rfl⟩
  obtain ⟨cl', hsl⟩ := app_slm hA h.nd h1 (by simp)
  obtain ⟨r, hr⟩ := h.top
  have hll := slm_len h1
  refine ⟨hA.1, app_top hA h.nd hr (by show (61 : Nat) ≠ 27; decide), fun p hp => ⟨(h.kp p hp).1, app_keep hA h.nd (h.kp p hp).2 (h.kp p hp).1.2⟩, ?_, h.len, ?_, own, cl', ls ++ [x], hsl, fun j hj => hk _ _ _ (h2 j hj), fun j hj => ?_, .inl ⟨rfl, rfl⟩⟩
  · rcases h.bank with q | ⟨b2, cs2, q1, q2, q3⟩
    · exact .inl q
    · refine .inr ⟨b2, cs2, q1, ?_, q3⟩
      rcases hA.2 with ⟨_, b, cs, r2, _, _, rfl⟩ | ⟨_, g, c', cs', _, _, rfl, _⟩
      · exact putB_other q2 fun e => h.apart b2 (by rw [q1]; rfl) (by rw [r2, show b2 = b from e]; rfl)
      · exact List.mem_append_left _ q2
  · intro b hb hb'
    rcases hA.2 with ⟨_, b2, cs, r2, _, rfl, _⟩ | ⟨_, g, c', cs', g1, rfl, _⟩
    · exact h.apart b hb (by rw [r2]; exact hb')
    · have : g = b := by simpa [Value.ownBlock] using hb'
      subst this
      exact g1 (slm_blk h.bank hb)
  · by_cases e : j < i
    · rw [List.getD_eq_getElem?_getD, List.getElem?_append_left (by omega), ← List.getD_eq_getElem?_getD]
      exact hk _ _ _ (h3 j e)
    · have : j = i := by omega
      subst this
      rw [List.getD_eq_getElem?_getD, List.getElem?_append_right (by omega), hll]
      simpa using hk _ _ _ h4

theorem slm_at {H : Mem} {e n c : Nat} {va : Value} {xs : List Value} (h : SlM H e 1 va n c xs) {i : Nat} (hi : i < n) : ∃ b cs, va = .slice (some ⟨b, 0, none⟩) n c ∧ (b, e, cs) ∈ H ∧ cs[i]? = some (xs.getD i nilV) := by
  rcases h with ⟨_, rfl, _⟩ | ⟨b, cs, h1, h2, h3, h4, h5⟩
  · omega
  · refine ⟨b, cs, h1, h2, ?_⟩
    have : xs[i]? = cs[i]? := by rw [← h5, List.getElem?_take, if_pos (by omega)]
    rw [List.getD_eq_getElem?_getD, this, List.getElem?_eq_getElem (by omega)]
    rfl
theorem la_at {ns : List Nat} {own : Nat → Nat} {H : Mem} {j n k : Nat} {h : Value} (hl : LA ns own H j h n) (hk : k < n) : ∃ b c cs, h = .slice (some ⟨b, 0, none⟩) n c ∧ (b, 5, cs) ∈ H ∧ cs[k]? = some (cellAt ns j k) := by
  rcases hl with ⟨_, rfl⟩ | ⟨b, c, cs, h1, h2, _, _, _, _, h7⟩
  · omega
  · exact ⟨b, c, cs, h1, h2, h7 k hk⟩
end Go.Proofs.Ytmdfjipjkkjpcaa

/- The book's lists of entries: marks, and what is put behind (plain law). -/
namespace Go.Proofs.Ytmdfjipjkkjpcaa
open Go.SX

def pg (i k : Nat) : Value := .int .u32 (IntKind.u32.wrap ((i : Int) * 1000 + (k : Int) + 7000000))
def pg' (i k : Nat) : Value := .int .u32 (IntKind.u32.wrap ((-1 - (i : Int)) * 1000 + (k : Int) + 7000000))
def elE (v : Value) : List Value := [nilV, nilV, v, .int .u32 0]
theorem elE_len (v : Value) : (elE v).length = 4 := rfl
theorem elE_2 (v : Value) : (elE v)[2]? = some v := rfl
/-- A list's third cells, with one more element put at place q. -/
theorem put4_other {cs new : List Value} {q k : Nat} (hn : new.length = 4) (hq : q * 4 ≤ cs.length) (hk : k ≠ q) : (cs.take (q * 4) ++ new ++ cs.drop (q * 4 + 4))[k * 4 + 2]? = cs[k * 4 + 2]? := by
  by_cases e : k < q
  · rw [List.append_assoc, List.getElem?_append_left (by rw [List.length_take]; omega), List.getElem?_take, if_pos (by omega)]
  · rw [List.getElem?_append_right (by simp only [List.length_append, List.length_take]; omega), List.getElem?_drop]
    congr 1
    simp only [List.length_append, List.length_take]; omega
theorem put4_same {cs : List Value} {v : Value} {q : Nat} (hq : q * 4 ≤ cs.length) : (cs.take (q * 4) ++ elE v ++ cs.drop (q * 4 + 4))[q * 4 + 2]? = some v := by
  rw [List.append_assoc, List.getElem?_append_right (by rw [List.length_take]; omega), List.length_take, Nat.min_eq_left hq, show q * 4 + 2 - q * 4 = 2 by omega]
  rfl
theorem put4_len {cs new : List Value} {q : Nat} (hn : new.length = 4) (hq : q * 4 + 4 ≤ cs.length) : (cs.take (q * 4) ++ new ++ cs.drop (q * 4 + 4)).length = cs.length := by
  simp only [List.length_append, List.length_take, List.length_drop]; omega

def MarkE (H : Mem) (i : Nat) (h : Value) (n m : Nat) : Prop := (h = nilV ∧ n = 0) ∨ ∃ b c cs, h = .slice (some ⟨b, 0, none⟩) n c ∧ (b, 74, cs) ∈ H ∧ cs.length = c * 4 ∧ n ≤ c ∧ c ≤ maxLen ∧ ∀ k, k < m → cs[k * 4 + 2]? = some (pg i k)
/-- The book's lists of entries. -/
structure EkAt (ns : List Nat) (H : Mem) (bb : Nat) (tc : List Value) (hd : Value) (hs : List Value) (c : Nat) : Prop where
  top : topQ bb tc H
  bank : SlM H 22 1 hd ns.length c hs
  len : hs.length = ns.length
  lis : ∀ i, i < ns.length → MarkE H i (hs.getD i nilV) (ns.getD i 0) 0
  dist : (hs.filterMap Value.ownBlock).Nodup
structure MarksE (ns : List Nat) (bb : Nat) (tc : List Value) (hd : Value) (hs : List Value) (c i k : Nat) (H : Mem) : Prop where
  top : topQ bb tc H
  bank : SlM H 22 1 hd ns.length c hs
  len : hs.length = ns.length
  lis : ∀ j, j < ns.length → MarkE H j (hs.getD j nilV) (ns.getD j 0) (upTo ns i k j)
  dist : (hs.filterMap Value.ownBlock).Nodup

theorem marksE_0 {ns : List Nat} {H : Mem} {bb c : Nat} {tc : List Value} {hd : Value} {hs : List Value} (hB : EkAt ns H bb tc hd hs c) : MarksE ns bb tc hd hs c 0 0 H :=
  ⟨hB.top, hB.bank, hB.len, fun j hj => by
    have e : upTo ns 0 0 j = 0 := by unfold upTo; split <;> (try split) <;> omega
    rw [e]; exact hB.lis j hj, hB.dist⟩
theorem marksE_next {ns : List Nat} {bb c i : Nat} {hd : Value} {hs tc : List Value} {H : Mem} (h : MarksE ns bb tc hd hs c i (ns.getD i 0) H) : MarksE ns bb tc hd hs c (i + 1) 0 H :=
  ⟨h.top, h.bank, h.len, fun j hj => by
    have := h.lis j hj
    have e : upTo ns (i + 1) 0 j = upTo ns i (ns.getD i 0) j := by
      unfold upTo
      by_cases h1 : j < i
      · rw [if_pos (by omega), if_pos h1]
      · by_cases h2 : j = i
        · subst h2; rw [if_pos (by omega), if_neg (by omega), if_pos rfl]
        · rw [if_neg (by omega), if_neg h1, if_neg h2]
          split <;> rfl
    rw [e]; exact this, h.dist⟩

/-- One mark more. -/
theorem marksE_put {ns : List Nat} {bb c i k b n cb : Nat} {hd : Value} {hs tc : List Value} {H : Mem} (h : MarksE ns bb tc hd hs c i k H) (hn : (H.map (·.1)).Nodup) (hi : i < ns.length) (hk : k < ns.getD i 0) (hb : hs.getD i nilV = .slice (some ⟨b, 0, none⟩) n cb) :
    ∃ cs, (b, 74, cs) ∈ H ∧ k * 4 + 4 ≤ cs.length ∧ MarksE ns bb tc hd hs c i (k + 1) (putB H b (cs.take (k * 4) ++ elE (pg i k) ++ cs.drop (k * 4 + 4))) := by
  rcases h.lis i hi with ⟨_, h0⟩ | ⟨b', c', cs, h1, h2, h3, h4, h5, h6⟩
  · omega
  · have e : b' = b := by rw [h1] at hb; cases hb; rfl
    subst e
    have hkc : k * 4 + 4 ≤ cs.length := by omega
    have hup : upTo ns i k i = k := by unfold upTo; rw [if_neg (by omega), if_pos rfl]
    rw [hup] at h6
    refine ⟨cs, h2, hkc, ⟨?_, ?_, h.len, fun j hj => ?_, h.dist⟩⟩
    · obtain ⟨r, hr⟩ := h.top
      have hne : bb ≠ b' := fun e => by
        have := mem_eq hn (p := (bb, 61, tc)) (by rw [hr]; exact List.mem_cons_self) h2 e
        simp at this
      exact ⟨putB r b' _, by rw [hr]; unfold putB; rw [List.map_cons, if_neg hne]⟩
    · rcases h.bank with q | ⟨b2, cs2, q1, q2, q3⟩
      · exact .inl q
      · exact .inr ⟨b2, cs2, q1, putB_other q2 fun e => by
          have := mem_eq hn q2 h2 e
          simp at this, q3⟩
    · by_cases e : j = i
      · subst e
        have hup' : upTo ns j (k + 1) j = k + 1 := by unfold upTo; rw [if_neg (by omega), if_pos rfl]
        rw [hup']
        refine .inr ⟨b', c', _, h1, putB_mem h2, by rw [put4_len (elE_len _) hkc]; exact h3, h4, h5, fun q hq => ?_⟩
        by_cases e2 : q = k
        · subst e2; exact put4_same (by omega)
        · rw [put4_other (elE_len _) (by omega) e2]; exact h6 q (by omega)
      · have hup' : upTo ns i (k + 1) j = upTo ns i k j := by unfold upTo; split <;> simp [e]
        rw [hup']
        rcases h.lis j hj with q | ⟨b2, c2, cs2, q1, q2, q3, q4, q5, q6⟩
        · exact .inl q
        · refine .inr ⟨b2, c2, cs2, q1, putB_other q2 fun e2 => e ?_, q3, q4, q5, q6⟩
          have e2 : b2 = b' := e2
          subst e2
          exact own_inj h.dist (by rw [h.len]; exact hj) (by rw [h.len]; exact hi) (b := b2) (by rw [q1]; rfl) (by rw [h1]; rfl)

/-- What stands at place k of list j, its own elements or those put behind. -/
def cellE (ns : List Nat) (j k : Nat) : Value := if k < ns.getD j 0 then pg j k else pg' j (k - ns.getD j 0)
def LE (ns : List Nat) (own : Nat → Nat) (H : Mem) (j : Nat) (h : Value) (n : Nat) : Prop :=
  (h = nilV ∧ n = 0) ∨ ∃ b c cs, h = .slice (some ⟨b, 0, none⟩) n c ∧ (b, 74, cs) ∈ H ∧ cs.length = c * 4 ∧ n ≤ c ∧ c ≤ maxLen ∧ own b = j ∧ ∀ k, k < n → cs[k * 4 + 2]? = some (cellE ns j k)
structure TwoE (ns : List Nat) (bb : Nat) (tc : List Value) (hd : Value) (hs : List Value) (c i nx : Nat) (lv x : Value) (H : Mem) : Prop where
  nd : (H.map (·.1)).Nodup
  top : topQ bb tc H
  bank : SlM H 22 1 hd ns.length c hs
  len : hs.length = ns.length
  apart : ∀ b, hd.ownBlock = some b → lv.ownBlock ≠ some b
  more : ∃ own cl ls, SlM H 22 1 lv i cl ls ∧ (∀ j, j < ns.length → LE ns own H j (hs.getD j nilV) (ns.getD j 0)) ∧ (∀ j, j < i → LE ns own H j (ls.getD j nilV) (ns.getD j 0 + 8)) ∧ LE ns own H i x nx

theorem LE.one {ns : List Nat} {own : Nat → Nat} {H : Mem} {j : Nat} {h : Value} {n : Nat} (hl : LE ns own H j h n) : h.oneCell' = true := by
  rcases hl with ⟨rfl, _⟩ | ⟨b, c, cs, rfl, _⟩ <;> rfl
theorem LE.keep {ns : List Nat} {own own' : Nat → Nat} {H H' : Mem} {j : Nat} {h : Value} {n : Nat} (hl : LE ns own H j h n) (hk : ∀ p ∈ H, p.2.1 = 74 → p ∈ H' ∧ own' p.1 = own p.1) : LE ns own' H' j h n := by
  rcases hl with h | ⟨b, c, cs, h1, h2, h3, h4, h5, h6, h7⟩
  · exact .inl h
  · exact .inr ⟨b, c, cs, h1, (hk _ h2 rfl).1, h3, h4, h5, by rw [(hk _ h2 rfl).2]; exact h6, h7⟩

theorem twoE_0 {ns : List Nat} {bb c : Nat} {hd : Value} {hs tc : List Value} {H : Mem} (h : MarksE ns bb tc hd hs c ns.length 0 H) (hn : (H.map (·.1)).Nodup) : TwoE ns bb tc hd hs c 0 0 nilV nilV H := by
  classical
  refine ⟨hn, h.top, h.bank, h.len, fun b _ => by simp [nilV, Value.ownBlock], fun b => if hb : ∃ j, j < hs.length ∧ (hs.getD j nilV).ownBlock = some b then hb.choose else 0, 0, [], .inl ⟨rfl, rfl, rfl, rfl⟩, fun j hj => ?_, fun j hj => absurd hj (by omega), .inl ⟨rfl, rfl⟩⟩
  rcases h.lis j hj with h1 | ⟨b, c', cs, h1, h2, h3, h4, h5, h6⟩
  · exact .inl h1
  · refine .inr ⟨b, c', cs, h1, h2, h3, h4, h5, ?_, fun k hk => ?_⟩
    · have hb : ∃ j, j < hs.length ∧ (hs.getD j nilV).ownBlock = some b := ⟨j, by rw [h.len]; exact hj, by rw [h1]; rfl⟩
      show (if hb : ∃ j, j < hs.length ∧ (hs.getD j nilV).ownBlock = some b then hb.choose else 0) = j
      rw [dif_pos hb]
      have := hb.choose_spec
      exact own_inj h.dist this.1 (by rw [h.len]; exact hj) this.2 (by rw [h1]; rfl)
    · unfold cellE
      rw [if_pos hk]
      exact h6 k (by unfold upTo; rw [if_pos hj]; exact hk)
theorem twoE_begin {ns : List Nat} {bb c i nx : Nat} {hd lv x : Value} {hs tc : List Value} {H : Mem} (h : TwoE ns bb tc hd hs c i nx lv x H) (hi : i < ns.length) : TwoE ns bb tc hd hs c i (ns.getD i 0) lv (hs.getD i nilV) H := by
  obtain ⟨own, cl, ls, h1, h2, h3, _⟩ := h.more
  exact ⟨h.nd, h.top, h.bank, h.len, h.apart, own, cl, ls, h1, h2, h3, h2 i hi⟩

theorem twoE_app {ns : List Nat} {bb c i nx : Nat} {hd lv x : Value} {hs tc : List Value} {H : Mem} (h : TwoE ns bb tc hd hs c i nx lv x H) :
    ∃ cx xs, SlM H 74 4 x nx cx xs ∧ ∀ x' H', App H 74 4 x nx cx 1 xs (elE (cellE ns i nx)) x' H' → TwoE ns bb tc hd hs c i (nx + 1) lv x' H' := by
  obtain ⟨own, cl, ls, h1, h2, h3, h4⟩ := h.more
  have out : ∀ {cx : Nat} {xs : List Value} {x' : Value} {H' : Mem} (own' : Nat → Nat), App H 74 4 x nx cx 1 xs (elE (cellE ns i nx)) x' H' → (∀ j v n, LE ns own H j v n → LE ns own' H' j v n) → LE ns own' H' i x' (nx + 1) → TwoE ns bb tc hd hs c i (nx + 1) lv x' H' := by
    intro cx xs x' H' own' hA hk hx
    have k27 : ∀ {va : Value} {n c : Nat} {us : List Value}, SlM H 22 1 va n c us → SlM H' 22 1 va n c us := by
      rintro va n c us (q | ⟨b2, cs2, q1, q2, q3⟩)
      · exact .inl q
      · exact .inr ⟨b2, cs2, q1, app_keep hA h.nd q2 (by show (22 : Nat) ≠ 74; decide), q3⟩
    obtain ⟨r, hr⟩ := h.top
    exact ⟨hA.1, app_top hA h.nd hr (by show (61 : Nat) ≠ 74; decide), k27 h.bank, h.len, h.apart, own', cl, ls, k27 h1, fun j hj => hk _ _ _ (h2 j hj), fun j hj => hk _ _ _ (h3 j hj), hx⟩
  have grow : ∀ {cx : Nat} {xs : List Value} {x' : Value} {H' : Mem}, App H 74 4 x nx cx 1 xs (elE (cellE ns i nx)) x' H' → xs.length = nx * 4 → (∀ k, k < nx → xs[k * 4 + 2]? = some (cellE ns i k)) → (∃ g c' cs', g ∉ H.map (·.1) ∧ x' = .slice (some ⟨g, 0, none⟩) (nx + 1) c' ∧ H' = H ++ [(g, 74, cs')] ∧ nx + 1 ≤ c' ∧ c' ≤ maxLen ∧ cs'.length = c' * 4 ∧ cs'.take ((nx + 1) * 4) = xs ++ elE (cellE ns i nx)) → TwoE ns bb tc hd hs c i (nx + 1) lv x' H' := by
    intro cx xs x' H' hA hxl hxs ⟨g, c', cs', g1, g2, g3, g4, g5, g6, g7⟩
    refine out (fun b => if b = g then i else own b) hA (fun j v n hl => hl.keep fun p hp h5 => ⟨by rw [g3]; exact List.mem_append_left _ hp, if_neg fun (e : p.1 = g) => g1 (List.mem_map.2 ⟨p, hp, e⟩)⟩) (.inr ⟨g, c', cs', g2, by rw [g3]; simp, g6, g4, g5, if_pos rfl, fun k hk => ?_⟩)
    have e1 : cs'[k * 4 + 2]? = (cs'.take ((nx + 1) * 4))[k * 4 + 2]? := by rw [List.getElem?_take, if_pos (by omega)]
    rw [e1, g7]
    by_cases e : k < nx
    · rw [List.getElem?_append_left (by omega)]; exact hxs k e
    · have : k = nx := by omega
      subst this
      rw [List.getElem?_append_right (by omega), hxl, show k * 4 + 2 - k * 4 = 2 by omega]; rfl
  rcases h4 with ⟨q1, q2⟩ | ⟨b, cx, cs, q1, q2, q3, q4, q5, q6, q7⟩
  · refine ⟨0, [], .inl ⟨q1, q2, rfl, rfl⟩, fun x' H' hA => ?_⟩
    rcases hA.2 with ⟨r1, _⟩ | ⟨_, r⟩
    · omega
    · exact grow hA (by simp [q2]) (fun k hk => by omega) r
  · refine ⟨cx, cs.take (nx * 4), .inr ⟨b, cs, q1, q2, q3, q4, rfl⟩, fun x' H' hA => ?_⟩
    rcases hA.2 with ⟨r1, b', cs', r2, r3, r4, r5⟩ | ⟨_, r⟩
    · have e1 : b' = b := by rw [q1] at r2; cases r2; rfl
      subst e1
      have e2 := mem_eq h.nd q2 r3 rfl
      simp only [Prod.mk.injEq, true_and] at e2
      subst e2
      rw [show (nx + 1) * 4 = nx * 4 + 4 by omega] at r5
      have hlen : (cs.take (nx * 4) ++ elE (cellE ns i nx) ++ cs.drop (nx * 4 + 4)).length = cx * 4 := by rw [put4_len (elE_len _) (by omega)]; exact q3
      have hcell : ∀ k, k < nx + 1 → (∀ k, k < nx → cs[k * 4 + 2]? = some (cellE ns i k)) → (cs.take (nx * 4) ++ elE (cellE ns i nx) ++ cs.drop (nx * 4 + 4))[k * 4 + 2]? = some (cellE ns i k) := fun k hk hq => by
        by_cases e : k = nx
        · subst e; exact put4_same (by omega)
        · rw [put4_other (elE_len _) (by omega) e]; exact hq k (by omega)
      refine out own hA (fun j v n hl => ?_) (.inr ⟨b', cx, _, r4, by rw [r5]; exact putB_mem q2, hlen, r1, q5, q6, fun k hk => hcell k hk q7⟩)
      rcases hl with hl | ⟨b2, c2, cs2, s1, s2, s3, s4, s5, s6, s7⟩
      · exact .inl hl
      · by_cases e : b2 = b'
        · subst e
          have e2 := mem_eq h.nd q2 s2 rfl
          simp only [Prod.mk.injEq, true_and] at e2
          subst e2
          have hji : i = j := by rw [← q6, ← s6]
          subst hji
          refine .inr ⟨b2, c2, _, s1, by rw [r5]; exact putB_mem q2, by rw [hlen, ← q3, s3], s4, s5, s6, fun k hk => ?_⟩
          by_cases e : k = nx
          · subst e; exact put4_same (by omega)
          · rw [put4_other (elE_len _) (by omega) e]; exact s7 k hk
        · exact .inr ⟨b2, c2, cs2, s1, by rw [r5]; exact putB_other s2 e, s3, s4, s5, s6, s7⟩
    · exact grow hA (by rw [List.length_take]; omega) (fun k hk => by rw [List.getElem?_take, if_pos (by omega)]; exact q7 k hk) r

theorem twoE_push {ns : List Nat} {bb c i : Nat} {hd lv x : Value} {hs tc : List Value} {H : Mem} (h : TwoE ns bb tc hd hs c i (ns.getD i 0 + 8) lv x H) :
    ∃ cl ls, SlM H 22 1 lv i cl ls ∧ ∀ lv' H', App H 22 1 lv i cl 1 ls [x] lv' H' → TwoE ns bb tc hd hs c (i + 1) 0 lv' nilV H' := by
  obtain ⟨own, cl, ls, h1, h2, h3, h4⟩ := h.more
  refine ⟨cl, ls, h1, fun lv' H' hA => ?_⟩
  have hk : ∀ j v n, LE ns own H j v n → LE ns own H' j v n := fun j v n hl => hl.keep fun p hp h5 => ⟨app_keep hA h.nd hp (by omega), rfl⟩
  obtain ⟨cl', hsl⟩ := app_slm hA h.nd h1 (by simp)
  obtain ⟨r, hr⟩ := h.top
  have hll := slm_len h1
  refine ⟨hA.1, app_top hA h.nd hr (by show (61 : Nat) ≠ 22; decide), ?_, h.len, ?_, own, cl', ls ++ [x], hsl, fun j hj => hk _ _ _ (h2 j hj), fun j hj => ?_, .inl ⟨rfl, rfl⟩⟩
  · rcases h.bank with q | ⟨b2, cs2, q1, q2, q3⟩
    · exact .inl q
    · refine .inr ⟨b2, cs2, q1, ?_, q3⟩
      rcases hA.2 with ⟨_, b, cs, r2, _, _, rfl⟩ | ⟨_, g, c', cs', _, _, rfl, _⟩
      · exact putB_other q2 fun e => h.apart b2 (by rw [q1]; rfl) (by rw [r2, show b2 = b from e]; rfl)
      · exact List.mem_append_left _ q2
  · intro b hb hb'
    rcases hA.2 with ⟨_, b2, cs, r2, _, rfl, _⟩ | ⟨_, g, c', cs', g1, rfl, _⟩
    · exact h.apart b hb (by rw [r2]; exact hb')
    · have : g = b := by simpa [Value.ownBlock] using hb'
      subst this
      exact g1 (slm_blk h.bank hb)
  · by_cases e : j < i
    · rw [List.getD_eq_getElem?_getD, List.getElem?_append_left (by omega), ← List.getD_eq_getElem?_getD]
      exact hk _ _ _ (h3 j e)
    · have : j = i := by omega
      subst this
      rw [List.getD_eq_getElem?_getD, List.getElem?_append_right (by omega), hll]
      simpa using hk _ _ _ h4
theorem le_at {ns : List Nat} {own : Nat → Nat} {H : Mem} {j n k : Nat} {h : Value} (hl : LE ns own H j h n) (hk : k < n) : ∃ b c cs, h = .slice (some ⟨b, 0, none⟩) n c ∧ (b, 74, cs) ∈ H ∧ cs[k * 4 + 2]? = some (cellE ns j k) := by
  rcases hl with ⟨_, rfl⟩ | ⟨b, c, cs, h1, h2, _, _, _, _, h7⟩
  · omega
  · exact ⟨b, c, cs, h1, h2, h7 k hk⟩
end Go.Proofs.Ytmdfjipjkkjpcaa

/- The book's lists of bytes: the raw operations of ownBytes. -/
namespace Go.Proofs.Ytmdfjipjkkjpcaa
open Go.SX

def ptrOf : Value → Option Addr
  | .slice p _ _ => p
  | _ => none
def capOf : Value → Nat
  | .slice _ _ c => c
  | _ => 0
def blkOf (v : Value) : Nat := match ptrOf v with
  | some a => a.block
  | none => 0
/-- A slice of so many elements, off its block's beginning. -/
def Shp (v : Value) (n : Nat) : Prop := v = .slice (ptrOf v) n (capOf v) ∧ (0 < n → v = .slice (some ⟨blkOf v, 0, none⟩) n (capOf v))
theorem Shp.nil : Shp nilV 0 := ⟨rfl, fun h => absurd h (by omega)⟩
theorem Shp.blk {b n c : Nat} : Shp (.slice (some ⟨b, 0, none⟩) n c) n := ⟨rfl, fun _ => rfl⟩
theorem SlM.shp {H : Mem} {e s n c : Nat} {va : Value} {xs : List Value} (h : SlM H e s va n c xs) : Shp va n := by
  rcases h with ⟨rfl, rfl, _⟩ | ⟨b, cs, rfl, _⟩
  · exact .nil
  · exact .blk
theorem LA.shp {ns : List Nat} {own : Nat → Nat} {H : Mem} {j n : Nat} {h : Value} (hl : LA ns own H j h n) : Shp h n := by
  rcases hl with ⟨rfl, rfl⟩ | ⟨b, c, cs, rfl, _⟩
  · exact .nil
  · exact .blk
theorem MarkAt.shp {H : Mem} {i n m : Nat} {h : Value} (hl : MarkAt H i h n m) : Shp h n := by
  rcases hl with ⟨rfl, rfl⟩ | ⟨b, c, cs, rfl, _⟩
  · exact .nil
  · exact .blk
theorem Shp.one {v : Value} {n : Nat} (h : Shp v n) : v.oneCell' = true := by rw [h.1]; rfl

section
variable {v0 : Value} {H : Mem}

theorem len_c {T e n : Nat} {v : Value} (ht : Try.prog.underlying T = some (.slice e)) (hv : Shp v n) :
    ConG (rawC 4 T) [.rv 1000 fun _ => v] [(1000, .cust none (fun _ => memΦ v0 H))] Unit (fun _ => .int .i64 (.s fun _ => (n : Int))) (fun _ => [(1000, .cust none (fun _ => memΦ v0 H))]) :=
  ⟨mem_len ht (.inl (by rw [← hv.1]))⟩
theorem idx_c {T e n i : Nat} {te : TI} {v : Value} {z : Int} (ht : Try.prog.underlying T = some (.slice e)) (he : tiN e = some te) (h1 : te.size = 1) (hv : Shp v n) (hi : i < n) (hz : z = (i : Int)) :
    ConG (rawC 2 T) [.rv 1000 fun _ => v, .int .i64 (.s fun _ => z)] [(1000, .cust none (fun _ => memΦ v0 H))] Unit (fun _ => .rv 1000 fun _ => .pointer (some ⟨blkOf v, i, none⟩)) (fun _ => [(1000, .cust none (fun _ => memΦ v0 H))]) := by
  have h := mem_idx eok (H := H) (v0 := v0) (a := .rv 1000 fun _ => v) (n := n) (c := capOf v) (b := blkOf v) (o := 0) (i := i) ht he (.inl (by rw [← hv.2 (by omega)])) hz hi
  rw [h1, show 0 + i * 1 = i by omega] at h
  exact ⟨h⟩
theorem conG_map {f : Nat} {svs : List SV} {objs : Objs} {X Y : Type} {r : X → SV} {o : X → Objs} {r' : Y → SV} {o' : Y → Objs} (h : ConG f svs objs X r o) (g : X → Y) (hr : ∀ x, r x = r' (g x)) (ho : ∀ x, o x = o' (g x)) : ConG f svs objs Y r' o' :=
  ⟨fun η G vs w h1 h2 h3 => (h.1 η G vs w h1 h2 h3).mono fun _ _ ⟨x, η', G', q1, q2, q3⟩ => ⟨g x, η', G', hr x ▸ q1, ho x ▸ q2, q3⟩⟩

theorem bload_c {n c i : Nat} {va u : Value} {xs : List Value} (h : SlM H 27 1 va n c xs) (hi : i < n) (hu : u = xs.getD i nilV) (h1 : u.oneCell' = true) :
    ConG (rawC 0 27) [.rv 1000 fun _ => .pointer (some ⟨blkOf va, i, none⟩)] [(1000, .cust none (fun _ => memΦ v0 H))] Unit (fun _ => .rv 1000 fun _ => u) (fun _ => [(1000, .cust none (fun _ => memΦ v0 H))]) := by
  obtain ⟨b, cs, q1, q2, q3⟩ := slm_at h hi
  subst q1
  exact ⟨mem_load eok (T := 27) (b := b) (o := i) (u := u) (a := .rv 1000 fun _ => .pointer (some ⟨b, i, none⟩)) (r := .rv 1000 fun _ => u) (.inl rfl) rfl rfl q2 (by rw [q3, hu]) fun η G w => ⟨rfl, h1⟩⟩
theorem byte_c {ns : List Nat} {own : Nat → Nat} {n j k : Nat} {h : Value} {E : Int} (hl : LA ns own H j h n) (hk : k < n) (hE : cellAt ns j k = .int .u8 E) :
    ConG (rawC 0 5) [.rv 1000 fun _ => .pointer (some ⟨blkOf h, k, none⟩)] [(1000, .cust none (fun _ => memΦ v0 H))] Unit (fun _ => .int .u8 (.s fun _ => E)) (fun _ => [(1000, .cust none (fun _ => memΦ v0 H))]) := by
  obtain ⟨b, c, cs, q1, q2, q3⟩ := la_at hl hk
  subst q1
  exact ⟨mem_load eok (T := 5) (b := b) (o := k) (u := .int .u8 E) (a := .rv 1000 fun _ => .pointer (some ⟨b, k, none⟩)) (r := .int .u8 (.s fun _ => E)) (.inl rfl) rfl rfl q2 (by rw [q3, hE]) fun η G w => by simp [SVRel]⟩
theorem mark_c {ns : List Nat} {bb c i k n : Nat} {hd v : Value} {hs tc : List Value} {K : Mem} (h : Marks ns bb tc K hd hs c i k H) (hn : (H.map (·.1)).Nodup) (hi : i < ns.length) (hne : n = ns.getD i 0) (hk : k < n) (hv : v = hs.getD i nilV) :
    ConG (rawC 1 5) [.rv 1000 fun _ => .pointer (some ⟨blkOf v, k, none⟩), .int .u8 (.s fun _ => IntKind.u8.wrap ((i : Int) * 97 + (k : Int) * 13))] [(1000, .cust none (fun _ => memΦ v0 H))]
      {H' : Mem // Marks ns bb tc K hd hs c i (k + 1) H' ∧ (H'.map (·.1)).Nodup} (fun _ => .any) (fun y => [(1000, .cust none (fun _ => memΦ v0 y.1))]) := by
  have hsh : Shp v n := by rw [hv, hne]; exact (h.lis i hi).shp
  obtain ⟨cs, m1, m2, m3⟩ := marks_put h hn hi (by omega) (hv.symm.trans (hsh.2 (by omega)))
  have r := ConG.mk (mem_store eok (T := 5) (b := blkOf v) (o := k) (H := H) (v0 := v0) (us := [mk i k]) (a := .rv 1000 fun _ => .pointer (some ⟨blkOf v, k, none⟩)) (x := .int .u8 (.s fun _ => IntKind.u8.wrap ((i : Int) * 97 + (k : Int) * 13))) (.inl rfl) rfl m1 (by simp; omega) rfl (by simp [mk, Value.oneCell'])
    (fun η G w v hv => by simp only [SVRel, IE.den_s] at hv; subst hv; rfl))
  exact conG_map r (fun _ => ⟨_, m3, by rw [putB_names]; exact hn⟩) (fun _ => rfl) (fun _ => rfl)
theorem app_c {ns : List Nat} {bb c i k n : Nat} {hd lv x : Value} {hs tc : List Value} {K : Mem} (h : Two ns bb tc K hd hs c i (n + k) lv x H) (hne : n = ns.getD i 0) (hb : n < 1000000000) (hk : k < 16) :
    ConG (rawC 3 27) [.rv 1000 fun _ => x, .csl 1001 1 1] [(1000, .cust none (fun _ => memΦ v0 H)), (1001, .cells 5 [.int .u8 (.s fun _ => IntKind.u8.wrap ((-1 - (i : Int)) * 97 + (k : Int) * 13))])]
      {y : Value × Mem // Two ns bb tc K hd hs c i (n + (k + 1)) lv y.1 y.2} (fun y => .rv 1000 fun _ => y.1.1) (fun y => [(1000, .cust none (fun _ => memΦ v0 y.1.2)), (1001, .dead)]) := by
  obtain ⟨i5, hi5, hz5, hs5, hb5⟩ := info5x
  obtain ⟨cx, xs, old, step⟩ := two_app h
  have hcell : cellAt ns i (n + k) = mk' i k := by
    unfold cellAt
    rw [← hne, if_neg (by omega), show n + k - n = k by omega]
  rw [hcell] at step
  have r := ConG.mk (mem_app (T := 27) (e := 5) (s := 1) (H := H) (v0 := v0) (va := x) (n := n + k) (c := cx) (xs := xs) (news := [mk' i k]) (cells := [.int .u8 (.s fun _ => IntKind.u8.wrap ((-1 - (i : Int)) * 97 + (k : Int) * 13))]) Try.underlying27 hi5 hz5 (by rw [hs5]; rfl) hs5 (by decide) (by omega) old rfl (by simp [mk', Value.oneCell'])
    (fun η G w us hus => by
      match us, hus with
      | [u], hus =>
        have h : SVRel η G w (.int .u8 (.s fun _ => IntKind.u8.wrap ((-1 - (i : Int)) * 97 + (k : Int) * 13))) u := hus.1
        simp only [SVRel, IE.den_s] at h; subst h; rfl
      | [], h => exact h.elim
      | _ :: _ :: _, h => exact h.2.elim) (by rw [hb5]; omega))
  exact conG_map r (fun y => ⟨y.1, step _ _ y.2⟩) (fun _ => rfl) (fun _ => rfl)
theorem push_c {ns : List Nat} {bb c i n : Nat} {hd lv x : Value} {hs tc : List Value} {K : Mem} (h : Two ns bb tc K hd hs c i (n + 16) lv x H) (hne : n = ns.getD i 0) (hb : i < 1000000) :
    ConG (rawC 3 37) [.rv 1000 fun _ => lv, .csl 1001 1 1] [(1000, .cust none (fun _ => memΦ v0 H)), (1001, .cells 27 [.rv 1000 fun _ => x])]
      {y : Value × Mem // Two ns bb tc K hd hs c (i + 1) 0 y.1 nilV y.2} (fun y => .rv 1000 fun _ => y.1.1) (fun y => [(1000, .cust none (fun _ => memΦ v0 y.1.2)), (1001, .dead)]) := by
  obtain ⟨i27, hi27, hz27, hs27, hb27⟩ := info27x
  subst hne
  obtain ⟨cl, ls, old, step⟩ := two_push h
  have h1 : x.oneCell' = true := by
    obtain ⟨own, cl, ls, _, _, _, q⟩ := h.more
    exact q.one
  have r := ConG.mk (mem_app (T := 37) (e := 27) (s := 1) (H := H) (v0 := v0) (va := lv) (n := i) (c := cl) (xs := ls) (news := [x]) (cells := [.rv 1000 fun _ => x]) Try.underlying37 hi27 hz27 (by rw [hs27]; rfl) hs27 (by decide) (by omega) old rfl (by simpa using h1)
    (fun η G w us hus => by
      match us, hus with
      | [u], hus => rw [show u = x from hus.1.1]
      | [], h => exact h.elim
      | _ :: _ :: _, h => exact h.2.elim) (by rw [hb27]; omega))
  exact conG_map r (fun y => ⟨y.1, step _ _ y.2⟩) (fun _ => rfl) (fun _ => rfl)
/-- What is there behind pass 2. -/
def EndP (ns : List Nat) (hs : List Value) (H : Mem) (lv : Value) (nf : Nat → Nat) (hf lf : Nat → Value) : Prop :=
  ∃ own cl ls, SlM H 27 1 lv ns.length cl ls ∧ (∀ j, lf j = ls.getD j nilV) ∧ (∀ j, j < ns.length → LA ns own H j (hf j) (nf j)) ∧ ∀ j, j < ns.length → LA ns own H j (lf j) (nf j + 16)
theorem end_of {ns : List Nat} {bb c i : Nat} {hd lv x : Value} {hs tc : List Value} {K : Mem} {nf : Nat → Nat} {hf : Nat → Value} (h : Two ns bb tc K hd hs c i 0 lv x H) (hi : i = ns.length) (hnf : ∀ i, nf i = ns.getD i 0) (hhf : ∀ i, hf i = hs.getD i nilV) : ∃ lf, EndP ns hs H lv nf hf lf := by
  subst hi
  obtain ⟨own, cl, ls, h1, h2, h3, h4⟩ := h.more
  exact ⟨fun j => ls.getD j nilV, own, cl, ls, h1, fun _ => rfl, fun j hj => by rw [hhf, hnf]; exact h2 j hj, fun j hj => by rw [hnf]; exact h3 j hj⟩
section
variable {ns : List Nat} {hs : List Value} {lv : Value} {nf : Nat → Nat} {hf lf : Nat → Value}
theorem EndP.shpl (h : EndP ns hs H lv nf hf lf) : Shp lv ns.length := by obtain ⟨own, cl, ls, h1, _⟩ := h; exact SlM.shp h1
theorem EndP.shpf (h : EndP ns hs H lv nf hf lf) {j : Nat} (hj : j < ns.length) : Shp (lf j) (nf j + 16) := by obtain ⟨own, cl, ls, _, _, _, h4⟩ := h; exact (h4 j hj).shp
theorem end_load (h : EndP ns hs H lv nf hf lf) {j : Nat} (hj : j < ns.length) :
    ConG (rawC 0 27) [.rv 1000 fun _ => .pointer (some ⟨blkOf lv, j, none⟩)] [(1000, .cust none (fun _ => memΦ v0 H))] Unit (fun _ => .rv 1000 fun _ => lf j) (fun _ => [(1000, .cust none (fun _ => memΦ v0 H))]) := by
  obtain ⟨own, cl, ls, h1, h2, h3, h4⟩ := h
  exact bload_c h1 hj (h2 j) (h4 j hj).one
theorem end_own (h : EndP ns hs H lv nf hf lf) (hnf : ∀ i, nf i = ns.getD i 0) {j k : Nat} (hj : j < ns.length) (hk : k < nf j) :
    ConG (rawC 0 5) [.rv 1000 fun _ => .pointer (some ⟨blkOf (hf j), k, none⟩)] [(1000, .cust none (fun _ => memΦ v0 H))] Unit (fun _ => .int .u8 (.s fun _ => IntKind.u8.wrap ((j : Int) * 97 + (k : Int) * 13))) (fun _ => [(1000, .cust none (fun _ => memΦ v0 H))]) := by
  obtain ⟨own, cl, ls, h1, h2, h3, h4⟩ := h
  exact byte_c (h3 j hj) hk (by unfold cellAt; rw [← hnf, if_pos hk]; rfl)
theorem end_long (h : EndP ns hs H lv nf hf lf) (hnf : ∀ i, nf i = ns.getD i 0) {j k : Nat} (hj : j < ns.length) (hk : k < nf j) :
    ConG (rawC 0 5) [.rv 1000 fun _ => .pointer (some ⟨blkOf (lf j), k, none⟩)] [(1000, .cust none (fun _ => memΦ v0 H))] Unit (fun _ => .int .u8 (.s fun _ => IntKind.u8.wrap ((j : Int) * 97 + (k : Int) * 13))) (fun _ => [(1000, .cust none (fun _ => memΦ v0 H))]) := by
  obtain ⟨own, cl, ls, h1, h2, h3, h4⟩ := h
  exact byte_c (h4 j hj) (by omega) (by unfold cellAt; rw [← hnf, if_pos hk]; rfl)
theorem end_more (h : EndP ns hs H lv nf hf lf) (hnf : ∀ i, nf i = ns.getD i 0) {j k : Nat} (hj : j < ns.length) (hk : k < 16) :
    ConG (rawC 0 5) [.rv 1000 fun _ => .pointer (some ⟨blkOf (lf j), nf j + k, none⟩)] [(1000, .cust none (fun _ => memΦ v0 H))] Unit (fun _ => .int .u8 (.s fun _ => IntKind.u8.wrap ((-1 - (j : Int)) * 97 + (k : Int) * 13))) (fun _ => [(1000, .cust none (fun _ => memΦ v0 H))]) := by
  obtain ⟨own, cl, ls, h1, h2, h3, h4⟩ := h
  exact byte_c (h4 j hj) (by omega) (by unfold cellAt; rw [← hnf, if_neg (by omega), show nf j + k - nf j = k by omega]; rfl)
end
end
end Go.Proofs.Ytmdfjipjkkjpcaa

/- The book's lists of entries: the raw operations of ownEntries. -/
namespace Go.Proofs.Ytmdfjipjkkjpcaa
open Go.SX

theorem LE.shp {ns : List Nat} {own : Nat → Nat} {H : Mem} {j n : Nat} {h : Value} (hl : LE ns own H j h n) : Shp h n := by
  rcases hl with ⟨rfl, rfl⟩ | ⟨b, c, cs, rfl, _⟩
  · exact .nil
  · exact .blk
theorem MarkE.shp {H : Mem} {i n m : Nat} {h : Value} (hl : MarkE H i h n m) : Shp h n := by
  rcases hl with ⟨rfl, rfl⟩ | ⟨b, c, cs, rfl, _⟩
  · exact .nil
  · exact .blk
theorem info22x : ∃ i, Try.prog.info? 22 = some i ∧ i.zero = some (.slice none 0 0) ∧ i.size = 1 ∧ i.bytes = 24 := by
  have h := info22
  cases hi : Try.prog.info? 22 with
  | none => rw [hi] at h; cases h
  | some i =>
    rw [hi] at h
    simp only [Option.map_some, Option.some.injEq, Prod.mk.injEq] at h
    exact ⟨i, rfl, h.2.2, h.1, h.2.1⟩

section
variable {v0 : Value} {H : Mem}

theorem idx4_c {T e n i : Nat} {te : TI} {v : Value} {z : Int} (ht : Try.prog.underlying T = some (.slice e)) (he : tiN e = some te) (h1 : te.size = 4) (hv : Shp v n) (hi : i < n) (hz : z = (i : Int)) :
    ConG (rawC 2 T) [.rv 1000 fun _ => v, .int .i64 (.s fun _ => z)] [(1000, .cust none (fun _ => memΦ v0 H))] Unit (fun _ => .rv 1000 fun _ => .pointer (some ⟨blkOf v, i * 4, none⟩)) (fun _ => [(1000, .cust none (fun _ => memΦ v0 H))]) := by
  have h := mem_idx eok (H := H) (v0 := v0) (a := .rv 1000 fun _ => v) (n := n) (c := capOf v) (b := blkOf v) (o := 0) (i := i) ht he (.inl (by rw [← hv.2 (by omega)])) hz hi
  rw [h1, show 0 + i * 4 = i * 4 by omega] at h
  exact ⟨h⟩
theorem eload_c {n c i : Nat} {va u : Value} {xs : List Value} (h : SlM H 22 1 va n c xs) (hi : i < n) (hu : u = xs.getD i nilV) (h1 : u.oneCell' = true) :
    ConG (rawC 0 22) [.rv 1000 fun _ => .pointer (some ⟨blkOf va, i, none⟩)] [(1000, .cust none (fun _ => memΦ v0 H))] Unit (fun _ => .rv 1000 fun _ => u) (fun _ => [(1000, .cust none (fun _ => memΦ v0 H))]) := by
  obtain ⟨b, cs, q1, q2, q3⟩ := slm_at h hi
  subst q1
  exact ⟨mem_load eok (T := 22) (b := b) (o := i) (u := u) (a := .rv 1000 fun _ => .pointer (some ⟨b, i, none⟩)) (r := .rv 1000 fun _ => u) (.inl rfl) rfl rfl q2 (by rw [q3, hu]) fun η G w => ⟨rfl, h1⟩⟩
theorem field_c {b o : Nat} : ConG (rawC 8 (74 * 32 + 2)) [.rv 1000 fun _ => .pointer (some ⟨b, o, none⟩)] [(1000, .cust none (fun _ => memΦ v0 H))] Unit (fun _ => .rv 1000 fun _ => .pointer (some ⟨b, o + 2, none⟩)) (fun _ => [(1000, .cust none (fun _ => memΦ v0 H))]) :=
  ⟨mem_field eok (S := 74) (f := 2) (b := b) (o := o) (off := 2) (a := .rv 1000 fun _ => .pointer (some ⟨b, o, none⟩)) rfl rfl (by decide) (by decide) rfl (.inl rfl)⟩
theorem page_c {ns : List Nat} {own : Nat → Nat} {n j k : Nat} {h : Value} {E : Int} (hl : LE ns own H j h n) (hk : k < n) (hE : cellE ns j k = .int .u32 E) :
    ConG (rawC 0 72) [.rv 1000 fun _ => .pointer (some ⟨blkOf h, k * 4 + 2, none⟩)] [(1000, .cust none (fun _ => memΦ v0 H))] Unit (fun _ => .int .u32 (.s fun _ => E)) (fun _ => [(1000, .cust none (fun _ => memΦ v0 H))]) := by
  obtain ⟨b, c, cs, q1, q2, q3⟩ := le_at hl hk
  subst q1
  exact ⟨mem_load eok (T := 72) (b := b) (o := k * 4 + 2) (u := .int .u32 E) (a := .rv 1000 fun _ => .pointer (some ⟨b, k * 4 + 2, none⟩)) (r := .int .u32 (.s fun _ => E)) (.inl rfl) rfl rfl q2 (by rw [q3, hE]) fun η G w => by simp [SVRel]⟩
theorem agg_elE {z : Int} (η : OEnv) (G : Nat → Prop) (w : World) (v : Value) (hv : SVRel η G w (.agg [.nil, .nil, .int .u32 (.s fun _ => z), .int .u32 (.l 0)]) v) : v.cells.toList = elE (.int .u32 z) := by
  obtain ⟨vs, rfl, hv⟩ := hv
  match vs, hv with
  | [u1, u2, u3, u4], hv =>
    simp only [SVRels, SVRel, IE.den_l, IE.den_s] at hv
    obtain ⟨rfl, rfl, rfl, rfl, -⟩ := hv
    rfl
  | [], h => exact h.elim
  | [_], h => exact h.2.elim
  | [_, _], h => exact h.2.2.elim
  | [_, _, _], h => exact h.2.2.2.elim
  | _ :: _ :: _ :: _ :: _ :: _, h => exact h.2.2.2.2.elim
theorem cells_elE {z : Int} (η : OEnv) (G : Nat → Prop) (w : World) (us : List Value) (hv : SVRels η G w [.nil, .nil, .int .u32 (.s fun _ => z), .int .u32 (.l 0)] us) : us = elE (.int .u32 z) := by
  match us, hv with
  | [u1, u2, u3, u4], hv =>
    simp only [SVRels, SVRel, IE.den_l, IE.den_s] at hv
    obtain ⟨rfl, rfl, rfl, rfl, -⟩ := hv
    rfl
  | [], h => exact h.elim
  | [_], h => exact h.2.elim
  | [_, _], h => exact h.2.2.elim
  | [_, _, _], h => exact h.2.2.2.elim
  | _ :: _ :: _ :: _ :: _ :: _, h => exact h.2.2.2.2.elim
theorem elE_one (z : Int) : ∀ u ∈ elE (.int .u32 z), u.oneCell' = true := by simp [elE, nilV, Value.oneCell']
theorem markE_c {ns : List Nat} {bb c i k n : Nat} {hd v : Value} {hs tc : List Value} (h : MarksE ns bb tc hd hs c i k H) (hn : (H.map (·.1)).Nodup) (hi : i < ns.length) (hne : n = ns.getD i 0) (hk : k < n) (hv : v = hs.getD i nilV) :
    ConG (rawC 1 74) [.rv 1000 fun _ => .pointer (some ⟨blkOf v, k * 4, none⟩), .agg [.nil, .nil, .int .u32 (.s fun _ => IntKind.u32.wrap ((i : Int) * 1000 + (k : Int) + 7000000)), .int .u32 (.l 0)]] [(1000, .cust none (fun _ => memΦ v0 H))]
      {H' : Mem // MarksE ns bb tc hd hs c i (k + 1) H' ∧ (H'.map (·.1)).Nodup} (fun _ => .any) (fun y => [(1000, .cust none (fun _ => memΦ v0 y.1))]) := by
  have hsh : Shp v n := by rw [hv, hne]; exact (h.lis i hi).shp
  obtain ⟨cs, m1, m2, m3⟩ := marksE_put h hn hi (by omega) (hv.symm.trans (hsh.2 (by omega)))
  have r := ConG.mk (mem_store eok (T := 74) (b := blkOf v) (o := k * 4) (H := H) (v0 := v0) (us := elE (pg i k)) (a := .rv 1000 fun _ => .pointer (some ⟨blkOf v, k * 4, none⟩)) (.inl rfl) rfl m1 (by rw [elE_len]; exact m2) rfl (elE_one _) agg_elE)
  exact conG_map r (fun _ => ⟨_, m3, by rw [putB_names]; exact hn⟩) (fun _ => rfl) (fun _ => rfl)
theorem appE_c {ns : List Nat} {bb c i k n : Nat} {hd lv x : Value} {hs tc : List Value} (h : TwoE ns bb tc hd hs c i (n + k) lv x H) (hne : n = ns.getD i 0) (hb : n < 1000000000) (hk : k < 8) :
    ConG (rawC 3 22) [.rv 1000 fun _ => x, .csl 1001 4 1] [(1000, .cust none (fun _ => memΦ v0 H)), (1001, .cells 74 [.nil, .nil, .int .u32 (.s fun _ => IntKind.u32.wrap ((-1 - (i : Int)) * 1000 + (k : Int) + 7000000)), .int .u32 (.l 0)])]
      {y : Value × Mem // TwoE ns bb tc hd hs c i (n + (k + 1)) lv y.1 y.2} (fun y => .rv 1000 fun _ => y.1.1) (fun y => [(1000, .cust none (fun _ => memΦ v0 y.1.2)), (1001, .dead)]) := by
  obtain ⟨i5, hi5, hz5, hs5, hb5⟩ := info74x
  obtain ⟨cx, xs, old, step⟩ := twoE_app h
  have hcell : cellE ns i (n + k) = pg' i k := by
    unfold cellE
    rw [← hne, if_neg (by omega), show n + k - n = k by omega]
  rw [hcell] at step
  have r := ConG.mk (mem_app (T := 22) (e := 74) (s := 4) (H := H) (v0 := v0) (va := x) (n := n + k) (c := cx) (xs := xs) (news := elE (pg' i k)) Try.underlying22 hi5 hz5 (by rw [hs5]; rfl) hs5 (by decide) (by omega) old rfl (elE_one _) cells_elE (by rw [hb5]; omega))
  exact conG_map r (fun y => ⟨y.1, step _ _ y.2⟩) (fun _ => rfl) (fun _ => rfl)
theorem pushE_c {ns : List Nat} {bb c i n : Nat} {hd lv x : Value} {hs tc : List Value} (h : TwoE ns bb tc hd hs c i (n + 8) lv x H) (hne : n = ns.getD i 0) (hb : i < 1000) :
    ConG (rawC 3 53) [.rv 1000 fun _ => lv, .csl 1001 1 1] [(1000, .cust none (fun _ => memΦ v0 H)), (1001, .cells 22 [.rv 1000 fun _ => x])]
      {y : Value × Mem // TwoE ns bb tc hd hs c (i + 1) 0 y.1 nilV y.2} (fun y => .rv 1000 fun _ => y.1.1) (fun y => [(1000, .cust none (fun _ => memΦ v0 y.1.2)), (1001, .dead)]) := by
  obtain ⟨i27, hi27, hz27, hs27, hb27⟩ := info22x
  subst hne
  obtain ⟨cl, ls, old, step⟩ := twoE_push h
  have h1 : x.oneCell' = true := by
    obtain ⟨own, cl, ls, _, _, _, q⟩ := h.more
    exact q.one
  have r := ConG.mk (mem_app (T := 53) (e := 22) (s := 1) (H := H) (v0 := v0) (va := lv) (n := i) (c := cl) (xs := ls) (news := [x]) (cells := [.rv 1000 fun _ => x]) Try.underlying53 hi27 hz27 (by rw [hs27]; rfl) hs27 (by decide) (by omega) old rfl (by simpa using h1)
    (fun η G w us hus => by
      match us, hus with
      | [u], hus => rw [show u = x from hus.1.1]
      | [], h => exact h.elim
      | _ :: _ :: _, h => exact h.2.elim) (by rw [hb27]; omega))
  exact conG_map r (fun y => ⟨y.1, step _ _ y.2⟩) (fun _ => rfl) (fun _ => rfl)
/-- What is there behind pass 2. -/
def EndE (ns : List Nat) (H : Mem) (lv : Value) (nf : Nat → Nat) (hf lf : Nat → Value) : Prop :=
  ∃ own cl ls, SlM H 22 1 lv ns.length cl ls ∧ (∀ j, lf j = ls.getD j nilV) ∧ (∀ j, j < ns.length → LE ns own H j (hf j) (nf j)) ∧ ∀ j, j < ns.length → LE ns own H j (lf j) (nf j + 8)
theorem endE_of {ns : List Nat} {bb c i : Nat} {hd lv x : Value} {hs tc : List Value} {nf : Nat → Nat} {hf : Nat → Value} (h : TwoE ns bb tc hd hs c i 0 lv x H) (hi : i = ns.length) (hnf : ∀ i, nf i = ns.getD i 0) (hhf : ∀ i, hf i = hs.getD i nilV) : ∃ lf, EndE ns H lv nf hf lf := by
  subst hi
  obtain ⟨own, cl, ls, h1, h2, h3, h4⟩ := h.more
  exact ⟨fun j => ls.getD j nilV, own, cl, ls, h1, fun _ => rfl, fun j hj => by rw [hhf, hnf]; exact h2 j hj, fun j hj => by rw [hnf]; exact h3 j hj⟩
section
variable {ns : List Nat} {lv : Value} {nf : Nat → Nat} {hf lf : Nat → Value}
theorem EndE.shpl (h : EndE ns H lv nf hf lf) : Shp lv ns.length := by obtain ⟨own, cl, ls, h1, _⟩ := h; exact SlM.shp h1
theorem EndE.shpf (h : EndE ns H lv nf hf lf) {j : Nat} (hj : j < ns.length) : Shp (lf j) (nf j + 8) := by obtain ⟨own, cl, ls, _, _, _, h4⟩ := h; exact (h4 j hj).shp
theorem endE_load (h : EndE ns H lv nf hf lf) {j : Nat} (hj : j < ns.length) :
    ConG (rawC 0 22) [.rv 1000 fun _ => .pointer (some ⟨blkOf lv, j, none⟩)] [(1000, .cust none (fun _ => memΦ v0 H))] Unit (fun _ => .rv 1000 fun _ => lf j) (fun _ => [(1000, .cust none (fun _ => memΦ v0 H))]) := by
  obtain ⟨own, cl, ls, h1, h2, h3, h4⟩ := h
  exact eload_c h1 hj (h2 j) (h4 j hj).one
theorem endE_own (h : EndE ns H lv nf hf lf) (hnf : ∀ i, nf i = ns.getD i 0) {j k : Nat} (hj : j < ns.length) (hk : k < nf j) :
    ConG (rawC 0 72) [.rv 1000 fun _ => .pointer (some ⟨blkOf (hf j), k * 4 + 2, none⟩)] [(1000, .cust none (fun _ => memΦ v0 H))] Unit (fun _ => .int .u32 (.s fun _ => IntKind.u32.wrap ((j : Int) * 1000 + (k : Int) + 7000000))) (fun _ => [(1000, .cust none (fun _ => memΦ v0 H))]) := by
  obtain ⟨own, cl, ls, h1, h2, h3, h4⟩ := h
  exact page_c (h3 j hj) hk (by unfold cellE; rw [← hnf, if_pos hk]; rfl)
theorem endE_long (h : EndE ns H lv nf hf lf) (hnf : ∀ i, nf i = ns.getD i 0) {j k : Nat} (hj : j < ns.length) (hk : k < nf j) :
    ConG (rawC 0 72) [.rv 1000 fun _ => .pointer (some ⟨blkOf (lf j), k * 4 + 2, none⟩)] [(1000, .cust none (fun _ => memΦ v0 H))] Unit (fun _ => .int .u32 (.s fun _ => IntKind.u32.wrap ((j : Int) * 1000 + (k : Int) + 7000000))) (fun _ => [(1000, .cust none (fun _ => memΦ v0 H))]) := by
  obtain ⟨own, cl, ls, h1, h2, h3, h4⟩ := h
  exact page_c (h4 j hj) (by omega) (by unfold cellE; rw [← hnf, if_pos hk]; rfl)
theorem endE_more (h : EndE ns H lv nf hf lf) (hnf : ∀ i, nf i = ns.getD i 0) {j k : Nat} (hj : j < ns.length) (hk : k < 8) :
    ConG (rawC 0 72) [.rv 1000 fun _ => .pointer (some ⟨blkOf (lf j), (nf j + k) * 4 + 2, none⟩)] [(1000, .cust none (fun _ => memΦ v0 H))] Unit (fun _ => .int .u32 (.s fun _ => IntKind.u32.wrap ((-1 - (j : Int)) * 1000 + (k : Int) + 7000000))) (fun _ => [(1000, .cust none (fun _ => memΦ v0 H))]) := by
  obtain ⟨own, cl, ls, h1, h2, h3, h4⟩ := h
  exact page_c (h4 j hj) (by omega) (by unfold cellE; rw [← hnf, if_neg (by omega), show nf j + k - nf j = k by omega]; rfl)
end
end
end Go.Proofs.Ytmdfjipjkkjpcaa

/- The book: lists of bytes and of entries; the lists' headers only. -/
namespace Go.SX
section
variable {P : Program} {f : Nat}
theorem specX_frame {svs svs2 : List SV} {r : SV} {objs objs2 objs' objs2' : Objs} {k : Nat} {A : TObj} (hA : Frm A) (h : SpecX P f svs objs r objs') (hk : lookN k objs = none) (hk' : lookN k objs' = none)
    (h2 : ∀ j, lookN j objs2 = if j = k then some A else lookN j objs) (h2' : ∀ j, lookN j objs2' = if j = k then some A else lookN j objs')
    (hc : ∀ j Y, lookN j objs = some Y → Cst Y) (hc' : ∀ j Y, lookN j objs' = some Y → Cst Y)
    (hsv : ∀ (η : OEnv) (G : Nat → Prop) (w : World) (vs : List Value), SVRels η G w svs2 vs → SVRels (fun j => if j = k then none else η j) G w svs vs)
    (hr : ∀ (η η' : OEnv) (G : Nat → Prop) (w : World) (v : Value), SVRel η G w r v → SVRel η' G w r v) : SpecX P f svs2 objs2 r objs2' := by
  have hg : SpecG P f svs objs Unit (fun _ => r) (fun _ => objs') := fun η G vs w q1 q2 q3 => (h η G vs w q1 q2 q3).mono fun _ _ ⟨η', G', hh⟩ => ⟨(), η', G', hh⟩
  have := specG_frame (X := Unit) (r := fun _ => r) (objs' := fun _ => objs') (objs2' := fun _ => objs2') hA hg hk (fun _ => hk') h2 (fun _ => h2') hc (fun _ => hc') hsv (fun _ => hr)
  exact fun η G vs w q1 q2 q3 => (this η G vs w q1 q2 q3).mono fun _ _ ⟨_, η', G', hh⟩ => ⟨η', G', hh⟩
theorem look_two {k : Nat} {A B : TObj} (hk : k ≠ 1000) (j : Nat) : lookN j [(1000, A), (k, B)] = if j = k then some B else lookN j [(1000, A)] := by
  simp only [look_cons, look_nil]
  by_cases e : j = k
  · subst e; simp [hk]
  · simp [e]
theorem cst_one {A : TObj} (hA : Cst A) {j : Nat} {Y : TObj} (h : lookN j [(1000, A)] = some Y) : Cst Y := by
  simp only [look_cons, look_nil] at h
  split at h
  · cases h; exact hA
  · cases h
theorem tup_any (η η' : OEnv) (G : Nat → Prop) (w : World) (v : Value) (h : SVRel η G w (.tup []) v) : SVRel η' G w (.tup []) v := by
  obtain ⟨vs, rfl, h⟩ := h
  match vs, h with
  | [], _ => exact ⟨[], rfl, trivial⟩
  | _ :: _, h => exact h.elim
theorem rv_any {k : Nat} {x : Unit → Value} (η η' : OEnv) (G : Nat → Prop) (w : World) (v : Value) (h : SVRel η G w (.rv k x) v) : SVRel η' G w (.rv k x) v := h
theorem loc_keep {k : Nat} (hk : k ≠ 1000) {η : OEnv} {G : Nat → Prop} {w : World} {o : Nat} {v : Value} (h : SVRel η G w (.loc 1000 o) v) : SVRel (fun j => if j = k then none else η j) G w (.loc 1000 o) v := by
  obtain ⟨o', h1, h2⟩ := h
  exact ⟨o', by show (if 1000 = k then none else η 1000) = some o'; rw [if_neg fun e => hk e.symm]; exact h1, h2⟩
end
end Go.SX
namespace Go.Proofs.Ytmdfjipjkkjpcaa
open Go.SX

/-- The book's own memory: its block, and the headers of the lists that it was handed. -/
def BookM (hb he : List Value) (H : Mem) : Prop := ∃ bb hd e r c c', H = (bb, 61, topC hd e) :: r ∧ SlM H 27 1 hd hb.length c hb ∧ SlM H 22 1 e he.length c' he

theorem slm_keep {H H' : Mem} {e s n c : Nat} {va : Value} {xs : List Value} (h : SlM H e s va n c xs) (hk : ∀ p ∈ H, p.2.1 = e → p ∈ H') : SlM H' e s va n c xs := by
  rcases h with q | ⟨b, cs, q1, q2, q3⟩
  · exact .inl q
  · exact .inr ⟨b, cs, q1, hk _ q2 rfl, q3⟩
theorem slm_one {H : Mem} {e s n c : Nat} {va : Value} {xs : List Value} (h : SlM H e s va n c xs) : va.oneCell' = true := by
  rcases h with ⟨rfl, _⟩ | ⟨b, cs, rfl, _⟩ <;> rfl
theorem app_one {H H' : Mem} {e s n c m : Nat} {va va' : Value} {xs news : List Value} (hA : App H e s va n c m xs news va' H') : va'.oneCell' = true := by
  rcases hA.2 with ⟨_, b, cs, _, _, h, _⟩ | ⟨_, g, c', cs', _, h, _⟩ <;> rw [h] <;> rfl

theorem topC_hd (hd e v : Value) : (topC hd e).take 0 ++ [v] ++ (topC hd e).drop (0 + [v].length) = topC v e := rfl
theorem topC_e (hd e v : Value) : (topC hd e).take 16 ++ [v] ++ (topC hd e).drop (16 + [v].length) = topC hd v := rfl

theorem bookM_put {hb he : List Value} {H H' r : Mem} {bb c c' : Nat} {hd e hv va' : Value} (hH : H = (bb, 61, topC hd e) :: r) (hbk : SlM H 27 1 hd hb.length c hb) (hek : SlM H 22 1 e he.length c' he) (hA : App H 27 1 hd hb.length c 1 hb [hv] va' H') :
    (∃ r', H' = (bb, 61, topC hd e) :: r') ∧ BookM (hb ++ [hv]) he (putB H' bb (topC va' e)) := by
  have hnd := app_nodup hA
  obtain ⟨r', hr'⟩ := app_top hA hnd hH (by show (61 : Nat) ≠ 27; decide)
  obtain ⟨c2, hsl⟩ := app_slm hA hnd hbk rfl
  have hnd' := hA.1
  have htm : (bb, 61, topC hd e) ∈ H' := by rw [hr']; exact List.mem_cons_self
  have hput : putB H' bb (topC va' e) = (bb, 61, topC va' e) :: r' := by
    rw [hr'] at hnd' ⊢; exact putB_top (p := (bb, 61, topC hd e)) hnd' _
  have hk : ∀ p ∈ H', p.2.1 ≠ 61 → p ∈ putB H' bb (topC va' e) := fun p hp h61 => putB_other hp fun e1 => h61 (by rw [mem_eq hA.1 hp htm e1])
  refine ⟨⟨r', hr'⟩, bb, va', e, r', c2, c', hput, ?_, ?_⟩
  · rw [List.length_append]; exact slm_keep hsl fun p hp h => hk p hp (by omega)
  · exact slm_keep hek fun p hp h => hk p (app_keep hA hnd hp (by omega)) (by omega)
theorem bookM_pute {hb he : List Value} {H H' r : Mem} {bb c c' : Nat} {hd e hv va' : Value} (hH : H = (bb, 61, topC hd e) :: r) (hbk : SlM H 27 1 hd hb.length c hb) (hek : SlM H 22 1 e he.length c' he) (hA : App H 22 1 e he.length c' 1 he [hv] va' H') :
    (∃ r', H' = (bb, 61, topC hd e) :: r') ∧ BookM hb (he ++ [hv]) (putB H' bb (topC hd va')) := by
  have hnd := app_nodup hA
  obtain ⟨r', hr'⟩ := app_top hA hnd hH (by show (61 : Nat) ≠ 22; decide)
  obtain ⟨c2, hsl⟩ := app_slm hA hnd hek rfl
  have hnd' := hA.1
  have htm : (bb, 61, topC hd e) ∈ H' := by rw [hr']; exact List.mem_cons_self
  have hput : putB H' bb (topC hd va') = (bb, 61, topC hd va') :: r' := by
    rw [hr'] at hnd' ⊢; exact putB_top (p := (bb, 61, topC hd e)) hnd' _
  have hk : ∀ p ∈ H', p.2.1 ≠ 61 → p ∈ putB H' bb (topC hd va') := fun p hp h61 => putB_other hp fun e1 => h61 (by rw [mem_eq hA.1 hp htm e1])
  refine ⟨⟨r', hr'⟩, bb, hd, va', r', c, c2, hput, ?_, ?_⟩
  · exact slm_keep hbk fun p hp h => hk p (app_keep hA hnd hp (by omega)) (by omega)
  · rw [List.length_append]; exact slm_keep hsl fun p hp h => hk p hp (by omega)

set_option maxRecDepth 20000 in
set_option maxHeartbeats 1000000 in
theorem con18h {H : Mem} {hb he : List Value} {v0 hv : Value} (hB : BookM hb he H) (hone : hv.oneCell' = true) (hl : hb.length < 1000000) :
    Con 18 [.loc 1000 0, .rv 0 (fun _ => hv)] [(1000, .cust none (fun _ => memΦ v0 H))] (.tup []) [(1000, .cust none (fun _ => exΦ v0 (BookM (hb ++ [hv]) he)))] := by
  obtain ⟨i, hi, hz, hs1, hby⟩ := info27x
  obtain ⟨bb, hd, e, r, c, c', hH, hbk, hek⟩ := hB
  have htop : topQ bb (topC hd e) H := ⟨r, hH⟩
  have r1 : ConG (rawC 0 37) [.loc 1000 0] [(1000, .cust none (fun _ => memΦ v0 H))] Unit (fun _ => .rv 1000 fun _ => hd) (fun _ => [(1000, .cust none (fun _ => memΦ v0 H))]) := by
    obtain ⟨p1, Tb, cs, p2, p3⟩ := htop.cell (o := 0) rfl
    exact ⟨mem_load eok (T := 37) (b := bb) (o := 0) (u := hd) p1 rfl rfl p2 p3 fun η G w => ⟨rfl, slm_one hbk⟩⟩
  have r2 := ConG.mk (mem_app (T := 37) (e := 27) (s := 1) (H := H) (v0 := v0) (va := hd) (n := hb.length) (c := c) (xs := hb) (news := [hv]) (cells := [.rv 0 fun _ => hv]) Try.underlying37 hi hz (by rw [hs1]; rfl) hs1 (by decide) (by omega) hbk rfl (by simpa using hone)
    (fun η G w us hus => by
      match us, hus with
      | [u], hus => rw [show u = hv from hus.1.1]
      | [], h => exact h.elim
      | _ :: _ :: _, h => exact h.2.elim) (by rw [hby]; omega))
  refine con_of Try.func18 rfl rfl 14 _ rfl rfl rfl rfl ?_
  cbv
  refine ⟨Unit, _, _, r1, ⟨by kernel_rfl⟩, fun _ => ⟨⟨by kernel_rfl⟩, ?_⟩⟩
  cbv
  refine ⟨_, _, _, r2, ⟨by kernel_rfl⟩, fun x => ⟨⟨by kernel_rfl⟩, ?_⟩⟩
  have hA : App H 27 1 hd hb.length c 1 hb [hv] x.1.1 x.1.2 := x.2
  have hp := bookM_put hH hbk hek hA
  have r3 := ConG.mk (mem_store eok (T := 37) (b := bb) (o := 0) (v0 := v0) (cs := topC hd e) (us := [x.1.1]) (a := .loc 1000 0) (x := .rv 1000 fun _ => x.1.1) (.inr ⟨rfl, _, _, by obtain ⟨r', h⟩ := hp.1; exact ⟨r', h⟩⟩) rfl (by obtain ⟨r', h⟩ := hp.1; rw [h]; exact List.mem_cons_self) (by simp [topC]) rfl (by simpa using app_one hA) (fun η G w v h => by
    simp only [SVRel] at h
    obtain ⟨h, h2⟩ := h
    subst h
    rw [one_cells h2]))
  have fin : ∀ w v B, memΦ v0 (putB x.1.2 bb ((topC hd e).take 0 ++ [x.1.1] ++ (topC hd e).drop (0 + [x.1.1].length))) w v B → exΦ v0 (BookM (hb ++ [hv]) he) w v B := fun w v B h =>
    ⟨_, by rw [topC_hd]; exact hp.2, by rw [putB_names]; exact hA.1, h⟩
  cbv
  refine ⟨Unit, _, _, r3, ⟨by kernel_rfl⟩, fun _ => ⟨⟨by kernel_rfl⟩, ?_⟩⟩
  cbv
  refine ⟨[(1000, some 1000)], [], ?_⟩
  cbv
  and_intros
  all_goals first | exact trivial | exact ⟨rfl⟩ | exact ⟨rfl, fin⟩ | exact ⟨by kernel_rfl⟩

/-- The same, of memory of which so much is known, beside an object that stays. -/
theorem con18f {hb he : List Value} {v0 hv : Value} {A : TObj} (hA : Frm A) (hone : hv.oneCell' = true) (hl : hb.length < 1000000) :
    Con 18 [.loc 1000 0, .rv 1001 (fun _ => hv)] [(1000, .cust none (fun _ => exΦ v0 (BookM hb he))), (1001, A)] (.tup []) [(1000, .cust none (fun _ => exΦ v0 (BookM (hb ++ [hv]) he))), (1001, A)] := by
  have h1 : SpecX Try.prog 18 [.loc 1000 0, .rv 0 (fun _ => hv)] [(1000, .cust none (fun _ => exΦ v0 (BookM hb he)))] (.tup []) [(1000, .cust none (fun _ => exΦ v0 (BookM (hb ++ [hv]) he)))] :=
    specX_conv (Y := Mem) (F := fun H => BookM hb he H) (X' := fun H => .cust none (fun _ => memΦ v0 H)) (fun η G w o ho => by
      obtain ⟨H, q1, q2, q3⟩ := cust_open (η := η) (G := G) ex_id ho
      exact ⟨H, q1, q3⟩) fun H hH => (con18h hH hone hl).spec
  exact ⟨specX_frame (k := 1001) hA h1 (by rw [lookN_one]; rfl) (by rw [lookN_one]; rfl) (look_two (by decide)) (look_two (by decide)) (fun j Y h => cst_one cst_cust h) (fun j Y h => cst_one cst_cust h) (fun η G w vs h => by
    match vs, h with
    | [v1, v2], h => exact ⟨loc_keep (by decide) h.1, h.2.1, trivial⟩
    | [], h => exact h.elim
    | [_], h => exact h.2.elim
    | _ :: _ :: _ :: _, h => exact h.2.2.elim) tup_any⟩
end Go.Proofs.Ytmdfjipjkkjpcaa

