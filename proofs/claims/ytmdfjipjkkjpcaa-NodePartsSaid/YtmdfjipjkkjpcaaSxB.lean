/- SX, second part: what symbolic values and objects mean in a world, and what keeps their meaning. -/
import Derived.Laws.AppendOwn
import Derived.Test.YtmdfjipjkkjpcaaSxA
namespace Go.SX

structure OInfo where
  val : Value
  main : List Nat
  inner : List Nat
  dead : Bool

abbrev OEnv := Nat → Option OInfo

def DVRel (w : World) (S : Nat → Prop) : DV → Value → Prop
  | .int k x, v => v = .int k (x ())
  | .bool b, v => v = .bool (b ())
  | .str bs, v => v = .string ⟨(bs ()).toArray⟩
  | .bytes bs, v => ∃ a c, v = .slice a (bs ()).length c ∧ (bs ()).length ≤ c ∧ ∀ (i : Nat) (x : UInt8), (bs ())[i]? = some x → ∃ b o, a = some ⟨b, o, none⟩ ∧ S b ∧ w.cell? ⟨b, o + i, none⟩ = some (.int .u8 (x.toNat : Int))
  | .sl wd n row, v => ∃ a c, v = .slice a (n ()) c ∧ n () ≤ c ∧ ∀ i, i < n () → ∃ b o, a = some ⟨b, o, none⟩ ∧ S b ∧ ∀ j, j < wd → ∃ u, w.cell? ⟨b, o + i * wd + j, none⟩ = some u ∧ DVRel w S (row (fun _ => i) j) u

/-- Data that a list of blocks holds alone: each block one array, from its first cell on. -/
def ORel (w : World) : DV → Value → List Nat → Prop
  | .int k x, v, B => v = .int k (x ()) ∧ B = []
  | .bool b, v, B => v = .bool (b ()) ∧ B = []
  | .str bs, v, B => v = .string ⟨(bs ()).toArray⟩ ∧ B = []
  | .bytes bs, v, B => (v = .slice none 0 0 ∧ bs () = [] ∧ B = []) ∨
      ∃ (b c : Nat) (cs : Array Value) (T : Nat × Nat × Nat), v = .slice (some ⟨b, 0, none⟩) (bs ()).length c ∧ w.heap[b]? = some (.cells cs T.1 T.2) ∧ c ≤ cs.size ∧ (bs ()).length ≤ c ∧ c ≤ maxLen ∧
        (∀ (i : Nat) (x : UInt8), (bs ())[i]? = some x → cs[i]? = some (.int .u8 (x.toNat : Int))) ∧ B = [b]
  | .sl wd n row, v, B => (v = .slice none 0 0 ∧ n () = 0 ∧ B = []) ∨
      ∃ (b c : Nat) (cs : Array Value) (T : Nat × Nat × Nat) (Bs : Nat → Nat → List Nat), v = .slice (some ⟨b, 0, none⟩) (n ()) c ∧ w.heap[b]? = some (.cells cs T.1 T.2) ∧ c * wd ≤ cs.size ∧ n () ≤ c ∧ c ≤ maxLen ∧
        (∀ i j, i < n () → j < wd → ∃ u, cs[i * wd + j]? = some u ∧ ORel w (row (fun _ => i) j) u (Bs i j)) ∧
        B = b :: (List.range (n ())).flatMap (fun i => (List.range wd).flatMap (Bs i)) ∧ B.Nodup

mutual
def SVRel (η : OEnv) (G : Nat → Prop) (w : World) : SV → Value → Prop
  | .any, _ => True
  | .nil, v => v = .slice none 0 0
  | .int k e, v => v = .int k e.den
  | .bool e, v => v = .bool e.den
  | .str bs, v => v = .string ⟨(bs ()).toArray⟩
  | .val x, v => v = x
  | .dat d, v => DVRel w G d v
  | .view k d, v => ∃ o, η k = some o ∧ v.oneCell' = true ∧ (o.dead = false → DVRel w (fun b => b ∈ o.inner) d v)
  | .own k, v => ∃ o, η k = some o ∧ v.oneCell' = true ∧ (o.dead = false → v = o.val)
  | .csl k _ n, v => ∃ o, η k = some o ∧ v.oneCell' = true ∧ (o.dead = false → ∃ b, o.main = [b] ∧ v = .slice (some ⟨b, 0, none⟩) n n)
  | .loc k off, v => ∃ o, η k = some o ∧ v.oneCell' = true ∧ (o.dead = false → ∃ b, o.main = [b] ∧ v = .pointer (some ⟨b, off, none⟩))
  | .op k wd i off, v => ∃ o, η k = some o ∧ v.oneCell' = true ∧ (o.dead = false → ∃ b, o.main = [b] ∧ (∃ n c, o.val = .slice (some ⟨b, 0, none⟩) n c ∧ i () < n) ∧ v = .pointer (some ⟨b, i () * wd + off, none⟩))
  | .ep none wd cells off, v => ∃ b o, v = .pointer (some ⟨b, o + off, none⟩) ∧ G b ∧ ∀ j, j < wd → ∃ u, w.cell? ⟨b, o + j, none⟩ = some u ∧ DVRel w G (cells j) u
  | .ep (some k) wd cells off, v => ∃ oi, η k = some oi ∧ v.oneCell' = true ∧ (oi.dead = false → ∃ b o, v = .pointer (some ⟨b, o + off, none⟩) ∧ b ∈ oi.inner ∧
      ∀ j, j < wd → ∃ u, w.cell? ⟨b, o + j, none⟩ = some u ∧ DVRel w (fun b => b ∈ oi.inner) (cells j) u)
  | .agg cs, v => ∃ vs : List Value, v = .agg ⟨vs⟩ ∧ SVRels η G w cs vs
  | .tup cs, v => ∃ vs : List Value, v = .tuple ⟨vs⟩ ∧ SVRels η G w cs vs
  | .fn f caps, v => ∃ vs : List Value, v = .func (.func f) #[] ⟨vs⟩ ∧ SVRels η G w caps vs
  | .nn d, v => DVRel w G d v ∧ ∃ p n c, v = .slice (some p) n c
def SVRels (η : OEnv) (G : Nat → Prop) (w : World) : List SV → List Value → Prop
  | [], [] => True
  | c :: cs, v :: vs => SVRel η G w c v ∧ SVRels η G w cs vs
  | _, _ => False
end

/-- A slice that owns a block's cells from the first one on. -/
def ownsBlk (w : World) (o : OInfo) (T₀ wd n : Nat) (P : Array Value → Prop) : Prop :=
  (o.val = .slice none 0 0 ∧ n = 0 ∧ o.main = []) ∨
  ∃ (b c : Nat) (cs : Array Value) (T : Nat × Nat × Nat), o.val = .slice (some ⟨b, 0, none⟩) n c ∧ o.main = [b] ∧ w.heap[b]? = some (.cells cs T.1 T.2) ∧ (cs.size = c * wd ∧ (T₀ = 0 ∨ T = (T₀, 0, 0))) ∧ n ≤ c ∧ c ≤ maxLen ∧ P cs

def ObjRel (η : OEnv) (G : Nat → Prop) (w : World) : TObj → OInfo → Prop
  | .cells T cs, o => o.dead = false ∧ o.inner = [] ∧ ∃ b vs, o.main = [b] ∧ w.heap[b]? = some (.cells ⟨vs⟩ T (0, 0)) ∧ SVRels η G w cs vs
  | .barr T₀ bs, o => o.dead = false ∧ o.inner = [] ∧ ownsBlk w o T₀ 1 (bs ()).length fun cs => ∀ (i : Nat) (x : UInt8), (bs ())[i]? = some x → cs[i]? = some (.int .u8 (x.toNat : Int))
  | .arrS T₀ wd n row, o => o.dead = false ∧ o.inner = [] ∧ ownsBlk w o T₀ wd (n ()) fun cs => ∀ i j, i < n () → j < wd → ∃ u, cs[i * wd + j]? = some u ∧ DVRel w G (row (fun _ => i) j) u
  | .arrD T₀ wd n row, o => o.dead = false ∧ ∃ Bs : Nat → Nat → List Nat,
      (∀ i j b, i < n () → j < wd → b ∈ Bs i j → b ∈ o.inner) ∧ ((List.range (n ())).flatMap fun i => (List.range wd).flatMap (Bs i)).Nodup ∧
      ownsBlk w o T₀ wd (n ()) fun cs => ∀ i j, i < n () → j < wd → ∃ u, cs[i * wd + j]? = some u ∧ ORel w (row (fun _ => i) j) u (Bs i j)
  | .setI k ks, o => o.dead = false ∧ o.inner = [] ∧ ∃ b es cl, o.val = .map (some b) ∧ o.main = [b] ∧ w.heap[b]? = some (.map es cl) ∧
      (∀ x ∈ ks (), k.wrap x = x) ∧ es.toList.map (fun e => (e.key, e.val)) = (ks ()).map fun x => (Value.int k x, Value.bool true)
  | .dead, o => o.dead = true ∧ o.main = [] ∧ o.inner = []

def ObjOpt (η : OEnv) (G : Nat → Prop) (w : World) : Option TObj → Option OInfo → Prop
  | some x, some o => ObjRel η G w x o
  | none, none => True
  | _, _ => False

structure Sep (η : OEnv) (G : Nat → Prop) (w : World) : Prop where
  lt : ∀ k o, η k = some o → ∀ b ∈ o.main ++ o.inner, b < w.heap.size ∧ ¬ G b
  dj : ∀ k o k' o', η k = some o → η k' = some o' → k ≠ k' → ∀ b ∈ o.main ++ o.inner, b ∉ o'.main ++ o'.inner
  mi : ∀ k o, η k = some o → ∀ b ∈ o.main, b ∉ o.inner
  glt : ∀ b, G b → b < w.heap.size

/-- What a step may change. -/
structure Evol (η : OEnv) (G : Nat → Prop) (w : World) (η' : OEnv) (G' : Nat → Prop) (w' : World) : Prop where
  os : w'.os = w.os
  tape : w'.tape = w.tape
  out : w'.output = w.output
  size : w.heap.size ≤ w'.heap.size
  keep : ∀ b, b < w.heap.size → (∀ k o, η k = some o → b ∉ o.main ++ o.inner) → w'.heap[b]? = w.heap[b]?
  obj : ∀ k o, η k = some o → ∃ o', η' k = some o' ∧ (o'.dead = false → o.dead = false ∧ o'.val = o.val ∧ o'.main = o.main ∧ ∀ b ∈ o.inner, b ∈ o'.inner ∧ w'.heap[b]? = w.heap[b]?)
  g : ∀ b, G b → G' b
  g' : ∀ b, G' b → G b ∨ w.heap.size ≤ b ∨ ∃ k o, η k = some o ∧ b ∈ o.main ++ o.inner
  blk : ∀ k o, η' k = some o → ∀ b ∈ o.main ++ o.inner, w.heap.size ≤ b ∨ ∃ k₀ o₀, η k₀ = some o₀ ∧ b ∈ o₀.main ++ o₀.inner

/-- What keeps values' meaning. -/
structure Mono (η : OEnv) (G : Nat → Prop) (w : World) (η' : OEnv) (G' : Nat → Prop) (w' : World) : Prop where
  g : ∀ b, G b → G' b
  hg : ∀ b, G b → w'.heap[b]? = w.heap[b]?
  obj : ∀ k o, η k = some o → ∃ o', η' k = some o' ∧ (o'.dead = false → o.dead = false ∧ o'.val = o.val ∧ o'.main = o.main ∧ ∀ b ∈ o.inner, b ∈ o'.inner ∧ w'.heap[b]? = w.heap[b]?)

theorem cell_of_heap {w w' : World} {b : Nat} (h : w'.heap[b]? = w.heap[b]?) (o : Nat) : w'.cell? ⟨b, o, none⟩ = w.cell? ⟨b, o, none⟩ := by
  simp only [World.cell?, h]

theorem cell_cells {w : World} {b : Nat} {cs : Array Value} {T : Nat} {f : Nat × Nat} (h : w.heap[b]? = some (.cells cs T f)) (o : Nat) : w.cell? ⟨b, o, none⟩ = cs[o]? := by
  simp [World.cell?, h]

theorem DVRel.mono {w w' : World} {S S' : Nat → Prop} (hS : ∀ b, S b → S' b) (hw : ∀ b, S b → w'.heap[b]? = w.heap[b]?) :
    ∀ (d : DV) (v : Value), DVRel w S d v → DVRel w' S' d v
  | .int _ _, _, h => h
  | .bool _, _, h => h
  | .str _, _, h => h
  | .bytes _, _, ⟨a, c, hv, hc, h⟩ => ⟨a, c, hv, hc, fun i x hx => by
      obtain ⟨b, o, ha, hb, hcell⟩ := h i x hx
      exact ⟨b, o, ha, hS b hb, by rw [cell_of_heap (hw b hb)]; exact hcell⟩⟩
  | .sl wd n row, _, ⟨a, c, hv, hc, h⟩ => ⟨a, c, hv, hc, fun i hi => by
      obtain ⟨b, o, ha, hb, hr⟩ := h i hi
      refine ⟨b, o, ha, hS b hb, fun j hj => ?_⟩
      obtain ⟨u, hu, hd⟩ := hr j hj
      exact ⟨u, by rw [cell_of_heap (hw b hb)]; exact hu, DVRel.mono hS hw (row (fun _ => i) j) u hd⟩⟩

theorem mem_flat {n wd : Nat} {Bs : Nat → Nat → List Nat} {i j b : Nat} (hi : i < n) (hj : j < wd) (hb : b ∈ Bs i j) :
    b ∈ (List.range n).flatMap fun i => (List.range wd).flatMap (Bs i) :=
  List.mem_flatMap.2 ⟨i, List.mem_range.2 hi, List.mem_flatMap.2 ⟨j, List.mem_range.2 hj, hb⟩⟩

theorem ORel.mono {w w' : World} : ∀ (d : DV) (v : Value) (B : List Nat), (∀ b ∈ B, w'.heap[b]? = w.heap[b]?) → ORel w d v B → ORel w' d v B
  | .int _ _, _, _, _, h => by simpa only [ORel] using h
  | .bool _, _, _, _, h => by simpa only [ORel] using h
  | .str _, _, _, _, h => by simpa only [ORel] using h
  | .bytes _, _, _, hw, h => by
      rcases h with h | ⟨b, c, cs, T, hv, hh, h1, h2, h3, h4, hB⟩
      · exact .inl h
      · exact .inr ⟨b, c, cs, T, hv, by rw [hw b (by simp [hB])]; exact hh, h1, h2, h3, h4, hB⟩
  | .sl wd n row, _, _, hw, h => by
      rcases h with h | ⟨b, c, cs, T, Bs, hv, hh, h1, h2, h3, h4, hB, hN⟩
      · exact .inl h
      · refine .inr ⟨b, c, cs, T, Bs, hv, by rw [hw b (by simp [hB])]; exact hh, h1, h2, h3, fun i j hi hj => ?_, hB, hN⟩
        obtain ⟨u, hu, hd⟩ := h4 i j hi hj
        refine ⟨u, hu, ORel.mono (row (fun _ => i) j) u _ (fun b' hb' => hw b' ?_) hd⟩
        rw [hB]
        exact List.mem_cons_of_mem _ (mem_flat hi hj hb')

mutual
theorem SVRel.mono {η : OEnv} {G : Nat → Prop} {w : World} {η' : OEnv} {G' : Nat → Prop} {w' : World} (M : Mono η G w η' G' w') :
    ∀ (s : SV) (v : Value), SVRel η G w s v → SVRel η' G' w' s v
  | .any, _, _ => by simp [SVRel]
  | .nil, _, h => by simpa [SVRel] using h
  | .int _ _, _, h => by simpa [SVRel] using h
  | .bool _, _, h => by simpa [SVRel] using h
  | .str _, _, h => by simpa [SVRel] using h
  | .val _, _, h => by simpa [SVRel] using h
  | .dat d, v, h => by
      simp only [SVRel] at h ⊢
      exact DVRel.mono M.g M.hg d v h
  | .nn d, v, h => by
      simp only [SVRel] at h ⊢
      exact ⟨DVRel.mono M.g M.hg d v h.1, h.2⟩
  | .view k d, v, h => by
      simp only [SVRel] at h ⊢
      obtain ⟨o, ho, h1c, h⟩ := h
      obtain ⟨o', ho', h'⟩ := M.obj k o ho
      refine ⟨o', ho', h1c, fun hd => ?_⟩
      obtain ⟨h1, _, _, h4⟩ := h' hd
      exact DVRel.mono (fun b hb => (h4 b hb).1) (fun b hb => (h4 b hb).2) d v (h h1)
  | .own k, v, h => by
      simp only [SVRel] at h ⊢
      obtain ⟨o, ho, h1c, h⟩ := h
      obtain ⟨o', ho', h'⟩ := M.obj k o ho
      exact ⟨o', ho', h1c, fun hd => by rw [(h' hd).2.1]; exact h (h' hd).1⟩
  | .csl k _ n, v, h => by
      simp only [SVRel] at h ⊢
      obtain ⟨o, ho, h1c, h⟩ := h
      obtain ⟨o', ho', h'⟩ := M.obj k o ho
      exact ⟨o', ho', h1c, fun hd => by rw [(h' hd).2.2.1]; exact h (h' hd).1⟩
  | .loc k off, v, h => by
      simp only [SVRel] at h ⊢
      obtain ⟨o, ho, h1c, h⟩ := h
      obtain ⟨o', ho', h'⟩ := M.obj k o ho
      exact ⟨o', ho', h1c, fun hd => by rw [(h' hd).2.2.1]; exact h (h' hd).1⟩
  | .op k wd i off, v, h => by
      simp only [SVRel] at h ⊢
      obtain ⟨o, ho, h1c, h⟩ := h
      obtain ⟨o', ho', h'⟩ := M.obj k o ho
      exact ⟨o', ho', h1c, fun hd => by rw [(h' hd).2.2.1, (h' hd).2.1]; exact h (h' hd).1⟩
  | .ep none wd cells off, v, h => by
      simp only [SVRel] at h ⊢
      obtain ⟨b, o, hv, hb, h⟩ := h
      refine ⟨b, o, hv, M.g b hb, fun j hj => ?_⟩
      obtain ⟨u, hu, hd⟩ := h j hj
      exact ⟨u, by rw [cell_of_heap (M.hg b hb)]; exact hu, DVRel.mono M.g M.hg _ _ hd⟩
  | .ep (some k) wd cells off, v, h => by
      simp only [SVRel] at h ⊢
      obtain ⟨o, ho, h1c, h⟩ := h
      obtain ⟨o', ho', h'⟩ := M.obj k o ho
      refine ⟨o', ho', h1c, fun hd => ?_⟩
      obtain ⟨h1, _, _, h4⟩ := h' hd
      obtain ⟨b, q, hv, hb, h⟩ := h h1
      refine ⟨b, q, hv, (h4 b hb).1, fun j hj => ?_⟩
      obtain ⟨u, hu, hd⟩ := h j hj
      exact ⟨u, by rw [cell_of_heap (h4 b hb).2]; exact hu, DVRel.mono (fun b hb => (h4 b hb).1) (fun b hb => (h4 b hb).2) _ _ hd⟩
  | .agg cs, v, h => by
      simp only [SVRel] at h ⊢
      obtain ⟨vs, hv, h⟩ := h
      exact ⟨vs, hv, SVRels.mono M cs vs h⟩
  | .tup cs, v, h => by
      simp only [SVRel] at h ⊢
      obtain ⟨vs, hv, h⟩ := h
      exact ⟨vs, hv, SVRels.mono M cs vs h⟩
  | .fn f cs, v, h => by
      simp only [SVRel] at h ⊢
      obtain ⟨vs, hv, h⟩ := h
      exact ⟨vs, hv, SVRels.mono M cs vs h⟩
theorem SVRels.mono {η : OEnv} {G : Nat → Prop} {w : World} {η' : OEnv} {G' : Nat → Prop} {w' : World} (M : Mono η G w η' G' w') :
    ∀ (s : List SV) (v : List Value), SVRels η G w s v → SVRels η' G' w' s v
  | [], [], _ => by simp [SVRels]
  | [], _ :: _, h => by simp [SVRels] at h
  | _ :: _, [], h => by simp [SVRels] at h
  | c :: cs, v :: vs, h => by
      simp only [SVRels] at h ⊢
      exact ⟨SVRel.mono M c v h.1, SVRels.mono M cs vs h.2⟩
end

/-- An object whose blocks are as they were means what it meant. -/
theorem ObjRel.mono {η : OEnv} {G : Nat → Prop} {w : World} {η' : OEnv} {G' : Nat → Prop} {w' : World} (M : Mono η G w η' G' w') {x : TObj} {o : OInfo}
    (hw : ∀ b ∈ o.main ++ o.inner, w'.heap[b]? = w.heap[b]?) (h : ObjRel η G w x o) : ObjRel η' G' w' x o := by
  cases x with
  | cells T cs =>
    simp only [ObjRel] at h ⊢
    obtain ⟨h0, h1, b, vs, hm, hh, hs⟩ := h
    exact ⟨h0, h1, b, vs, hm, by rw [hw b (by simp [hm])]; exact hh, SVRels.mono M cs vs hs⟩
  | barr T bs =>
    simp only [ObjRel, ownsBlk] at h ⊢
    obtain ⟨h0, h1, h⟩ := h
    refine ⟨h0, h1, ?_⟩
    rcases h with h | ⟨b, c, cs, T, hv, hm, hh, r⟩
    · exact .inl h
    · exact .inr ⟨b, c, cs, T, hv, hm, by rw [hw b (by simp [hm])]; exact hh, r⟩
  | arrS T wd n row =>
    simp only [ObjRel, ownsBlk] at h ⊢
    obtain ⟨h0, h1, h⟩ := h
    refine ⟨h0, h1, ?_⟩
    rcases h with h | ⟨b, c, cs, T, hv, hm, hh, r1, r2, r3, r4⟩
    · exact .inl h
    · refine .inr ⟨b, c, cs, T, hv, hm, by rw [hw b (by simp [hm])]; exact hh, r1, r2, r3, fun i j hi hj => ?_⟩
      obtain ⟨u, hu, hd⟩ := r4 i j hi hj
      exact ⟨u, hu, DVRel.mono M.g M.hg _ _ hd⟩
  | arrD T wd n row =>
    simp only [ObjRel, ownsBlk] at h ⊢
    obtain ⟨h0, Bs, hB, hN, h⟩ := h
    refine ⟨h0, Bs, hB, hN, ?_⟩
    rcases h with h | ⟨b, c, cs, T, hv, hm, hh, r1, r2, r3, r4⟩
    · exact .inl h
    · refine .inr ⟨b, c, cs, T, hv, hm, by rw [hw b (by simp [hm])]; exact hh, r1, r2, r3, fun i j hi hj => ?_⟩
      obtain ⟨u, hu, hd⟩ := r4 i j hi hj
      exact ⟨u, hu, ORel.mono _ _ _ (fun b' hb' => hw b' (by simp [hB i j b' hi hj hb'])) hd⟩
  | setI k ks =>
    simp only [ObjRel] at h ⊢
    obtain ⟨h0, h1, b, es, cl, hv, hm, hh, r⟩ := h
    exact ⟨h0, h1, b, es, cl, hv, hm, by rw [hw b (by simp [hm])]; exact hh, r⟩
  | dead => simpa only [ObjRel] using h

theorem Evol.refl (η : OEnv) (G : Nat → Prop) (w : World) : Evol η G w η G w :=
  ⟨rfl, rfl, rfl, Nat.le_refl _, fun _ _ _ => rfl, fun _ o ho => ⟨o, ho, fun hd => ⟨hd, rfl, rfl, fun _ hb => ⟨hb, rfl⟩⟩⟩, fun _ h => h, fun _ h => .inl h, fun k o ho b hb => .inr ⟨k, o, ho, hb⟩⟩

theorem Evol.trans {η η' η'' : OEnv} {G G' G'' : Nat → Prop} {w w' w'' : World} (a : Evol η G w η' G' w') (b : Evol η' G' w' η'' G'' w'') : Evol η G w η'' G'' w'' := by
  refine ⟨b.os.trans a.os, b.tape.trans a.tape, b.out.trans a.out, Nat.le_trans a.size b.size, ?_, ?_, fun x h => b.g x (a.g x h), ?_, ?_⟩
  · intro x hx hn
    rw [b.keep x (Nat.lt_of_lt_of_le hx a.size) ?_, a.keep x hx hn]
    intro k o ho hm
    rcases a.blk k o ho x hm with h | ⟨k₀, o₀, h₀, hm₀⟩
    · omega
    · exact hn k₀ o₀ h₀ hm₀
  · intro k o ho
    obtain ⟨o', ho', h'⟩ := a.obj k o ho
    obtain ⟨o'', ho'', h''⟩ := b.obj k o' ho'
    refine ⟨o'', ho'', fun hd => ?_⟩
    obtain ⟨d1, v1, m1, i1⟩ := h'' hd
    obtain ⟨d2, v2, m2, i2⟩ := h' d1
    refine ⟨d2, v1.trans v2, m1.trans m2, fun x hx => ?_⟩
    obtain ⟨p, q⟩ := i2 x hx
    obtain ⟨r, s⟩ := i1 x p
    exact ⟨r, s.trans q⟩
  · intro x hx
    rcases b.g' x hx with h | h | ⟨k, o, ho, hm⟩
    · exact a.g' x h
    · exact .inr (.inl (Nat.le_trans a.size h))
    · rcases a.blk k o ho x hm with h | h
      · exact .inr (.inl h)
      · exact .inr (.inr h)
  · intro k o ho x hx
    rcases b.blk k o ho x hx with h | ⟨k₀, o₀, h₀, hm₀⟩
    · exact .inl (Nat.le_trans a.size h)
    · exact a.blk k₀ o₀ h₀ x hm₀

theorem Evol.mono {η η' : OEnv} {G G' : Nat → Prop} {w w' : World} (a : Evol η G w η' G' w') (s : Sep η G w) : Mono η G w η' G' w' :=
  ⟨a.g, fun b hb => a.keep b (s.glt b hb) fun k o ho hm => (s.lt k o ho b hm).2 hb, a.obj⟩

/-- The state of a call: a symbolic state holds of the slots and the world. -/
structure Holds (dl : List Deferred) (η : OEnv) (G : Nat → Prop) (N : Nat) (get : Nat → SV) (ob : Nat → Option TObj) (a : Act) (w : World) : Prop where
  sz : a.tmps.size = N
  df : a.defers = dl
  tm : ∀ t, SVRel η G w (get t) (a.tmps.getD t undef)
  ob : ∀ k, ObjOpt η G w (ob k) (η k)
  sp : Sep η G w

end Go.SX
