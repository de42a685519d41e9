/- Node laws: what has no body. -/
import Derived.Test.YtmdfjipjkkjpcaaNc
import Derived.Laws.Externs
import Derived.Lib.Bytealg
namespace Go.Proofs.Ytmdfjipjkkjpcaa
open Go.SX

theorem run_loadBytes {P : Program} {w : World} : ∀ (l : List UInt8) (b o : Nat) (acc : ByteArray), (∀ (j : Nat) (x : UInt8), l[j]? = some x → w.cell? ⟨b, o + j, none⟩ = some (.int .u8 (x.toNat : Int))) →
    (Extern.Bytes.loadBytes ⟨b, o, none⟩ l.length acc).run P w = .ok ⟨acc.data ++ l.toArray⟩ w
  | [], b, o, acc, _ => by simp [Extern.Bytes.loadBytes]
  | x :: l, b, o, acc, h => by
      have h0 : w.cell? ⟨b, o, none⟩ = some (.int .u8 (x.toNat : Int)) := by simpa using h 0 x rfl
      have ih := run_loadBytes (P := P) (w := w) l b (o + 1) (acc.push x) fun j y hj => by
        have := h (j + 1) y (by simpa using hj)
        rwa [show o + (j + 1) = o + 1 + j by omega] at this
      simp only [List.length_cons, Extern.Bytes.loadBytes]
      simp only [Sem.run_bind, run_load, h0, Result.andThen_ok, add_none]
      have hx : (x.toNat : Int).toNat.toUInt8 = x := by simp
      rw [hx, ih]
      simp [ByteArray.push]

theorem run_bytesOf {P : Program} {w : World} {S : Nat → Prop} {l : List UInt8} {v : Value} (h : DVRel w S (.bytes fun _ => l) v) : (Extern.Bytes.bytesOf v).run P w = .ok ⟨l.toArray⟩ w := by
  simp only [DVRel] at h
  obtain ⟨p, c, rfl, hc, hr⟩ := h
  cases l with
  | nil =>
    cases p with
    | none => rfl
    | some q => obtain ⟨b, o, f⟩ := q; simp [Extern.Bytes.bytesOf, Extern.Bytes.loadBytes]; rfl
  | cons x l =>
    obtain ⟨b, o, rfl, _, _⟩ := hr 0 x rfl
    have := run_loadBytes (P := P) (w := w) (x :: l) b o .empty fun j y hj => by
      obtain ⟨b', o', e, _, hcell⟩ := hr j y hj
      cases e
      exact hcell
    simp only [Extern.Bytes.bytesOf]
    rw [this]
    simp

theorem con96 {a b : List UInt8} : Con 96 [.dat (.bytes fun _ => a), .dat (.bytes fun _ => b)] [] (.int .i64 (.s fun _ => Lib.compareBytes a b)) [] := by
  refine ⟨fun η G vs w hsep hob hs => ?_⟩
  match vs, hs with
  | [va, vb], hs =>
    simp only [SVRels, SVRel] at hs
    obtain ⟨ha, hb, _⟩ := hs
    refine .inr ⟨.int .i64 (Lib.compareBytes a b), w, ?_, η, G, by simp [SVRel, IE.den], hob, hsep, Evol.refl η G w⟩
    have he : Extern.find Try.f96 = some Extern.BytealgCompare.compare := by kernel_rfl
    have hn : Extern.findNext Try.f96 = none := by kernel_rfl
    rw [run_callFunc_extern Try.func96 (by kernel_rfl) (by kernel_rfl) hn he]
    have hr : (Extern.BytealgCompare.compare #[va, vb]).run Try.prog w = .ok (.int .i64 (Lib.compareBytes a b)) w := by
      change Sem.run Try.prog (do pure (goInt (Extern.BytealgCompare.cmp (← Extern.Bytes.bytesOf va) (← Extern.Bytes.bytesOf vb)))) w = _
      simp only [Sem.run_bind, Sem.run_pure, run_bytesOf ha, run_bytesOf hb, Result.andThen_ok]
      rw [Lib.cmp_eq]
      rfl
    rw [hr]
    rfl
  | [], h => simp [SVRels] at h
  | [_], h => simp [SVRels] at h
  | _ :: _ :: _ :: _, h => simp [SVRels] at h

theorem con79 {a b : List UInt8} : Con 79 [.dat (.bytes fun _ => a), .dat (.bytes fun _ => b)] [] (.int .i64 (.s fun _ => Lib.compareBytes a b)) [] := by
  refine con_of Try.func79 rfl rfl 8 _ rfl rfl rfl rfl ?_
  cbv
  refine ⟨_, _, con96, ⟨rfl⟩, ?_⟩
  cbv
  refine ⟨[], [], ?_⟩
  cbv
  exact ⟨⟨rfl⟩, ⟨rfl⟩⟩
end Go.Proofs.Ytmdfjipjkkjpcaa
