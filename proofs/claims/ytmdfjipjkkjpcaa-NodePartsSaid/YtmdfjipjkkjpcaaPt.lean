/- NodeParts: the walk. -/
import Derived.Test.YtmdfjipjkkjpcaaPp
namespace Go.Proofs.Ytmdfjipjkkjpcaa
open Go.SX

set_option maxRecDepth 20000 in
set_option maxHeartbeats 4000000 in
theorem con9t {es : List Ent} {e : Ent} (hp : ∀ e ∈ es, EntOk e) (hb : ∀ e ∈ es, BigE e) (hl : es.length ≤ 281474976710656) (hpe : EntOk e) (hbe : BigE e) :
    Con 9 [.agg [.bool .t, .dat (entsDV es)], entSV e] [] (.bool (.s fun _ => true)) [] := by
  have b0 : bound64 ((e.key.length : Int) + (e.val.length : Int)) := by unfold bound64; obtain ⟨q1, q2⟩ := hbe; omega
  refine con_of Try.func9 rfl rfl 150 _ rfl rfl rfl rfl ?_
  cbv
  refine ⟨_, _, Con.argT (con10 (leaf := true) hb hl), ⟨?_⟩, ?_⟩
  · kernel_rfl
  cbv
  refine And.intro ?_ ?_
  · intro h1
    cbv
    refine ⟨_, _, con19t, ⟨?_⟩, ?_⟩
    · kernel_rfl
    cbv
    refine ⟨[], [], ?_⟩
    cbv
    and_intros
    all_goals first | exact trivial | exact ⟨rfl⟩ | exact ⟨rfl, fun _ _ _ _ => rfl⟩ | exact ⟨by kernel_rfl⟩
  · intro h1
    have h1 : muchB es = false := h1
    cbv
    refine ⟨⟨b0⟩, ?_⟩
    cbv
    refine And.intro ?_ ?_
    · intro h2
      cbv
      refine ⟨_, _, con19t, ⟨?_⟩, ?_⟩
      · kernel_rfl
      cbv
      refine ⟨[], [], ?_⟩
      cbv
      and_intros
      all_goals first | exact trivial | exact ⟨rfl⟩ | exact ⟨rfl, fun _ _ _ _ => rfl⟩ | exact ⟨by kernel_rfl⟩
    · intro h2
      have h2 : ¬ (20000 : Int) < (e.key.length : Int) + (e.val.length : Int) := of_decide_eq_false h2
      obtain ⟨hlen, hwt⟩ := much_ok h1
      have hwe : e.key.length + e.val.length ≤ 20000 := by omega
      have hw2 : weight es + 20 * es.length < 1000000000000 := by omega
      have c13 := con13 (leaf := true) (es := es) hp hw2
      clear h1 h2
      cbv
      refine ⟨_, _, con19t, ⟨?_⟩, ?_⟩
      · kernel_rfl
      cbv
      refine ⟨_, _, Con.argT c13, ⟨?_⟩, ?_⟩
      · kernel_rfl
      cbv
      refine And.intro ?_ ?_
      · intro h3
        cbv
        refine ⟨[], [], ?_⟩
        cbv
        and_intros
        all_goals first | exact trivial | exact ⟨rfl⟩ | exact ⟨rfl, fun _ _ _ _ => rfl⟩ | exact ⟨by kernel_rfl⟩
      · intro h3
        have h3 : checkI true es = 0 := of_decide_eq_true (bnot_f h3)
        obtain ⟨hm, hsz0⟩ := checkI_ok h3
        have hup := rises_up (may_rises hm)
        have hmem := (put_mem hup e e).2 (.inl rfl)
        have hPu := put_up hup e
        have fP := fine_put hlen hwt hp hup hpe hwe
        have hfnd := found_at hPu hmem
        have hsz : checkI true (putL es e) = 91 → sizeL true (putL es e) ≤ 1232 := fun h => by
          have q1 := put_size (leaf := true) hup e
          have q2 := entry_bound (check91 h) _ hmem
          omega
        obtain ⟨hwas, hgone⟩ := gone hPu hmem
        have cput := con32xt (es := es) (e := e) (fun x hx => fine_small hwt hx) (fine_small1 hwe) (by omega)
        obtain ⟨P, hP⟩ : ∃ P, P = putL es e := ⟨_, rfl⟩
        rw [← hP] at hmem hPu fP hfnd hsz hwas hgone cput
        have hPl := fP.len
        obtain ⟨k, hk⟩ : ∃ k, k = placeI (geP e.key) P := ⟨_, rfl⟩
        rw [← hk] at hfnd
        obtain ⟨hkl, hkg⟩ := hfnd
        have ok : indexObl (k : Int) P.length := ⟨by omega, by omega⟩
        have hkk : ((P.getD k default).key == e.key) = true := by rw [hkg]; simp
        have cF := con31xt (es := P) (key := e.key) (by omega) (by unfold foundB; rw [← hk, decide_eq_true hkl, hkg, decide_eq_true rfl]; rfl)
        rw [← hk] at cF
        have cD := con34xt (es := P) (key := e.key) fP.small (by omega) hwas
        have hDl : (dropL P e.key).length < 1000000000000 := Nat.lt_of_le_of_lt (drop_len) (by omega)
        have cN := con31nt (es := dropL P e.key) (key := e.key) hDl hgone
        have cP := con13xt fP
        have c20 := con20one (e := e) (by omega)
        obtain ⟨D, hD⟩ : ∃ D, D = dropL P e.key := ⟨_, rfl⟩
        rw [← hD] at cD cN
        clear h3 hm hsz0 hup hmem hPu hP hk hkg hwas hgone hD hDl
        cbv
        refine ⟨_, _, cput, ⟨?_⟩, ?_⟩
        · kernel_rfl
        cbv
        refine ⟨_, _, c20, ⟨?_⟩, ?_⟩
        · kernel_rfl
        cbv
        refine And.intro ?_ ?_
        · intro h4
          cbv
          refine ⟨[], [], ?_⟩
          cbv
          and_intros
          all_goals first | exact trivial | exact ⟨rfl⟩ | exact ⟨rfl, fun _ _ _ _ => rfl⟩ | exact ⟨by kernel_rfl⟩
        · intro h4
          clear h4
          cbv
          refine ⟨_, _, cF, ⟨?_⟩, ?_⟩
          · kernel_rfl
          cbv
          refine And.intro ?_ ?_
          · intro h5
            have h5 : (P.length : Int) ≤ (k : Int) := of_decide_eq_true h5
            exact False.elim (by omega)
          · intro h5
            clear h5
            cbv
            refine ⟨⟨ok⟩, ?_⟩
            cbv
            refine ⟨⟨by kernel_rfl⟩, ?_⟩
            cbv
            refine And.intro ?_ ?_
            · intro h6
              have h6 : ((P.getD k default).key == e.key) = false := bnot_t h6
              exact False.elim (by rw [hkk] at h6; cases h6)
            · intro h6
              clear h6
              cbv
              refine ⟨_, _, cD, ⟨?_⟩, ?_⟩
              · kernel_rfl
              cbv
              refine ⟨_, _, cN, ⟨?_⟩, ?_⟩
              · kernel_rfl
              cbv
              by_cases h7 : P.length < 2
              · have h7 : P.length < 2 := h7
                have cH := con35xt (es := P) fP.small h7
                have cJ := con36xt (a := P) fP.small (by have := fP.len; omega)
                have cS := con30xt (a := P) fP.small (by have := fP.len; omega)
                cbv
                refine ⟨_, _, cH, ⟨?_⟩, ?_⟩
                · kernel_rfl
                cbv
                refine ⟨_, _, cJ, ⟨?_⟩, ?_⟩
                · kernel_rfl
                cbv
                refine ⟨_, _, cS, ⟨?_⟩, ?_⟩
                · kernel_rfl
                cbv
                refine ⟨⟨by kernel_rfl⟩, ?_⟩
                cbv
                refine ⟨_, _, cP, ⟨?_⟩, ?_⟩
                · kernel_rfl
                cbv
                refine And.intro ?_ ?_
                · intro h8
                  clear h8
                  cbv
                  refine And.intro ?_ ?_
                  · intro h9
                    have h9 : (1 : Int) < (P.length : Int) := of_decide_eq_true h9
                    exact False.elim (by omega)
                  · intro h9
                    clear h9
                    cbv
                    refine ⟨[], [], ?_⟩
                    cbv
                    and_intros
                    all_goals first | exact trivial | exact ⟨rfl⟩ | exact ⟨rfl, fun _ _ _ _ => rfl⟩ | exact ⟨by kernel_rfl⟩
                · intro h8
                  clear h8
                  cbv
                  refine ⟨[], [], ?_⟩
                  cbv
                  and_intros
                  all_goals first | exact trivial | exact ⟨rfl⟩ | exact ⟨rfl, fun _ _ _ _ => rfl⟩ | exact ⟨by kernel_rfl⟩
              · have h7 : 2 ≤ P.length := by omega
                have cH := con35yt (es := P) (by have := fP.len; have := fP.wt; omega) fP.small h7
                have hAB : checkI true P = 91 → checkI true (P.take (cutK true P)) = 0 ∧ checkI true (halfB true P) = 0 := fun h => halves_ok h h7 (hsz h)
                have hcut := cut_at (leaf := true) h7
                have fA := fP.take (cutK true P)
                have fB := fP.half true
                have hkl : ((P.drop (cutK true P)).getD 0 default).key.length < 1000000000000 := ((fP.drop (cutK true P)).small _ (getD_mem (by simp; omega))).1
                have hjoin : joinL true (P.take (cutK true P)) (halfB true P) ((P.drop (cutK true P)).getD 0 default).key = P := join_leaf
                have hal : (P.take (cutK true P)).length + (halfB true P).length < 100000000000 := by have := fA.len; have := fB.len; omega
                have cH := (show Con 35 _ [] _ [(2000, .arrD 74 4 (fun _ => (P.take (cutK true P)).length) (lrow encE fun _ => P.take (cutK true P))), (2001, .arrD 74 4 (fun _ => (halfB true P).length) (lrow encE fun _ => halfB true P)), (2002, .barr 5 fun _ => ((P.drop (cutK true P)).getD 0 default).key)] from cH)
                obtain ⟨A, hA⟩ : ∃ A, A = P.take (cutK true P) := ⟨_, rfl⟩
                obtain ⟨B, hB⟩ : ∃ B, B = halfB true P := ⟨_, rfl⟩
                obtain ⟨K, hK⟩ : ∃ K, K = ((P.drop (cutK true P)).getD 0 default).key := ⟨_, rfl⟩
                rw [← hA, ← hB, ← hK] at cH
                rw [← hA, ← hB] at hAB
                rw [← hA, ← hB, ← hK] at hjoin
                rw [← hA, ← hB] at hal
                rw [← hA] at fA
                rw [← hB] at fB
                rw [← hK] at hkl
                have cJ := con36yt fA.small fB.small hkl hal
                rw [hjoin] at cJ
                have cS := con30xt (a := P) fP.small (by have := fP.len; omega)
                have cA := con13xt fA
                have cB := con13xt fB
                clear hA hB hK hcut hal hjoin
                cbv
                refine ⟨_, _, cH, ⟨?_⟩, ?_⟩
                · kernel_rfl
                cbv
                refine ⟨_, _, cJ, ⟨?_⟩, ?_⟩
                · kernel_rfl
                cbv
                refine ⟨_, _, cS, ⟨?_⟩, ?_⟩
                · kernel_rfl
                cbv
                refine ⟨⟨by kernel_rfl⟩, ?_⟩
                cbv
                refine ⟨_, _, cP, ⟨?_⟩, ?_⟩
                · kernel_rfl
                cbv
                refine And.intro ?_ ?_
                · intro h8
                  have h8 : checkI true P = 91 := of_decide_eq_true h8
                  have e0 : decide (checkI true B = 0) = true := decide_eq_true (hAB h8).2
                  cbv
                  refine And.intro ?_ ?_
                  · intro h9
                    have h9 : (1 : Int) < (P.length : Int) := of_decide_eq_true h9
                    clear h9
                    cbv
                    refine ⟨_, _, cA, ⟨?_⟩, ?_⟩
                    · kernel_rfl
                    cbv
                    refine And.intro ?_ ?_
                    · intro h10
                      clear h10
                      cbv
                      refine ⟨_, _, cB, ⟨?_⟩, ?_⟩
                      · kernel_rfl
                      cbv
                      refine ⟨[], [], ?_⟩
                      cbv
                      and_intros
                      all_goals first | exact trivial | exact ⟨e0⟩ | exact ⟨rfl⟩ | exact ⟨rfl, fun _ _ _ _ => rfl⟩ | exact ⟨by kernel_rfl⟩
                    · intro h10
                      have h10 : ¬ checkI true A = 0 := of_decide_eq_false h10
                      exact False.elim (h10 (hAB h8).1)
                  · intro h9
                    have h9 : ¬ (1 : Int) < (P.length : Int) := of_decide_eq_false h9
                    exact False.elim (by omega)
                · intro h8
                  clear h8
                  cbv
                  refine ⟨[], [], ?_⟩
                  cbv
                  and_intros
                  all_goals first | exact trivial | exact ⟨rfl⟩ | exact ⟨rfl, fun _ _ _ _ => rfl⟩ | exact ⟨by kernel_rfl⟩

set_option maxRecDepth 20000 in
set_option maxHeartbeats 4000000 in
theorem con9f {es : List Ent} {e : Ent} (hp : ∀ e ∈ es, EntOk e) (hb : ∀ e ∈ es, BigE e) (hl : es.length ≤ 281474976710656) (hpe : EntOk e) (hbe : BigE e) :
    Con 9 [.agg [.bool .f, .dat (entsDV es)], entSV e] [] (.bool (.s fun _ => true)) [] := by
  have b0 : bound64 ((e.key.length : Int) + (e.val.length : Int)) := by unfold bound64; obtain ⟨q1, q2⟩ := hbe; omega
  refine con_of Try.func9 rfl rfl 150 _ rfl rfl rfl rfl ?_
  cbv
  refine ⟨_, _, Con.argF (con10 (leaf := false) hb hl), ⟨?_⟩, ?_⟩
  · kernel_rfl
  cbv
  refine And.intro ?_ ?_
  · intro h1
    cbv
    refine ⟨_, _, con19t, ⟨?_⟩, ?_⟩
    · kernel_rfl
    cbv
    refine ⟨[], [], ?_⟩
    cbv
    and_intros
    all_goals first | exact trivial | exact ⟨rfl⟩ | exact ⟨rfl, fun _ _ _ _ => rfl⟩ | exact ⟨by kernel_rfl⟩
  · intro h1
    have h1 : muchB es = false := h1
    cbv
    refine ⟨⟨b0⟩, ?_⟩
    cbv
    refine And.intro ?_ ?_
    · intro h2
      cbv
      refine ⟨_, _, con19t, ⟨?_⟩, ?_⟩
      · kernel_rfl
      cbv
      refine ⟨[], [], ?_⟩
      cbv
      and_intros
      all_goals first | exact trivial | exact ⟨rfl⟩ | exact ⟨rfl, fun _ _ _ _ => rfl⟩ | exact ⟨by kernel_rfl⟩
    · intro h2
      have h2 : ¬ (20000 : Int) < (e.key.length : Int) + (e.val.length : Int) := of_decide_eq_false h2
      obtain ⟨hlen, hwt⟩ := much_ok h1
      have hwe : e.key.length + e.val.length ≤ 20000 := by omega
      have hw2 : weight es + 20 * es.length < 1000000000000 := by omega
      have c13 := con13 (leaf := false) (es := es) hp hw2
      clear h1 h2
      cbv
      refine ⟨_, _, con19t, ⟨?_⟩, ?_⟩
      · kernel_rfl
      cbv
      refine ⟨_, _, Con.argF c13, ⟨?_⟩, ?_⟩
      · kernel_rfl
      cbv
      refine And.intro ?_ ?_
      · intro h3
        cbv
        refine ⟨[], [], ?_⟩
        cbv
        and_intros
        all_goals first | exact trivial | exact ⟨rfl⟩ | exact ⟨rfl, fun _ _ _ _ => rfl⟩ | exact ⟨by kernel_rfl⟩
      · intro h3
        have h3 : checkI false es = 0 := of_decide_eq_true (bnot_f h3)
        obtain ⟨hm, hsz0⟩ := checkI_ok h3
        have hup := rises_up (may_rises hm)
        have hmem := (put_mem hup e e).2 (.inl rfl)
        have hPu := put_up hup e
        have fP := fine_put hlen hwt hp hup hpe hwe
        have hfnd := found_gt hPu hmem
        have hsz : checkI false (putL es e) = 91 → sizeL false (putL es e) ≤ 1232 := fun h => by
          have q1 := put_size (leaf := false) hup e
          have q2 := entry_bound (check91 h) _ hmem
          omega
        obtain ⟨hwas, hgone⟩ := gone hPu hmem
        have cput := con32xf (es := es) (e := e) (fun x hx => fine_small hwt hx) (fine_small1 hwe) (by omega)
        obtain ⟨P, hP⟩ : ∃ P, P = putL es e := ⟨_, rfl⟩
        rw [← hP] at hmem hPu fP hfnd hsz hwas hgone cput
        have hPl := fP.len
        obtain ⟨k, hk⟩ : ∃ k, k = placeI (gtP e.key) P - 1 := ⟨_, rfl⟩
        rw [← hk] at hfnd
        obtain ⟨hkl, hkg⟩ := hfnd
        have ok : indexObl (k : Int) P.length := ⟨by omega, by omega⟩
        have hkk : ((P.getD k default).key == e.key) = true := by rw [hkg]; simp
        have cF := con31xf (es := P) (key := e.key) (by omega) (decide_eq_true (by omega))
        rw [← hk] at cF
        have cD := con34xf (es := P) (key := e.key) fP.small (by omega) hwas
        have hDl : (dropL P e.key).length < 1000000000000 := Nat.lt_of_le_of_lt (drop_len) (by omega)
        have cN := con31nf (es := dropL P e.key) (key := e.key) hDl
        have cP := con13xf fP
        obtain ⟨D, hD⟩ : ∃ D, D = dropL P e.key := ⟨_, rfl⟩
        rw [← hD] at cD cN
        clear h3 hm hsz0 hup hmem hPu hP hk hkg hwas hgone hD hDl
        cbv
        refine ⟨_, _, cput, ⟨?_⟩, ?_⟩
        · kernel_rfl
        cbv
        refine And.intro ?_ ?_
        · intro h4
          cbv
          refine ⟨[], [], ?_⟩
          cbv
          and_intros
          all_goals first | exact trivial | exact ⟨rfl⟩ | exact ⟨rfl, fun _ _ _ _ => rfl⟩ | exact ⟨by kernel_rfl⟩
        · intro h4
          clear h4
          cbv
          refine ⟨_, _, cF, ⟨?_⟩, ?_⟩
          · kernel_rfl
          cbv
          refine And.intro ?_ ?_
          · intro h5
            have h5 : (P.length : Int) ≤ (k : Int) := of_decide_eq_true h5
            exact False.elim (by omega)
          · intro h5
            clear h5
            cbv
            refine ⟨⟨ok⟩, ?_⟩
            cbv
            refine ⟨⟨by kernel_rfl⟩, ?_⟩
            cbv
            refine And.intro ?_ ?_
            · intro h6
              have h6 : ((P.getD k default).key == e.key) = false := bnot_t h6
              exact False.elim (by rw [hkk] at h6; cases h6)
            · intro h6
              clear h6
              cbv
              refine ⟨_, _, cD, ⟨?_⟩, ?_⟩
              · kernel_rfl
              cbv
              refine ⟨_, _, cN, ⟨?_⟩, ?_⟩
              · kernel_rfl
              cbv
              by_cases h7 : P.length < 2
              · have h7 : P.length < 2 := h7
                have cH := con35xf (es := P) fP.small h7
                have cJ := con36xf (a := P) fP.small (by have := fP.len; omega)
                have cS := con30xf (a := P) fP.small (by have := fP.len; omega)
                cbv
                refine ⟨_, _, cH, ⟨?_⟩, ?_⟩
                · kernel_rfl
                cbv
                refine ⟨_, _, cJ, ⟨?_⟩, ?_⟩
                · kernel_rfl
                cbv
                refine ⟨_, _, cS, ⟨?_⟩, ?_⟩
                · kernel_rfl
                cbv
                refine ⟨⟨by kernel_rfl⟩, ?_⟩
                cbv
                refine ⟨_, _, cP, ⟨?_⟩, ?_⟩
                · kernel_rfl
                cbv
                refine And.intro ?_ ?_
                · intro h8
                  clear h8
                  cbv
                  refine And.intro ?_ ?_
                  · intro h9
                    have h9 : (1 : Int) < (P.length : Int) := of_decide_eq_true h9
                    exact False.elim (by omega)
                  · intro h9
                    clear h9
                    cbv
                    refine ⟨[], [], ?_⟩
                    cbv
                    and_intros
                    all_goals first | exact trivial | exact ⟨rfl⟩ | exact ⟨rfl, fun _ _ _ _ => rfl⟩ | exact ⟨by kernel_rfl⟩
                · intro h8
                  clear h8
                  cbv
                  refine ⟨[], [], ?_⟩
                  cbv
                  and_intros
                  all_goals first | exact trivial | exact ⟨rfl⟩ | exact ⟨rfl, fun _ _ _ _ => rfl⟩ | exact ⟨by kernel_rfl⟩
              · have h7 : 2 ≤ P.length := by omega
                have cH := con35yf (es := P) (by have := fP.len; have := fP.wt; omega) fP.small h7
                have hAB : checkI false P = 91 → checkI false (P.take (cutK false P)) = 0 ∧ checkI false (halfB false P) = 0 := fun h => halves_ok h h7 (hsz h)
                have hcut := cut_at (leaf := false) h7
                have fA := fP.take (cutK false P)
                have fB := fP.half false
                have hkl : ((P.drop (cutK false P)).getD 0 default).key.length < 1000000000000 := ((fP.drop (cutK false P)).small _ (getD_mem (by simp; omega))).1
                have hjoin : joinL false (P.take (cutK false P)) (halfB false P) ((P.drop (cutK false P)).getD 0 default).key = P := join_branch hcut.2
                have hal : (P.take (cutK false P)).length + (halfB false P).length < 100000000000 := by have := fA.len; have := fB.len; omega
                have cH := (show Con 35 _ [] _ [(2000, .arrD 74 4 (fun _ => (P.take (cutK false P)).length) (lrow encE fun _ => P.take (cutK false P))), (2001, .arrD 74 4 (fun _ => (halfB false P).length) (lrow encE fun _ => halfB false P)), (2002, .barr 5 fun _ => ((P.drop (cutK false P)).getD 0 default).key)] from cH)
                obtain ⟨A, hA⟩ : ∃ A, A = P.take (cutK false P) := ⟨_, rfl⟩
                obtain ⟨B, hB⟩ : ∃ B, B = halfB false P := ⟨_, rfl⟩
                obtain ⟨K, hK⟩ : ∃ K, K = ((P.drop (cutK false P)).getD 0 default).key := ⟨_, rfl⟩
                rw [← hA, ← hB, ← hK] at cH
                rw [← hA, ← hB] at hAB
                rw [← hA, ← hB, ← hK] at hjoin
                rw [← hA, ← hB] at hal
                rw [← hA] at fA
                rw [← hB] at fB
                rw [← hK] at hkl
                have cJ := con36yf fA.small fB.small hkl hal
                rw [hjoin] at cJ
                have cS := con30xf (a := P) fP.small (by have := fP.len; omega)
                have cA := con13xf fA
                have cB := con13xf fB
                clear hA hB hK hcut hal hjoin
                cbv
                refine ⟨_, _, cH, ⟨?_⟩, ?_⟩
                · kernel_rfl
                cbv
                refine ⟨_, _, cJ, ⟨?_⟩, ?_⟩
                · kernel_rfl
                cbv
                refine ⟨_, _, cS, ⟨?_⟩, ?_⟩
                · kernel_rfl
                cbv
                refine ⟨⟨by kernel_rfl⟩, ?_⟩
                cbv
                refine ⟨_, _, cP, ⟨?_⟩, ?_⟩
                · kernel_rfl
                cbv
                refine And.intro ?_ ?_
                · intro h8
                  have h8 : checkI false P = 91 := of_decide_eq_true h8
                  have e0 : decide (checkI false B = 0) = true := decide_eq_true (hAB h8).2
                  cbv
                  refine And.intro ?_ ?_
                  · intro h9
                    have h9 : (1 : Int) < (P.length : Int) := of_decide_eq_true h9
                    clear h9
                    cbv
                    refine ⟨_, _, cA, ⟨?_⟩, ?_⟩
                    · kernel_rfl
                    cbv
                    refine And.intro ?_ ?_
                    · intro h10
                      clear h10
                      cbv
                      refine ⟨_, _, cB, ⟨?_⟩, ?_⟩
                      · kernel_rfl
                      cbv
                      refine ⟨[], [], ?_⟩
                      cbv
                      and_intros
                      all_goals first | exact trivial | exact ⟨e0⟩ | exact ⟨rfl⟩ | exact ⟨rfl, fun _ _ _ _ => rfl⟩ | exact ⟨by kernel_rfl⟩
                    · intro h10
                      have h10 : ¬ checkI false A = 0 := of_decide_eq_false h10
                      exact False.elim (h10 (hAB h8).1)
                  · intro h9
                    have h9 : ¬ (1 : Int) < (P.length : Int) := of_decide_eq_false h9
                    exact False.elim (by omega)
                · intro h8
                  clear h8
                  cbv
                  refine ⟨[], [], ?_⟩
                  cbv
                  and_intros
                  all_goals first | exact trivial | exact ⟨rfl⟩ | exact ⟨rfl, fun _ _ _ _ => rfl⟩ | exact ⟨by kernel_rfl⟩

theorem con9 {leaf : Bool} {es : List Ent} {e : Ent} (hp : ∀ e ∈ es, EntOk e) (hb : ∀ e ∈ es, BigE e) (hl : es.length ≤ 281474976710656) (hpe : EntOk e) (hbe : BigE e) :
    Con 9 [nodeSV leaf es, entSV e] [] (.bool (.s fun _ => true)) [] := by
  cases leaf
  · exact (con9f hp hb hl hpe hbe).conv (.cons (.agg (.cons eqv_f2 (.refl _))) (.refl _)) (.refl _)
  · exact (con9t hp hb hl hpe hbe).conv (.cons (.agg (.cons eqv_t2 (.refl _))) (.refl _)) (.refl _)
end Go.Proofs.Ytmdfjipjkkjpcaa
