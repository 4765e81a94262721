import Derived.Test.YtidpkoaomfbljaaBuckG
namespace Go.Proofs.Ytidpkoaomfbljaa.AM
open Go
set_option linter.all false
variable {tbl : Tbl} [hT : TMono tbl]

/-- A bucket and a pail. -/
structure QSt (H H' : AH) (v : Value) (l : List (Int × Int)) (k kb kp : Nat) (burst ta lv tp ml : Int) : Prop where
  old : ∀ id, id < H.next → H'.get id = H.get id
  low : H.next ≤ H'.low
  bk : H'.get k = some (buck kb l.length (burst * 1000) lv ta (allZero l))
  rt : H'.get kb = some ⟨cells2 l, 2, false⟩
  pl : H'.get kp = some (pail v burst tp ml)
  sep : H.next ≤ k ∧ H.next ≤ kb ∧ H.next ≤ kp ∧ k ≠ kb ∧ k ≠ kp ∧ kb ≠ kp
section
variable {H H' : AH} {v : Value} {l : List (Int × Int)} {k kb kp : Nat} {burst ta lv tp ml : Int}
theorem QSt.nx (st : QSt H H' v l k kb kp burst ta lv tp ml) : H.next < H'.next := by
  have := AH.get_lt st.bk
  have := st.sep
  omega
theorem QSt.elem (st : QSt H H' v l k kb kp burst ta lv tp ml) (b c : Blk) : QSt H ((H'.push b).set H'.next (some c)) v l k kb kp burst ta lv tp ml := by
  have h1 := AH.get_lt st.bk
  have h2 := AH.get_lt st.rt
  have h3 := AH.get_lt st.pl
  have h4 := st.nx
  have h5 := st.low
  have hg : ∀ id, id < H'.next → ((H'.push b).set H'.next (some c)).get id = H'.get id := fun id hid => by
    rw [AH.get_set_ne _ _ (by omega), AH.get_push_lt _ _ hid]
  exact ⟨fun id hid => by rw [hg _ (by omega)]; exact st.old id hid, by rw [lw_set, lw_push]; omega, by rw [hg _ h1]; exact st.bk, by rw [hg _ h2]; exact st.rt, by rw [hg _ h3]; exact st.pl, st.sep⟩
theorem QSt.bset (st : QSt H H' v l k kb kp burst ta lv tp ml) (lv' ta' : Int) : QSt H (H'.set k (some (buck kb l.length (burst * 1000) lv' ta' (allZero l)))) v l k kb kp burst ta' lv' tp ml := by
  have h1 := AH.get_lt st.bk
  have h5 := st.low
  obtain ⟨s1, s2, s3, s4, s5, s6⟩ := st.sep
  exact ⟨fun id hid => by rw [AH.get_set_ne _ _ (by omega)]; exact st.old id hid, by rw [lw_set]; omega, AH.get_set_eq _ _ h1, by rw [AH.get_set_ne _ _ (Ne.symm s4)]; exact st.rt, by rw [AH.get_set_ne _ _ (Ne.symm s5)]; exact st.pl, st.sep⟩
theorem QSt.upd (st : QSt H H' v l k kb kp burst ta lv tp ml) {tp' ml' : Int} {H2 : AH} (hu : Upd H' kp (pail v burst tp' ml') H2) : QSt H H2 v l k kb kp burst ta lv tp' ml' := by
  have h5 := st.low
  have h6 := hu.low
  obtain ⟨s1, s2, s3, s4, s5, s6⟩ := st.sep
  exact ⟨fun id hid => by rw [hu.old id (by omega)]; exact st.old id hid, by omega, by rw [hu.old k s5]; exact st.bk, by rw [hu.old kb s6]; exact st.rt, hu.at_, st.sep⟩
end
theorem firstL2 {a b : Int} : firstL [a, b] = if a = 0 then (if b = 0 then 0 else b) else a := by
  simp only [firstL]
section
variable (h47 : tbl 47 = some (.code m47)) (h11 : tbl 11 = some (.code m11)) (h48 : tbl 48 = some (.code m48)) (h68 : tbl 68 = some (.code m68)) (h49 : tbl 49 = some (.code m49)) (h12 : tbl 12 = some (.code m12)) (h14 : tbl 14 = some (.code m14)) (h18 : tbl 18 = some (.code m18))
  (h15 : tbl 15 = some (.code m15)) (h16 : tbl 16 = some (.code m16)) (h17 : tbl 17 = some (.code m17))
  (h24 : tbl 24 = some (.code m24)) (h25 : tbl 25 = some (.code m25)) (h51 : tbl 51 = some (.code m51)) (h55 : tbl 55 = some (.code m55)) (h53 : tbl 53 = some (.code m53))
  (h28 : tbl 28 = some (.code m28)) (h54 : tbl 54 = some (.code m54)) (h30 : tbl 30 = some (.code m30)) (h32 : tbl 32 = some (.code m32)) (h29 : tbl 29 = some (.code m29)) (h56 : tbl 56 = some (.code m56)) (h33 : tbl 33 = some (.code m33)) (h31 : tbl 31 = some (.code m31)) (h6 : tbl 6 = some (.code m6))
include h47 h11 h48 h68 h49 h12 h14 h18 h15 h16 h17 h24 h25 h51 h55 h53 h28 h54 h30 h32 h29 h56 h33 h31 h6
theorem v6 {H : AH} {v u : Value} {l asks : List (Int × Int)} (hs : Sl H 2 v l.length (cells2 l)) (hu : Sl H 2 u asks.length (cells2 asks)) (burst : Int) : Val tbl 6 [v, .int .i64 burst, u] H (.bool true) H := by
  refine Val.of_all fun Q hQ => ?_
  obtain ⟨va, vc, hv⟩ := hs.shape
  obtain ⟨ua, uc, hu'⟩ := hu.shape
  subst hu'
  rw [rn_fun h6, k6]
  have hs' : Sl H.enter 2 v l.length (cells2 l) := hs
  have hv3 := fun X => v14 (tbl := tbl) h47 h11 h48 h68 h49 h12 h14 h18 X
  by_cases hok : ratesErr l = 0 ∧ (1 ≤ burst ∧ burst ≤ 1000000000)
  · obtain ⟨e0, hb⟩ := hok
    obtain ⟨H1, hv28, st0, hlow0⟩ := v28_ok h24 h51 h28 hs' burst e0 hb
    have hl := right_of e0
    have hs1 : Sl H1 2 v l.length (cells2 l) := hs.keep st0.old
    have hv25 : Val tbl 25 [v] H1 (.int .i64 (ratesErr l)) H1 := vrates (n := 25) h25 hs1
    rw [e0] at hv25
    have hnx1 : H.next + 2 ≤ H1.next := by have := AH.get_lt st0.bk; simp only [nx_enter] at this; omega
    simp only [↓hv28.run, ↓hv25.run, ↓(hv3 _).run, ↓(v17 h17 _ _ _ _).run, ↓(v16b h16 _ _ _).run, hb, go_sem, Nat.reduceEqDiff, Nat.reduceAdd, Nat.reduceLeDiff, Int.reduceEq, Int.reduceLT, Int.reduceLE, Int.reduceAdd, Int.reduceSub, Int.reduceMul, Int.reduceNeg, Int.reduceToNat, Nat.reduceMul]
    refine (Val.run (v15 h15 _ _ [0, 0] (sl2' (H := H1) (b := H1.next) rfl) (by simp))).2 ?_
    rw [firstL2]
    by_cases hn : (40 : Int) < asks.length
    · simp only [↓(hv3 _).run, hn, go_sem, Nat.reduceEqDiff, Nat.reduceAdd, Nat.reduceLeDiff, Int.reduceEq, Int.reduceLT, Int.reduceLE, Int.reduceAdd, Int.reduceSub, Int.reduceMul, Int.reduceNeg, Int.reduceToNat, Nat.reduceMul]
      rw [back_p3 (by rw [lw_push, hlow0, lw_enter]; omega) rfl]
      exact hQ
    · rw [hv] at hv28 hs1 hs'
      have hv29 := fun X => v29 (tbl := tbl) h29 (H := X) (a := va) (n := l.length) (c := vc) hb
      rw [← hv] at hv29
      simp only [↓(hv3 _).run, ↓(hv29 _).run, hn, go_sem, Nat.reduceEqDiff, Nat.reduceAdd, Nat.reduceLeDiff, Int.reduceEq, Int.reduceLT, Int.reduceLE, Int.reduceAdd, Int.reduceSub, Int.reduceMul, Int.reduceNeg, Int.reduceToNat, Nat.reduceMul]
      refine rn_loop (fun m f H' => ∃ (i : Nat) (last lv ml : Int), i ≤ asks.length ∧ m = asks.length - i ∧ f 1 = .int .i64 burst ∧ f 7 = .pointer (some ⟨H.next + 1, 0, none⟩) ∧ f 10 = .pointer (some ⟨H1.next + 1, 0, none⟩) ∧ f 11 = .int .i64 last ∧ f 67 = .slice ua asks.length uc ∧ f 68 = .int .i64 asks.length ∧ f 69 = .int .i64 i ∧
        QSt H H' v l (H.next + 1) H.next (H1.next + 1) burst last lv last ml ∧ (0 ≤ last ∧ last ≤ 800000 * i) ∧ (0 ≤ ml ∧ ml ≤ burst * 1000) ∧ lv = lvl l (burst * 1000) last ml last) ?_ (n := asks.length)
        ⟨0, 0, burst * 1000, burst * 1000, by omega, by omega, by simp only [go_sem, Nat.reduceEqDiff, Nat.reduceAdd, Nat.reduceLeDiff, Int.reduceEq, Int.reduceLT, Int.reduceLE, Int.reduceAdd, Int.reduceSub, Int.reduceMul, Int.reduceNeg, Int.reduceToNat, Nat.reduceMul], by simp only [go_sem, Nat.reduceEqDiff, Nat.reduceAdd, Nat.reduceLeDiff, Int.reduceEq, Int.reduceLT, Int.reduceLE, Int.reduceAdd, Int.reduceSub, Int.reduceMul, Int.reduceNeg, Int.reduceToNat, Nat.reduceMul], by simp only [go_sem, Nat.reduceEqDiff, Nat.reduceAdd, Nat.reduceLeDiff, Int.reduceEq, Int.reduceLT, Int.reduceLE, Int.reduceAdd, Int.reduceSub, Int.reduceMul, Int.reduceNeg, Int.reduceToNat, Nat.reduceMul], by simp only [go_sem, Nat.reduceEqDiff, Nat.reduceAdd, Nat.reduceLeDiff, Int.reduceEq, Int.reduceLT, Int.reduceLE, Int.reduceAdd, Int.reduceSub, Int.reduceMul, Int.reduceNeg, Int.reduceToNat, Nat.reduceMul], by simp only [go_sem, Nat.reduceEqDiff, Nat.reduceAdd, Nat.reduceLeDiff, Int.reduceEq, Int.reduceLT, Int.reduceLE, Int.reduceAdd, Int.reduceSub, Int.reduceMul, Int.reduceNeg, Int.reduceToNat, Nat.reduceMul], by simp only [go_sem, Nat.reduceEqDiff, Nat.reduceAdd, Nat.reduceLeDiff, Int.reduceEq, Int.reduceLT, Int.reduceLE, Int.reduceAdd, Int.reduceSub, Int.reduceMul, Int.reduceNeg, Int.reduceToNat, Nat.reduceMul], by simp only [go_sem, Nat.reduceEqDiff, Nat.reduceAdd, Nat.reduceLeDiff, Int.reduceEq, Int.reduceLT, Int.reduceLE, Int.reduceAdd, Int.reduceSub, Int.reduceMul, Int.reduceNeg, Int.reduceToNat, Nat.reduceMul] <;> rfl, ⟨?_, ?_, ?_, ?_, ?_, ?_⟩, by omega, by omega, ?_⟩
      · rintro m f H' ⟨i, last, lv, ml, hi, rfl, f1, f7, f10, f11, f67, f68, f69, st, hlast, hml, hlv⟩
        simp only [f1, f7, f10, f11, f67, f68, f69, go_sem, Nat.reduceEqDiff, Nat.reduceAdd, Nat.reduceLeDiff, Int.reduceEq, Int.reduceLT, Int.reduceLE, Int.reduceAdd, Int.reduceSub, Int.reduceMul, Int.reduceNeg, Int.reduceToNat, Nat.reduceMul]
        refine iteP_intro ?_ ?_ <;> intro hlt
        · simp only [f1, f7, f10, f11, f67, f68, f69, go_sem, Nat.reduceEqDiff, Nat.reduceAdd, Nat.reduceLeDiff, Int.reduceEq, Int.reduceLT, Int.reduceLE, Int.reduceAdd, Int.reduceSub, Int.reduceMul, Int.reduceNeg, Int.reduceToNat, Nat.reduceMul]
          have hi : i < asks.length := by omega
          refine (hu.keep st.old).at_ hi fun q hq1 hq2 => ?_
          rw [cells2_at _ _ hi] at hq2
          have hlt2 : H'.next < H'.next + 1 := by omega
          simp only [f1, f7, f10, f11, f67, f68, f69, hq2, stc_eq, stB_some, hlt2, go_sem, Nat.reduceEqDiff, Nat.reduceAdd, Nat.reduceLeDiff, Int.reduceEq, Int.reduceLT, Int.reduceLE, Int.reduceAdd, Int.reduceSub, Int.reduceMul, Int.reduceNeg, Int.reduceToNat, Nat.reduceMul]
          have st2 := st.elem ⟨[.int .i64 0, .int .i64 0], 1, false⟩ ⟨[.int .i64 asks[i].1, .int .i64 asks[i].2], 1, false⟩
          have g2 : ((H'.push ⟨[.int .i64 0, .int .i64 0], 1, false⟩).set H'.next (some ⟨[.int .i64 asks[i].1, .int .i64 asks[i].2], 1, false⟩)).get H'.next = some ⟨[.int .i64 asks[i].1, .int .i64 asks[i].2], 1, false⟩ := AH.get_set_eq _ _ (by rw [AH.next_push]; omega)
          generalize (H'.push ⟨[.int .i64 0, .int .i64 0], 1, false⟩).set H'.next (some ⟨[.int .i64 asks[i].1, .int .i64 asks[i].2], 1, false⟩) = H2 at st2 g2 ⊢
          generalize asks[i].1 = x at g2 ⊢
          generalize asks[i].2 = y at g2 ⊢
          have w0 := w64 (x := (i : Int) + 1) (by omega) (by omega)
          have hlvr : 0 ≤ lv ∧ lv ≤ burst * 1000 := by rw [hlv]; exact lvl_range hl hml
          simp only [g2, f1, f7, f10, f11, f67, f68, f69, go_sem, Nat.reduceEqDiff, Nat.reduceAdd, Nat.reduceLeDiff, Int.reduceEq, Int.reduceLT, Int.reduceLE, Int.reduceAdd, Int.reduceSub, Int.reduceMul, Int.reduceNeg, Int.reduceToNat, Nat.reduceMul]
          by_cases hrange : (0 ≤ x ∧ x ≤ 1099511627776) ∧ 0 ≤ y ∧ y ≤ burst
          · obtain ⟨hx, hy⟩ := hrange
            have w1 := w64 (x := last + 400000) (by omega) (by omega)
            obtain ⟨T, hT'⟩ : ∃ T, T = if x < last then last else x := ⟨_, rfl⟩
            have hlvu : ∀ u, T ≤ u → lvl l (burst * 1000) last lv u = lvl l (burst * 1000) last ml u := fun u h => by
              rw [hlv]; exact lvl_add hl (Int.le_refl _) (by rw [hT'] at h; split at h <;> omega)
            have hTr : last ≤ T ∧ x ≤ T ∧ (x ≤ last + 400000 → T ≤ last + 400000) := by rw [hT']; split <;> omega
            refine v30_run h55 h54 h30 hl st2.bk st2.rt hb rfl hlvr (by omega) (by omega) hx hy hT' _ ?_ ?_
            · intro g htake
              have st3 := st2.bset (takeLv l (burst * 1000) g (lvl l (burst * 1000) last lv g - y * 1000)) g
              have hnl : ¬ (H2.set (H.next + 1) (some (buck H.next l.length (burst * 1000) (takeLv l (burst * 1000) g (lvl l (burst * 1000) last lv g - y * 1000)) g (allZero l)))).low < H.next := by have := st3.low; omega
              generalize H2.set (H.next + 1) (some (buck H.next l.length (burst * 1000) (takeLv l (burst * 1000) g (lvl l (burst * 1000) last lv g - y * 1000)) g (allZero l))) = H3 at st3 hnl ⊢
              by_cases hfar : last + 400000 < x
              · simp only [f1, f7, f10, f11, f67, f68, f69, ↓(v17 h17 _ _ _ _).run, hx, hy, w1, hfar, hnl, go_sem, Nat.reduceEqDiff, Nat.reduceAdd, Nat.reduceLeDiff, Int.reduceEq, Int.reduceLT, Int.reduceLE, Int.reduceAdd, Int.reduceSub, Int.reduceMul, Int.reduceNeg, Int.reduceToNat, Nat.reduceMul]
                exact hQ
              · have w2 := w64 (x := T + 400000) (by omega) (by omega)
                simp only [f1, f7, f10, f11, f67, f68, f69, ↓(v17 h17 _ _ _ _).run, hx, hy, w1, w2, hfar, hnl, ← hT', go_sem, Nat.reduceEqDiff, Nat.reduceAdd, Nat.reduceLeDiff, Int.reduceEq, Int.reduceLT, Int.reduceLE, Int.reduceAdd, Int.reduceSub, Int.reduceMul, Int.reduceNeg, Int.reduceToNat, Nat.reduceMul]
                refine v31_run h53 h56 h33 h31 hs st3.old (by omega) hl hb st3.pl ⟨hlast.1, hTr.1⟩ (by omega) (by omega) hml hy _ ?_ ?_
                · intro g' H4 hlim hfound hup
                  have hgg : g = g' := by
                    have a1 := htake.ge
                    have a2 := hfound.ge
                    rcases Int.lt_trichotomy g g' with h | h | h
                    · have := hfound.first g a1 h
                      have := htake.has
                      rw [hlvu g a1] at this
                      omega
                    · exact h
                    · have := htake.first g' a2 h
                      have := hfound.has
                      rw [← hlvu g' a2] at this
                      omega
                  subst hgg
                  have st4 := st3.upd hup
                  have hg0 : 0 ≤ g ∧ g ≤ last + 800000 := by have := htake.ge; omega
                  rw [hlvu g htake.ge] at st4
                  obtain ⟨ml', hml'⟩ : ∃ ml', ml' = lvl l (burst * 1000) last ml g - y * 1000 := ⟨_, rfl⟩
                  rw [← hml'] at st4
                  have hmlr : 0 ≤ ml' ∧ ml' ≤ burst * 1000 := by
                    have := hfound.has
                    have := lvl_range hl (most := burst * 1000) (t0 := last) (t := g) hml
                    omega
                  have htl : takeLv l (burst * 1000) g ml' = lvl l (burst * 1000) g ml' g := lvl_here.symm
                  rw [htl] at st4
                  have hlvr4 := lvl_range hl (most := burst * 1000) (t0 := g) (t := g) hmlr
                  have hlev : lvl l (burst * 1000) g (lvl l (burst * 1000) g ml' g) g = lvl l (burst * 1000) g ml' g := lvl_add hl (Int.le_refl _) (Int.le_refl _)
                  have hv32 := v32_ok h55 h54 h32 hl st4.bk st4.rt hb rfl hlvr4 hg0.1 (at_ := g) ⟨by omega, by have := htake.le; omega⟩
                  rw [hlev] at hv32
                  have hv33 := v33 h53 h33 (hs.keep st4.old) hl hb st4.pl hg0.1
                  have e1 : (lvl l (burst * 1000) g ml' g).tdiv 1000 = lvl l (burst * 1000) g ml' g / 1000 := Int.tdiv_eq_ediv_of_nonneg hlvr4.1
                  have w3 := w64 (x := lvl l (burst * 1000) g ml' g / 1000) (by omega) (by omega)
                  have w4 := w64 (x := g - 1) (by omega) (by omega)
                  by_cases hgp : 0 < g
                  · have hv32b := v32_old h55 h54 h32 st4.bk (at_ := g - 1) (by omega)
                    simp only [f1, f7, f10, f11, f67, f68, f69, ↓hv32.run, ↓hv32b.run, ↓hv33.run, e1, w0, w3, w4, hgp, go_sem, Nat.reduceEqDiff, Nat.reduceAdd, Nat.reduceLeDiff, Int.reduceEq, Int.reduceLT, Int.reduceLE, Int.reduceAdd, Int.reduceSub, Int.reduceMul, Int.reduceNeg, Int.reduceToNat, Nat.reduceMul]
                    exact ⟨asks.length - (i + 1), by omega, i + 1, g, _, ml', by omega, rfl, by simp only [f1, go_sem, Nat.reduceEqDiff, Nat.reduceAdd, Nat.reduceLeDiff, Int.reduceEq, Int.reduceLT, Int.reduceLE, Int.reduceAdd, Int.reduceSub, Int.reduceMul, Int.reduceNeg, Int.reduceToNat, Nat.reduceMul], by simp only [f7, go_sem, Nat.reduceEqDiff, Nat.reduceAdd, Nat.reduceLeDiff, Int.reduceEq, Int.reduceLT, Int.reduceLE, Int.reduceAdd, Int.reduceSub, Int.reduceMul, Int.reduceNeg, Int.reduceToNat, Nat.reduceMul], by simp only [f10, go_sem, Nat.reduceEqDiff, Nat.reduceAdd, Nat.reduceLeDiff, Int.reduceEq, Int.reduceLT, Int.reduceLE, Int.reduceAdd, Int.reduceSub, Int.reduceMul, Int.reduceNeg, Int.reduceToNat, Nat.reduceMul], by simp only [go_sem, Nat.reduceEqDiff, Nat.reduceAdd, Nat.reduceLeDiff, Int.reduceEq, Int.reduceLT, Int.reduceLE, Int.reduceAdd, Int.reduceSub, Int.reduceMul, Int.reduceNeg, Int.reduceToNat, Nat.reduceMul], by simp only [f67, go_sem, Nat.reduceEqDiff, Nat.reduceAdd, Nat.reduceLeDiff, Int.reduceEq, Int.reduceLT, Int.reduceLE, Int.reduceAdd, Int.reduceSub, Int.reduceMul, Int.reduceNeg, Int.reduceToNat, Nat.reduceMul], by simp only [f68, go_sem, Nat.reduceEqDiff, Nat.reduceAdd, Nat.reduceLeDiff, Int.reduceEq, Int.reduceLT, Int.reduceLE, Int.reduceAdd, Int.reduceSub, Int.reduceMul, Int.reduceNeg, Int.reduceToNat, Nat.reduceMul], by simp only [go_sem, Nat.reduceEqDiff, Nat.reduceAdd, Nat.reduceLeDiff, Int.reduceEq, Int.reduceLT, Int.reduceLE, Int.reduceAdd, Int.reduceSub, Int.reduceMul, Int.reduceNeg, Int.reduceToNat, Nat.reduceMul] <;> rfl, st4, by omega, hmlr, rfl⟩
                  · simp only [f1, f7, f10, f11, f67, f68, f69, ↓hv32.run, ↓hv33.run, e1, w0, w3, w4, hgp, go_sem, Nat.reduceEqDiff, Nat.reduceAdd, Nat.reduceLeDiff, Int.reduceEq, Int.reduceLT, Int.reduceLE, Int.reduceAdd, Int.reduceSub, Int.reduceMul, Int.reduceNeg, Int.reduceToNat, Nat.reduceMul]
                    exact ⟨asks.length - (i + 1), by omega, i + 1, g, _, ml', by omega, rfl, by simp only [f1, go_sem, Nat.reduceEqDiff, Nat.reduceAdd, Nat.reduceLeDiff, Int.reduceEq, Int.reduceLT, Int.reduceLE, Int.reduceAdd, Int.reduceSub, Int.reduceMul, Int.reduceNeg, Int.reduceToNat, Nat.reduceMul], by simp only [f7, go_sem, Nat.reduceEqDiff, Nat.reduceAdd, Nat.reduceLeDiff, Int.reduceEq, Int.reduceLT, Int.reduceLE, Int.reduceAdd, Int.reduceSub, Int.reduceMul, Int.reduceNeg, Int.reduceToNat, Nat.reduceMul], by simp only [f10, go_sem, Nat.reduceEqDiff, Nat.reduceAdd, Nat.reduceLeDiff, Int.reduceEq, Int.reduceLT, Int.reduceLE, Int.reduceAdd, Int.reduceSub, Int.reduceMul, Int.reduceNeg, Int.reduceToNat, Nat.reduceMul], by simp only [go_sem, Nat.reduceEqDiff, Nat.reduceAdd, Nat.reduceLeDiff, Int.reduceEq, Int.reduceLT, Int.reduceLE, Int.reduceAdd, Int.reduceSub, Int.reduceMul, Int.reduceNeg, Int.reduceToNat, Nat.reduceMul], by simp only [f67, go_sem, Nat.reduceEqDiff, Nat.reduceAdd, Nat.reduceLeDiff, Int.reduceEq, Int.reduceLT, Int.reduceLE, Int.reduceAdd, Int.reduceSub, Int.reduceMul, Int.reduceNeg, Int.reduceToNat, Nat.reduceMul], by simp only [f68, go_sem, Nat.reduceEqDiff, Nat.reduceAdd, Nat.reduceLeDiff, Int.reduceEq, Int.reduceLT, Int.reduceLE, Int.reduceAdd, Int.reduceSub, Int.reduceMul, Int.reduceNeg, Int.reduceToNat, Nat.reduceMul], by simp only [go_sem, Nat.reduceEqDiff, Nat.reduceAdd, Nat.reduceLeDiff, Int.reduceEq, Int.reduceLT, Int.reduceLE, Int.reduceAdd, Int.reduceSub, Int.reduceMul, Int.reduceNeg, Int.reduceToNat, Nat.reduceMul] <;> rfl, st4, by omega, hmlr, rfl⟩
                · intro H4 b hup
                  have hnl4 : ¬ H4.low < H.next := by
                    have := hup.low
                    have := st3.low
                    have := st3.sep
                    omega
                  simp only [hnl4, go_sem, Nat.reduceEqDiff, Nat.reduceAdd, Nat.reduceLeDiff, Int.reduceEq, Int.reduceLT, Int.reduceLE, Int.reduceAdd, Int.reduceSub, Int.reduceMul, Int.reduceNeg, Int.reduceToNat, Nat.reduceMul]
                  exact hQ
            · intro hno
              have hnl : ¬ H2.low < H.next := by have := st2.low; omega
              by_cases hfar : last + 400000 < x
              · simp only [f1, f7, f10, f11, f67, f68, f69, ↓(v17 h17 _ _ _ _).run, hx, hy, w1, hfar, hnl, go_sem, Nat.reduceEqDiff, Nat.reduceAdd, Nat.reduceLeDiff, Int.reduceEq, Int.reduceLT, Int.reduceLE, Int.reduceAdd, Int.reduceSub, Int.reduceMul, Int.reduceNeg, Int.reduceToNat, Nat.reduceMul]
                exact hQ
              · have w2 := w64 (x := T + 400000) (by omega) (by omega)
                simp only [f1, f7, f10, f11, f67, f68, f69, ↓(v17 h17 _ _ _ _).run, hx, hy, w1, w2, hfar, hnl, ← hT', go_sem, Nat.reduceEqDiff, Nat.reduceAdd, Nat.reduceLeDiff, Int.reduceEq, Int.reduceLT, Int.reduceLE, Int.reduceAdd, Int.reduceSub, Int.reduceMul, Int.reduceNeg, Int.reduceToNat, Nat.reduceMul]
                refine v31_run h53 h56 h33 h31 hs st2.old (by omega) hl hb st2.pl ⟨hlast.1, hTr.1⟩ (by omega) (by omega) hml hy _ ?_ ?_
                · intro g' H4 hlim hfound hup
                  exfalso
                  have a2 := hfound.ge
                  have := hno g' a2 (by omega)
                  have := hfound.has
                  rw [← hlvu g' a2] at this
                  omega
                · intro H4 b hup
                  have hnl4 : ¬ H4.low < H.next := by
                    have := hup.low
                    have := st2.low
                    have := st2.sep
                    omega
                  simp only [hnl4, go_sem, Nat.reduceEqDiff, Nat.reduceAdd, Nat.reduceLeDiff, Int.reduceEq, Int.reduceLT, Int.reduceLE, Int.reduceAdd, Int.reduceSub, Int.reduceMul, Int.reduceNeg, Int.reduceToNat, Nat.reduceMul]
                  exact hQ
          · have hv30 := v30_bad h30 st2.bk hb rfl x y hrange
            by_cases hx : 0 ≤ x ∧ x ≤ 1099511627776
            · have hy : ¬ (0 ≤ y ∧ y ≤ burst) := fun h => hrange ⟨hx, h⟩
              simp only [↓hv30.run, ↓(v17 h17 _ _ _ _).run, f1, f7, f10, f11, f67, f68, f69, hx, hy, w0, go_sem, Nat.reduceEqDiff, Nat.reduceAdd, Nat.reduceLeDiff, Int.reduceEq, Int.reduceLT, Int.reduceLE, Int.reduceAdd, Int.reduceSub, Int.reduceMul, Int.reduceNeg, Int.reduceToNat, Nat.reduceMul]
              exact ⟨asks.length - (i + 1), by omega, i + 1, last, lv, ml, by omega, rfl, by simp only [f1, go_sem, Nat.reduceEqDiff, Nat.reduceAdd, Nat.reduceLeDiff, Int.reduceEq, Int.reduceLT, Int.reduceLE, Int.reduceAdd, Int.reduceSub, Int.reduceMul, Int.reduceNeg, Int.reduceToNat, Nat.reduceMul], by simp only [f7, go_sem, Nat.reduceEqDiff, Nat.reduceAdd, Nat.reduceLeDiff, Int.reduceEq, Int.reduceLT, Int.reduceLE, Int.reduceAdd, Int.reduceSub, Int.reduceMul, Int.reduceNeg, Int.reduceToNat, Nat.reduceMul], by simp only [f10, go_sem, Nat.reduceEqDiff, Nat.reduceAdd, Nat.reduceLeDiff, Int.reduceEq, Int.reduceLT, Int.reduceLE, Int.reduceAdd, Int.reduceSub, Int.reduceMul, Int.reduceNeg, Int.reduceToNat, Nat.reduceMul], by simp only [f11, go_sem, Nat.reduceEqDiff, Nat.reduceAdd, Nat.reduceLeDiff, Int.reduceEq, Int.reduceLT, Int.reduceLE, Int.reduceAdd, Int.reduceSub, Int.reduceMul, Int.reduceNeg, Int.reduceToNat, Nat.reduceMul], by simp only [f67, go_sem, Nat.reduceEqDiff, Nat.reduceAdd, Nat.reduceLeDiff, Int.reduceEq, Int.reduceLT, Int.reduceLE, Int.reduceAdd, Int.reduceSub, Int.reduceMul, Int.reduceNeg, Int.reduceToNat, Nat.reduceMul], by simp only [f68, go_sem, Nat.reduceEqDiff, Nat.reduceAdd, Nat.reduceLeDiff, Int.reduceEq, Int.reduceLT, Int.reduceLE, Int.reduceAdd, Int.reduceSub, Int.reduceMul, Int.reduceNeg, Int.reduceToNat, Nat.reduceMul], by simp only [go_sem, Nat.reduceEqDiff, Nat.reduceAdd, Nat.reduceLeDiff, Int.reduceEq, Int.reduceLT, Int.reduceLE, Int.reduceAdd, Int.reduceSub, Int.reduceMul, Int.reduceNeg, Int.reduceToNat, Nat.reduceMul] <;> rfl, st2, by omega, hml, hlv⟩
            · simp only [↓hv30.run, ↓(v17 h17 _ _ _ _).run, f1, f7, f10, f11, f67, f68, f69, hx, w0, go_sem, Nat.reduceEqDiff, Nat.reduceAdd, Nat.reduceLeDiff, Int.reduceEq, Int.reduceLT, Int.reduceLE, Int.reduceAdd, Int.reduceSub, Int.reduceMul, Int.reduceNeg, Int.reduceToNat, Nat.reduceMul]
              exact ⟨asks.length - (i + 1), by omega, i + 1, last, lv, ml, by omega, rfl, by simp only [f1, go_sem, Nat.reduceEqDiff, Nat.reduceAdd, Nat.reduceLeDiff, Int.reduceEq, Int.reduceLT, Int.reduceLE, Int.reduceAdd, Int.reduceSub, Int.reduceMul, Int.reduceNeg, Int.reduceToNat, Nat.reduceMul], by simp only [f7, go_sem, Nat.reduceEqDiff, Nat.reduceAdd, Nat.reduceLeDiff, Int.reduceEq, Int.reduceLT, Int.reduceLE, Int.reduceAdd, Int.reduceSub, Int.reduceMul, Int.reduceNeg, Int.reduceToNat, Nat.reduceMul], by simp only [f10, go_sem, Nat.reduceEqDiff, Nat.reduceAdd, Nat.reduceLeDiff, Int.reduceEq, Int.reduceLT, Int.reduceLE, Int.reduceAdd, Int.reduceSub, Int.reduceMul, Int.reduceNeg, Int.reduceToNat, Nat.reduceMul], by simp only [f11, go_sem, Nat.reduceEqDiff, Nat.reduceAdd, Nat.reduceLeDiff, Int.reduceEq, Int.reduceLT, Int.reduceLE, Int.reduceAdd, Int.reduceSub, Int.reduceMul, Int.reduceNeg, Int.reduceToNat, Nat.reduceMul], by simp only [f67, go_sem, Nat.reduceEqDiff, Nat.reduceAdd, Nat.reduceLeDiff, Int.reduceEq, Int.reduceLT, Int.reduceLE, Int.reduceAdd, Int.reduceSub, Int.reduceMul, Int.reduceNeg, Int.reduceToNat, Nat.reduceMul], by simp only [f68, go_sem, Nat.reduceEqDiff, Nat.reduceAdd, Nat.reduceLeDiff, Int.reduceEq, Int.reduceLT, Int.reduceLE, Int.reduceAdd, Int.reduceSub, Int.reduceMul, Int.reduceNeg, Int.reduceToNat, Nat.reduceMul], by simp only [go_sem, Nat.reduceEqDiff, Nat.reduceAdd, Nat.reduceLeDiff, Int.reduceEq, Int.reduceLT, Int.reduceLE, Int.reduceAdd, Int.reduceSub, Int.reduceMul, Int.reduceNeg, Int.reduceToNat, Nat.reduceMul] <;> rfl, st2, by omega, hml, hlv⟩
        · have hnl : ¬ H'.low < H.next := by have := st.low; omega
          simp only [f1, f7, f10, f11, f67, f68, f69, hnl, go_sem, Nat.reduceEqDiff, Nat.reduceAdd, Nat.reduceLeDiff, Int.reduceEq, Int.reduceLT, Int.reduceLE, Int.reduceAdd, Int.reduceSub, Int.reduceMul, Int.reduceNeg, Int.reduceToNat, Nat.reduceMul]
          exact hQ
      · intro id hid
        rw [AH.get_push_lt _ _ (by rw [AH.next_push]; omega), AH.get_push_lt _ _ (by omega)]
        exact st0.old id hid
      · rw [lw_push, lw_push, hlow0, lw_enter]; omega
      · rw [AH.get_push_lt _ _ (by rw [AH.next_push]; omega), AH.get_push_lt _ _ (by omega)]
        exact st0.bk
      · rw [AH.get_push_lt _ _ (by rw [AH.next_push]; omega), AH.get_push_lt _ _ (by omega)]
        exact st0.rt
      · have := AH.get_push_eq (H1.push ⟨[.int .i64 0, .int .i64 0], 1, false⟩) (pail v burst 0 (burst * 1000))
        rw [AH.next_push] at this
        exact this
      · omega
      · rw [lvl_here]; split <;> rfl
  · have hv28 := v28_bad h24 h51 h28 hs' burst hok
    have hv25 : Val tbl 25 [v] H.enter (.int .i64 (ratesErr l)) H.enter := vrates (n := 25) h25 hs'
    by_cases e0 : ratesErr l = 0
    · have hb : ¬ (1 ≤ burst ∧ burst ≤ 1000000000) := fun h => hok ⟨e0, h⟩
      rw [if_neg (by omega)] at hv28
      rw [e0] at hv25
      simp only [↓hv28.run, ↓hv25.run, ↓(hv3 _).run, ↓(v17 h17 _ _ _ _).run, ↓(v16b h16 _ _ _).run, hb, go_sem, Nat.reduceEqDiff, Nat.reduceAdd, Nat.reduceLeDiff, Int.reduceEq, Int.reduceLT, Int.reduceLE, Int.reduceAdd, Int.reduceSub, Int.reduceMul, Int.reduceNeg, Int.reduceToNat, Nat.reduceMul]
      refine (Val.run (v15 h15 _ _ [0, 7] (sl2' (H := H.enter) (b := H.next) rfl) (by simp))).2 ?_
      simp only [↓(hv3 _).run, firstL, go_sem, Nat.reduceEqDiff, Nat.reduceAdd, Nat.reduceLeDiff, Int.reduceEq, Int.reduceLT, Int.reduceLE, Int.reduceAdd, Int.reduceSub, Int.reduceMul, Int.reduceNeg, Int.reduceToNat, Nat.reduceMul]
      exact hQ
    · rw [if_pos e0] at hv28
      by_cases hb : 1 ≤ burst ∧ burst ≤ 1000000000
      · simp only [↓hv28.run, ↓hv25.run, ↓(hv3 _).run, ↓(v17 h17 _ _ _ _).run, ↓(v16b h16 _ _ _).run, hb, go_sem, Nat.reduceEqDiff, Nat.reduceAdd, Nat.reduceLeDiff, Int.reduceEq, Int.reduceLT, Int.reduceLE, Int.reduceAdd, Int.reduceSub, Int.reduceMul, Int.reduceNeg, Int.reduceToNat, Nat.reduceMul]
        refine (Val.run (v15 h15 _ _ [ratesErr l, 0] (sl2' (H := H.enter) (b := H.next) rfl) (by simp))).2 ?_
        simp only [↓(hv3 _).run, firstL, e0, go_sem, Nat.reduceEqDiff, Nat.reduceAdd, Nat.reduceLeDiff, Int.reduceEq, Int.reduceLT, Int.reduceLE, Int.reduceAdd, Int.reduceSub, Int.reduceMul, Int.reduceNeg, Int.reduceToNat, Nat.reduceMul]
        exact hQ
      · simp only [↓hv28.run, ↓hv25.run, ↓(hv3 _).run, ↓(v17 h17 _ _ _ _).run, ↓(v16b h16 _ _ _).run, hb, go_sem, Nat.reduceEqDiff, Nat.reduceAdd, Nat.reduceLeDiff, Int.reduceEq, Int.reduceLT, Int.reduceLE, Int.reduceAdd, Int.reduceSub, Int.reduceMul, Int.reduceNeg, Int.reduceToNat, Nat.reduceMul]
        refine (Val.run (v15 h15 _ _ [ratesErr l, 7] (sl2' (H := H.enter) (b := H.next) rfl) (by simp))).2 ?_
        simp only [↓(hv3 _).run, firstL, e0, go_sem, Nat.reduceEqDiff, Nat.reduceAdd, Nat.reduceLeDiff, Int.reduceEq, Int.reduceLT, Int.reduceLE, Int.reduceAdd, Int.reduceSub, Int.reduceMul, Int.reduceNeg, Int.reduceToNat, Nat.reduceMul]
        exact hQ
end
end Go.Proofs.Ytidpkoaomfbljaa.AM
