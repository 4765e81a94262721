import Derived.Test.YtidpkoaomfbljaaSpecC
import Derived.Test.YtidpkoaomfbljaaBuckA
namespace Go.Proofs.Ytidpkoaomfbljaa.AM
open Go
set_option linter.all false
variable {tbl : Tbl} [hT : TMono tbl]

/-- What lies there stays, and more comes. -/
structure Grow (H H' : AH) : Prop where
  old : ∀ id, id < H.next → H'.get id = H.get id
  nx : H.next ≤ H'.next
  low : H'.low = H.low
theorem relow {H : AH} : ({ blks := H.enter.blks, low := H.low } : AH) = H := rfl
theorem relow_push {H : AH} {b : Blk} : ({ blks := (H.enter.push b).blks, low := H.low } : AH) = H.push b := rfl
theorem back_stay {H H1 : AH} {k : Nat} {b : Blk} {y : Value} (hk : H1.get k = some b) (hb : b.cells.all p1 = false) (hge : H.next ≤ k) (hl : H.next ≤ H1.low) : back H H1 (.tuple #[.pointer (some ⟨k, 0, none⟩), y]) = (.tuple #[.pointer (some ⟨k, 0, none⟩), y], { H1 with low := H.low }) := by
  unfold back
  rw [if_neg (by omega), if_neg (by simp [p3, p2, p1])]
  simp only [moveV, hk]
  rw [if_neg (by omega), if_neg (by simp [hb])]
section
variable (h69 : tbl 69 = some (.code m69)) (h70 : tbl 70 = some (.code m70)) (h71 : tbl 71 = some (.code m71)) (h72 : tbl 72 = some (.code m72)) (h59 : tbl 59 = some (.code m59)) (h75 : tbl 75 = some (.code m75)) (h60 : tbl 60 = some (.code m60)) (h36 : tbl 36 = some (.code m36))
include h69 h70 h71 h72 h59 h75 h60 h36
theorem v36 {H : AH} {c : Nat} (hpos : 0 < H.next) (hdead : H.get 0 = none) :
    ∃ H1 k, Val tbl 36 [wideV, .pointer (some ⟨c, 0, none⟩), .slice none 0 0] H (.tuple #[.pointer (some ⟨k, 0, none⟩), .int .i64 0]) H1 ∧ Grow H H1 := by
  suffices hrun : @RunF tbl 36 [wideV, .pointer (some ⟨c, 0, none⟩), .slice none 0 0] H ⟨fun r H1 => (∃ k, r = .tuple #[.pointer (some ⟨k, 0, none⟩), .int .i64 0]) ∧ Grow H H1⟩ by
    obtain ⟨k, r, H1, h1, ⟨k', rfl⟩, h2⟩ := hrun
    exact ⟨H1, k', ⟨k, h1⟩, h2⟩
  obtain ⟨Q, hQ⟩ : ∃ Q : Value → AH → Prop, Q = fun r H1 => (∃ k, r = .tuple #[.pointer (some ⟨k, 0, none⟩), .int .i64 0]) ∧ Grow H H1 := ⟨_, rfl⟩
  rw [← hQ]
  have hv59 := fun X => v59 h69 h70 h71 h72 h59 X
  rw [rn_fun h36, k36]
  have e0 : ∀ X : AH, 0 < X.next + 1 := fun X => by omega
  have hd : (H.get 0).isNone = true := by rw [hdead]; rfl
  have hn0 : ¬ 0 = H.next := by omega
  have hlt : H.next < H.next + 1 := by omega
  simp only [wideV] at hv59
  simp only [wideV, ↓(hv59 _).run, hpos, e0, hd, hn0, hlt, go_sem, Nat.reduceEqDiff, Nat.reduceAdd, Nat.reduceLeDiff, Int.reduceEq, Int.reduceLT, Int.reduceLE, Int.reduceAdd, Int.reduceSub, Int.reduceMul, Int.reduceNeg, Int.reduceToNat, Nat.reduceMul]
  have hk : (((H.enter.push ⟨[.int .i64 3071, .int .i64 16, .int .i64 1, .int .i64 255, .int .i64 1024, .int .i64 100000, .int .i64 3, .int .i64 1, .string ⟨#[]⟩], 1, false⟩).push ⟨rep 14 [.int .i64 0], 1, false⟩).push (memB (.pointer (some ⟨c, 0, none⟩)) (.pointer (some ⟨0, 0, none⟩)) (.slice (some ⟨H.next + 1, 0, none⟩) 14 14) (.slice none 0 0))).get (H.next + 1 + 1) = some (memB (.pointer (some ⟨c, 0, none⟩)) (.pointer (some ⟨0, 0, none⟩)) (.slice (some ⟨H.next + 1, 0, none⟩) 14 14) (.slice none 0 0)) := by
    have := AH.get_push_eq ((H.enter.push ⟨[.int .i64 3071, .int .i64 16, .int .i64 1, .int .i64 255, .int .i64 1024, .int .i64 100000, .int .i64 3, .int .i64 1, .string ⟨#[]⟩], 1, false⟩).push ⟨rep 14 [.int .i64 0], 1, false⟩) (memB (.pointer (some ⟨c, 0, none⟩)) (.pointer (some ⟨0, 0, none⟩)) (.slice (some ⟨H.next + 1, 0, none⟩) 14 14) (.slice none 0 0))
    rw [AH.next_push, AH.next_push, nx_enter] at this
    exact this
  obtain ⟨H1, s, hv60, g1, g2, g3, g4⟩ := v60 h75 h60 hk
  refine (Val.run hv60).2 ?_
  rw [AH.next_push, AH.next_push, AH.next_push, nx_enter] at g1 g2
  rw [lw_push, lw_push, lw_push, lw_enter] at g3
  simp only [go_sem, Nat.reduceEqDiff, Nat.reduceAdd, Nat.reduceLeDiff, Int.reduceEq, Int.reduceLT, Int.reduceLE, Int.reduceAdd, Int.reduceSub, Int.reduceMul, Int.reduceNeg, Int.reduceToNat, Nat.reduceMul]
  rw [back_stay g4 rfl (by omega) (by omega), hQ]
  refine ⟨⟨_, rfl⟩, fun id hid => ?_, by show H.next ≤ H1.next; omega, rfl⟩
  show H1.get id = H.get id
  rw [g1 id (by omega) (by omega), AH.get_push_lt _ _ (by rw [AH.next_push, AH.next_push, nx_enter]; omega), AH.get_push_lt _ _ (by rw [AH.next_push, nx_enter]; omega), AH.get_push_lt _ _ (by rw [nx_enter]; omega), gt_enter]
end
section
variable (h47 : tbl 47 = some (.code m47)) (h11 : tbl 11 = some (.code m11)) (h48 : tbl 48 = some (.code m48)) (h24 : tbl 24 = some (.code m24)) (h51 : tbl 51 = some (.code m51)) (h57 : tbl 57 = some (.code m57)) (h34 : tbl 34 = some (.code m34)) (h61 : tbl 61 = some (.code m61)) (h39 : tbl 39 = some (.code m39))
include h47 h11 h48 h24 h51 h57 h34 h61 h39
theorem v39_bad {H : AH} {t1 t2 : TypeId} {p1 p2 : Value} {ck : Nat} (c p pc sp la o se li a b f j e : Int) {v : Value} {l : List (Int × Int)} (hs : Sl H 2 v l.length (cells2 l)) (bu : Int) (hbad : specErr c p pc sp la o se li a b f j e l bu ≠ 0) :
    Val tbl 39 [.iface t1 p1, .iface t2 p2, .pointer (some ⟨ck, 0, none⟩), specV c p pc sp la o se li a b f j e v bu] H (.tuple #[.pointer none, .int .i64 (specErr c p pc sp la o se li a b f j e l bu)]) H := by
  refine Val.of_all fun Q hQ => ?_
  obtain ⟨va, vc, hv⟩ := hs.shape
  have hs' : ∀ B, Sl (H.enter.push B) 2 v l.length (cells2 l) := fun B => hs.keep fun id hid => AH.get_push_lt _ _ hid
  have hv34 := fun B => v34 h47 h11 h48 h24 h51 h57 h34 c p pc sp la o se li a b f j e (hs' B) bu
  rw [rn_fun h39, k39]
  rw [hv] at hv34 ⊢
  simp only [specV] at hv34
  simp only [specV, ↓(hv34 _).run, hbad, go_sem, Nat.reduceEqDiff, Nat.reduceAdd, Nat.reduceLeDiff, Int.reduceEq, Int.reduceLT, Int.reduceLE, Int.reduceAdd, Int.reduceSub, Int.reduceMul, Int.reduceNeg, Int.reduceToNat, Nat.reduceMul]
  exact hQ
theorem v39_ok {H : AH} {t1 t2 : TypeId} {p1 p2 : Value} {ck : Nat} {n : Int} (hck : H.get ck = some ⟨[.int .i64 n], 1, false⟩) (c p pc sp la o se li a b f j e : Int) {v : Value} {l : List (Int × Int)} (hs : Sl H 2 v l.length (cells2 l)) (bu : Int) (hok : specErr c p pc sp la o se li a b f j e l bu = 0) :
    ∃ H1 k, Val tbl 39 [.iface t1 p1, .iface t2 p2, .pointer (some ⟨ck, 0, none⟩), specV c p pc sp la o se li a b f j e v bu] H (.tuple #[.pointer (some ⟨k, 0, none⟩), .int .i64 0]) H1 ∧ Grow H H1 := by
  suffices hrun : @RunF tbl 39 [.iface t1 p1, .iface t2 p2, .pointer (some ⟨ck, 0, none⟩), specV c p pc sp la o se li a b f j e v bu] H ⟨fun r H1 => (∃ k, r = .tuple #[.pointer (some ⟨k, 0, none⟩), .int .i64 0]) ∧ Grow H H1⟩ by
    obtain ⟨k, r, H1, h1, ⟨k', rfl⟩, h2⟩ := hrun
    exact ⟨H1, k', ⟨k, h1⟩, h2⟩
  obtain ⟨Q, hQ⟩ : ∃ Q : Value → AH → Prop, Q = fun r H1 => (∃ k, r = .tuple #[.pointer (some ⟨k, 0, none⟩), .int .i64 0]) ∧ Grow H H1 := ⟨_, rfl⟩
  rw [← hQ]
  obtain ⟨va, vc, hv⟩ := hs.shape
  have hs' : ∀ B, Sl (H.enter.push B) 2 v l.length (cells2 l) := fun B => hs.keep fun id hid => AH.get_push_lt _ _ hid
  have hv34 := fun B => v34 h47 h11 h48 h24 h51 h57 h34 c p pc sp la o se li a b f j e (hs' B) bu
  have hr0 : ratesErr l = 0 := by
    unfold specErr at hok
    omega
  have hl := right_of hr0
  have hne : l ≠ [] := fun e => by rw [e] at hr0; simp [ratesErr] at hr0
  have hpos : 0 < l.length := List.length_pos_iff.2 hne
  have hlen := hl.len
  have hadd := fun B => added_sl (hs' B) hne
  have happ := fun X => appended_new (H := X) (es := 2) (bytes := 16) (k := l.length) (new := cells2 l) hpos (by omega)
  rw [rn_fun h39, k39]
  rw [hv] at hv34 hadd ⊢
  rw [hok] at hv34
  simp only [specV] at hv34
  have hclt := AH.get_lt hck
  have hlt : H.next < H.next + 1 := by omega
  have hlt2 : H.next < H.next + 1 + 1 := by omega
  have hcn : ¬ ck = H.next := by omega
  have hcn2 : ¬ ck = H.next + 1 := by omega
  simp only [specV, ↓(hv34 _).run, hadd, happ, hlt, hlt2, hcn, hcn2, stc_eq, stB_some, AH.next_set, go_sem, Nat.reduceEqDiff, Nat.reduceAdd, Nat.reduceLeDiff, Int.reduceEq, Int.reduceLT, Int.reduceLE, Int.reduceAdd, Int.reduceSub, Int.reduceMul, Int.reduceNeg, Int.reduceToNat, Nat.reduceMul]
  obtain ⟨B, hB⟩ : ∃ B : Blk, B = ⟨[.int .i64 c, .int .i64 p, .int .i64 pc, .int .i64 sp, .int .i64 la, .int .i64 o, .int .i64 se, .int .i64 li, .int .i64 a, .int .i64 b, .int .i64 f, .int .i64 j, .int .i64 e, .slice (some ⟨H.next + 1, 0, none⟩) l.length l.length, .int .i64 bu], 1, false⟩ := ⟨_, rfl⟩
  rw [← hB]
  obtain ⟨H3, hH3⟩ : ∃ H3, H3 = ((H.enter.push ⟨[.int .i64 c, .int .i64 p, .int .i64 pc, .int .i64 sp, .int .i64 la, .int .i64 o, .int .i64 se, .int .i64 li, .int .i64 a, .int .i64 b, .int .i64 f, .int .i64 j, .int .i64 e, .slice va l.length vc, .int .i64 bu], 1, false⟩).push ⟨cells2 l, 2, false⟩).set H.next (some B) := ⟨_, rfl⟩
  rw [← hH3]
  have n3 : H3.next = H.next + 2 := by rw [hH3, AH.next_set, AH.next_push, AH.next_push, nx_enter]
  have g3 : H3.get H.next = some B := by rw [hH3]; exact AH.get_set_eq _ _ (by rw [AH.next_push, AH.next_push, nx_enter]; omega)
  have o3 : ∀ id, id < H.next → H3.get id = H.get id := fun id hid => by
    rw [hH3, AH.get_set_ne _ _ (by omega), AH.get_push_lt _ _ (by rw [AH.next_push, nx_enter]; omega), AH.get_push_lt _ _ (by rw [nx_enter]; exact hid), gt_enter]
  have l3 : H.next ≤ H3.low := by rw [hH3, lw_set, lw_push, lw_push, lw_enter]; omega
  have hv61 := v61 h61 (H := H3.enter) (k := ck) (n := n) (by rw [gt_enter, o3 ck hclt]; exact hck)
  have hold : H.next < H.next + 2 := by omega
  refine (Val.run hv61).2 ?_
  simp only [specV, g3, n3, hold, hB, MI.rdBlk, blkOf, relow, go_sem, Nat.reduceEqDiff, Nat.reduceAdd, Nat.reduceLeDiff, Int.reduceEq, Int.reduceLT, Int.reduceLE, Int.reduceAdd, Int.reduceSub, Int.reduceMul, Int.reduceNeg, Int.reduceToNat, Nat.reduceMul]
  have hk2 : ∀ E : Blk, (H3.push E).get (H.next + 2) = some E := fun E => by rw [← n3]; exact AH.get_push_eq H3 E
  rw [back_stay (hk2 _) rfl (by omega) (by rw [lw_push]; exact l3), hQ]
  refine ⟨⟨_, rfl⟩, fun id hid => ?_, ?_, rfl⟩
  · rw [← o3 id hid]
    exact AH.get_push_lt H3 _ (by omega)
  · show H.next ≤ (H3.push _).next
    rw [AH.next_push]; omega
end
section
variable (h47 : tbl 47 = some (.code m47)) (h11 : tbl 11 = some (.code m11)) (h48 : tbl 48 = some (.code m48)) (h68 : tbl 68 = some (.code m68)) (h49 : tbl 49 = some (.code m49)) (h12 : tbl 12 = some (.code m12)) (h14 : tbl 14 = some (.code m14)) (h18 : tbl 18 = some (.code m18))
  (h24 : tbl 24 = some (.code m24)) (h51 : tbl 51 = some (.code m51)) (h57 : tbl 57 = some (.code m57)) (h34 : tbl 34 = some (.code m34)) (h61 : tbl 61 = some (.code m61)) (h39 : tbl 39 = some (.code m39))
  (h13 : tbl 13 = some (.code m13)) (h25 : tbl 25 = some (.code m25)) (h58 : tbl 58 = some (.code m58)) (h35 : tbl 35 = some (.code m35)) (h37 : tbl 37 = some (.code m37)) (h38 : tbl 38 = some (.code m38))
  (h69 : tbl 69 = some (.code m69)) (h70 : tbl 70 = some (.code m70)) (h71 : tbl 71 = some (.code m71)) (h72 : tbl 72 = some (.code m72)) (h59 : tbl 59 = some (.code m59)) (h75 : tbl 75 = some (.code m75)) (h60 : tbl 60 = some (.code m60)) (h36 : tbl 36 = some (.code m36)) (h8 : tbl 8 = some (.code m8))
include h47 h11 h48 h68 h49 h12 h14 h18 h24 h51 h57 h34 h61 h39 h13 h25 h58 h35 h37 h38 h69 h70 h71 h72 h59 h75 h60 h36 h8
theorem v8 {H : AH} (hpos : 0 < H.next) (hdead : H.get 0 = none) (c p pc sp la o se li a b f j e : Int) {v : Value} {l : List (Int × Int)} (hs : Sl H 2 v l.length (cells2 l)) (bu : Int) : Val tbl 8 [specV c p pc sp la o se li a b f j e v bu] H (.bool true) H := by
  refine Val.of_all fun Q hQ => ?_
  obtain ⟨va, vc, hv⟩ := hs.shape
  obtain ⟨B, hB⟩ : ∃ B : Blk, B = ⟨[.int .i64 c, .int .i64 p, .int .i64 pc, .int .i64 sp, .int .i64 la, .int .i64 o, .int .i64 se, .int .i64 li, .int .i64 a, .int .i64 b, .int .i64 f, .int .i64 j, .int .i64 e, v, .int .i64 bu], 1, false⟩ := ⟨_, rfl⟩
  have hs1 : Sl (H.enter.push B) 2 v l.length (cells2 l) := hs.keep fun id hid => AH.get_push_lt _ _ hid
  have hv34 := v34 h47 h11 h48 h24 h51 h57 h34 c p pc sp la o se li a b f j e hs1 bu
  have hv35 := v35 h13 h25 h58 h35 c p pc sp la o se li a b f j e hs1 bu
  have hv14 := fun X => v14 (tbl := tbl) h47 h11 h48 h68 h49 h12 h14 h18 X
  -- the clock, and the store
  obtain ⟨H1, k1, hv36, gr⟩ := v36 h69 h70 h71 h72 h59 h75 h60 h36 (H := (H.enter.push B).push ⟨[.int .i64 0], 1, false⟩) (c := H.next + 1) (by rw [AH.next_push]; omega) (by rw [AH.get_push_lt _ _ (by rw [AH.next_push]; omega), AH.get_push_lt H.enter _ (by rw [nx_enter]; exact hpos)]; exact hdead)
  have hgn := gr.nx
  rw [AH.next_push, AH.next_push, nx_enter] at hgn
  have hgo : ∀ id, id < H.next → H1.get id = H.get id := fun id hid => by
    rw [gr.old id (by rw [AH.next_push, AH.next_push, nx_enter]; omega), AH.get_push_lt _ _ (by rw [AH.next_push, nx_enter]; omega), AH.get_push_lt H.enter _ (by rw [nx_enter]; exact hid)]
    rfl
  have hgb : H1.get H.next = some B := by
    rw [gr.old _ (by rw [AH.next_push, AH.next_push, nx_enter]; omega), AH.get_push_lt _ _ (by rw [AH.next_push, nx_enter]; omega)]
    exact AH.get_push_eq H.enter B
  have hlow1 : H1.low = H.next := by rw [gr.low, lw_push, lw_push, lw_enter]
  have hs2 : Sl (H1.push ⟨[.int .i64 0], 1, false⟩) 2 v l.length (cells2 l) := hs.keep fun id hid => by rw [AH.get_push_lt _ _ (by omega)]; exact hgo id hid
  have hold : H.next < H1.next := by omega
  have hne1 : ¬ H.next = H1.next := by omega
  have hne2 : ¬ H.next = H1.next + 1 := by omega
  rw [rn_fun h8, k8]
  rw [hv] at hv34 hv35 hs2 hB ⊢
  simp only [specV] at hv34 hv35 ⊢
  have hBc : B.cells = [.int .i64 c, .int .i64 p, .int .i64 pc, .int .i64 sp, .int .i64 la, .int .i64 o, .int .i64 se, .int .i64 li, .int .i64 a, .int .i64 b, .int .i64 f, .int .i64 j, .int .i64 e, .slice va l.length vc, .int .i64 bu] := by rw [hB]
  by_cases hok : specErr c p pc sp la o se li a b f j e l bu = 0
  · obtain ⟨H4, k4, hv39, gr4⟩ := v39_ok h47 h11 h48 h24 h51 h57 h34 h61 h39 (t1 := 64) (t2 := 64) (p1 := .pointer (some ⟨k1, 0, none⟩)) (p2 := .pointer (some ⟨k1, 0, none⟩)) (ck := H1.next) (n := 0) (AH.get_push_eq H1 _) c p pc sp la o se li a b f j e hs2 bu hok
    rw [hok] at hv34 hv35
    simp only [specV] at hv39
    simp only [← hB, hBc, ↓hv34.run, ↓hv35.run, ↓(hv14 _).run, ↓(v37 h37 _).run, ↓(v38 h38 _).run, ↓hv36.run, ↓hv39.run, hgb, hold, relow, relow_push, MI.rdBlk, blkOf, hne1, go_sem, Nat.reduceEqDiff, Nat.reduceAdd, Nat.reduceLeDiff, Int.reduceEq, Int.reduceLT, Int.reduceLE, Int.reduceAdd, Int.reduceSub, Int.reduceMul, Int.reduceNeg, Int.reduceToNat, Nat.reduceMul]
    have hl4 : ¬ H4.low < H.next := by rw [gr4.low, lw_push, hlow1]; omega
    rw [beq_self_eq_true, back_p3 hl4 rfl]
    exact hQ
  · have hv39 := v39_bad h47 h11 h48 h24 h51 h57 h34 h61 h39 (H := H1.push ⟨[.int .i64 0], 1, false⟩) (t1 := 64) (t2 := 64) (p1 := .pointer (some ⟨k1, 0, none⟩)) (p2 := .pointer (some ⟨k1, 0, none⟩)) (ck := H1.next) c p pc sp la o se li a b f j e hs2 bu hok
    simp only [specV] at hv39
    simp only [← hB, hBc, hok, ↓hv34.run, ↓hv35.run, ↓(hv14 _).run, ↓(v37 h37 _).run, ↓(v38 h38 _).run, ↓hv36.run, ↓hv39.run, hgb, hold, relow, relow_push, MI.rdBlk, blkOf, hne1, go_sem, Nat.reduceEqDiff, Nat.reduceAdd, Nat.reduceLeDiff, Int.reduceEq, Int.reduceLT, Int.reduceLE, Int.reduceAdd, Int.reduceSub, Int.reduceMul, Int.reduceNeg, Int.reduceToNat, Nat.reduceMul]
    have hl4 : ¬ (H1.push ⟨[.int .i64 0], 1, false⟩).low < H.next := by rw [lw_push, hlow1]; omega
    rw [beq_self_eq_true, back_p3 hl4 rfl]
    exact hQ
end
end Go.Proofs.Ytidpkoaomfbljaa.AM
