import Derived.Test.YtidpkoaomfbljaaBuckE
namespace Go.Proofs.Ytidpkoaomfbljaa.AM
open Go
set_option linter.all false
variable {tbl : Tbl} [hT : TMono tbl]

section
variable (h55 : tbl 55 = some (.code m55)) (h54 : tbl 54 = some (.code m54)) (h32 : tbl 32 = some (.code m32))
include h55 h54 h32
theorem v32_ok {H : AH} {k kb : Nat} {l : List (Int × Int)} (hl : Right l) {most level at0 burst : Int} (hbk : H.get k = some (buck kb l.length most level at0 (allZero l))) (hrt : H.get kb = some ⟨cells2 l, 2, false⟩)
    (hb : 1 ≤ burst ∧ burst ≤ 1000000000) (hm : most = burst * 1000) (hlv : 0 ≤ level ∧ level ≤ most) (ht0 : 0 ≤ at0) {at_ : Int} (ha : at0 ≤ at_ ∧ at_ ≤ 1099511627776) :
    Val tbl 32 [.pointer (some ⟨k, 0, none⟩), .int .i64 at_] H (.tuple #[.int .i64 (lvl l most at0 level at_ / 1000), .int .i64 0]) H := by
  refine Val.of_all fun Q hQ => ?_
  have n1 : ¬ at_ < 0 := by omega
  have n2 : ¬ 1099511627776 < at_ := by omega
  have n3 : ¬ at_ < at0 := by omega
  have hbk' : H.enter.get k = some (buck kb l.length most level at0 (allZero l)) := hbk
  have hrt' : H.enter.get kb = some ⟨cells2 l, 2, false⟩ := hrt
  have hv54 := v54 h55 h54 hl hbk' hrt' (by omega) hlv ht0 ha.1 ha.2
  have hlr := lvl_range hl (most := most) (t0 := at0) (t := at_) hlv
  have e1 : (holdB l most at_ (passB l most (at_ - at0).toNat at0 level)).tdiv 1000 = lvl l most at0 level at_ / 1000 := Int.tdiv_eq_ediv_of_nonneg hlr.1
  have w1 := w64 (x := lvl l most at0 level at_ / 1000) (by omega) (by omega)
  rw [rn_fun h32, k32]
  simp only [n1, n2, n3, nilV, hbk, buck, e1, w1, ↓hv54.run, go_sem, Nat.reduceEqDiff, Nat.reduceAdd, Nat.reduceLeDiff, Int.reduceEq, Int.reduceLT, Int.reduceLE, Int.reduceAdd, Int.reduceSub, Int.reduceMul, Int.reduceNeg, Int.reduceToNat, Nat.reduceMul]
  exact hQ
theorem v32_old {H : AH} {k kb n : Nat} {most level at0 : Int} {g : Bool} (hbk : H.get k = some (buck kb n most level at0 g)) {at_ : Int} (ha : 0 ≤ at_ ∧ at_ < at0 ∧ at_ ≤ 1099511627776) :
    Val tbl 32 [.pointer (some ⟨k, 0, none⟩), .int .i64 at_] H (.tuple #[.int .i64 0, .int .i64 10]) H := by
  refine Val.of_all fun Q hQ => ?_
  have n1 : ¬ at_ < 0 := by omega
  have n2 : ¬ 1099511627776 < at_ := by omega
  have n3 : at_ < at0 := ha.2.1
  rw [rn_fun h32, k32]
  simp only [n1, n2, n3, nilV, hbk, buck, go_sem, Nat.reduceEqDiff, Nat.reduceAdd, Nat.reduceLeDiff, Int.reduceEq, Int.reduceLT, Int.reduceLE, Int.reduceAdd, Int.reduceSub, Int.reduceMul, Int.reduceNeg, Int.reduceToNat, Nat.reduceMul]
  exact hQ
end
/-- A pail; v: its rates. -/
def pail (v : Value) (burst now ml : Int) : Blk := ⟨[v, .int .i64 burst, .int .i64 now, .int .i64 ml], 1, false⟩
theorem v29 (h29 : tbl 29 = some (.code m29)) {H : AH} {a : Option Addr} {n c : Nat} {burst : Int} (hb : 1 ≤ burst ∧ burst ≤ 1000000000) :
    Val tbl 29 [.slice a n c, .int .i64 burst] H (.pointer (some ⟨H.next, 0, none⟩)) (H.push (pail (.slice a n c) burst 0 (burst * 1000))) := by
  refine Val.of_all fun Q hQ => ?_
  have w1 := w64 (x := 1000 * burst) (by omega) (by omega)
  rw [rn_fun h29, k29]
  simp only [w1, go_sem, Nat.reduceEqDiff, Nat.reduceAdd, Nat.reduceLeDiff, Int.reduceEq, Int.reduceLT, Int.reduceLE, Int.reduceAdd, Int.reduceSub, Int.reduceMul, Int.reduceNeg, Int.reduceToNat, Nat.reduceMul]
  rw [Int.mul_comm 1000 burst]
  have hk : (H.enter.push (pail (.slice a n c) burst 0 (burst * 1000))).get H.next = some (pail (.slice a n c) burst 0 (burst * 1000)) := AH.get_push_eq H.enter _
  have hb2 : back H (H.enter.push (pail (.slice a n c) burst 0 (burst * 1000))) (.pointer (some ⟨H.next, 0, none⟩)) = (.pointer (some ⟨H.next, 0, none⟩), H.push (pail (.slice a n c) burst 0 (burst * 1000))) := by
    unfold back
    rw [if_neg (by rw [lw_push, lw_enter]; omega), if_neg (by simp [p3, p2, p1])]
    simp only [moveV, hk]
    rw [if_neg (by omega)]
    by_cases hp : (pail (.slice a n c) burst 0 (burst * 1000)).cells.all p1 = true
    · rw [if_pos hp]; rfl
    · rw [if_neg hp]; rfl
  show Q (back H (H.enter.push (pail (.slice a n c) burst 0 (burst * 1000))) (.pointer (some ⟨H.next, 0, none⟩))).1 (back H (H.enter.push (pail (.slice a n c) burst 0 (burst * 1000))) (.pointer (some ⟨H.next, 0, none⟩))).2
  rw [hb2]
  exact hQ
/-- One block is another one. -/
structure Upd (H : AH) (k : Nat) (b : Blk) (H' : AH) : Prop where
  at_ : H'.get k = some b
  old : ∀ id, id ≠ k → H'.get id = H.get id
  nx : H'.next = H.next
  low : min H.low k ≤ H'.low
theorem Upd.refl {H : AH} {k : Nat} {b : Blk} (h : H.get k = some b) : Upd H k b H := ⟨h, fun _ _ => rfl, rfl, Nat.min_le_left _ _⟩
theorem Upd.trans {H H1 H2 : AH} {k : Nat} {b b2 : Blk} (h : Upd H k b H1) (h2 : Upd H1 k b2 H2) : Upd H k b2 H2 :=
  ⟨h2.at_, fun id hid => by rw [h2.old id hid, h.old id hid], by rw [h2.nx, h.nx], by have := h.low; have := h2.low; omega⟩
theorem Upd.set {H : AH} {k : Nat} {b : Blk} (h : k < H.next) : Upd H k b (H.set k (some b)) := ⟨AH.get_set_eq H _ h, fun id hid => AH.get_set_ne H _ hid, AH.next_set H k _, by rw [lw_set]; omega⟩
section
variable (h53 : tbl 53 = some (.code m53)) (h56 : tbl 56 = some (.code m56))
include h53 h56
theorem v56 {B H : AH} {k : Nat} {v : Value} {l : List (Int × Int)} {burst now ml to : Int} (hB : Sl B 2 v l.length (cells2 l)) (hold : ∀ id, id < B.next → H.get id = B.get id) (hkB : B.next ≤ k) (hl : Right l) (hb : 1 ≤ burst ∧ burst ≤ 1000000000)
    (hk : H.get k = some (pail v burst now ml)) (hn : 0 ≤ now ∧ now ≤ 4611686018427387904) (hto : 0 ≤ to ∧ to ≤ 4611686018427387904) (hml : 0 ≤ ml ∧ ml ≤ burst * 1000) :
    ∃ H1, Val tbl 56 [.pointer (some ⟨k, 0, none⟩), .int .i64 to] H (.tuple #[]) H1 ∧ Upd H k (pail v burst (if now < to then to else now) (passB l (burst * 1000) (to - now).toNat now ml)) H1 := by
  suffices hrun : @RunF tbl 56 [.pointer (some ⟨k, 0, none⟩), .int .i64 to] H ⟨fun r H1 => r = .tuple #[] ∧ Upd H k (pail v burst (if now < to then to else now) (passB l (burst * 1000) (to - now).toNat now ml)) H1⟩ by
    obtain ⟨k, r, H1, h1, rfl, h2⟩ := hrun
    exact ⟨H1, ⟨k, h1⟩, h2⟩
  obtain ⟨Q, hQ⟩ : ∃ Q : Value → AH → Prop, Q = fun r H1 => r = .tuple #[] ∧ Upd H k (pail v burst (if now < to then to else now) (passB l (burst * 1000) (to - now).toNat now ml)) H1 := ⟨_, rfl⟩
  rw [← hQ]
  have hlt := AH.get_lt hk
  obtain ⟨ad, cp, hv⟩ := hB.shape
  rw [rn_fun h56, k56]
  simp only [go_sem, Nat.reduceEqDiff, Nat.reduceAdd, Nat.reduceLeDiff, Int.reduceEq, Int.reduceLT, Int.reduceLE, Int.reduceAdd, Int.reduceSub, Int.reduceMul, Int.reduceNeg, Int.reduceToNat, Nat.reduceMul]
  refine rn_loop (fun m f H' => ∃ (t x : Int), now ≤ t ∧ (t = now ∨ t ≤ to) ∧ m = (to - t).toNat ∧ f 0 = .pointer (some ⟨k, 0, none⟩) ∧ f 1 = .int .i64 to ∧ x = passB l (burst * 1000) (t - now).toNat now ml ∧ (H' = H.enter ∧ t = now ∨ H' = H.enter.set k (some (pail v burst t x)))) ?_ (n := (to - now).toNat)
    ⟨now, ml, by omega, .inl rfl, rfl, by simp only [go_sem, Nat.reduceEqDiff, Nat.reduceAdd, Nat.reduceLeDiff, Int.reduceEq, Int.reduceLT, Int.reduceLE, Int.reduceAdd, Int.reduceSub, Int.reduceMul, Int.reduceNeg, Int.reduceToNat, Nat.reduceMul], by simp only [go_sem, Nat.reduceEqDiff, Nat.reduceAdd, Nat.reduceLeDiff, Int.reduceEq, Int.reduceLT, Int.reduceLE, Int.reduceAdd, Int.reduceSub, Int.reduceMul, Int.reduceNeg, Int.reduceToNat, Nat.reduceMul], by rw [Int.sub_self]; rfl, .inl ⟨rfl, rfl⟩⟩
  rintro m f H' ⟨t, x, hnt, htt, rfl, f0, f1, hx, hH'⟩
  have hx0 : x = ml ∨ now < t := by
    by_cases h : now < t
    · exact .inr h
    · have : t = now := by omega
      subst this
      rw [Int.sub_self] at hx
      exact .inl hx
  have hg : H'.get k = some (pail v burst t x) := by
    rcases hH' with ⟨rfl, h⟩ | rfl
    · rcases hx0 with h2 | h2
      · rw [h, h2]; exact hk
      · omega
    · exact AH.get_set_eq _ _ (by rw [nx_enter]; exact hlt)
  have hxr := passB_range hl (t - now).toNat now ml hml
  rw [← hx] at hxr
  by_cases hlt2 : t < to
  · have hs : Sl H' 2 v l.length (cells2 l) := hB.keep fun id hid => by
      rcases hH' with ⟨rfl, _⟩ | rfl
      · exact hold id hid
      · rw [AH.get_set_ne _ _ (by omega)]; exact hold id hid
    have hset : ∀ b, H'.set k b = H.enter.set k b := fun b => by
      rcases hH' with ⟨rfl, _⟩ | rfl
      · rfl
      · exact set_set
    have hnx' : H'.next = H.next := by
      rcases hH' with ⟨rfl, _⟩ | rfl
      · rfl
      · exact AH.next_set _ _ _
    have hlt3 : k < H'.next := by omega
    have hrr := rate_range hl t
    have w1 := w64 (x := 1000 * burst) (by omega) (by omega)
    have w2 := w64 (x := x + rate l t) (by omega) (by omega)
    have w3 := w64 (x := t + 1) (by omega) (by omega)
    have hrd : rAtL (secOf t) l 0 = rate l t := rfl
    have hv53 := v53 h53 hs hl.len t (by omega)
    have hstep : passB l (burst * 1000) (t + 1 - now).toNat now ml = stepB (burst * 1000) (rate l t) x := by
      rw [show (t + 1 - now).toNat = (t - now).toNat + 1 by omega, passB_add, ← hx, show now + (((t - now).toNat : Nat) : Int) = t by omega]
      rfl
    rw [hv] at hg hv53
    by_cases hr : rate l t < 0
    · simp only [f0, f1, hg, nilV, pail, hlt2, ↓hv53.run, hrd, hr, w1, w3, hlt, hlt3, stc_eq, stB_some, set_get, set_set, AH.next_set, go_sem, Nat.reduceEqDiff, Nat.reduceAdd, Nat.reduceLeDiff, Int.reduceEq, Int.reduceLT, Int.reduceLE, Int.reduceAdd, Int.reduceSub, Int.reduceMul, Int.reduceNeg, Int.reduceToNat, Nat.reduceMul]
      refine ⟨(to - (t + 1)).toNat, by omega, t + 1, 1000 * burst, by omega, .inr (by omega), rfl, by simp only [f0, go_sem, Nat.reduceEqDiff, Nat.reduceAdd, Nat.reduceLeDiff, Int.reduceEq, Int.reduceLT, Int.reduceLE, Int.reduceAdd, Int.reduceSub, Int.reduceMul, Int.reduceNeg, Int.reduceToNat, Nat.reduceMul], by simp only [f1, go_sem, Nat.reduceEqDiff, Nat.reduceAdd, Nat.reduceLeDiff, Int.reduceEq, Int.reduceLT, Int.reduceLE, Int.reduceAdd, Int.reduceSub, Int.reduceMul, Int.reduceNeg, Int.reduceToNat, Nat.reduceMul], ?_, .inr ?_⟩
      · rw [hstep, stepB, if_pos (by omega)]; omega
      · rw [hset, hv]; rfl
    · simp only [f0, f1, hg, nilV, pail, hlt2, ↓hv53.run, hrd, hr, w1, w2, w3, hlt, hlt3, stc_eq, stB_some, set_get, set_set, AH.next_set, go_sem, Nat.reduceEqDiff, Nat.reduceAdd, Nat.reduceLeDiff, Int.reduceEq, Int.reduceLT, Int.reduceLE, Int.reduceAdd, Int.reduceSub, Int.reduceMul, Int.reduceNeg, Int.reduceToNat, Nat.reduceMul]
      refine ⟨(to - (t + 1)).toNat, by omega, t + 1, (if x + rate l t < 1000 * burst then x + rate l t else 1000 * burst), by omega, .inr (by omega), rfl, by simp only [f0, go_sem, Nat.reduceEqDiff, Nat.reduceAdd, Nat.reduceLeDiff, Int.reduceEq, Int.reduceLT, Int.reduceLE, Int.reduceAdd, Int.reduceSub, Int.reduceMul, Int.reduceNeg, Int.reduceToNat, Nat.reduceMul], by simp only [f1, go_sem, Nat.reduceEqDiff, Nat.reduceAdd, Nat.reduceLeDiff, Int.reduceEq, Int.reduceLT, Int.reduceLE, Int.reduceAdd, Int.reduceSub, Int.reduceMul, Int.reduceNeg, Int.reduceToNat, Nat.reduceMul], ?_, .inr ?_⟩
      rotate_left
      · rw [hset, hv]; rfl
      · rw [hstep, stepB, if_neg (show ¬ rate l t = -1 by omega)]; split <;> split <;> omega
  · rw [hv] at hg
    simp only [f0, f1, hg, nilV, pail, hlt2, go_sem, Nat.reduceEqDiff, Nat.reduceAdd, Nat.reduceLeDiff, Int.reduceEq, Int.reduceLT, Int.reduceLE, Int.reduceAdd, Int.reduceSub, Int.reduceMul, Int.reduceNeg, Int.reduceToNat, Nat.reduceMul]
    rcases hH' with ⟨rfl, h⟩ | rfl
    · subst h
      rw [back_p3 (by rw [lw_enter]; omega) rfl, hQ]
      refine ⟨rfl, ?_⟩
      rw [if_neg hlt2, show (to - t).toNat = 0 by omega]
      exact .refl hk
    · rw [back_set hlt, hQ]
      refine ⟨rfl, ?_⟩
      have : t = (if now < to then to else now) := by split <;> omega
      rw [← this, show (to - now).toNat = (t - now).toNat by omega, ← hx]
      exact .set hlt
end
theorem v33 (h53 : tbl 53 = some (.code m53)) (h33 : tbl 33 = some (.code m33)) {H : AH} {k : Nat} {v : Value} {l : List (Int × Int)} {burst now ml : Int} (hs : Sl H 2 v l.length (cells2 l)) (hl : Right l) (hb : 1 ≤ burst ∧ burst ≤ 1000000000)
    (hk : H.get k = some (pail v burst now ml)) (hn : 0 ≤ now) : Val tbl 33 [.pointer (some ⟨k, 0, none⟩)] H (.int .i64 (lvl l (burst * 1000) now ml now)) H := by
  refine Val.of_all fun Q hQ => ?_
  have hs' : Sl H.enter 2 v l.length (cells2 l) := hs
  have hv53 := v53 h53 hs' hl.len now hn
  obtain ⟨ad, cp, hv⟩ := hs.shape
  have w1 := w64 (x := 1000 * burst) (by omega) (by omega)
  have hrd : rAtL (secOf now) l 0 = rate l now := rfl
  have hrr := rate_range hl now
  rw [lvl_here] at hQ
  subst hv
  rw [rn_fun h33, k33]
  by_cases hr : rate l now < 0
  · rw [if_pos (by omega), Int.mul_comm] at hQ
    simp only [hk, nilV, pail, ↓hv53.run, hrd, hr, w1, go_sem, Nat.reduceEqDiff, Nat.reduceAdd, Nat.reduceLeDiff, Int.reduceEq, Int.reduceLT, Int.reduceLE, Int.reduceAdd, Int.reduceSub, Int.reduceMul, Int.reduceNeg, Int.reduceToNat, Nat.reduceMul]
    exact hQ
  · rw [if_neg (by omega)] at hQ
    simp only [hk, nilV, pail, ↓hv53.run, hrd, hr, w1, go_sem, Nat.reduceEqDiff, Nat.reduceAdd, Nat.reduceLeDiff, Int.reduceEq, Int.reduceLT, Int.reduceLE, Int.reduceAdd, Int.reduceSub, Int.reduceMul, Int.reduceNeg, Int.reduceToNat, Nat.reduceMul]
    exact hQ
end Go.Proofs.Ytidpkoaomfbljaa.AM
