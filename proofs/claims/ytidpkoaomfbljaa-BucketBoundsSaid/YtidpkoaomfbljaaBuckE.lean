import Derived.Test.YtidpkoaomfbljaaBuckD
namespace Go.Proofs.Ytidpkoaomfbljaa.AM
open Go
set_option linter.all false
variable {tbl : Tbl} [hT : TMono tbl]

theorem v30_bad (h30 : tbl 30 = some (.code m30)) {H : AH} {k kb n : Nat} {most level at0 : Int} {g : Bool} (hbk : H.get k = some (buck kb n most level at0 g)) {burst : Int} (hb : 1 ≤ burst ∧ burst ≤ 1000000000) (hm : most = burst * 1000) (at_ many : Int)
    (hbad : ¬ ((0 ≤ at_ ∧ at_ ≤ 1099511627776) ∧ 0 ≤ many ∧ many ≤ burst)) : Val tbl 30 [.pointer (some ⟨k, 0, none⟩), .int .i64 at_, .int .i64 many] H (.tuple #[.int .i64 0, .int .i64 7]) H := by
  refine Val.of_all fun Q hQ => ?_
  have e1 : most.tdiv 1000 = burst := by rw [Int.tdiv_eq_ediv_of_nonneg (by omega)]; omega
  have w1 := w64 (x := burst) (by omega) (by omega)
  rw [rn_fun h30, k30]
  by_cases n1 : at_ < 0
  · simp only [n1, go_sem, Nat.reduceEqDiff, Nat.reduceAdd, Nat.reduceLeDiff, Int.reduceEq, Int.reduceLT, Int.reduceLE, Int.reduceAdd, Int.reduceSub, Int.reduceMul, Int.reduceNeg, Int.reduceToNat, Nat.reduceMul]
    exact hQ
  by_cases n2 : 1099511627776 < at_
  · simp only [n1, n2, go_sem, Nat.reduceEqDiff, Nat.reduceAdd, Nat.reduceLeDiff, Int.reduceEq, Int.reduceLT, Int.reduceLE, Int.reduceAdd, Int.reduceSub, Int.reduceMul, Int.reduceNeg, Int.reduceToNat, Nat.reduceMul]
    exact hQ
  by_cases n3 : many < 0
  · simp only [n1, n2, n3, go_sem, Nat.reduceEqDiff, Nat.reduceAdd, Nat.reduceLeDiff, Int.reduceEq, Int.reduceLT, Int.reduceLE, Int.reduceAdd, Int.reduceSub, Int.reduceMul, Int.reduceNeg, Int.reduceToNat, Nat.reduceMul]
    exact hQ
  have n4 : burst < many := by omega
  simp only [n1, n2, n3, n4, nilV, hbk, buck, e1, w1, go_sem, Nat.reduceEqDiff, Nat.reduceAdd, Nat.reduceLeDiff, Int.reduceEq, Int.reduceLT, Int.reduceLE, Int.reduceAdd, Int.reduceSub, Int.reduceMul, Int.reduceNeg, Int.reduceToNat, Nat.reduceMul]
  exact hQ
/-- The grant: the first time at which as many are there. -/
structure TakeAt (l : List (Int × Int)) (most t0 lv T need g : Int) : Prop where
  ge : T ≤ g
  le : g ≤ 1099511627776
  has : need ≤ lvl l most t0 lv g
  first : ∀ u, T ≤ u → u < g → lvl l most t0 lv u < need
def TakeNo (l : List (Int × Int)) (most t0 lv T need : Int) : Prop := ∀ u, T ≤ u → u ≤ 1099511627776 → lvl l most t0 lv u < need
def takeLv (l : List (Int × Int)) (most g x : Int) : Int := if rate l g = -1 then most else x
theorem v30_run (h55 : tbl 55 = some (.code m55)) (h54 : tbl 54 = some (.code m54)) (h30 : tbl 30 = some (.code m30)) {H : AH} {k kb : Nat} {l : List (Int × Int)} (hl : Right l) {most level at0 burst : Int} (hbk : H.get k = some (buck kb l.length most level at0 (allZero l))) (hrt : H.get kb = some ⟨cells2 l, 2, false⟩)
    (hb : 1 ≤ burst ∧ burst ≤ 1000000000) (hm : most = burst * 1000) (hlv : 0 ≤ level ∧ level ≤ most) (ht0 : 0 ≤ at0 ∧ at0 ≤ 1099511627776) (hkk : k ≠ kb) {at_ many : Int} (ha : 0 ≤ at_ ∧ at_ ≤ 1099511627776) (hmany : 0 ≤ many ∧ many ≤ burst) {T : Int} (hT' : T = if at_ < at0 then at0 else at_) (Q : Value → AH → Prop)
    (q1 : ∀ g, TakeAt l most at0 level T (many * 1000) g → Q (.tuple #[.int .i64 g, .int .i64 0]) (H.set k (some (buck kb l.length most (takeLv l most g (lvl l most at0 level g - many * 1000)) g (allZero l)))))
    (q2 : TakeNo l most at0 level T (many * 1000) → Q (.tuple #[.int .i64 0, .int .i64 3]) H) : @RunF tbl 30 [.pointer (some ⟨k, 0, none⟩), .int .i64 at_, .int .i64 many] H ⟨Q⟩ := by
  have e1 : most.tdiv 1000 = burst := by rw [Int.tdiv_eq_ediv_of_nonneg (by omega)]; omega
  have w1 := w64 (x := burst) (by omega) (by omega)
  have n1 : ¬ at_ < 0 := by omega
  have n2 : ¬ 1099511627776 < at_ := by omega
  have n3 : ¬ many < 0 := by omega
  have n4 : ¬ burst < many := by omega
  have hTr : at0 ≤ T ∧ T ≤ 1099511627776 := by rw [hT']; split <;> omega
  have hbk' : H.enter.get k = some (buck kb l.length most level at0 (allZero l)) := hbk
  have hrt' : H.enter.get kb = some ⟨cells2 l, 2, false⟩ := hrt
  have hlt := AH.get_lt hbk
  have hs' : Sl H.enter 2 (.slice (some ⟨kb, 0, none⟩) l.length l.length) l.length (cells2 l) := buck_sl hrt'
  have v55' := fun (t : Int) (ht : 0 ≤ t ∧ t ≤ 1099511627776) => v55 h55 hs' hl.len hl.from_ t ht
  have hv54 := v54 h55 h54 hl hbk' hrt' (by omega) hlv ht0.1 hTr.1 hTr.2
  have wm := w64 (x := many * 1000) (by omega) (by omega)
  rw [rn_fun h30, k30]
  simp only [n1, n2, n3, n4, nilV, hbk, buck, e1, w1, ← hT', ↓hv54.run, go_sem, Nat.reduceEqDiff, Nat.reduceAdd, Nat.reduceLeDiff, Int.reduceEq, Int.reduceLT, Int.reduceLE, Int.reduceAdd, Int.reduceSub, Int.reduceMul, Int.reduceNeg, Int.reduceToNat, Nat.reduceMul]
  refine rn_loop (fun m f H' => H' = H.enter ∧ ∃ (t : Int), T ≤ t ∧ t ≤ 1099511627776 ∧ m = (1099511627776 - t).toNat ∧ f 0 = .pointer (some ⟨k, 0, none⟩) ∧ f 2 = .int .i64 many ∧ f 8 = .int .i64 t ∧ f 9 = .int .i64 (lvl l most at0 level t) ∧ ∀ u, T ≤ u → u < t → lvl l most at0 level u < many * 1000) ?_ (n := (1099511627776 - T).toNat)
    ⟨rfl, T, by omega, by omega, rfl, by simp only [go_sem, Nat.reduceEqDiff, Nat.reduceAdd, Nat.reduceLeDiff, Int.reduceEq, Int.reduceLT, Int.reduceLE, Int.reduceAdd, Int.reduceSub, Int.reduceMul, Int.reduceNeg, Int.reduceToNat, Nat.reduceMul], by simp only [go_sem, Nat.reduceEqDiff, Nat.reduceAdd, Nat.reduceLeDiff, Int.reduceEq, Int.reduceLT, Int.reduceLE, Int.reduceAdd, Int.reduceSub, Int.reduceMul, Int.reduceNeg, Int.reduceToNat, Nat.reduceMul], by simp only [go_sem, Nat.reduceEqDiff, Nat.reduceAdd, Nat.reduceLeDiff, Int.reduceEq, Int.reduceLT, Int.reduceLE, Int.reduceAdd, Int.reduceSub, Int.reduceMul, Int.reduceNeg, Int.reduceToNat, Nat.reduceMul], by simp only [go_sem, Nat.reduceEqDiff, Nat.reduceAdd, Nat.reduceLeDiff, Int.reduceEq, Int.reduceLT, Int.reduceLE, Int.reduceAdd, Int.reduceSub, Int.reduceMul, Int.reduceNeg, Int.reduceToNat, Nat.reduceMul] <;> rfl, fun u h1 h2 => by omega⟩
  rintro m f H' ⟨rfl, t, hTt, htM, rfl, f0, f2, f8, f9, hbelow⟩
  have hlr := lvl_range hl (most := most) (t0 := at0) (t := t) hlv
  obtain ⟨e, he, hte, hed, hconst⟩ := rEnd_law hl (t := t) (by omega)
  have hv := v55' t (by omega)
  rw [he] at hv
  simp only at hv
  have hrr := rate_range hl t
  generalize hlv' : lvl l most at0 level t = lvt at f9 hlr
  by_cases hlow : lvt < many * 1000
  · have hr1 : rate l t ≠ -1 := fun h => by
      unfold lvl holdB at hlv'
      rw [if_pos h] at hlv'
      omega
    have hday : dayOf t ≤ t := by unfold dayOf; omega
    have hadd : ∀ u, t ≤ u → lvl l most at0 level u = lvl l most t lvt u := fun u hu => by rw [← hlv']; exact (lvl_add hl (by omega) hu).symm
    obtain ⟨t2, ht2⟩ : ∃ t2, t2 = (if 0 < rate l t then (if t + (many * 1000 - lvt + rate l t - 1).tdiv (rate l t) < e then t + (many * 1000 - lvt + rate l t - 1).tdiv (rate l t) else e) else e) := ⟨_, rfl⟩
    have hq0 : 0 < rate l t → (many * 1000 - lvt + rate l t - 1).tdiv (rate l t) = (many * 1000 - lvt + rate l t - 1) / rate l t := fun h => Int.tdiv_eq_ediv_of_nonneg (by omega)
    have hq1 : 0 < rate l t → 1 ≤ (many * 1000 - lvt + rate l t - 1) / rate l t ∧ (many * 1000 - lvt + rate l t - 1) / rate l t ≤ many * 1000 - lvt + rate l t - 1 := fun h =>
      ⟨(Int.le_ediv_iff_mul_le h).2 (by omega), Int.ediv_le_self _ (by omega)⟩
    have ht2r : t < t2 ∧ t2 ≤ e ∧ t2 ≤ t + 86400000 := by
      rw [ht2]
      by_cases h : 0 < rate l t
      · rw [if_pos h, hq0 h]
        have := hq1 h
        split <;> omega
      · rw [if_neg h]
        omega
    have hgot : 0 ≤ rate l t * (t2 - t) ∧ rate l t * (t2 - t) ≤ 86400000000000000 := by
      refine ⟨Int.mul_nonneg (by omega) (by omega), ?_⟩
      calc rate l t * (t2 - t) ≤ 1000000000 * (t2 - t) := Int.mul_le_mul_of_nonneg_right hrr.2 (by omega)
        _ ≤ 1000000000 * 86400000 := Int.mul_le_mul_of_nonneg_left (by omega) (by omega)
    have hbelow2 : ∀ u, T ≤ u → u < t2 → lvl l most at0 level u < many * 1000 := by
      intro u h1 h2
      by_cases h3 : u < t
      · exact hbelow u h1 h3
      · rw [hadd u (by omega), lvl_seg (r := rate l t) (by omega) hconst hlr.2 (by omega) (by omega)]
        have hkey : rate l t * (u - t) < many * 1000 - lvt := by
          by_cases h : 0 < rate l t
          · have h4 : u - t < (many * 1000 - lvt + rate l t - 1) / rate l t := by
              rw [if_pos h, hq0 h] at ht2
              split at ht2 <;> omega
            have h5 : (u - t + 1) * rate l t ≤ many * 1000 - lvt + rate l t - 1 := (Int.le_ediv_iff_mul_le h).1 (by omega)
            rw [Int.add_mul, Int.one_mul, Int.mul_comm] at h5
            omega
          · have : rate l t = 0 := by omega
            rw [this, Int.zero_mul]
            omega
        split <;> omega
    have hend := lvl_end (l := l) (most := most) (t := t) (e := t2) (r := rate l t) (lv := lvt) (by omega) (fun t' h1 h2 => hconst t' h1 (by omega)) hlr.2 (by omega)
    rw [← hadd t2 (by omega)] at hend
    have w2 := w64 (x := t2 - t) (by omega) (by omega)
    have w3 := w64 (x := rate l t * (t2 - t)) (by omega) (by omega)
    have w4 := w64 (x := lvt + rate l t * (t2 - t)) (by omega) (by omega)
    have w5 := w64 (x := many * 1000 - lvt) (by omega) (by omega)
    have w6 := w64 (x := many * 1000 - lvt + rate l t) (by omega) (by omega)
    have w7 := w64 (x := many * 1000 - lvt + rate l t - 1) (by omega) (by omega)
    -- the next round
    have hfin : ¬ 1099511627776 < t2 → allZero l = false → (if rate l t2 = -1 then most else if most < lvt + rate l t * (t2 - t) then most else lvt + rate l t * (t2 - t)) = lvl l most at0 level t2 := fun _ _ => hend.symm
    have hno : allZero l = true → TakeNo l most at0 level T (many * 1000) := by
      intro hz u h1 h2
      by_cases h3 : u < t
      · exact hbelow u h1 h3
      · rw [hadd u (by omega), lvl_seg (e := u + 1) (r := 0) (by omega) (fun t' _ _ => rate_zero hz t') hlr.2 (by omega) (by omega)]
        split <;> omega
    by_cases hr0 : 0 < rate l t
    · rw [if_pos hr0] at ht2
      have hr0' : ¬ rate l t = 0 := by omega
      have w8 := w64 (x := (many * 1000 - lvt + rate l t - 1).tdiv (rate l t)) (by rw [hq0 hr0]; have := hq1 hr0; omega) (by rw [hq0 hr0]; have := hq1 hr0; omega)
      have w9 := w64 (x := t + (many * 1000 - lvt + rate l t - 1).tdiv (rate l t)) (by rw [hq0 hr0]; have := hq1 hr0; omega) (by rw [hq0 hr0]; have := hq1 hr0; omega)
      by_cases hM : 1099511627776 < t2
      · simp only [f0, f2, f8, f9, wm, hlow, nilV, hbk, buck, ↓hv.run, hr0, hr0', w5, w6, w7, w8, w9, ← ht2, w2, w3, w4, hM, go_sem, Nat.reduceEqDiff, Nat.reduceAdd, Nat.reduceLeDiff, Int.reduceEq, Int.reduceLT, Int.reduceLE, Int.reduceAdd, Int.reduceSub, Int.reduceMul, Int.reduceNeg, Int.reduceToNat, Nat.reduceMul]
        exact q2 fun u h1 h2 => hbelow2 u h1 (by omega)
      · cases hz : allZero l with
        | true =>
          rw [hz] at hbk
          simp only [f0, f2, f8, f9, wm, hlow, nilV, hbk, buck, ↓hv.run, hr0, hr0', w5, w6, w7, w8, w9, ← ht2, w2, w3, w4, hM, go_sem, Nat.reduceEqDiff, Nat.reduceAdd, Nat.reduceLeDiff, Int.reduceEq, Int.reduceLT, Int.reduceLE, Int.reduceAdd, Int.reduceSub, Int.reduceMul, Int.reduceNeg, Int.reduceToNat, Nat.reduceMul]
          exact q2 (hno hz)
        | false =>
          rw [hz] at hbk
          have hv2 := v55' t2 (by omega)
          obtain ⟨e2, he2, _, _, _⟩ := rEnd_law hl (t := t2) (by omega)
          rw [he2] at hv2
          simp only at hv2
          by_cases hr2 : rate l t2 = -1
          · rw [if_pos hr2] at hend
            simp only [f0, f2, f8, f9, wm, hlow, nilV, hbk, buck, ↓hv.run, ↓hv2.run, hr0, hr0', w5, w6, w7, w8, w9, ← ht2, w2, w3, w4, hM, hr2, go_sem, Nat.reduceEqDiff, Nat.reduceAdd, Nat.reduceLeDiff, Int.reduceEq, Int.reduceLT, Int.reduceLE, Int.reduceAdd, Int.reduceSub, Int.reduceMul, Int.reduceNeg, Int.reduceToNat, Nat.reduceMul]
            exact ⟨(1099511627776 - t2).toNat, by omega, rfl, t2, by omega, by omega, rfl, by simp only [f0, go_sem, Nat.reduceEqDiff, Nat.reduceAdd, Nat.reduceLeDiff, Int.reduceEq, Int.reduceLT, Int.reduceLE, Int.reduceAdd, Int.reduceSub, Int.reduceMul, Int.reduceNeg, Int.reduceToNat, Nat.reduceMul], by simp only [f2, go_sem, Nat.reduceEqDiff, Nat.reduceAdd, Nat.reduceLeDiff, Int.reduceEq, Int.reduceLT, Int.reduceLE, Int.reduceAdd, Int.reduceSub, Int.reduceMul, Int.reduceNeg, Int.reduceToNat, Nat.reduceMul], by simp only [go_sem, Nat.reduceEqDiff, Nat.reduceAdd, Nat.reduceLeDiff, Int.reduceEq, Int.reduceLT, Int.reduceLE, Int.reduceAdd, Int.reduceSub, Int.reduceMul, Int.reduceNeg, Int.reduceToNat, Nat.reduceMul], by simp only [hend, go_sem, Nat.reduceEqDiff, Nat.reduceAdd, Nat.reduceLeDiff, Int.reduceEq, Int.reduceLT, Int.reduceLE, Int.reduceAdd, Int.reduceSub, Int.reduceMul, Int.reduceNeg, Int.reduceToNat, Nat.reduceMul], hbelow2⟩
          · rw [if_neg hr2] at hend
            simp only [f0, f2, f8, f9, wm, hlow, nilV, hbk, buck, ↓hv.run, ↓hv2.run, hr0, hr0', w5, w6, w7, w8, w9, ← ht2, w2, w3, w4, hM, hr2, go_sem, Nat.reduceEqDiff, Nat.reduceAdd, Nat.reduceLeDiff, Int.reduceEq, Int.reduceLT, Int.reduceLE, Int.reduceAdd, Int.reduceSub, Int.reduceMul, Int.reduceNeg, Int.reduceToNat, Nat.reduceMul]
            refine ⟨(1099511627776 - t2).toNat, by omega, rfl, t2, by omega, by omega, rfl, by simp only [f0, go_sem, Nat.reduceEqDiff, Nat.reduceAdd, Nat.reduceLeDiff, Int.reduceEq, Int.reduceLT, Int.reduceLE, Int.reduceAdd, Int.reduceSub, Int.reduceMul, Int.reduceNeg, Int.reduceToNat, Nat.reduceMul], by simp only [f2, go_sem, Nat.reduceEqDiff, Nat.reduceAdd, Nat.reduceLeDiff, Int.reduceEq, Int.reduceLT, Int.reduceLE, Int.reduceAdd, Int.reduceSub, Int.reduceMul, Int.reduceNeg, Int.reduceToNat, Nat.reduceMul], by simp only [go_sem, Nat.reduceEqDiff, Nat.reduceAdd, Nat.reduceLeDiff, Int.reduceEq, Int.reduceLT, Int.reduceLE, Int.reduceAdd, Int.reduceSub, Int.reduceMul, Int.reduceNeg, Int.reduceToNat, Nat.reduceMul], ?_, hbelow2⟩
            simp only [hend, go_sem, Nat.reduceEqDiff, Nat.reduceAdd, Nat.reduceLeDiff, Int.reduceEq, Int.reduceLT, Int.reduceLE, Int.reduceAdd, Int.reduceSub, Int.reduceMul, Int.reduceNeg, Int.reduceToNat, Nat.reduceMul]
            congr 1
            split <;> split <;> omega
    · rw [if_neg hr0] at ht2
      subst ht2
      have hrz : rate l t = 0 := by omega
      rw [hrz, Int.zero_mul, Int.add_zero, if_neg (show ¬ most < lvt by omega)] at hend
      by_cases hM : 1099511627776 < t2
      · simp only [f0, f2, f8, f9, wm, hlow, nilV, hbk, buck, ↓hv.run, hr0, hM, go_sem, Nat.reduceEqDiff, Nat.reduceAdd, Nat.reduceLeDiff, Int.reduceEq, Int.reduceLT, Int.reduceLE, Int.reduceAdd, Int.reduceSub, Int.reduceMul, Int.reduceNeg, Int.reduceToNat, Nat.reduceMul]
        exact q2 fun u h1 h2 => hbelow2 u h1 (by omega)
      · cases hz : allZero l with
        | true =>
          rw [hz] at hbk
          simp only [f0, f2, f8, f9, wm, hlow, nilV, hbk, buck, ↓hv.run, hr0, hM, go_sem, Nat.reduceEqDiff, Nat.reduceAdd, Nat.reduceLeDiff, Int.reduceEq, Int.reduceLT, Int.reduceLE, Int.reduceAdd, Int.reduceSub, Int.reduceMul, Int.reduceNeg, Int.reduceToNat, Nat.reduceMul]
          exact q2 (hno hz)
        | false =>
          rw [hz] at hbk
          have hv2 := v55' t2 (by omega)
          obtain ⟨e2, he2, _, _, _⟩ := rEnd_law hl (t := t2) (by omega)
          rw [he2] at hv2
          simp only at hv2
          by_cases hr2 : rate l t2 = -1
          · rw [if_pos hr2] at hend
            simp only [f0, f2, f8, f9, wm, hlow, nilV, hbk, buck, ↓hv.run, ↓hv2.run, hr0, hM, hr2, go_sem, Nat.reduceEqDiff, Nat.reduceAdd, Nat.reduceLeDiff, Int.reduceEq, Int.reduceLT, Int.reduceLE, Int.reduceAdd, Int.reduceSub, Int.reduceMul, Int.reduceNeg, Int.reduceToNat, Nat.reduceMul]
            exact ⟨(1099511627776 - t2).toNat, by omega, rfl, t2, by omega, by omega, rfl, by simp only [f0, go_sem, Nat.reduceEqDiff, Nat.reduceAdd, Nat.reduceLeDiff, Int.reduceEq, Int.reduceLT, Int.reduceLE, Int.reduceAdd, Int.reduceSub, Int.reduceMul, Int.reduceNeg, Int.reduceToNat, Nat.reduceMul], by simp only [f2, go_sem, Nat.reduceEqDiff, Nat.reduceAdd, Nat.reduceLeDiff, Int.reduceEq, Int.reduceLT, Int.reduceLE, Int.reduceAdd, Int.reduceSub, Int.reduceMul, Int.reduceNeg, Int.reduceToNat, Nat.reduceMul], by simp only [go_sem, Nat.reduceEqDiff, Nat.reduceAdd, Nat.reduceLeDiff, Int.reduceEq, Int.reduceLT, Int.reduceLE, Int.reduceAdd, Int.reduceSub, Int.reduceMul, Int.reduceNeg, Int.reduceToNat, Nat.reduceMul], by simp only [hend, go_sem, Nat.reduceEqDiff, Nat.reduceAdd, Nat.reduceLeDiff, Int.reduceEq, Int.reduceLT, Int.reduceLE, Int.reduceAdd, Int.reduceSub, Int.reduceMul, Int.reduceNeg, Int.reduceToNat, Nat.reduceMul], hbelow2⟩
          · rw [if_neg hr2] at hend
            simp only [f0, f2, f8, f9, wm, hlow, nilV, hbk, buck, ↓hv.run, ↓hv2.run, hr0, hM, hr2, go_sem, Nat.reduceEqDiff, Nat.reduceAdd, Nat.reduceLeDiff, Int.reduceEq, Int.reduceLT, Int.reduceLE, Int.reduceAdd, Int.reduceSub, Int.reduceMul, Int.reduceNeg, Int.reduceToNat, Nat.reduceMul]
            exact ⟨(1099511627776 - t2).toNat, by omega, rfl, t2, by omega, by omega, rfl, by simp only [f0, go_sem, Nat.reduceEqDiff, Nat.reduceAdd, Nat.reduceLeDiff, Int.reduceEq, Int.reduceLT, Int.reduceLE, Int.reduceAdd, Int.reduceSub, Int.reduceMul, Int.reduceNeg, Int.reduceToNat, Nat.reduceMul], by simp only [f2, go_sem, Nat.reduceEqDiff, Nat.reduceAdd, Nat.reduceLeDiff, Int.reduceEq, Int.reduceLT, Int.reduceLE, Int.reduceAdd, Int.reduceSub, Int.reduceMul, Int.reduceNeg, Int.reduceToNat, Nat.reduceMul], by simp only [go_sem, Nat.reduceEqDiff, Nat.reduceAdd, Nat.reduceLeDiff, Int.reduceEq, Int.reduceLT, Int.reduceLE, Int.reduceAdd, Int.reduceSub, Int.reduceMul, Int.reduceNeg, Int.reduceToNat, Nat.reduceMul], by simp only [f9, hend, go_sem, Nat.reduceEqDiff, Nat.reduceAdd, Nat.reduceLeDiff, Int.reduceEq, Int.reduceLT, Int.reduceLE, Int.reduceAdd, Int.reduceSub, Int.reduceMul, Int.reduceNeg, Int.reduceToNat, Nat.reduceMul], hbelow2⟩
  · have hg := q1 t ⟨hTt, htM, by omega, hbelow⟩
    have w2 := w64 (x := lvt - many * 1000) (by omega) (by omega)
    rw [hlv'] at hg
    have hrt2 : ∀ x, Sl (H.enter.set k x) 2 (.slice (some ⟨kb, 0, none⟩) l.length l.length) l.length (cells2 l) := fun x => buck_sl (by rw [AH.get_set_ne _ _ (Ne.symm hkk)]; exact hrt')
    have v55s := fun x => v55 h55 (hrt2 x) hl.len hl.from_ t ⟨by omega, htM⟩
    rw [he] at v55s
    simp only at v55s
    by_cases hr : rate l t = -1
    · rw [takeLv, if_pos hr] at hg
      simp only [f0, f2, f8, f9, wm, hlow, nilV, hbk, hlt, buck, stc_eq, stB_some, set_get, set_set, AH.next_set, w2, ↓(v55s _).run, hr, go_sem, Nat.reduceEqDiff, Nat.reduceAdd, Nat.reduceLeDiff, Int.reduceEq, Int.reduceLT, Int.reduceLE, Int.reduceAdd, Int.reduceSub, Int.reduceMul, Int.reduceNeg, Int.reduceToNat, Nat.reduceMul]
      rw [back_set hlt]
      exact hg
    · rw [takeLv, if_neg hr] at hg
      simp only [f0, f2, f8, f9, wm, hlow, nilV, hbk, hlt, buck, stc_eq, stB_some, set_get, set_set, AH.next_set, w2, ↓(v55s _).run, hr, go_sem, Nat.reduceEqDiff, Nat.reduceAdd, Nat.reduceLeDiff, Int.reduceEq, Int.reduceLT, Int.reduceLE, Int.reduceAdd, Int.reduceSub, Int.reduceMul, Int.reduceNeg, Int.reduceToNat, Nat.reduceMul]
      rw [back_set hlt]
      exact hg
end Go.Proofs.Ytidpkoaomfbljaa.AM
