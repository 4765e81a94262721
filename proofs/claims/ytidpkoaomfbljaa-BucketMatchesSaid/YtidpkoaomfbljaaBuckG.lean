import Derived.Test.YtidpkoaomfbljaaBuckF
namespace Go.Proofs.Ytidpkoaomfbljaa.AM
open Go
set_option linter.all false
variable {tbl : Tbl} [hT : TMono tbl]

/-- The first time at which as many are there, by the reference. -/
structure Found (l : List (Int × Int)) (most t0 ml T need g : Int) : Prop where
  ge : T ≤ g
  has : need ≤ lvl l most t0 ml g
  first : ∀ u, T ≤ u → u < g → lvl l most t0 ml u < need
section
variable (h53 : tbl 53 = some (.code m53)) (h56 : tbl 56 = some (.code m56)) (h33 : tbl 33 = some (.code m33)) (h31 : tbl 31 = some (.code m31))
include h53 h56 h33 h31
theorem v31_run {B H : AH} {k : Nat} {v : Value} {l : List (Int × Int)} {burst now ml T many lim : Int} (hB : Sl B 2 v l.length (cells2 l)) (hold : ∀ id, id < B.next → H.get id = B.get id) (hkB : B.next ≤ k) (hl : Right l) (hb : 1 ≤ burst ∧ burst ≤ 1000000000)
    (hk : H.get k = some (pail v burst now ml)) (hn : 0 ≤ now ∧ now ≤ T) (hT : T ≤ lim) (hlim : lim ≤ 1099511627776) (hml : 0 ≤ ml ∧ ml ≤ burst * 1000) (hmany : 0 ≤ many ∧ many ≤ burst) (Q : Value → AH → Prop)
    (q1 : ∀ g H1, g ≤ lim → Found l (burst * 1000) now ml T (many * 1000) g → Upd H k (pail v burst g (lvl l (burst * 1000) now ml g - many * 1000)) H1 → Q (.tuple #[.int .i64 g, .bool true]) H1)
    (q2 : ∀ H1 b, Upd H k b H1 → Q (.tuple #[.int .i64 0, .bool false]) H1) : @RunF tbl 31 [.pointer (some ⟨k, 0, none⟩), .int .i64 T, .int .i64 many, .int .i64 lim] H ⟨Q⟩ := by
  have hlt := AH.get_lt hk
  obtain ⟨H1, hv56, hu1⟩ := v56 h53 h56 (H := H.enter) hB hold hkB hl hb hk (to := T) ⟨hn.1, by omega⟩ ⟨by omega, by omega⟩ hml
  have e1 : (if now < T then T else now) = T := by split <;> omega
  rw [e1] at hu1
  have wm := w64 (x := 1000 * many) (by omega) (by omega)
  rw [rn_fun h31, k31]
  simp only [↓hv56.run, go_sem, Nat.reduceEqDiff, Nat.reduceAdd, Nat.reduceLeDiff, Int.reduceEq, Int.reduceLT, Int.reduceLE, Int.reduceAdd, Int.reduceSub, Int.reduceMul, Int.reduceNeg, Int.reduceToNat, Nat.reduceMul]
  refine rn_loop (fun m f H' => ∃ (t : Int), T ≤ t ∧ t ≤ lim ∧ m = (lim - t).toNat ∧ f 0 = .pointer (some ⟨k, 0, none⟩) ∧ f 2 = .int .i64 many ∧ f 3 = .int .i64 lim ∧ Upd H.enter k (pail v burst t (passB l (burst * 1000) (t - now).toNat now ml)) H' ∧ ∀ u, T ≤ u → u < t → lvl l (burst * 1000) now ml u < many * 1000) ?_ (n := (lim - T).toNat)
    ⟨T, by omega, hT, rfl, by simp only [go_sem, Nat.reduceEqDiff, Nat.reduceAdd, Nat.reduceLeDiff, Int.reduceEq, Int.reduceLT, Int.reduceLE, Int.reduceAdd, Int.reduceSub, Int.reduceMul, Int.reduceNeg, Int.reduceToNat, Nat.reduceMul], by simp only [go_sem, Nat.reduceEqDiff, Nat.reduceAdd, Nat.reduceLeDiff, Int.reduceEq, Int.reduceLT, Int.reduceLE, Int.reduceAdd, Int.reduceSub, Int.reduceMul, Int.reduceNeg, Int.reduceToNat, Nat.reduceMul], by simp only [go_sem, Nat.reduceEqDiff, Nat.reduceAdd, Nat.reduceLeDiff, Int.reduceEq, Int.reduceLT, Int.reduceLE, Int.reduceAdd, Int.reduceSub, Int.reduceMul, Int.reduceNeg, Int.reduceToNat, Nat.reduceMul], hu1, fun u h1 h2 => by omega⟩
  rintro m f H' ⟨t, hTt, htl, rfl, f0, f2, f3, hu, hbelow⟩
  have hold' : ∀ id, id < B.next → H'.get id = B.get id := fun id hid => by rw [hu.old id (by omega)]; exact hold id hid
  have hlow' := hu.low
  have hnx' := hu.nx
  rw [nx_enter] at hnx'
  rw [lw_enter] at hlow'
  have hs' : Sl H' 2 v l.length (cells2 l) := hB.keep hold'
  have hpr := passB_range hl (t - now).toNat now ml hml
  have hv33 := v33 h53 h33 hs' hl hb hu.at_ (by omega)
  have eh : lvl l (burst * 1000) t (passB l (burst * 1000) (t - now).toNat now ml) t = lvl l (burst * 1000) now ml t := by
    rw [lvl_here]; rfl
  rw [eh] at hv33
  have hlr := lvl_range hl (most := burst * 1000) (t0 := now) (t := t) hml
  have hat := hu.at_
  by_cases hlow : lvl l (burst * 1000) now ml t < 1000 * many
  · have hbelow2 : ∀ u, T ≤ u → u < t + 1 → lvl l (burst * 1000) now ml u < many * 1000 := fun u h1 h2 => by
      by_cases h3 : u < t
      · exact hbelow u h1 h3
      · have : u = t := by omega
        subst this
        omega
    by_cases hend : lim ≤ t
    · simp only [f0, f2, f3, ↓hv33.run, wm, hlow, hat, nilV, pail, hend, go_sem, Nat.reduceEqDiff, Nat.reduceAdd, Nat.reduceLeDiff, Int.reduceEq, Int.reduceLT, Int.reduceLE, Int.reduceAdd, Int.reduceSub, Int.reduceMul, Int.reduceNeg, Int.reduceToNat, Nat.reduceMul]
      rcases Nat.lt_or_ge H'.low H.next with hL | hL
      · have eb : back H H' (.tuple #[.int .i64 0, .bool false]) = (.tuple #[.int .i64 0, .bool false], { H' with low := min H.low H'.low }) := by
          unfold back; rw [if_pos hL]
        rw [eb]
        refine q2 _ _ ⟨hu.at_, hu.old, hu.nx, ?_⟩
        show min H.low k ≤ min H.low H'.low
        omega
      · rw [back_p3 (by omega) rfl]
        have := AH.get_lt hk
        exact q2 _ _ (.refl hk)
    · have w1 := w64 (x := t + 1) (by omega) (by omega)
      obtain ⟨H2, hv56b, hu2⟩ := v56 h53 h56 hB hold' hkB hl hb hat (to := t + 1) ⟨by omega, by omega⟩ ⟨by omega, by omega⟩ hpr
      rw [if_pos (by omega)] at hu2
      have e2 : passB l (burst * 1000) (t + 1 - t).toNat t (passB l (burst * 1000) (t - now).toNat now ml) = passB l (burst * 1000) (t + 1 - now).toNat now ml := by
        rw [show (t + 1 - now).toNat = (t - now).toNat + (t + 1 - t).toNat by omega, passB_add, show now + (((t - now).toNat : Nat) : Int) = t by omega]
      rw [e2] at hu2
      simp only [f0, f2, f3, ↓hv33.run, wm, hlow, hat, nilV, pail, hend, w1, ↓hv56b.run, go_sem, Nat.reduceEqDiff, Nat.reduceAdd, Nat.reduceLeDiff, Int.reduceEq, Int.reduceLT, Int.reduceLE, Int.reduceAdd, Int.reduceSub, Int.reduceMul, Int.reduceNeg, Int.reduceToNat, Nat.reduceMul]
      exact ⟨(lim - (t + 1)).toNat, by omega, t + 1, by omega, by omega, rfl, by simp only [f0, go_sem, Nat.reduceEqDiff, Nat.reduceAdd, Nat.reduceLeDiff, Int.reduceEq, Int.reduceLT, Int.reduceLE, Int.reduceAdd, Int.reduceSub, Int.reduceMul, Int.reduceNeg, Int.reduceToNat, Nat.reduceMul], by simp only [f2, go_sem, Nat.reduceEqDiff, Nat.reduceAdd, Nat.reduceLeDiff, Int.reduceEq, Int.reduceLT, Int.reduceLE, Int.reduceAdd, Int.reduceSub, Int.reduceMul, Int.reduceNeg, Int.reduceToNat, Nat.reduceMul], by simp only [f3, go_sem, Nat.reduceEqDiff, Nat.reduceAdd, Nat.reduceLeDiff, Int.reduceEq, Int.reduceLT, Int.reduceLE, Int.reduceAdd, Int.reduceSub, Int.reduceMul, Int.reduceNeg, Int.reduceToNat, Nat.reduceMul], hu.trans hu2, hbelow2⟩
  · have hfound : Found l (burst * 1000) now ml T (many * 1000) t := ⟨hTt, by omega, hbelow⟩
    have w2 := w64 (x := lvl l (burst * 1000) now ml t - 1000 * many) (by omega) (by omega)
    have hlt' : k < H'.next := by omega
    simp only [f0, f2, f3, ↓hv33.run, wm, hlow, hat, nilV, pail, hlt', w2, stc_eq, stB_some, set_get, set_set, AH.next_set, go_sem, Nat.reduceEqDiff, Nat.reduceAdd, Nat.reduceLeDiff, Int.reduceEq, Int.reduceLT, Int.reduceLE, Int.reduceAdd, Int.reduceSub, Int.reduceMul, Int.reduceNeg, Int.reduceToNat, Nat.reduceMul]
    have hu3 : Upd H.enter k (pail v burst t (lvl l (burst * 1000) now ml t - many * 1000)) (H'.set k (some (pail v burst t (lvl l (burst * 1000) now ml t - many * 1000)))) := hu.trans (.set hlt')
    rw [Int.mul_comm 1000 many]
    have hL : (H'.set k (some (pail v burst t (lvl l (burst * 1000) now ml t - many * 1000)))).low < H.next := by rw [lw_set]; omega
    have eb : back H (H'.set k (some (pail v burst t (lvl l (burst * 1000) now ml t - many * 1000)))) (.tuple #[.int .i64 t, .bool true]) = (.tuple #[.int .i64 t, .bool true], { (H'.set k (some (pail v burst t (lvl l (burst * 1000) now ml t - many * 1000)))) with low := min H.low (H'.set k (some (pail v burst t (lvl l (burst * 1000) now ml t - many * 1000)))).low }) := by
      unfold back; rw [if_pos hL]
    simp only [pail] at eb
    rw [eb]
    refine q1 t _ htl hfound ⟨hu3.at_, hu3.old, hu3.nx, ?_⟩
    show min H.low k ≤ min H.low (min H'.low k)
    omega
end
end Go.Proofs.Ytidpkoaomfbljaa.AM
