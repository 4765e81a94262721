import Derived.Test.YtidpkoaomfbljaaBuckC
namespace Go.Proofs.Ytidpkoaomfbljaa.AM
open Go
set_option linter.all false
variable {tbl : Tbl} [hT : TMono tbl]

/-- The level at a time, of a bucket that had lv at t0. -/
def lvl (l : List (Int × Int)) (most t0 lv t : Int) : Int := holdB l most t (passB l most (t - t0).toNat t0 lv)
theorem lvl_range {l : List (Int × Int)} (hl : Right l) {most t0 lv t : Int} (h : 0 ≤ lv ∧ lv ≤ most) : 0 ≤ lvl l most t0 lv t ∧ lvl l most t0 lv t ≤ most := by
  have := passB_range hl (t - t0).toNat t0 lv h
  unfold lvl holdB
  split <;> omega
theorem stepB_hold (most r x : Int) (h : 0 ≤ r ∨ r = -1) : stepB most r (if r = -1 then most else x) = stepB most r x := by
  unfold stepB
  split <;> rfl
/-- A level may be read on the way. -/
theorem lvl_add {l : List (Int × Int)} (hl : Right l) {most t0 lv t u : Int} (h1 : t0 ≤ t) (h2 : t ≤ u) : lvl l most t (lvl l most t0 lv t) u = lvl l most t0 lv u := by
  unfold lvl
  by_cases h : t = u
  · subst h
    rw [Int.sub_self]
    simp only [Int.toNat_zero, passB]
    unfold holdB
    split <;> rfl
  · rw [show (u - t0).toNat = (t - t0).toNat + (u - t).toNat by omega, passB_add, show t0 + (((t - t0).toNat : Nat) : Int) = t by omega]
    obtain ⟨n, hn⟩ : ∃ n, (u - t).toNat = n + 1 := ⟨(u - t).toNat - 1, by omega⟩
    rw [hn]
    simp only [passB]
    have hr := rate_range hl t
    congr 2
    unfold holdB
    exact stepB_hold _ _ _ (by omega)
/-- Within a stretch of time with one rate. -/
theorem lvl_seg {l : List (Int × Int)} {most t e r lv u : Int} (hr : 0 ≤ r) (hc : ∀ t', t ≤ t' → t' < e → rate l t' = r) (hlv : lv ≤ most) (h1 : t ≤ u) (h2 : u < e) : lvl l most t lv u = if most < lv + r * (u - t) then most else lv + r * (u - t) := by
  unfold lvl holdB
  rw [hc u h1 h2, if_neg (by omega), passB_seg hr _ _ _ (fun i hi => hc _ (by omega) (by omega)) hlv, show (((u - t).toNat : Nat) : Int) = u - t by omega]
theorem lvl_end {l : List (Int × Int)} {most t e r lv : Int} (hr : 0 ≤ r) (hc : ∀ t', t ≤ t' → t' < e → rate l t' = r) (hlv : lv ≤ most) (h1 : t ≤ e) : lvl l most t lv e = if rate l e = -1 then most else if most < lv + r * (e - t) then most else lv + r * (e - t) := by
  unfold lvl holdB
  rw [passB_seg hr _ _ _ (fun i hi => hc _ (by omega) (by omega)) hlv, show (((e - t).toNat : Nat) : Int) = e - t by omega]
theorem lvl_here {l : List (Int × Int)} {most t lv : Int} : lvl l most t lv t = if rate l t = -1 then most else lv := by
  unfold lvl holdB
  rw [Int.sub_self]
  rfl
end Go.Proofs.Ytidpkoaomfbljaa.AM
