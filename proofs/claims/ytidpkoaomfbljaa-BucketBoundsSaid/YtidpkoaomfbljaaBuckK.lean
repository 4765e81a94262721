import Derived.Test.YtidpkoaomfbljaaBuckJ
import Derived.Test.YtidpkoaomfbljaaAmZ
namespace Go.Proofs.Ytidpkoaomfbljaa.AM
open Go
set_option linter.all false
variable {tbl : Tbl} [hT : TMono tbl]

theorem Own.append3 {base : Nat} {H : AH} {es bytes n k : Nat} {s : Value} {l new : List Value} (h : Own base H es s n l) (hk : 0 < k) (hn : new.length = k * es) (hs : (n + k) * bytes ≤ 140737488355328) :
    ∃ H', appended H es bytes s k new = some (.slice (some ⟨H.next, 0, none⟩) (n + k) (n + k), H') ∧ H'.get H.next = some ⟨l ++ new, es, false⟩ ∧ (∀ id, id < H.next → id ∉ heads s → H'.get id = H.get id) ∧ H'.next = H.next + 1 ∧ (∀ m, m ≤ base → m ≤ H.low → m ≤ H'.low) := by
  rcases h with ⟨rfl, rfl, rfl⟩ | ⟨b, rfl, h1, h2, h3, h4⟩
  · refine ⟨H.push ⟨new, es, false⟩, ?_, by simpa using AH.get_push_eq H _, fun id hid _ => AH.get_push_lt H _ hid, AH.next_push H _, fun m _ h => h⟩
    simp only [appended]
    rw [if_pos (by simp), if_neg (by omega), if_pos (by simpa using hs), Nat.zero_add]
  · refine ⟨(H.set b none).push ⟨l ++ new, es, false⟩, ?_, ?_, fun id hid hne => ?_, ?_, fun m hm h => ?_⟩
    · simp only [appended, h1]
      rw [if_pos (by simp), if_neg (by omega), ldc_all h1 h2]
      simp only
      rw [if_pos hs]
    · rw [← AH.next_set H b none]; exact AH.get_push_eq _ _
    · rw [AH.get_push_lt _ _ (by rw [AH.next_set]; exact hid)]
      exact AH.get_set_ne H none (by simpa [heads] using hne)
    · rw [AH.next_push, AH.next_set]
    · show m ≤ min H.low b
      omega
theorem Own.stay {base : Nat} {H H' : AH} {es n : Nat} {v : Value} {l : List Value} (h : Own base H es v n l) (hk : ∀ id ∈ heads v, id < H.next → H'.get id = H.get id) : Own base H' es v n l := by
  rcases h with h | ⟨b, rfl, h1, h2, h3, h4⟩
  · exact .inl h
  · exact .inr ⟨b, rfl, by rw [hk b (by simp [heads]) (AH.get_lt h1)]; exact h1, h2, h3, h4⟩
theorem Own.heads {base : Nat} {H : AH} {es n : Nat} {v : Value} {l : List Value} (h : Own base H es v n l) : ∀ id ∈ heads v, base ≤ id ∧ id < H.next := by
  rcases h with ⟨rfl, h⟩ | ⟨b, rfl, h1, h2, h3, h4⟩
  · simp [AM.heads]
  · intro id hid
    simp only [AM.heads, List.mem_singleton] at hid
    subst hid
    exact ⟨h3, AH.get_lt h1⟩
/-- A bucket, and the two rows of grants. -/
structure RSt (H H' : AH) (l : List (Int × Int)) (k kb base : Nat) (burst ta lv : Int) (ts ss : Value) (gs : List (Int × Int)) : Prop where
  old : ∀ id, id < H.next → H'.get id = H.get id
  low : H.next ≤ H'.low
  bk : H'.get k = some (buck kb l.length (burst * 1000) lv ta (allZero l))
  rt : H'.get kb = some ⟨cells2 l, 2, false⟩
  sep : H.next ≤ k ∧ H.next ≤ kb ∧ k ≠ kb ∧ k < base ∧ kb < base ∧ base ≤ H'.next
  tsO : Own base H' 1 ts gs.length ((gs.map (·.1)).map I64)
  ssO : Own base H' 1 ss gs.length ((gs.map (·.2)).map I64)
  apart : ∀ id ∈ heads ts, id ∉ heads ss
section
variable {H H' : AH} {l : List (Int × Int)} {k kb base : Nat} {burst ta lv : Int} {ts ss : Value} {gs : List (Int × Int)}
/-- Only new blocks, and one below base that is not ours. -/
theorem RSt.grow (st : RSt H H' l k kb base burst ta lv ts ss gs) {H2 : AH} (hg : ∀ id, id < H'.next → H2.get id = H'.get id) (hn : H'.next ≤ H2.next) (hl : H.next ≤ H2.low) : RSt H H2 l k kb base burst ta lv ts ss gs := by
  obtain ⟨s1, s2, s3, s4, s5, s6⟩ := st.sep
  exact ⟨fun id hid => by rw [hg _ (by omega)]; exact st.old id hid, hl, by rw [hg _ (by omega)]; exact st.bk, by rw [hg _ (by omega)]; exact st.rt, ⟨s1, s2, s3, s4, s5, by omega⟩, st.tsO.stay fun id _ h => hg id h, st.ssO.stay fun id _ h => hg id h, st.apart⟩
theorem RSt.elem (st : RSt H H' l k kb base burst ta lv ts ss gs) (b c : Blk) : RSt H ((H'.push b).set H'.next (some c)) l k kb base burst ta lv ts ss gs := by
  have h5 := st.low
  obtain ⟨s1, s2, s3, s4, s5, s6⟩ := st.sep
  exact st.grow (fun id hid => by rw [AH.get_set_ne _ _ (by omega), AH.get_push_lt _ _ hid]) (by rw [AH.next_set, AH.next_push]; omega) (by rw [lw_set, lw_push]; omega)
theorem RSt.bset (st : RSt H H' l k kb base burst ta lv ts ss gs) (lv' ta' : Int) : RSt H (H'.set k (some (buck kb l.length (burst * 1000) lv' ta' (allZero l)))) l k kb base burst ta' lv' ts ss gs := by
  have h1 := AH.get_lt st.bk
  have h5 := st.low
  obtain ⟨s1, s2, s3, s4, s5, s6⟩ := st.sep
  exact ⟨fun id hid => by rw [AH.get_set_ne _ _ (by omega)]; exact st.old id hid, by rw [lw_set]; omega, AH.get_set_eq _ _ h1, by rw [AH.get_set_ne _ _ (Ne.symm s3)]; exact st.rt, ⟨s1, s2, s3, s4, s5, by rw [AH.next_set]; exact s6⟩,
    st.tsO.stay fun id hid _ => AH.get_set_ne _ _ (by have := (st.tsO.heads id hid).1; omega), st.ssO.stay fun id hid _ => AH.get_set_ne _ _ (by have := (st.ssO.heads id hid).1; omega), st.apart⟩
/-- A grant is written down. -/
theorem RSt.add (st : RSt H H' l k kb base burst ta lv ts ss gs) (hlen : gs.length ≤ 40) (g s : Int) :
    ∃ H2, appended (H'.push ⟨[.int .i64 g], 1, false⟩) 1 8 ts 1 [.int .i64 g] = some (.slice (some ⟨H'.next + 1, 0, none⟩) (gs.length + 1) (gs.length + 1), H2) ∧ H2.next = H'.next + 2 ∧
    ∃ H3, appended (H2.push ⟨[.int .i64 s], 1, false⟩) 1 8 ss 1 [.int .i64 s] = some (.slice (some ⟨H'.next + 3, 0, none⟩) (gs.length + 1) (gs.length + 1), H3) ∧
    RSt H H3 l k kb base burst ta lv (.slice (some ⟨H'.next + 1, 0, none⟩) (gs.length + 1) (gs.length + 1)) (.slice (some ⟨H'.next + 3, 0, none⟩) (gs.length + 1) (gs.length + 1)) (gs ++ [(g, s)]) := by
  obtain ⟨s1, s2, s3, s4, s5, s6⟩ := st.sep
  have h5 := st.low
  have st1 := st.grow (H2 := H'.push ⟨[.int .i64 g], 1, false⟩) (fun id hid => AH.get_push_lt _ _ hid) (by rw [AH.next_push]; omega) (by rw [lw_push]; exact h5)
  obtain ⟨H2, a1, a2, a3, a4, a5⟩ := st1.tsO.append3 (bytes := 8) (k := 1) (new := [.int .i64 g]) (by omega) rfl (by omega)
  rw [AH.next_push] at a1 a2 a3 a4
  refine ⟨H2, a1, a4, ?_⟩
  have ss2 : Own base (H2.push ⟨[.int .i64 s], 1, false⟩) 1 ss gs.length ((gs.map (·.2)).map I64) := by
    refine Own.push (st1.ssO.stay fun id hid h => ?_) _
    rw [AH.next_push] at h
    exact a3 id h fun hh => st.apart id hh hid
  obtain ⟨H3, b1, b2, b3, b4, b5⟩ := ss2.append3 (bytes := 8) (k := 1) (new := [.int .i64 s]) (by omega) rfl (by omega)
  rw [AH.next_push, a4] at b1 b2 b3 b4
  refine ⟨H3, b1, ?_⟩
  have hts : ∀ id, id ∈ heads ts → base ≤ id ∧ id < H'.next := st.tsO.heads
  have hss : ∀ id, id ∈ heads ss → base ≤ id ∧ id < H'.next := st.ssO.heads
  have hget : ∀ id, id < base → H3.get id = H'.get id := fun id hid => by
    rw [b3 id (by omega) (fun h => by have := hss id h; omega), AH.get_push_lt _ _ (by omega), a3 id (by omega) (fun h => by have := hts id h; omega), AH.get_push_lt _ _ (by omega)]
  have hl2 := a5 H.next (by omega) (by rw [lw_push]; exact h5)
  have hl3 := b5 H.next (by omega) (by rw [lw_push]; exact hl2)
  refine ⟨fun id hid => by rw [hget id (by omega)]; exact st.old id hid, hl3, by rw [hget _ s4]; exact st.bk, by rw [hget _ s5]; exact st.rt, ⟨s1, s2, s3, s4, s5, by omega⟩, .inr ⟨H'.next + 1, by simp, ?_, by simp, by omega, by simp⟩, .inr ⟨H'.next + 3, by simp, ?_, by simp, by omega, by simp⟩, ?_⟩
  · rw [b3 _ (by omega) (fun h => by have := hss _ h; omega), AH.get_push_lt _ _ (by omega), a2]
    simp [I64]
  · rw [b2]
    simp [I64]
  · intro id h1 h2
    simp only [heads, List.mem_singleton] at h1 h2
    omega
end
end Go.Proofs.Ytidpkoaomfbljaa.AM
