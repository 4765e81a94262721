/- Arguments that are structs with slices or strings in them. -/
import Derived.Test.YtidpkoaomfbljaaAmZ
namespace Go.Proofs.Ytidpkoaomfbljaa.AM
open Go Go.RowKit Go.ChangeShapes Go.WideShapes Go.ChangeAt
set_option linter.all false

theorem okWide_cells {P : Program} {w : World} {r : Reach} {b : Nat} {t : TypeId} {fs : Array Field} {v : Value} {ts : List TypeId} (ht : P.underlying t = some (.struct fs)) (hc : P.cellTypes P.depth t = some ts) (h : Value.okWide P w r b t v) :
    ∃ l : List Value, v = .agg l.toArray ∧ l.length = P.cellsOf t ∧ ∀ (i : Nat) (u : TypeId), ts[i]? = some u → P.underlying u = some (.int .i64) → i < P.cellsOf t → ∃ n, l[i]? = some (.int .i64 n) := by
  unfold Value.okWide at h
  rw [ht] at h
  obtain ⟨cs, rfl, hsz, hrow⟩ := h
  obtain ⟨ts', hts, ⟨m, hm⟩, hcell⟩ := hrow
  rw [hc] at hts
  obtain rfl := Option.some.inj hts
  refine ⟨cs.toList, by simp, by simpa using hsz, fun i u hu hint hlt => ?_⟩
  have hi : i < cs.size := by omega
  obtain ⟨u', hu', hok⟩ := hcell i cs[i] (by simp [hi])
  have : u' = u := by
    have hil : i < ts.length := (List.getElem?_eq_some_iff.1 hu).1
    have e : ts[i]? = some u' := by rw [← Nat.mod_eq_of_lt hil]; simpa using hu'
    rw [hu] at e
    exact (Option.some.inj e).symm
  subst this
  obtain ⟨n, hn, _⟩ := cell_int hint hok
  exact ⟨n, by simp [hi, hn]⟩
section
variable {H : Type} {enc : TypeId × Value → H} {P : Program} {w : World} {base : Nat} {spare : Nat → Bool} {held : Bool}
theorem mapM_some_mem {α β : Type} {f : α → Option β} : ∀ {l : List α} {r : List β}, l.mapM f = some r → ∀ a ∈ l, ∃ b, f a = some b := by
  intro l
  induction l with
  | nil => intro r _ a ha; simp at ha
  | cons x l ih =>
    intro r h a ha
    rw [List.mapM_cons] at h
    cases hx : f x with
    | none => rw [hx] at h; simp at h
    | some y =>
      rw [hx] at h
      cases hl : l.mapM f with
      | none => rw [hl] at h; simp at h
      | some r' =>
        rcases List.mem_cons.1 ha with rfl | ha
        · exact ⟨y, hx⟩
        · exact ih hl a ha
theorem trod_fields {t : TypeId} {fs : Array Field} {fuel : Nat} {cs : List Value} {x : DataW H × List MemPlace} (ht : P.underlying t = some (.struct fs)) (h : DataW.trod enc P w base spare held fuel t cs = some x) :
    ∃ k, ∀ f ∈ fs.toList, ∃ y, DataW.trod enc P w base spare held k f.type ((cs.drop f.offset).take (P.cellsOf f.type)) = some y := by
  cases fuel with
  | zero => simp [DataW.trod] at h
  | succ fuel =>
    unfold DataW.trod at h
    simp only [ht] at h
    split at h
    · refine ⟨fuel, fun f hf => ?_⟩
      cases hm : (fs.toList.mapM fun f => DataW.trod enc P w base spare held fuel f.type ((cs.drop f.offset).take (P.cellsOf f.type))) with
      | none => rw [hm] at h; simp at h
      | some r => exact mapM_some_mem hm f hf
    · simp at h
theorem trod_slc_cells {t e : TypeId} {fuel : Nat} {v : Value} {x : DataW H × List MemPlace} (ht : P.underlying t = some (.slice e)) (h : DataW.trod enc P w base spare held fuel t [v] = some x) : v.cells.toList = [v] := by
  cases fuel with
  | zero => simp [DataW.trod] at h
  | succ fuel =>
    unfold DataW.trod at h
    simp only [ht] at h
    cases v <;> first | rfl | (simp at h; done)
theorem trod_str {t : TypeId} {fuel : Nat} {v : Value} {x : DataW H × List MemPlace} (ht : P.underlying t = some .string) (h : DataW.trod enc P w base spare held fuel t [v] = some x) : ∃ s, v = .string s ∧ s.size ≤ maxLen := by
  cases fuel with
  | zero => simp [DataW.trod] at h
  | succ fuel =>
    unfold DataW.trod at h
    simp only [ht] at h
    cases v <;> first | (simp at h; done) | skip
    rename_i s
    simp only at h
    split at h
    · rename_i hs; exact ⟨s, rfl, hs⟩
    · simp at h
/-- A slice of pairs that lies in a struct. -/
theorem read_pairsT {t e : TypeId} {v : Value} {x : DataW H × List MemPlace} {k : Nat} {w : World} (ht : P.underlying t = some (.slice e)) (hce : P.cellsOf e = 2)
    (hpair : ∀ (fuel : Nat) (cs : List Value) (x : DataW H × List MemPlace), DataW.trod enc P w 0 (fun _ => true) true fuel e cs = some x → ∃ a b, cs = [.int .i64 a, .int .i64 b] ∧ IntKind.i64.has a ∧ IntKind.i64.has b)
    (hd : DataW.trod enc P w 0 (fun _ => true) true k t [v] = some x) :
    ∃ asks : List (Int × Int), ArgS w v asks.length 2 (cells2 asks) := by
  have hv := trod_slc_cells ht hd
  have hv2 : v.cells.toList = [v] := hv
  rcases _root_.Go.Deep.open_slice ht hd with ⟨h1, _⟩ | ⟨a, len, cap, m, n, D, Pl, h1, _, hlc, hcap, hm, _, hx⟩
  · simp only [List.cons.injEq, and_true] at h1
    exact ⟨[], 0, by simp, by simp, .inl ⟨h1, rfl, rfl⟩⟩
  · simp only [List.cons.injEq, and_true] at h1
    simp only [if_true] at hm
    subst hm
    rw [hce] at hx
    have key : ∀ k, k ≤ m → ∃ asks : List (Int × Int), asks.length = k ∧ (∀ p ∈ asks, IntKind.i64.has p.1 ∧ IntKind.i64.has p.2) ∧ ∀ i, i < k → w.cells? 0 (a.add (i * 2)) 2 = some (((cells2 asks).drop (i * 2)).take 2) := by
      intro k
      induction k with
      | zero => intro _; exact ⟨[], rfl, by simp, fun i hi => by omega⟩
      | succ k ih =>
        intro hk
        obtain ⟨asks, h2, h3, h4⟩ := ih (by omega)
        obtain ⟨cs', h5, h6⟩ := hx k (by omega)
        obtain ⟨x, y, rfl, rx, ry⟩ := hpair _ _ _ h6
        refine ⟨asks ++ [(x, y)], by simp [h2], ?_, fun i hi => ?_⟩
        · intro p hp
          rcases List.mem_append.1 hp with hp | hp
          · exact h3 p hp
          · simp only [List.mem_singleton] at hp; subst hp; exact ⟨rx, ry⟩
        · rw [cells2_at _ _ (by simp [h2]; omega)]
          by_cases hik : i < k
          · have := h4 i hik
            rw [cells2_at _ _ (by omega)] at this
            rw [this]
            simp [List.getElem_append_left (show i < asks.length by omega)]
          · have : i = k := by omega
            subst this
            rw [h5]
            simp [List.getElem_append_right (show asks.length ≤ i by omega), h2]
    obtain ⟨asks, h2, h3, h4⟩ := key len hlc
    refine ⟨asks, m, by omega, hcap, .inr ⟨a, by rw [h1, h2], ?_⟩⟩
    by_cases hm0 : m = 0
    · have := List.eq_nil_of_length_eq_zero (show asks.length = 0 by omega)
      subst this
      exact .inl ⟨hm0, rfl, rfl⟩
    · refine .inr ⟨by omega, argRow_of (base := 0) (by omega) (by omega) (cells2_len asks) (by omega) (fun v hv => ?_) fun i hi => ?_⟩
      · have := List.all_eq_true.1 (p1_one (cells2_p1 asks)) v hv
        exact this
      · obtain ⟨cs', h5, _⟩ := hx i hi
        refine ⟨cs', h5, fun hin => ?_⟩
        have := h4 i (by omega)
        rw [h5] at this
        exact Option.some.inj this
end
end Go.Proofs.Ytidpkoaomfbljaa.AM
