/- Arguments that are slices of pairs of words. -/
import Derived.Test.YtidpkoaomfbljaaAmV
namespace Go.Proofs.Ytidpkoaomfbljaa.AM
open Go Go.RowKit Go.ChangeShapes Go.WideShapes Go.ChangeAt
set_option linter.all false

def cells2 (l : List (Int × Int)) : List Value := l.flatMap fun p => [I64 p.1, I64 p.2]
theorem cells2_at : ∀ (l : List (Int × Int)) (i : Nat) (h : i < l.length), ((cells2 l).drop (i * 2)).take 2 = [.int .i64 l[i].1, .int .i64 l[i].2] := by
  intro l
  induction l with
  | nil => intro i h; simp at h
  | cons p l ih =>
    intro i h
    cases i with
    | zero => rfl
    | succ i =>
      have := ih i (by simpa using h)
      rw [Nat.succ_mul]
      simpa [cells2] using this
theorem cells2_len (l : List (Int × Int)) : (cells2 l).length = l.length * 2 := by
  induction l with
  | nil => rfl
  | cons p l ih =>
    have : cells2 (p :: l) = I64 p.1 :: I64 p.2 :: cells2 l := rfl
    rw [this, List.length_cons, List.length_cons, ih, List.length_cons]
    omega
theorem cells2_p1 (l : List (Int × Int)) : (cells2 l).all p1 = true := by
  induction l with
  | nil => rfl
  | cons p l ih =>
    have : cells2 (p :: l) = I64 p.1 :: I64 p.2 :: cells2 l := rfl
    rw [this, List.all_cons, List.all_cons, ih]
    rfl
section
variable {H : Type} {enc : TypeId × Value → H} {P : Program} {w : World} {base : Nat} {spare : Nat → Bool} {held : Bool}
theorem trod_pair {e q : TypeId} {fuel : Nat} {cs : List Value} {x : DataW H × List MemPlace} (he : P.underlying e = some (.array 2 q)) (hq : P.underlying q = some (.int .i64)) (hce : P.cellsOf e = 2) (hcq : P.cellsOf q = 1) (h : DataW.trod enc P w base spare held fuel e cs = some x) :
    ∃ a b, cs = [.int .i64 a, .int .i64 b] ∧ IntKind.i64.has a ∧ IntKind.i64.has b := by
  cases fuel with
  | zero => simp [DataW.trod] at h
  | succ fuel =>
    unfold DataW.trod at h
    simp only [he] at h
    split at h
    · rename_i hlen
      rw [hce] at hlen
      match cs, hlen with
      | [u, v], _ =>
        rw [hcq, show List.range 2 = [0, 1] from rfl] at h
        simp only [List.mapM_cons, List.mapM_nil, Nat.zero_mul, List.drop_zero, List.take_succ_cons, List.take_zero, Nat.one_mul, List.drop_succ_cons] at h
        cases h1 : DataW.trod enc P w base spare held fuel q [u] with
        | none => rw [h1] at h; simp at h
        | some y =>
          cases h2 : DataW.trod enc P w base spare held fuel q [v] with
          | none => rw [h1, h2] at h; simp at h
          | some z =>
            obtain ⟨a, ha, _, wa⟩ := DataW.trod_int hq h1
            obtain ⟨b, hb, _, wb⟩ := DataW.trod_int hq h2
            simp only [List.cons.injEq, and_true] at ha hb
            subst ha
            subst hb
            refine ⟨a, b, rfl, ?_, ?_⟩
            · simpa [Lit.wf, IntKind.has] using wa
            · simpa [Lit.wf, IntKind.has] using wb
    · simp at h
theorem trod_pairS {e q : TypeId} {f0 f1 : Field} {fuel : Nat} {cs : List Value} {x : DataW H × List MemPlace} (he : P.underlying e = some (.struct #[f0, f1])) (o0 : f0.offset = 0) (o1 : f1.offset = 1) (t0 : f0.type = q) (t1 : f1.type = q) (hq : P.underlying q = some (.int .i64)) (hce : P.cellsOf e = 2) (hcq : P.cellsOf q = 1) (h : DataW.trod enc P w base spare held fuel e cs = some x) :
    ∃ a b, cs = [.int .i64 a, .int .i64 b] ∧ IntKind.i64.has a ∧ IntKind.i64.has b := by
  cases fuel with
  | zero => simp [DataW.trod] at h
  | succ fuel =>
    unfold DataW.trod at h
    simp only [he] at h
    split at h
    · rename_i hlen
      rw [hce] at hlen
      match cs, hlen with
      | [u, v], _ =>
        simp only [List.mapM_cons, List.mapM_nil, o0, o1, t0, t1, hcq, List.drop_zero, List.take_succ_cons, List.take_zero, List.drop_succ_cons] at h
        cases h1 : DataW.trod enc P w base spare held fuel q [u] with
        | none => rw [h1] at h; simp at h
        | some y =>
          cases h2 : DataW.trod enc P w base spare held fuel q [v] with
          | none => rw [h1, h2] at h; simp at h
          | some z =>
            obtain ⟨a, ha, _, wa⟩ := DataW.trod_int hq h1
            obtain ⟨b, hb, _, wb⟩ := DataW.trod_int hq h2
            simp only [List.cons.injEq, and_true] at ha hb
            subst ha
            subst hb
            refine ⟨a, b, rfl, ?_, ?_⟩
            · simpa [Lit.wf, IntKind.has] using wa
            · simpa [Lit.wf, IntKind.has] using wb
    · simp at h
theorem read_pairsW {t e : TypeId} {v : Value} {d : DataW H} {ps : List MemPlace} {r : Reach} {b0 : Nat} (ht : P.underlying t = some (.slice e)) (hce : P.cellsOf e = 2)
    (hpair : ∀ (fuel : Nat) (cs : List Value) (x : DataW H × List MemPlace), DataW.trod enc P w 0 (fun _ => true) true fuel e cs = some x → ∃ a b, cs = [.int .i64 a, .int .i64 b] ∧ IntKind.i64.has a ∧ IntKind.i64.has b)
    (hval : Value.okWide P w r b0 t v) (hd : DataW.Trod enc P w 0 (fun _ => true) true t v d ps) :
    ∃ (asks : List (Int × Int)) (cap : Nat), asks.length ≤ cap ∧ cap ≤ maxLen ∧ (∀ p ∈ asks, IntKind.i64.has p.1 ∧ IntKind.i64.has p.2) ∧
      ((v = .slice none 0 0 ∧ asks = []) ∨ ∃ a, v = .slice (some a) asks.length cap ∧ ((cap = 0 ∧ asks = []) ∨ (0 < cap ∧ ArgRow w a asks.length cap 2 (cells2 asks)))) := by
  obtain ⟨fuel, hf⟩ := hd
  have hv : v.cells.toList = [v] := by
    unfold Value.okWide at hval
    rw [ht] at hval
    unfold Cell.okWide at hval
    rw [ht] at hval
    cases v <;> simp only [Cell.ok, ht] at hval <;> rfl
  rw [hv] at hf
  rcases _root_.Go.Deep.open_slice ht hf with ⟨h1, _⟩ | ⟨a, len, cap, m, n, D, Pl, h1, _, hlc, hcap, hm, _, hx⟩
  · simp only [List.cons.injEq, and_true] at h1
    exact ⟨[], 0, by simp, by simp, by simp, .inl ⟨h1, rfl⟩⟩
  · simp only [List.cons.injEq, and_true] at h1
    simp only [if_true] at hm
    subst hm
    rw [hce] at hx
    have key : ∀ k, k ≤ m → ∃ asks : List (Int × Int), asks.length = k ∧ (∀ p ∈ asks, IntKind.i64.has p.1 ∧ IntKind.i64.has p.2) ∧ ∀ i, i < k → w.cells? 0 (a.add (i * 2)) 2 = some (((cells2 asks).drop (i * 2)).take 2) := by
      intro k
      induction k with
      | zero => intro _; exact ⟨[], rfl, by simp, fun i hi => by omega⟩
      | succ k ih =>
        intro hk
        obtain ⟨asks, h2, h3, h4⟩ := ih (by omega)
        obtain ⟨cs', h5, h6⟩ := hx k (by omega)
        obtain ⟨x, y, rfl, rx, ry⟩ := hpair _ _ _ h6
        refine ⟨asks ++ [(x, y)], by simp [h2], ?_, fun i hi => ?_⟩
        · intro p hp
          rcases List.mem_append.1 hp with hp | hp
          · exact h3 p hp
          · simp only [List.mem_singleton] at hp; subst hp; exact ⟨rx, ry⟩
        · rw [cells2_at _ _ (by simp [h2]; omega)]
          by_cases hik : i < k
          · have := h4 i hik
            rw [cells2_at _ _ (by omega)] at this
            rw [this]
            simp [List.getElem_append_left (show i < asks.length by omega)]
          · have : i = k := by omega
            subst this
            rw [h5]
            simp [List.getElem_append_right (show asks.length ≤ i by omega), h2]
    obtain ⟨asks, h2, h3, h4⟩ := key len hlc
    refine ⟨asks, m, by omega, hcap, h3, .inr ⟨a, by rw [h1, h2], ?_⟩⟩
    by_cases hm0 : m = 0
    · exact .inl ⟨hm0, List.eq_nil_of_length_eq_zero (by omega)⟩
    · refine .inr ⟨by omega, argRow_of (base := 0) (by omega) (by omega) (cells2_len asks) (by omega) (fun v hv => ?_) fun i hi => ?_⟩
      · have := List.all_eq_true.1 (p1_one (cells2_p1 asks)) v hv
        exact this
      · obtain ⟨cs', h5, _⟩ := hx i hi
        refine ⟨cs', h5, fun hin => ?_⟩
        have := h4 i (by omega)
        rw [h5] at this
        exact Option.some.inj this
theorem read_pairs {t e q : TypeId} {v : Value} {d : DataW H} {ps : List MemPlace} {r : Reach} {b0 : Nat} (ht : P.underlying t = some (.slice e)) (he : P.underlying e = some (.array 2 q)) (hq : P.underlying q = some (.int .i64)) (hce : P.cellsOf e = 2) (hcq : P.cellsOf q = 1)
    (hval : Value.okWide P w r b0 t v) (hd : DataW.Trod enc P w 0 (fun _ => true) true t v d ps) :
    ∃ (asks : List (Int × Int)) (cap : Nat), asks.length ≤ cap ∧ cap ≤ maxLen ∧ (∀ p ∈ asks, IntKind.i64.has p.1 ∧ IntKind.i64.has p.2) ∧
      ((v = .slice none 0 0 ∧ asks = []) ∨ ∃ a, v = .slice (some a) asks.length cap ∧ ((cap = 0 ∧ asks = []) ∨ (0 < cap ∧ ArgRow w a asks.length cap 2 (cells2 asks)))) :=
  read_pairsW ht hce (fun _ _ _ h => trod_pair he hq hce hcq h) hval hd
end
/-- The start with an argument that is a slice of pairs. -/
theorem start_pairs {P : Program} {w : World} {v : Value} {asks : List (Int × Int)} {cap : Nat} (hc : asks.length ≤ cap) (h : (v = .slice none 0 0 ∧ asks = []) ∨ ∃ a, v = .slice (some a) asks.length cap ∧ ((cap = 0 ∧ asks = []) ∨ (0 < cap ∧ ArgRow w a asks.length cap 2 (cells2 asks)))) :
    ∃ (c : CMap) (H : AH) (u : Value), Sim w.heap.size c H w ∧ VR H.next c u v ∧ Sl H 2 u asks.length (cells2 asks) := by
  rcases h with ⟨rfl, rfl⟩ | ⟨a, rfl, ⟨rfl, rfl⟩ | ⟨hpos, har⟩⟩
  · exact ⟨_, H0, .slice none 0 0, sim0 (Nat.le_refl _), .plain rfl, .inl ⟨none, 0, rfl, rfl, rfl⟩⟩
  · exact ⟨_, H0, .slice (some ⟨0, 0, none⟩) 0 0, sim0 (Nat.le_refl _), .sliceDead (by simp [H0, AH.next]) rfl, .inl ⟨_, 0, rfl, rfl, rfl⟩⟩
  · obtain ⟨sz, h1, h2⟩ := sim1 har (cells2_p1 asks)
    refine ⟨_, _, _, h1, h2, .inr ⟨_, cap, rfl, ?_⟩⟩
    rw [ldc_eq]
    have : (H1 (cells2 asks) 2).get 1 = some ⟨cells2 asks, 2, true⟩ := rfl
    rw [this, ldcB_some, if_pos (by simp [cells2_len]), ← cells2_len]
    simp
end Go.Proofs.Ytidpkoaomfbljaa.AM
