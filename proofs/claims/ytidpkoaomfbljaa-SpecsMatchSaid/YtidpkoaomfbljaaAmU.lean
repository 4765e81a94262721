/- Arguments of laws are read. -/
import Derived.Test.YtidpkoaomfbljaaAmS
import Derived.Test.YtidpkoaomfbljaaAmT
namespace Go.Proofs.Ytidpkoaomfbljaa.AM
open Go Go.RowKit Go.ChangeShapes Go.WideShapes Go.ChangeAt
set_option linter.all false

theorem cell_int {P : Program} {w : World} {r : Reach} {b : Nat} {u : TypeId} {k : IntKind} {v : Value} (hu : P.underlying u = some (.int k)) (h : Cell.okWide P w r b u v) : ∃ n, v = .int k n ∧ k.has n := by
  unfold Cell.okWide at h
  rw [hu] at h
  cases v <;> simp only [Cell.ok, hu] at h
  obtain ⟨rfl, h2⟩ := h
  exact ⟨_, rfl, h2⟩
theorem val_int {P : Program} {w : World} {r : Reach} {b : Nat} {u : TypeId} {k : IntKind} {v : Value} (hu : P.underlying u = some (.int k)) (h : Value.okWide P w r b u v) : ∃ n, v = .int k n ∧ k.has n := by
  unfold Value.okWide at h
  rw [hu] at h
  exact cell_int hu h
/-- A row of words. -/
theorem row_ints {P : Program} {w : World} {r : Reach} {b : Nat} {t u : TypeId} {n : Nat} {cs : Array Value} (hc : P.cellTypes P.depth t = some (List.replicate n u)) (hu : P.underlying u = some (.int .i64)) (h : Row.okWide P w r b t cs) :
    ∃ l : List Int, cs = (l.map I64).toArray ∧ ∀ x ∈ l, IntKind.i64.has x := by
  obtain ⟨ts, hts, ⟨m, hm⟩, hcell⟩ := h
  rw [hc] at hts
  obtain rfl := Option.some.inj hts
  have key : ∀ vs : List Value, (∀ v ∈ vs, ∃ x, v = .int .i64 x ∧ IntKind.i64.has x) → ∃ l : List Int, vs = l.map I64 ∧ ∀ x ∈ l, IntKind.i64.has x := by
    intro vs
    induction vs with
    | nil => intro _; exact ⟨[], rfl, by simp⟩
    | cons v vs ih =>
      intro hv
      obtain ⟨x, rfl, hx⟩ := hv v (by simp)
      obtain ⟨l, rfl, hl⟩ := ih fun v hv' => hv v (by simp [hv'])
      exact ⟨x :: l, rfl, by simpa using ⟨hx, hl⟩⟩
  obtain ⟨l, hl, hr⟩ := key cs.toList fun v hv => by
    obtain ⟨i, hi⟩ := List.getElem?_of_mem hv
    obtain ⟨u', hu', hok⟩ := hcell i v (by simpa using hi)
    have : u' = u := by
      have := List.mem_of_getElem? hu'
      exact (List.mem_replicate.1 this).2
    subst this
    exact cell_int hu hok
  exact ⟨l, by rw [← hl], hr⟩
theorem val_ints {P : Program} {w : World} {r : Reach} {b : Nat} {t u : TypeId} {fs : Array Field} {n : Nat} {v : Value} (ht : P.underlying t = some (.struct fs)) (hc : P.cellTypes P.depth t = some (List.replicate n u)) (hn : P.cellsOf t = n) (hu : P.underlying u = some (.int .i64)) (h : Value.okWide P w r b t v) :
    ∃ l : List Int, l.length = n ∧ v = .agg (l.map I64).toArray ∧ ∀ x ∈ l, IntKind.i64.has x := by
  unfold Value.okWide at h
  rw [ht] at h
  obtain ⟨cs, rfl, hsz, hrow⟩ := h
  obtain ⟨l, rfl, hr⟩ := row_ints hc hu hrow
  exact ⟨l, by rw [hn] at hsz; simpa using hsz, rfl, hr⟩
/-- The start: nothing is there. -/
def H0 : AH := ⟨[none], 1⟩
theorem sim0 {N : Nat} {w : World} (h : N ≤ w.heap.size) : Sim N (fun _ => none) H0 w := by
  refine ⟨fun id => ?_, fun id b l hb hc => by simp at hc, fun id id' b l l' _ _ _ hc _ => by simp at hc, h⟩
  have : H0.get id = none := by
    unfold H0 AH.get
    cases id with
    | zero => rfl
    | succ n => simp
  rw [this]; rfl
theorem tblOk_of {P : Program} {N : Nat} {l : List (Nat × Ent)} (h : ∀ p ∈ l, EntOk P N p.1 p.2) : TblOk P N (lookT l) := fun n e he => h _ (lookup_mem he)
end Go.Proofs.Ytidpkoaomfbljaa.AM
