/- More of the same: what is built, what is loaded, stored, made. -/
import Derived.Test.YtidpkoaomfbljaaAmE
import Derived.Laws.Rows
namespace Go.Proofs.Ytidpkoaomfbljaa.AM
open Go Go.RowKit
set_option linter.all false
section
variable {P : Program} {N : Nat} {c : CMap} {H : AH} {w : World} {f : Fr} {ρ : Operand → Value}

/-! ### Aggregates that are built -/
theorem fold_splice : ∀ (vs : List Value) (off k : Nat) (cs : Array Value), ((vs.zipIdx k).foldl (fun cs (x : Value × Nat) => cs.setIfInBounds (off + x.2) x.1) cs).toList = splice cs.toList (off + k) vs
  | [], off, k, cs => rfl
  | v :: vs, off, k, cs => by
    simp only [List.zipIdx_cons, List.foldl_cons]
    rw [fold_splice vs off (k + 1) _]
    simp [splice, Nat.add_assoc]
theorem fill_ok (place : Nat → Option (Nat × Nat)) : ∀ (ps : List (Nat × Value)) (qs : List (Nat × Nat × Value)) (cs cs' : Array Value) (r : List Value), 
    ps.length = qs.length → (∀ (j i : Nat) (v : Value), ps[j]? = some (i, v) → ∃ (off n : Nat) (u : Value), qs[j]? = some (off, n, u) ∧ place i = some (off, n) ∧ VR H.next c u v) → VRL H.next c cs.toList cs'.toList → fillC cs.toList qs = some r →
    ∃ r' : Array Value, Instr.fill place cs' ps = some r' ∧ VRL H.next c r r'.toList
  | [], qs, cs, cs', r, hlen, _, hv, h => by
    obtain rfl : qs = [] := List.eq_nil_of_length_eq_zero hlen.symm
    simp only [fillC, Option.some.injEq] at h
    subst h
    exact ⟨cs', rfl, hv⟩
  | (i, v) :: ps, qs, cs, cs', r, hlen, hp, hv, h => by
    obtain ⟨off, n, u, hq, hpl, hr⟩ := hp 0 i v rfl
    cases qs with
    | nil => simp at hq
    | cons q qs =>
      simp only [List.getElem?_cons_zero, Option.some.injEq] at hq
      subst hq
      simp only [fillC] at h
      split at h
      · rename_i hcond
        have hcu := hr.cells
        have hsz : v.cells.size = n := by have := hcu.1; simp at this; omega
        have hcs : cs'.size = cs.size := by have := hv.1; simpa using this.symm
        have hstep : VRL H.next c (splice cs.toList off u.cells.toList) (v.cells.zipIdx.foldl (fun cs (x, j) => cs.setIfInBounds (off + j) x) cs').toList := by
          have e := fold_splice v.cells.toList off 0 cs'
          have e2 : (v.cells.zipIdx.foldl (fun cs (x : Value × Nat) => cs.setIfInBounds (off + x.2) x.1) cs').toList = splice cs'.toList off v.cells.toList := by
            rw [Nat.add_zero] at e; rw [← e, ← Array.foldl_toList]; simp
          exact e2 ▸ hv.splice off hcu
        have ht : (splice cs.toList off u.cells.toList) = ((splice cs.toList off u.cells.toList).toArray).toList := by simp
        rw [ht] at h hstep
        obtain ⟨r', e1, e2⟩ := fill_ok place ps qs _ _ r (by simpa using hlen) (fun j i' v' hj => by simpa using hp (j + 1) i' v' (by simpa using hj)) hstep h
        refine ⟨r', ?_, e2⟩
        simp only [Instr.fill, hpl]
        have hc2 := hcond.2
        simp only [Array.length_toList] at hc2
        rw [if_neg (by simp [hsz]; omega)]
        exact e1
      · simp at h
theorem parts_ok {place : Nat → Option (Nat × TypeId)} (hE : ∀ x, opdOk x = true → VR H.next c (ev f x) (ρ x)) : ∀ (ps : List (Nat × Operand)) (l : List (Nat × Nat × Operand)), partsOf P place ps = some l → (∀ p ∈ ps, opdOk p.2 = true) →
    ps.length = l.length ∧ ∀ (j i : Nat) (x : Operand), ps[j]? = some (i, x) → ∃ (off n : Nat) (t : TypeId) (ti : TypeInfo), l[j]? = some (off, n, x) ∧ place i = some (off, t) ∧ P.info? t = some ti ∧ n = ti.size ∧ VR H.next c (ev f x) (ρ x)
  | [], l, h, _ => by simp only [partsOf, Option.some.injEq] at h; subst h; exact ⟨rfl, fun j i x hj => by simp at hj⟩
  | (i, x) :: ps, l, h, ho => by
    simp only [partsOf] at h
    split at h
    · rename_i off t l' hp hl
      split at h
      · rename_i ti hti
        obtain rfl := Option.some.inj h
        obtain ⟨h1, h2⟩ := parts_ok hE ps l' hl (fun p hp' => ho p (by simp [hp']))
        refine ⟨by simpa using h1, fun j i' x' hj => ?_⟩
        cases j with
        | zero =>
          simp only [List.getElem?_cons_zero, Option.some.injEq, Prod.mk.injEq] at hj
          obtain ⟨rfl, rfl⟩ := hj
          exact ⟨off, ti.size, t, ti, rfl, hp, hti, rfl, hE _ (ho (i, x) (by simp))⟩
        | succ j => simpa using h2 j i' x' (by simpa using hj)
      · simp at h
    · simp at h
theorem fill_of {place : Nat → Option (Nat × TypeId)} {place' : Nat → Option (Nat × Nat)} (hE : ∀ x, opdOk x = true → VR H.next c (ev f x) (ρ x)) {ps : Array (Nat × Operand)} {l : List (Nat × Nat × Operand)} (hl : partsOf P place ps.toList = some l) (ho : ∀ p ∈ ps.toList, opdOk p.2 = true) (hpl : ∀ i off t ti, place i = some (off, t) → P.info? t = some ti → place' i = some (off, ti.size)) {cs cs' : Array Value} (hv : VRL H.next c cs.toList cs'.toList) {r : List Value} (h : fillC cs.toList (l.map fun p => (p.1, p.2.1, ev f p.2.2)) = some r) :
    ∃ r' : Array Value, Instr.fill place' cs' (ps.map fun (i, x) => (i, ρ x)).toList = some r' ∧ VRL H.next c r r'.toList := by
  obtain ⟨h1, h2⟩ := parts_ok (P := P) hE ps.toList l hl ho
  refine fill_ok place' _ _ cs cs' r (by simpa using h1) (fun j i v hj => ?_) hv h
  simp only [Array.toList_map, List.getElem?_map, Option.map_eq_some_iff, Prod.exists, Prod.mk.injEq] at hj
  obtain ⟨i0, x, e1, rfl, rfl⟩ := hj
  obtain ⟨off, n, t, ti, e2, e3, e4, e5, e6⟩ := h2 j i0 x e1
  exact ⟨off, n, ev f x, by simp [e2], by rw [e5]; exact hpl _ _ _ _ e3 e4, e6⟩
end
end Go.Proofs.Ytidpkoaomfbljaa.AM
