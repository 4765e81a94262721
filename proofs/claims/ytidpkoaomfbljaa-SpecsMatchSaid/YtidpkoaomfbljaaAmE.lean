/- More of the same: values taken apart and put together, addresses, strings. -/
import Derived.Test.YtidpkoaomfbljaaAmD
namespace Go.Proofs.Ytidpkoaomfbljaa.AM
open Go Go.RowKit
set_option linter.all false
section
variable {P : Program} {N : Nat} {c : CMap} {H : AH} {w : World} {f : Fr} {ρ : Operand → Value}

theorem run_un {op : UnOp} {x x' v : Value} {n : Nat} (hx : VR n c x x') (h : unV op x = some v) : (Op.unary op x').run P w = .ok v w ∧ p1 v = true := by
  unfold unV at h
  split at h
  · obtain rfl := hx.bool; obtain rfl := Option.some.inj h; exact ⟨by simp [Op.unary], rfl⟩
  · obtain rfl := hx.int; obtain rfl := Option.some.inj h; exact ⟨by simp [Op.unary, Op.intArith], rfl⟩
  · obtain rfl := hx.int; obtain rfl := Option.some.inj h; exact ⟨by simp [Op.unary, Op.intBits, bitsK], rfl⟩
  · simp at h
theorem run_part1 {t : TypeId} {d : TypeDesc} {i : TypeInfo} (hu : P.underlying t = some d) (hi : P.info? t = some i) (ha : isAggT d = true) (cs : Array Value) (off : Nat) : (part t cs off).run P w = .ok (.agg (cs.extract off (off + i.size))) w := by
  simp [part, run_isAgg hu, ha, run_sizeOf hi]
theorem run_part0 {t : TypeId} {d : TypeDesc} (hu : P.underlying t = some d) (ha : isAggT d = false) {cs : Array Value} {off : Nat} {v : Value} (hv : cs[off]? = some v) : (part t cs off).run P w = .ok v w := by
  simp [part, run_isAgg hu, ha, hv]
theorem extract_list (cs : Array Value) (a n : Nat) : cs.extract a (a + n) = ((cs.toList.drop a).take n).toArray := by
  rw [← Array.toList_inj]; simp [Array.toList_extract, List.extract]
/-- A part of an aggregate. -/
theorem part_ok {t : TypeId} {d : TypeDesc} {i : TypeInfo} (hu : P.underlying t = some d) (hi : P.info? t = some i) {cs cs' : Array Value} (hv : VRL H.next c cs.toList cs'.toList) {off n : Nat} {agg : Bool} (hagg : (isAggT d = true ∧ agg = true ∧ n = i.size) ∨ (isAggT d = false ∧ agg = false ∧ n = 1)) (hle : off + n ≤ cs.size) {v : Value} (h : oneOf agg ((cs.toList.drop off).take n) = some v) :
    ∃ v', (part t cs' off).run P w = .ok v' w ∧ VR H.next c v v' := by
  have hsz : cs.size = cs'.size := by simpa using hv.1
  rcases hagg with ⟨ha, rfl, rfl⟩ | ⟨ha, rfl, rfl⟩
  · simp only [oneOf, if_true, Option.some.injEq] at h
    subst h
    exact ⟨_, run_part1 hu hi ha cs' off, by rw [extract_list]; exact ((hv.drop off).take _).agg⟩
  · simp only [oneOf, Bool.false_eq_true, if_false] at h
    have hlt : off < cs.toList.length := by simp; omega
    have hlt' : off < cs'.toList.length := by simp; omega
    rw [List.drop_eq_getElem_cons hlt] at h
    simp only [List.take_succ_cons, List.take_zero, Option.some.injEq] at h
    subst h
    refine ⟨cs'[off]'(by simpa using hlt'), run_part0 hu ha (by simp [show off < cs'.size by simpa using hlt']), ?_⟩
    have := hv.2 off hlt
    simpa [List.getD_eq_getElem?_getD, show off < cs.size by simpa using hlt, show off < cs'.size by simpa using hlt'] using this
theorem run_field {s : TypeId} {fs : Array Field} {j : Nat} {fd : Field} {d : TypeDesc} {i : TypeInfo} (hs : P.underlying s = some (.struct fs)) (hj : fs[j]? = some fd) (hu : P.underlying fd.type = some d) (hi : P.info? fd.type = some i) {x' : Value} {cs : Array Value} (hx : VR H.next c (.agg cs) x') {n : Nat} {agg : Bool} (hagg : (isAggT d = true ∧ agg = true ∧ n = i.size) ∨ (isAggT d = false ∧ agg = false ∧ n = 1)) (hle : fd.offset + n ≤ cs.size) {v : Value} (h : oneOf agg ((cs.toList.drop fd.offset).take n) = some v) :
    ∃ v', (Instr.field s x' j).run P w = .ok v' w ∧ VR H.next c v v' := by
  obtain ⟨cs', rfl, hv⟩ := VRL.of_agg hx
  obtain ⟨v', e, hr⟩ := part_ok (P := P) (w := w) hu hi hv hagg hle h
  exact ⟨v', by simp [Instr.field, run_underlying hs, hj, asAgg, e], hr⟩
theorem run_arrIdx {t e : TypeId} {len : Nat} {d : TypeDesc} {i : TypeInfo} (ht : P.underlying t = some (.array len e)) (hu : P.underlying e = some d) (hi : P.info? e = some i) {x' : Value} {cs : Array Value} (hx : VR H.next c (.agg cs) x') {n : Nat} {agg : Bool} (hn : n = i.size) (hagg : (isAggT d = true ∧ agg = true) ∨ (isAggT d = false ∧ agg = false ∧ n = 1)) {k : IntKind} {j : Int} (h0 : 0 ≤ j) (h1 : j < len) (hle : j.toNat * n + n ≤ cs.size) {v : Value} (h : oneOf agg ((cs.toList.drop (j.toNat * n)).take n) = some v) :
    ∃ v', (Instr.index t x' (.int k j)).run P w = .ok v' w ∧ VR H.next c v v' := by
  obtain ⟨cs', rfl, hv⟩ := VRL.of_agg hx
  obtain ⟨v', he, hr⟩ := part_ok (P := P) (w := w) (t := e) (off := j.toNat * n) hu hi hv (by rcases hagg with ⟨a, b⟩ | ⟨a, b, cc⟩; exact .inl ⟨a, b, hn⟩; exact .inr ⟨a, b, cc⟩) hle h
  exact ⟨v', by simp [Instr.index, run_underlying ht, asIntOf, h0, h1, run_sizeOf hi, ← hn, he], hr⟩
theorem run_strIdx {t : TypeId} (ht : P.underlying t = some .string) {s : ByteArray} {k : IntKind} {j : Int} (h0 : 0 ≤ j) (h1 : j < s.size) : (Instr.index t (.string s) (.int k j)).run P w = .ok (.int .u8 (s.data.toList.getD j.toNat 0).toNat) w := by
  have hlt : j.toNat < s.size := by omega
  have e : s[j.toNat]? = some (s.data.toList.getD j.toNat 0) := by
    rw [getElem?_pos s j.toNat hlt]
    have : j.toNat < s.data.size := hlt
    rw [List.getD_eq_getElem?_getD, Array.getElem?_toList, Array.getElem?_eq_getElem this]; rfl
  simp [Instr.index, run_underlying ht, asIntOf, h0, e]
theorem asNat_some {v : Value} {n : Nat} (h : asNat v = some n) : ∃ k j, v = .int k j ∧ 0 ≤ j ∧ j.toNat = n := by
  unfold asNat at h
  split at h
  · rename_i k j
    split at h
    · rename_i h0; exact ⟨k, j, rfl, h0, Option.some.inj h⟩
    · simp at h
  · simp at h
theorem bound_ok {x : Option Operand} {d m n : Nat} (hE : ∀ o, x = some o → VR H.next c (ev f o) (ρ o)) (h : bound f x d m = some n) {g : Option Value → Sem Nat} (hg1 : ∀ k j, 0 ≤ j → j.toNat ≤ m → (g (some (.int k j))).run P w = .ok j.toNat w) (hg0 : (g none).run P w = .ok d w) : (g (x.map ρ)).run P w = .ok n w := by
  unfold bound at h
  cases x with
  | none => simp only [Option.some.injEq] at h; subst h; exact hg0
  | some o =>
    simp only at h
    cases hq : asNat (ev f o) with
    | none => rw [hq] at h; simp at h
    | some k =>
      rw [hq] at h
      simp only at h
      split at h
      · rename_i hle
        obtain rfl := Option.some.inj h
        obtain ⟨kd, j, e1, e2, e3⟩ := asNat_some hq
        have := hE o rfl
        rw [e1] at this
        rw [Option.map_some, this.int, ← e3]
        exact hg1 kd j e2 (by omega)
      · simp at h
theorem bound_le {x : Option Operand} {d m n : Nat} (h : bound f x d m = some n) (hd : d ≤ m) : n ≤ m := by
  unfold bound at h
  split at h
  · obtain rfl := Option.some.inj h; exact hd
  · split at h
    · split at h
      · obtain rfl := Option.some.inj h; assumption
      · simp at h
    · simp at h
theorem run_bound (k : IntKind) (j : Int) (m : Nat) (code : BoundsCode) (h0 : 0 ≤ j) (hm : j.toNat ≤ m) : (Instr.sliceBound (.int k j) m code).run P w = .ok j.toNat w := by
  simp [Instr.sliceBound, asIntOf, h0, show j ≤ (m : Int) by omega]
theorem run_bounds {lo hi : Option Operand} {len cap l h cap' : Nat} {b : Bool} (hL : ∀ o, lo = some o → VR H.next c (ev f o) (ρ o)) (hH : ∀ o, hi = some o → VR H.next c (ev f o) (ρ o)) (h1 : bound f hi len cap = some h) (h2 : bound f lo 0 h = some l) (hc : cap ≤ cap') :
    (Instr.sliceBounds b len cap' (lo.map ρ) (hi.map ρ) none).run P w = .ok (l, h, cap') w := by
  have e1 := bound_ok (P := P) (w := w) hH h1 (g := fun o => match o with | some v => Instr.sliceBound v cap' (if b then .sliceAcap else .sliceAlen) | none => pure len) (fun k j a b' => run_bound k j cap' _ a (by omega)) (by simp)
  have e2 := bound_ok (P := P) (w := w) hL h2 (g := fun o => match o with | some v => Instr.sliceBound v h .sliceB | none => pure 0) (fun k j a b' => run_bound k j h _ a b') (by simp)
  unfold Instr.sliceBounds
  cases hi with
  | none =>
    cases lo with
    | none => simp at e1 e2 ⊢; exact ⟨e2.symm ▸ rfl, e1⟩
    | some y => simp at e1 e2 ⊢; subst e1; simp [e2]
  | some x =>
    cases lo with
    | none => simp at e1 e2 ⊢; simp [e1, e2]
    | some y => simp at e1 e2 ⊢; simp [e1, e2]
theorem run_min {x y x' y' v : Value} {n : Nat} (hx : VR n c x x') (hy : VR n c y y') (h : minV x y = some v) : (Builtin.min2 x' y').run P w = .ok v w ∧ p1 v = true := by
  unfold minV at h
  split at h
  · obtain rfl := hx.int; obtain rfl := hy.int; obtain rfl := Option.some.inj h; exact ⟨by simp [Builtin.min2], rfl⟩
  · simp at h
theorem run_max {x y x' y' v : Value} {n : Nat} (hx : VR n c x x') (hy : VR n c y y') (h : maxV x y = some v) : (Builtin.max2 x' y').run P w = .ok v w ∧ p1 v = true := by
  unfold maxV at h
  split at h
  · obtain rfl := hx.int; obtain rfl := hy.int; obtain rfl := Option.some.inj h; exact ⟨by simp [Builtin.max2], rfl⟩
  · simp at h
theorem run_fold {g : Value → Value → Option Value} {s : Value → Value → Sem Value} {n : Nat} (hg : ∀ x y x' y' v, VR n c x x' → VR n c y y' → g x y = some v → (s x' y').run P w = .ok v w ∧ p1 v = true) :
    ∀ (l l' : List Value) (x x' v : Value), VR n c x x' → VRL n c l l' → foldV g x l = some v → ∃ v', (l'.foldlM s x').run P w = .ok v' w ∧ VR n c v v'
  | [], l', x, x', v, hx, hl, h => by
    rw [hl.nil_inv]
    simp only [foldV, Option.some.injEq] at h
    subst h
    exact ⟨x', by simp, hx⟩
  | y :: l, l', x, x', v, hx, hl, h => by
    obtain ⟨y', l'', rfl, h1, h2⟩ := hl.uncons
    simp only [foldV] at h
    cases hq : g x y with
    | none => rw [hq] at h; simp at h
    | some u =>
      rw [hq] at h
      obtain ⟨r1, r2⟩ := hg x y x' y' u hx h1 hq
      obtain ⟨v', r3, r4⟩ := run_fold hg l l'' u u v (.plain r2) h2 h
      exact ⟨v', by simp [List.foldlM_cons, r1, r3], r4⟩
end
end Go.Proofs.Ytidpkoaomfbljaa.AM
