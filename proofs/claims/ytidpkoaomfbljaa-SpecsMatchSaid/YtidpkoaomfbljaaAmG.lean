/- More of the same: memory. -/
import Derived.Test.YtidpkoaomfbljaaAmF
import Derived.Laws.MakeOwn
namespace Go.Proofs.Ytidpkoaomfbljaa.AM
open Go Go.RowKit
set_option linter.all false
section
variable {P : Program} {N : Nat} {c : CMap} {H : AH} {w : World} {f : Fr} {ρ : Operand → Value}

theorem run_cells {a : Addr} {l : Loc} {cs : List Value} {n : Nat} (hn : cs.length = n) (h : ∀ j v, cs[j]? = some v → w.cell? ⟨l.blk, l.sh + a.off + j, none⟩ = some v) : (loadCells ⟨l.blk, l.sh + a.off, none⟩ n).run P w = .ok cs.toArray w := by
  subst hn
  exact run_loadCells_list (P := P) w _ cs fun j v hj => by rw [add_eq]; exact h j v hj
theorem load_ok (hs : Sim N c H w) {t : TypeId} {d : TypeDesc} {i : TypeInfo} (hu : P.underlying t = some d) (hi : P.info? t = some i) {a : Addr} {v' : Value} (ha : VR H.next c (.pointer (some a)) v') {agg : Bool} {n : Nat} (hagg : (isAggT d = true ∧ agg = true ∧ n = i.size) ∨ (isAggT d = false ∧ agg = false ∧ n = 1)) {cs : List Value} (hl : ldc H a n = some cs) {v : Value} (h : oneOf agg cs = some v) :
    Does P N c H w (Instr.loadAt t v') v H := by
  obtain ⟨l, cs', hc, hlen, _, hv, hr⟩ := hs.read hl
  obtain ⟨rfl, _⟩ := ha.ptrL hc
  have hn' : cs'.length = n := by rw [← hv.1]; exact hlen
  rcases hagg with ⟨h1, rfl, rfl⟩ | ⟨h1, rfl, rfl⟩
  · simp only [oneOf, if_true, Option.some.injEq] at h
    subst h
    exact .pure hs (v' := .agg cs'.toArray) (by simp [Instr.loadAt, Instr.sureAddr, loadVar, run_isAgg hu, h1, run_sizeOf hi, run_cells hn' hr]) hv.agg
  · simp only [oneOf, Bool.false_eq_true, if_false] at h
    split at h
    · rename_i x
      obtain rfl := Option.some.inj h
      obtain ⟨x', l', rfl, hx, hl'⟩ := hv.uncons
      exact .pure hs (v' := x') (by
        have := hr 0 x' rfl
        rw [Nat.add_zero] at this
        simp [Instr.loadAt, Instr.sureAddr, loadVar, run_isAgg hu, h1, this]) hx
    · simp at h
theorem load_ok' (hs : Sim N c H w) {t : TypeId} {d : TypeDesc} {i : TypeInfo} (hu : P.underlying t = some d) (hi : P.info? t = some i) {a : Addr} {v' : Value} (ha : VR H.next c (.pointer (some a)) v') {agg : Bool} {n : Nat} (hagg : (isAggT d = true ∧ agg = true ∧ n = i.size) ∨ (isAggT d = false ∧ agg = false ∧ n = 1)) {cs : List Value} (hl : ldc H a n = some cs) {v : Value} (h : oneOf agg cs = some v) :
    ∃ v2, (Instr.loadAt t v').run P w = .ok v2 w ∧ VR H.next c v v2 := by
  obtain ⟨l, cs', hc, hlen, _, hv, hr⟩ := hs.read hl
  obtain ⟨rfl, _⟩ := ha.ptrL hc
  have hn' : cs'.length = n := by rw [← hv.1]; exact hlen
  rcases hagg with ⟨h1, rfl, rfl⟩ | ⟨h1, rfl, rfl⟩
  · simp only [oneOf, if_true, Option.some.injEq] at h
    subst h
    exact ⟨.agg cs'.toArray, by simp [Instr.loadAt, Instr.sureAddr, loadVar, run_isAgg hu, h1, run_sizeOf hi, run_cells hn' hr], hv.agg⟩
  · simp only [oneOf, Bool.false_eq_true, if_false] at h
    split at h
    · rename_i x
      obtain rfl := Option.some.inj h
      obtain ⟨x', l', rfl, hx, hl'⟩ := hv.uncons
      exact ⟨x', by
        have := hr 0 x' rfl
        rw [Nat.add_zero] at this
        simp [Instr.loadAt, Instr.sureAddr, loadVar, run_isAgg hu, h1, this], hx⟩
    · simp at h
theorem store_ok (hs : Sim N c H w) {t : TypeId} {i : TypeInfo} (hi : P.info? t = some i) {a : Addr} {v' x x' : Value} (ha : VR H.next c (.pointer (some a)) v') (hx : VR H.next c x x') (hn : x.cells.size = i.size) {H' : AH} (h : stc H a x.cells.toList = some H') :
    ∃ w', (Instr.storeAt t v' x').run P w = .ok () w' ∧ Sim N c H' w' ∧ ExtW N c H w c H' w' := by
  unfold stc at h
  split at h
  case isFalse => simp at h
  rename_i hone
  unfold stU at h
  cases hb : H.get a.block with
  | none => rw [hb] at h; simp at h
  | some b =>
    rw [hb] at h
    simp only at h
    split at h
    · rename_i hcond
      obtain ⟨hro, hle⟩ := hcond
      obtain rfl := Option.some.inj h
      obtain ⟨l, hc, hr⟩ := hs.at_ hb
      obtain ⟨rfl, _⟩ := ha.ptrL hc
      have hcx := hx.cells
      obtain ⟨w', e1, e2, e3⟩ := hs.store hb hc hro hcx hle hone P
      have hsz : x'.cells.size = i.size := by have := hcx.1; simp at this; omega
      exact ⟨w', by simp [Instr.storeAt, Instr.sureAddr, storeVar, run_sizeOf hi, hsz, e1], e2, e3⟩
    · simp at h
theorem p1_one {l : List Value} (h : l.all p1 = true) : l.all one = true := by
  rw [List.all_eq_true] at h ⊢
  intro x hx
  have := h x hx
  cases x <;> first | rfl | (simp [p1] at this)
/-- A new row, all of whose cells are told. -/
theorem new_ok (hs : Sim N c H w) {b : Blk} {cs : Array Value} {ty : TypeId} (hv : VRL H.next c b.cells cs.toList) (ho : b.cells.all one = true) : ∃ c', Sim N c' (H.push b) (w.alloc (.cells cs ty)) ∧ ExtW N c H w c' (H.push b) (w.alloc (.cells cs ty)) ∧ c' H.next = some ⟨w.heap.size, 0, cs.size, b.es⟩ ∧ VR (H.push b).next c' (.pointer (some ⟨H.next, 0, none⟩)) (.pointer (some ⟨w.heap.size, 0, none⟩)) := by
  obtain ⟨h1, h2⟩ := hs.push (b := b) (cs := cs) (ty := ty) (fz := (0, 0)) (rest := []) (by simp) hv ho (by simp)
  refine ⟨_, h1, h2, if_pos rfl, ?_⟩
  exact VR.ptr (a := ⟨H.next, 0, none⟩) (l := ⟨w.heap.size, 0, cs.size, b.es⟩) (by simp) (if_pos rfl) rfl
theorem alloc_ok (hs : Sim N c H w) {t : TypeId} {i : TypeInfo} {z : Value} (hi : P.info? t = some i) (hz : i.zero = some z) (hp : z.cells.toList.all p1 = true) (es : Nat) :
    Does P N c H w (Instr.alloc t true (.tuple #[])) (.pointer (some ⟨H.next, 0, none⟩)) (H.push ⟨z.cells.toList, es, false⟩) := by
  obtain ⟨c', h1, h2, _, h3⟩ := new_ok hs (b := ⟨z.cells.toList, es, false⟩) (cs := z.cells) (ty := t) (.refl hp) (p1_one hp)
  exact ⟨_, c', _, by simp [Instr.alloc, run_zeroValue hi hz, newVar, newRow], h3, h1, h2⟩
theorem box_ok (hs : Sim N c H w) {t : TypeId} {x x' : Value} (hx : VR H.next c x x') (hone : x.cells.toList.all one = true) (es : Nat) :
    Does P N c H w (Instr.box t x') (.pointer (some ⟨H.next, 0, none⟩)) (H.push ⟨x.cells.toList, es, false⟩) := by
  obtain ⟨c', h1, h2, _, h3⟩ := new_ok hs (b := ⟨x.cells.toList, es, false⟩) (cs := x'.cells) (ty := t) hx.cells hone
  exact ⟨_, c', _, by simp [Instr.box, newVar, newRow], h3, h1, h2⟩
/-- The slice of a new row. -/
theorem new_slice (hs : Sim N c H w) {b : Blk} {cs : Array Value} {ty : TypeId} {fz : Nat × Nat} {rest mid : List Value} (hcs : cs.toList = mid ++ rest) (hv : VRL H.next c b.cells mid) (ho : b.cells.all one = true) (hfz : ∀ j, j < cs.size → ¬ (fz.1 ≤ j ∧ j < fz.2)) {n k k' : Nat} (hk : k ≤ k') (hkk : k' * b.es ≤ cs.size) :
    ∃ c', Sim N c' (H.push b) (w.alloc (.cells cs ty fz)) ∧ ExtW N c H w c' (H.push b) (w.alloc (.cells cs ty fz)) ∧ VR (H.push b).next c' (.slice (some ⟨H.next, 0, none⟩) n k) (.slice (some ⟨w.heap.size, 0, none⟩) n k') := by
  obtain ⟨h1, h2⟩ := hs.push (b := b) (cs := cs) (ty := ty) (fz := fz) (rest := rest) hcs hv ho hfz
  refine ⟨_, h1, h2, ?_⟩
  exact VR.slice (a := ⟨H.next, 0, none⟩) (l := ⟨w.heap.size, 0, cs.size, b.es⟩) (by simp) (if_pos rfl) rfl hk (by simp; exact hkk)
/-- A thing that nobody reads is made. -/
theorem Sim.alloc (hs : Sim N c H w) (o : Obj) : Sim N c H (w.alloc o) ∧ ExtW N c H w c H (w.alloc o) := by
  have hold : ∀ (l : Loc) id b', H.get id = some b' → c id = some l → l.blk < w.heap.size := fun l id b' h1 h2 => by
    obtain ⟨cs', ty', fz', mid', h3, _⟩ := (hs.blk id b' l h1 h2).row
    exact (Array.getElem?_eq_some_iff.1 h3).1
  refine ⟨⟨hs.live, fun id b l h1 h2 => ?_, hs.inj, by show N ≤ (w.heap.push o).size; simp; have := hs.size; omega⟩, ⟨Nat.le_refl _, fun _ _ => .inl rfl, Nat.le_refl _, fun id hid _ => ⟨rfl, rfl, fun l hl => ?_⟩, (Below.refl N w).alloc hs.size _⟩⟩
  · obtain ⟨cs', ty', fz', mid', k1, k2, k3, k4, k5, k6⟩ := (hs.blk id b l h1 h2).row
    exact ⟨(hs.blk id b l h1 h2).es, (hs.blk id b l h1 h2).ones, cs', ty', fz', mid', by rw [Below.heap_alloc _ _ _ (hold l id b h1 h2)]; exact k1, k2, k3, k4, k5, k6⟩
  · have := hs.live id
    rw [hl] at this
    obtain ⟨b, hb⟩ := Option.isSome_iff_exists.1 this
    exact Below.heap_alloc _ _ _ (hold l id b hb hl)
theorem Sim.pushD (hs : Sim N c H w) : Sim N c H.pushD w ∧ ExtW N c H w c H.pushD w := by
  have hnx : H.pushD.next = H.next + 1 := by simp [AH.pushD, AH.next]
  have hget : ∀ id, H.pushD.get id = H.get id := fun id => by
    unfold AH.get AH.pushD
    simp only [List.getElem?_append]
    split
    · rfl
    · rename_i h
      rw [List.getElem?_eq_none (show H.blks.length ≤ id by omega)]
      by_cases e : id - H.blks.length = 0
      · rw [e]; rfl
      · rw [List.getElem?_eq_none (by simp; omega)]
  refine ⟨⟨fun id => by rw [hget]; exact hs.live id, fun id b l h1 h2 => ?_, fun id id' b l l' hne h1 hro h2 h3 => hs.inj id id' b l l' hne (by rw [← hget]; exact h1) hro h2 h3, hs.size⟩, ⟨by omega, fun _ _ => .inl rfl, Nat.le_refl _, fun id _ _ => ⟨rfl, hget id, fun _ _ => rfl⟩, Below.refl _ _⟩⟩
  rw [hget] at h1
  obtain ⟨cs', ty', fz', mid', k1, k2, k3, k4, k5, k6⟩ := (hs.blk id b l h1 h2).row
  exact ⟨(hs.blk id b l h1 h2).es, (hs.blk id b l h1 h2).ones, cs', ty', fz', mid', k1, k2, k3, k4, k5, k6.mono (by omega) (fun _ _ => .inl rfl)⟩
theorem range_flatten (z : Array Value) : ∀ n, 0 < z.size → ((Array.range (n * z.size)).map (fun i => z[i % z.size]!)).toList = (List.replicate n z.toList).flatten := by
  intro n hz
  apply List.ext_getElem?
  intro j
  simp only [Array.toList_map, Array.toList_range, List.getElem?_map]
  by_cases hj : j < n * z.size
  · rw [List.getElem?_range hj]
    have e : ((List.replicate n z.toList).flatten)[j]? = z.toList[j % z.size]? := by
      induction n generalizing j with
      | zero => simp at hj
      | succ n ih =>
        rw [List.replicate_succ, List.flatten_cons]
        by_cases h : j < z.size
        · rw [List.getElem?_append_left (by simpa using h), Nat.mod_eq_of_lt h]
        · rw [List.getElem?_append_right (by simp; omega), ih _ (by simp [Nat.succ_mul] at hj ⊢; omega)]
          simp only [Array.length_toList]
          rw [← Nat.mod_eq_sub_mod (by omega)]
    rw [e]
    have := Nat.mod_lt j hz
    simp [this, getElem!_pos]
  · rw [List.getElem?_eq_none (by simp; omega), List.getElem?_eq_none (by simp; omega)]; rfl
theorem rep_eq (n : Nat) (z : List Value) : rep n z = (List.replicate n z).flatten := by
  unfold rep
  split
  · rename_i z
    induction n with
    | zero => rfl
    | succ n ih => rw [List.replicate_succ, List.replicate_succ, List.flatten_cons, ih]; rfl
  · rfl
theorem rep_p1 {n : Nat} {z : List Value} (h : z.all p1 = true) : (rep n z).all p1 = true := by
  rw [rep_eq]
  induction n with
  | zero => rfl
  | succ n ih => rw [List.replicate_succ, List.flatten_cons, List.all_append, h, ih]; rfl
theorem rep_length (n : Nat) (z : List Value) : (rep n z).length = n * z.length := by
  rw [rep_eq]; simp
theorem made_list (z : Array Value) (n : Nat) (h : 0 < z.size) : (madeCells z (n * z.size)).toList = rep n z.toList := by
  rw [rep_eq]; exact range_flatten z n h
theorem mkSlice_ok (hs : Sim N c H w) {t e : TypeId} {i : TypeInfo} {z : Value} (ht : P.underlying t = some (.slice e)) (hi : P.info? e = some i) (hz : i.zero = some z) (hsz : i.size = z.cells.size) (h1 : 0 < i.size) (hp : z.cells.toList.all p1 = true) {k k2 : IntKind} {n m : Int} (h0 : 0 ≤ n) (hnm : n ≤ m) (hb : m.toNat * i.bytes ≤ 140737488355328) (hm : m ≤ 9223372036854775807) :
    Does P N c H w (Instr.makeSlice t (.int k n) (.int k2 m)) (.slice (some ⟨H.next, 0, none⟩) n.toNat m.toNat) (H.push ⟨rep m.toNat z.cells.toList, i.size, false⟩) := by
  have hbig : (i.bytes : Int) * m ≤ 281474976710656 := by
    obtain ⟨q, rfl⟩ := Int.eq_ofNat_of_zero_le (show 0 ≤ m by omega)
    simp only [Int.toNat_natCast] at hb
    have h3 : ((i.bytes * q : Nat) : Int) = (i.bytes : Int) * (q : Int) := Int.natCast_mul _ _
    rw [Nat.mul_comm] at hb
    rw [← h3]
    generalize i.bytes * q = y at hb
    omega
  have hr := run_make (P := P) w t e i z ht hi hz k k2 n m h0 hnm hbig hm
  obtain ⟨c', g1, g2, g3⟩ := new_slice hs (b := ⟨rep m.toNat z.cells.toList, i.size, false⟩) (cs := madeCells z.cells (m.toNat * i.size)) (ty := e) (fz := (0, 0)) (rest := []) (mid := rep m.toNat z.cells.toList) (by rw [hsz, made_list _ _ (by omega)]; simp) (.refl (rep_p1 hp)) (p1_one (rep_p1 hp)) (by simp) (n := n.toNat) (k := m.toNat) (k' := m.toNat) (Nat.le_refl _) (by rw [size_madeCells]; exact Nat.le_refl _)
  exact ⟨_, c', _, hr, g3, g1, g2⟩
end
end Go.Proofs.Ytidpkoaomfbljaa.AM
