/- More of the same: append, copy, strings and bytes. -/
import Derived.Test.YtidpkoaomfbljaaAmG
import Derived.Deep.AppendSrc
import Derived.Deep.Upon
import Derived.Lib.AppendZeros
namespace Go.Proofs.Ytidpkoaomfbljaa.AM
open Go Go.RowKit
set_option linter.all false
section
variable {P : Program} {N : Nat} {c : CMap} {H : AH} {w : World} {f : Fr} {ρ : Operand → Value}

/-- A block that no live number leads to is taken in under a new number, some of its cells being written. -/
theorem Sim.adopt (hs : Sim N c H w) {g sh : Nat} {b : Blk} {cs : Array Value} {ty : TypeId} {fz : Nat × Nat} {w' : World} (hfree : ∀ id l, c id = some l → l.blk ≠ g) (hN : N ≤ g) (hg : w'.heap[g]? = some (.cells cs ty fz)) (hfz : ∀ j, j < cs.size → ¬ (fz.1 ≤ j ∧ j < fz.2)) (hoth : ∀ k, k ≠ g → w'.heap[k]? = w.heap[k]?) (hsz : w'.heap.size = w.heap.size) (hb : Below N w w') {mid : List Value} (hone : b.cells.all one = true) (hle : sh + b.cells.length ≤ cs.size) (hcs : ∀ j, j < b.cells.length → cs[sh + j]? = some (mid.getD j Go.undef)) (hm : VRL H.next c b.cells mid) :
    Sim N (fun id => if id = H.next then some ⟨g, sh, cs.size, b.es⟩ else c id) (H.push b) w' ∧ ExtW N c H w (fun id => if id = H.next then some ⟨g, sh, cs.size, b.es⟩ else c id) (H.push b) w' := by
  have hdom : ∀ id, id < H.next → (fun id => if id = H.next then some (⟨g, sh, cs.size, b.es⟩ : Loc) else c id) id = c id ∨ (fun id => if id = H.next then some (⟨g, sh, cs.size, b.es⟩ : Loc) else c id) id = none :=
    fun id hid => .inl (if_neg (by omega))
  have hmono : ∀ {l l' : List Value}, VRL H.next c l l' → VRL (H.push b).next (fun id => if id = H.next then some ⟨g, sh, cs.size, b.es⟩ else c id) l l' :=
    fun h => h.mono (by simp) hdom
  refine ⟨⟨fun id => ?_, fun id b' l h1 h2 => ?_, fun id id' b' l l' hne h1 hro h2 h3 => ?_, by rw [hsz]; exact hs.size⟩, ⟨by simp, hdom, Nat.le_refl _, fun id hid _ => ⟨if_neg (by omega), by rw [get_push, if_neg (by omega)], fun l hl => hoth _ (hfree id l hl)⟩, hb⟩⟩
  · rw [get_push]
    by_cases e : id = H.next
    · simp [e]
    · simp only [if_neg e]; exact hs.live id
  · rw [get_push] at h1
    by_cases e : id = H.next
    · rw [if_pos e] at h1
      simp only [if_pos e] at h2
      obtain rfl := Option.some.inj h1
      obtain rfl := Option.some.inj h2
      exact ⟨rfl, hone, cs, ty, fz, mid, hg, rfl, fun _ => ⟨hN, hfz⟩, hle, hcs, hmono hm⟩
    · rw [if_neg e] at h1
      simp only [if_neg e] at h2
      obtain ⟨cs', ty', fz', mid', k1, k2, k3, k4, k5, k6⟩ := (hs.blk id b' l h1 h2).row
      exact ⟨(hs.blk id b' l h1 h2).es, (hs.blk id b' l h1 h2).ones, cs', ty', fz', mid', (hoth _ (hfree id l h2)).trans k1, k2, k3, k4, k5, hmono k6⟩
  · rw [get_push] at h1
    by_cases e : id = H.next
    · simp only [if_pos e] at h2
      obtain rfl := Option.some.inj h2
      have e' : id' ≠ H.next := fun h => hne (by omega)
      simp only [if_neg e'] at h3
      exact fun h => hfree id' l' h3 h.symm
    · rw [if_neg e] at h1
      simp only [if_neg e] at h2
      by_cases e' : id' = H.next
      · simp only [if_pos e'] at h3
        obtain rfl := Option.some.inj h3
        exact hfree id l h2
      · simp only [if_neg e'] at h3
        exact hs.inj id id' b' l l' hne h1 hro h2 h3
/-- Cells are written behind a slice's end, and the longer slice has a number of its own. -/
theorem Sim.regrow (hs : Sim N c H w) {id off m : Nat} {b : Blk} {l : Loc} (hb : H.get id = some b) (hc : c id = some l) (hro : b.ro = false) {old new new' : List Value} (hold : ldc H ⟨id, off, none⟩ m = some old) (hnew : VRL H.next c new new') (hone : new.all one = true) (hfit : l.sh + off + m + new.length ≤ l.sz) (P : Program) :
    ∃ w' c', (storeCells ⟨l.blk, l.sh + off + m, none⟩ new').run P w = .ok () w' ∧ Sim N c' ((H.set id none).push ⟨old ++ new, b.es, false⟩) w' ∧ ExtW N c H w c' ((H.set id none).push ⟨old ++ new, b.es, false⟩) w' ∧ c' H.next = some ⟨l.blk, l.sh + off, l.sz, b.es⟩ := by
  obtain ⟨l2, old', hc2, hlen, hoo, hv, hr⟩ := hs.read hold
  simp only at hc2
  rw [hc] at hc2
  obtain rfl := Option.some.inj hc2
  obtain ⟨cs, ty, fz, mid, k1, k2, k3, k4, k5, k6⟩ := (hs.blk id b l hb hc).row
  obtain ⟨hN, hfz⟩ := k3 hro
  have hone' := hnew.one hone
  have hnl := hnew.1
  obtain ⟨w', e1, e2, e3, e4, e5, e6, e7⟩ := run_storeRow P l.blk (l.sh + off + m) ty fz new' 0 cs w k1 (by rw [k2]; exact hfz) (by omega) hone'
  obtain ⟨s1, x1⟩ := hs.kill hb
  have hsize : (splice cs.toList (l.sh + off + m + 0) new').toArray.size = l.sz := by simp [splice_length, k2]
  have hol : old'.length = m := by rw [← hv.1]; exact hlen
  have had := s1.adopt (g := l.blk) (sh := l.sh + off) (b := ⟨old ++ new, b.es, false⟩) (cs := (splice cs.toList (l.sh + off + m + 0) new').toArray) (ty := ty) (fz := fz) (w' := w') (mid := old' ++ new')
    (fun j l' hj => by
      by_cases e : j = id
      · simp [e] at hj
      · simp only [if_neg e] at hj
        exact fun h => hs.inj id j b l l' (fun h => e h.symm) hb hro hc hj h.symm)
    hN e2 (by rw [hsize]; exact hfz) e3 e4 ⟨e5, e6, e7, by omega, fun k hk => e3 k (by omega)⟩
    (by rw [List.all_append, hoo, hone]; rfl) (by rw [hsize]; simp; omega)
    (fun j hj => by
      simp only [List.length_append] at hj
      have hlc : cs.toList.length = l.sz := by simp [k2]
      simp only [List.getElem?_toArray]
      rw [splice_get _ _ _ _ (by omega), List.getD_eq_getElem?_getD]
      by_cases hjm : j < m
      · rw [if_neg (by omega), List.getElem?_append_left (by omega)]
        have := hr j old'[j] (List.getElem?_eq_getElem (by omega))
        simp only [World.cell?, k1, Option.isSome_none, Bool.false_eq_true, if_false] at this
        rw [Array.getElem?_toList, this, List.getElem?_eq_getElem (by omega)]; rfl
      · rw [if_pos (by omega), List.getElem?_append_right (by omega), show l.sh + off + j - (l.sh + off + m + 0) = j - old'.length by omega, List.getElem?_eq_getElem (by omega)]; rfl)
    ((hv.append hnew).mono (by simp) x1.dom)
  obtain ⟨s2, x2⟩ := had
  refine ⟨w', _, e1, s2, x1.trans x2, ?_⟩
  simp only [next_set, if_true]
  rw [hsize]
/-- What is appended. -/
theorem added_ok (hs : Sim N c H w) {e : TypeId} {x x' : Value} (hx : VR H.next c x x') {es k : Nat} {new : List Value} (h : added H es x = some (k, new)) {tx : TypeId} (hk : (∃ e', P.underlying tx = some (.slice e')) ∨ P.underlying tx = some .string) :
    ∃ new', Src P es tx x' k new' w ∧ VRL H.next c new new' ∧ new.all one = true ∧ new.length = k * es := by
  unfold added at h
  split at h
  · rename_i n cp
    split at h
    · rename_i h0
      subst h0
      simp only [Option.some.injEq, Prod.mk.injEq] at h
      obtain ⟨rfl, rfl⟩ := h
      rw [hx.slcN]
      rcases hk with ⟨e', hk⟩ | hk
      · exact ⟨[], Src.ofNil w hk cp, .nil, rfl, by simp⟩
      · refine ⟨[], ⟨.inr hk, fun _ => rfl, ?_, ?_, by simp, fun _ h => by cases h⟩, .nil, rfl, by simp⟩ <;> rfl
    · simp at h
  · rename_i a n cp
    split at h
    · rename_i l hl
      simp only [Option.some.injEq, Prod.mk.injEq] at h
      obtain ⟨rfl, rfl⟩ := h
      obtain ⟨lc, cs', hc, hlen, hone, hv, hr⟩ := hs.read hl
      obtain ⟨k', rfl, _, _, _⟩ := hx.slcL hc
      have hl' : cs'.length = n * es := by rw [← hv.1]; exact hlen
      have hnews : ∀ j u, cs'[j]? = some u → w.cell? ((⟨lc.blk, lc.sh + a.off, none⟩ : Addr).add j) = some u := fun j u hj => by rw [add_eq]; exact hr j u hj
      rcases hk with ⟨e', hk⟩ | hk
      · exact ⟨cs', Src.ofSlice w hk _ n k' cs' hl' hnews (hv.one hone), hv, hone, hlen⟩
      · exact ⟨cs', ⟨.inr hk, fun _ => rfl, run_firstCells_some w es n _ n k' cs' hl' hnews, run_firstCells_some w.drew es n _ n k' cs' hl' (by simpa using hnews), hl', hv.one hone⟩, hv, hone, hlen⟩
    · simp at h
  · rename_i s
    split at h
    · rename_i h1
      subst h1
      simp only [Option.some.injEq, Prod.mk.injEq] at h
      obtain ⟨rfl, rfl⟩ := h
      rw [hx.str]
      have hall1 : (byteCells s).all p1 = true := by
        rw [List.all_eq_true]
        intro x hx
        obtain ⟨b, _, rfl⟩ := List.mem_map.1 hx
        rfl
      have hlen : (byteCells s).length = s.size := Go.byteCells_length s
      have hall := p1_one hall1
      have hall' : ∀ u ∈ byteCells s, u.oneCell' = true := by
        intro x hx
        obtain ⟨b, _, rfl⟩ := List.mem_map.1 hx
        rfl
      exact ⟨_, ⟨hk, fun _ => rfl, firstCells_string s w, firstCells_string s w.drew, by rw [Nat.mul_one]; exact hlen, hall'⟩, .refl hall1, hall, by rw [hlen, Nat.mul_one]⟩
    · simp at h
  · simp at h
theorem zeros_made (z : Array Value) (n : Nat) : (Builtin.zeroCells z n).toList = (madeCells z (n * z.size)).toList := rfl
theorem zeroCells_p1 {z : Array Value} (h : z.toList.all p1 = true) (n : Nat) (hz : 0 < z.size) : (Builtin.zeroCells z n).toList.all p1 = true := by
  rw [zeros_made, made_list z n hz]; exact rep_p1 h
theorem stU_inv {H H' : AH} {a : Addr} {vs : List Value} (h : stU H a vs = some H') : ∃ b, H.get a.block = some b ∧ b.ro = false ∧ a.off + vs.length ≤ b.cells.length ∧ H' = H.set a.block (some { b with cells := splice b.cells a.off vs }) := by
  unfold stU at h
  cases hb : H.get a.block with
  | none => rw [hb] at h; simp at h
  | some b =>
    rw [hb] at h
    simp only at h
    split at h
    · rename_i hc; exact ⟨b, rfl, hc.1, hc.2, (Option.some.inj h).symm⟩
    · simp at h
/-- A row that has grown. -/
theorem grown_ok {r : Sem Value} {e : TypeId} {z : Value} {need cap0 n0 : Nat} {b : Blk} {all' : List Value} (hs : Sim N c H w) (hr : r.run P w = .ok (.slice (some ⟨w.heap.size, 0, none⟩) n0 (grownCap w n0 cap0 e)) (w.drew.alloc (.cells (all'.toArray ++ Builtin.zeroCells z.cells (grownCap w n0 cap0 e - n0)) e))) (hzs : b.es = z.cells.size) (hs0 : 0 < b.es) (hnew : VRL H.next c b.cells all') (hone : b.cells.all one = true) (hlen : b.cells.length = n0 * b.es) (hn : n0 = need) :
    Does P N c H w r (.slice (some ⟨H.next, 0, none⟩) need need) (H.push b) := by
  subst hn
  have hge := grownCap_ge w n0 cap0 e
  have hd : Sim N c H w.drew := hs.same rfl
  have hsz : (Builtin.zeroCells z.cells (grownCap w n0 cap0 e - n0)).size = (grownCap w n0 cap0 e - n0) * z.cells.size := by simp [Builtin.zeroCells]
  obtain ⟨c', h1, h2, h3⟩ := new_slice hd (b := b) (cs := all'.toArray ++ Builtin.zeroCells z.cells (grownCap w n0 cap0 e - n0)) (ty := e) (fz := (0, 0)) (rest := (Builtin.zeroCells z.cells (grownCap w n0 cap0 e - n0)).toList) (mid := all') (by simp) hnew hone (by simp) (n := n0) (k := n0) (k' := grownCap w n0 cap0 e) hge (by
    rw [Array.size_append, hsz, ← hzs, List.size_toArray, ← hnew.1, hlen, ← Nat.add_mul]
    exact Nat.mul_le_mul_right _ (by omega))
  exact ⟨_, c', _, hr, h3, h1, (ExtW.drew N c H w).trans h2⟩
/-- append. -/
theorem append_ok (hs : Sim N c H w) {t tx ty e : TypeId} {i : TypeInfo} {z : Value} (ht : P.underlying t = some (.slice e)) (hi : P.info? e = some i) (hz : i.zero = some z) (hzs : i.size = z.cells.size) (hs0 : 0 < i.size) {s s' x' : Value} (hv : VR H.next c s s') {k : Nat} {new new' : List Value} (hS : Src P i.size tx x' k new' w) (hnew : VRL H.next c new new') (hone : new.all one = true) (hlen : new.length = k * i.size) {v : Value} {H' : AH} (h : appended H i.size i.bytes s k new = some (v, H')) (hb0 : 0 < i.bytes) :
    Does P N c H w (Builtin.append_ #[t, tx] ty #[s', x']) v H' := by
  unfold appended at h
  split at h
  · rename_i n cp
    rw [hv.slcN]
    split at h
    · rename_i hcond
      obtain ⟨rfl, rfl⟩ := hcond
      split at h
      · rename_i hk0
        subst hk0
        simp only [Option.some.injEq, Prod.mk.injEq] at h
        obtain ⟨rfl, rfl⟩ := h
        have hnil : new' = [] := by
          have := hnew.1
          rw [hlen, Nat.zero_mul] at this
          exact List.eq_nil_of_length_eq_zero this.symm
        subst hnil
        exact .pure hs (run_append_nothing w t tx ty e i ht hi none 0 0 (Nat.le_refl _) x' hS) (.plain rfl)
      · split at h
        · rename_i hk0 hkb
          simp only [Option.some.injEq, Prod.mk.injEq] at h
          obtain ⟨rfl, rfl⟩ := h
          have hkp : k ≤ 140737488355328 := Nat.le_trans (Nat.le_mul_of_pos_right _ hb0) hkb
          have hr := run_append_grow_src w t tx ty e i z ht hi hz none 0 0 [] (run_firstCells_none w.drew i.size 0 0 0) x' k new' hS (by omega) (by omega) (by rw [Nat.zero_add]; exact growslice_fits (by omega) hkb)
          exact grown_ok (b := ⟨new, i.size, false⟩) (all' := new') hs (by simpa using hr) hzs hs0 hnew hone (by simpa using hlen) (by simp)
        · simp at h
    · simp at h
  · rename_i a n cp
    split at h
    · simp at h
    · rename_i b hb
      obtain ⟨l, hc, hbr⟩ := hs.at_ hb
      obtain ⟨k', rfl, ha, hk1, hk2⟩ := hv.slcL hc
      have hbl := hbr.es
      split at h
      · rename_i hcond
        obtain ⟨hes, hro⟩ := hcond
        rw [hbl, hes] at hk2
        split at h
        · -- in place
          rename_i hroom
          cases hst : stU H (addA a (n * i.size)) new with
          | none => rw [hst] at h; simp at h
          | some H2 =>
            rw [hst] at h
            simp only [Option.some.injEq, Prod.mk.injEq] at h
            obtain ⟨rfl, rfl⟩ := h
            obtain ⟨b2, hb2, hro2, hle2, rfl⟩ := stU_inv hst
            have hb2' : H.get a.block = some b2 := hb2
            rw [hb] at hb2'
            obtain rfl := Option.some.inj hb2'
            obtain ⟨w', e1, e2, e3⟩ := hs.store (off := a.off + n * i.size) hb hc hro hnew hle2 hone P
            refine ⟨.slice (some ⟨l.blk, l.sh + a.off, none⟩) (n + k) k', c, w', ?_, ?_, e2, e3⟩
            · rw [← Nat.add_assoc] at e1
              rcases hS.kind with ⟨e', hk⟩ | hk <;> simp [Builtin.append_, run_underlying ht, run_underlying hk, sizeOf, typeInfo, hi, hS.len, show n + k ≤ k' by omega, hS.cells, add_eq, e1]
            · exact VR.slice (by simp; exact ha) hc (hv.slcSpot hc) (by omega) (by rw [hbl, hes]; exact hk2)
        · rename_i hroom
          cases hld : ldc H a (n * i.size) with
          | none => rw [hld] at h; simp at h
          | some old =>
            rw [hld] at h
            simp only at h
            split at h
            · rename_i hkb
              simp only [Option.some.injEq, Prod.mk.injEq] at h
              obtain ⟨rfl, rfl⟩ := h
              have hspot := hv.slcSpot hc
              by_cases hfit : n + k ≤ k'
              · -- there is room all the same
                obtain ⟨w', c', e1, e2, e3, e4⟩ := hs.regrow (off := a.off) (m := n * i.size) hb hc hro (old := old) (by rw [← hld]; congr 1; cases a; simp_all) hnew hone (by rw [hlen]; have : (n + k) * i.size ≤ k' * i.size := Nat.mul_le_mul_right _ hfit; rw [Nat.add_mul] at this; omega) P
                refine ⟨.slice (some ⟨l.blk, l.sh + a.off, none⟩) (n + k) k', c', w', ?_, ?_, by rw [hes] at e2; exact e2, by rw [hes] at e3; exact e3⟩
                · rcases hS.kind with ⟨e', hk⟩ | hk <;> simp [Builtin.append_, run_underlying ht, run_underlying hk, sizeOf, typeInfo, hi, hS.len, hfit, hS.cells, add_eq, e1]
                · exact VR.slice (a := ⟨H.next, 0, none⟩) (l := ⟨l.blk, l.sh + a.off, l.sz, b.es⟩) (by simp) e4 rfl hfit (by simp only [Nat.add_zero]; rw [hes]; exact hk2)
              · obtain ⟨l2, old', hc2, hol, hoo, hov, hor⟩ := hs.read hld
                rw [hc] at hc2
                obtain rfl := Option.some.inj hc2
                have hol' : old'.length = n * i.size := by rw [← hov.1]; exact hol
                have hold : (Builtin.firstCells i.size n (.slice (some ⟨l.blk, l.sh + a.off, none⟩) n k')).run P w.drew = .ok old'.toArray w.drew :=
                  run_firstCells_some w.drew i.size n _ n k' old' hol' (fun j u hj => by rw [add_eq]; simpa using hor j u hj)
                have hkp : n + k ≤ 140737488355328 := Nat.le_trans (Nat.le_mul_of_pos_right _ hb0) hkb
                have hr := run_append_grow_src w t tx ty e i z ht hi hz (some ⟨l.blk, l.sh + a.off, none⟩) n k' old' hold x' k new' hS (by omega) (by omega) (growslice_fits (by omega) hkb)
                obtain ⟨s1, x1⟩ := hs.kill hb
                obtain ⟨v2, c2, w2, g1, g2, g3, g4⟩ := grown_ok (H := H.set a.block none) (b := ⟨old ++ new, i.size, false⟩) s1 hr hzs hs0 ((hov.append hnew).mono (by simp) x1.dom) (by rw [List.all_append, hoo, hone]; rfl) (by rw [List.length_append, hol, hlen, Nat.add_mul]) rfl
                exact ⟨v2, c2, w2, g1, by simpa using g2, g3, x1.trans g4⟩
            · simp at h
      · split at h
        · rename_i hcond
          obtain ⟨rfl, hle⟩ := hcond
          simp only [Option.some.injEq, Prod.mk.injEq] at h
          obtain ⟨rfl, rfl⟩ := h
          have hnil : new' = [] := by
            have := hnew.1
            rw [hlen, Nat.zero_mul] at this
            exact List.eq_nil_of_length_eq_zero this.symm
          subst hnil
          exact .pure hs (run_append_nothing w t tx ty e i ht hi _ n k' (by omega) x' hS) hv
        · simp at h
  · simp at h
end
end Go.Proofs.Ytidpkoaomfbljaa.AM
