/- Functions: what the abstract machine computes is what a call does. -/
import Derived.Test.YtidpkoaomfbljaaAmM
namespace Go.Proofs.Ytidpkoaomfbljaa.AM
open Go Go.RowKit
set_option linter.all false
section
variable {P : Program} {N : Nat}

/-! ### Back from a call -/
theorem VR.cut {n m : Nat} {c c' : CMap} (h : ∀ id, id < n → c' id = c id) {v v' : Value} (hv : VR n c v v') (hm : n ≤ m) : VR m c' v v' := hv.mono hm fun id hid => .inl (h id hid)
def cutC (c : CMap) (n : Nat) : CMap := fun id => if id < n then c id else none
theorem Sim.cut {c c1 : CMap} {H H1 : AH} {w w1 : World} (hs : Sim N c H w) (hx : ExtW N c H.enter w c1 H1 w1) (hs1 : Sim N c1 H1 w1) (hl : ¬ H1.low < H.next) :
    Sim N (cutC c H.next) H w1 ∧ (∀ id, id < H.next → c1 id = c id) ∧ (∀ id b l, H.get id = some b → c id = some l → w1.heap[l.blk]? = w.heap[l.blk]?) := by
  have hsame : ∀ id, id < H.next → c1 id = c id ∧ H1.get id = H.get id ∧ ∀ l, c id = some l → w1.heap[l.blk]? = w.heap[l.blk]? := fun id hid => hx.same id hid (by have : H.enter.next = H.next := rfl; omega)
  have hcc : ∀ id, id < H.next → cutC c H.next id = c id := fun id hid => if_pos hid
  have hlt : ∀ {id l}, cutC c H.next id = some l → id < H.next ∧ c id = some l := fun {id l} h => by
    unfold cutC at h
    split at h
    · rename_i h1; exact ⟨h1, h⟩
    · simp at h
  refine ⟨⟨fun id => ?_, fun id b l hb hc => ?_, fun id id' b l l' hne hb hro hc hc' => ?_, hs1.size⟩, fun id hid => (hsame id hid).1, fun id b l hb hc => (hsame id (AH.get_lt hb)).2.2 l hc⟩
  · rcases Nat.lt_or_ge id H.next with h | h
    · rw [hcc id h]; exact hs.live id
    · have : H.get id = none := by
        unfold AH.get; rw [List.getElem?_eq_none h]; rfl
      rw [this]; unfold cutC; rw [if_neg (by omega)]; rfl
  · obtain ⟨h1, h2⟩ := hlt hc
    have hr := hs.blk id b l hb h2
    obtain ⟨cs, ty, fz, mid, k1, k2, k3, k4, k5, k6⟩ := hr.row
    refine ⟨hr.es, hr.ones, cs, ty, fz, mid, ?_, k2, k3, k4, k5, ⟨k6.1, fun j hj => (k6.2 j hj).cut hcc (Nat.le_refl _)⟩⟩
    rw [(hsame id h1).2.2 l h2]; exact k1
  · obtain ⟨h1, h2⟩ := hlt hc
    obtain ⟨h3, h4⟩ := hlt hc'
    exact hs.inj id id' b l l' hne hb hro h2 h4
def addC (c : CMap) (n : Nat) (x : Option Loc) : CMap := fun id => if id = n then x else c id
theorem addC_eq {c : CMap} {n : Nat} {x : Option Loc} : addC c n x n = x := if_pos rfl
theorem addC_ne {c : CMap} {n id : Nat} {x : Option Loc} (h : id ≠ n) : addC c n x id = c id := if_neg h
theorem moveV_ok {c c1 : CMap} {H H1 : AH} {w w1 : World} (hs : Sim N c H w) (hx : ExtW N c H.enter w c1 H1 w1) (hs1 : Sim N c1 H1 w1) (hl : ¬ H1.low < H.next) {v v' u : Value} {bs : List (Option Blk)} (hv : VR H1.next c1 v v') (hm : moveV H H1 H.next v = some (u, bs)) :
    ∃ c', Sim N c' { H with blks := H.blks ++ bs } w1 ∧ VR (H.next + bs.length) c' u v' ∧ (∀ id, id < H.next → c' id = c id) := by
  obtain ⟨s1, e1, e2⟩ := hs.cut hx hs1 hl
  have base : (∃ c', Sim N c' { H with blks := H.blks ++ ([] : List (Option Blk)) } w1 ∧ (∀ id, id < H.next → c' id = c id) ∧ c' = cutC c H.next) := ⟨_, by rw [List.append_nil]; exact s1, fun id hid => if_pos hid, rfl⟩
  have key : ∀ (a : Addr) (b : Blk), ¬ a.block < H.next → H1.get a.block = some b → b.cells.all p1 = true → ∃ c', Sim N c' (H.push b) w1 ∧ c' H.next = c1 a.block ∧ (∀ id, id < H.next → c' id = c id) := by
    intro a b hge hb hp
    have hcut : ∀ id, id < H.next → cutC c H.next id = c id := fun id hid => if_pos hid
    obtain ⟨la, hca, hra⟩ := hs1.at_ hb
    refine ⟨addC (cutC c H.next) H.next (c1 a.block), ⟨fun id => ?_, fun id b2 l hb2 hc => ?_, fun id id' b2 l l' hne hb2 hro hc hc' => ?_, hs1.size⟩, addC_eq, fun id hid => by rw [addC_ne (by omega)]; exact hcut id hid⟩
    · by_cases h : id = H.next
      · subst h; rw [AH.get_push_eq, addC_eq, hca]; rfl
      · rw [addC_ne h]
        rcases Nat.lt_or_ge id H.next with h' | h'
        · rw [AH.get_push_lt _ _ h']; exact s1.live id
        · have : (H.push b).get id = none := by
            unfold AH.get; rw [List.getElem?_eq_none (by have := AH.next_push H b; unfold AH.next at this h' h; omega)]; rfl
          rw [this]; unfold cutC; rw [if_neg (by omega)]; rfl
    · by_cases h : id = H.next
      · subst h
        rw [AH.get_push_eq] at hb2
        obtain rfl := Option.some.inj hb2
        rw [addC_eq, hca] at hc
        obtain rfl := Option.some.inj hc
        obtain ⟨cs, ty, fz, mid, k1, k2, k3, k4, k5, k6⟩ := hra.row
        refine ⟨hra.es, hra.ones, cs, ty, fz, mid, k1, k2, k3, k4, k5, ?_⟩
        rw [k6.eq1 hp]
        exact .refl hp
      · rw [addC_ne h] at hc
        have hid : id < H.next := by
          unfold cutC at hc; split at hc
          · assumption
          · simp at hc
        rw [AH.get_push_lt _ _ hid] at hb2
        have hr := s1.blk id b2 l hb2 hc
        obtain ⟨cs, ty, fz, mid, k1, k2, k3, k4, k5, k6⟩ := hr.row
        refine ⟨hr.es, hr.ones, cs, ty, fz, mid, k1, k2, k3, k4, k5, ⟨k6.1, fun j hj => (k6.2 j hj).cut (fun id hid => addC_ne (by omega)) (by rw [AH.next_push]; omega)⟩⟩
    · by_cases h : id = H.next
      · subst h
        rw [AH.get_push_eq] at hb2
        obtain rfl := Option.some.inj hb2
        rw [addC_eq] at hc
        rw [addC_ne (Ne.symm hne)] at hc'
        have hid : id' < H.next := by
          unfold cutC at hc'; split at hc'
          · assumption
          · simp at hc'
        rw [hcut id' hid, ← e1 id' hid] at hc'
        exact hs1.inj a.block id' b l l' (by omega) hb hro hc hc'
      · rw [addC_ne h] at hc
        have hid : id < H.next := by
          unfold cutC at hc; split at hc
          · assumption
          · simp at hc
        rw [AH.get_push_lt _ _ hid] at hb2
        by_cases h2 : id' = H.next
        · subst h2
          rw [addC_eq] at hc'
          rw [hcut id hid, ← e1 id hid] at hc
          have hb1 : H1.get id = some b2 := by
            rw [(hx.same id hid (by have : H.enter.next = H.next := rfl; omega)).2.1]; exact hb2
          exact hs1.inj id a.block b2 l l' (by omega) hb1 hro hc hc'
        · rw [addC_ne h2] at hc'
          exact s1.inj id id' b2 l l' hne hb2 hro hc hc'
  have cutv : ∀ {n : Nat} {u u' : Value}, (∀ id, id < n → id < H.next) → VR H1.next c1 u u' → True := fun _ _ => trivial
  unfold moveV at hm
  split at hm
  · rename_i a n k
    split at hm
    · rename_i hlt
      simp only [Option.some.injEq, Prod.mk.injEq] at hm
      obtain ⟨rfl, rfl⟩ := hm
      refine ⟨cutC c H.next, by rw [List.append_nil]; exact s1, ?_, fun id hid => if_pos hid⟩
      cases hv with
      | plain h => simp [p1] at h
      | slice h1 h2 h3 h4 h5 => exact .slice (by simpa using hlt) (by unfold cutC; rw [if_pos hlt, ← e1 _ hlt]; exact h2) h3 h4 h5
      | sliceDead h1 h2 => exact .sliceDead (by simpa using hlt) (by unfold cutC; rw [if_pos hlt, ← e1 _ hlt]; exact h2)
    · rename_i hge
      split at hm
      · rename_i b hb
        split at hm
        · rename_i hp
          simp only [Option.some.injEq, Prod.mk.injEq] at hm
          obtain ⟨rfl, rfl⟩ := hm
          obtain ⟨c', k1, k2, k3⟩ := key a b hge hb hp
          obtain ⟨la, hca, hra⟩ := hs1.at_ hb
          refine ⟨c', k1, ?_, k3⟩
          cases hv with
          | plain h => simp [p1] at h
          | slice h1 h2 h3 h4 h5 => exact VR.slice (a := ⟨H.next, a.off, none⟩) (by simp) (by rw [k2]; exact h2) rfl h4 h5
          | sliceDead h1 h2 => rw [hca] at h2; simp at h2
        · simp at hm
      · simp at hm
  · rename_i a
    split at hm
    · rename_i hlt
      simp only [Option.some.injEq, Prod.mk.injEq] at hm
      obtain ⟨rfl, rfl⟩ := hm
      refine ⟨cutC c H.next, by rw [List.append_nil]; exact s1, ?_, fun id hid => if_pos hid⟩
      cases hv with
      | plain h => simp [p1] at h
      | ptr h1 h2 h3 => exact .ptr (by simpa using hlt) (by unfold cutC; rw [if_pos hlt, ← e1 _ hlt]; exact h2) h3
      | ptrDead h1 h2 => exact .ptrDead (by simpa using hlt) (by unfold cutC; rw [if_pos hlt, ← e1 _ hlt]; exact h2)
    · rename_i hge
      split at hm
      · rename_i b hb
        split at hm
        · rename_i hp
          simp only [Option.some.injEq, Prod.mk.injEq] at hm
          obtain ⟨rfl, rfl⟩ := hm
          obtain ⟨c', k1, k2, k3⟩ := key a b hge hb hp
          obtain ⟨la, hca, hra⟩ := hs1.at_ hb
          refine ⟨c', k1, ?_, k3⟩
          cases hv with
          | plain h => simp [p1] at h
          | ptr h1 h2 h3 => exact VR.ptr (a := ⟨H.next, a.off, none⟩) (by simp) (by rw [k2]; exact h2) rfl
          | ptrDead h1 h2 => rw [hca] at h2; simp at h2
        · simp at hm
      · simp at hm
  · split at hm
    · rename_i hp
      simp only [Option.some.injEq, Prod.mk.injEq] at hm
      obtain ⟨rfl, rfl⟩ := hm
      refine ⟨cutC c H.next, by rw [List.append_nil]; exact s1, ?_, fun id hid => if_pos hid⟩
      rw [hv.eq2 hp]
      exact .of2 hp
    · simp at hm
theorem back_ok {c c1 : CMap} {H H1 : AH} {w w1 : World} (hs : Sim N c H w) (hx : ExtW N c H.enter w c1 H1 w1) (hs1 : Sim N c1 H1 w1) {v v' : Value} (hv : VR H1.next c1 v v') {u : Value} {H' : AH} (hb : back H H1 v = (u, H')) :
    ∃ c', VR H'.next c' u v' ∧ Sim N c' H' w1 ∧ ExtW N c H w c' H' w1 := by
  have nx : H.next ≤ H1.next := hx.nx
  have keep : ¬ H1.low < H.next → (v, ({ H1 with low := H.low } : AH)) = (u, H') → ∃ c', VR H'.next c' u v' ∧ Sim N c' H' w1 ∧ ExtW N c H w c' H' w1 := fun hl h => by
    simp only [Prod.mk.injEq] at h
    obtain ⟨rfl, rfl⟩ := h
    exact ⟨c1, hv, hs1.low, ⟨nx, hx.dom, Nat.le_refl _, fun id h1 h2 => hx.same id h1 (by have : H.enter.next = H.next := rfl; omega), hx.below⟩⟩
  have moved : ∀ {bs : List (Option Blk)} {c' : CMap} {u v' : Value}, ¬ H1.low < H.next → Sim N c' { H with blks := H.blks ++ bs } w1 → VR (H.next + bs.length) c' u v' → (∀ id, id < H.next → c' id = c id) → VR ({ H with blks := H.blks ++ bs } : AH).next c' u v' ∧ Sim N c' { H with blks := H.blks ++ bs } w1 ∧ ExtW N c H w c' { H with blks := H.blks ++ bs } w1 := fun {bs c' u v'} hl k1 k2 k3 => by
    have hn : ({ H with blks := H.blks ++ bs } : AH).next = H.next + bs.length := by simp [AH.next]
    refine ⟨by rw [hn]; exact k2, k1, ⟨by rw [hn]; omega, fun id hid => .inl (k3 id hid), Nat.le_refl _, fun id h1 h2 => ⟨k3 id h1, ?_, (hx.same id h1 (by have : H.enter.next = H.next := rfl; omega)).2.2⟩, hx.below⟩⟩
    simp only [AH.get, AH.next] at h1 ⊢
    rw [List.getElem?_append_left h1]
  unfold back at hb
  split at hb
  · rename_i hl
    simp only [Prod.mk.injEq] at hb
    obtain ⟨rfl, rfl⟩ := hb
    exact ⟨c1, hv, hs1.low, ⟨nx, hx.dom, Nat.min_le_left _ _, fun id h1 h2 => hx.same id h1 (by simp only at h2; omega), hx.below⟩⟩
  · rename_i hl
    split at hb
    · rename_i hp
      simp only [Prod.mk.injEq] at hb
      obtain ⟨rfl, rfl⟩ := hb
      obtain ⟨s1, e1, e2⟩ := hs.cut hx hs1 hl
      refine ⟨_, by rw [hv.eq3 hp]; exact .of3 hp, s1, ⟨Nat.le_refl _, fun id hid => .inl (if_pos hid), Nat.le_refl _, fun id h1 h2 => ⟨if_pos h1, rfl, (hx.same id h1 (by have : H.enter.next = H.next := rfl; omega)).2.2⟩, hx.below⟩⟩
    · split at hb
      · rename_i vs
        split at hb
        · rename_i x y hvs
          split at hb
          · rename_i x' bs hmv
            split at hb
            · rename_i hy
              simp only [Prod.mk.injEq] at hb
              obtain ⟨rfl, rfl⟩ := hb
              obtain ⟨vs', e1, e2⟩ := VRL.of_tuple hv
              rw [hvs] at e2
              obtain ⟨x2, l2, e3, hx2, hl2⟩ := e2.uncons
              obtain ⟨y2, l3, e4, hy2, hl3⟩ := hl2.uncons
              have := hl3.nil_inv
              subst this
              subst e4
              obtain ⟨c', k1, k2, k3⟩ := moveV_ok hs hx hs1 hl hx2 hmv
              have hy3 : VR (H.next + bs.length) c' y y2 := by rw [hy2.eq2 hy]; exact .of2 hy
              have htup : VR (H.next + bs.length) c' (.tuple #[x', y]) v' := by
                have : vs' = #[x2, y2] := by rw [← Array.toList_inj, e3]
                rw [e1, this]
                exact (VRL.cons k2 (.cons hy3 .nil)).tuple
              exact ⟨c', moved hl k1 htup k3⟩
            · exact keep hl hb
          · exact keep hl hb
        · exact keep hl hb
      · split at hb
        · rename_i hmv
          simp only [Prod.mk.injEq] at hb
          obtain ⟨rfl, rfl⟩ := hb
          obtain ⟨c', k1, k2, k3⟩ := moveV_ok hs hx hs1 hl hv hmv
          exact ⟨c', moved hl k1 k2 k3⟩
        · exact keep hl hb

/-! ### Results -/
theorem resV_ok {ntm : Nat} {c : CMap} {f : Fr} {H : AH} {a : Act} {w : World} (hr : Rel N ntm c f H a w) {r : ResultVar} {m : MRes} (hm : compRes P r = some m) {v : Value} (he : resV f H m = some v) :
    ∃ v', (match r with | .tmp t => (Pure.pure (a.tmps.getD t Go.undef) : Sem Value) | .cell x t => (do loadVar t (← asAddr (a.tmps.getD x Go.undef)))).run P w = .ok v' w ∧ VR H.next c v v' := by
  unfold compRes at hm
  split at hm
  · simp only [Option.some.injEq] at hm
    subst hm
    simp only [resV, Option.some.injEq] at he
    subst he
    exact ⟨_, by simp, hr.tmps _⟩
  · rename_i x t
    split at hm
    · rename_i d i hu hi
      have key : ∀ agg n, m = .cell x agg n → ((isAggT d = true ∧ agg = true ∧ n = i.size) ∨ (isAggT d = false ∧ agg = false ∧ n = 1)) → ∃ v', (do loadVar t (← asAddr (a.tmps.getD x Go.undef)) : Sem Value).run P w = .ok v' w ∧ VR H.next c v v' := fun agg n hmm hagg => by
        subst hmm
        simp only [resV] at he
        split at he
        · rename_i p hp
          have hx := hr.tmps x
          rw [hp] at hx
          split at he
          · rename_i cs hl
            obtain ⟨l, cs', hc, _⟩ := hr.sim.read hl
            obtain ⟨e1, _⟩ := hx.ptrL hc
            obtain ⟨v2, j1, j2⟩ := load_ok' (P := P) hr.sim hu hi hx hagg hl he
            rw [e1] at j1 ⊢
            exact ⟨v2, by simpa [Instr.loadAt, Instr.sureAddr, asAddr] using j1, j2⟩
          · simp at he
        · simp at he
      split at hm
      · rename_i hg; exact key _ _ (Option.some.inj hm).symm (.inl ⟨hg, rfl, rfl⟩)
      · rename_i hg; exact key _ _ (Option.some.inj hm).symm (.inr ⟨by simpa using hg, rfl, rfl⟩)
    · simp at hm
end
end Go.Proofs.Ytidpkoaomfbljaa.AM
