/- All operations that are no calls. -/
import Derived.Test.YtidpkoaomfbljaaAmI
namespace Go.Proofs.Ytidpkoaomfbljaa.AM
open Go Go.RowKit
set_option linter.all false
section
variable {P : Program} {N : Nat} {c : CMap} {H : AH} {w : World} {f : Fr} {ρ : Operand → Value}

def DoesN (P : Program) (N : Nat) (c : CMap) (H : AH) (w : World) (r : Sem Next) (v : Value) (H' : AH) : Prop :=
  ∃ nx v' c' w', r.run P w = .ok nx w' ∧ (nx = .value v' ∨ (nx = .skip ∧ v' = Go.undef)) ∧ VR H'.next c' v v' ∧ Sim N c' H' w' ∧ ExtW N c H w c' H' w'
theorem Does.val {r : Sem Value} {v : Value} {H' : AH} (h : Does P N c H w r v H') : DoesN P N c H w (do Pure.pure (Next.value (← r))) v H' := by
  obtain ⟨v', c', w', h1, h2, h3, h4⟩ := h
  exact ⟨.value v', v', c', w', by simp [h1], .inl rfl, h2, h3, h4⟩
theorem Does.run1 (hs : Sim N c H w) {r : Sem Value} {v : Value} (h : r.run P w = .ok v w ∧ p1 v = true) : Does P N c H w r v H := .pure hs h.1 (.plain h.2)
theorem VR.addA {n : Nat} {c : CMap} {a : Addr} {v' : Value} (h : VR n c (.pointer (some a)) v') (k : Nat) : ∃ a', v' = .pointer (some a') ∧ VR n c (.pointer (some (addA a k))) (.pointer (some (a'.add k))) := by
  cases h with
  | plain h => simp [p1] at h
  | ptr h1 h2 h3 => exact ⟨_, rfl, by rw [add_eq, Nat.add_assoc]; exact VR.ptr (a := AM.addA a k) h1 h2 rfl⟩
  | ptrDead h1 h2 => exact ⟨_, rfl, .ptrDead h1 h2⟩
theorem VR.slcA {n : Nat} {c : CMap} {a : Addr} {m k : Nat} {v' : Value} (h : VR n c (.slice (some a) m k) v') (j : Nat) : ∃ a' k', v' = .slice (some a') m k' ∧ VR n c (.pointer (some (AM.addA a j))) (.pointer (some (a'.add j))) := by
  cases h with
  | plain h => simp [p1] at h
  | slice h1 h2 h3 h4 h5 => exact ⟨_, _, rfl, by rw [add_eq, Nat.add_assoc]; exact VR.ptr (a := AM.addA a j) h1 h2 rfl⟩
  | sliceDead h1 h2 => exact ⟨_, _, rfl, .ptrDead h1 h2⟩
theorem VR.slcP {n : Nat} {c : CMap} {a : Addr} {m k : Nat} {v' : Value} (h : VR n c (.slice (some a) m k) v') : ∃ a' k', v' = .slice (some a') m k' ∧ VR n c (.pointer (some a)) (.pointer (some a')) := by
  cases h with
  | plain h => simp [p1] at h
  | slice h1 h2 h3 h4 h5 => exact ⟨_, _, rfl, .ptr h1 h2 h3⟩
  | sliceDead h1 h2 => exact ⟨_, _, rfl, .ptrDead h1 h2⟩
theorem opd_map {x : Option Operand} (h : ∀ o ∈ x.toArray.toList, opdOk o = true) (hE : ∀ o, opdOk o = true → VR H.next c (ev f o) (ρ o)) : ∀ o, x = some o → VR H.next c (ev f o) (ρ o) := by
  intro o e
  subst e
  exact hE o (h o (by simp))

theorem arr1 {α : Type} {xs : Array α} {x : α} (h : xs.toList = [x]) : xs = #[x] := by rw [← Array.toList_inj, h]
theorem arr2 {α : Type} {xs : Array α} {x y : α} (h : xs.toList = [x, y]) : xs = #[x, y] := by rw [← Array.toList_inj, h]
theorem builtin_ok (hs : Sim N c H w) (hE : ∀ x, opdOk x = true → VR H.next c (ev f x) (ρ x)) {b : Builtin} {ts : Array TypeId} {xs : Array Operand} {ty : TypeId} {cs : Array Bool} {m : MI} (hc : compBuiltin P b ts.toList xs.toList = some m) (ho : ∀ x ∈ xs.toList, opdOk x = true) {v : Value} {H' : AH} (he : evM m f H = some (v, H')) :
    DoesN P N c H w (builtin b ts ty cs (xs.map ρ)) v H' := by
  unfold compBuiltin at hc
  split at hc
  · -- len
    rename_i t x e1 e2
    have hx := hE x (ho x (by rw [e2]; simp))
    obtain rfl := arr1 e1
    obtain rfl := arr1 e2
    refine Does.val (r := Builtin.len_ #[t] ty (#[x].map ρ)) ?_
    split at hc
    · rename_i hu
      obtain rfl := Option.some.inj hc
      simp only [evM] at he
      split at he
      · rename_i s hv
        rw [hv] at hx
        simp only [Option.some.injEq, Prod.mk.injEq] at he
        obtain ⟨rfl, rfl⟩ := he
        exact .pure hs (by simp [Builtin.len_, run_underlying hu, hx.str, goInt]) (.plain rfl)
      · simp at he
    · rename_i e hu
      obtain rfl := Option.some.inj hc
      simp only [evM] at he
      split at he
      · rename_i a n cp hv
        rw [hv] at hx
        obtain ⟨a', k', e3, _⟩ := hx.slcI
        simp only [Option.some.injEq, Prod.mk.injEq] at he
        obtain ⟨rfl, rfl⟩ := he
        exact .pure hs (by simp [Builtin.len_, run_underlying hu, e3, goInt]) (.plain rfl)
      · simp at he
    · rename_i n e hu
      obtain rfl := Option.some.inj hc
      simp only [evM, Option.some.injEq, Prod.mk.injEq] at he
      obtain ⟨rfl, rfl⟩ := he
      exact .pure hs (by simp [Builtin.len_, run_underlying hu, goInt]) (.plain rfl)
    · rename_i e hu
      split at hc
      · rename_i n e2 hu2
        obtain rfl := Option.some.inj hc
        simp only [evM, Option.some.injEq, Prod.mk.injEq] at he
        obtain ⟨rfl, rfl⟩ := he
        exact .pure hs (by simp [Builtin.len_, run_underlying hu, run_underlying hu2, goInt]) (.plain rfl)
      · simp at hc
    · simp at hc
  · -- cap
    rename_i t x e1 e2
    have hx := hE x (ho x (by rw [e2]; simp))
    obtain rfl := arr1 e1
    obtain rfl := arr1 e2
    refine Does.val (r := Builtin.cap_ #[t] ty (#[x].map ρ)) ?_
    split at hc
    · rename_i e hu
      obtain rfl := Option.some.inj hc
      simp only [evM] at he
      split at he
      · rename_i n cp hv
        rw [hv] at hx
        simp only [Option.some.injEq, Prod.mk.injEq] at he
        obtain ⟨rfl, rfl⟩ := he
        exact .pure hs (by simp [Builtin.cap_, run_underlying hu, hx.slcN, goInt]) (.plain rfl)
      · simp at he
    · simp at hc
  · -- min
    rename_i x xs' e2
    obtain rfl := Option.some.inj hc
    have hx := hE x (ho x (by rw [e2]; simp))
    have hl : VRL H.next c (xs'.map (ev f)) (xs'.map ρ) := VRL.map xs' fun y hy => hE y (ho y (by rw [e2]; simp [hy]))
    refine Does.val (r := Builtin.min_ ts ty (xs.map ρ)) ?_
    simp only [evM] at he
    split at he
    · rename_i u hq
      simp only [Option.some.injEq, Prod.mk.injEq] at he
      obtain ⟨rfl, rfl⟩ := he
      obtain ⟨v', r1, r2⟩ := run_fold (P := P) (w := w) (s := Builtin.min2) (fun x y x' y' v hx hy h => run_min hx hy h) _ _ _ _ _ hx hl hq
      exact .pure hs (v' := v') (by simp [Builtin.min_, e2, r1]) r2
    · simp at he
  · -- max
    rename_i x xs' e2
    obtain rfl := Option.some.inj hc
    have hx := hE x (ho x (by rw [e2]; simp))
    have hl : VRL H.next c (xs'.map (ev f)) (xs'.map ρ) := VRL.map xs' fun y hy => hE y (ho y (by rw [e2]; simp [hy]))
    refine Does.val (r := Builtin.max_ ts ty (xs.map ρ)) ?_
    simp only [evM] at he
    split at he
    · rename_i u hq
      simp only [Option.some.injEq, Prod.mk.injEq] at he
      obtain ⟨rfl, rfl⟩ := he
      obtain ⟨v', r1, r2⟩ := run_fold (P := P) (w := w) (s := Builtin.max2) (fun x y x' y' v hx hy h => run_max hx hy h) _ _ _ _ _ hx hl hq
      exact .pure hs (v' := v') (by simp [Builtin.max_, e2, r1]) r2
    · simp at he
  · -- append
    rename_i t u s x e1 e2
    obtain rfl := arr2 e1
    obtain rfl := arr2 e2
    have hs' := hE s (ho s (by simp))
    have hx := hE x (ho x (by simp))
    refine Does.val (r := Builtin.append_ #[t, u] ty (#[s, x].map ρ)) ?_
    rw [show (#[s, x].map ρ) = #[ρ s, ρ x] from by simp]
    split at hc
    · rename_i e hu
      split at hc
      · rename_i ei hi
        split at hc
        · simp at hc
        · rename_i hsz
          split at hc
          · rename_i e' hku
            split at hc
            · rename_i z hz
              split at hc
              · rename_i hzs
                obtain rfl := Option.some.inj hc
                simp only [evM] at he
                split at he
                · rename_i k new hadd
                  obtain ⟨new', g1, g2, g3, g4⟩ := added_ok (P := P) (tx := u) (e := e) hs hx hadd (.inl ⟨e', hku⟩)
                  exact append_ok hs hu hi hz hzs (by omega) hs' g1 g2 g3 g4 he (by omega)
                · simp at he
              · simp at hc
            · simp at hc
          · rename_i hku
            split at hc
            · rename_i z hz
              split at hc
              · rename_i hzs
                obtain rfl := Option.some.inj hc
                simp only [evM] at he
                split at he
                · rename_i k new hadd
                  obtain ⟨new', g1, g2, g3, g4⟩ := added_ok (P := P) (tx := u) (e := e) hs hx hadd (.inr hku)
                  exact append_ok hs hu hi hz hzs (by omega) hs' g1 g2 g3 g4 he (by omega)
                · simp at he
              · simp at hc
            · simp at hc
          · simp at hc
      · simp at hc
    · simp at hc
  · -- copy
    rename_i t u d s e1 e2
    obtain rfl := arr2 e1
    obtain rfl := arr2 e2
    have hd := hE d (ho d (by simp))
    have hx := hE s (ho s (by simp))
    refine Does.val (r := Builtin.copy_ #[t, u] ty (#[d, s].map ρ)) ?_
    rw [show (#[d, s].map ρ) = #[ρ d, ρ s] from by simp]
    split at hc
    · rename_i e hu
      split at hc
      · rename_i ei hi
        obtain rfl := Option.some.inj hc
        simp only [evM] at he
        split at he
        · rename_i a n cp k hdv hk
          split at he
          · rename_i new hnew
            split at he
            · rename_i H2 hst
              simp only [Option.some.injEq, Prod.mk.injEq] at he
              obtain ⟨rfl, rfl⟩ := he
              rw [hdv] at hd
              exact copy_ok hs hu hi hd hx hk hnew hst
            · simp at he
          · simp at he
        · simp at he
      · simp at hc
    · simp at hc
  · simp at hc
theorem run_places : ∀ (fs : List Field), (∀ f ∈ fs, (P.info? f.type).isSome = true) → (fs.mapM (fun f => (do Pure.pure (f.offset, ← sizeOf f.type) : Sem (Nat × Nat)))).run P w = .ok (fs.map fun f => (f.offset, P.cellsOf f.type)) w
  | [], _ => by simp
  | f :: fs, h => by
    obtain ⟨i, hi⟩ := Option.isSome_iff_exists.1 (h f (by simp))
    have ih := run_places fs (fun g hg => h g (by simp [hg]))
    have e : P.cellsOf f.type = i.size := by simp [Program.cellsOf, hi]
    rw [List.mapM_cons]
    simp only [Sem.run_bind, run_sizeOf hi, Result.andThen_ok, Sem.run_pure, ih, List.map_cons, e]
theorem run_placesA (fs : Array Field) (h : fs.toList.all (fun f => (P.info? f.type).isSome) = true) : (fs.mapM (fun f => (do Pure.pure (f.offset, ← sizeOf f.type) : Sem (Nat × Nat)))).run P w = .ok (fs.toList.map fun f => (f.offset, P.cellsOf f.type)).toArray w := by
  rw [Array.mapM_eq_mapM_toList, Sem.run_map, run_places (P := P) (w := w) fs.toList (List.all_eq_true.1 h)]
  rfl
theorem all_ops {o : Op} (ho : o.operands.toList.all opdOk = true) {x : Operand} (hx : x ∈ o.operands.toList) : opdOk x = true := List.all_eq_true.1 ho x hx
theorem op_ok (hs : Sim N c H w) (hE : ∀ x, opdOk x = true → VR H.next c (ev f x) (ρ x)) {o : Oper} {m : MI} (hc : compOp P o = some m) (ho : o.op.operands.toList.all opdOk = true) (hm : ∀ p g a, m ≠ .call p g a) {v : Value} {H' : AH} (he : evM m f H = some (v, H')) : DoesN P N c H w (execOp ρ o) v H' := by
  unfold compOp at hc
  split at hc
  · -- move
    rename_i x hop
    obtain rfl := Option.some.inj hc
    simp only [evM, Option.some.injEq, Prod.mk.injEq] at he
    obtain ⟨rfl, rfl⟩ := he
    rw [hop] at ho
    have hx := hE x (all_ops ho (by simp [Op.operands]))
    exact ⟨_, _, c, w, by simp [execOp, hop], .inl rfl, hx, hs, .refl _ _ _ _⟩
  · rename_i x hop
    obtain rfl := Option.some.inj hc
    simp only [evM, Option.some.injEq, Prod.mk.injEq] at he
    obtain ⟨rfl, rfl⟩ := he
    rw [hop] at ho
    have hx := hE x (all_ops ho (by simp [Op.operands]))
    exact ⟨_, _, c, w, by simp [execOp, hop], .inl rfl, hx, hs, .refl _ _ _ _⟩
  · -- pick
    rename_i x a b hop
    obtain rfl := Option.some.inj hc
    simp only [evM] at he
    split at he
    · rename_i t hv
      simp only [Option.some.injEq, Prod.mk.injEq] at he
      obtain ⟨rfl, rfl⟩ := he
      rw [hop] at ho
      have hx := hE x (all_ops ho (by simp [Op.operands]))
      have ha := hE a (all_ops ho (by simp [Op.operands]))
      have hb := hE b (all_ops ho (by simp [Op.operands]))
      rw [hv] at hx
      refine ⟨.value (if t = true then ρ a else ρ b), _, c, w, by simp [execOp, hop, hx.bool, asBool], .inl rfl, ?_, hs, .refl _ _ _ _⟩
      cases t
      · exact hb
      · exact ha
    · simp at he
  · -- alloc
    rename_i t hop
    split at hc
    · rename_i i hi
      split at hc
      · rename_i z hz
        split at hc
        · rename_i hp
          obtain rfl := Option.some.inj hc
          simp only [evM, Option.some.injEq, Prod.mk.injEq] at he
          obtain ⟨rfl, rfl⟩ := he
          have := (alloc_ok hs hi hz hp (esOf P t)).val
          simpa only [execOp, hop] using this
        · simp at hc
      · simp at hc
    · simp at hc
  · -- box
    rename_i t x hop
    rw [hop] at ho
    have hx := hE x (all_ops ho (by simp [Op.operands]))
    split at hc
    · obtain rfl := Option.some.inj hc
      simp only [evM] at he
      split at he
      · rename_i hd
        simp only [Option.some.injEq, Prod.mk.injEq] at he
        obtain ⟨rfl, rfl⟩ := he
        have hc0 : c 0 = none := by
          have := hs.live 0
          cases h0 : c 0 with
          | none => rfl
          | some l => rw [h0] at this; rw [Option.isNone_iff_eq_none.1 hd.2] at this; simp at this
        obtain ⟨h1, h2⟩ := hs.alloc (.cells (ρ x).cells t (0, 0))
        have : Does P N c H w (Instr.box t (ρ x)) (.pointer (some ⟨0, 0, none⟩)) H := ⟨.pointer (some ⟨w.heap.size, 0, none⟩), c, w.alloc (.cells (ρ x).cells t (0, 0)), by simp [Instr.box, newVar, newRow], .ptrDead hd.1 hc0, h1, h2⟩
        simpa only [execOp, hop] using this.val
      · simp at he
    obtain rfl := Option.some.inj hc
    simp only [evM] at he
    split at he
    · rename_i hone
      simp only [Option.some.injEq, Prod.mk.injEq] at he
      obtain ⟨rfl, rfl⟩ := he
      have := (box_ok (P := P) (t := t) hs hx hone (esOf P t)).val
      simpa only [execOp, hop] using this
    · simp at he
  · -- build
    rename_i t parts hop
    rw [hop] at ho
    have hpo : ∀ p ∈ parts.toList, opdOk p.2 = true := fun p hp => all_ops ho (by simp only [Op.operands, List.toList_toArray, List.mem_map]; exact ⟨p, hp, rfl⟩)
    split at hc
    · rename_i i hi
      split at hc
      · rename_i z hz
        split at hc
        · rename_i hp
          split at hc
          · -- a struct
            rename_i fs hu
            split at hc
            · rename_i hfs
              split at hc
              · rename_i l hl
                obtain rfl := Option.some.inj hc
                simp only [evM] at he
                split at he
                · rename_i cs hfc
                  simp only [Option.some.injEq, Prod.mk.injEq] at he
                  obtain ⟨rfl, rfl⟩ := he
                  have hr := run_placesA (P := P) (w := w) fs hfs
                  have hpl : ∀ (j off : Nat) (t : TypeId) (ti : TypeInfo), ((fs[j]?).map fun f => (f.offset, f.type)) = some (off, t) → P.info? t = some ti → (fs.toList.map fun f => (f.offset, P.cellsOf f.type)).toArray[j]? = some (off, ti.size) := fun j off t ti h1 h2 => by
                    obtain ⟨fd, h3, h4⟩ := Option.map_eq_some_iff.1 h1
                    simp only [Prod.mk.injEq] at h4
                    obtain ⟨rfl, rfl⟩ := h4
                    simp [h3, Program.cellsOf, h2]
                  obtain ⟨r', e1, e2⟩ := fill_of (P := P) (H := H) (c := c) (place' := fun j => (fs.toList.map fun f => (f.offset, P.cellsOf f.type)).toArray[j]?) (cs := z.cells) (cs' := z.cells) hE hl hpo hpl (.refl hp) hfc
                  have hdo : Does P N c H w (Instr.build t (parts.map fun (i, x) => (i, ρ x))) (.agg cs.toArray) H := .pure hs (v' := .agg r') (by
                    simp only [Instr.build, Sem.run_bind, run_zeroValue hi hz, Result.andThen_ok, run_underlying hu, hr]
                    rw [e1]; rfl) (by simpa using e2.agg)
                  simpa only [execOp, hop] using hdo.val
                · simp at he
              · simp at hc
            · simp at hc
          · rename_i n e hu
            split at hc
            case isFalse => simp at hc
            rename_i hei0
            obtain ⟨ei, hei⟩ := Option.isSome_iff_exists.1 hei0
            split at hc
            · rename_i l hl
              obtain rfl := Option.some.inj hc
              simp only [evM] at he
              split at he
              · rename_i cs hfc
                simp only [Option.some.injEq, Prod.mk.injEq] at he
                obtain ⟨rfl, rfl⟩ := he
                · obtain ⟨r', e1, e2⟩ := fill_of (P := P) (H := H) (c := c) (place' := fun j => some (j * ei.size, ei.size)) (cs := z.cells) (cs' := z.cells) hE hl hpo (fun j off t ti h1 h2 => by
                    simp only [Option.some.injEq, Prod.mk.injEq] at h1
                    obtain ⟨rfl, rfl⟩ := h1
                    rw [hei] at h2
                    obtain rfl := Option.some.inj h2
                    simp [Program.cellsOf, hei]) (.refl hp) hfc
                  have hdo : Does P N c H w (Instr.build t (parts.map fun (i, x) => (i, ρ x))) (.agg cs.toArray) H := .pure hs (v' := .agg r') (by
                    simp only [Instr.build, Sem.run_bind, run_zeroValue hi hz, Result.andThen_ok, run_underlying hu, run_sizeOf hei]
                    rw [e1]; rfl) (by simpa using e2.agg)
                  simpa only [execOp, hop] using hdo.val
              · simp at he
            · simp at hc
          · simp at hc
        · simp at hc
      · simp at hc
    · simp at hc
  · -- buildSlice
    rename_i t n parts hop
    rw [hop] at ho
    have hpo : ∀ p ∈ parts.toList, opdOk p.2 = true := fun p hp => all_ops ho (by simp only [Op.operands, List.toList_toArray, List.mem_map]; exact ⟨p, hp, rfl⟩)
    split at hc
    · rename_i e hu
      split at hc
      · rename_i i hi
        split at hc
        · rename_i z hz
          split at hc
          · rename_i hcond
            obtain ⟨hp, hn, hs0, hzs⟩ := hcond
            split at hc
            · rename_i l hl
              obtain rfl := Option.some.inj hc
              simp only [evM] at he
              split at he
              · rename_i cs hfc
                split at he
                · rename_i hone
                  simp only [Option.some.injEq, Prod.mk.injEq] at he
                  obtain ⟨rfl, rfl⟩ := he
                  have := (buildSlice_ok (P := P) hs hE hu hi hz hp hn hs0 hzs hl hpo hfc hone).val
                  simpa only [execOp, hop] using this
                · simp at he
              · simp at he
            · simp at hc
          · simp at hc
        · simp at hc
      · simp at hc
    · simp at hc
  · -- load
    rename_i t a hop
    rw [hop] at ho
    have hx := hE a (all_ops ho (by simp [Op.operands]))
    split at hc
    · rename_i d i hu hi
      have key : ∀ agg n, m = .load agg n a → ((isAggT d = true ∧ agg = true ∧ n = i.size) ∨ (isAggT d = false ∧ agg = false ∧ n = 1)) → DoesN P N c H w (execOp ρ o) v H' := fun agg n hm' hagg => by
        subst hm'
        simp only [evM] at he
        split at he
        · rename_i p hp
          rw [hp] at hx
          split at he
          · rename_i cs hl
            split at he
            · rename_i v0 hv0
              simp only [Option.some.injEq, Prod.mk.injEq] at he
              obtain ⟨rfl, rfl⟩ := he
              have := (load_ok hs hu hi hx hagg hl hv0).val
              simpa only [execOp, hop] using this
            · simp at he
          · simp at he
        · simp at he
      split at hc
      · rename_i hg; exact key _ _ (Option.some.inj hc).symm (.inl ⟨hg, rfl, rfl⟩)
      · rename_i hg; exact key _ _ (Option.some.inj hc).symm (.inr ⟨by simpa using hg, rfl, rfl⟩)
    · simp at hc
  · -- store
    rename_i t a x hop
    rw [hop] at ho
    have ha := hE a (all_ops ho (by simp [Op.operands]))
    have hx := hE x (all_ops ho (by simp [Op.operands]))
    split at hc
    · rename_i i hi
      obtain rfl := Option.some.inj hc
      simp only [evM] at he
      split at he
      · rename_i p hp
        rw [hp] at ha
        split at he
        · rename_i hn
          split at he
          · rename_i H2 hst
            simp only [Option.some.injEq, Prod.mk.injEq] at he
            obtain ⟨rfl, rfl⟩ := he
            obtain ⟨w', e1, e2, e3⟩ := store_ok (P := P) hs hi ha hx hn hst
            exact ⟨.skip, Go.undef, c, w', by simp [execOp, hop, e1], .inr ⟨rfl, rfl⟩, .undef, e2, e3⟩
          · simp at he
        · simp at he
      · simp at he
    · simp at hc
  · -- nilCheck
    rename_i x hop
    rw [hop] at ho
    have hx := hE x (all_ops ho (by simp [Op.operands]))
    obtain rfl := Option.some.inj hc
    simp only [evM] at he
    split at he
    · rename_i p hp
      rw [hp] at hx
      simp only [Option.some.injEq, Prod.mk.injEq] at he
      obtain ⟨rfl, rfl⟩ := he
      obtain ⟨a', e1, e2⟩ := hx.ptrI
      obtain ⟨p', rfl⟩ : ∃ p', a' = some p' := by cases a' with | none => simp at e2 | some q => exact ⟨q, rfl⟩
      exact ⟨.value (.pointer (some p')), _, c, w, by simp [execOp, hop, e1], .inl rfl, by rw [← e1]; exact hx, hs, .refl _ _ _ _⟩
    · rename_i g a b hg
      rw [hg] at hx
      simp only [Option.some.injEq, Prod.mk.injEq] at he
      obtain ⟨rfl, rfl⟩ := he
      obtain ⟨a', b', e1, _, _⟩ := hx.funcI
      exact ⟨.value (.func (.func g) a' b'), _, c, w, by simp [execOp, hop, e1], .inl rfl, by rw [← e1]; exact hx, hs, .refl _ _ _ _⟩
    · simp at he
  · -- binOp
    rename_i op t x y yt hop
    rw [hop] at ho
    have hx := hE x (all_ops ho (by simp [Op.operands]))
    have hy := hE y (all_ops ho (by simp [Op.operands]))
    have keyE : ∀ (neq : Bool) (l : List (Nat × TK)) (d : TypeDesc), P.underlying t = some d → m = .eqc neq l x y → op = (if neq = true then .neq else .eql) → P.eqGuardType P.depth t = false → ((∃ n e k, d = .array n e ∧ (P.info? e).isSome = true ∧ scalarK P e = some k ∧ l = (List.range n).map fun i => (i, k)) ∨ (∃ fs, d = .struct fs ∧ P.stoodInHeld t = false ∧ offsOf P fs.toList = some l)) → DoesN P N c H w (execOp ρ o) v H' := fun neq l d hu hm' hop' hg hd => by
      subst hm'
      simp only [evM] at he
      split at he
      · rename_i a b ha hb
        rw [ha] at hx
        rw [hb] at hy
        split at he
        · rename_i r hr
          simp only [Option.some.injEq, Prod.mk.injEq] at he
          obtain ⟨rfl, rfl⟩ := he
          have he2 := eqAgg_ok (P := P) (w := w) hu hd hx hy hr
          obtain ⟨a', e1, _⟩ := VRL.of_agg hx
          obtain ⟨b', e2, _⟩ := VRL.of_agg hy
          rw [e1, e2] at he2
          refine ⟨.value (.bool (if neq = true then !r else r)), _, c, w, ?_, .inl rfl, .plain rfl, hs, .refl _ _ _ _⟩
          have hgd := run_eqGuard_agg (P := P) w op t x y a' b' hg
          have hb2 : (binOp op t (.agg a') (.agg b')).run P w = .ok (.bool (if neq = true then !r else r)) w := by
            refine run_eql (by simp) (by simp) (by simp) (by simp) he2 ?_
            cases neq <;> simp [hop', eqOp]
          simp [execOp, hop, e1, e2, hgd, hb2]
        · simp at he
      · simp at he
    split at hc
    · rename_i n e hu
      split at hc
      · rename_i hcond
        split at hc
        · rename_i k hk hopp
          exact keyE false _ _ hu (Option.some.inj hc).symm (by simp) hcond.1 (.inl ⟨n, e, _, rfl, hcond.2, hopp, rfl⟩)
        · rename_i k hk hopp
          exact keyE true _ _ hu (Option.some.inj hc).symm (by simp) hcond.1 (.inl ⟨n, e, _, rfl, hcond.2, hopp, rfl⟩)
        · simp at hc
      · simp at hc
    · rename_i fs hu
      split at hc
      · rename_i hcond
        split at hc
        · rename_i l hk hopp
          exact keyE false _ _ hu (Option.some.inj hc).symm (by simp) hcond.1 (.inr ⟨fs, rfl, hcond.2, hopp⟩)
        · rename_i l hk hopp
          exact keyE true _ _ hu (Option.some.inj hc).symm (by simp) hcond.1 (.inr ⟨fs, rfl, hcond.2, hopp⟩)
        · simp at hc
      · simp at hc
    · rename_i d hu
      split at hc
      · rename_i k hk
        obtain rfl := Option.some.inj hc
        simp only [evM] at he
        split at he
        · rename_i u hq
          simp only [Option.some.injEq, Prod.mk.injEq] at he
          obtain ⟨rfl, rfl⟩ := he
          have := (Does.run1 hs (run_bin (P := P) (w := w) (ox := x) (oy := y) (op := op) hu hk hx hy hq)).val
          simpa only [execOp, hop] using this
        · simp at he
      · simp at hc
    · simp at hc
  · -- unOp
    rename_i op t x hop
    rw [hop] at ho
    have hx := hE x (all_ops ho (by simp [Op.operands]))
    obtain rfl := Option.some.inj hc
    simp only [evM] at he
    split at he
    · rename_i u hq
      simp only [Option.some.injEq, Prod.mk.injEq] at he
      obtain ⟨rfl, rfl⟩ := he
      have := (Does.run1 hs (run_un (P := P) (w := w) hx hq)).val
      simpa only [execOp, hop] using this
    · simp at he
  · -- convert
    rename_i s d x hop
    rw [hop] at ho
    have hx := hE x (all_ops ho (by simp [Op.operands]))
    split at hc
    · rename_i k1 k hu1 hu2
      obtain rfl := Option.some.inj hc
      simp only [evM] at he
      split at he
      · rename_i k0 n hv
        rw [hv] at hx
        simp only [Option.some.injEq, Prod.mk.injEq] at he
        obtain ⟨rfl, rfl⟩ := he
        have : Does P N c H w (convert s d (ρ x)) (.int k (k.wrap n)) H := .pure hs (by simp [convert, run_underlying hu1, run_underlying hu2, hx.int, Conv.intToInt]) (.plain rfl)
        simpa only [execOp, hop] using this.val
      · simp at he
    · rename_i hu1 hu2
      obtain rfl := Option.some.inj hc
      simp only [evM] at he
      split at he
      · rename_i s0 hv
        rw [hv] at hx
        simp only [Option.some.injEq, Prod.mk.injEq] at he
        obtain ⟨rfl, rfl⟩ := he
        have : Does P N c H w (convert s d (ρ x)) (.string s0) H := .pure hs (by simp [convert, run_underlying hu1, run_underlying hu2, hx.str]) (.plain rfl)
        simpa only [execOp, hop] using this.val
      · simp at he
    · rename_i e hu1 hu2
      split at hc
      · rename_i hu3
        obtain rfl := Option.some.inj hc
        simp only [evM] at he
        split at he
        · rename_i s0 hv
          rw [hv] at hx
          split at he
          · simp only [Option.some.injEq, Prod.mk.injEq] at he
            obtain ⟨rfl, rfl⟩ := he
            have := toBytes_ok (P := P) hs hu1 hu2 hu3 s0
            rw [← hx.str] at this
            simpa only [execOp, hop] using this.val
          · simp at he
        · simp at he
      · simp at hc
    · rename_i e hu1 hu2
      split at hc
      · rename_i hu3
        obtain rfl := Option.some.inj hc
        simp only [evM] at he
        split at he
        · rename_i n cp hv
          rw [hv] at hx
          simp only [Option.some.injEq, Prod.mk.injEq] at he
          obtain ⟨rfl, rfl⟩ := he
          have : Does P N c H w (convert s d (ρ x)) (.string ⟨#[]⟩) H := .pure hs (by rw [hx.slcN]; exact run_convert_bytes_nil w s e hu1 hu3 n cp d hu2) (.plain rfl)
          simpa only [execOp, hop] using this.val
        · rename_i a n cp hv
          rw [hv] at hx
          split at he
          · rename_i l hl
            split at he
            · rename_i bs hb
              simp only [Option.some.injEq, Prod.mk.injEq] at he
              obtain ⟨rfl, rfl⟩ := he
              have := toStr_ok (P := P) (dst := d) hs hu1 hu3 hu2 hx hl hb
              simpa only [execOp, hop] using this.val
            · simp at he
          · simp at he
        · simp at he
      · simp at hc
    · simp at hc
  · -- makeMap
    rename_i t hop
    obtain rfl := Option.some.inj hc
    simp only [evM, Option.some.injEq, Prod.mk.injEq] at he
    obtain ⟨rfl, rfl⟩ := he
    obtain ⟨h1, h2⟩ := hs.alloc (.map #[] 0)
    have hrun : (Instr.makeMap t none).run P w = .ok (.map (some w.heap.size)) (w.alloc (.map #[] 0)) := by simp [Instr.makeMap, newObj]; rfl
    have : Does P N c H w (Instr.makeMap t none) (.map (some 0)) H := ⟨_, c, _, hrun, .mapDead, h1, h2⟩
    simpa only [execOp, hop, Option.map_none] using this.val
  · -- sliceToArrayPointer
    rename_i t x hop
    rw [hop] at ho
    have hx := hE x (all_ops ho (by simp [Op.operands]))
    split at hc
    · rename_i n e hu
      obtain rfl := Option.some.inj hc
      simp only [evM] at he
      split at he
      · rename_i a l cp hv
        rw [hv] at hx
        split at he
        · rename_i hle
          simp only [Option.some.injEq, Prod.mk.injEq] at he
          obtain ⟨rfl, rfl⟩ := he
          obtain ⟨a', k', e1, e2⟩ := hx.slcP
          have : Does P N c H w (Instr.arrayAt t (ρ x)) (.pointer (some a)) H := .pure hs (by simp [Instr.arrayAt, run_underlying hu, e1, show ¬ l < n by omega]) e2
          simpa only [execOp, hop] using this.val
        · simp at he
      · simp at he
    · simp at hc
  · -- makeInterface
    rename_i t x hop
    rw [hop] at ho
    have hx := hE x (all_ops ho (by simp [Op.operands]))
    split at hc
    · simp at hc
    · rename_i d hd hu
      obtain rfl := Option.some.inj hc
      simp only [evM, Option.some.injEq, Prod.mk.injEq] at he
      obtain ⟨rfl, rfl⟩ := he
      have : Does P N c H w (Instr.makeInterface t (ρ x)) (.iface t (ev f x)) H := .pure hs (by
        simp only [Instr.makeInterface, Sem.run_bind, run_underlying hu, Result.andThen_ok]
        cases d <;> first | rfl | (exact (hd _ rfl).elim)) (.iface hx)
      simpa only [execOp, hop] using this.val
    · simp at hc
  · -- makeFunc
    rename_i fn a b hop
    rw [hop] at ho
    obtain rfl := Option.some.inj hc
    simp only [evM, Option.some.injEq, Prod.mk.injEq] at he
    obtain ⟨rfl, rfl⟩ := he
    have hl1 : VRL H.next c (a.toList.map (ev f)) (a.toList.map ρ) := VRL.map _ fun y hy => hE y (all_ops ho (by simp only [Op.operands, Array.toList_append, List.mem_append]; exact .inl hy))
    have hl2 : VRL H.next c (b.toList.map (ev f)) (b.toList.map ρ) := VRL.map _ fun y hy => hE y (all_ops ho (by simp only [Op.operands, Array.toList_append, List.mem_append]; exact .inr hy))
    have : Does P N c H w (Instr.makeFunc fn (a.map ρ) (b.map ρ)) (.func fn (a.toList.map (ev f)).toArray (b.toList.map (ev f)).toArray) H := .pure hs (v' := .func fn (a.map ρ) (b.map ρ)) rfl (.func (by simp) (by simp) (fun j hj => by have := hl1.2 j (by simpa using hj); simpa using this) (fun j hj => by have := hl2.2 j (by simpa using hj); simpa using this))
    simpa only [execOp, hop] using this.val
  · -- makeSlice
    rename_i t l cp hop
    rw [hop] at ho
    have hx := hE l (all_ops ho (by simp [Op.operands]))
    have hy := hE cp (all_ops ho (by simp [Op.operands]))
    split at hc
    · rename_i e hu
      split at hc
      · rename_i i hi
        split at hc
        · rename_i z hz
          split at hc
          · rename_i hcond
            obtain rfl := Option.some.inj hc
            simp only [evM] at he
            split at he
            · rename_i k1 n k2 m0 h1 h2
              rw [h1] at hx
              rw [h2] at hy
              split at he
              · rename_i hb
                simp only [Option.some.injEq, Prod.mk.injEq] at he
                obtain ⟨rfl, rfl⟩ := he
                have := mkSlice_ok (P := P) (k := k1) (k2 := k2) hs hu hi hz hcond.1 hcond.2.1 hcond.2.2 hb.1 hb.2.1 hb.2.2.1 hb.2.2.2
                rw [← hx.int, ← hy.int] at this
                simpa only [execOp, hop] using this.val
              · simp at he
            · simp at he
          · simp at hc
        · simp at hc
      · simp at hc
    · simp at hc
  · -- slice
    rename_i t x lo hi hop
    rw [hop] at ho
    have hx := hE x (all_ops ho (by simp [Op.operands]))
    have hlo := opd_map (x := lo) (fun o' h => all_ops ho (by simp only [Op.operands, Array.toList_append, List.mem_append]; exact .inl (.inl (.inr h)))) hE
    have hhi := opd_map (x := hi) (fun o' h => all_ops ho (by simp only [Op.operands, Array.toList_append, List.mem_append]; exact .inl (.inr h))) hE
    have hval : ∀ {v0 : Value} {H0 : AH}, Does P N c H w (Instr.sliceAt t (ρ x) (lo.map ρ) (hi.map ρ) none) v0 H0 → DoesN P N c H w (execOp ρ o) v0 H0 := fun h => by
      have := h.val
      simpa only [execOp, hop, Option.map_none] using this
    have keyA : ∀ (n : Nat) (e : TypeId) (ei : TypeInfo), P.info? e = some ei → (∀ (a' : Addr) (l h : Nat), (Instr.sliceBounds false n n (lo.map ρ) (hi.map ρ) none).run P w = .ok (l, h, n) w → (Instr.sliceAt t (.pointer (some a')) (lo.map ρ) (hi.map ρ) none).run P w = .ok (.slice (some (if n = l then a' else a'.add (l * ei.size))) (h - l) (n - l)) w) → evM (.sliceA n ei.size x lo hi) f H = some (v, H') → Does P N c H w (Instr.sliceAt t (ρ x) (lo.map ρ) (hi.map ρ) none) v H' := fun n e ei hei hrun he => by
      simp only [evM] at he
      split at he
      · rename_i p hv
        rw [hv] at hx
        split at he
        · rename_i h hh
          split at he
          · rename_i l hl
            split at he
            · rename_i b hb0
              split at he
              · rename_i hcond
                simp only [Option.some.injEq, Prod.mk.injEq] at he
                obtain ⟨rfl, rfl⟩ := he
                obtain ⟨lc, hc0, hbr⟩ := hs.at_ hb0
                obtain ⟨e1, h1⟩ := hx.ptrL hc0
                have hb := run_bounds (P := P) (w := w) (b := false) hlo hhi hh hl (Nat.le_refl n)
                have hln : l ≤ n := Nat.le_trans (bound_le hl (Nat.zero_le _)) (bound_le hh (Nat.le_refl _))
                obtain ⟨cs, ty, fz, mid, k1, k2, k3, k4, k5, k6⟩ := hbr.row
                have hspot : p.spot = none := hx.ptrSpot hc0
                rw [e1]
                refine .pure hs (hrun _ l h hb) ?_
                split
                · rename_i hnl
                  exact VR.slice (l := lc) h1 hc0 hspot (Nat.le_refl _) (by rw [hnl]; simp; omega)
                · rw [add_eq]
                  have := VR.slice (n := H.next) (c := c) (a := addA p (l * ei.size)) (l := lc) (m := h - l) (k := n - l) (k' := n - l) h1 hc0 rfl (Nat.le_refl _) (by
                    simp only [addA]
                    rw [hbr.es, hcond.1]
                    have : (n - l) * ei.size + l * ei.size = n * ei.size := by rw [← Nat.add_mul]; congr 1; omega
                    omega)
                  rwa [show lc.sh + (addA p (l * ei.size)).off = lc.sh + p.off + l * ei.size by simp only [addA]; omega] at this
              · simp at he
            · simp at he
          · simp at he
        · simp at he
      · simp at he
    split at hc
    · rename_i hu
      obtain rfl := Option.some.inj hc
      simp only [evM] at he
      split at he
      · rename_i s0 hv
        rw [hv] at hx
        split at he
        · rename_i h hh
          split at he
          · rename_i l hl
            simp only [Option.some.injEq, Prod.mk.injEq] at he
            obtain ⟨rfl, rfl⟩ := he
            have hb := run_bounds (P := P) (w := w) (b := false) hlo hhi hh hl (Nat.le_refl _)
            exact hval (.pure hs (by simp [Instr.sliceAt, Instr.slice, run_underlying hu, hx.str, hb]) (.plain rfl))
          · simp at he
        · simp at he
      · simp at he
    · rename_i e hu
      split at hc
      · rename_i ei hei
        obtain rfl := Option.some.inj hc
        simp only [evM] at he
        split at he
        · rename_i a n cp hv
          rw [hv] at hx
          split at he
          · rename_i h hh
            split at he
            · rename_i l hl
              have hhc := bound_le hh
              split at he
              case isFalse => simp at he
              rename_i hhc2
              have hlh := bound_le hl (Nat.zero_le _)
              split at he
              · simp only [Option.some.injEq, Prod.mk.injEq] at he
                obtain ⟨rfl, rfl⟩ := he
                have hb := run_bounds (P := P) (w := w) (b := true) hlo hhi hh hl (Nat.le_refl cp)
                refine hval (.pure hs (v' := .slice none (h - l) (cp - l)) ?_ (.plain rfl))
                simp [Instr.sliceAt, Instr.slice, run_underlying hu, hx.slcN, hb, run_sizeOf hei]
              · rename_i p
                split at he
                · rename_i b hb0
                  split at he
                  · rename_i hes
                    obtain ⟨lc, hc0, hbr⟩ := hs.at_ hb0
                    obtain ⟨k', e1, h1, h2, h3⟩ := hx.slcL hc0
                    have hspot := hx.slcSpot hc0
                    have hb := run_bounds (P := P) (w := w) (b := true) hlo hhi hh hl h2
                    have hrun : (Instr.sliceAt t (ρ x) (lo.map ρ) (hi.map ρ) none).run P w = .ok (.slice (if k' = l then some ⟨lc.blk, lc.sh + p.off, none⟩ else some ((⟨lc.blk, lc.sh + p.off, none⟩ : Addr).add (l * ei.size))) (h - l) (k' - l)) w := by
                      simp [Instr.sliceAt, Instr.slice, run_underlying hu, e1, hb, run_sizeOf hei]
                    split at he
                    · rename_i hl0
                      subst hl0
                      simp only [Option.some.injEq, Prod.mk.injEq] at he
                      obtain ⟨rfl, rfl⟩ := he
                      refine hval (.pure hs hrun ?_)
                      have : (if k' = 0 then some (⟨lc.blk, lc.sh + p.off, none⟩ : Addr) else some ((⟨lc.blk, lc.sh + p.off, none⟩ : Addr).add (0 * ei.size))) = some ⟨lc.blk, lc.sh + p.off, none⟩ := by
                        rw [Nat.zero_mul, add_eq, Nat.add_zero]; split <;> rfl
                      rw [this]
                      exact VR.slice h1 hc0 hspot h2 h3
                    · rename_i hl0
                      split at he
                      · rename_i hlc
                        simp only [Option.some.injEq, Prod.mk.injEq] at he
                        obtain ⟨rfl, rfl⟩ := he
                        refine hval (.pure hs hrun ?_)
                        rw [if_neg (by omega), add_eq]
                        have := VR.slice (n := H.next) (c := c) (a := addA p (l * ei.size)) (l := lc) (m := h - l) (k := cp - l) (k' := k' - l) h1 hc0 rfl (by omega) (by
                          simp only [addA]
                          rw [hbr.es, hes] at h3 ⊢
                          have : (k' - l) * ei.size + l * ei.size = k' * ei.size := by rw [← Nat.add_mul]; congr 1; omega
                          omega)
                        rwa [show lc.sh + (addA p (l * ei.size)).off = lc.sh + p.off + l * ei.size by simp only [addA]; omega] at this
                      · rename_i hlc
                        split at he
                        · rename_i hg0
                          simp only [Option.some.injEq, Prod.mk.injEq] at he
                          obtain ⟨rfl, rfl⟩ := he
                          have hd : c 0 = none := by
                            have := hs.live 0
                            rw [hg0] at this
                            cases hq : c 0 with
                            | none => rfl
                            | some l0 => rw [hq] at this; simp at this
                          refine hval (.pure hs hrun ?_)
                          rw [show h - l = 0 by omega]
                          split
                          · exact VR.sliceDead (by simp only []; omega) hd
                          · exact VR.sliceDead (by simp only []; omega) hd
                        · simp at he
                  · simp at he
                · simp at he
            · simp at he
          · simp at he
        · simp at he
      · simp at hc
    · rename_i n e hu
      split at hc
      · rename_i ei hei
        obtain rfl := Option.some.inj hc
        exact hval (keyA n e ei hei (fun a' l h hb => by simp [Instr.sliceAt, run_underlying hu, Instr.sureAddr, hb, run_sizeOf hei]) he)
      · simp at hc
    · rename_i q hu
      split at hc
      · rename_i n e hu2
        split at hc
        · rename_i ei hei
          obtain rfl := Option.some.inj hc
          exact hval (keyA n e ei hei (fun a' l h hb => by simp [Instr.sliceAt, Instr.slice, run_underlying hu, run_underlying hu2, asAddr, hb, run_sizeOf hei]) he)
        · simp at hc
      · simp at hc
    · simp at hc
  · -- fieldAddr
    rename_i t x j hop
    rw [hop] at ho
    have hx := hE x (all_ops ho (by simp [Op.operands]))
    split at hc
    · rename_i fs hu
      split at hc
      · rename_i fd hj
        split at hc
        · rename_i i hi
          split at hc
          · simp at hc
          · rename_i hsz
            obtain rfl := Option.some.inj hc
            simp only [evM] at he
            split at he
            · rename_i p hv
              rw [hv] at hx
              simp only [Option.some.injEq, Prod.mk.injEq] at he
              obtain ⟨rfl, rfl⟩ := he
              obtain ⟨a', e1, e2⟩ := hx.addA fd.offset
              have : Does P N c H w (Instr.fieldAt t (ρ x) j) (.pointer (some (addA p fd.offset))) H := .pure hs (by simp [Instr.fieldAt, run_underlying hu, hj, e1, Instr.sureAddr, fieldPlace, run_sizeOf hi, hsz]) e2
              simpa only [execOp, hop] using this.val
            · simp at he
        · simp at hc
      · simp at hc
    · simp at hc
  · -- field
    rename_i t x j hop
    rw [hop] at ho
    have hx := hE x (all_ops ho (by simp [Op.operands]))
    split at hc
    · rename_i fs hu
      split at hc
      · rename_i fd hj
        split at hc
        · rename_i i d hi hd
          have key : ∀ agg n, m = .field agg fd.offset n x → ((isAggT d = true ∧ agg = true ∧ n = i.size) ∨ (isAggT d = false ∧ agg = false ∧ n = 1)) → DoesN P N c H w (execOp ρ o) v H' := fun agg n hm' hagg => by
            subst hm'
            simp only [evM] at he
            split at he
            · rename_i cs hv
              rw [hv] at hx
              split at he
              · rename_i hle
                split at he
                · rename_i v0 hv0
                  simp only [Option.some.injEq, Prod.mk.injEq] at he
                  obtain ⟨rfl, rfl⟩ := he
                  obtain ⟨v', e1, e2⟩ := run_field (P := P) (w := w) hu hj hd hi hx hagg hle hv0
                  have : Does P N c H w (Instr.field t (ρ x) j) v0 H := .pure hs e1 e2
                  simpa only [execOp, hop] using this.val
                · simp at he
              · simp at he
            · simp at he
          split at hc
          · rename_i hg; exact key _ _ (Option.some.inj hc).symm (.inl ⟨hg, rfl, rfl⟩)
          · rename_i hg; exact key _ _ (Option.some.inj hc).symm (.inr ⟨by simpa using hg, rfl, rfl⟩)
        · simp at hc
      · simp at hc
    · simp at hc
  · -- indexAddr
    rename_i t x i hop
    rw [hop] at ho
    have hx := hE x (all_ops ho (by simp [Op.operands]))
    have hi := hE i (all_ops ho (by simp [Op.operands]))
    split at hc
    · rename_i e hu
      split at hc
      · rename_i ei hei
        obtain rfl := Option.some.inj hc
        simp only [evM] at he
        split at he
        · rename_i a n cp k j hv hw
          rw [hv] at hx
          rw [hw] at hi
          split at he
          · rename_i hb
            simp only [Option.some.injEq, Prod.mk.injEq] at he
            obtain ⟨rfl, rfl⟩ := he
            obtain ⟨a', k', e1, e2⟩ := hx.slcA (j.toNat * ei.size)
            have : Does P N c H w (Instr.indexAt t (ρ x) (ρ i)) (.pointer (some (addA a (j.toNat * ei.size)))) H := .pure hs (by simp [Instr.indexAt, hi.int, asIntOf, run_underlying hu, e1, hb.1, hb.2, run_sizeOf hei]) e2
            simpa only [execOp, hop] using this.val
          · simp at he
        · simp at he
      · simp at hc
    · rename_i n e hu
      split at hc
      · rename_i ei hei
        obtain rfl := Option.some.inj hc
        simp only [evM] at he
        split at he
        · rename_i a k j hv hw
          rw [hv] at hx
          rw [hw] at hi
          split at he
          · rename_i hb
            simp only [Option.some.injEq, Prod.mk.injEq] at he
            obtain ⟨rfl, rfl⟩ := he
            obtain ⟨a', e1, e2⟩ := hx.addA (j.toNat * ei.size)
            have : Does P N c H w (Instr.indexAt t (ρ x) (ρ i)) (.pointer (some (addA a (j.toNat * ei.size)))) H := .pure hs (by simp [Instr.indexAt, hi.int, asIntOf, run_underlying hu, e1, Instr.sureAddr, hb.1, hb.2, run_sizeOf hei]) e2
            simpa only [execOp, hop] using this.val
          · simp at he
        · simp at he
      · simp at hc
    · simp at hc
  · -- index
    rename_i t x i hop
    rw [hop] at ho
    have hx := hE x (all_ops ho (by simp [Op.operands]))
    have hi := hE i (all_ops ho (by simp [Op.operands]))
    split at hc
    · rename_i hu
      obtain rfl := Option.some.inj hc
      simp only [evM] at he
      split at he
      · rename_i s0 k j hv hw
        rw [hv] at hx
        rw [hw] at hi
        split at he
        · rename_i hb
          simp only [Option.some.injEq, Prod.mk.injEq] at he
          obtain ⟨rfl, rfl⟩ := he
          have : Does P N c H w (Instr.index t (ρ x) (ρ i)) (.int .u8 (s0.data.toList.getD j.toNat 0).toNat) H := .pure hs (by rw [hx.str, hi.int]; exact run_strIdx hu hb.1 hb.2) (.plain rfl)
          simpa only [execOp, hop] using this.val
        · simp at he
      · simp at he
    · rename_i n e hu
      split at hc
      · rename_i ei d hei hd
        have key : ∀ agg n2, m = .arrIdx agg n n2 x i → n2 = ei.size → ((isAggT d = true ∧ agg = true) ∨ (isAggT d = false ∧ agg = false ∧ n2 = 1)) → DoesN P N c H w (execOp ρ o) v H' := fun agg n2 hm' hn2 hagg => by
          subst hm'
          simp only [evM] at he
          split at he
          · rename_i cs k j hv hw
            rw [hv] at hx
            rw [hw] at hi
            split at he
            · rename_i hb
              split at he
              · rename_i v0 hv0
                simp only [Option.some.injEq, Prod.mk.injEq] at he
                obtain ⟨rfl, rfl⟩ := he
                obtain ⟨v', e1, e2⟩ := run_arrIdx (P := P) (w := w) (k := k) hu hd hei hx hn2 hagg hb.1 hb.2.1 hb.2.2 hv0
                rw [← hi.int] at e1
                have : Does P N c H w (Instr.index t (ρ x) (ρ i)) v0 H := .pure hs e1 e2
                simpa only [execOp, hop] using this.val
              · simp at he
            · simp at he
          · simp at he
        split at hc
        · rename_i hg; exact key _ _ (Option.some.inj hc).symm rfl (.inl ⟨hg, rfl⟩)
        · rename_i hg
          split at hc
          · rename_i h1; exact key _ _ (Option.some.inj hc).symm h1.symm (.inr ⟨by simpa using hg, rfl, rfl⟩)
          · simp at hc
      · simp at hc
    · simp at hc
  · -- extract
    rename_i x i hop
    rw [hop] at ho
    have hx := hE x (all_ops ho (by simp [Op.operands]))
    obtain rfl := Option.some.inj hc
    simp only [evM] at he
    split at he
    · rename_i vs hv
      rw [hv] at hx
      split at he
      · rename_i v0 hv0
        simp only [Option.some.injEq, Prod.mk.injEq] at he
        obtain ⟨rfl, rfl⟩ := he
        obtain ⟨vs', e1, e2⟩ := VRL.of_tuple hx
        obtain ⟨v', e3, e4⟩ := e2.get (j := i) (v := v0) (by simpa using hv0)
        have : Does P N c H w (Instr.extract (ρ x) i) v0 H := .pure hs (v' := v') (by
          rw [Array.getElem?_toList] at e3
          simp [Instr.extract, e1, e3]) e4
        simpa only [execOp, hop] using this.val
      · simp at he
    · simp at he
  · -- call
    rename_i cl hop
    rw [hop] at ho
    split at hc
    · rename_i b hcal
      obtain ⟨csts, hres⟩ : ∃ cs, (resolve ρ cl o.type) = Pure.pure { target := .builtin b cl.argTypes o.type cs, args := cl.args.map ρ } := ⟨_, by unfold resolve; rw [hcal]⟩
      have := builtin_ok (P := P) (ty := o.type) (cs := csts) hs hE hc (fun x hx => all_ops ho (by simp only [Op.operands, Call.operands, Array.toList_append, List.mem_append]; exact .inr hx)) he
      obtain ⟨nx, v', c', w', h1, h2⟩ := this
      exact ⟨nx, v', c', w', by simp [execOp, hop, hres, invoke, h1], h2⟩
    · obtain rfl := Option.some.inj hc
      exact (hm _ _ _ rfl).elim
    · simp at hc
  · simp at hc
end
end Go.Proofs.Ytidpkoaomfbljaa.AM
