/- Compiled operations that are not ordered can be taken in either order. No program in sight. -/
import Derived.Test.YtidpkoaomfbljaaAmA
namespace Go.Proofs.Ytidpkoaomfbljaa.AM
open Go
set_option linter.all false

/-- What lies below is kept. -/
structure Ext (H H' : AH) : Prop where
  nx : H.next ≤ H'.next
  low : H'.low ≤ H.low
  same : ∀ id, id < H.next → id < H'.low → H'.get id = H.get id
/-- All that was there is kept. -/
structure Same (H H' : AH) : Prop where
  nx : H.next ≤ H'.next
  low : H'.low = H.low
  same : ∀ id, id < H.next → H'.get id = H.get id
theorem Ext.refl (H : AH) : Ext H H := ⟨Nat.le_refl _, Nat.le_refl _, fun _ _ _ => rfl⟩
theorem Ext.trans {H H1 H2 : AH} (h : Ext H H1) (k : Ext H1 H2) : Ext H H2 :=
  ⟨Nat.le_trans h.nx k.nx, Nat.le_trans k.low h.low, fun id h1 h2 => by rw [k.same id (Nat.lt_of_lt_of_le h1 h.nx) h2, h.same id h1 (Nat.lt_of_lt_of_le h2 k.low)]⟩
theorem Same.refl (H : AH) : Same H H := ⟨Nat.le_refl _, rfl, fun _ _ => rfl⟩
theorem Same.ext {H H' : AH} (h : Same H H') : Ext H H' := ⟨h.nx, Nat.le_of_eq h.low, fun id h1 _ => h.same id h1⟩
theorem AH.next_push (H : AH) (b : Blk) : (H.push b).next = H.next + 1 := by simp [AH.push, AH.next]
theorem AH.get_push_lt (H : AH) (b : Blk) {id : Nat} (h : id < H.next) : (H.push b).get id = H.get id := by
  simp only [AH.push, AH.get, AH.next] at *
  rw [List.getElem?_append_left h]
theorem AH.get_push_eq (H : AH) (b : Blk) : (H.push b).get H.next = some b := by
  simp [AH.push, AH.get, AH.next]
theorem AH.get_lt {H : AH} {id : Nat} {b : Blk} (h : H.get id = some b) : id < H.next := by
  simp only [AH.get, AH.next] at *
  rcases Nat.lt_or_ge id H.blks.length with h' | h'
  · exact h'
  · rw [List.getElem?_eq_none h'] at h; simp at h
theorem AH.next_set (H : AH) (id : Nat) (b : Option Blk) : (H.set id b).next = H.next := by simp [AH.set, AH.next]
theorem AH.get_set_ne (H : AH) {id j : Nat} (b : Option Blk) (h : j ≠ id) : (H.set id b).get j = H.get j := by
  simp only [AH.set, AH.get]
  rw [List.getElem?_set_ne (Ne.symm h)]
theorem AH.get_set_eq (H : AH) {id : Nat} (b : Option Blk) (h : id < H.next) : (H.set id b).get id = b := by
  simp only [AH.set, AH.get, AH.next] at *
  rw [List.getElem?_set_self h]; rfl
theorem Same.push (H : AH) (b : Blk) : Same H (H.push b) := ⟨by rw [AH.next_push]; omega, rfl, fun _ h => H.get_push_lt b h⟩
theorem Ext.set (H : AH) (id : Nat) (b : Option Blk) : Ext H (H.set id b) :=
  ⟨by rw [AH.next_set]; exact Nat.le_refl _, by simp only [AH.set]; exact Nat.min_le_left _ _, fun j h1 h2 => H.get_set_ne b (by simp only [AH.set] at h2; omega)⟩
theorem stU_ext {H H' : AH} {a : Addr} {vs : List Value} (h : stU H a vs = some H') : Ext H H' := by
  unfold stU at h
  split at h
  · split at h
    · obtain rfl := Option.some.inj h; exact .set _ _ _
    · simp at h
  · simp at h
theorem stc_ext {H H' : AH} {a : Addr} {vs : List Value} (h : stc H a vs = some H') : Ext H H' := by
  unfold stc at h
  split at h
  · exact stU_ext h
  · simp at h
theorem ldc_lt {H : AH} {a : Addr} {n : Nat} {l : List Value} (h : ldc H a n = some l) : a.block < H.next := by
  unfold ldc at h
  split at h
  · rename_i b hb; exact AH.get_lt hb
  · simp at h
theorem appended_ext {H H' : AH} {es bytes k : Nat} {s v : Value} {new : List Value} (h : appended H es bytes s k new = some (v, H')) : Ext H H' := by
  unfold appended at h
  split at h
  · split at h
    · split at h
      · simp only [Option.some.injEq, Prod.mk.injEq] at h; obtain ⟨_, rfl⟩ := h; exact .refl _
      · split at h
        · simp only [Option.some.injEq, Prod.mk.injEq] at h; obtain ⟨_, rfl⟩ := h; exact (Same.push _ _).ext
        · simp at h
    · simp at h
  · split at h
    · simp at h
    · split at h
      · split at h
        · split at h
          · rename_i H1 h1
            simp only [Option.some.injEq, Prod.mk.injEq] at h; obtain ⟨_, rfl⟩ := h; exact stU_ext h1
          · simp at h
        · split at h
          · split at h
            · simp only [Option.some.injEq, Prod.mk.injEq] at h; obtain ⟨_, rfl⟩ := h; exact (Ext.set _ _ _).trans (Same.push _ _).ext
            · simp at h
          · simp at h
      · split at h
        · simp only [Option.some.injEq, Prod.mk.injEq] at h; obtain ⟨_, rfl⟩ := h; exact .refl _
        · simp at h
  · simp at h

/-! ### Kinds of operations -/
inductive Cls where
  | pure | read | grow | write
  deriving DecidableEq
def MI.cls : MI → Cls
  | .load _ _ _ | .toStr _ | .sliceS _ _ _ _ | .sliceA _ _ _ _ _ | .boxDead _ => .read
  | .alloc _ _ | .box _ _ | .buildSlice _ _ _ _ | .mkSlice _ _ _ _ _ | .toBytes _ => .grow
  | .call p _ _ => if p then .grow else .write
  | .store _ _ _ | .storeX _ _ _ _ | .append _ _ _ _ | .appendZ _ _ _ _ _ | .copy _ _ _ | .uString _ _ | .uData _ | .mkMap => .write
  | _ => .pure
def MI.isCall : MI → Bool
  | .call _ _ _ => true
  | _ => false
theorem evOp_evM {call : CallH} {m : MI} (hm : m.isCall = false) (f : Fr) (H : AH) : evOp call m f H = evM m f H := by
  cases m <;> first | rfl | simp [MI.isCall] at hm
theorem evM_pure {m : MI} (hm : m.cls = .pure) {f : Fr} {H H1 : AH} {v : Value} (h : evM m f H = some (v, H1)) : H1 = H ∧ ∀ H', evM m f H' = some (v, H') := by
  cases m <;> simp only [MI.cls, reduceCtorEq] at hm <;> (try (split at hm <;> simp at hm)) <;> simp only [evM] at h ⊢ <;>
    first
    | (simp only [Option.some.injEq, Prod.mk.injEq] at h; exact ⟨h.2.symm, fun H' => by rw [h.1]⟩)
    | (split at h <;> (try (split at h)) <;> (try (split at h)) <;> (try (split at h)) <;> first
        | (simp at h; done)
        | (simp only [Option.some.injEq, Prod.mk.injEq] at h; obtain ⟨h1, h2⟩ := h; refine ⟨h2.symm, fun H' => ?_⟩; simp_all))
theorem ldc_cong {H H' : AH} {a : Addr} {n : Nat} (h : H'.get a.block = H.get a.block) : ldc H' a n = ldc H a n := by unfold ldc; rw [h]
theorem evM_read {m : MI} (hm : m.cls = .read) {f : Fr} {H H1 : AH} {v : Value} (h : evM m f H = some (v, H1)) : H1 = H ∧ (∀ b ∈ m.rdBlk f, b < H.next) := by
  cases m <;> simp only [MI.cls, reduceCtorEq] at hm <;> (try (split at hm <;> simp at hm))
  · simp only [evM] at h
    simp only [MI.rdBlk]
    split at h
    · rename_i hp
      simp only [Option.some.injEq, Prod.mk.injEq] at h
      exact ⟨h.2.symm, fun b hb => by rw [hp] at hb; simp [blkOf] at hb⟩
    · rename_i a n k hp
      split at h
      · rename_i cs hl
        split at h
        · simp only [Option.some.injEq, Prod.mk.injEq] at h
          exact ⟨h.2.symm, fun b hb => by rw [hp] at hb; simp only [blkOf, List.mem_singleton] at hb; subst hb; exact ldc_lt hl⟩
        · simp at h
      · simp at h
    · simp at h
  · -- load
    simp only [evM] at h
    simp only [MI.rdBlk]
    split at h
    · rename_i p hp
      split at h
      · rename_i cs hl
        split at h
        · simp only [Option.some.injEq, Prod.mk.injEq] at h
          exact ⟨h.2.symm, fun b hb => by rw [hp] at hb; simp only [blkOf, List.mem_singleton] at hb; subst hb; exact ldc_lt hl⟩
        · simp at h
      · simp at h
    · simp at h
  · simp only [evM] at h
    simp only [MI.rdBlk]
    split at h
    · rename_i a n k hp
      split at h
      · split at h
        · split at h
          · split at h
            · simp only [Option.some.injEq, Prod.mk.injEq] at h
              exact ⟨h.2.symm, fun b hb => by rw [hp] at hb; simp [blkOf] at hb⟩
            · split at h
              · rename_i p _ bb hb
                have key : ∀ b ∈ blkOf (.slice (some p) n k), b < H.next := fun b hbm => by
                  simp only [blkOf, List.mem_singleton] at hbm; subst hbm; exact AH.get_lt hb
                split at h
                · split at h
                  · simp only [Option.some.injEq, Prod.mk.injEq] at h
                    exact ⟨h.2.symm, by rw [hp]; exact key⟩
                  · split at h
                    · simp only [Option.some.injEq, Prod.mk.injEq] at h
                      exact ⟨h.2.symm, by rw [hp]; exact key⟩
                    · split at h
                      · simp only [Option.some.injEq, Prod.mk.injEq] at h
                        exact ⟨h.2.symm, by rw [hp]; exact key⟩
                      · simp at h
                · simp at h
              · simp at h
          · simp at h
        · simp at h
      · simp at h
    · simp at h
  · simp only [evM] at h
    simp only [MI.rdBlk]
    split at h
    · rename_i p hp
      split at h
      · split at h
        · split at h
          · rename_i bb hb
            split at h
            · simp only [Option.some.injEq, Prod.mk.injEq] at h
              exact ⟨h.2.symm, fun b hbm => by rw [hp] at hbm; simp only [blkOf, List.mem_singleton] at hbm; subst hbm; exact AH.get_lt hb⟩
            · simp at h
          · simp at h
        · simp at h
      · simp at h
    · simp at h
  · simp only [evM] at h
    split at h
    · rename_i hd
      simp only [Option.some.injEq, Prod.mk.injEq] at h
      exact ⟨h.2.symm, fun b hb => by simp only [MI.rdBlk, List.mem_singleton] at hb; subst hb; exact hd.1⟩
    · simp at h
theorem dead_cong {x : Operand} {f : Fr} {H H' : AH} (hn : 0 < H.next → 0 < H'.next) (hn' : 0 < H'.next → 0 < H.next) (hg : H'.get 0 = H.get 0) : (evM (.boxDead x) f H').map (·.1) = (evM (.boxDead x) f H).map (·.1) := by
  simp only [evM, hg]
  by_cases h : 0 < H.next
  · simp only [h, hn h, true_and]; split <;> rfl
  · simp only [h, show ¬ 0 < H'.next from fun h2 => h (hn' h2), false_and, if_false]
theorem evM_read_cong {m : MI} (hm : m.cls = .read) {f : Fr} {H H' : AH} (hl : ∀ b ∈ m.rdBlk f, b < H.next ∧ b < H'.next) (hg : ∀ b ∈ m.rdBlk f, ∀ j, j ≤ b → H'.get j = H.get j) : (evM m f H').map (·.1) = (evM m f H).map (·.1) := by
  cases m <;> simp only [MI.cls, reduceCtorEq] at hm <;> (try (split at hm <;> simp at hm))
  · rename_i x
    simp only [evM]
    simp only [MI.rdBlk] at hg
    cases hx : ev f x with
    | slice p n k =>
      cases p with
      | none => rfl
      | some p =>
        rw [hx] at hg
        have := hg p.block (by simp [blkOf]) _ (Nat.le_refl _)
        simp only [ldc_cong this]
        cases ldc H p n with
        | none => rfl
        | some cs => cases hb : bytesOf cs <;> simp [hb]
    | _ => rfl
  · rename_i ag n a
    simp only [evM]
    simp only [MI.rdBlk] at hg
    cases hx : ev f a with
    | pointer p =>
      cases p with
      | none => rfl
      | some p =>
        rw [hx] at hg
        have := hg p.block (by simp [blkOf]) _ (Nat.le_refl _)
        simp only [ldc_cong this]
        cases ldc H p n with
        | none => rfl
        | some cs => cases ho : oneOf ag cs <;> simp [ho]
    | _ => rfl
  · rename_i es x lo hi
    simp only [evM]
    simp only [MI.rdBlk] at hg
    cases hx : ev f x with
    | slice p n k =>
      simp only
      cases p with
      | none =>
        cases bound f hi n k with
        | none => rfl
        | some h =>
          simp only
          cases bound f lo 0 h with
          | none => rfl
          | some l => simp only; split <;> rfl
      | some p =>
        rw [hx] at hg
        have h1 := hg p.block (by simp [blkOf]) _ (Nat.le_refl _)
        have h0 := hg p.block (by simp [blkOf]) 0 (Nat.zero_le _)
        simp only [h1, h0]
        cases bound f hi n k with
        | none => rfl
        | some h =>
          simp only
          cases bound f lo 0 h with
          | none => rfl
          | some l =>
            simp only
            split
            · cases H.get p.block with
              | none => rfl
              | some b => simp only; (repeat' split) <;> rfl
            · rfl
    | _ => rfl
  · rename_i len es x lo hi
    simp only [evM]
    simp only [MI.rdBlk] at hg
    cases hx : ev f x with
    | pointer p =>
      cases p with
      | none => rfl
      | some p =>
        rw [hx] at hg
        have h1 := hg p.block (by simp [blkOf]) _ (Nat.le_refl _)
        simp only [h1]
        cases bound f hi len len with
        | none => rfl
        | some h =>
          simp only
          cases bound f lo 0 h with
          | none => rfl
          | some l =>
            simp only
            cases H.get p.block with
            | none => rfl
            | some b => simp only; (repeat' split) <;> rfl
    | _ => rfl
  · have h1 := hl 0 (by simp [MI.rdBlk])
    exact dead_cong (fun _ => h1.2) (fun _ => h1.1) (hg 0 (by simp [MI.rdBlk]) 0 (Nat.le_refl _))
theorem evM_grow {m : MI} (hm : m.cls = .grow) {f : Fr} {H H1 : AH} {v : Value} (h : evM m f H = some (v, H1)) : Same H H1 := by
  cases m <;> simp only [MI.cls, reduceCtorEq] at hm <;> simp only [evM] at h <;>
    first
    | (simp only [Option.some.injEq, Prod.mk.injEq] at h; obtain ⟨_, rfl⟩ := h; exact .push _ _)
    | (simp at h; done)
    | ((repeat' split at h) <;> first
        | (simp at h; done)
        | (simp only [Option.some.injEq, Prod.mk.injEq] at h; obtain ⟨_, rfl⟩ := h; exact .push _ _))
theorem evM_ext {m : MI} {f : Fr} {H H1 : AH} {v : Value} (h : evM m f H = some (v, H1)) : Ext H H1 := by
  cases hc : m.cls with
  | pure => rw [(evM_pure hc h).1]; exact .refl _
  | read => rw [(evM_read hc h).1]; exact .refl _
  | grow => exact (evM_grow hc h).ext
  | write =>
    cases m <;> simp only [MI.cls, reduceCtorEq] at hc <;> simp only [evM, reduceCtorEq] at h
    · split at h
      · split at h
        · split at h
          · rename_i h1
            simp only [Option.some.injEq, Prod.mk.injEq] at h; obtain ⟨_, rfl⟩ := h; exact stc_ext h1
          · simp at h
        · simp at h
      · simp at h
    · split at h
      · split at h
        · split at h
          · split at h
            · rename_i h1
              simp only [Option.some.injEq, Prod.mk.injEq] at h; obtain ⟨_, rfl⟩ := h; exact stc_ext h1
            · simp at h
          · simp at h
        · simp at h
      · simp at h
    · split at h
      · exact appended_ext h
      · simp at h
    · split at h
      · split at h
        · exact appended_ext h
        · simp at h
      · simp at h
    · split at h
      · split at h
        · split at h
          · rename_i h1
            simp only [Option.some.injEq, Prod.mk.injEq] at h; obtain ⟨_, rfl⟩ := h; exact stU_ext h1
          · simp at h
        · simp at h
      · simp at h

/-! ### Operands -/
def MI.ops : MI → List Operand
  | .mov x | .un _ x | .conv _ x | .strMov x | .toStr x | .toBytes x | .box _ x | .nilCheck x | .addOff _ x | .field _ _ _ x
  | .toArr _ x | .boxDead x | .mkIface _ x | .extract x _ | .len x | .lenStr x | .cap x | .uData x | .load _ _ x => [x]
  | .pick c a b => [c, a, b]
  | .bin _ _ x y | .eqc _ _ x y | .store _ x y | .idxS _ x y | .idxA _ _ x y | .strIdx x y | .arrIdx _ _ _ x y | .mkSlice _ _ _ x y
  | .append _ _ x y | .appendZ _ _ _ x y | .copy _ x y | .uString x y => [x, y]
  | .build _ ps => ps.map (·.2.2)
  | .buildSlice _ _ _ ps => ps.map (·.2.2)
  | .sliceStr x lo hi | .sliceS _ x lo hi | .sliceA _ _ x lo hi => x :: (lo.toList ++ hi.toList)
  | .mkFunc _ a b => a ++ b
  | .storeX _ a x far => a :: x :: far.map .tmp
  | .call _ g args => g :: args
  | .min x xs | .max x xs => x :: xs
  | .alloc _ _ | .lenC _ | .mkMap | .newMap => []
theorem bound_cong {f g : Fr} {x : Option Operand} (h : ∀ o ∈ x.toList, ev f o = ev g o) (d m : Nat) : bound f x d m = bound g x d m := by
  cases x with
  | none => rfl
  | some o => simp only [bound, h o (by simp)]
theorem parts_cong {f g : Fr} {ps : List (Nat × Nat × Operand)} (h : ∀ o ∈ ps.map (·.2.2), ev f o = ev g o) : (ps.map fun p => (p.1, p.2.1, ev f p.2.2)) = ps.map fun p => (p.1, p.2.1, ev g p.2.2) :=
  List.map_congr_left fun p hp => by rw [h _ (List.mem_map.2 ⟨p, hp, rfl⟩)]
theorem map_cong {f g : Fr} {xs : List Operand} (h : ∀ o ∈ xs, ev f o = ev g o) : xs.map (ev f) = xs.map (ev g) := List.map_congr_left h
theorem far_cong {f g : Fr} {far : List Tmp} (h : ∀ o ∈ far.map Operand.tmp, ev f o = ev g o) (b : Nat) : farB f far b = farB g far b := by
  unfold farB
  induction far with
  | nil => rfl
  | cons t far ih =>
    have h1 : f t = g t := h (.tmp t) (by simp)
    simp only [List.all_cons, h1]
    rw [ih fun o ho => h o (by simp only [List.map_cons, List.mem_cons]; exact .inr ho)]
theorem storeX_cong {n : Nat} {a x : Operand} {far : List Tmp} {f g : Fr} (h1 : ev f a = ev g a) (h2 : ev f x = ev g x) (h3 : ∀ o ∈ far.map Operand.tmp, ev f o = ev g o) (H : AH) : evM (.storeX n a x far) f H = evM (.storeX n a x far) g H := by
  simp only [evM, h1, h2, far_cong h3]
theorem evM_cong {m : MI} {f g : Fr} (h : ∀ o ∈ m.ops, ev f o = ev g o) (H : AH) : evM m f H = evM m g H := by
  by_cases hx : ∃ n a x far, m = .storeX n a x far
  · obtain ⟨n, a, x, far, rfl⟩ := hx
    simp only [MI.ops, List.mem_cons] at h
    exact storeX_cong (h _ (.inl rfl)) (h _ (.inr (.inl rfl))) (fun o ho => h o (.inr (.inr ho))) H
  cases m <;> simp only [MI.ops, List.mem_cons, List.mem_append, List.not_mem_nil, or_false, forall_eq_or_imp, forall_eq] at h <;> simp only [evM] <;>
    first
    | rfl
    | rw [h]
    | rw [h.1, h.2]
    | rw [h.1, h.2.1, h.2.2]
    | rw [parts_cong h]
    | rw [h.1, map_cong h.2]
    | rw [map_cong fun o ho => h o (.inl ho), map_cong fun o ho => h o (.inr ho)]
    | simp only [h.1, bound_cong fun o ho => h.2 o (.inl ho), bound_cong fun o ho => h.2 o (.inr ho)]
    | exact absurd ⟨_, _, _, _, rfl⟩ hx
theorem callee_cong {f g : Fr} {x : Operand} {args : List Operand} (h : ev f x = ev g x) (h2 : ∀ o ∈ args, ev f o = ev g o) : callee f x args = callee g x args := by
  unfold callee; rw [h, map_cong h2]
theorem evOp_cong {call : CallH} {m : MI} {f g : Fr} (h : ∀ o ∈ m.ops, ev f o = ev g o) (H : AH) : evOp call m f H = evOp call m g H := by
  cases hm : m.isCall with
  | false => rw [evOp_evM hm, evOp_evM hm, evM_cong h]
  | true =>
    cases m <;> simp only [MI.isCall, Bool.false_eq_true] at hm
    simp only [MI.ops, List.mem_cons, forall_eq_or_imp] at h
    simp only [evOp, callee_cong h.1 h.2]
theorem rdBlk_cong {m : MI} {f g : Fr} (h : ∀ o ∈ m.ops, ev f o = ev g o) : m.rdBlk f = m.rdBlk g := by
  cases m <;> simp only [MI.rdBlk] <;> simp only [MI.ops, List.mem_cons, List.not_mem_nil, or_false, forall_eq_or_imp, forall_eq] at h <;> first | rw [h] | rw [h.1]
/-- The temporaries that an operation looks at. -/
def MOp.looks (o : MOp) : List Tmp :=
  (match o.guard with | some (t, _) => [t] | none => []) ++ (o.op.ops.filterMap fun | .tmp t => some t | _ => none)
theorem evV_cong {call : CallH} {bs : Nat} {o : MOp} {f g : Fr} (h : ∀ t ∈ o.looks, f t = g t) (H : AH) : evV call bs o f H = evV call bs o g H := by
  have h1 : ∀ x ∈ o.op.ops, ev f x = ev g x := fun x hx => by
    cases x with
    | tmp t => exact h t (List.mem_append_right _ (List.mem_filterMap.2 ⟨_, hx, rfl⟩))
    | _ => rfl
  have h2 : evG call bs o f H = evG call bs o g H := by simp only [evG, evOp_cong h1, rdBlk_cong h1]
  unfold evV
  cases hg : o.guard with
  | none => exact h2
  | some tw =>
    obtain ⟨t, want⟩ := tw
    have : f t = g t := h t (by simp [MOp.looks, hg])
    simp only [this, h2]

/-- Neither writes what the other looks at or writes. -/
def MOp.apart (x y : MOp) : Bool :=
  (match x.dst with
   | some d => !(y.looks).contains d && y.dst != some d
   | none => true) &&
  (match y.dst with
   | some d => !(x.looks).contains d
   | none => true)
theorem apart_spec {x y : MOp} (h : x.apart y = true) : (∀ d, x.dst = some d → d ∉ y.looks) ∧ (∀ d, x.dst = some d → y.dst ≠ some d) ∧ (∀ d, y.dst = some d → d ∉ x.looks) := by
  refine ⟨fun d hd => ?_, fun d hd => ?_, fun d hd => ?_⟩ <;> simp [MOp.apart, hd] at h
  · exact h.1.1
  · exact h.1.2
  · exact h.2
theorem put_ne {f : Fr} {d : Option Tmp} {v : Value} {t : Tmp} (h : d ≠ some t) : put f d v t = f t := by
  cases d with
  | none => rfl
  | some d => simp only [put, upd]; rw [if_neg]; intro e; exact h (by rw [e])
theorem put_comm {f : Fr} {x y : Option Tmp} {v u : Value} (h : ∀ d, x = some d → y ≠ some d) : put (put f x v) y u = put (put f y u) x v := by
  cases x with
  | none => rfl
  | some d =>
    cases y with
    | none => rfl
    | some e =>
      have : d ≠ e := fun h' => h d rfl (by rw [h'])
      funext t
      simp only [put, upd]
      split <;> split <;> simp_all
/-- A store that does not hit what is read. -/
def farOk (x y : MI) : Bool :=
  match x, y with
  | .storeX _ _ _ far, .load _ _ (.tmp t) => far.contains t
  | _, _ => false
def clsOk (x y : MOp) : Bool :=
  match x.op.cls, y.op.cls with
  | .read, .write => farOk y.op x.op
  | .write, .read => farOk x.op y.op
  | .pure, _ | _, .pure | .read, .read | .read, .grow => true
  | .grow, .read => y.old
  | _, _ => false

/-- What a call is known to keep. -/
def CallExt (call : CallH) : Prop := ∀ n vs H v H', call n vs H = some (v, H') → Ext H H'
section
variable {call : CallH} {bs : Nat}
theorem evOp_ext (hc : CallExt call) {m : MI} {f : Fr} {H H1 : AH} {v : Value} (h : evOp call m f H = some (v, H1)) : Ext H H1 := by
  cases hm : m.isCall with
  | false => rw [evOp_evM hm] at h; exact evM_ext h
  | true =>
    cases m <;> simp only [MI.isCall, Bool.false_eq_true] at hm
    simp only [evOp] at h
    split at h
    · split at h
      · split at h
        · rename_i H2 h2
          split at h
          · rename_i hl
            simp only [Option.some.injEq, Prod.mk.injEq] at h
            obtain ⟨_, rfl⟩ := h
            have := hc _ _ _ _ _ h2
            exact ⟨this.nx, Nat.le_refl _, fun id h1 _ => this.same id h1 (by rw [hl]; exact h1)⟩
          · simp at h
        · simp at h
      · exact hc _ _ _ _ _ h
    · simp at h
theorem evOp_grow (hc : CallExt call) {m : MI} (hm : m.cls = .grow) {f : Fr} {H H1 : AH} {v : Value} (h : evOp call m f H = some (v, H1)) : Same H H1 := by
  cases hi : m.isCall with
  | false => rw [evOp_evM hi] at h; exact evM_grow hm h
  | true =>
    cases m <;> simp only [MI.isCall, Bool.false_eq_true] at hi
    simp only [MI.cls] at hm
    split at hm
    · rename_i hp
      simp only [evOp, hp, if_true] at h
      split at h
      · split at h
        · rename_i H2 h2
          split at h
          · rename_i hl
            simp only [Option.some.injEq, Prod.mk.injEq] at h
            obtain ⟨_, rfl⟩ := h
            have := hc _ _ _ _ _ h2
            exact ⟨this.nx, rfl, fun id h1 => this.same id h1 (by rw [hl]; exact h1)⟩
          · simp at h
        · simp at h
      · simp at h
    · simp at hm
theorem evG_evOp {o : MOp} {f : Fr} {H H1 : AH} {v : Value} (h : evG call bs o f H = some (v, H1)) : evOp call o.op f H = some (v, H1) := by
  unfold evG at h
  split at h
  · split at h
    · exact h
    · simp at h
  · exact h
theorem evV_ext (hc : CallExt call) {o : MOp} {f : Fr} {H H1 : AH} {v : Value} (h : evV call bs o f H = some (v, H1)) : Ext H H1 := by
  unfold evV at h
  split at h
  · exact evOp_ext hc (evG_evOp h)
  · split at h
    · split at h
      · exact evOp_ext hc (evG_evOp h)
      · simp only [Option.some.injEq, Prod.mk.injEq] at h; obtain ⟨_, rfl⟩ := h; exact .refl _
    · simp only [Option.some.injEq, Prod.mk.injEq] at h; obtain ⟨_, rfl⟩ := h; exact .refl _
    · simp at h
theorem cls_isCall {m : MI} (h : m.cls = .pure ∨ m.cls = .read) : m.isCall = false := by
  cases m <;> first | rfl | (simp only [MI.cls] at h; split at h <;> simp at h)
theorem evV_pure {o : MOp} (ho : o.op.cls = .pure) {f : Fr} {H H1 : AH} {v : Value} (h : evV call bs o f H = some (v, H1)) : H1 = H ∧ ∀ H', evV call bs o f H' = some (v, H') := by
  have hG : ∀ {H H1 : AH} {v : Value}, evG call bs o f H = some (v, H1) → H1 = H ∧ ∀ H', evG call bs o f H' = some (v, H') := fun h => by
    have h2 := evG_evOp h
    rw [evOp_evM (cls_isCall (.inl ho))] at h2
    obtain ⟨e1, e2⟩ := evM_pure ho h2
    refine ⟨e1, fun H' => ?_⟩
    unfold evG at h ⊢
    split at h
    · rename_i h3
      rw [if_pos h3]
      split at h
      · rename_i h4; rw [if_pos h4, evOp_evM (cls_isCall (.inl ho))]; exact e2 H'
      · simp at h
    · rename_i h3; rw [if_neg h3, evOp_evM (cls_isCall (.inl ho))]; exact e2 H'
  unfold evV at h ⊢
  split at h
  · exact hG h
  · split at h
    · split at h
      · rename_i h4; simp only [h4, if_true]; exact hG h
      · rename_i h4
        simp only [Option.some.injEq, Prod.mk.injEq] at h; obtain ⟨rfl, rfl⟩ := h
        simp [h4]
    · simp only [Option.some.injEq, Prod.mk.injEq] at h; obtain ⟨rfl, rfl⟩ := h
      simp
    · simp at h
theorem fst_some {α β : Type} {x : Option (α × β)} {a : α} (h : x.map (·.1) = some a) : ∃ b, x = some (a, b) := by
  cases x with
  | none => simp at h
  | some p => obtain ⟨a', b⟩ := p; simp at h; exact ⟨b, by rw [h]⟩
theorem evM_read_at {m : MI} (hm : m.cls = .read) {f : Fr} {H H' H1 : AH} {v : Value} (h : evM m f H = some (v, H1)) (hl : ∀ b ∈ m.rdBlk f, b < H'.next) (hg : ∀ b ∈ m.rdBlk f, ∀ j, j ≤ b → H'.get j = H.get j) : evM m f H' = some (v, H') := by
  have := evM_read_cong hm (fun b hb => ⟨(evM_read hm h).2 b hb, hl b hb⟩) hg
  rw [h] at this
  obtain ⟨H2, h2⟩ := fst_some this
  rw [h2, (evM_read hm h2).1]
theorem evV_read {o : MOp} (ho : o.op.cls = .read) {f : Fr} {H H1 : AH} {v : Value} (h : evV call bs o f H = some (v, H1)) : H1 = H ∧ (∀ H', Same H H' → evV call bs o f H' = some (v, H')) ∧ (o.old = true → ∀ H', Same H' H → bs ≤ H'.next → evV call bs o f H' = some (v, H')) := by
  have hG : ∀ {H H1 : AH} {v : Value}, evG call bs o f H = some (v, H1) → H1 = H ∧ (∀ H', Same H H' → evG call bs o f H' = some (v, H')) ∧ (o.old = true → ∀ H', Same H' H → bs ≤ H'.next → evG call bs o f H' = some (v, H')) := fun {H H1 v} h => by
    have h2 := evG_evOp h
    rw [evOp_evM (cls_isCall (.inr ho))] at h2
    obtain ⟨e1, e2⟩ := evM_read ho h2
    have fwd : ∀ H', Same H H' → evOp call o.op f H' = some (v, H') := fun H' hs => by
      rw [evOp_evM (cls_isCall (.inr ho))]
      exact evM_read_at ho h2 (fun b hb => Nat.lt_of_lt_of_le (e2 b hb) hs.nx) fun b hb j hj => hs.same j (Nat.lt_of_le_of_lt hj (e2 b hb))
    refine ⟨e1, fun H' hs => ?_, fun hold H' hs hb => ?_⟩
    · unfold evG at h ⊢
      split at h
      · rename_i h3
        rw [if_pos h3]
        split at h
        · rename_i h4; rw [if_pos h4]; exact fwd H' hs
        · simp at h
      · rename_i h3; rw [if_neg h3]; exact fwd H' hs
    · unfold evG at h ⊢
      rw [if_pos hold] at h ⊢
      split at h
      · rename_i h4
        rw [if_pos h4, evOp_evM (cls_isCall (.inr ho))]
        have hall : ∀ b ∈ o.op.rdBlk f, b < H'.next := fun b hb' => by
          have := List.all_eq_true.1 h4 b hb'
          simp only [decide_eq_true_eq] at this
          omega
        refine evM_read_at ho h2 hall fun b hb' j hj => (hs.same j ?_).symm
        have := hall b hb'
        omega
      · simp at h
  unfold evV at h ⊢
  split at h
  · exact hG h
  · split at h
    · split at h
      · rename_i h4; simp only [h4, if_true]; exact hG h
      · rename_i h4
        simp only [Option.some.injEq, Prod.mk.injEq] at h; obtain ⟨rfl, rfl⟩ := h
        simp [h4]
    · simp only [Option.some.injEq, Prod.mk.injEq] at h; obtain ⟨rfl, rfl⟩ := h
      simp
    · simp at h
theorem evV_grow (hc : CallExt call) {o : MOp} (ho : o.op.cls = .grow) {f : Fr} {H H1 : AH} {v : Value} (h : evV call bs o f H = some (v, H1)) : Same H H1 := by
  unfold evV at h
  split at h
  · exact evOp_grow hc ho (evG_evOp h)
  · split at h
    · split at h
      · exact evOp_grow hc ho (evG_evOp h)
      · simp only [Option.some.injEq, Prod.mk.injEq] at h; obtain ⟨_, rfl⟩ := h; exact .refl _
    · simp only [Option.some.injEq, Prod.mk.injEq] at h; obtain ⟨_, rfl⟩ := h; exact .refl _
    · simp at h
theorem ldc_get {H H' : AH} {a : Addr} {n : Nat} (h : H'.get a.block = H.get a.block) : ldc H' a n = ldc H a n := by unfold ldc; rw [h]
theorem evV_load_at {o : MOp} {ag : Bool} {n : Nat} {t : Tmp} (ho : o.op = .load ag n (.tmp t)) {f : Fr} {H H' H1 : AH} {v : Value} (h : evV call bs o f H = some (v, H1)) (hg : ∀ p, f t = .pointer (some p) → H'.get p.block = H.get p.block) : H1 = H ∧ evV call bs o f H' = some (v, H') := by
  have hE : ∀ {v : Value} {H1 : AH}, evM (.load ag n (.tmp t)) f H = some (v, H1) → H1 = H ∧ evM (.load ag n (.tmp t)) f H' = some (v, H') := fun {v H1} h => by
    simp only [evM, ev] at h ⊢
    cases hp : f t with
    | pointer a =>
      cases a with
      | none => rw [hp] at h; simp at h
      | some p =>
        rw [hp] at h
        simp only at h ⊢
        rw [ldc_get (hg p hp)]
        split at h
        · split at h
          · simp only [Option.some.injEq, Prod.mk.injEq] at h; exact ⟨h.2.symm, by rw [h.1]⟩
          · simp at h
        · simp at h
    | _ => rw [hp] at h; simp at h
  have hG : ∀ {v : Value} {H1 : AH}, evG call bs o f H = some (v, H1) → H1 = H ∧ evG call bs o f H' = some (v, H') := fun {v H1} h => by
    unfold evG at h ⊢
    have e : ∀ X, evOp call o.op f X = evM (.load ag n (.tmp t)) f X := fun X => by rw [ho]; rfl
    simp only [e] at h ⊢
    split at h
    · rename_i h3
      rw [if_pos h3]
      split at h
      · rename_i h4; rw [if_pos h4]; exact hE h
      · simp at h
    · rename_i h3; rw [if_neg h3]; exact hE h
  unfold evV at h ⊢
  split at h
  · exact hG h
  · split at h
    · split at h
      · rename_i h4; simp only [h4, if_true]; exact hG h
      · rename_i h4
        simp only [Option.some.injEq, Prod.mk.injEq] at h; obtain ⟨rfl, rfl⟩ := h
        simp [h4]
    · simp only [Option.some.injEq, Prod.mk.injEq] at h; obtain ⟨rfl, rfl⟩ := h
      simp
    · simp at h
/-- What a store into another block leaves alone. -/
theorem evV_far {o : MOp} {n : Nat} {a x : Operand} {far : List Tmp} (ho : o.op = .storeX n a x far) {f : Fr} {H H1 : AH} {v : Value} (h : evV call bs o f H = some (v, H1)) {t : Tmp} (ht : t ∈ far) (p : Addr) (hp : f t = .pointer (some p)) : H1.get p.block = H.get p.block := by
  have hE : ∀ {v : Value} {H1 : AH}, evM (.storeX n a x far) f H = some (v, H1) → H1.get p.block = H.get p.block := fun {v H1} h => by
    simp only [evM] at h
    split at h
    · split at h
      · rename_i q hq hfar
        have h5 := List.all_eq_true.1 hfar t ht
        rw [hp] at h5
        simp only [decide_eq_true_eq] at h5
        split at h
        · split at h
          · rename_i h1
            simp only [Option.some.injEq, Prod.mk.injEq] at h
            obtain ⟨_, rfl⟩ := h
            unfold stc at h1
            split at h1
            · unfold stU at h1
              split at h1
              · split at h1
                · obtain rfl := Option.some.inj h1; exact AH.get_set_ne _ _ h5
                · simp at h1
              · simp at h1
            · simp at h1
          · simp at h
        · simp at h
      · simp at h
    · simp at h
  have hG : ∀ {v : Value} {H1 : AH}, evG call bs o f H = some (v, H1) → H1.get p.block = H.get p.block := fun {v H1} h => by
    unfold evG at h
    have e : ∀ X, evOp call o.op f X = evM (.storeX n a x far) f X := fun X => by rw [ho]; rfl
    simp only [e] at h
    split at h
    · split at h
      · exact hE h
      · simp at h
    · exact hE h
  unfold evV at h
  split at h
  · exact hG h
  · split at h
    · split at h
      · exact hG h
      · simp only [Option.some.injEq, Prod.mk.injEq] at h; obtain ⟨_, rfl⟩ := h; rfl
    · simp only [Option.some.injEq, Prod.mk.injEq] at h; obtain ⟨_, rfl⟩ := h; rfl
    · simp at h
/-- A store looks at its own block alone: it can be done ahead of what reads another one. -/
theorem farOk_spec {x y : MI} (h : farOk x y = true) : ∃ n a z far ag k t, x = .storeX n a z far ∧ y = .load ag k (.tmp t) ∧ t ∈ far := by
  unfold farOk at h
  split at h
  · exact ⟨_, _, _, _, _, _, _, rfl, rfl, by simpa using h⟩
  · simp at h
theorem evV_swap (hc : CallExt call) {x y : MOp} (hk : clsOk x y = true) {f : Fr} {H H1 H2 : AH} {v u : Value} (hb : bs ≤ H.next)
    (h1 : evV call bs x f H = some (v, H1)) (h2 : evV call bs y f H1 = some (u, H2)) : ∃ H', evV call bs y f H = some (u, H') ∧ evV call bs x f H' = some (v, H2) := by
  cases hx : x.op.cls with
  | pure =>
    obtain ⟨e1, e2⟩ := evV_pure hx h1
    rw [e1] at h2
    exact ⟨H2, h2, e2 H2⟩
  | read =>
    obtain ⟨e1, e2, e3⟩ := evV_read hx h1
    rw [e1] at h2
    cases hy : y.op.cls with
    | pure => obtain ⟨f1, f2⟩ := evV_pure hy h2; exact ⟨_, h2, by rw [f1]; exact e2 _ (.refl _)⟩
    | read => obtain ⟨f1, f2, f3⟩ := evV_read hy h2; exact ⟨_, h2, by rw [f1]; exact e2 _ (.refl _)⟩
    | grow => exact ⟨_, h2, e2 _ (evV_grow hc hy h2)⟩
    | write =>
      simp only [clsOk, hx, hy] at hk
      obtain ⟨n, a, z, far, ag, k, t, ey, ex, ht⟩ := farOk_spec hk
      exact ⟨_, h2, (evV_load_at ex h1 fun p hp => evV_far ey h2 ht p hp).2⟩
  | grow =>
    have hs := evV_grow hc hx h1
    cases hy : y.op.cls with
    | pure => obtain ⟨f1, f2⟩ := evV_pure hy h2; exact ⟨_, f2 H, by rw [f1]; exact h1⟩
    | read =>
      obtain ⟨f1, f2, f3⟩ := evV_read hy h2
      simp only [clsOk, hx, hy] at hk
      exact ⟨_, f3 hk H hs hb, by rw [f1]; exact h1⟩
    | grow => simp [clsOk, hx, hy] at hk
    | write => simp [clsOk, hx, hy] at hk
  | write =>
    cases hy : y.op.cls with
    | pure => obtain ⟨f1, f2⟩ := evV_pure hy h2; exact ⟨_, f2 H, by rw [f1]; exact h1⟩
    | read =>
      simp only [clsOk, hx, hy] at hk
      obtain ⟨n, a, z, far, ag, k, t, ex, ey, ht⟩ := farOk_spec hk
      obtain ⟨f1, f2⟩ := evV_load_at ey h2 (H' := H) fun p hp => (evV_far ex h1 ht p hp).symm
      exact ⟨H, f2, by rw [f1]; exact h1⟩
    | _ => simp [clsOk, hx, hy] at hk
theorem evMOp_swap (hc : CallExt call) {x y : MOp} (ha : x.apart y = true) (hk : clsOk x y = true) {f f1 f2 : Fr} {H H1 H2 : AH} (hb : bs ≤ H.next)
    (h1 : evMOp call bs x f H = some (f1, H1)) (h2 : evMOp call bs y f1 H1 = some (f2, H2)) : ∃ f' H', evMOp call bs y f H = some (f', H') ∧ evMOp call bs x f' H' = some (f2, H2) := by
  obtain ⟨a1, a2, a3⟩ := apart_spec ha
  unfold evMOp at h1 h2
  split at h1
  · rename_i v K1 hv
    simp only [Option.some.injEq, Prod.mk.injEq] at h1
    obtain ⟨rfl, rfl⟩ := h1
    split at h2
    · rename_i u K2 hu
      simp only [Option.some.injEq, Prod.mk.injEq] at h2
      obtain ⟨rfl, rfl⟩ := h2
      rw [evV_cong (g := f) (fun t ht => put_ne fun e => a1 t e ht)] at hu
      obtain ⟨H', k1, k2⟩ := evV_swap hc hk hb hv hu
      refine ⟨put f y.dst u, H', by simp only [evMOp, k1], ?_⟩
      simp only [evMOp]
      rw [evV_cong (g := f) (fun t ht => put_ne fun e => a3 t e ht), k2]
      simp only [Option.some.injEq, Prod.mk.injEq, and_true]
      exact (put_comm a2).symm
    · simp at h2
  · simp at h1
theorem evMOp_ext (hc : CallExt call) {o : MOp} {f f1 : Fr} {H H1 : AH} (h : evMOp call bs o f H = some (f1, H1)) : Ext H H1 := by
  unfold evMOp at h
  split at h
  · rename_i hv
    simp only [Option.some.injEq, Prod.mk.injEq] at h
    obtain ⟨_, rfl⟩ := h
    exact evV_ext hc hv
  · simp at h
def pairOk (x y : MOp) : Bool := x.apart y && clsOk x y
theorem evOps_bubble (hc : CallExt call) {y : MOp} {post : List MOp} {r : Fr × AH} : ∀ (pre : List MOp) (f : Fr) (H : AH), (∀ x ∈ pre, pairOk x y = true) → bs ≤ H.next → evOps call bs (pre ++ y :: post) f H = some r →
    ∃ f1 H1, evMOp call bs y f H = some (f1, H1) ∧ evOps call bs (pre ++ post) f1 H1 = some r := by
  intro pre
  induction pre with
  | nil =>
    intro f H _ hb h
    simp only [List.nil_append, evOps] at h
    split at h
    · rename_i f' H' h'; exact ⟨f', H', h', h⟩
    · simp at h
  | cons x pre ih =>
    intro f H hp hb h
    simp only [List.cons_append, evOps] at h
    split at h
    · rename_i f' H' h'
      obtain ⟨f1, H1, k1, k2⟩ := ih f' H' (fun z hz => hp z (List.mem_cons_of_mem _ hz)) (Nat.le_trans hb (evMOp_ext hc h').nx) h
      have := hp x (List.mem_cons_self ..)
      simp only [pairOk, Bool.and_eq_true] at this
      obtain ⟨g, K, j1, j2⟩ := evMOp_swap hc this.1 this.2 hb h' k1
      exact ⟨g, K, j1, by simp only [List.cons_append, evOps, j2, k2]⟩
    · simp at h
theorem evOps_ext (hc : CallExt call) : ∀ (l : List MOp) {f f1 : Fr} {H H1 : AH}, evOps call bs l f H = some (f1, H1) → Ext H H1 := by
  intro l
  induction l with
  | nil => intro f f1 H H1 h; simp only [evOps, Option.some.injEq, Prod.mk.injEq] at h; obtain ⟨_, rfl⟩ := h; exact .refl _
  | cons o l ih =>
    intro f f1 H H1 h
    simp only [evOps] at h
    split at h
    · rename_i h'; exact (evMOp_ext hc h').trans (ih h)
    · simp at h
theorem iter_ext {b : Fr → AH → Option (Ex × Fr × AH)} (hb : ∀ f H e f' H', b f H = some (e, f', H') → Ext H H') : ∀ (n : Nat) {f : Fr} {H : AH} {e : Ex} {f' : Fr} {H' : AH}, iter b n f H = some (e, f', H') → Ext H H' := by
  intro n
  induction n with
  | zero => intro f H e f' H' h; simp [iter] at h
  | succ n ih =>
    intro f H e f' H' h
    simp only [iter] at h
    split at h
    · rename_i f1 H1 h1; exact (hb _ _ _ _ _ h1).trans (ih h)
    · exact hb _ _ _ _ _ h
theorem evC_ext (hc : CallExt call) {k : Nat} : ∀ (m : MCode) {f : Fr} {H : AH} {e : Ex} {f' : Fr} {H' : AH}, evC call k m f H = some (e, f', H') → Ext H H' := by
  intro m
  induction m with
  | skip => intro f H e f' H' h; simp only [evC, Option.some.injEq, Prod.mk.injEq] at h; obtain ⟨_, _, rfl⟩ := h; exact .refl _
  | ops l =>
    intro f H e f' H' h
    simp only [evC] at h
    split at h
    · rename_i h1; simp only [Option.some.injEq, Prod.mk.injEq] at h; obtain ⟨_, _, rfl⟩ := h; exact evOps_ext hc _ h1
    · simp at h
  | opsD l =>
    intro f H e f' H' h
    simp only [evC] at h
    split at h
    · rename_i h1; simp only [Option.some.injEq, Prod.mk.injEq] at h; obtain ⟨_, _, rfl⟩ := h; exact evOps_ext hc _ h1
    · simp at h
  | seq a b iha ihb =>
    intro f H e f' H' h
    simp only [evC] at h
    split at h
    · rename_i h1; exact (iha h1).trans (ihb h)
    · exact iha h
  | cond c a b iha ihb =>
    intro f H e f' H' h
    simp only [evC] at h
    split at h
    · split at h
      · exact iha h
      · exact ihb h
    · simp at h
  | block id a ih =>
    intro f H e f' H' h
    simp only [evC] at h
    split at h
    · rename_i h1
      split at h <;> (simp only [Option.some.injEq, Prod.mk.injEq] at h; obtain ⟨_, _, rfl⟩ := h; exact ih h1)
    · exact ih h
  | loop a ih => intro f H e f' H' h; exact iter_ext (fun _ _ _ _ _ => ih) _ h
  | exit id => intro f H e f' H' h; simp only [evC, Option.some.injEq, Prod.mk.injEq] at h; obtain ⟨_, _, rfl⟩ := h; exact .refl _
  | ret => intro f H e f' H' h; simp only [evC, Option.some.injEq, Prod.mk.injEq] at h; obtain ⟨_, _, rfl⟩ := h; exact .refl _
end
theorem blks_ext {H : AH} {bs : List (Option Blk)} : Ext H { H with blks := H.blks ++ bs } := by
  refine ⟨by simp [AH.next], Nat.le_refl _, fun id h _ => ?_⟩
  simp only [AH.get, AH.next] at *
  rw [List.getElem?_append_left h]
theorem back_ext {H H1 : AH} {v : Value} (h : Ext H.enter H1) : Ext H (back H H1 v).2 := by
  have h1 : H.next ≤ H1.next := h.nx
  have h2 : H1.low ≤ H.next := h.low
  have h3 : ∀ id, id < H.next → id < H1.low → H1.get id = H.get id := h.same
  have keep : ¬ H1.low < H.next → Ext H { H1 with low := H.low } := fun hn => ⟨h1, Nat.le_refl _, fun id a _ => h3 id a (by omega)⟩
  unfold back
  split
  · rename_i hl
    exact ⟨h1, Nat.min_le_left _ _, fun id a b => h3 id a (by simp only at b; omega)⟩
  · rename_i hl
    split
    · exact .refl _
    · split
      · split
        · split
          · split
            · exact blks_ext
            · exact keep hl
          · exact keep hl
        · exact keep hl
      · split
        · exact blks_ext
        · exact keep hl
def NatExt (g : CallH → List Value → AH → Option (Value × AH)) : Prop := ∀ call, CallExt call → ∀ vs H v H', g call vs H = some (v, H') → Ext H H'
theorem evF_ext (tbl : Tbl) (hn : ∀ n g, tbl n = some (.nat g) → NatExt g) : ∀ k, CallExt (evF tbl k) := by
  intro k
  induction k with
  | zero => intro n vs H v H' h; simp [evF] at h
  | succ k ih =>
    intro n vs H v H' h
    simp only [evF] at h
    split at h
    · simp at h
    · rename_i g hg; exact hn _ _ hg _ ih _ _ _ _ h
    · split at h
      · rename_i h1
        split at h
        · simp only [Option.some.injEq] at h
          have h' : (back _ _ _).2 = H' := congrArg Prod.snd h
          rw [← h']
          exact back_ext (evC_ext ih _ h1)
        · simp at h
      · rename_i h1
        split at h
        · simp only [Option.some.injEq] at h
          have h' : (back _ _ _).2 = H' := congrArg Prod.snd h
          rw [← h']
          exact back_ext (evC_ext ih _ h1)
        · simp at h
      · simp at h
end Go.Proofs.Ytidpkoaomfbljaa.AM
