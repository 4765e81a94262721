/- What a compiled operation computes is what the model's operation does: the operations that leave the heap alone. -/
import Derived.Test.YtidpkoaomfbljaaAmC
namespace Go.Proofs.Ytidpkoaomfbljaa.AM
open Go Go.RowKit
set_option linter.all false
section
variable {P : Program} {N : Nat} {c : CMap} {H : AH} {w : World} {f : Fr} {ρ : Operand → Value}

theorem guard_pass {op : BinOp} {t : TypeId} {ox oy : Operand} {a b : Value} (h1 : ∀ x y, a = .agg x → b = .agg y → False) (h2 : a = .nilIface → b = .nilIface → False) : (eqGuard op t ox oy a b).run P w = .ok () w := by
  unfold eqGuard
  generalize (!(match op with | .eql => true | .neq => true | _ => false)) = t1
  cases t1
  · rw [if_neg (by simp)]
    split
    · exact (h2 rfl rfl).elim
    · exact (h1 _ _ rfl rfl).elim
    · rfl
  · rfl
theorem depth_succ : ∃ d, Op.maxDepth = d + 1 := ⟨9999, rfl⟩
theorem run_eq_bool {t : TypeId} {a b : Bool} (hu : P.underlying t = some .bool) : (Op.equal t (.bool a) (.bool b)).run P w = .ok (a == b) w := by
  obtain ⟨d, hd⟩ := depth_succ
  unfold Op.equal
  rw [hd]
  simp [Op.equalIn, run_underlying hu]
theorem run_eq_ptr {t e : TypeId} {a b : Option Addr} {r : Bool} (hu : P.underlying t = some (.pointer e)) (h : eqNil a b = some r) : (Op.equal t (.pointer a) (.pointer b)).run P w = .ok r w := by
  obtain ⟨d, hd⟩ := depth_succ
  unfold Op.equal
  rw [hd]
  cases a <;> cases b <;> simp only [eqNil, Option.some.injEq, reduceCtorEq] at h <;> subst h <;> simp [Op.equalIn, run_underlying hu]
theorem run_eq_slc {t e : TypeId} {a b : Option Addr} {m1 k1 m2 k2 : Nat} {r : Bool} (hu : P.underlying t = some (.slice e)) (h : eqNil a b = some r) : (Op.equal t (.slice a m1 k1) (.slice b m2 k2)).run P w = .ok r w := by
  obtain ⟨d, hd⟩ := depth_succ
  unfold Op.equal
  rw [hd]
  cases a <;> cases b <;> simp only [eqNil, Option.some.injEq, reduceCtorEq] at h <;> subst h <;> simp [Op.equalIn, run_underlying hu]
theorem eqNil_congr {a b a' b' : Option Addr} (ha : a'.isNone = a.isNone) (hb : b'.isNone = b.isNone) : eqNil a' b' = eqNil a b := by
  cases a <;> cases b <;> cases a' <;> cases b' <;> simp_all [eqNil]
theorem run_eql {t : TypeId} {x y v : Value} {r : Bool} {op : BinOp} (h1 : ∀ k a k' b, x = .int k a → y = .int k' b → False) (h2 : ∀ k a k' b, x = .float k a → y = .float k' b → False) (h3 : ∀ k a b k' c d, x = .complex k a b → y = .complex k' c d → False) (h4 : ∀ a b, x = .string a → y = .string b → False) (he : (Op.equal t x y).run P w = .ok r w) (h : eqOp op (some r) = some v) : (binOp op t x y).run P w = .ok v w := by
  cases op <;> simp only [eqOp, Option.some.injEq, reduceCtorEq] at h <;> subst h
  · unfold binOp
    split <;> first | (simp [he]; done) | (exfalso; first | exact h1 _ _ _ _ rfl rfl | exact h2 _ _ _ _ rfl rfl | exact h3 _ _ _ _ _ _ rfl rfl | exact h4 _ _ rfl rfl | (simp_all; done))
  · unfold binOp
    split <;> first | (simp [he]; done) | (exfalso; first | exact h1 _ _ _ _ rfl rfl | exact h2 _ _ _ _ rfl rfl | exact h3 _ _ _ _ _ _ rfl rfl | exact h4 _ _ rfl rfl | (simp_all; done))
theorem str_beq (a b : ByteArray) : (a.toList == b.toList) = decide (a = b) := by
  rw [Lib.toList_data, Lib.toList_data]
  by_cases h : a = b
  · subst h; simp
  · have : a.data.toList ≠ b.data.toList := fun e => h (by
      cases a; cases b; simp only [ByteArray.mk.injEq]; exact Array.toList_inj.1 e)
    simp [h, show ¬ a.data = b.data from fun e => this (by rw [e])]
theorem run_intBin {op : BinOp} {t : TypeId} {k : IntKind} {a b : Int} {v : Value} (h1 : op ≠ .shl) (h2 : op ≠ .shr) (h : intBin op k a b = some v) : (binOp op t (.int k a) (.int k b)).run P w = .ok v w ∧ p1 v = true := by
  cases op <;> simp only [intBin, Option.some.injEq, reduceCtorEq, ne_eq] at h h1 h2 <;> first
    | (subst h; refine ⟨?_, rfl⟩; simp [binOp, Op.intArith, Op.intBits, Op.intCmp, bitsK]; done)
    | (subst h; refine ⟨?_, rfl⟩; simp [binOp, Op.intCmp]; rfl)
    | (split at h
       · simp at h
       · rename_i hb; obtain rfl := Option.some.inj h; refine ⟨?_, rfl⟩; simp [binOp, Op.intDiv, hb])
theorem run_bin {op : BinOp} {t : TypeId} {d : TypeDesc} {k : TK} {ox oy : Operand} {x y x' y' v : Value} {n : Nat} (hu : P.underlying t = some d) (hk : tkOf d = some k) (hx : VR n c x x') (hy : VR n c y y') (h : binV k op x y = some v) :
    (do eqGuard op t ox oy x' y'; binOp op t x' y' : Sem Value).run P w = .ok v w ∧ p1 v = true := by
  have hg : (∀ p q, x' = .agg p → y' = .agg q → False) → (x' = .nilIface → y' = .nilIface → False) → (binOp op t x' y').run P w = .ok v w → (do eqGuard op t ox oy x' y'; binOp op t x' y' : Sem Value).run P w = .ok v w := fun h1 h2 h3 => by
    simp only [Sem.run_bind, guard_pass h1 h2, Result.andThen_ok, h3]
  unfold binV at h
  split at h
  · -- whole numbers
    rename_i kx a ky b
    obtain rfl := hx.int
    obtain rfl := hy.int
    split at h
    · unfold shBin at h
      split at h
      · simp at h
      · rename_i hb
        obtain rfl := Option.some.inj h
        exact ⟨hg (by simp) (by simp) (by simp [binOp, Op.shift, hb, shiftK]), rfl⟩
    · unfold shBin at h
      split at h
      · simp at h
      · rename_i hb
        obtain rfl := Option.some.inj h
        exact ⟨hg (by simp) (by simp) (by simp [binOp, Op.shift, hb, shiftK]), rfl⟩
    · rename_i h1 h2
      split at h
      · rename_i e
        subst e
        obtain ⟨r1, r2⟩ := run_intBin (P := P) (w := w) (t := t) (fun e => h1 e) (fun e => h2 e) h
        exact ⟨hg (by simp) (by simp) r1, r2⟩
      · simp at h
  · -- bools
    rename_i a b
    obtain rfl := hx.bool
    obtain rfl := hy.bool
    have hd : d = .bool := by cases d <;> simp [tkOf] at hk; rfl
    subst hd
    exact ⟨hg (by simp) (by simp) (run_eql (by simp) (by simp) (by simp) (by simp) (run_eq_bool hu) h), by cases op <;> simp only [eqOp, Option.some.injEq, reduceCtorEq] at h <;> subst h <;> rfl⟩
  · -- strings
    rename_i a b
    obtain rfl := hx.str
    obtain rfl := hy.str
    cases op <;> simp only [strBin, reduceCtorEq, Option.some.injEq] at h <;> first
      | (subst h; refine ⟨hg (by simp) (by simp) ?_, rfl⟩; simp [binOp, Op.stringOp, str_beq]; done)
      | (split at h
         · rename_i hb
           obtain rfl := Option.some.inj h
           refine ⟨hg (by simp) (by simp) ?_, rfl⟩
           have : ¬ (((a.size + b.size : Nat) : Int) > IntKind.i64.max) := by
             have e : IntKind.i64.max = 9223372036854775807 := by decide
             rw [e]; omega
           simp only [binOp, Op.stringOp]
           rw [if_neg this]; rfl
         · simp at h)
  · -- pointers
    rename_i a b
    obtain ⟨a', rfl, ha⟩ := hx.ptrI
    obtain ⟨b', rfl, hb⟩ := hy.ptrI
    obtain ⟨e, rfl⟩ : ∃ e, d = .pointer e := by cases d <;> simp [tkOf] at hk; exact ⟨_, rfl⟩
    rw [← eqNil_congr ha hb] at h
    cases hq : eqNil a' b' with
    | none => rw [hq] at h; cases op <;> simp [eqOp] at h
    | some r =>
      rw [hq] at h
      exact ⟨hg (by simp) (by simp) (run_eql (by simp) (by simp) (by simp) (by simp) (run_eq_ptr hu hq) h), by cases op <;> simp only [eqOp, Option.some.injEq, reduceCtorEq] at h <;> subst h <;> rfl⟩
  · -- slices
    rename_i a m1 k1 b m2 k2
    obtain ⟨a', k1', rfl, ha⟩ := hx.slcI
    obtain ⟨b', k2', rfl, hb⟩ := hy.slcI
    obtain ⟨e, rfl⟩ : ∃ e, d = .slice e := by cases d <;> simp [tkOf] at hk; exact ⟨_, rfl⟩
    rw [← eqNil_congr ha hb] at h
    cases hq : eqNil a' b' with
    | none => rw [hq] at h; cases op <;> simp [eqOp] at h
    | some r =>
      rw [hq] at h
      exact ⟨hg (by simp) (by simp) (run_eql (by simp) (by simp) (by simp) (by simp) (run_eq_slc hu hq) h), by cases op <;> simp only [eqOp, Option.some.injEq, reduceCtorEq] at h <;> subst h <;> rfl⟩
  · obtain rfl := hx.nilF
    obtain rfl := hy.nilF
    obtain ⟨p1, p2, p3, rfl⟩ : ∃ p1 p2 p3, d = .func p1 p2 p3 := by cases d <;> simp [tkOf] at hk; exact ⟨_, _, _, rfl⟩
    have he : (Op.equal t .nilFunc .nilFunc).run P w = .ok true w := by
      obtain ⟨d, hd⟩ := depth_succ
      unfold Op.equal; rw [hd]; simp [Op.equalIn, run_underlying hu]
    exact ⟨hg (by simp) (by simp) (run_eql (by simp) (by simp) (by simp) (by simp) he h), by cases op <;> simp only [eqOp, Option.some.injEq, reduceCtorEq] at h <;> subst h <;> rfl⟩
  · obtain rfl := hx.nilF
    obtain ⟨a1, a2, rfl, _, _⟩ := hy.funcI
    obtain ⟨p1, p2, p3, rfl⟩ : ∃ p1 p2 p3, d = .func p1 p2 p3 := by cases d <;> simp [tkOf] at hk; exact ⟨_, _, _, rfl⟩
    have he : ∀ fn, (Op.equal t .nilFunc (.func fn a1 a2)).run P w = .ok false w := fun fn => by
      obtain ⟨d, hd⟩ := depth_succ
      unfold Op.equal; rw [hd]; simp [Op.equalIn, run_underlying hu]
    exact ⟨hg (by simp) (by simp) (run_eql (by simp) (by simp) (by simp) (by simp) (he _) h), by cases op <;> simp only [eqOp, Option.some.injEq, reduceCtorEq] at h <;> subst h <;> rfl⟩
  · obtain rfl := hy.nilF
    obtain ⟨a1, a2, rfl, _, _⟩ := hx.funcI
    obtain ⟨p1, p2, p3, rfl⟩ : ∃ p1 p2 p3, d = .func p1 p2 p3 := by cases d <;> simp [tkOf] at hk; exact ⟨_, _, _, rfl⟩
    have he : ∀ fn, (Op.equal t (.func fn a1 a2) .nilFunc).run P w = .ok false w := fun fn => by
      obtain ⟨d, hd⟩ := depth_succ
      unfold Op.equal; rw [hd]; simp [Op.equalIn, run_underlying hu]
    exact ⟨hg (by simp) (by simp) (run_eql (by simp) (by simp) (by simp) (by simp) (he _) h), by cases op <;> simp only [eqOp, Option.some.injEq, reduceCtorEq] at h <;> subst h <;> rfl⟩
  · obtain rfl := hx.nilI
    obtain ⟨u', rfl, _⟩ := hy.ifcI
    obtain ⟨ms, rfl⟩ : ∃ ms, d = .interface ms := by cases d <;> simp [tkOf] at hk; exact ⟨_, rfl⟩
    have he : ∀ t1, (Op.equal t .nilIface (.iface t1 u')).run P w = .ok false w := fun t1 => by
      obtain ⟨d, hd⟩ := depth_succ
      unfold Op.equal; rw [hd]; simp [Op.equalIn, run_underlying hu]
    exact ⟨hg (by simp) (by simp) (run_eql (by simp) (by simp) (by simp) (by simp) (he _) h), by cases op <;> simp only [eqOp, Option.some.injEq, reduceCtorEq] at h <;> subst h <;> rfl⟩
  · obtain rfl := hy.nilI
    obtain ⟨u', rfl, _⟩ := hx.ifcI
    obtain ⟨ms, rfl⟩ : ∃ ms, d = .interface ms := by cases d <;> simp [tkOf] at hk; exact ⟨_, rfl⟩
    have he : ∀ t1, (Op.equal t (.iface t1 u') .nilIface).run P w = .ok false w := fun t1 => by
      obtain ⟨d, hd⟩ := depth_succ
      unfold Op.equal; rw [hd]; simp [Op.equalIn, run_underlying hu]
    exact ⟨hg (by simp) (by simp) (run_eql (by simp) (by simp) (by simp) (by simp) (he _) h), by cases op <;> simp only [eqOp, Option.some.injEq, reduceCtorEq] at h <;> subst h <;> rfl⟩
  · simp at h
end
end Go.Proofs.Ytidpkoaomfbljaa.AM
