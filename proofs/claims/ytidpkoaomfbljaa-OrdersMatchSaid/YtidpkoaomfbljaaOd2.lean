/- Part 2 of the texts that this claim needs. No conditions. -/
import Derived.Laws.BytesArg
import Derived.Laws.IdiomStrings
import Derived.ChangeKeysEq
import Derived.Orders
import Derived.Laws.Sem
import Derived.Test.YtidpkoaomfbljaaProg
import Derived.KernelRfl
import Derived.Test.YtidpkoaomfbljaaOd1
/- More of the same: copy, strings and bytes, literals of slices, arrays that are compared. -/
namespace Go.Proofs.Ytidpkoaomfbljaa.AM
open Go Go.RowKit
set_option linter.all false
section
variable {P : Program} {N : Nat} {c : CMap} {H : AH} {w : World} {f : Fr} {ρ : Operand → Value}

theorem firstV_ok (hs : Sim N c H w) {x x' : Value} (hx : VR H.next c x x') {es n : Nat} {new : List Value} (h : firstV H es n x = some new) :
    ∃ new', (Builtin.firstCells es n x').run P w = .ok new'.toArray w ∧ VRL H.next c new new' ∧ new.all one = true := by
  unfold firstV at h
  split at h
  · rename_i a m cp
    split at h
    · rename_i hnm
      obtain ⟨lc, cs', hc, hlen, hone, hv, hr⟩ := hs.read h
      obtain ⟨k', rfl, _, _, _⟩ := hx.slcL hc
      exact ⟨cs', run_firstCells_some w es n _ m k' cs' (by rw [← hv.1]; exact hlen) (fun j u hj => by rw [add_eq]; exact hr j u hj), hv, hone⟩
    · simp at h
  · rename_i s
    split at h
    · rename_i hc
      obtain ⟨rfl, hn⟩ := hc
      obtain rfl := Option.some.inj h
      rw [hx.str]
      have hall1 : (byteCells s).all p1 = true := by
        rw [List.all_eq_true]
        intro x hx
        obtain ⟨b, _, rfl⟩ := List.mem_map.1 hx
        rfl
      have hp : ((byteCells s).take n).all p1 = true := by
        rw [List.all_eq_true] at hall1 ⊢
        exact fun x hx => hall1 x (List.mem_of_mem_take hx)
      refine ⟨(byteCells s).take n, ?_, .refl hp, p1_one hp⟩
      simp only [Builtin.firstCells]
      refine congrArg (fun z => Result.ok z w) ?_
      apply Array.ext'
      simp [byteCells, Lib.extract_data, List.map_take]
    · simp at h
  · simp at h
theorem lenV_ok {x x' : Value} {n k : Nat} (hx : VR n c x x') (h : lenV x = some k) : (Builtin.lenOf x').run P w = .ok k w := by
  unfold lenV at h
  split at h
  · obtain rfl := Option.some.inj h
    obtain ⟨a', k', rfl, _⟩ := hx.slcI
    rfl
  · obtain rfl := Option.some.inj h
    rw [hx.str]; rfl
  · simp at h
theorem copy_ok (hs : Sim N c H w) {t tx ty e : TypeId} {i : TypeInfo} (ht : P.underlying t = some (.slice e)) (hi : P.info? e = some i) {a : Addr} {n cp : Nat} {d' x x' : Value} (hd : VR H.next c (.slice (some a) n cp) d') (hx : VR H.next c x x') {k : Nat} (hk : lenV x = some k) {new : List Value} (hnew : firstV H i.size (Nat.min k n) x = some new) {H' : AH} (h : stU H a new = some H') :
    Does P N c H w (Builtin.copy_ #[t, tx] ty #[d', x']) (.int .i64 (Nat.min k n)) H' := by
  obtain ⟨new', e1, e2, e3⟩ := firstV_ok (P := P) hs hx hnew
  obtain ⟨b, hb, hro, hle, rfl⟩ := stU_inv h
  obtain ⟨l, hc, hbr⟩ := hs.at_ hb
  obtain ⟨k', rfl, _, _, _⟩ := hd.slcL hc
  obtain ⟨w', g1, g2, g3⟩ := hs.store hb hc hro e2 hle e3 P
  exact ⟨.int .i64 (Nat.min k n), c, w', by simp [Builtin.copy_, run_underlying ht, lenV_ok hx hk, run_sizeOf hi, e1, g1, goInt], .plain rfl, g2, g3⟩
theorem bytesOf_some : ∀ {l : List Value} {bs : List UInt8}, bytesOf l = some bs → ∃ xs : List Int, l = xs.map (Value.int .u8) ∧ bs = xs.map fun n => UInt8.ofNat n.toNat
  | [], bs, h => by simp only [bytesOf, Option.some.injEq] at h; subst h; exact ⟨[], rfl, rfl⟩
  | v :: l, bs, h => by
    simp only [bytesOf] at h
    split at h
    · rename_i b bs' h1 h2
      obtain rfl := Option.some.inj h
      obtain ⟨xs, rfl, rfl⟩ := bytesOf_some h2
      unfold byteOf at h1
      split at h1
      · rename_i n
        obtain rfl := Option.some.inj h1
        exact ⟨n :: xs, rfl, rfl⟩
      · simp at h1
    · simp at h
theorem toStr_ok (hs : Sim N c H w) {src dst e : TypeId} (h1 : P.underlying src = some (.slice e)) (h2 : P.underlying e = some (.int .u8)) (h3 : P.underlying dst = some .string) {a : Addr} {n cp : Nat} {x' : Value} (hx : VR H.next c (.slice (some a) n cp) x') {l : List Value} (hl : ldc H a n = some l) {bs : List UInt8} (hb : bytesOf l = some bs) :
    Does P N c H w (convert src dst x') (.string ⟨bs.toArray⟩) H := by
  obtain ⟨xs, rfl, rfl⟩ := bytesOf_some hb
  obtain ⟨lc, cs', hc, hlen, hone, hv, hr⟩ := hs.read hl
  obtain ⟨k', rfl, _, _, _⟩ := hx.slcL hc
  have hp : (xs.map (Value.int .u8)).all p1 = true := by
    rw [List.all_eq_true]
    intro x hx
    obtain ⟨b, _, rfl⟩ := List.mem_map.1 hx
    rfl
  have := hv.eq1 hp
  subst this
  refine .pure hs (run_convert_bytes_arg w src e h1 h2 lc.blk (lc.sh + a.off) n k' xs (by simpa using hlen) (fun j hj => ?_) dst h3) (.plain rfl)
  have hj' : j < xs.length := by simp at hlen; omega
  exact hr j _ (by simp [List.getD_eq_getElem?_getD, hj'])
theorem toBytes_ok (hs : Sim N c H w) {src dst e : TypeId} (h1 : P.underlying src = some .string) (h2 : P.underlying dst = some (.slice e)) (h3 : P.underlying e = some (.int .u8)) (s : ByteArray) :
    Does P N c H w (convert src dst (.string s)) (.slice (some ⟨H.next, 0, none⟩) s.size s.size) (H.push ⟨byteCells s, 1, false⟩) := by
  have hd : Sim N c H w.drew := hs.same rfl
  have hge := grownCap_ge w s.size 0 e
  have hall1 : (byteCells s).all p1 = true := by
    rw [List.all_eq_true]
    intro x hx
    obtain ⟨b, _, rfl⟩ := List.mem_map.1 hx
    rfl
  have hrow : (bytesRow s (grownCap w s.size 0 e)).toList = byteCells s ++ List.replicate (grownCap w s.size 0 e - s.size) (.int .u8 0) := by
    simp [bytesRow, byteCells]
  have hsz : (bytesRow s (grownCap w s.size 0 e)).size = grownCap w s.size 0 e := by
    have := congrArg List.length hrow
    have hl : (byteCells s).length = s.size := Go.byteCells_length s
    simp only [Array.length_toList, List.length_append, List.length_replicate] at this
    omega
  obtain ⟨c', g1, g2, g3⟩ := new_slice hd (b := ⟨byteCells s, 1, false⟩) (cs := bytesRow s (grownCap w s.size 0 e)) (ty := e) (fz := ((bytesRow s (grownCap w s.size 0 e)).size, (bytesRow s (grownCap w s.size 0 e)).size + 1)) (rest := _) (mid := byteCells s) hrow (.refl hall1) (p1_one hall1) (fun j hj => by omega) (n := s.size) (k := s.size) (k' := grownCap w s.size 0 e) hge (by rw [hsz]; simp)
  exact ⟨_, c', _, run_bytes_of_string w src dst e s h1 h2 h3, g3, g1, (ExtW.drew N c H w).trans g2⟩
theorem buildSlice_ok (hs : Sim N c H w) (hE : ∀ x, opdOk x = true → VR H.next c (ev f x) (ρ x)) {t e : TypeId} {i : TypeInfo} {z : Value} (ht : P.underlying t = some (.slice e)) (hi : P.info? e = some i) (hz : i.zero = some z) (hp : z.cells.toList.all p1 = true) {n : Nat} (hn : n * i.size ≤ 2 ^ 24) (hs0 : 0 < i.size) (hzs : z.cells.size = i.size) {parts : Array (Nat × Operand)} {l : List (Nat × Nat × Operand)} (hl : partsOf P (fun j => some (j * i.size, e)) parts.toList = some l) (ho : ∀ p ∈ parts.toList, opdOk p.2 = true) {cs : List Value} (h : fillC (rep n z.cells.toList) (l.map fun p => (p.1, p.2.1, ev f p.2.2)) = some cs) (hone : cs.all one = true) :
    Does P N c H w (Instr.buildSlice t n (parts.map fun (i, x) => (i, ρ x))) (.slice (some ⟨H.next, 0, none⟩) n n) (H.push ⟨cs, i.size, false⟩) := by
  have hmade := made_list z.cells n (by omega)
  rw [hzs] at hmade
  obtain ⟨r', e1, e2⟩ := fill_of (P := P) (H := H) (c := c) (place' := fun j => some (j * i.size, i.size)) (cs := (rep n z.cells.toList).toArray) (cs' := madeCells z.cells (n * i.size)) hE hl ho (fun j off t ti h1 h2 => by
    simp only [Option.some.injEq, Prod.mk.injEq] at h1
    obtain ⟨rfl, rfl⟩ := h1
    rw [hi] at h2
    obtain rfl := Option.some.inj h2
    rfl) (by rw [hmade]; simpa using VRL.refl (rep_p1 hp)) (by simpa using h)
  have hlen : cs.length = n * i.size := by
    have : ∀ (ps : List (Nat × Nat × Value)) (cs r : List Value), fillC cs ps = some r → r.length = cs.length := by
      intro ps
      induction ps with
      | nil => intro cs r h; simp only [fillC, Option.some.injEq] at h; rw [h]
      | cons q ps ih =>
        intro cs r h
        simp only [fillC] at h
        split at h
        · rw [ih _ _ h, splice_length]
        · simp at h
    rw [this _ _ _ h, rep_length]; simp [hzs]
  obtain ⟨c', g1, g2, g3⟩ := new_slice hs (b := ⟨cs, i.size, false⟩) (cs := r') (ty := e) (fz := (0, 0)) (rest := []) (mid := r'.toList) (by simp) e2 hone (by simp) (n := n) (k := n) (k' := n) (Nat.le_refl _) (by
    have := e2.1
    simp only [Array.length_toList] at this
    rw [← this, hlen]; exact Nat.le_refl _)
  refine ⟨_, c', _, ?_, g3, g1, g2⟩
  have hne : ¬ (n * i.size > 2 ^ 24) := by omega
  by_cases h0 : n * i.size = 0
  · have hm : madeCells z.cells (n * i.size) = (Array.range (n * i.size)).map ((#[] : Array Value)[· % (#[] : Array Value).size]!) := by
      rw [h0]
      apply Array.ext (by simp [madeCells])
      intro i h1 h2
      simp [madeCells] at h1
    rw [hm] at e1
    simp only [Instr.buildSlice, Sem.run_bind, run_underlying ht, Result.andThen_ok, run_sizeOf hi, Sem.run_ite, if_neg hne, if_pos h0, Sem.run_pure, newRow, run_newObj]
    rw [e1]; rfl
  · simp only [Instr.buildSlice, Sem.run_bind, run_underlying ht, Result.andThen_ok, run_sizeOf hi, Sem.run_ite, if_neg hne, if_neg h0, Sem.run_pure, run_zeroValue hi hz, newRow, run_newObj]
    unfold madeCells at e1
    rw [e1]; rfl
theorem cellEq_ok {t : TypeId} {k : TK} (hk : scalarK P t = some k) {d : Nat} {x y x' y' : Value} {n : Nat} (hx : VR n c x x') (hy : VR n c y y') {r : Bool} (h : cellEq k x y = some r) : (Op.equalIn (d + 1) t x' y').run P w = .ok r w := by
  unfold scalarK at hk
  split at hk
  · split at hk
    · rename_i kk hu
      obtain rfl := Option.some.inj hk
      cases x <;> cases y <;> simp only [cellEq, reduceCtorEq] at h
      split at h
      · rename_i e; subst e; obtain rfl := Option.some.inj h; rw [hx.int, hy.int, run_equalIn_int w d t _ _ _ _ hu]; rfl
      · simp at h
    · rename_i hu
      obtain rfl := Option.some.inj hk
      cases x <;> cases y <;> simp only [cellEq, reduceCtorEq] at h
      obtain rfl := Option.some.inj h
      rw [hx.bool, hy.bool]; exact run_equalIn_bool' w d t _ _ hu
    · rename_i hu
      obtain rfl := Option.some.inj hk
      cases x <;> cases y <;> simp only [cellEq, reduceCtorEq] at h
      obtain rfl := Option.some.inj h
      rw [hx.str, hy.str, run_equalIn_string w d t _ _ hu, str_beq]
    · simp at hk
  · simp at hk
theorem scalar_part {t : TypeId} {k : TK} (hk : scalarK P t = some k) {cs : Array Value} {o : Nat} {v : Value} (h : cs[o]? = some v) : (part t cs o).run P w = .ok v w := by
  unfold scalarK at hk
  split at hk
  · split at hk <;> first
      | (rename_i u hu; exact run_part0 hu rfl h)
      | (rename_i hu; exact run_part0 hu rfl h)
      | simp at hk
  · simp at hk
theorem VRL.get {n : Nat} {l l' : List Value} (h : VRL n c l l') {j : Nat} {v : Value} (hj : l[j]? = some v) : ∃ v', l'[j]? = some v' ∧ VR n c v v' := by
  have hlt : j < l.length := by
    rcases Nat.lt_or_ge j l.length with h | h
    · exact h
    · rw [List.getElem?_eq_none h] at hj; simp at hj
  have hlt' : j < l'.length := by rw [← h.1]; exact hlt
  refine ⟨l'[j], List.getElem?_eq_getElem hlt', ?_⟩
  have := h.2 j hlt
  rw [List.getD_eq_getElem?_getD, List.getD_eq_getElem?_getD, hj, List.getElem?_eq_getElem hlt'] at this
  exact this
theorem eqItems_ok {e : TypeId} {k : TK} (hk : scalarK P e = some k) {n : Nat} {a b a' b' : Array Value} (ha : VRL n c a.toList a'.toList) (hb : VRL n c b.toList b'.toList) (d : Nat) : ∀ (is : List Nat) (r : Bool), eqAt a.toList b.toList (is.map fun i => (i, k)) = some r → (Op.eqItems (d + 1) e 1 a' b' is).run P w = .ok r w
  | [], r, h => by simp only [List.map_nil, eqAt, Option.some.injEq] at h; subst h; simp [Op.eqItems]
  | i :: is, r, h => by
    simp only [List.map_cons, eqAt] at h
    split at h
    · rename_i x y hx hy
      split at h
      · rename_i p q hp hq
        obtain rfl := Option.some.inj h
        obtain ⟨x', hx', rx⟩ := ha.get hx
        obtain ⟨y', hy', ry⟩ := hb.get hy
        have ih := eqItems_ok hk ha hb d is q hq
        have e1 := scalar_part (P := P) (w := w) hk (show a'[i]? = some x' by rw [← Array.getElem?_toList]; exact hx')
        have e2 := scalar_part (P := P) (w := w) hk (show b'[i]? = some y' by rw [← Array.getElem?_toList]; exact hy')
        have e3 := cellEq_ok (P := P) (w := w) hk (d := d) rx ry hp
        cases p <;> simp [Op.eqItems, e1, e2, e3, ih]
      · simp at h
    · simp at h
theorem eqFields_ok {n : Nat} {a b a' b' : Array Value} (ha : VRL n c a.toList a'.toList) (hb : VRL n c b.toList b'.toList) (d : Nat) : ∀ (fs : List Field) (l : List (Nat × TK)) (r : Bool), offsOf P fs = some l → eqAt a.toList b.toList l = some r → (Op.eqFields (d + 1) a' b' fs).run P w = .ok r w
  | [], l, r, hl, h => by
    simp only [offsOf, Option.some.injEq] at hl
    subst hl
    simp only [eqAt, Option.some.injEq] at h
    subst h
    simp [Op.eqFields]
  | fd :: fs, l, r, hl, h => by
    simp only [offsOf] at hl
    split at hl
    · rename_i hn
      have ih := eqFields_ok ha hb d fs l r hl h
      simp [Op.eqFields, hn, ih]
    · rename_i hn
      split at hl
      · rename_i k l' hk hl'
        obtain rfl := Option.some.inj hl
        simp only [eqAt] at h
        split at h
        · rename_i x y hx hy
          split at h
          · rename_i p q hp hq
            obtain rfl := Option.some.inj h
            obtain ⟨x', hx', rx⟩ := ha.get hx
            obtain ⟨y', hy', ry⟩ := hb.get hy
            have ih := eqFields_ok ha hb d fs l' q hl' hq
            have e1 := scalar_part (P := P) (w := w) hk (show a'[fd.offset]? = some x' by rw [← Array.getElem?_toList]; exact hx')
            have e2 := scalar_part (P := P) (w := w) hk (show b'[fd.offset]? = some y' by rw [← Array.getElem?_toList]; exact hy')
            have e3 := cellEq_ok (P := P) (w := w) hk (d := d) rx ry hp
            cases p <;> simp [Op.eqFields, hn, e1, e2, e3, ih]
          · simp at h
        · simp at h
      · simp at hl
theorem eqAgg_ok {t : TypeId} {d : TypeDesc} (hu : P.underlying t = some d) {l : List (Nat × TK)} (hd : (∃ n e k, d = .array n e ∧ (P.info? e).isSome = true ∧ scalarK P e = some k ∧ l = (List.range n).map fun i => (i, k)) ∨ (∃ fs, d = .struct fs ∧ P.stoodInHeld t = false ∧ offsOf P fs.toList = some l)) {n : Nat} {a b : Array Value} {x' y' : Value} (hx : VR n c (.agg a) x') (hy : VR n c (.agg b) y') {r : Bool} (h : eqAt a.toList b.toList l = some r) : (Op.equal t x' y').run P w = .ok r w := by
  obtain ⟨a', rfl, ha⟩ := VRL.of_agg hx
  obtain ⟨b', rfl, hb⟩ := VRL.of_agg hy
  obtain ⟨d2, hd2⟩ : ∃ d, Op.maxDepth = (d + 1) + 1 := ⟨9998, rfl⟩
  unfold Op.equal
  rw [hd2]
  rcases hd with ⟨m, e, k, rfl, hi, hk, rfl⟩ | ⟨fs, rfl, hp, hl⟩
  · obtain ⟨i, hi⟩ := Option.isSome_iff_exists.1 hi
    rw [run_equalIn_array w (d2 + 1) a' b' hu hi]
    have h1 : P.cellsOf e = 1 := by
      unfold scalarK at hk
      split at hk
      · assumption
      · simp at hk
    rw [h1]
    exact eqItems_ok hk ha hb d2 _ _ h
  · have hf : P.fieldsOf t = fs := by simp [Program.fieldsOf, hu]
    rw [run_equalIn_struct w (d2 + 1) t a' b' (by rw [hf]; exact hu) hp, hf]
    exact eqFields_ok ha hb d2 _ _ _ hl h
end
end Go.Proofs.Ytidpkoaomfbljaa.AM
/- All operations that are no calls. -/
namespace Go.Proofs.Ytidpkoaomfbljaa.AM
open Go Go.RowKit
set_option linter.all false
section
variable {P : Program} {N : Nat} {c : CMap} {H : AH} {w : World} {f : Fr} {ρ : Operand → Value}

def DoesN (P : Program) (N : Nat) (c : CMap) (H : AH) (w : World) (r : Sem Next) (v : Value) (H' : AH) : Prop :=
  ∃ nx v' c' w', r.run P w = .ok nx w' ∧ (nx = .value v' ∨ (nx = .skip ∧ v' = Go.undef)) ∧ VR H'.next c' v v' ∧ Sim N c' H' w' ∧ ExtW N c H w c' H' w'
theorem Does.val {r : Sem Value} {v : Value} {H' : AH} (h : Does P N c H w r v H') : DoesN P N c H w (do Pure.pure (Next.value (← r))) v H' := by
  obtain ⟨v', c', w', h1, h2, h3, h4⟩ := h
  exact ⟨.value v', v', c', w', by simp [h1], .inl rfl, h2, h3, h4⟩
theorem Does.run1 (hs : Sim N c H w) {r : Sem Value} {v : Value} (h : r.run P w = .ok v w ∧ p1 v = true) : Does P N c H w r v H := .pure hs h.1 (.plain h.2)
theorem VR.addA {n : Nat} {c : CMap} {a : Addr} {v' : Value} (h : VR n c (.pointer (some a)) v') (k : Nat) : ∃ a', v' = .pointer (some a') ∧ VR n c (.pointer (some (addA a k))) (.pointer (some (a'.add k))) := by
  cases h with
  | plain h => simp [p1] at h
  | ptr h1 h2 h3 => exact ⟨_, rfl, by rw [add_eq, Nat.add_assoc]; exact VR.ptr (a := AM.addA a k) h1 h2 rfl⟩
  | ptrDead h1 h2 => exact ⟨_, rfl, .ptrDead h1 h2⟩
theorem VR.slcA {n : Nat} {c : CMap} {a : Addr} {m k : Nat} {v' : Value} (h : VR n c (.slice (some a) m k) v') (j : Nat) : ∃ a' k', v' = .slice (some a') m k' ∧ VR n c (.pointer (some (AM.addA a j))) (.pointer (some (a'.add j))) := by
  cases h with
  | plain h => simp [p1] at h
  | slice h1 h2 h3 h4 h5 => exact ⟨_, _, rfl, by rw [add_eq, Nat.add_assoc]; exact VR.ptr (a := AM.addA a j) h1 h2 rfl⟩
  | sliceDead h1 h2 => exact ⟨_, _, rfl, .ptrDead h1 h2⟩
theorem VR.slcP {n : Nat} {c : CMap} {a : Addr} {m k : Nat} {v' : Value} (h : VR n c (.slice (some a) m k) v') : ∃ a' k', v' = .slice (some a') m k' ∧ VR n c (.pointer (some a)) (.pointer (some a')) := by
  cases h with
  | plain h => simp [p1] at h
  | slice h1 h2 h3 h4 h5 => exact ⟨_, _, rfl, .ptr h1 h2 h3⟩
  | sliceDead h1 h2 => exact ⟨_, _, rfl, .ptrDead h1 h2⟩
theorem opd_map {x : Option Operand} (h : ∀ o ∈ x.toArray.toList, opdOk o = true) (hE : ∀ o, opdOk o = true → VR H.next c (ev f o) (ρ o)) : ∀ o, x = some o → VR H.next c (ev f o) (ρ o) := by
  intro o e
  subst e
  exact hE o (h o (by simp))

theorem arr1 {α : Type} {xs : Array α} {x : α} (h : xs.toList = [x]) : xs = #[x] := by rw [← Array.toList_inj, h]
theorem arr2 {α : Type} {xs : Array α} {x y : α} (h : xs.toList = [x, y]) : xs = #[x, y] := by rw [← Array.toList_inj, h]
theorem builtin_ok (hs : Sim N c H w) (hE : ∀ x, opdOk x = true → VR H.next c (ev f x) (ρ x)) {b : Builtin} {ts : Array TypeId} {xs : Array Operand} {ty : TypeId} {cs : Array Bool} {m : MI} (hc : compBuiltin P b ts.toList xs.toList = some m) (ho : ∀ x ∈ xs.toList, opdOk x = true) {v : Value} {H' : AH} (he : evM m f H = some (v, H')) :
    DoesN P N c H w (builtin b ts ty cs (xs.map ρ)) v H' := by
  unfold compBuiltin at hc
  split at hc
  · -- len
    rename_i t x e1 e2
    have hx := hE x (ho x (by rw [e2]; simp))
    obtain rfl := arr1 e1
    obtain rfl := arr1 e2
    refine Does.val (r := Builtin.len_ #[t] ty (#[x].map ρ)) ?_
    split at hc
    · rename_i hu
      obtain rfl := Option.some.inj hc
      simp only [evM] at he
      split at he
      · rename_i s hv
        rw [hv] at hx
        simp only [Option.some.injEq, Prod.mk.injEq] at he
        obtain ⟨rfl, rfl⟩ := he
        exact .pure hs (by simp [Builtin.len_, run_underlying hu, hx.str, goInt]) (.plain rfl)
      · simp at he
    · rename_i e hu
      obtain rfl := Option.some.inj hc
      simp only [evM] at he
      split at he
      · rename_i a n cp hv
        rw [hv] at hx
        obtain ⟨a', k', e3, _⟩ := hx.slcI
        simp only [Option.some.injEq, Prod.mk.injEq] at he
        obtain ⟨rfl, rfl⟩ := he
        exact .pure hs (by simp [Builtin.len_, run_underlying hu, e3, goInt]) (.plain rfl)
      · simp at he
    · rename_i n e hu
      obtain rfl := Option.some.inj hc
      simp only [evM, Option.some.injEq, Prod.mk.injEq] at he
      obtain ⟨rfl, rfl⟩ := he
      exact .pure hs (by simp [Builtin.len_, run_underlying hu, goInt]) (.plain rfl)
    · rename_i e hu
      split at hc
      · rename_i n e2 hu2
        obtain rfl := Option.some.inj hc
        simp only [evM, Option.some.injEq, Prod.mk.injEq] at he
        obtain ⟨rfl, rfl⟩ := he
        exact .pure hs (by simp [Builtin.len_, run_underlying hu, run_underlying hu2, goInt]) (.plain rfl)
      · simp at hc
    · simp at hc
  · -- cap
    rename_i t x e1 e2
    have hx := hE x (ho x (by rw [e2]; simp))
    obtain rfl := arr1 e1
    obtain rfl := arr1 e2
    refine Does.val (r := Builtin.cap_ #[t] ty (#[x].map ρ)) ?_
    split at hc
    · rename_i e hu
      obtain rfl := Option.some.inj hc
      simp only [evM] at he
      split at he
      · rename_i n cp hv
        rw [hv] at hx
        simp only [Option.some.injEq, Prod.mk.injEq] at he
        obtain ⟨rfl, rfl⟩ := he
        exact .pure hs (by simp [Builtin.cap_, run_underlying hu, hx.slcN, goInt]) (.plain rfl)
      · simp at he
    · simp at hc
  · -- min
    rename_i x xs' e2
    obtain rfl := Option.some.inj hc
    have hx := hE x (ho x (by rw [e2]; simp))
    have hl : VRL H.next c (xs'.map (ev f)) (xs'.map ρ) := VRL.map xs' fun y hy => hE y (ho y (by rw [e2]; simp [hy]))
    refine Does.val (r := Builtin.min_ ts ty (xs.map ρ)) ?_
    simp only [evM] at he
    split at he
    · rename_i u hq
      simp only [Option.some.injEq, Prod.mk.injEq] at he
      obtain ⟨rfl, rfl⟩ := he
      obtain ⟨v', r1, r2⟩ := run_fold (P := P) (w := w) (s := Builtin.min2) (fun x y x' y' v hx hy h => run_min hx hy h) _ _ _ _ _ hx hl hq
      exact .pure hs (v' := v') (by simp [Builtin.min_, e2, r1]) r2
    · simp at he
  · -- max
    rename_i x xs' e2
    obtain rfl := Option.some.inj hc
    have hx := hE x (ho x (by rw [e2]; simp))
    have hl : VRL H.next c (xs'.map (ev f)) (xs'.map ρ) := VRL.map xs' fun y hy => hE y (ho y (by rw [e2]; simp [hy]))
    refine Does.val (r := Builtin.max_ ts ty (xs.map ρ)) ?_
    simp only [evM] at he
    split at he
    · rename_i u hq
      simp only [Option.some.injEq, Prod.mk.injEq] at he
      obtain ⟨rfl, rfl⟩ := he
      obtain ⟨v', r1, r2⟩ := run_fold (P := P) (w := w) (s := Builtin.max2) (fun x y x' y' v hx hy h => run_max hx hy h) _ _ _ _ _ hx hl hq
      exact .pure hs (v' := v') (by simp [Builtin.max_, e2, r1]) r2
    · simp at he
  · -- append
    rename_i t u s x e1 e2
    obtain rfl := arr2 e1
    obtain rfl := arr2 e2
    have hs' := hE s (ho s (by simp))
    have hx := hE x (ho x (by simp))
    refine Does.val (r := Builtin.append_ #[t, u] ty (#[s, x].map ρ)) ?_
    rw [show (#[s, x].map ρ) = #[ρ s, ρ x] from by simp]
    split at hc
    · rename_i e hu
      split at hc
      · rename_i ei hi
        split at hc
        · simp at hc
        · rename_i hsz
          split at hc
          · rename_i e' hku
            split at hc
            · rename_i z hz
              split at hc
              · rename_i hzs
                obtain rfl := Option.some.inj hc
                simp only [evM] at he
                split at he
                · rename_i k new hadd
                  obtain ⟨new', g1, g2, g3, g4⟩ := added_ok (P := P) (tx := u) (e := e) hs hx hadd (.inl ⟨e', hku⟩)
                  exact append_ok hs hu hi hz hzs (by omega) hs' g1 g2 g3 g4 he (by omega)
                · simp at he
              · simp at hc
            · simp at hc
          · rename_i hku
            split at hc
            · rename_i z hz
              split at hc
              · rename_i hzs
                obtain rfl := Option.some.inj hc
                simp only [evM] at he
                split at he
                · rename_i k new hadd
                  obtain ⟨new', g1, g2, g3, g4⟩ := added_ok (P := P) (tx := u) (e := e) hs hx hadd (.inr hku)
                  exact append_ok hs hu hi hz hzs (by omega) hs' g1 g2 g3 g4 he (by omega)
                · simp at he
              · simp at hc
            · simp at hc
          · simp at hc
      · simp at hc
    · simp at hc
  · -- copy
    rename_i t u d s e1 e2
    obtain rfl := arr2 e1
    obtain rfl := arr2 e2
    have hd := hE d (ho d (by simp))
    have hx := hE s (ho s (by simp))
    refine Does.val (r := Builtin.copy_ #[t, u] ty (#[d, s].map ρ)) ?_
    rw [show (#[d, s].map ρ) = #[ρ d, ρ s] from by simp]
    split at hc
    · rename_i e hu
      split at hc
      · rename_i ei hi
        obtain rfl := Option.some.inj hc
        simp only [evM] at he
        split at he
        · rename_i a n cp k hdv hk
          split at he
          · rename_i new hnew
            split at he
            · rename_i H2 hst
              simp only [Option.some.injEq, Prod.mk.injEq] at he
              obtain ⟨rfl, rfl⟩ := he
              rw [hdv] at hd
              exact copy_ok hs hu hi hd hx hk hnew hst
            · simp at he
          · simp at he
        · simp at he
      · simp at hc
    · simp at hc
  · simp at hc
theorem run_places : ∀ (fs : List Field), (∀ f ∈ fs, (P.info? f.type).isSome = true) → (fs.mapM (fun f => (do Pure.pure (f.offset, ← sizeOf f.type) : Sem (Nat × Nat)))).run P w = .ok (fs.map fun f => (f.offset, P.cellsOf f.type)) w
  | [], _ => by simp
  | f :: fs, h => by
    obtain ⟨i, hi⟩ := Option.isSome_iff_exists.1 (h f (by simp))
    have ih := run_places fs (fun g hg => h g (by simp [hg]))
    have e : P.cellsOf f.type = i.size := by simp [Program.cellsOf, hi]
    rw [List.mapM_cons]
    simp only [Sem.run_bind, run_sizeOf hi, Result.andThen_ok, Sem.run_pure, ih, List.map_cons, e]
theorem run_placesA (fs : Array Field) (h : fs.toList.all (fun f => (P.info? f.type).isSome) = true) : (fs.mapM (fun f => (do Pure.pure (f.offset, ← sizeOf f.type) : Sem (Nat × Nat)))).run P w = .ok (fs.toList.map fun f => (f.offset, P.cellsOf f.type)).toArray w := by
  rw [Array.mapM_eq_mapM_toList, Sem.run_map, run_places (P := P) (w := w) fs.toList (List.all_eq_true.1 h)]
  rfl
theorem all_ops {o : Op} (ho : o.operands.toList.all opdOk = true) {x : Operand} (hx : x ∈ o.operands.toList) : opdOk x = true := List.all_eq_true.1 ho x hx
theorem op_ok (hs : Sim N c H w) (hE : ∀ x, opdOk x = true → VR H.next c (ev f x) (ρ x)) {o : Oper} {m : MI} (hc : compOp P o = some m) (ho : o.op.operands.toList.all opdOk = true) (hm : ∀ p g a, m ≠ .call p g a) {v : Value} {H' : AH} (he : evM m f H = some (v, H')) : DoesN P N c H w (execOp ρ o) v H' := by
  unfold compOp at hc
  split at hc
  · -- move
    rename_i x hop
    obtain rfl := Option.some.inj hc
    simp only [evM, Option.some.injEq, Prod.mk.injEq] at he
    obtain ⟨rfl, rfl⟩ := he
    rw [hop] at ho
    have hx := hE x (all_ops ho (by simp [Op.operands]))
    exact ⟨_, _, c, w, by simp [execOp, hop], .inl rfl, hx, hs, .refl _ _ _ _⟩
  · rename_i x hop
    obtain rfl := Option.some.inj hc
    simp only [evM, Option.some.injEq, Prod.mk.injEq] at he
    obtain ⟨rfl, rfl⟩ := he
    rw [hop] at ho
    have hx := hE x (all_ops ho (by simp [Op.operands]))
    exact ⟨_, _, c, w, by simp [execOp, hop], .inl rfl, hx, hs, .refl _ _ _ _⟩
  · -- pick
    rename_i x a b hop
    obtain rfl := Option.some.inj hc
    simp only [evM] at he
    split at he
    · rename_i t hv
      simp only [Option.some.injEq, Prod.mk.injEq] at he
      obtain ⟨rfl, rfl⟩ := he
      rw [hop] at ho
      have hx := hE x (all_ops ho (by simp [Op.operands]))
      have ha := hE a (all_ops ho (by simp [Op.operands]))
      have hb := hE b (all_ops ho (by simp [Op.operands]))
      rw [hv] at hx
      refine ⟨.value (if t = true then ρ a else ρ b), _, c, w, by simp [execOp, hop, hx.bool, asBool], .inl rfl, ?_, hs, .refl _ _ _ _⟩
      cases t
      · exact hb
      · exact ha
    · simp at he
  · -- alloc
    rename_i t hop
    split at hc
    · rename_i i hi
      split at hc
      · rename_i z hz
        split at hc
        · rename_i hp
          obtain rfl := Option.some.inj hc
          simp only [evM, Option.some.injEq, Prod.mk.injEq] at he
          obtain ⟨rfl, rfl⟩ := he
          have := (alloc_ok hs hi hz hp (esOf P t)).val
          simpa only [execOp, hop] using this
        · simp at hc
      · simp at hc
    · simp at hc
  · -- box
    rename_i t x hop
    rw [hop] at ho
    have hx := hE x (all_ops ho (by simp [Op.operands]))
    split at hc
    · obtain rfl := Option.some.inj hc
      simp only [evM] at he
      split at he
      · rename_i hd
        simp only [Option.some.injEq, Prod.mk.injEq] at he
        obtain ⟨rfl, rfl⟩ := he
        have hc0 : c 0 = none := by
          have := hs.live 0
          cases h0 : c 0 with
          | none => rfl
          | some l => rw [h0] at this; rw [Option.isNone_iff_eq_none.1 hd.2] at this; simp at this
        obtain ⟨h1, h2⟩ := hs.alloc (.cells (ρ x).cells t (0, 0))
        have : Does P N c H w (Instr.box t (ρ x)) (.pointer (some ⟨0, 0, none⟩)) H := ⟨.pointer (some ⟨w.heap.size, 0, none⟩), c, w.alloc (.cells (ρ x).cells t (0, 0)), by simp [Instr.box, newVar, newRow], .ptrDead hd.1 hc0, h1, h2⟩
        simpa only [execOp, hop] using this.val
      · simp at he
    obtain rfl := Option.some.inj hc
    simp only [evM] at he
    split at he
    · rename_i hone
      simp only [Option.some.injEq, Prod.mk.injEq] at he
      obtain ⟨rfl, rfl⟩ := he
      have := (box_ok (P := P) (t := t) hs hx hone (esOf P t)).val
      simpa only [execOp, hop] using this
    · simp at he
  · -- build
    rename_i t parts hop
    rw [hop] at ho
    have hpo : ∀ p ∈ parts.toList, opdOk p.2 = true := fun p hp => all_ops ho (by simp only [Op.operands, List.toList_toArray, List.mem_map]; exact ⟨p, hp, rfl⟩)
    split at hc
    · rename_i i hi
      split at hc
      · rename_i z hz
        split at hc
        · rename_i hp
          split at hc
          · -- a struct
            rename_i fs hu
            split at hc
            · rename_i hfs
              split at hc
              · rename_i l hl
                obtain rfl := Option.some.inj hc
                simp only [evM] at he
                split at he
                · rename_i cs hfc
                  simp only [Option.some.injEq, Prod.mk.injEq] at he
                  obtain ⟨rfl, rfl⟩ := he
                  have hr := run_placesA (P := P) (w := w) fs hfs
                  have hpl : ∀ (j off : Nat) (t : TypeId) (ti : TypeInfo), ((fs[j]?).map fun f => (f.offset, f.type)) = some (off, t) → P.info? t = some ti → (fs.toList.map fun f => (f.offset, P.cellsOf f.type)).toArray[j]? = some (off, ti.size) := fun j off t ti h1 h2 => by
                    obtain ⟨fd, h3, h4⟩ := Option.map_eq_some_iff.1 h1
                    simp only [Prod.mk.injEq] at h4
                    obtain ⟨rfl, rfl⟩ := h4
                    simp [h3, Program.cellsOf, h2]
                  obtain ⟨r', e1, e2⟩ := fill_of (P := P) (H := H) (c := c) (place' := fun j => (fs.toList.map fun f => (f.offset, P.cellsOf f.type)).toArray[j]?) (cs := z.cells) (cs' := z.cells) hE hl hpo hpl (.refl hp) hfc
                  have hdo : Does P N c H w (Instr.build t (parts.map fun (i, x) => (i, ρ x))) (.agg cs.toArray) H := .pure hs (v' := .agg r') (by
                    simp only [Instr.build, Sem.run_bind, run_zeroValue hi hz, Result.andThen_ok, run_underlying hu, hr]
                    rw [e1]; rfl) (by simpa using e2.agg)
                  simpa only [execOp, hop] using hdo.val
                · simp at he
              · simp at hc
            · simp at hc
          · rename_i n e hu
            split at hc
            case isFalse => simp at hc
            rename_i hei0
            obtain ⟨ei, hei⟩ := Option.isSome_iff_exists.1 hei0
            split at hc
            · rename_i l hl
              obtain rfl := Option.some.inj hc
              simp only [evM] at he
              split at he
              · rename_i cs hfc
                simp only [Option.some.injEq, Prod.mk.injEq] at he
                obtain ⟨rfl, rfl⟩ := he
                · obtain ⟨r', e1, e2⟩ := fill_of (P := P) (H := H) (c := c) (place' := fun j => some (j * ei.size, ei.size)) (cs := z.cells) (cs' := z.cells) hE hl hpo (fun j off t ti h1 h2 => by
                    simp only [Option.some.injEq, Prod.mk.injEq] at h1
                    obtain ⟨rfl, rfl⟩ := h1
                    rw [hei] at h2
                    obtain rfl := Option.some.inj h2
                    simp [Program.cellsOf, hei]) (.refl hp) hfc
                  have hdo : Does P N c H w (Instr.build t (parts.map fun (i, x) => (i, ρ x))) (.agg cs.toArray) H := .pure hs (v' := .agg r') (by
                    simp only [Instr.build, Sem.run_bind, run_zeroValue hi hz, Result.andThen_ok, run_underlying hu, run_sizeOf hei]
                    rw [e1]; rfl) (by simpa using e2.agg)
                  simpa only [execOp, hop] using hdo.val
              · simp at he
            · simp at hc
          · simp at hc
        · simp at hc
      · simp at hc
    · simp at hc
  · -- buildSlice
    rename_i t n parts hop
    rw [hop] at ho
    have hpo : ∀ p ∈ parts.toList, opdOk p.2 = true := fun p hp => all_ops ho (by simp only [Op.operands, List.toList_toArray, List.mem_map]; exact ⟨p, hp, rfl⟩)
    split at hc
    · rename_i e hu
      split at hc
      · rename_i i hi
        split at hc
        · rename_i z hz
          split at hc
          · rename_i hcond
            obtain ⟨hp, hn, hs0, hzs⟩ := hcond
            split at hc
            · rename_i l hl
              obtain rfl := Option.some.inj hc
              simp only [evM] at he
              split at he
              · rename_i cs hfc
                split at he
                · rename_i hone
                  simp only [Option.some.injEq, Prod.mk.injEq] at he
                  obtain ⟨rfl, rfl⟩ := he
                  have := (buildSlice_ok (P := P) hs hE hu hi hz hp hn hs0 hzs hl hpo hfc hone).val
                  simpa only [execOp, hop] using this
                · simp at he
              · simp at he
            · simp at hc
          · simp at hc
        · simp at hc
      · simp at hc
    · simp at hc
  · -- load
    rename_i t a hop
    rw [hop] at ho
    have hx := hE a (all_ops ho (by simp [Op.operands]))
    split at hc
    · rename_i d i hu hi
      have key : ∀ agg n, m = .load agg n a → ((isAggT d = true ∧ agg = true ∧ n = i.size) ∨ (isAggT d = false ∧ agg = false ∧ n = 1)) → DoesN P N c H w (execOp ρ o) v H' := fun agg n hm' hagg => by
        subst hm'
        simp only [evM] at he
        split at he
        · rename_i p hp
          rw [hp] at hx
          split at he
          · rename_i cs hl
            split at he
            · rename_i v0 hv0
              simp only [Option.some.injEq, Prod.mk.injEq] at he
              obtain ⟨rfl, rfl⟩ := he
              have := (load_ok hs hu hi hx hagg hl hv0).val
              simpa only [execOp, hop] using this
            · simp at he
          · simp at he
        · simp at he
      split at hc
      · rename_i hg; exact key _ _ (Option.some.inj hc).symm (.inl ⟨hg, rfl, rfl⟩)
      · rename_i hg; exact key _ _ (Option.some.inj hc).symm (.inr ⟨by simpa using hg, rfl, rfl⟩)
    · simp at hc
  · -- store
    rename_i t a x hop
    rw [hop] at ho
    have ha := hE a (all_ops ho (by simp [Op.operands]))
    have hx := hE x (all_ops ho (by simp [Op.operands]))
    split at hc
    · rename_i i hi
      obtain rfl := Option.some.inj hc
      simp only [evM] at he
      split at he
      · rename_i p hp
        rw [hp] at ha
        split at he
        · rename_i hn
          split at he
          · rename_i H2 hst
            simp only [Option.some.injEq, Prod.mk.injEq] at he
            obtain ⟨rfl, rfl⟩ := he
            obtain ⟨w', e1, e2, e3⟩ := store_ok (P := P) hs hi ha hx hn hst
            exact ⟨.skip, Go.undef, c, w', by simp [execOp, hop, e1], .inr ⟨rfl, rfl⟩, .undef, e2, e3⟩
          · simp at he
        · simp at he
      · simp at he
    · simp at hc
  · -- nilCheck
    rename_i x hop
    rw [hop] at ho
    have hx := hE x (all_ops ho (by simp [Op.operands]))
    obtain rfl := Option.some.inj hc
    simp only [evM] at he
    split at he
    · rename_i p hp
      rw [hp] at hx
      simp only [Option.some.injEq, Prod.mk.injEq] at he
      obtain ⟨rfl, rfl⟩ := he
      obtain ⟨a', e1, e2⟩ := hx.ptrI
      obtain ⟨p', rfl⟩ : ∃ p', a' = some p' := by cases a' with | none => simp at e2 | some q => exact ⟨q, rfl⟩
      exact ⟨.value (.pointer (some p')), _, c, w, by simp [execOp, hop, e1], .inl rfl, by rw [← e1]; exact hx, hs, .refl _ _ _ _⟩
    · rename_i g a b hg
      rw [hg] at hx
      simp only [Option.some.injEq, Prod.mk.injEq] at he
      obtain ⟨rfl, rfl⟩ := he
      obtain ⟨a', b', e1, _, _⟩ := hx.funcI
      exact ⟨.value (.func (.func g) a' b'), _, c, w, by simp [execOp, hop, e1], .inl rfl, by rw [← e1]; exact hx, hs, .refl _ _ _ _⟩
    · simp at he
  · -- binOp
    rename_i op t x y yt hop
    rw [hop] at ho
    have hx := hE x (all_ops ho (by simp [Op.operands]))
    have hy := hE y (all_ops ho (by simp [Op.operands]))
    have keyE : ∀ (neq : Bool) (l : List (Nat × TK)) (d : TypeDesc), P.underlying t = some d → m = .eqc neq l x y → op = (if neq = true then .neq else .eql) → P.eqGuardType P.depth t = false → ((∃ n e k, d = .array n e ∧ (P.info? e).isSome = true ∧ scalarK P e = some k ∧ l = (List.range n).map fun i => (i, k)) ∨ (∃ fs, d = .struct fs ∧ P.stoodInHeld t = false ∧ offsOf P fs.toList = some l)) → DoesN P N c H w (execOp ρ o) v H' := fun neq l d hu hm' hop' hg hd => by
      subst hm'
      simp only [evM] at he
      split at he
      · rename_i a b ha hb
        rw [ha] at hx
        rw [hb] at hy
        split at he
        · rename_i r hr
          simp only [Option.some.injEq, Prod.mk.injEq] at he
          obtain ⟨rfl, rfl⟩ := he
          have he2 := eqAgg_ok (P := P) (w := w) hu hd hx hy hr
          obtain ⟨a', e1, _⟩ := VRL.of_agg hx
          obtain ⟨b', e2, _⟩ := VRL.of_agg hy
          rw [e1, e2] at he2
          refine ⟨.value (.bool (if neq = true then !r else r)), _, c, w, ?_, .inl rfl, .plain rfl, hs, .refl _ _ _ _⟩
          have hgd := run_eqGuard_agg (P := P) w op t x y a' b' hg
          have hb2 : (binOp op t (.agg a') (.agg b')).run P w = .ok (.bool (if neq = true then !r else r)) w := by
            refine run_eql (by simp) (by simp) (by simp) (by simp) he2 ?_
            cases neq <;> simp [hop', eqOp]
          simp [execOp, hop, e1, e2, hgd, hb2]
        · simp at he
      · simp at he
    split at hc
    · rename_i n e hu
      split at hc
      · rename_i hcond
        split at hc
        · rename_i k hk hopp
          exact keyE false _ _ hu (Option.some.inj hc).symm (by simp) hcond.1 (.inl ⟨n, e, _, rfl, hcond.2, hopp, rfl⟩)
        · rename_i k hk hopp
          exact keyE true _ _ hu (Option.some.inj hc).symm (by simp) hcond.1 (.inl ⟨n, e, _, rfl, hcond.2, hopp, rfl⟩)
        · simp at hc
      · simp at hc
    · rename_i fs hu
      split at hc
      · rename_i hcond
        split at hc
        · rename_i l hk hopp
          exact keyE false _ _ hu (Option.some.inj hc).symm (by simp) hcond.1 (.inr ⟨fs, rfl, hcond.2, hopp⟩)
        · rename_i l hk hopp
          exact keyE true _ _ hu (Option.some.inj hc).symm (by simp) hcond.1 (.inr ⟨fs, rfl, hcond.2, hopp⟩)
        · simp at hc
      · simp at hc
    · rename_i d hu
      split at hc
      · rename_i k hk
        obtain rfl := Option.some.inj hc
        simp only [evM] at he
        split at he
        · rename_i u hq
          simp only [Option.some.injEq, Prod.mk.injEq] at he
          obtain ⟨rfl, rfl⟩ := he
          have := (Does.run1 hs (run_bin (P := P) (w := w) (ox := x) (oy := y) (op := op) hu hk hx hy hq)).val
          simpa only [execOp, hop] using this
        · simp at he
      · simp at hc
    · simp at hc
  · -- unOp
    rename_i op t x hop
    rw [hop] at ho
    have hx := hE x (all_ops ho (by simp [Op.operands]))
    obtain rfl := Option.some.inj hc
    simp only [evM] at he
    split at he
    · rename_i u hq
      simp only [Option.some.injEq, Prod.mk.injEq] at he
      obtain ⟨rfl, rfl⟩ := he
      have := (Does.run1 hs (run_un (P := P) (w := w) hx hq)).val
      simpa only [execOp, hop] using this
    · simp at he
  · -- convert
    rename_i s d x hop
    rw [hop] at ho
    have hx := hE x (all_ops ho (by simp [Op.operands]))
    split at hc
    · rename_i k1 k hu1 hu2
      obtain rfl := Option.some.inj hc
      simp only [evM] at he
      split at he
      · rename_i k0 n hv
        rw [hv] at hx
        simp only [Option.some.injEq, Prod.mk.injEq] at he
        obtain ⟨rfl, rfl⟩ := he
        have : Does P N c H w (convert s d (ρ x)) (.int k (k.wrap n)) H := .pure hs (by simp [convert, run_underlying hu1, run_underlying hu2, hx.int, Conv.intToInt]) (.plain rfl)
        simpa only [execOp, hop] using this.val
      · simp at he
    · rename_i hu1 hu2
      obtain rfl := Option.some.inj hc
      simp only [evM] at he
      split at he
      · rename_i s0 hv
        rw [hv] at hx
        simp only [Option.some.injEq, Prod.mk.injEq] at he
        obtain ⟨rfl, rfl⟩ := he
        have : Does P N c H w (convert s d (ρ x)) (.string s0) H := .pure hs (by simp [convert, run_underlying hu1, run_underlying hu2, hx.str]) (.plain rfl)
        simpa only [execOp, hop] using this.val
      · simp at he
    · rename_i e hu1 hu2
      split at hc
      · rename_i hu3
        obtain rfl := Option.some.inj hc
        simp only [evM] at he
        split at he
        · rename_i s0 hv
          rw [hv] at hx
          split at he
          · simp only [Option.some.injEq, Prod.mk.injEq] at he
            obtain ⟨rfl, rfl⟩ := he
            have := toBytes_ok (P := P) hs hu1 hu2 hu3 s0
            rw [← hx.str] at this
            simpa only [execOp, hop] using this.val
          · simp at he
        · simp at he
      · simp at hc
    · rename_i e hu1 hu2
      split at hc
      · rename_i hu3
        obtain rfl := Option.some.inj hc
        simp only [evM] at he
        split at he
        · rename_i n cp hv
          rw [hv] at hx
          simp only [Option.some.injEq, Prod.mk.injEq] at he
          obtain ⟨rfl, rfl⟩ := he
          have : Does P N c H w (convert s d (ρ x)) (.string ⟨#[]⟩) H := .pure hs (by rw [hx.slcN]; exact run_convert_bytes_nil w s e hu1 hu3 n cp d hu2) (.plain rfl)
          simpa only [execOp, hop] using this.val
        · rename_i a n cp hv
          rw [hv] at hx
          split at he
          · rename_i l hl
            split at he
            · rename_i bs hb
              simp only [Option.some.injEq, Prod.mk.injEq] at he
              obtain ⟨rfl, rfl⟩ := he
              have := toStr_ok (P := P) (dst := d) hs hu1 hu3 hu2 hx hl hb
              simpa only [execOp, hop] using this.val
            · simp at he
          · simp at he
        · simp at he
      · simp at hc
    · simp at hc
  · -- makeMap
    rename_i t hop
    obtain rfl := Option.some.inj hc
    simp only [evM, Option.some.injEq, Prod.mk.injEq] at he
    obtain ⟨rfl, rfl⟩ := he
    obtain ⟨h1, h2⟩ := hs.alloc (.map #[] 0)
    have hrun : (Instr.makeMap t none).run P w = .ok (.map (some w.heap.size)) (w.alloc (.map #[] 0)) := by simp [Instr.makeMap, newObj]; rfl
    have : Does P N c H w (Instr.makeMap t none) (.map (some 0)) H := ⟨_, c, _, hrun, .mapDead, h1, h2⟩
    simpa only [execOp, hop, Option.map_none] using this.val
  · -- sliceToArrayPointer
    rename_i t x hop
    rw [hop] at ho
    have hx := hE x (all_ops ho (by simp [Op.operands]))
    split at hc
    · rename_i n e hu
      obtain rfl := Option.some.inj hc
      simp only [evM] at he
      split at he
      · rename_i a l cp hv
        rw [hv] at hx
        split at he
        · rename_i hle
          simp only [Option.some.injEq, Prod.mk.injEq] at he
          obtain ⟨rfl, rfl⟩ := he
          obtain ⟨a', k', e1, e2⟩ := hx.slcP
          have : Does P N c H w (Instr.arrayAt t (ρ x)) (.pointer (some a)) H := .pure hs (by simp [Instr.arrayAt, run_underlying hu, e1, show ¬ l < n by omega]) e2
          simpa only [execOp, hop] using this.val
        · simp at he
      · simp at he
    · simp at hc
  · -- makeInterface
    rename_i t x hop
    rw [hop] at ho
    have hx := hE x (all_ops ho (by simp [Op.operands]))
    split at hc
    · simp at hc
    · rename_i d hd hu
      obtain rfl := Option.some.inj hc
      simp only [evM, Option.some.injEq, Prod.mk.injEq] at he
      obtain ⟨rfl, rfl⟩ := he
      have : Does P N c H w (Instr.makeInterface t (ρ x)) (.iface t (ev f x)) H := .pure hs (by
        simp only [Instr.makeInterface, Sem.run_bind, run_underlying hu, Result.andThen_ok]
        cases d <;> first | rfl | (exact (hd _ rfl).elim)) (.iface hx)
      simpa only [execOp, hop] using this.val
    · simp at hc
  · -- makeFunc
    rename_i fn a b hop
    rw [hop] at ho
    obtain rfl := Option.some.inj hc
    simp only [evM, Option.some.injEq, Prod.mk.injEq] at he
    obtain ⟨rfl, rfl⟩ := he
    have hl1 : VRL H.next c (a.toList.map (ev f)) (a.toList.map ρ) := VRL.map _ fun y hy => hE y (all_ops ho (by simp only [Op.operands, Array.toList_append, List.mem_append]; exact .inl hy))
    have hl2 : VRL H.next c (b.toList.map (ev f)) (b.toList.map ρ) := VRL.map _ fun y hy => hE y (all_ops ho (by simp only [Op.operands, Array.toList_append, List.mem_append]; exact .inr hy))
    have : Does P N c H w (Instr.makeFunc fn (a.map ρ) (b.map ρ)) (.func fn (a.toList.map (ev f)).toArray (b.toList.map (ev f)).toArray) H := .pure hs (v' := .func fn (a.map ρ) (b.map ρ)) rfl (.func (by simp) (by simp) (fun j hj => by have := hl1.2 j (by simpa using hj); simpa using this) (fun j hj => by have := hl2.2 j (by simpa using hj); simpa using this))
    simpa only [execOp, hop] using this.val
  · -- makeSlice
    rename_i t l cp hop
    rw [hop] at ho
    have hx := hE l (all_ops ho (by simp [Op.operands]))
    have hy := hE cp (all_ops ho (by simp [Op.operands]))
    split at hc
    · rename_i e hu
      split at hc
      · rename_i i hi
        split at hc
        · rename_i z hz
          split at hc
          · rename_i hcond
            obtain rfl := Option.some.inj hc
            simp only [evM] at he
            split at he
            · rename_i k1 n k2 m0 h1 h2
              rw [h1] at hx
              rw [h2] at hy
              split at he
              · rename_i hb
                simp only [Option.some.injEq, Prod.mk.injEq] at he
                obtain ⟨rfl, rfl⟩ := he
                have := mkSlice_ok (P := P) (k := k1) (k2 := k2) hs hu hi hz hcond.1 hcond.2.1 hcond.2.2 hb.1 hb.2.1 hb.2.2.1 hb.2.2.2
                rw [← hx.int, ← hy.int] at this
                simpa only [execOp, hop] using this.val
              · simp at he
            · simp at he
          · simp at hc
        · simp at hc
      · simp at hc
    · simp at hc
  · -- slice
    rename_i t x lo hi hop
    rw [hop] at ho
    have hx := hE x (all_ops ho (by simp [Op.operands]))
    have hlo := opd_map (x := lo) (fun o' h => all_ops ho (by simp only [Op.operands, Array.toList_append, List.mem_append]; exact .inl (.inl (.inr h)))) hE
    have hhi := opd_map (x := hi) (fun o' h => all_ops ho (by simp only [Op.operands, Array.toList_append, List.mem_append]; exact .inl (.inr h))) hE
    have hval : ∀ {v0 : Value} {H0 : AH}, Does P N c H w (Instr.sliceAt t (ρ x) (lo.map ρ) (hi.map ρ) none) v0 H0 → DoesN P N c H w (execOp ρ o) v0 H0 := fun h => by
      have := h.val
      simpa only [execOp, hop, Option.map_none] using this
    have keyA : ∀ (n : Nat) (e : TypeId) (ei : TypeInfo), P.info? e = some ei → (∀ (a' : Addr) (l h : Nat), (Instr.sliceBounds false n n (lo.map ρ) (hi.map ρ) none).run P w = .ok (l, h, n) w → (Instr.sliceAt t (.pointer (some a')) (lo.map ρ) (hi.map ρ) none).run P w = .ok (.slice (some (if n = l then a' else a'.add (l * ei.size))) (h - l) (n - l)) w) → evM (.sliceA n ei.size x lo hi) f H = some (v, H') → Does P N c H w (Instr.sliceAt t (ρ x) (lo.map ρ) (hi.map ρ) none) v H' := fun n e ei hei hrun he => by
      simp only [evM] at he
      split at he
      · rename_i p hv
        rw [hv] at hx
        split at he
        · rename_i h hh
          split at he
          · rename_i l hl
            split at he
            · rename_i b hb0
              split at he
              · rename_i hcond
                simp only [Option.some.injEq, Prod.mk.injEq] at he
                obtain ⟨rfl, rfl⟩ := he
                obtain ⟨lc, hc0, hbr⟩ := hs.at_ hb0
                obtain ⟨e1, h1⟩ := hx.ptrL hc0
                have hb := run_bounds (P := P) (w := w) (b := false) hlo hhi hh hl (Nat.le_refl n)
                have hln : l ≤ n := Nat.le_trans (bound_le hl (Nat.zero_le _)) (bound_le hh (Nat.le_refl _))
                obtain ⟨cs, ty, fz, mid, k1, k2, k3, k4, k5, k6⟩ := hbr.row
                have hspot : p.spot = none := hx.ptrSpot hc0
                rw [e1]
                refine .pure hs (hrun _ l h hb) ?_
                split
                · rename_i hnl
                  exact VR.slice (l := lc) h1 hc0 hspot (Nat.le_refl _) (by rw [hnl]; simp; omega)
                · rw [add_eq]
                  have := VR.slice (n := H.next) (c := c) (a := addA p (l * ei.size)) (l := lc) (m := h - l) (k := n - l) (k' := n - l) h1 hc0 rfl (Nat.le_refl _) (by
                    simp only [addA]
                    rw [hbr.es, hcond.1]
                    have : (n - l) * ei.size + l * ei.size = n * ei.size := by rw [← Nat.add_mul]; congr 1; omega
                    omega)
                  rwa [show lc.sh + (addA p (l * ei.size)).off = lc.sh + p.off + l * ei.size by simp only [addA]; omega] at this
              · simp at he
            · simp at he
          · simp at he
        · simp at he
      · simp at he
    split at hc
    · rename_i hu
      obtain rfl := Option.some.inj hc
      simp only [evM] at he
      split at he
      · rename_i s0 hv
        rw [hv] at hx
        split at he
        · rename_i h hh
          split at he
          · rename_i l hl
            simp only [Option.some.injEq, Prod.mk.injEq] at he
            obtain ⟨rfl, rfl⟩ := he
            have hb := run_bounds (P := P) (w := w) (b := false) hlo hhi hh hl (Nat.le_refl _)
            exact hval (.pure hs (by simp [Instr.sliceAt, Instr.slice, run_underlying hu, hx.str, hb]) (.plain rfl))
          · simp at he
        · simp at he
      · simp at he
    · rename_i e hu
      split at hc
      · rename_i ei hei
        obtain rfl := Option.some.inj hc
        simp only [evM] at he
        split at he
        · rename_i a n cp hv
          rw [hv] at hx
          split at he
          · rename_i h hh
            split at he
            · rename_i l hl
              have hhc := bound_le hh
              split at he
              case isFalse => simp at he
              rename_i hhc2
              have hlh := bound_le hl (Nat.zero_le _)
              split at he
              · simp only [Option.some.injEq, Prod.mk.injEq] at he
                obtain ⟨rfl, rfl⟩ := he
                have hb := run_bounds (P := P) (w := w) (b := true) hlo hhi hh hl (Nat.le_refl cp)
                refine hval (.pure hs (v' := .slice none (h - l) (cp - l)) ?_ (.plain rfl))
                simp [Instr.sliceAt, Instr.slice, run_underlying hu, hx.slcN, hb, run_sizeOf hei]
              · rename_i p
                split at he
                · rename_i b hb0
                  split at he
                  · rename_i hes
                    obtain ⟨lc, hc0, hbr⟩ := hs.at_ hb0
                    obtain ⟨k', e1, h1, h2, h3⟩ := hx.slcL hc0
                    have hspot := hx.slcSpot hc0
                    have hb := run_bounds (P := P) (w := w) (b := true) hlo hhi hh hl h2
                    have hrun : (Instr.sliceAt t (ρ x) (lo.map ρ) (hi.map ρ) none).run P w = .ok (.slice (if k' = l then some ⟨lc.blk, lc.sh + p.off, none⟩ else some ((⟨lc.blk, lc.sh + p.off, none⟩ : Addr).add (l * ei.size))) (h - l) (k' - l)) w := by
                      simp [Instr.sliceAt, Instr.slice, run_underlying hu, e1, hb, run_sizeOf hei]
                    split at he
                    · rename_i hl0
                      subst hl0
                      simp only [Option.some.injEq, Prod.mk.injEq] at he
                      obtain ⟨rfl, rfl⟩ := he
                      refine hval (.pure hs hrun ?_)
                      have : (if k' = 0 then some (⟨lc.blk, lc.sh + p.off, none⟩ : Addr) else some ((⟨lc.blk, lc.sh + p.off, none⟩ : Addr).add (0 * ei.size))) = some ⟨lc.blk, lc.sh + p.off, none⟩ := by
                        rw [Nat.zero_mul, add_eq, Nat.add_zero]; split <;> rfl
                      rw [this]
                      exact VR.slice h1 hc0 hspot h2 h3
                    · rename_i hl0
                      split at he
                      · rename_i hlc
                        simp only [Option.some.injEq, Prod.mk.injEq] at he
                        obtain ⟨rfl, rfl⟩ := he
                        refine hval (.pure hs hrun ?_)
                        rw [if_neg (by omega), add_eq]
                        have := VR.slice (n := H.next) (c := c) (a := addA p (l * ei.size)) (l := lc) (m := h - l) (k := cp - l) (k' := k' - l) h1 hc0 rfl (by omega) (by
                          simp only [addA]
                          rw [hbr.es, hes] at h3 ⊢
                          have : (k' - l) * ei.size + l * ei.size = k' * ei.size := by rw [← Nat.add_mul]; congr 1; omega
                          omega)
                        rwa [show lc.sh + (addA p (l * ei.size)).off = lc.sh + p.off + l * ei.size by simp only [addA]; omega] at this
                      · rename_i hlc
                        split at he
                        · rename_i hg0
                          simp only [Option.some.injEq, Prod.mk.injEq] at he
                          obtain ⟨rfl, rfl⟩ := he
                          have hd : c 0 = none := by
                            have := hs.live 0
                            rw [hg0] at this
                            cases hq : c 0 with
                            | none => rfl
                            | some l0 => rw [hq] at this; simp at this
                          refine hval (.pure hs hrun ?_)
                          rw [show h - l = 0 by omega]
                          split
                          · exact VR.sliceDead (by simp only []; omega) hd
                          · exact VR.sliceDead (by simp only []; omega) hd
                        · simp at he
                  · simp at he
                · simp at he
            · simp at he
          · simp at he
        · simp at he
      · simp at hc
    · rename_i n e hu
      split at hc
      · rename_i ei hei
        obtain rfl := Option.some.inj hc
        exact hval (keyA n e ei hei (fun a' l h hb => by simp [Instr.sliceAt, run_underlying hu, Instr.sureAddr, hb, run_sizeOf hei]) he)
      · simp at hc
    · rename_i q hu
      split at hc
      · rename_i n e hu2
        split at hc
        · rename_i ei hei
          obtain rfl := Option.some.inj hc
          exact hval (keyA n e ei hei (fun a' l h hb => by simp [Instr.sliceAt, Instr.slice, run_underlying hu, run_underlying hu2, asAddr, hb, run_sizeOf hei]) he)
        · simp at hc
      · simp at hc
    · simp at hc
  · -- fieldAddr
    rename_i t x j hop
    rw [hop] at ho
    have hx := hE x (all_ops ho (by simp [Op.operands]))
    split at hc
    · rename_i fs hu
      split at hc
      · rename_i fd hj
        split at hc
        · rename_i i hi
          split at hc
          · simp at hc
          · rename_i hsz
            obtain rfl := Option.some.inj hc
            simp only [evM] at he
            split at he
            · rename_i p hv
              rw [hv] at hx
              simp only [Option.some.injEq, Prod.mk.injEq] at he
              obtain ⟨rfl, rfl⟩ := he
              obtain ⟨a', e1, e2⟩ := hx.addA fd.offset
              have : Does P N c H w (Instr.fieldAt t (ρ x) j) (.pointer (some (addA p fd.offset))) H := .pure hs (by simp [Instr.fieldAt, run_underlying hu, hj, e1, Instr.sureAddr, fieldPlace, run_sizeOf hi, hsz]) e2
              simpa only [execOp, hop] using this.val
            · simp at he
        · simp at hc
      · simp at hc
    · simp at hc
  · -- field
    rename_i t x j hop
    rw [hop] at ho
    have hx := hE x (all_ops ho (by simp [Op.operands]))
    split at hc
    · rename_i fs hu
      split at hc
      · rename_i fd hj
        split at hc
        · rename_i i d hi hd
          have key : ∀ agg n, m = .field agg fd.offset n x → ((isAggT d = true ∧ agg = true ∧ n = i.size) ∨ (isAggT d = false ∧ agg = false ∧ n = 1)) → DoesN P N c H w (execOp ρ o) v H' := fun agg n hm' hagg => by
            subst hm'
            simp only [evM] at he
            split at he
            · rename_i cs hv
              rw [hv] at hx
              split at he
              · rename_i hle
                split at he
                · rename_i v0 hv0
                  simp only [Option.some.injEq, Prod.mk.injEq] at he
                  obtain ⟨rfl, rfl⟩ := he
                  obtain ⟨v', e1, e2⟩ := run_field (P := P) (w := w) hu hj hd hi hx hagg hle hv0
                  have : Does P N c H w (Instr.field t (ρ x) j) v0 H := .pure hs e1 e2
                  simpa only [execOp, hop] using this.val
                · simp at he
              · simp at he
            · simp at he
          split at hc
          · rename_i hg; exact key _ _ (Option.some.inj hc).symm (.inl ⟨hg, rfl, rfl⟩)
          · rename_i hg; exact key _ _ (Option.some.inj hc).symm (.inr ⟨by simpa using hg, rfl, rfl⟩)
        · simp at hc
      · simp at hc
    · simp at hc
  · -- indexAddr
    rename_i t x i hop
    rw [hop] at ho
    have hx := hE x (all_ops ho (by simp [Op.operands]))
    have hi := hE i (all_ops ho (by simp [Op.operands]))
    split at hc
    · rename_i e hu
      split at hc
      · rename_i ei hei
        obtain rfl := Option.some.inj hc
        simp only [evM] at he
        split at he
        · rename_i a n cp k j hv hw
          rw [hv] at hx
          rw [hw] at hi
          split at he
          · rename_i hb
            simp only [Option.some.injEq, Prod.mk.injEq] at he
            obtain ⟨rfl, rfl⟩ := he
            obtain ⟨a', k', e1, e2⟩ := hx.slcA (j.toNat * ei.size)
            have : Does P N c H w (Instr.indexAt t (ρ x) (ρ i)) (.pointer (some (addA a (j.toNat * ei.size)))) H := .pure hs (by simp [Instr.indexAt, hi.int, asIntOf, run_underlying hu, e1, hb.1, hb.2, run_sizeOf hei]) e2
            simpa only [execOp, hop] using this.val
          · simp at he
        · simp at he
      · simp at hc
    · rename_i n e hu
      split at hc
      · rename_i ei hei
        obtain rfl := Option.some.inj hc
        simp only [evM] at he
        split at he
        · rename_i a k j hv hw
          rw [hv] at hx
          rw [hw] at hi
          split at he
          · rename_i hb
            simp only [Option.some.injEq, Prod.mk.injEq] at he
            obtain ⟨rfl, rfl⟩ := he
            obtain ⟨a', e1, e2⟩ := hx.addA (j.toNat * ei.size)
            have : Does P N c H w (Instr.indexAt t (ρ x) (ρ i)) (.pointer (some (addA a (j.toNat * ei.size)))) H := .pure hs (by simp [Instr.indexAt, hi.int, asIntOf, run_underlying hu, e1, Instr.sureAddr, hb.1, hb.2, run_sizeOf hei]) e2
            simpa only [execOp, hop] using this.val
          · simp at he
        · simp at he
      · simp at hc
    · simp at hc
  · -- index
    rename_i t x i hop
    rw [hop] at ho
    have hx := hE x (all_ops ho (by simp [Op.operands]))
    have hi := hE i (all_ops ho (by simp [Op.operands]))
    split at hc
    · rename_i hu
      obtain rfl := Option.some.inj hc
      simp only [evM] at he
      split at he
      · rename_i s0 k j hv hw
        rw [hv] at hx
        rw [hw] at hi
        split at he
        · rename_i hb
          simp only [Option.some.injEq, Prod.mk.injEq] at he
          obtain ⟨rfl, rfl⟩ := he
          have : Does P N c H w (Instr.index t (ρ x) (ρ i)) (.int .u8 (s0.data.toList.getD j.toNat 0).toNat) H := .pure hs (by rw [hx.str, hi.int]; exact run_strIdx hu hb.1 hb.2) (.plain rfl)
          simpa only [execOp, hop] using this.val
        · simp at he
      · simp at he
    · rename_i n e hu
      split at hc
      · rename_i ei d hei hd
        have key : ∀ agg n2, m = .arrIdx agg n n2 x i → n2 = ei.size → ((isAggT d = true ∧ agg = true) ∨ (isAggT d = false ∧ agg = false ∧ n2 = 1)) → DoesN P N c H w (execOp ρ o) v H' := fun agg n2 hm' hn2 hagg => by
          subst hm'
          simp only [evM] at he
          split at he
          · rename_i cs k j hv hw
            rw [hv] at hx
            rw [hw] at hi
            split at he
            · rename_i hb
              split at he
              · rename_i v0 hv0
                simp only [Option.some.injEq, Prod.mk.injEq] at he
                obtain ⟨rfl, rfl⟩ := he
                obtain ⟨v', e1, e2⟩ := run_arrIdx (P := P) (w := w) (k := k) hu hd hei hx hn2 hagg hb.1 hb.2.1 hb.2.2 hv0
                rw [← hi.int] at e1
                have : Does P N c H w (Instr.index t (ρ x) (ρ i)) v0 H := .pure hs e1 e2
                simpa only [execOp, hop] using this.val
              · simp at he
            · simp at he
          · simp at he
        split at hc
        · rename_i hg; exact key _ _ (Option.some.inj hc).symm rfl (.inl ⟨hg, rfl⟩)
        · rename_i hg
          split at hc
          · rename_i h1; exact key _ _ (Option.some.inj hc).symm h1.symm (.inr ⟨by simpa using hg, rfl, rfl⟩)
          · simp at hc
      · simp at hc
    · simp at hc
  · -- extract
    rename_i x i hop
    rw [hop] at ho
    have hx := hE x (all_ops ho (by simp [Op.operands]))
    obtain rfl := Option.some.inj hc
    simp only [evM] at he
    split at he
    · rename_i vs hv
      rw [hv] at hx
      split at he
      · rename_i v0 hv0
        simp only [Option.some.injEq, Prod.mk.injEq] at he
        obtain ⟨rfl, rfl⟩ := he
        obtain ⟨vs', e1, e2⟩ := VRL.of_tuple hx
        obtain ⟨v', e3, e4⟩ := e2.get (j := i) (v := v0) (by simpa using hv0)
        have : Does P N c H w (Instr.extract (ρ x) i) v0 H := .pure hs (v' := v') (by
          rw [Array.getElem?_toList] at e3
          simp [Instr.extract, e1, e3]) e4
        simpa only [execOp, hop] using this.val
      · simp at he
    · simp at he
  · -- call
    rename_i cl hop
    rw [hop] at ho
    split at hc
    · rename_i b hcal
      obtain ⟨csts, hres⟩ : ∃ cs, (resolve ρ cl o.type) = Pure.pure { target := .builtin b cl.argTypes o.type cs, args := cl.args.map ρ } := ⟨_, by unfold resolve; rw [hcal]⟩
      have := builtin_ok (P := P) (ty := o.type) (cs := csts) hs hE hc (fun x hx => all_ops ho (by simp only [Op.operands, Call.operands, Array.toList_append, List.mem_append]; exact .inr hx)) he
      obtain ⟨nx, v', c', w', h1, h2⟩ := this
      exact ⟨nx, v', c', w', by simp [execOp, hop, hres, invoke, h1], h2⟩
    · obtain rfl := Option.some.inj hc
      exact (hm _ _ _ rfl).elim
    · simp at hc
  · simp at hc
end
end Go.Proofs.Ytidpkoaomfbljaa.AM
/- Code is compiled; what the compiled code computes is what the machine does. -/
namespace Go.Proofs.Ytidpkoaomfbljaa.AM
open Go Go.RowKit
set_option linter.all false

/-! ### Compiling -/
def dstOk (ntm : Nat) : Option Tmp → Bool
  | some d => decide (d < ntm)
  | none => true
def compOper (P : Program) (ntm : Nat) (ops : Array Oper) (o : Oper) : Option MOp :=
  if dstOk ntm o.dst = true then
    (match o.guard with
    | none => some ⟨o.dst, none, false, if o.op.operands.toList.all opdOk = true then (compOp P o).getD .mkMap else .mkMap⟩
    | some (j, want) => match (ops[j]?).bind (·.dst) with
      | some t => some ⟨o.dst, some (t, want), false, if o.op.operands.toList.all opdOk = true then (compOp P o).getD .mkMap else .mkMap⟩
      | none => none)
  else none
def compOpers (P : Program) (ntm : Nat) (ops : Array Oper) : List Oper → Option (List MOp)
  | [] => some []
  | o :: l => match compOper P ntm ops o, compOpers P ntm ops l with
    | some m, some ms => some (m :: ms)
    | _, _ => none
/-- Which operations come before, each as a bit. -/
def masks : List Oper → List Nat → List Nat
  | [], acc => acc
  | o :: r, acc => masks r (acc ++ [o.after.toList.foldl (fun s e => if Region.binds .any e = true then s ||| (1 <<< e.on) ||| acc.getD e.on 0 else s) 0])
/-- A mask tells no more than the edges do. -/
def maskOk (ks : List Nat) (i : Nat) (o : Oper) : Bool :=
  (List.range ks.length).all fun j => !(ks.getD i 0).testBit j || o.after.toList.any fun e => Region.binds .any e && (e.on == j || (decide (e.on < i) && (ks.getD e.on 0).testBit j))
def loose (ks : List Nat) (i j : Nat) : Bool := if i < j then !(ks.getD j 0).testBit i else !(ks.getD i 0).testBit j
def loneOp (ks : List Nat) (ms : List MOp) (i : Nat) (m : MOp) : MOp :=
  match m.op with
  | .call _ g a => if (ms.zipIdx.any fun q => decide (q.2 ≠ i) && (!q.1.op.isCall && (decide (q.1.op.cls = .grow) || decide (q.1.op.cls = .write))) && loose ks i q.2) = true then { m with op := .callL g a } else m
  | _ => m
def loneL (ks : List Nat) (ms : List MOp) : List MOp := ms.zipIdx.map fun q => loneOp ks ms q.2 q.1
def flagOp (ks : List Nat) (ms : List MOp) (i : Nat) (m : MOp) : MOp :=
  match m.op with
  | .call _ g a => { m with op := .call (ms.zipIdx.any fun q => decide (q.2 ≠ i) && decide (q.1.op.cls = .read) && loose ks i q.2) g a }
  | .store n a x =>
    let far := ms.zipIdx.filterMap fun q => match q.1.op with | .load _ _ (.tmp t) => if decide (q.2 ≠ i) && loose ks i q.2 then some t else none | _ => none
    if far.isEmpty = true then m else { m with op := .storeX n a x far }
  | _ => if m.op.cls = .read then { m with old := ms.zipIdx.any fun q => decide (q.2 < i) && (q.1.op.isCall && !decide (q.1.op.cls = .pure) || decide (q.1.op.cls = .grow)) && loose ks q.2 i } else m
def flagL (ks : List Nat) (ms : List MOp) : List MOp := ms.zipIdx.map fun q => flagOp ks ms q.2 q.1
def pairsOk (ks : List Nat) (ms : List MOp) : Bool :=
  ms.zipIdx.all fun q => ms.zipIdx.all fun r => !decide (q.2 < r.2) || (ks.getD r.2 0).testBit q.2 || pairOk q.1 r.1
def compD (P : Program) (ntm : Nat) (ops : Array Oper) : Option (List MOp) :=
  match compOpers P ntm ops ops.toList with
  | none => none
  | some ms =>
    let ks := masks ops.toList []
    let fs := flagL ks (loneL ks ms)
    if (ops.toList.zipIdx.all fun q => q.1.after.toList.all (fun e => !Region.binds .any e || decide (e.on < q.2)) && maskOk ks q.2 q.1) = true ∧ ks.length = ops.size ∧ pairsOk ks fs = true then some fs else none
def compC (P : Program) (ntm : Nat) : Code → Option MCode
  | .skip => some .skip
  | .region _ ops draw => if draw = true then (match compD P ntm ops with | some l => some (.opsD l) | none => none) else (match compOpers P ntm ops ops.toList with | some l => some (.ops l) | none => none)
  | .seq a b => match compC P ntm a, compC P ntm b with | some a, some b => some (.seq a b) | _, _ => none
  | .cond c a b => if opdOk c = true then (match compC P ntm a, compC P ntm b with | some a, some b => some (.cond c a b) | _, _ => none) else none
  | .block id a => match compC P ntm a with | some a => some (.block id a) | none => none
  | .loop a => match compC P ntm a with | some a => some (.loop a) | none => none
  | .exit id => some (.exit id)
  | .ret => some .ret
  | .refuse _ => some (.ops [⟨none, none, false, .mkMap⟩])
  | _ => none
def compRes (P : Program) : ResultVar → Option MRes
  | .tmp t => some (.tmp t)
  | .cell a t => match P.underlying t, P.info? t with
    | some d, some i => if isAggT d = true then some (.cell a true i.size) else some (.cell a false 1)
    | _, _ => none
def compRs (P : Program) : List ResultVar → Option (List MRes)
  | [] => some []
  | r :: l => match compRes P r, compRs P l with
    | some m, some ms => some (m :: ms)
    | _, _ => none
def compFn (P : Program) (fn : Func) : Option MFun :=
  if fn.name = "runtime.NumGoroutine" then none else
  match fn.body with
  | none => none
  | some b => match compC P fn.ntmps b, compRs P fn.results.toList with
    | some c, some rs => some ⟨c, rs⟩
    | _, _ => none

/-! ### What holds between the two -/
structure Rel (N ntm : Nat) (c : CMap) (f : Fr) (H : AH) (a : Act) (w : World) : Prop where
  sim : Sim N c H w
  size : ntm ≤ a.tmps.size
  tmps : ∀ t, VR H.next c (f t) (a.tmps.getD t Go.undef)
  defers : a.defers = []
theorem Rel.ops {N ntm : Nat} {c : CMap} {f : Fr} {H : AH} {a : Act} {w : World} (h : Rel N ntm c f H a w) (x : Operand) (hx : opdOk x = true) : VR H.next c (ev f x) (a.eval x) := by
  cases x with
  | tmp t => exact h.tmps t
  | const v => exact .of3 hx
  | «global» g => simp [opdOk] at hx
  | func g => exact .of3 rfl
theorem Rel.put {N ntm : Nat} {c c' : CMap} {f : Fr} {H H' : AH} {a : Act} {w w' : World} (h : Rel N ntm c f H a w) (hs : Sim N c' H' w') (hx : ExtW N c H w c' H' w') {v v' : Value} (hv : VR H'.next c' v v') {d : Option Tmp} (hd : dstOk ntm d = true) : Rel N ntm c' (AM.put f d v) H' (a.put d v') w' := by
  have keep : ∀ t, VR H'.next c' (f t) (a.tmps.getD t Go.undef) := fun t => (h.tmps t).mono hx.nx hx.dom
  cases d with
  | none => exact ⟨hs, h.size, keep, h.defers⟩
  | some d =>
    have hlt : d < a.tmps.size := Nat.lt_of_lt_of_le (by simpa [dstOk] using hd) h.size
    refine ⟨hs, by simpa [Act.put] using h.size, fun t => ?_, h.defers⟩
    simp only [AM.put, upd, Act.put]
    by_cases ht : t = d
    · subst ht; rw [if_pos rfl]; simpa [hlt] using hv
    · rw [if_neg ht]
      have := keep t
      simpa [Array.getElem?_setIfInBounds_ne (Ne.symm ht)] using this

/-! ### Calls -/
/-- What a call is to do. -/
def CallR (P : Program) (N : Nat) (c : CMap) (H : AH) (w : World) (n : FuncId) (args : Array Value) (v : Value) (H' : AH) : Prop :=
  let R : Value → World → Prop := fun v' w' => ∃ c', VR H'.next c' v v' ∧ Sim N c' H' w' ∧ ExtW N c H w c' H' w'
  (∃ v' w', (callFunc n args).run P w = .ok (.value v') w' ∧ R v' w') ∨
  ((callFunc n args).run P w = .ok (.enter n args) w ∧ Calls P n args w fun | .returned v', w' => R v' w' | _, _ => False)
def CallOk (P : Program) (N : Nat) (call : CallH) : Prop :=
  CallExt call ∧ ∀ n vs H v H', call n vs H = some (v, H') → ∀ c w args, Sim N c H w → VRL H.next c vs args.toList → CallR P N c H w n args v H'

section
variable {P : Program} {N ntm : Nat} {call : CallH}

theorem Sim.low {c : CMap} {H : AH} {w : World} {k : Nat} (h : Sim N c H w) : Sim N c { H with low := k } w := ⟨h.live, h.blk, h.inj, h.size⟩
/-- What one operation, that is wanted, does. -/
theorem oper_ok (hcall : ∀ N, CallOk P N call) {c : CMap} {f : Fr} {H : AH} {a : Act} {w : World} (hr : Rel N ntm c f H a w) {o : Oper} {m0 m : MI}
    (hm0 : m0 = if o.op.operands.toList.all opdOk = true then (compOp P o).getD .mkMap else .mkMap) (hm : m = m0 ∨ (∃ p q g xs, m0 = .call p g xs ∧ m = .call q g xs) ∨ (∃ n b x far, m0 = .store n b x ∧ m = .storeX n b x far) ∨ ∃ p g xs, m0 = .call p g xs ∧ m = .callL g xs)
    {v : Value} {H' : AH} (he : evOp call m f H = some (v, H')) {K : Act → World → Prop} {Q : Exit → Act → World → Prop}
    (hK : ∀ v' c' w', VR H'.next c' v v' → Sim N c' H' w' → ExtW N c H w c' H' w' → K (a.put o.dst v') w') : o.wp P a w K Q := by
  have hkey : ∃ m', (m' = m0 ∨ (∃ p q g xs, m0 = .call p g xs ∧ m' = .call q g xs) ∨ ∃ p g xs, m0 = .call p g xs ∧ m' = .callL g xs) ∧ evOp call m' f H = some (v, H') := by
    rcases hm with h | h | ⟨n, b, x, far, h1, h2⟩ | h
    · exact ⟨m, .inl h, he⟩
    · exact ⟨m, .inr (.inl h), he⟩
    · refine ⟨m0, .inl rfl, ?_⟩
      rw [h2, evOp_evM rfl] at he
      rw [h1, evOp_evM rfl]
      simp only [evM] at he ⊢
      split at he
      · split at he
        · exact he
        · simp at he
      · simp at he
    · exact ⟨m, .inr (.inr h), he⟩
  clear hm he m
  obtain ⟨m, hm, he⟩ := hkey
  have notBad : m0 ≠ .mkMap := fun e => by
    rcases hm with h | ⟨p, q, g, xs, h1, h2⟩ | ⟨p, g, xs, h1, h2⟩
    · rw [h, e] at he; simp [evOp, evM] at he
    · rw [e] at h1; simp at h1
    · rw [e] at h1; simp at h1
  have hops : o.op.operands.toList.all opdOk = true := by
    by_cases h : o.op.operands.toList.all opdOk = true
    · exact h
    · rw [if_neg h] at hm0; exact absurd hm0 notBad
  rw [if_pos hops] at hm0
  have hcomp : compOp P o = some m0 := by
    cases hc : compOp P o with
    | none => rw [hc] at hm0; exact absurd hm0 notBad
    | some x => rw [hc] at hm0; simp at hm0; rw [hm0]
  cases hi : m0.isCall with
  | false =>
    have hmm : m = m0 := by
      rcases hm with h | ⟨p, q, g, xs, h1, _⟩ | ⟨p, g, xs, h1, _⟩
      · exact h
      · rw [h1] at hi; simp [MI.isCall] at hi
      · rw [h1] at hi; simp [MI.isCall] at hi
    subst hmm
    rw [evOp_evM hi] at he
    obtain ⟨nx, v', c', w', h1, h2, h3, h4, h5⟩ := op_ok hr.sim hr.ops hcomp hops (fun p g xs e => by rw [e] at hi; simp [MI.isCall] at hi) he
    rcases h2 with rfl | ⟨rfl, rfl⟩
    · simp only [Oper.wp, h1, Oper.upon]; exact hK _ _ _ h3 h4 h5
    · simp only [Oper.wp, h1, Oper.upon]; exact hK _ _ _ h3 h4 h5
  | true =>
    cases m0 <;> simp only [MI.isCall, Bool.false_eq_true] at hi
    case callL g xs =>
      exfalso
      unfold compOp at hcomp
      split at hcomp <;> (try (simp only [Option.some.injEq, reduceCtorEq] at hcomp; done)) <;> (try ((repeat' split at hcomp) <;> (try (simp only [Option.some.injEq, reduceCtorEq] at hcomp; done))))
      all_goals (unfold compBuiltin at hcomp; (repeat' split at hcomp) <;> simp only [Option.some.injEq, reduceCtorEq] at hcomp)
    rename_i p0 g xs
    have hmq : (∃ q, m = .call q g xs) ∨ m = .callL g xs := by
      rcases hm with h | ⟨p, q, g', xs', h1, h2⟩ | ⟨p, g', xs', h1, h2⟩
      · exact .inl ⟨_, h⟩
      · simp only [MI.call.injEq] at h1; obtain ⟨_, rfl, rfl⟩ := h1; exact .inl ⟨q, h2⟩
      · simp only [MI.call.injEq] at h1; obtain ⟨_, rfl, rfl⟩ := h1; exact .inr h2
    obtain ⟨cl, hop, hcal, hxs⟩ : ∃ cl, o.op = .call cl ∧ cl.callee = .value g ∧ cl.args.toList = xs := by
      unfold compOp at hcomp
      split at hcomp <;> (try (simp only [Option.some.injEq, reduceCtorEq] at hcomp; done)) <;> (try ((repeat' split at hcomp) <;> (try (simp only [Option.some.injEq, reduceCtorEq] at hcomp; done))))
      all_goals first
        | (rename_i cl hop _ b hcal
           exfalso
           unfold compBuiltin at hcomp
           (repeat' split at hcomp) <;> simp only [Option.some.injEq, reduceCtorEq] at hcomp)
        | (rename_i cl hop _ g' hcal
           simp only [Option.some.injEq, MI.call.injEq] at hcomp
           obtain ⟨_, rfl, rfl⟩ := hcomp
           exact ⟨cl, hop, hcal, rfl⟩)
    subst hxs
    rw [hop] at hops
    have hg := hr.ops g (all_ops hops (by simp [Op.operands, Call.operands, hcal]))
    have hargs : VRL H.next c (cl.args.toList.map (ev f)) (cl.args.toList.map a.eval) := VRL.map _ fun x hx => hr.ops x (all_ops hops (by simp only [Op.operands, Call.operands, Array.toList_append, List.mem_append]; exact .inr hx))
    rcases hmq with ⟨q, rfl⟩ | rfl
    case inr =>
      simp only [evOp] at he
      unfold callee at he
      cases hf : ev f g with
      | func fn first captured =>
        rw [hf] at hg
        cases fn with
        | func n =>
          rw [hf] at he
          simp only at he
          obtain ⟨f', b', e1, e2, e3⟩ := hg.funcI
          have hall : VRL H.next c (first.toList ++ cl.args.toList.map (ev f) ++ captured.toList) ((f' ++ cl.args.map a.eval) ++ b').toList := by
            simp only [Array.toList_append, Array.toList_map]
            exact (e2.append hargs).append e3
          have hexec : execOp a.eval o = callFunc n ((f' ++ cl.args.map a.eval) ++ b') := by
            simp [execOp, hop, resolve, hcal, e1, Deferred.ofValue, invoke]
          split at he
          case isFalse => simp at he
          rename_i hp
          split at he
          case h_2 => simp at he
          rename_i v1 H2 h2
          split at he
          case isFalse => simp at he
          rename_i h3
          simp only [Option.some.injEq, Prod.mk.injEq] at he
          obtain ⟨rfl, rfl⟩ := he
          have heq := hall.eq1 hp
          have := (hcall w.heap.size).2 _ _ _ _ _ h2 (fun _ => none) w ((f' ++ cl.args.map a.eval) ++ b') (sim_lone w) (by rw [heq]; exact .refl hp)
          have conv : ∀ v' w', (∃ c', VR H2.next c' v1 v' ∧ Sim w.heap.size c' H2 w' ∧ ExtW w.heap.size (fun _ => none) AH.lone w c' H2 w') → K (a.put o.dst v') w' := fun v' w' ⟨c', k1, k2, k3⟩ => by
            rw [k1.eq3 h3]
            obtain ⟨s1, s2⟩ := hr.sim.under k3.below
            exact hK _ _ _ (.of3 h3) s1 s2
          rcases this with ⟨v', w', k1, k2⟩ | ⟨k1, k2⟩
          · simp only [Oper.wp, hexec, k1, Oper.upon]
            exact conv _ _ k2
          · simp only [Oper.wp, hexec, k1, Oper.upon]
            refine k2.mono fun e w' he => ?_
            cases e with
            | returned v' => exact conv _ _ he
            | panicked ch => exact he.elim
            | outgrown => exact he.elim
        | _ => rw [hf] at he; simp at he
      | _ => rw [hf] at he; simp at he
    simp only [evOp] at he
    unfold callee at he
    cases hf : ev f g with
    | func fn first captured =>
      rw [hf] at hg
      cases fn with
      | func n =>
        rw [hf] at he
        simp only at he
        obtain ⟨f', b', e1, e2, e3⟩ := hg.funcI
        have hall : VRL H.next c (first.toList ++ cl.args.toList.map (ev f) ++ captured.toList) ((f' ++ cl.args.map a.eval) ++ b').toList := by
          simp only [Array.toList_append, Array.toList_map]
          exact (e2.append hargs).append e3
        have hexec : execOp a.eval o = callFunc n ((f' ++ cl.args.map a.eval) ++ b') := by
          simp [execOp, hop, resolve, hcal, e1, Deferred.ofValue, invoke]
        obtain ⟨H2, hc2, hsim2, hx2⟩ : ∃ H2, (CallR P N c H w n ((f' ++ cl.args.map a.eval) ++ b') v H2) ∧ (∀ c' w', Sim N c' H2 w' → Sim N c' H' w') ∧ (H2.next = H'.next ∧ ∀ c' w', ExtW N c H w c' H2 w' → ExtW N c H w c' H' w') := by
          split at he
          · split at he
            · rename_i v1 H1 h1
              split at he
              · rename_i hl
                simp only [Option.some.injEq, Prod.mk.injEq] at he
                obtain ⟨rfl, rfl⟩ := he
                have := (hcall N).2 _ _ _ _ _ h1 c w _ (Sim.low (k := H.next) hr.sim) hall
                refine ⟨{ H1 with low := H.low }, ?_, fun c' w' h => h, rfl, fun _ _ h => h⟩
                have conv : ∀ v' w', (∃ c', VR H1.next c' v1 v' ∧ Sim N c' H1 w' ∧ ExtW N c H.enter w c' H1 w') → ∃ c', VR H1.next c' v1 v' ∧ Sim N c' { H1 with low := H.low } w' ∧ ExtW N c H w c' { H1 with low := H.low } w' := fun v' w' ⟨c', k1, k2, k3⟩ =>
                  ⟨c', k1, k2.low, ⟨k3.nx, k3.dom, Nat.le_refl _, fun id hid _ => k3.same id hid (by rw [hl]; exact hid), k3.below⟩⟩
                rcases this with ⟨v', w', k1, k2⟩ | ⟨k1, k2⟩
                · exact .inl ⟨v', w', k1, conv _ _ k2⟩
                · exact .inr ⟨k1, k2.mono fun e w' he => by cases e <;> first | exact conv _ _ he | exact he⟩
              · simp at he
            · simp at he
          · exact ⟨H', (hcall N).2 _ _ _ _ _ he c w _ hr.sim hall, fun _ _ h => h, rfl, fun _ _ h => h⟩
        rcases hc2 with ⟨v', w', k1, c', k2, k3, k4⟩ | ⟨k1, k2⟩
        · simp only [Oper.wp, hexec, k1, Oper.upon]
          exact hK _ _ _ (hx2.1 ▸ k2) (hsim2 _ _ k3) (hx2.2 _ _ k4)
        · simp only [Oper.wp, hexec, k1, Oper.upon]
          refine k2.mono fun e w' he => ?_
          cases e with
          | returned v' =>
            obtain ⟨c', k2, k3, k4⟩ := he
            exact hK _ _ _ (hx2.1 ▸ k2) (hsim2 _ _ k3) (hx2.2 _ _ k4)
          | panicked ch => exact he.elim
          | outgrown => exact he.elim
      | _ => rw [hf] at he; simp at he
    | _ => rw [hf] at he; simp at he

/-- A compiled operation that fits an operation. -/
def Fits (P : Program) (ntm : Nat) (ops : Array Oper) (o : Oper) (m : MOp) : Prop :=
  ∃ m0, compOper P ntm ops o = some m0 ∧ m.dst = m0.dst ∧ m.guard = m0.guard ∧ (m.op = m0.op ∨ (∃ p q g xs, m0.op = .call p g xs ∧ m.op = .call q g xs) ∨ (∃ n b x far, m0.op = .store n b x ∧ m.op = .storeX n b x far) ∨ ∃ p g xs, m0.op = .call p g xs ∧ m.op = .callL g xs)
theorem Fits.of {ops : Array Oper} {o : Oper} {m : MOp} (h : compOper P ntm ops o = some m) : Fits P ntm ops o m := ⟨m, h, rfl, rfl, .inl rfl⟩
theorem oper_step (hcall : ∀ N, CallOk P N call) {c : CMap} {f : Fr} {H : AH} {a : Act} {w : World} (hr : Rel N ntm c f H a w) {ops : Array Oper} {o : Oper} {m : MOp} (hm : Fits P ntm ops o m) {bs : Nat}
    {f' : Fr} {H' : AH} (he : evMOp call bs m f H = some (f', H')) {K : Act → World → Prop} {Q : Exit → Act → World → Prop}
    (hK : ∀ a' c' w', Rel N ntm c' f' H' a' w' → ExtW N c H w c' H' w' → K a' w') :
    if Region.wanted o (yielded ops a.tmps) = true then o.wp P a w K Q else K (a.put o.dst Go.undef) w := by
  obtain ⟨m0, h0, hd, hg, hop⟩ := hm
  unfold compOper at h0
  split at h0
  case isFalse => simp at h0
  rename_i hlt
  unfold evMOp at he
  split at he
  case h_2 => simp at he
  rename_i v H1 hv
  simp only [Option.some.injEq, Prod.mk.injEq] at he
  obtain ⟨rfl, rfl⟩ := he
  have fin : ∀ v' c' w', VR H1.next c' v v' → Sim N c' H1 w' → ExtW N c H w c' H1 w' → m.dst = o.dst → K (a.put o.dst v') w' := fun v' c' w' k1 k2 k3 e =>
    hK _ c' w' (by rw [e]; exact hr.put k2 k3 k1 hlt) k3
  unfold evV at hv
  cases hog : o.guard with
  | none =>
    simp only [hog, Option.some.injEq] at h0
    subst h0
    simp only at hg hd hop
    rw [hg] at hv
    simp only at hv
    have hw : Region.wanted o (yielded ops a.tmps) = true := by simp [Region.wanted, hog]
    rw [if_pos hw]
    exact oper_ok hcall hr rfl hop (evG_evOp hv) fun v' c' w' k1 k2 k3 => fin v' c' w' k1 k2 k3 hd
  | some jw =>
    obtain ⟨j, want⟩ := jw
    simp only [hog] at h0
    split at h0
    case h_2 => simp at h0
    rename_i t ht
    simp only [Option.some.injEq] at h0
    subst h0
    simp only at hg hd hop
    rw [hg] at hv
    simp only at hv
    split at hv
    case h_3 => simp at hv
    case h_2 =>
      rename_i vs hb
      have ht' := hr.tmps t
      rw [hb] at ht'
      obtain ⟨vs', e1, _⟩ := VRL.of_tuple ht'
      have hy : yielded ops a.tmps j = none := by
        unfold yielded
        rw [ht]
        simp only [Option.bind_some]
        rw [Array.getD_eq_getD_getElem?] at e1
        cases hq : a.tmps[t]? with
        | none => rfl
        | some q =>
          rw [hq] at e1
          simp only [Option.getD_some] at e1
          rw [e1]
      have hw : Region.wanted o (yielded ops a.tmps) = false := by
        simp only [Region.wanted, hog, hy]
        rfl
      rw [hw, if_neg (by simp)]
      simp only [Option.some.injEq, Prod.mk.injEq] at hv
      obtain ⟨rfl, rfl⟩ := hv
      exact fin _ c w .undef hr.sim (.refl _ _ _ _) hd
    rename_i b hb
    have ht' := hr.tmps t
    rw [hb] at ht'
    have ht2 : a.tmps.getD t Go.undef = .bool b := ht'.bool
    have hy : yielded ops a.tmps j = some b := by
      unfold yielded
      rw [ht]
      simp only [Option.bind_some]
      have : a.tmps[t]? = some (.bool b) := by
        cases hq : a.tmps[t]? with
        | none => rw [Array.getD_eq_getD_getElem?, hq] at ht2; simp [Go.undef] at ht2
        | some q => rw [Array.getD_eq_getD_getElem?, hq] at ht2; simp at ht2; rw [ht2]
      rw [this]
    have hw : Region.wanted o (yielded ops a.tmps) = decide (b = want) := by
      simp only [Region.wanted, hog, hy]
      cases b <;> cases want <;> rfl
    rw [hw]
    split at hv
    · rename_i hbw
      rw [if_pos (by simp [hbw])]
      exact oper_ok hcall hr rfl hop (evG_evOp hv) fun v' c' w' k1 k2 k3 => fin v' c' w' k1 k2 k3 hd
    · rename_i hbw
      rw [if_neg (by simp [hbw])]
      simp only [Option.some.injEq, Prod.mk.injEq] at hv
      obtain ⟨rfl, rfl⟩ := hv
      exact fin _ c w .undef hr.sim (.refl _ _ _ _) hd

theorem compOpers_spec {ops : Array Oper} : ∀ {l : List Oper} {ms : List MOp}, compOpers P ntm ops l = some ms → ms.length = l.length ∧ ∀ (i : Nat) (o : Oper), l[i]? = some o → ∃ m, ms[i]? = some m ∧ compOper P ntm ops o = some m := by
  intro l
  induction l with
  | nil => intro ms h; simp only [compOpers, Option.some.injEq] at h; subst h; exact ⟨rfl, fun i o h => by simp at h⟩
  | cons x l ih =>
    intro ms h
    simp only [compOpers] at h
    split at h
    · rename_i m ms' h1 h2
      simp only [Option.some.injEq] at h
      subst h
      obtain ⟨e1, e2⟩ := ih h2
      refine ⟨by simp [e1], fun i o ho => ?_⟩
      cases i with
      | zero => simp at ho; subst ho; exact ⟨m, by simp, h1⟩
      | succ i => simp at ho; obtain ⟨m', k1, k2⟩ := e2 i o ho; exact ⟨m', by simpa using k1, k2⟩
    · simp at h

/-- A region in the given order. -/
theorem region_ok (hcall : ∀ N, CallOk P N call) {ops : Array Oper} {bs : Nat} {Q : Exit → Act → World → Prop} : ∀ (l : List Nat) (ms : List MOp), l.length = ms.length → (∀ (i : Nat) (h : i < l.length), ∃ o m, ops[l[i]]? = some o ∧ ms[i]? = some m ∧ Fits P ntm ops o m) →
    ∀ {c : CMap} {f : Fr} {H : AH} {a : Act} {w : World}, Rel N ntm c f H a w → ∀ {f' : Fr} {H' : AH}, evOps call bs ms f H = some (f', H') →
    (∀ a' c' w', Rel N ntm c' f' H' a' w' → ExtW N c H w c' H' w' → Q .normal a' w') → wpOps P ops Q l a w := by
  intro l
  induction l with
  | nil =>
    intro ms hl hf c f H a w hr f' H' he hQ
    have : ms = [] := List.eq_nil_of_length_eq_zero hl.symm
    subst this
    simp only [evOps, Option.some.injEq, Prod.mk.injEq] at he
    obtain ⟨rfl, rfl⟩ := he
    exact hQ _ _ _ hr (.refl _ _ _ _)
  | cons i l ih =>
    intro ms hl hf c f H a w hr f' H' he hQ
    cases ms with
    | nil => simp at hl
    | cons m ms =>
      obtain ⟨o, m', ho, hm', hfit⟩ := hf 0 (by simp)
      simp only [List.getElem_cons_zero] at ho
      simp at hm'
      subst hm'
      simp only [evOps] at he
      split at he
      case h_2 => simp at he
      rename_i f1 H1 h1
      have := oper_step (Q := Q) hcall hr hfit h1 (K := wpOps P ops Q l) fun a' c' w' k1 k2 => ih ms (by simpa using hl) (fun j hj => by
        obtain ⟨o', m2, e1, e2, e3⟩ := hf (j + 1) (by simpa using hj)
        exact ⟨o', m2, by simpa using e1, by simpa using e2, e3⟩) k1 he fun a2 c2 w2 j1 j2 => hQ _ _ _ j1 (k2.trans j2)
      simp only [wpOps, ho]
      split
      · rename_i hw; rw [if_pos hw] at this; exact .inl this
      · rename_i hw; rw [if_neg hw] at this; exact this

/-! ### A region of open order -/
theorem mask_closed {ops : Array Oper} {ks : List Nat} (hk : ∀ i o, ops[i]? = some o → maskOk ks i o = true) (hlen : ks.length = ops.size) {listed : Array Bool}
    (hcl : ∀ i o, ops[i]? = some o → listed.getD i true = true → ∀ e ∈ o.after, Region.binds .any e = true → listed.getD e.on false = true) : ∀ (n i : Nat) (o : Oper), i < n → ops[i]? = some o → (∀ e ∈ o.after, Region.binds .any e = true → listed.getD e.on false = true) → ∀ j, j < ops.size → (ks.getD i 0).testBit j = true → listed.getD j false = true := by
  intro n
  induction n with
  | zero => intro i o h; omega
  | succ n ih =>
    intro i o hi ho hready j hj hb
    have := hk i o ho
    unfold maskOk at this
    rw [List.all_eq_true] at this
    have := this j (by rw [List.mem_range]; omega)
    simp only [hb, Bool.not_true, Bool.false_or, List.any_eq_true, Bool.and_eq_true, Bool.or_eq_true, beq_iff_eq, decide_eq_true_eq] at this
    obtain ⟨e, he, hbd, h⟩ := this
    have hl := hready e (by simpa using he) hbd
    rcases h with rfl | ⟨hlt, hbj⟩
    · exact hl
    · have hon : e.on < ops.size := by
        have := (Array.getElem?_eq_some_iff.1 ho).1
        omega
      exact ih e.on ops[e.on] (by omega) (Array.getElem?_eq_getElem hon) (hcl e.on _ (Array.getElem?_eq_getElem hon) (by
        rw [Array.getD_eq_getD_getElem?] at hl ⊢
        cases hq : listed[e.on]? with
        | none => rw [hq] at hl; simp at hl
        | some b => rw [hq] at hl; simpa using hl)) j hj hbj
end
end Go.Proofs.Ytidpkoaomfbljaa.AM
/- Regions of open order, loops, bodies: what the abstract machine computes is what the program does. -/
namespace Go.Proofs.Ytidpkoaomfbljaa.AM
open Go Go.RowKit
set_option linter.all false
section
variable {P : Program} {N ntm : Nat} {call : CallH}

def dflt : MOp := ⟨none, none, false, .mkMap⟩
def todo (n : Nat) (listed : Array Bool) : List Nat := (List.range n).filter fun i => !listed.getD i true
theorem todo_sorted (n : Nat) (listed : Array Bool) : (todo n listed).Pairwise (· < ·) := List.Pairwise.filter _ List.pairwise_lt_range
theorem mem_todo {n : Nat} {listed : Array Bool} {i : Nat} : i ∈ todo n listed ↔ i < n ∧ listed.getD i true = false := by
  simp [todo]
theorem todo_split {n : Nat} {listed : Array Bool} {i : Nat} (hi : i ∈ todo n listed) : ∃ pre post, todo n listed = pre ++ i :: post ∧ todo n (listed.setIfInBounds i true) = pre ++ post ∧ ∀ j ∈ pre, j < i ∧ j ∈ todo n listed := by
  obtain ⟨pre, post, h⟩ := List.append_of_mem hi
  have hs := todo_sorted n listed
  rw [h, List.pairwise_append] at hs
  obtain ⟨_, h2, h3⟩ := hs
  rw [List.pairwise_cons] at h2
  have hlt : i < listed.size := by
    have := (mem_todo.1 hi).2
    rcases Nat.lt_or_ge i listed.size with h' | h'
    · exact h'
    · simp [Array.getElem?_eq_none h'] at this
  have he : todo n (listed.setIfInBounds i true) = (todo n listed).filter fun j => j != i := by
    unfold todo
    rw [List.filter_filter]
    refine List.filter_congr fun j _ => ?_
    by_cases hj : j = i
    · subst hj; simp [hlt]
    · rw [getD_set_ne true (Ne.symm hj)]; simp [hj]
  refine ⟨pre, post, h, ?_, fun j hj => ⟨h3 j hj i (by simp), by rw [h]; simp [hj]⟩⟩
  rw [he, h, List.filter_append, List.filter_cons_of_neg (by simp)]
  congr 1
  · refine List.filter_eq_self.2 fun j hj => ?_
    have := h3 j hj i (by simp)
    simp; omega
  · refine List.filter_eq_self.2 fun j hj => ?_
    have := h2.1 j hj
    simp; omega

/-- What is checked of a region of open order. -/
structure Open (P : Program) (ntm : Nat) (ops : Array Oper) (ks : List Nat) (ms : List MOp) : Prop where
  fits : ∀ (i : Nat) (o : Oper), ops[i]? = some o → ∃ m, ms[i]? = some m ∧ Fits P ntm ops o m
  edges : ∀ (i : Nat) (o : Oper), ops[i]? = some o → ∀ e ∈ o.after, Region.binds .any e = true → e.on < i
  mask : ∀ (i : Nat) (o : Oper), ops[i]? = some o → maskOk ks i o = true
  klen : ks.length = ops.size
  pairs : ∀ (i j : Nat) (x y : MOp), ms[i]? = some x → ms[j]? = some y → i < j → (ks.getD j 0).testBit i = true ∨ pairOk x y = true

theorem regionD_ok (hcall : ∀ N, CallOk P N call) {ops : Array Oper} {ks : List Nat} {ms : List MOp} (ho : Open P ntm ops ks ms) {bs : Nat} {Q : Exit → Act → World → Prop} : ∀ (fuel : Nat) (listed : Array Bool), listed.size = ops.size → (todo ops.size listed).length ≤ fuel →
    (∀ (i : Nat) (o : Oper), ops[i]? = some o → listed.getD i true = true → ∀ e ∈ o.after, Region.binds .any e = true → listed.getD e.on false = true) →
    ∀ {c : CMap} {f : Fr} {H : AH} {a : Act} {w : World}, Rel N ntm c f H a w → bs ≤ H.next → ∀ {f' : Fr} {H' : AH}, evOps call bs ((todo ops.size listed).map fun i => ms.getD i dflt) f H = some (f', H') →
    (∀ a' c' w', Rel N ntm c' f' H' a' w' → ExtW N c H w c' H' w' → Q .normal a' w') → wpAny P .any ops Q fuel listed a w := by
  intro fuel
  have fin : ∀ (listed : Array Bool), todo ops.size listed = [] → ∀ {c : CMap} {f : Fr} {H : AH} {a : Act} {w : World}, Rel N ntm c f H a w → ∀ {f' : Fr} {H' : AH}, evOps call bs ((todo ops.size listed).map fun i => ms.getD i dflt) f H = some (f', H') → (∀ a' c' w', Rel N ntm c' f' H' a' w' → ExtW N c H w c' H' w' → Q .normal a' w') → Q .normal a w := by
    intro listed ht c f H a w hr f' H' he hQ
    rw [ht] at he
    simp only [List.map_nil, evOps, Option.some.injEq, Prod.mk.injEq] at he
    obtain ⟨rfl, rfl⟩ := he
    exact hQ _ _ _ hr (.refl _ _ _ _)
  have sub : ∀ (listed : Array Bool) i, i ∈ Region.ready .any ops listed → i ∈ todo ops.size listed := fun listed i hi => by
    obtain ⟨h1, o, h2, _⟩ := mem_ready.1 hi
    exact mem_todo.2 ⟨(Array.getElem?_eq_some_iff.1 h2).1, h1⟩
  induction fuel with
  | zero =>
    intro listed hsz hlen hcl c f H a w hr hb f' H' he hQ
    have ht : todo ops.size listed = [] := List.eq_nil_of_length_eq_zero (by omega)
    refine ⟨?_, fin listed ht hr he hQ⟩
    cases hrd : Region.ready .any ops listed with
    | nil => rfl
    | cons i r =>
      have := sub listed i (by rw [hrd]; simp)
      rw [ht] at this
      simp at this
  | succ fuel ih =>
    intro listed hsz hlen hcl c f H a w hr hb f' H' he hQ
    refine ⟨fun hnil => ?_, fun i hi => ?_⟩
    · refine fin listed ?_ hr he hQ
      cases ht : todo ops.size listed with
      | nil => rfl
      | cons i post =>
        exfalso
        have hi : i ∈ todo ops.size listed := by rw [ht]; simp
        obtain ⟨hin, hun⟩ := mem_todo.1 hi
        have hs := todo_sorted ops.size listed
        rw [ht, List.pairwise_cons] at hs
        have : i ∈ Region.ready .any ops listed := mem_ready.2 ⟨hun, ops[i], Array.getElem?_eq_getElem hin, fun e hem hbd => by
          have hlt := ho.edges i _ (Array.getElem?_eq_getElem hin) e hem hbd
          have hnot : e.on ∉ todo ops.size listed := by
            rw [ht]
            intro hm
            rcases List.mem_cons.1 hm with h | h
            · omega
            · have := hs.1 _ h; omega
          rw [mem_todo] at hnot
          have h3 : ¬ listed.getD e.on true = false := fun h => hnot ⟨by omega, h⟩
          have hlt2 : e.on < listed.size := by omega
          simp [hlt2] at h3 ⊢
          exact h3⟩
        rw [hnil] at this
        simp at this
    · obtain ⟨pre, post, e1, e2, e3⟩ := todo_split (sub listed i hi)
      obtain ⟨hun, o, hio, hready⟩ := mem_ready.1 hi
      obtain ⟨m, hm, hfit⟩ := ho.fits i o hio
      rw [e1, List.map_append, List.map_cons] at he
      have hmi : ms.getD i dflt = m := by rw [List.getD_eq_getElem?_getD, hm]; rfl
      rw [hmi] at he
      obtain ⟨f1, H1, h1, h2⟩ := evOps_bubble (hcall 0).1 _ f H (fun x hx => by
        obtain ⟨j, hj, rfl⟩ := List.mem_map.1 hx
        obtain ⟨hlt, hjt⟩ := e3 j hj
        obtain ⟨hjn, hju⟩ := mem_todo.1 hjt
        obtain ⟨mj, hmj, _⟩ := ho.fits j ops[j] (Array.getElem?_eq_getElem hjn)
        have hmj' : ms.getD j dflt = mj := by rw [List.getD_eq_getElem?_getD, hmj]; rfl
        rw [hmj']
        refine (ho.pairs j i mj m hmj hm hlt).resolve_left fun hbit => ?_
        have := mask_closed ho.mask ho.klen hcl _ i o (Nat.lt_succ_self _) hio hready j hjn hbit
        have hlt2 : j < listed.size := by omega
        simp [hlt2] at this hju
        rw [this] at hju
        simp at hju) hb he
      have hstep := oper_step (Q := Q) hcall hr hfit h1 (K := wpAny P .any ops Q fuel (listed.setIfInBounds i true)) fun a' c' w' k1 k2 => by
        refine ih (listed.setIfInBounds i true) (by simpa using hsz) (by
          rw [e2]
          rw [e1] at hlen
          simp at hlen ⊢
          omega) ?_ k1 (Nat.le_trans hb k2.nx) (by rw [e2, List.map_append]; exact h2) fun a2 c2 w2 j1 j2 => hQ _ _ _ j1 (k2.trans j2)
        intro j oj hj hl e hem hbd
        refine getD_set_true ?_
        by_cases hji : j = i
        · subst hji
          rw [hio] at hj
          obtain rfl := Option.some.inj hj
          exact hready e hem hbd
        · rw [getD_set_ne true (Ne.symm hji)] at hl
          exact hcl j oj hj hl e hem hbd
      unfold wpOp
      simp only [hio]
      split
      · rename_i hw; rw [if_pos hw] at hstep; exact .inl hstep
      · rename_i hw; rw [if_neg hw] at hstep; exact hstep

theorem loneOp_fits {ops : Array Oper} {o : Oper} {m : MOp} {ks : List Nat} {ms : List MOp} {i : Nat} (h : compOper P ntm ops o = some m) : loneOp ks ms i m = m ∨ ∃ p g xs, m.op = .call p g xs ∧ loneOp ks ms i m = { m with op := .callL g xs } := by
  unfold loneOp
  split
  · rename_i p g a hop
    split
    · exact .inr ⟨p, g, a, hop, rfl⟩
    · exact .inl rfl
  · exact .inl rfl
theorem flagOp_fits {ops : Array Oper} {o : Oper} {m m1 : MOp} {ks : List Nat} {ms : List MOp} {i : Nat} (h : compOper P ntm ops o = some m) (h1 : m1 = m ∨ ∃ p g xs, m.op = .call p g xs ∧ m1 = { m with op := .callL g xs }) : Fits P ntm ops o (flagOp ks ms i m1) := by
  rcases h1 with rfl | ⟨p, g, xs, hop, rfl⟩
  · unfold flagOp
    split
    · rename_i p g a hop
      exact ⟨m1, h, rfl, rfl, .inr (.inl ⟨_, _, _, _, hop, rfl⟩)⟩
    · rename_i n a x hop
      simp only
      split
      · exact .of h
      · exact ⟨m1, h, rfl, rfl, .inr (.inr (.inl ⟨_, _, _, _, hop, rfl⟩))⟩
    · split
      · exact ⟨m1, h, rfl, rfl, .inl rfl⟩
      · exact .of h
  · have : flagOp ks ms i { m with op := .callL g xs } = { m with op := .callL g xs } := by
      unfold flagOp
      simp [MI.cls]
    rw [this]
    exact ⟨m, h, rfl, rfl, .inr (.inr (.inr ⟨_, _, _, hop, rfl⟩))⟩
theorem compD_open {ops : Array Oper} {fs : List MOp} (h : compD P ntm ops = some fs) : fs.length = ops.size ∧ ∃ ks, Open P ntm ops ks fs := by
  unfold compD at h
  split at h
  case h_1 => simp at h
  rename_i ms hms
  obtain ⟨e1, e2⟩ := compOpers_spec hms
  simp only at h
  split at h
  case isFalse => simp at h
  rename_i hc
  obtain ⟨h1, h2, h3⟩ := hc
  simp only [Option.some.injEq] at h
  have hfl : fs.length = ops.size := by rw [← h]; simp [flagL, loneL, e1]
  have hall : ∀ (i : Nat) (o : Oper), ops[i]? = some o → (o.after.toList.all (fun e => !Region.binds .any e || decide (e.on < i)) = true ∧ maskOk (masks ops.toList []) i o = true) := fun i o ho => by
    rw [List.all_eq_true] at h1
    have := h1 (o, i) (by
      rw [List.mem_zipIdx_iff_getElem?]
      simpa using ho)
    simpa only [Bool.and_eq_true] using this
  refine ⟨hfl, masks ops.toList [], ?_, ?_, fun i o ho => (hall i o ho).2, h2, ?_⟩
  · intro i o ho
    obtain ⟨m, k1, k2⟩ := e2 i o (by simpa using ho)
    refine ⟨flagOp (masks ops.toList []) (loneL (masks ops.toList []) ms) i (loneOp (masks ops.toList []) ms i m), ?_, flagOp_fits k2 (loneOp_fits k2)⟩
    rw [← h]
    simp only [flagL, loneL, List.getElem?_map, List.getElem?_zipIdx, k1, Option.map_some, Nat.zero_add]
  · intro i o ho e he hb
    have := (hall i o ho).1
    rw [List.all_eq_true] at this
    have := this e (by simpa using he)
    simpa [hb] using this
  · intro i j x y hx hy hij
    rw [h] at h3
    unfold pairsOk at h3
    rw [List.all_eq_true] at h3
    have := h3 (x, i) (by rw [List.mem_zipIdx_iff_getElem?]; simpa using hx)
    rw [List.all_eq_true] at this
    have := this (y, j) (by rw [List.mem_zipIdx_iff_getElem?]; simpa using hy)
    simp only [hij, decide_true, Bool.not_true, Bool.false_or, Bool.or_eq_true] at this
    exact this

/-! ### Code -/
def exOf : Ex → Exit
  | .normal => .normal
  | .exit id => .exit id
  | .ret => .ret
/-- A loop that comes to its end within so many rounds. -/
theorem wp_loop_n {c : Code} {Q : Exit → Act → World → Prop} (J : Nat → Act → World → Prop) (h0 : ∀ a w, ¬ J 0 a w)
    (round : ∀ n a w, J (n + 1) a w → c.wp P (Exit.then (J n) Q) a w) : ∀ n a w, J n a w → (Code.loop c).wp P Q a w := by
  have key : ∀ n a w, J n a w → ∀ (b : Frame) (k : List Item) (cs : List Frame), ∃ e a' w', Q e a' w' ∧ Arrives P (lone (b.at a (.code c :: .inLoop c :: k)) cs w) b k cs e a' w' := by
    intro n
    induction n with
    | zero => intro a w h; exact absurd h (h0 a w)
    | succ n ih =>
      intro a w h b k cs
      obtain ⟨e, a₁, w₁, hq, harr⟩ := round n a w h b (.inLoop c :: k) cs
      cases e with
      | normal =>
        obtain ⟨e₂, a₂, w₂, hq₂, harr₂⟩ := ih a₁ w₁ hq b k cs
        exact ⟨e₂, a₂, w₂, hq₂, .of_steps (Steps.trans harr (.one step_inLoop)) harr₂⟩
      | exit id => exact ⟨_, a₁, w₁, hq, .pass (x := .inLoop c) rfl (fun _ _ => .inl (by simp)) harr⟩
      | goto l => exact ⟨_, a₁, w₁, hq, .pass (x := .inLoop c) rfl (fun _ _ => .inl (by simp)) harr⟩
      | ret => exact ⟨_, a₁, w₁, hq, .pass (x := .inLoop c) rfl (fun _ _ => .inl (by simp)) harr⟩
      | panic ch => exact ⟨_, a₁, w₁, hq, .pass (x := .inLoop c) rfl (fun _ _ => .inl (by simp)) harr⟩
      | outgrown => exact ⟨_, a₁, w₁, hq, .pass (x := .inLoop c) rfl (fun _ _ => .inl (by simp)) harr⟩
  intro n a w h b k cs
  obtain ⟨e, a', w', hq, harr⟩ := key n a w h b k cs
  exact ⟨e, a', w', hq, .of_steps (.one step_loop) harr⟩

/-- Where the machine is when the compiled code has run. -/
def Post (N ntm : Nat) (c : CMap) (H : AH) (w : World) (e : Ex) (f' : Fr) (H' : AH) : Exit → Act → World → Prop := fun e' a' w' => e' = exOf e ∧ ∃ c', Rel N ntm c' f' H' a' w' ∧ ExtW N c H w c' H' w'
theorem Post.trans {c c1 : CMap} {H H1 : AH} {w w1 : World} {e : Ex} {f' : Fr} {H' : AH} (hx : ExtW N c H w c1 H1 w1) {e' : Exit} {a' : Act} {w' : World} (h : Post N ntm c1 H1 w1 e f' H' e' a' w') : Post N ntm c H w e f' H' e' a' w' := by
  obtain ⟨h1, c', h2, h3⟩ := h
  exact ⟨h1, c', h2, hx.trans h3⟩
theorem code_ok (hm : P.follows .mixedOrders = true) (hcall : ∀ N, CallOk P N call) {k : Nat} : ∀ (code : Code) {m : MCode}, compC P ntm code = some m → ∀ {c : CMap} {f : Fr} {H : AH} {a : Act} {w : World}, Rel N ntm c f H a w → ∀ {e : Ex} {f' : Fr} {H' : AH}, evC call k m f H = some (e, f', H') → code.wp P (Post N ntm c H w e f' H') a w := by
  intro code
  induction code with
  | skip =>
    intro m h c f H a w hr e f' H' he
    simp only [compC, Option.some.injEq] at h
    subst h
    simp only [evC, Option.some.injEq, Prod.mk.injEq] at he
    obtain ⟨rfl, rfl, rfl⟩ := he
    exact wp_skip ⟨rfl, c, hr, .refl _ _ _ _⟩
  | region id ops draw =>
    intro m h c f H a w hr e f' H' he
    simp only [compC] at h
    split at h
    · rename_i hd
      split at h
      case h_2 => simp at h
      rename_i fs hfs
      simp only [Option.some.injEq] at h
      subst h
      simp only [evC] at he
      split at he
      case h_2 => simp at he
      rename_i f1 H1 h1
      simp only [Option.some.injEq, Prod.mk.injEq] at he
      obtain ⟨rfl, rfl, rfl⟩ := he
      obtain ⟨hlen, ks, hop⟩ := compD_open hfs
      rw [hd]
      refine wp_region_any hm ?_
      have hr' : Rel N ntm c f H a { w with drawn := w.drawn + 1 } := ⟨hr.sim.same rfl, hr.size, hr.tmps, hr.defers⟩
      have hall : todo ops.size (Array.replicate ops.size false) = List.range ops.size := by
        refine List.filter_eq_self.2 fun i hi => ?_
        have := List.mem_range.1 hi
        simp [this]
      refine regionD_ok hcall hop ops.size _ (by simp) (by rw [hall]; simp) ?_ hr' (Nat.le_refl _) (f' := f1) (H' := H1) ?_ fun a' c' w' k1 k2 => ⟨rfl, c', k1, (ExtW.drew N c H w).trans k2⟩
      · intro i o ho hl
        have := (Array.getElem?_eq_some_iff.1 ho).1
        simp [this] at hl
      · rw [hall]
        have : (List.range ops.size).map (fun i => fs.getD i dflt) = fs := by
          refine List.ext_getElem? fun i => ?_
          rw [List.getElem?_map]
          rcases Nat.lt_or_ge i ops.size with hi | hi
          · rw [List.getElem?_range hi]
            simp [hlen, hi]
          · rw [List.getElem?_eq_none (by simpa using hi), List.getElem?_eq_none (by omega)]
            rfl
        rw [this]
        exact h1
    · rename_i hd
      split at h
      case h_2 => simp at h
      rename_i ms hms
      simp only [Option.some.injEq] at h
      subst h
      simp only [evC] at he
      split at he
      case h_2 => simp at he
      rename_i f1 H1 h1
      simp only [Option.some.injEq, Prod.mk.injEq] at he
      obtain ⟨rfl, rfl, rfl⟩ := he
      obtain ⟨e1, e2⟩ := compOpers_spec hms
      have : draw = false := by simpa using hd
      subst this
      refine wp_region (region_ok hcall _ ms (by simp [e1]) (fun i hi => ?_) hr h1 fun a' c' w' k1 k2 => ⟨rfl, c', k1, k2⟩)
      have hi' : i < ops.size := by simpa using hi
      obtain ⟨m, k1, k2⟩ := e2 i ops[i] (by simp [hi'])
      exact ⟨ops[i], m, by simp [hi'], k1, .of k2⟩
  | seq x y ihx ihy =>
    intro m h c f H a w hr e f' H' he
    simp only [compC] at h
    split at h
    case h_2 => simp at h
    rename_i mx my hx hy
    simp only [Option.some.injEq] at h
    subst h
    simp only [evC] at he
    refine wp_seq ?_
    split at he
    · rename_i f1 H1 h1
      refine wp_mono (ihx hx hr h1) fun e' a' w' hp => ?_
      obtain ⟨rfl, c', k1, k2⟩ := hp
      exact wp_mono (ihy hy k1 he) fun _ _ _ h => h.trans k2
    · rename_i hne
      refine wp_mono (ihx hx hr he) fun e' a' w' hp => ?_
      have he1 : e' = exOf e := hp.1
      cases e with
      | normal => exact absurd he (hne _ _)
      | exit id => subst he1; exact hp
      | ret => subst he1; exact hp
  | cond cc x y ihx ihy =>
    intro m h c f H a w hr e f' H' he
    simp only [compC] at h
    split at h
    case isFalse => simp at h
    rename_i hok
    split at h
    case h_2 => simp at h
    rename_i mx my hx hy
    simp only [Option.some.injEq] at h
    subst h
    simp only [evC] at he
    have hc := hr.ops cc hok
    split at he
    case h_2 => simp at he
    rename_i b hb
    rw [hb] at hc
    refine wp_cond hc.bool ?_
    split at he
    · rename_i hb; rw [if_pos hb]; exact ihx hx hr he
    · rename_i hb; rw [if_neg hb]; exact ihy hy hr he
  | block id x ih =>
    intro m h c f H a w hr e f' H' he
    simp only [compC] at h
    split at h
    case h_2 => simp at h
    rename_i mx hx
    simp only [Option.some.injEq] at h
    subst h
    simp only [evC] at he
    refine wp_block ?_
    split at he
    · rename_i i f1 H1 h1
      refine wp_mono (ih hx hr h1) fun e' a' w' hp => ?_
      obtain ⟨rfl, hp2⟩ := hp
      split at he
      · rename_i hi
        simp only [Option.some.injEq, Prod.mk.injEq] at he
        obtain ⟨rfl, rfl, rfl⟩ := he
        simp only [exOf, Exit.inBlock, hi, if_true]
        exact ⟨rfl, hp2⟩
      · rename_i hi
        simp only [Option.some.injEq, Prod.mk.injEq] at he
        obtain ⟨rfl, rfl, rfl⟩ := he
        simp only [exOf, Exit.inBlock, hi, if_false]
        exact ⟨rfl, hp2⟩
    · rename_i hne
      refine wp_mono (ih hx hr he) fun e' a' w' hp => ?_
      have he1 : e' = exOf e := hp.1
      cases e with
      | exit id => exact absurd he (hne _ _ _)
      | normal => subst he1; exact hp
      | ret => subst he1; exact hp
  | loop x ih =>
    intro m h c f H a w hr e f' H' he
    simp only [compC] at h
    split at h
    case h_2 => simp at h
    rename_i mx hx
    simp only [Option.some.injEq] at h
    subst h
    simp only [evC] at he
    refine wp_loop_n (fun n a1 w1 => ∃ c1 f1 H1, Rel N ntm c1 f1 H1 a1 w1 ∧ ExtW N c H w c1 H1 w1 ∧ iter (evC call k mx) n f1 H1 = some (e, f', H')) ?_ ?_ k a w ⟨c, f, H, hr, .refl _ _ _ _, he⟩
    · rintro a1 w1 ⟨c1, f1, H1, _, _, h⟩
      simp [iter] at h
    · rintro n a1 w1 ⟨c1, f1, H1, k1, k2, h⟩
      simp only [iter] at h
      split at h
      · rename_i f2 H2 h2
        refine wp_mono (ih hx k1 h2) fun e' a' w' hp => ?_
        obtain ⟨rfl, c2, j1, j2⟩ := hp
        exact ⟨c2, f2, H2, j1, k2.trans j2, h⟩
      · rename_i hne
        refine wp_mono (ih hx k1 h) fun e' a' w' hp => ?_
        have he1 : e' = exOf e := hp.1
        cases e with
        | normal => exact absurd h (hne _ _)
        | exit id => subst he1; exact hp.trans k2
        | ret => subst he1; exact hp.trans k2
  | exit id =>
    intro m h c f H a w hr e f' H' he
    simp only [compC, Option.some.injEq] at h
    subst h
    simp only [evC, Option.some.injEq, Prod.mk.injEq] at he
    obtain ⟨rfl, rfl, rfl⟩ := he
    exact wp_exit ⟨rfl, c, hr, .refl _ _ _ _⟩
  | ret =>
    intro m h c f H a w hr e f' H' he
    simp only [compC, Option.some.injEq] at h
    subst h
    simp only [evC, Option.some.injEq, Prod.mk.injEq] at he
    obtain ⟨rfl, rfl, rfl⟩ := he
    exact wp_ret ⟨rfl, c, hr, .refl _ _ _ _⟩
  | refuse why =>
    intro m h c f H a w hr e f' H' he
    simp only [compC, Option.some.injEq] at h
    subst h
    simp [evC, evOps, evMOp, evV, evG, evOp, evM] at he
  | _ => intro m h; simp [compC] at h
end
end Go.Proofs.Ytidpkoaomfbljaa.AM
/- Functions: what the abstract machine computes is what a call does. -/
namespace Go.Proofs.Ytidpkoaomfbljaa.AM
open Go Go.RowKit
set_option linter.all false
section
variable {P : Program} {N : Nat}

/-! ### Back from a call -/
theorem VR.cut {n m : Nat} {c c' : CMap} (h : ∀ id, id < n → c' id = c id) {v v' : Value} (hv : VR n c v v') (hm : n ≤ m) : VR m c' v v' := hv.mono hm fun id hid => .inl (h id hid)
def cutC (c : CMap) (n : Nat) : CMap := fun id => if id < n then c id else none
theorem Sim.cut {c c1 : CMap} {H H1 : AH} {w w1 : World} (hs : Sim N c H w) (hx : ExtW N c H.enter w c1 H1 w1) (hs1 : Sim N c1 H1 w1) (hl : ¬ H1.low < H.next) :
    Sim N (cutC c H.next) H w1 ∧ (∀ id, id < H.next → c1 id = c id) ∧ (∀ id b l, H.get id = some b → c id = some l → w1.heap[l.blk]? = w.heap[l.blk]?) := by
  have hsame : ∀ id, id < H.next → c1 id = c id ∧ H1.get id = H.get id ∧ ∀ l, c id = some l → w1.heap[l.blk]? = w.heap[l.blk]? := fun id hid => hx.same id hid (by have : H.enter.next = H.next := rfl; omega)
  have hcc : ∀ id, id < H.next → cutC c H.next id = c id := fun id hid => if_pos hid
  have hlt : ∀ {id l}, cutC c H.next id = some l → id < H.next ∧ c id = some l := fun {id l} h => by
    unfold cutC at h
    split at h
    · rename_i h1; exact ⟨h1, h⟩
    · simp at h
  refine ⟨⟨fun id => ?_, fun id b l hb hc => ?_, fun id id' b l l' hne hb hro hc hc' => ?_, hs1.size⟩, fun id hid => (hsame id hid).1, fun id b l hb hc => (hsame id (AH.get_lt hb)).2.2 l hc⟩
  · rcases Nat.lt_or_ge id H.next with h | h
    · rw [hcc id h]; exact hs.live id
    · have : H.get id = none := by
        unfold AH.get; rw [List.getElem?_eq_none h]; rfl
      rw [this]; unfold cutC; rw [if_neg (by omega)]; rfl
  · obtain ⟨h1, h2⟩ := hlt hc
    have hr := hs.blk id b l hb h2
    obtain ⟨cs, ty, fz, mid, k1, k2, k3, k4, k5, k6⟩ := hr.row
    refine ⟨hr.es, hr.ones, cs, ty, fz, mid, ?_, k2, k3, k4, k5, ⟨k6.1, fun j hj => (k6.2 j hj).cut hcc (Nat.le_refl _)⟩⟩
    rw [(hsame id h1).2.2 l h2]; exact k1
  · obtain ⟨h1, h2⟩ := hlt hc
    obtain ⟨h3, h4⟩ := hlt hc'
    exact hs.inj id id' b l l' hne hb hro h2 h4
def addC (c : CMap) (n : Nat) (x : Option Loc) : CMap := fun id => if id = n then x else c id
theorem addC_eq {c : CMap} {n : Nat} {x : Option Loc} : addC c n x n = x := if_pos rfl
theorem addC_ne {c : CMap} {n id : Nat} {x : Option Loc} (h : id ≠ n) : addC c n x id = c id := if_neg h
theorem moveV_ok {c c1 : CMap} {H H1 : AH} {w w1 : World} (hs : Sim N c H w) (hx : ExtW N c H.enter w c1 H1 w1) (hs1 : Sim N c1 H1 w1) (hl : ¬ H1.low < H.next) {v v' u : Value} {bs : List (Option Blk)} (hv : VR H1.next c1 v v') (hm : moveV H H1 H.next v = some (u, bs)) :
    ∃ c', Sim N c' { H with blks := H.blks ++ bs } w1 ∧ VR (H.next + bs.length) c' u v' ∧ (∀ id, id < H.next → c' id = c id) := by
  obtain ⟨s1, e1, e2⟩ := hs.cut hx hs1 hl
  have base : (∃ c', Sim N c' { H with blks := H.blks ++ ([] : List (Option Blk)) } w1 ∧ (∀ id, id < H.next → c' id = c id) ∧ c' = cutC c H.next) := ⟨_, by rw [List.append_nil]; exact s1, fun id hid => if_pos hid, rfl⟩
  have key : ∀ (a : Addr) (b : Blk), ¬ a.block < H.next → H1.get a.block = some b → b.cells.all p1 = true → ∃ c', Sim N c' (H.push b) w1 ∧ c' H.next = c1 a.block ∧ (∀ id, id < H.next → c' id = c id) := by
    intro a b hge hb hp
    have hcut : ∀ id, id < H.next → cutC c H.next id = c id := fun id hid => if_pos hid
    obtain ⟨la, hca, hra⟩ := hs1.at_ hb
    refine ⟨addC (cutC c H.next) H.next (c1 a.block), ⟨fun id => ?_, fun id b2 l hb2 hc => ?_, fun id id' b2 l l' hne hb2 hro hc hc' => ?_, hs1.size⟩, addC_eq, fun id hid => by rw [addC_ne (by omega)]; exact hcut id hid⟩
    · by_cases h : id = H.next
      · subst h; rw [AH.get_push_eq, addC_eq, hca]; rfl
      · rw [addC_ne h]
        rcases Nat.lt_or_ge id H.next with h' | h'
        · rw [AH.get_push_lt _ _ h']; exact s1.live id
        · have : (H.push b).get id = none := by
            unfold AH.get; rw [List.getElem?_eq_none (by have := AH.next_push H b; unfold AH.next at this h' h; omega)]; rfl
          rw [this]; unfold cutC; rw [if_neg (by omega)]; rfl
    · by_cases h : id = H.next
      · subst h
        rw [AH.get_push_eq] at hb2
        obtain rfl := Option.some.inj hb2
        rw [addC_eq, hca] at hc
        obtain rfl := Option.some.inj hc
        obtain ⟨cs, ty, fz, mid, k1, k2, k3, k4, k5, k6⟩ := hra.row
        refine ⟨hra.es, hra.ones, cs, ty, fz, mid, k1, k2, k3, k4, k5, ?_⟩
        rw [k6.eq1 hp]
        exact .refl hp
      · rw [addC_ne h] at hc
        have hid : id < H.next := by
          unfold cutC at hc; split at hc
          · assumption
          · simp at hc
        rw [AH.get_push_lt _ _ hid] at hb2
        have hr := s1.blk id b2 l hb2 hc
        obtain ⟨cs, ty, fz, mid, k1, k2, k3, k4, k5, k6⟩ := hr.row
        refine ⟨hr.es, hr.ones, cs, ty, fz, mid, k1, k2, k3, k4, k5, ⟨k6.1, fun j hj => (k6.2 j hj).cut (fun id hid => addC_ne (by omega)) (by rw [AH.next_push]; omega)⟩⟩
    · by_cases h : id = H.next
      · subst h
        rw [AH.get_push_eq] at hb2
        obtain rfl := Option.some.inj hb2
        rw [addC_eq] at hc
        rw [addC_ne (Ne.symm hne)] at hc'
        have hid : id' < H.next := by
          unfold cutC at hc'; split at hc'
          · assumption
          · simp at hc'
        rw [hcut id' hid, ← e1 id' hid] at hc'
        exact hs1.inj a.block id' b l l' (by omega) hb hro hc hc'
      · rw [addC_ne h] at hc
        have hid : id < H.next := by
          unfold cutC at hc; split at hc
          · assumption
          · simp at hc
        rw [AH.get_push_lt _ _ hid] at hb2
        by_cases h2 : id' = H.next
        · subst h2
          rw [addC_eq] at hc'
          rw [hcut id hid, ← e1 id hid] at hc
          have hb1 : H1.get id = some b2 := by
            rw [(hx.same id hid (by have : H.enter.next = H.next := rfl; omega)).2.1]; exact hb2
          exact hs1.inj id a.block b2 l l' (by omega) hb1 hro hc hc'
        · rw [addC_ne h2] at hc'
          exact s1.inj id id' b2 l l' hne hb2 hro hc hc'
  have cutv : ∀ {n : Nat} {u u' : Value}, (∀ id, id < n → id < H.next) → VR H1.next c1 u u' → True := fun _ _ => trivial
  unfold moveV at hm
  split at hm
  · rename_i a n k
    split at hm
    · rename_i hlt
      simp only [Option.some.injEq, Prod.mk.injEq] at hm
      obtain ⟨rfl, rfl⟩ := hm
      refine ⟨cutC c H.next, by rw [List.append_nil]; exact s1, ?_, fun id hid => if_pos hid⟩
      cases hv with
      | plain h => simp [p1] at h
      | slice h1 h2 h3 h4 h5 => exact .slice (by simpa using hlt) (by unfold cutC; rw [if_pos hlt, ← e1 _ hlt]; exact h2) h3 h4 h5
      | sliceDead h1 h2 => exact .sliceDead (by simpa using hlt) (by unfold cutC; rw [if_pos hlt, ← e1 _ hlt]; exact h2)
    · rename_i hge
      split at hm
      · rename_i b hb
        split at hm
        · rename_i hp
          simp only [Option.some.injEq, Prod.mk.injEq] at hm
          obtain ⟨rfl, rfl⟩ := hm
          obtain ⟨c', k1, k2, k3⟩ := key a b hge hb hp
          obtain ⟨la, hca, hra⟩ := hs1.at_ hb
          refine ⟨c', k1, ?_, k3⟩
          cases hv with
          | plain h => simp [p1] at h
          | slice h1 h2 h3 h4 h5 => exact VR.slice (a := ⟨H.next, a.off, none⟩) (by simp) (by rw [k2]; exact h2) rfl h4 h5
          | sliceDead h1 h2 => rw [hca] at h2; simp at h2
        · simp at hm
      · simp at hm
  · rename_i a
    split at hm
    · rename_i hlt
      simp only [Option.some.injEq, Prod.mk.injEq] at hm
      obtain ⟨rfl, rfl⟩ := hm
      refine ⟨cutC c H.next, by rw [List.append_nil]; exact s1, ?_, fun id hid => if_pos hid⟩
      cases hv with
      | plain h => simp [p1] at h
      | ptr h1 h2 h3 => exact .ptr (by simpa using hlt) (by unfold cutC; rw [if_pos hlt, ← e1 _ hlt]; exact h2) h3
      | ptrDead h1 h2 => exact .ptrDead (by simpa using hlt) (by unfold cutC; rw [if_pos hlt, ← e1 _ hlt]; exact h2)
    · rename_i hge
      split at hm
      · rename_i b hb
        split at hm
        · rename_i hp
          simp only [Option.some.injEq, Prod.mk.injEq] at hm
          obtain ⟨rfl, rfl⟩ := hm
          obtain ⟨c', k1, k2, k3⟩ := key a b hge hb hp
          obtain ⟨la, hca, hra⟩ := hs1.at_ hb
          refine ⟨c', k1, ?_, k3⟩
          cases hv with
          | plain h => simp [p1] at h
          | ptr h1 h2 h3 => exact VR.ptr (a := ⟨H.next, a.off, none⟩) (by simp) (by rw [k2]; exact h2) rfl
          | ptrDead h1 h2 => rw [hca] at h2; simp at h2
        · simp at hm
      · simp at hm
  · split at hm
    · rename_i hp
      simp only [Option.some.injEq, Prod.mk.injEq] at hm
      obtain ⟨rfl, rfl⟩ := hm
      refine ⟨cutC c H.next, by rw [List.append_nil]; exact s1, ?_, fun id hid => if_pos hid⟩
      rw [hv.eq2 hp]
      exact .of2 hp
    · simp at hm
theorem back_ok {c c1 : CMap} {H H1 : AH} {w w1 : World} (hs : Sim N c H w) (hx : ExtW N c H.enter w c1 H1 w1) (hs1 : Sim N c1 H1 w1) {v v' : Value} (hv : VR H1.next c1 v v') {u : Value} {H' : AH} (hb : back H H1 v = (u, H')) :
    ∃ c', VR H'.next c' u v' ∧ Sim N c' H' w1 ∧ ExtW N c H w c' H' w1 := by
  have nx : H.next ≤ H1.next := hx.nx
  have keep : ¬ H1.low < H.next → (v, ({ H1 with low := H.low } : AH)) = (u, H') → ∃ c', VR H'.next c' u v' ∧ Sim N c' H' w1 ∧ ExtW N c H w c' H' w1 := fun hl h => by
    simp only [Prod.mk.injEq] at h
    obtain ⟨rfl, rfl⟩ := h
    exact ⟨c1, hv, hs1.low, ⟨nx, hx.dom, Nat.le_refl _, fun id h1 h2 => hx.same id h1 (by have : H.enter.next = H.next := rfl; omega), hx.below⟩⟩
  have moved : ∀ {bs : List (Option Blk)} {c' : CMap} {u v' : Value}, ¬ H1.low < H.next → Sim N c' { H with blks := H.blks ++ bs } w1 → VR (H.next + bs.length) c' u v' → (∀ id, id < H.next → c' id = c id) → VR ({ H with blks := H.blks ++ bs } : AH).next c' u v' ∧ Sim N c' { H with blks := H.blks ++ bs } w1 ∧ ExtW N c H w c' { H with blks := H.blks ++ bs } w1 := fun {bs c' u v'} hl k1 k2 k3 => by
    have hn : ({ H with blks := H.blks ++ bs } : AH).next = H.next + bs.length := by simp [AH.next]
    refine ⟨by rw [hn]; exact k2, k1, ⟨by rw [hn]; omega, fun id hid => .inl (k3 id hid), Nat.le_refl _, fun id h1 h2 => ⟨k3 id h1, ?_, (hx.same id h1 (by have : H.enter.next = H.next := rfl; omega)).2.2⟩, hx.below⟩⟩
    simp only [AH.get, AH.next] at h1 ⊢
    rw [List.getElem?_append_left h1]
  unfold back at hb
  split at hb
  · rename_i hl
    simp only [Prod.mk.injEq] at hb
    obtain ⟨rfl, rfl⟩ := hb
    exact ⟨c1, hv, hs1.low, ⟨nx, hx.dom, Nat.min_le_left _ _, fun id h1 h2 => hx.same id h1 (by simp only at h2; omega), hx.below⟩⟩
  · rename_i hl
    split at hb
    · rename_i hp
      simp only [Prod.mk.injEq] at hb
      obtain ⟨rfl, rfl⟩ := hb
      obtain ⟨s1, e1, e2⟩ := hs.cut hx hs1 hl
      refine ⟨_, by rw [hv.eq3 hp]; exact .of3 hp, s1, ⟨Nat.le_refl _, fun id hid => .inl (if_pos hid), Nat.le_refl _, fun id h1 h2 => ⟨if_pos h1, rfl, (hx.same id h1 (by have : H.enter.next = H.next := rfl; omega)).2.2⟩, hx.below⟩⟩
    · split at hb
      · rename_i vs
        split at hb
        · rename_i x y hvs
          split at hb
          · rename_i x' bs hmv
            split at hb
            · rename_i hy
              simp only [Prod.mk.injEq] at hb
              obtain ⟨rfl, rfl⟩ := hb
              obtain ⟨vs', e1, e2⟩ := VRL.of_tuple hv
              rw [hvs] at e2
              obtain ⟨x2, l2, e3, hx2, hl2⟩ := e2.uncons
              obtain ⟨y2, l3, e4, hy2, hl3⟩ := hl2.uncons
              have := hl3.nil_inv
              subst this
              subst e4
              obtain ⟨c', k1, k2, k3⟩ := moveV_ok hs hx hs1 hl hx2 hmv
              have hy3 : VR (H.next + bs.length) c' y y2 := by rw [hy2.eq2 hy]; exact .of2 hy
              have htup : VR (H.next + bs.length) c' (.tuple #[x', y]) v' := by
                have : vs' = #[x2, y2] := by rw [← Array.toList_inj, e3]
                rw [e1, this]
                exact (VRL.cons k2 (.cons hy3 .nil)).tuple
              exact ⟨c', moved hl k1 htup k3⟩
            · exact keep hl hb
          · exact keep hl hb
        · exact keep hl hb
      · split at hb
        · rename_i hmv
          simp only [Prod.mk.injEq] at hb
          obtain ⟨rfl, rfl⟩ := hb
          obtain ⟨c', k1, k2, k3⟩ := moveV_ok hs hx hs1 hl hv hmv
          exact ⟨c', moved hl k1 k2 k3⟩
        · exact keep hl hb

/-! ### Results -/
theorem resV_ok {ntm : Nat} {c : CMap} {f : Fr} {H : AH} {a : Act} {w : World} (hr : Rel N ntm c f H a w) {r : ResultVar} {m : MRes} (hm : compRes P r = some m) {v : Value} (he : resV f H m = some v) :
    ∃ v', (match r with | .tmp t => (Pure.pure (a.tmps.getD t Go.undef) : Sem Value) | .cell x t => (do loadVar t (← asAddr (a.tmps.getD x Go.undef)))).run P w = .ok v' w ∧ VR H.next c v v' := by
  unfold compRes at hm
  split at hm
  · simp only [Option.some.injEq] at hm
    subst hm
    simp only [resV, Option.some.injEq] at he
    subst he
    exact ⟨_, by simp, hr.tmps _⟩
  · rename_i x t
    split at hm
    · rename_i d i hu hi
      have key : ∀ agg n, m = .cell x agg n → ((isAggT d = true ∧ agg = true ∧ n = i.size) ∨ (isAggT d = false ∧ agg = false ∧ n = 1)) → ∃ v', (do loadVar t (← asAddr (a.tmps.getD x Go.undef)) : Sem Value).run P w = .ok v' w ∧ VR H.next c v v' := fun agg n hmm hagg => by
        subst hmm
        simp only [resV] at he
        split at he
        · rename_i p hp
          have hx := hr.tmps x
          rw [hp] at hx
          split at he
          · rename_i cs hl
            obtain ⟨l, cs', hc, _⟩ := hr.sim.read hl
            obtain ⟨e1, _⟩ := hx.ptrL hc
            obtain ⟨v2, j1, j2⟩ := load_ok' (P := P) hr.sim hu hi hx hagg hl he
            rw [e1] at j1 ⊢
            exact ⟨v2, by simpa [Instr.loadAt, Instr.sureAddr, asAddr] using j1, j2⟩
          · simp at he
        · simp at he
      split at hm
      · rename_i hg; exact key _ _ (Option.some.inj hm).symm (.inl ⟨hg, rfl, rfl⟩)
      · rename_i hg; exact key _ _ (Option.some.inj hm).symm (.inr ⟨by simpa using hg, rfl, rfl⟩)
    · simp at hm
end
end Go.Proofs.Ytidpkoaomfbljaa.AM
/- A call of a compiled function. -/
namespace Go.Proofs.Ytidpkoaomfbljaa.AM
open Go Go.RowKit
set_option linter.all false
section
variable {P : Program} {N : Nat}

def resF (a : Act) : ResultVar → Sem Value
  | .tmp t => Pure.pure (a.tmps.getD t Go.undef)
  | .cell x t => do loadVar t (← asAddr (a.tmps.getD x Go.undef))
theorem resF_ok {ntm : Nat} {c : CMap} {f : Fr} {H : AH} {a : Act} {w : World} (hr : Rel N ntm c f H a w) {r : ResultVar} {m : MRes} (hm : compRes P r = some m) {v : Value} (he : resV f H m = some v) :
    ∃ v', (resF a r).run P w = .ok v' w ∧ VR H.next c v v' := by
  have := resV_ok hr hm he
  cases r <;> exact this
theorem resL_ok {ntm : Nat} {c : CMap} {f : Fr} {H : AH} {a : Act} {w : World} (hr : Rel N ntm c f H a w) : ∀ {rs : List ResultVar} {ms : List MRes}, compRs P rs = some ms → ∀ {vs : List Value}, resL f H ms = some vs →
    ∃ vs', (rs.mapM (resF a)).run P w = .ok vs' w ∧ VRL H.next c vs vs' := by
  intro rs
  induction rs with
  | nil =>
    intro ms hm vs he
    simp only [compRs, Option.some.injEq] at hm
    subst hm
    simp only [resL, Option.some.injEq] at he
    subst he
    exact ⟨[], by simp, .nil⟩
  | cons r rs ih =>
    intro ms hm vs he
    simp only [compRs] at hm
    split at hm
    case h_2 => simp at hm
    rename_i m ms' h1 h2
    simp only [Option.some.injEq] at hm
    subst hm
    simp only [resL] at he
    split at he
    case h_2 => simp at he
    rename_i v vs' hv hvs
    simp only [Option.some.injEq] at he
    subst he
    obtain ⟨v1, k1, k2⟩ := resF_ok hr h1 hv
    obtain ⟨vs1, j1, j2⟩ := ih h2 hvs
    refine ⟨v1 :: vs1, ?_, .cons k2 j2⟩
    rw [List.mapM_cons]
    simp [k1, j1]
theorem tupV_ok {n : Nat} {c : CMap} {vs vs' : List Value} (h : VRL n c vs vs') : VR n c (tupV vs) (if h : vs'.toArray.size = 1 then vs'.toArray[0] else .tuple vs'.toArray) := by
  cases vs with
  | nil => rw [h.nil_inv]; simp [tupV]; exact .of3 rfl
  | cons v l =>
    obtain ⟨v', l', rfl, h1, h2⟩ := h.uncons
    cases l with
    | nil => rw [h2.nil_inv]; simpa [tupV] using h1
    | cons u l =>
      obtain ⟨u', l2, rfl, h3, h4⟩ := h2.uncons
      have : tupV (v :: u :: l) = .tuple (v :: u :: l).toArray := rfl
      rw [this, dif_neg (by simp)]
      exact (VRL.cons h1 (.cons h3 h4)).tuple
theorem results_ok {ntm : Nat} {c : CMap} {f : Fr} {H : AH} {a : Act} {w : World} (hr : Rel N ntm c f H a w) {fn : Func} {ms : List MRes} (hm : compRs P fn.results.toList = some ms) {vs : List Value} (he : resL f H ms = some vs) :
    ∃ v', (results fn a.tmps).run P w = .ok v' w ∧ VR H.next c (tupV vs) v' := by
  obtain ⟨vs', h1, h2⟩ := resL_ok hr hm he
  refine ⟨_, ?_, tupV_ok h2⟩
  have h3 : (fn.results.mapM (resF a)).run P w = .ok vs'.toArray w := by
    rw [Array.mapM_eq_mapM_toList]
    simp [h1]
  have h4 : results fn a.tmps = (do let vs ← fn.results.mapM (resF a); Pure.pure (if h : vs.size = 1 then vs[0] else .tuple vs)) := by
    unfold results
    congr 1
  rw [h4]
  simp [h3]

/-! ### Calls -/
def NatOk (P : Program) (N : Nat) (n : FuncId) (g : CallH → List Value → AH → Option (Value × AH)) : Prop :=
  NatExt g ∧ ∀ call, CallOk P N call → ∀ vs H v H', g call vs H = some (v, H') → ∀ c w args, Sim N c H w → VRL H.next c vs args.toList → CallR P N c H w n args v H'
/-- What a table is to be. -/
def EntOk (P : Program) (N : Nat) (n : FuncId) : Ent → Prop
  | .code m => ∃ fn, P.funcs[n]? = some fn ∧ compFn P fn = some m
  | .nat g => NatOk P N n g
def TblOk (P : Program) (N : Nat) (tbl : Tbl) : Prop := ∀ n e, tbl n = some e → EntOk P N n e
theorem evF_ok (hm : P.follows .mixedOrders = true) {tbl : Tbl} (ht : ∀ N, TblOk P N tbl) : ∀ k N, CallOk P N (evF tbl k) := by
  have hn : ∀ n g, tbl n = some (.nat g) → NatExt g := fun n g h => (ht 0 n _ h).1
  intro k
  induction k with
  | zero => intro N; exact ⟨evF_ext tbl hn 0, fun n vs H v H' h => by simp [evF] at h⟩
  | succ k ih =>
    intro N
    refine ⟨evF_ext tbl hn (k + 1), fun n vs H v H' h c w args hs hv => ?_⟩
    simp only [evF] at h
    split at h
    · simp at h
    · rename_i g hg; exact (ht N n _ hg).2 _ (ih N) vs H v H' h c w args hs hv
    · rename_i m hmm
      obtain ⟨fn, hf, hcf⟩ := ht N n _ hmm
      unfold compFn at hcf
      split at hcf
      · simp at hcf
      · rename_i hname
        split at hcf
        · simp at hcf
        · rename_i b hb
          split at hcf
          · rename_i cd rs hcd hrs
            simp only [Option.some.injEq] at hcf
            subst hcf
            refine .inr ⟨by simp [callFunc, hf, hname, hb], calls_of_wp hf hb ?_⟩
            have hr0 : Rel N fn.ntmps c (entry vs) H.enter { tmps := args ++ Array.replicate (fn.ntmps - args.size) Go.undef, defers := [] } w := by
              refine ⟨Sim.low hs, by simp; omega, fun t => ?_, rfl⟩
              have hlen : vs.length = args.size := by simpa using hv.1
              simp only [entry]
              by_cases ht : t < vs.length
              · have := hv.2 t ht
                have e1 : (args ++ Array.replicate (fn.ntmps - args.size) Go.undef).getD t Go.undef = args.getD t Go.undef := by
                  simp [Array.getElem?_append, show t < args.size by omega]
                rw [e1]
                have e2 : args.toList.getD t Go.undef = args.getD t Go.undef := by simp
                rw [e2] at this
                exact this
              · have e1 : (args ++ Array.replicate (fn.ntmps - args.size) Go.undef).getD t Go.undef = Go.undef := by
                  rw [Array.getD_eq_getD_getElem?, Array.getElem?_append, if_neg (by omega)]
                  rw [Array.getElem?_replicate]; split <;> rfl
                rw [e1, List.getD_eq_getElem?_getD, List.getElem?_eq_none (by omega)]
                exact .undef
            have fin : ∀ {e : Ex} {f' : Fr} {H1 : AH} {rvs : List Value}, evC (evF tbl k) (k + 1) cd (entry vs) H.enter = some (e, f', H1) → (e = .normal ∨ e = .ret) → resL f' H1 rs = some rvs → back H H1 (tupV rvs) = (v, H') → b.wp P (bodyPost P fn fun | .returned v', w' => ∃ c', VR H'.next c' v v' ∧ Sim N c' H' w' ∧ ExtW N c H w c' H' w' | _, _ => False) { tmps := args ++ Array.replicate (fn.ntmps - args.size) Go.undef, defers := [] } w := by
              intro e f' H1 rvs he hee hrv hbk
              refine wp_mono (code_ok hm ih b hcd hr0 he) fun e' a' w' hp => ?_
              obtain ⟨rfl, c1, k1, k2⟩ := hp
              obtain ⟨v1, j1, j2⟩ := results_ok k1 hrs hrv
              obtain ⟨c2, l1, l2, l3⟩ := back_ok hs k2 k1.sim j2 hbk
              rcases hee with rfl | rfl <;> exact ⟨k1.defers, v1, j1, c2, l1, l2, l3⟩
            split at h
            · rename_i f' H1 h1
              split at h
              · rename_i rvs hrv
                simp only [Option.some.injEq] at h
                exact fin h1 (.inl rfl) hrv h
              · simp at h
            · rename_i f' H1 h1
              split at h
              · rename_i rvs hrv
                simp only [Option.some.injEq] at h
                exact fin h1 (.inr rfl) hrv h
              · simp at h
            · simp at h
          · simp at hcf
end
end Go.Proofs.Ytidpkoaomfbljaa.AM
/- Compiled functions. WRITTEN BY A PROGRAM (mk.py). -/
namespace Go.Proofs.Ytidpkoaomfbljaa.AM
open Go
set_option maxRecDepth 100000
set_option linter.all false
def k47 : MCode := (.seq (.ops [⟨(some 6), none, false, (.mov (.const (.bool false)))⟩]) (.seq (.ops [⟨(some 7), none, false, (.mov (.tmp 0))⟩, ⟨(some 8), none, false, (.mov (.tmp 1))⟩, ⟨(some 9), none, false, (.bin .int .geq (.tmp 7) (.tmp 8))⟩, ⟨(some 10), none, false, (.mov (.tmp 9))⟩, ⟨(some 11), (some (10, true)), false, (.mov (.tmp 0))⟩, ⟨(some 12), (some (10, true)), false, (.mov (.tmp 2))⟩, ⟨(some 13), (some (10, true)), false, (.bin .int .leq (.tmp 11) (.tmp 12))⟩, ⟨(some 14), none, false, (.pick (.tmp 10) (.tmp 13) (.const (.bool false)))⟩, ⟨(some 6), none, false, (.mov (.tmp 14))⟩]) .ret))
def m47 : MFun := ⟨k47, [(.tmp 6)]⟩
theorem c47 : compFn Try.prog Try.f47 = some m47 := by kernel_rfl
def k17 : MCode := (.seq (.ops [⟨(some 6), none, false, (.mov (.const (.bool false)))⟩]) (.seq (.ops [⟨(some 7), none, false, (.mov (.tmp 0))⟩, ⟨(some 8), none, false, (.mov (.tmp 1))⟩, ⟨(some 9), none, false, (.bin .int .geq (.tmp 7) (.tmp 8))⟩, ⟨(some 10), none, false, (.mov (.tmp 9))⟩, ⟨(some 11), (some (10, true)), false, (.mov (.tmp 0))⟩, ⟨(some 12), (some (10, true)), false, (.mov (.tmp 2))⟩, ⟨(some 13), (some (10, true)), false, (.bin .int .leq (.tmp 11) (.tmp 12))⟩, ⟨(some 14), none, false, (.pick (.tmp 10) (.tmp 13) (.const (.bool false)))⟩, ⟨(some 6), none, false, (.mov (.tmp 14))⟩]) .ret))
def m17 : MFun := ⟨k17, [(.tmp 6)]⟩
theorem c17 : compFn Try.prog Try.f17 = some m17 := by kernel_rfl
def k15 : MCode := (.seq (.ops [⟨(some 2), none, false, (.mov (.const (.int .i64 0)))⟩]) (.seq (.seq (.ops [⟨(some 5), none, false, (.mov (.tmp 0))⟩, ⟨(some 6), none, false, (.len (.tmp 5))⟩, ⟨(some 7), none, false, (.mov (.const (.int .i64 0)))⟩]) (.block 0 (.loop (.seq (.ops [⟨(some 8), none, false, (.bin .int .lss (.tmp 7) (.tmp 6))⟩]) (.seq (.cond (.tmp 8) .skip (.exit 0)) (.seq (.block 1 (.seq (.ops [⟨(some 9), none, false, (.idxS 1 (.tmp 5) (.tmp 7))⟩, ⟨(some 10), none, false, (.load false 1 (.tmp 9))⟩, ⟨(some 4), none, false, (.mov (.tmp 10))⟩]) (.seq (.ops [⟨(some 11), none, false, (.mov (.tmp 4))⟩, ⟨(some 12), none, false, (.bin .int .neq (.tmp 11) (.const (.int .i64 0)))⟩]) (.cond (.tmp 12) (.seq (.ops [⟨(some 13), none, false, (.mov (.tmp 4))⟩, ⟨(some 2), none, false, (.mov (.tmp 13))⟩]) .ret) .skip)))) (.ops [⟨(some 14), none, false, (.bin .int .add (.tmp 7) (.const (.int .i64 1)))⟩, ⟨(some 7), none, false, (.mov (.tmp 14))⟩]))))))) (.seq (.ops [⟨(some 2), none, false, (.mov (.const (.int .i64 0)))⟩]) .ret)))
def m15 : MFun := ⟨k15, [(.tmp 2)]⟩
theorem c15 : compFn Try.prog Try.f15 = some m15 := by kernel_rfl
def k16 : MCode := (.seq (.ops [⟨(some 4), none, false, (.mov (.const (.int .i64 0)))⟩]) (.seq (.seq (.ops [⟨(some 5), none, false, (.mov (.tmp 0))⟩]) (.cond (.tmp 5) (.seq (.ops [⟨(some 6), none, false, (.mov (.tmp 1))⟩, ⟨(some 4), none, false, (.mov (.tmp 6))⟩]) .ret) .skip)) (.seq (.ops [⟨(some 4), none, false, (.mov (.const (.int .i64 0)))⟩]) .ret)))
def m16 : MFun := ⟨k16, [(.tmp 4)]⟩
theorem c16 : compFn Try.prog Try.f16 = some m16 := by kernel_rfl
def k48 : MCode := (.seq (.ops [⟨(some 2), none, false, (.mov (.const (.bool false)))⟩]) (.seq (.ops [⟨(some 3), none, false, (.mov (.tmp 0))⟩, ⟨(some 4), none, false, (.bin .int .geq (.tmp 3) (.const (.int .i64 0)))⟩, ⟨(some 5), none, false, (.mov (.tmp 4))⟩, ⟨(some 6), (some (5, true)), false, (.mov (.tmp 0))⟩, ⟨(some 7), (some (5, true)), false, (.bin .int .lss (.tmp 6) (.const (.int .i64 2147483648)))⟩, ⟨(some 8), none, false, (.pick (.tmp 5) (.tmp 7) (.const (.bool false)))⟩, ⟨(some 2), none, false, (.mov (.tmp 8))⟩]) .ret))
def m48 : MFun := ⟨k48, [(.tmp 2)]⟩
theorem c48 : compFn Try.prog Try.f48 = some m48 := by kernel_rfl
def k68 : MCode := (.seq (.ops [⟨(some 2), none, false, (.mov (.const (.int .i64 0)))⟩]) (.seq (.ops [⟨(some 3), none, false, (.mov (.tmp 0))⟩, ⟨(some 4), none, false, (.bin .int .mul (.tmp 3) (.const (.int .i64 1103515245)))⟩, ⟨(some 5), none, false, (.bin .int .add (.tmp 4) (.const (.int .i64 12345)))⟩, ⟨(some 6), none, false, (.bin .int .rem (.tmp 5) (.const (.int .i64 2147483648)))⟩, ⟨(some 2), none, false, (.mov (.tmp 6))⟩]) .ret))
def m68 : MFun := ⟨k68, [(.tmp 2)]⟩
theorem c68 : compFn Try.prog Try.f68 = some m68 := by kernel_rfl
def k49 : MCode := (.seq (.ops [⟨(some 2), none, false, (.box 1 (.tmp 0))⟩, ⟨(some 4), none, false, (.mov (.const (.slice none 0 0)))⟩]) (.seq (.ops [⟨(some 5), none, false, (.mov (.const (.slice none 0 0)))⟩]) (.seq (.ops [⟨(some 7), none, false, (.addOff 0 (.tmp 2))⟩, ⟨(some 8), none, false, (.load false 1 (.tmp 7))⟩, ⟨(some 6), none, false, (.mov (.tmp 8))⟩]) (.seq (.seq (.ops [⟨(some 9), none, false, (.addOff 4 (.tmp 2))⟩, ⟨(some 10), none, false, (.load false 1 (.tmp 9))⟩, ⟨(some 11), none, false, (.bin .int .sub (.tmp 10) (.const (.int .i64 1)))⟩, ⟨(some 12), none, false, (.mov (.const (.int .i64 0)))⟩]) (.block 0 (.loop (.seq (.ops [⟨(some 13), none, false, (.bin .int .lss (.tmp 12) (.tmp 11))⟩]) (.seq (.cond (.tmp 13) .skip (.exit 0)) (.seq (.block 1 (.seq (.ops [⟨(some 14), none, false, (.mov (.tmp 1))⟩, ⟨(some 15), none, false, (.call false (.func 68) [(.tmp 14)])⟩, ⟨(some 1), none, false, (.mov (.tmp 15))⟩]) (.seq (.ops [⟨(some 16), none, false, (.mov (.tmp 5))⟩, ⟨(some 17), none, false, (.mov (.tmp 6))⟩, ⟨(some 18), none, false, (.mov (.tmp 1))⟩, ⟨(some 19), none, false, (.mov (.tmp 6))⟩, ⟨(some 20), none, false, (.addOff 3 (.tmp 2))⟩, ⟨(some 21), none, false, (.load false 1 (.tmp 20))⟩, ⟨(some 22), none, false, (.bin .int .mul (.tmp 19) (.tmp 21))⟩, ⟨(some 23), none, false, (.bin .int .quo (.tmp 22) (.const (.int .i64 100)))⟩, ⟨(some 24), none, false, (.bin .int .add (.tmp 23) (.const (.int .i64 1)))⟩, ⟨(some 25), none, false, (.bin .int .rem (.tmp 18) (.tmp 24))⟩, ⟨(some 26), none, false, (.bin .int .sub (.tmp 17) (.tmp 25))⟩, ⟨(some 27), none, false, (.buildSlice [(.int .i64 0)] 1 1 [(0, (1, (.tmp 26)))])⟩, ⟨(some 28), none, false, (.append 1 8 (.tmp 16) (.tmp 27))⟩, ⟨(some 5), none, false, (.mov (.tmp 28))⟩]) (.ops [⟨(some 29), none, false, (.mov (.tmp 6))⟩, ⟨(some 30), none, false, (.addOff 2 (.tmp 2))⟩, ⟨(some 31), none, false, (.load false 1 (.tmp 30))⟩, ⟨(some 32), none, false, (.bin .int .mul (.tmp 29) (.tmp 31))⟩, ⟨(some 33), none, false, (.addOff 1 (.tmp 2))⟩, ⟨(some 34), none, false, (.load false 1 (.tmp 33))⟩, ⟨(some 35), none, false, (.min (.tmp 32) [(.tmp 34)])⟩, ⟨(some 6), none, false, (.mov (.tmp 35))⟩])))) (.ops [⟨(some 36), none, false, (.bin .int .add (.tmp 12) (.const (.int .i64 1)))⟩, ⟨(some 12), none, false, (.mov (.tmp 36))⟩]))))))) (.seq (.ops [⟨(some 37), none, false, (.mov (.tmp 5))⟩, ⟨(some 4), none, false, (.mov (.tmp 37))⟩]) .ret)))))
def m49 : MFun := ⟨k49, [(.tmp 4)]⟩
theorem c49 : compFn Try.prog Try.f49 = some m49 := by kernel_rfl
def k11 : MCode := (.seq (.ops [⟨(some 1), none, false, (.box 1 (.tmp 0))⟩, ⟨(some 2), none, false, (.mov (.const (.int .i64 0)))⟩]) (.seq (.ops [⟨(some 3), none, false, (.mov (.func 47))⟩]) (.seq (.seq (.ops [⟨(some 4), none, false, (.mov (.tmp 3))⟩, ⟨(some 5), none, false, (.addOff 0 (.tmp 1))⟩, ⟨(some 6), none, false, (.load false 1 (.tmp 5))⟩, ⟨(some 7), none, false, (.call false (.tmp 4) [(.tmp 6), (.const (.int .i64 0)), (.const (.int .i64 3600000))])⟩, ⟨(some 8), none, false, (.un .not (.tmp 7))⟩, ⟨(some 9), none, false, (.mov (.tmp 8))⟩, ⟨(some 10), (some (9, false)), false, (.mov (.tmp 3))⟩, ⟨(some 11), (some (9, false)), false, (.addOff 1 (.tmp 1))⟩, ⟨(some 12), (some (9, false)), false, (.load false 1 (.tmp 11))⟩, ⟨(some 13), (some (9, false)), false, (.addOff 0 (.tmp 1))⟩, ⟨(some 14), (some (9, false)), false, (.load false 1 (.tmp 13))⟩, ⟨(some 15), (some (9, false)), false, (.call false (.tmp 10) [(.tmp 12), (.tmp 14), (.const (.int .i64 3600000))])⟩, ⟨(some 16), (some (9, false)), false, (.un .not (.tmp 15))⟩, ⟨(some 17), none, false, (.pick (.tmp 9) (.const (.bool true)) (.tmp 16))⟩, ⟨(some 18), none, false, (.mov (.tmp 17))⟩, ⟨(some 19), (some (18, false)), false, (.mov (.tmp 3))⟩, ⟨(some 20), (some (18, false)), false, (.addOff 2 (.tmp 1))⟩, ⟨(some 21), (some (18, false)), false, (.load false 1 (.tmp 20))⟩, ⟨(some 22), (some (18, false)), false, (.call false (.tmp 19) [(.tmp 21), (.const (.int .i64 1)), (.const (.int .i64 100))])⟩, ⟨(some 23), (some (18, false)), false, (.un .not (.tmp 22))⟩, ⟨(some 24), none, false, (.pick (.tmp 18) (.const (.bool true)) (.tmp 23))⟩, ⟨(some 25), none, false, (.mov (.tmp 24))⟩, ⟨(some 26), (some (25, false)), false, (.mov (.tmp 3))⟩, ⟨(some 27), (some (25, false)), false, (.addOff 3 (.tmp 1))⟩, ⟨(some 28), (some (25, false)), false, (.load false 1 (.tmp 27))⟩, ⟨(some 29), (some (25, false)), false, (.call false (.tmp 26) [(.tmp 28), (.const (.int .i64 0)), (.const (.int .i64 100))])⟩, ⟨(some 30), (some (25, false)), false, (.un .not (.tmp 29))⟩, ⟨(some 31), none, false, (.pick (.tmp 25) (.const (.bool true)) (.tmp 30))⟩, ⟨(some 32), none, false, (.mov (.tmp 31))⟩, ⟨(some 33), (some (32, false)), false, (.mov (.tmp 3))⟩, ⟨(some 34), (some (32, false)), false, (.addOff 4 (.tmp 1))⟩, ⟨(some 35), (some (32, false)), false, (.load false 1 (.tmp 34))⟩, ⟨(some 36), (some (32, false)), false, (.call false (.tmp 33) [(.tmp 35), (.const (.int .i64 1)), (.const (.int .i64 100))])⟩, ⟨(some 37), (some (32, false)), false, (.un .not (.tmp 36))⟩, ⟨(some 38), none, false, (.pick (.tmp 32) (.const (.bool true)) (.tmp 37))⟩]) (.cond (.tmp 38) (.seq (.ops [⟨(some 2), none, false, (.mov (.const (.int .i64 7)))⟩]) .ret) .skip)) (.seq (.ops [⟨(some 2), none, false, (.mov (.const (.int .i64 0)))⟩]) .ret))))
def m11 : MFun := ⟨k11, [(.tmp 2)]⟩
theorem c11 : compFn Try.prog Try.f11 = some m11 := by kernel_rfl
def k12 : MCode := (.seq (.ops [⟨(some 2), none, false, (.box 1 (.tmp 0))⟩, ⟨(some 4), none, false, (.mov (.const (.slice none 0 0)))⟩, ⟨(some 5), none, false, (.mov (.const (.int .i64 0)))⟩]) (.seq (.seq (.ops [⟨(some 7), none, false, (.load true 5 (.tmp 2))⟩, ⟨(some 8), none, false, (.call false (.func 11) [(.tmp 7)])⟩, ⟨(some 6), none, false, (.mov (.tmp 8))⟩]) (.seq (.ops [⟨(some 9), none, false, (.mov (.tmp 6))⟩, ⟨(some 10), none, false, (.bin .int .neq (.tmp 9) (.const (.int .i64 0)))⟩]) (.cond (.tmp 10) (.seq (.ops [⟨(some 11), none, false, (.mov (.tmp 6))⟩, ⟨(some 4), none, false, (.mov (.const (.slice none 0 0)))⟩, ⟨(some 5), none, false, (.mov (.tmp 11))⟩]) .ret) .skip))) (.seq (.seq (.ops [⟨(some 12), none, false, (.mov (.tmp 1))⟩, ⟨(some 13), none, false, (.call false (.func 48) [(.tmp 12)])⟩, ⟨(some 14), none, false, (.un .not (.tmp 13))⟩]) (.cond (.tmp 14) (.seq (.ops [⟨(some 4), none, false, (.mov (.const (.slice none 0 0)))⟩, ⟨(some 5), none, false, (.mov (.const (.int .i64 7)))⟩]) .ret) .skip)) (.seq (.ops [⟨(some 15), none, false, (.load true 5 (.tmp 2))⟩, ⟨(some 16), none, false, (.mov (.tmp 1))⟩, ⟨(some 17), none, false, (.call false (.func 49) [(.tmp 15), (.tmp 16)])⟩, ⟨(some 4), none, false, (.mov (.tmp 17))⟩, ⟨(some 5), none, false, (.mov (.const (.int .i64 0)))⟩]) .ret))))
def m12 : MFun := ⟨k12, [(.tmp 4), (.tmp 5)]⟩
theorem c12 : compFn Try.prog Try.f12 = some m12 := by kernel_rfl
def k13 : MCode := (.seq (.ops [⟨(some 1), none, false, (.box 1 (.tmp 0))⟩, ⟨(some 2), none, false, (.mov (.const (.int .i64 0)))⟩]) (.seq (.seq (.ops [⟨(some 3), none, false, (.addOff 0 (.tmp 1))⟩, ⟨(some 4), none, false, (.load false 1 (.tmp 3))⟩, ⟨(some 5), none, false, (.bin .int .lss (.tmp 4) (.const (.int .i64 0)))⟩, ⟨(some 6), none, false, (.mov (.tmp 5))⟩, ⟨(some 7), (some (6, false)), false, (.addOff 0 (.tmp 1))⟩, ⟨(some 8), (some (6, false)), false, (.load false 1 (.tmp 7))⟩, ⟨(some 9), (some (6, false)), false, (.bin .int .gtr (.tmp 8) (.const (.int .i64 3600000)))⟩, ⟨(some 10), none, false, (.pick (.tmp 6) (.const (.bool true)) (.tmp 9))⟩, ⟨(some 11), none, false, (.mov (.tmp 10))⟩, ⟨(some 12), (some (11, false)), false, (.addOff 1 (.tmp 1))⟩, ⟨(some 13), (some (11, false)), false, (.load false 1 (.tmp 12))⟩, ⟨(some 14), (some (11, false)), false, (.addOff 0 (.tmp 1))⟩, ⟨(some 15), (some (11, false)), false, (.load false 1 (.tmp 14))⟩, ⟨(some 16), (some (11, false)), false, (.bin .int .lss (.tmp 13) (.tmp 15))⟩, ⟨(some 17), none, false, (.pick (.tmp 11) (.const (.bool true)) (.tmp 16))⟩, ⟨(some 18), none, false, (.mov (.tmp 17))⟩, ⟨(some 19), (some (18, false)), false, (.addOff 1 (.tmp 1))⟩, ⟨(some 20), (some (18, false)), false, (.load false 1 (.tmp 19))⟩, ⟨(some 21), (some (18, false)), false, (.bin .int .gtr (.tmp 20) (.const (.int .i64 3600000)))⟩, ⟨(some 22), none, false, (.pick (.tmp 18) (.const (.bool true)) (.tmp 21))⟩, ⟨(some 23), none, false, (.mov (.tmp 22))⟩, ⟨(some 24), (some (23, false)), false, (.addOff 2 (.tmp 1))⟩, ⟨(some 25), (some (23, false)), false, (.load false 1 (.tmp 24))⟩, ⟨(some 26), (some (23, false)), false, (.bin .int .lss (.tmp 25) (.const (.int .i64 1)))⟩, ⟨(some 27), none, false, (.pick (.tmp 23) (.const (.bool true)) (.tmp 26))⟩, ⟨(some 28), none, false, (.mov (.tmp 27))⟩, ⟨(some 29), (some (28, false)), false, (.addOff 2 (.tmp 1))⟩, ⟨(some 30), (some (28, false)), false, (.load false 1 (.tmp 29))⟩, ⟨(some 31), (some (28, false)), false, (.bin .int .gtr (.tmp 30) (.const (.int .i64 100)))⟩, ⟨(some 32), none, false, (.pick (.tmp 28) (.const (.bool true)) (.tmp 31))⟩, ⟨(some 33), none, false, (.mov (.tmp 32))⟩, ⟨(some 34), (some (33, false)), false, (.addOff 3 (.tmp 1))⟩, ⟨(some 35), (some (33, false)), false, (.load false 1 (.tmp 34))⟩, ⟨(some 36), (some (33, false)), false, (.bin .int .lss (.tmp 35) (.const (.int .i64 0)))⟩, ⟨(some 37), none, false, (.pick (.tmp 33) (.const (.bool true)) (.tmp 36))⟩, ⟨(some 38), none, false, (.mov (.tmp 37))⟩, ⟨(some 39), (some (38, false)), false, (.addOff 3 (.tmp 1))⟩, ⟨(some 40), (some (38, false)), false, (.load false 1 (.tmp 39))⟩, ⟨(some 41), (some (38, false)), false, (.bin .int .gtr (.tmp 40) (.const (.int .i64 100)))⟩, ⟨(some 42), none, false, (.pick (.tmp 38) (.const (.bool true)) (.tmp 41))⟩, ⟨(some 43), none, false, (.mov (.tmp 42))⟩, ⟨(some 44), (some (43, false)), false, (.addOff 4 (.tmp 1))⟩, ⟨(some 45), (some (43, false)), false, (.load false 1 (.tmp 44))⟩, ⟨(some 46), (some (43, false)), false, (.bin .int .lss (.tmp 45) (.const (.int .i64 1)))⟩, ⟨(some 47), none, false, (.pick (.tmp 43) (.const (.bool true)) (.tmp 46))⟩, ⟨(some 48), none, false, (.mov (.tmp 47))⟩, ⟨(some 49), (some (48, false)), false, (.addOff 4 (.tmp 1))⟩, ⟨(some 50), (some (48, false)), false, (.load false 1 (.tmp 49))⟩, ⟨(some 51), (some (48, false)), false, (.bin .int .gtr (.tmp 50) (.const (.int .i64 100)))⟩, ⟨(some 52), none, false, (.pick (.tmp 48) (.const (.bool true)) (.tmp 51))⟩]) (.cond (.tmp 52) (.seq (.ops [⟨(some 2), none, false, (.mov (.const (.int .i64 7)))⟩]) .ret) .skip)) (.seq (.ops [⟨(some 2), none, false, (.mov (.const (.int .i64 0)))⟩]) .ret)))
def m13 : MFun := ⟨k13, [(.tmp 2)]⟩
def k50 : MCode := (.seq (.ops [⟨(some 2), none, false, (.mov (.const (.int .i64 0)))⟩]) (.seq (.ops [⟨(some 3), none, false, (.mov (.tmp 0))⟩, ⟨(some 4), none, false, (.bin .int .mul (.tmp 3) (.const (.int .i64 1103515245)))⟩, ⟨(some 5), none, false, (.bin .int .add (.tmp 4) (.const (.int .i64 12345)))⟩, ⟨(some 6), none, false, (.bin .int .rem (.tmp 5) (.const (.int .i64 2147483648)))⟩, ⟨(some 2), none, false, (.mov (.tmp 6))⟩]) .ret))
def m50 : MFun := ⟨k50, [(.tmp 2)]⟩
theorem c50 : compFn Try.prog Try.f50 = some m50 := by kernel_rfl
def k19 : MCode := (.seq (.ops [⟨(some 2), none, false, (.box 1 (.tmp 0))⟩, ⟨(some 4), none, false, (.mov (.const (.slice none 0 0)))⟩]) (.seq (.ops [⟨(some 5), none, false, (.mov (.const (.slice none 0 0)))⟩]) (.seq (.ops [⟨(some 8), none, false, (.addOff 0 (.tmp 2))⟩, ⟨(some 9), none, false, (.load false 1 (.tmp 8))⟩, ⟨(some 6), none, false, (.mov (.tmp 9))⟩]) (.seq (.seq (.ops [⟨(some 10), none, false, (.addOff 4 (.tmp 2))⟩, ⟨(some 11), none, false, (.load false 1 (.tmp 10))⟩, ⟨(some 12), none, false, (.bin .int .sub (.tmp 11) (.const (.int .i64 1)))⟩, ⟨(some 13), none, false, (.mov (.const (.int .i64 0)))⟩]) (.block 0 (.loop (.seq (.ops [⟨(some 14), none, false, (.bin .int .lss (.tmp 13) (.tmp 12))⟩]) (.seq (.cond (.tmp 14) .skip (.exit 0)) (.seq (.block 1 (.seq (.ops [⟨(some 15), none, false, (.mov (.tmp 1))⟩, ⟨(some 16), none, false, (.call false (.func 50) [(.tmp 15)])⟩, ⟨(some 1), none, false, (.mov (.tmp 16))⟩]) (.seq (.ops [⟨(some 17), none, false, (.mov (.tmp 6))⟩, ⟨(some 18), none, false, (.addOff 1 (.tmp 2))⟩, ⟨(some 19), none, false, (.load false 1 (.tmp 18))⟩, ⟨(some 20), none, false, (.min (.tmp 17) [(.tmp 19)])⟩, ⟨(some 7), none, false, (.mov (.tmp 20))⟩]) (.seq (.ops [⟨(some 21), none, false, (.mov (.tmp 5))⟩, ⟨(some 22), none, false, (.mov (.tmp 7))⟩, ⟨(some 23), none, false, (.mov (.tmp 1))⟩, ⟨(some 24), none, false, (.mov (.tmp 7))⟩, ⟨(some 25), none, false, (.addOff 3 (.tmp 2))⟩, ⟨(some 26), none, false, (.load false 1 (.tmp 25))⟩, ⟨(some 27), none, false, (.bin .int .mul (.tmp 24) (.tmp 26))⟩, ⟨(some 28), none, false, (.bin .int .quo (.tmp 27) (.const (.int .i64 100)))⟩, ⟨(some 29), none, false, (.bin .int .add (.tmp 28) (.const (.int .i64 1)))⟩, ⟨(some 30), none, false, (.bin .int .rem (.tmp 23) (.tmp 29))⟩, ⟨(some 31), none, false, (.bin .int .sub (.tmp 22) (.tmp 30))⟩, ⟨(some 32), none, false, (.buildSlice [(.int .i64 0)] 1 1 [(0, (1, (.tmp 31)))])⟩, ⟨(some 33), none, false, (.append 1 8 (.tmp 21) (.tmp 32))⟩, ⟨(some 5), none, false, (.mov (.tmp 33))⟩]) (.ops [⟨(some 34), none, false, (.mov (.tmp 6))⟩, ⟨(some 35), none, false, (.addOff 2 (.tmp 2))⟩, ⟨(some 36), none, false, (.load false 1 (.tmp 35))⟩, ⟨(some 37), none, false, (.bin .int .mul (.tmp 34) (.tmp 36))⟩, ⟨(some 38), none, false, (.min (.tmp 37) [(.const (.int .i64 3600000))])⟩, ⟨(some 6), none, false, (.mov (.tmp 38))⟩]))))) (.ops [⟨(some 39), none, false, (.bin .int .add (.tmp 13) (.const (.int .i64 1)))⟩, ⟨(some 13), none, false, (.mov (.tmp 39))⟩]))))))) (.seq (.ops [⟨(some 40), none, false, (.mov (.tmp 5))⟩, ⟨(some 4), none, false, (.mov (.tmp 40))⟩]) .ret)))))
def m19 : MFun := ⟨k19, [(.tmp 4)]⟩
def k18 : MCode := (.seq (.ops [⟨(some 4), none, false, (.mov (.const (.bool false)))⟩]) (.seq (.seq (.ops [⟨(some 6), none, false, (.mov (.tmp 0))⟩, ⟨(some 7), none, false, (.len (.tmp 6))⟩, ⟨(some 8), none, false, (.mov (.tmp 1))⟩, ⟨(some 9), none, false, (.len (.tmp 8))⟩, ⟨(some 10), none, false, (.bin .int .neq (.tmp 7) (.tmp 9))⟩]) (.cond (.tmp 10) (.seq (.ops [⟨(some 4), none, false, (.mov (.const (.bool false)))⟩]) .ret) .skip)) (.seq (.seq (.ops [⟨(some 11), none, false, (.mov (.tmp 0))⟩, ⟨(some 12), none, false, (.len (.tmp 11))⟩, ⟨(some 13), none, false, (.mov (.const (.int .i64 0)))⟩]) (.block 0 (.loop (.seq (.ops [⟨(some 14), none, false, (.bin .int .lss (.tmp 13) (.tmp 12))⟩]) (.seq (.cond (.tmp 14) .skip (.exit 0)) (.seq (.block 1 (.seq (.ops [⟨(some 15), none, false, (.mov (.tmp 13))⟩, ⟨(some 5), none, false, (.mov (.tmp 15))⟩]) (.seq (.opsD [⟨(some 16), none, false, (.mov (.tmp 0))⟩, ⟨(some 17), none, false, (.mov (.tmp 5))⟩, ⟨(some 18), none, false, (.idxS 1 (.tmp 16) (.tmp 17))⟩, ⟨(some 19), none, false, (.load false 1 (.tmp 18))⟩, ⟨(some 20), none, false, (.mov (.tmp 1))⟩, ⟨(some 21), none, false, (.mov (.tmp 5))⟩, ⟨(some 22), none, false, (.idxS 1 (.tmp 20) (.tmp 21))⟩, ⟨(some 23), none, false, (.load false 1 (.tmp 22))⟩, ⟨(some 24), none, false, (.bin .int .neq (.tmp 19) (.tmp 23))⟩]) (.cond (.tmp 24) (.seq (.ops [⟨(some 4), none, false, (.mov (.const (.bool false)))⟩]) .ret) .skip)))) (.ops [⟨(some 25), none, false, (.bin .int .add (.tmp 13) (.const (.int .i64 1)))⟩, ⟨(some 13), none, false, (.mov (.tmp 25))⟩]))))))) (.seq (.ops [⟨(some 4), none, false, (.mov (.const (.bool true)))⟩]) .ret))))
def m18 : MFun := ⟨k18, [(.tmp 4)]⟩
theorem c18 : compFn Try.prog Try.f18 = some m18 := by kernel_rfl
def k14 : MCode := (.seq (.ops [⟨(some 0), none, false, (.mov (.const (.bool false)))⟩]) (.seq (.ops [⟨(some 4), none, false, (.build [(.int .i64 0), (.int .i64 0), (.int .i64 0), (.int .i64 0), (.int .i64 0)] [(0, (1, (.const (.int .i64 1)))), (1, (1, (.const (.int .i64 10)))), (2, (1, (.const (.int .i64 2)))), (4, (1, (.const (.int .i64 3))))])⟩, ⟨(some 5), none, false, (.call false (.func 12) [(.tmp 4), (.const (.int .i64 0))])⟩, ⟨(some 3), none, false, (.mov (.tmp 5))⟩, ⟨(some 6), none, false, (.extract (.tmp 3) 0)⟩, ⟨(some 7), none, false, (.extract (.tmp 3) 1)⟩, ⟨(some 1), none, false, (.mov (.tmp 6))⟩, ⟨(some 2), none, false, (.mov (.tmp 7))⟩]) (.seq (.ops [⟨(some 8), none, false, (.mov (.tmp 2))⟩, ⟨(some 9), none, false, (.bin .int .eql (.tmp 8) (.const (.int .i64 0)))⟩, ⟨(some 10), none, false, (.mov (.tmp 9))⟩, ⟨(some 11), (some (10, true)), false, (.mov (.tmp 1))⟩, ⟨(some 12), (some (10, true)), false, (.buildSlice [(.int .i64 0), (.int .i64 0)] 1 2 [(0, (1, (.const (.int .i64 1)))), (1, (1, (.const (.int .i64 2))))])⟩, ⟨(some 13), (some (10, true)), false, (.call false (.func 18) [(.tmp 11), (.tmp 12)])⟩, ⟨(some 14), none, false, (.pick (.tmp 10) (.tmp 13) (.const (.bool false)))⟩, ⟨(some 0), none, false, (.mov (.tmp 14))⟩]) .ret)))
def m14 : MFun := ⟨k14, [(.tmp 0)]⟩
theorem c14 : compFn Try.prog Try.f14 = some m14 := by kernel_rfl
def k3 : MCode := (.seq (.ops [⟨(some 2), none, false, (.box 1 (.tmp 0))⟩, ⟨(some 4), none, false, (.mov (.const (.bool false)))⟩]) (.seq (.ops [⟨(some 9), none, false, (.load true 5 (.tmp 2))⟩, ⟨(some 10), none, false, (.call false (.func 11) [(.tmp 9)])⟩, ⟨(some 5), none, false, (.mov (.tmp 10))⟩]) (.seq (.ops [⟨(some 12), none, false, (.load true 5 (.tmp 2))⟩, ⟨(some 13), none, false, (.mov (.tmp 1))⟩, ⟨(some 14), none, false, (.call false (.func 12) [(.tmp 12), (.tmp 13)])⟩, ⟨(some 11), none, false, (.mov (.tmp 14))⟩, ⟨(some 15), none, false, (.extract (.tmp 11) 0)⟩, ⟨(some 16), none, false, (.extract (.tmp 11) 1)⟩, ⟨(some 6), none, false, (.mov (.tmp 15))⟩, ⟨(some 7), none, false, (.mov (.tmp 16))⟩]) (.seq (.ops [⟨(some 17), none, false, (.load true 5 (.tmp 2))⟩, ⟨(some 18), none, false, (.call false (.func 13) [(.tmp 17)])⟩, ⟨(some 8), none, false, (.mov (.tmp 18))⟩]) (.seq (.seq (.ops [⟨(some 19), none, false, (.call false (.func 14) [])⟩, ⟨(some 20), none, false, (.un .not (.tmp 19))⟩, ⟨(some 21), none, false, (.mov (.tmp 20))⟩, ⟨(some 22), (some (21, false)), false, (.mov (.tmp 5))⟩, ⟨(some 23), (some (21, false)), false, (.mov (.tmp 8))⟩, ⟨(some 24), (some (21, false)), false, (.bin .int .neq (.tmp 22) (.tmp 23))⟩, ⟨(some 25), none, false, (.pick (.tmp 21) (.const (.bool true)) (.tmp 24))⟩]) (.cond (.tmp 25) (.seq (.ops [⟨(some 4), none, false, (.mov (.const (.bool false)))⟩]) .ret) .skip)) (.seq (.ops [⟨(some 26), none, false, (.mov (.tmp 8))⟩, ⟨(some 27), none, false, (.mov (.tmp 1))⟩, ⟨(some 28), none, false, (.call false (.func 17) [(.tmp 27), (.const (.int .i64 0)), (.const (.int .i64 2147483647))])⟩, ⟨(some 29), none, false, (.un .not (.tmp 28))⟩, ⟨(some 30), none, false, (.call false (.func 16) [(.tmp 29), (.const (.int .i64 7))])⟩, ⟨(some 31), none, false, (.buildSlice [(.int .i64 0), (.int .i64 0)] 1 2 [(0, (1, (.tmp 26))), (1, (1, (.tmp 30)))])⟩, ⟨(some 32), none, false, (.call false (.func 15) [(.tmp 31)])⟩, ⟨(some 8), none, false, (.mov (.tmp 32))⟩]) (.seq (.seq (.ops [⟨(some 33), none, false, (.mov (.tmp 8))⟩, ⟨(some 34), none, false, (.bin .int .neq (.tmp 33) (.const (.int .i64 0)))⟩]) (.cond (.tmp 34) (.seq (.ops [⟨(some 35), none, false, (.mov (.tmp 6))⟩, ⟨(some 36), none, false, (.len (.tmp 35))⟩, ⟨(some 37), none, false, (.bin .int .eql (.tmp 36) (.const (.int .i64 0)))⟩, ⟨(some 38), none, false, (.mov (.tmp 37))⟩, ⟨(some 39), (some (38, true)), false, (.mov (.tmp 7))⟩, ⟨(some 40), (some (38, true)), false, (.mov (.tmp 8))⟩, ⟨(some 41), (some (38, true)), false, (.bin .int .eql (.tmp 39) (.tmp 40))⟩, ⟨(some 42), none, false, (.pick (.tmp 38) (.tmp 41) (.const (.bool false)))⟩, ⟨(some 4), none, false, (.mov (.tmp 42))⟩]) .ret) .skip)) (.seq (.ops [⟨(some 43), none, false, (.mov (.tmp 7))⟩, ⟨(some 44), none, false, (.bin .int .eql (.tmp 43) (.const (.int .i64 0)))⟩, ⟨(some 45), none, false, (.mov (.tmp 44))⟩, ⟨(some 46), (some (45, true)), false, (.mov (.tmp 6))⟩, ⟨(some 47), (some (45, true)), false, (.load true 5 (.tmp 2))⟩, ⟨(some 48), (some (45, true)), false, (.mov (.tmp 1))⟩, ⟨(some 49), (some (45, true)), false, (.call false (.func 19) [(.tmp 47), (.tmp 48)])⟩, ⟨(some 50), (some (45, true)), false, (.call false (.func 18) [(.tmp 46), (.tmp 49)])⟩, ⟨(some 51), none, false, (.pick (.tmp 45) (.tmp 50) (.const (.bool false)))⟩, ⟨(some 4), none, false, (.mov (.tmp 51))⟩]) .ret))))))))
def m3 : MFun := ⟨k3, [(.tmp 4)]⟩
theorem c3 : compFn Try.prog Try.f3 = some m3 := by kernel_rfl
end Go.Proofs.Ytidpkoaomfbljaa.AM
/- Stores. -/
namespace Go.Proofs.Ytidpkoaomfbljaa.AM
open Go
set_option linter.all false

def stB (H : AH) (a : Addr) (vs : List Value) : Option Blk → Option AH
  | some b => if b.ro = false ∧ a.off + vs.length ≤ b.cells.length then some (H.set a.block (some { b with cells := splice b.cells a.off vs })) else none
  | none => none
theorem stc_eq {H : AH} {a : Addr} {vs : List Value} : stc H a vs = if vs.all one = true then stB H a vs (H.get a.block) else none := by
  unfold stc stU stB
  cases H.get a.block <;> rfl
theorem stB_some {H : AH} {a : Addr} {vs : List Value} {b : Blk} : stB H a vs (some b) = if b.ro = false ∧ a.off + vs.length ≤ b.cells.length then some (H.set a.block (some { b with cells := splice b.cells a.off vs })) else none := rfl
theorem set_set {H : AH} {id : Nat} {x y : Option Blk} : (H.set id x).set id y = H.set id y := by
  simp only [AH.set, List.set_set, AH.mk.injEq, true_and]
  omega
theorem set_get {H : AH} {id : Nat} {x : Option Blk} (h : id < H.next) : (H.set id x).get id = x := AH.get_set_eq H x h
theorem back_set {H : AH} {id : Nat} {x : Option Blk} {v : Value} (h : id < H.next) : back H (H.enter.set id x) v = (v, H.set id x) := by
  unfold back
  have e : (H.enter.set id x).low = min H.next id := rfl
  rw [e, if_pos (by omega)]
  simp only [AH.set, AH.enter, Prod.mk.injEq, AH.mk.injEq, true_and]
  omega
end Go.Proofs.Ytidpkoaomfbljaa.AM
/- The rules in one set. -/
namespace Go.Proofs.Ytidpkoaomfbljaa.AM
open Go
set_option linter.all false
attribute [go_sem ↓] rn_seq rn_cond rn_block rn_ops rn_opsD rn_skip rn_exit rn_ret rn_nil rn_plain rn_old rn_guard rn_guardOld rn_call rn_callP rn_callL rn_mov rn_pick rn_bin rn_eqc rn_un rn_conv rn_strMov rn_toStr rn_toBytes rn_alloc rn_box rn_build rn_buildSlice rn_load rn_store rn_storeX rn_newMap rn_boxDead rn_nilCheck rn_addOff rn_idxS rn_idxA rn_field rn_strIdx rn_arrIdx rn_sliceStr rn_sliceS rn_sliceA rn_toArr rn_mkIface rn_mkFunc rn_mkSlice rn_extract rn_append rn_len rn_lenStr rn_lenC rn_min rn_max upd_self upd_ne seqQ_normal seqQ_exit seqQ_ret blockQ_normal blockQ_exit blockQ_ret normQ_normal finQ_normal finQ_ret
attribute [go_sem] orZ_some guardP_un letP_eq bindV_some bindV_none bindV_ite bindP_some bindP_none bindP_ite optP_some optP_none optP_ite intP_int strP_str ptrP_ptr slcN_eq pickP_true pickP_false pickP_dec pickP_not condP_true condP_false condP_dec condP_not guardP_tt guardP_ff guardP_tf guardP_ft guardP_dec guardP_decf guardP_nt guardP_nf callP_some calleeV_eq bound_none bound_some boundV_int callee_eq ev_tmp ev_const ev_func put_some put_none entry_at oldP_nil oldP_one andP_true resL_nil resL_tmp tupV_one tupV_nil tupV_two Option.map_some bin_add bin_sub bin_mul bin_quo bin_rem bin_eql bin_neq bin_lss bin_leq bin_gtr bin_geq bin_and bin_or bin_xor bin_andNot bin_shl bin_shr bin_beq bin_bne bin_cat bin_seq bin_sne bin_nilL bin_nilR bin_nilLn bin_nilRn bin_slcR bin_slcRn bin_ifcR bin_ifcRn one_map cells_map one_iface cells_iface one_nilI cells_nilI farB_nil farB_cons farV_ptr un_not un_neg un_xor foldV_nil foldV_min foldV_max oneOf_one oneOf_agg lw_enter nx_enter gt_enter lw_push AH.next_push if_true if_false ne_eq not_false_eq_true not_true_eq_false List.getD_cons_zero List.getD_cons_succ decide_true decide_false Bool.not_true Bool.not_false Bool.not_not iteP_true iteP_false back_p3 p3_bool p3_int p3_str p3_undef p3_nilS p3_nilP p3_tup p2_bool p2_int p2_str p2_nilS p2_nilP List.all_cons List.all_nil Bool.and_true Bool.true_and Nat.lt_irrefl cells_agg cells_int cells_bool cells_str cells_ptr cells_slc cells_func one_int one_bool one_str one_ptr one_slc one_func ldc_eq ldcB_some addA_eq gt_push List.drop_zero List.drop_succ_cons List.take_succ_cons List.take_zero List.length_cons List.length_nil Nat.zero_add List.cons_append List.nil_append List.append_nil and_true true_and and_false false_and or_true true_or or_false false_or and_self not_true not_false_iff List.set_cons_zero List.set_cons_succ List.size_toArray added_slc List.map_cons List.map_nil Nat.one_mul Nat.mul_one List.getElem?_toArray List.getElem?_cons_zero List.getElem?_cons_succ decide_eq_true_eq Bool.false_eq_true Int.cast_ofNat_Int Option.isNone_none Option.isNone_some Nat.left_eq_add Nat.add_eq_left Nat.add_left_cancel_iff
attribute [go_sem] evL partsV fillC splice
end Go.Proofs.Ytidpkoaomfbljaa.AM
namespace Go.Proofs.Ytidpkoaomfbljaa.AM
open Go
set_option linter.all false
variable {tbl : Tbl} [hT : TMono tbl]

theorem v17 (h17 : tbl 17 = some (.code m17)) (n lo hi : Int) (H : AH) : Val tbl 17 [.int .i64 n, .int .i64 lo, .int .i64 hi] H (.bool (decide (lo ≤ n ∧ n ≤ hi))) H := by
  refine Val.of_all fun Q hQ => ?_
  rw [rn_fun h17, k17]
  simp only [go_sem, Nat.reduceEqDiff, Nat.reduceAdd, Nat.reduceLeDiff, Int.reduceEq, Int.reduceLT, Int.reduceLE, Int.reduceAdd, Int.reduceSub, Int.reduceMul, Int.reduceNeg, Int.reduceToNat, Nat.reduceMul]
  iterate 6 (try (all_goals (try (refine iteP_intro ?_ ?_ <;> intro _ <;> simp only [*, go_sem, Nat.reduceEqDiff, Nat.reduceAdd, Nat.reduceLeDiff, Int.reduceEq, Int.reduceLT, Int.reduceLE, Int.reduceAdd, Int.reduceSub, Int.reduceMul, Int.reduceNeg, Int.reduceToNat, Nat.reduceMul]))))
  all_goals exact leaf hQ (by simp [*]) rfl
theorem v47 (h47 : tbl 47 = some (.code m47)) (n lo hi : Int) (H : AH) : Val tbl 47 [.int .i64 n, .int .i64 lo, .int .i64 hi] H (.bool (decide (lo ≤ n ∧ n ≤ hi))) H := by
  refine Val.of_all fun Q hQ => ?_
  rw [rn_fun h47, k47]
  simp only [go_sem, Nat.reduceEqDiff, Nat.reduceAdd, Nat.reduceLeDiff, Int.reduceEq, Int.reduceLT, Int.reduceLE, Int.reduceAdd, Int.reduceSub, Int.reduceMul, Int.reduceNeg, Int.reduceToNat, Nat.reduceMul]
  iterate 6 (try (all_goals (try (refine iteP_intro ?_ ?_ <;> intro _ <;> simp only [*, go_sem, Nat.reduceEqDiff, Nat.reduceAdd, Nat.reduceLeDiff, Int.reduceEq, Int.reduceLT, Int.reduceLE, Int.reduceAdd, Int.reduceSub, Int.reduceMul, Int.reduceNeg, Int.reduceToNat, Nat.reduceMul]))))
  all_goals exact leaf hQ (by simp [*]) rfl
theorem v11 (h47 : tbl 47 = some (.code m47)) (h11 : tbl 11 = some (.code m11)) (a b c d e : Int) (H : AH) : Val tbl 11 [.agg #[.int .i64 a, .int .i64 b, .int .i64 c, .int .i64 d, .int .i64 e]] H (.int .i64 (if (0 ≤ a ∧ a ≤ 3600000) ∧ (a ≤ b ∧ b ≤ 3600000) ∧ (1 ≤ c ∧ c ≤ 100) ∧ (0 ≤ d ∧ d ≤ 100) ∧ (1 ≤ e ∧ e ≤ 100) then 0 else 7)) H := by
  refine Val.of_all fun Q hQ => ?_
  rw [rn_fun h11, k11]
  simp only [go_sem, Nat.reduceEqDiff, Nat.reduceAdd, Nat.reduceLeDiff, Int.reduceEq, Int.reduceLT, Int.reduceLE, Int.reduceAdd, Int.reduceSub, Int.reduceMul, Int.reduceNeg, Int.reduceToNat, Nat.reduceMul, ↓(v47 h47 _ _ _ _).run]
  iterate 6 (try (all_goals (try (refine iteP_intro ?_ ?_ <;> intro _ <;> simp only [*, go_sem, Nat.reduceEqDiff, Nat.reduceAdd, Nat.reduceLeDiff, Int.reduceEq, Int.reduceLT, Int.reduceLE, Int.reduceAdd, Int.reduceSub, Int.reduceMul, Int.reduceNeg, Int.reduceToNat, Nat.reduceMul, ↓(v47 h47 _ _ _ _).run]))))
  all_goals exact leaf hQ (by simp [*]) rfl
theorem v15 (h15 : tbl 15 = some (.code m15)) (H : AH) (v : Value) (l : List Int) (hs : Sl H 1 v l.length (l.map I64)) (hl : l.length < 1000000000) : Val tbl 15 [v] H (.int .i64 (firstL l)) H := by
  refine Val.of_all fun Q hQ => ?_
  obtain ⟨a, c, hv⟩ := hs.shape
  subst hv
  rw [rn_fun h15, k15]
  simp only [go_sem, Nat.reduceEqDiff, Nat.reduceAdd, Nat.reduceLeDiff, Int.reduceEq, Int.reduceLT, Int.reduceLE, Int.reduceAdd, Int.reduceSub, Int.reduceMul, Int.reduceNeg, Int.reduceToNat, Nat.reduceMul]
  refine rn_loop (fun m f H' => H' = H.enter ∧ ∃ i : Nat, i ≤ l.length ∧ m = l.length - i ∧ f 5 = .slice a l.length c ∧ f 6 = .int .i64 l.length ∧ f 7 = .int .i64 i ∧ firstL (l.drop i) = firstL l) ?_ (n := l.length) ⟨rfl, 0, by omega, by omega, by simp only [go_sem, Nat.reduceEqDiff, Nat.reduceAdd, Nat.reduceLeDiff, Int.reduceEq, Int.reduceLT, Int.reduceLE, Int.reduceAdd, Int.reduceSub, Int.reduceMul, Int.reduceNeg, Int.reduceToNat, Nat.reduceMul], by simp only [go_sem, Nat.reduceEqDiff, Nat.reduceAdd, Nat.reduceLeDiff, Int.reduceEq, Int.reduceLT, Int.reduceLE, Int.reduceAdd, Int.reduceSub, Int.reduceMul, Int.reduceNeg, Int.reduceToNat, Nat.reduceMul], by simp only [go_sem, Nat.reduceEqDiff, Nat.reduceAdd, Nat.reduceLeDiff, Int.reduceEq, Int.reduceLT, Int.reduceLE, Int.reduceAdd, Int.reduceSub, Int.reduceMul, Int.reduceNeg, Int.reduceToNat, Nat.reduceMul] <;> rfl, rfl⟩
  rintro m f H' ⟨rfl, i, hi, rfl, h5, h6, h7, hf⟩
  simp only [h5, h6, h7, go_sem, Nat.reduceEqDiff, Nat.reduceAdd, Nat.reduceLeDiff, Int.reduceEq, Int.reduceLT, Int.reduceLE, Int.reduceAdd, Int.reduceSub, Int.reduceMul, Int.reduceNeg, Int.reduceToNat, Nat.reduceMul]
  refine iteP_intro ?_ ?_ <;> intro hlt
  · simp only [h5, h6, h7, go_sem, Nat.reduceEqDiff, Nat.reduceAdd, Nat.reduceLeDiff, Int.reduceEq, Int.reduceLT, Int.reduceLE, Int.reduceAdd, Int.reduceSub, Int.reduceMul, Int.reduceNeg, Int.reduceToNat, Nat.reduceMul]
    have hi : i < l.length := by omega
    rw [List.drop_eq_getElem_cons hi] at hf
    refine hs.int hi fun p hpl hp => ?_
    simp only [h5, h6, h7, hp, go_sem, Nat.reduceEqDiff, Nat.reduceAdd, Nat.reduceLeDiff, Int.reduceEq, Int.reduceLT, Int.reduceLE, Int.reduceAdd, Int.reduceSub, Int.reduceMul, Int.reduceNeg, Int.reduceToNat, Nat.reduceMul]
    refine iteP_intro ?_ ?_ <;> intro hz
    · simp only [hz, firstL, if_true] at hf
      simp only [h5, h6, h7, hp, go_sem, Nat.reduceEqDiff, Nat.reduceAdd, Nat.reduceLeDiff, Int.reduceEq, Int.reduceLT, Int.reduceLE, Int.reduceAdd, Int.reduceSub, Int.reduceMul, Int.reduceNeg, Int.reduceToNat, Nat.reduceMul]
      rw [w64 (by omega) (by omega)]
      exact ⟨l.length - (i + 1), by omega, rfl, i + 1, by omega, rfl, by simp only [h5, go_sem, Nat.reduceEqDiff, Nat.reduceAdd, Nat.reduceLeDiff, Int.reduceEq, Int.reduceLT, Int.reduceLE, Int.reduceAdd, Int.reduceSub, Int.reduceMul, Int.reduceNeg, Int.reduceToNat, Nat.reduceMul], by simp only [h6, go_sem, Nat.reduceEqDiff, Nat.reduceAdd, Nat.reduceLeDiff, Int.reduceEq, Int.reduceLT, Int.reduceLE, Int.reduceAdd, Int.reduceSub, Int.reduceMul, Int.reduceNeg, Int.reduceToNat, Nat.reduceMul], by simp only [go_sem, Nat.reduceEqDiff, Nat.reduceAdd, Nat.reduceLeDiff, Int.reduceEq, Int.reduceLT, Int.reduceLE, Int.reduceAdd, Int.reduceSub, Int.reduceMul, Int.reduceNeg, Int.reduceToNat, Nat.reduceMul] <;> rfl, hf⟩
    · simp only [firstL, if_neg hz] at hf
      simp only [h5, h6, h7, hp, go_sem, Nat.reduceEqDiff, Nat.reduceAdd, Nat.reduceLeDiff, Int.reduceEq, Int.reduceLT, Int.reduceLE, Int.reduceAdd, Int.reduceSub, Int.reduceMul, Int.reduceNeg, Int.reduceToNat, Nat.reduceMul]
      rw [hf]
      exact hQ
  · have hi : i = l.length := by omega
    subst hi
    rw [List.drop_length] at hf
    rw [← hf] at hQ
    simp only [h5, h6, h7, go_sem, Nat.reduceEqDiff, Nat.reduceAdd, Nat.reduceLeDiff, Int.reduceEq, Int.reduceLT, Int.reduceLE, Int.reduceAdd, Int.reduceSub, Int.reduceMul, Int.reduceNeg, Int.reduceToNat, Nat.reduceMul]
    exact hQ
theorem v16 (h16 : tbl 16 = some (.code m16)) (p : Prop) [Decidable p] (e : Int) (H : AH) : Val tbl 16 [.bool (decide p), .int .i64 e] H (.int .i64 (if p then e else 0)) H := by
  refine Val.of_all fun Q hQ => ?_
  rw [rn_fun h16, k16]
  simp only [go_sem, Nat.reduceEqDiff, Nat.reduceAdd, Nat.reduceLeDiff, Int.reduceEq, Int.reduceLT, Int.reduceLE, Int.reduceAdd, Int.reduceSub, Int.reduceMul, Int.reduceNeg, Int.reduceToNat, Nat.reduceMul]
  iterate 6 (try (all_goals (try (refine iteP_intro ?_ ?_ <;> intro _ <;> simp only [*, go_sem, Nat.reduceEqDiff, Nat.reduceAdd, Nat.reduceLeDiff, Int.reduceEq, Int.reduceLT, Int.reduceLE, Int.reduceAdd, Int.reduceSub, Int.reduceMul, Int.reduceNeg, Int.reduceToNat, Nat.reduceMul]))))
  all_goals exact leaf hQ (by simp [*]) rfl
theorem v48 (h48 : tbl 48 = some (.code m48)) (n : Int) (H : AH) : Val tbl 48 [.int .i64 n] H (.bool (decide (0 ≤ n ∧ n ≤ 2147483647))) H := by
  refine Val.of_all fun Q hQ => ?_
  rw [rn_fun h48, k48]
  simp only [go_sem, Nat.reduceEqDiff, Nat.reduceAdd, Nat.reduceLeDiff, Int.reduceEq, Int.reduceLT, Int.reduceLE, Int.reduceAdd, Int.reduceSub, Int.reduceMul, Int.reduceNeg, Int.reduceToNat, Nat.reduceMul]
  iterate 6 (try (all_goals (try (refine iteP_intro ?_ ?_ <;> intro _ <;> simp only [*, go_sem, Nat.reduceEqDiff, Nat.reduceAdd, Nat.reduceLeDiff, Int.reduceEq, Int.reduceLT, Int.reduceLE, Int.reduceAdd, Int.reduceSub, Int.reduceMul, Int.reduceNeg, Int.reduceToNat, Nat.reduceMul]))))
  · refine leaf hQ ?_ rfl
    congr 2
    simp only [*, true_and, eq_iff_iff]
    omega
  · exact leaf hQ (by simp [*]) rfl
def chanceI (s : Int) : Int := (s * 1103515245 + 12345) % 2147483648
theorem chance_range (s : Int) : 0 ≤ chanceI s ∧ chanceI s ≤ 2147483647 := by unfold chanceI; omega
theorem v68 (h68 : tbl 68 = some (.code m68)) (s : Int) (hs : 0 ≤ s ∧ s ≤ 2147483647) (H : AH) : Val tbl 68 [.int .i64 s] H (.int .i64 (chanceI s)) H := by
  refine Val.of_all fun Q hQ => ?_
  rw [rn_fun h68, k68]
  simp only [go_sem, Nat.reduceEqDiff, Nat.reduceAdd, Nat.reduceLeDiff, Int.reduceEq, Int.reduceLT, Int.reduceLE, Int.reduceAdd, Int.reduceSub, Int.reduceMul, Int.reduceNeg, Int.reduceToNat, Nat.reduceMul]
  rw [w64 (x := s * 1103515245) (by omega) (by omega), w64 (by omega) (by omega)]
  refine leaf hQ ?_ rfl
  rw [Int.tmod_eq_emod_of_nonneg (by omega)]
  rfl
theorem v50 (h50 : tbl 50 = some (.code m50)) (s : Int) (hs : 0 ≤ s ∧ s ≤ 2147483647) (H : AH) : Val tbl 50 [.int .i64 s] H (.int .i64 (chanceI s)) H := by
  refine Val.of_all fun Q hQ => ?_
  rw [rn_fun h50, k50]
  simp only [go_sem, Nat.reduceEqDiff, Nat.reduceAdd, Nat.reduceLeDiff, Int.reduceEq, Int.reduceLT, Int.reduceLE, Int.reduceAdd, Int.reduceSub, Int.reduceMul, Int.reduceNeg, Int.reduceToNat, Nat.reduceMul]
  rw [w64 (x := s * 1103515245) (by omega) (by omega), w64 (by omega) (by omega)]
  refine leaf hQ ?_ rfl
  rw [Int.tmod_eq_emod_of_nonneg (by omega)]
  rfl
def okB (a b c d e : Int) : Prop := (0 ≤ a ∧ a ≤ 3600000) ∧ (a ≤ b ∧ b ≤ 3600000) ∧ (1 ≤ c ∧ c ≤ 100) ∧ (0 ≤ d ∧ d ≤ 100) ∧ (1 ≤ e ∧ e ≤ 100)
instance (a b c d e : Int) : Decidable (okB a b c d e) := inferInstanceAs (Decidable (_ ∧ _))
theorem v13 (h13 : tbl 13 = some (.code m13)) (a b c d e : Int) (H : AH) : Val tbl 13 [.agg #[.int .i64 a, .int .i64 b, .int .i64 c, .int .i64 d, .int .i64 e]] H (.int .i64 (if okB a b c d e then 0 else 7)) H := by
  refine Val.of_all fun Q hQ => ?_
  rw [rn_fun h13, k13]
  simp only [go_sem, Nat.reduceEqDiff, Nat.reduceAdd, Nat.reduceLeDiff, Int.reduceEq, Int.reduceLT, Int.reduceLE, Int.reduceAdd, Int.reduceSub, Int.reduceMul, Int.reduceNeg, Int.reduceToNat, Nat.reduceMul]
  iterate 12 (try (all_goals (try (refine iteP_intro ?_ ?_ <;> intro _ <;> simp only [*, go_sem, Nat.reduceEqDiff, Nat.reduceAdd, Nat.reduceLeDiff, Int.reduceEq, Int.reduceLT, Int.reduceLE, Int.reduceAdd, Int.reduceSub, Int.reduceMul, Int.reduceNeg, Int.reduceToNat, Nat.reduceMul]))))
  all_goals refine leaf hQ ?_ rfl
  all_goals first
    | (rw [if_pos (by unfold okB; omega)]; done)
    | (rw [if_neg (by unfold okB; omega)]; done)
theorem v18 (h18 : tbl 18 = some (.code m18)) (H : AH) (v u : Value) (l r : List Int) (hs : Sl H 1 v l.length (l.map I64)) (hr : Sl H 1 u r.length (r.map I64)) (hl : l.length < 1000000000) : Val tbl 18 [v, u] H (.bool (decide (l = r))) H := by
  refine Val.of_all fun Q hQ => ?_
  obtain ⟨a, c, hv⟩ := hs.shape
  obtain ⟨a2, c2, hu⟩ := hr.shape
  subst hv
  subst hu
  rw [rn_fun h18, k18]
  simp only [go_sem, Nat.reduceEqDiff, Nat.reduceAdd, Nat.reduceLeDiff, Int.reduceEq, Int.reduceLT, Int.reduceLE, Int.reduceAdd, Int.reduceSub, Int.reduceMul, Int.reduceNeg, Int.reduceToNat, Nat.reduceMul]
  refine iteP_intro ?_ ?_ <;> intro hlen
  · have hlen : l.length = r.length := by omega
    simp only [go_sem, Nat.reduceEqDiff, Nat.reduceAdd, Nat.reduceLeDiff, Int.reduceEq, Int.reduceLT, Int.reduceLE, Int.reduceAdd, Int.reduceSub, Int.reduceMul, Int.reduceNeg, Int.reduceToNat, Nat.reduceMul]
    refine rn_loop (fun m f H' => H' = H.enter ∧ ∃ i : Nat, i ≤ l.length ∧ m = l.length - i ∧ f 0 = .slice a l.length c ∧ f 1 = .slice a2 r.length c2 ∧ f 12 = .int .i64 l.length ∧ f 13 = .int .i64 i ∧ l.take i = r.take i) ?_ (n := l.length) ⟨rfl, 0, by omega, by omega, by simp only [go_sem, Nat.reduceEqDiff, Nat.reduceAdd, Nat.reduceLeDiff, Int.reduceEq, Int.reduceLT, Int.reduceLE, Int.reduceAdd, Int.reduceSub, Int.reduceMul, Int.reduceNeg, Int.reduceToNat, Nat.reduceMul], by simp only [go_sem, Nat.reduceEqDiff, Nat.reduceAdd, Nat.reduceLeDiff, Int.reduceEq, Int.reduceLT, Int.reduceLE, Int.reduceAdd, Int.reduceSub, Int.reduceMul, Int.reduceNeg, Int.reduceToNat, Nat.reduceMul], by simp only [go_sem, Nat.reduceEqDiff, Nat.reduceAdd, Nat.reduceLeDiff, Int.reduceEq, Int.reduceLT, Int.reduceLE, Int.reduceAdd, Int.reduceSub, Int.reduceMul, Int.reduceNeg, Int.reduceToNat, Nat.reduceMul], by simp only [go_sem, Nat.reduceEqDiff, Nat.reduceAdd, Nat.reduceLeDiff, Int.reduceEq, Int.reduceLT, Int.reduceLE, Int.reduceAdd, Int.reduceSub, Int.reduceMul, Int.reduceNeg, Int.reduceToNat, Nat.reduceMul] <;> rfl, rfl⟩
    rintro m f H' ⟨rfl, i, hi, rfl, h5, h1, h6, h7, hf⟩
    simp only [h5, h1, h6, h7, go_sem, Nat.reduceEqDiff, Nat.reduceAdd, Nat.reduceLeDiff, Int.reduceEq, Int.reduceLT, Int.reduceLE, Int.reduceAdd, Int.reduceSub, Int.reduceMul, Int.reduceNeg, Int.reduceToNat, Nat.reduceMul]
    refine iteP_intro ?_ ?_ <;> intro hlt
    · simp only [h5, h1, h6, h7, go_sem, Nat.reduceEqDiff, Nat.reduceAdd, Nat.reduceLeDiff, Int.reduceEq, Int.reduceLT, Int.reduceLE, Int.reduceAdd, Int.reduceSub, Int.reduceMul, Int.reduceNeg, Int.reduceToNat, Nat.reduceMul]
      have hi : i < l.length := by omega
      have hi2 : i < r.length := by omega
      refine hs.int hi fun p hpl hp => ?_
      simp only [h5, h1, h6, h7, hp, hpl, go_sem, Nat.reduceEqDiff, Nat.reduceAdd, Nat.reduceLeDiff, Int.reduceEq, Int.reduceLT, Int.reduceLE, Int.reduceAdd, Int.reduceSub, Int.reduceMul, Int.reduceNeg, Int.reduceToNat, Nat.reduceMul]
      refine hr.int hi2 fun p2 hpl2 hp2 => ?_
      simp only [h5, h1, h6, h7, hp2, hpl2, go_sem, Nat.reduceEqDiff, Nat.reduceAdd, Nat.reduceLeDiff, Int.reduceEq, Int.reduceLT, Int.reduceLE, Int.reduceAdd, Int.reduceSub, Int.reduceMul, Int.reduceNeg, Int.reduceToNat, Nat.reduceMul]
      have htl : l.take (i + 1) = l.take i ++ [l[i]] := by rw [List.take_succ_eq_append_getElem hi]
      have htr : r.take (i + 1) = r.take i ++ [r[i]] := by rw [List.take_succ_eq_append_getElem hi2]
      refine iteP_intro ?_ ?_ <;> intro hz
      · simp only [h5, h1, h6, h7, go_sem, Nat.reduceEqDiff, Nat.reduceAdd, Nat.reduceLeDiff, Int.reduceEq, Int.reduceLT, Int.reduceLE, Int.reduceAdd, Int.reduceSub, Int.reduceMul, Int.reduceNeg, Int.reduceToNat, Nat.reduceMul]
        rw [w64 (by omega) (by omega)]
        exact ⟨l.length - (i + 1), by omega, rfl, i + 1, by omega, rfl, by simp only [h5, go_sem, Nat.reduceEqDiff, Nat.reduceAdd, Nat.reduceLeDiff, Int.reduceEq, Int.reduceLT, Int.reduceLE, Int.reduceAdd, Int.reduceSub, Int.reduceMul, Int.reduceNeg, Int.reduceToNat, Nat.reduceMul], by simp only [h1, go_sem, Nat.reduceEqDiff, Nat.reduceAdd, Nat.reduceLeDiff, Int.reduceEq, Int.reduceLT, Int.reduceLE, Int.reduceAdd, Int.reduceSub, Int.reduceMul, Int.reduceNeg, Int.reduceToNat, Nat.reduceMul], by simp only [h6, go_sem, Nat.reduceEqDiff, Nat.reduceAdd, Nat.reduceLeDiff, Int.reduceEq, Int.reduceLT, Int.reduceLE, Int.reduceAdd, Int.reduceSub, Int.reduceMul, Int.reduceNeg, Int.reduceToNat, Nat.reduceMul], by simp only [go_sem, Nat.reduceEqDiff, Nat.reduceAdd, Nat.reduceLeDiff, Int.reduceEq, Int.reduceLT, Int.reduceLE, Int.reduceAdd, Int.reduceSub, Int.reduceMul, Int.reduceNeg, Int.reduceToNat, Nat.reduceMul] <;> rfl, by rw [htl, htr, hf, hz]⟩
      · simp only [h5, h1, h6, h7, go_sem, Nat.reduceEqDiff, Nat.reduceAdd, Nat.reduceLeDiff, Int.reduceEq, Int.reduceLT, Int.reduceLE, Int.reduceAdd, Int.reduceSub, Int.reduceMul, Int.reduceNeg, Int.reduceToNat, Nat.reduceMul]
        refine leaf hQ ?_ rfl
        rw [decide_eq_false]
        intro e
        subst e
        exact hz rfl
    · have hi : i = l.length := by omega
      subst hi
      simp only [h5, h1, h6, h7, go_sem, Nat.reduceEqDiff, Nat.reduceAdd, Nat.reduceLeDiff, Int.reduceEq, Int.reduceLT, Int.reduceLE, Int.reduceAdd, Int.reduceSub, Int.reduceMul, Int.reduceNeg, Int.reduceToNat, Nat.reduceMul]
      refine leaf hQ ?_ rfl
      rw [decide_eq_true]
      rw [List.take_length, hlen, List.take_length] at hf
      exact hf
  · simp only [go_sem, Nat.reduceEqDiff, Nat.reduceAdd, Nat.reduceLeDiff, Int.reduceEq, Int.reduceLT, Int.reduceLE, Int.reduceAdd, Int.reduceSub, Int.reduceMul, Int.reduceNeg, Int.reduceToNat, Nat.reduceMul]
    refine leaf hQ ?_ rfl
    rw [decide_eq_false]
    intro e
    subst e
    simp at hlen
end Go.Proofs.Ytidpkoaomfbljaa.AM
namespace Go.Proofs.Ytidpkoaomfbljaa.AM
open Go
set_option linter.all false
variable {tbl : Tbl} [hT : TMono tbl]

def delL (b c j : Int) : Nat → Int → Int → List Int
  | 0, _, _ => []
  | n + 1, d, s => (d - chanceI s % (d * j / 100 + 1)) :: delL b c j n (if b < d * c then b else d * c) (chanceI s)
theorem delL_len (b c j : Int) : ∀ (n : Nat) (d s : Int), (delL b c j n d s).length = n := by
  intro n
  induction n with
  | zero => intro d s; rfl
  | succ n ih => intro d s; simp only [delL, List.length_cons, ih]
theorem mulB {d c : Int} (hd : 0 ≤ d ∧ d ≤ 3600000) (hc : 0 ≤ c ∧ c ≤ 100) : 0 ≤ d * c ∧ d * c ≤ 360000000 := by
  refine ⟨Int.mul_nonneg hd.1 hc.1, ?_⟩
  calc d * c ≤ 3600000 * c := Int.mul_le_mul_of_nonneg_right hd.2 hc.1
    _ ≤ 3600000 * 100 := Int.mul_le_mul_of_nonneg_left hc.2 (by omega)
theorem p1_ints (l : List Int) : (l.map I64).all p1 = true := by
  rw [List.all_eq_true]
  intro x hx
  obtain ⟨y, _, rfl⟩ := List.mem_map.1 hx
  rfl
theorem Own.push {base : Nat} {H : AH} {es n : Nat} {v : Value} {l : List Value} (h : Own base H es v n l) (b : Blk) : Own base (H.push b) es v n l := by
  rcases h with h | ⟨b', h0, h1, h2, h3, h4⟩
  · exact .inl h
  · exact .inr ⟨b', h0, by rw [AH.get_push_lt _ _ (AH.get_lt h1)]; exact h1, h2, h3, h4⟩
def box5 (a b c d e : Int) : Blk := ⟨[.int .i64 a, .int .i64 b, .int .i64 c, .int .i64 d, .int .i64 e], 1, false⟩
theorem v49 (h68 : tbl 68 = some (.code m68)) (h49 : tbl 49 = some (.code m49)) (a b c j e s0 : Int) (hok : okB a b c j e) (hs0 : 0 ≤ s0 ∧ s0 ≤ 2147483647) (H : AH) :
    Val tbl 49 [.agg #[.int .i64 a, .int .i64 b, .int .i64 c, .int .i64 j, .int .i64 e], .int .i64 s0] H (mkS H (e - 1).toNat) (mkH H 1 (e - 1).toNat ((delL b c j (e - 1).toNat a s0).map I64)) := by
  obtain ⟨hok1, hok2, hok3, hok4, hok5⟩ := hok
  refine Val.of_all fun Q hQ => ?_
  rw [rn_fun h49, k49]
  simp only [go_sem, Nat.reduceEqDiff, Nat.reduceAdd, Nat.reduceLeDiff, Int.reduceEq, Int.reduceLT, Int.reduceLE, Int.reduceAdd, Int.reduceSub, Int.reduceMul, Int.reduceNeg, Int.reduceToNat, Nat.reduceMul]
  rw [w64 (by omega) (by omega)]
  refine rn_loop (fun m f H' => ∃ (i : Nat) (d s : Int) (l : List Int) (v : Value), (i : Int) ≤ e - 1 ∧ m = (e - 1).toNat - i ∧ f 1 = .int .i64 s ∧ f 2 = .pointer (some ⟨H.next, 0, none⟩) ∧ f 5 = v ∧ f 6 = .int .i64 d ∧ f 11 = .int .i64 (e - 1) ∧ f 12 = .int .i64 i ∧
    Own (H.next + 1) H' 1 v l.length (l.map I64) ∧ l.length = i ∧ l ++ delL b c j ((e - 1).toNat - i) d s = delL b c j (e - 1).toNat a s0 ∧ H'.get H.next = some (box5 a b c j e) ∧ H.next + 1 ≤ H'.next ∧ H.next ≤ H'.low ∧ (0 ≤ d ∧ d ≤ 3600000) ∧ (0 ≤ s ∧ s ≤ 2147483647)) ?_
    (n := (e - 1).toNat) ⟨0, a, s0, [], .slice none 0 0, by omega, by omega, by simp only [go_sem, Nat.reduceEqDiff, Nat.reduceAdd, Nat.reduceLeDiff, Int.reduceEq, Int.reduceLT, Int.reduceLE, Int.reduceAdd, Int.reduceSub, Int.reduceMul, Int.reduceNeg, Int.reduceToNat, Nat.reduceMul], by simp only [go_sem, Nat.reduceEqDiff, Nat.reduceAdd, Nat.reduceLeDiff, Int.reduceEq, Int.reduceLT, Int.reduceLE, Int.reduceAdd, Int.reduceSub, Int.reduceMul, Int.reduceNeg, Int.reduceToNat, Nat.reduceMul], by simp only [go_sem, Nat.reduceEqDiff, Nat.reduceAdd, Nat.reduceLeDiff, Int.reduceEq, Int.reduceLT, Int.reduceLE, Int.reduceAdd, Int.reduceSub, Int.reduceMul, Int.reduceNeg, Int.reduceToNat, Nat.reduceMul], by simp only [go_sem, Nat.reduceEqDiff, Nat.reduceAdd, Nat.reduceLeDiff, Int.reduceEq, Int.reduceLT, Int.reduceLE, Int.reduceAdd, Int.reduceSub, Int.reduceMul, Int.reduceNeg, Int.reduceToNat, Nat.reduceMul], by simp only [go_sem, Nat.reduceEqDiff, Nat.reduceAdd, Nat.reduceLeDiff, Int.reduceEq, Int.reduceLT, Int.reduceLE, Int.reduceAdd, Int.reduceSub, Int.reduceMul, Int.reduceNeg, Int.reduceToNat, Nat.reduceMul], by simp only [go_sem, Nat.reduceEqDiff, Nat.reduceAdd, Nat.reduceLeDiff, Int.reduceEq, Int.reduceLT, Int.reduceLE, Int.reduceAdd, Int.reduceSub, Int.reduceMul, Int.reduceNeg, Int.reduceToNat, Nat.reduceMul] <;> rfl, .inl ⟨rfl, rfl, rfl⟩, rfl, rfl, by simp only [go_sem, Nat.reduceEqDiff, Nat.reduceAdd, Nat.reduceLeDiff, Int.reduceEq, Int.reduceLT, Int.reduceLE, Int.reduceAdd, Int.reduceSub, Int.reduceMul, Int.reduceNeg, Int.reduceToNat, Nat.reduceMul] <;> rfl, by simp only [go_sem, Nat.reduceEqDiff, Nat.reduceAdd, Nat.reduceLeDiff, Int.reduceEq, Int.reduceLT, Int.reduceLE, Int.reduceAdd, Int.reduceSub, Int.reduceMul, Int.reduceNeg, Int.reduceToNat, Nat.reduceMul] <;> omega, by simp only [go_sem, Nat.reduceEqDiff, Nat.reduceAdd, Nat.reduceLeDiff, Int.reduceEq, Int.reduceLT, Int.reduceLE, Int.reduceAdd, Int.reduceSub, Int.reduceMul, Int.reduceNeg, Int.reduceToNat, Nat.reduceMul] <;> omega, by omega, hs0⟩
  rintro m f H' ⟨i, d, s, l, v, hi, rfl, f1, f2, f5, f6, f11, f12, hown, hlen, hL, hbox, hnx, hlow, hd, hs⟩
  simp only [f1, f2, f5, f6, f11, f12, go_sem, Nat.reduceEqDiff, Nat.reduceAdd, Nat.reduceLeDiff, Int.reduceEq, Int.reduceLT, Int.reduceLE, Int.reduceAdd, Int.reduceSub, Int.reduceMul, Int.reduceNeg, Int.reduceToNat, Nat.reduceMul]
  refine iteP_intro ?_ ?_ <;> intro hlt
  · have hne : ¬ H.next = H'.next := by omega
    have hdj := mulB hd ⟨hok4.1, hok4.2⟩
    have hdc := mulB hd ⟨by omega, hok3.2⟩
    have w1 := w64 (x := d * j) (by omega) (by omega)
    have t1 : (d * j).tdiv 100 = d * j / 100 := Int.tdiv_eq_ediv_of_nonneg hdj.1
    have w2 := w64 (x := d * j / 100) (by omega) (by omega)
    have w3 := w64 (x := d * j / 100 + 1) (by omega) (by omega)
    have z1 : ¬ d * j / 100 + 1 = 0 := by omega
    have hcr := chance_range s
    have t2 : (chanceI s).tmod (d * j / 100 + 1) = chanceI s % (d * j / 100 + 1) := Int.tmod_eq_emod_of_nonneg hcr.1
    have hm1 := Int.emod_nonneg (chanceI s) z1
    have hm2 := Int.emod_lt_of_pos (chanceI s) (show 0 < d * j / 100 + 1 by omega)
    have w4 := w64 (x := d - chanceI s % (d * j / 100 + 1)) (by omega) (by omega)
    simp only [f1, f2, f5, f6, f11, f12, hbox, hne, box5, w1, w2, w3, w4, t1, t2, z1, ↓(v68 h68 s hs _).run, go_sem, Nat.reduceEqDiff, Nat.reduceAdd, Nat.reduceLeDiff, Int.reduceEq, Int.reduceLT, Int.reduceLE, Int.reduceAdd, Int.reduceSub, Int.reduceMul, Int.reduceNeg, Int.reduceToNat, Nat.reduceMul]
    obtain ⟨v', H2, he, hown2, hget2, hnx2, hlow2⟩ := (hown.push ⟨[.int .i64 (d - chanceI s % (d * j / 100 + 1))], 1, false⟩).append (bytes := 8) (k := 1) (new := [.int .i64 (d - chanceI s % (d * j / 100 + 1))]) (by rw [AH.next_push]; omega) (by omega) rfl (by omega)
    rw [he]
    have hbox2 : H2.get H.next = some (box5 a b c j e) := by rw [hget2 _ (by omega), AH.get_push_lt _ _ (by omega)]; exact hbox
    have w5 := w64 (x := d * c) (by omega) (by omega)
    have w6 := w64 (x := (i : Int) + 1) (by omega) (by omega)
    simp only [f1, f2, f5, f6, f11, f12, hbox2, box5, w5, w6, go_sem, Nat.reduceEqDiff, Nat.reduceAdd, Nat.reduceLeDiff, Int.reduceEq, Int.reduceLT, Int.reduceLE, Int.reduceAdd, Int.reduceSub, Int.reduceMul, Int.reduceNeg, Int.reduceToNat, Nat.reduceMul]
    rw [AH.next_push] at hnx2
    have hlow3 := hlow2 H.next (by omega) hlow
    obtain ⟨k, hk⟩ : ∃ k, (e - 1).toNat - i = k + 1 := ⟨(e - 1).toNat - i - 1, by omega⟩
    rw [hk] at hL
    simp only [delL] at hL
    refine ⟨(e - 1).toNat - (i + 1), by omega, i + 1, if b < d * c then b else d * c, chanceI s, l ++ [d - chanceI s % (d * j / 100 + 1)], v', by omega, rfl, by simp only [go_sem, Nat.reduceEqDiff, Nat.reduceAdd, Nat.reduceLeDiff, Int.reduceEq, Int.reduceLT, Int.reduceLE, Int.reduceAdd, Int.reduceSub, Int.reduceMul, Int.reduceNeg, Int.reduceToNat, Nat.reduceMul], by simp only [f2, go_sem, Nat.reduceEqDiff, Nat.reduceAdd, Nat.reduceLeDiff, Int.reduceEq, Int.reduceLT, Int.reduceLE, Int.reduceAdd, Int.reduceSub, Int.reduceMul, Int.reduceNeg, Int.reduceToNat, Nat.reduceMul], by simp only [go_sem, Nat.reduceEqDiff, Nat.reduceAdd, Nat.reduceLeDiff, Int.reduceEq, Int.reduceLT, Int.reduceLE, Int.reduceAdd, Int.reduceSub, Int.reduceMul, Int.reduceNeg, Int.reduceToNat, Nat.reduceMul], by simp only [go_sem, Nat.reduceEqDiff, Nat.reduceAdd, Nat.reduceLeDiff, Int.reduceEq, Int.reduceLT, Int.reduceLE, Int.reduceAdd, Int.reduceSub, Int.reduceMul, Int.reduceNeg, Int.reduceToNat, Nat.reduceMul], by simp only [f11, go_sem, Nat.reduceEqDiff, Nat.reduceAdd, Nat.reduceLeDiff, Int.reduceEq, Int.reduceLT, Int.reduceLE, Int.reduceAdd, Int.reduceSub, Int.reduceMul, Int.reduceNeg, Int.reduceToNat, Nat.reduceMul], by simp only [go_sem, Nat.reduceEqDiff, Nat.reduceAdd, Nat.reduceLeDiff, Int.reduceEq, Int.reduceLT, Int.reduceLE, Int.reduceAdd, Int.reduceSub, Int.reduceMul, Int.reduceNeg, Int.reduceToNat, Nat.reduceMul] <;> rfl, by simpa [I64] using hown2, by simp [hlen], ?_, hbox2, by omega, hlow3, ?_, hcr⟩
    · rw [← hL, List.append_assoc, show (e - 1).toNat - (i + 1) = k by omega]
      rfl
    · split <;> omega
  · have hi : i = (e - 1).toNat := by omega
    subst hi
    rw [Nat.sub_self] at hL
    simp only [delL, List.append_nil] at hL
    subst hL
    simp only [f1, f2, f5, f6, f11, f12, go_sem, Nat.reduceEqDiff, Nat.reduceAdd, Nat.reduceLeDiff, Int.reduceEq, Int.reduceLT, Int.reduceLE, Int.reduceAdd, Int.reduceSub, Int.reduceMul, Int.reduceNeg, Int.reduceToNat, Nat.reduceMul]
    rw [back_own hown (by omega) hlow (p1_ints _), delL_len]
    exact hQ

/-- The reference's. -/
def delR (b c j : Int) : Nat → Int → Int → List Int
  | 0, _, _ => []
  | n + 1, d, s => ((if b < d then b else d) - chanceI s % ((if b < d then b else d) * j / 100 + 1)) :: delR b c j n (if 3600000 < d * c then 3600000 else d * c) (chanceI s)
theorem delR_eq {b c j : Int} (hb : 0 ≤ b ∧ b ≤ 3600000) (hc : 1 ≤ c) : ∀ (n : Nat) (d s : Int), 0 ≤ d → delR b c j n d s = delL b c j n (if b < d then b else d) s := by
  intro n
  induction n with
  | zero => intro d s _; rfl
  | succ n ih =>
    intro d s hd
    have h1 : d ≤ d * c := by
      have := Int.mul_le_mul_of_nonneg_left hc hd
      omega
    have h2 : b ≤ b * c := by
      have := Int.mul_le_mul_of_nonneg_left hc hb.1
      omega
    simp only [delR, delL]
    rw [ih _ _ (by split <;> omega)]
    congr 2
    by_cases h : b < d
    · simp only [if_pos h]
      by_cases h3 : 3600000 < d * c
      · simp only [if_pos h3]; split <;> split <;> omega
      · simp only [if_neg h3]; split <;> split <;> omega
    · simp only [if_neg h]
      by_cases h3 : 3600000 < d * c
      · simp only [if_pos h3]; split <;> split <;> omega
      · simp only [if_neg h3]
theorem delR_len (b c j : Int) : ∀ (n : Nat) (d s : Int), (delR b c j n d s).length = n := by
  intro n
  induction n with
  | zero => intro d s; rfl
  | succ n ih => intro d s; simp only [delR, List.length_cons, ih]
theorem v19 (h50 : tbl 50 = some (.code m50)) (h19 : tbl 19 = some (.code m19)) (a b c j e s0 : Int) (hok : okB a b c j e) (hs0 : 0 ≤ s0 ∧ s0 ≤ 2147483647) (H : AH) :
    Val tbl 19 [.agg #[.int .i64 a, .int .i64 b, .int .i64 c, .int .i64 j, .int .i64 e], .int .i64 s0] H (mkS H (e - 1).toNat) (mkH H 1 (e - 1).toNat ((delR b c j (e - 1).toNat a s0).map I64)) := by
  obtain ⟨hok1, hok2, hok3, hok4, hok5⟩ := hok
  refine Val.of_all fun Q hQ => ?_
  rw [rn_fun h19, k19]
  simp only [go_sem, Nat.reduceEqDiff, Nat.reduceAdd, Nat.reduceLeDiff, Int.reduceEq, Int.reduceLT, Int.reduceLE, Int.reduceAdd, Int.reduceSub, Int.reduceMul, Int.reduceNeg, Int.reduceToNat, Nat.reduceMul]
  rw [w64 (by omega) (by omega)]
  refine rn_loop (fun m f H' => ∃ (i : Nat) (d s : Int) (l : List Int) (v : Value), (i : Int) ≤ e - 1 ∧ m = (e - 1).toNat - i ∧ f 1 = .int .i64 s ∧ f 2 = .pointer (some ⟨H.next, 0, none⟩) ∧ f 5 = v ∧ f 6 = .int .i64 d ∧ f 12 = .int .i64 (e - 1) ∧ f 13 = .int .i64 i ∧
    Own (H.next + 1) H' 1 v l.length (l.map I64) ∧ l.length = i ∧ l ++ delR b c j ((e - 1).toNat - i) d s = delR b c j (e - 1).toNat a s0 ∧ H'.get H.next = some (box5 a b c j e) ∧ H.next + 1 ≤ H'.next ∧ H.next ≤ H'.low ∧ (0 ≤ d ∧ d ≤ 3600000) ∧ (0 ≤ s ∧ s ≤ 2147483647)) ?_
    (n := (e - 1).toNat) ⟨0, a, s0, [], .slice none 0 0, by omega, by omega, by simp only [go_sem, Nat.reduceEqDiff, Nat.reduceAdd, Nat.reduceLeDiff, Int.reduceEq, Int.reduceLT, Int.reduceLE, Int.reduceAdd, Int.reduceSub, Int.reduceMul, Int.reduceNeg, Int.reduceToNat, Nat.reduceMul], by simp only [go_sem, Nat.reduceEqDiff, Nat.reduceAdd, Nat.reduceLeDiff, Int.reduceEq, Int.reduceLT, Int.reduceLE, Int.reduceAdd, Int.reduceSub, Int.reduceMul, Int.reduceNeg, Int.reduceToNat, Nat.reduceMul], by simp only [go_sem, Nat.reduceEqDiff, Nat.reduceAdd, Nat.reduceLeDiff, Int.reduceEq, Int.reduceLT, Int.reduceLE, Int.reduceAdd, Int.reduceSub, Int.reduceMul, Int.reduceNeg, Int.reduceToNat, Nat.reduceMul], by simp only [go_sem, Nat.reduceEqDiff, Nat.reduceAdd, Nat.reduceLeDiff, Int.reduceEq, Int.reduceLT, Int.reduceLE, Int.reduceAdd, Int.reduceSub, Int.reduceMul, Int.reduceNeg, Int.reduceToNat, Nat.reduceMul], by simp only [go_sem, Nat.reduceEqDiff, Nat.reduceAdd, Nat.reduceLeDiff, Int.reduceEq, Int.reduceLT, Int.reduceLE, Int.reduceAdd, Int.reduceSub, Int.reduceMul, Int.reduceNeg, Int.reduceToNat, Nat.reduceMul], by simp only [go_sem, Nat.reduceEqDiff, Nat.reduceAdd, Nat.reduceLeDiff, Int.reduceEq, Int.reduceLT, Int.reduceLE, Int.reduceAdd, Int.reduceSub, Int.reduceMul, Int.reduceNeg, Int.reduceToNat, Nat.reduceMul] <;> rfl, .inl ⟨rfl, rfl, rfl⟩, rfl, rfl, by simp only [go_sem, Nat.reduceEqDiff, Nat.reduceAdd, Nat.reduceLeDiff, Int.reduceEq, Int.reduceLT, Int.reduceLE, Int.reduceAdd, Int.reduceSub, Int.reduceMul, Int.reduceNeg, Int.reduceToNat, Nat.reduceMul] <;> rfl, by simp only [go_sem, Nat.reduceEqDiff, Nat.reduceAdd, Nat.reduceLeDiff, Int.reduceEq, Int.reduceLT, Int.reduceLE, Int.reduceAdd, Int.reduceSub, Int.reduceMul, Int.reduceNeg, Int.reduceToNat, Nat.reduceMul] <;> omega, by simp only [go_sem, Nat.reduceEqDiff, Nat.reduceAdd, Nat.reduceLeDiff, Int.reduceEq, Int.reduceLT, Int.reduceLE, Int.reduceAdd, Int.reduceSub, Int.reduceMul, Int.reduceNeg, Int.reduceToNat, Nat.reduceMul] <;> omega, by omega, hs0⟩
  rintro m f H' ⟨i, d, s, l, v, hi, rfl, f1, f2, f5, f6, f11, f12, hown, hlen, hL, hbox, hnx, hlow, hd, hs⟩
  simp only [f1, f2, f5, f6, f11, f12, go_sem, Nat.reduceEqDiff, Nat.reduceAdd, Nat.reduceLeDiff, Int.reduceEq, Int.reduceLT, Int.reduceLE, Int.reduceAdd, Int.reduceSub, Int.reduceMul, Int.reduceNeg, Int.reduceToNat, Nat.reduceMul]
  refine iteP_intro ?_ ?_ <;> intro hlt
  · have hne : ¬ H.next = H'.next := by omega
    obtain ⟨n, hn⟩ : ∃ n, n = (if b < d then b else d) := ⟨_, rfl⟩
    have hnr : 0 ≤ n ∧ n ≤ 3600000 := by rw [hn]; split <;> omega
    have hdj := mulB hnr ⟨hok4.1, hok4.2⟩
    have hdc := mulB hd ⟨by omega, hok3.2⟩
    have w1 := w64 (x := n * j) (by omega) (by omega)
    have t1 : (n * j).tdiv 100 = n * j / 100 := Int.tdiv_eq_ediv_of_nonneg hdj.1
    have w2 := w64 (x := n * j / 100) (by omega) (by omega)
    have w3 := w64 (x := n * j / 100 + 1) (by omega) (by omega)
    have z1 : ¬ n * j / 100 + 1 = 0 := by omega
    have hcr := chance_range s
    have t2 : (chanceI s).tmod (n * j / 100 + 1) = chanceI s % (n * j / 100 + 1) := Int.tmod_eq_emod_of_nonneg hcr.1
    have hm1 := Int.emod_nonneg (chanceI s) z1
    have hm2 := Int.emod_lt_of_pos (chanceI s) (show 0 < n * j / 100 + 1 by omega)
    have w4 := w64 (x := n - chanceI s % (n * j / 100 + 1)) (by omega) (by omega)
    simp only [f1, f2, f5, f6, f11, f12, hbox, hne, box5, ← hn, w1, w2, w3, w4, t1, t2, z1, ↓(v50 h50 s hs _).run, go_sem, Nat.reduceEqDiff, Nat.reduceAdd, Nat.reduceLeDiff, Int.reduceEq, Int.reduceLT, Int.reduceLE, Int.reduceAdd, Int.reduceSub, Int.reduceMul, Int.reduceNeg, Int.reduceToNat, Nat.reduceMul]
    obtain ⟨v', H2, he, hown2, hget2, hnx2, hlow2⟩ := (hown.push ⟨[.int .i64 (n - chanceI s % (n * j / 100 + 1))], 1, false⟩).append (bytes := 8) (k := 1) (new := [.int .i64 (n - chanceI s % (n * j / 100 + 1))]) (by rw [AH.next_push]; omega) (by omega) rfl (by omega)
    rw [he]
    have hbox2 : H2.get H.next = some (box5 a b c j e) := by rw [hget2 _ (by omega), AH.get_push_lt _ _ (by omega)]; exact hbox
    have w5 := w64 (x := d * c) (by omega) (by omega)
    have w6 := w64 (x := (i : Int) + 1) (by omega) (by omega)
    simp only [f1, f2, f5, f6, f11, f12, hbox2, box5, w5, w6, go_sem, Nat.reduceEqDiff, Nat.reduceAdd, Nat.reduceLeDiff, Int.reduceEq, Int.reduceLT, Int.reduceLE, Int.reduceAdd, Int.reduceSub, Int.reduceMul, Int.reduceNeg, Int.reduceToNat, Nat.reduceMul]
    rw [AH.next_push] at hnx2
    have hlow3 := hlow2 H.next (by omega) hlow
    obtain ⟨k, hk⟩ : ∃ k, (e - 1).toNat - i = k + 1 := ⟨(e - 1).toNat - i - 1, by omega⟩
    rw [hk] at hL
    simp only [delR, ← hn] at hL
    refine ⟨(e - 1).toNat - (i + 1), by omega, i + 1, if 3600000 < d * c then 3600000 else d * c, chanceI s, l ++ [n - chanceI s % (n * j / 100 + 1)], v', by omega, rfl, by simp only [go_sem, Nat.reduceEqDiff, Nat.reduceAdd, Nat.reduceLeDiff, Int.reduceEq, Int.reduceLT, Int.reduceLE, Int.reduceAdd, Int.reduceSub, Int.reduceMul, Int.reduceNeg, Int.reduceToNat, Nat.reduceMul], by simp only [f2, go_sem, Nat.reduceEqDiff, Nat.reduceAdd, Nat.reduceLeDiff, Int.reduceEq, Int.reduceLT, Int.reduceLE, Int.reduceAdd, Int.reduceSub, Int.reduceMul, Int.reduceNeg, Int.reduceToNat, Nat.reduceMul], by simp only [go_sem, Nat.reduceEqDiff, Nat.reduceAdd, Nat.reduceLeDiff, Int.reduceEq, Int.reduceLT, Int.reduceLE, Int.reduceAdd, Int.reduceSub, Int.reduceMul, Int.reduceNeg, Int.reduceToNat, Nat.reduceMul], by simp only [go_sem, Nat.reduceEqDiff, Nat.reduceAdd, Nat.reduceLeDiff, Int.reduceEq, Int.reduceLT, Int.reduceLE, Int.reduceAdd, Int.reduceSub, Int.reduceMul, Int.reduceNeg, Int.reduceToNat, Nat.reduceMul], by simp only [f11, go_sem, Nat.reduceEqDiff, Nat.reduceAdd, Nat.reduceLeDiff, Int.reduceEq, Int.reduceLT, Int.reduceLE, Int.reduceAdd, Int.reduceSub, Int.reduceMul, Int.reduceNeg, Int.reduceToNat, Nat.reduceMul], by simp only [go_sem, Nat.reduceEqDiff, Nat.reduceAdd, Nat.reduceLeDiff, Int.reduceEq, Int.reduceLT, Int.reduceLE, Int.reduceAdd, Int.reduceSub, Int.reduceMul, Int.reduceNeg, Int.reduceToNat, Nat.reduceMul] <;> rfl, by simpa [I64] using hown2, by simp [hlen], ?_, hbox2, by omega, hlow3, ?_, hcr⟩
    · rw [← hL, List.append_assoc, show (e - 1).toNat - (i + 1) = k by omega]
      rfl
    · split <;> omega
  · have hi : i = (e - 1).toNat := by omega
    subst hi
    rw [Nat.sub_self] at hL
    simp only [delR, List.append_nil] at hL
    subst hL
    simp only [f1, f2, f5, f6, f11, f12, go_sem, Nat.reduceEqDiff, Nat.reduceAdd, Nat.reduceLeDiff, Int.reduceEq, Int.reduceLT, Int.reduceLE, Int.reduceAdd, Int.reduceSub, Int.reduceMul, Int.reduceNeg, Int.reduceToNat, Nat.reduceMul]
    rw [back_own hown (by omega) hlow (p1_ints _), delR_len]
    exact hQ
end Go.Proofs.Ytidpkoaomfbljaa.AM
namespace Go.Proofs.Ytidpkoaomfbljaa.AM
open Go
set_option linter.all false
variable {tbl : Tbl} [hT : TMono tbl]

theorem Own.mkH {base : Nat} {H : AH} {es n es' n' : Nat} {v : Value} {l l' : List Value} (h : Own base H es v n l) : Own base (mkH H es' n' l') es v n l := by
  unfold AM.mkH
  split
  · exact h
  · exact h.push _
theorem sl2 {H : AH} {x y : Int} {c : Nat} : Sl (H.push ⟨[.int .i64 x, .int .i64 y], 1, false⟩) 1 (.slice (some ⟨H.next, 0, none⟩) 2 c) 2 ([x, y].map I64) := by
  refine .inr ⟨_, _, rfl, ?_⟩
  simp [ldc_eq, ldcB_some, gt_push, I64]
theorem sl2' {H : AH} {x y : Int} {b c : Nat} (hb : b = H.next) : Sl (H.push ⟨[.int .i64 x, .int .i64 y], 1, false⟩) 1 (.slice (some ⟨b, 0, none⟩) 2 c) 2 ([x, y].map I64) := by
  subst hb
  exact sl2
theorem v16b (h16 : tbl 16 = some (.code m16)) (b : Bool) (e : Int) (H : AH) : Val tbl 16 [.bool b, .int .i64 e] H (.int .i64 (if b = true then e else 0)) H := by
  have := v16 h16 (b = true) e H
  simpa only [Bool.decide_eq_true] using this
theorem ints_len (l : List Int) : (l.map I64).length = l.length * 1 := by simp
theorem v11' (h47 : tbl 47 = some (.code m47)) (h11 : tbl 11 = some (.code m11)) (a b c d e : Int) (H : AH) : Val tbl 11 [.agg #[.int .i64 a, .int .i64 b, .int .i64 c, .int .i64 d, .int .i64 e]] H (.int .i64 (if okB a b c d e then 0 else 7)) H := v11 h47 h11 a b c d e H
section
variable (h47 : tbl 47 = some (.code m47)) (h11 : tbl 11 = some (.code m11)) (h48 : tbl 48 = some (.code m48)) (h68 : tbl 68 = some (.code m68)) (h49 : tbl 49 = some (.code m49)) (h12 : tbl 12 = some (.code m12))
include h47 h11 h48 h68 h49 h12
theorem v12_ok (a b c j e s : Int) (hok : okB a b c j e) (hs : 0 ≤ s ∧ s ≤ 2147483647) (H : AH) : Val tbl 12 [.agg #[.int .i64 a, .int .i64 b, .int .i64 c, .int .i64 j, .int .i64 e], .int .i64 s] H
    (.tuple #[mkS H (e - 1).toNat, .int .i64 0]) (mkH H 1 (e - 1).toNat ((delL b c j (e - 1).toNat a s).map I64)) := by
  refine Val.of_all fun Q hQ => ?_
  rw [rn_fun h12, k12]
  simp only [↓(v11' h47 h11 _ _ _ _ _ _).run, ↓(v48 h48 _ _).run, ↓(v49 h68 h49 _ _ _ _ _ _ hok hs _).run, hok, hs, go_sem, Nat.reduceEqDiff, Nat.reduceAdd, Nat.reduceLeDiff, Int.reduceEq, Int.reduceLT, Int.reduceLE, Int.reduceAdd, Int.reduceSub, Int.reduceMul, Int.reduceNeg, Int.reduceToNat, Nat.reduceMul]
  rw [back_own2 (own_mk (by rw [ints_len, delL_len])) (by simp only [go_sem, Nat.reduceEqDiff, Nat.reduceAdd, Nat.reduceLeDiff, Int.reduceEq, Int.reduceLT, Int.reduceLE, Int.reduceAdd, Int.reduceSub, Int.reduceMul, Int.reduceNeg, Int.reduceToNat, Nat.reduceMul] <;> omega) (by rw [mkH_low]; simp only [go_sem, Nat.reduceEqDiff, Nat.reduceAdd, Nat.reduceLeDiff, Int.reduceEq, Int.reduceLT, Int.reduceLE, Int.reduceAdd, Int.reduceSub, Int.reduceMul, Int.reduceNeg, Int.reduceToNat, Nat.reduceMul]; omega) (p1_ints _) rfl]
  exact hQ
theorem v12_bad (a b c j e s : Int) (hok : ¬ (okB a b c j e ∧ (0 ≤ s ∧ s ≤ 2147483647))) (H : AH) : Val tbl 12 [.agg #[.int .i64 a, .int .i64 b, .int .i64 c, .int .i64 j, .int .i64 e], .int .i64 s] H
    (.tuple #[.slice none 0 0, .int .i64 7]) H := by
  refine Val.of_all fun Q hQ => ?_
  rw [rn_fun h12, k12]
  by_cases h1 : okB a b c j e
  · have h2 : ¬ (0 ≤ s ∧ s ≤ 2147483647) := fun h => hok ⟨h1, h⟩
    simp only [↓(v11' h47 h11 _ _ _ _ _ _).run, ↓(v48 h48 _ _).run, h1, h2, go_sem, Nat.reduceEqDiff, Nat.reduceAdd, Nat.reduceLeDiff, Int.reduceEq, Int.reduceLT, Int.reduceLE, Int.reduceAdd, Int.reduceSub, Int.reduceMul, Int.reduceNeg, Int.reduceToNat, Nat.reduceMul]
    exact hQ
  · simp only [↓(v11' h47 h11 _ _ _ _ _ _).run, ↓(v48 h48 _ _).run, h1, go_sem, Nat.reduceEqDiff, Nat.reduceAdd, Nat.reduceLeDiff, Int.reduceEq, Int.reduceLT, Int.reduceLE, Int.reduceAdd, Int.reduceSub, Int.reduceMul, Int.reduceNeg, Int.reduceToNat, Nat.reduceMul]
    exact hQ
variable (h14 : tbl 14 = some (.code m14)) (h18 : tbl 18 = some (.code m18))
include h14 h18
theorem v14 (H : AH) : Val tbl 14 [] H (.bool true) H := by
  refine Val.of_all fun Q hQ => ?_
  rw [rn_fun h14, k14]
  have h := v12_ok h47 h11 h48 h68 h49 h12 1 10 2 0 3 0 (by decide) (by decide) H.enter
  have e1 : (delL 10 2 0 ((3 : Int) - 1).toNat 1 0) = [1, 2] := by decide
  rw [e1] at h
  have e2 : mkS H.enter ((3 : Int) - 1).toNat = .slice (some ⟨H.next, 0, none⟩) 2 2 := rfl
  have e3 : mkH H.enter 1 ((3 : Int) - 1).toNat ([1, 2].map I64) = H.enter.push ⟨[.int .i64 1, .int .i64 2], 1, false⟩ := rfl
  rw [e2, e3] at h
  simp only [↓h.run, go_sem, Nat.reduceEqDiff, Nat.reduceAdd, Nat.reduceLeDiff, Int.reduceEq, Int.reduceLT, Int.reduceLE, Int.reduceAdd, Int.reduceSub, Int.reduceMul, Int.reduceNeg, Int.reduceToNat, Nat.reduceMul]
  refine (Val.run (v18 h18 _ (.slice (some ⟨H.next, 0, none⟩) 2 2) (.slice (some ⟨H.next + 1, 0, none⟩) 2 2) [1, 2] [1, 2] (.inr ⟨_, _, rfl, ?_⟩) (.inr ⟨_, _, rfl, ?_⟩) (by decide))).2 ?_
  · simp [ldc_eq, ldcB_some, gt_push, AH.next_push, nx_enter, I64]
  · simp [ldc_eq, ldcB_some, gt_push, AH.next_push, nx_enter, I64]
  · simp only [go_sem, Nat.reduceEqDiff, Nat.reduceAdd, Nat.reduceLeDiff, Int.reduceEq, Int.reduceLT, Int.reduceLE, Int.reduceAdd, Int.reduceSub, Int.reduceMul, Int.reduceNeg, Int.reduceToNat, Nat.reduceMul]
    exact hQ
variable (h3 : tbl 3 = some (.code m3)) (h13 : tbl 13 = some (.code m13)) (h15 : tbl 15 = some (.code m15)) (h16 : tbl 16 = some (.code m16)) (h17 : tbl 17 = some (.code m17)) (h19 : tbl 19 = some (.code m19)) (h50 : tbl 50 = some (.code m50))
include h3 h13 h15 h16 h17 h19 h50
theorem v3 (a b c j e s : Int) (H : AH) : Val tbl 3 [.agg #[.int .i64 a, .int .i64 b, .int .i64 c, .int .i64 j, .int .i64 e], .int .i64 s] H (.bool true) H := by
  refine Val.of_all fun Q hQ => ?_
  rw [rn_fun h3, k3]
  by_cases hok : okB a b c j e ∧ (0 ≤ s ∧ s ≤ 2147483647)
  · obtain ⟨hok, hs⟩ := hok
    obtain ⟨H1, hH1⟩ : ∃ H1, H1 = mkH (H.enter.push ⟨[.int .i64 a, .int .i64 b, .int .i64 c, .int .i64 j, .int .i64 e], 1, false⟩) 1 (e - 1).toNat ((delL b c j (e - 1).toNat a s).map I64) := ⟨_, rfl⟩
    obtain ⟨v1, hv1⟩ : ∃ v1, v1 = mkS (H.enter.push ⟨[.int .i64 a, .int .i64 b, .int .i64 c, .int .i64 j, .int .i64 e], 1, false⟩) (e - 1).toNat := ⟨_, rfl⟩
    have own1 := own_mk (H := H.enter.push ⟨[.int .i64 a, .int .i64 b, .int .i64 c, .int .i64 j, .int .i64 e], 1, false⟩) (es := 1) (n := (e - 1).toNat) (l := (delL b c j (e - 1).toNat a s).map I64) (by rw [ints_len, delL_len])
    have g1 : H1.get H.next = some (box5 a b c j e) := by
      rw [hH1, mkH_get (by rw [AH.next_push, nx_enter]; omega), gt_push, nx_enter, if_pos rfl]; rfl
    have n1 : H.next + 1 ≤ H1.next := by
      have := mkH_next (H := H.enter.push ⟨[.int .i64 a, .int .i64 b, .int .i64 c, .int .i64 j, .int .i64 e], 1, false⟩) (es := 1) (n := (e - 1).toNat) (l := (delL b c j (e - 1).toNat a s).map I64)
      rw [AH.next_push, nx_enter] at this
      rw [hH1]; exact this
    have l1 : H1.low = H.next := by rw [hH1, mkH_low]; rfl
    rw [← hH1, ← hv1] at own1
    have ne1 : ¬ H.next = H1.next := by omega
    have lt1 : ¬ H1.low < H.next := by omega
    simp only [↓(v11' h47 h11 _ _ _ _ _ _).run, ↓(v12_ok h47 h11 h48 h68 h49 h12 _ _ _ _ _ _ hok hs _).run, ↓(v13 h13 _ _ _ _ _ _).run, ↓(v14 h47 h11 h48 h68 h49 h12 h14 h18 _).run, ↓(v17 h17 _ _ _ _).run, ↓(v16b h16 _ _ _).run, hok, hs, ← hH1, ← hv1, g1, ne1, box5, go_sem, Nat.reduceEqDiff, Nat.reduceAdd, Nat.reduceLeDiff, Int.reduceEq, Int.reduceLT, Int.reduceLE, Int.reduceAdd, Int.reduceSub, Int.reduceMul, Int.reduceNeg, Int.reduceToNat, Nat.reduceMul]
    refine (Val.run (v15 h15 _ (.slice (some ⟨H1.next, 0, none⟩) 2 2) [0, 0] sl2 (by decide))).2 ?_
    simp only [firstL, ↓(v19 h50 h19 _ _ _ _ _ _ hok hs _).run, hok, hs, g1, ne1, box5, go_sem, Nat.reduceEqDiff, Nat.reduceAdd, Nat.reduceLeDiff, Int.reduceEq, Int.reduceLT, Int.reduceLE, Int.reduceAdd, Int.reduceSub, Int.reduceMul, Int.reduceNeg, Int.reduceToNat, Nat.reduceMul]
    have hLR : delR b c j (e - 1).toNat a s = delL b c j (e - 1).toNat a s := by
      obtain ⟨k1, k2, k3, k4, k5⟩ := hok
      rw [delR_eq ⟨by omega, k2.2⟩ k3.1 _ _ _ k1.1, if_neg (by omega)]
    have slL := ((own1.push ⟨[.int .i64 0, .int .i64 0], 1, false⟩).mkH (es' := 1) (n' := (e - 1).toNat) (l' := (delR b c j (e - 1).toNat a s).map I64)).sl
    have slR := (own_mk (H := H1.push ⟨[.int .i64 0, .int .i64 0], 1, false⟩) (es := 1) (n := (e - 1).toNat) (l := (delR b c j (e - 1).toNat a s).map I64) (by rw [ints_len, delR_len])).sl
    have hnn : (e - 1).toNat < 1000000000 := by
      obtain ⟨k1, k2, k3, k4, k5⟩ := hok
      omega
    refine (Val.run (v18 h18 _ v1 _ (delL b c j (e - 1).toNat a s) (delR b c j (e - 1).toNat a s) (by rw [delL_len]; exact slL) (by rw [delR_len]; exact slR) (by rw [delL_len]; exact hnn))).2 ?_
    simp only [hLR, mkH_low, l1, go_sem, Nat.reduceEqDiff, Nat.reduceAdd, Nat.reduceLeDiff, Int.reduceEq, Int.reduceLT, Int.reduceLE, Int.reduceAdd, Int.reduceSub, Int.reduceMul, Int.reduceNeg, Int.reduceToNat, Nat.reduceMul]
    exact hQ
  · by_cases h1 : okB a b c j e
    · have h2 : ¬ (0 ≤ s ∧ s ≤ 2147483647) := fun h => hok ⟨h1, h⟩
      simp only [↓(v11' h47 h11 _ _ _ _ _ _).run, ↓(v12_bad h47 h11 h48 h68 h49 h12 _ _ _ _ _ _ hok _).run, ↓(v13 h13 _ _ _ _ _ _).run, ↓(v14 h47 h11 h48 h68 h49 h12 h14 h18 _).run, ↓(v17 h17 _ _ _ _).run, ↓(v16b h16 _ _ _).run, h1, h2, go_sem, Nat.reduceEqDiff, Nat.reduceAdd, Nat.reduceLeDiff, Int.reduceEq, Int.reduceLT, Int.reduceLE, Int.reduceAdd, Int.reduceSub, Int.reduceMul, Int.reduceNeg, Int.reduceToNat, Nat.reduceMul]
      refine (Val.run (v15 h15 _ _ [0, 7] (sl2' (by rw [AH.next_push]; rfl)) (by decide))).2 ?_
      simp only [firstL, go_sem, Nat.reduceEqDiff, Nat.reduceAdd, Nat.reduceLeDiff, Int.reduceEq, Int.reduceLT, Int.reduceLE, Int.reduceAdd, Int.reduceSub, Int.reduceMul, Int.reduceNeg, Int.reduceToNat, Nat.reduceMul]
      exact hQ
    · simp only [↓(v11' h47 h11 _ _ _ _ _ _).run, ↓(v12_bad h47 h11 h48 h68 h49 h12 _ _ _ _ _ _ hok _).run, ↓(v13 h13 _ _ _ _ _ _).run, ↓(v14 h47 h11 h48 h68 h49 h12 h14 h18 _).run, ↓(v17 h17 _ _ _ _).run, ↓(v16b h16 _ _ _).run, h1, go_sem, Nat.reduceEqDiff, Nat.reduceAdd, Nat.reduceLeDiff, Int.reduceEq, Int.reduceLT, Int.reduceLE, Int.reduceAdd, Int.reduceSub, Int.reduceMul, Int.reduceNeg, Int.reduceToNat, Nat.reduceMul]
      by_cases h2 : 0 ≤ s ∧ s ≤ 2147483647
      · simp only [h2, go_sem, Nat.reduceEqDiff, Nat.reduceAdd, Nat.reduceLeDiff, Int.reduceEq, Int.reduceLT, Int.reduceLE, Int.reduceAdd, Int.reduceSub, Int.reduceMul, Int.reduceNeg, Int.reduceToNat, Nat.reduceMul]
        refine (Val.run (v15 h15 _ _ [7, 0] (sl2' (by rw [AH.next_push]; rfl)) (by decide))).2 ?_
        simp only [firstL, go_sem, Nat.reduceEqDiff, Nat.reduceAdd, Nat.reduceLeDiff, Int.reduceEq, Int.reduceLT, Int.reduceLE, Int.reduceAdd, Int.reduceSub, Int.reduceMul, Int.reduceNeg, Int.reduceToNat, Nat.reduceMul]
        exact hQ
      · simp only [h2, go_sem, Nat.reduceEqDiff, Nat.reduceAdd, Nat.reduceLeDiff, Int.reduceEq, Int.reduceLT, Int.reduceLE, Int.reduceAdd, Int.reduceSub, Int.reduceMul, Int.reduceNeg, Int.reduceToNat, Nat.reduceMul]
        refine (Val.run (v15 h15 _ _ [7, 7] (sl2' (by rw [AH.next_push]; rfl)) (by decide))).2 ?_
        simp only [firstL, go_sem, Nat.reduceEqDiff, Nat.reduceAdd, Nat.reduceLeDiff, Int.reduceEq, Int.reduceLT, Int.reduceLE, Int.reduceAdd, Int.reduceSub, Int.reduceMul, Int.reduceNeg, Int.reduceToNat, Nat.reduceMul]
        exact hQ
end
end Go.Proofs.Ytidpkoaomfbljaa.AM
