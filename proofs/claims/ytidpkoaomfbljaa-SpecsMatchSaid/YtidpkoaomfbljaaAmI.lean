/- More of the same: copy, strings and bytes, literals of slices, arrays that are compared. -/
import Derived.Test.YtidpkoaomfbljaaAmH
import Derived.Laws.BytesArg
import Derived.Laws.IdiomStrings
import Derived.ChangeKeysEq
namespace Go.Proofs.Ytidpkoaomfbljaa.AM
open Go Go.RowKit
set_option linter.all false
section
variable {P : Program} {N : Nat} {c : CMap} {H : AH} {w : World} {f : Fr} {ρ : Operand → Value}

theorem firstV_ok (hs : Sim N c H w) {x x' : Value} (hx : VR H.next c x x') {es n : Nat} {new : List Value} (h : firstV H es n x = some new) :
    ∃ new', (Builtin.firstCells es n x').run P w = .ok new'.toArray w ∧ VRL H.next c new new' ∧ new.all one = true := by
  unfold firstV at h
  split at h
  · rename_i a m cp
    split at h
    · rename_i hnm
      obtain ⟨lc, cs', hc, hlen, hone, hv, hr⟩ := hs.read h
      obtain ⟨k', rfl, _, _, _⟩ := hx.slcL hc
      exact ⟨cs', run_firstCells_some w es n _ m k' cs' (by rw [← hv.1]; exact hlen) (fun j u hj => by rw [add_eq]; exact hr j u hj), hv, hone⟩
    · simp at h
  · rename_i s
    split at h
    · rename_i hc
      obtain ⟨rfl, hn⟩ := hc
      obtain rfl := Option.some.inj h
      rw [hx.str]
      have hall1 : (byteCells s).all p1 = true := by
        rw [List.all_eq_true]
        intro x hx
        obtain ⟨b, _, rfl⟩ := List.mem_map.1 hx
        rfl
      have hp : ((byteCells s).take n).all p1 = true := by
        rw [List.all_eq_true] at hall1 ⊢
        exact fun x hx => hall1 x (List.mem_of_mem_take hx)
      refine ⟨(byteCells s).take n, ?_, .refl hp, p1_one hp⟩
      simp only [Builtin.firstCells]
      refine congrArg (fun z => Result.ok z w) ?_
      apply Array.ext'
      simp [byteCells, Lib.extract_data, List.map_take]
    · simp at h
  · simp at h
theorem lenV_ok {x x' : Value} {n k : Nat} (hx : VR n c x x') (h : lenV x = some k) : (Builtin.lenOf x').run P w = .ok k w := by
  unfold lenV at h
  split at h
  · obtain rfl := Option.some.inj h
    obtain ⟨a', k', rfl, _⟩ := hx.slcI
    rfl
  · obtain rfl := Option.some.inj h
    rw [hx.str]; rfl
  · simp at h
theorem copy_ok (hs : Sim N c H w) {t tx ty e : TypeId} {i : TypeInfo} (ht : P.underlying t = some (.slice e)) (hi : P.info? e = some i) {a : Addr} {n cp : Nat} {d' x x' : Value} (hd : VR H.next c (.slice (some a) n cp) d') (hx : VR H.next c x x') {k : Nat} (hk : lenV x = some k) {new : List Value} (hnew : firstV H i.size (Nat.min k n) x = some new) {H' : AH} (h : stU H a new = some H') :
    Does P N c H w (Builtin.copy_ #[t, tx] ty #[d', x']) (.int .i64 (Nat.min k n)) H' := by
  obtain ⟨new', e1, e2, e3⟩ := firstV_ok (P := P) hs hx hnew
  obtain ⟨b, hb, hro, hle, rfl⟩ := stU_inv h
  obtain ⟨l, hc, hbr⟩ := hs.at_ hb
  obtain ⟨k', rfl, _, _, _⟩ := hd.slcL hc
  obtain ⟨w', g1, g2, g3⟩ := hs.store hb hc hro e2 hle e3 P
  exact ⟨.int .i64 (Nat.min k n), c, w', by simp [Builtin.copy_, run_underlying ht, lenV_ok hx hk, run_sizeOf hi, e1, g1, goInt], .plain rfl, g2, g3⟩
theorem bytesOf_some : ∀ {l : List Value} {bs : List UInt8}, bytesOf l = some bs → ∃ xs : List Int, l = xs.map (Value.int .u8) ∧ bs = xs.map fun n => UInt8.ofNat n.toNat
  | [], bs, h => by simp only [bytesOf, Option.some.injEq] at h; subst h; exact ⟨[], rfl, rfl⟩
  | v :: l, bs, h => by
    simp only [bytesOf] at h
    split at h
    · rename_i b bs' h1 h2
      obtain rfl := Option.some.inj h
      obtain ⟨xs, rfl, rfl⟩ := bytesOf_some h2
      unfold byteOf at h1
      split at h1
      · rename_i n
        obtain rfl := Option.some.inj h1
        exact ⟨n :: xs, rfl, rfl⟩
      · simp at h1
    · simp at h
theorem toStr_ok (hs : Sim N c H w) {src dst e : TypeId} (h1 : P.underlying src = some (.slice e)) (h2 : P.underlying e = some (.int .u8)) (h3 : P.underlying dst = some .string) {a : Addr} {n cp : Nat} {x' : Value} (hx : VR H.next c (.slice (some a) n cp) x') {l : List Value} (hl : ldc H a n = some l) {bs : List UInt8} (hb : bytesOf l = some bs) :
    Does P N c H w (convert src dst x') (.string ⟨bs.toArray⟩) H := by
  obtain ⟨xs, rfl, rfl⟩ := bytesOf_some hb
  obtain ⟨lc, cs', hc, hlen, hone, hv, hr⟩ := hs.read hl
  obtain ⟨k', rfl, _, _, _⟩ := hx.slcL hc
  have hp : (xs.map (Value.int .u8)).all p1 = true := by
    rw [List.all_eq_true]
    intro x hx
    obtain ⟨b, _, rfl⟩ := List.mem_map.1 hx
    rfl
  have := hv.eq1 hp
  subst this
  refine .pure hs (run_convert_bytes_arg w src e h1 h2 lc.blk (lc.sh + a.off) n k' xs (by simpa using hlen) (fun j hj => ?_) dst h3) (.plain rfl)
  have hj' : j < xs.length := by simp at hlen; omega
  exact hr j _ (by simp [List.getD_eq_getElem?_getD, hj'])
theorem toBytes_ok (hs : Sim N c H w) {src dst e : TypeId} (h1 : P.underlying src = some .string) (h2 : P.underlying dst = some (.slice e)) (h3 : P.underlying e = some (.int .u8)) (s : ByteArray) :
    Does P N c H w (convert src dst (.string s)) (.slice (some ⟨H.next, 0, none⟩) s.size s.size) (H.push ⟨byteCells s, 1, false⟩) := by
  have hd : Sim N c H w.drew := hs.same rfl
  have hge := grownCap_ge w s.size 0 e
  have hall1 : (byteCells s).all p1 = true := by
    rw [List.all_eq_true]
    intro x hx
    obtain ⟨b, _, rfl⟩ := List.mem_map.1 hx
    rfl
  have hrow : (bytesRow s (grownCap w s.size 0 e)).toList = byteCells s ++ List.replicate (grownCap w s.size 0 e - s.size) (.int .u8 0) := by
    simp [bytesRow, byteCells]
  have hsz : (bytesRow s (grownCap w s.size 0 e)).size = grownCap w s.size 0 e := by
    have := congrArg List.length hrow
    have hl : (byteCells s).length = s.size := Go.byteCells_length s
    simp only [Array.length_toList, List.length_append, List.length_replicate] at this
    omega
  obtain ⟨c', g1, g2, g3⟩ := new_slice hd (b := ⟨byteCells s, 1, false⟩) (cs := bytesRow s (grownCap w s.size 0 e)) (ty := e) (fz := ((bytesRow s (grownCap w s.size 0 e)).size, (bytesRow s (grownCap w s.size 0 e)).size + 1)) (rest := _) (mid := byteCells s) hrow (.refl hall1) (p1_one hall1) (fun j hj => by omega) (n := s.size) (k := s.size) (k' := grownCap w s.size 0 e) hge (by rw [hsz]; simp)
  exact ⟨_, c', _, run_bytes_of_string w src dst e s h1 h2 h3, g3, g1, (ExtW.drew N c H w).trans g2⟩
theorem buildSlice_ok (hs : Sim N c H w) (hE : ∀ x, opdOk x = true → VR H.next c (ev f x) (ρ x)) {t e : TypeId} {i : TypeInfo} {z : Value} (ht : P.underlying t = some (.slice e)) (hi : P.info? e = some i) (hz : i.zero = some z) (hp : z.cells.toList.all p1 = true) {n : Nat} (hn : n * i.size ≤ 2 ^ 24) (hs0 : 0 < i.size) (hzs : z.cells.size = i.size) {parts : Array (Nat × Operand)} {l : List (Nat × Nat × Operand)} (hl : partsOf P (fun j => some (j * i.size, e)) parts.toList = some l) (ho : ∀ p ∈ parts.toList, opdOk p.2 = true) {cs : List Value} (h : fillC (rep n z.cells.toList) (l.map fun p => (p.1, p.2.1, ev f p.2.2)) = some cs) (hone : cs.all one = true) :
    Does P N c H w (Instr.buildSlice t n (parts.map fun (i, x) => (i, ρ x))) (.slice (some ⟨H.next, 0, none⟩) n n) (H.push ⟨cs, i.size, false⟩) := by
  have hmade := made_list z.cells n (by omega)
  rw [hzs] at hmade
  obtain ⟨r', e1, e2⟩ := fill_of (P := P) (H := H) (c := c) (place' := fun j => some (j * i.size, i.size)) (cs := (rep n z.cells.toList).toArray) (cs' := madeCells z.cells (n * i.size)) hE hl ho (fun j off t ti h1 h2 => by
    simp only [Option.some.injEq, Prod.mk.injEq] at h1
    obtain ⟨rfl, rfl⟩ := h1
    rw [hi] at h2
    obtain rfl := Option.some.inj h2
    rfl) (by rw [hmade]; simpa using VRL.refl (rep_p1 hp)) (by simpa using h)
  have hlen : cs.length = n * i.size := by
    have : ∀ (ps : List (Nat × Nat × Value)) (cs r : List Value), fillC cs ps = some r → r.length = cs.length := by
      intro ps
      induction ps with
      | nil => intro cs r h; simp only [fillC, Option.some.injEq] at h; rw [h]
      | cons q ps ih =>
        intro cs r h
        simp only [fillC] at h
        split at h
        · rw [ih _ _ h, splice_length]
        · simp at h
    rw [this _ _ _ h, rep_length]; simp [hzs]
  obtain ⟨c', g1, g2, g3⟩ := new_slice hs (b := ⟨cs, i.size, false⟩) (cs := r') (ty := e) (fz := (0, 0)) (rest := []) (mid := r'.toList) (by simp) e2 hone (by simp) (n := n) (k := n) (k' := n) (Nat.le_refl _) (by
    have := e2.1
    simp only [Array.length_toList] at this
    rw [← this, hlen]; exact Nat.le_refl _)
  refine ⟨_, c', _, ?_, g3, g1, g2⟩
  have hne : ¬ (n * i.size > 2 ^ 24) := by omega
  by_cases h0 : n * i.size = 0
  · have hm : madeCells z.cells (n * i.size) = (Array.range (n * i.size)).map ((#[] : Array Value)[· % (#[] : Array Value).size]!) := by
      rw [h0]
      apply Array.ext (by simp [madeCells])
      intro i h1 h2
      simp [madeCells] at h1
    rw [hm] at e1
    simp only [Instr.buildSlice, Sem.run_bind, run_underlying ht, Result.andThen_ok, run_sizeOf hi, Sem.run_ite, if_neg hne, if_pos h0, Sem.run_pure, newRow, run_newObj]
    rw [e1]; rfl
  · simp only [Instr.buildSlice, Sem.run_bind, run_underlying ht, Result.andThen_ok, run_sizeOf hi, Sem.run_ite, if_neg hne, if_neg h0, Sem.run_pure, run_zeroValue hi hz, newRow, run_newObj]
    unfold madeCells at e1
    rw [e1]; rfl
theorem cellEq_ok {t : TypeId} {k : TK} (hk : scalarK P t = some k) {d : Nat} {x y x' y' : Value} {n : Nat} (hx : VR n c x x') (hy : VR n c y y') {r : Bool} (h : cellEq k x y = some r) : (Op.equalIn (d + 1) t x' y').run P w = .ok r w := by
  unfold scalarK at hk
  split at hk
  · split at hk
    · rename_i kk hu
      obtain rfl := Option.some.inj hk
      cases x <;> cases y <;> simp only [cellEq, reduceCtorEq] at h
      split at h
      · rename_i e; subst e; obtain rfl := Option.some.inj h; rw [hx.int, hy.int, run_equalIn_int w d t _ _ _ _ hu]; rfl
      · simp at h
    · rename_i hu
      obtain rfl := Option.some.inj hk
      cases x <;> cases y <;> simp only [cellEq, reduceCtorEq] at h
      obtain rfl := Option.some.inj h
      rw [hx.bool, hy.bool]; exact run_equalIn_bool' w d t _ _ hu
    · rename_i hu
      obtain rfl := Option.some.inj hk
      cases x <;> cases y <;> simp only [cellEq, reduceCtorEq] at h
      obtain rfl := Option.some.inj h
      rw [hx.str, hy.str, run_equalIn_string w d t _ _ hu, str_beq]
    · simp at hk
  · simp at hk
theorem scalar_part {t : TypeId} {k : TK} (hk : scalarK P t = some k) {cs : Array Value} {o : Nat} {v : Value} (h : cs[o]? = some v) : (part t cs o).run P w = .ok v w := by
  unfold scalarK at hk
  split at hk
  · split at hk <;> first
      | (rename_i u hu; exact run_part0 hu rfl h)
      | (rename_i hu; exact run_part0 hu rfl h)
      | simp at hk
  · simp at hk
theorem VRL.get {n : Nat} {l l' : List Value} (h : VRL n c l l') {j : Nat} {v : Value} (hj : l[j]? = some v) : ∃ v', l'[j]? = some v' ∧ VR n c v v' := by
  have hlt : j < l.length := by
    rcases Nat.lt_or_ge j l.length with h | h
    · exact h
    · rw [List.getElem?_eq_none h] at hj; simp at hj
  have hlt' : j < l'.length := by rw [← h.1]; exact hlt
  refine ⟨l'[j], List.getElem?_eq_getElem hlt', ?_⟩
  have := h.2 j hlt
  rw [List.getD_eq_getElem?_getD, List.getD_eq_getElem?_getD, hj, List.getElem?_eq_getElem hlt'] at this
  exact this
theorem eqItems_ok {e : TypeId} {k : TK} (hk : scalarK P e = some k) {n : Nat} {a b a' b' : Array Value} (ha : VRL n c a.toList a'.toList) (hb : VRL n c b.toList b'.toList) (d : Nat) : ∀ (is : List Nat) (r : Bool), eqAt a.toList b.toList (is.map fun i => (i, k)) = some r → (Op.eqItems (d + 1) e 1 a' b' is).run P w = .ok r w
  | [], r, h => by simp only [List.map_nil, eqAt, Option.some.injEq] at h; subst h; simp [Op.eqItems]
  | i :: is, r, h => by
    simp only [List.map_cons, eqAt] at h
    split at h
    · rename_i x y hx hy
      split at h
      · rename_i p q hp hq
        obtain rfl := Option.some.inj h
        obtain ⟨x', hx', rx⟩ := ha.get hx
        obtain ⟨y', hy', ry⟩ := hb.get hy
        have ih := eqItems_ok hk ha hb d is q hq
        have e1 := scalar_part (P := P) (w := w) hk (show a'[i]? = some x' by rw [← Array.getElem?_toList]; exact hx')
        have e2 := scalar_part (P := P) (w := w) hk (show b'[i]? = some y' by rw [← Array.getElem?_toList]; exact hy')
        have e3 := cellEq_ok (P := P) (w := w) hk (d := d) rx ry hp
        cases p <;> simp [Op.eqItems, e1, e2, e3, ih]
      · simp at h
    · simp at h
theorem eqFields_ok {n : Nat} {a b a' b' : Array Value} (ha : VRL n c a.toList a'.toList) (hb : VRL n c b.toList b'.toList) (d : Nat) : ∀ (fs : List Field) (l : List (Nat × TK)) (r : Bool), offsOf P fs = some l → eqAt a.toList b.toList l = some r → (Op.eqFields (d + 1) a' b' fs).run P w = .ok r w
  | [], l, r, hl, h => by
    simp only [offsOf, Option.some.injEq] at hl
    subst hl
    simp only [eqAt, Option.some.injEq] at h
    subst h
    simp [Op.eqFields]
  | fd :: fs, l, r, hl, h => by
    simp only [offsOf] at hl
    split at hl
    · rename_i hn
      have ih := eqFields_ok ha hb d fs l r hl h
      simp [Op.eqFields, hn, ih]
    · rename_i hn
      split at hl
      · rename_i k l' hk hl'
        obtain rfl := Option.some.inj hl
        simp only [eqAt] at h
        split at h
        · rename_i x y hx hy
          split at h
          · rename_i p q hp hq
            obtain rfl := Option.some.inj h
            obtain ⟨x', hx', rx⟩ := ha.get hx
            obtain ⟨y', hy', ry⟩ := hb.get hy
            have ih := eqFields_ok ha hb d fs l' q hl' hq
            have e1 := scalar_part (P := P) (w := w) hk (show a'[fd.offset]? = some x' by rw [← Array.getElem?_toList]; exact hx')
            have e2 := scalar_part (P := P) (w := w) hk (show b'[fd.offset]? = some y' by rw [← Array.getElem?_toList]; exact hy')
            have e3 := cellEq_ok (P := P) (w := w) hk (d := d) rx ry hp
            cases p <;> simp [Op.eqFields, hn, e1, e2, e3, ih]
          · simp at h
        · simp at h
      · simp at hl
theorem eqAgg_ok {t : TypeId} {d : TypeDesc} (hu : P.underlying t = some d) {l : List (Nat × TK)} (hd : (∃ n e k, d = .array n e ∧ (P.info? e).isSome = true ∧ scalarK P e = some k ∧ l = (List.range n).map fun i => (i, k)) ∨ (∃ fs, d = .struct fs ∧ P.stoodInHeld t = false ∧ offsOf P fs.toList = some l)) {n : Nat} {a b : Array Value} {x' y' : Value} (hx : VR n c (.agg a) x') (hy : VR n c (.agg b) y') {r : Bool} (h : eqAt a.toList b.toList l = some r) : (Op.equal t x' y').run P w = .ok r w := by
  obtain ⟨a', rfl, ha⟩ := VRL.of_agg hx
  obtain ⟨b', rfl, hb⟩ := VRL.of_agg hy
  obtain ⟨d2, hd2⟩ : ∃ d, Op.maxDepth = (d + 1) + 1 := ⟨9998, rfl⟩
  unfold Op.equal
  rw [hd2]
  rcases hd with ⟨m, e, k, rfl, hi, hk, rfl⟩ | ⟨fs, rfl, hp, hl⟩
  · obtain ⟨i, hi⟩ := Option.isSome_iff_exists.1 hi
    rw [run_equalIn_array w (d2 + 1) a' b' hu hi]
    have h1 : P.cellsOf e = 1 := by
      unfold scalarK at hk
      split at hk
      · assumption
      · simp at hk
    rw [h1]
    exact eqItems_ok hk ha hb d2 _ _ h
  · have hf : P.fieldsOf t = fs := by simp [Program.fieldsOf, hu]
    rw [run_equalIn_struct w (d2 + 1) t a' b' (by rw [hf]; exact hu) hp, hf]
    exact eqFields_ok ha hb d2 _ _ _ hl h
end
end Go.Proofs.Ytidpkoaomfbljaa.AM
