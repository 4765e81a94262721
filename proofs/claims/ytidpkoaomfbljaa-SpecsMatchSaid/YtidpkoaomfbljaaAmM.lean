/- Regions of open order, loops, bodies: what the abstract machine computes is what the program does. -/
import Derived.Test.YtidpkoaomfbljaaAmL
namespace Go.Proofs.Ytidpkoaomfbljaa.AM
open Go Go.RowKit
set_option linter.all false
section
variable {P : Program} {N ntm : Nat} {call : CallH}

def dflt : MOp := ⟨none, none, false, .mkMap⟩
def todo (n : Nat) (listed : Array Bool) : List Nat := (List.range n).filter fun i => !listed.getD i true
theorem todo_sorted (n : Nat) (listed : Array Bool) : (todo n listed).Pairwise (· < ·) := List.Pairwise.filter _ List.pairwise_lt_range
theorem mem_todo {n : Nat} {listed : Array Bool} {i : Nat} : i ∈ todo n listed ↔ i < n ∧ listed.getD i true = false := by
  simp [todo]
theorem todo_split {n : Nat} {listed : Array Bool} {i : Nat} (hi : i ∈ todo n listed) : ∃ pre post, todo n listed = pre ++ i :: post ∧ todo n (listed.setIfInBounds i true) = pre ++ post ∧ ∀ j ∈ pre, j < i ∧ j ∈ todo n listed := by
  obtain ⟨pre, post, h⟩ := List.append_of_mem hi
  have hs := todo_sorted n listed
  rw [h, List.pairwise_append] at hs
  obtain ⟨_, h2, h3⟩ := hs
  rw [List.pairwise_cons] at h2
  have hlt : i < listed.size := by
    have := (mem_todo.1 hi).2
    rcases Nat.lt_or_ge i listed.size with h' | h'
    · exact h'
    · simp [Array.getElem?_eq_none h'] at this
  have he : todo n (listed.setIfInBounds i true) = (todo n listed).filter fun j => j != i := by
    unfold todo
    rw [List.filter_filter]
    refine List.filter_congr fun j _ => ?_
    by_cases hj : j = i
    · subst hj; simp [hlt]
    · rw [getD_set_ne true (Ne.symm hj)]; simp [hj]
  refine ⟨pre, post, h, ?_, fun j hj => ⟨h3 j hj i (by simp), by rw [h]; simp [hj]⟩⟩
  rw [he, h, List.filter_append, List.filter_cons_of_neg (by simp)]
  congr 1
  · refine List.filter_eq_self.2 fun j hj => ?_
    have := h3 j hj i (by simp)
    simp; omega
  · refine List.filter_eq_self.2 fun j hj => ?_
    have := h2.1 j hj
    simp; omega

/-- What is checked of a region of open order. -/
structure Open (P : Program) (ntm : Nat) (ops : Array Oper) (ks : List Nat) (ms : List MOp) : Prop where
  fits : ∀ (i : Nat) (o : Oper), ops[i]? = some o → ∃ m, ms[i]? = some m ∧ Fits P ntm ops o m
  edges : ∀ (i : Nat) (o : Oper), ops[i]? = some o → ∀ e ∈ o.after, Region.binds .any e = true → e.on < i
  mask : ∀ (i : Nat) (o : Oper), ops[i]? = some o → maskOk ks i o = true
  klen : ks.length = ops.size
  pairs : ∀ (i j : Nat) (x y : MOp), ms[i]? = some x → ms[j]? = some y → i < j → (ks.getD j 0).testBit i = true ∨ pairOk x y = true

theorem regionD_ok (hcall : CallOk P N call) {ops : Array Oper} {ks : List Nat} {ms : List MOp} (ho : Open P ntm ops ks ms) {bs : Nat} {Q : Exit → Act → World → Prop} : ∀ (fuel : Nat) (listed : Array Bool), listed.size = ops.size → (todo ops.size listed).length ≤ fuel →
    (∀ (i : Nat) (o : Oper), ops[i]? = some o → listed.getD i true = true → ∀ e ∈ o.after, Region.binds .any e = true → listed.getD e.on false = true) →
    ∀ {c : CMap} {f : Fr} {H : AH} {a : Act} {w : World}, Rel N ntm c f H a w → bs ≤ H.next → ∀ {f' : Fr} {H' : AH}, evOps call bs ((todo ops.size listed).map fun i => ms.getD i dflt) f H = some (f', H') →
    (∀ a' c' w', Rel N ntm c' f' H' a' w' → ExtW N c H w c' H' w' → Q .normal a' w') → wpAny P .any ops Q fuel listed a w := by
  intro fuel
  have fin : ∀ (listed : Array Bool), todo ops.size listed = [] → ∀ {c : CMap} {f : Fr} {H : AH} {a : Act} {w : World}, Rel N ntm c f H a w → ∀ {f' : Fr} {H' : AH}, evOps call bs ((todo ops.size listed).map fun i => ms.getD i dflt) f H = some (f', H') → (∀ a' c' w', Rel N ntm c' f' H' a' w' → ExtW N c H w c' H' w' → Q .normal a' w') → Q .normal a w := by
    intro listed ht c f H a w hr f' H' he hQ
    rw [ht] at he
    simp only [List.map_nil, evOps, Option.some.injEq, Prod.mk.injEq] at he
    obtain ⟨rfl, rfl⟩ := he
    exact hQ _ _ _ hr (.refl _ _ _ _)
  have sub : ∀ (listed : Array Bool) i, i ∈ Region.ready .any ops listed → i ∈ todo ops.size listed := fun listed i hi => by
    obtain ⟨h1, o, h2, _⟩ := mem_ready.1 hi
    exact mem_todo.2 ⟨(Array.getElem?_eq_some_iff.1 h2).1, h1⟩
  induction fuel with
  | zero =>
    intro listed hsz hlen hcl c f H a w hr hb f' H' he hQ
    have ht : todo ops.size listed = [] := List.eq_nil_of_length_eq_zero (by omega)
    refine ⟨?_, fin listed ht hr he hQ⟩
    cases hrd : Region.ready .any ops listed with
    | nil => rfl
    | cons i r =>
      have := sub listed i (by rw [hrd]; simp)
      rw [ht] at this
      simp at this
  | succ fuel ih =>
    intro listed hsz hlen hcl c f H a w hr hb f' H' he hQ
    refine ⟨fun hnil => ?_, fun i hi => ?_⟩
    · refine fin listed ?_ hr he hQ
      cases ht : todo ops.size listed with
      | nil => rfl
      | cons i post =>
        exfalso
        have hi : i ∈ todo ops.size listed := by rw [ht]; simp
        obtain ⟨hin, hun⟩ := mem_todo.1 hi
        have hs := todo_sorted ops.size listed
        rw [ht, List.pairwise_cons] at hs
        have : i ∈ Region.ready .any ops listed := mem_ready.2 ⟨hun, ops[i], Array.getElem?_eq_getElem hin, fun e hem hbd => by
          have hlt := ho.edges i _ (Array.getElem?_eq_getElem hin) e hem hbd
          have hnot : e.on ∉ todo ops.size listed := by
            rw [ht]
            intro hm
            rcases List.mem_cons.1 hm with h | h
            · omega
            · have := hs.1 _ h; omega
          rw [mem_todo] at hnot
          have h3 : ¬ listed.getD e.on true = false := fun h => hnot ⟨by omega, h⟩
          have hlt2 : e.on < listed.size := by omega
          simp [hlt2] at h3 ⊢
          exact h3⟩
        rw [hnil] at this
        simp at this
    · obtain ⟨pre, post, e1, e2, e3⟩ := todo_split (sub listed i hi)
      obtain ⟨hun, o, hio, hready⟩ := mem_ready.1 hi
      obtain ⟨m, hm, hfit⟩ := ho.fits i o hio
      rw [e1, List.map_append, List.map_cons] at he
      have hmi : ms.getD i dflt = m := by rw [List.getD_eq_getElem?_getD, hm]; rfl
      rw [hmi] at he
      obtain ⟨f1, H1, h1, h2⟩ := evOps_bubble hcall.1 _ f H (fun x hx => by
        obtain ⟨j, hj, rfl⟩ := List.mem_map.1 hx
        obtain ⟨hlt, hjt⟩ := e3 j hj
        obtain ⟨hjn, hju⟩ := mem_todo.1 hjt
        obtain ⟨mj, hmj, _⟩ := ho.fits j ops[j] (Array.getElem?_eq_getElem hjn)
        have hmj' : ms.getD j dflt = mj := by rw [List.getD_eq_getElem?_getD, hmj]; rfl
        rw [hmj']
        refine (ho.pairs j i mj m hmj hm hlt).resolve_left fun hbit => ?_
        have := mask_closed ho.mask ho.klen hcl _ i o (Nat.lt_succ_self _) hio hready j hjn hbit
        have hlt2 : j < listed.size := by omega
        simp [hlt2] at this hju
        rw [this] at hju
        simp at hju) hb he
      have hstep := oper_step (Q := Q) hcall hr hfit h1 (K := wpAny P .any ops Q fuel (listed.setIfInBounds i true)) fun a' c' w' k1 k2 => by
        refine ih (listed.setIfInBounds i true) (by simpa using hsz) (by
          rw [e2]
          rw [e1] at hlen
          simp at hlen ⊢
          omega) ?_ k1 (Nat.le_trans hb k2.nx) (by rw [e2, List.map_append]; exact h2) fun a2 c2 w2 j1 j2 => hQ _ _ _ j1 (k2.trans j2)
        intro j oj hj hl e hem hbd
        refine getD_set_true ?_
        by_cases hji : j = i
        · subst hji
          rw [hio] at hj
          obtain rfl := Option.some.inj hj
          exact hready e hem hbd
        · rw [getD_set_ne true (Ne.symm hji)] at hl
          exact hcl j oj hj hl e hem hbd
      unfold wpOp
      simp only [hio]
      split
      · rename_i hw; rw [if_pos hw] at hstep; exact .inl hstep
      · rename_i hw; rw [if_neg hw] at hstep; exact hstep

theorem flagOp_fits {ops : Array Oper} {o : Oper} {m : MOp} {ks : List Nat} {ms : List MOp} {i : Nat} (h : compOper P ntm ops o = some m) : Fits P ntm ops o (flagOp ks ms i m) := by
  unfold flagOp
  split
  · rename_i p g a hop
    exact ⟨m, h, rfl, rfl, .inr (.inl ⟨_, _, _, _, hop, rfl⟩)⟩
  · rename_i n a x hop
    simp only
    split
    · exact .of h
    · exact ⟨m, h, rfl, rfl, .inr (.inr ⟨_, _, _, _, hop, rfl⟩)⟩
  · split
    · exact ⟨m, h, rfl, rfl, .inl rfl⟩
    · exact .of h
theorem compD_open {ops : Array Oper} {fs : List MOp} (h : compD P ntm ops = some fs) : fs.length = ops.size ∧ ∃ ks, Open P ntm ops ks fs := by
  unfold compD at h
  split at h
  case h_1 => simp at h
  rename_i ms hms
  obtain ⟨e1, e2⟩ := compOpers_spec hms
  simp only at h
  split at h
  case isFalse => simp at h
  rename_i hc
  obtain ⟨h1, h2, h3⟩ := hc
  simp only [Option.some.injEq] at h
  have hfl : fs.length = ops.size := by rw [← h]; simp [flagL, e1]
  have hall : ∀ (i : Nat) (o : Oper), ops[i]? = some o → (o.after.toList.all (fun e => !Region.binds .any e || decide (e.on < i)) = true ∧ maskOk (masks ops.toList []) i o = true) := fun i o ho => by
    rw [List.all_eq_true] at h1
    have := h1 (o, i) (by
      rw [List.mem_zipIdx_iff_getElem?]
      simpa using ho)
    simpa only [Bool.and_eq_true] using this
  refine ⟨hfl, masks ops.toList [], ?_, ?_, fun i o ho => (hall i o ho).2, h2, ?_⟩
  · intro i o ho
    obtain ⟨m, k1, k2⟩ := e2 i o (by simpa using ho)
    refine ⟨flagOp (masks ops.toList []) ms i m, ?_, flagOp_fits k2⟩
    rw [← h]
    simp only [flagL, List.getElem?_map, List.getElem?_zipIdx, k1, Option.map_some, Nat.zero_add]
  · intro i o ho e he hb
    have := (hall i o ho).1
    rw [List.all_eq_true] at this
    have := this e (by simpa using he)
    simpa [hb] using this
  · intro i j x y hx hy hij
    rw [h] at h3
    unfold pairsOk at h3
    rw [List.all_eq_true] at h3
    have := h3 (x, i) (by rw [List.mem_zipIdx_iff_getElem?]; simpa using hx)
    rw [List.all_eq_true] at this
    have := this (y, j) (by rw [List.mem_zipIdx_iff_getElem?]; simpa using hy)
    simp only [hij, decide_true, Bool.not_true, Bool.false_or, Bool.or_eq_true] at this
    exact this

/-! ### Code -/
def exOf : Ex → Exit
  | .normal => .normal
  | .exit id => .exit id
  | .ret => .ret
/-- A loop that comes to its end within so many rounds. -/
theorem wp_loop_n {c : Code} {Q : Exit → Act → World → Prop} (J : Nat → Act → World → Prop) (h0 : ∀ a w, ¬ J 0 a w)
    (round : ∀ n a w, J (n + 1) a w → c.wp P (Exit.then (J n) Q) a w) : ∀ n a w, J n a w → (Code.loop c).wp P Q a w := by
  have key : ∀ n a w, J n a w → ∀ (b : Frame) (k : List Item) (cs : List Frame), ∃ e a' w', Q e a' w' ∧ Arrives P (lone (b.at a (.code c :: .inLoop c :: k)) cs w) b k cs e a' w' := by
    intro n
    induction n with
    | zero => intro a w h; exact absurd h (h0 a w)
    | succ n ih =>
      intro a w h b k cs
      obtain ⟨e, a₁, w₁, hq, harr⟩ := round n a w h b (.inLoop c :: k) cs
      cases e with
      | normal =>
        obtain ⟨e₂, a₂, w₂, hq₂, harr₂⟩ := ih a₁ w₁ hq b k cs
        exact ⟨e₂, a₂, w₂, hq₂, .of_steps (Steps.trans harr (.one step_inLoop)) harr₂⟩
      | exit id => exact ⟨_, a₁, w₁, hq, .pass (x := .inLoop c) rfl (fun _ _ => .inl (by simp)) harr⟩
      | goto l => exact ⟨_, a₁, w₁, hq, .pass (x := .inLoop c) rfl (fun _ _ => .inl (by simp)) harr⟩
      | ret => exact ⟨_, a₁, w₁, hq, .pass (x := .inLoop c) rfl (fun _ _ => .inl (by simp)) harr⟩
      | panic ch => exact ⟨_, a₁, w₁, hq, .pass (x := .inLoop c) rfl (fun _ _ => .inl (by simp)) harr⟩
      | outgrown => exact ⟨_, a₁, w₁, hq, .pass (x := .inLoop c) rfl (fun _ _ => .inl (by simp)) harr⟩
  intro n a w h b k cs
  obtain ⟨e, a', w', hq, harr⟩ := key n a w h b k cs
  exact ⟨e, a', w', hq, .of_steps (.one step_loop) harr⟩

/-- Where the machine is when the compiled code has run. -/
def Post (N ntm : Nat) (c : CMap) (H : AH) (w : World) (e : Ex) (f' : Fr) (H' : AH) : Exit → Act → World → Prop := fun e' a' w' => e' = exOf e ∧ ∃ c', Rel N ntm c' f' H' a' w' ∧ ExtW N c H w c' H' w'
theorem Post.trans {c c1 : CMap} {H H1 : AH} {w w1 : World} {e : Ex} {f' : Fr} {H' : AH} (hx : ExtW N c H w c1 H1 w1) {e' : Exit} {a' : Act} {w' : World} (h : Post N ntm c1 H1 w1 e f' H' e' a' w') : Post N ntm c H w e f' H' e' a' w' := by
  obtain ⟨h1, c', h2, h3⟩ := h
  exact ⟨h1, c', h2, hx.trans h3⟩
theorem code_ok (hm : P.follows .mixedOrders = true) (hcall : CallOk P N call) {k : Nat} : ∀ (code : Code) {m : MCode}, compC P ntm code = some m → ∀ {c : CMap} {f : Fr} {H : AH} {a : Act} {w : World}, Rel N ntm c f H a w → ∀ {e : Ex} {f' : Fr} {H' : AH}, evC call k m f H = some (e, f', H') → code.wp P (Post N ntm c H w e f' H') a w := by
  intro code
  induction code with
  | skip =>
    intro m h c f H a w hr e f' H' he
    simp only [compC, Option.some.injEq] at h
    subst h
    simp only [evC, Option.some.injEq, Prod.mk.injEq] at he
    obtain ⟨rfl, rfl, rfl⟩ := he
    exact wp_skip ⟨rfl, c, hr, .refl _ _ _ _⟩
  | region id ops draw =>
    intro m h c f H a w hr e f' H' he
    simp only [compC] at h
    split at h
    · rename_i hd
      split at h
      case h_2 => simp at h
      rename_i fs hfs
      simp only [Option.some.injEq] at h
      subst h
      simp only [evC] at he
      split at he
      case h_2 => simp at he
      rename_i f1 H1 h1
      simp only [Option.some.injEq, Prod.mk.injEq] at he
      obtain ⟨rfl, rfl, rfl⟩ := he
      obtain ⟨hlen, ks, hop⟩ := compD_open hfs
      rw [hd]
      refine wp_region_any hm ?_
      have hr' : Rel N ntm c f H a { w with drawn := w.drawn + 1 } := ⟨hr.sim.same rfl, hr.size, hr.tmps, hr.defers⟩
      have hall : todo ops.size (Array.replicate ops.size false) = List.range ops.size := by
        refine List.filter_eq_self.2 fun i hi => ?_
        have := List.mem_range.1 hi
        simp [this]
      refine regionD_ok hcall hop ops.size _ (by simp) (by rw [hall]; simp) ?_ hr' (Nat.le_refl _) (f' := f1) (H' := H1) ?_ fun a' c' w' k1 k2 => ⟨rfl, c', k1, (ExtW.drew N c H w).trans k2⟩
      · intro i o ho hl
        have := (Array.getElem?_eq_some_iff.1 ho).1
        simp [this] at hl
      · rw [hall]
        have : (List.range ops.size).map (fun i => fs.getD i dflt) = fs := by
          refine List.ext_getElem? fun i => ?_
          rw [List.getElem?_map]
          rcases Nat.lt_or_ge i ops.size with hi | hi
          · rw [List.getElem?_range hi]
            simp [hlen, hi]
          · rw [List.getElem?_eq_none (by simpa using hi), List.getElem?_eq_none (by omega)]
            rfl
        rw [this]
        exact h1
    · rename_i hd
      split at h
      case h_2 => simp at h
      rename_i ms hms
      simp only [Option.some.injEq] at h
      subst h
      simp only [evC] at he
      split at he
      case h_2 => simp at he
      rename_i f1 H1 h1
      simp only [Option.some.injEq, Prod.mk.injEq] at he
      obtain ⟨rfl, rfl, rfl⟩ := he
      obtain ⟨e1, e2⟩ := compOpers_spec hms
      have : draw = false := by simpa using hd
      subst this
      refine wp_region (region_ok hcall _ ms (by simp [e1]) (fun i hi => ?_) hr h1 fun a' c' w' k1 k2 => ⟨rfl, c', k1, k2⟩)
      have hi' : i < ops.size := by simpa using hi
      obtain ⟨m, k1, k2⟩ := e2 i ops[i] (by simp [hi'])
      exact ⟨ops[i], m, by simp [hi'], k1, .of k2⟩
  | seq x y ihx ihy =>
    intro m h c f H a w hr e f' H' he
    simp only [compC] at h
    split at h
    case h_2 => simp at h
    rename_i mx my hx hy
    simp only [Option.some.injEq] at h
    subst h
    simp only [evC] at he
    refine wp_seq ?_
    split at he
    · rename_i f1 H1 h1
      refine wp_mono (ihx hx hr h1) fun e' a' w' hp => ?_
      obtain ⟨rfl, c', k1, k2⟩ := hp
      exact wp_mono (ihy hy k1 he) fun _ _ _ h => h.trans k2
    · rename_i hne
      refine wp_mono (ihx hx hr he) fun e' a' w' hp => ?_
      have he1 : e' = exOf e := hp.1
      cases e with
      | normal => exact absurd he (hne _ _)
      | exit id => subst he1; exact hp
      | ret => subst he1; exact hp
  | cond cc x y ihx ihy =>
    intro m h c f H a w hr e f' H' he
    simp only [compC] at h
    split at h
    case isFalse => simp at h
    rename_i hok
    split at h
    case h_2 => simp at h
    rename_i mx my hx hy
    simp only [Option.some.injEq] at h
    subst h
    simp only [evC] at he
    have hc := hr.ops cc hok
    split at he
    case h_2 => simp at he
    rename_i b hb
    rw [hb] at hc
    refine wp_cond hc.bool ?_
    split at he
    · rename_i hb; rw [if_pos hb]; exact ihx hx hr he
    · rename_i hb; rw [if_neg hb]; exact ihy hy hr he
  | block id x ih =>
    intro m h c f H a w hr e f' H' he
    simp only [compC] at h
    split at h
    case h_2 => simp at h
    rename_i mx hx
    simp only [Option.some.injEq] at h
    subst h
    simp only [evC] at he
    refine wp_block ?_
    split at he
    · rename_i i f1 H1 h1
      refine wp_mono (ih hx hr h1) fun e' a' w' hp => ?_
      obtain ⟨rfl, hp2⟩ := hp
      split at he
      · rename_i hi
        simp only [Option.some.injEq, Prod.mk.injEq] at he
        obtain ⟨rfl, rfl, rfl⟩ := he
        simp only [exOf, Exit.inBlock, hi, if_true]
        exact ⟨rfl, hp2⟩
      · rename_i hi
        simp only [Option.some.injEq, Prod.mk.injEq] at he
        obtain ⟨rfl, rfl, rfl⟩ := he
        simp only [exOf, Exit.inBlock, hi, if_false]
        exact ⟨rfl, hp2⟩
    · rename_i hne
      refine wp_mono (ih hx hr he) fun e' a' w' hp => ?_
      have he1 : e' = exOf e := hp.1
      cases e with
      | exit id => exact absurd he (hne _ _ _)
      | normal => subst he1; exact hp
      | ret => subst he1; exact hp
  | loop x ih =>
    intro m h c f H a w hr e f' H' he
    simp only [compC] at h
    split at h
    case h_2 => simp at h
    rename_i mx hx
    simp only [Option.some.injEq] at h
    subst h
    simp only [evC] at he
    refine wp_loop_n (fun n a1 w1 => ∃ c1 f1 H1, Rel N ntm c1 f1 H1 a1 w1 ∧ ExtW N c H w c1 H1 w1 ∧ iter (evC call k mx) n f1 H1 = some (e, f', H')) ?_ ?_ k a w ⟨c, f, H, hr, .refl _ _ _ _, he⟩
    · rintro a1 w1 ⟨c1, f1, H1, _, _, h⟩
      simp [iter] at h
    · rintro n a1 w1 ⟨c1, f1, H1, k1, k2, h⟩
      simp only [iter] at h
      split at h
      · rename_i f2 H2 h2
        refine wp_mono (ih hx k1 h2) fun e' a' w' hp => ?_
        obtain ⟨rfl, c2, j1, j2⟩ := hp
        exact ⟨c2, f2, H2, j1, k2.trans j2, h⟩
      · rename_i hne
        refine wp_mono (ih hx k1 h) fun e' a' w' hp => ?_
        have he1 : e' = exOf e := hp.1
        cases e with
        | normal => exact absurd h (hne _ _)
        | exit id => subst he1; exact hp.trans k2
        | ret => subst he1; exact hp.trans k2
  | exit id =>
    intro m h c f H a w hr e f' H' he
    simp only [compC, Option.some.injEq] at h
    subst h
    simp only [evC, Option.some.injEq, Prod.mk.injEq] at he
    obtain ⟨rfl, rfl, rfl⟩ := he
    exact wp_exit ⟨rfl, c, hr, .refl _ _ _ _⟩
  | ret =>
    intro m h c f H a w hr e f' H' he
    simp only [compC, Option.some.injEq] at h
    subst h
    simp only [evC, Option.some.injEq, Prod.mk.injEq] at he
    obtain ⟨rfl, rfl, rfl⟩ := he
    exact wp_ret ⟨rfl, c, hr, .refl _ _ _ _⟩
  | refuse why =>
    intro m h c f H a w hr e f' H' he
    simp only [compC, Option.some.injEq] at h
    subst h
    simp [evC, evOps, evMOp, evV, evG, evOp, evM] at he
  | _ => intro m h; simp [compC] at h
end
end Go.Proofs.Ytidpkoaomfbljaa.AM
