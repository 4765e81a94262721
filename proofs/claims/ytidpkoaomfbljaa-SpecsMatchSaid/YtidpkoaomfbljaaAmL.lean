/- Code is compiled; what the compiled code computes is what the machine does. -/
import Derived.Test.YtidpkoaomfbljaaAmJ
import Derived.Test.YtidpkoaomfbljaaAmK
import Derived.Orders
namespace Go.Proofs.Ytidpkoaomfbljaa.AM
open Go Go.RowKit
set_option linter.all false

/-! ### Compiling -/
def dstOk (ntm : Nat) : Option Tmp → Bool
  | some d => decide (d < ntm)
  | none => true
def compOper (P : Program) (ntm : Nat) (ops : Array Oper) (o : Oper) : Option MOp :=
  if dstOk ntm o.dst = true then
    (match o.guard with
    | none => some ⟨o.dst, none, false, if o.op.operands.toList.all opdOk = true then (compOp P o).getD .mkMap else .mkMap⟩
    | some (j, want) => match (ops[j]?).bind (·.dst) with
      | some t => some ⟨o.dst, some (t, want), false, if o.op.operands.toList.all opdOk = true then (compOp P o).getD .mkMap else .mkMap⟩
      | none => none)
  else none
def compOpers (P : Program) (ntm : Nat) (ops : Array Oper) : List Oper → Option (List MOp)
  | [] => some []
  | o :: l => match compOper P ntm ops o, compOpers P ntm ops l with
    | some m, some ms => some (m :: ms)
    | _, _ => none
/-- Which operations come before, each as a bit. -/
def masks : List Oper → List Nat → List Nat
  | [], acc => acc
  | o :: r, acc => masks r (acc ++ [o.after.toList.foldl (fun s e => if Region.binds .any e = true then s ||| (1 <<< e.on) ||| acc.getD e.on 0 else s) 0])
/-- A mask tells no more than the edges do. -/
def maskOk (ks : List Nat) (i : Nat) (o : Oper) : Bool :=
  (List.range ks.length).all fun j => !(ks.getD i 0).testBit j || o.after.toList.any fun e => Region.binds .any e && (e.on == j || (decide (e.on < i) && (ks.getD e.on 0).testBit j))
def loose (ks : List Nat) (i j : Nat) : Bool := if i < j then !(ks.getD j 0).testBit i else !(ks.getD i 0).testBit j
def flagOp (ks : List Nat) (ms : List MOp) (i : Nat) (m : MOp) : MOp :=
  match m.op with
  | .call _ g a => { m with op := .call (ms.zipIdx.any fun q => decide (q.2 ≠ i) && decide (q.1.op.cls = .read) && loose ks i q.2) g a }
  | .store n a x =>
    let far := ms.zipIdx.filterMap fun q => match q.1.op with | .load _ _ (.tmp t) => if decide (q.2 ≠ i) && loose ks i q.2 then some t else none | _ => none
    if far.isEmpty = true then m else { m with op := .storeX n a x far }
  | _ => if m.op.cls = .read then { m with old := ms.zipIdx.any fun q => decide (q.2 < i) && (q.1.op.isCall || decide (q.1.op.cls = .grow)) && loose ks q.2 i } else m
def flagL (ks : List Nat) (ms : List MOp) : List MOp := ms.zipIdx.map fun q => flagOp ks ms q.2 q.1
def pairsOk (ks : List Nat) (ms : List MOp) : Bool :=
  ms.zipIdx.all fun q => ms.zipIdx.all fun r => !decide (q.2 < r.2) || (ks.getD r.2 0).testBit q.2 || pairOk q.1 r.1
def compD (P : Program) (ntm : Nat) (ops : Array Oper) : Option (List MOp) :=
  match compOpers P ntm ops ops.toList with
  | none => none
  | some ms =>
    let ks := masks ops.toList []
    let fs := flagL ks ms
    if (ops.toList.zipIdx.all fun q => q.1.after.toList.all (fun e => !Region.binds .any e || decide (e.on < q.2)) && maskOk ks q.2 q.1) = true ∧ ks.length = ops.size ∧ pairsOk ks fs = true then some fs else none
def compC (P : Program) (ntm : Nat) : Code → Option MCode
  | .skip => some .skip
  | .region _ ops draw => if draw = true then (match compD P ntm ops with | some l => some (.opsD l) | none => none) else (match compOpers P ntm ops ops.toList with | some l => some (.ops l) | none => none)
  | .seq a b => match compC P ntm a, compC P ntm b with | some a, some b => some (.seq a b) | _, _ => none
  | .cond c a b => if opdOk c = true then (match compC P ntm a, compC P ntm b with | some a, some b => some (.cond c a b) | _, _ => none) else none
  | .block id a => match compC P ntm a with | some a => some (.block id a) | none => none
  | .loop a => match compC P ntm a with | some a => some (.loop a) | none => none
  | .exit id => some (.exit id)
  | .ret => some .ret
  | .refuse _ => some (.ops [⟨none, none, false, .mkMap⟩])
  | _ => none
def compRes (P : Program) : ResultVar → Option MRes
  | .tmp t => some (.tmp t)
  | .cell a t => match P.underlying t, P.info? t with
    | some d, some i => if isAggT d = true then some (.cell a true i.size) else some (.cell a false 1)
    | _, _ => none
def compRs (P : Program) : List ResultVar → Option (List MRes)
  | [] => some []
  | r :: l => match compRes P r, compRs P l with
    | some m, some ms => some (m :: ms)
    | _, _ => none
def compFn (P : Program) (fn : Func) : Option MFun :=
  if fn.name = "runtime.NumGoroutine" then none else
  match fn.body with
  | none => none
  | some b => match compC P fn.ntmps b, compRs P fn.results.toList with
    | some c, some rs => some ⟨c, rs⟩
    | _, _ => none

/-! ### What holds between the two -/
structure Rel (N ntm : Nat) (c : CMap) (f : Fr) (H : AH) (a : Act) (w : World) : Prop where
  sim : Sim N c H w
  size : ntm ≤ a.tmps.size
  tmps : ∀ t, VR H.next c (f t) (a.tmps.getD t Go.undef)
  defers : a.defers = []
theorem Rel.ops {N ntm : Nat} {c : CMap} {f : Fr} {H : AH} {a : Act} {w : World} (h : Rel N ntm c f H a w) (x : Operand) (hx : opdOk x = true) : VR H.next c (ev f x) (a.eval x) := by
  cases x with
  | tmp t => exact h.tmps t
  | const v => exact .of3 hx
  | «global» g => simp [opdOk] at hx
  | func g => exact .of3 rfl
theorem Rel.put {N ntm : Nat} {c c' : CMap} {f : Fr} {H H' : AH} {a : Act} {w w' : World} (h : Rel N ntm c f H a w) (hs : Sim N c' H' w') (hx : ExtW N c H w c' H' w') {v v' : Value} (hv : VR H'.next c' v v') {d : Option Tmp} (hd : dstOk ntm d = true) : Rel N ntm c' (AM.put f d v) H' (a.put d v') w' := by
  have keep : ∀ t, VR H'.next c' (f t) (a.tmps.getD t Go.undef) := fun t => (h.tmps t).mono hx.nx hx.dom
  cases d with
  | none => exact ⟨hs, h.size, keep, h.defers⟩
  | some d =>
    have hlt : d < a.tmps.size := Nat.lt_of_lt_of_le (by simpa [dstOk] using hd) h.size
    refine ⟨hs, by simpa [Act.put] using h.size, fun t => ?_, h.defers⟩
    simp only [AM.put, upd, Act.put]
    by_cases ht : t = d
    · subst ht; rw [if_pos rfl]; simpa [hlt] using hv
    · rw [if_neg ht]
      have := keep t
      simpa [Array.getElem?_setIfInBounds_ne (Ne.symm ht)] using this

/-! ### Calls -/
/-- What a call is to do. -/
def CallR (P : Program) (N : Nat) (c : CMap) (H : AH) (w : World) (n : FuncId) (args : Array Value) (v : Value) (H' : AH) : Prop :=
  let R : Value → World → Prop := fun v' w' => ∃ c', VR H'.next c' v v' ∧ Sim N c' H' w' ∧ ExtW N c H w c' H' w'
  (∃ v' w', (callFunc n args).run P w = .ok (.value v') w' ∧ R v' w') ∨
  ((callFunc n args).run P w = .ok (.enter n args) w ∧ Calls P n args w fun | .returned v', w' => R v' w' | _, _ => False)
def CallOk (P : Program) (N : Nat) (call : CallH) : Prop :=
  CallExt call ∧ ∀ n vs H v H', call n vs H = some (v, H') → ∀ c w args, Sim N c H w → VRL H.next c vs args.toList → CallR P N c H w n args v H'

section
variable {P : Program} {N ntm : Nat} {call : CallH}

theorem Sim.low {c : CMap} {H : AH} {w : World} {k : Nat} (h : Sim N c H w) : Sim N c { H with low := k } w := ⟨h.live, h.blk, h.inj, h.size⟩
theorem VRL.arr {n : Nat} {c : CMap} {l : List Value} {a : Array Value} (h : VRL n c l a.toList) : VRL n c l a.toList := h

/-- What one operation, that is wanted, does. -/
theorem oper_ok (hcall : CallOk P N call) {c : CMap} {f : Fr} {H : AH} {a : Act} {w : World} (hr : Rel N ntm c f H a w) {o : Oper} {m0 m : MI}
    (hm0 : m0 = if o.op.operands.toList.all opdOk = true then (compOp P o).getD .mkMap else .mkMap) (hm : m = m0 ∨ (∃ p q g xs, m0 = .call p g xs ∧ m = .call q g xs) ∨ ∃ n b x far, m0 = .store n b x ∧ m = .storeX n b x far)
    {v : Value} {H' : AH} (he : evOp call m f H = some (v, H')) {K : Act → World → Prop} {Q : Exit → Act → World → Prop}
    (hK : ∀ v' c' w', VR H'.next c' v v' → Sim N c' H' w' → ExtW N c H w c' H' w' → K (a.put o.dst v') w') : o.wp P a w K Q := by
  have hkey : ∃ m', (m' = m0 ∨ ∃ p q g xs, m0 = .call p g xs ∧ m' = .call q g xs) ∧ evOp call m' f H = some (v, H') := by
    rcases hm with h | h | ⟨n, b, x, far, h1, h2⟩
    · exact ⟨m, .inl h, he⟩
    · exact ⟨m, .inr h, he⟩
    · refine ⟨m0, .inl rfl, ?_⟩
      rw [h2, evOp_evM rfl] at he
      rw [h1, evOp_evM rfl]
      simp only [evM] at he ⊢
      split at he
      · split at he
        · exact he
        · simp at he
      · simp at he
  clear hm he m
  obtain ⟨m, hm, he⟩ := hkey
  have notBad : m0 ≠ .mkMap := fun e => by
    rcases hm with h | ⟨p, q, g, xs, h1, h2⟩
    · rw [h, e] at he; simp [evOp, evM] at he
    · rw [e] at h1; simp at h1
  have hops : o.op.operands.toList.all opdOk = true := by
    by_cases h : o.op.operands.toList.all opdOk = true
    · exact h
    · rw [if_neg h] at hm0; exact absurd hm0 notBad
  rw [if_pos hops] at hm0
  have hcomp : compOp P o = some m0 := by
    cases hc : compOp P o with
    | none => rw [hc] at hm0; exact absurd hm0 notBad
    | some x => rw [hc] at hm0; simp at hm0; rw [hm0]
  cases hi : m0.isCall with
  | false =>
    have hmm : m = m0 := hm.resolve_right fun ⟨p, q, g, xs, h1, _⟩ => by rw [h1] at hi; simp [MI.isCall] at hi
    subst hmm
    rw [evOp_evM hi] at he
    obtain ⟨nx, v', c', w', h1, h2, h3, h4, h5⟩ := op_ok hr.sim hr.ops hcomp hops (fun p g xs e => by rw [e] at hi; simp [MI.isCall] at hi) he
    rcases h2 with rfl | ⟨rfl, rfl⟩
    · simp only [Oper.wp, h1, Oper.upon]; exact hK _ _ _ h3 h4 h5
    · simp only [Oper.wp, h1, Oper.upon]; exact hK _ _ _ h3 h4 h5
  | true =>
    cases m0 <;> simp only [MI.isCall, Bool.false_eq_true] at hi
    rename_i p0 g xs
    obtain ⟨q, rfl⟩ : ∃ q, m = .call q g xs := by
      rcases hm with h | ⟨p, q, g', xs', h1, h2⟩
      · exact ⟨_, h⟩
      · simp only [MI.call.injEq] at h1; obtain ⟨_, rfl, rfl⟩ := h1; exact ⟨q, h2⟩
    obtain ⟨cl, hop, hcal, hxs⟩ : ∃ cl, o.op = .call cl ∧ cl.callee = .value g ∧ cl.args.toList = xs := by
      unfold compOp at hcomp
      split at hcomp <;> (try (simp only [Option.some.injEq, reduceCtorEq] at hcomp; done)) <;> (try ((repeat' split at hcomp) <;> (try (simp only [Option.some.injEq, reduceCtorEq] at hcomp; done))))
      all_goals first
        | (rename_i cl hop _ b hcal
           exfalso
           unfold compBuiltin at hcomp
           (repeat' split at hcomp) <;> simp only [Option.some.injEq, reduceCtorEq] at hcomp)
        | (rename_i cl hop _ g' hcal
           simp only [Option.some.injEq, MI.call.injEq] at hcomp
           obtain ⟨_, rfl, rfl⟩ := hcomp
           exact ⟨cl, hop, hcal, rfl⟩)
    subst hxs
    rw [hop] at hops
    have hg := hr.ops g (all_ops hops (by simp [Op.operands, Call.operands, hcal]))
    have hargs : VRL H.next c (cl.args.toList.map (ev f)) (cl.args.toList.map a.eval) := VRL.map _ fun x hx => hr.ops x (all_ops hops (by simp only [Op.operands, Call.operands, Array.toList_append, List.mem_append]; exact .inr hx))
    simp only [evOp] at he
    unfold callee at he
    cases hf : ev f g with
    | func fn first captured =>
      rw [hf] at hg
      cases fn with
      | func n =>
        rw [hf] at he
        simp only at he
        obtain ⟨f', b', e1, e2, e3⟩ := hg.funcI
        have hall : VRL H.next c (first.toList ++ cl.args.toList.map (ev f) ++ captured.toList) ((f' ++ cl.args.map a.eval) ++ b').toList := by
          simp only [Array.toList_append, Array.toList_map]
          exact (e2.append hargs).append e3
        have hexec : execOp a.eval o = callFunc n ((f' ++ cl.args.map a.eval) ++ b') := by
          simp [execOp, hop, resolve, hcal, e1, Deferred.ofValue, invoke]
        obtain ⟨H2, hc2, hsim2, hx2⟩ : ∃ H2, (CallR P N c H w n ((f' ++ cl.args.map a.eval) ++ b') v H2) ∧ (∀ c' w', Sim N c' H2 w' → Sim N c' H' w') ∧ (H2.next = H'.next ∧ ∀ c' w', ExtW N c H w c' H2 w' → ExtW N c H w c' H' w') := by
          split at he
          · split at he
            · rename_i v1 H1 h1
              split at he
              · rename_i hl
                simp only [Option.some.injEq, Prod.mk.injEq] at he
                obtain ⟨rfl, rfl⟩ := he
                have := hcall.2 _ _ _ _ _ h1 c w _ (Sim.low (k := H.next) hr.sim) hall
                refine ⟨{ H1 with low := H.low }, ?_, fun c' w' h => h, rfl, fun _ _ h => h⟩
                have conv : ∀ v' w', (∃ c', VR H1.next c' v1 v' ∧ Sim N c' H1 w' ∧ ExtW N c H.enter w c' H1 w') → ∃ c', VR H1.next c' v1 v' ∧ Sim N c' { H1 with low := H.low } w' ∧ ExtW N c H w c' { H1 with low := H.low } w' := fun v' w' ⟨c', k1, k2, k3⟩ =>
                  ⟨c', k1, k2.low, ⟨k3.nx, k3.dom, Nat.le_refl _, fun id hid _ => k3.same id hid (by rw [hl]; exact hid), k3.below⟩⟩
                rcases this with ⟨v', w', k1, k2⟩ | ⟨k1, k2⟩
                · exact .inl ⟨v', w', k1, conv _ _ k2⟩
                · exact .inr ⟨k1, k2.mono fun e w' he => by cases e <;> first | exact conv _ _ he | exact he⟩
              · simp at he
            · simp at he
          · exact ⟨H', hcall.2 _ _ _ _ _ he c w _ hr.sim hall, fun _ _ h => h, rfl, fun _ _ h => h⟩
        rcases hc2 with ⟨v', w', k1, c', k2, k3, k4⟩ | ⟨k1, k2⟩
        · simp only [Oper.wp, hexec, k1, Oper.upon]
          exact hK _ _ _ (hx2.1 ▸ k2) (hsim2 _ _ k3) (hx2.2 _ _ k4)
        · simp only [Oper.wp, hexec, k1, Oper.upon]
          refine k2.mono fun e w' he => ?_
          cases e with
          | returned v' =>
            obtain ⟨c', k2, k3, k4⟩ := he
            exact hK _ _ _ (hx2.1 ▸ k2) (hsim2 _ _ k3) (hx2.2 _ _ k4)
          | panicked ch => exact he.elim
          | outgrown => exact he.elim
      | _ => rw [hf] at he; simp at he
    | _ => rw [hf] at he; simp at he

/-- A compiled operation that fits an operation. -/
def Fits (P : Program) (ntm : Nat) (ops : Array Oper) (o : Oper) (m : MOp) : Prop :=
  ∃ m0, compOper P ntm ops o = some m0 ∧ m.dst = m0.dst ∧ m.guard = m0.guard ∧ (m.op = m0.op ∨ (∃ p q g xs, m0.op = .call p g xs ∧ m.op = .call q g xs) ∨ ∃ n b x far, m0.op = .store n b x ∧ m.op = .storeX n b x far)
theorem Fits.of {ops : Array Oper} {o : Oper} {m : MOp} (h : compOper P ntm ops o = some m) : Fits P ntm ops o m := ⟨m, h, rfl, rfl, .inl rfl⟩
theorem oper_step (hcall : CallOk P N call) {c : CMap} {f : Fr} {H : AH} {a : Act} {w : World} (hr : Rel N ntm c f H a w) {ops : Array Oper} {o : Oper} {m : MOp} (hm : Fits P ntm ops o m) {bs : Nat}
    {f' : Fr} {H' : AH} (he : evMOp call bs m f H = some (f', H')) {K : Act → World → Prop} {Q : Exit → Act → World → Prop}
    (hK : ∀ a' c' w', Rel N ntm c' f' H' a' w' → ExtW N c H w c' H' w' → K a' w') :
    if Region.wanted o (yielded ops a.tmps) = true then o.wp P a w K Q else K (a.put o.dst Go.undef) w := by
  obtain ⟨m0, h0, hd, hg, hop⟩ := hm
  unfold compOper at h0
  split at h0
  case isFalse => simp at h0
  rename_i hlt
  unfold evMOp at he
  split at he
  case h_2 => simp at he
  rename_i v H1 hv
  simp only [Option.some.injEq, Prod.mk.injEq] at he
  obtain ⟨rfl, rfl⟩ := he
  have fin : ∀ v' c' w', VR H1.next c' v v' → Sim N c' H1 w' → ExtW N c H w c' H1 w' → m.dst = o.dst → K (a.put o.dst v') w' := fun v' c' w' k1 k2 k3 e =>
    hK _ c' w' (by rw [e]; exact hr.put k2 k3 k1 hlt) k3
  unfold evV at hv
  cases hog : o.guard with
  | none =>
    simp only [hog, Option.some.injEq] at h0
    subst h0
    simp only at hg hd hop
    rw [hg] at hv
    simp only at hv
    have hw : Region.wanted o (yielded ops a.tmps) = true := by simp [Region.wanted, hog]
    rw [if_pos hw]
    exact oper_ok hcall hr rfl hop (evG_evOp hv) fun v' c' w' k1 k2 k3 => fin v' c' w' k1 k2 k3 hd
  | some jw =>
    obtain ⟨j, want⟩ := jw
    simp only [hog] at h0
    split at h0
    case h_2 => simp at h0
    rename_i t ht
    simp only [Option.some.injEq] at h0
    subst h0
    simp only at hg hd hop
    rw [hg] at hv
    simp only at hv
    split at hv
    case h_3 => simp at hv
    case h_2 =>
      rename_i vs hb
      have ht' := hr.tmps t
      rw [hb] at ht'
      obtain ⟨vs', e1, _⟩ := VRL.of_tuple ht'
      have hy : yielded ops a.tmps j = none := by
        unfold yielded
        rw [ht]
        simp only [Option.bind_some]
        rw [Array.getD_eq_getD_getElem?] at e1
        cases hq : a.tmps[t]? with
        | none => rfl
        | some q =>
          rw [hq] at e1
          simp only [Option.getD_some] at e1
          rw [e1]
      have hw : Region.wanted o (yielded ops a.tmps) = false := by
        simp only [Region.wanted, hog, hy]
        rfl
      rw [hw, if_neg (by simp)]
      simp only [Option.some.injEq, Prod.mk.injEq] at hv
      obtain ⟨rfl, rfl⟩ := hv
      exact fin _ c w .undef hr.sim (.refl _ _ _ _) hd
    rename_i b hb
    have ht' := hr.tmps t
    rw [hb] at ht'
    have ht2 : a.tmps.getD t Go.undef = .bool b := ht'.bool
    have hy : yielded ops a.tmps j = some b := by
      unfold yielded
      rw [ht]
      simp only [Option.bind_some]
      have : a.tmps[t]? = some (.bool b) := by
        cases hq : a.tmps[t]? with
        | none => rw [Array.getD_eq_getD_getElem?, hq] at ht2; simp [Go.undef] at ht2
        | some q => rw [Array.getD_eq_getD_getElem?, hq] at ht2; simp at ht2; rw [ht2]
      rw [this]
    have hw : Region.wanted o (yielded ops a.tmps) = decide (b = want) := by
      simp only [Region.wanted, hog, hy]
      cases b <;> cases want <;> rfl
    rw [hw]
    split at hv
    · rename_i hbw
      rw [if_pos (by simp [hbw])]
      exact oper_ok hcall hr rfl hop (evG_evOp hv) fun v' c' w' k1 k2 k3 => fin v' c' w' k1 k2 k3 hd
    · rename_i hbw
      rw [if_neg (by simp [hbw])]
      simp only [Option.some.injEq, Prod.mk.injEq] at hv
      obtain ⟨rfl, rfl⟩ := hv
      exact fin _ c w .undef hr.sim (.refl _ _ _ _) hd

theorem compOpers_spec {ops : Array Oper} : ∀ {l : List Oper} {ms : List MOp}, compOpers P ntm ops l = some ms → ms.length = l.length ∧ ∀ (i : Nat) (o : Oper), l[i]? = some o → ∃ m, ms[i]? = some m ∧ compOper P ntm ops o = some m := by
  intro l
  induction l with
  | nil => intro ms h; simp only [compOpers, Option.some.injEq] at h; subst h; exact ⟨rfl, fun i o h => by simp at h⟩
  | cons x l ih =>
    intro ms h
    simp only [compOpers] at h
    split at h
    · rename_i m ms' h1 h2
      simp only [Option.some.injEq] at h
      subst h
      obtain ⟨e1, e2⟩ := ih h2
      refine ⟨by simp [e1], fun i o ho => ?_⟩
      cases i with
      | zero => simp at ho; subst ho; exact ⟨m, by simp, h1⟩
      | succ i => simp at ho; obtain ⟨m', k1, k2⟩ := e2 i o ho; exact ⟨m', by simpa using k1, k2⟩
    · simp at h

/-- A region in the given order. -/
theorem region_ok (hcall : CallOk P N call) {ops : Array Oper} {bs : Nat} {Q : Exit → Act → World → Prop} : ∀ (l : List Nat) (ms : List MOp), l.length = ms.length → (∀ (i : Nat) (h : i < l.length), ∃ o m, ops[l[i]]? = some o ∧ ms[i]? = some m ∧ Fits P ntm ops o m) →
    ∀ {c : CMap} {f : Fr} {H : AH} {a : Act} {w : World}, Rel N ntm c f H a w → ∀ {f' : Fr} {H' : AH}, evOps call bs ms f H = some (f', H') →
    (∀ a' c' w', Rel N ntm c' f' H' a' w' → ExtW N c H w c' H' w' → Q .normal a' w') → wpOps P ops Q l a w := by
  intro l
  induction l with
  | nil =>
    intro ms hl hf c f H a w hr f' H' he hQ
    have : ms = [] := List.eq_nil_of_length_eq_zero hl.symm
    subst this
    simp only [evOps, Option.some.injEq, Prod.mk.injEq] at he
    obtain ⟨rfl, rfl⟩ := he
    exact hQ _ _ _ hr (.refl _ _ _ _)
  | cons i l ih =>
    intro ms hl hf c f H a w hr f' H' he hQ
    cases ms with
    | nil => simp at hl
    | cons m ms =>
      obtain ⟨o, m', ho, hm', hfit⟩ := hf 0 (by simp)
      simp only [List.getElem_cons_zero] at ho
      simp at hm'
      subst hm'
      simp only [evOps] at he
      split at he
      case h_2 => simp at he
      rename_i f1 H1 h1
      have := oper_step (Q := Q) hcall hr hfit h1 (K := wpOps P ops Q l) fun a' c' w' k1 k2 => ih ms (by simpa using hl) (fun j hj => by
        obtain ⟨o', m2, e1, e2, e3⟩ := hf (j + 1) (by simpa using hj)
        exact ⟨o', m2, by simpa using e1, by simpa using e2, e3⟩) k1 he fun a2 c2 w2 j1 j2 => hQ _ _ _ j1 (k2.trans j2)
      simp only [wpOps, ho]
      split
      · rename_i hw; rw [if_pos hw] at this; exact .inl this
      · rename_i hw; rw [if_neg hw] at this; exact this

/-! ### A region of open order -/
theorem mask_closed {ops : Array Oper} {ks : List Nat} (hk : ∀ i o, ops[i]? = some o → maskOk ks i o = true) (hlen : ks.length = ops.size) {listed : Array Bool}
    (hcl : ∀ i o, ops[i]? = some o → listed.getD i true = true → ∀ e ∈ o.after, Region.binds .any e = true → listed.getD e.on false = true) : ∀ (n i : Nat) (o : Oper), i < n → ops[i]? = some o → (∀ e ∈ o.after, Region.binds .any e = true → listed.getD e.on false = true) → ∀ j, j < ops.size → (ks.getD i 0).testBit j = true → listed.getD j false = true := by
  intro n
  induction n with
  | zero => intro i o h; omega
  | succ n ih =>
    intro i o hi ho hready j hj hb
    have := hk i o ho
    unfold maskOk at this
    rw [List.all_eq_true] at this
    have := this j (by rw [List.mem_range]; omega)
    simp only [hb, Bool.not_true, Bool.false_or, List.any_eq_true, Bool.and_eq_true, Bool.or_eq_true, beq_iff_eq, decide_eq_true_eq] at this
    obtain ⟨e, he, hbd, h⟩ := this
    have hl := hready e (by simpa using he) hbd
    rcases h with rfl | ⟨hlt, hbj⟩
    · exact hl
    · have hon : e.on < ops.size := by
        have := (Array.getElem?_eq_some_iff.1 ho).1
        omega
      exact ih e.on ops[e.on] (by omega) (Array.getElem?_eq_getElem hon) (hcl e.on _ (Array.getElem?_eq_getElem hon) (by
        rw [Array.getD_eq_getD_getElem?] at hl ⊢
        cases hq : listed[e.on]? with
        | none => rw [hq] at hl; simp at hl
        | some b => rw [hq] at hl; simpa using hl)) j hj hbj
end
end Go.Proofs.Ytidpkoaomfbljaa.AM
