/- Part 2 of the texts that this claim needs. No conditions. -/
import Derived.Orders
import Derived.Laws.Sem
import Derived.Test.YtildhljhbbhmmaaProg
import Derived.KernelRfl
import Derived.Laws.BitsLemmas
import Derived.Shelf.Strings.OnBuilder
import Derived.Shelf.Strings.Repeat
import Derived.Test.YtildhljhbbhmmaaRows
import Derived.ProofKit
import Derived.ChangeCalls
import Derived.Deep.Slices
import Derived.Test.YtildhljhbbhmmaaCv1
/- Code is compiled; what the compiled code computes is what the machine does. -/
namespace Go.Proofs.Ytildhljhbbhmmaa.AM
open Go Go.RowKit
set_option linter.all false

/-! ### Compiling -/
def dstOk (ntm : Nat) : Option Tmp → Bool
  | some d => decide (d < ntm)
  | none => true
def compOper (P : Program) (ntm : Nat) (ops : Array Oper) (o : Oper) : Option MOp :=
  if dstOk ntm o.dst = true then
    (match o.guard with
    | none => some ⟨o.dst, none, false, if o.op.operands.toList.all opdOk = true then (compOp P o).getD .mkMap else .mkMap⟩
    | some (j, want) => match (ops[j]?).bind (·.dst) with
      | some t => some ⟨o.dst, some (t, want), false, if o.op.operands.toList.all opdOk = true then (compOp P o).getD .mkMap else .mkMap⟩
      | none => none)
  else none
def compOpers (P : Program) (ntm : Nat) (ops : Array Oper) : List Oper → Option (List MOp)
  | [] => some []
  | o :: l => match compOper P ntm ops o, compOpers P ntm ops l with
    | some m, some ms => some (m :: ms)
    | _, _ => none
/-- Which operations come before, each as a bit. -/
def masks : List Oper → List Nat → List Nat
  | [], acc => acc
  | o :: r, acc => masks r (acc ++ [o.after.toList.foldl (fun s e => if Region.binds .any e = true then s ||| (1 <<< e.on) ||| acc.getD e.on 0 else s) 0])
/-- A mask tells no more than the edges do. -/
def maskOk (ks : List Nat) (i : Nat) (o : Oper) : Bool :=
  (List.range ks.length).all fun j => !(ks.getD i 0).testBit j || o.after.toList.any fun e => Region.binds .any e && (e.on == j || (decide (e.on < i) && (ks.getD e.on 0).testBit j))
def loose (ks : List Nat) (i j : Nat) : Bool := if i < j then !(ks.getD j 0).testBit i else !(ks.getD i 0).testBit j
def loneOp (ks : List Nat) (ms : List MOp) (i : Nat) (m : MOp) : MOp :=
  match m.op with
  | .call _ g a => if (ms.zipIdx.any fun q => decide (q.2 ≠ i) && (!q.1.op.isCall && (decide (q.1.op.cls = .grow) || decide (q.1.op.cls = .write))) && loose ks i q.2) = true then { m with op := .callL g a } else m
  | _ => m
def loneL (ks : List Nat) (ms : List MOp) : List MOp := ms.zipIdx.map fun q => loneOp ks ms q.2 q.1
def flagOp (ks : List Nat) (ms : List MOp) (i : Nat) (m : MOp) : MOp :=
  match m.op with
  | .call _ g a => { m with op := .call (ms.zipIdx.any fun q => decide (q.2 ≠ i) && decide (q.1.op.cls = .read) && loose ks i q.2) g a }
  | .store n a x =>
    let far := ms.zipIdx.filterMap fun q => match q.1.op with | .load _ _ (.tmp t) => if decide (q.2 ≠ i) && loose ks i q.2 then some t else none | _ => none
    if far.isEmpty = true then m else { m with op := .storeX n a x far }
  | _ => if m.op.cls = .read then { m with old := ms.zipIdx.any fun q => decide (q.2 < i) && (q.1.op.isCall && !decide (q.1.op.cls = .pure) || decide (q.1.op.cls = .grow)) && loose ks q.2 i } else m
def flagL (ks : List Nat) (ms : List MOp) : List MOp := ms.zipIdx.map fun q => flagOp ks ms q.2 q.1
def pairsOk (ks : List Nat) (ms : List MOp) : Bool :=
  ms.zipIdx.all fun q => ms.zipIdx.all fun r => !decide (q.2 < r.2) || (ks.getD r.2 0).testBit q.2 || pairOk q.1 r.1
def compD (P : Program) (ntm : Nat) (ops : Array Oper) : Option (List MOp) :=
  match compOpers P ntm ops ops.toList with
  | none => none
  | some ms =>
    let ks := masks ops.toList []
    let fs := flagL ks (loneL ks ms)
    if (ops.toList.zipIdx.all fun q => q.1.after.toList.all (fun e => !Region.binds .any e || decide (e.on < q.2)) && maskOk ks q.2 q.1) = true ∧ ks.length = ops.size ∧ pairsOk ks fs = true then some fs else none
def compC (P : Program) (ntm : Nat) : Code → Option MCode
  | .skip => some .skip
  | .region _ ops draw => if draw = true then (match compD P ntm ops with | some l => some (.opsD l) | none => none) else (match compOpers P ntm ops ops.toList with | some l => some (.ops l) | none => none)
  | .seq a b => match compC P ntm a, compC P ntm b with | some a, some b => some (.seq a b) | _, _ => none
  | .cond c a b => if opdOk c = true then (match compC P ntm a, compC P ntm b with | some a, some b => some (.cond c a b) | _, _ => none) else none
  | .block id a => match compC P ntm a with | some a => some (.block id a) | none => none
  | .loop a => match compC P ntm a with | some a => some (.loop a) | none => none
  | .exit id => some (.exit id)
  | .ret => some .ret
  | .refuse _ => some (.ops [⟨none, none, false, .mkMap⟩])
  | _ => none
def compRes (P : Program) : ResultVar → Option MRes
  | .tmp t => some (.tmp t)
  | .cell a t => match P.underlying t, P.info? t with
    | some d, some i => if isAggT d = true then some (.cell a true i.size) else some (.cell a false 1)
    | _, _ => none
def compRs (P : Program) : List ResultVar → Option (List MRes)
  | [] => some []
  | r :: l => match compRes P r, compRs P l with
    | some m, some ms => some (m :: ms)
    | _, _ => none
def compFn (P : Program) (fn : Func) : Option MFun :=
  if fn.name = "runtime.NumGoroutine" then none else
  match fn.body with
  | none => none
  | some b => match compC P fn.ntmps b, compRs P fn.results.toList with
    | some c, some rs => some ⟨c, rs⟩
    | _, _ => none

/-! ### What holds between the two -/
structure Rel (N ntm : Nat) (c : CMap) (f : Fr) (H : AH) (a : Act) (w : World) : Prop where
  sim : Sim N c H w
  size : ntm ≤ a.tmps.size
  tmps : ∀ t, VR H.next c (f t) (a.tmps.getD t Go.undef)
  defers : a.defers = []
theorem Rel.ops {N ntm : Nat} {c : CMap} {f : Fr} {H : AH} {a : Act} {w : World} (h : Rel N ntm c f H a w) (x : Operand) (hx : opdOk x = true) : VR H.next c (ev f x) (a.eval x) := by
  cases x with
  | tmp t => exact h.tmps t
  | const v => exact .of3 hx
  | «global» g => simp [opdOk] at hx
  | func g => exact .of3 rfl
theorem Rel.put {N ntm : Nat} {c c' : CMap} {f : Fr} {H H' : AH} {a : Act} {w w' : World} (h : Rel N ntm c f H a w) (hs : Sim N c' H' w') (hx : ExtW N c H w c' H' w') {v v' : Value} (hv : VR H'.next c' v v') {d : Option Tmp} (hd : dstOk ntm d = true) : Rel N ntm c' (AM.put f d v) H' (a.put d v') w' := by
  have keep : ∀ t, VR H'.next c' (f t) (a.tmps.getD t Go.undef) := fun t => (h.tmps t).mono hx.nx hx.dom
  cases d with
  | none => exact ⟨hs, h.size, keep, h.defers⟩
  | some d =>
    have hlt : d < a.tmps.size := Nat.lt_of_lt_of_le (by simpa [dstOk] using hd) h.size
    refine ⟨hs, by simpa [Act.put] using h.size, fun t => ?_, h.defers⟩
    simp only [AM.put, upd, Act.put]
    by_cases ht : t = d
    · subst ht; rw [if_pos rfl]; simpa [hlt] using hv
    · rw [if_neg ht]
      have := keep t
      simpa [Array.getElem?_setIfInBounds_ne (Ne.symm ht)] using this

/-! ### Calls -/
/-- What a call is to do. -/
def CallR (P : Program) (N : Nat) (c : CMap) (H : AH) (w : World) (n : FuncId) (args : Array Value) (v : Value) (H' : AH) : Prop :=
  let R : Value → World → Prop := fun v' w' => ∃ c', VR H'.next c' v v' ∧ Sim N c' H' w' ∧ ExtW N c H w c' H' w'
  (∃ v' w', (callFunc n args).run P w = .ok (.value v') w' ∧ R v' w') ∨
  ((callFunc n args).run P w = .ok (.enter n args) w ∧ Calls P n args w fun | .returned v', w' => R v' w' | _, _ => False)
def CallOk (P : Program) (N : Nat) (call : CallH) : Prop :=
  CallExt call ∧ ∀ n vs H v H', call n vs H = some (v, H') → ∀ c w args, Sim N c H w → VRL H.next c vs args.toList → CallR P N c H w n args v H'

section
variable {P : Program} {N ntm : Nat} {call : CallH}

theorem Sim.low {c : CMap} {H : AH} {w : World} {k : Nat} (h : Sim N c H w) : Sim N c { H with low := k } w := ⟨h.live, h.blk, h.inj, h.size⟩
/-- What one operation, that is wanted, does. -/
theorem oper_ok (hcall : ∀ N, CallOk P N call) {c : CMap} {f : Fr} {H : AH} {a : Act} {w : World} (hr : Rel N ntm c f H a w) {o : Oper} {m0 m : MI}
    (hm0 : m0 = if o.op.operands.toList.all opdOk = true then (compOp P o).getD .mkMap else .mkMap) (hm : m = m0 ∨ (∃ p q g xs, m0 = .call p g xs ∧ m = .call q g xs) ∨ (∃ n b x far, m0 = .store n b x ∧ m = .storeX n b x far) ∨ ∃ p g xs, m0 = .call p g xs ∧ m = .callL g xs)
    {v : Value} {H' : AH} (he : evOp call m f H = some (v, H')) {K : Act → World → Prop} {Q : Exit → Act → World → Prop}
    (hK : ∀ v' c' w', VR H'.next c' v v' → Sim N c' H' w' → ExtW N c H w c' H' w' → K (a.put o.dst v') w') : o.wp P a w K Q := by
  have hkey : ∃ m', (m' = m0 ∨ (∃ p q g xs, m0 = .call p g xs ∧ m' = .call q g xs) ∨ ∃ p g xs, m0 = .call p g xs ∧ m' = .callL g xs) ∧ evOp call m' f H = some (v, H') := by
    rcases hm with h | h | ⟨n, b, x, far, h1, h2⟩ | h
    · exact ⟨m, .inl h, he⟩
    · exact ⟨m, .inr (.inl h), he⟩
    · refine ⟨m0, .inl rfl, ?_⟩
      rw [h2, evOp_evM rfl] at he
      rw [h1, evOp_evM rfl]
      simp only [evM] at he ⊢
      split at he
      · split at he
        · exact he
        · simp at he
      · simp at he
    · exact ⟨m, .inr (.inr h), he⟩
  clear hm he m
  obtain ⟨m, hm, he⟩ := hkey
  have notBad : m0 ≠ .mkMap := fun e => by
    rcases hm with h | ⟨p, q, g, xs, h1, h2⟩ | ⟨p, g, xs, h1, h2⟩
    · rw [h, e] at he; simp [evOp, evM] at he
    · rw [e] at h1; simp at h1
    · rw [e] at h1; simp at h1
  have hops : o.op.operands.toList.all opdOk = true := by
    by_cases h : o.op.operands.toList.all opdOk = true
    · exact h
    · rw [if_neg h] at hm0; exact absurd hm0 notBad
  rw [if_pos hops] at hm0
  have hcomp : compOp P o = some m0 := by
    cases hc : compOp P o with
    | none => rw [hc] at hm0; exact absurd hm0 notBad
    | some x => rw [hc] at hm0; simp at hm0; rw [hm0]
  cases hi : m0.isCall with
  | false =>
    have hmm : m = m0 := by
      rcases hm with h | ⟨p, q, g, xs, h1, _⟩ | ⟨p, g, xs, h1, _⟩
      · exact h
      · rw [h1] at hi; simp [MI.isCall] at hi
      · rw [h1] at hi; simp [MI.isCall] at hi
    subst hmm
    rw [evOp_evM hi] at he
    obtain ⟨nx, v', c', w', h1, h2, h3, h4, h5⟩ := op_ok hr.sim hr.ops hcomp hops (fun p g xs e => by rw [e] at hi; simp [MI.isCall] at hi) he
    rcases h2 with rfl | ⟨rfl, rfl⟩
    · simp only [Oper.wp, h1, Oper.upon]; exact hK _ _ _ h3 h4 h5
    · simp only [Oper.wp, h1, Oper.upon]; exact hK _ _ _ h3 h4 h5
  | true =>
    cases m0 <;> simp only [MI.isCall, Bool.false_eq_true] at hi
    case callL g xs =>
      exfalso
      unfold compOp at hcomp
      split at hcomp <;> (try (simp only [Option.some.injEq, reduceCtorEq] at hcomp; done)) <;> (try ((repeat' split at hcomp) <;> (try (simp only [Option.some.injEq, reduceCtorEq] at hcomp; done))))
      all_goals (unfold compBuiltin at hcomp; (repeat' split at hcomp) <;> simp only [Option.some.injEq, reduceCtorEq] at hcomp)
    rename_i p0 g xs
    have hmq : (∃ q, m = .call q g xs) ∨ m = .callL g xs := by
      rcases hm with h | ⟨p, q, g', xs', h1, h2⟩ | ⟨p, g', xs', h1, h2⟩
      · exact .inl ⟨_, h⟩
      · simp only [MI.call.injEq] at h1; obtain ⟨_, rfl, rfl⟩ := h1; exact .inl ⟨q, h2⟩
      · simp only [MI.call.injEq] at h1; obtain ⟨_, rfl, rfl⟩ := h1; exact .inr h2
    obtain ⟨cl, hop, hcal, hxs⟩ : ∃ cl, o.op = .call cl ∧ cl.callee = .value g ∧ cl.args.toList = xs := by
      unfold compOp at hcomp
      split at hcomp <;> (try (simp only [Option.some.injEq, reduceCtorEq] at hcomp; done)) <;> (try ((repeat' split at hcomp) <;> (try (simp only [Option.some.injEq, reduceCtorEq] at hcomp; done))))
      all_goals first
        | (rename_i cl hop _ b hcal
           exfalso
           unfold compBuiltin at hcomp
           (repeat' split at hcomp) <;> simp only [Option.some.injEq, reduceCtorEq] at hcomp)
        | (rename_i cl hop _ g' hcal
           simp only [Option.some.injEq, MI.call.injEq] at hcomp
           obtain ⟨_, rfl, rfl⟩ := hcomp
           exact ⟨cl, hop, hcal, rfl⟩)
    subst hxs
    rw [hop] at hops
    have hg := hr.ops g (all_ops hops (by simp [Op.operands, Call.operands, hcal]))
    have hargs : VRL H.next c (cl.args.toList.map (ev f)) (cl.args.toList.map a.eval) := VRL.map _ fun x hx => hr.ops x (all_ops hops (by simp only [Op.operands, Call.operands, Array.toList_append, List.mem_append]; exact .inr hx))
    rcases hmq with ⟨q, rfl⟩ | rfl
    case inr =>
      simp only [evOp] at he
      unfold callee at he
      cases hf : ev f g with
      | func fn first captured =>
        rw [hf] at hg
        cases fn with
        | func n =>
          rw [hf] at he
          simp only at he
          obtain ⟨f', b', e1, e2, e3⟩ := hg.funcI
          have hall : VRL H.next c (first.toList ++ cl.args.toList.map (ev f) ++ captured.toList) ((f' ++ cl.args.map a.eval) ++ b').toList := by
            simp only [Array.toList_append, Array.toList_map]
            exact (e2.append hargs).append e3
          have hexec : execOp a.eval o = callFunc n ((f' ++ cl.args.map a.eval) ++ b') := by
            simp [execOp, hop, resolve, hcal, e1, Deferred.ofValue, invoke]
          split at he
          case isFalse => simp at he
          rename_i hp
          split at he
          case h_2 => simp at he
          rename_i v1 H2 h2
          split at he
          case isFalse => simp at he
          rename_i h3
          simp only [Option.some.injEq, Prod.mk.injEq] at he
          obtain ⟨rfl, rfl⟩ := he
          have heq := hall.eq1 hp
          have := (hcall w.heap.size).2 _ _ _ _ _ h2 (fun _ => none) w ((f' ++ cl.args.map a.eval) ++ b') (sim_lone w) (by rw [heq]; exact .refl hp)
          have conv : ∀ v' w', (∃ c', VR H2.next c' v1 v' ∧ Sim w.heap.size c' H2 w' ∧ ExtW w.heap.size (fun _ => none) AH.lone w c' H2 w') → K (a.put o.dst v') w' := fun v' w' ⟨c', k1, k2, k3⟩ => by
            rw [k1.eq3 h3]
            obtain ⟨s1, s2⟩ := hr.sim.under k3.below
            exact hK _ _ _ (.of3 h3) s1 s2
          rcases this with ⟨v', w', k1, k2⟩ | ⟨k1, k2⟩
          · simp only [Oper.wp, hexec, k1, Oper.upon]
            exact conv _ _ k2
          · simp only [Oper.wp, hexec, k1, Oper.upon]
            refine k2.mono fun e w' he => ?_
            cases e with
            | returned v' => exact conv _ _ he
            | panicked ch => exact he.elim
            | outgrown => exact he.elim
        | _ => rw [hf] at he; simp at he
      | _ => rw [hf] at he; simp at he
    simp only [evOp] at he
    unfold callee at he
    cases hf : ev f g with
    | func fn first captured =>
      rw [hf] at hg
      cases fn with
      | func n =>
        rw [hf] at he
        simp only at he
        obtain ⟨f', b', e1, e2, e3⟩ := hg.funcI
        have hall : VRL H.next c (first.toList ++ cl.args.toList.map (ev f) ++ captured.toList) ((f' ++ cl.args.map a.eval) ++ b').toList := by
          simp only [Array.toList_append, Array.toList_map]
          exact (e2.append hargs).append e3
        have hexec : execOp a.eval o = callFunc n ((f' ++ cl.args.map a.eval) ++ b') := by
          simp [execOp, hop, resolve, hcal, e1, Deferred.ofValue, invoke]
        obtain ⟨H2, hc2, hsim2, hx2⟩ : ∃ H2, (CallR P N c H w n ((f' ++ cl.args.map a.eval) ++ b') v H2) ∧ (∀ c' w', Sim N c' H2 w' → Sim N c' H' w') ∧ (H2.next = H'.next ∧ ∀ c' w', ExtW N c H w c' H2 w' → ExtW N c H w c' H' w') := by
          split at he
          · split at he
            · rename_i v1 H1 h1
              split at he
              · rename_i hl
                simp only [Option.some.injEq, Prod.mk.injEq] at he
                obtain ⟨rfl, rfl⟩ := he
                have := (hcall N).2 _ _ _ _ _ h1 c w _ (Sim.low (k := H.next) hr.sim) hall
                refine ⟨{ H1 with low := H.low }, ?_, fun c' w' h => h, rfl, fun _ _ h => h⟩
                have conv : ∀ v' w', (∃ c', VR H1.next c' v1 v' ∧ Sim N c' H1 w' ∧ ExtW N c H.enter w c' H1 w') → ∃ c', VR H1.next c' v1 v' ∧ Sim N c' { H1 with low := H.low } w' ∧ ExtW N c H w c' { H1 with low := H.low } w' := fun v' w' ⟨c', k1, k2, k3⟩ =>
                  ⟨c', k1, k2.low, ⟨k3.nx, k3.dom, Nat.le_refl _, fun id hid _ => k3.same id hid (by rw [hl]; exact hid), k3.below⟩⟩
                rcases this with ⟨v', w', k1, k2⟩ | ⟨k1, k2⟩
                · exact .inl ⟨v', w', k1, conv _ _ k2⟩
                · exact .inr ⟨k1, k2.mono fun e w' he => by cases e <;> first | exact conv _ _ he | exact he⟩
              · simp at he
            · simp at he
          · exact ⟨H', (hcall N).2 _ _ _ _ _ he c w _ hr.sim hall, fun _ _ h => h, rfl, fun _ _ h => h⟩
        rcases hc2 with ⟨v', w', k1, c', k2, k3, k4⟩ | ⟨k1, k2⟩
        · simp only [Oper.wp, hexec, k1, Oper.upon]
          exact hK _ _ _ (hx2.1 ▸ k2) (hsim2 _ _ k3) (hx2.2 _ _ k4)
        · simp only [Oper.wp, hexec, k1, Oper.upon]
          refine k2.mono fun e w' he => ?_
          cases e with
          | returned v' =>
            obtain ⟨c', k2, k3, k4⟩ := he
            exact hK _ _ _ (hx2.1 ▸ k2) (hsim2 _ _ k3) (hx2.2 _ _ k4)
          | panicked ch => exact he.elim
          | outgrown => exact he.elim
      | _ => rw [hf] at he; simp at he
    | _ => rw [hf] at he; simp at he

/-- A compiled operation that fits an operation. -/
def Fits (P : Program) (ntm : Nat) (ops : Array Oper) (o : Oper) (m : MOp) : Prop :=
  ∃ m0, compOper P ntm ops o = some m0 ∧ m.dst = m0.dst ∧ m.guard = m0.guard ∧ (m.op = m0.op ∨ (∃ p q g xs, m0.op = .call p g xs ∧ m.op = .call q g xs) ∨ (∃ n b x far, m0.op = .store n b x ∧ m.op = .storeX n b x far) ∨ ∃ p g xs, m0.op = .call p g xs ∧ m.op = .callL g xs)
theorem Fits.of {ops : Array Oper} {o : Oper} {m : MOp} (h : compOper P ntm ops o = some m) : Fits P ntm ops o m := ⟨m, h, rfl, rfl, .inl rfl⟩
theorem oper_step (hcall : ∀ N, CallOk P N call) {c : CMap} {f : Fr} {H : AH} {a : Act} {w : World} (hr : Rel N ntm c f H a w) {ops : Array Oper} {o : Oper} {m : MOp} (hm : Fits P ntm ops o m) {bs : Nat}
    {f' : Fr} {H' : AH} (he : evMOp call bs m f H = some (f', H')) {K : Act → World → Prop} {Q : Exit → Act → World → Prop}
    (hK : ∀ a' c' w', Rel N ntm c' f' H' a' w' → ExtW N c H w c' H' w' → K a' w') :
    if Region.wanted o (yielded ops a.tmps) = true then o.wp P a w K Q else K (a.put o.dst Go.undef) w := by
  obtain ⟨m0, h0, hd, hg, hop⟩ := hm
  unfold compOper at h0
  split at h0
  case isFalse => simp at h0
  rename_i hlt
  unfold evMOp at he
  split at he
  case h_2 => simp at he
  rename_i v H1 hv
  simp only [Option.some.injEq, Prod.mk.injEq] at he
  obtain ⟨rfl, rfl⟩ := he
  have fin : ∀ v' c' w', VR H1.next c' v v' → Sim N c' H1 w' → ExtW N c H w c' H1 w' → m.dst = o.dst → K (a.put o.dst v') w' := fun v' c' w' k1 k2 k3 e =>
    hK _ c' w' (by rw [e]; exact hr.put k2 k3 k1 hlt) k3
  unfold evV at hv
  cases hog : o.guard with
  | none =>
    simp only [hog, Option.some.injEq] at h0
    subst h0
    simp only at hg hd hop
    rw [hg] at hv
    simp only at hv
    have hw : Region.wanted o (yielded ops a.tmps) = true := by simp [Region.wanted, hog]
    rw [if_pos hw]
    exact oper_ok hcall hr rfl hop (evG_evOp hv) fun v' c' w' k1 k2 k3 => fin v' c' w' k1 k2 k3 hd
  | some jw =>
    obtain ⟨j, want⟩ := jw
    simp only [hog] at h0
    split at h0
    case h_2 => simp at h0
    rename_i t ht
    simp only [Option.some.injEq] at h0
    subst h0
    simp only at hg hd hop
    rw [hg] at hv
    simp only at hv
    split at hv
    case h_3 => simp at hv
    case h_2 =>
      rename_i vs hb
      have ht' := hr.tmps t
      rw [hb] at ht'
      obtain ⟨vs', e1, _⟩ := VRL.of_tuple ht'
      have hy : yielded ops a.tmps j = none := by
        unfold yielded
        rw [ht]
        simp only [Option.bind_some]
        rw [Array.getD_eq_getD_getElem?] at e1
        cases hq : a.tmps[t]? with
        | none => rfl
        | some q =>
          rw [hq] at e1
          simp only [Option.getD_some] at e1
          rw [e1]
      have hw : Region.wanted o (yielded ops a.tmps) = false := by
        simp only [Region.wanted, hog, hy]
        rfl
      rw [hw, if_neg (by simp)]
      simp only [Option.some.injEq, Prod.mk.injEq] at hv
      obtain ⟨rfl, rfl⟩ := hv
      exact fin _ c w .undef hr.sim (.refl _ _ _ _) hd
    rename_i b hb
    have ht' := hr.tmps t
    rw [hb] at ht'
    have ht2 : a.tmps.getD t Go.undef = .bool b := ht'.bool
    have hy : yielded ops a.tmps j = some b := by
      unfold yielded
      rw [ht]
      simp only [Option.bind_some]
      have : a.tmps[t]? = some (.bool b) := by
        cases hq : a.tmps[t]? with
        | none => rw [Array.getD_eq_getD_getElem?, hq] at ht2; simp [Go.undef] at ht2
        | some q => rw [Array.getD_eq_getD_getElem?, hq] at ht2; simp at ht2; rw [ht2]
      rw [this]
    have hw : Region.wanted o (yielded ops a.tmps) = decide (b = want) := by
      simp only [Region.wanted, hog, hy]
      cases b <;> cases want <;> rfl
    rw [hw]
    split at hv
    · rename_i hbw
      rw [if_pos (by simp [hbw])]
      exact oper_ok hcall hr rfl hop (evG_evOp hv) fun v' c' w' k1 k2 k3 => fin v' c' w' k1 k2 k3 hd
    · rename_i hbw
      rw [if_neg (by simp [hbw])]
      simp only [Option.some.injEq, Prod.mk.injEq] at hv
      obtain ⟨rfl, rfl⟩ := hv
      exact fin _ c w .undef hr.sim (.refl _ _ _ _) hd

theorem compOpers_spec {ops : Array Oper} : ∀ {l : List Oper} {ms : List MOp}, compOpers P ntm ops l = some ms → ms.length = l.length ∧ ∀ (i : Nat) (o : Oper), l[i]? = some o → ∃ m, ms[i]? = some m ∧ compOper P ntm ops o = some m := by
  intro l
  induction l with
  | nil => intro ms h; simp only [compOpers, Option.some.injEq] at h; subst h; exact ⟨rfl, fun i o h => by simp at h⟩
  | cons x l ih =>
    intro ms h
    simp only [compOpers] at h
    split at h
    · rename_i m ms' h1 h2
      simp only [Option.some.injEq] at h
      subst h
      obtain ⟨e1, e2⟩ := ih h2
      refine ⟨by simp [e1], fun i o ho => ?_⟩
      cases i with
      | zero => simp at ho; subst ho; exact ⟨m, by simp, h1⟩
      | succ i => simp at ho; obtain ⟨m', k1, k2⟩ := e2 i o ho; exact ⟨m', by simpa using k1, k2⟩
    · simp at h

/-- A region in the given order. -/
theorem region_ok (hcall : ∀ N, CallOk P N call) {ops : Array Oper} {bs : Nat} {Q : Exit → Act → World → Prop} : ∀ (l : List Nat) (ms : List MOp), l.length = ms.length → (∀ (i : Nat) (h : i < l.length), ∃ o m, ops[l[i]]? = some o ∧ ms[i]? = some m ∧ Fits P ntm ops o m) →
    ∀ {c : CMap} {f : Fr} {H : AH} {a : Act} {w : World}, Rel N ntm c f H a w → ∀ {f' : Fr} {H' : AH}, evOps call bs ms f H = some (f', H') →
    (∀ a' c' w', Rel N ntm c' f' H' a' w' → ExtW N c H w c' H' w' → Q .normal a' w') → wpOps P ops Q l a w := by
  intro l
  induction l with
  | nil =>
    intro ms hl hf c f H a w hr f' H' he hQ
    have : ms = [] := List.eq_nil_of_length_eq_zero hl.symm
    subst this
    simp only [evOps, Option.some.injEq, Prod.mk.injEq] at he
    obtain ⟨rfl, rfl⟩ := he
    exact hQ _ _ _ hr (.refl _ _ _ _)
  | cons i l ih =>
    intro ms hl hf c f H a w hr f' H' he hQ
    cases ms with
    | nil => simp at hl
    | cons m ms =>
      obtain ⟨o, m', ho, hm', hfit⟩ := hf 0 (by simp)
      simp only [List.getElem_cons_zero] at ho
      simp at hm'
      subst hm'
      simp only [evOps] at he
      split at he
      case h_2 => simp at he
      rename_i f1 H1 h1
      have := oper_step (Q := Q) hcall hr hfit h1 (K := wpOps P ops Q l) fun a' c' w' k1 k2 => ih ms (by simpa using hl) (fun j hj => by
        obtain ⟨o', m2, e1, e2, e3⟩ := hf (j + 1) (by simpa using hj)
        exact ⟨o', m2, by simpa using e1, by simpa using e2, e3⟩) k1 he fun a2 c2 w2 j1 j2 => hQ _ _ _ j1 (k2.trans j2)
      simp only [wpOps, ho]
      split
      · rename_i hw; rw [if_pos hw] at this; exact .inl this
      · rename_i hw; rw [if_neg hw] at this; exact this

/-! ### A region of open order -/
theorem mask_closed {ops : Array Oper} {ks : List Nat} (hk : ∀ i o, ops[i]? = some o → maskOk ks i o = true) (hlen : ks.length = ops.size) {listed : Array Bool}
    (hcl : ∀ i o, ops[i]? = some o → listed.getD i true = true → ∀ e ∈ o.after, Region.binds .any e = true → listed.getD e.on false = true) : ∀ (n i : Nat) (o : Oper), i < n → ops[i]? = some o → (∀ e ∈ o.after, Region.binds .any e = true → listed.getD e.on false = true) → ∀ j, j < ops.size → (ks.getD i 0).testBit j = true → listed.getD j false = true := by
  intro n
  induction n with
  | zero => intro i o h; omega
  | succ n ih =>
    intro i o hi ho hready j hj hb
    have := hk i o ho
    unfold maskOk at this
    rw [List.all_eq_true] at this
    have := this j (by rw [List.mem_range]; omega)
    simp only [hb, Bool.not_true, Bool.false_or, List.any_eq_true, Bool.and_eq_true, Bool.or_eq_true, beq_iff_eq, decide_eq_true_eq] at this
    obtain ⟨e, he, hbd, h⟩ := this
    have hl := hready e (by simpa using he) hbd
    rcases h with rfl | ⟨hlt, hbj⟩
    · exact hl
    · have hon : e.on < ops.size := by
        have := (Array.getElem?_eq_some_iff.1 ho).1
        omega
      exact ih e.on ops[e.on] (by omega) (Array.getElem?_eq_getElem hon) (hcl e.on _ (Array.getElem?_eq_getElem hon) (by
        rw [Array.getD_eq_getD_getElem?] at hl ⊢
        cases hq : listed[e.on]? with
        | none => rw [hq] at hl; simp at hl
        | some b => rw [hq] at hl; simpa using hl)) j hj hbj
end
end Go.Proofs.Ytildhljhbbhmmaa.AM
/- Regions of open order, loops, bodies: what the abstract machine computes is what the program does. -/
namespace Go.Proofs.Ytildhljhbbhmmaa.AM
open Go Go.RowKit
set_option linter.all false
section
variable {P : Program} {N ntm : Nat} {call : CallH}

def dflt : MOp := ⟨none, none, false, .mkMap⟩
def todo (n : Nat) (listed : Array Bool) : List Nat := (List.range n).filter fun i => !listed.getD i true
theorem todo_sorted (n : Nat) (listed : Array Bool) : (todo n listed).Pairwise (· < ·) := List.Pairwise.filter _ List.pairwise_lt_range
theorem mem_todo {n : Nat} {listed : Array Bool} {i : Nat} : i ∈ todo n listed ↔ i < n ∧ listed.getD i true = false := by
  simp [todo]
theorem todo_split {n : Nat} {listed : Array Bool} {i : Nat} (hi : i ∈ todo n listed) : ∃ pre post, todo n listed = pre ++ i :: post ∧ todo n (listed.setIfInBounds i true) = pre ++ post ∧ ∀ j ∈ pre, j < i ∧ j ∈ todo n listed := by
  obtain ⟨pre, post, h⟩ := List.append_of_mem hi
  have hs := todo_sorted n listed
  rw [h, List.pairwise_append] at hs
  obtain ⟨_, h2, h3⟩ := hs
  rw [List.pairwise_cons] at h2
  have hlt : i < listed.size := by
    have := (mem_todo.1 hi).2
    rcases Nat.lt_or_ge i listed.size with h' | h'
    · exact h'
    · simp [Array.getElem?_eq_none h'] at this
  have he : todo n (listed.setIfInBounds i true) = (todo n listed).filter fun j => j != i := by
    unfold todo
    rw [List.filter_filter]
    refine List.filter_congr fun j _ => ?_
    by_cases hj : j = i
    · subst hj; simp [hlt]
    · rw [getD_set_ne true (Ne.symm hj)]; simp [hj]
  refine ⟨pre, post, h, ?_, fun j hj => ⟨h3 j hj i (by simp), by rw [h]; simp [hj]⟩⟩
  rw [he, h, List.filter_append, List.filter_cons_of_neg (by simp)]
  congr 1
  · refine List.filter_eq_self.2 fun j hj => ?_
    have := h3 j hj i (by simp)
    simp; omega
  · refine List.filter_eq_self.2 fun j hj => ?_
    have := h2.1 j hj
    simp; omega

/-- What is checked of a region of open order. -/
structure Open (P : Program) (ntm : Nat) (ops : Array Oper) (ks : List Nat) (ms : List MOp) : Prop where
  fits : ∀ (i : Nat) (o : Oper), ops[i]? = some o → ∃ m, ms[i]? = some m ∧ Fits P ntm ops o m
  edges : ∀ (i : Nat) (o : Oper), ops[i]? = some o → ∀ e ∈ o.after, Region.binds .any e = true → e.on < i
  mask : ∀ (i : Nat) (o : Oper), ops[i]? = some o → maskOk ks i o = true
  klen : ks.length = ops.size
  pairs : ∀ (i j : Nat) (x y : MOp), ms[i]? = some x → ms[j]? = some y → i < j → (ks.getD j 0).testBit i = true ∨ pairOk x y = true

theorem regionD_ok (hcall : ∀ N, CallOk P N call) {ops : Array Oper} {ks : List Nat} {ms : List MOp} (ho : Open P ntm ops ks ms) {bs : Nat} {Q : Exit → Act → World → Prop} : ∀ (fuel : Nat) (listed : Array Bool), listed.size = ops.size → (todo ops.size listed).length ≤ fuel →
    (∀ (i : Nat) (o : Oper), ops[i]? = some o → listed.getD i true = true → ∀ e ∈ o.after, Region.binds .any e = true → listed.getD e.on false = true) →
    ∀ {c : CMap} {f : Fr} {H : AH} {a : Act} {w : World}, Rel N ntm c f H a w → bs ≤ H.next → ∀ {f' : Fr} {H' : AH}, evOps call bs ((todo ops.size listed).map fun i => ms.getD i dflt) f H = some (f', H') →
    (∀ a' c' w', Rel N ntm c' f' H' a' w' → ExtW N c H w c' H' w' → Q .normal a' w') → wpAny P .any ops Q fuel listed a w := by
  intro fuel
  have fin : ∀ (listed : Array Bool), todo ops.size listed = [] → ∀ {c : CMap} {f : Fr} {H : AH} {a : Act} {w : World}, Rel N ntm c f H a w → ∀ {f' : Fr} {H' : AH}, evOps call bs ((todo ops.size listed).map fun i => ms.getD i dflt) f H = some (f', H') → (∀ a' c' w', Rel N ntm c' f' H' a' w' → ExtW N c H w c' H' w' → Q .normal a' w') → Q .normal a w := by
    intro listed ht c f H a w hr f' H' he hQ
    rw [ht] at he
    simp only [List.map_nil, evOps, Option.some.injEq, Prod.mk.injEq] at he
    obtain ⟨rfl, rfl⟩ := he
    exact hQ _ _ _ hr (.refl _ _ _ _)
  have sub : ∀ (listed : Array Bool) i, i ∈ Region.ready .any ops listed → i ∈ todo ops.size listed := fun listed i hi => by
    obtain ⟨h1, o, h2, _⟩ := mem_ready.1 hi
    exact mem_todo.2 ⟨(Array.getElem?_eq_some_iff.1 h2).1, h1⟩
  induction fuel with
  | zero =>
    intro listed hsz hlen hcl c f H a w hr hb f' H' he hQ
    have ht : todo ops.size listed = [] := List.eq_nil_of_length_eq_zero (by omega)
    refine ⟨?_, fin listed ht hr he hQ⟩
    cases hrd : Region.ready .any ops listed with
    | nil => rfl
    | cons i r =>
      have := sub listed i (by rw [hrd]; simp)
      rw [ht] at this
      simp at this
  | succ fuel ih =>
    intro listed hsz hlen hcl c f H a w hr hb f' H' he hQ
    refine ⟨fun hnil => ?_, fun i hi => ?_⟩
    · refine fin listed ?_ hr he hQ
      cases ht : todo ops.size listed with
      | nil => rfl
      | cons i post =>
        exfalso
        have hi : i ∈ todo ops.size listed := by rw [ht]; simp
        obtain ⟨hin, hun⟩ := mem_todo.1 hi
        have hs := todo_sorted ops.size listed
        rw [ht, List.pairwise_cons] at hs
        have : i ∈ Region.ready .any ops listed := mem_ready.2 ⟨hun, ops[i], Array.getElem?_eq_getElem hin, fun e hem hbd => by
          have hlt := ho.edges i _ (Array.getElem?_eq_getElem hin) e hem hbd
          have hnot : e.on ∉ todo ops.size listed := by
            rw [ht]
            intro hm
            rcases List.mem_cons.1 hm with h | h
            · omega
            · have := hs.1 _ h; omega
          rw [mem_todo] at hnot
          have h3 : ¬ listed.getD e.on true = false := fun h => hnot ⟨by omega, h⟩
          have hlt2 : e.on < listed.size := by omega
          simp [hlt2] at h3 ⊢
          exact h3⟩
        rw [hnil] at this
        simp at this
    · obtain ⟨pre, post, e1, e2, e3⟩ := todo_split (sub listed i hi)
      obtain ⟨hun, o, hio, hready⟩ := mem_ready.1 hi
      obtain ⟨m, hm, hfit⟩ := ho.fits i o hio
      rw [e1, List.map_append, List.map_cons] at he
      have hmi : ms.getD i dflt = m := by rw [List.getD_eq_getElem?_getD, hm]; rfl
      rw [hmi] at he
      obtain ⟨f1, H1, h1, h2⟩ := evOps_bubble (hcall 0).1 _ f H (fun x hx => by
        obtain ⟨j, hj, rfl⟩ := List.mem_map.1 hx
        obtain ⟨hlt, hjt⟩ := e3 j hj
        obtain ⟨hjn, hju⟩ := mem_todo.1 hjt
        obtain ⟨mj, hmj, _⟩ := ho.fits j ops[j] (Array.getElem?_eq_getElem hjn)
        have hmj' : ms.getD j dflt = mj := by rw [List.getD_eq_getElem?_getD, hmj]; rfl
        rw [hmj']
        refine (ho.pairs j i mj m hmj hm hlt).resolve_left fun hbit => ?_
        have := mask_closed ho.mask ho.klen hcl _ i o (Nat.lt_succ_self _) hio hready j hjn hbit
        have hlt2 : j < listed.size := by omega
        simp [hlt2] at this hju
        rw [this] at hju
        simp at hju) hb he
      have hstep := oper_step (Q := Q) hcall hr hfit h1 (K := wpAny P .any ops Q fuel (listed.setIfInBounds i true)) fun a' c' w' k1 k2 => by
        refine ih (listed.setIfInBounds i true) (by simpa using hsz) (by
          rw [e2]
          rw [e1] at hlen
          simp at hlen ⊢
          omega) ?_ k1 (Nat.le_trans hb k2.nx) (by rw [e2, List.map_append]; exact h2) fun a2 c2 w2 j1 j2 => hQ _ _ _ j1 (k2.trans j2)
        intro j oj hj hl e hem hbd
        refine getD_set_true ?_
        by_cases hji : j = i
        · subst hji
          rw [hio] at hj
          obtain rfl := Option.some.inj hj
          exact hready e hem hbd
        · rw [getD_set_ne true (Ne.symm hji)] at hl
          exact hcl j oj hj hl e hem hbd
      unfold wpOp
      simp only [hio]
      split
      · rename_i hw; rw [if_pos hw] at hstep; exact .inl hstep
      · rename_i hw; rw [if_neg hw] at hstep; exact hstep

theorem loneOp_fits {ops : Array Oper} {o : Oper} {m : MOp} {ks : List Nat} {ms : List MOp} {i : Nat} (h : compOper P ntm ops o = some m) : loneOp ks ms i m = m ∨ ∃ p g xs, m.op = .call p g xs ∧ loneOp ks ms i m = { m with op := .callL g xs } := by
  unfold loneOp
  split
  · rename_i p g a hop
    split
    · exact .inr ⟨p, g, a, hop, rfl⟩
    · exact .inl rfl
  · exact .inl rfl
theorem flagOp_fits {ops : Array Oper} {o : Oper} {m m1 : MOp} {ks : List Nat} {ms : List MOp} {i : Nat} (h : compOper P ntm ops o = some m) (h1 : m1 = m ∨ ∃ p g xs, m.op = .call p g xs ∧ m1 = { m with op := .callL g xs }) : Fits P ntm ops o (flagOp ks ms i m1) := by
  rcases h1 with rfl | ⟨p, g, xs, hop, rfl⟩
  · unfold flagOp
    split
    · rename_i p g a hop
      exact ⟨m1, h, rfl, rfl, .inr (.inl ⟨_, _, _, _, hop, rfl⟩)⟩
    · rename_i n a x hop
      simp only
      split
      · exact .of h
      · exact ⟨m1, h, rfl, rfl, .inr (.inr (.inl ⟨_, _, _, _, hop, rfl⟩))⟩
    · split
      · exact ⟨m1, h, rfl, rfl, .inl rfl⟩
      · exact .of h
  · have : flagOp ks ms i { m with op := .callL g xs } = { m with op := .callL g xs } := by
      unfold flagOp
      simp [MI.cls]
    rw [this]
    exact ⟨m, h, rfl, rfl, .inr (.inr (.inr ⟨_, _, _, hop, rfl⟩))⟩
theorem compD_open {ops : Array Oper} {fs : List MOp} (h : compD P ntm ops = some fs) : fs.length = ops.size ∧ ∃ ks, Open P ntm ops ks fs := by
  unfold compD at h
  split at h
  case h_1 => simp at h
  rename_i ms hms
  obtain ⟨e1, e2⟩ := compOpers_spec hms
  simp only at h
  split at h
  case isFalse => simp at h
  rename_i hc
  obtain ⟨h1, h2, h3⟩ := hc
  simp only [Option.some.injEq] at h
  have hfl : fs.length = ops.size := by rw [← h]; simp [flagL, loneL, e1]
  have hall : ∀ (i : Nat) (o : Oper), ops[i]? = some o → (o.after.toList.all (fun e => !Region.binds .any e || decide (e.on < i)) = true ∧ maskOk (masks ops.toList []) i o = true) := fun i o ho => by
    rw [List.all_eq_true] at h1
    have := h1 (o, i) (by
      rw [List.mem_zipIdx_iff_getElem?]
      simpa using ho)
    simpa only [Bool.and_eq_true] using this
  refine ⟨hfl, masks ops.toList [], ?_, ?_, fun i o ho => (hall i o ho).2, h2, ?_⟩
  · intro i o ho
    obtain ⟨m, k1, k2⟩ := e2 i o (by simpa using ho)
    refine ⟨flagOp (masks ops.toList []) (loneL (masks ops.toList []) ms) i (loneOp (masks ops.toList []) ms i m), ?_, flagOp_fits k2 (loneOp_fits k2)⟩
    rw [← h]
    simp only [flagL, loneL, List.getElem?_map, List.getElem?_zipIdx, k1, Option.map_some, Nat.zero_add]
  · intro i o ho e he hb
    have := (hall i o ho).1
    rw [List.all_eq_true] at this
    have := this e (by simpa using he)
    simpa [hb] using this
  · intro i j x y hx hy hij
    rw [h] at h3
    unfold pairsOk at h3
    rw [List.all_eq_true] at h3
    have := h3 (x, i) (by rw [List.mem_zipIdx_iff_getElem?]; simpa using hx)
    rw [List.all_eq_true] at this
    have := this (y, j) (by rw [List.mem_zipIdx_iff_getElem?]; simpa using hy)
    simp only [hij, decide_true, Bool.not_true, Bool.false_or, Bool.or_eq_true] at this
    exact this

/-! ### Code -/
def exOf : Ex → Exit
  | .normal => .normal
  | .exit id => .exit id
  | .ret => .ret
/-- A loop that comes to its end within so many rounds. -/
theorem wp_loop_n {c : Code} {Q : Exit → Act → World → Prop} (J : Nat → Act → World → Prop) (h0 : ∀ a w, ¬ J 0 a w)
    (round : ∀ n a w, J (n + 1) a w → c.wp P (Exit.then (J n) Q) a w) : ∀ n a w, J n a w → (Code.loop c).wp P Q a w := by
  have key : ∀ n a w, J n a w → ∀ (b : Frame) (k : List Item) (cs : List Frame), ∃ e a' w', Q e a' w' ∧ Arrives P (lone (b.at a (.code c :: .inLoop c :: k)) cs w) b k cs e a' w' := by
    intro n
    induction n with
    | zero => intro a w h; exact absurd h (h0 a w)
    | succ n ih =>
      intro a w h b k cs
      obtain ⟨e, a₁, w₁, hq, harr⟩ := round n a w h b (.inLoop c :: k) cs
      cases e with
      | normal =>
        obtain ⟨e₂, a₂, w₂, hq₂, harr₂⟩ := ih a₁ w₁ hq b k cs
        exact ⟨e₂, a₂, w₂, hq₂, .of_steps (Steps.trans harr (.one step_inLoop)) harr₂⟩
      | exit id => exact ⟨_, a₁, w₁, hq, .pass (x := .inLoop c) rfl (fun _ _ => .inl (by simp)) harr⟩
      | goto l => exact ⟨_, a₁, w₁, hq, .pass (x := .inLoop c) rfl (fun _ _ => .inl (by simp)) harr⟩
      | ret => exact ⟨_, a₁, w₁, hq, .pass (x := .inLoop c) rfl (fun _ _ => .inl (by simp)) harr⟩
      | panic ch => exact ⟨_, a₁, w₁, hq, .pass (x := .inLoop c) rfl (fun _ _ => .inl (by simp)) harr⟩
      | outgrown => exact ⟨_, a₁, w₁, hq, .pass (x := .inLoop c) rfl (fun _ _ => .inl (by simp)) harr⟩
  intro n a w h b k cs
  obtain ⟨e, a', w', hq, harr⟩ := key n a w h b k cs
  exact ⟨e, a', w', hq, .of_steps (.one step_loop) harr⟩

/-- Where the machine is when the compiled code has run. -/
def Post (N ntm : Nat) (c : CMap) (H : AH) (w : World) (e : Ex) (f' : Fr) (H' : AH) : Exit → Act → World → Prop := fun e' a' w' => e' = exOf e ∧ ∃ c', Rel N ntm c' f' H' a' w' ∧ ExtW N c H w c' H' w'
theorem Post.trans {c c1 : CMap} {H H1 : AH} {w w1 : World} {e : Ex} {f' : Fr} {H' : AH} (hx : ExtW N c H w c1 H1 w1) {e' : Exit} {a' : Act} {w' : World} (h : Post N ntm c1 H1 w1 e f' H' e' a' w') : Post N ntm c H w e f' H' e' a' w' := by
  obtain ⟨h1, c', h2, h3⟩ := h
  exact ⟨h1, c', h2, hx.trans h3⟩
theorem code_ok (hm : P.follows .mixedOrders = true) (hcall : ∀ N, CallOk P N call) {k : Nat} : ∀ (code : Code) {m : MCode}, compC P ntm code = some m → ∀ {c : CMap} {f : Fr} {H : AH} {a : Act} {w : World}, Rel N ntm c f H a w → ∀ {e : Ex} {f' : Fr} {H' : AH}, evC call k m f H = some (e, f', H') → code.wp P (Post N ntm c H w e f' H') a w := by
  intro code
  induction code with
  | skip =>
    intro m h c f H a w hr e f' H' he
    simp only [compC, Option.some.injEq] at h
    subst h
    simp only [evC, Option.some.injEq, Prod.mk.injEq] at he
    obtain ⟨rfl, rfl, rfl⟩ := he
    exact wp_skip ⟨rfl, c, hr, .refl _ _ _ _⟩
  | region id ops draw =>
    intro m h c f H a w hr e f' H' he
    simp only [compC] at h
    split at h
    · rename_i hd
      split at h
      case h_2 => simp at h
      rename_i fs hfs
      simp only [Option.some.injEq] at h
      subst h
      simp only [evC] at he
      split at he
      case h_2 => simp at he
      rename_i f1 H1 h1
      simp only [Option.some.injEq, Prod.mk.injEq] at he
      obtain ⟨rfl, rfl, rfl⟩ := he
      obtain ⟨hlen, ks, hop⟩ := compD_open hfs
      rw [hd]
      refine wp_region_any hm ?_
      have hr' : Rel N ntm c f H a { w with drawn := w.drawn + 1 } := ⟨hr.sim.same rfl, hr.size, hr.tmps, hr.defers⟩
      have hall : todo ops.size (Array.replicate ops.size false) = List.range ops.size := by
        refine List.filter_eq_self.2 fun i hi => ?_
        have := List.mem_range.1 hi
        simp [this]
      refine regionD_ok hcall hop ops.size _ (by simp) (by rw [hall]; simp) ?_ hr' (Nat.le_refl _) (f' := f1) (H' := H1) ?_ fun a' c' w' k1 k2 => ⟨rfl, c', k1, (ExtW.drew N c H w).trans k2⟩
      · intro i o ho hl
        have := (Array.getElem?_eq_some_iff.1 ho).1
        simp [this] at hl
      · rw [hall]
        have : (List.range ops.size).map (fun i => fs.getD i dflt) = fs := by
          refine List.ext_getElem? fun i => ?_
          rw [List.getElem?_map]
          rcases Nat.lt_or_ge i ops.size with hi | hi
          · rw [List.getElem?_range hi]
            simp [hlen, hi]
          · rw [List.getElem?_eq_none (by simpa using hi), List.getElem?_eq_none (by omega)]
            rfl
        rw [this]
        exact h1
    · rename_i hd
      split at h
      case h_2 => simp at h
      rename_i ms hms
      simp only [Option.some.injEq] at h
      subst h
      simp only [evC] at he
      split at he
      case h_2 => simp at he
      rename_i f1 H1 h1
      simp only [Option.some.injEq, Prod.mk.injEq] at he
      obtain ⟨rfl, rfl, rfl⟩ := he
      obtain ⟨e1, e2⟩ := compOpers_spec hms
      have : draw = false := by simpa using hd
      subst this
      refine wp_region (region_ok hcall _ ms (by simp [e1]) (fun i hi => ?_) hr h1 fun a' c' w' k1 k2 => ⟨rfl, c', k1, k2⟩)
      have hi' : i < ops.size := by simpa using hi
      obtain ⟨m, k1, k2⟩ := e2 i ops[i] (by simp [hi'])
      exact ⟨ops[i], m, by simp [hi'], k1, .of k2⟩
  | seq x y ihx ihy =>
    intro m h c f H a w hr e f' H' he
    simp only [compC] at h
    split at h
    case h_2 => simp at h
    rename_i mx my hx hy
    simp only [Option.some.injEq] at h
    subst h
    simp only [evC] at he
    refine wp_seq ?_
    split at he
    · rename_i f1 H1 h1
      refine wp_mono (ihx hx hr h1) fun e' a' w' hp => ?_
      obtain ⟨rfl, c', k1, k2⟩ := hp
      exact wp_mono (ihy hy k1 he) fun _ _ _ h => h.trans k2
    · rename_i hne
      refine wp_mono (ihx hx hr he) fun e' a' w' hp => ?_
      have he1 : e' = exOf e := hp.1
      cases e with
      | normal => exact absurd he (hne _ _)
      | exit id => subst he1; exact hp
      | ret => subst he1; exact hp
  | cond cc x y ihx ihy =>
    intro m h c f H a w hr e f' H' he
    simp only [compC] at h
    split at h
    case isFalse => simp at h
    rename_i hok
    split at h
    case h_2 => simp at h
    rename_i mx my hx hy
    simp only [Option.some.injEq] at h
    subst h
    simp only [evC] at he
    have hc := hr.ops cc hok
    split at he
    case h_2 => simp at he
    rename_i b hb
    rw [hb] at hc
    refine wp_cond hc.bool ?_
    split at he
    · rename_i hb; rw [if_pos hb]; exact ihx hx hr he
    · rename_i hb; rw [if_neg hb]; exact ihy hy hr he
  | block id x ih =>
    intro m h c f H a w hr e f' H' he
    simp only [compC] at h
    split at h
    case h_2 => simp at h
    rename_i mx hx
    simp only [Option.some.injEq] at h
    subst h
    simp only [evC] at he
    refine wp_block ?_
    split at he
    · rename_i i f1 H1 h1
      refine wp_mono (ih hx hr h1) fun e' a' w' hp => ?_
      obtain ⟨rfl, hp2⟩ := hp
      split at he
      · rename_i hi
        simp only [Option.some.injEq, Prod.mk.injEq] at he
        obtain ⟨rfl, rfl, rfl⟩ := he
        simp only [exOf, Exit.inBlock, hi, if_true]
        exact ⟨rfl, hp2⟩
      · rename_i hi
        simp only [Option.some.injEq, Prod.mk.injEq] at he
        obtain ⟨rfl, rfl, rfl⟩ := he
        simp only [exOf, Exit.inBlock, hi, if_false]
        exact ⟨rfl, hp2⟩
    · rename_i hne
      refine wp_mono (ih hx hr he) fun e' a' w' hp => ?_
      have he1 : e' = exOf e := hp.1
      cases e with
      | exit id => exact absurd he (hne _ _ _)
      | normal => subst he1; exact hp
      | ret => subst he1; exact hp
  | loop x ih =>
    intro m h c f H a w hr e f' H' he
    simp only [compC] at h
    split at h
    case h_2 => simp at h
    rename_i mx hx
    simp only [Option.some.injEq] at h
    subst h
    simp only [evC] at he
    refine wp_loop_n (fun n a1 w1 => ∃ c1 f1 H1, Rel N ntm c1 f1 H1 a1 w1 ∧ ExtW N c H w c1 H1 w1 ∧ iter (evC call k mx) n f1 H1 = some (e, f', H')) ?_ ?_ k a w ⟨c, f, H, hr, .refl _ _ _ _, he⟩
    · rintro a1 w1 ⟨c1, f1, H1, _, _, h⟩
      simp [iter] at h
    · rintro n a1 w1 ⟨c1, f1, H1, k1, k2, h⟩
      simp only [iter] at h
      split at h
      · rename_i f2 H2 h2
        refine wp_mono (ih hx k1 h2) fun e' a' w' hp => ?_
        obtain ⟨rfl, c2, j1, j2⟩ := hp
        exact ⟨c2, f2, H2, j1, k2.trans j2, h⟩
      · rename_i hne
        refine wp_mono (ih hx k1 h) fun e' a' w' hp => ?_
        have he1 : e' = exOf e := hp.1
        cases e with
        | normal => exact absurd h (hne _ _)
        | exit id => subst he1; exact hp.trans k2
        | ret => subst he1; exact hp.trans k2
  | exit id =>
    intro m h c f H a w hr e f' H' he
    simp only [compC, Option.some.injEq] at h
    subst h
    simp only [evC, Option.some.injEq, Prod.mk.injEq] at he
    obtain ⟨rfl, rfl, rfl⟩ := he
    exact wp_exit ⟨rfl, c, hr, .refl _ _ _ _⟩
  | ret =>
    intro m h c f H a w hr e f' H' he
    simp only [compC, Option.some.injEq] at h
    subst h
    simp only [evC, Option.some.injEq, Prod.mk.injEq] at he
    obtain ⟨rfl, rfl, rfl⟩ := he
    exact wp_ret ⟨rfl, c, hr, .refl _ _ _ _⟩
  | refuse why =>
    intro m h c f H a w hr e f' H' he
    simp only [compC, Option.some.injEq] at h
    subst h
    simp [evC, evOps, evMOp, evV, evG, evOp, evM] at he
  | _ => intro m h; simp [compC] at h
end
end Go.Proofs.Ytildhljhbbhmmaa.AM
/- Functions: what the abstract machine computes is what a call does. -/
namespace Go.Proofs.Ytildhljhbbhmmaa.AM
open Go Go.RowKit
set_option linter.all false
section
variable {P : Program} {N : Nat}

/-! ### Back from a call -/
theorem VR.cut {n m : Nat} {c c' : CMap} (h : ∀ id, id < n → c' id = c id) {v v' : Value} (hv : VR n c v v') (hm : n ≤ m) : VR m c' v v' := hv.mono hm fun id hid => .inl (h id hid)
def cutC (c : CMap) (n : Nat) : CMap := fun id => if id < n then c id else none
theorem Sim.cut {c c1 : CMap} {H H1 : AH} {w w1 : World} (hs : Sim N c H w) (hx : ExtW N c H.enter w c1 H1 w1) (hs1 : Sim N c1 H1 w1) (hl : ¬ H1.low < H.next) :
    Sim N (cutC c H.next) H w1 ∧ (∀ id, id < H.next → c1 id = c id) ∧ (∀ id b l, H.get id = some b → c id = some l → w1.heap[l.blk]? = w.heap[l.blk]?) := by
  have hsame : ∀ id, id < H.next → c1 id = c id ∧ H1.get id = H.get id ∧ ∀ l, c id = some l → w1.heap[l.blk]? = w.heap[l.blk]? := fun id hid => hx.same id hid (by have : H.enter.next = H.next := rfl; omega)
  have hcc : ∀ id, id < H.next → cutC c H.next id = c id := fun id hid => if_pos hid
  have hlt : ∀ {id l}, cutC c H.next id = some l → id < H.next ∧ c id = some l := fun {id l} h => by
    unfold cutC at h
    split at h
    · rename_i h1; exact ⟨h1, h⟩
    · simp at h
  refine ⟨⟨fun id => ?_, fun id b l hb hc => ?_, fun id id' b l l' hne hb hro hc hc' => ?_, hs1.size⟩, fun id hid => (hsame id hid).1, fun id b l hb hc => (hsame id (AH.get_lt hb)).2.2 l hc⟩
  · rcases Nat.lt_or_ge id H.next with h | h
    · rw [hcc id h]; exact hs.live id
    · have : H.get id = none := by
        unfold AH.get; rw [List.getElem?_eq_none h]; rfl
      rw [this]; unfold cutC; rw [if_neg (by omega)]; rfl
  · obtain ⟨h1, h2⟩ := hlt hc
    have hr := hs.blk id b l hb h2
    obtain ⟨cs, ty, fz, mid, k1, k2, k3, k4, k5, k6⟩ := hr.row
    refine ⟨hr.es, hr.ones, cs, ty, fz, mid, ?_, k2, k3, k4, k5, ⟨k6.1, fun j hj => (k6.2 j hj).cut hcc (Nat.le_refl _)⟩⟩
    rw [(hsame id h1).2.2 l h2]; exact k1
  · obtain ⟨h1, h2⟩ := hlt hc
    obtain ⟨h3, h4⟩ := hlt hc'
    exact hs.inj id id' b l l' hne hb hro h2 h4
def addC (c : CMap) (n : Nat) (x : Option Loc) : CMap := fun id => if id = n then x else c id
theorem addC_eq {c : CMap} {n : Nat} {x : Option Loc} : addC c n x n = x := if_pos rfl
theorem addC_ne {c : CMap} {n id : Nat} {x : Option Loc} (h : id ≠ n) : addC c n x id = c id := if_neg h
theorem moveV_ok {c c1 : CMap} {H H1 : AH} {w w1 : World} (hs : Sim N c H w) (hx : ExtW N c H.enter w c1 H1 w1) (hs1 : Sim N c1 H1 w1) (hl : ¬ H1.low < H.next) {v v' u : Value} {bs : List (Option Blk)} (hv : VR H1.next c1 v v') (hm : moveV H H1 H.next v = some (u, bs)) :
    ∃ c', Sim N c' { H with blks := H.blks ++ bs } w1 ∧ VR (H.next + bs.length) c' u v' ∧ (∀ id, id < H.next → c' id = c id) := by
  obtain ⟨s1, e1, e2⟩ := hs.cut hx hs1 hl
  have base : (∃ c', Sim N c' { H with blks := H.blks ++ ([] : List (Option Blk)) } w1 ∧ (∀ id, id < H.next → c' id = c id) ∧ c' = cutC c H.next) := ⟨_, by rw [List.append_nil]; exact s1, fun id hid => if_pos hid, rfl⟩
  have key : ∀ (a : Addr) (b : Blk), ¬ a.block < H.next → H1.get a.block = some b → b.cells.all p1 = true → ∃ c', Sim N c' (H.push b) w1 ∧ c' H.next = c1 a.block ∧ (∀ id, id < H.next → c' id = c id) := by
    intro a b hge hb hp
    have hcut : ∀ id, id < H.next → cutC c H.next id = c id := fun id hid => if_pos hid
    obtain ⟨la, hca, hra⟩ := hs1.at_ hb
    refine ⟨addC (cutC c H.next) H.next (c1 a.block), ⟨fun id => ?_, fun id b2 l hb2 hc => ?_, fun id id' b2 l l' hne hb2 hro hc hc' => ?_, hs1.size⟩, addC_eq, fun id hid => by rw [addC_ne (by omega)]; exact hcut id hid⟩
    · by_cases h : id = H.next
      · subst h; rw [AH.get_push_eq, addC_eq, hca]; rfl
      · rw [addC_ne h]
        rcases Nat.lt_or_ge id H.next with h' | h'
        · rw [AH.get_push_lt _ _ h']; exact s1.live id
        · have : (H.push b).get id = none := by
            unfold AH.get; rw [List.getElem?_eq_none (by have := AH.next_push H b; unfold AH.next at this h' h; omega)]; rfl
          rw [this]; unfold cutC; rw [if_neg (by omega)]; rfl
    · by_cases h : id = H.next
      · subst h
        rw [AH.get_push_eq] at hb2
        obtain rfl := Option.some.inj hb2
        rw [addC_eq, hca] at hc
        obtain rfl := Option.some.inj hc
        obtain ⟨cs, ty, fz, mid, k1, k2, k3, k4, k5, k6⟩ := hra.row
        refine ⟨hra.es, hra.ones, cs, ty, fz, mid, k1, k2, k3, k4, k5, ?_⟩
        rw [k6.eq1 hp]
        exact .refl hp
      · rw [addC_ne h] at hc
        have hid : id < H.next := by
          unfold cutC at hc; split at hc
          · assumption
          · simp at hc
        rw [AH.get_push_lt _ _ hid] at hb2
        have hr := s1.blk id b2 l hb2 hc
        obtain ⟨cs, ty, fz, mid, k1, k2, k3, k4, k5, k6⟩ := hr.row
        refine ⟨hr.es, hr.ones, cs, ty, fz, mid, k1, k2, k3, k4, k5, ⟨k6.1, fun j hj => (k6.2 j hj).cut (fun id hid => addC_ne (by omega)) (by rw [AH.next_push]; omega)⟩⟩
    · by_cases h : id = H.next
      · subst h
        rw [AH.get_push_eq] at hb2
        obtain rfl := Option.some.inj hb2
        rw [addC_eq] at hc
        rw [addC_ne (Ne.symm hne)] at hc'
        have hid : id' < H.next := by
          unfold cutC at hc'; split at hc'
          · assumption
          · simp at hc'
        rw [hcut id' hid, ← e1 id' hid] at hc'
        exact hs1.inj a.block id' b l l' (by omega) hb hro hc hc'
      · rw [addC_ne h] at hc
        have hid : id < H.next := by
          unfold cutC at hc; split at hc
          · assumption
          · simp at hc
        rw [AH.get_push_lt _ _ hid] at hb2
        by_cases h2 : id' = H.next
        · subst h2
          rw [addC_eq] at hc'
          rw [hcut id hid, ← e1 id hid] at hc
          have hb1 : H1.get id = some b2 := by
            rw [(hx.same id hid (by have : H.enter.next = H.next := rfl; omega)).2.1]; exact hb2
          exact hs1.inj id a.block b2 l l' (by omega) hb1 hro hc hc'
        · rw [addC_ne h2] at hc'
          exact s1.inj id id' b2 l l' hne hb2 hro hc hc'
  have cutv : ∀ {n : Nat} {u u' : Value}, (∀ id, id < n → id < H.next) → VR H1.next c1 u u' → True := fun _ _ => trivial
  unfold moveV at hm
  split at hm
  · rename_i a n k
    split at hm
    · rename_i hlt
      simp only [Option.some.injEq, Prod.mk.injEq] at hm
      obtain ⟨rfl, rfl⟩ := hm
      refine ⟨cutC c H.next, by rw [List.append_nil]; exact s1, ?_, fun id hid => if_pos hid⟩
      cases hv with
      | plain h => simp [p1] at h
      | slice h1 h2 h3 h4 h5 => exact .slice (by simpa using hlt) (by unfold cutC; rw [if_pos hlt, ← e1 _ hlt]; exact h2) h3 h4 h5
      | sliceDead h1 h2 => exact .sliceDead (by simpa using hlt) (by unfold cutC; rw [if_pos hlt, ← e1 _ hlt]; exact h2)
    · rename_i hge
      split at hm
      · rename_i b hb
        split at hm
        · rename_i hp
          simp only [Option.some.injEq, Prod.mk.injEq] at hm
          obtain ⟨rfl, rfl⟩ := hm
          obtain ⟨c', k1, k2, k3⟩ := key a b hge hb hp
          obtain ⟨la, hca, hra⟩ := hs1.at_ hb
          refine ⟨c', k1, ?_, k3⟩
          cases hv with
          | plain h => simp [p1] at h
          | slice h1 h2 h3 h4 h5 => exact VR.slice (a := ⟨H.next, a.off, none⟩) (by simp) (by rw [k2]; exact h2) rfl h4 h5
          | sliceDead h1 h2 => rw [hca] at h2; simp at h2
        · simp at hm
      · simp at hm
  · rename_i a
    split at hm
    · rename_i hlt
      simp only [Option.some.injEq, Prod.mk.injEq] at hm
      obtain ⟨rfl, rfl⟩ := hm
      refine ⟨cutC c H.next, by rw [List.append_nil]; exact s1, ?_, fun id hid => if_pos hid⟩
      cases hv with
      | plain h => simp [p1] at h
      | ptr h1 h2 h3 => exact .ptr (by simpa using hlt) (by unfold cutC; rw [if_pos hlt, ← e1 _ hlt]; exact h2) h3
      | ptrDead h1 h2 => exact .ptrDead (by simpa using hlt) (by unfold cutC; rw [if_pos hlt, ← e1 _ hlt]; exact h2)
    · rename_i hge
      split at hm
      · rename_i b hb
        split at hm
        · rename_i hp
          simp only [Option.some.injEq, Prod.mk.injEq] at hm
          obtain ⟨rfl, rfl⟩ := hm
          obtain ⟨c', k1, k2, k3⟩ := key a b hge hb hp
          obtain ⟨la, hca, hra⟩ := hs1.at_ hb
          refine ⟨c', k1, ?_, k3⟩
          cases hv with
          | plain h => simp [p1] at h
          | ptr h1 h2 h3 => exact VR.ptr (a := ⟨H.next, a.off, none⟩) (by simp) (by rw [k2]; exact h2) rfl
          | ptrDead h1 h2 => rw [hca] at h2; simp at h2
        · simp at hm
      · simp at hm
  · split at hm
    · rename_i hp
      simp only [Option.some.injEq, Prod.mk.injEq] at hm
      obtain ⟨rfl, rfl⟩ := hm
      refine ⟨cutC c H.next, by rw [List.append_nil]; exact s1, ?_, fun id hid => if_pos hid⟩
      rw [hv.eq2 hp]
      exact .of2 hp
    · simp at hm
theorem back_ok {c c1 : CMap} {H H1 : AH} {w w1 : World} (hs : Sim N c H w) (hx : ExtW N c H.enter w c1 H1 w1) (hs1 : Sim N c1 H1 w1) {v v' : Value} (hv : VR H1.next c1 v v') {u : Value} {H' : AH} (hb : back H H1 v = (u, H')) :
    ∃ c', VR H'.next c' u v' ∧ Sim N c' H' w1 ∧ ExtW N c H w c' H' w1 := by
  have nx : H.next ≤ H1.next := hx.nx
  have keep : ¬ H1.low < H.next → (v, ({ H1 with low := H.low } : AH)) = (u, H') → ∃ c', VR H'.next c' u v' ∧ Sim N c' H' w1 ∧ ExtW N c H w c' H' w1 := fun hl h => by
    simp only [Prod.mk.injEq] at h
    obtain ⟨rfl, rfl⟩ := h
    exact ⟨c1, hv, hs1.low, ⟨nx, hx.dom, Nat.le_refl _, fun id h1 h2 => hx.same id h1 (by have : H.enter.next = H.next := rfl; omega), hx.below⟩⟩
  have moved : ∀ {bs : List (Option Blk)} {c' : CMap} {u v' : Value}, ¬ H1.low < H.next → Sim N c' { H with blks := H.blks ++ bs } w1 → VR (H.next + bs.length) c' u v' → (∀ id, id < H.next → c' id = c id) → VR ({ H with blks := H.blks ++ bs } : AH).next c' u v' ∧ Sim N c' { H with blks := H.blks ++ bs } w1 ∧ ExtW N c H w c' { H with blks := H.blks ++ bs } w1 := fun {bs c' u v'} hl k1 k2 k3 => by
    have hn : ({ H with blks := H.blks ++ bs } : AH).next = H.next + bs.length := by simp [AH.next]
    refine ⟨by rw [hn]; exact k2, k1, ⟨by rw [hn]; omega, fun id hid => .inl (k3 id hid), Nat.le_refl _, fun id h1 h2 => ⟨k3 id h1, ?_, (hx.same id h1 (by have : H.enter.next = H.next := rfl; omega)).2.2⟩, hx.below⟩⟩
    simp only [AH.get, AH.next] at h1 ⊢
    rw [List.getElem?_append_left h1]
  unfold back at hb
  split at hb
  · rename_i hl
    simp only [Prod.mk.injEq] at hb
    obtain ⟨rfl, rfl⟩ := hb
    exact ⟨c1, hv, hs1.low, ⟨nx, hx.dom, Nat.min_le_left _ _, fun id h1 h2 => hx.same id h1 (by simp only at h2; omega), hx.below⟩⟩
  · rename_i hl
    split at hb
    · rename_i hp
      simp only [Prod.mk.injEq] at hb
      obtain ⟨rfl, rfl⟩ := hb
      obtain ⟨s1, e1, e2⟩ := hs.cut hx hs1 hl
      refine ⟨_, by rw [hv.eq3 hp]; exact .of3 hp, s1, ⟨Nat.le_refl _, fun id hid => .inl (if_pos hid), Nat.le_refl _, fun id h1 h2 => ⟨if_pos h1, rfl, (hx.same id h1 (by have : H.enter.next = H.next := rfl; omega)).2.2⟩, hx.below⟩⟩
    · split at hb
      · rename_i vs
        split at hb
        · rename_i x y hvs
          split at hb
          · rename_i x' bs hmv
            split at hb
            · rename_i hy
              simp only [Prod.mk.injEq] at hb
              obtain ⟨rfl, rfl⟩ := hb
              obtain ⟨vs', e1, e2⟩ := VRL.of_tuple hv
              rw [hvs] at e2
              obtain ⟨x2, l2, e3, hx2, hl2⟩ := e2.uncons
              obtain ⟨y2, l3, e4, hy2, hl3⟩ := hl2.uncons
              have := hl3.nil_inv
              subst this
              subst e4
              obtain ⟨c', k1, k2, k3⟩ := moveV_ok hs hx hs1 hl hx2 hmv
              have hy3 : VR (H.next + bs.length) c' y y2 := by rw [hy2.eq2 hy]; exact .of2 hy
              have htup : VR (H.next + bs.length) c' (.tuple #[x', y]) v' := by
                have : vs' = #[x2, y2] := by rw [← Array.toList_inj, e3]
                rw [e1, this]
                exact (VRL.cons k2 (.cons hy3 .nil)).tuple
              exact ⟨c', moved hl k1 htup k3⟩
            · exact keep hl hb
          · exact keep hl hb
        · exact keep hl hb
      · split at hb
        · rename_i hmv
          simp only [Prod.mk.injEq] at hb
          obtain ⟨rfl, rfl⟩ := hb
          obtain ⟨c', k1, k2, k3⟩ := moveV_ok hs hx hs1 hl hv hmv
          exact ⟨c', moved hl k1 k2 k3⟩
        · exact keep hl hb

/-! ### Results -/
theorem resV_ok {ntm : Nat} {c : CMap} {f : Fr} {H : AH} {a : Act} {w : World} (hr : Rel N ntm c f H a w) {r : ResultVar} {m : MRes} (hm : compRes P r = some m) {v : Value} (he : resV f H m = some v) :
    ∃ v', (match r with | .tmp t => (Pure.pure (a.tmps.getD t Go.undef) : Sem Value) | .cell x t => (do loadVar t (← asAddr (a.tmps.getD x Go.undef)))).run P w = .ok v' w ∧ VR H.next c v v' := by
  unfold compRes at hm
  split at hm
  · simp only [Option.some.injEq] at hm
    subst hm
    simp only [resV, Option.some.injEq] at he
    subst he
    exact ⟨_, by simp, hr.tmps _⟩
  · rename_i x t
    split at hm
    · rename_i d i hu hi
      have key : ∀ agg n, m = .cell x agg n → ((isAggT d = true ∧ agg = true ∧ n = i.size) ∨ (isAggT d = false ∧ agg = false ∧ n = 1)) → ∃ v', (do loadVar t (← asAddr (a.tmps.getD x Go.undef)) : Sem Value).run P w = .ok v' w ∧ VR H.next c v v' := fun agg n hmm hagg => by
        subst hmm
        simp only [resV] at he
        split at he
        · rename_i p hp
          have hx := hr.tmps x
          rw [hp] at hx
          split at he
          · rename_i cs hl
            obtain ⟨l, cs', hc, _⟩ := hr.sim.read hl
            obtain ⟨e1, _⟩ := hx.ptrL hc
            obtain ⟨v2, j1, j2⟩ := load_ok' (P := P) hr.sim hu hi hx hagg hl he
            rw [e1] at j1 ⊢
            exact ⟨v2, by simpa [Instr.loadAt, Instr.sureAddr, asAddr] using j1, j2⟩
          · simp at he
        · simp at he
      split at hm
      · rename_i hg; exact key _ _ (Option.some.inj hm).symm (.inl ⟨hg, rfl, rfl⟩)
      · rename_i hg; exact key _ _ (Option.some.inj hm).symm (.inr ⟨by simpa using hg, rfl, rfl⟩)
    · simp at hm
end
end Go.Proofs.Ytildhljhbbhmmaa.AM
/- A call of a compiled function. -/
namespace Go.Proofs.Ytildhljhbbhmmaa.AM
open Go Go.RowKit
set_option linter.all false
section
variable {P : Program} {N : Nat}

def resF (a : Act) : ResultVar → Sem Value
  | .tmp t => Pure.pure (a.tmps.getD t Go.undef)
  | .cell x t => do loadVar t (← asAddr (a.tmps.getD x Go.undef))
theorem resF_ok {ntm : Nat} {c : CMap} {f : Fr} {H : AH} {a : Act} {w : World} (hr : Rel N ntm c f H a w) {r : ResultVar} {m : MRes} (hm : compRes P r = some m) {v : Value} (he : resV f H m = some v) :
    ∃ v', (resF a r).run P w = .ok v' w ∧ VR H.next c v v' := by
  have := resV_ok hr hm he
  cases r <;> exact this
theorem resL_ok {ntm : Nat} {c : CMap} {f : Fr} {H : AH} {a : Act} {w : World} (hr : Rel N ntm c f H a w) : ∀ {rs : List ResultVar} {ms : List MRes}, compRs P rs = some ms → ∀ {vs : List Value}, resL f H ms = some vs →
    ∃ vs', (rs.mapM (resF a)).run P w = .ok vs' w ∧ VRL H.next c vs vs' := by
  intro rs
  induction rs with
  | nil =>
    intro ms hm vs he
    simp only [compRs, Option.some.injEq] at hm
    subst hm
    simp only [resL, Option.some.injEq] at he
    subst he
    exact ⟨[], by simp, .nil⟩
  | cons r rs ih =>
    intro ms hm vs he
    simp only [compRs] at hm
    split at hm
    case h_2 => simp at hm
    rename_i m ms' h1 h2
    simp only [Option.some.injEq] at hm
    subst hm
    simp only [resL] at he
    split at he
    case h_2 => simp at he
    rename_i v vs' hv hvs
    simp only [Option.some.injEq] at he
    subst he
    obtain ⟨v1, k1, k2⟩ := resF_ok hr h1 hv
    obtain ⟨vs1, j1, j2⟩ := ih h2 hvs
    refine ⟨v1 :: vs1, ?_, .cons k2 j2⟩
    rw [List.mapM_cons]
    simp [k1, j1]
theorem tupV_ok {n : Nat} {c : CMap} {vs vs' : List Value} (h : VRL n c vs vs') : VR n c (tupV vs) (if h : vs'.toArray.size = 1 then vs'.toArray[0] else .tuple vs'.toArray) := by
  cases vs with
  | nil => rw [h.nil_inv]; simp [tupV]; exact .of3 rfl
  | cons v l =>
    obtain ⟨v', l', rfl, h1, h2⟩ := h.uncons
    cases l with
    | nil => rw [h2.nil_inv]; simpa [tupV] using h1
    | cons u l =>
      obtain ⟨u', l2, rfl, h3, h4⟩ := h2.uncons
      have : tupV (v :: u :: l) = .tuple (v :: u :: l).toArray := rfl
      rw [this, dif_neg (by simp)]
      exact (VRL.cons h1 (.cons h3 h4)).tuple
theorem results_ok {ntm : Nat} {c : CMap} {f : Fr} {H : AH} {a : Act} {w : World} (hr : Rel N ntm c f H a w) {fn : Func} {ms : List MRes} (hm : compRs P fn.results.toList = some ms) {vs : List Value} (he : resL f H ms = some vs) :
    ∃ v', (results fn a.tmps).run P w = .ok v' w ∧ VR H.next c (tupV vs) v' := by
  obtain ⟨vs', h1, h2⟩ := resL_ok hr hm he
  refine ⟨_, ?_, tupV_ok h2⟩
  have h3 : (fn.results.mapM (resF a)).run P w = .ok vs'.toArray w := by
    rw [Array.mapM_eq_mapM_toList]
    simp [h1]
  have h4 : results fn a.tmps = (do let vs ← fn.results.mapM (resF a); Pure.pure (if h : vs.size = 1 then vs[0] else .tuple vs)) := by
    unfold results
    congr 1
  rw [h4]
  simp [h3]

/-! ### Calls -/
def NatOk (P : Program) (N : Nat) (n : FuncId) (g : CallH → List Value → AH → Option (Value × AH)) : Prop :=
  NatExt g ∧ ∀ call, CallOk P N call → ∀ vs H v H', g call vs H = some (v, H') → ∀ c w args, Sim N c H w → VRL H.next c vs args.toList → CallR P N c H w n args v H'
/-- What a table is to be. -/
def EntOk (P : Program) (N : Nat) (n : FuncId) : Ent → Prop
  | .code m => ∃ fn, P.funcs[n]? = some fn ∧ compFn P fn = some m
  | .nat g => NatOk P N n g
def TblOk (P : Program) (N : Nat) (tbl : Tbl) : Prop := ∀ n e, tbl n = some e → EntOk P N n e
theorem evF_ok (hm : P.follows .mixedOrders = true) {tbl : Tbl} (ht : ∀ N, TblOk P N tbl) : ∀ k N, CallOk P N (evF tbl k) := by
  have hn : ∀ n g, tbl n = some (.nat g) → NatExt g := fun n g h => (ht 0 n _ h).1
  intro k
  induction k with
  | zero => intro N; exact ⟨evF_ext tbl hn 0, fun n vs H v H' h => by simp [evF] at h⟩
  | succ k ih =>
    intro N
    refine ⟨evF_ext tbl hn (k + 1), fun n vs H v H' h c w args hs hv => ?_⟩
    simp only [evF] at h
    split at h
    · simp at h
    · rename_i g hg; exact (ht N n _ hg).2 _ (ih N) vs H v H' h c w args hs hv
    · rename_i m hmm
      obtain ⟨fn, hf, hcf⟩ := ht N n _ hmm
      unfold compFn at hcf
      split at hcf
      · simp at hcf
      · rename_i hname
        split at hcf
        · simp at hcf
        · rename_i b hb
          split at hcf
          · rename_i cd rs hcd hrs
            simp only [Option.some.injEq] at hcf
            subst hcf
            refine .inr ⟨by simp [callFunc, hf, hname, hb], calls_of_wp hf hb ?_⟩
            have hr0 : Rel N fn.ntmps c (entry vs) H.enter { tmps := args ++ Array.replicate (fn.ntmps - args.size) Go.undef, defers := [] } w := by
              refine ⟨Sim.low hs, by simp; omega, fun t => ?_, rfl⟩
              have hlen : vs.length = args.size := by simpa using hv.1
              simp only [entry]
              by_cases ht : t < vs.length
              · have := hv.2 t ht
                have e1 : (args ++ Array.replicate (fn.ntmps - args.size) Go.undef).getD t Go.undef = args.getD t Go.undef := by
                  simp [Array.getElem?_append, show t < args.size by omega]
                rw [e1]
                have e2 : args.toList.getD t Go.undef = args.getD t Go.undef := by simp
                rw [e2] at this
                exact this
              · have e1 : (args ++ Array.replicate (fn.ntmps - args.size) Go.undef).getD t Go.undef = Go.undef := by
                  rw [Array.getD_eq_getD_getElem?, Array.getElem?_append, if_neg (by omega)]
                  rw [Array.getElem?_replicate]; split <;> rfl
                rw [e1, List.getD_eq_getElem?_getD, List.getElem?_eq_none (by omega)]
                exact .undef
            have fin : ∀ {e : Ex} {f' : Fr} {H1 : AH} {rvs : List Value}, evC (evF tbl k) (k + 1) cd (entry vs) H.enter = some (e, f', H1) → (e = .normal ∨ e = .ret) → resL f' H1 rs = some rvs → back H H1 (tupV rvs) = (v, H') → b.wp P (bodyPost P fn fun | .returned v', w' => ∃ c', VR H'.next c' v v' ∧ Sim N c' H' w' ∧ ExtW N c H w c' H' w' | _, _ => False) { tmps := args ++ Array.replicate (fn.ntmps - args.size) Go.undef, defers := [] } w := by
              intro e f' H1 rvs he hee hrv hbk
              refine wp_mono (code_ok hm ih b hcd hr0 he) fun e' a' w' hp => ?_
              obtain ⟨rfl, c1, k1, k2⟩ := hp
              obtain ⟨v1, j1, j2⟩ := results_ok k1 hrs hrv
              obtain ⟨c2, l1, l2, l3⟩ := back_ok hs k2 k1.sim j2 hbk
              rcases hee with rfl | rfl <;> exact ⟨k1.defers, v1, j1, c2, l1, l2, l3⟩
            split at h
            · rename_i f' H1 h1
              split at h
              · rename_i rvs hrv
                simp only [Option.some.injEq] at h
                exact fin h1 (.inl rfl) hrv h
              · simp at h
            · rename_i f' H1 h1
              split at h
              · rename_i rvs hrv
                simp only [Option.some.injEq] at h
                exact fin h1 (.inr rfl) hrv h
              · simp at h
            · simp at h
          · simp at hcf
end
end Go.Proofs.Ytildhljhbbhmmaa.AM
/- Compiled functions. WRITTEN BY A PROGRAM (mk.py). -/
namespace Go.Proofs.Ytildhljhbbhmmaa.AM
open Go
set_option maxRecDepth 100000
set_option linter.all false
def k58 : MCode := (.seq (.ops [⟨(some 8), none, false, (.mov (.const (.string ⟨#[]⟩)))⟩, ⟨(some 9), none, false, (.mov (.const (.bool false)))⟩]) (.seq (.ops [⟨(some 11), none, false, (.mov (.tmp 3))⟩, ⟨(some 12), none, false, (.lenStr (.tmp 11))⟩, ⟨(some 13), none, false, (.bin .int .sub (.tmp 12) (.const (.int .i64 16)))⟩, ⟨(some 10), none, false, (.mov (.tmp 13))⟩]) (.seq (.seq (.ops [⟨(some 14), none, false, (.mov (.tmp 10))⟩, ⟨(some 15), none, false, (.bin .int .lss (.tmp 14) (.const (.int .i64 0)))⟩]) (.cond (.tmp 15) (.seq (.ops [⟨(some 8), none, false, (.mov (.const (.string ⟨#[]⟩)))⟩, ⟨(some 9), none, false, (.mov (.const (.bool false)))⟩]) .ret) .skip)) (.seq (.seq (.opsD [⟨(some 16), none, false, (.mov (.tmp 0))⟩, ⟨(some 17), none, false, (.mov (.tmp 1))⟩, ⟨(some 18), none, false, (.mov (.tmp 2))⟩, ⟨(some 19), none, false, (.mov (.tmp 3))⟩, ⟨(some 20), none, false, (.mov (.tmp 10))⟩, ⟨(some 21), none, false, (.sliceStr (.tmp 19) none (some (.tmp 20)))⟩, ⟨(some 22), none, false, (.callL (.func 90) [(.tmp 16), (.tmp 17), (.tmp 18), (.tmp 21)])⟩, ⟨(some 23), none, false, (.mov (.tmp 3))⟩, ⟨(some 24), none, false, (.mov (.tmp 10))⟩, ⟨(some 25), none, false, (.sliceStr (.tmp 23) (some (.tmp 24)) none)⟩, ⟨(some 26), none, false, (.toBytes (.tmp 25))⟩, ⟨(some 27), none, false, (.toArr 16 (.tmp 26))⟩, ⟨(some 28), none, false, (.load true 16 (.tmp 27))⟩, ⟨(some 29), none, false, (.eqc true [(0, .int), (1, .int), (2, .int), (3, .int), (4, .int), (5, .int), (6, .int), (7, .int), (8, .int), (9, .int), (10, .int), (11, .int), (12, .int), (13, .int), (14, .int), (15, .int)] (.tmp 22) (.tmp 28))⟩]) (.cond (.tmp 29) (.seq (.ops [⟨(some 8), none, false, (.mov (.const (.string ⟨#[]⟩)))⟩, ⟨(some 9), none, false, (.mov (.const (.bool false)))⟩]) .ret) .skip)) (.seq (.ops [⟨(some 30), none, false, (.mov (.tmp 0))⟩, ⟨(some 31), none, false, (.mov (.tmp 1))⟩, ⟨(some 32), none, false, (.mov (.tmp 3))⟩, ⟨(some 33), none, false, (.mov (.tmp 10))⟩, ⟨(some 34), none, false, (.sliceStr (.tmp 32) none (some (.tmp 33)))⟩, ⟨(some 35), none, false, (.call false (.func 62) [(.tmp 30), (.tmp 31), (.const (.int .u32 1)), (.tmp 34)])⟩, ⟨(some 8), none, false, (.mov (.tmp 35))⟩, ⟨(some 9), none, false, (.mov (.const (.bool true)))⟩]) .ret)))))
def m58 : MFun := ⟨k58, [(.tmp 8), (.tmp 9)]⟩
end Go.Proofs.Ytildhljhbbhmmaa.AM
/- Compiled functions. WRITTEN BY A PROGRAM (mk.py). -/
namespace Go.Proofs.Ytildhljhbbhmmaa.AM
open Go
set_option maxRecDepth 100000
set_option linter.all false
def k4 : MCode := (.seq (.ops [⟨(some 8), none, false, (.mov (.const (.bool false)))⟩]) (.seq (.ops [⟨(some 15), none, false, (.mov (.tmp 0))⟩, ⟨(some 16), none, false, (.mov (.tmp 1))⟩, ⟨(some 17), none, false, (.mov (.tmp 2))⟩, ⟨(some 18), none, false, (.mov (.tmp 3))⟩, ⟨(some 19), none, false, (.call false (.func 18) [(.tmp 15), (.tmp 16), (.tmp 17), (.tmp 18)])⟩, ⟨(some 14), none, false, (.mov (.tmp 19))⟩, ⟨(some 20), none, false, (.extract (.tmp 14) 0)⟩, ⟨(some 21), none, false, (.extract (.tmp 14) 1)⟩, ⟨(some 9), none, false, (.mov (.tmp 20))⟩, ⟨(some 10), none, false, (.mov (.tmp 21))⟩]) (.seq (.ops [⟨(some 22), none, false, (.mov (.tmp 0))⟩, ⟨(some 23), none, false, (.mov (.tmp 1))⟩, ⟨(some 24), none, false, (.call false (.func 20) [(.tmp 22), (.tmp 23)])⟩, ⟨(some 25), none, false, (.mov (.tmp 2))⟩, ⟨(some 26), none, false, (.lenStr (.tmp 25))⟩, ⟨(some 27), none, false, (.bin .int .gtr (.tmp 26) (.const (.int .i64 1048576)))⟩, ⟨(some 28), none, false, (.mov (.tmp 27))⟩, ⟨(some 29), (some (28, false)), false, (.mov (.tmp 3))⟩, ⟨(some 30), (some (28, false)), false, (.lenStr (.tmp 29))⟩, ⟨(some 31), (some (28, false)), false, (.bin .int .gtr (.tmp 30) (.const (.int .i64 1048576)))⟩, ⟨(some 32), none, false, (.pick (.tmp 28) (.const (.bool true)) (.tmp 31))⟩, ⟨(some 33), none, false, (.call false (.func 21) [(.tmp 32), (.const (.int .i64 8))])⟩, ⟨(some 34), none, false, (.buildSlice [(.int .i64 0), (.int .i64 0)] 1 2 [(0, (1, (.tmp 24))), (1, (1, (.tmp 33)))])⟩, ⟨(some 35), none, false, (.call false (.func 19) [(.tmp 34)])⟩, ⟨(some 11), none, false, (.mov (.tmp 35))⟩]) (.seq (.seq (.ops [⟨(some 36), none, false, (.mov (.tmp 11))⟩, ⟨(some 37), none, false, (.bin .int .neq (.tmp 36) (.const (.int .i64 0)))⟩, ⟨(some 38), none, false, (.mov (.tmp 37))⟩, ⟨(some 39), (some (38, false)), false, (.mov (.tmp 2))⟩, ⟨(some 40), (some (38, false)), false, (.call false (.func 22) [(.tmp 39)])⟩, ⟨(some 41), (some (38, false)), false, (.un .not (.tmp 40))⟩, ⟨(some 42), none, false, (.pick (.tmp 38) (.const (.bool true)) (.tmp 41))⟩, ⟨(some 43), none, false, (.mov (.tmp 42))⟩, ⟨(some 44), (some (43, false)), false, (.mov (.tmp 3))⟩, ⟨(some 45), (some (43, false)), false, (.call false (.func 22) [(.tmp 44)])⟩, ⟨(some 46), (some (43, false)), false, (.un .not (.tmp 45))⟩, ⟨(some 47), none, false, (.pick (.tmp 43) (.const (.bool true)) (.tmp 46))⟩]) (.cond (.tmp 47) (.seq (.ops [⟨(some 48), none, false, (.call false (.func 17) [])⟩, ⟨(some 49), none, false, (.mov (.tmp 48))⟩, ⟨(some 50), (some (49, true)), false, (.mov (.tmp 9))⟩, ⟨(some 51), (some (49, true)), false, (.mov (.tmp 10))⟩, ⟨(some 52), (some (49, true)), false, (.mov (.tmp 9))⟩, ⟨(some 53), (some (49, true)), false, (.mov (.tmp 11))⟩, ⟨(some 54), (some (49, true)), false, (.call false (.func 23) [(.tmp 50), (.tmp 51), (.tmp 52), (.tmp 53)])⟩, ⟨(some 55), none, false, (.pick (.tmp 49) (.tmp 54) (.const (.bool false)))⟩, ⟨(some 8), none, false, (.mov (.tmp 55))⟩]) .ret) .skip)) (.seq (.ops [⟨(some 57), none, false, (.mov (.tmp 0))⟩, ⟨(some 58), none, false, (.mov (.tmp 1))⟩, ⟨(some 59), none, false, (.mov (.tmp 2))⟩, ⟨(some 60), none, false, (.mov (.tmp 9))⟩, ⟨(some 61), none, false, (.call false (.func 24) [(.tmp 57), (.tmp 58), (.tmp 59), (.tmp 60)])⟩, ⟨(some 56), none, false, (.mov (.tmp 61))⟩, ⟨(some 62), none, false, (.extract (.tmp 56) 0)⟩, ⟨(some 63), none, false, (.extract (.tmp 56) 1)⟩, ⟨(some 12), none, false, (.mov (.tmp 62))⟩, ⟨(some 13), none, false, (.mov (.tmp 63))⟩]) (.seq (.ops [⟨(some 64), none, false, (.call false (.func 17) [])⟩, ⟨(some 65), none, false, (.mov (.tmp 64))⟩, ⟨(some 66), (some (65, true)), false, (.mov (.tmp 9))⟩, ⟨(some 67), (some (65, true)), false, (.mov (.tmp 10))⟩, ⟨(some 68), (some (65, true)), false, (.mov (.tmp 0))⟩, ⟨(some 69), (some (65, true)), false, (.mov (.tmp 1))⟩, ⟨(some 70), (some (65, true)), false, (.mov (.tmp 2))⟩, ⟨(some 71), (some (65, true)), false, (.mov (.tmp 3))⟩, ⟨(some 72), (some (65, true)), false, (.call false (.func 25) [(.tmp 68), (.tmp 69), (.tmp 70), (.tmp 71)])⟩, ⟨(some 73), (some (65, true)), false, (.call false (.func 23) [(.tmp 66), (.tmp 67), (.tmp 72), (.const (.int .i64 0))])⟩, ⟨(some 74), none, false, (.pick (.tmp 65) (.tmp 73) (.const (.bool false)))⟩, ⟨(some 75), none, false, (.mov (.tmp 74))⟩, ⟨(some 76), (some (75, true)), false, (.mov (.tmp 12))⟩, ⟨(some 77), (some (75, true)), false, (.mov (.tmp 3))⟩, ⟨(some 78), (some (75, true)), false, (.bin .str .eql (.tmp 76) (.tmp 77))⟩, ⟨(some 79), none, false, (.pick (.tmp 75) (.tmp 78) (.const (.bool false)))⟩, ⟨(some 80), none, false, (.mov (.tmp 79))⟩, ⟨(some 81), (some (80, true)), false, (.mov (.tmp 13))⟩, ⟨(some 82), (some (80, true)), false, (.bin .int .eql (.tmp 81) (.const (.int .i64 0)))⟩, ⟨(some 83), none, false, (.pick (.tmp 80) (.tmp 82) (.const (.bool false)))⟩, ⟨(some 8), none, false, (.mov (.tmp 83))⟩]) .ret))))))
def m4 : MFun := ⟨k4, [(.tmp 8)]⟩
theorem c4 : compFn Try.prog Try.f4 = some m4 := by kernel_rfl
def k6 : MCode := (.seq (.ops [⟨(some 8), none, false, (.mov (.const (.bool false)))⟩]) (.seq (.ops [⟨(some 16), none, false, (.mov (.tmp 0))⟩, ⟨(some 17), none, false, (.mov (.tmp 1))⟩, ⟨(some 18), none, false, (.mov (.tmp 2))⟩, ⟨(some 19), none, false, (.mov (.tmp 3))⟩, ⟨(some 20), none, false, (.call false (.func 28) [(.tmp 16), (.tmp 17), (.tmp 18), (.tmp 19)])⟩, ⟨(some 15), none, false, (.mov (.tmp 20))⟩, ⟨(some 21), none, false, (.extract (.tmp 15) 0)⟩, ⟨(some 22), none, false, (.extract (.tmp 15) 1)⟩, ⟨(some 9), none, false, (.mov (.tmp 21))⟩, ⟨(some 10), none, false, (.mov (.tmp 22))⟩]) (.seq (.ops [⟨(some 23), none, false, (.mov (.tmp 0))⟩, ⟨(some 24), none, false, (.mov (.tmp 1))⟩, ⟨(some 25), none, false, (.call false (.func 20) [(.tmp 23), (.tmp 24)])⟩, ⟨(some 26), none, false, (.mov (.tmp 2))⟩, ⟨(some 27), none, false, (.call false (.func 14) [(.tmp 26), (.const (.int .i64 0)), (.const (.int .i64 4294967295))])⟩, ⟨(some 28), none, false, (.un .not (.tmp 27))⟩, ⟨(some 29), none, false, (.call false (.func 21) [(.tmp 28), (.const (.int .i64 7))])⟩, ⟨(some 30), none, false, (.mov (.tmp 3))⟩, ⟨(some 31), none, false, (.lenStr (.tmp 30))⟩, ⟨(some 32), none, false, (.bin .int .gtr (.tmp 31) (.const (.int .i64 1048576)))⟩, ⟨(some 33), none, false, (.call false (.func 21) [(.tmp 32), (.const (.int .i64 8))])⟩, ⟨(some 34), none, false, (.mov (.tmp 2))⟩, ⟨(some 35), none, false, (.mov (.tmp 3))⟩, ⟨(some 36), none, false, (.lenStr (.tmp 35))⟩, ⟨(some 37), none, false, (.bin .int .add (.tmp 36) (.const (.int .i64 63)))⟩, ⟨(some 38), none, false, (.bin .int .quo (.tmp 37) (.const (.int .i64 64)))⟩, ⟨(some 39), none, false, (.bin .int .add (.tmp 34) (.tmp 38))⟩, ⟨(some 40), none, false, (.bin .int .gtr (.tmp 39) (.const (.int .i64 4294967296)))⟩, ⟨(some 41), none, false, (.call false (.func 21) [(.tmp 40), (.const (.int .i64 7))])⟩, ⟨(some 42), none, false, (.buildSlice [(.int .i64 0), (.int .i64 0), (.int .i64 0), (.int .i64 0)] 1 4 [(0, (1, (.tmp 25))), (1, (1, (.tmp 29))), (2, (1, (.tmp 33))), (3, (1, (.tmp 41)))])⟩, ⟨(some 43), none, false, (.call false (.func 19) [(.tmp 42)])⟩, ⟨(some 11), none, false, (.mov (.tmp 43))⟩]) (.seq (.ops [⟨(some 45), none, false, (.mov (.tmp 0))⟩, ⟨(some 46), none, false, (.mov (.tmp 3))⟩, ⟨(some 47), none, false, (.call false (.func 29) [(.tmp 45), (.tmp 46)])⟩, ⟨(some 44), none, false, (.mov (.tmp 47))⟩, ⟨(some 48), none, false, (.extract (.tmp 44) 0)⟩, ⟨(some 49), none, false, (.extract (.tmp 44) 1)⟩, ⟨(some 12), none, false, (.mov (.tmp 48))⟩, ⟨(some 13), none, false, (.mov (.tmp 49))⟩]) (.seq (.ops [⟨(some 50), none, false, (.mov (.tmp 0))⟩, ⟨(some 51), none, false, (.lenStr (.tmp 50))⟩, ⟨(some 52), none, false, (.bin .int .neq (.tmp 51) (.const (.int .i64 32)))⟩, ⟨(some 53), none, false, (.call false (.func 21) [(.tmp 52), (.const (.int .i64 6))])⟩, ⟨(some 54), none, false, (.mov (.tmp 3))⟩, ⟨(some 55), none, false, (.lenStr (.tmp 54))⟩, ⟨(some 56), none, false, (.bin .int .gtr (.tmp 55) (.const (.int .i64 2097152)))⟩, ⟨(some 57), none, false, (.call false (.func 21) [(.tmp 56), (.const (.int .i64 8))])⟩, ⟨(some 58), none, false, (.buildSlice [(.int .i64 0), (.int .i64 0)] 1 2 [(0, (1, (.tmp 53))), (1, (1, (.tmp 57)))])⟩, ⟨(some 59), none, false, (.call false (.func 19) [(.tmp 58)])⟩, ⟨(some 14), none, false, (.mov (.tmp 59))⟩]) (.seq (.seq (.ops [⟨(some 60), none, false, (.call false (.func 17) [])⟩, ⟨(some 61), none, false, (.un .not (.tmp 60))⟩, ⟨(some 62), none, false, (.mov (.tmp 61))⟩, ⟨(some 63), (some (62, false)), false, (.mov (.tmp 14))⟩, ⟨(some 64), (some (62, false)), false, (.bin .int .neq (.tmp 63) (.const (.int .i64 0)))⟩, ⟨(some 65), (some (62, false)), false, (.mov (.tmp 64))⟩, ⟨(some 66), (some (65, true)), false, (.mov (.tmp 12))⟩, ⟨(some 67), (some (65, true)), false, (.bin .str .neq (.tmp 66) (.const (.string ⟨#[]⟩)))⟩, ⟨(some 68), (some (65, true)), false, (.mov (.tmp 67))⟩, ⟨(some 69), (some (68, false)), false, (.mov (.tmp 13))⟩, ⟨(some 70), (some (68, false)), false, (.mov (.tmp 14))⟩, ⟨(some 71), (some (68, false)), false, (.bin .int .neq (.tmp 69) (.tmp 70))⟩, ⟨(some 72), (some (65, true)), false, (.pick (.tmp 68) (.const (.bool true)) (.tmp 71))⟩, ⟨(some 73), (some (62, false)), false, (.pick (.tmp 65) (.tmp 72) (.const (.bool false)))⟩, ⟨(some 74), none, false, (.pick (.tmp 62) (.const (.bool true)) (.tmp 73))⟩, ⟨(some 75), none, false, (.mov (.tmp 74))⟩, ⟨(some 76), (some (75, false)), false, (.mov (.tmp 11))⟩, ⟨(some 77), (some (75, false)), false, (.bin .int .neq (.tmp 76) (.const (.int .i64 0)))⟩, ⟨(some 78), (some (75, false)), false, (.mov (.tmp 77))⟩, ⟨(some 79), (some (78, true)), false, (.mov (.tmp 9))⟩, ⟨(some 80), (some (78, true)), false, (.bin .str .neq (.tmp 79) (.const (.string ⟨#[]⟩)))⟩, ⟨(some 81), (some (78, true)), false, (.mov (.tmp 80))⟩, ⟨(some 82), (some (81, false)), false, (.mov (.tmp 10))⟩, ⟨(some 83), (some (81, false)), false, (.mov (.tmp 11))⟩, ⟨(some 84), (some (81, false)), false, (.bin .int .neq (.tmp 82) (.tmp 83))⟩, ⟨(some 85), (some (78, true)), false, (.pick (.tmp 81) (.const (.bool true)) (.tmp 84))⟩, ⟨(some 86), (some (75, false)), false, (.pick (.tmp 78) (.tmp 85) (.const (.bool false)))⟩, ⟨(some 87), none, false, (.pick (.tmp 75) (.const (.bool true)) (.tmp 86))⟩]) (.cond (.tmp 87) (.seq (.ops [⟨(some 8), none, false, (.mov (.const (.bool false)))⟩]) .ret) .skip)) (.seq (.seq (.ops [⟨(some 88), none, false, (.mov (.tmp 3))⟩, ⟨(some 89), none, false, (.call false (.func 22) [(.tmp 88)])⟩, ⟨(some 90), none, false, (.un .not (.tmp 89))⟩]) (.cond (.tmp 90) (.seq (.ops [⟨(some 8), none, false, (.mov (.const (.bool true)))⟩]) .ret) .skip)) (.seq (.seq (.ops [⟨(some 91), none, false, (.mov (.tmp 14))⟩, ⟨(some 92), none, false, (.bin .int .eql (.tmp 91) (.const (.int .i64 0)))⟩, ⟨(some 93), none, false, (.mov (.tmp 92))⟩, ⟨(some 94), (some (93, true)), false, (.mov (.tmp 13))⟩, ⟨(some 95), (some (93, true)), false, (.bin .int .neq (.tmp 94) (.const (.int .i64 0)))⟩, ⟨(some 96), (some (93, true)), false, (.mov (.tmp 95))⟩, ⟨(some 97), (some (96, false)), false, (.mov (.tmp 12))⟩, ⟨(some 98), (some (96, false)), false, (.mov (.tmp 0))⟩, ⟨(some 99), (some (96, false)), false, (.mov (.tmp 3))⟩, ⟨(some 100), (some (96, false)), false, (.call false (.func 30) [(.tmp 98), (.tmp 99)])⟩, ⟨(some 101), (some (96, false)), false, (.bin .str .neq (.tmp 97) (.tmp 100))⟩, ⟨(some 102), (some (93, true)), false, (.pick (.tmp 96) (.const (.bool true)) (.tmp 101))⟩, ⟨(some 103), none, false, (.pick (.tmp 93) (.tmp 102) (.const (.bool false)))⟩]) (.cond (.tmp 103) (.seq (.ops [⟨(some 8), none, false, (.mov (.const (.bool false)))⟩]) .ret) .skip)) (.seq (.ops [⟨(some 104), none, false, (.mov (.tmp 11))⟩, ⟨(some 105), none, false, (.bin .int .neq (.tmp 104) (.const (.int .i64 0)))⟩, ⟨(some 106), none, false, (.mov (.tmp 105))⟩, ⟨(some 107), (some (106, false)), false, (.mov (.tmp 10))⟩, ⟨(some 108), (some (106, false)), false, (.bin .int .eql (.tmp 107) (.const (.int .i64 0)))⟩, ⟨(some 109), (some (106, false)), false, (.mov (.tmp 108))⟩, ⟨(some 110), (some (109, true)), false, (.mov (.tmp 9))⟩, ⟨(some 111), (some (109, true)), false, (.mov (.tmp 0))⟩, ⟨(some 112), (some (109, true)), false, (.mov (.tmp 1))⟩, ⟨(some 113), (some (109, true)), false, (.mov (.tmp 2))⟩, ⟨(some 114), (some (109, true)), false, (.mov (.tmp 3))⟩, ⟨(some 115), (some (109, true)), false, (.call false (.func 31) [(.tmp 111), (.tmp 112), (.tmp 113), (.tmp 114)])⟩, ⟨(some 116), (some (109, true)), false, (.bin .str .eql (.tmp 110) (.tmp 115))⟩, ⟨(some 117), (some (106, false)), false, (.pick (.tmp 109) (.tmp 116) (.const (.bool false)))⟩, ⟨(some 118), none, false, (.pick (.tmp 106) (.const (.bool true)) (.tmp 117))⟩, ⟨(some 8), none, false, (.mov (.tmp 118))⟩]) .ret)))))))))
def k19 : MCode := (.seq (.ops [⟨(some 2), none, false, (.mov (.const (.int .i64 0)))⟩]) (.seq (.seq (.ops [⟨(some 5), none, false, (.mov (.tmp 0))⟩, ⟨(some 6), none, false, (.len (.tmp 5))⟩, ⟨(some 7), none, false, (.mov (.const (.int .i64 0)))⟩]) (.block 0 (.loop (.seq (.ops [⟨(some 8), none, false, (.bin .int .lss (.tmp 7) (.tmp 6))⟩]) (.seq (.cond (.tmp 8) .skip (.exit 0)) (.seq (.block 1 (.seq (.ops [⟨(some 9), none, false, (.idxS 1 (.tmp 5) (.tmp 7))⟩, ⟨(some 10), none, false, (.load false 1 (.tmp 9))⟩, ⟨(some 4), none, false, (.mov (.tmp 10))⟩]) (.seq (.ops [⟨(some 11), none, false, (.mov (.tmp 4))⟩, ⟨(some 12), none, false, (.bin .int .neq (.tmp 11) (.const (.int .i64 0)))⟩]) (.cond (.tmp 12) (.seq (.ops [⟨(some 13), none, false, (.mov (.tmp 4))⟩, ⟨(some 2), none, false, (.mov (.tmp 13))⟩]) .ret) .skip)))) (.ops [⟨(some 14), none, false, (.bin .int .add (.tmp 7) (.const (.int .i64 1)))⟩, ⟨(some 7), none, false, (.mov (.tmp 14))⟩]))))))) (.seq (.ops [⟨(some 2), none, false, (.mov (.const (.int .i64 0)))⟩]) .ret)))
def m19 : MFun := ⟨k19, [(.tmp 2)]⟩
theorem c19 : compFn Try.prog Try.f19 = some m19 := by kernel_rfl
def k20 : MCode := (.seq (.ops [⟨(some 4), none, false, (.mov (.const (.int .i64 0)))⟩]) (.seq (.ops [⟨(some 5), none, false, (.mov (.tmp 0))⟩, ⟨(some 6), none, false, (.lenStr (.tmp 5))⟩, ⟨(some 7), none, false, (.bin .int .neq (.tmp 6) (.const (.int .i64 32)))⟩, ⟨(some 8), none, false, (.mov (.tmp 7))⟩, ⟨(some 9), (some (8, false)), false, (.mov (.tmp 1))⟩, ⟨(some 10), (some (8, false)), false, (.lenStr (.tmp 9))⟩, ⟨(some 11), (some (8, false)), false, (.bin .int .neq (.tmp 10) (.const (.int .i64 12)))⟩, ⟨(some 12), none, false, (.pick (.tmp 8) (.const (.bool true)) (.tmp 11))⟩, ⟨(some 13), none, false, (.call false (.func 21) [(.tmp 12), (.const (.int .i64 6))])⟩, ⟨(some 4), none, false, (.mov (.tmp 13))⟩]) .ret))
def m20 : MFun := ⟨k20, [(.tmp 4)]⟩
def k21 : MCode := (.seq (.ops [⟨(some 4), none, false, (.mov (.const (.int .i64 0)))⟩]) (.seq (.seq (.ops [⟨(some 5), none, false, (.mov (.tmp 0))⟩]) (.cond (.tmp 5) (.seq (.ops [⟨(some 6), none, false, (.mov (.tmp 1))⟩, ⟨(some 4), none, false, (.mov (.tmp 6))⟩]) .ret) .skip)) (.seq (.ops [⟨(some 4), none, false, (.mov (.const (.int .i64 0)))⟩]) .ret)))
def m21 : MFun := ⟨k21, [(.tmp 4)]⟩
theorem c21 : compFn Try.prog Try.f21 = some m21 := by kernel_rfl
def k22 : MCode := (.seq (.ops [⟨(some 2), none, false, (.mov (.const (.bool false)))⟩]) (.seq (.ops [⟨(some 3), none, false, (.mov (.tmp 0))⟩, ⟨(some 4), none, false, (.lenStr (.tmp 3))⟩, ⟨(some 5), none, false, (.bin .int .leq (.tmp 4) (.const (.int .i64 10000)))⟩, ⟨(some 2), none, false, (.mov (.tmp 5))⟩]) .ret))
def m22 : MFun := ⟨k22, [(.tmp 2)]⟩
def k23 : MCode := (.seq (.ops [⟨(some 8), none, false, (.mov (.const (.bool false)))⟩]) (.seq (.seq (.ops [⟨(some 9), none, false, (.mov (.tmp 3))⟩, ⟨(some 10), none, false, (.bin .int .neq (.tmp 9) (.const (.int .i64 0)))⟩]) (.cond (.tmp 10) (.seq (.ops [⟨(some 11), none, false, (.mov (.tmp 0))⟩, ⟨(some 12), none, false, (.bin .str .eql (.tmp 11) (.const (.string ⟨#[]⟩)))⟩, ⟨(some 13), none, false, (.mov (.tmp 12))⟩, ⟨(some 14), (some (13, true)), false, (.mov (.tmp 1))⟩, ⟨(some 15), (some (13, true)), false, (.mov (.tmp 3))⟩, ⟨(some 16), (some (13, true)), false, (.bin .int .eql (.tmp 14) (.tmp 15))⟩, ⟨(some 17), none, false, (.pick (.tmp 13) (.tmp 16) (.const (.bool false)))⟩, ⟨(some 8), none, false, (.mov (.tmp 17))⟩]) .ret) .skip)) (.seq (.ops [⟨(some 18), none, false, (.mov (.tmp 0))⟩, ⟨(some 19), none, false, (.mov (.tmp 2))⟩, ⟨(some 20), none, false, (.bin .str .eql (.tmp 18) (.tmp 19))⟩, ⟨(some 21), none, false, (.mov (.tmp 20))⟩, ⟨(some 22), (some (21, true)), false, (.mov (.tmp 1))⟩, ⟨(some 23), (some (21, true)), false, (.bin .int .eql (.tmp 22) (.const (.int .i64 0)))⟩, ⟨(some 24), none, false, (.pick (.tmp 21) (.tmp 23) (.const (.bool false)))⟩, ⟨(some 8), none, false, (.mov (.tmp 24))⟩]) .ret)))
def m23 : MFun := ⟨k23, [(.tmp 8)]⟩
def k25 : MCode := (.seq (.ops [⟨(some 8), none, false, (.mov (.const (.string ⟨#[]⟩)))⟩]) (.seq (.ops [⟨(some 10), none, false, (.mov (.tmp 0))⟩, ⟨(some 11), none, false, (.mov (.tmp 1))⟩, ⟨(some 12), none, false, (.mov (.tmp 3))⟩, ⟨(some 13), none, false, (.call false (.func 31) [(.tmp 10), (.tmp 11), (.const (.int .i64 1)), (.tmp 12)])⟩, ⟨(some 9), none, false, (.mov (.tmp 13))⟩]) (.seq (.opsD [⟨(some 14), none, false, (.mov (.tmp 9))⟩, ⟨(some 15), none, false, (.mov (.tmp 0))⟩, ⟨(some 16), none, false, (.mov (.tmp 1))⟩, ⟨(some 17), none, false, (.call false (.func 59) [(.tmp 15), (.tmp 16), (.const (.int .u32 0))])⟩, ⟨(some 18), none, false, (.sliceStr (.tmp 17) none (some (.const (.int .i64 32))))⟩, ⟨(some 19), none, false, (.mov (.tmp 2))⟩, ⟨(some 20), none, false, (.call false (.func 60) [(.tmp 19)])⟩, ⟨(some 21), none, false, (.mov (.tmp 9))⟩, ⟨(some 22), none, false, (.call false (.func 60) [(.tmp 21)])⟩, ⟨(some 23), none, false, (.bin .str .add (.tmp 20) (.tmp 22))⟩, ⟨(some 24), none, false, (.mov (.tmp 2))⟩, ⟨(some 25), none, false, (.lenStr (.tmp 24))⟩, ⟨(some 26), none, false, (.call false (.func 61) [(.tmp 25)])⟩, ⟨(some 27), none, false, (.bin .str .add (.tmp 23) (.tmp 26))⟩, ⟨(some 28), none, false, (.mov (.tmp 9))⟩, ⟨(some 29), none, false, (.lenStr (.tmp 28))⟩, ⟨(some 30), none, false, (.call false (.func 61) [(.tmp 29)])⟩, ⟨(some 31), none, false, (.bin .str .add (.tmp 27) (.tmp 30))⟩, ⟨(some 32), none, false, (.call false (.func 30) [(.tmp 18), (.tmp 31)])⟩, ⟨(some 33), none, false, (.bin .str .add (.tmp 14) (.tmp 32))⟩, ⟨(some 8), none, false, (.mov (.tmp 33))⟩]) .ret)))
def m25 : MFun := ⟨k25, [(.tmp 8)]⟩
def k26 : MCode := (.seq (.ops [⟨(some 8), none, false, (.mov (.const (.string ⟨#[]⟩)))⟩, ⟨(some 9), none, false, (.mov (.const (.bool false)))⟩]) (.seq (.ops [⟨(some 12), none, false, (.mov (.tmp 3))⟩, ⟨(some 13), none, false, (.lenStr (.tmp 12))⟩, ⟨(some 14), none, false, (.bin .int .sub (.tmp 13) (.const (.int .i64 16)))⟩, ⟨(some 10), none, false, (.mov (.tmp 14))⟩]) (.seq (.seq (.ops [⟨(some 15), none, false, (.mov (.tmp 10))⟩, ⟨(some 16), none, false, (.bin .int .lss (.tmp 15) (.const (.int .i64 0)))⟩]) (.cond (.tmp 16) (.seq (.ops [⟨(some 8), none, false, (.mov (.const (.string ⟨#[]⟩)))⟩, ⟨(some 9), none, false, (.mov (.const (.bool false)))⟩]) .ret) .skip)) (.seq (.ops [⟨(some 17), none, false, (.mov (.tmp 0))⟩, ⟨(some 18), none, false, (.mov (.tmp 1))⟩, ⟨(some 19), none, false, (.mov (.tmp 3))⟩, ⟨(some 20), none, false, (.mov (.tmp 10))⟩, ⟨(some 21), none, false, (.sliceStr (.tmp 19) none (some (.tmp 20)))⟩, ⟨(some 22), none, false, (.call false (.func 31) [(.tmp 17), (.tmp 18), (.const (.int .i64 1)), (.tmp 21)])⟩, ⟨(some 11), none, false, (.mov (.tmp 22))⟩]) (.seq (.ops [⟨(some 23), none, false, (.mov (.tmp 11))⟩, ⟨(some 24), none, false, (.mov (.tmp 0))⟩, ⟨(some 25), none, false, (.mov (.tmp 1))⟩, ⟨(some 26), none, false, (.mov (.tmp 2))⟩, ⟨(some 27), none, false, (.mov (.tmp 11))⟩, ⟨(some 28), none, false, (.call false (.func 25) [(.tmp 24), (.tmp 25), (.tmp 26), (.tmp 27)])⟩, ⟨(some 29), none, false, (.mov (.tmp 3))⟩, ⟨(some 30), none, false, (.bin .str .eql (.tmp 28) (.tmp 29))⟩, ⟨(some 8), none, false, (.mov (.tmp 23))⟩, ⟨(some 9), none, false, (.mov (.tmp 30))⟩]) .ret)))))
def m26 : MFun := ⟨k26, [(.tmp 8), (.tmp 9)]⟩
def k27 : MCode := (.seq (.ops [⟨(some 8), none, false, (.mov (.const (.bool false)))⟩]) (.seq (.seq (.ops [⟨(some 9), none, false, (.mov (.tmp 3))⟩, ⟨(some 10), none, false, (.un .not (.tmp 9))⟩]) (.cond (.tmp 10) (.seq (.ops [⟨(some 11), none, false, (.mov (.tmp 0))⟩, ⟨(some 12), none, false, (.bin .str .eql (.tmp 11) (.const (.string ⟨#[]⟩)))⟩, ⟨(some 13), none, false, (.mov (.tmp 12))⟩, ⟨(some 14), (some (13, true)), false, (.mov (.tmp 1))⟩, ⟨(some 15), (some (13, true)), false, (.bin .int .eql (.tmp 14) (.const (.int .i64 19)))⟩, ⟨(some 16), none, false, (.pick (.tmp 13) (.tmp 15) (.const (.bool false)))⟩, ⟨(some 8), none, false, (.mov (.tmp 16))⟩]) .ret) .skip)) (.seq (.ops [⟨(some 17), none, false, (.mov (.tmp 0))⟩, ⟨(some 18), none, false, (.mov (.tmp 2))⟩, ⟨(some 19), none, false, (.bin .str .eql (.tmp 17) (.tmp 18))⟩, ⟨(some 20), none, false, (.mov (.tmp 19))⟩, ⟨(some 21), (some (20, true)), false, (.mov (.tmp 1))⟩, ⟨(some 22), (some (20, true)), false, (.bin .int .eql (.tmp 21) (.const (.int .i64 0)))⟩, ⟨(some 23), none, false, (.pick (.tmp 20) (.tmp 22) (.const (.bool false)))⟩, ⟨(some 8), none, false, (.mov (.tmp 23))⟩]) .ret)))
def m27 : MFun := ⟨k27, [(.tmp 8)]⟩
def k60 : MCode := (.seq (.ops [⟨(some 2), none, false, (.mov (.const (.string ⟨#[]⟩)))⟩]) (.seq (.block 0 (.loop (.seq (.seq (.ops [⟨(some 3), none, false, (.mov (.tmp 0))⟩, ⟨(some 4), none, false, (.lenStr (.tmp 3))⟩, ⟨(some 5), none, false, (.bin .int .rem (.tmp 4) (.const (.int .i64 16)))⟩, ⟨(some 6), none, false, (.bin .int .neq (.tmp 5) (.const (.int .i64 0)))⟩]) (.cond (.tmp 6) .skip (.exit 0))) (.block 1 (.ops [⟨(some 7), none, false, (.mov (.tmp 0))⟩, ⟨(some 8), none, false, (.bin .str .add (.tmp 7) (.const (.string ⟨#[0]⟩)))⟩, ⟨(some 0), none, false, (.mov (.tmp 8))⟩]))))) (.seq (.ops [⟨(some 9), none, false, (.mov (.tmp 0))⟩, ⟨(some 2), none, false, (.mov (.tmp 9))⟩]) .ret)))
def m60 : MFun := ⟨k60, [(.tmp 2)]⟩
def k61 : MCode := (.seq (.ops [⟨(some 2), none, false, (.mov (.const (.string ⟨#[]⟩)))⟩]) (.seq (.ops [⟨(some 3), none, false, (.mov (.tmp 0))⟩, ⟨(some 4), none, false, (.conv .u32 (.tmp 3))⟩, ⟨(some 5), none, false, (.call false (.func 91) [(.tmp 4)])⟩, ⟨(some 6), none, false, (.mov (.tmp 0))⟩, ⟨(some 7), none, false, (.bin .int .shr (.tmp 6) (.const (.int .u64 32)))⟩, ⟨(some 8), none, false, (.conv .u32 (.tmp 7))⟩, ⟨(some 9), none, false, (.call false (.func 91) [(.tmp 8)])⟩, ⟨(some 10), none, false, (.bin .str .add (.tmp 5) (.tmp 9))⟩, ⟨(some 2), none, false, (.mov (.tmp 10))⟩]) .ret))
def m61 : MFun := ⟨k61, [(.tmp 2)]⟩
def k24 : MCode := (.seq (.ops [⟨(some 8), none, false, (.mov (.const (.string ⟨#[]⟩)))⟩, ⟨(some 9), none, false, (.mov (.const (.int .i64 0)))⟩]) (.seq (.seq (.ops [⟨(some 13), none, false, (.mov (.tmp 0))⟩, ⟨(some 14), none, false, (.mov (.tmp 1))⟩, ⟨(some 15), none, false, (.call false (.func 56) [(.tmp 13), (.tmp 14)])⟩, ⟨(some 10), none, false, (.mov (.tmp 15))⟩]) (.seq (.ops [⟨(some 16), none, false, (.mov (.tmp 10))⟩, ⟨(some 17), none, false, (.bin .int .neq (.tmp 16) (.const (.int .i64 0)))⟩]) (.cond (.tmp 17) (.seq (.ops [⟨(some 18), none, false, (.mov (.tmp 10))⟩, ⟨(some 8), none, false, (.mov (.const (.string ⟨#[]⟩)))⟩, ⟨(some 9), none, false, (.mov (.tmp 18))⟩]) .ret) .skip))) (.seq (.seq (.ops [⟨(some 19), none, false, (.mov (.tmp 2))⟩, ⟨(some 20), none, false, (.lenStr (.tmp 19))⟩, ⟨(some 21), none, false, (.bin .int .gtr (.tmp 20) (.const (.int .i64 1048576)))⟩, ⟨(some 22), none, false, (.mov (.tmp 21))⟩, ⟨(some 23), (some (22, false)), false, (.mov (.tmp 3))⟩, ⟨(some 24), (some (22, false)), false, (.lenStr (.tmp 23))⟩, ⟨(some 25), (some (22, false)), false, (.bin .int .gtr (.tmp 24) (.const (.int .i64 1048592)))⟩, ⟨(some 26), none, false, (.pick (.tmp 22) (.const (.bool true)) (.tmp 25))⟩]) (.cond (.tmp 26) (.seq (.ops [⟨(some 8), none, false, (.mov (.const (.string ⟨#[]⟩)))⟩, ⟨(some 9), none, false, (.mov (.const (.int .i64 8)))⟩]) .ret) .skip)) (.seq (.ops [⟨(some 28), none, false, (.mov (.tmp 0))⟩, ⟨(some 29), none, false, (.mov (.tmp 1))⟩, ⟨(some 30), none, false, (.mov (.tmp 2))⟩, ⟨(some 31), none, false, (.mov (.tmp 3))⟩, ⟨(some 32), none, false, (.call false (.func 58) [(.tmp 28), (.tmp 29), (.tmp 30), (.tmp 31)])⟩, ⟨(some 27), none, false, (.mov (.tmp 32))⟩, ⟨(some 33), none, false, (.extract (.tmp 27) 0)⟩, ⟨(some 34), none, false, (.extract (.tmp 27) 1)⟩, ⟨(some 11), none, false, (.mov (.tmp 33))⟩, ⟨(some 12), none, false, (.mov (.tmp 34))⟩]) (.seq (.seq (.ops [⟨(some 35), none, false, (.mov (.tmp 12))⟩, ⟨(some 36), none, false, (.un .not (.tmp 35))⟩]) (.cond (.tmp 36) (.seq (.ops [⟨(some 8), none, false, (.mov (.const (.string ⟨#[]⟩)))⟩, ⟨(some 9), none, false, (.mov (.const (.int .i64 19)))⟩]) .ret) .skip)) (.seq (.ops [⟨(some 37), none, false, (.mov (.tmp 11))⟩, ⟨(some 8), none, false, (.mov (.tmp 37))⟩, ⟨(some 9), none, false, (.mov (.const (.int .i64 0)))⟩]) .ret))))))
def m24 : MFun := ⟨k24, [(.tmp 8), (.tmp 9)]⟩
def k5 : MCode := (.seq (.ops [⟨(some 14), none, false, (.mov (.const (.bool false)))⟩]) (.seq (.ops [⟨(some 27), none, false, (.mov (.tmp 0))⟩, ⟨(some 28), none, false, (.mov (.tmp 1))⟩, ⟨(some 29), none, false, (.mov (.tmp 2))⟩, ⟨(some 30), none, false, (.mov (.tmp 3))⟩, ⟨(some 31), none, false, (.call false (.func 18) [(.tmp 27), (.tmp 28), (.tmp 29), (.tmp 30)])⟩, ⟨(some 26), none, false, (.mov (.tmp 31))⟩, ⟨(some 32), none, false, (.extract (.tmp 26) 0)⟩, ⟨(some 33), none, false, (.extract (.tmp 26) 1)⟩, ⟨(some 15), none, false, (.mov (.tmp 32))⟩, ⟨(some 16), none, false, (.mov (.tmp 33))⟩]) (.seq (.seq (.ops [⟨(some 34), none, false, (.call false (.func 17) [])⟩, ⟨(some 35), none, false, (.un .not (.tmp 34))⟩, ⟨(some 36), none, false, (.mov (.tmp 35))⟩, ⟨(some 37), (some (36, false)), false, (.mov (.tmp 16))⟩, ⟨(some 38), (some (36, false)), false, (.bin .int .neq (.tmp 37) (.const (.int .i64 0)))⟩, ⟨(some 39), none, false, (.pick (.tmp 36) (.const (.bool true)) (.tmp 38))⟩, ⟨(some 40), none, false, (.mov (.tmp 39))⟩, ⟨(some 41), (some (40, false)), false, (.mov (.tmp 5))⟩, ⟨(some 42), (some (40, false)), false, (.bin .int .eql (.tmp 41) (.const (.int .u8 0)))⟩, ⟨(some 43), none, false, (.pick (.tmp 40) (.const (.bool true)) (.tmp 42))⟩, ⟨(some 44), none, false, (.mov (.tmp 43))⟩, ⟨(some 45), (some (44, false)), false, (.mov (.tmp 3))⟩, ⟨(some 46), (some (44, false)), false, (.call false (.func 22) [(.tmp 45)])⟩, ⟨(some 47), (some (44, false)), false, (.un .not (.tmp 46))⟩, ⟨(some 48), none, false, (.pick (.tmp 44) (.const (.bool true)) (.tmp 47))⟩, ⟨(some 49), none, false, (.mov (.tmp 48))⟩, ⟨(some 50), (some (49, false)), false, (.mov (.tmp 2))⟩, ⟨(some 51), (some (49, false)), false, (.call false (.func 22) [(.tmp 50)])⟩, ⟨(some 52), (some (49, false)), false, (.un .not (.tmp 51))⟩, ⟨(some 53), none, false, (.pick (.tmp 49) (.const (.bool true)) (.tmp 52))⟩]) (.cond (.tmp 53) (.seq (.ops [⟨(some 54), none, false, (.call false (.func 17) [])⟩, ⟨(some 14), none, false, (.mov (.tmp 54))⟩]) .ret) .skip)) (.seq (.ops [⟨(some 55), none, false, (.mov (.tmp 15))⟩, ⟨(some 56), none, false, (.toBytes (.tmp 55))⟩, ⟨(some 17), none, false, (.mov (.tmp 56))⟩]) (.seq (.ops [⟨(some 57), none, false, (.mov (.tmp 4))⟩, ⟨(some 58), none, false, (.mov (.tmp 17))⟩, ⟨(some 59), none, false, (.len (.tmp 58))⟩, ⟨(some 60), none, false, (.bin .int .rem (.tmp 57) (.tmp 59))⟩, ⟨(some 61), none, false, (.mov (.tmp 17))⟩, ⟨(some 62), none, false, (.len (.tmp 61))⟩, ⟨(some 63), none, false, (.bin .int .add (.tmp 60) (.tmp 62))⟩, ⟨(some 64), none, false, (.mov (.tmp 17))⟩, ⟨(some 65), none, false, (.len (.tmp 64))⟩, ⟨(some 66), none, false, (.bin .int .rem (.tmp 63) (.tmp 65))⟩, ⟨(some 4), none, false, (.mov (.tmp 66))⟩]) (.seq (.seq (.ops [⟨(some 67), none, false, (.mov (.tmp 6))⟩]) (.cond (.tmp 67) (.ops [⟨(some 68), none, false, (.mov (.tmp 17))⟩, ⟨(some 69), none, false, (.mov (.tmp 4))⟩, ⟨(some 70), none, false, (.sliceS 1 (.tmp 68) none (some (.tmp 69)))⟩, ⟨(some 17), none, false, (.mov (.tmp 70))⟩]) (.ops [⟨(some 71), none, false, (.mov (.tmp 17))⟩, ⟨(some 72), none, false, (.mov (.tmp 4))⟩, ⟨(some 73), none, false, (.idxS 1 (.tmp 71) (.tmp 72))⟩, ⟨(some 74), none, false, (.load false 1 (.tmp 73))⟩, ⟨(some 75), none, false, (.mov (.tmp 5))⟩, ⟨(some 76), none, false, (.bin .int .xor (.tmp 74) (.tmp 75))⟩, ⟨(some 77), none, false, (.idxS 1 (.tmp 71) (.tmp 72))⟩, ⟨none, none, false, (.store 1 (.tmp 77) (.tmp 76))⟩]))) (.seq (.ops [⟨(some 79), none, false, (.mov (.tmp 0))⟩, ⟨(some 80), none, false, (.mov (.tmp 1))⟩, ⟨(some 81), none, false, (.mov (.tmp 2))⟩, ⟨(some 82), none, false, (.mov (.tmp 17))⟩, ⟨(some 83), none, false, (.toStr (.tmp 82))⟩, ⟨(some 84), none, false, (.call false (.func 24) [(.tmp 79), (.tmp 80), (.tmp 81), (.tmp 83)])⟩, ⟨(some 78), none, false, (.mov (.tmp 84))⟩, ⟨(some 85), none, false, (.extract (.tmp 78) 0)⟩, ⟨(some 86), none, false, (.extract (.tmp 78) 1)⟩, ⟨(some 18), none, false, (.mov (.tmp 85))⟩, ⟨(some 19), none, false, (.mov (.tmp 86))⟩]) (.seq (.ops [⟨(some 88), none, false, (.mov (.tmp 0))⟩, ⟨(some 89), none, false, (.mov (.tmp 1))⟩, ⟨(some 90), none, false, (.mov (.tmp 2))⟩, ⟨(some 91), none, false, (.bin .str .add (.tmp 90) (.const (.string ⟨#[120]⟩)))⟩, ⟨(some 92), none, false, (.mov (.tmp 15))⟩, ⟨(some 93), none, false, (.call false (.func 24) [(.tmp 88), (.tmp 89), (.tmp 91), (.tmp 92)])⟩, ⟨(some 87), none, false, (.mov (.tmp 93))⟩, ⟨(some 94), none, false, (.extract (.tmp 87) 0)⟩, ⟨(some 95), none, false, (.extract (.tmp 87) 1)⟩, ⟨(some 20), none, false, (.mov (.tmp 94))⟩, ⟨(some 21), none, false, (.mov (.tmp 95))⟩]) (.seq (.ops [⟨(some 97), none, false, (.mov (.tmp 0))⟩, ⟨(some 98), none, false, (.mov (.tmp 1))⟩, ⟨(some 99), none, false, (.mov (.tmp 2))⟩, ⟨(some 100), none, false, (.mov (.tmp 17))⟩, ⟨(some 101), none, false, (.toStr (.tmp 100))⟩, ⟨(some 102), none, false, (.call false (.func 26) [(.tmp 97), (.tmp 98), (.tmp 99), (.tmp 101)])⟩, ⟨(some 96), none, false, (.mov (.tmp 102))⟩, ⟨(some 103), none, false, (.extract (.tmp 96) 0)⟩, ⟨(some 104), none, false, (.extract (.tmp 96) 1)⟩, ⟨(some 22), none, false, (.mov (.tmp 103))⟩, ⟨(some 23), none, false, (.mov (.tmp 104))⟩]) (.seq (.ops [⟨(some 106), none, false, (.mov (.tmp 0))⟩, ⟨(some 107), none, false, (.mov (.tmp 1))⟩, ⟨(some 108), none, false, (.mov (.tmp 2))⟩, ⟨(some 109), none, false, (.bin .str .add (.tmp 108) (.const (.string ⟨#[120]⟩)))⟩, ⟨(some 110), none, false, (.mov (.tmp 15))⟩, ⟨(some 111), none, false, (.call false (.func 26) [(.tmp 106), (.tmp 107), (.tmp 109), (.tmp 110)])⟩, ⟨(some 105), none, false, (.mov (.tmp 111))⟩, ⟨(some 112), none, false, (.extract (.tmp 105) 0)⟩, ⟨(some 113), none, false, (.extract (.tmp 105) 1)⟩, ⟨(some 24), none, false, (.mov (.tmp 112))⟩, ⟨(some 25), none, false, (.mov (.tmp 113))⟩]) (.seq (.ops [⟨(some 114), none, false, (.mov (.tmp 18))⟩, ⟨(some 115), none, false, (.mov (.tmp 19))⟩, ⟨(some 116), none, false, (.mov (.tmp 22))⟩, ⟨(some 117), none, false, (.mov (.tmp 23))⟩, ⟨(some 118), none, false, (.call false (.func 27) [(.tmp 114), (.tmp 115), (.tmp 116), (.tmp 117)])⟩, ⟨(some 119), none, false, (.mov (.tmp 118))⟩, ⟨(some 120), (some (119, true)), false, (.mov (.tmp 20))⟩, ⟨(some 121), (some (119, true)), false, (.mov (.tmp 21))⟩, ⟨(some 122), (some (119, true)), false, (.mov (.tmp 24))⟩, ⟨(some 123), (some (119, true)), false, (.mov (.tmp 25))⟩, ⟨(some 124), (some (119, true)), false, (.call false (.func 27) [(.tmp 120), (.tmp 121), (.tmp 122), (.tmp 123)])⟩, ⟨(some 125), none, false, (.pick (.tmp 119) (.tmp 124) (.const (.bool false)))⟩, ⟨(some 14), none, false, (.mov (.tmp 125))⟩]) .ret)))))))))))
def m5 : MFun := ⟨k5, [(.tmp 14)]⟩
theorem c5 : compFn Try.prog Try.f5 = some m5 := by kernel_rfl
end Go.Proofs.Ytildhljhbbhmmaa.AM
/- Compiled functions. WRITTEN BY A PROGRAM (mk.py). -/
namespace Go.Proofs.Ytildhljhbbhmmaa.AM
open Go
set_option maxRecDepth 100000
set_option linter.all false
def k90 : MCode := (.seq (.ops [⟨(some 8), none, false, (.alloc [(.int .u8 0), (.int .u8 0), (.int .u8 0), (.int .u8 0), (.int .u8 0), (.int .u8 0), (.int .u8 0), (.int .u8 0), (.int .u8 0), (.int .u8 0), (.int .u8 0), (.int .u8 0), (.int .u8 0), (.int .u8 0), (.int .u8 0), (.int .u8 0)] 1)⟩]) (.seq (.ops [⟨(some 12), none, false, (.mov (.tmp 0))⟩, ⟨(some 13), none, false, (.mov (.tmp 1))⟩, ⟨(some 14), none, false, (.call false (.func 95) [(.tmp 12), (.tmp 13), (.const (.int .u32 0))])⟩, ⟨(some 9), none, false, (.alloc [(.int .u8 0), (.int .u8 0), (.int .u8 0), (.int .u8 0), (.int .u8 0), (.int .u8 0), (.int .u8 0), (.int .u8 0), (.int .u8 0), (.int .u8 0), (.int .u8 0), (.int .u8 0), (.int .u8 0), (.int .u8 0), (.int .u8 0), (.int .u8 0), (.int .u8 0), (.int .u8 0), (.int .u8 0), (.int .u8 0), (.int .u8 0), (.int .u8 0), (.int .u8 0), (.int .u8 0), (.int .u8 0), (.int .u8 0), (.int .u8 0), (.int .u8 0), (.int .u8 0), (.int .u8 0), (.int .u8 0), (.int .u8 0), (.int .u8 0), (.int .u8 0), (.int .u8 0), (.int .u8 0), (.int .u8 0), (.int .u8 0), (.int .u8 0), (.int .u8 0), (.int .u8 0), (.int .u8 0), (.int .u8 0), (.int .u8 0), (.int .u8 0), (.int .u8 0), (.int .u8 0), (.int .u8 0), (.int .u8 0), (.int .u8 0), (.int .u8 0), (.int .u8 0), (.int .u8 0), (.int .u8 0), (.int .u8 0), (.int .u8 0), (.int .u8 0), (.int .u8 0), (.int .u8 0), (.int .u8 0), (.int .u8 0), (.int .u8 0), (.int .u8 0), (.int .u8 0)] 1)⟩, ⟨none, none, false, (.store 64 (.tmp 9) (.tmp 14))⟩]) (.seq (.ops [⟨(some 10), none, false, (.mov (.func 111))⟩]) (.seq (.ops [⟨(some 11), none, false, (.mov (.func 112))⟩]) (.seq (.opsD [⟨(some 15), none, false, (.sliceA 64 1 (.tmp 9) none (some (.const (.int .i64 32))))⟩, ⟨(some 16), none, false, (.toStr (.tmp 15))⟩, ⟨(some 17), none, false, (.mov (.tmp 2))⟩, ⟨(some 18), none, false, (.mov (.tmp 10))⟩, ⟨(some 19), none, false, (.mov (.tmp 2))⟩, ⟨(some 20), none, false, (.call true (.tmp 18) [(.tmp 19)])⟩, ⟨(some 21), none, false, (.mov (.tmp 3))⟩, ⟨(some 22), none, false, (.mov (.tmp 10))⟩, ⟨(some 23), none, false, (.mov (.tmp 3))⟩, ⟨(some 24), none, false, (.call true (.tmp 22) [(.tmp 23)])⟩, ⟨(some 25), none, false, (.mov (.tmp 11))⟩, ⟨(some 26), none, false, (.mov (.tmp 2))⟩, ⟨(some 27), none, false, (.lenStr (.tmp 26))⟩, ⟨(some 28), none, false, (.call true (.tmp 25) [(.tmp 27)])⟩, ⟨(some 29), none, false, (.mov (.tmp 11))⟩, ⟨(some 30), none, false, (.mov (.tmp 3))⟩, ⟨(some 31), none, false, (.lenStr (.tmp 30))⟩, ⟨(some 32), none, false, (.call true (.tmp 29) [(.tmp 31)])⟩, ⟨(some 33), none, false, (.buildSlice [(.string ⟨#[]⟩), (.string ⟨#[]⟩), (.string ⟨#[]⟩), (.string ⟨#[]⟩), (.string ⟨#[]⟩), (.string ⟨#[]⟩)] 1 6 [(0, (1, (.tmp 17))), (1, (1, (.tmp 20))), (2, (1, (.tmp 21))), (3, (1, (.tmp 24))), (4, (1, (.tmp 28))), (5, (1, (.tmp 32)))])⟩, ⟨(some 34), none, false, (.call true (.func 113) [(.tmp 33)])⟩, ⟨(some 35), none, false, (.call false (.func 63) [(.tmp 16), (.tmp 34)])⟩, ⟨none, none, false, (.store 16 (.tmp 8) (.tmp 35))⟩]) .ret)))))
def m90 : MFun := ⟨k90, [(.cell 8 true 16)]⟩
theorem c90 : compFn Try.prog Try.f90 = some m90 := by kernel_rfl
def k111 : MCode := (.seq (.ops [⟨(some 2), none, false, (.mov (.const (.string ⟨#[]⟩)))⟩]) (.seq (.ops [⟨(some 3), none, false, (.mov (.tmp 0))⟩, ⟨(some 4), none, false, (.lenStr (.tmp 3))⟩, ⟨(some 5), none, false, (.bin .int .rem (.tmp 4) (.const (.int .i64 16)))⟩, ⟨(some 6), none, false, (.bin .int .sub (.const (.int .i64 16)) (.tmp 5))⟩, ⟨(some 7), none, false, (.bin .int .rem (.tmp 6) (.const (.int .i64 16)))⟩, ⟨(some 8), none, false, (.call false (.func 55) [(.const (.string ⟨#[0]⟩)), (.tmp 7)])⟩, ⟨(some 2), none, false, (.mov (.tmp 8))⟩]) .ret))
def m111 : MFun := ⟨k111, [(.tmp 2)]⟩
theorem c111 : compFn Try.prog Try.f111 = some m111 := by kernel_rfl
def k112 : MCode := (.seq (.ops [⟨(some 2), none, false, (.mov (.const (.string ⟨#[]⟩)))⟩]) (.seq (.ops [⟨(some 5), none, false, (.mkSlice [(.int .u8 0)] 1 1 (.const (.int .i64 8)) (.const (.int .i64 8)))⟩, ⟨(some 3), none, false, (.mov (.tmp 5))⟩]) (.seq (.seq (.ops [⟨(some 6), none, false, (.mov (.tmp 3))⟩, ⟨(some 7), none, false, (.len (.tmp 6))⟩, ⟨(some 8), none, false, (.mov (.const (.int .i64 0)))⟩]) (.block 0 (.loop (.seq (.ops [⟨(some 9), none, false, (.bin .int .lss (.tmp 8) (.tmp 7))⟩]) (.seq (.cond (.tmp 9) .skip (.exit 0)) (.seq (.block 1 (.seq (.ops [⟨(some 10), none, false, (.mov (.tmp 8))⟩, ⟨(some 4), none, false, (.mov (.tmp 10))⟩]) (.ops [⟨(some 11), none, false, (.mov (.tmp 3))⟩, ⟨(some 12), none, false, (.mov (.tmp 4))⟩, ⟨(some 13), none, false, (.mov (.tmp 0))⟩, ⟨(some 14), none, false, (.mov (.tmp 4))⟩, ⟨(some 15), none, false, (.bin .int .mul (.const (.int .i64 8)) (.tmp 14))⟩, ⟨(some 16), none, false, (.bin .int .shr (.tmp 13) (.tmp 15))⟩, ⟨(some 17), none, false, (.conv .u8 (.tmp 16))⟩, ⟨(some 18), none, false, (.idxS 1 (.tmp 11) (.tmp 12))⟩, ⟨none, none, false, (.store 1 (.tmp 18) (.tmp 17))⟩]))) (.ops [⟨(some 19), none, false, (.bin .int .add (.tmp 8) (.const (.int .i64 1)))⟩, ⟨(some 8), none, false, (.mov (.tmp 19))⟩]))))))) (.seq (.ops [⟨(some 20), none, false, (.mov (.tmp 3))⟩, ⟨(some 21), none, false, (.toStr (.tmp 20))⟩, ⟨(some 2), none, false, (.mov (.tmp 21))⟩]) .ret))))
def m112 : MFun := ⟨k112, [(.tmp 2)]⟩
theorem c112 : compFn Try.prog Try.f112 = some m112 := by kernel_rfl
def k113 : MCode := (.seq (.ops [⟨(some 2), none, false, (.mov (.const (.string ⟨#[]⟩)))⟩]) (.seq (.ops [⟨(some 3), none, false, (.mov (.tmp 0))⟩, ⟨(some 4), none, false, (.call false (.func 49) [(.tmp 3), (.const (.string ⟨#[]⟩))])⟩, ⟨(some 2), none, false, (.mov (.tmp 4))⟩]) .ret))
def m113 : MFun := ⟨k113, [(.tmp 2)]⟩
theorem c113 : compFn Try.prog Try.f113 = some m113 := by kernel_rfl
def k57 : MCode := (.seq (.ops [⟨(some 8), none, false, (.mov (.const (.string ⟨#[]⟩)))⟩]) (.seq (.ops [⟨(some 11), none, false, (.mov (.tmp 0))⟩, ⟨(some 12), none, false, (.mov (.tmp 1))⟩, ⟨(some 13), none, false, (.mov (.tmp 3))⟩, ⟨(some 14), none, false, (.call false (.func 62) [(.tmp 11), (.tmp 12), (.const (.int .u32 1)), (.tmp 13)])⟩, ⟨(some 9), none, false, (.mov (.tmp 14))⟩]) (.seq (.ops [⟨(some 15), none, false, (.mov (.tmp 0))⟩, ⟨(some 16), none, false, (.mov (.tmp 1))⟩, ⟨(some 17), none, false, (.mov (.tmp 2))⟩, ⟨(some 18), none, false, (.mov (.tmp 9))⟩, ⟨(some 19), none, false, (.call false (.func 90) [(.tmp 15), (.tmp 16), (.tmp 17), (.tmp 18)])⟩, ⟨(some 10), none, false, (.alloc [(.int .u8 0), (.int .u8 0), (.int .u8 0), (.int .u8 0), (.int .u8 0), (.int .u8 0), (.int .u8 0), (.int .u8 0), (.int .u8 0), (.int .u8 0), (.int .u8 0), (.int .u8 0), (.int .u8 0), (.int .u8 0), (.int .u8 0), (.int .u8 0)] 1)⟩, ⟨none, none, false, (.store 16 (.tmp 10) (.tmp 19))⟩]) (.seq (.ops [⟨(some 20), none, false, (.mov (.tmp 9))⟩, ⟨(some 21), none, false, (.sliceA 16 1 (.tmp 10) none none)⟩, ⟨(some 22), none, false, (.toStr (.tmp 21))⟩, ⟨(some 23), none, false, (.bin .str .add (.tmp 20) (.tmp 22))⟩, ⟨(some 8), none, false, (.mov (.tmp 23))⟩]) .ret))))
def m57 : MFun := ⟨k57, [(.tmp 8)]⟩
theorem c57 : compFn Try.prog Try.f57 = some m57 := by kernel_rfl
def k18 : MCode := (.seq (.ops [⟨(some 8), none, false, (.mov (.const (.string ⟨#[]⟩)))⟩, ⟨(some 9), none, false, (.mov (.const (.int .i64 0)))⟩]) (.seq (.seq (.ops [⟨(some 11), none, false, (.mov (.tmp 0))⟩, ⟨(some 12), none, false, (.mov (.tmp 1))⟩, ⟨(some 13), none, false, (.call false (.func 56) [(.tmp 11), (.tmp 12)])⟩, ⟨(some 10), none, false, (.mov (.tmp 13))⟩]) (.seq (.ops [⟨(some 14), none, false, (.mov (.tmp 10))⟩, ⟨(some 15), none, false, (.bin .int .neq (.tmp 14) (.const (.int .i64 0)))⟩]) (.cond (.tmp 15) (.seq (.ops [⟨(some 16), none, false, (.mov (.tmp 10))⟩, ⟨(some 8), none, false, (.mov (.const (.string ⟨#[]⟩)))⟩, ⟨(some 9), none, false, (.mov (.tmp 16))⟩]) .ret) .skip))) (.seq (.seq (.ops [⟨(some 17), none, false, (.mov (.tmp 2))⟩, ⟨(some 18), none, false, (.lenStr (.tmp 17))⟩, ⟨(some 19), none, false, (.bin .int .gtr (.tmp 18) (.const (.int .i64 1048576)))⟩, ⟨(some 20), none, false, (.mov (.tmp 19))⟩, ⟨(some 21), (some (20, false)), false, (.mov (.tmp 3))⟩, ⟨(some 22), (some (20, false)), false, (.lenStr (.tmp 21))⟩, ⟨(some 23), (some (20, false)), false, (.bin .int .gtr (.tmp 22) (.const (.int .i64 1048576)))⟩, ⟨(some 24), none, false, (.pick (.tmp 20) (.const (.bool true)) (.tmp 23))⟩]) (.cond (.tmp 24) (.seq (.ops [⟨(some 8), none, false, (.mov (.const (.string ⟨#[]⟩)))⟩, ⟨(some 9), none, false, (.mov (.const (.int .i64 8)))⟩]) .ret) .skip)) (.seq (.ops [⟨(some 25), none, false, (.mov (.tmp 0))⟩, ⟨(some 26), none, false, (.mov (.tmp 1))⟩, ⟨(some 27), none, false, (.mov (.tmp 2))⟩, ⟨(some 28), none, false, (.mov (.tmp 3))⟩, ⟨(some 29), none, false, (.call false (.func 57) [(.tmp 25), (.tmp 26), (.tmp 27), (.tmp 28)])⟩, ⟨(some 8), none, false, (.mov (.tmp 29))⟩, ⟨(some 9), none, false, (.mov (.const (.int .i64 0)))⟩]) .ret))))
def m18 : MFun := ⟨k18, [(.tmp 8), (.tmp 9)]⟩
theorem c18 : compFn Try.prog Try.f18 = some m18 := by kernel_rfl
def k17 : MCode := (.seq (.ops [⟨(some 0), none, false, (.mov (.const (.bool false)))⟩]) (.seq (.ops [⟨(some 4), none, false, (.call false (.func 55) [(.const (.string ⟨#[107]⟩)), (.const (.int .i64 32))])⟩, ⟨(some 5), none, false, (.call false (.func 55) [(.const (.string ⟨#[110]⟩)), (.const (.int .i64 12))])⟩, ⟨(some 6), none, false, (.call false (.func 18) [(.tmp 4), (.tmp 5), (.const (.string ⟨#[]⟩)), (.const (.string ⟨#[116, 101, 120, 116]⟩))])⟩, ⟨(some 3), none, false, (.mov (.tmp 6))⟩, ⟨(some 7), none, false, (.extract (.tmp 3) 0)⟩, ⟨(some 8), none, false, (.extract (.tmp 3) 1)⟩, ⟨(some 1), none, false, (.mov (.tmp 7))⟩, ⟨(some 2), none, false, (.mov (.tmp 8))⟩]) (.seq (.ops [⟨(some 9), none, false, (.mov (.tmp 2))⟩, ⟨(some 10), none, false, (.bin .int .eql (.tmp 9) (.const (.int .i64 0)))⟩, ⟨(some 11), none, false, (.mov (.tmp 10))⟩, ⟨(some 12), (some (11, true)), false, (.mov (.tmp 1))⟩, ⟨(some 13), (some (11, true)), false, (.lenStr (.tmp 12))⟩, ⟨(some 14), (some (11, true)), false, (.bin .int .eql (.tmp 13) (.const (.int .i64 20)))⟩, ⟨(some 15), none, false, (.pick (.tmp 11) (.tmp 14) (.const (.bool false)))⟩, ⟨(some 0), none, false, (.mov (.tmp 15))⟩]) .ret)))
def m17 : MFun := ⟨k17, [(.tmp 0)]⟩
theorem c17 : compFn Try.prog Try.f17 = some m17 := by kernel_rfl
def k14 : MCode := (.seq (.ops [⟨(some 6), none, false, (.mov (.const (.bool false)))⟩]) (.seq (.ops [⟨(some 7), none, false, (.mov (.tmp 0))⟩, ⟨(some 8), none, false, (.mov (.tmp 1))⟩, ⟨(some 9), none, false, (.bin .int .geq (.tmp 7) (.tmp 8))⟩, ⟨(some 10), none, false, (.mov (.tmp 9))⟩, ⟨(some 11), (some (10, true)), false, (.mov (.tmp 0))⟩, ⟨(some 12), (some (10, true)), false, (.mov (.tmp 2))⟩, ⟨(some 13), (some (10, true)), false, (.bin .int .leq (.tmp 11) (.tmp 12))⟩, ⟨(some 14), none, false, (.pick (.tmp 10) (.tmp 13) (.const (.bool false)))⟩, ⟨(some 6), none, false, (.mov (.tmp 14))⟩]) .ret))
def m14 : MFun := ⟨k14, [(.tmp 6)]⟩
theorem c14 : compFn Try.prog Try.f14 = some m14 := by kernel_rfl
def k54 : MCode := (.seq (.ops [⟨(some 2), none, false, (.mov (.const (.int .i64 0)))⟩]) (.seq (.ops [⟨(some 3), none, false, (.mov (.tmp 0))⟩, ⟨(some 4), none, false, (.bin .int .add (.const (.int .i64 20)) (.tmp 3))⟩, ⟨(some 5), none, false, (.mov (.tmp 0))⟩, ⟨(some 6), none, false, (.call false (.func 86) [(.tmp 5)])⟩, ⟨(some 7), none, false, (.bin .int .mul (.const (.int .i64 16)) (.tmp 6))⟩, ⟨(some 8), none, false, (.bin .int .add (.tmp 4) (.tmp 7))⟩, ⟨(some 2), none, false, (.mov (.tmp 8))⟩]) .ret))
def m54 : MFun := ⟨k54, [(.tmp 2)]⟩
def k86 : MCode := (.seq (.ops [⟨(some 2), none, false, (.mov (.const (.int .i64 0)))⟩]) (.seq (.ops [⟨(some 3), none, false, (.mov (.tmp 0))⟩, ⟨(some 4), none, false, (.bin .int .add (.tmp 3) (.const (.int .i64 1024)))⟩, ⟨(some 5), none, false, (.bin .int .sub (.tmp 4) (.const (.int .i64 1)))⟩, ⟨(some 6), none, false, (.bin .int .quo (.tmp 5) (.const (.int .i64 1024)))⟩, ⟨(some 7), none, false, (.max (.const (.int .i64 1)) [(.tmp 6)])⟩, ⟨(some 2), none, false, (.mov (.tmp 7))⟩]) .ret))
def m86 : MFun := ⟨k86, [(.tmp 2)]⟩
def k16 : MCode := (.seq (.ops [⟨(some 2), none, false, (.mov (.const (.int .i64 0)))⟩, ⟨(some 3), none, false, (.mov (.const (.int .i64 0)))⟩]) (.seq (.seq (.ops [⟨(some 6), none, false, (.mov (.tmp 0))⟩, ⟨(some 7), none, false, (.bin .int .lss (.tmp 6) (.const (.int .i64 36)))⟩, ⟨(some 8), none, false, (.mov (.tmp 7))⟩, ⟨(some 9), (some (8, false)), false, (.mov (.tmp 0))⟩, ⟨(some 10), (some (8, false)), false, (.call false (.func 54) [(.const (.int .i64 1048576))])⟩, ⟨(some 11), (some (8, false)), false, (.bin .int .gtr (.tmp 9) (.tmp 10))⟩, ⟨(some 12), none, false, (.pick (.tmp 8) (.const (.bool true)) (.tmp 11))⟩]) (.cond (.tmp 12) (.seq (.ops [⟨(some 2), none, false, (.mov (.const (.int .i64 0)))⟩, ⟨(some 3), none, false, (.mov (.const (.int .i64 6)))⟩]) .ret) .skip)) (.seq (.ops [⟨(some 13), none, false, (.mov (.tmp 0))⟩, ⟨(some 14), none, false, (.bin .int .sub (.tmp 13) (.const (.int .i64 20)))⟩, ⟨(some 4), none, false, (.mov (.tmp 14))⟩]) (.seq (.ops [⟨(some 15), none, false, (.mov (.tmp 4))⟩, ⟨(some 16), none, false, (.mov (.tmp 4))⟩, ⟨(some 17), none, false, (.bin .int .add (.tmp 16) (.const (.int .i64 1040)))⟩, ⟨(some 18), none, false, (.bin .int .sub (.tmp 17) (.const (.int .i64 1)))⟩, ⟨(some 19), none, false, (.bin .int .quo (.tmp 18) (.const (.int .i64 1040)))⟩, ⟨(some 20), none, false, (.bin .int .mul (.const (.int .i64 16)) (.tmp 19))⟩, ⟨(some 21), none, false, (.bin .int .sub (.tmp 15) (.tmp 20))⟩, ⟨(some 5), none, false, (.mov (.tmp 21))⟩]) (.seq (.seq (.ops [⟨(some 22), none, false, (.mov (.tmp 5))⟩, ⟨(some 23), none, false, (.bin .int .lss (.tmp 22) (.const (.int .i64 0)))⟩, ⟨(some 24), none, false, (.mov (.tmp 23))⟩, ⟨(some 25), (some (24, false)), false, (.mov (.tmp 5))⟩, ⟨(some 26), (some (24, false)), false, (.bin .int .gtr (.tmp 25) (.const (.int .i64 1048576)))⟩, ⟨(some 27), none, false, (.pick (.tmp 24) (.const (.bool true)) (.tmp 26))⟩, ⟨(some 28), none, false, (.mov (.tmp 27))⟩, ⟨(some 29), (some (28, false)), false, (.mov (.tmp 5))⟩, ⟨(some 30), (some (28, false)), false, (.call false (.func 54) [(.tmp 29)])⟩, ⟨(some 31), (some (28, false)), false, (.mov (.tmp 0))⟩, ⟨(some 32), (some (28, false)), false, (.bin .int .neq (.tmp 30) (.tmp 31))⟩, ⟨(some 33), none, false, (.pick (.tmp 28) (.const (.bool true)) (.tmp 32))⟩]) (.cond (.tmp 33) (.seq (.ops [⟨(some 2), none, false, (.mov (.const (.int .i64 0)))⟩, ⟨(some 3), none, false, (.mov (.const (.int .i64 6)))⟩]) .ret) .skip)) (.seq (.ops [⟨(some 34), none, false, (.mov (.tmp 5))⟩, ⟨(some 2), none, false, (.mov (.tmp 34))⟩, ⟨(some 3), none, false, (.mov (.const (.int .i64 0)))⟩]) .ret))))))
def m16 : MFun := ⟨k16, [(.tmp 2), (.tmp 3)]⟩
theorem c16 : compFn Try.prog Try.f16 = some m16 := by kernel_rfl
def k3 : MCode := (.seq (.ops [⟨(some 2), none, false, (.mov (.const (.bool false)))⟩]) (.seq (.ops [⟨(some 9), none, false, (.mov (.tmp 0))⟩, ⟨(some 10), none, false, (.call false (.func 13) [(.tmp 9)])⟩, ⟨(some 8), none, false, (.mov (.tmp 10))⟩, ⟨(some 11), none, false, (.extract (.tmp 8) 0)⟩, ⟨(some 12), none, false, (.extract (.tmp 8) 1)⟩, ⟨(some 3), none, false, (.mov (.tmp 11))⟩, ⟨(some 4), none, false, (.mov (.tmp 12))⟩]) (.seq (.seq (.ops [⟨(some 13), none, false, (.mov (.tmp 0))⟩, ⟨(some 14), none, false, (.call false (.func 14) [(.tmp 13), (.const (.int .i64 0)), (.const (.int .i64 1048576))])⟩, ⟨(some 15), none, false, (.un .not (.tmp 14))⟩]) (.cond (.tmp 15) (.seq (.ops [⟨(some 16), none, false, (.mov (.tmp 3))⟩, ⟨(some 17), none, false, (.bin .int .neq (.tmp 16) (.const (.int .i64 0)))⟩, ⟨(some 18), none, false, (.mov (.tmp 17))⟩, ⟨(some 19), (some (18, false)), false, (.mov (.tmp 4))⟩, ⟨(some 20), (some (18, false)), false, (.bin .int .neq (.tmp 19) (.const (.int .i64 7)))⟩, ⟨(some 21), none, false, (.pick (.tmp 18) (.const (.bool true)) (.tmp 20))⟩]) (.cond (.tmp 21) (.seq (.ops [⟨(some 2), none, false, (.mov (.const (.bool false)))⟩]) .ret) .skip)) (.seq (.ops [⟨(some 22), none, false, (.mov (.tmp 3))⟩, ⟨(some 23), none, false, (.mov (.tmp 0))⟩, ⟨(some 24), none, false, (.call false (.func 15) [(.tmp 23)])⟩, ⟨(some 25), none, false, (.bin .int .neq (.tmp 22) (.tmp 24))⟩, ⟨(some 26), none, false, (.mov (.tmp 25))⟩, ⟨(some 27), (some (26, false)), false, (.mov (.tmp 4))⟩, ⟨(some 28), (some (26, false)), false, (.bin .int .neq (.tmp 27) (.const (.int .i64 0)))⟩, ⟨(some 29), none, false, (.pick (.tmp 26) (.const (.bool true)) (.tmp 28))⟩]) (.cond (.tmp 29) (.seq (.ops [⟨(some 2), none, false, (.mov (.const (.bool false)))⟩]) .ret) .skip)))) (.seq (.ops [⟨(some 31), none, false, (.mov (.tmp 0))⟩, ⟨(some 32), none, false, (.call false (.func 16) [(.tmp 31)])⟩, ⟨(some 30), none, false, (.mov (.tmp 32))⟩, ⟨(some 33), none, false, (.extract (.tmp 30) 0)⟩, ⟨(some 34), none, false, (.extract (.tmp 30) 1)⟩, ⟨(some 5), none, false, (.mov (.tmp 33))⟩, ⟨(some 6), none, false, (.mov (.tmp 34))⟩]) (.seq (.seq (.ops [⟨(some 35), none, false, (.mov (.tmp 0))⟩, ⟨(some 36), none, false, (.bin .int .sub (.tmp 35) (.const (.int .i64 20000)))⟩, ⟨(some 37), none, false, (.max (.const (.int .i64 0)) [(.tmp 36)])⟩, ⟨(some 7), none, false, (.mov (.tmp 37))⟩]) (.block 0 (.loop (.seq (.seq (.ops [⟨(some 38), none, false, (.mov (.tmp 7))⟩, ⟨(some 39), none, false, (.mov (.tmp 0))⟩, ⟨(some 40), none, false, (.min (.tmp 39) [(.const (.int .i64 1048576))])⟩, ⟨(some 41), none, false, (.bin .int .leq (.tmp 38) (.tmp 40))⟩]) (.cond (.tmp 41) .skip (.exit 0))) (.seq (.block 1 (.seq (.ops [⟨(some 44), none, false, (.mov (.tmp 7))⟩, ⟨(some 45), none, false, (.call false (.func 15) [(.tmp 44)])⟩, ⟨(some 46), none, false, (.mov (.tmp 0))⟩, ⟨(some 47), none, false, (.bin .int .eql (.tmp 45) (.tmp 46))⟩]) (.cond (.tmp 47) (.seq (.ops [⟨(some 48), none, false, (.call false (.func 17) [])⟩, ⟨(some 49), none, false, (.mov (.tmp 48))⟩, ⟨(some 50), (some (49, true)), false, (.mov (.tmp 5))⟩, ⟨(some 51), (some (49, true)), false, (.mov (.tmp 7))⟩, ⟨(some 52), (some (49, true)), false, (.bin .int .eql (.tmp 50) (.tmp 51))⟩, ⟨(some 53), none, false, (.pick (.tmp 49) (.tmp 52) (.const (.bool false)))⟩, ⟨(some 54), none, false, (.mov (.tmp 53))⟩, ⟨(some 55), (some (54, true)), false, (.mov (.tmp 6))⟩, ⟨(some 56), (some (54, true)), false, (.bin .int .eql (.tmp 55) (.const (.int .i64 0)))⟩, ⟨(some 57), none, false, (.pick (.tmp 54) (.tmp 56) (.const (.bool false)))⟩, ⟨(some 2), none, false, (.mov (.tmp 57))⟩]) .ret) .skip))) (.ops [⟨(some 42), none, false, (.mov (.tmp 7))⟩, ⟨(some 43), none, false, (.bin .int .add (.tmp 42) (.const (.int .i64 1)))⟩, ⟨(some 7), none, false, (.mov (.tmp 43))⟩])))))) (.seq (.ops [⟨(some 58), none, false, (.call false (.func 17) [])⟩, ⟨(some 59), none, false, (.mov (.tmp 58))⟩, ⟨(some 60), (some (59, true)), false, (.mov (.tmp 5))⟩, ⟨(some 61), (some (59, true)), false, (.bin .int .eql (.tmp 60) (.const (.int .i64 0)))⟩, ⟨(some 62), none, false, (.pick (.tmp 59) (.tmp 61) (.const (.bool false)))⟩, ⟨(some 63), none, false, (.mov (.tmp 62))⟩, ⟨(some 64), (some (63, true)), false, (.mov (.tmp 6))⟩, ⟨(some 65), (some (63, true)), false, (.bin .int .eql (.tmp 64) (.const (.int .i64 6)))⟩, ⟨(some 66), none, false, (.pick (.tmp 63) (.tmp 65) (.const (.bool false)))⟩, ⟨(some 2), none, false, (.mov (.tmp 66))⟩]) .ret))))))
def m3 : MFun := ⟨k3, [(.tmp 2)]⟩
theorem c3 : compFn Try.prog Try.f3 = some m3 := by kernel_rfl
end Go.Proofs.Ytildhljhbbhmmaa.AM
/- More fuel gives the same; rules for reckoning on the abstract machine. No program in sight. -/
namespace Go.Proofs.Ytildhljhbbhmmaa.AM
open Go
set_option linter.all false

def LeC (call call' : CallH) : Prop := ∀ n vs H r, call n vs H = some r → call' n vs H = some r
theorem LeC.refl (c : CallH) : LeC c c := fun _ _ _ _ h => h
section
variable {call call' : CallH}
theorem evOp_mono (hc : LeC call call') {m : MI} {f : Fr} {H : AH} {r : Value × AH} (h : evOp call m f H = some r) : evOp call' m f H = some r := by
  cases hm : m.isCall with
  | false => rw [evOp_evM hm] at h ⊢; exact h
  | true =>
    cases m <;> simp only [MI.isCall, Bool.false_eq_true] at hm
    case callL g xs =>
      simp only [evOp] at h ⊢
      split at h
      · split at h
        · rename_i hp
          rw [if_pos hp]
          split at h
          · rename_i h1; rw [hc _ _ _ _ h1]; exact h
          · simp at h
        · simp at h
      · simp at h
    simp only [evOp] at h ⊢
    split at h
    · split at h
      · rename_i hp
        rw [if_pos hp]
        split at h
        · rename_i h1; rw [hc _ _ _ _ h1]; exact h
        · simp at h
      · rename_i hp
        rw [if_neg hp]
        exact hc _ _ _ _ h
    · simp at h
theorem evG_mono (hc : LeC call call') {bs : Nat} {o : MOp} {f : Fr} {H : AH} {r : Value × AH} (h : evG call bs o f H = some r) : evG call' bs o f H = some r := by
  unfold evG at h ⊢
  split at h
  · rename_i h1
    rw [if_pos h1]
    split at h
    · rename_i h2; rw [if_pos h2]; exact evOp_mono hc h
    · simp at h
  · rename_i h1; rw [if_neg h1]; exact evOp_mono hc h
theorem evV_mono (hc : LeC call call') {bs : Nat} {o : MOp} {f : Fr} {H : AH} {r : Value × AH} (h : evV call bs o f H = some r) : evV call' bs o f H = some r := by
  unfold evV at h ⊢
  split at h
  · exact evG_mono hc h
  · split at h
    · split at h
      · rename_i h1; simp only [h1, if_true]; exact evG_mono hc h
      · rename_i h1; simp only [h1, if_false]; exact h
    · exact h
    · simp at h
theorem evMOp_mono (hc : LeC call call') {bs : Nat} {o : MOp} {f : Fr} {H : AH} {r : Fr × AH} (h : evMOp call bs o f H = some r) : evMOp call' bs o f H = some r := by
  unfold evMOp at h ⊢
  split at h
  · rename_i h1; rw [evV_mono hc h1]; exact h
  · simp at h
theorem evOps_mono (hc : LeC call call') {bs : Nat} : ∀ (l : List MOp) {f : Fr} {H : AH} {r : Fr × AH}, evOps call bs l f H = some r → evOps call' bs l f H = some r := by
  intro l
  induction l with
  | nil => intro f H r h; exact h
  | cons o l ih =>
    intro f H r h
    simp only [evOps] at h ⊢
    split at h
    · rename_i h1; rw [evMOp_mono hc h1]; exact ih h
    · simp at h
theorem iter_mono {b b' : Fr → AH → Option (Ex × Fr × AH)} (hb : ∀ f H r, b f H = some r → b' f H = some r) : ∀ (n n' : Nat), n ≤ n' → ∀ {f : Fr} {H : AH} {r : Ex × Fr × AH}, iter b n f H = some r → iter b' n' f H = some r := by
  intro n
  induction n with
  | zero => intro n' _ f H r h; simp [iter] at h
  | succ n ih =>
    intro n' hn f H r h
    obtain ⟨m, rfl⟩ : ∃ m, n' = m + 1 := ⟨n' - 1, by omega⟩
    simp only [iter] at h ⊢
    split at h
    · rename_i h1; rw [hb _ _ _ h1]; exact ih m (by omega) h
    · rename_i h1
      rw [hb _ _ _ h]
      obtain ⟨e, f', H'⟩ := r
      cases e with
      | normal => exact absurd h (h1 _ _)
      | _ => rfl
theorem evC_mono (hc : LeC call call') {k k' : Nat} (hk : k ≤ k') : ∀ (m : MCode) {f : Fr} {H : AH} {r : Ex × Fr × AH}, evC call k m f H = some r → evC call' k' m f H = some r := by
  intro m
  induction m with
  | skip => intro f H r h; exact h
  | exit id => intro f H r h; exact h
  | ret => intro f H r h; exact h
  | ops l =>
    intro f H r h
    simp only [evC] at h ⊢
    split at h
    · rename_i h1; rw [evOps_mono hc _ h1]; exact h
    · simp at h
  | opsD l =>
    intro f H r h
    simp only [evC] at h ⊢
    split at h
    · rename_i h1; rw [evOps_mono hc _ h1]; exact h
    · simp at h
  | seq a b iha ihb =>
    intro f H r h
    simp only [evC] at h ⊢
    split at h
    · rename_i h1; rw [iha h1]; exact ihb h
    · rename_i h1
      rw [iha h]
      obtain ⟨e, f', H'⟩ := r
      cases e with
      | normal => exact absurd h (h1 _ _)
      | _ => rfl
  | cond c a b iha ihb =>
    intro f H r h
    simp only [evC] at h ⊢
    split at h
    · split at h
      · rename_i h1; rw [if_pos h1]; exact iha h
      · rename_i h1; rw [if_neg h1]; exact ihb h
    · simp at h
  | block id a ih =>
    intro f H r h
    simp only [evC] at h ⊢
    split at h
    · rename_i h1; rw [ih h1]; exact h
    · rename_i h1
      rw [ih h]
      obtain ⟨e, f', H'⟩ := r
      cases e with
      | exit i => exact absurd h (h1 _ _ _)
      | _ => rfl
  | loop a ih =>
    intro f H r h
    simp only [evC] at h ⊢
    exact iter_mono (fun _ _ _ => ih) k k' hk h
end
def NatMono (g : CallH → List Value → AH → Option (Value × AH)) : Prop := ∀ call call', LeC call call' → ∀ vs H r, g call vs H = some r → g call' vs H = some r
class TMono (tbl : Tbl) : Prop where
  nat : ∀ n g, tbl n = some (.nat g) → NatMono g
section
variable {tbl : Tbl} [hT : TMono tbl]
theorem evF_mono : ∀ {k k' : Nat}, k ≤ k' → LeC (evF tbl k) (evF tbl k') := by
  intro k
  induction k with
  | zero => intro k' _ n vs H r h; simp [evF] at h
  | succ k ih =>
    intro k' hk n vs H r h
    obtain ⟨j, rfl⟩ : ∃ j, k' = j + 1 := ⟨k' - 1, by omega⟩
    have hj : k ≤ j := by omega
    simp only [evF] at h ⊢
    split at h
    · simp at h
    · rename_i g hg; exact hT.nat _ _ hg _ _ (ih hj) _ _ _ h
    · split at h
      · rename_i h1; rw [evC_mono (ih hj) hk _ h1]; exact h
      · rename_i h1; rw [evC_mono (ih hj) hk _ h1]; exact h
      · simp at h

/-! ### Runs -/
/-- What comes next. It goes in as an instance, so that simp does not look into it. -/
class Kn (T : Type) : Type where
  k : T
def RunF (tbl : Tbl) (n : FuncId) (vs : List Value) (H : AH) [Q : Kn (Value → AH → Prop)] : Prop := ∃ k v H', evF tbl k n vs H = some (v, H') ∧ Q.k v H'
def RunC (tbl : Tbl) (m : MCode) (f : Fr) (H : AH) [Q : Kn (Ex → Fr → AH → Prop)] : Prop := ∃ k e f' H', evC (evF tbl k) k m f H = some (e, f', H') ∧ Q.k e f' H'
def RunO (tbl : Tbl) (bs : Nat) (l : List MOp) (f : Fr) (H : AH) (Q : Fr → AH → Prop) : Prop := ∃ k f' H', evOps (evF tbl k) bs l f H = some (f', H') ∧ Q f' H'
def RunP (tbl : Tbl) (m : MI) (f : Fr) (H : AH) (Q : Value → AH → Prop) : Prop := ∃ k v H', evOp (evF tbl k) m f H = some (v, H') ∧ Q v H'
/-- What a call returns. -/
def Val (tbl : Tbl) (n : FuncId) (vs : List Value) (H : AH) (v : Value) (H' : AH) : Prop := ∃ k, evF tbl k n vs H = some (v, H')
theorem Val.of_run {n : FuncId} {vs : List Value} {H : AH} {v : Value} {H' : AH} (h : (@RunF tbl n vs H ⟨fun v1 H1 => v1 = v ∧ H1 = H'⟩)) : Val tbl n vs H v H' := by
  obtain ⟨k, v1, H1, h1, rfl, rfl⟩ := h
  exact ⟨k, h1⟩
theorem Val.of_all {n : FuncId} {vs : List Value} {H : AH} {v : Value} {H' : AH} (h : ∀ Q : Value → AH → Prop, Q v H' → (@RunF tbl n vs H ⟨Q⟩)) : Val tbl n vs H v H' := .of_run (h _ ⟨rfl, rfl⟩)
theorem Val.run {n : FuncId} {vs : List Value} {H : AH} {v : Value} {H' : AH} (h : Val tbl n vs H v H') {Q : Value → AH → Prop} : (@RunF tbl n vs H ⟨Q⟩) ↔ Q v H' := by
  obtain ⟨k, hk⟩ := h
  constructor
  · rintro ⟨k2, v2, H2, h2, hq⟩
    have a := evF_mono (tbl := tbl) (Nat.le_max_left k k2) _ _ _ _ hk
    have b := evF_mono (tbl := tbl) (Nat.le_max_right k k2) _ _ _ _ h2
    rw [a] at b
    simp only [Option.some.injEq, Prod.mk.injEq] at b
    obtain ⟨rfl, rfl⟩ := b
    exact hq
  · exact fun hq => ⟨k, v, H', hk, hq⟩
theorem RunF.mono {n : FuncId} {vs : List Value} {H : AH} {Q Q' : Value → AH → Prop} (h : (@RunF tbl n vs H ⟨Q⟩)) (hq : ∀ v H', Q v H' → Q' v H') : (@RunF tbl n vs H ⟨Q'⟩) := by
  obtain ⟨k, v, H', h1, h2⟩ := h; exact ⟨k, v, H', h1, hq _ _ h2⟩
theorem RunC.mono {m : MCode} {f : Fr} {H : AH} {Q Q' : Ex → Fr → AH → Prop} (h : (@RunC tbl m f H ⟨Q⟩)) (hq : ∀ e f' H', Q e f' H' → Q' e f' H') : (@RunC tbl m f H ⟨Q'⟩) := by
  obtain ⟨k, e, f', H', h1, h2⟩ := h; exact ⟨k, e, f', H', h1, hq _ _ _ h2⟩

/-! ### Rules -/
def bindP (o : Option (Value × AH)) [K : Kn (Value → AH → Prop)] : Prop :=
  match o with
  | some (v, H') => K.k v H'
  | none => False
def condP (v : Value) [A : Kn Prop] [B : Kn Prop] : Prop :=
  match v with
  | .bool t => if t = true then A.k else B.k
  | _ => False
def guardP (v : Value) (want : Bool) [A : Kn Prop] [B : Kn Prop] : Prop :=
  match v with
  | .bool t => if t = want then A.k else B.k
  | .tuple _ => B.k
  | _ => False
def callP (tbl : Tbl) (o : Option (FuncId × List Value)) (H : AH) [K : Kn (Value → AH → Prop)] : Prop :=
  match o with
  | some (n, vs) => (@RunF tbl n vs H ⟨K.k⟩)
  | none => False
def seqQ (Q : Ex → Fr → AH → Prop) (K : Fr → AH → Prop) : Ex → Fr → AH → Prop
  | .normal, f, H => K f H
  | e, f, H => Q e f H
def blockQ (id : Nat) (Q : Ex → Fr → AH → Prop) : Ex → Fr → AH → Prop
  | .exit i, f, H => if i = id then Q .normal f H else Q (.exit i) f H
  | e, f, H => Q e f H
def normQ (K : Fr → AH → Prop) : Ex → Fr → AH → Prop
  | .normal, f, H => K f H
  | _, _, _ => False
def finQ (H : AH) (rs : List MRes) (Q : Value → AH → Prop) : Ex → Fr → AH → Prop
  | .exit _, _, _ => False
  | _, f', H' => match resL f' H' rs with
    | some vs => Q (back H H' (tupV vs)).1 (back H H' (tupV vs)).2
    | none => False
theorem bindP_some {v : Value} {H : AH} {K : Value → AH → Prop} : (@bindP (some (v, H)) ⟨K⟩) = K v H := rfl
theorem condP_true {A B : Prop} : (@condP (.bool true) ⟨A⟩ ⟨B⟩) = A := rfl
theorem condP_false {A B : Prop} : (@condP (.bool false) ⟨A⟩ ⟨B⟩) = B := rfl
/-- A parting of the ways. -/
def iteP (p : Prop) [A : Kn Prop] [B : Kn Prop] : Prop := (p → A.k) ∧ (¬p → B.k)
theorem iteP_intro {p A B : Prop} (h1 : p → A) (h2 : ¬p → B) : (@iteP p ⟨A⟩ ⟨B⟩) := ⟨h1, h2⟩
theorem iteP_true {A B : Prop} : (@iteP True ⟨A⟩ ⟨B⟩) = A := by simp [iteP]
theorem iteP_false {A B : Prop} : (@iteP False ⟨A⟩ ⟨B⟩) = B := by simp [iteP]
theorem leaf {Q : Value → AH → Prop} {v v' : Value} {H H' : AH} (hQ : Q v H) (h : v' = v) (h2 : H' = H) : Q v' H' := by rw [h, h2]; exact hQ
theorem condP_dec {p : Prop} [Decidable p] {A B : Prop} : (@condP (.bool (decide p)) ⟨A⟩ ⟨B⟩) = (@iteP p ⟨A⟩ ⟨B⟩) := by
  by_cases h : p <;> simp [condP, h, iteP]
theorem condP_not {t : Bool} {A B : Prop} : (@condP (.bool (!t)) ⟨A⟩ ⟨B⟩) = (@condP (.bool t) ⟨B⟩ ⟨A⟩) := by cases t <;> rfl
theorem guardP_dec {p : Prop} [Decidable p] {A B : Prop} : (@guardP (.bool (decide p)) true ⟨A⟩ ⟨B⟩) = (@iteP p ⟨A⟩ ⟨B⟩) := by
  by_cases h : p <;> simp [guardP, h, iteP]
theorem guardP_decf {p : Prop} [Decidable p] {A B : Prop} : (@guardP (.bool (decide p)) false ⟨A⟩ ⟨B⟩) = (@iteP p ⟨B⟩ ⟨A⟩) := by
  by_cases h : p <;> simp [guardP, h, iteP]
theorem guardP_tt {A B : Prop} : (@guardP (.bool true) true ⟨A⟩ ⟨B⟩) = A := rfl
theorem guardP_ff {A B : Prop} : (@guardP (.bool false) false ⟨A⟩ ⟨B⟩) = A := rfl
theorem guardP_tf {A B : Prop} : (@guardP (.bool true) false ⟨A⟩ ⟨B⟩) = B := rfl
theorem guardP_ft {A B : Prop} : (@guardP (.bool false) true ⟨A⟩ ⟨B⟩) = B := rfl
theorem guardP_un {w : Bool} {A B : Prop} : (@guardP undef w ⟨A⟩ ⟨B⟩) = B := rfl
theorem guardP_nt {t : Bool} {A B : Prop} : (@guardP (.bool (!t)) true ⟨A⟩ ⟨B⟩) = (@guardP (.bool t) false ⟨A⟩ ⟨B⟩) := by cases t <;> rfl
theorem guardP_nf {t : Bool} {A B : Prop} : (@guardP (.bool (!t)) false ⟨A⟩ ⟨B⟩) = (@guardP (.bool t) true ⟨A⟩ ⟨B⟩) := by cases t <;> rfl
theorem callP_some {n : FuncId} {vs : List Value} {H : AH} {K : Value → AH → Prop} : (@callP tbl (some (n, vs)) H ⟨K⟩) = (@RunF tbl n vs H ⟨K⟩) := rfl
theorem seqQ_normal {Q : Ex → Fr → AH → Prop} {K : Fr → AH → Prop} {f : Fr} {H : AH} : seqQ Q K .normal f H = K f H := rfl
theorem seqQ_exit {Q : Ex → Fr → AH → Prop} {K : Fr → AH → Prop} {i : Nat} {f : Fr} {H : AH} : seqQ Q K (.exit i) f H = Q (.exit i) f H := rfl
theorem seqQ_ret {Q : Ex → Fr → AH → Prop} {K : Fr → AH → Prop} {f : Fr} {H : AH} : seqQ Q K .ret f H = Q .ret f H := rfl
theorem blockQ_normal {id : Nat} {Q : Ex → Fr → AH → Prop} {f : Fr} {H : AH} : blockQ id Q .normal f H = Q .normal f H := rfl
theorem blockQ_exit {id i : Nat} {Q : Ex → Fr → AH → Prop} {f : Fr} {H : AH} : blockQ id Q (.exit i) f H = if i = id then Q .normal f H else Q (.exit i) f H := rfl
theorem blockQ_ret {id : Nat} {Q : Ex → Fr → AH → Prop} {f : Fr} {H : AH} : blockQ id Q .ret f H = Q .ret f H := rfl
theorem normQ_normal {K : Fr → AH → Prop} {f : Fr} {H : AH} : normQ K .normal f H = K f H := rfl

theorem evC_up {k k' : Nat} (h : k ≤ k') {m : MCode} {f : Fr} {H : AH} {r : Ex × Fr × AH} (e : evC (evF tbl k) k m f H = some r) : evC (evF tbl k') k' m f H = some r := evC_mono (evF_mono h) h m e
theorem rn_skip {f : Fr} {H : AH} {Q : Ex → Fr → AH → Prop} : (@RunC tbl .skip f H ⟨Q⟩) = Q .normal f H := by
  refine propext ⟨?_, fun h => ⟨0, .normal, f, H, rfl, h⟩⟩
  rintro ⟨k, e, f', H', h, hq⟩
  simp only [evC, Option.some.injEq, Prod.mk.injEq] at h
  obtain ⟨rfl, rfl, rfl⟩ := h; exact hq
theorem rn_exit {i : Nat} {f : Fr} {H : AH} {Q : Ex → Fr → AH → Prop} : (@RunC tbl (.exit i) f H ⟨Q⟩) = Q (.exit i) f H := by
  refine propext ⟨?_, fun h => ⟨0, .exit i, f, H, rfl, h⟩⟩
  rintro ⟨k, e, f', H', h, hq⟩
  simp only [evC, Option.some.injEq, Prod.mk.injEq] at h
  obtain ⟨rfl, rfl, rfl⟩ := h; exact hq
theorem rn_ret {f : Fr} {H : AH} {Q : Ex → Fr → AH → Prop} : (@RunC tbl .ret f H ⟨Q⟩) = Q .ret f H := by
  refine propext ⟨?_, fun h => ⟨0, .ret, f, H, rfl, h⟩⟩
  rintro ⟨k, e, f', H', h, hq⟩
  simp only [evC, Option.some.injEq, Prod.mk.injEq] at h
  obtain ⟨rfl, rfl, rfl⟩ := h; exact hq
theorem rn_seq {a b : MCode} {f : Fr} {H : AH} {Q : Ex → Fr → AH → Prop} : (@RunC tbl (.seq a b) f H ⟨Q⟩) = (@RunC tbl a f H ⟨seqQ Q fun f' H' => (@RunC tbl b f' H' ⟨Q⟩)⟩) := by
  refine propext ⟨?_, ?_⟩
  · rintro ⟨k, e, f', H', h, hq⟩
    simp only [evC] at h
    split at h
    · rename_i f1 H1 h1; exact ⟨k, .normal, f1, H1, h1, k, e, f', H', h, hq⟩
    · rename_i h1
      refine ⟨k, e, f', H', h, ?_⟩
      cases e with
      | normal => exact absurd h (h1 _ _)
      | _ => exact hq
  · rintro ⟨k, e, f1, H1, h1, hq⟩
    cases e with
    | normal =>
      obtain ⟨k2, e, f', H', h2, hq⟩ := hq
      refine ⟨max k k2, e, f', H', ?_, hq⟩
      simp only [evC, evC_up (Nat.le_max_left k k2) h1]
      exact evC_up (Nat.le_max_right k k2) h2
    | exit i => exact ⟨k, .exit i, f1, H1, by simp only [evC, h1], hq⟩
    | ret => exact ⟨k, .ret, f1, H1, by simp only [evC, h1], hq⟩
theorem rn_cond {c : Operand} {a b : MCode} {f : Fr} {H : AH} {Q : Ex → Fr → AH → Prop} : (@RunC tbl (.cond c a b) f H ⟨Q⟩) = (@condP (ev f c) ⟨(@RunC tbl a f H ⟨Q⟩)⟩ ⟨(@RunC tbl b f H ⟨Q⟩)⟩) := by
  refine propext ⟨?_, ?_⟩
  · rintro ⟨k, e, f', H', h, hq⟩
    simp only [evC] at h
    split at h
    · rename_i t ht
      rw [ht]
      simp only [condP]
      split at h
      · rename_i h1; rw [if_pos h1]; exact ⟨k, e, f', H', h, hq⟩
      · rename_i h1; rw [if_neg h1]; exact ⟨k, e, f', H', h, hq⟩
    · simp at h
  · intro h
    cases hc : ev f c <;> rw [hc] at h <;> simp only [condP] at h
    rename_i t
    split at h
    · rename_i h1
      obtain ⟨k, e, f', H', h, hq⟩ := h
      exact ⟨k, e, f', H', by simp only [evC, hc, h1, if_true]; exact h, hq⟩
    · rename_i h1
      obtain ⟨k, e, f', H', h, hq⟩ := h
      exact ⟨k, e, f', H', by simp only [evC, hc, h1]; exact h, hq⟩
theorem rn_block {id : Nat} {a : MCode} {f : Fr} {H : AH} {Q : Ex → Fr → AH → Prop} : (@RunC tbl (.block id a) f H ⟨Q⟩) = (@RunC tbl a f H ⟨blockQ id Q⟩) := by
  refine propext ⟨?_, ?_⟩
  · rintro ⟨k, e, f', H', h, hq⟩
    simp only [evC] at h
    split at h
    · rename_i i f1 H1 h1
      refine ⟨k, .exit i, f1, H1, h1, ?_⟩
      simp only [blockQ]
      split at h
      · rename_i hi
        simp only [Option.some.injEq, Prod.mk.injEq] at h
        obtain ⟨rfl, rfl, rfl⟩ := h
        rw [if_pos hi]; exact hq
      · rename_i hi
        simp only [Option.some.injEq, Prod.mk.injEq] at h
        obtain ⟨rfl, rfl, rfl⟩ := h
        rw [if_neg hi]; exact hq
    · rename_i h1
      refine ⟨k, e, f', H', h, ?_⟩
      cases e with
      | exit i => exact absurd h (h1 _ _ _)
      | _ => exact hq
  · rintro ⟨k, e, f1, H1, h1, hq⟩
    cases e with
    | normal => exact ⟨k, .normal, f1, H1, by simp only [evC, h1], hq⟩
    | ret => exact ⟨k, .ret, f1, H1, by simp only [evC, h1], hq⟩
    | exit i =>
      simp only [blockQ] at hq
      split at hq
      · rename_i hi; exact ⟨k, .normal, f1, H1, by simp only [evC, h1, hi, if_true], hq⟩
      · rename_i hi; exact ⟨k, .exit i, f1, H1, by simp only [evC, h1, hi, if_false], hq⟩
theorem rn_ops {l : List MOp} {f : Fr} {H : AH} {Q : Ex → Fr → AH → Prop} : (@RunC tbl (.ops l) f H ⟨Q⟩) = RunO tbl H.next l f H fun f' H' => Q .normal f' H' := by
  refine propext ⟨?_, ?_⟩
  · rintro ⟨k, e, f', H', h, hq⟩
    simp only [evC] at h
    split at h
    · rename_i f1 H1 h1
      simp only [Option.some.injEq, Prod.mk.injEq] at h
      obtain ⟨rfl, rfl, rfl⟩ := h
      exact ⟨k, _, _, h1, hq⟩
    · simp at h
  · rintro ⟨k, f', H', h, hq⟩
    exact ⟨k, .normal, f', H', by simp only [evC, h], hq⟩
theorem rn_opsD {l : List MOp} {f : Fr} {H : AH} {Q : Ex → Fr → AH → Prop} : (@RunC tbl (.opsD l) f H ⟨Q⟩) = RunO tbl H.next l f H fun f' H' => Q .normal f' H' := rn_ops
theorem rn_nil {bs : Nat} {f : Fr} {H : AH} {Q : Fr → AH → Prop} : RunO tbl bs [] f H Q = Q f H := by
  refine propext ⟨?_, fun h => ⟨0, f, H, rfl, h⟩⟩
  rintro ⟨k, f', H', h, hq⟩
  simp only [evOps, Option.some.injEq, Prod.mk.injEq] at h
  obtain ⟨rfl, rfl⟩ := h; exact hq
theorem rn_cons {bs : Nat} {o : MOp} {l : List MOp} {f : Fr} {H : AH} {Q : Fr → AH → Prop} : RunO tbl bs (o :: l) f H Q ↔ ∃ k v H', evV (evF tbl k) bs o f H = some (v, H') ∧ RunO tbl bs l (put f o.dst v) H' Q := by
  constructor
  · rintro ⟨k, f', H', h, hq⟩
    simp only [evOps] at h
    split at h
    · rename_i f1 H1 h1
      unfold evMOp at h1
      split at h1
      · rename_i v H2 h2
        simp only [Option.some.injEq, Prod.mk.injEq] at h1
        obtain ⟨rfl, rfl⟩ := h1
        exact ⟨k, v, H2, h2, k, f', H', h, hq⟩
      · simp at h1
    · simp at h
  · rintro ⟨k, v, H1, h1, k2, f', H', h2, hq⟩
    refine ⟨max k k2, f', H', ?_, hq⟩
    simp only [evOps, evMOp, evV_mono (evF_mono (Nat.le_max_left k k2)) h1]
    exact evOps_mono (evF_mono (Nat.le_max_right k k2)) _ h2
theorem rn_plain {bs : Nat} {d : Option Tmp} {m : MI} {l : List MOp} {f : Fr} {H : AH} {Q : Fr → AH → Prop} : RunO tbl bs (⟨d, none, false, m⟩ :: l) f H Q = RunP tbl m f H fun v H' => RunO tbl bs l (put f d v) H' Q := by
  refine propext (rn_cons.trans ?_)
  simp only [evV, evG, Bool.false_eq_true, if_false, RunP]
def oldP (l : List Nat) (bs : Nat) [A : Kn (Prop)] : Prop := if l.all (fun b => decide (b < bs)) = true then A.k else False
theorem rn_old {bs : Nat} {d : Option Tmp} {m : MI} {l : List MOp} {f : Fr} {H : AH} {Q : Fr → AH → Prop} : RunO tbl bs (⟨d, none, true, m⟩ :: l) f H Q = (@oldP (m.rdBlk f) bs ⟨RunP tbl m f H fun v H' => RunO tbl bs l (put f d v) H' Q⟩) := by
  refine propext (rn_cons.trans ?_)
  simp only [evV, evG, if_true, RunP, oldP]
  split
  · exact Iff.rfl
  · simp
theorem rn_guard {bs : Nat} {d : Option Tmp} {t : Tmp} {want : Bool} {m : MI} {l : List MOp} {f : Fr} {H : AH} {Q : Fr → AH → Prop} : RunO tbl bs (⟨d, some (t, want), false, m⟩ :: l) f H Q = (@guardP (f t) want ⟨RunP tbl m f H fun v H' => RunO tbl bs l (put f d v) H' Q⟩ ⟨RunO tbl bs l (put f d undef) H Q⟩) := by
  refine propext (rn_cons.trans ?_)
  simp only [evV, evG, Bool.false_eq_true, if_false]
  cases hv : f t with
  | bool b =>
    simp only [guardP]
    split
    · exact Iff.rfl
    · simp only [Option.some.injEq, Prod.mk.injEq]
      exact ⟨fun ⟨k, v, H', ⟨h1, h2⟩, h3⟩ => by rw [h1, h2]; exact h3, fun h => ⟨0, _, _, ⟨rfl, rfl⟩, h⟩⟩
  | tuple vs =>
    simp only [guardP, Option.some.injEq, Prod.mk.injEq]
    exact ⟨fun ⟨k, v, H', ⟨h1, h2⟩, h3⟩ => by rw [h1, h2]; exact h3, fun h => ⟨0, _, _, ⟨rfl, rfl⟩, h⟩⟩
  | _ => simp [guardP]
theorem rn_guardOld {bs : Nat} {d : Option Tmp} {t : Tmp} {want : Bool} {m : MI} {l : List MOp} {f : Fr} {H : AH} {Q : Fr → AH → Prop} : RunO tbl bs (⟨d, some (t, want), true, m⟩ :: l) f H Q = (@guardP (f t) want ⟨(@oldP (m.rdBlk f) bs ⟨RunP tbl m f H fun v H' => RunO tbl bs l (put f d v) H' Q⟩)⟩ ⟨RunO tbl bs l (put f d undef) H Q⟩) := by
  refine propext (rn_cons.trans ?_)
  simp only [evV, evG, if_true]
  cases hv : f t with
  | bool b =>
    simp only [guardP]
    split
    · rename_i h
      simp only [h, if_true, oldP]
      split
      · rfl
      · simp
    · rename_i h
      simp only [h, if_false, Option.some.injEq, Prod.mk.injEq]
      exact ⟨fun ⟨k, v, H', ⟨h1, h2⟩, h3⟩ => by rw [h1, h2]; exact h3, fun h => ⟨0, _, _, ⟨rfl, rfl⟩, h⟩⟩
  | tuple vs =>
    simp only [guardP, Option.some.injEq, Prod.mk.injEq]
    exact ⟨fun ⟨k, v, H', ⟨h1, h2⟩, h3⟩ => by rw [h1, h2]; exact h3, fun h => ⟨0, _, _, ⟨rfl, rfl⟩, h⟩⟩
  | _ => simp [guardP]
theorem rn_op {m : MI} (hm : m.isCall = false) {f : Fr} {H : AH} {K : Value → AH → Prop} : RunP tbl m f H K = (@bindP (evM m f H) ⟨K⟩) := by
  unfold RunP
  simp only [evOp_evM hm]
  cases h : evM m f H with
  | none => simp [bindP]
  | some p =>
    obtain ⟨v, H'⟩ := p
    simp only [bindP, Option.some.injEq, Prod.mk.injEq]
    exact propext ⟨fun ⟨k, v1, H1, ⟨h1, h2⟩, h3⟩ => by rw [h1, h2]; exact h3, fun h => ⟨0, _, _, ⟨rfl, rfl⟩, h⟩⟩
theorem rn_call {g : Operand} {args : List Operand} {f : Fr} {H : AH} {K : Value → AH → Prop} : RunP tbl (.call false g args) f H K = (@callP tbl (callee f g args) H ⟨K⟩) := by
  unfold RunP
  simp only [evOp, Bool.false_eq_true, if_false]
  cases callee f g args with
  | none => simp [callP]
  | some p => rfl
theorem rn_callP {g : Operand} {args : List Operand} {f : Fr} {H : AH} {K : Value → AH → Prop} : RunP tbl (.call true g args) f H K = (@callP tbl (callee f g args) H.enter ⟨fun v H' => H'.low = H.next ∧ K v { H' with low := H.low }⟩) := by
  unfold RunP
  simp only [evOp, if_true]
  cases callee f g args with
  | none => simp [callP]
  | some p =>
    simp only [callP, RunF]
    refine propext ⟨?_, ?_⟩
    · rintro ⟨k, v, H', h, hq⟩
      split at h
      · rename_i v1 H1 h1
        split at h
        · rename_i hl
          simp only [Option.some.injEq, Prod.mk.injEq] at h
          obtain ⟨rfl, rfl⟩ := h
          exact ⟨k, v1, H1, h1, hl, hq⟩
        · simp at h
      · simp at h
    · rintro ⟨k, v, H', h, hl, hq⟩
      exact ⟨k, v, _, by simp only [h, hl, if_true], hq⟩
def loneP (tbl : Tbl) (o : Option (FuncId × List Value)) [K : Kn (Value → Prop)] : Prop :=
  match o with
  | some (n, vs) => vs.all p1 = true ∧ (@RunF tbl n vs AH.lone ⟨fun v _ => p3 v = true ∧ K.k v⟩)
  | none => False
theorem loneP_some {n : FuncId} {vs : List Value} {K : Value → Prop} : (@loneP tbl (some (n, vs)) ⟨K⟩) = (vs.all p1 = true ∧ (@RunF tbl n vs AH.lone ⟨fun v _ => p3 v = true ∧ K v⟩)) := rfl
theorem rn_callL {g : Operand} {args : List Operand} {f : Fr} {H : AH} {K : Value → AH → Prop} : RunP tbl (.callL g args) f H K = (@loneP tbl (callee f g args) ⟨fun v => K v H⟩) := by
  unfold RunP
  simp only [evOp]
  cases callee f g args with
  | none => simp [loneP]
  | some p =>
    simp only [loneP, RunF]
    refine propext ⟨?_, ?_⟩
    · rintro ⟨k, v, H', h, hq⟩
      split at h
      · rename_i hp
        split at h
        · rename_i v1 H1 h1
          split at h
          · rename_i h3
            simp only [Option.some.injEq, Prod.mk.injEq] at h
            obtain ⟨rfl, rfl⟩ := h
            exact ⟨hp, k, v1, H1, h1, h3, hq⟩
          · simp at h
        · simp at h
      · simp at h
    · rintro ⟨hp, k, v, H', h, h3, hq⟩
      exact ⟨k, v, H, by simp only [hp, h, h3, if_true], hq⟩
theorem rn_fn {n : FuncId} {m : MFun} (hm : tbl n = some (.code m)) {vs : List Value} {H : AH} {Q : Value → AH → Prop} : (@RunF tbl n vs H ⟨Q⟩) = (@RunC tbl m.code (entry vs) H.enter ⟨finQ H m.results Q⟩) := by
  refine propext ⟨?_, ?_⟩
  · rintro ⟨k, v, H', h, hq⟩
    cases k with
    | zero => simp [evF] at h
    | succ k =>
      simp only [evF, hm] at h
      have up : ∀ {r}, evC (evF tbl k) (k + 1) m.code (entry vs) H.enter = some r → evC (evF tbl (k + 1)) (k + 1) m.code (entry vs) H.enter = some r := fun h => evC_mono (evF_mono (Nat.le_succ k)) (Nat.le_refl _) _ h
      split at h
      · rename_i f1 H1 h1
        split at h
        · rename_i rv hr
          simp only [Option.some.injEq] at h
          exact ⟨k + 1, _, _, _, up h1, by simp only [finQ, hr, h]; exact hq⟩
        · simp at h
      · rename_i f1 H1 h1
        split at h
        · rename_i rv hr
          simp only [Option.some.injEq] at h
          exact ⟨k + 1, _, _, _, up h1, by simp only [finQ, hr, h]; exact hq⟩
        · simp at h
      · simp at h
  · rintro ⟨k, e, f', H', h, hq⟩
    have h2 := evC_mono (LeC.refl _) (Nat.le_succ k) _ h
    cases e with
    | exit i => exact hq.elim
    | normal =>
      simp only [finQ] at hq
      split at hq
      · rename_i rv hr; exact ⟨k + 1, _, _, by simp only [evF, hm, h2, hr], hq⟩
      · exact hq.elim
    | ret =>
      simp only [finQ] at hq
      split at hq
      · rename_i rv hr; exact ⟨k + 1, _, _, by simp only [evF, hm, h2, hr], hq⟩
      · exact hq.elim
theorem rn_fun {n : FuncId} {c : MCode} {rs : List MRes} (hm : tbl n = some (.code ⟨c, rs⟩)) {vs : List Value} {H : AH} {Q : Value → AH → Prop} : (@RunF tbl n vs H ⟨Q⟩) = (@RunC tbl c (entry vs) H.enter ⟨finQ H rs Q⟩) := rn_fn hm
theorem rn_round {a : MCode} {f : Fr} {H : AH} {Q : Ex → Fr → AH → Prop} : (@RunC tbl (.loop a) f H ⟨Q⟩) = (@RunC tbl a f H ⟨seqQ Q fun f' H' => (@RunC tbl (.loop a) f' H' ⟨Q⟩)⟩) := by
  refine propext ⟨?_, ?_⟩
  · rintro ⟨k, e, f', H', h, hq⟩
    simp only [evC] at h
    cases hk : k with
    | zero => rw [hk] at h; simp [iter] at h
    | succ j =>
      rw [hk] at h
      simp only [iter] at h
      split at h
      · rename_i f1 H1 h1
        refine ⟨j + 1, .normal, f1, H1, h1, j + 1, e, f', H', ?_, hq⟩
        simp only [evC]
        exact iter_mono (fun _ _ _ h => h) j (j + 1) (Nat.le_succ j) h
      · rename_i h1
        refine ⟨j + 1, e, f', H', h, ?_⟩
        cases e with
        | normal => exact absurd h (h1 _ _)
        | _ => exact hq
  · rintro ⟨k, e, f1, H1, h1, hq⟩
    have one : ∀ {r}, evC (evF tbl k) k a f H = some r → evC (evF tbl (k + 1)) (k + 1) a f H = some r := fun h => evC_up (Nat.le_succ k) h
    cases e with
    | normal =>
      obtain ⟨k2, e, f', H', h2, hq⟩ := hq
      refine ⟨max k k2 + 1, e, f', H', ?_, hq⟩
      simp only [evC, iter]
      rw [evC_up (Nat.le_trans (Nat.le_max_left k k2) (Nat.le_succ _)) h1]
      simp only [evC] at h2
      refine iter_mono (fun _ _ _ h => evC_up (Nat.le_trans (Nat.le_max_right k k2) (Nat.le_succ _)) h) k2 _ (Nat.le_max_right k k2) h2
    | exit i => exact ⟨k + 1, .exit i, f1, H1, by simp only [evC, iter, one h1], hq⟩
    | ret => exact ⟨k + 1, .ret, f1, H1, by simp only [evC, iter, one h1], hq⟩
/-- The next round. -/
def NextI (n : Nat) (f : Fr) (H : AH) [I : Kn (Nat → Fr → AH → Prop)] : Prop := ∃ n', n' < n ∧ I.k n' f H
theorem rn_loop {a : MCode} {Q : Ex → Fr → AH → Prop} (I : Nat → Fr → AH → Prop) (h : ∀ n f H, I n f H → (@RunC tbl a f H ⟨seqQ Q fun f' H' => @NextI n f' H' ⟨I⟩⟩)) : ∀ {n f H}, I n f H → (@RunC tbl (.loop a) f H ⟨Q⟩) := by
  intro n
  induction n using Nat.strongRecOn with
  | _ n ih =>
    intro f H hi
    rw [rn_round]
    refine (h n f H hi).mono fun e f' H' hq => ?_
    cases e with
    | normal => obtain ⟨n', h1, h2⟩ := hq; exact ih n' h1 h2
    | _ => exact hq
end
end Go.Proofs.Ytildhljhbbhmmaa.AM
/- Rules for reckoning, one for each operation. -/
namespace Go.Proofs.Ytildhljhbbhmmaa.AM
open Go
set_option linter.all false
section
variable {tbl : Tbl} [hT : TMono tbl]

def letP (v : Value) [K : Kn (Value → Prop)] : Prop := K.k v
def bindV (o : Option Value) [K : Kn (Value → Prop)] : Prop :=
  match o with
  | some v => K.k v
  | none => False
theorem letP_eq {v : Value} {K : Value → Prop} : (@letP v ⟨K⟩) = K v := rfl
theorem bindV_some {v : Value} {K : Value → Prop} : (@bindV (some v) ⟨K⟩) = K v := rfl
theorem bindV_ite {p : Prop} [Decidable p] {x y : Option Value} {K : Value → Prop} : (@bindV (if p then x else y) ⟨K⟩) = if p then (@bindV x ⟨K⟩) else (@bindV y ⟨K⟩) := by split <;> rfl
theorem bindV_none {K : Value → Prop} : (@bindV none ⟨K⟩) = False := rfl
theorem bindP_none {K : Value → AH → Prop} : (@bindP none ⟨K⟩) = False := rfl
theorem bindP_ite {p : Prop} [Decidable p] {x y : Option (Value × AH)} {K : Value → AH → Prop} : (@bindP (if p then x else y) ⟨K⟩) = if p then (@bindP x ⟨K⟩) else (@bindP y ⟨K⟩) := by split <;> rfl

def pickP (v a b : Value) [K : Kn (Value → Prop)] : Prop :=
  match v with
  | .bool t => K.k (if t = true then a else b)
  | _ => False
theorem pickP_true {a b : Value} {K : Value → Prop} : (@pickP (.bool true) a b ⟨K⟩) = K a := rfl
theorem pickP_false {a b : Value} {K : Value → Prop} : (@pickP (.bool false) a b ⟨K⟩) = K b := rfl
theorem pickP_dec {p : Prop} [Decidable p] {a b : Value} {K : Value → Prop} : (@pickP (.bool (decide p)) a b ⟨K⟩) = (@iteP p ⟨K a⟩ ⟨K b⟩) := by
  by_cases h : p <;> simp [pickP, h, iteP]
theorem pickP_not {t : Bool} {a b : Value} {K : Value → Prop} : (@pickP (.bool (!t)) a b ⟨K⟩) = (@pickP (.bool t) b a ⟨K⟩) := by cases t <;> rfl
def intP (v : Value) [K : Kn (Int → Prop)] : Prop :=
  match v with
  | .int _ n => K.k n
  | _ => False
theorem intP_int {k : IntKind} {n : Int} {K : Int → Prop} : (@intP (.int k n) ⟨K⟩) = K n := rfl
def strP (v : Value) [K : Kn (ByteArray → Prop)] : Prop :=
  match v with
  | .string s => K.k s
  | _ => False
theorem strP_str {s : ByteArray} {K : ByteArray → Prop} : (@strP (.string s) ⟨K⟩) = K s := rfl
def ptrP (v : Value) [K : Kn (Addr → Prop)] : Prop :=
  match v with
  | .pointer (some a) => K.k a
  | _ => False
theorem ptrP_ptr {a : Addr} {K : Addr → Prop} : (@ptrP (.pointer (some a)) ⟨K⟩) = K a := rfl
def optP {α : Type} (o : Option α) [K : Kn (α → Prop)] : Prop :=
  match o with
  | some a => K.k a
  | none => False
theorem optP_some {α : Type} {a : α} {K : α → Prop} : (@optP _ (some a) ⟨K⟩) = K a := rfl
theorem optP_none {α : Type} {K : α → Prop} : (@optP _ none ⟨K⟩) = False := rfl
theorem optP_ite {α : Type} {p : Prop} [Decidable p] {x y : Option α} {K : α → Prop} : (@optP _ (if p then x else y) ⟨K⟩) = if p then (@optP _ x ⟨K⟩) else (@optP _ y ⟨K⟩) := by split <;> rfl
theorem oldP_nil {bs : Nat} {A : Prop} : (@oldP [] bs ⟨A⟩) = A := rfl
theorem oldP_one {b bs : Nat} {A : Prop} : (@oldP [b] bs ⟨A⟩) = if b < bs then A else False := by
  unfold oldP; simp only [List.all_cons, List.all_nil, Bool.and_true, decide_eq_true_eq]
def andP (p : Prop) [A : Kn Prop] : Prop := p ∧ A.k
theorem andP_true {A : Prop} : (@andP True ⟨A⟩) = A := by simp [andP]
theorem bindP_if {c : Prop} [Decidable c] {v : Value} {H : AH} {K : Value → AH → Prop} : (@bindP (if c then some (v, H) else none) ⟨K⟩) = (@andP c ⟨K v H⟩) := by
  by_cases h : c <;> simp [h, bindP, andP]
variable {f : Fr} {H : AH} {K : Value → AH → Prop}
theorem rn_mov {x : Operand} : RunP tbl (.mov x) f H K = (@letP (ev f x) ⟨fun v => K v H⟩) := rn_op rfl
theorem rn_pick {c a b : Operand} : RunP tbl (.pick c a b) f H K = (@pickP (ev f c) (ev f a) (ev f b) ⟨fun v => K v H⟩) := by
  rw [rn_op rfl]; simp only [evM]
  cases ev f c <;> rfl
theorem rn_bin {tk : TK} {op : BinOp} {x y : Operand} : RunP tbl (.bin tk op x y) f H K = (@bindV (binV tk op (ev f x) (ev f y)) ⟨fun v => K v H⟩) := by
  rw [rn_op rfl]; simp only [evM]
  cases binV tk op (ev f x) (ev f y) <;> rfl
def aggV (neq : Bool) (offs : List (Nat × TK)) : Value → Value → Option Value
  | .agg a, .agg b => (match eqAt a.toList b.toList offs with | some t => some (.bool (if neq = true then !t else t)) | none => none)
  | _, _ => none
theorem rn_eqc {neq : Bool} {offs : List (Nat × TK)} {x y : Operand} : RunP tbl (.eqc neq offs x y) f H K = (@bindV (aggV neq offs (ev f x) (ev f y)) ⟨fun v => K v H⟩) := by
  rw [rn_op rfl]; simp only [evM, aggV]
  cases ev f x <;> try rfl
  cases ev f y <;> try rfl
  rename_i a b
  simp only
  cases eqAt a.toList b.toList offs <;> rfl
theorem rn_un {op : UnOp} {x : Operand} : RunP tbl (.un op x) f H K = (@bindV (unV op (ev f x)) ⟨fun v => K v H⟩) := by
  rw [rn_op rfl]; simp only [evM]
  cases unV op (ev f x) <;> rfl
theorem rn_conv {k : IntKind} {x : Operand} : RunP tbl (.conv k x) f H K = (@intP (ev f x) ⟨fun n => (@letP (.int k (k.wrap n)) ⟨fun v => K v H⟩)⟩) := by
  rw [rn_op rfl]; simp only [evM]
  cases ev f x <;> rfl
theorem rn_strMov {x : Operand} : RunP tbl (.strMov x) f H K = (@strP (ev f x) ⟨fun s => K (.string s) H⟩) := by
  rw [rn_op rfl]; simp only [evM]
  cases ev f x <;> rfl
def slcBytes (H : AH) : Value → Option ByteArray
  | .slice none _ _ => some ⟨#[]⟩
  | .slice (some a) n _ => (match ldc H a n with
      | some l => (match bytesOf l with | some bs => some ⟨bs.toArray⟩ | none => none)
      | none => none)
  | _ => none
theorem rn_toStr {x : Operand} : RunP tbl (.toStr x) f H K = (@optP _ (slcBytes H (ev f x)) ⟨fun s => K (.string s) H⟩) := by
  rw [rn_op rfl]; simp only [evM, slcBytes]
  cases ev f x <;> try rfl
  rename_i a n c
  cases a <;> try rfl
  rename_i a
  simp only
  cases ldc H a n <;> try rfl
  rename_i l
  simp only
  cases bytesOf l <;> rfl
theorem rn_toBytes {x : Operand} : RunP tbl (.toBytes x) f H K = (@strP (ev f x) ⟨fun s => (@andP (s.size ≤ 140737488355328) ⟨K (.slice (some ⟨H.next, 0, none⟩) s.size s.size) (H.push ⟨byteCells s, 1, false⟩)⟩)⟩) := by
  rw [rn_op rfl]; simp only [evM]
  cases ev f x <;> try rfl
  exact bindP_if
theorem rn_alloc {zero : List Value} {es : Nat} : RunP tbl (.alloc zero es) f H K = K (.pointer (some ⟨H.next, 0, none⟩)) (H.push ⟨zero, es, false⟩) := rn_op rfl
theorem rn_box {es : Nat} {x : Operand} : RunP tbl (.box es x) f H K = (@letP (ev f x) ⟨fun v => (@andP (v.cells.toList.all one = true) ⟨K (.pointer (some ⟨H.next, 0, none⟩)) (H.push ⟨v.cells.toList, es, false⟩)⟩)⟩) := by
  rw [rn_op rfl]; simp only [evM, letP]
  exact bindP_if
def partsV (f : Fr) : List (Nat × Nat × Operand) → List (Nat × Nat × Value)
  | [] => []
  | p :: r => (p.1, p.2.1, ev f p.2.2) :: partsV f r
theorem partsV_eq (ps : List (Nat × Nat × Operand)) : (ps.map fun p => (p.1, p.2.1, ev f p.2.2)) = partsV f ps := by
  induction ps with
  | nil => rfl
  | cons p r ih => simp only [List.map_cons, partsV, ih]
theorem rn_build {zero : List Value} {parts : List (Nat × Nat × Operand)} : RunP tbl (.build zero parts) f H K = (@optP _ (fillC zero (partsV f parts)) ⟨fun cs => K (.agg cs.toArray) H⟩) := by
  rw [rn_op rfl]; simp only [evM, partsV_eq]
  cases fillC zero (partsV f parts) <;> rfl
theorem rn_buildSlice {zero : List Value} {es n : Nat} {parts : List (Nat × Nat × Operand)} : RunP tbl (.buildSlice zero es n parts) f H K = (@optP _ (fillC zero (partsV f parts)) ⟨fun cs => (@andP (cs.all one = true) ⟨K (.slice (some ⟨H.next, 0, none⟩) n n) (H.push ⟨cs, es, false⟩)⟩)⟩) := by
  rw [rn_op rfl]; simp only [evM, partsV_eq]
  cases fillC zero (partsV f parts) <;> try rfl
  exact bindP_if
theorem rn_load {agg : Bool} {n : Nat} {a : Operand} : RunP tbl (.load agg n a) f H K = (@ptrP (ev f a) ⟨fun p => (@optP _ (ldc H p n) ⟨fun cs => (@bindV (oneOf agg cs) ⟨fun v => K v H⟩)⟩)⟩) := by
  rw [rn_op rfl]; simp only [evM]
  cases ev f a <;> try rfl
  rename_i p
  cases p <;> try rfl
  rename_i p
  simp only [ptrP]
  cases ldc H p n <;> try rfl
  rename_i cs
  simp only [optP]
  cases oneOf agg cs <;> rfl
theorem rn_store {n : Nat} {a x : Operand} : RunP tbl (.store n a x) f H K = (@ptrP (ev f a) ⟨fun p => (@letP (ev f x) ⟨fun v => (@andP (v.cells.size = n) ⟨(@optP _ (stc H p v.cells.toList) ⟨fun H' => K undef H'⟩)⟩)⟩)⟩) := by
  rw [rn_op rfl]; simp only [evM]
  cases ev f a <;> try rfl
  rename_i p
  cases p <;> try rfl
  rename_i p
  simp only [ptrP, letP, andP]
  split
  · rename_i h
    simp only [h, true_and]
    cases stc H p (ev f x).cells.toList <;> rfl
  · rename_i h; simp [h, bindP]
def farV (v : Value) (b : Nat) : Bool := match v with | .pointer (some q) => decide (q.block ≠ b) | _ => false
theorem farB_nil {b : Nat} : farB f [] b = true := rfl
theorem farB_cons {t : Tmp} {r : List Tmp} {b : Nat} : farB f (t :: r) b = (farV (f t) b && farB f r b) := rfl
theorem farV_ptr {q : Addr} {b : Nat} : farV (.pointer (some q)) b = decide (q.block ≠ b) := rfl
theorem rn_storeX {n : Nat} {a x : Operand} {far : List Tmp} : RunP tbl (.storeX n a x far) f H K = (@ptrP (ev f a) ⟨fun p => (@andP (farB f far p.block = true) ⟨(@letP (ev f x) ⟨fun v => (@andP (v.cells.size = n) ⟨(@optP _ (stc H p v.cells.toList) ⟨fun H' => K undef H'⟩)⟩)⟩)⟩)⟩) := by
  rw [rn_op rfl]; simp only [evM]
  cases ev f a <;> try rfl
  rename_i p
  cases p <;> try rfl
  rename_i p
  simp only [ptrP, letP, andP]
  split
  · rename_i h0
    simp only [h0, true_and]
    split
    · rename_i h
      simp only [h, true_and]
      cases stc H p (ev f x).cells.toList <;> rfl
    · rename_i h; simp [h, bindP]
  · rename_i h; simp [h, bindP]
theorem rn_boxDead {x : Operand} : RunP tbl (.boxDead x) f H K = (@andP (0 < H.next ∧ (H.get 0).isNone = true) ⟨K (.pointer (some ⟨0, 0, none⟩)) H⟩) := by
  rw [rn_op rfl]; simp only [evM]
  exact bindP_if
theorem rn_newMap : RunP tbl .newMap f H K = K (.map (some 0)) H := rn_op rfl
def nilV : Value → Option Value
  | .pointer (some p) => some (.pointer (some p))
  | .func (.func g) a b => some (.func (.func g) a b)
  | _ => none
theorem rn_nilCheck {x : Operand} : RunP tbl (.nilCheck x) f H K = (@bindV (nilV (ev f x)) ⟨fun v => K v H⟩) := by
  rw [rn_op rfl]; simp only [evM, nilV]
  cases ev f x <;> try rfl
  · rename_i p; cases p <;> rfl
  · rename_i fn a b; cases fn <;> rfl
theorem rn_addOff {o : Nat} {x : Operand} : RunP tbl (.addOff o x) f H K = (@ptrP (ev f x) ⟨fun p => K (.pointer (some (addA p o))) H⟩) := by
  rw [rn_op rfl]; simp only [evM]
  cases ev f x <;> try rfl
  rename_i p; cases p <;> rfl
def idxSP (v : Value) (es : Nat) (i : Int) [K : Kn (Value → Prop)] : Prop :=
  match v with
  | .slice (some a) n _ => (@andP (0 ≤ i ∧ i < n) ⟨K.k (.pointer (some (addA a (i.toNat * es))))⟩)
  | _ => False
theorem rn_idxS {es : Nat} {x i : Operand} : RunP tbl (.idxS es x i) f H K = (@intP (ev f i) ⟨fun j => (@letP (ev f x) ⟨fun v => (@idxSP v es j ⟨fun v => K v H⟩)⟩)⟩) := by
  rw [rn_op rfl]; simp only [evM, letP]
  cases ev f i <;> (cases ev f x <;> try rfl)
  all_goals rename_i a n c; cases a
  all_goals try rfl
  all_goals exact bindP_if
theorem rn_idxA {len es : Nat} {x i : Operand} : RunP tbl (.idxA len es x i) f H K = (@intP (ev f i) ⟨fun j => (@ptrP (ev f x) ⟨fun a => (@andP (0 ≤ j ∧ j < len) ⟨K (.pointer (some (addA a (j.toNat * es)))) H⟩)⟩)⟩) := by
  rw [rn_op rfl]; simp only [evM]
  cases ev f i <;> (cases ev f x <;> try rfl)
  all_goals rename_i a; cases a
  all_goals try rfl
  all_goals exact bindP_if
def fieldV (agg : Bool) (off n : Nat) : Value → Option Value
  | .agg cs => if off + n ≤ cs.size then oneOf agg ((cs.toList.drop off).take n) else none
  | _ => none
theorem rn_field {agg : Bool} {off n : Nat} {x : Operand} : RunP tbl (.field agg off n x) f H K = (@bindV (fieldV agg off n (ev f x)) ⟨fun v => K v H⟩) := by
  rw [rn_op rfl]; simp only [evM, fieldV]
  cases ev f x <;> try rfl
  simp only
  split
  · cases oneOf agg _ <;> rfl
  · rfl
/-- A byte of a text. -/
def byteAt (s : ByteArray) (j : Int) : Int := (s.data.toList.getD j.toNat 0).toNat
theorem rn_strIdx {x i : Operand} : RunP tbl (.strIdx x i) f H K = (@strP (ev f x) ⟨fun s => (@intP (ev f i) ⟨fun j => (@andP (0 ≤ j ∧ j < s.size) ⟨K (.int .u8 (byteAt s j)) H⟩)⟩)⟩) := by
  rw [rn_op rfl]; simp only [evM]
  cases ev f x <;> try rfl
  cases ev f i <;> try rfl
  exact bindP_if
def aggAt (agg : Bool) (len es : Nat) (j : Int) : Value → Option Value
  | .agg cs => if 0 ≤ j ∧ j < len ∧ j.toNat * es + es ≤ cs.size then oneOf agg ((cs.toList.drop (j.toNat * es)).take es) else none
  | _ => none
theorem rn_arrIdx {agg : Bool} {len es : Nat} {x i : Operand} : RunP tbl (.arrIdx agg len es x i) f H K = (@intP (ev f i) ⟨fun j => (@bindV (aggAt agg len es j (ev f x)) ⟨fun v => K v H⟩)⟩) := by
  rw [rn_op rfl]; simp only [evM, aggAt]
  cases ev f i <;> (cases ev f x <;> try rfl)
  rename_i k n cs
  by_cases h : 0 ≤ n ∧ n < len ∧ n.toNat * es + es ≤ cs.size
  · simp only [intP, aggAt, if_pos h]
    cases oneOf agg ((cs.toList.drop (n.toNat * es)).take es) <;> rfl
  · simp only [intP, aggAt, if_neg h]; rfl
theorem rn_sliceStr {x : Operand} {lo hi : Option Operand} : RunP tbl (.sliceStr x lo hi) f H K = (@strP (ev f x) ⟨fun s => (@optP _ (bound f hi s.size s.size) ⟨fun h => (@optP _ (bound f lo 0 h) ⟨fun l => K (.string (s.extract l h)) H⟩)⟩)⟩) := by
  rw [rn_op rfl]; simp only [evM]
  cases ev f x <;> try rfl
  rename_i s
  simp only [strP]
  cases bound f hi s.size s.size <;> try rfl
  rename_i h
  simp only [optP]
  cases bound f lo 0 h <;> rfl
def slcAt (H : AH) (es : Nat) : Value → Nat → Nat → Option Value
  | .slice a n c, l, h => if h ≤ c then (match a with
          | none => some (.slice none (h - l) (c - l))
          | some p => (match H.get p.block with
            | some b => if b.es = es then
                if l = 0 then some (.slice (some p) h c)
                else if l < c then some (.slice (some (addA p (l * es))) (h - l) (c - l))
                else if H.get 0 = none then some (.slice (some ⟨0, 0, none⟩) 0 0) else none
              else none
            | none => none)) else none
  | _, _, _ => none
def slcN (v : Value) [K : Kn (Nat → Nat → Prop)] : Prop :=
  match v with
  | .slice _ n c => K.k n c
  | _ => False
theorem slcN_eq {a : Option Addr} {n c : Nat} {K : Nat → Nat → Prop} : (@slcN (.slice a n c) ⟨K⟩) = K n c := rfl
theorem rn_sliceS {es : Nat} {x : Operand} {lo hi : Option Operand} : RunP tbl (.sliceS es x lo hi) f H K = (@slcN (ev f x) ⟨fun n c => (@optP _ (bound f hi n c) ⟨fun h => (@optP _ (bound f lo 0 h) ⟨fun l => (@bindV (slcAt H es (ev f x) l h) ⟨fun v => K v H⟩)⟩)⟩)⟩) := by
  rw [rn_op rfl]; simp only [evM]
  cases ev f x <;> try rfl
  rename_i a n c
  simp only [slcN]
  cases bound f hi n c <;> try rfl
  rename_i h
  simp only [optP]
  cases bound f lo 0 h <;> try rfl
  rename_i l
  simp only [slcAt]
  split
  · cases a <;> try rfl
    rename_i p
    simp only
    cases H.get p.block <;> try rfl
    simp only
    (repeat' split) <;> rfl
  · rfl
theorem rn_sliceA {len es : Nat} {x : Operand} {lo hi : Option Operand} : RunP tbl (.sliceA len es x lo hi) f H K = (@ptrP (ev f x) ⟨fun p => (@optP _ (bound f hi len len) ⟨fun h => (@optP _ (bound f lo 0 h) ⟨fun l => (@optP _ (H.get p.block) ⟨fun b => (@andP (b.es = es ∧ p.off + len * es ≤ b.cells.length) ⟨K (.slice (some (if len = l then p else addA p (l * es))) (h - l) (len - l)) H⟩)⟩)⟩)⟩)⟩) := by
  rw [rn_op rfl]; simp only [evM]
  cases ev f x <;> try rfl
  rename_i p
  cases p <;> try rfl
  rename_i p
  simp only [ptrP]
  cases bound f hi len len <;> try rfl
  rename_i h
  simp only [optP]
  cases bound f lo 0 h <;> try rfl
  rename_i l
  simp only
  cases H.get p.block <;> try rfl
  exact bindP_if
theorem rn_toArr {n : Nat} {x : Operand} : RunP tbl (.toArr n x) f H K = (@bindV (match ev f x with | .slice (some a) l _ => if n ≤ l then some (.pointer (some a)) else none | _ => none) ⟨fun v => K v H⟩) := by
  rw [rn_op rfl]; simp only [evM]
  cases ev f x <;> try rfl
  rename_i a l c
  cases a <;> try rfl
  simp only
  split <;> rfl
theorem rn_mkIface {t : TypeId} {x : Operand} : RunP tbl (.mkIface t x) f H K = (@letP (ev f x) ⟨fun v => K (.iface t v) H⟩) := rn_op rfl
def evL (f : Fr) : List Operand → List Value
  | [] => []
  | x :: l => ev f x :: evL f l
theorem evL_eq (l : List Operand) : l.map (ev f) = evL f l := by
  induction l with
  | nil => rfl
  | cons x l ih => simp only [List.map_cons, evL, ih]
theorem rn_mkFunc {fn : Fn} {a b : List Operand} : RunP tbl (.mkFunc fn a b) f H K = (@letP (.func fn (evL f a).toArray (evL f b).toArray) ⟨fun v => K v H⟩) := by
  rw [rn_op rfl]; simp only [evM, evL_eq, bindP, letP]
theorem rn_mkSlice {zero : List Value} {es bytes : Nat} {l c : Operand} : RunP tbl (.mkSlice zero es bytes l c) f H K = (@intP (ev f l) ⟨fun n => (@intP (ev f c) ⟨fun m => (@andP (0 ≤ n ∧ n ≤ m ∧ m.toNat * bytes ≤ 140737488355328 ∧ m ≤ 9223372036854775807) ⟨K (.slice (some ⟨H.next, 0, none⟩) n.toNat m.toNat) (H.push ⟨rep m.toNat zero, es, false⟩)⟩)⟩)⟩) := by
  rw [rn_op rfl]; simp only [evM]
  cases ev f l <;> try rfl
  cases ev f c <;> try rfl
  simp only [intP, andP]
  split
  · rename_i h; simp only [h, bindP]; simp
  · rename_i h; simp only [h, bindP]; simp
theorem rn_extract {x : Operand} {i : Nat} : RunP tbl (.extract x i) f H K = (@bindV (match ev f x with | .tuple vs => vs[i]? | _ => none) ⟨fun v => K v H⟩) := by
  rw [rn_op rfl]; simp only [evM]
  cases ev f x <;> try rfl
  rename_i vs
  simp only
  cases vs[i]? <;> rfl
theorem rn_append {es bytes : Nat} {s x : Operand} : RunP tbl (.append es bytes s x) f H K = (@optP _ (added H es (ev f x)) ⟨fun p => (@bindP (appended H es bytes (ev f s) p.1 p.2) ⟨K⟩)⟩) := by
  rw [rn_op rfl]; simp only [evM]
  cases added H es (ev f x) <;> rfl
theorem rn_copy {es : Nat} {d s : Operand} : RunP tbl (.copy es d s) f H K = (@bindP (evM (.copy es d s) f H) ⟨K⟩) := rn_op rfl
theorem rn_len {x : Operand} : RunP tbl (.len x) f H K = (@slcN (ev f x) ⟨fun n _ => K (.int .i64 n) H⟩) := by
  rw [rn_op rfl]; simp only [evM]
  cases ev f x <;> rfl
theorem rn_lenStr {x : Operand} : RunP tbl (.lenStr x) f H K = (@strP (ev f x) ⟨fun s => K (.int .i64 s.size) H⟩) := by
  rw [rn_op rfl]; simp only [evM]
  cases ev f x <;> rfl
theorem rn_lenC {n : Nat} : RunP tbl (.lenC n) f H K = K (.int .i64 n) H := rn_op rfl
theorem rn_min {x : Operand} {xs : List Operand} : RunP tbl (.min x xs) f H K = (@bindV (foldV minV (ev f x) (evL f xs)) ⟨fun v => K v H⟩) := by
  rw [rn_op rfl]; simp only [evM, evL_eq]
  cases foldV minV (ev f x) (evL f xs) <;> rfl
theorem rn_max {x : Operand} {xs : List Operand} : RunP tbl (.max x xs) f H K = (@bindV (foldV maxV (ev f x) (evL f xs)) ⟨fun v => K v H⟩) := by
  rw [rn_op rfl]; simp only [evM, evL_eq]
  cases foldV maxV (ev f x) (evL f xs) <;> rfl

/-! ### Values -/
-- No rule about frames is proved by plain rfl: the kernel would compare frames, and so values, at a guess.
theorem put_some {d : Tmp} {v : Value} : put f (some d) v = upd f d v := (And.intro rfl trivial : _ ∧ True).1
theorem put_none {v : Value} : put f none v = f := (And.intro rfl trivial : _ ∧ True).1
theorem bin_add {k : IntKind} {a b : Int} : binV .int .add (.int k a) (.int k b) = some (.int k (k.wrap (a + b))) := by simp [binV, intBin]
theorem bin_sub {k : IntKind} {a b : Int} : binV .int .sub (.int k a) (.int k b) = some (.int k (k.wrap (a - b))) := by simp [binV, intBin]
theorem bin_mul {k : IntKind} {a b : Int} : binV .int .mul (.int k a) (.int k b) = some (.int k (k.wrap (a * b))) := by simp [binV, intBin]
theorem bin_eql {k : IntKind} {a b : Int} : binV .int .eql (.int k a) (.int k b) = some (.bool (decide (a = b))) := by simp [binV, intBin]
theorem bin_neq {k : IntKind} {a b : Int} : binV .int .neq (.int k a) (.int k b) = some (.bool (!decide (a = b))) := by simp [binV, intBin]
theorem bin_lss {k : IntKind} {a b : Int} : binV .int .lss (.int k a) (.int k b) = some (.bool (decide (a < b))) := by simp [binV, intBin]
theorem bin_leq {k : IntKind} {a b : Int} : binV .int .leq (.int k a) (.int k b) = some (.bool (decide (a ≤ b))) := by simp [binV, intBin]
theorem bin_gtr {k : IntKind} {a b : Int} : binV .int .gtr (.int k a) (.int k b) = some (.bool (decide (b < a))) := by simp [binV, intBin]
theorem bin_geq {k : IntKind} {a b : Int} : binV .int .geq (.int k a) (.int k b) = some (.bool (decide (b ≤ a))) := by simp [binV, intBin]
theorem bin_and {k : IntKind} {a b : Int} : binV .int .and (.int k a) (.int k b) = some (.int k (bitsK .and k a b)) := by simp [binV, intBin]
theorem bin_or {k : IntKind} {a b : Int} : binV .int .or (.int k a) (.int k b) = some (.int k (bitsK .or k a b)) := by simp [binV, intBin]
theorem bin_xor {k : IntKind} {a b : Int} : binV .int .xor (.int k a) (.int k b) = some (.int k (bitsK .xor k a b)) := by simp [binV, intBin]
theorem bin_andNot {k : IntKind} {a b : Int} : binV .int .andNot (.int k a) (.int k b) = some (.int k (bitsK .andNot k a b)) := by simp [binV, intBin]
theorem bin_quo {k : IntKind} {a b : Int} : binV .int .quo (.int k a) (.int k b) = if b = 0 then none else some (.int k (k.wrap (a.tdiv b))) := by simp [binV, intBin]
theorem bin_rem {k : IntKind} {a b : Int} : binV .int .rem (.int k a) (.int k b) = if b = 0 then none else some (.int k (a.tmod b)) := by simp [binV, intBin]
theorem bin_shl {k k' : IntKind} {a b : Int} : binV .int .shl (.int k a) (.int k' b) = if b < 0 then none else some (.int k (shiftK .shl k a b)) := by simp [binV, shBin]
theorem bin_shr {k k' : IntKind} {a b : Int} : binV .int .shr (.int k a) (.int k' b) = if b < 0 then none else some (.int k (shiftK .shr k a b)) := by simp [binV, shBin]
theorem bin_beq {a b : Bool} : binV .bool .eql (.bool a) (.bool b) = some (.bool (a == b)) := rfl
theorem bin_bne {a b : Bool} : binV .bool .neq (.bool a) (.bool b) = some (.bool (!(a == b))) := rfl
theorem bin_cat {a b : ByteArray} : binV .str .add (.string a) (.string b) = if a.size + b.size ≤ 9223372036854775807 then some (.string (a ++ b)) else none := rfl
theorem bin_seq {a b : ByteArray} : binV .str .eql (.string a) (.string b) = some (.bool (decide (a = b))) := rfl
theorem bin_sne {a b : ByteArray} : binV .str .neq (.string a) (.string b) = some (.bool (!decide (a = b))) := rfl
theorem bin_nilL {b : Option Addr} : binV .ptr .eql (.pointer none) (.pointer b) = some (.bool b.isNone) := rfl
theorem bin_nilR {a : Option Addr} : binV .ptr .eql (.pointer a) (.pointer none) = some (.bool a.isNone) := by cases a <;> rfl
theorem bin_nilLn {b : Option Addr} : binV .ptr .neq (.pointer none) (.pointer b) = some (.bool (!b.isNone)) := rfl
theorem bin_nilRn {a : Option Addr} : binV .ptr .neq (.pointer a) (.pointer none) = some (.bool (!a.isNone)) := by cases a <;> rfl
theorem bin_slcR {a : Option Addr} {n c m k : Nat} : binV .slc .eql (.slice a n c) (.slice none m k) = some (.bool a.isNone) := by cases a <;> rfl
theorem bin_slcRn {a : Option Addr} {n c m k : Nat} : binV .slc .neq (.slice a n c) (.slice none m k) = some (.bool (!a.isNone)) := by cases a <;> rfl
theorem bin_ifcR {t : TypeId} {v : Value} : binV .ifc .eql (.iface t v) .nilIface = some (.bool false) := rfl
theorem bin_ifcRn {t : TypeId} {v : Value} : binV .ifc .neq (.iface t v) .nilIface = some (.bool true) := rfl
theorem un_not {b : Bool} : unV .not (.bool b) = some (.bool (!b)) := rfl
theorem un_neg {k : IntKind} {n : Int} : unV .neg (.int k n) = some (.int k (k.wrap (0 - n))) := rfl
theorem un_xor {k : IntKind} {n : Int} : unV .xor (.int k n) = some (.int k (bitsK .xor k (if k.signed then -1 else k.max) n)) := rfl
theorem foldV_nil {g : Value → Value → Option Value} {v : Value} : foldV g v [] = some v := rfl
theorem foldV_min {k k' : IntKind} {a b : Int} {l : List Value} : foldV minV (.int k a) (.int k' b :: l) = foldV minV (.int k (if b < a then b else a)) l := rfl
theorem foldV_max {k k' : IntKind} {a b : Int} {l : List Value} : foldV maxV (.int k a) (.int k' b :: l) = foldV maxV (.int k (if a < b then b else a)) l := rfl
theorem oneOf_one {v : Value} : oneOf false [v] = some v := rfl
theorem oneOf_agg {l : List Value} : oneOf true l = some (.agg l.toArray) := rfl
theorem back_p3 {H : AH} {v : Value} {H1 : AH} (h : ¬ H1.low < H.next) (hp : p3 v = true) : back H H1 v = (v, H) := by
  unfold back; rw [if_neg h, if_pos hp]
theorem finQ_normal {H H' : AH} {rs : List MRes} {Q : Value → AH → Prop} {f' : Fr} : finQ H rs Q .normal f' H' = (@optP _ (resL f' H' rs) ⟨fun vs => (@letP (tupV vs) ⟨fun v => Q (back H H' v).1 (back H H' v).2⟩)⟩) := by
  simp only [finQ]; cases resL f' H' rs <;> rfl
theorem finQ_ret {H H' : AH} {rs : List MRes} {Q : Value → AH → Prop} {f' : Fr} : finQ H rs Q .ret f' H' = (@optP _ (resL f' H' rs) ⟨fun vs => (@letP (tupV vs) ⟨fun v => Q (back H H' v).1 (back H H' v).2⟩)⟩) := by
  simp only [finQ]; cases resL f' H' rs <;> rfl
theorem resL_nil {H : AH} : resL f H [] = some [] := rfl
theorem resL_tmp {H : AH} {t : Tmp} {l : List MRes} : resL f H (.tmp t :: l) = (resL f H l).map fun vs => f t :: vs := by
  simp only [resL, resV]; cases resL f H l <;> rfl
theorem tupV_one {v : Value} : tupV [v] = v := rfl
theorem tupV_nil : tupV [] = .tuple #[] := rfl
theorem tupV_two {u v : Value} {l : List Value} : tupV (u :: v :: l) = .tuple (u :: v :: l).toArray := rfl
theorem p3_bool {b : Bool} : p3 (.bool b) = true := (And.intro rfl trivial : _ ∧ True).1
theorem p3_int {k : IntKind} {n : Int} : p3 (.int k n) = true := (And.intro rfl trivial : _ ∧ True).1
theorem p3_str {s : ByteArray} : p3 (.string s) = true := (And.intro rfl trivial : _ ∧ True).1
theorem p3_undef : p3 undef = true := (And.intro rfl trivial : _ ∧ True).1
theorem p3_nilS {n c : Nat} : p3 (.slice none n c) = true := (And.intro rfl trivial : _ ∧ True).1
theorem p3_nilP : p3 (.pointer none) = true := (And.intro rfl trivial : _ ∧ True).1
theorem p3_tup {l : List Value} : p3 (.tuple l.toArray) = l.all p2 := (And.intro rfl trivial : _ ∧ True).1
theorem p2_bool {b : Bool} : p2 (.bool b) = true := (And.intro rfl trivial : _ ∧ True).1
theorem p2_int {k : IntKind} {n : Int} : p2 (.int k n) = true := (And.intro rfl trivial : _ ∧ True).1
theorem p2_str {s : ByteArray} : p2 (.string s) = true := (And.intro rfl trivial : _ ∧ True).1
theorem p2_nilS {n c : Nat} : p2 (.slice none n c) = true := (And.intro rfl trivial : _ ∧ True).1
theorem p2_nilP : p2 (.pointer none) = true := (And.intro rfl trivial : _ ∧ True).1
theorem cells_agg {a : Array Value} : (Value.agg a).cells = a := rfl
theorem cells_int {k : IntKind} {n : Int} : (Value.int k n).cells = #[.int k n] := rfl
theorem cells_bool {b : Bool} : (Value.bool b).cells = #[.bool b] := rfl
theorem cells_str {s : ByteArray} : (Value.string s).cells = #[.string s] := rfl
theorem cells_ptr {a : Option Addr} : (Value.pointer a).cells = #[.pointer a] := rfl
theorem cells_slc {a : Option Addr} {n c : Nat} : (Value.slice a n c).cells = #[.slice a n c] := rfl
theorem cells_func {fn : Fn} {a b : Array Value} : (Value.func fn a b).cells = #[.func fn a b] := rfl
theorem one_map {a : Option Nat} : one (.map a) = true := (And.intro rfl trivial : _ ∧ True).1
theorem cells_map {a : Option Nat} : (Value.map a).cells = #[.map a] := rfl
theorem one_iface {t : TypeId} {v : Value} : one (.iface t v) = true := (And.intro rfl trivial : _ ∧ True).1
theorem cells_iface {t : TypeId} {v : Value} : (Value.iface t v).cells = #[.iface t v] := rfl
theorem one_nilI : one .nilIface = true := (And.intro rfl trivial : _ ∧ True).1
theorem cells_nilI : (Value.nilIface).cells = #[.nilIface] := rfl
theorem one_int {k : IntKind} {n : Int} : one (.int k n) = true := (And.intro rfl trivial : _ ∧ True).1
theorem one_bool {b : Bool} : one (.bool b) = true := (And.intro rfl trivial : _ ∧ True).1
theorem one_str {s : ByteArray} : one (.string s) = true := (And.intro rfl trivial : _ ∧ True).1
theorem one_ptr {a : Option Addr} : one (.pointer a) = true := (And.intro rfl trivial : _ ∧ True).1
theorem one_slc {a : Option Addr} {n c : Nat} : one (.slice a n c) = true := (And.intro rfl trivial : _ ∧ True).1
theorem one_func {fn : Fn} {a b : Array Value} : one (.func fn a b) = true := (And.intro rfl trivial : _ ∧ True).1
def ldcB : Option Blk → Nat → Nat → Option (List Value)
  | some b, off, n => if off + n ≤ b.cells.length then some ((b.cells.drop off).take n) else none
  | none, _, _ => none
theorem ldc_eq {H : AH} {a : Addr} {n : Nat} : ldc H a n = ldcB (H.get a.block) a.off n := by
  unfold ldc ldcB; cases H.get a.block <;> rfl
theorem ldcB_some {b : Blk} {off n : Nat} : ldcB (some b) off n = if off + n ≤ b.cells.length then some ((b.cells.drop off).take n) else none := rfl
theorem addA_eq {b o n : Nat} : addA ⟨b, o, none⟩ n = ⟨b, o + n, none⟩ := rfl
theorem lw_enter {H : AH} : H.enter.low = H.next := (And.intro rfl trivial : _ ∧ True).1
theorem nx_enter {H : AH} : H.enter.next = H.next := (And.intro rfl trivial : _ ∧ True).1
theorem gt_enter {H : AH} {id : Nat} : H.enter.get id = H.get id := (And.intro rfl trivial : _ ∧ True).1
theorem lw_push {H : AH} {b : Blk} : (H.push b).low = H.low := (And.intro rfl trivial : _ ∧ True).1
theorem gt_push {H : AH} {b : Blk} {id : Nat} : (H.push b).get id = if id = H.next then some b else H.get id := by
  split
  · rename_i h; subst h; exact AH.get_push_eq H b
  · rename_i h
    rcases Nat.lt_or_ge id H.next with h' | h'
    · exact AH.get_push_lt H b h'
    · have e1 : H.get id = none := by unfold AH.get; rw [List.getElem?_eq_none h']; rfl
      have e2 : (H.push b).get id = none := by
        unfold AH.get; rw [List.getElem?_eq_none (by have := AH.next_push H b; unfold AH.next at this h' h; omega)]; rfl
      rw [e1, e2]
theorem lw_set {H : AH} {b : Option Blk} {id : Nat} : (H.set id b).low = min H.low id := rfl
theorem upd_self {d : Tmp} {v : Value} : upd f d v d = v := if_pos rfl
theorem upd_ne {d t : Tmp} {v : Value} (h : t ≠ d) : upd f d v t = f t := if_neg h
theorem ev_tmp {t : Tmp} : ev f (.tmp t) = f t := (And.intro rfl trivial : _ ∧ True).1
theorem ev_const {v : Value} : ev f (.const v) = v := (And.intro rfl trivial : _ ∧ True).1
theorem ev_func {g : FuncId} : ev f (.func g) = .func (.func g) #[] #[] := (And.intro rfl trivial : _ ∧ True).1
theorem entry_at {args : List Value} {t : Tmp} : entry args t = args.getD t undef := (And.intro rfl trivial : _ ∧ True).1
def boundV (v : Value) (most : Nat) : Option Nat :=
  match asNat v with
  | some n => if n ≤ most then some n else none
  | none => none
theorem bound_none {d m : Nat} : bound f none d m = some d := (And.intro rfl trivial : _ ∧ True).1
theorem bound_some {o : Operand} {d m : Nat} : bound f (some o) d m = boundV (ev f o) m := (And.intro rfl trivial : _ ∧ True).1
theorem boundV_int {k : IntKind} {n : Int} {m : Nat} : boundV (.int k n) m = if 0 ≤ n ∧ n.toNat ≤ m then some n.toNat else none := by
  unfold boundV asNat
  by_cases h : 0 ≤ n <;> simp [h]
def calleeV : Value → List Value → Option (FuncId × List Value)
  | .func (.func n) first captured, args => some (n, first.toList ++ args ++ captured.toList)
  | _, _ => none
theorem calleeV_eq {n : FuncId} {a b : Array Value} {args : List Value} : calleeV (.func (.func n) a b) args = some (n, a.toList ++ args ++ b.toList) := rfl
theorem callee_eq {g : Operand} {args : List Operand} : callee f g args = calleeV (ev f g) (evL f args) := by
  unfold callee
  rw [evL_eq]
  cases ev f g <;> try rfl
  rename_i fn a b
  cases fn <;> rfl
end
end Go.Proofs.Ytildhljhbbhmmaa.AM
/- Slices, words: common lemmas. -/
namespace Go.Proofs.Ytildhljhbbhmmaa.AM
open Go
set_option linter.all false
section
variable {tbl : Tbl} [hT : TMono tbl]

/-- A slice of one-cell elements. -/
def Sl (H : AH) (es : Nat) (v : Value) (n : Nat) (l : List Value) : Prop := (∃ a c, v = .slice a 0 c ∧ n = 0 ∧ l = []) ∨ ∃ a c, v = .slice (some a) n c ∧ ldc H a (n * es) = some l
theorem Sl.shape {H : AH} {es n : Nat} {v : Value} {l : List Value} (h : Sl H es v n l) : ∃ a c, v = .slice a n c := by
  rcases h with ⟨a, c, rfl, rfl, rfl⟩ | ⟨a, c, rfl, h⟩
  · exact ⟨a, c, rfl⟩
  · exact ⟨some a, c, rfl⟩
theorem ldc_len {H : AH} {a : Addr} {n : Nat} {l : List Value} (h : ldc H a n = some l) : l.length = n := by
  unfold ldc at h
  split at h
  · split at h
    · simp only [Option.some.injEq] at h; subst h; simp; omega
    · simp at h
  · simp at h
theorem ldc_sub {H : AH} {a : Addr} {n i m : Nat} {l : List Value} (h : ldc H a n = some l) (hi : i + m ≤ n) : ldc H (addA a i) m = some ((l.drop i).take m) := by
  rw [ldc_eq] at h ⊢
  simp only [addA]
  cases hb : H.get a.block with
  | none => rw [hb] at h; simp [ldcB] at h
  | some b =>
    rw [hb] at h
    rw [ldcB_some] at h ⊢
    split at h
    · rename_i hle
      simp only [Option.some.injEq] at h
      rw [if_pos (by omega), ← h, List.drop_take, List.drop_drop, List.take_take]
      congr 2
      omega
    · simp at h
theorem Sl.len {H : AH} {es n : Nat} {v : Value} {l : List Value} (h : Sl H es v n l) : l.length = n * es := by
  rcases h with ⟨a, c, rfl, rfl, rfl⟩ | ⟨a, c, rfl, h⟩
  · simp
  · exact ldc_len h
/-- Element number i is read. -/
theorem Sl.at_ {H : AH} {es n : Nat} {v : Value} {l : List Value} (h : Sl H es v n l) {i : Nat} (hi : i < n) {K : Value → Prop} (hK : ∀ p : Addr, p.block < H.next → ldcB (H.get p.block) p.off es = some ((l.drop (i * es)).take es) → K (.pointer (some p))) : (@idxSP v es (i : Int) ⟨K⟩) := by
  rcases h with ⟨a, c, rfl, rfl, rfl⟩ | ⟨a, c, rfl, h⟩
  · omega
  · unfold idxSP
    simp only
    refine ⟨⟨by omega, by omega⟩, ?_⟩
    rw [Int.toNat_natCast]
    have h2 := ldc_sub h (i := i * es) (m := es) (by
      have := Nat.mul_le_mul_right es (Nat.succ_le_of_lt hi)
      rw [Nat.succ_mul] at this
      exact this)
    exact hK _ (ldc_lt h2) (by rw [← ldc_eq]; exact h2)
theorem take_one {α : Type} {l : List α} {i : Nat} (h : i < l.length) : (l.drop i).take 1 = [l[i]] := by
  rw [List.drop_eq_getElem_cons h]; rfl
def I64 (x : Int) : Value := .int .i64 x
theorem Sl.int {H : AH} {v : Value} {l : List Int} (h : Sl H 1 v l.length (l.map I64)) {i : Nat} (hi : i < l.length) {K : Value → Prop} (hK : ∀ p : Addr, p.block < H.next → ldcB (H.get p.block) p.off 1 = some [.int .i64 l[i]] → K (.pointer (some p))) : (@idxSP v 1 (i : Int) ⟨K⟩) :=
  h.at_ hi fun p h1 h2 => hK p h1 (by rw [h2, Nat.mul_one, take_one (by simpa using hi)]; simp [I64])
def firstL : List Int → Int
  | [] => 0
  | x :: r => if x = 0 then firstL r else x
theorem w64 {x : Int} (h1 : -9223372036854775808 ≤ x) (h2 : x ≤ 9223372036854775807) : IntKind.wrap .i64 x = x := by
  rw [IntKind.wrap_i64]
  omega
/-! ### Tables -/
def lookT (l : List (Nat × Ent)) : Tbl := fun n => l.lookup n
theorem lookup_mem {l : List (Nat × Ent)} {n : Nat} {e : Ent} (h : l.lookup n = some e) : (n, e) ∈ l := by
  induction l with
  | nil => simp at h
  | cons p l ih =>
    obtain ⟨m, x⟩ := p
    rw [List.lookup_cons] at h
    split at h
    · rename_i hb
      have : n = m := by simpa using hb
      subst this
      simp only [Option.some.injEq] at h
      subst h
      simp
    · exact List.mem_cons_of_mem _ (ih h)
theorem lookT_mono {l : List (Nat × Ent)} (h : ∀ p ∈ l, ∀ g, p.2 = .nat g → NatMono g) : TMono (lookT l) := ⟨fun n g hg => h _ (lookup_mem hg) g rfl⟩
end
end Go.Proofs.Ytildhljhbbhmmaa.AM
/- Contracts of the library, laid by the kit for this program. -/
namespace Go.Proofs
open Go.Shelf
set_option linter.all false
def Try.lays156_ren : Go.Shelf.Ren := ⟨fun | 156 => 49 | 165 => 81 | 166 => 82 | 169 => 83 | 240 => 105 | 241 => 106 | 276 => 118 | 277 => 119 | n => n, fun | 31 => 79 | 9 => 9 | 3 => 3 | 4 => 4 | 0 => 0 | 20 => 20 | 72 => 115 | 76 => 119 | 70 => 113 | 37 => 38 | 75 => 118 | 127 => 146 | 164 => 159 | 5 => 5 | 80 => 121 | n => n, fun | n => n⟩
theorem Try.lays156 : Go.Proofs.Lays.n156 Try.prog Try.lays156_ren := {
  mixed := by kernel_rfl
  f156 := Try.func49.trans (congrArg some (by kernel_rfl))
  f165 := Try.func81.trans (congrArg some (by kernel_rfl))
  f166 := Try.func82.trans (congrArg some (by kernel_rfl))
  f169 := Try.func83.trans (congrArg some (by kernel_rfl))
  f240 := Try.func105.trans (congrArg some (by kernel_rfl))
  f241 := Try.func106.trans (congrArg some (by kernel_rfl))
  f276 := Try.func118.trans (congrArg some (by kernel_rfl))
  f277 := Try.func119.trans (congrArg some (by kernel_rfl))
  t0 := Try.underlying0
  a0 := Try.isAgg0
  z0 := Try.sizeOf0
  v0 := Try.zeroValue0
  t3 := Try.underlying3
  a3 := Try.isAgg3
  z3 := Try.sizeOf3
  v3 := Try.zeroValue3
  t4 := Try.underlying4
  a4 := Try.isAgg4
  z4 := Try.sizeOf4
  v4 := Try.zeroValue4
  t9 := Try.underlying9
  a9 := Try.isAgg9
  z9 := Try.sizeOf9
  v9 := Try.zeroValue9
  t20 := Try.underlying20
  a20 := Try.isAgg20
  z20 := Try.sizeOf20
  v20 := Try.zeroValue20
  t31 := Try.underlying79
  a31 := Try.isAgg79
  z31 := Try.sizeOf79
  v31 := Try.zeroValue79
  t37 := Try.underlying38
  a37 := Try.isAgg38
  z37 := Try.sizeOf38
  v37 := Try.zeroValue38
  t70 := Try.underlying113
  a70 := Try.isAgg113
  z70 := Try.sizeOf113
  v70 := Try.zeroValue113
  t72 := Try.underlying115
  a72 := Try.isAgg115
  z72 := Try.sizeOf115
  v72 := Try.zeroValue115
  t75 := Try.underlying118
  a75 := Try.isAgg118
  z75 := Try.sizeOf118
  v75 := Try.zeroValue118
  t76 := Try.underlying119
  a76 := Try.isAgg119
  z76 := Try.sizeOf119
  v76 := Try.zeroValue119
  t127 := Try.underlying146
  a127 := Try.isAgg146
  z127 := Try.sizeOf146
  v127 := Try.zeroValue146
  t164 := Try.underlying159
  a164 := Try.isAgg159
  z164 := Try.sizeOf159
  v164 := Try.zeroValue159 }
theorem Try.Builder_Extra_156 : Builder.Extra Try.prog Try.lays156_ren := {
  sizeBuilder := by kernel_rfl
  liesBuilder := by kernel_rfl
  t5 := Try.underlying5
  a5 := Try.isAgg5
  z5 := Try.sizeOf5
  v5 := Try.zeroValue5
  infoByte := by kernel_rfl
  cellsByte := by kernel_rfl
  sizeByte := by kernel_rfl
  neB5 := by decide }
open Go.RowKit in
theorem Try.strings_Join_none (a : Option Addr) (c : Nat) (sep : ByteArray) (w : World) :
    Calls Try.prog 49 #[.slice a 0 c, .string sep] w fun e w' => e = .returned (.string ⟨#[]⟩) ∧ w' = w := Any.strings_Join_none Try.lays156 Try.Builder_Extra_156 a c sep w
open Go.RowKit in
theorem Try.strings_Join (bk o c : Nat) (xs : List ByteArray) (sep : ByteArray) (w : World) (hcells : ∀ (j : Nat) x, xs[j]? = some x → w.cell? ⟨bk, o + j, none⟩ = some (.string x)) (hbk : bk < w.heap.size) (hN : xs.length ≤ 140737488355328) (hcap : xs.length ≤ c) (hlen : (Lib.join (xs.map (·.data.toList)) sep.data.toList).length ≤ 140737488355328) :
    Calls Try.prog 49 #[.slice (some ⟨bk, o, none⟩) xs.length c, .string sep] w fun e w' => e = .returned (.string ⟨(Lib.join (xs.map (·.data.toList)) sep.data.toList).toArray⟩) ∧ Below w.heap.size w w' := Any.strings_Join Try.lays156 Try.Builder_Extra_156 bk o c xs sep w hcells hbk hN hcap hlen
def Try.lays105_ren : Go.Shelf.Ren := ⟨fun | 105 => 55 | 212 => 87 | 99 => 88 | 165 => 81 | 166 => 82 | 170 => 89 | 169 => 83 | 263 => 108 | 264 => 109 | 206 => 110 | 240 => 105 | 241 => 106 | 276 => 118 | 277 => 119 | n => n, fun | 9 => 9 | 3 => 3 | 4 => 4 | 20 => 20 | 0 => 0 | 46 => 75 | 109 => 125 | 5 => 5 | 72 => 115 | 76 => 119 | 51 => 92 | 146 => 149 | 53 => 137 | 148 => 151 | 70 => 113 | 37 => 38 | 75 => 118 | 127 => 146 | 164 => 159 | 80 => 121 | n => n, fun | n => n⟩
theorem Try.lays105 : Go.Proofs.Lays.n105 Try.prog Try.lays105_ren := {
  mixed := by kernel_rfl
  f99 := Try.func88.trans (congrArg some (by kernel_rfl))
  f105 := Try.func55.trans (congrArg some (by kernel_rfl))
  f165 := Try.func81.trans (congrArg some (by kernel_rfl))
  f166 := Try.func82.trans (congrArg some (by kernel_rfl))
  f169 := Try.func83.trans (congrArg some (by kernel_rfl))
  f170 := Try.func89.trans (congrArg some (by kernel_rfl))
  f206 := Try.func110.trans (congrArg some (by kernel_rfl))
  f212 := Try.func87.trans (congrArg some (by kernel_rfl))
  f240 := Try.func105.trans (congrArg some (by kernel_rfl))
  f241 := Try.func106.trans (congrArg some (by kernel_rfl))
  f263 := Try.func108.trans (congrArg some (by kernel_rfl))
  f264 := Try.func109.trans (congrArg some (by kernel_rfl))
  f276 := Try.func118.trans (congrArg some (by kernel_rfl))
  f277 := Try.func119.trans (congrArg some (by kernel_rfl))
  t0 := Try.underlying0
  a0 := Try.isAgg0
  z0 := Try.sizeOf0
  v0 := Try.zeroValue0
  t3 := Try.underlying3
  a3 := Try.isAgg3
  z3 := Try.sizeOf3
  v3 := Try.zeroValue3
  t4 := Try.underlying4
  a4 := Try.isAgg4
  z4 := Try.sizeOf4
  v4 := Try.zeroValue4
  t5 := Try.underlying5
  a5 := Try.isAgg5
  z5 := Try.sizeOf5
  v5 := Try.zeroValue5
  t9 := Try.underlying9
  a9 := Try.isAgg9
  z9 := Try.sizeOf9
  v9 := Try.zeroValue9
  t20 := Try.underlying20
  a20 := Try.isAgg20
  z20 := Try.sizeOf20
  v20 := Try.zeroValue20
  t37 := Try.underlying38
  a37 := Try.isAgg38
  z37 := Try.sizeOf38
  v37 := Try.zeroValue38
  t46 := Try.underlying75
  a46 := Try.isAgg75
  z46 := Try.sizeOf75
  v46 := Try.zeroValue75
  t51 := Try.underlying92
  a51 := Try.isAgg92
  z51 := Try.sizeOf92
  v51 := Try.zeroValue92
  t53 := Try.underlying137
  a53 := Try.isAgg137
  z53 := Try.sizeOf137
  v53 := Try.zeroValue137
  t70 := Try.underlying113
  a70 := Try.isAgg113
  z70 := Try.sizeOf113
  v70 := Try.zeroValue113
  t72 := Try.underlying115
  a72 := Try.isAgg115
  z72 := Try.sizeOf115
  v72 := Try.zeroValue115
  t75 := Try.underlying118
  a75 := Try.isAgg118
  z75 := Try.sizeOf118
  v75 := Try.zeroValue118
  t76 := Try.underlying119
  a76 := Try.isAgg119
  z76 := Try.sizeOf119
  v76 := Try.zeroValue119
  t109 := Try.underlying125
  a109 := Try.isAgg125
  z109 := Try.sizeOf125
  v109 := Try.zeroValue125
  t127 := Try.underlying146
  a127 := Try.isAgg146
  z127 := Try.sizeOf146
  v127 := Try.zeroValue146
  t146 := Try.underlying149
  a146 := Try.isAgg149
  z146 := Try.sizeOf149
  v146 := Try.zeroValue149
  t148 := Try.underlying151
  a148 := Try.isAgg151
  z148 := Try.sizeOf151
  v148 := Try.zeroValue151
  t164 := Try.underlying159
  a164 := Try.isAgg159
  z164 := Try.sizeOf159
  v164 := Try.zeroValue159 }
theorem Try.Builder_Extra_105 : Builder.Extra Try.prog Try.lays105_ren := {
  sizeBuilder := by kernel_rfl
  liesBuilder := by kernel_rfl
  t5 := Try.underlying5
  a5 := Try.isAgg5
  z5 := Try.sizeOf5
  v5 := Try.zeroValue5
  infoByte := by kernel_rfl
  cellsByte := by kernel_rfl
  sizeByte := by kernel_rfl
  neB5 := by decide }
open Go.RowKit Go.Lib in
theorem Try.strings_Repeat (s : ByteArray) (c : Nat) (w : World) (hc : c ≤ 9223372036854775807) (hlen : s.size * c ≤ 140737488355328) :
    Calls Try.prog 55 #[.string s, .int .i64 c] w fun e w' => e = .returned (.string ⟨(Lib.repeatL s.data.toList c).toArray⟩) ∧ Below w.heap.size w w' := Any.strings_Repeat Try.lays105 Try.Builder_Extra_105 s c w hc hlen
end Go.Proofs
/- Functions that are told: strings.Repeat, strings.Join. -/
namespace Go.Proofs.Ytildhljhbbhmmaa.AM
open Go Go.RowKit
set_option linter.all false

def natRepeat : CallH → List Value → AH → Option (Value × AH) := fun _ vs H =>
  match vs with
  | [.string s, .int .i64 c] => if 0 ≤ c ∧ c ≤ 9223372036854775807 ∧ s.size * c.toNat ≤ 140737488355328 then some (.string ⟨(Lib.repeatL s.data.toList c.toNat).toArray⟩, H) else none
  | _ => none
theorem natRepeat_some {call : CallH} {vs : List Value} {H H' : AH} {v : Value} (h : natRepeat call vs H = some (v, H')) : ∃ (s : ByteArray) (c : Nat), vs = [.string s, .int .i64 c] ∧ c ≤ 9223372036854775807 ∧ s.size * c ≤ 140737488355328 ∧ H' = H ∧ v = .string ⟨(Lib.repeatL s.data.toList c).toArray⟩ := by
  unfold natRepeat at h
  split at h
  · rename_i s c
    split at h
    · rename_i hc
      simp only [Option.some.injEq, Prod.mk.injEq] at h
      refine ⟨s, c.toNat, ?_, by omega, hc.2.2, h.2.symm, h.1.symm⟩
      rw [Int.toNat_of_nonneg hc.1]
    · simp at h
  · simp at h
theorem natRepeat_mono : NatMono natRepeat := fun _ _ _ _ _ _ h => h
theorem natRepeat_ok (N : Nat) : NatOk Try.prog N 55 natRepeat := by
  refine ⟨fun call _ vs H v H' h => ?_, fun call _ vs H v H' h c w args hs ha => .inr ⟨enters_of (Try.lays105).f105 (by kernel_rfl) rfl args w, ?_⟩⟩
  · obtain ⟨s, k, _, _, _, rfl, _⟩ := natRepeat_some h
    exact .refl _
  · obtain ⟨s, k, rfl, hk, hl, rfl, rfl⟩ := natRepeat_some h
    have hargs : args = #[.string s, .int .i64 k] := by
      have := ha.eq1 rfl
      rw [← Array.toList_inj, this]
    subst hargs
    refine (Try.strings_Repeat s k w hk hl).mono fun e w' hw => ?_
    obtain ⟨rfl, hb⟩ := hw
    obtain ⟨h1, h2⟩ := hs.under hb
    exact ⟨c, .of3 rfl, h1, h2⟩
/-- A row of texts. -/
def strsOf : List Value → Option (List ByteArray)
  | [] => some []
  | .string s :: l => match strsOf l with
    | some r => some (s :: r)
    | none => none
  | _ => none
theorem strsOf_some : ∀ {l : List Value} {xs : List ByteArray}, strsOf l = some xs → l = xs.map .string := by
  intro l
  induction l with
  | nil => intro xs h; simp only [strsOf, Option.some.injEq] at h; subst h; rfl
  | cons v l ih =>
    intro xs h
    cases v with
    | string s =>
      simp only [strsOf] at h
      split at h
      · rename_i r hr
        simp only [Option.some.injEq] at h
        subst h
        rw [ih hr]; rfl
      · simp at h
    | _ => simp [strsOf] at h
theorem strsOf_map : ∀ xs : List ByteArray, strsOf (xs.map .string) = some xs := by
  intro xs
  induction xs with
  | nil => rfl
  | cons x xs ih => simp only [List.map_cons, strsOf, ih]
def joinV (xs : List ByteArray) (sep : ByteArray) : Option Value := if (Lib.join (xs.map (·.data.toList)) sep.data.toList).length ≤ 140737488355328 ∧ xs.length ≤ 140737488355328 then some (.string ⟨(Lib.join (xs.map (·.data.toList)) sep.data.toList).toArray⟩) else none
def natJoin : CallH → List Value → AH → Option (Value × AH) := fun _ vs H =>
  match vs with
  | [.slice a n c, .string sep] => if n = 0 then some (.string ⟨#[]⟩, H) else
    (match a with
    | some p => if n ≤ c then (match ldc H p n with
      | some l => (match strsOf l with
        | some xs => (match joinV xs sep with | some v => some (v, H) | none => none)
        | none => none)
      | none => none) else none
    | none => none)
  | _ => none
theorem natJoin_mono : NatMono natJoin := fun _ _ _ _ _ _ h => h
theorem natJoin_ok (N : Nat) : NatOk Try.prog N 49 natJoin := by
  have hH : ∀ {call : CallH} {vs : List Value} {H H' : AH} {v : Value}, natJoin call vs H = some (v, H') → H' = H := by
    intro call vs H H' v h
    unfold natJoin at h
    split at h
    · split at h
      · simp only [Option.some.injEq, Prod.mk.injEq] at h; exact h.2.symm
      · split at h
        · split at h
          · split at h
            · split at h
              · split at h
                · simp only [Option.some.injEq, Prod.mk.injEq] at h; exact h.2.symm
                · simp at h
              · simp at h
            · simp at h
          · simp at h
        · simp at h
    · simp at h
  refine ⟨fun call _ vs H v H' h => ?_, fun call _ vs H v H' h c w args hs ha => .inr ⟨enters_of (Try.lays156).f156 (by kernel_rfl) rfl args w, ?_⟩⟩
  · rw [hH h]; exact .refl _
  · obtain rfl := hH h
    unfold natJoin at h
    split at h
    case h_2 => simp at h
    rename_i a n k sep
    obtain ⟨x', r1, e1, hx, hr1⟩ := ha.uncons
    obtain ⟨s', r2, rfl, hsep, hr2⟩ := hr1.uncons
    rw [hr2.nil_inv] at e1
    have hse := hsep.eq1 rfl
    subst hse
    have hargs : args = #[x', .string sep] := by rw [← Array.toList_inj, e1]
    subst hargs
    split at h
    · rename_i hn
      subst hn
      simp only [Option.some.injEq, Prod.mk.injEq] at h
      obtain ⟨rfl, _⟩ := h
      obtain ⟨a', k', rfl⟩ : ∃ a' k', x' = .slice a' 0 k' := by
        cases hx with
        | plain _ => exact ⟨_, _, rfl⟩
        | slice _ _ _ _ _ => exact ⟨_, _, rfl⟩
        | sliceDead _ _ => exact ⟨_, _, rfl⟩
      refine (Try.strings_Join_none a' k' sep w).mono fun e w' hw => ?_
      obtain ⟨rfl, rfl⟩ := hw
      exact ⟨c, .of3 rfl, hs, .refl _ _ _ _⟩
    · rename_i hn
      split at h
      case h_2 => simp at h
      rename_i p
      split at h
      case isFalse => simp at h
      rename_i hnk
      split at h
      case h_2 => simp at h
      rename_i l hl
      split at h
      case h_2 => simp at h
      rename_i xs hxs
      split at h
      case h_2 => simp at h
      rename_i jv hjv
      simp only [Option.some.injEq, Prod.mk.injEq] at h
      obtain ⟨rfl, _⟩ := h
      unfold joinV at hjv
      split at hjv
      case isFalse => simp at hjv
      rename_i hjl
      simp only [Option.some.injEq] at hjv
      subst hjv
      obtain ⟨loc, cs', hc, hlen, hone, hv, hcell⟩ := hs.read hl
      have hle := strsOf_some hxs
      subst hle
      have hcs : cs' = xs.map .string := hv.eq1 (by rw [List.all_eq_true]; intro v hv; rw [List.mem_map] at hv; obtain ⟨y, _, rfl⟩ := hv; rfl)
      subst hcs
      have hxl : xs.length = n := by simpa using hlen
      cases hx with
      | plain hp => simp [p1] at hp
      | sliceDead h1 h2 => rw [hc] at h2; simp at h2
      | @slice _ l2 _ _ k' h1 h2 h3 h4 h5 =>
        rw [hc] at h2
        obtain rfl := Option.some.inj h2
        subst hxl
        refine (Try.strings_Join loc.blk (loc.sh + p.off) k' xs sep w (fun j x hj => hcell j _ (by simp [hj])) (c_old hs hc) hjl.2 (by omega) hjl.1).mono fun e w' hw => ?_
        obtain ⟨rfl, hb⟩ := hw
        obtain ⟨g1, g2⟩ := hs.under hb
        exact ⟨c, .of3 rfl, g1, g2⟩
end Go.Proofs.Ytildhljhbbhmmaa.AM
/- From the abstract machine to the row. -/
namespace Go.Proofs.Ytildhljhbbhmmaa.AM
open Go Go.RowKit Go.ChangeShapes Go.WideShapes Go.ChangeAt
set_option linter.all false

theorem own : ownKnob Try.prog.godebug = none := by kernel_rfl
theorem laidOut : laidOutB Try.prog = true := by kernel_rfl
theorem mixed : Try.prog.follows .mixedOrders = true := by kernel_rfl

/-- What the abstract machine returns is what the call returns. -/
theorem calls_of_val {P : Program} {N : Nat} {tbl : Tbl} (hm : P.follows .mixedOrders = true) (ht : ∀ N, TblOk P N tbl) {n : FuncId} {fn : Func} (hf : P.funcs[n]? = some fn) (hb : fn.body.isSome = true) (hn : (fn.name == "runtime.NumGoroutine") = false)
    {vs : List Value} {H H' : AH} {v : Value} (hv : Val tbl n vs H v H') {c : CMap} {w : World} {args : Array Value} (hs : Sim N c H w) (ha : VRL H.next c vs args.toList) :
    Calls P n args w fun | .returned v', w' => ∃ c', VR H'.next c' v v' ∧ Sim N c' H' w' ∧ ExtW N c H w c' H' w' | _, _ => False := by
  obtain ⟨k, hk⟩ := hv
  rcases (evF_ok hm ht k N).2 n vs H v H' hk c w args hs ha with ⟨v', w', h1, _⟩ | ⟨_, h⟩
  · exfalso
    obtain ⟨bd, hb'⟩ := Option.isSome_iff_exists.1 hb
    have hn' : ¬ fn.name = "runtime.NumGoroutine" := by simpa using hn
    have he : (callFunc n args).run P w = .ok (.enter n args) w := by simp [callFunc, hf, hn', hb']
    rw [he] at h1
    simp at h1
  · exact h

section
variable {H : Type} {enc : TypeId × Value → H}
/-- All arguments read behind the call as they read before. -/
theorem trodAll_below {P : Program} (hl : laidOutB P = true) {W W' : World} (hb : Below W.heap.size W W') : ∀ {ts : List TypeId} {vs : List Value} {ds : List (DataW H)} {ps : List MemPlace},
    (ts.all fun t => P.readableRec t && decide (t < P.types.size)) = true → DataW.TrodAll enc P W 0 (fun _ => true) true ts vs ds ps → (∀ x ∈ ps, x.block < W.heap.size) →
    DataW.TrodAll enc P W' 0 (fun b => decide (b < W.heap.size)) true ts vs ds ps
  | [], vs, ds, ps, _, h, _ => by
    obtain ⟨rfl, rfl, rfl⟩ := trodAll_nil h
    exact rfl
  | t :: ts, vs, ds, ps, ht, h, hlt => by
    obtain ⟨v, vs1, d, ds1, a, b, rfl, rfl, rfl, h1, h2⟩ := trodAll_cons h
    simp only [List.all_cons, Bool.and_eq_true, decide_eq_true_eq] at ht
    exact ⟨a, b, Below.trod hl ht.1.1 ht.1.2 h1 hb fun x hx => hlt x (List.mem_append_left _ hx), trodAll_below hl hb (by simpa using ht.2) h2 fun x hx => hlt x (List.mem_append_right _ hx), rfl⟩

set_option maxRecDepth 100000 in
/-- A law: it returns true, and each argument reads as it read. -/
theorem law_lifted {os : Os} (started : os.Started) {f : FuncId} {fn : Func} {s : ChangeSpec} {tb : TypeId} {conds : List PathCond} {apart again : Bool} (hag : again = false)
    (hvars : s.vars = []) (hfn : Try.prog.funcs[f]? = some fn) (hinit : Try.prog.inits.idxOf? f = none) (hres : fn.resultTypes = #[tb]) (htb : Try.prog.underlying tb = some .bool)
    (hread : (fn.params.toList.all fun t => Try.prog.readableRec t && decide (t < Try.prog.types.size)) = true)
    (hspec : ∀ (ds : List (DataW H)), ds.length = fn.params.size → s.fn H (ds ++ []) = { results := [.lit (.bool true)], args := ds })
    (witness : ∃ (w : World) (tape : Tape) (i : Input), w.os = os ∧ (w.forCall tape i).Shaped Try.checked.prog ∧ i.vars = [] ∧ Input.okWide Try.checked.prog (w.forCall tape i) .any w.heap.size f i ∧
      s.pre6 enc Try.checked.prog fn conds apart (w.forCall tape i).memory i.args ∧ ({} : Assume).holds Try.checked.prog (lone (Frame.enter Try.checked.prog f i.args .normal) [] (w.forCall tape i)))
    (run : ∀ (W : World) (args : Array Value) (ds : List (DataW H)) (ps : List MemPlace) (base : Nat), (∀ (j : Nat) t v, fn.params[j]? = some t → args[j]? = some v → Value.okWide Try.prog W .any base t v) →
      DataW.TrodAll enc Try.prog W 0 (fun _ => true) true fn.params.toList args.toList ds ps → (∀ x ∈ ps, x.block < W.heap.size) →
      Calls Try.prog f args W fun | .returned v', W' => v' = .bool true ∧ Below W.heap.size W W' | _, _ => False) :
    ReturnsInHanded {} Try.checked os f .any (s.pre6 enc Try.prog fn conds apart) (s.post enc Try.prog fn apart true false again) := by
  subst hag
  refine returnsInHanded_of_change (C := Try.checked) own started hinit hfn witness ?_
  intro W base args ds gs before hval hW hcnd _
  have hW' := hW
  obtain ⟨p, q, hA, hV, rfl, hfz, hnd⟩ := hW
  rw [hvars] at hV
  obtain ⟨rfl, rfl⟩ := trodVars_none hV
  rw [List.append_nil] at hW'
  have hlt : ∀ x ∈ p, x.block < W.heap.size := fun x hx => by simpa using hW'.lt x hx
  refine (run W args ds p base hval hA hlt).mono fun e W' he => ?_
  cases e with
  | panicked ch => exact he.elim
  | outgrown => exact he.elim
  | returned v =>
    obtain ⟨rfl, hb⟩ := he
    refine ⟨_, rfl, ?_⟩
    have hlen : ds.length = fn.params.size := by
      have := (trodAll_length hA).2
      simpa using this
    have hs := hspec ds hlen
    refine ⟨ds, [], p, [], p, [], hW', ?_, ?_, ?_, hb.frame _, fun h => by simp at h⟩
    · rw [hs, hres]
      exact trodAll_mk1 (shut_bool htb true)
    · rw [hs]
      exact trodAll_below laidOut hb hread hA hlt
    · rw [hs, hvars]
      exact rfl
end
end Go.Proofs.Ytildhljhbbhmmaa.AM
/- Slices of one's own: appends, and what a call gives back. -/
namespace Go.Proofs.Ytildhljhbbhmmaa.AM
open Go
set_option linter.all false

/-- A slice that nobody else has, full, in a block that is no older than base. -/
def Own (base : Nat) (H : AH) (es : Nat) (v : Value) (n : Nat) (l : List Value) : Prop :=
  (v = .slice none 0 0 ∧ n = 0 ∧ l = []) ∨ ∃ b, v = .slice (some ⟨b, 0, none⟩) n n ∧ H.get b = some ⟨l, es, false⟩ ∧ l.length = n * es ∧ base ≤ b ∧ 0 < n
theorem added_slc {H : AH} {es n c : Nat} {a : Addr} : added H es (.slice (some a) n c) = orZ n ((ldc H a (n * es)).map fun l => (n, l)) := by
  simp only [added]; cases ldc H a (n * es) <;> rfl
theorem orZ_some {n : Nat} {x : Nat × List Value} : orZ n (some x) = some x := (And.intro rfl trivial : _ ∧ True).1
theorem ldc_all {H : AH} {b es n : Nat} {l : List Value} (h : H.get b = some ⟨l, es, false⟩) (hl : l.length = n * es) : ldc H ⟨b, 0, none⟩ (n * es) = some l := by
  rw [ldc_eq]
  simp only [h, ldcB_some]
  rw [if_pos (by simp [hl]), ← hl]
  simp
theorem Own.sl {base : Nat} {H : AH} {es n : Nat} {v : Value} {l : List Value} (h : Own base H es v n l) : Sl H es v n l := by
  rcases h with ⟨rfl, rfl, rfl⟩ | ⟨b, rfl, h1, h2, h3, h4⟩
  · exact .inl ⟨none, 0, rfl, rfl, rfl⟩
  · exact .inr ⟨_, _, rfl, ldc_all h1 h2⟩
theorem Own.append {base : Nat} {H : AH} {es bytes n k : Nat} {s : Value} {l new : List Value} (h : Own base H es s n l) (hb : base ≤ H.next) (hk : 0 < k) (hn : new.length = k * es) (hs : (n + k) * bytes ≤ 140737488355328) :
    ∃ s' H', appended H es bytes s k new = some (s', H') ∧ Own base H' es s' (n + k) (l ++ new) ∧ (∀ id, id < base → H'.get id = H.get id) ∧ H'.next = H.next + 1 ∧ (∀ m, m ≤ base → m ≤ H.low → m ≤ H'.low) := by
  rcases h with ⟨rfl, rfl, rfl⟩ | ⟨b, rfl, h1, h2, h3, h4⟩
  · refine ⟨.slice (some ⟨H.next, 0, none⟩) k k, H.push ⟨new, es, false⟩, ?_, .inr ⟨H.next, by simp, by simpa using AH.get_push_eq H _, by simpa using hn, hb, by omega⟩, fun id hid => AH.get_push_lt H _ (by omega), AH.next_push H _, fun m _ h => h⟩
    simp only [appended]
    rw [if_pos (by simp), if_neg (by omega), if_pos (by simpa using hs)]
  · refine ⟨.slice (some ⟨H.next, 0, none⟩) (n + k) (n + k), (H.set b none).push ⟨l ++ new, es, false⟩, ?_, .inr ⟨H.next, rfl, ?_, by rw [List.length_append, h2, hn, Nat.add_mul], hb, by omega⟩, fun id hid => ?_, ?_, fun m hm h => ?_⟩
    · simp only [appended, h1]
      rw [if_pos (by simp), if_neg (by omega), ldc_all h1 h2]
      simp only
      rw [if_pos hs]
    · rw [← AH.next_set H b none]; exact AH.get_push_eq _ _
    · rw [AH.get_push_lt _ _ (by rw [AH.next_set]; omega)]
      exact AH.get_set_ne H none (by omega)
    · rw [AH.next_push, AH.next_set]
    · show m ≤ min H.low b
      omega
/-- What a call hands back that made a slice. -/
def mkS (H : AH) (n : Nat) : Value := if n = 0 then .slice none 0 0 else .slice (some ⟨H.next, 0, none⟩) n n
def mkH (H : AH) (es n : Nat) (l : List Value) : AH := if n = 0 then H else H.push ⟨l, es, false⟩
theorem back_own {base : Nat} {H H1 : AH} {es n : Nat} {v : Value} {l : List Value} (h : Own base H1 es v n l) (hb : H.next ≤ base) (hl : H.next ≤ H1.low) (hp : l.all p1 = true) : back H H1 v = (mkS H n, mkH H es n l) := by
  rcases h with ⟨rfl, rfl, rfl⟩ | ⟨b, rfl, h1, h2, h3, h4⟩
  · exact back_p3 (by omega) rfl
  · unfold back
    rw [if_neg (by omega), if_neg (by simp [p3, p2, p1])]
    simp only [moveV, h1]
    rw [if_neg (by omega), if_pos hp]
    simp only [mkS, mkH, if_neg (show ¬ n = 0 by omega)]
    rfl
theorem back_own2 {base : Nat} {H H1 : AH} {es n : Nat} {v y : Value} {l : List Value} (h : Own base H1 es v n l) (hb : H.next ≤ base) (hl : H.next ≤ H1.low) (hp : l.all p1 = true) (hy : p2 y = true) : back H H1 (.tuple #[v, y]) = (.tuple #[mkS H n, y], mkH H es n l) := by
  rcases h with ⟨rfl, rfl, rfl⟩ | ⟨b, rfl, h1, h2, h3, h4⟩
  · exact back_p3 (by omega) (by simp [p3, hy]; rfl)
  · unfold back
    rw [if_neg (by omega), if_neg (by simp [p3, p2, p1])]
    simp only [moveV, h1]
    rw [if_neg (by omega), if_pos hp]
    simp only [hy, if_true, mkS, mkH, if_neg (show ¬ n = 0 by omega)]
    rfl
theorem own_mk {H : AH} {es n : Nat} {l : List Value} (hl : l.length = n * es) : Own H.next (mkH H es n l) es (mkS H n) n l := by
  unfold mkS mkH
  by_cases h : n = 0
  · subst h
    simp only [if_true]
    exact .inl ⟨rfl, rfl, List.eq_nil_of_length_eq_zero (by simpa using hl)⟩
  · simp only [if_neg h]
    exact .inr ⟨H.next, rfl, AH.get_push_eq H _, hl, Nat.le_refl _, by omega⟩
theorem mkH_next {H : AH} {es n : Nat} {l : List Value} : H.next ≤ (mkH H es n l).next := by
  unfold mkH; split
  · exact Nat.le_refl _
  · rw [AH.next_push]; omega
theorem mkH_low {H : AH} {es n : Nat} {l : List Value} : (mkH H es n l).low = H.low := by
  unfold mkH; split <;> rfl
theorem mkH_get {H : AH} {es n id : Nat} {l : List Value} (h : id < H.next) : (mkH H es n l).get id = H.get id := by
  unfold mkH; split
  · rfl
  · exact AH.get_push_lt H _ h
end Go.Proofs.Ytildhljhbbhmmaa.AM
/- Arguments of laws are read. -/
namespace Go.Proofs.Ytildhljhbbhmmaa.AM
open Go Go.RowKit Go.ChangeShapes Go.WideShapes Go.ChangeAt
set_option linter.all false

theorem cell_int {P : Program} {w : World} {r : Reach} {b : Nat} {u : TypeId} {k : IntKind} {v : Value} (hu : P.underlying u = some (.int k)) (h : Cell.okWide P w r b u v) : ∃ n, v = .int k n ∧ k.has n := by
  unfold Cell.okWide at h
  rw [hu] at h
  cases v <;> simp only [Cell.ok, hu] at h
  obtain ⟨rfl, h2⟩ := h
  exact ⟨_, rfl, h2⟩
theorem val_int {P : Program} {w : World} {r : Reach} {b : Nat} {u : TypeId} {k : IntKind} {v : Value} (hu : P.underlying u = some (.int k)) (h : Value.okWide P w r b u v) : ∃ n, v = .int k n ∧ k.has n := by
  unfold Value.okWide at h
  rw [hu] at h
  exact cell_int hu h
/-- The start: nothing is there. -/
def H0 : AH := ⟨[none], 1⟩
theorem sim0 {N : Nat} {w : World} (h : N ≤ w.heap.size) : Sim N (fun _ => none) H0 w := by
  refine ⟨fun id => ?_, fun id b l hb hc => by simp at hc, fun id id' b l l' _ _ _ hc _ => by simp at hc, h⟩
  have : H0.get id = none := by
    unfold H0 AH.get
    cases id with
    | zero => rfl
    | succ n => simp
  rw [this]; rfl
theorem tblOk_of {P : Program} {N : Nat} {l : List (Nat × Ent)} (h : ∀ p ∈ l, EntOk P N p.1 p.2) : TblOk P N (lookT l) := fun n e he => h _ (lookup_mem he)
end Go.Proofs.Ytildhljhbbhmmaa.AM
/- Arguments that are slices of words: the start heap. -/
namespace Go.Proofs.Ytildhljhbbhmmaa.AM
open Go Go.RowKit Go.ChangeShapes Go.WideShapes Go.ChangeAt
set_option linter.all false

theorem cells_at {w : World} {base : Nat} {a : Addr} {n : Nat} {cs : List Value} (h : w.cells? base a n = some cs) : cs.length = n ∧ ∀ i, i < n → w.cell? (a.add i) = cs[i]? := by
  unfold World.cells? at h
  split at h
  case isFalse => simp at h
  have key : ∀ (l : List Nat) (cs : List Value), (l.mapM fun i => w.cell? (a.add i)) = some cs → cs.length = l.length ∧ ∀ (j i : Nat), l[j]? = some i → w.cell? (a.add i) = cs[j]? := by
    intro l
    induction l with
    | nil => intro cs h; simp at h; subst h; exact ⟨rfl, fun j i h => by simp at h⟩
    | cons x l ih =>
      intro cs h
      rw [List.mapM_cons] at h
      cases hx : w.cell? (a.add x) with
      | none => rw [hx] at h; simp at h
      | some v =>
        rw [hx] at h
        cases hm : (l.mapM fun i => w.cell? (a.add i)) with
        | none => rw [hm] at h; simp at h
        | some vs =>
          rw [hm] at h
          simp at h
          subst h
          obtain ⟨e1, e2⟩ := ih vs hm
          refine ⟨by simp [e1], fun j i hj => ?_⟩
          cases j with
          | zero => simp at hj; subst hj; simpa using hx
          | succ j => simp at hj; simpa using e2 j i hj
  obtain ⟨e1, e2⟩ := key _ cs h
  refine ⟨by simpa using e1, fun i hi => e2 i i (by simp [hi])⟩

/-- A slice argument: its cells lie in a row that the world has. -/
structure ArgRow (w : World) (a : Addr) (n cap es : Nat) (l : List Value) : Prop where
  spot : a.spot = none
  row : ∃ cs ty fz, w.heap[a.block]? = some (.cells cs ty fz) ∧ a.off + cap * es ≤ cs.size ∧ ∀ j, j < l.length → cs[a.off + j]? = some (l.getD j Go.undef)
  len : l.length = n * es
  nc : n ≤ cap
theorem argRow_of {w : World} {base : Nat} {a : Addr} {n cap es : Nat} {l : List Value} (hes : 0 < es) (hcap : 0 < cap) (hlen : l.length = n * es) (hnc : n ≤ cap) (hl : ∀ v ∈ l, one v = true)
    (h : ∀ i, i < cap → ∃ cs', w.cells? base (a.add (i * es)) es = some cs' ∧ (i < n → cs' = (l.drop (i * es)).take es)) : ArgRow w a n cap es l := by
  have hspot : a.spot = none := by
    obtain ⟨cs', h1, _⟩ := h 0 hcap
    have := (cells_at h1).2 0 hes
    have hx : (cs'[0]?).isSome = true := by
      rw [List.getElem?_eq_getElem (by rw [(cells_at h1).1]; exact hes)]; rfl
    rw [← this] at hx
    cases hs : a.spot with
    | none => rfl
    | some s =>
      unfold World.cell? at hx
      simp only [Nat.zero_mul, Addr.add] at hx
      split at hx <;> (try simp [hs] at hx)
  obtain ⟨b, o, sp⟩ := a
  simp only at hspot
  subst hspot
  have hcell : ∀ i j, i < cap → j < es → ∃ v, w.cell? ⟨b, o + (i * es + j), none⟩ = some v ∧ (i < n → v = l.getD (i * es + j) Go.undef) := by
    intro i j hi hj
    obtain ⟨cs', h1, h2⟩ := h i hi
    obtain ⟨e1, e2⟩ := cells_at h1
    have := e2 j hj
    rw [add_eq, add_eq, Nat.add_assoc, List.getElem?_eq_getElem (by omega)] at this
    refine ⟨_, this, fun hin => ?_⟩
    have h3 := h2 hin
    subst h3
    have hb : i * es + j < l.length := by
      rw [hlen]
      have := Nat.mul_le_mul_right es (Nat.succ_le_of_lt hin)
      rw [Nat.succ_mul] at this
      omega
    simp [List.getElem_take, List.getElem_drop, List.getElem?_eq_getElem hb]
  obtain ⟨v0, hv0, _⟩ := hcell 0 0 hcap hes
  cases hrow : w.heap[b]? with
  | none => unfold World.cell? at hv0; simp [hrow] at hv0
  | some ob =>
    cases ob with
    | cells cs ty fz =>
      have hc : ∀ k, w.cell? ⟨b, k, none⟩ = cs[k]? := fun k => by unfold World.cell?; simp [hrow]
      refine ⟨rfl, ⟨cs, ty, fz, hrow, ?_, fun j hj => ?_⟩, hlen, hnc⟩
      · obtain ⟨v, hv, _⟩ := hcell (cap - 1) (es - 1) (by omega) (by omega)
        rw [hc] at hv
        have := (Array.getElem?_eq_some_iff.1 hv).1
        have e : (cap - 1) * es + (es - 1) + 1 = cap * es := by
          obtain ⟨c, rfl⟩ : ∃ c, cap = c + 1 := ⟨cap - 1, by omega⟩
          rw [Nat.add_sub_cancel, Nat.succ_mul]
          omega
        simp only at this ⊢
        omega
      · rw [hlen] at hj
        have hi : j / es < n := Nat.div_lt_of_lt_mul (by rwa [Nat.mul_comm])
        obtain ⟨v, hv, hv2⟩ := hcell (j / es) (j % es) (by omega) (Nat.mod_lt _ hes)
        have e : j / es * es + j % es = j := by rw [Nat.mul_comm]; exact Nat.div_add_mod j es
        rw [e] at hv hv2
        rw [hc] at hv
        rw [hv, hv2 hi]
    | _ => unfold World.cell? at hv0; simp [hrow] at hv0
/-- The start with one slice argument. -/
def H1 (l : List Value) (es : Nat) : AH := ⟨[none, some ⟨l, es, true⟩], 2⟩
def c1 (a : Addr) (sz es : Nat) : CMap := fun id => if id = 1 then some ⟨a.block, a.off, sz, es⟩ else none
end Go.Proofs.Ytildhljhbbhmmaa.AM
/- The start heap, one argument after the other. -/
namespace Go.Proofs.Ytildhljhbbhmmaa.AM
open Go Go.RowKit Go.ChangeShapes Go.WideShapes Go.ChangeAt
set_option linter.all false

/-- A start heap: all blocks are read only. -/
structure Start (w : World) (H : AH) (c : CMap) : Prop where
  sim : Sim w.heap.size c H w
  ro : ∀ id b, H.get id = some b → b.ro = true
  pos : 0 < H.next
  dead : H.get 0 = none
/-- What an argument adds. -/
structure More (H : AH) (c : CMap) (H' : AH) (c' : CMap) : Prop where
  nx : H.next ≤ H'.next
  old : ∀ id, id < H.next → H'.get id = H.get id
  vr : ∀ v v', VR H.next c v v' → VR H'.next c' v v'
theorem More.refl (H : AH) (c : CMap) : More H c H c := ⟨Nat.le_refl _, fun _ _ => rfl, fun _ _ h => h⟩
theorem More.trans {H H1 H2 : AH} {c c1 c2 : CMap} (h : More H c H1 c1) (k : More H1 c1 H2 c2) : More H c H2 c2 :=
  ⟨Nat.le_trans h.nx k.nx, fun id hid => by rw [k.old id (Nat.lt_of_lt_of_le hid h.nx), h.old id hid], fun v v' hv => k.vr _ _ (h.vr _ _ hv)⟩
theorem More.sl {H H1 : AH} {c c1 : CMap} (h : More H c H1 c1) {es n : Nat} {v : Value} {l : List Value} (hs : Sl H es v n l) : Sl H1 es v n l := by
  rcases hs with hs | ⟨a, cp, h1, h2⟩
  · exact .inl hs
  · refine .inr ⟨a, cp, h1, ?_⟩
    rw [ldc_eq, h.old _ (ldc_lt h2), ← ldc_eq]
    exact h2
theorem start0 (w : World) : Start w H0 (fun _ => none) := by
  have hg : ∀ id, H0.get id = none := fun id => by
    unfold H0 AH.get
    cases id with
    | zero => rfl
    | succ n => simp
  exact ⟨sim0 (Nat.le_refl _), fun id b h => by rw [hg] at h; simp at h, by simp [H0, AH.next], hg 0⟩
theorem Start.arg {w : World} {H : AH} {c : CMap} (st : Start w H c) {a : Addr} {n cap es : Nat} {l : List Value} (h : ArgRow w a n cap es l) (hp : l.all p1 = true) :
    ∃ c', Start w (H.push ⟨l, es, true⟩) c' ∧ VR (H.push ⟨l, es, true⟩).next c' (.slice (some ⟨H.next, 0, none⟩) n cap) (.slice (some a) n cap) ∧ More H c (H.push ⟨l, es, true⟩) c' := by
  obtain ⟨hspot, ⟨cs, ty, fz, hrow, hsz, hcs⟩, hlen, hnc⟩ := h
  have hdom : ∀ id, id < H.next → (if id = H.next then some ⟨a.block, a.off, cs.size, es⟩ else c id) = c id := fun id hid => if_neg (by omega)
  have hvr : ∀ v v', VR H.next c v v' → VR (H.push ⟨l, es, true⟩).next (fun id => if id = H.next then some ⟨a.block, a.off, cs.size, es⟩ else c id) v v' := fun v v' hv =>
    hv.mono (by rw [AH.next_push]; omega) fun id hid => .inl (hdom id hid)
  have hlt : ∀ id b, H.get id = some b → id < H.next := fun id b hb => AH.get_lt hb
  refine ⟨fun id => if id = H.next then some ⟨a.block, a.off, cs.size, es⟩ else c id, ⟨⟨fun id => ?_, fun id b loc hb hc => ?_, fun id id' b l1 l2 hne hb hro hc hc' => ?_, Nat.le_refl _⟩, fun id b hb => ?_, ?_, ?_⟩, ?_, ?_, fun id hid => AH.get_push_lt H _ hid, hvr⟩
  · simp only [gt_push]
    split
    · rfl
    · exact st.sim.live id
  · rw [gt_push] at hb
    split at hb
    · rename_i hid
      simp only [if_pos hid, Option.some.injEq] at hb hc
      subst hb
      subst hc
      refine ⟨rfl, p1_one hp, cs, ty, fz, l, hrow, rfl, fun h => by simp at h, ?_, hcs, .refl hp⟩
      simp only
      have : l.length ≤ cap * es := by rw [hlen]; exact Nat.mul_le_mul_right _ hnc
      omega
    · rename_i hid
      simp only [if_neg hid] at hc
      obtain ⟨h1, h2, cs1, ty1, fz1, mid, h3, h4, h5, h6, h7, h8⟩ := st.sim.blk id b loc hb hc
      exact ⟨h1, h2, cs1, ty1, fz1, mid, h3, h4, h5, h6, h7, ⟨h8.1, fun j hj => hvr _ _ (h8.2 j hj)⟩⟩
  · rw [gt_push] at hb
    split at hb
    · simp only [Option.some.injEq] at hb; subst hb; simp at hro
    · rw [st.ro id b hb] at hro; simp at hro
  · rw [gt_push] at hb
    split at hb
    · simp only [Option.some.injEq] at hb; subst hb; rfl
    · exact st.ro id b hb
  · rw [AH.next_push]; omega
  · rw [gt_push, if_neg (by have := st.pos; omega)]; exact st.dead
  · obtain ⟨b, o, sp⟩ := a
    simp only at hspot
    subst hspot
    have := VR.slice (n := (H.push ⟨l, es, true⟩).next) (c := fun id => if id = H.next then some ⟨b, o, cs.size, es⟩ else c id) (a := ⟨H.next, 0, none⟩) (l := ⟨b, o, cs.size, es⟩) (m := n) (k := cap) (k' := cap) (by rw [AH.next_push]; exact Nat.lt_succ_self _) (if_pos rfl) rfl (Nat.le_refl _) (by simpa using hsz)
    simpa using this
  · rw [AH.next_push]; omega
/-- What a slice argument is. -/
def ArgS (w : World) (v : Value) (n es : Nat) (l : List Value) : Prop :=
  ∃ cap, n ≤ cap ∧ cap ≤ maxLen ∧ ((v = .slice none 0 0 ∧ n = 0 ∧ l = []) ∨ ∃ a, v = .slice (some a) n cap ∧ ((cap = 0 ∧ n = 0 ∧ l = []) ∨ (0 < cap ∧ ArgRow w a n cap es l)))
theorem Start.slc {w : World} {H : AH} {c : CMap} (st : Start w H c) {v : Value} {n es : Nat} {l : List Value} (h : ArgS w v n es l) (hp : l.all p1 = true) :
    ∃ (c' : CMap) (H' : AH) (u : Value), Start w H' c' ∧ VR H'.next c' u v ∧ Sl H' es u n l ∧ More H c H' c' := by
  obtain ⟨cap, hc, _, ⟨rfl, rfl, rfl⟩ | ⟨a, rfl, ⟨rfl, rfl, rfl⟩ | ⟨hpos, har⟩⟩⟩ := h
  · exact ⟨_, _, .slice none 0 0, st, .plain rfl, .inl ⟨none, 0, rfl, rfl, rfl⟩, .refl _ _⟩
  · have hc0 : c 0 = none := by
      have := st.sim.live 0
      rw [st.dead] at this
      cases h0 : c 0 with
      | none => rfl
      | some x => rw [h0] at this; simp at this
    exact ⟨_, _, .slice (some ⟨0, 0, none⟩) 0 0, st, .sliceDead st.pos hc0, .inl ⟨_, 0, rfl, rfl, rfl⟩, .refl _ _⟩
  · obtain ⟨c', h1, h2, h3⟩ := st.arg har hp
    refine ⟨_, _, _, h1, h2, .inr ⟨_, cap, rfl, ?_⟩, h3⟩
    rw [ldc_eq]
    simp only [gt_push, if_true]
    rw [ldcB_some, if_pos (by simp [har.len]), ← har.len]
    simp
end Go.Proofs.Ytildhljhbbhmmaa.AM
/- Stores. -/
namespace Go.Proofs.Ytildhljhbbhmmaa.AM
open Go
set_option linter.all false

def stB (H : AH) (a : Addr) (vs : List Value) : Option Blk → Option AH
  | some b => if b.ro = false ∧ a.off + vs.length ≤ b.cells.length then some (H.set a.block (some { b with cells := splice b.cells a.off vs })) else none
  | none => none
theorem stc_eq {H : AH} {a : Addr} {vs : List Value} : stc H a vs = if vs.all one = true then stB H a vs (H.get a.block) else none := by
  unfold stc stU stB
  cases H.get a.block <;> rfl
theorem stB_some {H : AH} {a : Addr} {vs : List Value} {b : Blk} : stB H a vs (some b) = if b.ro = false ∧ a.off + vs.length ≤ b.cells.length then some (H.set a.block (some { b with cells := splice b.cells a.off vs })) else none := rfl
theorem set_set {H : AH} {id : Nat} {x y : Option Blk} : (H.set id x).set id y = H.set id y := by
  simp only [AH.set, List.set_set, AH.mk.injEq, true_and]
  omega
theorem set_get {H : AH} {id : Nat} {x : Option Blk} (h : id < H.next) : (H.set id x).get id = x := AH.get_set_eq H x h
theorem back_set {H : AH} {id : Nat} {x : Option Blk} {v : Value} (h : id < H.next) : back H (H.enter.set id x) v = (v, H.set id x) := by
  unfold back
  have e : (H.enter.set id x).low = min H.next id := rfl
  rw [e, if_pos (by omega)]
  simp only [AH.set, AH.enter, Prod.mk.injEq, AH.mk.injEq, true_and]
  omega
end Go.Proofs.Ytildhljhbbhmmaa.AM
/- The rules in one set. -/
namespace Go.Proofs.Ytildhljhbbhmmaa.AM
open Go
set_option linter.all false
attribute [go_sem ↓] rn_seq rn_cond rn_block rn_ops rn_opsD rn_skip rn_exit rn_ret rn_nil rn_plain rn_old rn_guard rn_guardOld rn_call rn_callP rn_callL rn_mov rn_pick rn_bin rn_eqc rn_un rn_conv rn_strMov rn_toStr rn_toBytes rn_alloc rn_box rn_build rn_buildSlice rn_load rn_store rn_storeX rn_newMap rn_boxDead rn_nilCheck rn_addOff rn_idxS rn_idxA rn_field rn_strIdx rn_arrIdx rn_sliceStr rn_sliceS rn_sliceA rn_toArr rn_mkIface rn_mkFunc rn_mkSlice rn_extract rn_append rn_len rn_lenStr rn_lenC rn_min rn_max upd_self upd_ne seqQ_normal seqQ_exit seqQ_ret blockQ_normal blockQ_exit blockQ_ret normQ_normal finQ_normal finQ_ret
attribute [go_sem] orZ_some guardP_un letP_eq bindV_some bindV_none bindV_ite bindP_some bindP_none bindP_ite optP_some optP_none optP_ite intP_int strP_str ptrP_ptr slcN_eq pickP_true pickP_false pickP_dec pickP_not condP_true condP_false condP_dec condP_not guardP_tt guardP_ff guardP_tf guardP_ft guardP_dec guardP_decf guardP_nt guardP_nf callP_some calleeV_eq bound_none bound_some boundV_int callee_eq ev_tmp ev_const ev_func put_some put_none entry_at oldP_nil oldP_one andP_true resL_nil resL_tmp tupV_one tupV_nil tupV_two Option.map_some bin_add bin_sub bin_mul bin_quo bin_rem bin_eql bin_neq bin_lss bin_leq bin_gtr bin_geq bin_and bin_or bin_xor bin_andNot bin_shl bin_shr bin_beq bin_bne bin_cat bin_seq bin_sne bin_nilL bin_nilR bin_nilLn bin_nilRn bin_slcR bin_slcRn bin_ifcR bin_ifcRn one_map cells_map one_iface cells_iface one_nilI cells_nilI farB_nil farB_cons farV_ptr un_not un_neg un_xor foldV_nil foldV_min foldV_max oneOf_one oneOf_agg lw_enter nx_enter gt_enter lw_push AH.next_push if_true if_false ne_eq not_false_eq_true not_true_eq_false List.getD_cons_zero List.getD_cons_succ decide_true decide_false Bool.not_true Bool.not_false Bool.not_not iteP_true iteP_false back_p3 p3_bool p3_int p3_str p3_undef p3_nilS p3_nilP p3_tup p2_bool p2_int p2_str p2_nilS p2_nilP List.all_cons List.all_nil Bool.and_true Bool.true_and Nat.lt_irrefl cells_agg cells_int cells_bool cells_str cells_ptr cells_slc cells_func one_int one_bool one_str one_ptr one_slc one_func ldc_eq ldcB_some addA_eq gt_push List.drop_zero List.drop_succ_cons List.take_succ_cons List.take_zero List.length_cons List.length_nil Nat.zero_add List.cons_append List.nil_append List.append_nil and_true true_and and_false false_and or_true true_or or_false false_or and_self not_true not_false_iff List.set_cons_zero List.set_cons_succ List.size_toArray added_slc List.map_cons List.map_nil Nat.one_mul Nat.mul_one List.getElem?_toArray List.getElem?_cons_zero List.getElem?_cons_succ decide_eq_true_eq Bool.false_eq_true Int.cast_ofNat_Int Option.isNone_none Option.isNone_some Nat.left_eq_add Nat.add_eq_left Nat.add_left_cancel_iff
attribute [go_sem] evL partsV fillC splice
end Go.Proofs.Ytildhljhbbhmmaa.AM
