/- From the abstract machine to the row. -/
import Derived.Test.YtidpkoaomfbljaaRows
import Derived.ProofKit
import Derived.ChangeCalls
import Derived.Test.YtidpkoaomfbljaaAmO
import Derived.Test.YtidpkoaomfbljaaAmR
namespace Go.Proofs.Ytidpkoaomfbljaa.AM
open Go Go.RowKit Go.ChangeShapes Go.WideShapes Go.ChangeAt
set_option linter.all false

theorem own : ownKnob Try.prog.godebug = none := by kernel_rfl
theorem laidOut : laidOutB Try.prog = true := by kernel_rfl
theorem mixed : Try.prog.follows .mixedOrders = true := by kernel_rfl

/-- What the abstract machine returns is what the call returns. -/
theorem calls_of_val {P : Program} {N : Nat} {tbl : Tbl} (hm : P.follows .mixedOrders = true) (ht : TblOk P N tbl) {n : FuncId} {fn : Func} (hf : P.funcs[n]? = some fn) (hb : fn.body.isSome = true) (hn : (fn.name == "runtime.NumGoroutine") = false)
    {vs : List Value} {H H' : AH} {v : Value} (hv : Val tbl n vs H v H') {c : CMap} {w : World} {args : Array Value} (hs : Sim N c H w) (ha : VRL H.next c vs args.toList) :
    Calls P n args w fun | .returned v', w' => ∃ c', VR H'.next c' v v' ∧ Sim N c' H' w' ∧ ExtW N c H w c' H' w' | _, _ => False := by
  obtain ⟨k, hk⟩ := hv
  rcases (evF_ok hm ht k).2 n vs H v H' hk c w args hs ha with ⟨v', w', h1, _⟩ | ⟨_, h⟩
  · exfalso
    obtain ⟨bd, hb'⟩ := Option.isSome_iff_exists.1 hb
    have hn' : ¬ fn.name = "runtime.NumGoroutine" := by simpa using hn
    have he : (callFunc n args).run P w = .ok (.enter n args) w := by simp [callFunc, hf, hn', hb']
    rw [he] at h1
    simp at h1
  · exact h

section
variable {H : Type} {enc : TypeId × Value → H}
/-- All arguments read behind the call as they read before. -/
theorem trodAll_below {P : Program} (hl : laidOutB P = true) {W W' : World} (hb : Below W.heap.size W W') : ∀ {ts : List TypeId} {vs : List Value} {ds : List (DataW H)} {ps : List MemPlace},
    (ts.all fun t => P.readableRec t && decide (t < P.types.size)) = true → DataW.TrodAll enc P W 0 (fun _ => true) true ts vs ds ps → (∀ x ∈ ps, x.block < W.heap.size) →
    DataW.TrodAll enc P W' 0 (fun b => decide (b < W.heap.size)) true ts vs ds ps
  | [], vs, ds, ps, _, h, _ => by
    obtain ⟨rfl, rfl, rfl⟩ := trodAll_nil h
    exact rfl
  | t :: ts, vs, ds, ps, ht, h, hlt => by
    obtain ⟨v, vs1, d, ds1, a, b, rfl, rfl, rfl, h1, h2⟩ := trodAll_cons h
    simp only [List.all_cons, Bool.and_eq_true, decide_eq_true_eq] at ht
    exact ⟨a, b, Below.trod hl ht.1.1 ht.1.2 h1 hb fun x hx => hlt x (List.mem_append_left _ hx), trodAll_below hl hb (by simpa using ht.2) h2 fun x hx => hlt x (List.mem_append_right _ hx), rfl⟩

set_option maxRecDepth 100000 in
/-- A law: it returns true, and each argument reads as it read. -/
theorem law_lifted {os : Os} (started : os.Started) {f : FuncId} {fn : Func} {s : ChangeSpec} {tb : TypeId} {conds : List PathCond} {apart again : Bool} (hag : again = false)
    (hvars : s.vars = []) (hfn : Try.prog.funcs[f]? = some fn) (hinit : Try.prog.inits.idxOf? f = none) (hres : fn.resultTypes = #[tb]) (htb : Try.prog.underlying tb = some .bool)
    (hread : (fn.params.toList.all fun t => Try.prog.readableRec t && decide (t < Try.prog.types.size)) = true)
    (hspec : ∀ (ds : List (DataW H)), ds.length = fn.params.size → s.fn H (ds ++ []) = { results := [.lit (.bool true)], args := ds })
    (witness : ∃ (w : World) (tape : Tape) (i : Input), w.os = os ∧ (w.forCall tape i).Shaped Try.checked.prog ∧ i.vars = [] ∧ Input.okWide Try.checked.prog (w.forCall tape i) .any w.heap.size f i ∧
      s.pre6 enc Try.checked.prog fn conds apart (w.forCall tape i).memory i.args ∧ ({} : Assume).holds Try.checked.prog (lone (Frame.enter Try.checked.prog f i.args .normal) [] (w.forCall tape i)))
    (run : ∀ (W : World) (args : Array Value) (ds : List (DataW H)) (ps : List MemPlace) (base : Nat), (∀ (j : Nat) t v, fn.params[j]? = some t → args[j]? = some v → Value.okWide Try.prog W .any base t v) →
      DataW.TrodAll enc Try.prog W 0 (fun _ => true) true fn.params.toList args.toList ds ps → (∀ x ∈ ps, x.block < W.heap.size) →
      Calls Try.prog f args W fun | .returned v', W' => v' = .bool true ∧ Below W.heap.size W W' | _, _ => False) :
    ReturnsInHanded {} Try.checked os f .any (s.pre6 enc Try.prog fn conds apart) (s.post enc Try.prog fn apart true false again) := by
  subst hag
  refine returnsInHanded_of_change (C := Try.checked) own started hinit hfn witness ?_
  intro W base args ds gs before hval hW hcnd _
  have hW' := hW
  obtain ⟨p, q, hA, hV, rfl, hfz, hnd⟩ := hW
  rw [hvars] at hV
  obtain ⟨rfl, rfl⟩ := trodVars_none hV
  rw [List.append_nil] at hW'
  have hlt : ∀ x ∈ p, x.block < W.heap.size := fun x hx => by simpa using hW'.lt x hx
  refine (run W args ds p base hval hA hlt).mono fun e W' he => ?_
  cases e with
  | panicked ch => exact he.elim
  | outgrown => exact he.elim
  | returned v =>
    obtain ⟨rfl, hb⟩ := he
    refine ⟨_, rfl, ?_⟩
    have hlen : ds.length = fn.params.size := by
      have := (trodAll_length hA).2
      simpa using this
    have hs := hspec ds hlen
    refine ⟨ds, [], p, [], p, [], hW', ?_, ?_, ?_, hb.frame _, fun h => by simp at h⟩
    · rw [hs, hres]
      exact trodAll_mk1 (shut_bool htb true)
    · rw [hs]
      exact trodAll_below laidOut hb hread hA hlt
    · rw [hs, hvars]
      exact rfl
end
end Go.Proofs.Ytidpkoaomfbljaa.AM
