/- A call of a compiled function. -/
import Derived.Test.YtidpkoaomfbljaaAmN
import Derived.Laws.Sem
namespace Go.Proofs.Ytidpkoaomfbljaa.AM
open Go Go.RowKit
set_option linter.all false
section
variable {P : Program} {N : Nat}

def resF (a : Act) : ResultVar → Sem Value
  | .tmp t => Pure.pure (a.tmps.getD t Go.undef)
  | .cell x t => do loadVar t (← asAddr (a.tmps.getD x Go.undef))
theorem resF_ok {ntm : Nat} {c : CMap} {f : Fr} {H : AH} {a : Act} {w : World} (hr : Rel N ntm c f H a w) {r : ResultVar} {m : MRes} (hm : compRes P r = some m) {v : Value} (he : resV f H m = some v) :
    ∃ v', (resF a r).run P w = .ok v' w ∧ VR H.next c v v' := by
  have := resV_ok hr hm he
  cases r <;> exact this
theorem resL_ok {ntm : Nat} {c : CMap} {f : Fr} {H : AH} {a : Act} {w : World} (hr : Rel N ntm c f H a w) : ∀ {rs : List ResultVar} {ms : List MRes}, compRs P rs = some ms → ∀ {vs : List Value}, resL f H ms = some vs →
    ∃ vs', (rs.mapM (resF a)).run P w = .ok vs' w ∧ VRL H.next c vs vs' := by
  intro rs
  induction rs with
  | nil =>
    intro ms hm vs he
    simp only [compRs, Option.some.injEq] at hm
    subst hm
    simp only [resL, Option.some.injEq] at he
    subst he
    exact ⟨[], by simp, .nil⟩
  | cons r rs ih =>
    intro ms hm vs he
    simp only [compRs] at hm
    split at hm
    case h_2 => simp at hm
    rename_i m ms' h1 h2
    simp only [Option.some.injEq] at hm
    subst hm
    simp only [resL] at he
    split at he
    case h_2 => simp at he
    rename_i v vs' hv hvs
    simp only [Option.some.injEq] at he
    subst he
    obtain ⟨v1, k1, k2⟩ := resF_ok hr h1 hv
    obtain ⟨vs1, j1, j2⟩ := ih h2 hvs
    refine ⟨v1 :: vs1, ?_, .cons k2 j2⟩
    rw [List.mapM_cons]
    simp [k1, j1]
theorem tupV_ok {n : Nat} {c : CMap} {vs vs' : List Value} (h : VRL n c vs vs') : VR n c (tupV vs) (if h : vs'.toArray.size = 1 then vs'.toArray[0] else .tuple vs'.toArray) := by
  cases vs with
  | nil => rw [h.nil_inv]; simp [tupV]; exact .of3 rfl
  | cons v l =>
    obtain ⟨v', l', rfl, h1, h2⟩ := h.uncons
    cases l with
    | nil => rw [h2.nil_inv]; simpa [tupV] using h1
    | cons u l =>
      obtain ⟨u', l2, rfl, h3, h4⟩ := h2.uncons
      have : tupV (v :: u :: l) = .tuple (v :: u :: l).toArray := rfl
      rw [this, dif_neg (by simp)]
      exact (VRL.cons h1 (.cons h3 h4)).tuple
theorem results_ok {ntm : Nat} {c : CMap} {f : Fr} {H : AH} {a : Act} {w : World} (hr : Rel N ntm c f H a w) {fn : Func} {ms : List MRes} (hm : compRs P fn.results.toList = some ms) {vs : List Value} (he : resL f H ms = some vs) :
    ∃ v', (results fn a.tmps).run P w = .ok v' w ∧ VR H.next c (tupV vs) v' := by
  obtain ⟨vs', h1, h2⟩ := resL_ok hr hm he
  refine ⟨_, ?_, tupV_ok h2⟩
  have h3 : (fn.results.mapM (resF a)).run P w = .ok vs'.toArray w := by
    rw [Array.mapM_eq_mapM_toList]
    simp [h1]
  have h4 : results fn a.tmps = (do let vs ← fn.results.mapM (resF a); Pure.pure (if h : vs.size = 1 then vs[0] else .tuple vs)) := by
    unfold results
    congr 1
  rw [h4]
  simp [h3]

/-! ### Calls -/
def NatOk (P : Program) (N : Nat) (n : FuncId) (g : CallH → List Value → AH → Option (Value × AH)) : Prop :=
  NatExt g ∧ ∀ call, CallOk P N call → ∀ vs H v H', g call vs H = some (v, H') → ∀ c w args, Sim N c H w → VRL H.next c vs args.toList → CallR P N c H w n args v H'
/-- What a table is to be. -/
def EntOk (P : Program) (N : Nat) (n : FuncId) : Ent → Prop
  | .code m => ∃ fn, P.funcs[n]? = some fn ∧ compFn P fn = some m
  | .nat g => NatOk P N n g
def TblOk (P : Program) (N : Nat) (tbl : Tbl) : Prop := ∀ n e, tbl n = some e → EntOk P N n e
theorem evF_ok (hm : P.follows .mixedOrders = true) {tbl : Tbl} (ht : TblOk P N tbl) : ∀ k, CallOk P N (evF tbl k) := by
  have hn : ∀ n g, tbl n = some (.nat g) → NatExt g := fun n g h => (ht n _ h).1
  intro k
  induction k with
  | zero => exact ⟨evF_ext tbl hn 0, fun n vs H v H' h => by simp [evF] at h⟩
  | succ k ih =>
    refine ⟨evF_ext tbl hn (k + 1), fun n vs H v H' h c w args hs hv => ?_⟩
    simp only [evF] at h
    split at h
    · simp at h
    · rename_i g hg; exact (ht n _ hg).2 _ ih vs H v H' h c w args hs hv
    · rename_i m hmm
      obtain ⟨fn, hf, hcf⟩ := ht n _ hmm
      unfold compFn at hcf
      split at hcf
      · simp at hcf
      · rename_i hname
        split at hcf
        · simp at hcf
        · rename_i b hb
          split at hcf
          · rename_i cd rs hcd hrs
            simp only [Option.some.injEq] at hcf
            subst hcf
            refine .inr ⟨by simp [callFunc, hf, hname, hb], calls_of_wp hf hb ?_⟩
            have hr0 : Rel N fn.ntmps c (entry vs) H.enter { tmps := args ++ Array.replicate (fn.ntmps - args.size) Go.undef, defers := [] } w := by
              refine ⟨Sim.low hs, by simp; omega, fun t => ?_, rfl⟩
              have hlen : vs.length = args.size := by simpa using hv.1
              simp only [entry]
              by_cases ht : t < vs.length
              · have := hv.2 t ht
                have e1 : (args ++ Array.replicate (fn.ntmps - args.size) Go.undef).getD t Go.undef = args.getD t Go.undef := by
                  simp [Array.getElem?_append, show t < args.size by omega]
                rw [e1]
                have e2 : args.toList.getD t Go.undef = args.getD t Go.undef := by simp
                rw [e2] at this
                exact this
              · have e1 : (args ++ Array.replicate (fn.ntmps - args.size) Go.undef).getD t Go.undef = Go.undef := by
                  rw [Array.getD_eq_getD_getElem?, Array.getElem?_append, if_neg (by omega)]
                  rw [Array.getElem?_replicate]; split <;> rfl
                rw [e1, List.getD_eq_getElem?_getD, List.getElem?_eq_none (by omega)]
                exact .undef
            have fin : ∀ {e : Ex} {f' : Fr} {H1 : AH} {rvs : List Value}, evC (evF tbl k) (k + 1) cd (entry vs) H.enter = some (e, f', H1) → (e = .normal ∨ e = .ret) → resL f' H1 rs = some rvs → back H H1 (tupV rvs) = (v, H') → b.wp P (bodyPost P fn fun | .returned v', w' => ∃ c', VR H'.next c' v v' ∧ Sim N c' H' w' ∧ ExtW N c H w c' H' w' | _, _ => False) { tmps := args ++ Array.replicate (fn.ntmps - args.size) Go.undef, defers := [] } w := by
              intro e f' H1 rvs he hee hrv hbk
              refine wp_mono (code_ok hm ih b hcd hr0 he) fun e' a' w' hp => ?_
              obtain ⟨rfl, c1, k1, k2⟩ := hp
              obtain ⟨v1, j1, j2⟩ := results_ok k1 hrs hrv
              obtain ⟨c2, l1, l2, l3⟩ := back_ok hs k2 k1.sim j2 hbk
              rcases hee with rfl | rfl <;> exact ⟨k1.defers, v1, j1, c2, l1, l2, l3⟩
            split at h
            · rename_i f' H1 h1
              split at h
              · rename_i rvs hrv
                simp only [Option.some.injEq] at h
                exact fin h1 (.inl rfl) hrv h
              · simp at h
            · rename_i f' H1 h1
              split at h
              · rename_i rvs hrv
                simp only [Option.some.injEq] at h
                exact fin h1 (.inr rfl) hrv h
              · simp at h
            · simp at h
          · simp at hcf
end
end Go.Proofs.Ytidpkoaomfbljaa.AM
