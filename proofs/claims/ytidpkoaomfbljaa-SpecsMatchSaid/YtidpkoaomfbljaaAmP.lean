/- More fuel gives the same; rules for reckoning on the abstract machine. No program in sight. -/
import Derived.Test.YtidpkoaomfbljaaAmK
namespace Go.Proofs.Ytidpkoaomfbljaa.AM
open Go
set_option linter.all false

def LeC (call call' : CallH) : Prop := ∀ n vs H r, call n vs H = some r → call' n vs H = some r
theorem LeC.refl (c : CallH) : LeC c c := fun _ _ _ _ h => h
section
variable {call call' : CallH}
theorem evOp_mono (hc : LeC call call') {m : MI} {f : Fr} {H : AH} {r : Value × AH} (h : evOp call m f H = some r) : evOp call' m f H = some r := by
  cases hm : m.isCall with
  | false => rw [evOp_evM hm] at h ⊢; exact h
  | true =>
    cases m <;> simp only [MI.isCall, Bool.false_eq_true] at hm
    simp only [evOp] at h ⊢
    split at h
    · split at h
      · rename_i hp
        rw [if_pos hp]
        split at h
        · rename_i h1; rw [hc _ _ _ _ h1]; exact h
        · simp at h
      · rename_i hp
        rw [if_neg hp]
        exact hc _ _ _ _ h
    · simp at h
theorem evG_mono (hc : LeC call call') {bs : Nat} {o : MOp} {f : Fr} {H : AH} {r : Value × AH} (h : evG call bs o f H = some r) : evG call' bs o f H = some r := by
  unfold evG at h ⊢
  split at h
  · rename_i h1
    rw [if_pos h1]
    split at h
    · rename_i h2; rw [if_pos h2]; exact evOp_mono hc h
    · simp at h
  · rename_i h1; rw [if_neg h1]; exact evOp_mono hc h
theorem evV_mono (hc : LeC call call') {bs : Nat} {o : MOp} {f : Fr} {H : AH} {r : Value × AH} (h : evV call bs o f H = some r) : evV call' bs o f H = some r := by
  unfold evV at h ⊢
  split at h
  · exact evG_mono hc h
  · split at h
    · split at h
      · rename_i h1; simp only [h1, if_true]; exact evG_mono hc h
      · rename_i h1; simp only [h1, if_false]; exact h
    · exact h
    · simp at h
theorem evMOp_mono (hc : LeC call call') {bs : Nat} {o : MOp} {f : Fr} {H : AH} {r : Fr × AH} (h : evMOp call bs o f H = some r) : evMOp call' bs o f H = some r := by
  unfold evMOp at h ⊢
  split at h
  · rename_i h1; rw [evV_mono hc h1]; exact h
  · simp at h
theorem evOps_mono (hc : LeC call call') {bs : Nat} : ∀ (l : List MOp) {f : Fr} {H : AH} {r : Fr × AH}, evOps call bs l f H = some r → evOps call' bs l f H = some r := by
  intro l
  induction l with
  | nil => intro f H r h; exact h
  | cons o l ih =>
    intro f H r h
    simp only [evOps] at h ⊢
    split at h
    · rename_i h1; rw [evMOp_mono hc h1]; exact ih h
    · simp at h
theorem iter_mono {b b' : Fr → AH → Option (Ex × Fr × AH)} (hb : ∀ f H r, b f H = some r → b' f H = some r) : ∀ (n n' : Nat), n ≤ n' → ∀ {f : Fr} {H : AH} {r : Ex × Fr × AH}, iter b n f H = some r → iter b' n' f H = some r := by
  intro n
  induction n with
  | zero => intro n' _ f H r h; simp [iter] at h
  | succ n ih =>
    intro n' hn f H r h
    obtain ⟨m, rfl⟩ : ∃ m, n' = m + 1 := ⟨n' - 1, by omega⟩
    simp only [iter] at h ⊢
    split at h
    · rename_i h1; rw [hb _ _ _ h1]; exact ih m (by omega) h
    · rename_i h1
      rw [hb _ _ _ h]
      obtain ⟨e, f', H'⟩ := r
      cases e with
      | normal => exact absurd h (h1 _ _)
      | _ => rfl
theorem evC_mono (hc : LeC call call') {k k' : Nat} (hk : k ≤ k') : ∀ (m : MCode) {f : Fr} {H : AH} {r : Ex × Fr × AH}, evC call k m f H = some r → evC call' k' m f H = some r := by
  intro m
  induction m with
  | skip => intro f H r h; exact h
  | exit id => intro f H r h; exact h
  | ret => intro f H r h; exact h
  | ops l =>
    intro f H r h
    simp only [evC] at h ⊢
    split at h
    · rename_i h1; rw [evOps_mono hc _ h1]; exact h
    · simp at h
  | opsD l =>
    intro f H r h
    simp only [evC] at h ⊢
    split at h
    · rename_i h1; rw [evOps_mono hc _ h1]; exact h
    · simp at h
  | seq a b iha ihb =>
    intro f H r h
    simp only [evC] at h ⊢
    split at h
    · rename_i h1; rw [iha h1]; exact ihb h
    · rename_i h1
      rw [iha h]
      obtain ⟨e, f', H'⟩ := r
      cases e with
      | normal => exact absurd h (h1 _ _)
      | _ => rfl
  | cond c a b iha ihb =>
    intro f H r h
    simp only [evC] at h ⊢
    split at h
    · split at h
      · rename_i h1; rw [if_pos h1]; exact iha h
      · rename_i h1; rw [if_neg h1]; exact ihb h
    · simp at h
  | block id a ih =>
    intro f H r h
    simp only [evC] at h ⊢
    split at h
    · rename_i h1; rw [ih h1]; exact h
    · rename_i h1
      rw [ih h]
      obtain ⟨e, f', H'⟩ := r
      cases e with
      | exit i => exact absurd h (h1 _ _ _)
      | _ => rfl
  | loop a ih =>
    intro f H r h
    simp only [evC] at h ⊢
    exact iter_mono (fun _ _ _ => ih) k k' hk h
end
def NatMono (g : CallH → List Value → AH → Option (Value × AH)) : Prop := ∀ call call', LeC call call' → ∀ vs H r, g call vs H = some r → g call' vs H = some r
class TMono (tbl : Tbl) : Prop where
  nat : ∀ n g, tbl n = some (.nat g) → NatMono g
section
variable {tbl : Tbl} [hT : TMono tbl]
theorem evF_mono : ∀ {k k' : Nat}, k ≤ k' → LeC (evF tbl k) (evF tbl k') := by
  intro k
  induction k with
  | zero => intro k' _ n vs H r h; simp [evF] at h
  | succ k ih =>
    intro k' hk n vs H r h
    obtain ⟨j, rfl⟩ : ∃ j, k' = j + 1 := ⟨k' - 1, by omega⟩
    have hj : k ≤ j := by omega
    simp only [evF] at h ⊢
    split at h
    · simp at h
    · rename_i g hg; exact hT.nat _ _ hg _ _ (ih hj) _ _ _ h
    · split at h
      · rename_i h1; rw [evC_mono (ih hj) hk _ h1]; exact h
      · rename_i h1; rw [evC_mono (ih hj) hk _ h1]; exact h
      · simp at h

/-! ### Runs -/
/-- What comes next. It goes in as an instance, so that simp does not look into it. -/
class Kn (T : Type) : Type where
  k : T
def RunF (tbl : Tbl) (n : FuncId) (vs : List Value) (H : AH) [Q : Kn (Value → AH → Prop)] : Prop := ∃ k v H', evF tbl k n vs H = some (v, H') ∧ Q.k v H'
def RunC (tbl : Tbl) (m : MCode) (f : Fr) (H : AH) [Q : Kn (Ex → Fr → AH → Prop)] : Prop := ∃ k e f' H', evC (evF tbl k) k m f H = some (e, f', H') ∧ Q.k e f' H'
def RunO (tbl : Tbl) (bs : Nat) (l : List MOp) (f : Fr) (H : AH) (Q : Fr → AH → Prop) : Prop := ∃ k f' H', evOps (evF tbl k) bs l f H = some (f', H') ∧ Q f' H'
def RunP (tbl : Tbl) (m : MI) (f : Fr) (H : AH) (Q : Value → AH → Prop) : Prop := ∃ k v H', evOp (evF tbl k) m f H = some (v, H') ∧ Q v H'
/-- What a call returns. -/
def Val (tbl : Tbl) (n : FuncId) (vs : List Value) (H : AH) (v : Value) (H' : AH) : Prop := ∃ k, evF tbl k n vs H = some (v, H')
theorem Val.of_run {n : FuncId} {vs : List Value} {H : AH} {v : Value} {H' : AH} (h : (@RunF tbl n vs H ⟨fun v1 H1 => v1 = v ∧ H1 = H'⟩)) : Val tbl n vs H v H' := by
  obtain ⟨k, v1, H1, h1, rfl, rfl⟩ := h
  exact ⟨k, h1⟩
theorem Val.of_all {n : FuncId} {vs : List Value} {H : AH} {v : Value} {H' : AH} (h : ∀ Q : Value → AH → Prop, Q v H' → (@RunF tbl n vs H ⟨Q⟩)) : Val tbl n vs H v H' := .of_run (h _ ⟨rfl, rfl⟩)
theorem Val.run {n : FuncId} {vs : List Value} {H : AH} {v : Value} {H' : AH} (h : Val tbl n vs H v H') {Q : Value → AH → Prop} : (@RunF tbl n vs H ⟨Q⟩) ↔ Q v H' := by
  obtain ⟨k, hk⟩ := h
  constructor
  · rintro ⟨k2, v2, H2, h2, hq⟩
    have a := evF_mono (tbl := tbl) (Nat.le_max_left k k2) _ _ _ _ hk
    have b := evF_mono (tbl := tbl) (Nat.le_max_right k k2) _ _ _ _ h2
    rw [a] at b
    simp only [Option.some.injEq, Prod.mk.injEq] at b
    obtain ⟨rfl, rfl⟩ := b
    exact hq
  · exact fun hq => ⟨k, v, H', hk, hq⟩
theorem RunF.mono {n : FuncId} {vs : List Value} {H : AH} {Q Q' : Value → AH → Prop} (h : (@RunF tbl n vs H ⟨Q⟩)) (hq : ∀ v H', Q v H' → Q' v H') : (@RunF tbl n vs H ⟨Q'⟩) := by
  obtain ⟨k, v, H', h1, h2⟩ := h; exact ⟨k, v, H', h1, hq _ _ h2⟩
theorem RunC.mono {m : MCode} {f : Fr} {H : AH} {Q Q' : Ex → Fr → AH → Prop} (h : (@RunC tbl m f H ⟨Q⟩)) (hq : ∀ e f' H', Q e f' H' → Q' e f' H') : (@RunC tbl m f H ⟨Q'⟩) := by
  obtain ⟨k, e, f', H', h1, h2⟩ := h; exact ⟨k, e, f', H', h1, hq _ _ _ h2⟩

/-! ### Rules -/
def bindP (o : Option (Value × AH)) [K : Kn (Value → AH → Prop)] : Prop :=
  match o with
  | some (v, H') => K.k v H'
  | none => False
def condP (v : Value) [A : Kn Prop] [B : Kn Prop] : Prop :=
  match v with
  | .bool t => if t = true then A.k else B.k
  | _ => False
def guardP (v : Value) (want : Bool) [A : Kn Prop] [B : Kn Prop] : Prop :=
  match v with
  | .bool t => if t = want then A.k else B.k
  | .tuple _ => B.k
  | _ => False
def callP (tbl : Tbl) (o : Option (FuncId × List Value)) (H : AH) [K : Kn (Value → AH → Prop)] : Prop :=
  match o with
  | some (n, vs) => (@RunF tbl n vs H ⟨K.k⟩)
  | none => False
def seqQ (Q : Ex → Fr → AH → Prop) (K : Fr → AH → Prop) : Ex → Fr → AH → Prop
  | .normal, f, H => K f H
  | e, f, H => Q e f H
def blockQ (id : Nat) (Q : Ex → Fr → AH → Prop) : Ex → Fr → AH → Prop
  | .exit i, f, H => if i = id then Q .normal f H else Q (.exit i) f H
  | e, f, H => Q e f H
def normQ (K : Fr → AH → Prop) : Ex → Fr → AH → Prop
  | .normal, f, H => K f H
  | _, _, _ => False
def finQ (H : AH) (rs : List MRes) (Q : Value → AH → Prop) : Ex → Fr → AH → Prop
  | .exit _, _, _ => False
  | _, f', H' => match resL f' H' rs with
    | some vs => Q (back H H' (tupV vs)).1 (back H H' (tupV vs)).2
    | none => False
theorem bindP_some {v : Value} {H : AH} {K : Value → AH → Prop} : (@bindP (some (v, H)) ⟨K⟩) = K v H := rfl
theorem bindP_congr {x y : Option (Value × AH)} {K : Value → AH → Prop} (h : x = y) : (@bindP x ⟨K⟩) = (@bindP y ⟨K⟩) := by rw [h]
theorem condP_congr {x y : Value} {A B : Prop} (h : x = y) : (@condP x ⟨A⟩ ⟨B⟩) = (@condP y ⟨A⟩ ⟨B⟩) := by rw [h]
theorem guardP_congr {x y : Value} {w : Bool} {A B : Prop} (h : x = y) : (@guardP x w ⟨A⟩ ⟨B⟩) = (@guardP y w ⟨A⟩ ⟨B⟩) := by rw [h]
theorem callP_congr {x y : Option (FuncId × List Value)} {H : AH} {K : Value → AH → Prop} (h : x = y) : (@callP tbl x H ⟨K⟩) = (@callP tbl y H ⟨K⟩) := by rw [h]
theorem condP_true {A B : Prop} : (@condP (.bool true) ⟨A⟩ ⟨B⟩) = A := rfl
theorem condP_false {A B : Prop} : (@condP (.bool false) ⟨A⟩ ⟨B⟩) = B := rfl
/-- A parting of the ways. -/
def iteP (p : Prop) [A : Kn Prop] [B : Kn Prop] : Prop := (p → A.k) ∧ (¬p → B.k)
theorem iteP_congr {p q A B : Prop} (h1 : p = q) : (@iteP p ⟨A⟩ ⟨B⟩) = (@iteP q ⟨A⟩ ⟨B⟩) := by rw [h1]
theorem iteP_intro {p A B : Prop} (h1 : p → A) (h2 : ¬p → B) : (@iteP p ⟨A⟩ ⟨B⟩) := ⟨h1, h2⟩
theorem iteP_true {A B : Prop} : (@iteP True ⟨A⟩ ⟨B⟩) = A := by simp [iteP]
theorem iteP_false {A B : Prop} : (@iteP False ⟨A⟩ ⟨B⟩) = B := by simp [iteP]
theorem leaf {Q : Value → AH → Prop} {v v' : Value} {H H' : AH} (hQ : Q v H) (h : v' = v) (h2 : H' = H) : Q v' H' := by rw [h, h2]; exact hQ
theorem condP_dec {p : Prop} [Decidable p] {A B : Prop} : (@condP (.bool (decide p)) ⟨A⟩ ⟨B⟩) = (@iteP p ⟨A⟩ ⟨B⟩) := by
  by_cases h : p <;> simp [condP, h, iteP]
theorem condP_not {t : Bool} {A B : Prop} : (@condP (.bool (!t)) ⟨A⟩ ⟨B⟩) = (@condP (.bool t) ⟨B⟩ ⟨A⟩) := by cases t <;> rfl
theorem guardP_dec {p : Prop} [Decidable p] {A B : Prop} : (@guardP (.bool (decide p)) true ⟨A⟩ ⟨B⟩) = (@iteP p ⟨A⟩ ⟨B⟩) := by
  by_cases h : p <;> simp [guardP, h, iteP]
theorem guardP_decf {p : Prop} [Decidable p] {A B : Prop} : (@guardP (.bool (decide p)) false ⟨A⟩ ⟨B⟩) = (@iteP p ⟨B⟩ ⟨A⟩) := by
  by_cases h : p <;> simp [guardP, h, iteP]
theorem guardP_tt {A B : Prop} : (@guardP (.bool true) true ⟨A⟩ ⟨B⟩) = A := rfl
theorem guardP_ff {A B : Prop} : (@guardP (.bool false) false ⟨A⟩ ⟨B⟩) = A := rfl
theorem guardP_tf {A B : Prop} : (@guardP (.bool true) false ⟨A⟩ ⟨B⟩) = B := rfl
theorem guardP_ft {A B : Prop} : (@guardP (.bool false) true ⟨A⟩ ⟨B⟩) = B := rfl
theorem guardP_un {w : Bool} {A B : Prop} : (@guardP undef w ⟨A⟩ ⟨B⟩) = B := rfl
theorem guardP_nt {t : Bool} {A B : Prop} : (@guardP (.bool (!t)) true ⟨A⟩ ⟨B⟩) = (@guardP (.bool t) false ⟨A⟩ ⟨B⟩) := by cases t <;> rfl
theorem guardP_nf {t : Bool} {A B : Prop} : (@guardP (.bool (!t)) false ⟨A⟩ ⟨B⟩) = (@guardP (.bool t) true ⟨A⟩ ⟨B⟩) := by cases t <;> rfl
theorem callP_some {n : FuncId} {vs : List Value} {H : AH} {K : Value → AH → Prop} : (@callP tbl (some (n, vs)) H ⟨K⟩) = (@RunF tbl n vs H ⟨K⟩) := rfl
theorem seqQ_normal {Q : Ex → Fr → AH → Prop} {K : Fr → AH → Prop} {f : Fr} {H : AH} : seqQ Q K .normal f H = K f H := rfl
theorem seqQ_exit {Q : Ex → Fr → AH → Prop} {K : Fr → AH → Prop} {i : Nat} {f : Fr} {H : AH} : seqQ Q K (.exit i) f H = Q (.exit i) f H := rfl
theorem seqQ_ret {Q : Ex → Fr → AH → Prop} {K : Fr → AH → Prop} {f : Fr} {H : AH} : seqQ Q K .ret f H = Q .ret f H := rfl
theorem blockQ_normal {id : Nat} {Q : Ex → Fr → AH → Prop} {f : Fr} {H : AH} : blockQ id Q .normal f H = Q .normal f H := rfl
theorem blockQ_exit {id i : Nat} {Q : Ex → Fr → AH → Prop} {f : Fr} {H : AH} : blockQ id Q (.exit i) f H = if i = id then Q .normal f H else Q (.exit i) f H := rfl
theorem blockQ_ret {id : Nat} {Q : Ex → Fr → AH → Prop} {f : Fr} {H : AH} : blockQ id Q .ret f H = Q .ret f H := rfl
theorem normQ_normal {K : Fr → AH → Prop} {f : Fr} {H : AH} : normQ K .normal f H = K f H := rfl

theorem evC_up {k k' : Nat} (h : k ≤ k') {m : MCode} {f : Fr} {H : AH} {r : Ex × Fr × AH} (e : evC (evF tbl k) k m f H = some r) : evC (evF tbl k') k' m f H = some r := evC_mono (evF_mono h) h m e
theorem rn_skip {f : Fr} {H : AH} {Q : Ex → Fr → AH → Prop} : (@RunC tbl .skip f H ⟨Q⟩) = Q .normal f H := by
  refine propext ⟨?_, fun h => ⟨0, .normal, f, H, rfl, h⟩⟩
  rintro ⟨k, e, f', H', h, hq⟩
  simp only [evC, Option.some.injEq, Prod.mk.injEq] at h
  obtain ⟨rfl, rfl, rfl⟩ := h; exact hq
theorem rn_exit {i : Nat} {f : Fr} {H : AH} {Q : Ex → Fr → AH → Prop} : (@RunC tbl (.exit i) f H ⟨Q⟩) = Q (.exit i) f H := by
  refine propext ⟨?_, fun h => ⟨0, .exit i, f, H, rfl, h⟩⟩
  rintro ⟨k, e, f', H', h, hq⟩
  simp only [evC, Option.some.injEq, Prod.mk.injEq] at h
  obtain ⟨rfl, rfl, rfl⟩ := h; exact hq
theorem rn_ret {f : Fr} {H : AH} {Q : Ex → Fr → AH → Prop} : (@RunC tbl .ret f H ⟨Q⟩) = Q .ret f H := by
  refine propext ⟨?_, fun h => ⟨0, .ret, f, H, rfl, h⟩⟩
  rintro ⟨k, e, f', H', h, hq⟩
  simp only [evC, Option.some.injEq, Prod.mk.injEq] at h
  obtain ⟨rfl, rfl, rfl⟩ := h; exact hq
theorem rn_seq {a b : MCode} {f : Fr} {H : AH} {Q : Ex → Fr → AH → Prop} : (@RunC tbl (.seq a b) f H ⟨Q⟩) = (@RunC tbl a f H ⟨seqQ Q fun f' H' => (@RunC tbl b f' H' ⟨Q⟩)⟩) := by
  refine propext ⟨?_, ?_⟩
  · rintro ⟨k, e, f', H', h, hq⟩
    simp only [evC] at h
    split at h
    · rename_i f1 H1 h1; exact ⟨k, .normal, f1, H1, h1, k, e, f', H', h, hq⟩
    · rename_i h1
      refine ⟨k, e, f', H', h, ?_⟩
      cases e with
      | normal => exact absurd h (h1 _ _)
      | _ => exact hq
  · rintro ⟨k, e, f1, H1, h1, hq⟩
    cases e with
    | normal =>
      obtain ⟨k2, e, f', H', h2, hq⟩ := hq
      refine ⟨max k k2, e, f', H', ?_, hq⟩
      simp only [evC, evC_up (Nat.le_max_left k k2) h1]
      exact evC_up (Nat.le_max_right k k2) h2
    | exit i => exact ⟨k, .exit i, f1, H1, by simp only [evC, h1], hq⟩
    | ret => exact ⟨k, .ret, f1, H1, by simp only [evC, h1], hq⟩
theorem rn_cond {c : Operand} {a b : MCode} {f : Fr} {H : AH} {Q : Ex → Fr → AH → Prop} : (@RunC tbl (.cond c a b) f H ⟨Q⟩) = (@condP (ev f c) ⟨(@RunC tbl a f H ⟨Q⟩)⟩ ⟨(@RunC tbl b f H ⟨Q⟩)⟩) := by
  refine propext ⟨?_, ?_⟩
  · rintro ⟨k, e, f', H', h, hq⟩
    simp only [evC] at h
    split at h
    · rename_i t ht
      rw [ht]
      simp only [condP]
      split at h
      · rename_i h1; rw [if_pos h1]; exact ⟨k, e, f', H', h, hq⟩
      · rename_i h1; rw [if_neg h1]; exact ⟨k, e, f', H', h, hq⟩
    · simp at h
  · intro h
    cases hc : ev f c <;> rw [hc] at h <;> simp only [condP] at h
    rename_i t
    split at h
    · rename_i h1
      obtain ⟨k, e, f', H', h, hq⟩ := h
      exact ⟨k, e, f', H', by simp only [evC, hc, h1, if_true]; exact h, hq⟩
    · rename_i h1
      obtain ⟨k, e, f', H', h, hq⟩ := h
      exact ⟨k, e, f', H', by simp only [evC, hc, h1]; exact h, hq⟩
theorem rn_block {id : Nat} {a : MCode} {f : Fr} {H : AH} {Q : Ex → Fr → AH → Prop} : (@RunC tbl (.block id a) f H ⟨Q⟩) = (@RunC tbl a f H ⟨blockQ id Q⟩) := by
  refine propext ⟨?_, ?_⟩
  · rintro ⟨k, e, f', H', h, hq⟩
    simp only [evC] at h
    split at h
    · rename_i i f1 H1 h1
      refine ⟨k, .exit i, f1, H1, h1, ?_⟩
      simp only [blockQ]
      split at h
      · rename_i hi
        simp only [Option.some.injEq, Prod.mk.injEq] at h
        obtain ⟨rfl, rfl, rfl⟩ := h
        rw [if_pos hi]; exact hq
      · rename_i hi
        simp only [Option.some.injEq, Prod.mk.injEq] at h
        obtain ⟨rfl, rfl, rfl⟩ := h
        rw [if_neg hi]; exact hq
    · rename_i h1
      refine ⟨k, e, f', H', h, ?_⟩
      cases e with
      | exit i => exact absurd h (h1 _ _ _)
      | _ => exact hq
  · rintro ⟨k, e, f1, H1, h1, hq⟩
    cases e with
    | normal => exact ⟨k, .normal, f1, H1, by simp only [evC, h1], hq⟩
    | ret => exact ⟨k, .ret, f1, H1, by simp only [evC, h1], hq⟩
    | exit i =>
      simp only [blockQ] at hq
      split at hq
      · rename_i hi; exact ⟨k, .normal, f1, H1, by simp only [evC, h1, hi, if_true], hq⟩
      · rename_i hi; exact ⟨k, .exit i, f1, H1, by simp only [evC, h1, hi, if_false], hq⟩
theorem rn_ops {l : List MOp} {f : Fr} {H : AH} {Q : Ex → Fr → AH → Prop} : (@RunC tbl (.ops l) f H ⟨Q⟩) = RunO tbl H.next l f H fun f' H' => Q .normal f' H' := by
  refine propext ⟨?_, ?_⟩
  · rintro ⟨k, e, f', H', h, hq⟩
    simp only [evC] at h
    split at h
    · rename_i f1 H1 h1
      simp only [Option.some.injEq, Prod.mk.injEq] at h
      obtain ⟨rfl, rfl, rfl⟩ := h
      exact ⟨k, _, _, h1, hq⟩
    · simp at h
  · rintro ⟨k, f', H', h, hq⟩
    exact ⟨k, .normal, f', H', by simp only [evC, h], hq⟩
theorem rn_opsD {l : List MOp} {f : Fr} {H : AH} {Q : Ex → Fr → AH → Prop} : (@RunC tbl (.opsD l) f H ⟨Q⟩) = RunO tbl H.next l f H fun f' H' => Q .normal f' H' := rn_ops
theorem rn_nil {bs : Nat} {f : Fr} {H : AH} {Q : Fr → AH → Prop} : RunO tbl bs [] f H Q = Q f H := by
  refine propext ⟨?_, fun h => ⟨0, f, H, rfl, h⟩⟩
  rintro ⟨k, f', H', h, hq⟩
  simp only [evOps, Option.some.injEq, Prod.mk.injEq] at h
  obtain ⟨rfl, rfl⟩ := h; exact hq
theorem rn_cons {bs : Nat} {o : MOp} {l : List MOp} {f : Fr} {H : AH} {Q : Fr → AH → Prop} : RunO tbl bs (o :: l) f H Q ↔ ∃ k v H', evV (evF tbl k) bs o f H = some (v, H') ∧ RunO tbl bs l (put f o.dst v) H' Q := by
  constructor
  · rintro ⟨k, f', H', h, hq⟩
    simp only [evOps] at h
    split at h
    · rename_i f1 H1 h1
      unfold evMOp at h1
      split at h1
      · rename_i v H2 h2
        simp only [Option.some.injEq, Prod.mk.injEq] at h1
        obtain ⟨rfl, rfl⟩ := h1
        exact ⟨k, v, H2, h2, k, f', H', h, hq⟩
      · simp at h1
    · simp at h
  · rintro ⟨k, v, H1, h1, k2, f', H', h2, hq⟩
    refine ⟨max k k2, f', H', ?_, hq⟩
    simp only [evOps, evMOp, evV_mono (evF_mono (Nat.le_max_left k k2)) h1]
    exact evOps_mono (evF_mono (Nat.le_max_right k k2)) _ h2
theorem rn_plain {bs : Nat} {d : Option Tmp} {m : MI} {l : List MOp} {f : Fr} {H : AH} {Q : Fr → AH → Prop} : RunO tbl bs (⟨d, none, false, m⟩ :: l) f H Q = RunP tbl m f H fun v H' => RunO tbl bs l (put f d v) H' Q := by
  refine propext (rn_cons.trans ?_)
  simp only [evV, evG, Bool.false_eq_true, if_false, RunP]
def oldP (l : List Nat) (bs : Nat) [A : Kn (Prop)] : Prop := if l.all (fun b => decide (b < bs)) = true then A.k else False
theorem rn_old {bs : Nat} {d : Option Tmp} {m : MI} {l : List MOp} {f : Fr} {H : AH} {Q : Fr → AH → Prop} : RunO tbl bs (⟨d, none, true, m⟩ :: l) f H Q = (@oldP (m.rdBlk f) bs ⟨RunP tbl m f H fun v H' => RunO tbl bs l (put f d v) H' Q⟩) := by
  refine propext (rn_cons.trans ?_)
  simp only [evV, evG, if_true, RunP, oldP]
  split
  · exact Iff.rfl
  · simp
theorem rn_guard {bs : Nat} {d : Option Tmp} {t : Tmp} {want : Bool} {m : MI} {l : List MOp} {f : Fr} {H : AH} {Q : Fr → AH → Prop} : RunO tbl bs (⟨d, some (t, want), false, m⟩ :: l) f H Q = (@guardP (f t) want ⟨RunP tbl m f H fun v H' => RunO tbl bs l (put f d v) H' Q⟩ ⟨RunO tbl bs l (put f d undef) H Q⟩) := by
  refine propext (rn_cons.trans ?_)
  simp only [evV, evG, Bool.false_eq_true, if_false]
  cases hv : f t with
  | bool b =>
    simp only [guardP]
    split
    · exact Iff.rfl
    · simp only [Option.some.injEq, Prod.mk.injEq]
      exact ⟨fun ⟨k, v, H', ⟨h1, h2⟩, h3⟩ => by rw [h1, h2]; exact h3, fun h => ⟨0, _, _, ⟨rfl, rfl⟩, h⟩⟩
  | tuple vs =>
    simp only [guardP, Option.some.injEq, Prod.mk.injEq]
    exact ⟨fun ⟨k, v, H', ⟨h1, h2⟩, h3⟩ => by rw [h1, h2]; exact h3, fun h => ⟨0, _, _, ⟨rfl, rfl⟩, h⟩⟩
  | _ => simp [guardP]
theorem rn_guardOld {bs : Nat} {d : Option Tmp} {t : Tmp} {want : Bool} {m : MI} {l : List MOp} {f : Fr} {H : AH} {Q : Fr → AH → Prop} : RunO tbl bs (⟨d, some (t, want), true, m⟩ :: l) f H Q = (@guardP (f t) want ⟨(@oldP (m.rdBlk f) bs ⟨RunP tbl m f H fun v H' => RunO tbl bs l (put f d v) H' Q⟩)⟩ ⟨RunO tbl bs l (put f d undef) H Q⟩) := by
  refine propext (rn_cons.trans ?_)
  simp only [evV, evG, if_true]
  cases hv : f t with
  | bool b =>
    simp only [guardP]
    split
    · rename_i h
      simp only [h, if_true, oldP]
      split
      · rfl
      · simp
    · rename_i h
      simp only [h, if_false, Option.some.injEq, Prod.mk.injEq]
      exact ⟨fun ⟨k, v, H', ⟨h1, h2⟩, h3⟩ => by rw [h1, h2]; exact h3, fun h => ⟨0, _, _, ⟨rfl, rfl⟩, h⟩⟩
  | tuple vs =>
    simp only [guardP, Option.some.injEq, Prod.mk.injEq]
    exact ⟨fun ⟨k, v, H', ⟨h1, h2⟩, h3⟩ => by rw [h1, h2]; exact h3, fun h => ⟨0, _, _, ⟨rfl, rfl⟩, h⟩⟩
  | _ => simp [guardP]
theorem rn_op {m : MI} (hm : m.isCall = false) {f : Fr} {H : AH} {K : Value → AH → Prop} : RunP tbl m f H K = (@bindP (evM m f H) ⟨K⟩) := by
  unfold RunP
  simp only [evOp_evM hm]
  cases h : evM m f H with
  | none => simp [bindP]
  | some p =>
    obtain ⟨v, H'⟩ := p
    simp only [bindP, Option.some.injEq, Prod.mk.injEq]
    exact propext ⟨fun ⟨k, v1, H1, ⟨h1, h2⟩, h3⟩ => by rw [h1, h2]; exact h3, fun h => ⟨0, _, _, ⟨rfl, rfl⟩, h⟩⟩
theorem rn_call {g : Operand} {args : List Operand} {f : Fr} {H : AH} {K : Value → AH → Prop} : RunP tbl (.call false g args) f H K = (@callP tbl (callee f g args) H ⟨K⟩) := by
  unfold RunP
  simp only [evOp, Bool.false_eq_true, if_false]
  cases callee f g args with
  | none => simp [callP]
  | some p => rfl
theorem rn_callP {g : Operand} {args : List Operand} {f : Fr} {H : AH} {K : Value → AH → Prop} : RunP tbl (.call true g args) f H K = (@callP tbl (callee f g args) H.enter ⟨fun v H' => H'.low = H.next ∧ K v { H' with low := H.low }⟩) := by
  unfold RunP
  simp only [evOp, if_true]
  cases callee f g args with
  | none => simp [callP]
  | some p =>
    simp only [callP, RunF]
    refine propext ⟨?_, ?_⟩
    · rintro ⟨k, v, H', h, hq⟩
      split at h
      · rename_i v1 H1 h1
        split at h
        · rename_i hl
          simp only [Option.some.injEq, Prod.mk.injEq] at h
          obtain ⟨rfl, rfl⟩ := h
          exact ⟨k, v1, H1, h1, hl, hq⟩
        · simp at h
      · simp at h
    · rintro ⟨k, v, H', h, hl, hq⟩
      exact ⟨k, v, _, by simp only [h, hl, if_true], hq⟩
theorem rn_fn {n : FuncId} {m : MFun} (hm : tbl n = some (.code m)) {vs : List Value} {H : AH} {Q : Value → AH → Prop} : (@RunF tbl n vs H ⟨Q⟩) = (@RunC tbl m.code (entry vs) H.enter ⟨finQ H m.results Q⟩) := by
  refine propext ⟨?_, ?_⟩
  · rintro ⟨k, v, H', h, hq⟩
    cases k with
    | zero => simp [evF] at h
    | succ k =>
      simp only [evF, hm] at h
      have up : ∀ {r}, evC (evF tbl k) (k + 1) m.code (entry vs) H.enter = some r → evC (evF tbl (k + 1)) (k + 1) m.code (entry vs) H.enter = some r := fun h => evC_mono (evF_mono (Nat.le_succ k)) (Nat.le_refl _) _ h
      split at h
      · rename_i f1 H1 h1
        split at h
        · rename_i rv hr
          simp only [Option.some.injEq] at h
          exact ⟨k + 1, _, _, _, up h1, by simp only [finQ, hr, h]; exact hq⟩
        · simp at h
      · rename_i f1 H1 h1
        split at h
        · rename_i rv hr
          simp only [Option.some.injEq] at h
          exact ⟨k + 1, _, _, _, up h1, by simp only [finQ, hr, h]; exact hq⟩
        · simp at h
      · simp at h
  · rintro ⟨k, e, f', H', h, hq⟩
    have h2 := evC_mono (LeC.refl _) (Nat.le_succ k) _ h
    cases e with
    | exit i => exact hq.elim
    | normal =>
      simp only [finQ] at hq
      split at hq
      · rename_i rv hr; exact ⟨k + 1, _, _, by simp only [evF, hm, h2, hr], hq⟩
      · exact hq.elim
    | ret =>
      simp only [finQ] at hq
      split at hq
      · rename_i rv hr; exact ⟨k + 1, _, _, by simp only [evF, hm, h2, hr], hq⟩
      · exact hq.elim
theorem rn_fun {n : FuncId} {c : MCode} {rs : List MRes} (hm : tbl n = some (.code ⟨c, rs⟩)) {vs : List Value} {H : AH} {Q : Value → AH → Prop} : (@RunF tbl n vs H ⟨Q⟩) = (@RunC tbl c (entry vs) H.enter ⟨finQ H rs Q⟩) := rn_fn hm
theorem rn_round {a : MCode} {f : Fr} {H : AH} {Q : Ex → Fr → AH → Prop} : (@RunC tbl (.loop a) f H ⟨Q⟩) = (@RunC tbl a f H ⟨seqQ Q fun f' H' => (@RunC tbl (.loop a) f' H' ⟨Q⟩)⟩) := by
  refine propext ⟨?_, ?_⟩
  · rintro ⟨k, e, f', H', h, hq⟩
    simp only [evC] at h
    cases hk : k with
    | zero => rw [hk] at h; simp [iter] at h
    | succ j =>
      rw [hk] at h
      simp only [iter] at h
      split at h
      · rename_i f1 H1 h1
        refine ⟨j + 1, .normal, f1, H1, h1, j + 1, e, f', H', ?_, hq⟩
        simp only [evC]
        exact iter_mono (fun _ _ _ h => h) j (j + 1) (Nat.le_succ j) h
      · rename_i h1
        refine ⟨j + 1, e, f', H', h, ?_⟩
        cases e with
        | normal => exact absurd h (h1 _ _)
        | _ => exact hq
  · rintro ⟨k, e, f1, H1, h1, hq⟩
    have one : ∀ {r}, evC (evF tbl k) k a f H = some r → evC (evF tbl (k + 1)) (k + 1) a f H = some r := fun h => evC_up (Nat.le_succ k) h
    cases e with
    | normal =>
      obtain ⟨k2, e, f', H', h2, hq⟩ := hq
      refine ⟨max k k2 + 1, e, f', H', ?_, hq⟩
      simp only [evC, iter]
      rw [evC_up (Nat.le_trans (Nat.le_max_left k k2) (Nat.le_succ _)) h1]
      simp only [evC] at h2
      refine iter_mono (fun _ _ _ h => evC_up (Nat.le_trans (Nat.le_max_right k k2) (Nat.le_succ _)) h) k2 _ (Nat.le_max_right k k2) h2
    | exit i => exact ⟨k + 1, .exit i, f1, H1, by simp only [evC, iter, one h1], hq⟩
    | ret => exact ⟨k + 1, .ret, f1, H1, by simp only [evC, iter, one h1], hq⟩
/-- The next round. -/
def NextI (n : Nat) (f : Fr) (H : AH) [I : Kn (Nat → Fr → AH → Prop)] : Prop := ∃ n', n' < n ∧ I.k n' f H
theorem rn_loop {a : MCode} {Q : Ex → Fr → AH → Prop} (I : Nat → Fr → AH → Prop) (h : ∀ n f H, I n f H → (@RunC tbl a f H ⟨seqQ Q fun f' H' => @NextI n f' H' ⟨I⟩⟩)) : ∀ {n f H}, I n f H → (@RunC tbl (.loop a) f H ⟨Q⟩) := by
  intro n
  induction n using Nat.strongRecOn with
  | _ n ih =>
    intro f H hi
    rw [rn_round]
    refine (h n f H hi).mono fun e f' H' hq => ?_
    cases e with
    | normal => obtain ⟨n', h1, h2⟩ := hq; exact ih n' h1 h2
    | _ => exact hq
end
end Go.Proofs.Ytidpkoaomfbljaa.AM
