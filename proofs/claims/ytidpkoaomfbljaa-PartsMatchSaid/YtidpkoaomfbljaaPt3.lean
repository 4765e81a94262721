/- Part 3 of the texts that this claim needs. No conditions. -/
import Derived.Shelf.SlSortCmp.WholeK
import Derived.Test.YtidpkoaomfbljaaProg
import Derived.Lib.Builder
import Derived.Shelf.SlSortCmp.NoneTotal
import Derived.WalkKit
import Derived.JoinedCond
import Derived.Test.YtidpkoaomfbljaaPt2
/- Arguments that are slices of pairs of words. -/
namespace Go.Proofs.Ytidpkoaomfbljaa.AM
open Go Go.RowKit Go.ChangeShapes Go.WideShapes Go.ChangeAt
set_option linter.all false

def cells2 (l : List (Int × Int)) : List Value := l.flatMap fun p => [I64 p.1, I64 p.2]
theorem cells2_at : ∀ (l : List (Int × Int)) (i : Nat) (h : i < l.length), ((cells2 l).drop (i * 2)).take 2 = [.int .i64 l[i].1, .int .i64 l[i].2] := by
  intro l
  induction l with
  | nil => intro i h; simp at h
  | cons p l ih =>
    intro i h
    cases i with
    | zero => rfl
    | succ i =>
      have := ih i (by simpa using h)
      rw [Nat.succ_mul]
      simpa [cells2] using this
theorem cells2_len (l : List (Int × Int)) : (cells2 l).length = l.length * 2 := by
  induction l with
  | nil => rfl
  | cons p l ih =>
    have : cells2 (p :: l) = I64 p.1 :: I64 p.2 :: cells2 l := rfl
    rw [this, List.length_cons, List.length_cons, ih, List.length_cons]
    omega
theorem cells2_p1 (l : List (Int × Int)) : (cells2 l).all p1 = true := by
  induction l with
  | nil => rfl
  | cons p l ih =>
    have : cells2 (p :: l) = I64 p.1 :: I64 p.2 :: cells2 l := rfl
    rw [this, List.all_cons, List.all_cons, ih]
    rfl
section
variable {H : Type} {enc : TypeId × Value → H} {P : Program} {w : World} {base : Nat} {spare : Nat → Bool} {held : Bool}
theorem trod_pair {e q : TypeId} {fuel : Nat} {cs : List Value} {x : DataW H × List MemPlace} (he : P.underlying e = some (.array 2 q)) (hq : P.underlying q = some (.int .i64)) (hce : P.cellsOf e = 2) (hcq : P.cellsOf q = 1) (h : DataW.trod enc P w base spare held fuel e cs = some x) :
    ∃ a b, cs = [.int .i64 a, .int .i64 b] ∧ IntKind.i64.has a ∧ IntKind.i64.has b := by
  cases fuel with
  | zero => simp [DataW.trod] at h
  | succ fuel =>
    unfold DataW.trod at h
    simp only [he] at h
    split at h
    · rename_i hlen
      rw [hce] at hlen
      match cs, hlen with
      | [u, v], _ =>
        rw [hcq, show List.range 2 = [0, 1] from rfl] at h
        simp only [List.mapM_cons, List.mapM_nil, Nat.zero_mul, List.drop_zero, List.take_succ_cons, List.take_zero, Nat.one_mul, List.drop_succ_cons] at h
        cases h1 : DataW.trod enc P w base spare held fuel q [u] with
        | none => rw [h1] at h; simp at h
        | some y =>
          cases h2 : DataW.trod enc P w base spare held fuel q [v] with
          | none => rw [h1, h2] at h; simp at h
          | some z =>
            obtain ⟨a, ha, _, wa⟩ := DataW.trod_int hq h1
            obtain ⟨b, hb, _, wb⟩ := DataW.trod_int hq h2
            simp only [List.cons.injEq, and_true] at ha hb
            subst ha
            subst hb
            refine ⟨a, b, rfl, ?_, ?_⟩
            · simpa [Lit.wf, IntKind.has] using wa
            · simpa [Lit.wf, IntKind.has] using wb
    · simp at h
end
end Go.Proofs.Ytidpkoaomfbljaa.AM
namespace Go.Proofs.Ytidpkoaomfbljaa.AM
open Go
set_option linter.all false
set_option maxRecDepth 10000
/-- Whether a byte is there. -/
def covB (l : List (Int × Int)) (i : Nat) : Bool := l.any fun h => decide (h.1 ≤ (i : Int) ∧ (i : Int) < h.2)
theorem covB_iff {l : List (Int × Int)} {i : Nat} : covB l i = true ↔ ∃ h ∈ l, h.1 ≤ (i : Int) ∧ (i : Int) < h.2 := by
  unfold covB
  rw [List.any_eq_true]
  constructor
  · rintro ⟨h, h1, h2⟩; exact ⟨h, h1, by simpa using h2⟩
  · rintro ⟨h, h1, h2⟩; exact ⟨h, h1, by simpa using h2⟩
theorem covB_perm {l l' : List (Int × Int)} (h : l.Perm l') (i : Nat) : covB l i = covB l' i := by
  rw [Bool.eq_iff_iff, covB_iff, covB_iff]
  exact ⟨fun ⟨x, h1, h2⟩ => ⟨x, h.mem_iff.1 h1, h2⟩, fun ⟨x, h1, h2⟩ => ⟨x, h.mem_iff.2 h1, h2⟩⟩
/-- A row of runs, one byte more. -/
def addB (l : List (Int × Int)) (i : Nat) : List (Int × Int) := match l.getLast? with
  | some p => if p.2 = (i : Int) then l.dropLast ++ [(p.1, (i : Int) + 1)] else l ++ [((i : Int), (i : Int) + 1)]
  | none => [((i : Int), (i : Int) + 1)]
/-- The runs of what is not there, of the first n bytes. -/
def rs (c : Nat → Bool) : Nat → List (Int × Int)
  | 0 => []
  | n + 1 => if c n = true then rs c n else addB (rs c n) n
theorem addB_new {l : List (Int × Int)} {i : Nat} (h : ∀ p, l.getLast? = some p → p.2 < (i : Int)) : addB l i = l ++ [((i : Int), (i : Int) + 1)] := by
  unfold addB
  split
  · rename_i p hp
    have := h p hp
    rw [if_neg (by omega)]
  · rename_i hn
    rw [List.getLast?_eq_none_iff] at hn
    rw [hn]; rfl
theorem addB_more {l : List (Int × Int)} {a : Int} {i : Nat} : addB (l ++ [(a, (i : Int))]) i = l ++ [(a, (i : Int) + 1)] := by
  unfold addB
  rw [List.getLast?_concat]
  simp
theorem addB_last {l : List (Int × Int)} {i : Nat} : ∃ a, (addB l i).getLast? = some (a, (i : Int) + 1) := by
  unfold addB
  split
  · rename_i p hp
    split
    · exact ⟨_, List.getLast?_concat⟩
    · exact ⟨_, List.getLast?_concat⟩
  · exact ⟨_, rfl⟩
theorem rs_last {c : Nat → Bool} : ∀ n p, (rs c n).getLast? = some p → p.2 ≤ (n : Int)
  | 0, p, h => by simp [rs] at h
  | n + 1, p, h => by
    simp only [rs] at h
    split at h
    · have := rs_last n p h
      omega
    · obtain ⟨a, ha⟩ := addB_last (l := rs c n) (i := n)
      rw [ha] at h
      simp only [Option.some.injEq] at h
      subst h
      simp
theorem rs_there {c : Nat → Bool} {a : Nat} : ∀ k, (∀ i, a ≤ i → i < a + k → c i = true) → rs c (a + k) = rs c a
  | 0, _ => rfl
  | k + 1, h => by
    show rs c (a + k + 1) = _
    simp only [rs]
    rw [if_pos (h (a + k) (by omega) (by omega)), rs_there k fun i h1 h2 => h i h1 (by omega)]
theorem rs_succ {c : Nat → Bool} (n : Nat) : rs c (n + 1) = if c n = true then rs c n else addB (rs c n) n := rfl
theorem rs_gap {c : Nat → Bool} {a : Nat} (h0 : a = 0 ∨ c (a - 1) = true) : ∀ k, (∀ i, a ≤ i → i < a + (k + 1) → c i = false) → rs c (a + (k + 1)) = rs c a ++ [((a : Int), ((a + (k + 1) : Nat) : Int))]
  | 0, h => by
    show rs c (a + 1) = _
    rw [rs_succ, h a (by omega) (by omega), if_neg (by simp), addB_new]
    · simp
    · intro p hp
      rcases h0 with h0 | h0
      · subst h0; simp [rs] at hp
      · cases a with
        | zero => simp [rs] at hp
        | succ b =>
          rw [Nat.add_sub_cancel] at h0
          rw [rs_succ, if_pos h0] at hp
          have := rs_last b p hp
          omega
  | k + 1, h => by
    have ih := rs_gap h0 k fun i h1 h2 => h i h1 (by omega)
    show rs c ((a + (k + 1)) + 1) = _
    rw [rs_succ, h (a + (k + 1)) (by omega) (by omega), if_neg (by simp), ih, addB_more]
    congr 3
/-- What the program does at one of them. -/
def stM (s : List (Int × Int) × Int) (h : Int × Int) : List (Int × Int) × Int := (if s.2 < h.1 ∧ h.1 < h.2 then s.1 ++ [(s.2, h.1)] else s.1, if h.1 < h.2 then max s.2 h.2 else s.2)
def missL (size : Int) (l : List (Int × Int)) : List (Int × Int) := if (l.foldl stM ([], 0)).2 < size then (l.foldl stM ([], 0)).1 ++ [((l.foldl stM ([], 0)).2, size)] else (l.foldl stM ([], 0)).1
theorem miss_law {l : List (Int × Int)} {size : Nat} (hv : ∀ h ∈ l, 0 ≤ h.1 ∧ h.1 ≤ h.2 ∧ h.2 ≤ (size : Int)) (hs : l.Pairwise fun a b => a.1 ≤ b.1) : missL size l = rs (covB l) size := by
  have key : ∀ (q p : List (Int × Int)) (A : Nat), l = p ++ q → p.foldl stM ([], 0) = (rs (covB l) A, (A : Int)) → (A = 0 ∨ covB l (A - 1) = true) → A ≤ size → (∀ h ∈ p, h.1 < h.2 → h.2 ≤ (A : Int)) → ∃ B : Nat, l.foldl stM ([], 0) = (rs (covB l) B, (B : Int)) ∧ (B = 0 ∨ covB l (B - 1) = true) ∧ B ≤ size ∧ ∀ h ∈ l, h.1 < h.2 → h.2 ≤ (B : Int) := by
    intro q
    induction q with
    | nil =>
      intro p A he hf h1 h2 h3
      rw [List.append_nil] at he
      subst he
      exact ⟨A, hf, h1, h2, h3⟩
    | cons h q ih =>
      intro p A he hf h1 h2 h3
      have hm : h ∈ l := by rw [he]; simp
      obtain ⟨v1, v2, v3⟩ := hv h hm
      have he2 : l = (p ++ [h]) ++ q := by rw [he]; simp
      have hfold : (p ++ [h]).foldl stM ([], 0) = stM (rs (covB l) A, (A : Int)) h := by rw [List.foldl_append, hf]; rfl
      have hrest : ∀ x ∈ q, h.1 ≤ x.1 := by
        intro x hx
        rw [he, List.pairwise_append] at hs
        have := hs.2.1
        rw [List.pairwise_cons] at this
        exact this.1 x hx
      by_cases hne : h.1 < h.2
      case neg =>
        have hst : stM (rs (covB l) A, (A : Int)) h = (rs (covB l) A, (A : Int)) := by
          unfold stM
          simp only [if_neg hne, if_neg (show ¬ ((A : Int) < h.1 ∧ h.1 < h.2) from fun e => hne e.2)]
        refine ih (p ++ [h]) A he2 (by rw [hfold, hst]) h1 h2 fun x hx hxn => ?_
        rcases List.mem_append.1 hx with hx | hx
        · exact h3 x hx hxn
        · rw [List.mem_singleton] at hx; subst hx; exact absurd hxn hne
      case pos =>
        obtain ⟨a, ha⟩ : ∃ a : Nat, h.1 = (a : Int) := ⟨h.1.toNat, by omega⟩
        obtain ⟨b, hb⟩ : ∃ b : Nat, h.2 = (b : Int) := ⟨h.2.toNat, by omega⟩
        have hcb : ∀ i, a ≤ i → i < b → covB l i = true := fun i hi1 hi2 => covB_iff.2 ⟨h, hm, by omega, by omega⟩
        have hlast : covB l (b - 1) = true := hcb (b - 1) (by omega) (by omega)
        by_cases hg : A < a
        · have hun : ∀ i, A ≤ i → i < a → covB l i = false := by
            intro i hi1 hi2
            cases hc : covB l i with
            | false => rfl
            | true =>
              obtain ⟨x, hx, x1, x2⟩ := covB_iff.1 hc
              rw [he] at hx
              rcases List.mem_append.1 hx with hx | hx
              · have := h3 x hx (by omega); omega
              · rcases List.mem_cons.1 hx with hx | hx
                · subst hx; omega
                · have := hrest x hx; omega
          have e1 := rs_gap h1 (a - A - 1) fun i hi1 hi2 => hun i hi1 (by omega)
          rw [show A + (a - A - 1 + 1) = a by omega] at e1
          have e2 := rs_there (c := covB l) (a := a) (b - a) fun i hi1 hi2 => hcb i hi1 (by omega)
          rw [show a + (b - a) = b by omega] at e2
          have hst : stM (rs (covB l) A, (A : Int)) h = (rs (covB l) b, (b : Int)) := by
            unfold stM
            rw [e2, e1]
            simp only [if_pos hne, if_pos (show (A : Int) < h.1 ∧ h.1 < h.2 from ⟨by omega, hne⟩)]
            rw [ha, hb]
            rw [show max (A : Int) (b : Int) = (b : Int) by omega]
          refine ih (p ++ [h]) b he2 (by rw [hfold, hst]) (.inr hlast) (by omega) fun x hx hxn => ?_
          rcases List.mem_append.1 hx with hx | hx
          · have := h3 x hx hxn; omega
          · rw [List.mem_singleton] at hx; subst hx; omega
        · have hst : stM (rs (covB l) A, (A : Int)) h = (rs (covB l) (max A b), ((max A b : Nat) : Int)) := by
            unfold stM
            simp only [if_pos hne, if_neg (show ¬ ((A : Int) < h.1 ∧ h.1 < h.2) from fun e => hg (by omega))]
            by_cases hAb : A ≤ b
            · have e2 := rs_there (c := covB l) (a := A) (b - A) fun i hi1 hi2 => hcb i (by omega) (by omega)
              rw [show A + (b - A) = b by omega] at e2
              rw [show max A b = b by omega, e2, hb, show max (A : Int) (b : Int) = (b : Int) by omega]
            · rw [show max A b = A by omega, hb, show max (A : Int) (b : Int) = (A : Int) by omega]
          refine ih (p ++ [h]) (max A b) he2 (by rw [hfold, hst]) ?_ (by omega) fun x hx hxn => ?_
          · by_cases hAb : A ≤ b
            · rw [show max A b = b by omega]; exact .inr hlast
            · rw [show max A b = A by omega]; exact h1
          · rcases List.mem_append.1 hx with hx | hx
            · have := h3 x hx hxn; omega
            · rw [List.mem_singleton] at hx; subst hx; omega
  obtain ⟨B, hf, h1, h2, h3⟩ := key l [] 0 rfl rfl (.inl rfl) (by omega) (fun h hh => by simp at hh)
  unfold missL
  rw [hf]
  have hun : ∀ i, B ≤ i → covB l i = false := by
    intro i hi
    cases hc : covB l i with
    | false => rfl
    | true =>
      obtain ⟨x, hx, x1, x2⟩ := covB_iff.1 hc
      have := h3 x hx (by omega)
      omega
  by_cases hB : B < size
  · have e1 := rs_gap h1 (size - B - 1) fun i hi1 hi2 => hun i hi1
    rw [show B + (size - B - 1 + 1) = size by omega] at e1
    rw [if_pos (by show (B : Int) < size; omega), e1]
  · rw [if_neg (by show ¬ (B : Int) < size; omega), show B = size by omega]
end Go.Proofs.Ytidpkoaomfbljaa.AM
namespace Go.Proofs.Ytidpkoaomfbljaa.AM
open Go
set_option linter.all false
set_option maxRecDepth 10000

/-- New blocks alone. -/
structure Junk (H H' : AH) : Prop where
  old : ∀ id, id < H.next → H'.get id = H.get id
  nx : H.next ≤ H'.next
  low : H.next ≤ H'.low
theorem Junk.enter (H : AH) : Junk H H.enter := ⟨fun _ _ => rfl, Nat.le_refl _, Nat.le_refl _⟩
theorem Junk.push {H H' : AH} (h : Junk H H') (b : Blk) : Junk H (H'.push b) := by
  have := h.nx
  have := h.low
  exact ⟨fun id hid => by rw [AH.get_push_lt _ _ (by omega)]; exact h.old id hid, by rw [AH.next_push]; omega, by rw [lw_push]; omega⟩
theorem Junk.set {H H' : AH} (h : Junk H H') {k : Nat} (hk : H.next ≤ k) (x : Option Blk) : Junk H (H'.set k x) := by
  have := h.nx
  have := h.low
  exact ⟨fun id hid => by rw [AH.get_set_ne _ _ (by omega)]; exact h.old id hid, by rw [AH.next_set]; omega, by rw [lw_set]; omega⟩
theorem ps_get {H' : AH} {b c : Blk} : ((H'.push b).set H'.next (some c)).get H'.next = some c := AH.get_set_eq _ _ (by rw [AH.next_push]; omega)
theorem ps_old {H' : AH} {b c : Blk} {k : Nat} (h : k < H'.next) : ((H'.push b).set H'.next (some c)).get k = H'.get k := by
  rw [AH.get_set_ne _ _ (by omega), AH.get_push_lt _ _ h]
theorem ps_next {H' : AH} {b c : Blk} : ((H'.push b).set H'.next (some c)).next = H'.next + 1 := by rw [AH.next_set, AH.next_push]
theorem Sl.keep {H H' : AH} {es n : Nat} {v : Value} {l : List Value} (h : Sl H es v n l) (hk : ∀ id, id < H.next → H'.get id = H.get id) : Sl H' es v n l := by
  rcases h with h | ⟨a, c, h1, h2⟩
  · exact .inl h
  · refine .inr ⟨a, c, h1, ?_⟩
    rw [ldc_eq, hk _ (ldc_lt h2), ← ldc_eq]
    exact h2
theorem Own.keep {base : Nat} {H H' : AH} {es n : Nat} {v : Value} {l : List Value} (h : Own base H es v n l) (k : ∀ id, id < H.next → H'.get id = H.get id) : Own base H' es v n l := by
  rcases h with h | ⟨b, h1, h2, h3, h4, h5⟩
  · exact .inl h
  · exact .inr ⟨b, h1, by rw [k b (AH.get_lt h2)]; exact h2, h3, h4, h5⟩
theorem cells2_app (l r : List (Int × Int)) : cells2 l ++ cells2 r = cells2 (l ++ r) := by simp [cells2]
theorem cells2_one (a b : Int) : [.int .i64 a, .int .i64 b] = cells2 [(a, b)] := rfl
/-- The parts of so many bytes, from a place on. -/
def pcL (size part : Int) : Nat → Int → List (Int × Int)
  | 0, _ => []
  | k + 1, at' => if at' < size then (at', min (at' + part) size) :: pcL size part k (at' + part) else []
def pcA (size part : Int) : List (Int × Int) := pcL size part (size.toNat + 1) 0
variable {tbl : Tbl} [hT : TMono tbl]
/-- What is done when a slice is longer by a pair. -/
theorem Own.pair {base : Nat} {H H' : AH} {s : Value} {l : List (Int × Int)} (ho : Own base H' 2 s l.length (cells2 l)) (hj : Junk H H') (hb : H.next ≤ base) (hbn : base ≤ H'.next) (hl : l.length ≤ 100000000) (a b : Int) :
    ∃ s' H4, appended (H'.push ⟨[.int .i64 a, .int .i64 b], 2, false⟩) 2 16 s 1 [.int .i64 a, .int .i64 b] = some (s', H4) ∧ Own base H4 2 s' (l ++ [(a, b)]).length (cells2 (l ++ [(a, b)])) ∧ Junk H H4 ∧ base ≤ H4.next ∧ (∀ id, id < base → H4.get id = H'.get id) := by
  obtain ⟨s', H4, hap, ho4, hold4, hn4, hl4⟩ := (ho.push ⟨[.int .i64 a, .int .i64 b], 2, false⟩).append (bytes := 16) (k := 1) (new := [.int .i64 a, .int .i64 b]) (by rw [AH.next_push]; omega) (by omega) rfl (by omega)
  rw [AH.next_push] at hn4
  rw [cells2_one, cells2_app] at ho4
  have hl1 : (l ++ [(a, b)]).length = l.length + 1 := by rw [List.length_append]; rfl
  rw [← hl1] at ho4
  refine ⟨s', H4, hap, ho4, ⟨fun id hid => ?_, by have := hj.nx; omega, hl4 H.next hb (by rw [lw_push]; exact hj.low)⟩, by omega, fun id hid => ?_⟩
  · exact (hold4 id (by omega)).trans ((hj.push _).old id hid)
  · exact (hold4 id hid).trans (AH.get_push_lt _ _ (by omega))
theorem v64 (h64 : tbl 64 = some (.code m64)) (size part : Int) (hs : 0 ≤ size ∧ size ≤ 1048576) (hp : 1 ≤ part ∧ part ≤ 1048576) (H : AH) :
    Val tbl 64 [.int .i64 size, .int .i64 part] H (mkS H (pcA size part).length) (mkH H 2 (pcA size part).length (cells2 (pcA size part))) := by
  refine Val.of_all fun Q hQ => ?_
  rw [rn_fun h64, k64]
  simp only [go_sem, Nat.reduceEqDiff, Nat.reduceAdd, Nat.reduceLeDiff, Int.reduceEq, Int.reduceLT, Int.reduceLE, Int.reduceAdd, Int.reduceSub, Int.reduceMul, Int.reduceNeg, Int.reduceToNat, Nat.reduceMul]
  refine rn_loop (fun m f H' => ∃ (at' : Int) (k : Nat) (l : List (Int × Int)) (s : Value), m = (size - at').toNat ∧ 0 ≤ at' ∧ (l.length : Int) ≤ at' ∧ at' ≤ 4194304 ∧ size - at' < k ∧ f 0 = .int .i64 size ∧ f 1 = .int .i64 part ∧ f 5 = s ∧ f 6 = .int .i64 at' ∧ pcA size part = l ++ pcL size part k at' ∧ Own H.next H' 2 s l.length (cells2 l) ∧ Junk H H') ?_ (n := size.toNat)
    ⟨0, size.toNat + 1, [], .slice none 0 0, by omega, by omega, by simp, by omega, by omega, by simp only [go_sem, Nat.reduceEqDiff, Nat.reduceAdd, Nat.reduceLeDiff, Int.reduceEq, Int.reduceLT, Int.reduceLE, Int.reduceAdd, Int.reduceSub, Int.reduceMul, Int.reduceNeg, Int.reduceToNat, Nat.reduceMul], by simp only [go_sem, Nat.reduceEqDiff, Nat.reduceAdd, Nat.reduceLeDiff, Int.reduceEq, Int.reduceLT, Int.reduceLE, Int.reduceAdd, Int.reduceSub, Int.reduceMul, Int.reduceNeg, Int.reduceToNat, Nat.reduceMul], by simp only [go_sem, Nat.reduceEqDiff, Nat.reduceAdd, Nat.reduceLeDiff, Int.reduceEq, Int.reduceLT, Int.reduceLE, Int.reduceAdd, Int.reduceSub, Int.reduceMul, Int.reduceNeg, Int.reduceToNat, Nat.reduceMul] <;> rfl, by simp only [go_sem, Nat.reduceEqDiff, Nat.reduceAdd, Nat.reduceLeDiff, Int.reduceEq, Int.reduceLT, Int.reduceLE, Int.reduceAdd, Int.reduceSub, Int.reduceMul, Int.reduceNeg, Int.reduceToNat, Nat.reduceMul] <;> rfl, rfl, .inl ⟨rfl, rfl, rfl⟩, Junk.enter H⟩
  rintro m f H' ⟨at', k, l, s, rfl, h0, h1, h2, hk, f0, f1, f5, f6, hl, ho, st⟩
  by_cases hlt : at' < size
  · have w1 := w64 (x := at' + part) (by omega) (by omega)
    obtain ⟨k', rfl⟩ : ∃ k', k = k' + 1 := ⟨k - 1, by omega⟩
    have hst : pcL size part (k' + 1) at' = (at', min (at' + part) size) :: pcL size part k' (at' + part) := by simp only [pcL]; rw [if_pos hlt]
    obtain ⟨s', H4, hap, ho4, st4, _, _⟩ := ho.pair st (Nat.le_refl _) st.nx (by omega) at' (min (at' + part) size)
    have hmin : (if size < at' + part then size else at' + part) = min (at' + part) size := by split <;> omega
    simp only [f0, f1, f5, f6, hlt, w1, hmin, hap, List.toList_toArray, go_sem, Nat.reduceEqDiff, Nat.reduceAdd, Nat.reduceLeDiff, Int.reduceEq, Int.reduceLT, Int.reduceLE, Int.reduceAdd, Int.reduceSub, Int.reduceMul, Int.reduceNeg, Int.reduceToNat, Nat.reduceMul]
    refine ⟨(size - (at' + part)).toNat, by omega, at' + part, k', l ++ [(at', min (at' + part) size)], s', rfl, by omega, by rw [List.length_append]; simp; omega, by omega, by omega, by simp only [f0, go_sem, Nat.reduceEqDiff, Nat.reduceAdd, Nat.reduceLeDiff, Int.reduceEq, Int.reduceLT, Int.reduceLE, Int.reduceAdd, Int.reduceSub, Int.reduceMul, Int.reduceNeg, Int.reduceToNat, Nat.reduceMul], by simp only [f1, go_sem, Nat.reduceEqDiff, Nat.reduceAdd, Nat.reduceLeDiff, Int.reduceEq, Int.reduceLT, Int.reduceLE, Int.reduceAdd, Int.reduceSub, Int.reduceMul, Int.reduceNeg, Int.reduceToNat, Nat.reduceMul], by simp only [go_sem, Nat.reduceEqDiff, Nat.reduceAdd, Nat.reduceLeDiff, Int.reduceEq, Int.reduceLT, Int.reduceLE, Int.reduceAdd, Int.reduceSub, Int.reduceMul, Int.reduceNeg, Int.reduceToNat, Nat.reduceMul], by simp only [go_sem, Nat.reduceEqDiff, Nat.reduceAdd, Nat.reduceLeDiff, Int.reduceEq, Int.reduceLT, Int.reduceLE, Int.reduceAdd, Int.reduceSub, Int.reduceMul, Int.reduceNeg, Int.reduceToNat, Nat.reduceMul], by rw [hl, hst]; simp, ho4, st4⟩
  · have hn : pcL size part k at' = [] := by
      cases k with
      | zero => rfl
      | succ k => simp only [pcL]; rw [if_neg hlt]
    rw [hn, List.append_nil] at hl
    rw [hl] at hQ
    simp only [f0, f1, f5, f6, hlt, go_sem, Nat.reduceEqDiff, Nat.reduceAdd, Nat.reduceLeDiff, Int.reduceEq, Int.reduceLT, Int.reduceLE, Int.reduceAdd, Int.reduceSub, Int.reduceMul, Int.reduceNeg, Int.reduceToNat, Nat.reduceMul]
    rw [back_own ho (Nat.le_refl _) st.low (cells2_p1 _)]
    exact hQ
theorem v44 (h44 : tbl 44 = some (.code m44)) (size part : Int) (hs : 0 ≤ size ∧ size ≤ 1048576) (hp : 1 ≤ part ∧ part ≤ 1048576) (H : AH) :
    Val tbl 44 [.int .i64 size, .int .i64 part] H (mkS H (pcA size part).length) (mkH H 2 (pcA size part).length (cells2 (pcA size part))) := by
  refine Val.of_all fun Q hQ => ?_
  rw [rn_fun h44, k44]
  simp only [go_sem, Nat.reduceEqDiff, Nat.reduceAdd, Nat.reduceLeDiff, Int.reduceEq, Int.reduceLT, Int.reduceLE, Int.reduceAdd, Int.reduceSub, Int.reduceMul, Int.reduceNeg, Int.reduceToNat, Nat.reduceMul]
  refine rn_loop (fun m f H' => ∃ (at' : Int) (k : Nat) (l : List (Int × Int)) (s : Value), m = (size - at').toNat ∧ 0 ≤ at' ∧ (l.length : Int) ≤ at' ∧ at' ≤ 4194304 ∧ size - at' < k ∧ f 0 = .int .i64 size ∧ f 1 = .int .i64 part ∧ f 5 = s ∧ f 6 = .int .i64 at' ∧ pcA size part = l ++ pcL size part k at' ∧ Own H.next H' 2 s l.length (cells2 l) ∧ Junk H H') ?_ (n := size.toNat)
    ⟨0, size.toNat + 1, [], .slice none 0 0, by omega, by omega, by simp, by omega, by omega, by simp only [go_sem, Nat.reduceEqDiff, Nat.reduceAdd, Nat.reduceLeDiff, Int.reduceEq, Int.reduceLT, Int.reduceLE, Int.reduceAdd, Int.reduceSub, Int.reduceMul, Int.reduceNeg, Int.reduceToNat, Nat.reduceMul], by simp only [go_sem, Nat.reduceEqDiff, Nat.reduceAdd, Nat.reduceLeDiff, Int.reduceEq, Int.reduceLT, Int.reduceLE, Int.reduceAdd, Int.reduceSub, Int.reduceMul, Int.reduceNeg, Int.reduceToNat, Nat.reduceMul], by simp only [go_sem, Nat.reduceEqDiff, Nat.reduceAdd, Nat.reduceLeDiff, Int.reduceEq, Int.reduceLT, Int.reduceLE, Int.reduceAdd, Int.reduceSub, Int.reduceMul, Int.reduceNeg, Int.reduceToNat, Nat.reduceMul] <;> rfl, by simp only [go_sem, Nat.reduceEqDiff, Nat.reduceAdd, Nat.reduceLeDiff, Int.reduceEq, Int.reduceLT, Int.reduceLE, Int.reduceAdd, Int.reduceSub, Int.reduceMul, Int.reduceNeg, Int.reduceToNat, Nat.reduceMul] <;> rfl, rfl, .inl ⟨rfl, rfl, rfl⟩, Junk.enter H⟩
  rintro m f H' ⟨at', k, l, s, rfl, h0, h1, h2, hk, f0, f1, f5, f6, hl, ho, st⟩
  by_cases hlt : at' < size
  · have w1 := w64 (x := at' + part) (by omega) (by omega)
    obtain ⟨k', rfl⟩ : ∃ k', k = k' + 1 := ⟨k - 1, by omega⟩
    have hst : pcL size part (k' + 1) at' = (at', min (at' + part) size) :: pcL size part k' (at' + part) := by simp only [pcL]; rw [if_pos hlt]
    obtain ⟨s', H4, hap, ho4, st4, _, _⟩ := ho.pair st (Nat.le_refl _) st.nx (by omega) at' (min (at' + part) size)
    have hmin : (if at' + part < size then at' + part else size) = min (at' + part) size := by split <;> omega
    simp only [f0, f1, f5, f6, hlt, w1, hmin, hap, List.toList_toArray, go_sem, Nat.reduceEqDiff, Nat.reduceAdd, Nat.reduceLeDiff, Int.reduceEq, Int.reduceLT, Int.reduceLE, Int.reduceAdd, Int.reduceSub, Int.reduceMul, Int.reduceNeg, Int.reduceToNat, Nat.reduceMul]
    refine ⟨(size - (at' + part)).toNat, by omega, at' + part, k', l ++ [(at', min (at' + part) size)], s', rfl, by omega, by rw [List.length_append]; simp; omega, by omega, by omega, by simp only [f0, go_sem, Nat.reduceEqDiff, Nat.reduceAdd, Nat.reduceLeDiff, Int.reduceEq, Int.reduceLT, Int.reduceLE, Int.reduceAdd, Int.reduceSub, Int.reduceMul, Int.reduceNeg, Int.reduceToNat, Nat.reduceMul], by simp only [f1, go_sem, Nat.reduceEqDiff, Nat.reduceAdd, Nat.reduceLeDiff, Int.reduceEq, Int.reduceLT, Int.reduceLE, Int.reduceAdd, Int.reduceSub, Int.reduceMul, Int.reduceNeg, Int.reduceToNat, Nat.reduceMul], by simp only [go_sem, Nat.reduceEqDiff, Nat.reduceAdd, Nat.reduceLeDiff, Int.reduceEq, Int.reduceLT, Int.reduceLE, Int.reduceAdd, Int.reduceSub, Int.reduceMul, Int.reduceNeg, Int.reduceToNat, Nat.reduceMul], by simp only [go_sem, Nat.reduceEqDiff, Nat.reduceAdd, Nat.reduceLeDiff, Int.reduceEq, Int.reduceLT, Int.reduceLE, Int.reduceAdd, Int.reduceSub, Int.reduceMul, Int.reduceNeg, Int.reduceToNat, Nat.reduceMul], by rw [hl, hst]; simp, ho4, st4⟩
  · have hn : pcL size part k at' = [] := by
      cases k with
      | zero => rfl
      | succ k => simp only [pcL]; rw [if_neg hlt]
    rw [hn, List.append_nil] at hl
    rw [hl] at hQ
    simp only [f0, f1, f5, f6, hlt, go_sem, Nat.reduceEqDiff, Nat.reduceAdd, Nat.reduceLeDiff, Int.reduceEq, Int.reduceLT, Int.reduceLE, Int.reduceAdd, Int.reduceSub, Int.reduceMul, Int.reduceNeg, Int.reduceToNat, Nat.reduceMul]
    rw [back_own ho (Nat.le_refl _) st.low (cells2_p1 _)]
    exact hQ
theorem eqAt_pr (p q : Int × Int) : eqAt [.int .i64 p.1, .int .i64 p.2] [.int .i64 q.1, .int .i64 q.2] [(0, .int), (1, .int)] = some (decide (p = q)) := by
  obtain ⟨a, b⟩ := p
  obtain ⟨x, y⟩ := q
  by_cases h1 : a = x <;> by_cases h2 : b = y <;> simp [eqAt, cellEq, h1, h2, Prod.ext_iff]
theorem aggV_pr (neq : Bool) (p q : Int × Int) : aggV neq [(0, .int), (1, .int)] (.agg #[.int .i64 p.1, .int .i64 p.2]) (.agg #[.int .i64 q.1, .int .i64 q.2]) = some (.bool (if neq = true then !decide (p = q) else decide (p = q))) := by
  have := eqAt_pr p q
  simp only [aggV, List.toList_toArray, this]
theorem v43 (h43 : tbl 43 = some (.code m43)) (l : List (Int × Int)) (hl : l.length ≤ 100000000) {H : AH} {a b : Value} (ha : Sl H 2 a l.length (cells2 l)) (hb : Sl H 2 b l.length (cells2 l)) : Val tbl 43 [a, b] H (.bool true) H := by
  refine Val.of_all fun Q hQ => ?_
  obtain ⟨ad, c, rfl⟩ := ha.shape
  obtain ⟨bd, d, rfl⟩ := hb.shape
  rw [rn_fun h43, k43]
  simp only [go_sem, Nat.reduceEqDiff, Nat.reduceAdd, Nat.reduceLeDiff, Int.reduceEq, Int.reduceLT, Int.reduceLE, Int.reduceAdd, Int.reduceSub, Int.reduceMul, Int.reduceNeg, Int.reduceToNat, Nat.reduceMul]
  refine rn_loop (fun mm f H' => ∃ j : Nat, j ≤ l.length ∧ mm = l.length - j ∧ f 0 = .slice ad l.length c ∧ f 1 = .slice bd l.length d ∧ f 12 = .int .i64 l.length ∧ f 13 = .int .i64 j ∧ H' = H.enter) ?_ (n := l.length)
    ⟨0, by omega, rfl, by simp only [go_sem, Nat.reduceEqDiff, Nat.reduceAdd, Nat.reduceLeDiff, Int.reduceEq, Int.reduceLT, Int.reduceLE, Int.reduceAdd, Int.reduceSub, Int.reduceMul, Int.reduceNeg, Int.reduceToNat, Nat.reduceMul], by simp only [go_sem, Nat.reduceEqDiff, Nat.reduceAdd, Nat.reduceLeDiff, Int.reduceEq, Int.reduceLT, Int.reduceLE, Int.reduceAdd, Int.reduceSub, Int.reduceMul, Int.reduceNeg, Int.reduceToNat, Nat.reduceMul], by simp only [go_sem, Nat.reduceEqDiff, Nat.reduceAdd, Nat.reduceLeDiff, Int.reduceEq, Int.reduceLT, Int.reduceLE, Int.reduceAdd, Int.reduceSub, Int.reduceMul, Int.reduceNeg, Int.reduceToNat, Nat.reduceMul], by simp only [go_sem, Nat.reduceEqDiff, Nat.reduceAdd, Nat.reduceLeDiff, Int.reduceEq, Int.reduceLT, Int.reduceLE, Int.reduceAdd, Int.reduceSub, Int.reduceMul, Int.reduceNeg, Int.reduceToNat, Nat.reduceMul] <;> rfl, rfl⟩
  rintro mm f H' ⟨j, hj, rfl, f0, f1, f12, f13, rfl⟩
  by_cases hlt : (j : Int) < l.length
  · have hj2 : j < l.length := by omega
    have wj := w64 (x := (j : Int) + 1) (by omega) (by omega)
    simp only [f0, f1, f12, f13, hlt, go_sem, Nat.reduceEqDiff, Nat.reduceAdd, Nat.reduceLeDiff, Int.reduceEq, Int.reduceLT, Int.reduceLE, Int.reduceAdd, Int.reduceSub, Int.reduceMul, Int.reduceNeg, Int.reduceToNat, Nat.reduceMul]
    refine ha.at_ hj2 fun q hq1 hq2 => ?_
    rw [cells2_at _ _ hj2] at hq2
    simp only [f0, f1, f12, f13, hq2, go_sem, Nat.reduceEqDiff, Nat.reduceAdd, Nat.reduceLeDiff, Int.reduceEq, Int.reduceLT, Int.reduceLE, Int.reduceAdd, Int.reduceSub, Int.reduceMul, Int.reduceNeg, Int.reduceToNat, Nat.reduceMul]
    refine hb.at_ hj2 fun q' hq3 hq4 => ?_
    rw [cells2_at _ _ hj2] at hq4
    simp only [f0, f1, f12, f13, hq4, wj, aggV_pr, go_sem, Nat.reduceEqDiff, Nat.reduceAdd, Nat.reduceLeDiff, Int.reduceEq, Int.reduceLT, Int.reduceLE, Int.reduceAdd, Int.reduceSub, Int.reduceMul, Int.reduceNeg, Int.reduceToNat, Nat.reduceMul]
    exact ⟨l.length - (j + 1), by omega, j + 1, by omega, rfl, by simp only [f0, go_sem, Nat.reduceEqDiff, Nat.reduceAdd, Nat.reduceLeDiff, Int.reduceEq, Int.reduceLT, Int.reduceLE, Int.reduceAdd, Int.reduceSub, Int.reduceMul, Int.reduceNeg, Int.reduceToNat, Nat.reduceMul], by simp only [f1, go_sem, Nat.reduceEqDiff, Nat.reduceAdd, Nat.reduceLeDiff, Int.reduceEq, Int.reduceLT, Int.reduceLE, Int.reduceAdd, Int.reduceSub, Int.reduceMul, Int.reduceNeg, Int.reduceToNat, Nat.reduceMul], by simp only [f12, go_sem, Nat.reduceEqDiff, Nat.reduceAdd, Nat.reduceLeDiff, Int.reduceEq, Int.reduceLT, Int.reduceLE, Int.reduceAdd, Int.reduceSub, Int.reduceMul, Int.reduceNeg, Int.reduceToNat, Nat.reduceMul], by simp only [go_sem, Nat.reduceEqDiff, Nat.reduceAdd, Nat.reduceLeDiff, Int.reduceEq, Int.reduceLT, Int.reduceLE, Int.reduceAdd, Int.reduceSub, Int.reduceMul, Int.reduceNeg, Int.reduceToNat, Nat.reduceMul] <;> rfl, rfl⟩
  · simp only [f0, f1, f12, f13, hlt, go_sem, Nat.reduceEqDiff, Nat.reduceAdd, Nat.reduceLeDiff, Int.reduceEq, Int.reduceLT, Int.reduceLE, Int.reduceAdd, Int.reduceSub, Int.reduceMul, Int.reduceNeg, Int.reduceToNat, Nat.reduceMul]
    exact hQ
/-- What Parts says. -/
theorem v42_bad (h42 : tbl 42 = some (.code m42)) (size part : Int) (hb : size < 0 ∨ 1048576 < size ∨ part < 1 ∨ 1048576 < part) (H : AH) : Val tbl 42 [.int .i64 size, .int .i64 part] H (.tuple #[.slice none 0 0, .int .i64 7]) H := by
  refine Val.of_all fun Q hQ => ?_
  rw [rn_fun h42, k42]
  by_cases a1 : size < 0
  · simp only [a1, go_sem, Nat.reduceEqDiff, Nat.reduceAdd, Nat.reduceLeDiff, Int.reduceEq, Int.reduceLT, Int.reduceLE, Int.reduceAdd, Int.reduceSub, Int.reduceMul, Int.reduceNeg, Int.reduceToNat, Nat.reduceMul]; exact hQ
  by_cases a2 : 1048576 < size
  · simp only [a1, a2, go_sem, Nat.reduceEqDiff, Nat.reduceAdd, Nat.reduceLeDiff, Int.reduceEq, Int.reduceLT, Int.reduceLE, Int.reduceAdd, Int.reduceSub, Int.reduceMul, Int.reduceNeg, Int.reduceToNat, Nat.reduceMul]; exact hQ
  by_cases a3 : part < 1
  · simp only [a1, a2, a3, go_sem, Nat.reduceEqDiff, Nat.reduceAdd, Nat.reduceLeDiff, Int.reduceEq, Int.reduceLT, Int.reduceLE, Int.reduceAdd, Int.reduceSub, Int.reduceMul, Int.reduceNeg, Int.reduceToNat, Nat.reduceMul]; exact hQ
  have a4 : 1048576 < part := by omega
  simp only [a1, a2, a3, a4, go_sem, Nat.reduceEqDiff, Nat.reduceAdd, Nat.reduceLeDiff, Int.reduceEq, Int.reduceLT, Int.reduceLE, Int.reduceAdd, Int.reduceSub, Int.reduceMul, Int.reduceNeg, Int.reduceToNat, Nat.reduceMul]; exact hQ
theorem v42_large (h42 : tbl 42 = some (.code m42)) (size part : Int) (hs : 0 ≤ size ∧ size ≤ 1048576) (hp : 1 ≤ part ∧ part ≤ 1048576) (hb : 1000 < (size + part - 1).tdiv part) (H : AH) : Val tbl 42 [.int .i64 size, .int .i64 part] H (.tuple #[.slice none 0 0, .int .i64 8]) H := by
  refine Val.of_all fun Q hQ => ?_
  rw [rn_fun h42, k42]
  have a1 : ¬ size < 0 := by omega
  have a2 : ¬ 1048576 < size := by omega
  have a3 : ¬ part < 1 := by omega
  have a4 : ¬ 1048576 < part := by omega
  have a5 : ¬ part = 0 := by omega
  have w1 := w64 (x := size + part) (by omega) (by omega)
  have w2 := w64 (x := size + part - 1) (by omega) (by omega)
  have hd : 0 ≤ (size + part - 1).tdiv part ∧ (size + part - 1).tdiv part ≤ size + part - 1 := by
    rw [Int.tdiv_eq_ediv_of_nonneg (by omega)]
    exact ⟨Int.ediv_nonneg (by omega) (by omega), Int.ediv_le_self _ (by omega)⟩
  have w3 := w64 (x := (size + part - 1).tdiv part) (by omega) (by omega)
  simp only [a1, a2, a3, a4, a5, w1, w2, w3, hb, go_sem, Nat.reduceEqDiff, Nat.reduceAdd, Nat.reduceLeDiff, Int.reduceEq, Int.reduceLT, Int.reduceLE, Int.reduceAdd, Int.reduceSub, Int.reduceMul, Int.reduceNeg, Int.reduceToNat, Nat.reduceMul]; exact hQ
theorem v42 (h42 : tbl 42 = some (.code m42)) (h64 : tbl 64 = some (.code m64)) (size part : Int) (hs : 0 ≤ size ∧ size ≤ 1048576) (hp : 1 ≤ part ∧ part ≤ 1048576) (hb : ¬ 1000 < (size + part - 1).tdiv part) (H : AH) :
    Val tbl 42 [.int .i64 size, .int .i64 part] H (.tuple #[mkS H (pcA size part).length, .int .i64 0]) (mkH H 2 (pcA size part).length (cells2 (pcA size part))) := by
  refine Val.of_all fun Q hQ => ?_
  rw [rn_fun h42, k42]
  have a1 : ¬ size < 0 := by omega
  have a2 : ¬ 1048576 < size := by omega
  have a3 : ¬ part < 1 := by omega
  have a4 : ¬ 1048576 < part := by omega
  have a5 : ¬ part = 0 := by omega
  have w1 := w64 (x := size + part) (by omega) (by omega)
  have w2 := w64 (x := size + part - 1) (by omega) (by omega)
  have hd : 0 ≤ (size + part - 1).tdiv part ∧ (size + part - 1).tdiv part ≤ size + part - 1 := by
    rw [Int.tdiv_eq_ediv_of_nonneg (by omega)]
    exact ⟨Int.ediv_nonneg (by omega) (by omega), Int.ediv_le_self _ (by omega)⟩
  have w3 := w64 (x := (size + part - 1).tdiv part) (by omega) (by omega)
  have hv := v64 h64 size part hs hp H.enter
  simp only [a1, a2, a3, a4, a5, w1, w2, w3, hb, ↓hv.run, go_sem, Nat.reduceEqDiff, Nat.reduceAdd, Nat.reduceLeDiff, Int.reduceEq, Int.reduceLT, Int.reduceLE, Int.reduceAdd, Int.reduceSub, Int.reduceMul, Int.reduceNeg, Int.reduceToNat, Nat.reduceMul]
  have ho : Own H.next (mkH H.enter 2 (pcA size part).length (cells2 (pcA size part))) 2 (mkS H.enter (pcA size part).length) (pcA size part).length (cells2 (pcA size part)) := own_mk (H := H.enter) (cells2_len _)
  rw [back_own2 ho (Nat.le_refl _) (by rw [mkH_low]; exact Nat.le_refl _) (cells2_p1 _) rfl]
  exact hQ
end Go.Proofs.Ytidpkoaomfbljaa.AM
namespace Go.Proofs.Ytidpkoaomfbljaa.AM
open Go
set_option linter.all false
set_option maxRecDepth 10000

theorem idxSP_slc {a : Addr} {n c es : Nat} {i : Int} {K : Value → Prop} : (@idxSP (.slice (some a) n c) es i ⟨K⟩) = (@andP (0 ≤ i ∧ i < n) ⟨K (.pointer (some (addA a (i.toNat * es))))⟩) := rfl
theorem splice_one {l : List Value} {i : Nat} {v : Value} : splice l i [v] = l.set i v := rfl
/-- Whether a byte is there, by the first k. -/
def covP (l : List (Int × Int)) (i k : Nat) : Bool := covB (l.take k) i
theorem covP_succ {l : List (Int × Int)} {i k : Nat} (h : k < l.length) : covP l i (k + 1) = (covP l i k || decide (l[k].1 ≤ (i : Int) ∧ (i : Int) < l[k].2)) := by
  unfold covP covB
  rw [List.take_succ, List.any_append, List.getElem?_eq_getElem h]
  simp
theorem covP_all {l : List (Int × Int)} {i : Nat} : covP l i l.length = covB l i := by rw [covP, List.take_length]
theorem cells2_last {l : List (Int × Int)} {a b : Int} : List.take 1 (List.drop (l.length * 2 + 1) (cells2 (l ++ [(a, b)]))) = [.int .i64 b] := by
  rw [← cells2_app, List.drop_append, cells2_len, List.drop_of_length_le (by rw [cells2_len]; omega), List.nil_append, show l.length * 2 + 1 - l.length * 2 = 1 by omega]
  rfl
theorem cells2_set {l : List (Int × Int)} {a b c : Int} : (cells2 (l ++ [(a, b)])).set (l.length * 2 + 1) (.int .i64 c) = cells2 (l ++ [(a, c)]) := by
  rw [← cells2_app, List.set_append_right _ _ (by rw [cells2_len]; omega), cells2_len, show l.length * 2 + 1 - l.length * 2 = 1 by omega, ← cells2_app]
  rfl
theorem rs_len {c : Nat → Bool} : ∀ n, (rs c n).length ≤ n
  | 0 => Nat.le_refl _
  | n + 1 => by
    have := rs_len (c := c) n
    rw [rs_succ]
    split
    · omega
    · unfold addB
      split
      · rename_i p hp
        have hne : (rs c n) ≠ [] := fun e => by rw [e] at hp; simp at hp
        have hpos := List.length_pos_iff.2 hne
        split
        · rw [List.length_append, List.length_dropLast]; simp; omega
        · rw [List.length_append]; simp; omega
      · simp
variable {tbl : Tbl} [hT : TMono tbl]
theorem v46 (h46 : tbl 46 = some (.code m46)) (n : Nat) (hn : n ≤ 3000) (l : List (Int × Int)) (hl : l.length ≤ 2000) {H : AH} {v : Value} (hs : Sl H 2 v l.length (cells2 l)) :
    Val tbl 46 [.int .i64 n, v] H (mkS H (rs (covB l) n).length) (mkH H 2 (rs (covB l) n).length (cells2 (rs (covB l) n))) := by
  refine Val.of_all fun Q hQ => ?_
  obtain ⟨ad, cp, rfl⟩ := hs.shape
  rw [rn_fun h46, k46]
  simp only [go_sem, Nat.reduceEqDiff, Nat.reduceAdd, Nat.reduceLeDiff, Int.reduceEq, Int.reduceLT, Int.reduceLE, Int.reduceAdd, Int.reduceSub, Int.reduceMul, Int.reduceNeg, Int.reduceToNat, Nat.reduceMul]
  refine rn_loop (fun m f H' => ∃ (i : Nat) (s : Value), i ≤ n ∧ m = n - i ∧ f 1 = .slice ad l.length cp ∧ f 5 = s ∧ f 11 = .int .i64 n ∧ f 12 = .int .i64 i ∧ Own H.next H' 2 s (rs (covB l) i).length (cells2 (rs (covB l) i)) ∧ Junk H H') ?_ (n := n)
    ⟨0, .slice none 0 0, by omega, rfl, by simp only [go_sem, Nat.reduceEqDiff, Nat.reduceAdd, Nat.reduceLeDiff, Int.reduceEq, Int.reduceLT, Int.reduceLE, Int.reduceAdd, Int.reduceSub, Int.reduceMul, Int.reduceNeg, Int.reduceToNat, Nat.reduceMul], by simp only [go_sem, Nat.reduceEqDiff, Nat.reduceAdd, Nat.reduceLeDiff, Int.reduceEq, Int.reduceLT, Int.reduceLE, Int.reduceAdd, Int.reduceSub, Int.reduceMul, Int.reduceNeg, Int.reduceToNat, Nat.reduceMul] <;> rfl, by simp only [go_sem, Nat.reduceEqDiff, Nat.reduceAdd, Nat.reduceLeDiff, Int.reduceEq, Int.reduceLT, Int.reduceLE, Int.reduceAdd, Int.reduceSub, Int.reduceMul, Int.reduceNeg, Int.reduceToNat, Nat.reduceMul], by simp only [go_sem, Nat.reduceEqDiff, Nat.reduceAdd, Nat.reduceLeDiff, Int.reduceEq, Int.reduceLT, Int.reduceLE, Int.reduceAdd, Int.reduceSub, Int.reduceMul, Int.reduceNeg, Int.reduceToNat, Nat.reduceMul] <;> rfl, .inl ⟨rfl, rfl, rfl⟩, Junk.enter H⟩
  rintro m f H' ⟨i, s, hi, rfl, f1, f5, f11, f12, ho, st⟩
  by_cases hlt : (i : Int) < n
  · have wi := w64 (x := (i : Int) + 1) (by omega) (by omega)
    simp only [f1, f5, f11, f12, hlt, go_sem, Nat.reduceEqDiff, Nat.reduceAdd, Nat.reduceLeDiff, Int.reduceEq, Int.reduceLT, Int.reduceLE, Int.reduceAdd, Int.reduceSub, Int.reduceMul, Int.reduceNeg, Int.reduceToNat, Nat.reduceMul]
    refine rn_loop (fun m f H2 => ∃ (k : Nat), k ≤ l.length ∧ m = l.length - k ∧ f 1 = .slice ad l.length cp ∧ f 5 = s ∧ f 11 = .int .i64 n ∧ f 12 = .int .i64 i ∧ f 6 = .int .i64 i ∧ f 7 = .bool (covP l i k) ∧ f 15 = .slice ad l.length cp ∧ f 16 = .int .i64 l.length ∧ f 17 = .int .i64 k ∧ Own H.next H2 2 s (rs (covB l) i).length (cells2 (rs (covB l) i)) ∧ Junk H H2) ?_ (n := l.length)
      ⟨0, by omega, rfl, by simp only [f1, go_sem, Nat.reduceEqDiff, Nat.reduceAdd, Nat.reduceLeDiff, Int.reduceEq, Int.reduceLT, Int.reduceLE, Int.reduceAdd, Int.reduceSub, Int.reduceMul, Int.reduceNeg, Int.reduceToNat, Nat.reduceMul], by simp only [f5, go_sem, Nat.reduceEqDiff, Nat.reduceAdd, Nat.reduceLeDiff, Int.reduceEq, Int.reduceLT, Int.reduceLE, Int.reduceAdd, Int.reduceSub, Int.reduceMul, Int.reduceNeg, Int.reduceToNat, Nat.reduceMul], by simp only [f11, go_sem, Nat.reduceEqDiff, Nat.reduceAdd, Nat.reduceLeDiff, Int.reduceEq, Int.reduceLT, Int.reduceLE, Int.reduceAdd, Int.reduceSub, Int.reduceMul, Int.reduceNeg, Int.reduceToNat, Nat.reduceMul], by simp only [f12, go_sem, Nat.reduceEqDiff, Nat.reduceAdd, Nat.reduceLeDiff, Int.reduceEq, Int.reduceLT, Int.reduceLE, Int.reduceAdd, Int.reduceSub, Int.reduceMul, Int.reduceNeg, Int.reduceToNat, Nat.reduceMul], by simp only [go_sem, Nat.reduceEqDiff, Nat.reduceAdd, Nat.reduceLeDiff, Int.reduceEq, Int.reduceLT, Int.reduceLE, Int.reduceAdd, Int.reduceSub, Int.reduceMul, Int.reduceNeg, Int.reduceToNat, Nat.reduceMul], by simp only [go_sem, Nat.reduceEqDiff, Nat.reduceAdd, Nat.reduceLeDiff, Int.reduceEq, Int.reduceLT, Int.reduceLE, Int.reduceAdd, Int.reduceSub, Int.reduceMul, Int.reduceNeg, Int.reduceToNat, Nat.reduceMul] <;> rfl, by simp only [go_sem, Nat.reduceEqDiff, Nat.reduceAdd, Nat.reduceLeDiff, Int.reduceEq, Int.reduceLT, Int.reduceLE, Int.reduceAdd, Int.reduceSub, Int.reduceMul, Int.reduceNeg, Int.reduceToNat, Nat.reduceMul], by simp only [go_sem, Nat.reduceEqDiff, Nat.reduceAdd, Nat.reduceLeDiff, Int.reduceEq, Int.reduceLT, Int.reduceLE, Int.reduceAdd, Int.reduceSub, Int.reduceMul, Int.reduceNeg, Int.reduceToNat, Nat.reduceMul], by simp only [go_sem, Nat.reduceEqDiff, Nat.reduceAdd, Nat.reduceLeDiff, Int.reduceEq, Int.reduceLT, Int.reduceLE, Int.reduceAdd, Int.reduceSub, Int.reduceMul, Int.reduceNeg, Int.reduceToNat, Nat.reduceMul] <;> rfl, ho, st⟩
    clear f1 f5 f11 f12 ho st
    rintro m f H2 ⟨k, hk, rfl, f1, f5, f11, f12, f6, f7, f15, f16, f17, ho, st⟩
    by_cases hltk : (k : Int) < l.length
    · have hk2 : k < l.length := by omega
      have wk := w64 (x := (k : Int) + 1) (by omega) (by omega)
      have hp2 : H2.next < H2.next + 1 := by omega
      have hsucc := covP_succ (i := i) hk2
      simp only [f1, f5, f11, f12, f6, f7, f15, f16, f17, hltk, go_sem, Nat.reduceEqDiff, Nat.reduceAdd, Nat.reduceLeDiff, Int.reduceEq, Int.reduceLT, Int.reduceLE, Int.reduceAdd, Int.reduceSub, Int.reduceMul, Int.reduceNeg, Int.reduceToNat, Nat.reduceMul]
      refine (hs.keep st.old).at_ hk2 fun q hq1 hq2 => ?_
      rw [cells2_at _ _ hk2] at hq2
      simp only [f1, f5, f11, f12, f6, f7, f15, f16, f17, hq2, hp2, stc_eq, stB_some, go_sem, Nat.reduceEqDiff, Nat.reduceAdd, Nat.reduceLeDiff, Int.reduceEq, Int.reduceLT, Int.reduceLE, Int.reduceAdd, Int.reduceSub, Int.reduceMul, Int.reduceNeg, Int.reduceToNat, Nat.reduceMul]
      have st2 := (st.push ⟨[.int .i64 0, .int .i64 0], 1, false⟩).set st.nx (some ⟨[.int .i64 l[k].1, .int .i64 l[k].2], 1, false⟩)
      have g9 := ps_get (H' := H2) (b := ⟨[.int .i64 0, .int .i64 0], 1, false⟩) (c := ⟨[.int .i64 l[k].1, .int .i64 l[k].2], 1, false⟩)
      have ho2 : Own H.next ((H2.push ⟨[.int .i64 0, .int .i64 0], 1, false⟩).set H2.next (some ⟨[.int .i64 l[k].1, .int .i64 l[k].2], 1, false⟩)) 2 s (rs (covB l) i).length (cells2 (rs (covB l) i)) := ho.keep fun id hid => ps_old hid
      generalize (H2.push ⟨[.int .i64 0, .int .i64 0], 1, false⟩).set H2.next (some ⟨[.int .i64 l[k].1, .int .i64 l[k].2], 1, false⟩) = H3 at st2 g9 ho2 ⊢
      by_cases b1 : l[k].1 ≤ (i : Int)
      · by_cases b2 : (i : Int) < l[k].2
        · have hc : covP l i (k + 1) = true := by rw [hsucc, decide_eq_true ⟨b1, b2⟩, Bool.or_true]
          simp only [f1, f5, f11, f12, f6, f7, f15, f16, f17, g9, b1, b2, wk, go_sem, Nat.reduceEqDiff, Nat.reduceAdd, Nat.reduceLeDiff, Int.reduceEq, Int.reduceLT, Int.reduceLE, Int.reduceAdd, Int.reduceSub, Int.reduceMul, Int.reduceNeg, Int.reduceToNat, Nat.reduceMul]
          exact ⟨l.length - (k + 1), by omega, k + 1, by omega, rfl, by simp only [f1, go_sem, Nat.reduceEqDiff, Nat.reduceAdd, Nat.reduceLeDiff, Int.reduceEq, Int.reduceLT, Int.reduceLE, Int.reduceAdd, Int.reduceSub, Int.reduceMul, Int.reduceNeg, Int.reduceToNat, Nat.reduceMul], by simp only [f5, go_sem, Nat.reduceEqDiff, Nat.reduceAdd, Nat.reduceLeDiff, Int.reduceEq, Int.reduceLT, Int.reduceLE, Int.reduceAdd, Int.reduceSub, Int.reduceMul, Int.reduceNeg, Int.reduceToNat, Nat.reduceMul], by simp only [f11, go_sem, Nat.reduceEqDiff, Nat.reduceAdd, Nat.reduceLeDiff, Int.reduceEq, Int.reduceLT, Int.reduceLE, Int.reduceAdd, Int.reduceSub, Int.reduceMul, Int.reduceNeg, Int.reduceToNat, Nat.reduceMul], by simp only [f12, go_sem, Nat.reduceEqDiff, Nat.reduceAdd, Nat.reduceLeDiff, Int.reduceEq, Int.reduceLT, Int.reduceLE, Int.reduceAdd, Int.reduceSub, Int.reduceMul, Int.reduceNeg, Int.reduceToNat, Nat.reduceMul], by simp only [f6, go_sem, Nat.reduceEqDiff, Nat.reduceAdd, Nat.reduceLeDiff, Int.reduceEq, Int.reduceLT, Int.reduceLE, Int.reduceAdd, Int.reduceSub, Int.reduceMul, Int.reduceNeg, Int.reduceToNat, Nat.reduceMul], by simp only [go_sem, Nat.reduceEqDiff, Nat.reduceAdd, Nat.reduceLeDiff, Int.reduceEq, Int.reduceLT, Int.reduceLE, Int.reduceAdd, Int.reduceSub, Int.reduceMul, Int.reduceNeg, Int.reduceToNat, Nat.reduceMul]; rw [hc], by simp only [f15, go_sem, Nat.reduceEqDiff, Nat.reduceAdd, Nat.reduceLeDiff, Int.reduceEq, Int.reduceLT, Int.reduceLE, Int.reduceAdd, Int.reduceSub, Int.reduceMul, Int.reduceNeg, Int.reduceToNat, Nat.reduceMul], by simp only [f16, go_sem, Nat.reduceEqDiff, Nat.reduceAdd, Nat.reduceLeDiff, Int.reduceEq, Int.reduceLT, Int.reduceLE, Int.reduceAdd, Int.reduceSub, Int.reduceMul, Int.reduceNeg, Int.reduceToNat, Nat.reduceMul], by simp only [go_sem, Nat.reduceEqDiff, Nat.reduceAdd, Nat.reduceLeDiff, Int.reduceEq, Int.reduceLT, Int.reduceLE, Int.reduceAdd, Int.reduceSub, Int.reduceMul, Int.reduceNeg, Int.reduceToNat, Nat.reduceMul] <;> rfl, ho2, st2⟩
        · have hc : covP l i (k + 1) = covP l i k := by rw [hsucc, decide_eq_false (fun h => b2 h.2), Bool.or_false]
          simp only [f1, f5, f11, f12, f6, f7, f15, f16, f17, g9, b1, b2, wk, go_sem, Nat.reduceEqDiff, Nat.reduceAdd, Nat.reduceLeDiff, Int.reduceEq, Int.reduceLT, Int.reduceLE, Int.reduceAdd, Int.reduceSub, Int.reduceMul, Int.reduceNeg, Int.reduceToNat, Nat.reduceMul]
          exact ⟨l.length - (k + 1), by omega, k + 1, by omega, rfl, by simp only [f1, go_sem, Nat.reduceEqDiff, Nat.reduceAdd, Nat.reduceLeDiff, Int.reduceEq, Int.reduceLT, Int.reduceLE, Int.reduceAdd, Int.reduceSub, Int.reduceMul, Int.reduceNeg, Int.reduceToNat, Nat.reduceMul], by simp only [f5, go_sem, Nat.reduceEqDiff, Nat.reduceAdd, Nat.reduceLeDiff, Int.reduceEq, Int.reduceLT, Int.reduceLE, Int.reduceAdd, Int.reduceSub, Int.reduceMul, Int.reduceNeg, Int.reduceToNat, Nat.reduceMul], by simp only [f11, go_sem, Nat.reduceEqDiff, Nat.reduceAdd, Nat.reduceLeDiff, Int.reduceEq, Int.reduceLT, Int.reduceLE, Int.reduceAdd, Int.reduceSub, Int.reduceMul, Int.reduceNeg, Int.reduceToNat, Nat.reduceMul], by simp only [f12, go_sem, Nat.reduceEqDiff, Nat.reduceAdd, Nat.reduceLeDiff, Int.reduceEq, Int.reduceLT, Int.reduceLE, Int.reduceAdd, Int.reduceSub, Int.reduceMul, Int.reduceNeg, Int.reduceToNat, Nat.reduceMul], by simp only [f6, go_sem, Nat.reduceEqDiff, Nat.reduceAdd, Nat.reduceLeDiff, Int.reduceEq, Int.reduceLT, Int.reduceLE, Int.reduceAdd, Int.reduceSub, Int.reduceMul, Int.reduceNeg, Int.reduceToNat, Nat.reduceMul], by simp only [f7, go_sem, Nat.reduceEqDiff, Nat.reduceAdd, Nat.reduceLeDiff, Int.reduceEq, Int.reduceLT, Int.reduceLE, Int.reduceAdd, Int.reduceSub, Int.reduceMul, Int.reduceNeg, Int.reduceToNat, Nat.reduceMul]; rw [hc], by simp only [f15, go_sem, Nat.reduceEqDiff, Nat.reduceAdd, Nat.reduceLeDiff, Int.reduceEq, Int.reduceLT, Int.reduceLE, Int.reduceAdd, Int.reduceSub, Int.reduceMul, Int.reduceNeg, Int.reduceToNat, Nat.reduceMul], by simp only [f16, go_sem, Nat.reduceEqDiff, Nat.reduceAdd, Nat.reduceLeDiff, Int.reduceEq, Int.reduceLT, Int.reduceLE, Int.reduceAdd, Int.reduceSub, Int.reduceMul, Int.reduceNeg, Int.reduceToNat, Nat.reduceMul], by simp only [go_sem, Nat.reduceEqDiff, Nat.reduceAdd, Nat.reduceLeDiff, Int.reduceEq, Int.reduceLT, Int.reduceLE, Int.reduceAdd, Int.reduceSub, Int.reduceMul, Int.reduceNeg, Int.reduceToNat, Nat.reduceMul] <;> rfl, ho2, st2⟩
      · have hc : covP l i (k + 1) = covP l i k := by rw [hsucc, decide_eq_false (fun h => b1 h.1), Bool.or_false]
        simp only [f1, f5, f11, f12, f6, f7, f15, f16, f17, g9, b1, wk, go_sem, Nat.reduceEqDiff, Nat.reduceAdd, Nat.reduceLeDiff, Int.reduceEq, Int.reduceLT, Int.reduceLE, Int.reduceAdd, Int.reduceSub, Int.reduceMul, Int.reduceNeg, Int.reduceToNat, Nat.reduceMul]
        exact ⟨l.length - (k + 1), by omega, k + 1, by omega, rfl, by simp only [f1, go_sem, Nat.reduceEqDiff, Nat.reduceAdd, Nat.reduceLeDiff, Int.reduceEq, Int.reduceLT, Int.reduceLE, Int.reduceAdd, Int.reduceSub, Int.reduceMul, Int.reduceNeg, Int.reduceToNat, Nat.reduceMul], by simp only [f5, go_sem, Nat.reduceEqDiff, Nat.reduceAdd, Nat.reduceLeDiff, Int.reduceEq, Int.reduceLT, Int.reduceLE, Int.reduceAdd, Int.reduceSub, Int.reduceMul, Int.reduceNeg, Int.reduceToNat, Nat.reduceMul], by simp only [f11, go_sem, Nat.reduceEqDiff, Nat.reduceAdd, Nat.reduceLeDiff, Int.reduceEq, Int.reduceLT, Int.reduceLE, Int.reduceAdd, Int.reduceSub, Int.reduceMul, Int.reduceNeg, Int.reduceToNat, Nat.reduceMul], by simp only [f12, go_sem, Nat.reduceEqDiff, Nat.reduceAdd, Nat.reduceLeDiff, Int.reduceEq, Int.reduceLT, Int.reduceLE, Int.reduceAdd, Int.reduceSub, Int.reduceMul, Int.reduceNeg, Int.reduceToNat, Nat.reduceMul], by simp only [f6, go_sem, Nat.reduceEqDiff, Nat.reduceAdd, Nat.reduceLeDiff, Int.reduceEq, Int.reduceLT, Int.reduceLE, Int.reduceAdd, Int.reduceSub, Int.reduceMul, Int.reduceNeg, Int.reduceToNat, Nat.reduceMul], by simp only [f7, go_sem, Nat.reduceEqDiff, Nat.reduceAdd, Nat.reduceLeDiff, Int.reduceEq, Int.reduceLT, Int.reduceLE, Int.reduceAdd, Int.reduceSub, Int.reduceMul, Int.reduceNeg, Int.reduceToNat, Nat.reduceMul]; rw [hc], by simp only [f15, go_sem, Nat.reduceEqDiff, Nat.reduceAdd, Nat.reduceLeDiff, Int.reduceEq, Int.reduceLT, Int.reduceLE, Int.reduceAdd, Int.reduceSub, Int.reduceMul, Int.reduceNeg, Int.reduceToNat, Nat.reduceMul], by simp only [f16, go_sem, Nat.reduceEqDiff, Nat.reduceAdd, Nat.reduceLeDiff, Int.reduceEq, Int.reduceLT, Int.reduceLE, Int.reduceAdd, Int.reduceSub, Int.reduceMul, Int.reduceNeg, Int.reduceToNat, Nat.reduceMul], by simp only [go_sem, Nat.reduceEqDiff, Nat.reduceAdd, Nat.reduceLeDiff, Int.reduceEq, Int.reduceLT, Int.reduceLE, Int.reduceAdd, Int.reduceSub, Int.reduceMul, Int.reduceNeg, Int.reduceToNat, Nat.reduceMul] <;> rfl, ho2, st2⟩
    · have hke : k = l.length := by omega
      subst hke
      rw [covP_all] at f7
      have hrl := rs_len (c := covB l) i
      cases hc : covB l i with
      | true =>
        rw [hc] at f7
        have hr : rs (covB l) (i + 1) = rs (covB l) i := by rw [rs_succ, if_pos hc]
        simp only [f1, f5, f11, f12, f6, f7, f15, f16, f17, hltk, wi, go_sem, Nat.reduceEqDiff, Nat.reduceAdd, Nat.reduceLeDiff, Int.reduceEq, Int.reduceLT, Int.reduceLE, Int.reduceAdd, Int.reduceSub, Int.reduceMul, Int.reduceNeg, Int.reduceToNat, Nat.reduceMul]
        exact ⟨n - (i + 1), by omega, i + 1, s, by omega, rfl, by simp only [f1, go_sem, Nat.reduceEqDiff, Nat.reduceAdd, Nat.reduceLeDiff, Int.reduceEq, Int.reduceLT, Int.reduceLE, Int.reduceAdd, Int.reduceSub, Int.reduceMul, Int.reduceNeg, Int.reduceToNat, Nat.reduceMul], by simp only [f5, go_sem, Nat.reduceEqDiff, Nat.reduceAdd, Nat.reduceLeDiff, Int.reduceEq, Int.reduceLT, Int.reduceLE, Int.reduceAdd, Int.reduceSub, Int.reduceMul, Int.reduceNeg, Int.reduceToNat, Nat.reduceMul], by simp only [f11, go_sem, Nat.reduceEqDiff, Nat.reduceAdd, Nat.reduceLeDiff, Int.reduceEq, Int.reduceLT, Int.reduceLE, Int.reduceAdd, Int.reduceSub, Int.reduceMul, Int.reduceNeg, Int.reduceToNat, Nat.reduceMul], by simp only [go_sem, Nat.reduceEqDiff, Nat.reduceAdd, Nat.reduceLeDiff, Int.reduceEq, Int.reduceLT, Int.reduceLE, Int.reduceAdd, Int.reduceSub, Int.reduceMul, Int.reduceNeg, Int.reduceToNat, Nat.reduceMul] <;> rfl, by rw [hr]; exact ho, st⟩
      | false =>
        rw [hc] at f7
        have hr : rs (covB l) (i + 1) = addB (rs (covB l) i) i := by rw [rs_succ, hc, if_neg (by simp)]
        rcases List.eq_nil_or_concat (rs (covB l) i) with hnil | ⟨L, ⟨a, b⟩, hL⟩
        · have hr2 : rs (covB l) (i + 1) = rs (covB l) i ++ [((i : Int), (i : Int) + 1)] := by rw [hr, hnil]; rfl
          obtain ⟨s', H4, hap, ho4, st4, _, _⟩ := ho.pair st (Nat.le_refl _) st.nx (by omega) (i : Int) ((i : Int) + 1)
          rw [← hr2] at ho4
          have hs0 : s = .slice none 0 0 := by
            rcases ho with ⟨h, _⟩ | ⟨_, _, _, _, _, h⟩
            · exact h
            · rw [hnil] at h; simp at h
          subst hs0
          simp only [f1, f5, f11, f12, f6, f7, f15, f16, f17, hltk, wi, hap, List.toList_toArray, go_sem, Nat.reduceEqDiff, Nat.reduceAdd, Nat.reduceLeDiff, Int.reduceEq, Int.reduceLT, Int.reduceLE, Int.reduceAdd, Int.reduceSub, Int.reduceMul, Int.reduceNeg, Int.reduceToNat, Nat.reduceMul]
          exact ⟨n - (i + 1), by omega, i + 1, s', by omega, rfl, by simp only [f1, go_sem, Nat.reduceEqDiff, Nat.reduceAdd, Nat.reduceLeDiff, Int.reduceEq, Int.reduceLT, Int.reduceLE, Int.reduceAdd, Int.reduceSub, Int.reduceMul, Int.reduceNeg, Int.reduceToNat, Nat.reduceMul], by simp only [go_sem, Nat.reduceEqDiff, Nat.reduceAdd, Nat.reduceLeDiff, Int.reduceEq, Int.reduceLT, Int.reduceLE, Int.reduceAdd, Int.reduceSub, Int.reduceMul, Int.reduceNeg, Int.reduceToNat, Nat.reduceMul], by simp only [f11, go_sem, Nat.reduceEqDiff, Nat.reduceAdd, Nat.reduceLeDiff, Int.reduceEq, Int.reduceLT, Int.reduceLE, Int.reduceAdd, Int.reduceSub, Int.reduceMul, Int.reduceNeg, Int.reduceToNat, Nat.reduceMul], by simp only [go_sem, Nat.reduceEqDiff, Nat.reduceAdd, Nat.reduceLeDiff, Int.reduceEq, Int.reduceLT, Int.reduceLE, Int.reduceAdd, Int.reduceSub, Int.reduceMul, Int.reduceNeg, Int.reduceToNat, Nat.reduceMul] <;> rfl, ho4, st4⟩
        · rw [List.concat_eq_append] at hL
          have hlen : (rs (covB l) i).length = L.length + 1 := by rw [hL, List.length_append]; rfl
          obtain ⟨bk, hsv, hg, hcl, hbb, hpos⟩ : ∃ bk, s = .slice (some ⟨bk, 0, none⟩) (L.length + 1) (L.length + 1) ∧ H2.get bk = some ⟨cells2 (L ++ [(a, b)]), 2, false⟩ ∧ True ∧ H.next ≤ bk ∧ True := by
            rcases ho with ⟨_, h, _⟩ | ⟨bk, h1, h2, _, h4, _⟩
            · omega
            · exact ⟨bk, by rw [h1, hlen], by rw [h2, hL], trivial, h4, trivial⟩
          subst hsv
          have hbl : bk < H2.next := AH.get_lt hg
          have hpos2 : (0 : Int) < ((L.length + 1 : Nat) : Int) := by omega
          have e1 : ((L.length + 1 : Nat) : Int) - 1 = (L.length : Int) := by omega
          have we := w64 (x := (L.length : Int)) (by omega) (by omega)
          have i0 : (0 : Int) ≤ L.length := by omega
          have i1 : (L.length : Int) < ((L.length + 1 : Nat) : Int) := by omega
          have hcl2 : (cells2 (L ++ [(a, b)])).length = L.length * 2 + 2 := by rw [cells2_len, List.length_append]; simp; omega
          have hfit : L.length * 2 + 1 + 1 ≤ L.length * 2 + 2 := by omega
          have hlast : (L ++ [(a, b)]).getLast? = some (a, b) := List.getLast?_concat
          by_cases hbi : b = (i : Int)
          · subst hbi
            have hr2 : rs (covB l) (i + 1) = L ++ [(a, (i : Int) + 1)] := by rw [hr, hL]; exact addB_more
            have hlen2 : (rs (covB l) (i + 1)).length = L.length + 1 := by rw [hr2, List.length_append]; rfl
            simp only [f1, f5, f11, f12, f6, f7, f15, f16, f17, hltk, wi, hpos2, e1, we, i0, i1, hg, hcl2, hfit, idxSP_slc, Int.toNat_natCast, addA, Nat.zero_add, Nat.mul_one, cells2_last, stc_eq, stB_some, splice_one, cells2_set, go_sem, Nat.reduceEqDiff, Nat.reduceAdd, Nat.reduceLeDiff, Int.reduceEq, Int.reduceLT, Int.reduceLE, Int.reduceAdd, Int.reduceSub, Int.reduceMul, Int.reduceNeg, Int.reduceToNat, Nat.reduceMul]
            refine ⟨n - (i + 1), by omega, i + 1, .slice (some ⟨bk, 0, none⟩) (L.length + 1) (L.length + 1), by omega, rfl, by simp only [f1, go_sem, Nat.reduceEqDiff, Nat.reduceAdd, Nat.reduceLeDiff, Int.reduceEq, Int.reduceLT, Int.reduceLE, Int.reduceAdd, Int.reduceSub, Int.reduceMul, Int.reduceNeg, Int.reduceToNat, Nat.reduceMul], by simp only [f5, go_sem, Nat.reduceEqDiff, Nat.reduceAdd, Nat.reduceLeDiff, Int.reduceEq, Int.reduceLT, Int.reduceLE, Int.reduceAdd, Int.reduceSub, Int.reduceMul, Int.reduceNeg, Int.reduceToNat, Nat.reduceMul], by simp only [f11, go_sem, Nat.reduceEqDiff, Nat.reduceAdd, Nat.reduceLeDiff, Int.reduceEq, Int.reduceLT, Int.reduceLE, Int.reduceAdd, Int.reduceSub, Int.reduceMul, Int.reduceNeg, Int.reduceToNat, Nat.reduceMul], by simp only [go_sem, Nat.reduceEqDiff, Nat.reduceAdd, Nat.reduceLeDiff, Int.reduceEq, Int.reduceLT, Int.reduceLE, Int.reduceAdd, Int.reduceSub, Int.reduceMul, Int.reduceNeg, Int.reduceToNat, Nat.reduceMul] <;> rfl, ?_, st.set hbb _⟩
            rw [hr2]
            exact .inr ⟨bk, by rw [List.length_append]; rfl, AH.get_set_eq H2 _ hbl, cells2_len _, hbb, by rw [List.length_append]; simp⟩
          · have hr2 : rs (covB l) (i + 1) = rs (covB l) i ++ [((i : Int), (i : Int) + 1)] := by
              rw [hr]
              unfold addB
              rw [hL, hlast]
              simp only [if_neg hbi]
            obtain ⟨s', H4, hap, ho4, st4, _, _⟩ := ho.pair st (Nat.le_refl _) st.nx (by omega) (i : Int) ((i : Int) + 1)
            rw [← hr2] at ho4
            simp only [f1, f5, f11, f12, f6, f7, f15, f16, f17, hltk, wi, hpos2, e1, we, i0, i1, hg, hcl2, hfit, hbi, hap, idxSP_slc, Int.toNat_natCast, addA, Nat.zero_add, Nat.mul_one, cells2_last, List.toList_toArray, go_sem, Nat.reduceEqDiff, Nat.reduceAdd, Nat.reduceLeDiff, Int.reduceEq, Int.reduceLT, Int.reduceLE, Int.reduceAdd, Int.reduceSub, Int.reduceMul, Int.reduceNeg, Int.reduceToNat, Nat.reduceMul]
            exact ⟨n - (i + 1), by omega, i + 1, s', by omega, rfl, by simp only [f1, go_sem, Nat.reduceEqDiff, Nat.reduceAdd, Nat.reduceLeDiff, Int.reduceEq, Int.reduceLT, Int.reduceLE, Int.reduceAdd, Int.reduceSub, Int.reduceMul, Int.reduceNeg, Int.reduceToNat, Nat.reduceMul], by simp only [go_sem, Nat.reduceEqDiff, Nat.reduceAdd, Nat.reduceLeDiff, Int.reduceEq, Int.reduceLT, Int.reduceLE, Int.reduceAdd, Int.reduceSub, Int.reduceMul, Int.reduceNeg, Int.reduceToNat, Nat.reduceMul], by simp only [f11, go_sem, Nat.reduceEqDiff, Nat.reduceAdd, Nat.reduceLeDiff, Int.reduceEq, Int.reduceLT, Int.reduceLE, Int.reduceAdd, Int.reduceSub, Int.reduceMul, Int.reduceNeg, Int.reduceToNat, Nat.reduceMul], by simp only [go_sem, Nat.reduceEqDiff, Nat.reduceAdd, Nat.reduceLeDiff, Int.reduceEq, Int.reduceLT, Int.reduceLE, Int.reduceAdd, Int.reduceSub, Int.reduceMul, Int.reduceNeg, Int.reduceToNat, Nat.reduceMul] <;> rfl, ho4, st4⟩
  · have hie : i = n := by omega
    subst hie
    simp only [f1, f5, f11, f12, hlt, go_sem, Nat.reduceEqDiff, Nat.reduceAdd, Nat.reduceLeDiff, Int.reduceEq, Int.reduceLT, Int.reduceLE, Int.reduceAdd, Int.reduceSub, Int.reduceMul, Int.reduceNeg, Int.reduceToNat, Nat.reduceMul]
    rw [back_own ho (Nat.le_refl _) st.low (cells2_p1 _)]
    exact hQ
end Go.Proofs.Ytidpkoaomfbljaa.AM
/- slices.SortFunc at this program. -/
namespace Go.Proofs
open Go.Shelf
set_option linter.all false
def Try.sortLay_ren : Go.Shelf.Ren := ⟨fun | 6 => 66 | 15 => 85 | 14 => 84 | 28 => 97 | 29 => 98 | 20 => 89 | 21 => 90 | 22 => 91 | 23 => 92 | 24 => 93 | 25 => 94 | 26 => 95 | 27 => 96 | 46 => 102 | 47 => 103 | 48 => 104 | 49 => 105 | 50 => 106 | 57 => 109 | n => n, fun | 22 => 36 | 24 => 40 | 25 => 128 | 3 => 3 | 39 => 42 | 0 => 0 | 53 => 154 | 55 => 156 | 4 => 4 | 46 => 148 | 45 => 147 | 50 => 58 | 5 => 5 | 9 => 9 | 66 => 159 | 70 => 163 | 76 => 165 | 77 => 100 | n => n, fun | n => n⟩
theorem Try.sortLay : Go.Proofs.SlLaysF0.n6 Try.prog Try.sortLay_ren := {
  mixed := by kernel_rfl
  f6 := ⟨Try.f66.name, by decide, Try.func66.trans (congrArg some (by kernel_rfl))⟩
  f14 := ⟨Try.f84.name, by decide, Try.func84.trans (congrArg some (by kernel_rfl))⟩
  f15 := Try.func85.trans (congrArg some (by kernel_rfl))
  f20 := ⟨Try.f89.name, by decide, Try.func89.trans (congrArg some (by kernel_rfl))⟩
  f21 := ⟨Try.f90.name, by decide, Try.func90.trans (congrArg some (by kernel_rfl))⟩
  f22 := ⟨Try.f91.name, by decide, Try.func91.trans (congrArg some (by kernel_rfl))⟩
  f23 := ⟨Try.f92.name, by decide, Try.func92.trans (congrArg some (by kernel_rfl))⟩
  f24 := ⟨Try.f93.name, by decide, Try.func93.trans (congrArg some (by kernel_rfl))⟩
  f25 := ⟨Try.f94.name, by decide, Try.func94.trans (congrArg some (by kernel_rfl))⟩
  f26 := ⟨Try.f95.name, by decide, Try.func95.trans (congrArg some (by kernel_rfl))⟩
  f27 := ⟨Try.f96.name, by decide, Try.func96.trans (congrArg some (by kernel_rfl))⟩
  f28 := Try.func97.trans (congrArg some (by kernel_rfl))
  f29 := Try.func98.trans (congrArg some (by kernel_rfl))
  f46 := ⟨Try.f102.name, by decide, Try.func102.trans (congrArg some (by kernel_rfl))⟩
  f47 := Try.func103.trans (congrArg some (by kernel_rfl))
  f48 := Try.func104.trans (congrArg some (by kernel_rfl))
  f49 := ⟨Try.f105.name, by decide, Try.func105.trans (congrArg some (by kernel_rfl))⟩
  f50 := ⟨Try.f106.name, by decide, Try.func106.trans (congrArg some (by kernel_rfl))⟩
  f57 := ⟨Try.f109.name, by decide, Try.func109.trans (congrArg some (by kernel_rfl))⟩
  t0 := Try.underlying0
  a0 := Try.isAgg0
  z0 := Try.sizeOf0
  v0 := Try.zeroValue0
  t3 := Try.underlying3
  a3 := Try.isAgg3
  z3 := Try.sizeOf3
  v3 := Try.zeroValue3
  t4 := Try.underlying4
  a4 := Try.isAgg4
  z4 := Try.sizeOf4
  v4 := Try.zeroValue4
  t5 := Try.underlying5
  a5 := Try.isAgg5
  z5 := Try.sizeOf5
  v5 := Try.zeroValue5
  t9 := Try.underlying9
  a9 := Try.isAgg9
  z9 := Try.sizeOf9
  v9 := Try.zeroValue9
  t22 := Try.underlying36
  a22 := Try.isAgg36
  z22 := Try.sizeOf36
  v22 := Try.zeroValue36
  t25 := Try.underlying128
  a25 := Try.isAgg128
  z25 := Try.sizeOf128
  v25 := Try.zeroValue128
  t39 := Try.underlying42
  a39 := Try.isAgg42
  z39 := Try.sizeOf42
  v39 := Try.zeroValue42
  t45 := Try.underlying147
  a45 := Try.isAgg147
  z45 := Try.sizeOf147
  v45 := Try.zeroValue147
  t46 := Try.underlying148
  a46 := Try.isAgg148
  z46 := Try.sizeOf148
  v46 := Try.zeroValue148
  t50 := Try.underlying58
  a50 := Try.isAgg58
  z50 := Try.sizeOf58
  v50 := Try.zeroValue58
  t53 := Try.underlying154
  a53 := Try.isAgg154
  z53 := Try.sizeOf154
  v53 := Try.zeroValue154
  t55 := Try.underlying156
  a55 := Try.isAgg156
  z55 := Try.sizeOf156
  v55 := Try.zeroValue156
  t66 := Try.underlying159
  a66 := Try.isAgg159
  z66 := Try.sizeOf159
  v66 := Try.zeroValue159
  t70 := Try.underlying163
  a70 := Try.isAgg163
  z70 := Try.sizeOf163
  v70 := Try.zeroValue163
  t76 := Try.underlying165
  a76 := Try.isAgg165
  z76 := Try.sizeOf165
  v76 := Try.zeroValue165
  t77 := Try.underlying100
  a77 := Try.isAgg100
  z77 := Try.sizeOf100
  v77 := Try.zeroValue100 }
end Go.Proofs
/- Functions that are told: slices.SortFunc at pairs, slices.Clone at pairs. -/
namespace Go.Proofs.Ytidpkoaomfbljaa.AM
open Go Go.RowKit Go.Lib Go.Sort Go.Proofs
set_option linter.all false
set_option maxRecDepth 10000

/-! ### Pairs whose first number is small -/
abbrev BP := {p : Int × Int // 0 ≤ p.1 ∧ p.1 ≤ 1099511627776}
instance : Inhabited BP := ⟨⟨(0, 0), by decide⟩⟩
def encB (x : BP) : List Value := [.int .i64 x.1.1, .int .i64 x.1.2]
def cellsB (l : List BP) : List Value := l.flatMap encB
theorem cellsB_len (l : List BP) : (cellsB l).length = l.length * 2 := by
  induction l with
  | nil => rfl
  | cons p l ih =>
    have : cellsB (p :: l) = .int .i64 p.1.1 :: .int .i64 p.1.2 :: cellsB l := rfl
    rw [this, List.length_cons, List.length_cons, ih, List.length_cons]
    omega
theorem cellsB_p1 (l : List BP) : (cellsB l).all p1 = true := by
  induction l with
  | nil => rfl
  | cons p l ih =>
    have : cellsB (p :: l) = .int .i64 p.1.1 :: .int .i64 p.1.2 :: cellsB l := rfl
    rw [this, List.all_cons, List.all_cons, ih]
    rfl
theorem cellsB_get : ∀ (l : List BP) (t : Nat), t < l.length * 2 → (cellsB l)[t]? = some ((encB (l[t / 2]!))[t % 2]!)
  | [], t, h => by simp at h
  | p :: l, 0, _ => rfl
  | p :: l, 1, _ => rfl
  | p :: l, t + 2, h => by
    have ih := cellsB_get l t (by simp only [List.length_cons] at h; omega)
    have e : cellsB (p :: l) = .int .i64 p.1.1 :: .int .i64 p.1.2 :: cellsB l := rfl
    rw [e, List.getElem?_cons_succ, List.getElem?_cons_succ, ih, show (t + 2) / 2 = t / 2 + 1 by omega, show (t + 2) % 2 = t % 2 by omega]
    simp
/-- What cells say. -/
def decB : List Value → Option (List BP)
  | [] => some []
  | .int .i64 a :: .int .i64 b :: r => if h : 0 ≤ a ∧ a ≤ 1099511627776 then (decB r).map fun l => ⟨(a, b), h⟩ :: l else none
  | _ => none
theorem decB_cells : ∀ l : List BP, decB (cellsB l) = some l
  | [] => rfl
  | ⟨(a, b), h⟩ :: l => by
    have e : cellsB (⟨(a, b), h⟩ :: l) = .int .i64 a :: .int .i64 b :: cellsB l := rfl
    rw [e]
    simp only [decB]
    rw [dif_pos h, decB_cells l]
    rfl
theorem decB_some : ∀ {c : List Value} {l : List BP}, decB c = some l → c = cellsB l
  | [], l, h => by simp only [decB, Option.some.injEq] at h; subst h; rfl
  | .int .i64 a :: .int .i64 b :: r, l, h => by
    simp only [decB] at h
    split at h
    · rename_i hr
      cases hd : decB r with
      | none => rw [hd] at h; simp at h
      | some l' =>
        rw [hd] at h
        simp only [Option.map_some, Option.some.injEq] at h
        subst h
        rw [decB_some hd]
        rfl
    · simp at h
def cfB (x y : BP) : Int := x.1.1 - y.1.1
theorem ltB (x y : BP) : ltOf cfB x y = decide (x.1.1 < y.1.1) := by
  unfold ltOf cfB
  by_cases h : x.1.1 < y.1.1
  · rw [decide_eq_true h, decide_eq_true (by omega)]
  · rw [decide_eq_false h, decide_eq_false (by omega)]
theorem swoB : SWO (ltOf cfB) where
  irrefl x := by rw [ltB]; simp
  trans x y z h1 h2 := by rw [ltB] at *; simp at *; omega
  ntrans x y z h1 h2 := by rw [ltB] at *; simp at *; omega
/-- The sort's own order. -/
def pdqL (l : List BP) : List BP := (pdq (ltOf cfB) l.toArray 0 l.toArray.size (Lib.bitLen l.toArray.size) true true).toList
theorem pdqL_facts (l : List BP) : (pdqL l).Perm l ∧ (pdqL l).Pairwise (fun a b => a.1.1 ≤ b.1.1) := by
  obtain ⟨⟨h1, _, h3⟩, h4⟩ := pdq_sorts (ltOf cfB) swoB l.toArray 0 l.toArray.size (Lib.bitLen l.toArray.size) true true (Nat.zero_le _) (Nat.le_refl _) (Or.inl rfl)
  unfold pdqL
  generalize pdq (ltOf cfB) l.toArray 0 l.toArray.size (Lib.bitLen l.toArray.size) true true = d' at h1 h3 h4 ⊢
  refine ⟨?_, List.pairwise_iff_getElem.2 fun i j hi hj hij => ?_⟩
  · rw [← h1, Array.extract_size] at h3
    rw [h1, Array.extract_size] at h3
    simpa using h3
  · have hs : d'.size = l.toArray.size := h1
    have hj' : j < d'.size := by simpa using hj
    have := h4 i j (Nat.zero_le _) hij (by omega)
    rw [ltB, getElem!_pos d' j hj', getElem!_pos d' i (by omega)] at this
    simp only [decide_eq_false_iff_not] at this
    simp only [Array.getElem_toList]
    omega
/-! ### A row in a block of the world -/
structure SRowN (n bk sh : Nat) (cs0 : Array Value) (ty : TypeId) (fz : Nat × Nat) (vals : List Value) (w : World) : Prop where
  row : ∃ cs : Array Value, w.heap[bk]? = some (.cells cs ty fz) ∧ cs.size = cs0.size ∧ (∀ j, j < n → cs[sh + j]? = vals[j]?)
  len : vals.length = n
  fit : sh + n ≤ cs0.size
  free : ∀ j, sh ≤ j → j < sh + n → ¬ (fz.1 ≤ j ∧ j < fz.2)
/-- What a call that writes one block alone leaves. -/
structure Save (bk B : Nat) (w w' : World) : Prop where
  os : w'.os = w.os
  tape : w'.tape = w.tape
  output : w'.output = w.output
  size : w.heap.size ≤ w'.heap.size
  block : ∀ k, k < B → k ≠ bk → w'.heap[k]? = w.heap[k]?
/-- A block that holds plain cells, as a row. -/
theorem Sim.srowN {N : Nat} {c : CMap} {H : AH} {w : World} (hs : Sim N c H w) {id : Nat} {b : Blk} {l : Loc} {vals : List Value} (hb : H.get id = some b) (hc : c id = some l) (hro : b.ro = false) (hv : b.cells = vals) (hp : vals.all p1 = true) {n : Nat} (hlen : vals.length = n) :
    ∃ (cs0 : Array Value) (ty : TypeId) (fz : Nat × Nat), cs0.size = l.sz ∧ (∀ j, j < l.sz → ¬ (fz.1 ≤ j ∧ j < fz.2)) ∧ N ≤ l.blk ∧ SRowN n l.blk l.sh cs0 ty fz vals w := by
  obtain ⟨cs, ty, fz, mid, k1, k2, k3, k4, k5, k6⟩ := (hs.blk id b l hb hc).row
  obtain ⟨hN, hfz⟩ := k3 hro
  subst hv
  have hmid := k6.eq1 hp
  subst hmid
  refine ⟨cs, ty, fz, k2, hfz, hN, ⟨cs, k1, rfl, fun j hj => ?_⟩, hlen, by omega, fun j h1 h2 => hfz j (by omega)⟩
  rw [k5 j (by omega), List.getD_eq_getElem?_getD, List.getElem?_eq_getElem (by omega)]
  rfl
/-- Only that row was written. -/
theorem Sim.savedN {N : Nat} {c : CMap} {H : AH} {w w' : World} (hs : Sim N c H w) {id : Nat} {b : Blk} {l : Loc} {vals : List Value} (hb : H.get id = some b) (hc : c id = some l) (hro : b.ro = false) (hp : vals.all p1 = true) (hone : vals.all AM.one = true) {n : Nat} (hlen : b.cells.length = n)
    {cs0 : Array Value} {ty : TypeId} {fz : Nat × Nat} (hsz : cs0.size = l.sz) (hfz : ∀ j, j < l.sz → ¬ (fz.1 ≤ j ∧ j < fz.2)) (S : SRowN n l.blk l.sh cs0 ty fz vals w') (V : Save l.blk w.heap.size w w') :
    Sim N c (H.set id (some { b with cells := vals })) w' ∧ ExtW N c H w c (H.set id (some { b with cells := vals })) w' := by
  obtain ⟨cs, ty0, fz0, mid, k1, k2, k3, k4, k5, k6⟩ := (hs.blk id b l hb hc).row
  obtain ⟨hN, _⟩ := k3 hro
  have hlt := get_lt hb
  have hoth : ∀ j l', j ≠ id → c j = some l' → w'.heap[l'.blk]? = w.heap[l'.blk]? := fun j l' hj hl' =>
    V.block _ (c_old hs hl') (fun h => hs.inj id j b l l' (fun h => hj h.symm) hb hro hc hl' h.symm)
  refine ⟨⟨fun j => ?_, fun j b' l' g1 g2 => ?_, fun j j' b' l1 l2 hne g1 gro g2 g3 => ?_, Nat.le_trans hs.size V.size⟩, ⟨by simp, fun _ _ => .inl rfl, Nat.min_le_left _ _, fun j hj hlow => ⟨rfl, ?_, fun l' g => ?_⟩, ⟨V.os, V.tape, V.output, V.size, fun k hk => V.block k (Nat.lt_of_lt_of_le hk hs.size) (by omega)⟩⟩⟩
  · rw [get_set _ _ _ _ hlt]
    split
    · rename_i e; subst e; rw [hc]; rfl
    · exact hs.live j
  · rw [get_set _ _ _ _ hlt] at g1
    split at g1
    · rename_i e
      subst e
      obtain rfl := Option.some.inj g1
      rw [hc] at g2
      obtain rfl := Option.some.inj g2
      obtain ⟨cs', e1, e2, e3⟩ := S.row
      have hl9 := S.len
      refine ⟨(hs.blk j b l hb hc).es, hone, cs', ty, fz, vals, e1, by rw [e2, hsz], fun _ => ⟨hN, hfz⟩, by simp only; omega, fun i hi => ?_, .refl hp⟩
      simp only at hi
      rw [e3 i (by omega), List.getD_eq_getElem?_getD, List.getElem?_eq_getElem hi]
      rfl
    · rename_i e
      obtain ⟨cs', ty', fz', mid', q1, q2, q3, q4, q5, q6⟩ := (hs.blk j b' l' g1 g2).row
      refine ⟨(hs.blk j b' l' g1 g2).es, (hs.blk j b' l' g1 g2).ones, cs', ty', fz', mid', ?_, q2, q3, q4, q5, by simpa using q6⟩
      rw [hoth j l' e g2]; exact q1
  · rw [get_set _ _ _ _ hlt] at g1
    split at g1
    · rename_i e
      subst e
      exact hs.inj j j' b l1 l2 hne hb hro g2 g3
    · exact hs.inj j j' b' l1 l2 hne g1 gro g2 g3
  · rw [get_set _ _ _ _ hlt]
    simp only [low_set] at hlow
    rw [if_neg (by omega)]
  · simp only [low_set] at hlow
    exact hoth j l' (by omega) g

/-! ### The sort's contract -/
theorem flat_get (l : List BP) {t : Nat} (h : t < l.length * 2) : (cellsB l)[t]? = some (flatK encB 2 l.toArray)[t]! := by
  rw [cellsB_get l t h, get_flatK encB 2 l.toArray t (by simpa using h)]
  simp
theorem SRowN.holds {bk sh : Nat} {cs0 : Array Value} {ty : TypeId} {fz : Nat × Nat} {w : World} {l : List BP} (h : SRowN (l.length * 2) bk sh cs0 ty fz (cellsB l) w) : HoldsK encB 2 w bk sh l.toArray := by
  obtain ⟨cs, h1, h2, h3⟩ := h.row
  intro t ht
  have ht' : t < l.length * 2 := by simpa using ht
  refine ⟨?_, ?_⟩
  · rw [Lib.cell_of_heap h1 (sh + t), h3 t ht', flat_get l ht']
    rfl
  · have := h.free (sh + t) (by omega) (by omega)
    simp only [World.frozen?, h1]
    rw [Bool.eq_false_iff]
    intro hb
    apply this
    simpa using hb
theorem SRowN.sorted {bk sh : Nat} {cs0 : Array Value} {ty : TypeId} {fz : Nat × Nat} {w : World} {l l' : List BP} (h : SRowN (l.length * 2) bk sh cs0 ty fz (cellsB l) w) (hl : l'.length = l.length) (n : Nat) (os : Array Obj) :
    SRowN (l.length * 2) bk sh cs0 ty fz (cellsB l') (sortWorldK encB 2 w bk sh n l'.toArray os) ∧ Save bk w.heap.size w (sortWorldK encB 2 w bk sh n l'.toArray os) := by
  obtain ⟨cs, h1, h2, h3⟩ := h.row
  have hlt : bk < w.heap.size := (Array.getElem?_eq_some_iff.1 h1).1
  have hhp : (sortWorldK encB 2 w bk sh n l'.toArray os).heap = w.heap.modify bk (onCells (putCells id sh (flatK encB 2 l'.toArray))) ++ os := rfl
  have hsz : (w.heap.modify bk (onCells (putCells id sh (flatK encB 2 l'.toArray)))).size = w.heap.size := by simp
  have hfs : (flatK encB 2 l'.toArray).size = l.length * 2 := by simp [hl]
  refine ⟨⟨⟨putCells id sh (flatK encB 2 l'.toArray) cs, ?_, ?_, fun j hj => ?_⟩, by rw [cellsB_len, hl], h.fit, h.free⟩, ⟨rfl, rfl, rfl, ?_, fun k hk hne => ?_⟩⟩
  · rw [hhp, Array.getElem?_append_left (by omega), Array.getElem?_modify, if_pos rfl, h1]
    rfl
  · simp [putCells, h2]
  · have hc : sh + j < cs.size := by have := h.fit; omega
    rw [flat_get l' (by omega)]
    simp only [putCells, Array.getElem?_mapIdx, hfs]
    rw [Array.getElem?_eq_getElem hc]
    simp only [Option.map_some]
    rw [if_pos ⟨by omega, by omega⟩, show sh + j - sh = j by omega]
    rfl
  · rw [hhp, Array.size_append, hsz]; omega
  · rw [hhp, Array.getElem?_append_left (by omega), Array.getElem?_modify, if_neg (fun e => hne e.symm)]
theorem calls67 (x y : BP) (W : World) : Calls Try.prog 67 #[.agg (encB x).toArray, .agg (encB y).toArray] W fun e w' => e = .returned (.int .i64 (cfB x y)) ∧ ∃ q os', w' = grow (W.drewN q) os' := by
  obtain ⟨⟨a, b⟩, ha⟩ := x
  obtain ⟨⟨a', b'⟩, ha'⟩ := y
  simp only at ha ha'
  show Calls Try.prog 67 #[.agg #[.int .i64 a, .int .i64 b], .agg #[.int .i64 a', .int .i64 b']] W fun e w' => e = .returned (.int .i64 (a - a')) ∧ ∃ q os', w' = grow (W.drewN q) os'
  go_enter Try.func67, Try.ntmps67
  go_wp2
  go_ret
  exact ⟨rfl, 0, _, by rw [alloc_eq_grow, alloc_eq_grow, grow_grow]; rfl⟩
theorem callsSort {bk sh cap : Nat} {cs0 : Array Value} {ty : TypeId} {fz : Nat × Nat} {w : World} (l : List BP) (hl : l.length < 4611686018427387904) (h : SRowN (l.length * 2) bk sh cs0 ty fz (cellsB l) w) :
    Calls Try.prog 66 #[.slice (some ⟨bk, sh, none⟩) l.length cap, .func (.func 67) #[] #[]] w fun e w' => e = .returned (.tuple #[]) ∧ SRowN (l.length * 2) bk sh cs0 ty fz (cellsB (pdqL l)) w' ∧ Save bk w.heap.size w w' := by
  have eg : ∀ args w, (callFunc 67 args).run Try.prog w = .ok (.enter 67 args) w := enters_of Try.func67 (by kernel_rfl) rfl
  obtain ⟨cs, h1, _⟩ := h.row
  have hlt : bk < w.heap.size := (Array.getElem?_eq_some_iff.1 h1).1
  have hcon := AnyQ.slices_SortFunc_eq Try.sortLay 2 Try.isAgg40 Try.sizeOf40 encB (fun _ => rfl) (fun x v hv => by simp [encB] at hv; rcases hv with rfl | rfl <;> rfl) cfB swoB 67 #[] bk sh cap l.toArray w eg (fun _ _ _ _ x y => calls67 x y _) h.holds hlt (by simpa using hl)
  change Calls Try.prog 66 _ _ _ at hcon
  refine hcon.mono fun e w' hw => ?_
  obtain ⟨rfl, n, os, rfl⟩ := hw
  have hp := (pdqL_facts l).1.length_eq
  have he : pdq (ltOf cfB) l.toArray 0 l.toArray.size (Lib.bitLen l.toArray.size) true true = (pdqL l).toArray := by simp [pdqL]
  rw [he]
  exact ⟨rfl, h.sorted hp n os⟩
theorem callsSort_nil (c : Nat) (w : World) : Calls Try.prog 66 #[.slice none 0 c, .func (.func 67) #[] #[]] w fun e w' => e = .returned (.tuple #[]) ∧ w' = w :=
  AnyF.slices_SortFunc_none Try.sortLay none c _ w
def natSort : CallH → List Value → AH → Option (Value × AH) := fun _ vs H =>
  match vs with
  | [.slice none n _, .func (.func g) fa fb] => if g = 67 ∧ fa.size = 0 ∧ fb.size = 0 ∧ n = 0 then some (.tuple #[], H) else none
  | [.slice (some p) n _, .func (.func g) fa fb] => if g = 67 ∧ fa.size = 0 ∧ fb.size = 0 ∧ p.off = 0 ∧ p.spot = none ∧ n < 4611686018427387904 then
      (match H.get p.block with
      | some b => if b.ro = false ∧ b.es = 2 then (match decB b.cells with
        | some l => if l.length = n then some (.tuple #[], H.set p.block (some { b with cells := cellsB (pdqL l) })) else none
        | none => none) else none
      | none => none) else none
  | _ => none
theorem natSort_mono : NatMono natSort := fun _ _ _ _ _ _ h => h
theorem natSort_some {call : CallH} {vs : List Value} {H H' : AH} {v : Value} (h : natSort call vs H = some (v, H')) : (∃ c, vs = [.slice none 0 c, .func (.func 67) #[] #[]] ∧ v = .tuple #[] ∧ H' = H) ∨ ∃ (id c : Nat) (b : Blk) (l : List BP), vs = [.slice (some ⟨id, 0, none⟩) l.length c, .func (.func 67) #[] #[]] ∧ l.length < 4611686018427387904 ∧ H.get id = some b ∧ b.ro = false ∧ b.es = 2 ∧ b.cells = cellsB l ∧ v = .tuple #[] ∧ H' = H.set id (some { b with cells := cellsB (pdqL l) }) := by
  unfold natSort at h
  split at h
  · rename_i n c g fa fb
    split at h
    · rename_i hc
      obtain ⟨rfl, h1, h2, rfl⟩ := hc
      simp only [Option.some.injEq, Prod.mk.injEq] at h
      rw [Array.eq_empty_of_size_eq_zero h1, Array.eq_empty_of_size_eq_zero h2]
      exact .inl ⟨c, rfl, h.1.symm, h.2.symm⟩
    · simp at h
  · rename_i p n c g fa fb
    split at h
    · rename_i hc
      obtain ⟨rfl, h1, h2, h3, h4, h5⟩ := hc
      split at h
      · rename_i b hb
        split at h
        · rename_i hr
          split at h
          · rename_i l hl
            split at h
            · rename_i hn
              simp only [Option.some.injEq, Prod.mk.injEq] at h
              obtain ⟨id, o, sp⟩ := p
              simp only at h3 h4
              subst h3 h4 hn
              rw [Array.eq_empty_of_size_eq_zero h1, Array.eq_empty_of_size_eq_zero h2]
              exact .inr ⟨id, c, b, l, rfl, h5, hb, hr.1, hr.2, decB_some hl, h.1.symm, h.2.symm⟩
            · simp at h
          · simp at h
        · simp at h
      · simp at h
    · simp at h
  · simp at h
theorem natSort_ok (N : Nat) : NatOk Try.prog N 66 natSort := by
  refine ⟨fun call _ vs H v H' h => ?_, fun call _ vs H v H' h c w args hs ha => .inr ⟨enters_of Try.func66 (by kernel_rfl) rfl args w, ?_⟩⟩
  · rcases natSort_some h with ⟨c, _, _, rfl⟩ | ⟨id, cp, b, l, _, _, _, _, _, _, _, rfl⟩
    · exact ⟨Nat.le_refl _, Nat.le_refl _, fun _ _ _ => rfl⟩
    · exact .set _ _ _
  · rcases natSort_some h with ⟨cp, rfl, rfl, rfl⟩ | ⟨id, cp, b, l, rfl, hl, hb, hro, hes, hcells, rfl, rfl⟩
    · have hr := ha.eq1 rfl
      have hargs : args = #[.slice none 0 cp, .func (.func 67) #[] #[]] := by rw [← Array.toList_inj, hr]
      subst hargs
      refine (callsSort_nil cp w).mono fun e w' hw => ?_
      obtain ⟨rfl, rfl⟩ := hw
      exact ⟨c, .of3 rfl, hs, ExtW.refl _ _ _ _⟩
    obtain ⟨x', r1, e1, hx, hr1⟩ := ha.uncons
    have hr := hr1.eq1 rfl
    subst hr
    obtain ⟨l0, hc, _⟩ := hs.at_ hb
    cases hx with
    | plain hp => simp [p1] at hp
    | sliceDead g1 g2 => rw [hc] at g2; simp at g2
    | @slice _ l2 _ _ k' g1 g2 g3 g4 g5 =>
      rw [hc] at g2
      obtain rfl := Option.some.inj g2
      have hargs : args = #[.slice (some ⟨l0.blk, l0.sh + 0, none⟩) l.length k', .func (.func 67) #[] #[]] := by rw [← Array.toList_inj, e1]
      rw [Nat.add_zero] at hargs
      subst hargs
      obtain ⟨cs0, ty, fz, hsz, hfz, hN, S⟩ := hs.srowN hb hc hro hcells (cellsB_p1 l) (cellsB_len l)
      refine (callsSort l hl S).mono fun e w' hw => ?_
      obtain ⟨rfl, S', V⟩ := hw
      obtain ⟨q1, q2⟩ := hs.savedN (n := l.length * 2) hb hc hro (cellsB_p1 (pdqL l)) (p1_one (cellsB_p1 _)) (by rw [hcells]; exact cellsB_len l) hsz hfz S' V
      exact ⟨c, .of3 rfl, q1, q2⟩
theorem val_sort {tbl : Tbl} [hT : TMono tbl] (h66 : tbl 66 = some (.nat natSort)) (l : List BP) (hl : l.length < 4611686018427387904) {id c : Nat} {H : AH} (hb : H.get id = some ⟨cellsB l, 2, false⟩) : Val tbl 66 [.slice (some ⟨id, 0, none⟩) l.length c, .func (.func 67) #[] #[]] H (.tuple #[]) (H.set id (some ⟨cellsB (pdqL l), 2, false⟩)) := by
  refine ⟨1, ?_⟩
  simp only [evF, h66, natSort]
  rw [if_pos ⟨trivial, rfl, rfl, trivial, trivial, hl⟩, hb]
  simp only
  rw [if_pos ⟨trivial, trivial⟩, decB_cells]
  simp
theorem val_sort_nil {tbl : Tbl} [hT : TMono tbl] (h66 : tbl 66 = some (.nat natSort)) {c : Nat} {H : AH} : Val tbl 66 [.slice none 0 c, .func (.func 67) #[] #[]] H (.tuple #[]) H := by
  refine ⟨1, ?_⟩
  simp only [evF, h66, natSort]
  rw [if_pos ⟨trivial, rfl, rfl, trivial⟩]
end Go.Proofs.Ytidpkoaomfbljaa.AM
namespace Go.Proofs.Ytidpkoaomfbljaa.AM
open Go
set_option linter.all false
set_option maxRecDepth 10000
variable {tbl : Tbl} [hT : TMono tbl]

theorem Sl.added {H : AH} {es n : Nat} {v : Value} {l : List Value} (h : Sl H es v n l) : AM.added H es v = some (n, l) := by
  rcases h with ⟨a, c, rfl, rfl, rfl⟩ | ⟨a, c, rfl, h⟩
  · cases a with
    | none => rfl
    | some a =>
      rw [added_slc]
      refine orZ_zero fun x hx => ?_
      rw [Nat.zero_mul] at hx
      cases hl : ldc H a 0 with
      | none => rw [hl] at hx; simp at hx
      | some l =>
        have := ldc_len hl
        rw [hl] at hx
        simp only [Option.map_some, Option.some.injEq] at hx
        rw [← hx, List.eq_nil_of_length_eq_zero this]
  · rw [added_slc, h]
    exact orZ_some
theorem back_slc {H : AH} {b : Blk} {H1 : AH} {k n c : Nat} (hp : b.cells.all p1 = true) (hk : H1.get k = some b) (hge : H.next ≤ k) (hl : H.next ≤ H1.low) : back H H1 (.slice (some ⟨k, 0, none⟩) n c) = (.slice (some ⟨H.next, 0, none⟩) n c, H.push b) := by
  unfold back
  rw [if_neg (by omega), if_neg (by simp [p3, p2, p1])]
  simp only [moveV, hk]
  rw [if_neg (by omega), if_pos hp]
  rfl
theorem v65_nil (h65 : tbl 65 = some (.code m65)) (c : Nat) (H : AH) : Val tbl 65 [.slice none 0 c] H (.slice none 0 0) H := by
  refine Val.of_all fun Q hQ => ?_
  rw [rn_fun h65, k65]
  simp only [go_sem, Nat.reduceEqDiff, Nat.reduceAdd, Nat.reduceLeDiff, Int.reduceEq, Int.reduceLT, Int.reduceLE, Int.reduceAdd, Int.reduceSub, Int.reduceMul, Int.reduceNeg, Int.reduceToNat, Nat.reduceMul]
  exact hQ
theorem v65 (h65 : tbl 65 = some (.code m65)) (l : List (Int × Int)) (hl : l.length ≤ 2000) {a : Addr} {c : Nat} {H : AH} (hs : Sl H 2 (.slice (some a) l.length c) l.length (cells2 l)) :
    Val tbl 65 [.slice (some a) l.length c] H (.slice (some ⟨H.next, 0, none⟩) l.length l.length) (H.push ⟨cells2 l, 2, false⟩) := by
  refine Val.of_all fun Q hQ => ?_
  rw [rn_fun h65, k65]
  have hk : Sl (H.enter.push ⟨[], 2, false⟩) 2 (.slice (some a) l.length c) l.length (cells2 l) := hs.keep fun id hid => AH.get_push_lt H.enter _ hid
  have had := hk.added
  have hg : (H.enter.push ⟨[], 2, false⟩).get H.next = some ⟨[], 2, false⟩ := AH.get_push_eq H.enter _
  by_cases h0 : l.length = 0
  · have hl0 := List.eq_nil_of_length_eq_zero h0
    subst hl0
    have hap : appended (H.enter.push ⟨[], 2, false⟩) 2 16 (.slice (some ⟨H.next, 0, none⟩) 0 0) 0 (cells2 []) = some (.slice (some ⟨H.next, 0, none⟩) 0 0, (H.enter.push ⟨[], 2, false⟩).set H.next (some ⟨[], 2, false⟩)) := by
      simp only [appended, hg]
      rw [if_pos (by simp), if_pos (by omega)]
      simp only [stU, addA, hg]
      rfl
    simp only [go_sem, Nat.reduceEqDiff, Nat.reduceAdd, Nat.reduceLeDiff, Int.reduceEq, Int.reduceLT, Int.reduceLE, Int.reduceAdd, Int.reduceSub, Int.reduceMul, Int.reduceNeg, Int.reduceToNat, Nat.reduceMul] at had
    simp only [had, hap, go_sem, Nat.reduceEqDiff, Nat.reduceAdd, Nat.reduceLeDiff, Int.reduceEq, Int.reduceLT, Int.reduceLE, Int.reduceAdd, Int.reduceSub, Int.reduceMul, Int.reduceNeg, Int.reduceToNat, Nat.reduceMul]
    rw [back_slc (b := ⟨[], 2, false⟩) rfl (AH.get_set_eq _ _ (by rw [AH.next_push, nx_enter]; omega)) (Nat.le_refl _) (by rw [lw_set, lw_push, lw_enter]; omega)]
    exact hQ
  · have hap : appended (H.enter.push ⟨[], 2, false⟩) 2 16 (.slice (some ⟨H.next, 0, none⟩) 0 0) l.length (cells2 l) = some (.slice (some ⟨(H.enter.push ⟨[], 2, false⟩).next, 0, none⟩) l.length l.length, ((H.enter.push ⟨[], 2, false⟩).set H.next none).push ⟨cells2 l, 2, false⟩) := by
      simp only [appended, hg]
      rw [if_pos (by simp), if_neg (by omega)]
      have : ldc (H.enter.push ⟨[], 2, false⟩) ⟨H.next, 0, none⟩ (0 * 2) = some [] := ldc_all (es := 2) (n := 0) hg rfl
      rw [this]
      simp only
      rw [if_pos (by omega), Nat.zero_add, List.nil_append]
    simp only [go_sem, Nat.reduceEqDiff, Nat.reduceAdd, Nat.reduceLeDiff, Int.reduceEq, Int.reduceLT, Int.reduceLE, Int.reduceAdd, Int.reduceSub, Int.reduceMul, Int.reduceNeg, Int.reduceToNat, Nat.reduceMul] at had
    simp only [had, hap, go_sem, Nat.reduceEqDiff, Nat.reduceAdd, Nat.reduceLeDiff, Int.reduceEq, Int.reduceLT, Int.reduceLE, Int.reduceAdd, Int.reduceSub, Int.reduceMul, Int.reduceNeg, Int.reduceToNat, Nat.reduceMul]
    have hg2 : (((H.enter.push ⟨[], 2, false⟩).set H.next none).push ⟨cells2 l, 2, false⟩).get (H.next + 1) = some ⟨cells2 l, 2, false⟩ := by
      have hx : ((H.enter.push ⟨[], 2, false⟩).set H.next none).next = H.next + 1 := by rw [AH.next_set, AH.next_push, nx_enter]
      rw [← hx]
      exact AH.get_push_eq _ _
    rw [back_slc (b := ⟨cells2 l, 2, false⟩) (cells2_p1 l) hg2 (by omega) (by rw [lw_push, lw_set, lw_push, lw_enter]; omega)]
    exact hQ
end Go.Proofs.Ytidpkoaomfbljaa.AM
namespace Go.Proofs.Ytidpkoaomfbljaa.AM
open Go
set_option linter.all false
set_option maxRecDepth 10000
variable {tbl : Tbl} [hT : TMono tbl]

theorem appended_other {H H' : AH} {es bytes k id : Nat} {s s' : Value} {new : List Value} (h : appended H es bytes s k new = some (s', H')) (hk : 0 < k) (hid : id < H.next) (hs : ∀ a n c, s = .slice (some a) n c → n = c ∧ a.block ≠ id) : H'.get id = H.get id := by
  unfold appended at h
  split at h
  · split at h
    · split at h
      · omega
      · split at h
        · simp only [Option.some.injEq, Prod.mk.injEq] at h
          rw [← h.2]
          exact AH.get_push_lt H _ hid
        · simp at h
    · simp at h
  · rename_i a n c
    obtain ⟨rfl, hne⟩ := hs a n c rfl
    split at h
    · simp at h
    · split at h
      · rw [if_neg (by omega)] at h
        split at h
        · split at h
          · simp only [Option.some.injEq, Prod.mk.injEq] at h
            rw [← h.2, AH.get_push_lt _ _ (by rw [AH.next_set]; exact hid)]
            exact AH.get_set_ne H _ (fun e => hne e.symm)
          · simp at h
        · simp at h
      · rw [if_neg (by omega)] at h
        simp at h
  · simp at h
/-- What is wrong with one of them. -/
def badH (size : Int) (p : Int × Int) : Prop := p.1 < 0 ∨ p.2 < p.1 ∨ size < p.2
instance (size : Int) (p : Int × Int) : Decidable (badH size p) := inferInstanceAs (Decidable (_ ∨ _))
theorem cellsB_val : ∀ lb : List BP, cellsB lb = cells2 (lb.map Subtype.val)
  | [] => rfl
  | p :: lb => by
    have e1 : cellsB (p :: lb) = .int .i64 p.1.1 :: .int .i64 p.1.2 :: cellsB lb := rfl
    rw [e1, cellsB_val lb]
    rfl
/-- A row that is good, sorted. -/
theorem sort_row (h66 : tbl 66 = some (.nat natSort)) {l : List (Int × Int)} {size : Nat} (hs : size ≤ 1048576) (hl : l.length ≤ 2000) (hv : ∀ p ∈ l, ¬ badH size p) : ∃ l' : List (Int × Int), l'.Perm l ∧ l'.Pairwise (fun a b => a.1 ≤ b.1) ∧ ∀ (id c : Nat) (H : AH), H.get id = some ⟨cells2 l, 2, false⟩ → Val tbl 66 [.slice (some ⟨id, 0, none⟩) l.length c, .func (.func 67) #[] #[]] H (.tuple #[]) (H.set id (some ⟨cells2 l', 2, false⟩)) := by
  have hr : ∀ p ∈ l, 0 ≤ p.1 ∧ p.1 ≤ 1099511627776 := fun p hp => by
    have := hv p hp
    unfold badH at this
    omega
  obtain ⟨lb, hlb⟩ : ∃ lb : List BP, lb.map Subtype.val = l := ⟨l.pmap (fun p h => ⟨p, h⟩) hr, by rw [List.map_pmap]; simp⟩
  have hlen : lb.length = l.length := by rw [← hlb, List.length_map]
  obtain ⟨h1, h2⟩ := pdqL_facts lb
  refine ⟨(pdqL lb).map Subtype.val, ?_, List.pairwise_map.2 h2, fun id c H hg => ?_⟩
  · rw [← hlb]; exact h1.map _
  · have hv := val_sort h66 lb (by omega) (id := id) (c := c) (H := H) (by rw [cellsB_val, hlb]; exact hg)
    rw [hlen, cellsB_val] at hv
    exact hv
theorem v45_size (h45 : tbl 45 = some (.code m45)) (size : Int) (hb : size < 0 ∨ 1048576 < size) (v : Value) (H : AH) : Val tbl 45 [.int .i64 size, v] H (.tuple #[.slice none 0 0, .int .i64 7]) H := by
  refine Val.of_all fun Q hQ => ?_
  rw [rn_fun h45, k45]
  by_cases a1 : size < 0
  · simp only [a1, go_sem, Nat.reduceEqDiff, Nat.reduceAdd, Nat.reduceLeDiff, Int.reduceEq, Int.reduceLT, Int.reduceLE, Int.reduceAdd, Int.reduceSub, Int.reduceMul, Int.reduceNeg, Int.reduceToNat, Nat.reduceMul]; exact hQ
  have a2 : 1048576 < size := by omega
  simp only [a1, a2, go_sem, Nat.reduceEqDiff, Nat.reduceAdd, Nat.reduceLeDiff, Int.reduceEq, Int.reduceLT, Int.reduceLE, Int.reduceAdd, Int.reduceSub, Int.reduceMul, Int.reduceNeg, Int.reduceToNat, Nat.reduceMul]; exact hQ
theorem v45_many (h45 : tbl 45 = some (.code m45)) (size : Int) (hb : 0 ≤ size ∧ size ≤ 1048576) {ad : Option Addr} {n c : Nat} (hn : 2000 < n) (H : AH) : Val tbl 45 [.int .i64 size, .slice ad n c] H (.tuple #[.slice none 0 0, .int .i64 8]) H := by
  refine Val.of_all fun Q hQ => ?_
  rw [rn_fun h45, k45]
  have a1 : ¬ size < 0 := by omega
  have a2 : ¬ 1048576 < size := by omega
  have a3 : (2000 : Int) < n := by omega
  simp only [a1, a2, a3, go_sem, Nat.reduceEqDiff, Nat.reduceAdd, Nat.reduceLeDiff, Int.reduceEq, Int.reduceLT, Int.reduceLE, Int.reduceAdd, Int.reduceSub, Int.reduceMul, Int.reduceNeg, Int.reduceToNat, Nat.reduceMul]; exact hQ
theorem v45_bad (h45 : tbl 45 = some (.code m45)) (size : Nat) (hb : size ≤ 1048576) (l : List (Int × Int)) (hl : l.length ≤ 2000) (hbad : ∃ p ∈ l, badH size p) {ad : Option Addr} {c : Nat} {H : AH} (hs : Sl H 2 (.slice ad l.length c) l.length (cells2 l)) : Val tbl 45 [.int .i64 size, .slice ad l.length c] H (.tuple #[.slice none 0 0, .int .i64 7]) H := by
  refine Val.of_all fun Q hQ => ?_
  rw [rn_fun h45, k45]
  have a1 : ¬ (size : Int) < 0 := by omega
  have a2 : ¬ 1048576 < (size : Int) := by omega
  have a3 : ¬ (2000 : Int) < l.length := by omega
  simp only [a1, a2, a3, go_sem, Nat.reduceEqDiff, Nat.reduceAdd, Nat.reduceLeDiff, Int.reduceEq, Int.reduceLT, Int.reduceLE, Int.reduceAdd, Int.reduceSub, Int.reduceMul, Int.reduceNeg, Int.reduceToNat, Nat.reduceMul]
  refine rn_loop (fun m f H' => ∃ i : Nat, i ≤ l.length ∧ m = l.length - i ∧ f 0 = .int .i64 size ∧ f 22 = .slice ad l.length c ∧ f 23 = .int .i64 l.length ∧ f 24 = .int .i64 i ∧ Junk H H' ∧ (∀ k (h : k < l.length), k < i → ¬ badH size l[k])) ?_ (n := l.length)
    ⟨0, by omega, rfl, by simp only [go_sem, Nat.reduceEqDiff, Nat.reduceAdd, Nat.reduceLeDiff, Int.reduceEq, Int.reduceLT, Int.reduceLE, Int.reduceAdd, Int.reduceSub, Int.reduceMul, Int.reduceNeg, Int.reduceToNat, Nat.reduceMul], by simp only [go_sem, Nat.reduceEqDiff, Nat.reduceAdd, Nat.reduceLeDiff, Int.reduceEq, Int.reduceLT, Int.reduceLE, Int.reduceAdd, Int.reduceSub, Int.reduceMul, Int.reduceNeg, Int.reduceToNat, Nat.reduceMul], by simp only [go_sem, Nat.reduceEqDiff, Nat.reduceAdd, Nat.reduceLeDiff, Int.reduceEq, Int.reduceLT, Int.reduceLE, Int.reduceAdd, Int.reduceSub, Int.reduceMul, Int.reduceNeg, Int.reduceToNat, Nat.reduceMul], by simp only [go_sem, Nat.reduceEqDiff, Nat.reduceAdd, Nat.reduceLeDiff, Int.reduceEq, Int.reduceLT, Int.reduceLE, Int.reduceAdd, Int.reduceSub, Int.reduceMul, Int.reduceNeg, Int.reduceToNat, Nat.reduceMul] <;> rfl, Junk.enter H, fun k h h2 => absurd h2 (by omega)⟩
  rintro m f H' ⟨i, hi, rfl, f0, f22, f23, f24, st, hok⟩
  by_cases hlt : (i : Int) < l.length
  · have hi2 : i < l.length := by omega
    have wi := w64 (x := (i : Int) + 1) (by omega) (by omega)
    have hp2 : H'.next < H'.next + 1 := by omega
    simp only [f0, f22, f23, f24, hlt, go_sem, Nat.reduceEqDiff, Nat.reduceAdd, Nat.reduceLeDiff, Int.reduceEq, Int.reduceLT, Int.reduceLE, Int.reduceAdd, Int.reduceSub, Int.reduceMul, Int.reduceNeg, Int.reduceToNat, Nat.reduceMul]
    refine (hs.keep st.old).at_ hi2 fun q hq1 hq2 => ?_
    rw [cells2_at _ _ hi2] at hq2
    simp only [f0, f22, f23, f24, hq2, hp2, stc_eq, stB_some, go_sem, Nat.reduceEqDiff, Nat.reduceAdd, Nat.reduceLeDiff, Int.reduceEq, Int.reduceLT, Int.reduceLE, Int.reduceAdd, Int.reduceSub, Int.reduceMul, Int.reduceNeg, Int.reduceToNat, Nat.reduceMul]
    have st2 := (st.push ⟨[.int .i64 0, .int .i64 0], 1, false⟩).set st.nx (some ⟨[.int .i64 l[i].1, .int .i64 l[i].2], 1, false⟩)
    have g9 := ps_get (H' := H') (b := ⟨[.int .i64 0, .int .i64 0], 1, false⟩) (c := ⟨[.int .i64 l[i].1, .int .i64 l[i].2], 1, false⟩)
    generalize (H'.push ⟨[.int .i64 0, .int .i64 0], 1, false⟩).set H'.next (some ⟨[.int .i64 l[i].1, .int .i64 l[i].2], 1, false⟩) = H3 at st2 g9 ⊢
    have hnl : ¬ H3.low < H.next := by have := st2.low; omega
    by_cases b1 : l[i].1 < 0
    · simp only [f0, f22, f23, f24, g9, b1, hnl, go_sem, Nat.reduceEqDiff, Nat.reduceAdd, Nat.reduceLeDiff, Int.reduceEq, Int.reduceLT, Int.reduceLE, Int.reduceAdd, Int.reduceSub, Int.reduceMul, Int.reduceNeg, Int.reduceToNat, Nat.reduceMul]; exact hQ
    by_cases b2 : l[i].2 < l[i].1
    · simp only [f0, f22, f23, f24, g9, b1, b2, hnl, go_sem, Nat.reduceEqDiff, Nat.reduceAdd, Nat.reduceLeDiff, Int.reduceEq, Int.reduceLT, Int.reduceLE, Int.reduceAdd, Int.reduceSub, Int.reduceMul, Int.reduceNeg, Int.reduceToNat, Nat.reduceMul]; exact hQ
    by_cases b3 : (size : Int) < l[i].2
    · simp only [f0, f22, f23, f24, g9, b1, b2, b3, hnl, go_sem, Nat.reduceEqDiff, Nat.reduceAdd, Nat.reduceLeDiff, Int.reduceEq, Int.reduceLT, Int.reduceLE, Int.reduceAdd, Int.reduceSub, Int.reduceMul, Int.reduceNeg, Int.reduceToNat, Nat.reduceMul]; exact hQ
    simp only [f0, f22, f23, f24, g9, b1, b2, b3, wi, go_sem, Nat.reduceEqDiff, Nat.reduceAdd, Nat.reduceLeDiff, Int.reduceEq, Int.reduceLT, Int.reduceLE, Int.reduceAdd, Int.reduceSub, Int.reduceMul, Int.reduceNeg, Int.reduceToNat, Nat.reduceMul]
    refine ⟨l.length - (i + 1), by omega, i + 1, by omega, rfl, by simp only [f0, go_sem, Nat.reduceEqDiff, Nat.reduceAdd, Nat.reduceLeDiff, Int.reduceEq, Int.reduceLT, Int.reduceLE, Int.reduceAdd, Int.reduceSub, Int.reduceMul, Int.reduceNeg, Int.reduceToNat, Nat.reduceMul], by simp only [f22, go_sem, Nat.reduceEqDiff, Nat.reduceAdd, Nat.reduceLeDiff, Int.reduceEq, Int.reduceLT, Int.reduceLE, Int.reduceAdd, Int.reduceSub, Int.reduceMul, Int.reduceNeg, Int.reduceToNat, Nat.reduceMul], by simp only [f23, go_sem, Nat.reduceEqDiff, Nat.reduceAdd, Nat.reduceLeDiff, Int.reduceEq, Int.reduceLT, Int.reduceLE, Int.reduceAdd, Int.reduceSub, Int.reduceMul, Int.reduceNeg, Int.reduceToNat, Nat.reduceMul], by simp only [go_sem, Nat.reduceEqDiff, Nat.reduceAdd, Nat.reduceLeDiff, Int.reduceEq, Int.reduceLT, Int.reduceLE, Int.reduceAdd, Int.reduceSub, Int.reduceMul, Int.reduceNeg, Int.reduceToNat, Nat.reduceMul] <;> rfl, st2, fun k h h2 => ?_⟩
    by_cases hki : k = i
    · subst hki; unfold badH; omega
    · exact hok k h (by omega)
  · exfalso
    obtain ⟨p, hp, hpb⟩ := hbad
    obtain ⟨k, hk, rfl⟩ := List.getElem_of_mem hp
    exact hok k hk (by omega) hpb
theorem v45 (h45 : tbl 45 = some (.code m45)) (h65 : tbl 65 = some (.code m65)) (h66 : tbl 66 = some (.nat natSort)) (size : Nat) (hb : size ≤ 1048576) (l : List (Int × Int)) (hl : l.length ≤ 2000) (hgood : ∀ p ∈ l, ¬ badH size p) {ad : Option Addr} {c : Nat} {H : AH} (hs : Sl H 2 (.slice ad l.length c) l.length (cells2 l)) (hnil : ad = none → l = []) :
    Val tbl 45 [.int .i64 size, .slice ad l.length c] H (.tuple #[mkS H (rs (covB l) size).length, .int .i64 0]) (mkH H 2 (rs (covB l) size).length (cells2 (rs (covB l) size))) := by
  refine Val.of_all fun Q hQ => ?_
  rw [rn_fun h45, k45]
  have a1 : ¬ (size : Int) < 0 := by omega
  have a2 : ¬ 1048576 < (size : Int) := by omega
  have a3 : ¬ (2000 : Int) < l.length := by omega
  obtain ⟨l', hp', hsd', hvs⟩ := sort_row h66 hb hl hgood
  have hlen' : l'.length = l.length := hp'.length_eq
  have hlaw : missL size l' = rs (covB l) size := by
    rw [miss_law (fun p hp => by have := hgood p (hp'.mem_iff.1 hp); unfold badH at this; omega) hsd']
    congr 1
    funext i
    exact covB_perm hp' i
  simp only [a1, a2, a3, go_sem, Nat.reduceEqDiff, Nat.reduceAdd, Nat.reduceLeDiff, Int.reduceEq, Int.reduceLT, Int.reduceLE, Int.reduceAdd, Int.reduceSub, Int.reduceMul, Int.reduceNeg, Int.reduceToNat, Nat.reduceMul]
  refine rn_loop (fun m f H' => ∃ i : Nat, i ≤ l.length ∧ m = l.length - i ∧ f 0 = .int .i64 size ∧ f 1 = .slice ad l.length c ∧ f 22 = .slice ad l.length c ∧ f 23 = .int .i64 l.length ∧ f 24 = .int .i64 i ∧ Junk H H') ?_ (n := l.length)
    ⟨0, by omega, rfl, by simp only [go_sem, Nat.reduceEqDiff, Nat.reduceAdd, Nat.reduceLeDiff, Int.reduceEq, Int.reduceLT, Int.reduceLE, Int.reduceAdd, Int.reduceSub, Int.reduceMul, Int.reduceNeg, Int.reduceToNat, Nat.reduceMul], by simp only [go_sem, Nat.reduceEqDiff, Nat.reduceAdd, Nat.reduceLeDiff, Int.reduceEq, Int.reduceLT, Int.reduceLE, Int.reduceAdd, Int.reduceSub, Int.reduceMul, Int.reduceNeg, Int.reduceToNat, Nat.reduceMul], by simp only [go_sem, Nat.reduceEqDiff, Nat.reduceAdd, Nat.reduceLeDiff, Int.reduceEq, Int.reduceLT, Int.reduceLE, Int.reduceAdd, Int.reduceSub, Int.reduceMul, Int.reduceNeg, Int.reduceToNat, Nat.reduceMul], by simp only [go_sem, Nat.reduceEqDiff, Nat.reduceAdd, Nat.reduceLeDiff, Int.reduceEq, Int.reduceLT, Int.reduceLE, Int.reduceAdd, Int.reduceSub, Int.reduceMul, Int.reduceNeg, Int.reduceToNat, Nat.reduceMul], by simp only [go_sem, Nat.reduceEqDiff, Nat.reduceAdd, Nat.reduceLeDiff, Int.reduceEq, Int.reduceLT, Int.reduceLE, Int.reduceAdd, Int.reduceSub, Int.reduceMul, Int.reduceNeg, Int.reduceToNat, Nat.reduceMul] <;> rfl, Junk.enter H⟩
  rintro m f H' ⟨i, hi, rfl, f0, f1, f22, f23, f24, st⟩
  by_cases hlt : (i : Int) < l.length
  · have hi2 : i < l.length := by omega
    have wi := w64 (x := (i : Int) + 1) (by omega) (by omega)
    have hp2 : H'.next < H'.next + 1 := by omega
    simp only [f0, f1, f22, f23, f24, hlt, go_sem, Nat.reduceEqDiff, Nat.reduceAdd, Nat.reduceLeDiff, Int.reduceEq, Int.reduceLT, Int.reduceLE, Int.reduceAdd, Int.reduceSub, Int.reduceMul, Int.reduceNeg, Int.reduceToNat, Nat.reduceMul]
    refine (hs.keep st.old).at_ hi2 fun q hq1 hq2 => ?_
    rw [cells2_at _ _ hi2] at hq2
    simp only [f0, f1, f22, f23, f24, hq2, hp2, stc_eq, stB_some, go_sem, Nat.reduceEqDiff, Nat.reduceAdd, Nat.reduceLeDiff, Int.reduceEq, Int.reduceLT, Int.reduceLE, Int.reduceAdd, Int.reduceSub, Int.reduceMul, Int.reduceNeg, Int.reduceToNat, Nat.reduceMul]
    have st2 := (st.push ⟨[.int .i64 0, .int .i64 0], 1, false⟩).set st.nx (some ⟨[.int .i64 l[i].1, .int .i64 l[i].2], 1, false⟩)
    have g9 := ps_get (H' := H') (b := ⟨[.int .i64 0, .int .i64 0], 1, false⟩) (c := ⟨[.int .i64 l[i].1, .int .i64 l[i].2], 1, false⟩)
    generalize (H'.push ⟨[.int .i64 0, .int .i64 0], 1, false⟩).set H'.next (some ⟨[.int .i64 l[i].1, .int .i64 l[i].2], 1, false⟩) = H3 at st2 g9 ⊢
    have hg := hgood _ (List.getElem_mem hi2)
    unfold badH at hg
    have b1 : ¬ l[i].1 < 0 := by omega
    have b2 : ¬ l[i].2 < l[i].1 := by omega
    have b3 : ¬ (size : Int) < l[i].2 := by omega
    simp only [f0, f1, f22, f23, f24, g9, b1, b2, b3, wi, go_sem, Nat.reduceEqDiff, Nat.reduceAdd, Nat.reduceLeDiff, Int.reduceEq, Int.reduceLT, Int.reduceLE, Int.reduceAdd, Int.reduceSub, Int.reduceMul, Int.reduceNeg, Int.reduceToNat, Nat.reduceMul]
    exact ⟨l.length - (i + 1), by omega, i + 1, by omega, rfl, by simp only [f0, go_sem, Nat.reduceEqDiff, Nat.reduceAdd, Nat.reduceLeDiff, Int.reduceEq, Int.reduceLT, Int.reduceLE, Int.reduceAdd, Int.reduceSub, Int.reduceMul, Int.reduceNeg, Int.reduceToNat, Nat.reduceMul], by simp only [f1, go_sem, Nat.reduceEqDiff, Nat.reduceAdd, Nat.reduceLeDiff, Int.reduceEq, Int.reduceLT, Int.reduceLE, Int.reduceAdd, Int.reduceSub, Int.reduceMul, Int.reduceNeg, Int.reduceToNat, Nat.reduceMul], by simp only [f22, go_sem, Nat.reduceEqDiff, Nat.reduceAdd, Nat.reduceLeDiff, Int.reduceEq, Int.reduceLT, Int.reduceLE, Int.reduceAdd, Int.reduceSub, Int.reduceMul, Int.reduceNeg, Int.reduceToNat, Nat.reduceMul], by simp only [f23, go_sem, Nat.reduceEqDiff, Nat.reduceAdd, Nat.reduceLeDiff, Int.reduceEq, Int.reduceLT, Int.reduceLE, Int.reduceAdd, Int.reduceSub, Int.reduceMul, Int.reduceNeg, Int.reduceToNat, Nat.reduceMul], by simp only [go_sem, Nat.reduceEqDiff, Nat.reduceAdd, Nat.reduceLeDiff, Int.reduceEq, Int.reduceLT, Int.reduceLE, Int.reduceAdd, Int.reduceSub, Int.reduceMul, Int.reduceNeg, Int.reduceToNat, Nat.reduceMul] <;> rfl, st2⟩
  · obtain ⟨v8, X1, X2, hC, hS, hSl, hJ⟩ : ∃ (v8 : Value) (X1 X2 : AH), Val tbl 65 [.slice ad l.length c] H' v8 X1 ∧ Val tbl 66 [v8, .func (.func 67) #[] #[]] X1 (.tuple #[]) X2 ∧ Sl X2 2 v8 l'.length (cells2 l') ∧ Junk H X2 := by
      cases ad with
      | none =>
        have hl0 := hnil rfl
        subst hl0
        have hl0' := List.eq_nil_of_length_eq_zero hlen'
        subst hl0'
        exact ⟨_, _, _, v65_nil h65 c H', val_sort_nil h66, .inl ⟨none, 0, rfl, rfl, rfl⟩, st⟩
      | some a =>
        have hg0 := AH.get_push_eq H' ⟨cells2 l, 2, false⟩
        refine ⟨_, _, _, v65 h65 l hl (hs.keep st.old), hvs H'.next l.length _ hg0, .inr ⟨_, l.length, by rw [hlen'], ?_⟩, (st.push _).set st.nx _⟩
        rw [hlen']
        exact ldc_all (AH.get_set_eq _ _ (by rw [AH.next_push]; omega)) (by rw [cells2_len, hlen'])
    obtain ⟨a8, c8, hv8⟩ := hSl.shape
    subst hv8
    simp only [f0, f1, f22, f23, f24, hlt, ↓hC.run, ↓hS.run, go_sem, Nat.reduceEqDiff, Nat.reduceAdd, Nat.reduceLeDiff, Int.reduceEq, Int.reduceLT, Int.reduceLE, Int.reduceAdd, Int.reduceSub, Int.reduceMul, Int.reduceNeg, Int.reduceToNat, Nat.reduceMul]
    have hfold : ∀ i (h : i < l'.length), (l'.take (i + 1)).foldl stM ([], 0) = stM ((l'.take i).foldl stM ([], 0)) l'[i] := fun i h => by
      rw [List.take_succ, List.getElem?_eq_getElem h, List.foldl_append]
      rfl
    have hrange : ∀ i, i ≤ l'.length → ((l'.take i).foldl stM ([], 0)).1.length ≤ i ∧ 0 ≤ ((l'.take i).foldl stM ([], 0)).2 ∧ ((l'.take i).foldl stM ([], 0)).2 ≤ 1048576 := by
      intro i
      induction i with
      | zero => intro _; simp
      | succ i ih =>
        intro h
        obtain ⟨h1, h2, h3⟩ := ih (by omega)
        have hg := hgood _ (hp'.mem_iff.1 (List.getElem_mem (show i < l'.length by omega)))
        unfold badH at hg
        rw [hfold i (by omega)]
        generalize (l'.take i).foldl stM ([], 0) = st0 at h1 h2 h3 ⊢
        unfold stM
        refine ⟨?_, ?_, ?_⟩
        · simp only
          split
          · rw [List.length_append]; simp; omega
          · omega
        · simp only
          split <;> omega
        · simp only
          split <;> omega
    refine rn_loop (fun m f H3 => ∃ (i : Nat) (s : Value), i ≤ l'.length ∧ m = l'.length - i ∧ f 0 = .int .i64 size ∧ f 9 = s ∧ f 10 = .int .i64 ((l'.take i).foldl stM ([], 0)).2 ∧ f 49 = .slice a8 l'.length c8 ∧ f 50 = .int .i64 l'.length ∧ f 51 = .int .i64 i ∧ Own X2.next H3 2 s ((l'.take i).foldl stM ([], 0)).1.length (cells2 ((l'.take i).foldl stM ([], 0)).1) ∧ Junk H H3 ∧ X2.next ≤ H3.next ∧ (∀ id, id < X2.next → H3.get id = X2.get id)) ?_ (n := l'.length)
      ⟨0, .slice none 0 0, by omega, rfl, by simp only [f0, go_sem, Nat.reduceEqDiff, Nat.reduceAdd, Nat.reduceLeDiff, Int.reduceEq, Int.reduceLT, Int.reduceLE, Int.reduceAdd, Int.reduceSub, Int.reduceMul, Int.reduceNeg, Int.reduceToNat, Nat.reduceMul], by simp only [go_sem, Nat.reduceEqDiff, Nat.reduceAdd, Nat.reduceLeDiff, Int.reduceEq, Int.reduceLT, Int.reduceLE, Int.reduceAdd, Int.reduceSub, Int.reduceMul, Int.reduceNeg, Int.reduceToNat, Nat.reduceMul] <;> rfl, by simp only [go_sem, Nat.reduceEqDiff, Nat.reduceAdd, Nat.reduceLeDiff, Int.reduceEq, Int.reduceLT, Int.reduceLE, Int.reduceAdd, Int.reduceSub, Int.reduceMul, Int.reduceNeg, Int.reduceToNat, Nat.reduceMul] <;> rfl, by simp only [go_sem, Nat.reduceEqDiff, Nat.reduceAdd, Nat.reduceLeDiff, Int.reduceEq, Int.reduceLT, Int.reduceLE, Int.reduceAdd, Int.reduceSub, Int.reduceMul, Int.reduceNeg, Int.reduceToNat, Nat.reduceMul], by simp only [go_sem, Nat.reduceEqDiff, Nat.reduceAdd, Nat.reduceLeDiff, Int.reduceEq, Int.reduceLT, Int.reduceLE, Int.reduceAdd, Int.reduceSub, Int.reduceMul, Int.reduceNeg, Int.reduceToNat, Nat.reduceMul], by simp only [go_sem, Nat.reduceEqDiff, Nat.reduceAdd, Nat.reduceLeDiff, Int.reduceEq, Int.reduceLT, Int.reduceLE, Int.reduceAdd, Int.reduceSub, Int.reduceMul, Int.reduceNeg, Int.reduceToNat, Nat.reduceMul] <;> rfl, .inl ⟨rfl, rfl, rfl⟩, hJ, Nat.le_refl _, fun _ _ => rfl⟩
    clear f0 f1 f22 f23 f24 hlt hi
    rintro m f H3 ⟨i, s, hi, rfl, f0, f9, f10, f49, f50, f51, ho, st3, hn3, old3⟩
    have hXn := hJ.nx
    have hl3 := st3.low
    by_cases hlt : (i : Int) < l'.length
    · have hi2 : i < l'.length := by omega
      have wi := w64 (x := (i : Int) + 1) (by omega) (by omega)
      have hp2 : H3.next < H3.next + 1 := by omega
      have hfi := hfold i hi2
      obtain ⟨hr1, hr2, hr3⟩ := hrange i (by omega)
      generalize (l'.take i).foldl stM ([], 0) = st0 at f10 ho hfi hr1 hr2 hr3
      obtain ⟨out, at'⟩ := st0
      simp only at f10 ho hr1 hr2 hr3
      simp only [f0, f9, f10, f49, f50, f51, hlt, go_sem, Nat.reduceEqDiff, Nat.reduceAdd, Nat.reduceLeDiff, Int.reduceEq, Int.reduceLT, Int.reduceLE, Int.reduceAdd, Int.reduceSub, Int.reduceMul, Int.reduceNeg, Int.reduceToNat, Nat.reduceMul]
      refine (hSl.keep old3).at_ hi2 fun q hq1 hq2 => ?_
      rw [cells2_at _ _ hi2] at hq2
      simp only [f0, f9, f10, f49, f50, f51, hq2, hp2, stc_eq, stB_some, go_sem, Nat.reduceEqDiff, Nat.reduceAdd, Nat.reduceLeDiff, Int.reduceEq, Int.reduceLT, Int.reduceLE, Int.reduceAdd, Int.reduceSub, Int.reduceMul, Int.reduceNeg, Int.reduceToNat, Nat.reduceMul]
      have st4 := (st3.push ⟨[.int .i64 0, .int .i64 0], 1, false⟩).set st3.nx (some ⟨[.int .i64 l'[i].1, .int .i64 l'[i].2], 1, false⟩)
      have g9 := ps_get (H' := H3) (b := ⟨[.int .i64 0, .int .i64 0], 1, false⟩) (c := ⟨[.int .i64 l'[i].1, .int .i64 l'[i].2], 1, false⟩)
      have ho4 : Own X2.next ((H3.push ⟨[.int .i64 0, .int .i64 0], 1, false⟩).set H3.next (some ⟨[.int .i64 l'[i].1, .int .i64 l'[i].2], 1, false⟩)) 2 s out.length (cells2 out) := ho.keep fun id hid => ps_old hid
      have old4 : ∀ id, id < X2.next → ((H3.push ⟨[.int .i64 0, .int .i64 0], 1, false⟩).set H3.next (some ⟨[.int .i64 l'[i].1, .int .i64 l'[i].2], 1, false⟩)).get id = X2.get id := fun id hid => (ps_old (by omega)).trans (old3 id hid)
      have n4 := ps_next (H' := H3) (b := ⟨[.int .i64 0, .int .i64 0], 1, false⟩) (c := ⟨[.int .i64 l'[i].1, .int .i64 l'[i].2], 1, false⟩)
      generalize (H3.push ⟨[.int .i64 0, .int .i64 0], 1, false⟩).set H3.next (some ⟨[.int .i64 l'[i].1, .int .i64 l'[i].2], 1, false⟩) = H4 at st4 g9 ho4 n4 old4 ⊢
      obtain ⟨s', H5, hap, ho5, st5, hb5, hold5⟩ := ho4.pair st4 hXn (by omega) (by omega) at' l'[i].1
      by_cases c2 : l'[i].1 < l'[i].2
      · by_cases c1 : at' < l'[i].1
        · have hst : stM (out, at') l'[i] = (out ++ [(at', l'[i].1)], max at' l'[i].2) := by unfold stM; simp only [if_pos c2, if_pos (And.intro c1 c2)]
          rw [hst] at hfi
          have hmax : (if at' < l'[i].2 then l'[i].2 else at') = max at' l'[i].2 := by split <;> omega
          have g95 : H5.get H3.next = some ⟨[.int .i64 l'[i].1, .int .i64 l'[i].2], 1, false⟩ := by
            rw [appended_other hap (by omega) (by rw [AH.next_push]; omega) (fun a n c e => ?_), AH.get_push_lt _ _ (by omega)]
            · exact g9
            · rcases ho4 with ⟨h1, _⟩ | ⟨b, h1, h2, _⟩
              · rw [h1] at e; simp at e
              · rw [h1] at e
                simp only [Value.slice.injEq, Option.some.injEq] at e
                obtain ⟨rfl, rfl, rfl⟩ := e
                refine ⟨rfl, fun hb3 => ?_⟩
                simp only at hb3
                rw [hb3, g9] at h2
                simp at h2
          simp only [f0, f9, f10, f49, f50, f51, g9, g95, c1, c2, hap, hmax, List.toList_toArray, wi, go_sem, Nat.reduceEqDiff, Nat.reduceAdd, Nat.reduceLeDiff, Int.reduceEq, Int.reduceLT, Int.reduceLE, Int.reduceAdd, Int.reduceSub, Int.reduceMul, Int.reduceNeg, Int.reduceToNat, Nat.reduceMul]
          exact ⟨l'.length - (i + 1), by omega, i + 1, s', by omega, rfl, by simp only [f0, go_sem, Nat.reduceEqDiff, Nat.reduceAdd, Nat.reduceLeDiff, Int.reduceEq, Int.reduceLT, Int.reduceLE, Int.reduceAdd, Int.reduceSub, Int.reduceMul, Int.reduceNeg, Int.reduceToNat, Nat.reduceMul], by simp only [go_sem, Nat.reduceEqDiff, Nat.reduceAdd, Nat.reduceLeDiff, Int.reduceEq, Int.reduceLT, Int.reduceLE, Int.reduceAdd, Int.reduceSub, Int.reduceMul, Int.reduceNeg, Int.reduceToNat, Nat.reduceMul], by simp only [go_sem, Nat.reduceEqDiff, Nat.reduceAdd, Nat.reduceLeDiff, Int.reduceEq, Int.reduceLT, Int.reduceLE, Int.reduceAdd, Int.reduceSub, Int.reduceMul, Int.reduceNeg, Int.reduceToNat, Nat.reduceMul]; rw [hfi], by simp only [f49, go_sem, Nat.reduceEqDiff, Nat.reduceAdd, Nat.reduceLeDiff, Int.reduceEq, Int.reduceLT, Int.reduceLE, Int.reduceAdd, Int.reduceSub, Int.reduceMul, Int.reduceNeg, Int.reduceToNat, Nat.reduceMul], by simp only [f50, go_sem, Nat.reduceEqDiff, Nat.reduceAdd, Nat.reduceLeDiff, Int.reduceEq, Int.reduceLT, Int.reduceLE, Int.reduceAdd, Int.reduceSub, Int.reduceMul, Int.reduceNeg, Int.reduceToNat, Nat.reduceMul], by simp only [go_sem, Nat.reduceEqDiff, Nat.reduceAdd, Nat.reduceLeDiff, Int.reduceEq, Int.reduceLT, Int.reduceLE, Int.reduceAdd, Int.reduceSub, Int.reduceMul, Int.reduceNeg, Int.reduceToNat, Nat.reduceMul] <;> rfl, by rw [hfi]; exact ho5, st5, hb5, fun id hid => (hold5 id hid).trans (old4 id hid)⟩
        · have hst : stM (out, at') l'[i] = (out, max at' l'[i].2) := by unfold stM; simp only [if_pos c2, if_neg (fun h : at' < l'[i].1 ∧ l'[i].1 < l'[i].2 => c1 h.1)]
          rw [hst] at hfi
          have hmax : (if at' < l'[i].2 then l'[i].2 else at') = max at' l'[i].2 := by split <;> omega
          simp only [f0, f9, f10, f49, f50, f51, g9, c1, c2, hmax, List.toList_toArray, wi, go_sem, Nat.reduceEqDiff, Nat.reduceAdd, Nat.reduceLeDiff, Int.reduceEq, Int.reduceLT, Int.reduceLE, Int.reduceAdd, Int.reduceSub, Int.reduceMul, Int.reduceNeg, Int.reduceToNat, Nat.reduceMul]
          exact ⟨l'.length - (i + 1), by omega, i + 1, s, by omega, rfl, by simp only [f0, go_sem, Nat.reduceEqDiff, Nat.reduceAdd, Nat.reduceLeDiff, Int.reduceEq, Int.reduceLT, Int.reduceLE, Int.reduceAdd, Int.reduceSub, Int.reduceMul, Int.reduceNeg, Int.reduceToNat, Nat.reduceMul], by simp only [f9, go_sem, Nat.reduceEqDiff, Nat.reduceAdd, Nat.reduceLeDiff, Int.reduceEq, Int.reduceLT, Int.reduceLE, Int.reduceAdd, Int.reduceSub, Int.reduceMul, Int.reduceNeg, Int.reduceToNat, Nat.reduceMul], by simp only [go_sem, Nat.reduceEqDiff, Nat.reduceAdd, Nat.reduceLeDiff, Int.reduceEq, Int.reduceLT, Int.reduceLE, Int.reduceAdd, Int.reduceSub, Int.reduceMul, Int.reduceNeg, Int.reduceToNat, Nat.reduceMul]; rw [hfi], by simp only [f49, go_sem, Nat.reduceEqDiff, Nat.reduceAdd, Nat.reduceLeDiff, Int.reduceEq, Int.reduceLT, Int.reduceLE, Int.reduceAdd, Int.reduceSub, Int.reduceMul, Int.reduceNeg, Int.reduceToNat, Nat.reduceMul], by simp only [f50, go_sem, Nat.reduceEqDiff, Nat.reduceAdd, Nat.reduceLeDiff, Int.reduceEq, Int.reduceLT, Int.reduceLE, Int.reduceAdd, Int.reduceSub, Int.reduceMul, Int.reduceNeg, Int.reduceToNat, Nat.reduceMul], by simp only [go_sem, Nat.reduceEqDiff, Nat.reduceAdd, Nat.reduceLeDiff, Int.reduceEq, Int.reduceLT, Int.reduceLE, Int.reduceAdd, Int.reduceSub, Int.reduceMul, Int.reduceNeg, Int.reduceToNat, Nat.reduceMul] <;> rfl, by rw [hfi]; exact ho4, st4, by omega, old4⟩
      · have hst : stM (out, at') l'[i] = (out, at') := by unfold stM; simp only [if_neg c2, if_neg (fun h : at' < l'[i].1 ∧ l'[i].1 < l'[i].2 => c2 h.2)]
        rw [hst] at hfi
        by_cases c1 : at' < l'[i].1
        · simp only [f0, f9, f10, f49, f50, f51, g9, c1, c2, wi, go_sem, Nat.reduceEqDiff, Nat.reduceAdd, Nat.reduceLeDiff, Int.reduceEq, Int.reduceLT, Int.reduceLE, Int.reduceAdd, Int.reduceSub, Int.reduceMul, Int.reduceNeg, Int.reduceToNat, Nat.reduceMul]
          exact ⟨l'.length - (i + 1), by omega, i + 1, s, by omega, rfl, by simp only [f0, go_sem, Nat.reduceEqDiff, Nat.reduceAdd, Nat.reduceLeDiff, Int.reduceEq, Int.reduceLT, Int.reduceLE, Int.reduceAdd, Int.reduceSub, Int.reduceMul, Int.reduceNeg, Int.reduceToNat, Nat.reduceMul], by simp only [f9, go_sem, Nat.reduceEqDiff, Nat.reduceAdd, Nat.reduceLeDiff, Int.reduceEq, Int.reduceLT, Int.reduceLE, Int.reduceAdd, Int.reduceSub, Int.reduceMul, Int.reduceNeg, Int.reduceToNat, Nat.reduceMul], by simp only [f10, go_sem, Nat.reduceEqDiff, Nat.reduceAdd, Nat.reduceLeDiff, Int.reduceEq, Int.reduceLT, Int.reduceLE, Int.reduceAdd, Int.reduceSub, Int.reduceMul, Int.reduceNeg, Int.reduceToNat, Nat.reduceMul]; rw [hfi], by simp only [f49, go_sem, Nat.reduceEqDiff, Nat.reduceAdd, Nat.reduceLeDiff, Int.reduceEq, Int.reduceLT, Int.reduceLE, Int.reduceAdd, Int.reduceSub, Int.reduceMul, Int.reduceNeg, Int.reduceToNat, Nat.reduceMul], by simp only [f50, go_sem, Nat.reduceEqDiff, Nat.reduceAdd, Nat.reduceLeDiff, Int.reduceEq, Int.reduceLT, Int.reduceLE, Int.reduceAdd, Int.reduceSub, Int.reduceMul, Int.reduceNeg, Int.reduceToNat, Nat.reduceMul], by simp only [go_sem, Nat.reduceEqDiff, Nat.reduceAdd, Nat.reduceLeDiff, Int.reduceEq, Int.reduceLT, Int.reduceLE, Int.reduceAdd, Int.reduceSub, Int.reduceMul, Int.reduceNeg, Int.reduceToNat, Nat.reduceMul] <;> rfl, by rw [hfi]; exact ho4, st4, by omega, old4⟩
        · simp only [f0, f9, f10, f49, f50, f51, g9, c1, c2, wi, go_sem, Nat.reduceEqDiff, Nat.reduceAdd, Nat.reduceLeDiff, Int.reduceEq, Int.reduceLT, Int.reduceLE, Int.reduceAdd, Int.reduceSub, Int.reduceMul, Int.reduceNeg, Int.reduceToNat, Nat.reduceMul]
          exact ⟨l'.length - (i + 1), by omega, i + 1, s, by omega, rfl, by simp only [f0, go_sem, Nat.reduceEqDiff, Nat.reduceAdd, Nat.reduceLeDiff, Int.reduceEq, Int.reduceLT, Int.reduceLE, Int.reduceAdd, Int.reduceSub, Int.reduceMul, Int.reduceNeg, Int.reduceToNat, Nat.reduceMul], by simp only [f9, go_sem, Nat.reduceEqDiff, Nat.reduceAdd, Nat.reduceLeDiff, Int.reduceEq, Int.reduceLT, Int.reduceLE, Int.reduceAdd, Int.reduceSub, Int.reduceMul, Int.reduceNeg, Int.reduceToNat, Nat.reduceMul], by simp only [f10, go_sem, Nat.reduceEqDiff, Nat.reduceAdd, Nat.reduceLeDiff, Int.reduceEq, Int.reduceLT, Int.reduceLE, Int.reduceAdd, Int.reduceSub, Int.reduceMul, Int.reduceNeg, Int.reduceToNat, Nat.reduceMul]; rw [hfi], by simp only [f49, go_sem, Nat.reduceEqDiff, Nat.reduceAdd, Nat.reduceLeDiff, Int.reduceEq, Int.reduceLT, Int.reduceLE, Int.reduceAdd, Int.reduceSub, Int.reduceMul, Int.reduceNeg, Int.reduceToNat, Nat.reduceMul], by simp only [f50, go_sem, Nat.reduceEqDiff, Nat.reduceAdd, Nat.reduceLeDiff, Int.reduceEq, Int.reduceLT, Int.reduceLE, Int.reduceAdd, Int.reduceSub, Int.reduceMul, Int.reduceNeg, Int.reduceToNat, Nat.reduceMul], by simp only [go_sem, Nat.reduceEqDiff, Nat.reduceAdd, Nat.reduceLeDiff, Int.reduceEq, Int.reduceLT, Int.reduceLE, Int.reduceAdd, Int.reduceSub, Int.reduceMul, Int.reduceNeg, Int.reduceToNat, Nat.reduceMul] <;> rfl, by rw [hfi]; exact ho4, st4, by omega, old4⟩
    · have hie : i = l'.length := by omega
      subst hie
      rw [List.take_length] at f10 ho
      have hm : missL size l' = if (l'.foldl stM ([], 0)).2 < size then (l'.foldl stM ([], 0)).1 ++ [((l'.foldl stM ([], 0)).2, (size : Int))] else (l'.foldl stM ([], 0)).1 := rfl
      obtain ⟨hr1, _, _⟩ := hrange l'.length (Nat.le_refl _)
      rw [List.take_length] at hr1
      rw [hlaw] at hm
      generalize l'.foldl stM ([], 0) = st0 at f10 ho hm hr1
      obtain ⟨out, at'⟩ := st0
      simp only at f10 ho hm hr1
      by_cases hA : at' < size
      · rw [if_pos hA] at hm
        obtain ⟨s', H5, hap, ho5, st5, hb5, hold5⟩ := ho.pair st3 hXn hn3 (by omega) at' (size : Int)
        rw [← hm] at ho5
        simp only [f0, f9, f10, f49, f50, f51, hlt, hA, hap, List.toList_toArray, go_sem, Nat.reduceEqDiff, Nat.reduceAdd, Nat.reduceLeDiff, Int.reduceEq, Int.reduceLT, Int.reduceLE, Int.reduceAdd, Int.reduceSub, Int.reduceMul, Int.reduceNeg, Int.reduceToNat, Nat.reduceMul]
        rw [back_own2 ho5 hXn (by have := st5.low; omega) (cells2_p1 _) rfl]
        exact hQ
      · rw [if_neg hA] at hm
        rw [← hm] at ho
        simp only [f0, f9, f10, f49, f50, f51, hlt, hA, go_sem, Nat.reduceEqDiff, Nat.reduceAdd, Nat.reduceLeDiff, Int.reduceEq, Int.reduceLT, Int.reduceLE, Int.reduceAdd, Int.reduceSub, Int.reduceMul, Int.reduceNeg, Int.reduceToNat, Nat.reduceMul]
        rw [back_own2 ho hXn (by omega) (cells2_p1 _) rfl]
        exact hQ
end Go.Proofs.Ytidpkoaomfbljaa.AM
namespace Go.Proofs.Ytidpkoaomfbljaa.AM
open Go
set_option linter.all false
set_option maxRecDepth 10000

/-- What the law does behind the parts. -/
def r10 : MCode := (.seq (.ops [⟨(some 73), none, false, (.mov (.tmp 0))⟩, ⟨(some 74), none, false, (.mov (.tmp 2))⟩, ⟨(some 75), none, false, (.call false (.func 45) [(.tmp 73), (.tmp 74)])⟩, ⟨(some 72), none, false, (.mov (.tmp 75))⟩, ⟨(some 76), none, false, (.extract (.tmp 72) 0)⟩, ⟨(some 77), none, false, (.extract (.tmp 72) 1)⟩, ⟨(some 10), none, false, (.mov (.tmp 76))⟩, ⟨(some 11), none, false, (.mov (.tmp 77))⟩]) (.seq (.ops [⟨(some 78), none, false, (.mov (.tmp 0))⟩, ⟨(some 79), none, false, (.call false (.func 17) [(.tmp 78), (.const (.int .i64 0)), (.const (.int .i64 1048576))])⟩, ⟨(some 80), none, false, (.un .not (.tmp 79))⟩, ⟨(some 81), none, false, (.call false (.func 16) [(.tmp 80), (.const (.int .i64 7))])⟩, ⟨(some 82), none, false, (.mov (.tmp 2))⟩, ⟨(some 83), none, false, (.len (.tmp 82))⟩, ⟨(some 84), none, false, (.bin .int .gtr (.tmp 83) (.const (.int .i64 2000)))⟩, ⟨(some 85), none, false, (.call false (.func 16) [(.tmp 84), (.const (.int .i64 8))])⟩, ⟨(some 86), none, false, (.buildSlice [(.int .i64 0), (.int .i64 0)] 1 2 [(0, (1, (.tmp 81))), (1, (1, (.tmp 85)))])⟩, ⟨(some 87), none, false, (.call false (.func 15) [(.tmp 86)])⟩, ⟨(some 9), none, false, (.mov (.tmp 87))⟩]) (.seq (.seq (.ops [⟨(some 88), none, false, (.mov (.tmp 2))⟩, ⟨(some 89), none, false, (.len (.tmp 88))⟩, ⟨(some 90), none, false, (.mov (.const (.int .i64 0)))⟩]) (.block 0 (.loop (.seq (.ops [⟨(some 91), none, false, (.bin .int .lss (.tmp 90) (.tmp 89))⟩]) (.seq (.cond (.tmp 91) .skip (.exit 0)) (.seq (.block 1 (.seq (.ops [⟨(some 92), none, false, (.idxS 2 (.tmp 88) (.tmp 90))⟩, ⟨(some 93), none, false, (.load true 2 (.tmp 92))⟩, ⟨(some 13), none, false, (.alloc [(.int .i64 0), (.int .i64 0)] 1)⟩, ⟨none, none, false, (.store 2 (.tmp 13) (.tmp 93))⟩]) (.ops [⟨(some 94), none, false, (.mov (.tmp 9))⟩, ⟨(some 95), none, false, (.idxA 2 1 (.tmp 13) (.const (.int .i64 0)))⟩, ⟨(some 96), none, false, (.load false 1 (.tmp 95))⟩, ⟨(some 97), none, false, (.bin .int .lss (.tmp 96) (.const (.int .i64 0)))⟩, ⟨(some 98), none, false, (.mov (.tmp 97))⟩, ⟨(some 99), (some (98, false)), false, (.idxA 2 1 (.tmp 13) (.const (.int .i64 1)))⟩, ⟨(some 100), (some (98, false)), false, (.load false 1 (.tmp 99))⟩, ⟨(some 101), (some (98, false)), false, (.idxA 2 1 (.tmp 13) (.const (.int .i64 0)))⟩, ⟨(some 102), (some (98, false)), false, (.load false 1 (.tmp 101))⟩, ⟨(some 103), (some (98, false)), false, (.bin .int .lss (.tmp 100) (.tmp 102))⟩, ⟨(some 104), none, false, (.pick (.tmp 98) (.const (.bool true)) (.tmp 103))⟩, ⟨(some 105), none, false, (.mov (.tmp 104))⟩, ⟨(some 106), (some (105, false)), false, (.idxA 2 1 (.tmp 13) (.const (.int .i64 1)))⟩, ⟨(some 107), (some (105, false)), false, (.load false 1 (.tmp 106))⟩, ⟨(some 108), (some (105, false)), false, (.mov (.tmp 0))⟩, ⟨(some 109), (some (105, false)), false, (.bin .int .gtr (.tmp 107) (.tmp 108))⟩, ⟨(some 110), none, false, (.pick (.tmp 105) (.const (.bool true)) (.tmp 109))⟩, ⟨(some 111), none, false, (.call false (.func 16) [(.tmp 110), (.const (.int .i64 7))])⟩, ⟨(some 112), none, false, (.buildSlice [(.int .i64 0), (.int .i64 0)] 1 2 [(0, (1, (.tmp 94))), (1, (1, (.tmp 111)))])⟩, ⟨(some 113), none, false, (.call false (.func 15) [(.tmp 112)])⟩, ⟨(some 9), none, false, (.mov (.tmp 113))⟩]))) (.ops [⟨(some 114), none, false, (.bin .int .add (.tmp 90) (.const (.int .i64 1)))⟩, ⟨(some 90), none, false, (.mov (.tmp 114))⟩]))))))) (.seq (.seq (.ops [⟨(some 115), none, false, (.mov (.tmp 9))⟩, ⟨(some 116), none, false, (.bin .int .neq (.tmp 115) (.const (.int .i64 0)))⟩]) (.cond (.tmp 116) (.seq (.ops [⟨(some 117), none, false, (.mov (.tmp 10))⟩, ⟨(some 118), none, false, (.len (.tmp 117))⟩, ⟨(some 119), none, false, (.bin .int .eql (.tmp 118) (.const (.int .i64 0)))⟩, ⟨(some 120), none, false, (.mov (.tmp 119))⟩, ⟨(some 121), (some (120, true)), false, (.mov (.tmp 11))⟩, ⟨(some 122), (some (120, true)), false, (.mov (.tmp 9))⟩, ⟨(some 123), (some (120, true)), false, (.bin .int .eql (.tmp 121) (.tmp 122))⟩, ⟨(some 124), none, false, (.pick (.tmp 120) (.tmp 123) (.const (.bool false)))⟩, ⟨(some 6), none, false, (.mov (.tmp 124))⟩]) .ret) .skip)) (.seq (.ops [⟨(some 125), none, false, (.mov (.tmp 11))⟩, ⟨(some 126), none, false, (.bin .int .eql (.tmp 125) (.const (.int .i64 0)))⟩, ⟨(some 127), none, false, (.mov (.tmp 126))⟩, ⟨(some 128), (some (127, true)), false, (.mov (.tmp 0))⟩, ⟨(some 129), (some (127, true)), false, (.bin .int .gtr (.tmp 128) (.const (.int .i64 3000)))⟩, ⟨(some 130), (some (127, true)), false, (.mov (.tmp 129))⟩, ⟨(some 131), (some (130, false)), false, (.mov (.tmp 10))⟩, ⟨(some 132), (some (130, false)), false, (.mov (.tmp 0))⟩, ⟨(some 133), (some (130, false)), false, (.mov (.tmp 2))⟩, ⟨(some 134), (some (130, false)), false, (.call false (.func 46) [(.tmp 132), (.tmp 133)])⟩, ⟨(some 135), (some (130, false)), false, (.call false (.func 43) [(.tmp 131), (.tmp 134)])⟩, ⟨(some 136), (some (127, true)), false, (.pick (.tmp 130) (.const (.bool true)) (.tmp 135))⟩, ⟨(some 137), none, false, (.pick (.tmp 127) (.tmp 136) (.const (.bool false)))⟩, ⟨(some 6), none, false, (.mov (.tmp 137))⟩]) .ret)))))
theorem k10_eq : k10 = .seq (.ops [⟨(some 6), none, false, (.mov (.const (.bool false)))⟩]) (.seq (.ops [⟨(some 15), none, false, (.mov (.tmp 0))⟩, ⟨(some 16), none, false, (.mov (.tmp 1))⟩, ⟨(some 17), none, false, (.call false (.func 42) [(.tmp 15), (.tmp 16)])⟩, ⟨(some 14), none, false, (.mov (.tmp 17))⟩, ⟨(some 18), none, false, (.extract (.tmp 14) 0)⟩, ⟨(some 19), none, false, (.extract (.tmp 14) 1)⟩, ⟨(some 7), none, false, (.mov (.tmp 18))⟩, ⟨(some 8), none, false, (.mov (.tmp 19))⟩]) (.seq (.ops [⟨(some 20), none, false, (.mov (.tmp 0))⟩, ⟨(some 21), none, false, (.call false (.func 17) [(.tmp 20), (.const (.int .i64 0)), (.const (.int .i64 1048576))])⟩, ⟨(some 22), none, false, (.un .not (.tmp 21))⟩, ⟨(some 23), none, false, (.mov (.tmp 22))⟩, ⟨(some 24), (some (23, false)), false, (.mov (.tmp 1))⟩, ⟨(some 25), (some (23, false)), false, (.call false (.func 17) [(.tmp 24), (.const (.int .i64 1)), (.const (.int .i64 1048576))])⟩, ⟨(some 26), (some (23, false)), false, (.un .not (.tmp 25))⟩, ⟨(some 27), none, false, (.pick (.tmp 23) (.const (.bool true)) (.tmp 26))⟩, ⟨(some 28), none, false, (.call false (.func 16) [(.tmp 27), (.const (.int .i64 7))])⟩, ⟨(some 9), none, false, (.mov (.tmp 28))⟩]) (.seq (.seq (.ops [⟨(some 29), none, false, (.mov (.tmp 9))⟩, ⟨(some 30), none, false, (.bin .int .eql (.tmp 29) (.const (.int .i64 0)))⟩, ⟨(some 31), none, false, (.mov (.tmp 30))⟩, ⟨(some 32), (some (31, true)), false, (.mov (.tmp 0))⟩, ⟨(some 33), (some (31, true)), false, (.mov (.tmp 1))⟩, ⟨(some 34), (some (31, true)), false, (.bin .int .add (.tmp 32) (.tmp 33))⟩, ⟨(some 35), (some (31, true)), false, (.bin .int .sub (.tmp 34) (.const (.int .i64 1)))⟩, ⟨(some 36), (some (31, true)), false, (.mov (.tmp 1))⟩, ⟨(some 37), (some (31, true)), false, (.bin .int .quo (.tmp 35) (.tmp 36))⟩, ⟨(some 38), (some (31, true)), false, (.bin .int .gtr (.tmp 37) (.const (.int .i64 1000)))⟩, ⟨(some 39), none, false, (.pick (.tmp 31) (.tmp 38) (.const (.bool false)))⟩]) (.cond (.tmp 39) (.ops [⟨(some 9), none, false, (.mov (.const (.int .i64 8)))⟩]) .skip)) (.seq (.seq (.ops [⟨(some 40), none, false, (.call false (.func 14) [])⟩, ⟨(some 41), none, false, (.un .not (.tmp 40))⟩, ⟨(some 42), none, false, (.mov (.tmp 41))⟩, ⟨(some 43), (some (42, false)), false, (.mov (.tmp 9))⟩, ⟨(some 44), (some (42, false)), false, (.bin .int .neq (.tmp 43) (.const (.int .i64 0)))⟩, ⟨(some 45), (some (42, false)), false, (.mov (.tmp 44))⟩, ⟨(some 46), (some (45, true)), false, (.mov (.tmp 7))⟩, ⟨(some 47), (some (45, true)), false, (.len (.tmp 46))⟩, ⟨(some 48), (some (45, true)), false, (.bin .int .gtr (.tmp 47) (.const (.int .i64 0)))⟩, ⟨(some 49), (some (45, true)), false, (.mov (.tmp 48))⟩, ⟨(some 50), (some (49, false)), false, (.mov (.tmp 8))⟩, ⟨(some 51), (some (49, false)), false, (.mov (.tmp 9))⟩, ⟨(some 52), (some (49, false)), false, (.bin .int .neq (.tmp 50) (.tmp 51))⟩, ⟨(some 53), (some (45, true)), false, (.pick (.tmp 49) (.const (.bool true)) (.tmp 52))⟩, ⟨(some 54), (some (42, false)), false, (.pick (.tmp 45) (.tmp 53) (.const (.bool false)))⟩, ⟨(some 55), none, false, (.pick (.tmp 42) (.const (.bool true)) (.tmp 54))⟩, ⟨(some 56), none, false, (.mov (.tmp 55))⟩, ⟨(some 57), (some (56, false)), false, (.mov (.tmp 9))⟩, ⟨(some 58), (some (56, false)), false, (.bin .int .eql (.tmp 57) (.const (.int .i64 0)))⟩, ⟨(some 59), (some (56, false)), false, (.mov (.tmp 58))⟩, ⟨(some 60), (some (59, true)), false, (.mov (.tmp 8))⟩, ⟨(some 61), (some (59, true)), false, (.bin .int .neq (.tmp 60) (.const (.int .i64 0)))⟩, ⟨(some 62), (some (59, true)), false, (.mov (.tmp 61))⟩, ⟨(some 63), (some (62, false)), false, (.mov (.tmp 7))⟩, ⟨(some 64), (some (62, false)), false, (.mov (.tmp 0))⟩, ⟨(some 65), (some (62, false)), false, (.mov (.tmp 1))⟩, ⟨(some 66), (some (62, false)), false, (.call false (.func 44) [(.tmp 64), (.tmp 65)])⟩, ⟨(some 67), (some (62, false)), false, (.call false (.func 43) [(.tmp 63), (.tmp 66)])⟩, ⟨(some 68), (some (62, false)), false, (.un .not (.tmp 67))⟩, ⟨(some 69), (some (59, true)), false, (.pick (.tmp 62) (.const (.bool true)) (.tmp 68))⟩, ⟨(some 70), (some (56, false)), false, (.pick (.tmp 59) (.tmp 69) (.const (.bool false)))⟩, ⟨(some 71), none, false, (.pick (.tmp 56) (.const (.bool true)) (.tmp 70))⟩]) (.cond (.tmp 71) (.seq (.ops [⟨(some 6), none, false, (.mov (.const (.bool false)))⟩]) .ret) .skip)) r10)))) := rfl
variable {tbl : Tbl} [hT : TMono tbl]
theorem first2 (a b : Int) : firstL [a, b] = if a ≠ 0 then a else b := by
  simp only [firstL, ne_eq, ite_not]
  by_cases h : b = 0 <;> simp [h]
theorem v15_2 (h15 : tbl 15 = some (.code m15)) (X : AH) (a b : Int) : Val tbl 15 [.slice (some ⟨X.next, 0, none⟩) 2 2] (X.push ⟨[.int .i64 a, .int .i64 b], 1, false⟩) (.int .i64 (firstL [a, b])) (X.push ⟨[.int .i64 a, .int .i64 b], 1, false⟩) :=
  v15 h15 _ _ [a, b] (.inr ⟨_, _, rfl, ldc_all (AH.get_push_eq _ _) rfl⟩) (by show 2 < 1000000000; omega)
/-- The law's error after i of them. -/
def wM (size : Int) (l : List (Int × Int)) : Nat → Int
  | 0 => firstL [if (!decide (0 ≤ size ∧ size ≤ 1048576)) = true then 7 else 0, if (2000 : Int) < l.length then 8 else 0]
  | i + 1 => firstL [wM size l i, if badH size (l.getD i (0, 0)) then 7 else 0]
theorem wM_zero {size : Int} {l : List (Int × Int)} : wM size l 0 = if ¬ (0 ≤ size ∧ size ≤ 1048576) then 7 else if 2000 < l.length then 8 else 0 := by
  unfold wM
  rw [first2]
  have e : ((2000 : Int) < l.length) ↔ 2000 < l.length := by omega
  simp only [e]
  by_cases h : 0 ≤ size ∧ size ≤ 1048576 <;> simp [h]
theorem wM_eq {size : Int} {l : List (Int × Int)} : ∀ i, i ≤ l.length → wM size l i = if wM size l 0 ≠ 0 then wM size l 0 else if (∃ k, ∃ h : k < l.length, k < i ∧ badH size l[k]) then 7 else 0
  | 0, _ => by
    by_cases h : wM size l 0 = 0
    · rw [if_neg (by simpa using h), if_neg (by rintro ⟨k, _, h2, _⟩; omega), h]
    · rw [if_pos h]
  | i + 1, hi => by
    have ih := wM_eq (size := size) (l := l) i (by omega)
    have hg : l.getD i (0, 0) = l[i] := by simp [show i < l.length by omega]
    show firstL [wM size l i, if badH size (l.getD i (0, 0)) then 7 else 0] = _
    rw [first2, hg, ih]
    by_cases h : wM size l 0 = 0
    · rw [h]
      simp only [ne_eq, not_true, if_false]
      by_cases hx : ∃ k, ∃ h : k < l.length, k < i ∧ badH size l[k]
      · obtain ⟨k, h1, h2, h3⟩ := hx
        have hx1 : ∃ k, ∃ h : k < l.length, k < i ∧ badH size l[k] := ⟨k, h1, h2, h3⟩
        have hx2 : ∃ k, ∃ h : k < l.length, k < i + 1 ∧ badH size l[k] := ⟨k, h1, by omega, h3⟩
        simp only [if_pos hx1, if_pos hx2]
        rfl
      · rw [if_neg hx, if_neg (by decide)]
        by_cases hb : badH size l[i]
        · rw [if_pos hb, if_pos ⟨i, by omega, by omega, hb⟩]
        · rw [if_neg hb, if_neg]
          rintro ⟨k, h1, h2, h3⟩
          by_cases hk : k = i
          · subst hk; exact hb h3
          · exact hx ⟨k, h1, by omega, h3⟩
    · rw [if_pos h, if_pos h, if_pos h]
structure PrtTb (tbl : Tbl) : Prop where
  h15 : tbl 15 = some (.code m15)
  h16 : tbl 16 = some (.code m16)
  h17 : tbl 17 = some (.code m17)
  h42 : tbl 42 = some (.code m42)
  h43 : tbl 43 = some (.code m43)
  h44 : tbl 44 = some (.code m44)
  h45 : tbl 45 = some (.code m45)
  h46 : tbl 46 = some (.code m46)
  h64 : tbl 64 = some (.code m64)
  h65 : tbl 65 = some (.code m65)
  h66 : tbl 66 = some (.nat natSort)
  h10 : tbl 10 = some (.code m10)
theorem v45_all (L : PrtTb tbl) (size : Int) (l : List (Int × Int)) {ad : Option Addr} {c : Nat} (hnil : ad = none → l = []) {H X : AH} (st : Junk H X) (hs : Sl X 2 (.slice ad l.length c) l.length (cells2 l)) :
    ∃ (vm : Value) (e : Int) (Y : AH), Val tbl 45 [.int .i64 size, .slice ad l.length c] X (.tuple #[vm, .int .i64 e]) Y ∧ Junk H Y ∧ (∀ id, id < X.next → Y.get id = X.get id) ∧ (wM size l l.length ≠ 0 → vm = .slice none 0 0 ∧ e = wM size l l.length) ∧ (wM size l l.length = 0 → e = 0 ∧ 0 ≤ size ∧ size ≤ 1048576 ∧ l.length ≤ 2000 ∧ ∃ s k, vm = .slice s (rs (covB l) size.toNat).length k ∧ Sl Y 2 vm (rs (covB l) size.toNat).length (cells2 (rs (covB l) size.toNat))) := by
  have hW := wM_eq (size := size) (l := l) l.length (Nat.le_refl _)
  by_cases h1 : 0 ≤ size ∧ size ≤ 1048576
  case neg =>
    have h0 : wM size l 0 = 7 := by rw [wM_zero, if_pos h1]
    rw [h0, if_pos (by decide)] at hW
    exact ⟨_, _, X, v45_size L.h45 size (by omega) _ X, st, fun _ _ => rfl, fun _ => ⟨rfl, hW.symm⟩, fun h => by rw [hW] at h; simp at h⟩
  by_cases h2 : 2000 < l.length
  · have h0 : wM size l 0 = 8 := by rw [wM_zero, if_neg (by simpa using h1), if_pos h2]
    rw [h0, if_pos (by decide)] at hW
    exact ⟨_, _, X, v45_many L.h45 size h1 h2 X, st, fun _ _ => rfl, fun _ => ⟨rfl, hW.symm⟩, fun h => by rw [hW] at h; simp at h⟩
  have h0 : wM size l 0 = 0 := by rw [wM_zero, if_neg (by simpa using h1), if_neg h2]
  rw [h0, if_neg (by decide)] at hW
  obtain ⟨n, rfl⟩ : ∃ n : Nat, size = (n : Int) := ⟨size.toNat, by omega⟩
  by_cases h3 : ∃ p ∈ l, badH (n : Int) p
  · have h3' : ∃ k, ∃ h : k < l.length, k < l.length ∧ badH (n : Int) l[k] := by
      obtain ⟨p, hp, hb⟩ := h3
      obtain ⟨k, hk, rfl⟩ := List.getElem_of_mem hp
      exact ⟨k, hk, hk, hb⟩
    rw [if_pos h3'] at hW
    exact ⟨_, _, X, v45_bad L.h45 n (by omega) l (by omega) h3 hs, st, fun _ _ => rfl, fun _ => ⟨rfl, hW.symm⟩, fun h => by rw [hW] at h; simp at h⟩
  · have h3' : ¬ ∃ k, ∃ h : k < l.length, k < l.length ∧ badH (n : Int) l[k] := by
      rintro ⟨k, hk, _, hb⟩
      exact h3 ⟨l[k], List.getElem_mem hk, hb⟩
    rw [if_neg h3'] at hW
    have hgood : ∀ p ∈ l, ¬ badH (n : Int) p := fun p hp hb => h3 ⟨p, hp, hb⟩
    have ho := own_mk (H := X) (es := 2) (cells2_len (rs (covB l) n))
    have hXn := st.nx
    have hXl := st.low
    refine ⟨_, _, _, v45 L.h45 L.h65 L.h66 n (by omega) l (by omega) hgood hs hnil, ⟨fun id hid => (mkH_get (by omega)).trans (st.old id hid), Nat.le_trans hXn mkH_next, by rw [mkH_low]; exact hXl⟩, fun id hid => mkH_get hid, fun h => absurd hW h, fun _ => ⟨rfl, by omega, by omega, by omega, ?_⟩⟩
    rw [Int.toNat_natCast]
    obtain ⟨s, k, hsk⟩ := ho.sl.shape
    exact ⟨s, k, hsk, ho.sl⟩
theorem r10_ok (L : PrtTb tbl) (h14 : ∀ X : AH, Val tbl 14 [] X (.bool true) X) (size : Int) (l : List (Int × Int)) (hll : l.length ≤ 9223372036854775807) {ad : Option Addr} {c : Nat} (hnil : ad = none → l = []) {H X : AH} (st : Junk H X) (hs : Sl X 2 (.slice ad l.length c) l.length (cells2 l)) (f : Fr) (f0 : f 0 = .int .i64 size) (f2 : f 2 = .slice ad l.length c)
    (Q : Ex → Fr → AH → Prop) (hQ : ∀ f' H'', f' 6 = .bool true → ¬ H''.low < H.next → Q .ret f' H'') : (@RunC tbl r10 f X ⟨Q⟩) := by
  rw [r10]
  obtain ⟨vm, e, Y, hV, stY, oldY, hbad, hgood⟩ := v45_all L size l hnil st hs
  have a17 := fun n a b X => v17 (tbl := tbl) L.h17 n a b X
  have a16 := fun b e X => v16b (tbl := tbl) L.h16 b e X
  have a15 := fun a b => v15_2 (tbl := tbl) L.h15 Y a b
  have hw0 : firstL [if (!decide (0 ≤ size ∧ size ≤ 1048576)) = true then 7 else 0, if (2000 : Int) < l.length then 8 else 0] = wM size l 0 := rfl
  have hsY := hs.keep oldY
  simp only [f0, f2, ↓hV.run, ↓(a17 _ _ _ _).run, ↓(a16 _ _ _).run, ↓(a15 _ _).run, hw0, go_sem, Nat.reduceEqDiff, Nat.reduceAdd, Nat.reduceLeDiff, Int.reduceEq, Int.reduceLT, Int.reduceLE, Int.reduceAdd, Int.reduceSub, Int.reduceMul, Int.reduceNeg, Int.reduceToNat, Nat.reduceMul]
  refine rn_loop (fun m f H' => ∃ i : Nat, i ≤ l.length ∧ m = l.length - i ∧ f 0 = .int .i64 size ∧ f 2 = .slice ad l.length c ∧ f 9 = .int .i64 (wM size l i) ∧ f 10 = vm ∧ f 11 = .int .i64 e ∧ f 88 = .slice ad l.length c ∧ f 89 = .int .i64 l.length ∧ f 90 = .int .i64 i ∧ Junk H H' ∧ Y.next ≤ H'.next ∧ (∀ id, id < Y.next → H'.get id = Y.get id)) ?_ (n := l.length)
    ⟨0, by omega, rfl, by simp only [f0, go_sem, Nat.reduceEqDiff, Nat.reduceAdd, Nat.reduceLeDiff, Int.reduceEq, Int.reduceLT, Int.reduceLE, Int.reduceAdd, Int.reduceSub, Int.reduceMul, Int.reduceNeg, Int.reduceToNat, Nat.reduceMul], by simp only [f2, go_sem, Nat.reduceEqDiff, Nat.reduceAdd, Nat.reduceLeDiff, Int.reduceEq, Int.reduceLT, Int.reduceLE, Int.reduceAdd, Int.reduceSub, Int.reduceMul, Int.reduceNeg, Int.reduceToNat, Nat.reduceMul], by simp only [go_sem, Nat.reduceEqDiff, Nat.reduceAdd, Nat.reduceLeDiff, Int.reduceEq, Int.reduceLT, Int.reduceLE, Int.reduceAdd, Int.reduceSub, Int.reduceMul, Int.reduceNeg, Int.reduceToNat, Nat.reduceMul], by simp only [go_sem, Nat.reduceEqDiff, Nat.reduceAdd, Nat.reduceLeDiff, Int.reduceEq, Int.reduceLT, Int.reduceLE, Int.reduceAdd, Int.reduceSub, Int.reduceMul, Int.reduceNeg, Int.reduceToNat, Nat.reduceMul], by simp only [go_sem, Nat.reduceEqDiff, Nat.reduceAdd, Nat.reduceLeDiff, Int.reduceEq, Int.reduceLT, Int.reduceLE, Int.reduceAdd, Int.reduceSub, Int.reduceMul, Int.reduceNeg, Int.reduceToNat, Nat.reduceMul], by simp only [go_sem, Nat.reduceEqDiff, Nat.reduceAdd, Nat.reduceLeDiff, Int.reduceEq, Int.reduceLT, Int.reduceLE, Int.reduceAdd, Int.reduceSub, Int.reduceMul, Int.reduceNeg, Int.reduceToNat, Nat.reduceMul], by simp only [go_sem, Nat.reduceEqDiff, Nat.reduceAdd, Nat.reduceLeDiff, Int.reduceEq, Int.reduceLT, Int.reduceLE, Int.reduceAdd, Int.reduceSub, Int.reduceMul, Int.reduceNeg, Int.reduceToNat, Nat.reduceMul], by simp only [go_sem, Nat.reduceEqDiff, Nat.reduceAdd, Nat.reduceLeDiff, Int.reduceEq, Int.reduceLT, Int.reduceLE, Int.reduceAdd, Int.reduceSub, Int.reduceMul, Int.reduceNeg, Int.reduceToNat, Nat.reduceMul] <;> rfl, stY.push _, by rw [AH.next_push]; omega, fun id hid => AH.get_push_lt Y _ hid⟩
  clear f0 f2
  rintro m f H' ⟨i, hi, rfl, f0, f2, f9, f10, f11, f88, f89, f90, st', hYn, oldH⟩
  by_cases hlt : (i : Int) < l.length
  · have hi2 : i < l.length := by omega
    have wi := w64 (x := (i : Int) + 1) (by omega) (by omega)
    have hp2 : H'.next < H'.next + 1 := by omega
    have hg : l.getD i (0, 0) = l[i] := by simp [hi2]
    have hws : wM size l (i + 1) = firstL [wM size l i, if badH size l[i] then 7 else 0] := by rw [← hg]; rfl
    simp only [f0, f2, f9, f10, f11, f88, f89, f90, hlt, go_sem, Nat.reduceEqDiff, Nat.reduceAdd, Nat.reduceLeDiff, Int.reduceEq, Int.reduceLT, Int.reduceLE, Int.reduceAdd, Int.reduceSub, Int.reduceMul, Int.reduceNeg, Int.reduceToNat, Nat.reduceMul]
    refine (hsY.keep oldH).at_ hi2 fun q hq1 hq2 => ?_
    rw [cells2_at _ _ hi2] at hq2
    simp only [f0, f2, f9, f10, f11, f88, f89, f90, hq2, hp2, stc_eq, stB_some, go_sem, Nat.reduceEqDiff, Nat.reduceAdd, Nat.reduceLeDiff, Int.reduceEq, Int.reduceLT, Int.reduceLE, Int.reduceAdd, Int.reduceSub, Int.reduceMul, Int.reduceNeg, Int.reduceToNat, Nat.reduceMul]
    have st2 := (st'.push ⟨[.int .i64 0, .int .i64 0], 1, false⟩).set st'.nx (some ⟨[.int .i64 l[i].1, .int .i64 l[i].2], 1, false⟩)
    have g9 := ps_get (H' := H') (b := ⟨[.int .i64 0, .int .i64 0], 1, false⟩) (c := ⟨[.int .i64 l[i].1, .int .i64 l[i].2], 1, false⟩)
    have n9 := ps_next (H' := H') (b := ⟨[.int .i64 0, .int .i64 0], 1, false⟩) (c := ⟨[.int .i64 l[i].1, .int .i64 l[i].2], 1, false⟩)
    have old9 : ∀ id, id < Y.next → ((H'.push ⟨[.int .i64 0, .int .i64 0], 1, false⟩).set H'.next (some ⟨[.int .i64 l[i].1, .int .i64 l[i].2], 1, false⟩)).get id = Y.get id := fun id hid => (ps_old (by omega)).trans (oldH id hid)
    generalize (H'.push ⟨[.int .i64 0, .int .i64 0], 1, false⟩).set H'.next (some ⟨[.int .i64 l[i].1, .int .i64 l[i].2], 1, false⟩) = H3 at st2 g9 n9 old9 ⊢
    have a15' := fun a b => v15_2 (tbl := tbl) L.h15 H3 a b
    have fin : ∀ e7 : Int, e7 = (if badH size l[i] then 7 else 0) → firstL [wM size l i, e7] = wM size l (i + 1) := fun e7 h => by rw [h, hws]
    have nxt : ∀ f' : Fr, ∀ b : Blk, f' 0 = .int .i64 size → f' 2 = .slice ad l.length c → f' 9 = .int .i64 (wM size l (i + 1)) → f' 10 = vm → f' 11 = .int .i64 e → f' 88 = .slice ad l.length c → f' 89 = .int .i64 l.length → f' 90 = .int .i64 ((i : Int) + 1) → ∃ n', n' < l.length - i ∧ ∃ i : Nat, i ≤ l.length ∧ n' = l.length - i ∧ f' 0 = .int .i64 size ∧ f' 2 = .slice ad l.length c ∧ f' 9 = .int .i64 (wM size l i) ∧ f' 10 = vm ∧ f' 11 = .int .i64 e ∧ f' 88 = .slice ad l.length c ∧ f' 89 = .int .i64 l.length ∧ f' 90 = .int .i64 i ∧ Junk H (H3.push b) ∧ Y.next ≤ (H3.push b).next ∧ (∀ id, id < Y.next → (H3.push b).get id = Y.get id) :=
      fun f' b e0 e2 e9 e10 e11 e88 e89 e90 => ⟨l.length - (i + 1), by omega, i + 1, by omega, rfl, e0, e2, e9, e10, e11, e88, e89, e90, st2.push b, by rw [AH.next_push]; omega, fun id hid => (AH.get_push_lt H3 b (by omega)).trans (old9 id hid)⟩
    by_cases b1 : l[i].1 < 0
    · have hw := fin 7 (by rw [if_pos (.inl b1)])
      simp only [f0, f2, f9, f10, f11, f88, f89, f90, g9, b1, ↓(a16 _ _ _).run, ↓(a15' _ _).run, hw, wi, go_sem, Nat.reduceEqDiff, Nat.reduceAdd, Nat.reduceLeDiff, Int.reduceEq, Int.reduceLT, Int.reduceLE, Int.reduceAdd, Int.reduceSub, Int.reduceMul, Int.reduceNeg, Int.reduceToNat, Nat.reduceMul]
      exact nxt _ _ (by simp only [f0, go_sem, Nat.reduceEqDiff, Nat.reduceAdd, Nat.reduceLeDiff, Int.reduceEq, Int.reduceLT, Int.reduceLE, Int.reduceAdd, Int.reduceSub, Int.reduceMul, Int.reduceNeg, Int.reduceToNat, Nat.reduceMul]) (by simp only [f2, go_sem, Nat.reduceEqDiff, Nat.reduceAdd, Nat.reduceLeDiff, Int.reduceEq, Int.reduceLT, Int.reduceLE, Int.reduceAdd, Int.reduceSub, Int.reduceMul, Int.reduceNeg, Int.reduceToNat, Nat.reduceMul]) (by simp only [go_sem, Nat.reduceEqDiff, Nat.reduceAdd, Nat.reduceLeDiff, Int.reduceEq, Int.reduceLT, Int.reduceLE, Int.reduceAdd, Int.reduceSub, Int.reduceMul, Int.reduceNeg, Int.reduceToNat, Nat.reduceMul]) (by simp only [f10, go_sem, Nat.reduceEqDiff, Nat.reduceAdd, Nat.reduceLeDiff, Int.reduceEq, Int.reduceLT, Int.reduceLE, Int.reduceAdd, Int.reduceSub, Int.reduceMul, Int.reduceNeg, Int.reduceToNat, Nat.reduceMul]) (by simp only [f11, go_sem, Nat.reduceEqDiff, Nat.reduceAdd, Nat.reduceLeDiff, Int.reduceEq, Int.reduceLT, Int.reduceLE, Int.reduceAdd, Int.reduceSub, Int.reduceMul, Int.reduceNeg, Int.reduceToNat, Nat.reduceMul]) (by simp only [f88, go_sem, Nat.reduceEqDiff, Nat.reduceAdd, Nat.reduceLeDiff, Int.reduceEq, Int.reduceLT, Int.reduceLE, Int.reduceAdd, Int.reduceSub, Int.reduceMul, Int.reduceNeg, Int.reduceToNat, Nat.reduceMul]) (by simp only [f89, go_sem, Nat.reduceEqDiff, Nat.reduceAdd, Nat.reduceLeDiff, Int.reduceEq, Int.reduceLT, Int.reduceLE, Int.reduceAdd, Int.reduceSub, Int.reduceMul, Int.reduceNeg, Int.reduceToNat, Nat.reduceMul]) (by simp only [go_sem, Nat.reduceEqDiff, Nat.reduceAdd, Nat.reduceLeDiff, Int.reduceEq, Int.reduceLT, Int.reduceLE, Int.reduceAdd, Int.reduceSub, Int.reduceMul, Int.reduceNeg, Int.reduceToNat, Nat.reduceMul])
    by_cases b2 : l[i].2 < l[i].1
    · have hw := fin 7 (by rw [if_pos (.inr (.inl b2))])
      simp only [f0, f2, f9, f10, f11, f88, f89, f90, g9, b1, b2, ↓(a16 _ _ _).run, ↓(a15' _ _).run, hw, wi, go_sem, Nat.reduceEqDiff, Nat.reduceAdd, Nat.reduceLeDiff, Int.reduceEq, Int.reduceLT, Int.reduceLE, Int.reduceAdd, Int.reduceSub, Int.reduceMul, Int.reduceNeg, Int.reduceToNat, Nat.reduceMul]
      exact nxt _ _ (by simp only [f0, go_sem, Nat.reduceEqDiff, Nat.reduceAdd, Nat.reduceLeDiff, Int.reduceEq, Int.reduceLT, Int.reduceLE, Int.reduceAdd, Int.reduceSub, Int.reduceMul, Int.reduceNeg, Int.reduceToNat, Nat.reduceMul]) (by simp only [f2, go_sem, Nat.reduceEqDiff, Nat.reduceAdd, Nat.reduceLeDiff, Int.reduceEq, Int.reduceLT, Int.reduceLE, Int.reduceAdd, Int.reduceSub, Int.reduceMul, Int.reduceNeg, Int.reduceToNat, Nat.reduceMul]) (by simp only [go_sem, Nat.reduceEqDiff, Nat.reduceAdd, Nat.reduceLeDiff, Int.reduceEq, Int.reduceLT, Int.reduceLE, Int.reduceAdd, Int.reduceSub, Int.reduceMul, Int.reduceNeg, Int.reduceToNat, Nat.reduceMul]) (by simp only [f10, go_sem, Nat.reduceEqDiff, Nat.reduceAdd, Nat.reduceLeDiff, Int.reduceEq, Int.reduceLT, Int.reduceLE, Int.reduceAdd, Int.reduceSub, Int.reduceMul, Int.reduceNeg, Int.reduceToNat, Nat.reduceMul]) (by simp only [f11, go_sem, Nat.reduceEqDiff, Nat.reduceAdd, Nat.reduceLeDiff, Int.reduceEq, Int.reduceLT, Int.reduceLE, Int.reduceAdd, Int.reduceSub, Int.reduceMul, Int.reduceNeg, Int.reduceToNat, Nat.reduceMul]) (by simp only [f88, go_sem, Nat.reduceEqDiff, Nat.reduceAdd, Nat.reduceLeDiff, Int.reduceEq, Int.reduceLT, Int.reduceLE, Int.reduceAdd, Int.reduceSub, Int.reduceMul, Int.reduceNeg, Int.reduceToNat, Nat.reduceMul]) (by simp only [f89, go_sem, Nat.reduceEqDiff, Nat.reduceAdd, Nat.reduceLeDiff, Int.reduceEq, Int.reduceLT, Int.reduceLE, Int.reduceAdd, Int.reduceSub, Int.reduceMul, Int.reduceNeg, Int.reduceToNat, Nat.reduceMul]) (by simp only [go_sem, Nat.reduceEqDiff, Nat.reduceAdd, Nat.reduceLeDiff, Int.reduceEq, Int.reduceLT, Int.reduceLE, Int.reduceAdd, Int.reduceSub, Int.reduceMul, Int.reduceNeg, Int.reduceToNat, Nat.reduceMul])
    by_cases b3 : size < l[i].2
    · have hw := fin 7 (by rw [if_pos (.inr (.inr b3))])
      simp only [f0, f2, f9, f10, f11, f88, f89, f90, g9, b1, b2, b3, ↓(a16 _ _ _).run, ↓(a15' _ _).run, hw, wi, go_sem, Nat.reduceEqDiff, Nat.reduceAdd, Nat.reduceLeDiff, Int.reduceEq, Int.reduceLT, Int.reduceLE, Int.reduceAdd, Int.reduceSub, Int.reduceMul, Int.reduceNeg, Int.reduceToNat, Nat.reduceMul]
      exact nxt _ _ (by simp only [f0, go_sem, Nat.reduceEqDiff, Nat.reduceAdd, Nat.reduceLeDiff, Int.reduceEq, Int.reduceLT, Int.reduceLE, Int.reduceAdd, Int.reduceSub, Int.reduceMul, Int.reduceNeg, Int.reduceToNat, Nat.reduceMul]) (by simp only [f2, go_sem, Nat.reduceEqDiff, Nat.reduceAdd, Nat.reduceLeDiff, Int.reduceEq, Int.reduceLT, Int.reduceLE, Int.reduceAdd, Int.reduceSub, Int.reduceMul, Int.reduceNeg, Int.reduceToNat, Nat.reduceMul]) (by simp only [go_sem, Nat.reduceEqDiff, Nat.reduceAdd, Nat.reduceLeDiff, Int.reduceEq, Int.reduceLT, Int.reduceLE, Int.reduceAdd, Int.reduceSub, Int.reduceMul, Int.reduceNeg, Int.reduceToNat, Nat.reduceMul]) (by simp only [f10, go_sem, Nat.reduceEqDiff, Nat.reduceAdd, Nat.reduceLeDiff, Int.reduceEq, Int.reduceLT, Int.reduceLE, Int.reduceAdd, Int.reduceSub, Int.reduceMul, Int.reduceNeg, Int.reduceToNat, Nat.reduceMul]) (by simp only [f11, go_sem, Nat.reduceEqDiff, Nat.reduceAdd, Nat.reduceLeDiff, Int.reduceEq, Int.reduceLT, Int.reduceLE, Int.reduceAdd, Int.reduceSub, Int.reduceMul, Int.reduceNeg, Int.reduceToNat, Nat.reduceMul]) (by simp only [f88, go_sem, Nat.reduceEqDiff, Nat.reduceAdd, Nat.reduceLeDiff, Int.reduceEq, Int.reduceLT, Int.reduceLE, Int.reduceAdd, Int.reduceSub, Int.reduceMul, Int.reduceNeg, Int.reduceToNat, Nat.reduceMul]) (by simp only [f89, go_sem, Nat.reduceEqDiff, Nat.reduceAdd, Nat.reduceLeDiff, Int.reduceEq, Int.reduceLT, Int.reduceLE, Int.reduceAdd, Int.reduceSub, Int.reduceMul, Int.reduceNeg, Int.reduceToNat, Nat.reduceMul]) (by simp only [go_sem, Nat.reduceEqDiff, Nat.reduceAdd, Nat.reduceLeDiff, Int.reduceEq, Int.reduceLT, Int.reduceLE, Int.reduceAdd, Int.reduceSub, Int.reduceMul, Int.reduceNeg, Int.reduceToNat, Nat.reduceMul])
    · have hw := fin 0 (by rw [if_neg (by unfold badH; omega)])
      simp only [f0, f2, f9, f10, f11, f88, f89, f90, g9, b1, b2, b3, ↓(a16 _ _ _).run, ↓(a15' _ _).run, hw, wi, go_sem, Nat.reduceEqDiff, Nat.reduceAdd, Nat.reduceLeDiff, Int.reduceEq, Int.reduceLT, Int.reduceLE, Int.reduceAdd, Int.reduceSub, Int.reduceMul, Int.reduceNeg, Int.reduceToNat, Nat.reduceMul]
      exact nxt _ _ (by simp only [f0, go_sem, Nat.reduceEqDiff, Nat.reduceAdd, Nat.reduceLeDiff, Int.reduceEq, Int.reduceLT, Int.reduceLE, Int.reduceAdd, Int.reduceSub, Int.reduceMul, Int.reduceNeg, Int.reduceToNat, Nat.reduceMul]) (by simp only [f2, go_sem, Nat.reduceEqDiff, Nat.reduceAdd, Nat.reduceLeDiff, Int.reduceEq, Int.reduceLT, Int.reduceLE, Int.reduceAdd, Int.reduceSub, Int.reduceMul, Int.reduceNeg, Int.reduceToNat, Nat.reduceMul]) (by simp only [go_sem, Nat.reduceEqDiff, Nat.reduceAdd, Nat.reduceLeDiff, Int.reduceEq, Int.reduceLT, Int.reduceLE, Int.reduceAdd, Int.reduceSub, Int.reduceMul, Int.reduceNeg, Int.reduceToNat, Nat.reduceMul]) (by simp only [f10, go_sem, Nat.reduceEqDiff, Nat.reduceAdd, Nat.reduceLeDiff, Int.reduceEq, Int.reduceLT, Int.reduceLE, Int.reduceAdd, Int.reduceSub, Int.reduceMul, Int.reduceNeg, Int.reduceToNat, Nat.reduceMul]) (by simp only [f11, go_sem, Nat.reduceEqDiff, Nat.reduceAdd, Nat.reduceLeDiff, Int.reduceEq, Int.reduceLT, Int.reduceLE, Int.reduceAdd, Int.reduceSub, Int.reduceMul, Int.reduceNeg, Int.reduceToNat, Nat.reduceMul]) (by simp only [f88, go_sem, Nat.reduceEqDiff, Nat.reduceAdd, Nat.reduceLeDiff, Int.reduceEq, Int.reduceLT, Int.reduceLE, Int.reduceAdd, Int.reduceSub, Int.reduceMul, Int.reduceNeg, Int.reduceToNat, Nat.reduceMul]) (by simp only [f89, go_sem, Nat.reduceEqDiff, Nat.reduceAdd, Nat.reduceLeDiff, Int.reduceEq, Int.reduceLT, Int.reduceLE, Int.reduceAdd, Int.reduceSub, Int.reduceMul, Int.reduceNeg, Int.reduceToNat, Nat.reduceMul]) (by simp only [go_sem, Nat.reduceEqDiff, Nat.reduceAdd, Nat.reduceLeDiff, Int.reduceEq, Int.reduceLT, Int.reduceLE, Int.reduceAdd, Int.reduceSub, Int.reduceMul, Int.reduceNeg, Int.reduceToNat, Nat.reduceMul])
  · have hie : i = l.length := by omega
    subst hie
    have hnl : ¬ H'.low < H.next := by have := st'.low; omega
    by_cases hW : wM size l l.length = 0
    · obtain ⟨he, hs1, hs2, hl2, s, k, hsk, hSlm⟩ := hgood hW
      subst he hsk
      obtain ⟨n, rfl⟩ : ∃ n : Nat, size = (n : Int) := ⟨size.toNat, by omega⟩
      rw [Int.toNat_natCast] at hSlm
      by_cases h3000 : (3000 : Int) < n
      · simp only [f0, f2, f9, f10, f11, f88, f89, f90, hlt, hW, h3000, go_sem, Nat.reduceEqDiff, Nat.reduceAdd, Nat.reduceLeDiff, Int.reduceEq, Int.reduceLT, Int.reduceLE, Int.reduceAdd, Int.reduceSub, Int.reduceMul, Int.reduceNeg, Int.reduceToNat, Nat.reduceMul]
        exact hQ _ _ (by simp only [go_sem, Nat.reduceEqDiff, Nat.reduceAdd, Nat.reduceLeDiff, Int.reduceEq, Int.reduceLT, Int.reduceLE, Int.reduceAdd, Int.reduceSub, Int.reduceMul, Int.reduceNeg, Int.reduceToNat, Nat.reduceMul]) hnl
      · have a46 := v46 L.h46 n (by omega) l hl2 (hsY.keep oldH)
        have ho := own_mk (H := H') (es := 2) (cells2_len (rs (covB l) n))
        have hSm : Sl (mkH H' 2 (rs (covB l) n).length (cells2 (rs (covB l) n))) 2 (.slice s (rs (covB l) (n : Int).toNat).length k) (rs (covB l) n).length (cells2 (rs (covB l) n)) := (hSlm.keep oldH).keep fun id hid => mkH_get hid
        rw [Int.toNat_natCast] at hSm f10
        have hrl := rs_len (c := covB l) n
        have a43 := v43 L.h43 (rs (covB l) n) (by omega) hSm ho.sl
        have hnl2 : ¬ (mkH H' 2 (rs (covB l) n).length (cells2 (rs (covB l) n))).low < H.next := by rw [mkH_low]; exact hnl
        simp only [f0, f2, f9, f10, f11, f88, f89, f90, hlt, hW, h3000, ↓a46.run, ↓a43.run, go_sem, Nat.reduceEqDiff, Nat.reduceAdd, Nat.reduceLeDiff, Int.reduceEq, Int.reduceLT, Int.reduceLE, Int.reduceAdd, Int.reduceSub, Int.reduceMul, Int.reduceNeg, Int.reduceToNat, Nat.reduceMul]
        exact hQ _ _ (by simp only [go_sem, Nat.reduceEqDiff, Nat.reduceAdd, Nat.reduceLeDiff, Int.reduceEq, Int.reduceLT, Int.reduceLE, Int.reduceAdd, Int.reduceSub, Int.reduceMul, Int.reduceNeg, Int.reduceToNat, Nat.reduceMul]) hnl2
    · obtain ⟨hvm, he⟩ := hbad hW
      subst hvm he
      simp only [f0, f2, f9, f10, f11, f88, f89, f90, hlt, hW, go_sem, Nat.reduceEqDiff, Nat.reduceAdd, Nat.reduceLeDiff, Int.reduceEq, Int.reduceLT, Int.reduceLE, Int.reduceAdd, Int.reduceSub, Int.reduceMul, Int.reduceNeg, Int.reduceToNat, Nat.reduceMul]
      exact hQ _ _ (by simp only [go_sem, Nat.reduceEqDiff, Nat.reduceAdd, Nat.reduceLeDiff, Int.reduceEq, Int.reduceLT, Int.reduceLE, Int.reduceAdd, Int.reduceSub, Int.reduceMul, Int.reduceNeg, Int.reduceToNat, Nat.reduceMul]) hnl
theorem v10 (L : PrtTb tbl) (h14 : ∀ X : AH, Val tbl 14 [] X (.bool true) X) (size part : Int) (hsr : -9223372036854775808 ≤ size ∧ size ≤ 9223372036854775807) (l : List (Int × Int)) (hll : l.length ≤ 9223372036854775807) {ad : Option Addr} {c : Nat} (hnil : ad = none → l = []) {H : AH} (hs : Sl H 2 (.slice ad l.length c) l.length (cells2 l)) :
    Val tbl 10 [.int .i64 size, .int .i64 part, .slice ad l.length c] H (.bool true) H := by
  refine Val.of_all fun Q hQ => ?_
  rw [rn_fun L.h10, k10_eq]
  have a17 := fun n a b X => v17 (tbl := tbl) L.h17 n a b X
  have a16 := fun b e X => v16b (tbl := tbl) L.h16 b e X
  have hend : ∀ (f : Fr) (X : AH), Junk H X → f 0 = .int .i64 size → f 2 = .slice ad l.length c → (@RunC tbl r10 f X ⟨finQ H [MRes.tmp 6] Q⟩) := fun f X st f0 f2 =>
    r10_ok L h14 size l hll hnil st (hs.keep st.old) f f0 f2 _ fun f'' H'' h6 hl => by
      simp only [finQ, h6, hl, go_sem, Nat.reduceEqDiff, Nat.reduceAdd, Nat.reduceLeDiff, Int.reduceEq, Int.reduceLT, Int.reduceLE, Int.reduceAdd, Int.reduceSub, Int.reduceMul, Int.reduceNeg, Int.reduceToNat, Nat.reduceMul]
      exact hQ
  by_cases hA : (0 ≤ size ∧ size ≤ 1048576) ∧ (1 ≤ part ∧ part ≤ 1048576)
  case neg =>
    have a42 := v42_bad L.h42 size part (by omega) H.enter
    by_cases b1 : 0 ≤ size ∧ size ≤ 1048576
    · have e1 : decide (0 ≤ size ∧ size ≤ 1048576) = true := decide_eq_true b1
      have e2 : decide (1 ≤ part ∧ part ≤ 1048576) = false := decide_eq_false (fun h => hA ⟨b1, h⟩)
      simp only [↓a42.run, ↓(a17 _ _ _ _).run, ↓(a16 _ _ _).run, ↓(h14 _).run, e1, e2, go_sem, Nat.reduceEqDiff, Nat.reduceAdd, Nat.reduceLeDiff, Int.reduceEq, Int.reduceLT, Int.reduceLE, Int.reduceAdd, Int.reduceSub, Int.reduceMul, Int.reduceNeg, Int.reduceToNat, Nat.reduceMul]
      exact hend _ _ (Junk.enter H) (by simp only [go_sem, Nat.reduceEqDiff, Nat.reduceAdd, Nat.reduceLeDiff, Int.reduceEq, Int.reduceLT, Int.reduceLE, Int.reduceAdd, Int.reduceSub, Int.reduceMul, Int.reduceNeg, Int.reduceToNat, Nat.reduceMul]) (by simp only [go_sem, Nat.reduceEqDiff, Nat.reduceAdd, Nat.reduceLeDiff, Int.reduceEq, Int.reduceLT, Int.reduceLE, Int.reduceAdd, Int.reduceSub, Int.reduceMul, Int.reduceNeg, Int.reduceToNat, Nat.reduceMul])
    · have e1 : decide (0 ≤ size ∧ size ≤ 1048576) = false := decide_eq_false b1
      simp only [↓a42.run, ↓(a17 _ _ _ _).run, ↓(a16 _ _ _).run, ↓(h14 _).run, e1, go_sem, Nat.reduceEqDiff, Nat.reduceAdd, Nat.reduceLeDiff, Int.reduceEq, Int.reduceLT, Int.reduceLE, Int.reduceAdd, Int.reduceSub, Int.reduceMul, Int.reduceNeg, Int.reduceToNat, Nat.reduceMul]
      exact hend _ _ (Junk.enter H) (by simp only [go_sem, Nat.reduceEqDiff, Nat.reduceAdd, Nat.reduceLeDiff, Int.reduceEq, Int.reduceLT, Int.reduceLE, Int.reduceAdd, Int.reduceSub, Int.reduceMul, Int.reduceNeg, Int.reduceToNat, Nat.reduceMul]) (by simp only [go_sem, Nat.reduceEqDiff, Nat.reduceAdd, Nat.reduceLeDiff, Int.reduceEq, Int.reduceLT, Int.reduceLE, Int.reduceAdd, Int.reduceSub, Int.reduceMul, Int.reduceNeg, Int.reduceToNat, Nat.reduceMul])
  obtain ⟨b1, b2⟩ := hA
  have e1 : decide (0 ≤ size ∧ size ≤ 1048576) = true := decide_eq_true b1
  have e2 : decide (1 ≤ part ∧ part ≤ 1048576) = true := decide_eq_true b2
  have a5 : ¬ part = 0 := by omega
  have w1 := w64 (x := size + part) (by omega) (by omega)
  have w2 := w64 (x := size + part - 1) (by omega) (by omega)
  have hd : 0 ≤ (size + part - 1).tdiv part ∧ (size + part - 1).tdiv part ≤ size + part - 1 := by
    rw [Int.tdiv_eq_ediv_of_nonneg (by omega)]
    exact ⟨Int.ediv_nonneg (by omega) (by omega), Int.ediv_le_self _ (by omega)⟩
  have w3 := w64 (x := (size + part - 1).tdiv part) (by omega) (by omega)
  by_cases hB : 1000 < (size + part - 1).tdiv part
  · have a42 := v42_large L.h42 size part b1 b2 hB H.enter
    simp only [↓a42.run, ↓(a17 _ _ _ _).run, ↓(a16 _ _ _).run, ↓(h14 _).run, e1, e2, a5, w1, w2, w3, hB, go_sem, Nat.reduceEqDiff, Nat.reduceAdd, Nat.reduceLeDiff, Int.reduceEq, Int.reduceLT, Int.reduceLE, Int.reduceAdd, Int.reduceSub, Int.reduceMul, Int.reduceNeg, Int.reduceToNat, Nat.reduceMul]
    exact hend _ _ (Junk.enter H) (by simp only [go_sem, Nat.reduceEqDiff, Nat.reduceAdd, Nat.reduceLeDiff, Int.reduceEq, Int.reduceLT, Int.reduceLE, Int.reduceAdd, Int.reduceSub, Int.reduceMul, Int.reduceNeg, Int.reduceToNat, Nat.reduceMul]) (by simp only [go_sem, Nat.reduceEqDiff, Nat.reduceAdd, Nat.reduceLeDiff, Int.reduceEq, Int.reduceLT, Int.reduceLE, Int.reduceAdd, Int.reduceSub, Int.reduceMul, Int.reduceNeg, Int.reduceToNat, Nat.reduceMul])
  · have a42 := v42 L.h42 L.h64 size part b1 b2 hB H.enter
    obtain ⟨P, hP⟩ : ∃ P, P = pcA size part := ⟨_, rfl⟩
    have hPl : P.length ≤ 1048577 := by
      have key : ∀ k at', (pcL size part k at').length ≤ k := by
        intro k
        induction k with
        | zero => intro _; simp [pcL]
        | succ k ih =>
          intro at'
          simp only [pcL]
          split
          · simp only [List.length_cons]; have := ih (at' + part); omega
          · simp
      rw [hP]
      have := key (size.toNat + 1) 0
      unfold pcA
      omega
    have a44 := fun X => v44 L.h44 size part b1 b2 X
    rw [← hP] at a42
    simp only [← hP] at a44
    have ho1 := own_mk (H := H.enter) (es := 2) (cells2_len P)
    have stA : Junk H (mkH H.enter 2 P.length (cells2 P)) := ⟨fun id hid => mkH_get hid, Nat.le_trans (Nat.le_refl _) (mkH_next (H := H.enter)), by rw [mkH_low]; exact Nat.le_refl _⟩
    generalize hX1 : mkH H.enter 2 P.length (cells2 P) = X1 at a42 ho1 stA
    generalize hs1 : mkS H.enter P.length = s1 at a42 ho1
    obtain ⟨sa, sc, hsa⟩ := ho1.sl.shape
    subst hsa
    have ho2 := own_mk (H := X1) (es := 2) (cells2_len P)
    have hS1 : Sl (mkH X1 2 P.length (cells2 P)) 2 (.slice sa P.length sc) P.length (cells2 P) := ho1.sl.keep fun id hid => mkH_get hid
    have a43 := v43 L.h43 P (by omega) hS1 ho2.sl
    have stB : Junk H (mkH X1 2 P.length (cells2 P)) := ⟨fun id hid => (mkH_get (by have := stA.nx; omega)).trans (stA.old id hid), Nat.le_trans stA.nx mkH_next, by rw [mkH_low]; exact stA.low⟩
    simp only [↓a42.run, ↓(a17 _ _ _ _).run, ↓(a16 _ _ _).run, ↓(h14 _).run, ↓(a44 _).run, ↓a43.run, e1, e2, a5, w1, w2, w3, hB, go_sem, Nat.reduceEqDiff, Nat.reduceAdd, Nat.reduceLeDiff, Int.reduceEq, Int.reduceLT, Int.reduceLE, Int.reduceAdd, Int.reduceSub, Int.reduceMul, Int.reduceNeg, Int.reduceToNat, Nat.reduceMul]
    exact hend _ _ stB (by simp only [go_sem, Nat.reduceEqDiff, Nat.reduceAdd, Nat.reduceLeDiff, Int.reduceEq, Int.reduceLT, Int.reduceLE, Int.reduceAdd, Int.reduceSub, Int.reduceMul, Int.reduceNeg, Int.reduceToNat, Nat.reduceMul]) (by simp only [go_sem, Nat.reduceEqDiff, Nat.reduceAdd, Nat.reduceLeDiff, Int.reduceEq, Int.reduceLT, Int.reduceLE, Int.reduceAdd, Int.reduceSub, Int.reduceMul, Int.reduceNeg, Int.reduceToNat, Nat.reduceMul])
end Go.Proofs.Ytidpkoaomfbljaa.AM
/- The start heap, one argument after the other. -/
namespace Go.Proofs.Ytidpkoaomfbljaa.AM
open Go Go.RowKit Go.ChangeShapes Go.WideShapes Go.ChangeAt
set_option linter.all false

/-- A start heap: all blocks are read only. -/
structure Start (w : World) (H : AH) (c : CMap) : Prop where
  sim : Sim w.heap.size c H w
  ro : ∀ id b, H.get id = some b → b.ro = true
  pos : 0 < H.next
  dead : H.get 0 = none
/-- What an argument adds. -/
structure More (H : AH) (c : CMap) (H' : AH) (c' : CMap) : Prop where
  nx : H.next ≤ H'.next
  old : ∀ id, id < H.next → H'.get id = H.get id
  vr : ∀ v v', VR H.next c v v' → VR H'.next c' v v'
theorem More.refl (H : AH) (c : CMap) : More H c H c := ⟨Nat.le_refl _, fun _ _ => rfl, fun _ _ h => h⟩
theorem More.trans {H H1 H2 : AH} {c c1 c2 : CMap} (h : More H c H1 c1) (k : More H1 c1 H2 c2) : More H c H2 c2 :=
  ⟨Nat.le_trans h.nx k.nx, fun id hid => by rw [k.old id (Nat.lt_of_lt_of_le hid h.nx), h.old id hid], fun v v' hv => k.vr _ _ (h.vr _ _ hv)⟩
theorem More.sl {H H1 : AH} {c c1 : CMap} (h : More H c H1 c1) {es n : Nat} {v : Value} {l : List Value} (hs : Sl H es v n l) : Sl H1 es v n l := by
  rcases hs with hs | ⟨a, cp, h1, h2⟩
  · exact .inl hs
  · refine .inr ⟨a, cp, h1, ?_⟩
    rw [ldc_eq, h.old _ (ldc_lt h2), ← ldc_eq]
    exact h2
theorem start0 (w : World) : Start w H0 (fun _ => none) := by
  have hg : ∀ id, H0.get id = none := fun id => by
    unfold H0 AH.get
    cases id with
    | zero => rfl
    | succ n => simp
  exact ⟨sim0 (Nat.le_refl _), fun id b h => by rw [hg] at h; simp at h, by simp [H0, AH.next], hg 0⟩
theorem Start.arg {w : World} {H : AH} {c : CMap} (st : Start w H c) {a : Addr} {n cap es : Nat} {l : List Value} (h : ArgRow w a n cap es l) (hp : l.all p1 = true) :
    ∃ c', Start w (H.push ⟨l, es, true⟩) c' ∧ VR (H.push ⟨l, es, true⟩).next c' (.slice (some ⟨H.next, 0, none⟩) n cap) (.slice (some a) n cap) ∧ More H c (H.push ⟨l, es, true⟩) c' := by
  obtain ⟨hspot, ⟨cs, ty, fz, hrow, hsz, hcs⟩, hlen, hnc⟩ := h
  have hdom : ∀ id, id < H.next → (if id = H.next then some ⟨a.block, a.off, cs.size, es⟩ else c id) = c id := fun id hid => if_neg (by omega)
  have hvr : ∀ v v', VR H.next c v v' → VR (H.push ⟨l, es, true⟩).next (fun id => if id = H.next then some ⟨a.block, a.off, cs.size, es⟩ else c id) v v' := fun v v' hv =>
    hv.mono (by rw [AH.next_push]; omega) fun id hid => .inl (hdom id hid)
  have hlt : ∀ id b, H.get id = some b → id < H.next := fun id b hb => AH.get_lt hb
  refine ⟨fun id => if id = H.next then some ⟨a.block, a.off, cs.size, es⟩ else c id, ⟨⟨fun id => ?_, fun id b loc hb hc => ?_, fun id id' b l1 l2 hne hb hro hc hc' => ?_, Nat.le_refl _⟩, fun id b hb => ?_, ?_, ?_⟩, ?_, ?_, fun id hid => AH.get_push_lt H _ hid, hvr⟩
  · simp only [gt_push]
    split
    · rfl
    · exact st.sim.live id
  · rw [gt_push] at hb
    split at hb
    · rename_i hid
      simp only [if_pos hid, Option.some.injEq] at hb hc
      subst hb
      subst hc
      refine ⟨rfl, p1_one hp, cs, ty, fz, l, hrow, rfl, fun h => by simp at h, ?_, hcs, .refl hp⟩
      simp only
      have : l.length ≤ cap * es := by rw [hlen]; exact Nat.mul_le_mul_right _ hnc
      omega
    · rename_i hid
      simp only [if_neg hid] at hc
      obtain ⟨h1, h2, cs1, ty1, fz1, mid, h3, h4, h5, h6, h7, h8⟩ := st.sim.blk id b loc hb hc
      exact ⟨h1, h2, cs1, ty1, fz1, mid, h3, h4, h5, h6, h7, ⟨h8.1, fun j hj => hvr _ _ (h8.2 j hj)⟩⟩
  · rw [gt_push] at hb
    split at hb
    · simp only [Option.some.injEq] at hb; subst hb; simp at hro
    · rw [st.ro id b hb] at hro; simp at hro
  · rw [gt_push] at hb
    split at hb
    · simp only [Option.some.injEq] at hb; subst hb; rfl
    · exact st.ro id b hb
  · rw [AH.next_push]; omega
  · rw [gt_push, if_neg (by have := st.pos; omega)]; exact st.dead
  · obtain ⟨b, o, sp⟩ := a
    simp only at hspot
    subst hspot
    have := VR.slice (n := (H.push ⟨l, es, true⟩).next) (c := fun id => if id = H.next then some ⟨b, o, cs.size, es⟩ else c id) (a := ⟨H.next, 0, none⟩) (l := ⟨b, o, cs.size, es⟩) (m := n) (k := cap) (k' := cap) (by rw [AH.next_push]; exact Nat.lt_succ_self _) (if_pos rfl) rfl (Nat.le_refl _) (by simpa using hsz)
    simpa using this
  · rw [AH.next_push]; omega
/-- What a slice argument is. -/
def ArgS (w : World) (v : Value) (n es : Nat) (l : List Value) : Prop :=
  ∃ cap, n ≤ cap ∧ cap ≤ maxLen ∧ ((v = .slice none 0 0 ∧ n = 0 ∧ l = []) ∨ ∃ a, v = .slice (some a) n cap ∧ ((cap = 0 ∧ n = 0 ∧ l = []) ∨ (0 < cap ∧ ArgRow w a n cap es l)))
theorem Start.slc {w : World} {H : AH} {c : CMap} (st : Start w H c) {v : Value} {n es : Nat} {l : List Value} (h : ArgS w v n es l) (hp : l.all p1 = true) :
    ∃ (c' : CMap) (H' : AH) (u : Value), Start w H' c' ∧ VR H'.next c' u v ∧ Sl H' es u n l ∧ More H c H' c' := by
  obtain ⟨cap, hc, _, ⟨rfl, rfl, rfl⟩ | ⟨a, rfl, ⟨rfl, rfl, rfl⟩ | ⟨hpos, har⟩⟩⟩ := h
  · exact ⟨_, _, .slice none 0 0, st, .plain rfl, .inl ⟨none, 0, rfl, rfl, rfl⟩, .refl _ _⟩
  · have hc0 : c 0 = none := by
      have := st.sim.live 0
      rw [st.dead] at this
      cases h0 : c 0 with
      | none => rfl
      | some x => rw [h0] at this; simp at this
    exact ⟨_, _, .slice (some ⟨0, 0, none⟩) 0 0, st, .sliceDead st.pos hc0, .inl ⟨_, 0, rfl, rfl, rfl⟩, .refl _ _⟩
  · obtain ⟨c', h1, h2, h3⟩ := st.arg har hp
    refine ⟨_, _, _, h1, h2, .inr ⟨_, cap, rfl, ?_⟩, h3⟩
    rw [ldc_eq]
    simp only [gt_push, if_true]
    rw [ldcB_some, if_pos (by simp [har.len]), ← har.len]
    simp
end Go.Proofs.Ytidpkoaomfbljaa.AM
/- Arguments that are structs with slices or strings in them. -/
namespace Go.Proofs.Ytidpkoaomfbljaa.AM
open Go Go.RowKit Go.ChangeShapes Go.WideShapes Go.ChangeAt
set_option linter.all false

section
variable {H : Type} {enc : TypeId × Value → H} {P : Program} {w : World} {base : Nat} {spare : Nat → Bool} {held : Bool}
theorem trod_slc_cells {t e : TypeId} {fuel : Nat} {v : Value} {x : DataW H × List MemPlace} (ht : P.underlying t = some (.slice e)) (h : DataW.trod enc P w base spare held fuel t [v] = some x) : v.cells.toList = [v] := by
  cases fuel with
  | zero => simp [DataW.trod] at h
  | succ fuel =>
    unfold DataW.trod at h
    simp only [ht] at h
    cases v <;> first | rfl | (simp at h; done)
/-- A slice of pairs that lies in a struct. -/
theorem read_pairsT {t e : TypeId} {v : Value} {x : DataW H × List MemPlace} {k : Nat} {w : World} (ht : P.underlying t = some (.slice e)) (hce : P.cellsOf e = 2)
    (hpair : ∀ (fuel : Nat) (cs : List Value) (x : DataW H × List MemPlace), DataW.trod enc P w 0 (fun _ => true) true fuel e cs = some x → ∃ a b, cs = [.int .i64 a, .int .i64 b] ∧ IntKind.i64.has a ∧ IntKind.i64.has b)
    (hd : DataW.trod enc P w 0 (fun _ => true) true k t [v] = some x) :
    ∃ asks : List (Int × Int), ArgS w v asks.length 2 (cells2 asks) := by
  have hv := trod_slc_cells ht hd
  have hv2 : v.cells.toList = [v] := hv
  rcases _root_.Go.Deep.open_slice ht hd with ⟨h1, _⟩ | ⟨a, len, cap, m, n, D, Pl, h1, _, hlc, hcap, hm, _, hx⟩
  · simp only [List.cons.injEq, and_true] at h1
    exact ⟨[], 0, by simp, by simp, .inl ⟨h1, rfl, rfl⟩⟩
  · simp only [List.cons.injEq, and_true] at h1
    simp only [if_true] at hm
    subst hm
    rw [hce] at hx
    have key : ∀ k, k ≤ m → ∃ asks : List (Int × Int), asks.length = k ∧ (∀ p ∈ asks, IntKind.i64.has p.1 ∧ IntKind.i64.has p.2) ∧ ∀ i, i < k → w.cells? 0 (a.add (i * 2)) 2 = some (((cells2 asks).drop (i * 2)).take 2) := by
      intro k
      induction k with
      | zero => intro _; exact ⟨[], rfl, by simp, fun i hi => by omega⟩
      | succ k ih =>
        intro hk
        obtain ⟨asks, h2, h3, h4⟩ := ih (by omega)
        obtain ⟨cs', h5, h6⟩ := hx k (by omega)
        obtain ⟨x, y, rfl, rx, ry⟩ := hpair _ _ _ h6
        refine ⟨asks ++ [(x, y)], by simp [h2], ?_, fun i hi => ?_⟩
        · intro p hp
          rcases List.mem_append.1 hp with hp | hp
          · exact h3 p hp
          · simp only [List.mem_singleton] at hp; subst hp; exact ⟨rx, ry⟩
        · rw [cells2_at _ _ (by simp [h2]; omega)]
          by_cases hik : i < k
          · have := h4 i hik
            rw [cells2_at _ _ (by omega)] at this
            rw [this]
            simp [List.getElem_append_left (show i < asks.length by omega)]
          · have : i = k := by omega
            subst this
            rw [h5]
            simp [List.getElem_append_right (show asks.length ≤ i by omega), h2]
    obtain ⟨asks, h2, h3, h4⟩ := key len hlc
    refine ⟨asks, m, by omega, hcap, .inr ⟨a, by rw [h1, h2], ?_⟩⟩
    by_cases hm0 : m = 0
    · have := List.eq_nil_of_length_eq_zero (show asks.length = 0 by omega)
      subst this
      exact .inl ⟨hm0, rfl, rfl⟩
    · refine .inr ⟨by omega, argRow_of (base := 0) (by omega) (by omega) (cells2_len asks) (by omega) (fun v hv => ?_) fun i hi => ?_⟩
      · have := List.all_eq_true.1 (p1_one (cells2_p1 asks)) v hv
        exact this
      · obtain ⟨cs', h5, _⟩ := hx i hi
        refine ⟨cs', h5, fun hin => ?_⟩
        have := h4 i (by omega)
        rw [h5] at this
        exact Option.some.inj this
end
end Go.Proofs.Ytidpkoaomfbljaa.AM
/- Arguments of laws that are texts, bytes, truths. -/
namespace Go.Proofs.Ytidpkoaomfbljaa.AM
open Go Go.RowKit Go.ChangeShapes Go.WideShapes Go.ChangeAt
set_option linter.all false

theorem has_i64 {n : Int} (h : IntKind.i64.has n) : -9223372036854775808 ≤ n ∧ n ≤ 9223372036854775807 := h
end Go.Proofs.Ytidpkoaomfbljaa.AM
/- From the abstract machine to a row of the second form. -/
namespace Go.Proofs.Ytidpkoaomfbljaa.AM
open Go Go.RowKit Go.ChangeShapes Go.WideShapes Go.ChangeAt
set_option linter.all false
section
variable {H : Type} {enc : TypeId × Value → H}
set_option maxRecDepth 100000 in
/-- A law whose arguments are of little bulk: it returns true, and each argument reads as it read. -/
theorem law_lifted_upto {os : Os} (started : os.Started) {f : FuncId} {fn : Func} {s : ChangeSpec} {tb : TypeId} {conds : List PathCond} (F : Stop.Interp)
    (hvars : s.vars = []) (hfn : Try.prog.funcs[f]? = some fn) (hinit : Try.prog.inits.idxOf? f = none) (hres : fn.resultTypes = #[tb]) (htb : Try.prog.underlying tb = some .bool)
    (hread : (fn.params.toList.all fun t => Try.prog.readableRec t && decide (t < Try.prog.types.size)) = true)
    (hspec : ∀ (ds : List (DataW H)), ds.length = fn.params.size → s.fn H (ds ++ []) = { results := [.lit (.bool true)], args := ds })
    (witness : ∃ (w : World) (tape : Tape) (i : Input), w.os = os ∧ (w.forCall tape i).Shaped Try.checked.prog ∧ i.vars = [] ∧ Input.okWide Try.checked.prog (w.forCall tape i) .any w.heap.size f i ∧
      (Rows.OpenSpec.upto s).pre6 enc Try.checked.prog fn conds false (w.forCall tape i).memory i.args ∧ ({} : Assume).holds Try.checked.prog (lone (Frame.enter Try.checked.prog f i.args .normal) [] (w.forCall tape i)))
    (run : ∀ (W : World) (args : Array Value) (ds : List (DataW H)) (ps : List MemPlace) (base : Nat), (∀ (j : Nat) t v, fn.params[j]? = some t → args[j]? = some v → Value.okWide Try.prog W .any base t v) →
      DataW.TrodAll enc Try.prog W 0 (fun _ => true) true fn.params.toList args.toList ds ps → (∀ x ∈ ps, x.block < W.heap.size) → Rows.uptoSmall H ds = true →
      Calls Try.prog f args W fun | .returned v', W' => v' = .bool true ∧ Below W.heap.size W W' | _, _ => False) :
    ReturnsInHanded {} Try.checked os f .any ((Rows.OpenSpec.upto s).pre6 enc Try.prog fn conds false) (((Rows.OpenSpec.upto s).at F).post enc Try.prog fn false true false false) := by
  refine returnsInHanded_of_cond (C := Try.checked) (s := Rows.OpenSpec.upto s) (k := Rows.uptoSmall) rfl own started hinit hfn witness ?_
  intro W base args ds gs before hval hW _ hk _
  have hW' := hW
  obtain ⟨p, q, hA, hV, rfl, hfz, hnd⟩ := hW
  have hvars' : (Rows.OpenSpec.upto s).vars = [] := hvars
  rw [hvars'] at hV
  obtain ⟨rfl, rfl⟩ := trodVars_none hV
  rw [List.append_nil] at hW' hk
  have hlt : ∀ x ∈ p, x.block < W.heap.size := fun x hx => by simpa using hW'.lt x hx
  refine (run W args ds p base hval hA hlt hk).mono fun e W' he => ?_
  cases e with
  | panicked ch => exact he.elim
  | outgrown => exact he.elim
  | returned v =>
    obtain ⟨rfl, hb⟩ := he
    refine ⟨_, rfl, ?_⟩
    have hlen : ds.length = fn.params.size := by
      have := (trodAll_length hA).2
      simpa using this
    have hs := hspec ds hlen
    refine ⟨ds, [], p, [], p, [], hW', ?_, ?_, ?_, hb.frame _, fun h => by simp at h⟩
    · show DataW.TrodAll enc _ _ _ _ _ _ _ (s.fn H (ds ++ [])).results _
      rw [hs, hres]
      exact trodAll_mk1 (shut_bool htb true)
    · show DataW.TrodAll enc _ _ _ _ _ _ _ (s.fn H (ds ++ [])).args _
      rw [hs]
      exact trodAll_below laidOut hb hread hA hlt
    · have e : (((Rows.OpenSpec.upto s).at F).fn H (ds ++ [])) = { results := [.lit (.bool true)], args := ds } := hs
      rw [e]
      first | exact hvars ▸ rfl | (show _ = _; simp [hvars']; rfl) | rfl
end
end Go.Proofs.Ytidpkoaomfbljaa.AM
/- An argument that is a slice of texts, of little bulk. -/
namespace Go.Proofs.Ytidpkoaomfbljaa.AM
open Go Go.RowKit Go.ChangeShapes Go.WideShapes Go.ChangeAt
set_option linter.all false

section
variable {H : Type} {enc : TypeId × Value → H} {P : Program} {w : World}
end
theorem slc_cells {P : Program} {w : World} {r : Reach} {b : Nat} {t e : TypeId} {v : Value} (ht : P.underlying t = some (.slice e)) (hval : Value.okWide P w r b t v) : v.cells.toList = [v] := by
  unfold Value.okWide at hval
  rw [ht] at hval
  unfold Cell.okWide at hval
  rw [ht] at hval
  cases v <;> simp only [Cell.ok, ht] at hval <;> rfl
end Go.Proofs.Ytidpkoaomfbljaa.AM
