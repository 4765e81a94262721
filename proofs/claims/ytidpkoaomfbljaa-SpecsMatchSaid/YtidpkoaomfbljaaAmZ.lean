/- The start heap, one argument after the other. -/
import Derived.Test.YtidpkoaomfbljaaAmX
namespace Go.Proofs.Ytidpkoaomfbljaa.AM
open Go Go.RowKit Go.ChangeShapes Go.WideShapes Go.ChangeAt
set_option linter.all false

/-- A start heap: all blocks are read only. -/
structure Start (w : World) (H : AH) (c : CMap) : Prop where
  sim : Sim w.heap.size c H w
  ro : ∀ id b, H.get id = some b → b.ro = true
  pos : 0 < H.next
  dead : H.get 0 = none
/-- What an argument adds. -/
structure More (H : AH) (c : CMap) (H' : AH) (c' : CMap) : Prop where
  nx : H.next ≤ H'.next
  old : ∀ id, id < H.next → H'.get id = H.get id
  vr : ∀ v v', VR H.next c v v' → VR H'.next c' v v'
theorem More.refl (H : AH) (c : CMap) : More H c H c := ⟨Nat.le_refl _, fun _ _ => rfl, fun _ _ h => h⟩
theorem More.trans {H H1 H2 : AH} {c c1 c2 : CMap} (h : More H c H1 c1) (k : More H1 c1 H2 c2) : More H c H2 c2 :=
  ⟨Nat.le_trans h.nx k.nx, fun id hid => by rw [k.old id (Nat.lt_of_lt_of_le hid h.nx), h.old id hid], fun v v' hv => k.vr _ _ (h.vr _ _ hv)⟩
theorem More.vrl {H H1 : AH} {c c1 : CMap} (h : More H c H1 c1) {l l' : List Value} (hl : VRL H.next c l l') : VRL H1.next c1 l l' := ⟨hl.1, fun j hj => h.vr _ _ (hl.2 j hj)⟩
theorem More.sl {H H1 : AH} {c c1 : CMap} (h : More H c H1 c1) {es n : Nat} {v : Value} {l : List Value} (hs : Sl H es v n l) : Sl H1 es v n l := by
  rcases hs with hs | ⟨a, cp, h1, h2⟩
  · exact .inl hs
  · refine .inr ⟨a, cp, h1, ?_⟩
    rw [ldc_eq, h.old _ (ldc_lt h2), ← ldc_eq]
    exact h2
theorem start0 (w : World) : Start w H0 (fun _ => none) := by
  have hg : ∀ id, H0.get id = none := fun id => by
    unfold H0 AH.get
    cases id with
    | zero => rfl
    | succ n => simp
  exact ⟨sim0 (Nat.le_refl _), fun id b h => by rw [hg] at h; simp at h, by simp [H0, AH.next], hg 0⟩
theorem Start.arg {w : World} {H : AH} {c : CMap} (st : Start w H c) {a : Addr} {n cap es : Nat} {l : List Value} (h : ArgRow w a n cap es l) (hp : l.all p1 = true) :
    ∃ c', Start w (H.push ⟨l, es, true⟩) c' ∧ VR (H.push ⟨l, es, true⟩).next c' (.slice (some ⟨H.next, 0, none⟩) n cap) (.slice (some a) n cap) ∧ More H c (H.push ⟨l, es, true⟩) c' := by
  obtain ⟨hspot, ⟨cs, ty, fz, hrow, hsz, hcs⟩, hlen, hnc⟩ := h
  have hdom : ∀ id, id < H.next → (if id = H.next then some ⟨a.block, a.off, cs.size, es⟩ else c id) = c id := fun id hid => if_neg (by omega)
  have hvr : ∀ v v', VR H.next c v v' → VR (H.push ⟨l, es, true⟩).next (fun id => if id = H.next then some ⟨a.block, a.off, cs.size, es⟩ else c id) v v' := fun v v' hv =>
    hv.mono (by rw [AH.next_push]; omega) fun id hid => .inl (hdom id hid)
  have hlt : ∀ id b, H.get id = some b → id < H.next := fun id b hb => AH.get_lt hb
  refine ⟨fun id => if id = H.next then some ⟨a.block, a.off, cs.size, es⟩ else c id, ⟨⟨fun id => ?_, fun id b loc hb hc => ?_, fun id id' b l1 l2 hne hb hro hc hc' => ?_, Nat.le_refl _⟩, fun id b hb => ?_, ?_, ?_⟩, ?_, ?_, fun id hid => AH.get_push_lt H _ hid, hvr⟩
  · simp only [gt_push]
    split
    · rfl
    · exact st.sim.live id
  · rw [gt_push] at hb
    split at hb
    · rename_i hid
      simp only [if_pos hid, Option.some.injEq] at hb hc
      subst hb
      subst hc
      refine ⟨rfl, p1_one hp, cs, ty, fz, l, hrow, rfl, fun h => by simp at h, ?_, hcs, .refl hp⟩
      simp only
      have : l.length ≤ cap * es := by rw [hlen]; exact Nat.mul_le_mul_right _ hnc
      omega
    · rename_i hid
      simp only [if_neg hid] at hc
      obtain ⟨h1, h2, cs1, ty1, fz1, mid, h3, h4, h5, h6, h7, h8⟩ := st.sim.blk id b loc hb hc
      exact ⟨h1, h2, cs1, ty1, fz1, mid, h3, h4, h5, h6, h7, ⟨h8.1, fun j hj => hvr _ _ (h8.2 j hj)⟩⟩
  · rw [gt_push] at hb
    split at hb
    · simp only [Option.some.injEq] at hb; subst hb; simp at hro
    · rw [st.ro id b hb] at hro; simp at hro
  · rw [gt_push] at hb
    split at hb
    · simp only [Option.some.injEq] at hb; subst hb; rfl
    · exact st.ro id b hb
  · rw [AH.next_push]; omega
  · rw [gt_push, if_neg (by have := st.pos; omega)]; exact st.dead
  · obtain ⟨b, o, sp⟩ := a
    simp only at hspot
    subst hspot
    have := VR.slice (n := (H.push ⟨l, es, true⟩).next) (c := fun id => if id = H.next then some ⟨b, o, cs.size, es⟩ else c id) (a := ⟨H.next, 0, none⟩) (l := ⟨b, o, cs.size, es⟩) (m := n) (k := cap) (k' := cap) (by rw [AH.next_push]; exact Nat.lt_succ_self _) (if_pos rfl) rfl (Nat.le_refl _) (by simpa using hsz)
    simpa using this
  · rw [AH.next_push]; omega
/-- What a slice argument is. -/
def ArgS (w : World) (v : Value) (n es : Nat) (l : List Value) : Prop :=
  ∃ cap, n ≤ cap ∧ cap ≤ maxLen ∧ ((v = .slice none 0 0 ∧ n = 0 ∧ l = []) ∨ ∃ a, v = .slice (some a) n cap ∧ ((cap = 0 ∧ n = 0 ∧ l = []) ∨ (0 < cap ∧ ArgRow w a n cap es l)))
theorem Start.slc {w : World} {H : AH} {c : CMap} (st : Start w H c) {v : Value} {n es : Nat} {l : List Value} (h : ArgS w v n es l) (hp : l.all p1 = true) :
    ∃ (c' : CMap) (H' : AH) (u : Value), Start w H' c' ∧ VR H'.next c' u v ∧ Sl H' es u n l ∧ More H c H' c' := by
  obtain ⟨cap, hc, _, ⟨rfl, rfl, rfl⟩ | ⟨a, rfl, ⟨rfl, rfl, rfl⟩ | ⟨hpos, har⟩⟩⟩ := h
  · exact ⟨_, _, .slice none 0 0, st, .plain rfl, .inl ⟨none, 0, rfl, rfl, rfl⟩, .refl _ _⟩
  · have hc0 : c 0 = none := by
      have := st.sim.live 0
      rw [st.dead] at this
      cases h0 : c 0 with
      | none => rfl
      | some x => rw [h0] at this; simp at this
    exact ⟨_, _, .slice (some ⟨0, 0, none⟩) 0 0, st, .sliceDead st.pos hc0, .inl ⟨_, 0, rfl, rfl, rfl⟩, .refl _ _⟩
  · obtain ⟨c', h1, h2, h3⟩ := st.arg har hp
    refine ⟨_, _, _, h1, h2, .inr ⟨_, cap, rfl, ?_⟩, h3⟩
    rw [ldc_eq]
    simp only [gt_push, if_true]
    rw [ldcB_some, if_pos (by simp [har.len]), ← har.len]
    simp
theorem ArgS.of_pairs {w : World} {v : Value} {asks : List (Int × Int)} {cap : Nat} (hc : asks.length ≤ cap) (hm : cap ≤ maxLen) (h : (v = .slice none 0 0 ∧ asks = []) ∨ ∃ a, v = .slice (some a) asks.length cap ∧ ((cap = 0 ∧ asks = []) ∨ (0 < cap ∧ ArgRow w a asks.length cap 2 (cells2 asks)))) : ArgS w v asks.length 2 (cells2 asks) := by
  refine ⟨cap, hc, hm, ?_⟩
  rcases h with ⟨h1, h2⟩ | ⟨a, h1, ⟨h2, h3⟩ | h2⟩
  · subst h2; exact .inl ⟨h1, rfl, rfl⟩
  · subst h3; exact .inr ⟨a, h1, .inl ⟨h2, rfl, rfl⟩⟩
  · exact .inr ⟨a, h1, .inr h2⟩
end Go.Proofs.Ytidpkoaomfbljaa.AM
