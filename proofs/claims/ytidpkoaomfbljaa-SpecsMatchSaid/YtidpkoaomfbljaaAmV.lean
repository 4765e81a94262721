/- Arguments that are slices of words: the start heap. -/
import Derived.Test.YtidpkoaomfbljaaAmU
import Derived.Deep.Slices
namespace Go.Proofs.Ytidpkoaomfbljaa.AM
open Go Go.RowKit Go.ChangeShapes Go.WideShapes Go.ChangeAt
set_option linter.all false

theorem cells_at {w : World} {base : Nat} {a : Addr} {n : Nat} {cs : List Value} (h : w.cells? base a n = some cs) : cs.length = n ∧ ∀ i, i < n → w.cell? (a.add i) = cs[i]? := by
  unfold World.cells? at h
  split at h
  case isFalse => simp at h
  have key : ∀ (l : List Nat) (cs : List Value), (l.mapM fun i => w.cell? (a.add i)) = some cs → cs.length = l.length ∧ ∀ (j i : Nat), l[j]? = some i → w.cell? (a.add i) = cs[j]? := by
    intro l
    induction l with
    | nil => intro cs h; simp at h; subst h; exact ⟨rfl, fun j i h => by simp at h⟩
    | cons x l ih =>
      intro cs h
      rw [List.mapM_cons] at h
      cases hx : w.cell? (a.add x) with
      | none => rw [hx] at h; simp at h
      | some v =>
        rw [hx] at h
        cases hm : (l.mapM fun i => w.cell? (a.add i)) with
        | none => rw [hm] at h; simp at h
        | some vs =>
          rw [hm] at h
          simp at h
          subst h
          obtain ⟨e1, e2⟩ := ih vs hm
          refine ⟨by simp [e1], fun j i hj => ?_⟩
          cases j with
          | zero => simp at hj; subst hj; simpa using hx
          | succ j => simp at hj; simpa using e2 j i hj
  obtain ⟨e1, e2⟩ := key _ cs h
  refine ⟨by simpa using e1, fun i hi => e2 i i (by simp [hi])⟩

/-- A slice argument: its cells lie in a row that the world has. -/
structure ArgRow (w : World) (a : Addr) (n cap es : Nat) (l : List Value) : Prop where
  spot : a.spot = none
  row : ∃ cs ty fz, w.heap[a.block]? = some (.cells cs ty fz) ∧ a.off + cap * es ≤ cs.size ∧ ∀ j, j < l.length → cs[a.off + j]? = some (l.getD j Go.undef)
  len : l.length = n * es
  nc : n ≤ cap
theorem argRow_of {w : World} {base : Nat} {a : Addr} {n cap es : Nat} {l : List Value} (hes : 0 < es) (hcap : 0 < cap) (hlen : l.length = n * es) (hnc : n ≤ cap) (hl : ∀ v ∈ l, one v = true)
    (h : ∀ i, i < cap → ∃ cs', w.cells? base (a.add (i * es)) es = some cs' ∧ (i < n → cs' = (l.drop (i * es)).take es)) : ArgRow w a n cap es l := by
  have hspot : a.spot = none := by
    obtain ⟨cs', h1, _⟩ := h 0 hcap
    have := (cells_at h1).2 0 hes
    have hx : (cs'[0]?).isSome = true := by
      rw [List.getElem?_eq_getElem (by rw [(cells_at h1).1]; exact hes)]; rfl
    rw [← this] at hx
    cases hs : a.spot with
    | none => rfl
    | some s =>
      unfold World.cell? at hx
      simp only [Nat.zero_mul, Addr.add] at hx
      split at hx <;> (try simp [hs] at hx)
  obtain ⟨b, o, sp⟩ := a
  simp only at hspot
  subst hspot
  have hcell : ∀ i j, i < cap → j < es → ∃ v, w.cell? ⟨b, o + (i * es + j), none⟩ = some v ∧ (i < n → v = l.getD (i * es + j) Go.undef) := by
    intro i j hi hj
    obtain ⟨cs', h1, h2⟩ := h i hi
    obtain ⟨e1, e2⟩ := cells_at h1
    have := e2 j hj
    rw [add_eq, add_eq, Nat.add_assoc, List.getElem?_eq_getElem (by omega)] at this
    refine ⟨_, this, fun hin => ?_⟩
    have h3 := h2 hin
    subst h3
    have hb : i * es + j < l.length := by
      rw [hlen]
      have := Nat.mul_le_mul_right es (Nat.succ_le_of_lt hin)
      rw [Nat.succ_mul] at this
      omega
    simp [List.getElem_take, List.getElem_drop, List.getElem?_eq_getElem hb]
  obtain ⟨v0, hv0, _⟩ := hcell 0 0 hcap hes
  cases hrow : w.heap[b]? with
  | none => unfold World.cell? at hv0; simp [hrow] at hv0
  | some ob =>
    cases ob with
    | cells cs ty fz =>
      have hc : ∀ k, w.cell? ⟨b, k, none⟩ = cs[k]? := fun k => by unfold World.cell?; simp [hrow]
      refine ⟨rfl, ⟨cs, ty, fz, hrow, ?_, fun j hj => ?_⟩, hlen, hnc⟩
      · obtain ⟨v, hv, _⟩ := hcell (cap - 1) (es - 1) (by omega) (by omega)
        rw [hc] at hv
        have := (Array.getElem?_eq_some_iff.1 hv).1
        have e : (cap - 1) * es + (es - 1) + 1 = cap * es := by
          obtain ⟨c, rfl⟩ : ∃ c, cap = c + 1 := ⟨cap - 1, by omega⟩
          rw [Nat.add_sub_cancel, Nat.succ_mul]
          omega
        simp only at this ⊢
        omega
      · rw [hlen] at hj
        have hi : j / es < n := Nat.div_lt_of_lt_mul (by rwa [Nat.mul_comm])
        obtain ⟨v, hv, hv2⟩ := hcell (j / es) (j % es) (by omega) (Nat.mod_lt _ hes)
        have e : j / es * es + j % es = j := by rw [Nat.mul_comm]; exact Nat.div_add_mod j es
        rw [e] at hv hv2
        rw [hc] at hv
        rw [hv, hv2 hi]
    | _ => unfold World.cell? at hv0; simp [hrow] at hv0
/-- The start with one slice argument. -/
def H1 (l : List Value) (es : Nat) : AH := ⟨[none, some ⟨l, es, true⟩], 2⟩
def c1 (a : Addr) (sz es : Nat) : CMap := fun id => if id = 1 then some ⟨a.block, a.off, sz, es⟩ else none
theorem sim1 {w : World} {a : Addr} {n cap es : Nat} {l : List Value} (h : ArgRow w a n cap es l) (hp : l.all p1 = true) : ∃ sz, Sim w.heap.size (c1 a sz es) (H1 l es) w ∧ VR (H1 l es).next (c1 a sz es) (.slice (some ⟨1, 0, none⟩) n cap) (.slice (some a) n cap) := by
  obtain ⟨hspot, ⟨cs, ty, fz, hrow, hsz, hcs⟩, hlen, hnc⟩ := h
  have hget : ∀ id, (H1 l es).get id = if id = 1 then some ⟨l, es, true⟩ else none := fun id => by
    unfold H1 AH.get
    match id with
    | 0 => rfl
    | 1 => rfl
    | n + 2 => simp
  refine ⟨cs.size, ⟨fun id => ?_, fun id b loc hb hc => ?_, fun id id' b l1 l2 hne hb hro hc hc' => ?_, Nat.le_refl _⟩, ?_⟩
  · rw [hget]; unfold c1; split <;> rfl
  · rw [hget] at hb
    unfold c1 at hc
    split at hb
    · rename_i hid
      rw [if_pos hid] at hc
      simp only [Option.some.injEq] at hb hc
      subst hb
      subst hc
      refine ⟨rfl, p1_one hp, cs, ty, fz, l, hrow, rfl, fun h => by simp at h, ?_, hcs, .refl hp⟩
      simp only
      have : l.length ≤ cap * es := by rw [hlen]; exact Nat.mul_le_mul_right _ hnc
      omega
    · simp at hb
  · rw [hget] at hb
    split at hb
    · simp only [Option.some.injEq] at hb; subst hb; simp at hro
    · simp at hb
  · obtain ⟨b, o, sp⟩ := a
    simp only at hspot
    subst hspot
    have := VR.slice (n := (H1 l es).next) (c := c1 ⟨b, o, none⟩ cs.size es) (a := ⟨1, 0, none⟩) (l := ⟨b, o, cs.size, es⟩) (m := n) (k := cap) (k' := cap) (by simp [H1, AH.next]) (if_pos rfl) rfl (Nat.le_refl _) (by simpa using hsz)
    simpa using this
end Go.Proofs.Ytidpkoaomfbljaa.AM
