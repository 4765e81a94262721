/- The law PartsMatch: parts, and what is left of a file, are as the reference says. No conditions. -/
import Derived.Test.YtidpkoaomfbljaaPt3
namespace Go.Proofs.Ytidpkoaomfbljaa
open Go Go.RowKit Go.ChangeShapes Go.WideShapes Go.ChangeAt AM
set_option linter.all false

def partsMatchT : List (Nat × Ent) := [(10, .code m10), (11, .code m11), (12, .code m12), (14, .code m14), (15, .code m15), (16, .code m16), (17, .code m17), (18, .code m18), (42, .code m42), (43, .code m43), (44, .code m44), (45, .code m45), (46, .code m46), (47, .code m47), (48, .code m48), (49, .code m49), (64, .code m64), (65, .code m65), (66, .nat natSort), (68, .code m68)]
instance : TMono (lookT partsMatchT) := lookT_mono (by
  intro p hp g h
  simp only [partsMatchT, List.mem_cons, List.not_mem_nil, or_false] at hp
  rcases hp with rfl | rfl | rfl | rfl | rfl | rfl | rfl | rfl | rfl | rfl | rfl | rfl | rfl | rfl | rfl | rfl | rfl | rfl | rfl | rfl
  · simp at h
  · simp at h
  · simp at h
  · simp at h
  · simp at h
  · simp at h
  · simp at h
  · simp at h
  · simp at h
  · simp at h
  · simp at h
  · simp at h
  · simp at h
  · simp at h
  · simp at h
  · simp at h
  · simp at h
  · simp at h
  · simp only [Ent.nat.injEq] at h; subst h; exact natSort_mono
  · simp at h)
theorem partsMatchT_ok (N : Nat) : TblOk Try.prog N (lookT partsMatchT) := tblOk_of (by
  intro p hp
  simp only [partsMatchT, List.mem_cons, List.not_mem_nil, or_false] at hp
  rcases hp with rfl | rfl | rfl | rfl | rfl | rfl | rfl | rfl | rfl | rfl | rfl | rfl | rfl | rfl | rfl | rfl | rfl | rfl | rfl | rfl
  · exact ⟨_, Try.func10, c10⟩
  · exact ⟨_, Try.func11, c11⟩
  · exact ⟨_, Try.func12, c12⟩
  · exact ⟨_, Try.func14, c14⟩
  · exact ⟨_, Try.func15, c15⟩
  · exact ⟨_, Try.func16, c16⟩
  · exact ⟨_, Try.func17, c17⟩
  · exact ⟨_, Try.func18, c18⟩
  · exact ⟨_, Try.func42, c42⟩
  · exact ⟨_, Try.func43, c43⟩
  · exact ⟨_, Try.func44, c44⟩
  · exact ⟨_, Try.func45, c45⟩
  · exact ⟨_, Try.func46, c46⟩
  · exact ⟨_, Try.func47, c47⟩
  · exact ⟨_, Try.func48, c48⟩
  · exact ⟨_, Try.func49, c49⟩
  · exact ⟨_, Try.func64, c64⟩
  · exact ⟨_, Try.func65, c65⟩
  · exact natSort_ok N
  · exact ⟨_, Try.func68, c68⟩)
set_option maxRecDepth 100000 in
theorem partsMatch_run {H : Type} {enc : TypeId × Value → H} (W : World) (args : Array Value) (ds : List (DataW H)) (ps : List MemPlace) (base : Nat) (hval : ∀ (j : Nat) t v, Try.f10.params[j]? = some t → args[j]? = some v → Value.okWide Try.prog W .any base t v)
    (hA : DataW.TrodAll enc Try.prog W 0 (fun _ => true) true Try.f10.params.toList args.toList ds ps) :
    Calls Try.prog 10 args W fun | .returned v', W' => v' = .bool true ∧ Below W.heap.size W W' | _, _ => False := by
  rw [Try.params10] at hval hA
  obtain ⟨v0, l0, d0, e0, p0', q0, g0, rfl, rfl, t0, hA⟩ := trodAll_cons hA
  obtain ⟨v1, l1, d1, e1, p1', q1, rfl, rfl, rfl, t1, hA⟩ := trodAll_cons hA
  obtain ⟨v2, l2, d2, e2, p2', q2, rfl, rfl, rfl, t2, hA⟩ := trodAll_cons hA
  obtain ⟨rfl, rfl, rfl⟩ := trodAll_nil hA
  have hargs : args = #[v0, v1, v2] := by rw [← Array.toList_inj, g0]
  subst hargs
  obtain ⟨x0, rfl, r0⟩ := val_int (k := .i64) (by kernel_rfl) (hval 0 _ v0 rfl rfl)
  obtain ⟨x1, rfl, r1⟩ := val_int (k := .i64) (by kernel_rfl) (hval 1 _ v1 rfl rfl)
  obtain ⟨fuel, hfu⟩ := t2
  have hv2 : v2.cells.toList = [v2] := slc_cells Try.underlying36 (hval 2 36 v2 rfl rfl)
  rw [hv2] at hfu
  obtain ⟨l, ha⟩ := read_pairsT Try.underlying36 (by kernel_rfl) (fun _ _ _ h => trod_pair (q := 3) Try.underlying40 (by kernel_rfl) (by kernel_rfl) (by kernel_rfl) h) hfu
  have hml : maxLen ≤ 9223372036854775807 := by decide
  have hll : l.length ≤ 9223372036854775807 := by obtain ⟨cap, h1, h2, _⟩ := ha; omega
  obtain ⟨c', H', u, st, hvr, hsl, hmo⟩ := (start0 W).slc ha (cells2_p1 l)
  obtain ⟨ad, cp, rfl⟩ := hsl.shape
  have hnil : ad = none → l = [] := fun h => by
    subst h
    rcases hsl with ⟨a, c, e, h0, _⟩ | ⟨a, c, e, _⟩
    · exact List.eq_nil_of_length_eq_zero h0
    · simp at e
  have hv14 := fun X => v14 (tbl := lookT partsMatchT) rfl rfl rfl rfl rfl rfl rfl rfl X
  have hval10 := v10 (tbl := lookT partsMatchT) ⟨rfl, rfl, rfl, rfl, rfl, rfl, rfl, rfl, rfl, rfl, rfl, rfl⟩ hv14 x0 x1 (has_i64 r0) l hll hnil hsl
  refine (calls_of_val mixed partsMatchT_ok Try.func10 (by kernel_rfl) (by kernel_rfl) hval10 st.sim (.cons (.of2 rfl) (.cons (.of2 rfl) (.cons hvr .nil)))).mono fun e W' he => ?_
  cases e with
  | panicked ch => exact he.elim
  | outgrown => exact he.elim
  | returned v =>
    obtain ⟨c', h1, h2, h3⟩ := he
    exact ⟨h1.bool, h3.below⟩
set_option maxRecDepth 100000 in
theorem partsMatch_lifted (os : Os) (started : os.Started) (H : Type) (enc : TypeId × Value → H) :
    ReturnsInHanded {} Try.checked os 10 .any (Rows.partsMatchSpec.pre6 enc Try.prog Try.f10 Rows.partsMatchRow.domain false) (Rows.partsMatchSpec.post enc Try.prog Try.f10 false true false false) :=
  law_lifted (tb := 4) started rfl rfl Try.func10 (by kernel_rfl) (by kernel_rfl) (by kernel_rfl) (by kernel_rfl)
    (fun ds hlen => by
      rw [List.append_nil]
      have hlen : ds.length = 3 := hlen
      match ds, hlen with
      | [d1, d2, d3], _ => rfl)
    (ChangeSpec.witness6 (enc := enc) (C := Try.checked) false ⟨#[], #[.int .i64 0, .int .i64 0, .slice none 0 0], []⟩ 8 (by kernel_rfl) (by kernel_rfl) (by kernel_rfl) (by kernel_rfl))
    (fun W args ds ps base hval hA _ => partsMatch_run W args ds ps base hval hA)
theorem partsMatch_holds : Rows.PartsMatchSaid :=
  OpenClaim.holds_of_wide 10 Try.f10 rfl rfl rfl rfl rfl rfl rfl ⟨rfl, rfl, rfl, rfl, rfl⟩ rfl rfl rfl rfl rfl (by kernel_rfl) Try.func10 (by kernel_rfl)
    (of_decide_eq_true (by kernel_rfl)) (by unfold Func.isWrapper; first | (rw [if_pos (by decide +kernel)]; kernel_rfl) | (rw [if_neg (by decide +kernel)]; exact ⟨rfl, rfl⟩))
    (fun os started H enc _ => partsMatch_lifted os started H enc)
end Go.Proofs.Ytidpkoaomfbljaa
