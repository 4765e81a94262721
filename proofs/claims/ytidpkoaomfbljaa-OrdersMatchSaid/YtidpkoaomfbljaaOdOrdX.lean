/- The law OrdersMatch: orders of transfers are as the reference says. No conditions. -/
import Derived.Test.YtidpkoaomfbljaaOd4
namespace Go.Proofs.Ytidpkoaomfbljaa
open Go Go.RowKit Go.ChangeShapes Go.WideShapes Go.ChangeAt AM
set_option linter.all false

def ordersMatchT : List (Nat × Ent) := [(9, .code m9), (11, .code m11), (12, .code m12), (14, .code m14), (15, .code m15), (16, .code m16), (17, .code m17), (18, .code m18), (40, .code m40), (41, .code m41), (47, .code m47), (48, .code m48), (49, .code m49), (50, .code m50), (62, .code m62), (63, .code m63), (68, .code m68), (76, .code m76), (77, .code m77), (78, .code m78), (79, .code m79), (80, .code m80), (81, .code m81), (82, .code m82), (83, .code m83), (88, .code m88), (100, .code m100), (101, .code m101), (108, .code m108), (110, .code m110)]
instance : TMono (lookT ordersMatchT) := lookT_mono (by
  intro p hp g h
  simp only [ordersMatchT, List.mem_cons, List.not_mem_nil, or_false] at hp
  rcases hp with rfl | rfl | rfl | rfl | rfl | rfl | rfl | rfl | rfl | rfl | rfl | rfl | rfl | rfl | rfl | rfl | rfl | rfl | rfl | rfl | rfl | rfl | rfl | rfl | rfl | rfl | rfl | rfl | rfl | rfl
  · simp at h
  · simp at h
  · simp at h
  · simp at h
  · simp at h
  · simp at h
  · simp at h
  · simp at h
  · simp at h
  · simp at h
  · simp at h
  · simp at h
  · simp at h
  · simp at h
  · simp at h
  · simp at h
  · simp at h
  · simp at h
  · simp at h
  · simp at h
  · simp at h
  · simp at h
  · simp at h
  · simp at h
  · simp at h
  · simp at h
  · simp at h
  · simp at h
  · simp at h
  · simp at h)
theorem ordersMatchT_ok (N : Nat) : TblOk Try.prog N (lookT ordersMatchT) := tblOk_of (by
  intro p hp
  simp only [ordersMatchT, List.mem_cons, List.not_mem_nil, or_false] at hp
  rcases hp with rfl | rfl | rfl | rfl | rfl | rfl | rfl | rfl | rfl | rfl | rfl | rfl | rfl | rfl | rfl | rfl | rfl | rfl | rfl | rfl | rfl | rfl | rfl | rfl | rfl | rfl | rfl | rfl | rfl | rfl
  · exact ⟨_, Try.func9, c9⟩
  · exact ⟨_, Try.func11, c11⟩
  · exact ⟨_, Try.func12, c12⟩
  · exact ⟨_, Try.func14, c14⟩
  · exact ⟨_, Try.func15, c15⟩
  · exact ⟨_, Try.func16, c16⟩
  · exact ⟨_, Try.func17, c17⟩
  · exact ⟨_, Try.func18, c18⟩
  · exact ⟨_, Try.func40, c40⟩
  · exact ⟨_, Try.func41, c41⟩
  · exact ⟨_, Try.func47, c47⟩
  · exact ⟨_, Try.func48, c48⟩
  · exact ⟨_, Try.func49, c49⟩
  · exact ⟨_, Try.func50, c50⟩
  · exact ⟨_, Try.func62, c62⟩
  · exact ⟨_, Try.func63, c63⟩
  · exact ⟨_, Try.func68, c68⟩
  · exact ⟨_, Try.func76, c76⟩
  · exact ⟨_, Try.func77, c77⟩
  · exact ⟨_, Try.func78, c78⟩
  · exact ⟨_, Try.func79, c79⟩
  · exact ⟨_, Try.func80, c80⟩
  · exact ⟨_, Try.func81, c81⟩
  · exact ⟨_, Try.func82, c82⟩
  · exact ⟨_, Try.func83, c83⟩
  · exact ⟨_, Try.func88, c88⟩
  · exact ⟨_, Try.func100, c100⟩
  · exact ⟨_, Try.func101, c101⟩
  · exact ⟨_, Try.func108, c108⟩
  · exact ⟨_, Try.func110, c110⟩)
set_option maxRecDepth 100000 in
theorem ordersMatch_run {H : Type} {enc : TypeId × Value → H} (W : World) (args : Array Value) (ds : List (DataW H)) (ps : List MemPlace) (base : Nat) (hval : ∀ (j : Nat) t v, Try.f9.params[j]? = some t → args[j]? = some v → Value.okWide Try.prog W .any base t v)
    (hA : DataW.TrodAll enc Try.prog W 0 (fun _ => true) true Try.f9.params.toList args.toList ds ps) :
    Calls Try.prog 9 args W fun | .returned v', W' => v' = .bool true ∧ Below W.heap.size W W' | _, _ => False := by
  rw [Try.params9] at hval hA
  obtain ⟨v0, l0, d0, e0, p0', q0, g0, rfl, rfl, t0, hA⟩ := trodAll_cons hA
  obtain ⟨v1, l1, d1, e1, p1', q1, rfl, rfl, rfl, t1, hA⟩ := trodAll_cons hA
  obtain ⟨v2, l2, d2, e2, p2', q2, rfl, rfl, rfl, t2, hA⟩ := trodAll_cons hA
  obtain ⟨rfl, rfl, rfl⟩ := trodAll_nil hA
  have hargs : args = #[v0, v1, v2] := by rw [← Array.toList_inj, g0]
  subst hargs
  obtain ⟨x0, rfl, r0⟩ := val_int (k := .i64) (by kernel_rfl) (hval 0 _ v0 rfl rfl)
  obtain ⟨x1, rfl, r1⟩ := val_int (k := .i64) (by kernel_rfl) (hval 1 _ v1 rfl rfl)
  obtain ⟨fuel, hfu⟩ := t2
  have hv2 : v2.cells.toList = [v2] := slc_cells Try.underlying76 (hval 2 76 v2 rfl rfl)
  rw [hv2] at hfu
  obtain ⟨l, ha⟩ := read_steps Try.underlying76 (by kernel_rfl) (fun _ _ _ h => trod_step (q := 3) (s := 9) Try.underlying124 rfl rfl rfl rfl rfl rfl rfl rfl rfl rfl (by kernel_rfl) (by kernel_rfl) (by kernel_rfl) (by kernel_rfl) (by kernel_rfl) h) hfu
  have hml : maxLen ≤ 9223372036854775807 := by decide
  have hll : l.length ≤ 9223372036854775807 := by obtain ⟨cap, h1, h2, _⟩ := ha; omega
  obtain ⟨c', H', u, st, hvr, hsl, hmo⟩ := (start0 W).slc ha (sL_p1 l)
  obtain ⟨ad, cp, rfl⟩ := hsl.shape
  have hv14 := fun X => v14 (tbl := lookT ordersMatchT) rfl rfl rfl rfl rfl rfl rfl rfl X
  have hval9 := v9 (tbl := lookT ordersMatchT) ⟨⟨⟨rfl, rfl, rfl, rfl, rfl, rfl⟩, rfl, rfl, cmpF80 rfl rfl, cmpF82 rfl rfl, cmpF83 rfl rfl, rfl, rfl, rfl, rfl, rfl⟩, rfl, rfl, rfl, rfl, rfl, rfl, rfl, rfl⟩ hv14 x0 x1 l hll hsl st.dead st.pos
  refine (calls_of_val mixed ordersMatchT_ok Try.func9 (by kernel_rfl) (by kernel_rfl) hval9 st.sim (.cons (.of2 rfl) (.cons (.of2 rfl) (.cons hvr .nil)))).mono fun e W' he => ?_
  cases e with
  | panicked ch => exact he.elim
  | outgrown => exact he.elim
  | returned v =>
    obtain ⟨c', h1, h2, h3⟩ := he
    exact ⟨h1.bool, h3.below⟩
set_option maxRecDepth 100000 in
theorem ordersMatch_lifted (os : Os) (started : os.Started) (H : Type) (enc : TypeId × Value → H) :
    ReturnsInHanded {} Try.checked os 9 .any (Rows.ordersMatchSpec.pre6 enc Try.prog Try.f9 Rows.ordersMatchRow.domain false) (Rows.ordersMatchSpec.post enc Try.prog Try.f9 false true false false) :=
  law_lifted (tb := 4) started rfl rfl Try.func9 (by kernel_rfl) (by kernel_rfl) (by kernel_rfl) (by kernel_rfl)
    (fun ds hlen => by
      rw [List.append_nil]
      have hlen : ds.length = 3 := hlen
      match ds, hlen with
      | [d1, d2, d3], _ => rfl)
    (ChangeSpec.witness6 (enc := enc) (C := Try.checked) false ⟨#[], #[.int .i64 0, .int .i64 0, .slice none 0 0], []⟩ 8 (by kernel_rfl) (by kernel_rfl) (by kernel_rfl) (by kernel_rfl))
    (fun W args ds ps base hval hA _ => ordersMatch_run W args ds ps base hval hA)
theorem ordersMatch_holds : Rows.OrdersMatchSaid :=
  OpenClaim.holds_of_wide 9 Try.f9 rfl rfl rfl rfl rfl rfl rfl ⟨rfl, rfl, rfl, rfl, rfl⟩ rfl rfl rfl rfl rfl (by kernel_rfl) Try.func9 (by kernel_rfl)
    (of_decide_eq_true (by kernel_rfl)) (by unfold Func.isWrapper; first | (rw [if_pos (by decide +kernel)]; kernel_rfl) | (rw [if_neg (by decide +kernel)]; exact ⟨rfl, rfl⟩))
    (fun os started H enc _ => ordersMatch_lifted os started H enc)
end Go.Proofs.Ytidpkoaomfbljaa
