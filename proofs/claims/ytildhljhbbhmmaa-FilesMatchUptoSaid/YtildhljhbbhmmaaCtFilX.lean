/- The law FilesMatch, where what it reads is of bulk at most 1048576: a file that is sealed at once or piece by piece is opened as a whole or in part. No other condition. -/
import Derived.Test.YtildhljhbbhmmaaCt6
namespace Go.Proofs.Ytildhljhbbhmmaa
open Go Go.RowKit Go.ChangeShapes Go.WideShapes Go.ChangeAt AM
set_option linter.all false

def filesMatchT : List (Nat × Ent) := [(12, .code m12), (15, .code m15), (16, .code m16), (17, .code m17), (18, .code m18), (19, .code m19), (20, .code m20), (21, .code m21), (22, .code m22), (23, .code m23), (25, .code m25), (26, .code m26), (27, .code m27), (30, .code m30), (31, .code m31), (40, .code m40), (41, .code m41), (43, .code m43), (44, .code m44), (45, .code m45), (46, .code m46), (48, .code m48), (49, .nat natJoin), (50, .code m50), (51, .nat natWrite), (52, .nat natClose), (53, .code m53), (54, .code m54), (55, .nat natRepeat), (56, .code m56), (57, .code m57), (59, .code m59), (60, .code m60), (61, .code m61), (62, .code m62), (63, .code m63), (64, .code m64), (65, .code m65), (66, .code m66), (67, .code m67), (68, .code m68), (69, .code m69), (76, .code m76), (77, .code m77), (78, .code m78), (79, .nat natOpen), (86, .code m86), (90, .code m90), (91, .code m91), (92, .code m92), (93, .code m93), (94, .code m94), (95, .code m95), (96, .code m96), (97, .code m97), (98, .code m98), (99, .code m99), (102, .code m102), (103, .code m103), (111, .code m111), (112, .code m112), (113, .code m113), (114, .code m114), (115, .code m115), (116, .nat natAdd64), (121, .code m121)]
instance : TMono (lookT filesMatchT) := lookT_mono (by
  intro p hp g h
  simp only [filesMatchT, List.mem_cons, List.not_mem_nil, or_false] at hp
  rcases hp with rfl | rfl | rfl | rfl | rfl | rfl | rfl | rfl | rfl | rfl | rfl | rfl | rfl | rfl | rfl | rfl | rfl | rfl | rfl | rfl | rfl | rfl | rfl | rfl | rfl | rfl | rfl | rfl | rfl | rfl | rfl | rfl | rfl | rfl | rfl | rfl | rfl | rfl | rfl | rfl | rfl | rfl | rfl | rfl | rfl | rfl | rfl | rfl | rfl | rfl | rfl | rfl | rfl | rfl | rfl | rfl | rfl | rfl | rfl | rfl | rfl | rfl | rfl | rfl | rfl | rfl
  · simp at h
  · simp at h
  · simp at h
  · simp at h
  · simp at h
  · simp at h
  · simp at h
  · simp at h
  · simp at h
  · simp at h
  · simp at h
  · simp at h
  · simp at h
  · simp at h
  · simp at h
  · simp at h
  · simp at h
  · simp at h
  · simp at h
  · simp at h
  · simp at h
  · simp at h
  · simp only [Ent.nat.injEq] at h; subst h; exact natJoin_mono
  · simp at h
  · simp only [Ent.nat.injEq] at h; subst h; exact natWrite_mono
  · simp only [Ent.nat.injEq] at h; subst h; exact natClose_mono
  · simp at h
  · simp at h
  · simp only [Ent.nat.injEq] at h; subst h; exact natRepeat_mono
  · simp at h
  · simp at h
  · simp at h
  · simp at h
  · simp at h
  · simp at h
  · simp at h
  · simp at h
  · simp at h
  · simp at h
  · simp at h
  · simp at h
  · simp at h
  · simp at h
  · simp at h
  · simp at h
  · simp only [Ent.nat.injEq] at h; subst h; exact natOpen_mono
  · simp at h
  · simp at h
  · simp at h
  · simp at h
  · simp at h
  · simp at h
  · simp at h
  · simp at h
  · simp at h
  · simp at h
  · simp at h
  · simp at h
  · simp at h
  · simp at h
  · simp at h
  · simp at h
  · simp at h
  · simp at h
  · simp only [Ent.nat.injEq] at h; subst h; exact natAdd64_mono
  · simp at h)
theorem filesMatchT_ok (N : Nat) : TblOk Try.prog N (lookT filesMatchT) := tblOk_of (by
  intro p hp
  simp only [filesMatchT, List.mem_cons, List.not_mem_nil, or_false] at hp
  rcases hp with rfl | rfl | rfl | rfl | rfl | rfl | rfl | rfl | rfl | rfl | rfl | rfl | rfl | rfl | rfl | rfl | rfl | rfl | rfl | rfl | rfl | rfl | rfl | rfl | rfl | rfl | rfl | rfl | rfl | rfl | rfl | rfl | rfl | rfl | rfl | rfl | rfl | rfl | rfl | rfl | rfl | rfl | rfl | rfl | rfl | rfl | rfl | rfl | rfl | rfl | rfl | rfl | rfl | rfl | rfl | rfl | rfl | rfl | rfl | rfl | rfl | rfl | rfl | rfl | rfl | rfl
  · exact ⟨_, Try.func12, c12⟩
  · exact ⟨_, Try.func15, c15⟩
  · exact ⟨_, Try.func16, c16⟩
  · exact ⟨_, Try.func17, c17⟩
  · exact ⟨_, Try.func18, c18⟩
  · exact ⟨_, Try.func19, c19⟩
  · exact ⟨_, Try.func20, c20⟩
  · exact ⟨_, Try.func21, c21⟩
  · exact ⟨_, Try.func22, c22⟩
  · exact ⟨_, Try.func23, c23⟩
  · exact ⟨_, Try.func25, c25⟩
  · exact ⟨_, Try.func26, c26⟩
  · exact ⟨_, Try.func27, c27⟩
  · exact ⟨_, Try.func30, c30⟩
  · exact ⟨_, Try.func31, c31⟩
  · exact ⟨_, Try.func40, c40⟩
  · exact ⟨_, Try.func41, c41⟩
  · exact ⟨_, Try.func43, c43⟩
  · exact ⟨_, Try.func44, c44⟩
  · exact ⟨_, Try.func45, c45⟩
  · exact ⟨_, Try.func46, c46⟩
  · exact ⟨_, Try.func48, c48⟩
  · exact natJoin_ok N
  · exact ⟨_, Try.func50, c50⟩
  · exact natWrite_ok N
  · exact natClose_ok N
  · exact ⟨_, Try.func53, c53⟩
  · exact ⟨_, Try.func54, c54⟩
  · exact natRepeat_ok N
  · exact ⟨_, Try.func56, c56⟩
  · exact ⟨_, Try.func57, c57⟩
  · exact ⟨_, Try.func59, c59⟩
  · exact ⟨_, Try.func60, c60⟩
  · exact ⟨_, Try.func61, c61⟩
  · exact ⟨_, Try.func62, c62⟩
  · exact ⟨_, Try.func63, c63⟩
  · exact ⟨_, Try.func64, c64⟩
  · exact ⟨_, Try.func65, c65⟩
  · exact ⟨_, Try.func66, c66⟩
  · exact ⟨_, Try.func67, c67⟩
  · exact ⟨_, Try.func68, c68⟩
  · exact ⟨_, Try.func69, c69⟩
  · exact ⟨_, Try.func76, c76⟩
  · exact ⟨_, Try.func77, c77⟩
  · exact ⟨_, Try.func78, c78⟩
  · exact natOpen_ok N
  · exact ⟨_, Try.func86, c86⟩
  · exact ⟨_, Try.func90, c90⟩
  · exact ⟨_, Try.func91, c91⟩
  · exact ⟨_, Try.func92, c92⟩
  · exact ⟨_, Try.func93, c93⟩
  · exact ⟨_, Try.func94, c94⟩
  · exact ⟨_, Try.func95, c95⟩
  · exact ⟨_, Try.func96, c96⟩
  · exact ⟨_, Try.func97, c97⟩
  · exact ⟨_, Try.func98, c98⟩
  · exact ⟨_, Try.func99, c99⟩
  · exact ⟨_, Try.func102, c102⟩
  · exact ⟨_, Try.func103, c103⟩
  · exact ⟨_, Try.func111, c111⟩
  · exact ⟨_, Try.func112, c112⟩
  · exact ⟨_, Try.func113, c113⟩
  · exact ⟨_, Try.func114, c114⟩
  · exact ⟨_, Try.func115, c115⟩
  · exact add64_ent N
  · exact ⟨_, Try.func121, c121⟩)
set_option maxRecDepth 100000 in
theorem filesMatch_run {H : Type} {enc : TypeId × Value → H} (W : World) (args : Array Value) (ds : List (DataW H)) (ps : List MemPlace) (base : Nat) (hval : ∀ (j : Nat) t v, Try.f12.params[j]? = some t → args[j]? = some v → Value.okWide Try.prog W .any base t v)
    (hA : DataW.TrodAll enc Try.prog W 0 (fun _ => true) true Try.f12.params.toList args.toList ds ps) (hk : Rows.uptoSmall H ds = true) :
    Calls Try.prog 12 args W fun | .returned v', W' => v' = .bool true ∧ Below W.heap.size W W' | _, _ => False := by
  have hlen := (trodAll_length hA).1
  rw [Try.params12] at hval hlen hA
  obtain ⟨v0, l0, d0, e0, p0, q0, g0, rfl, rfl, t0, hA⟩ := trodAll_cons hA
  obtain ⟨v1, l1, d1, e1, p1', q1, rfl, rfl, rfl, t1, hA⟩ := trodAll_cons hA
  obtain ⟨v2, l2, d2, e2, p2', q2, rfl, rfl, rfl, t2, hA⟩ := trodAll_cons hA
  obtain ⟨v3, l3, d3, e3, p3', q3, rfl, rfl, rfl, t3, hA⟩ := trodAll_cons hA
  obtain ⟨v4, l4, d4, e4, p4', q4, rfl, rfl, rfl, t4, hA⟩ := trodAll_cons hA
  obtain ⟨rfl, rfl, rfl⟩ := trodAll_nil hA
  have hargs : args = #[v0, v1, v2, v3, v4] := by rw [← Array.toList_inj, g0]
  subst hargs
  obtain ⟨x0, y0, z0, rfl⟩ := val_keys (u := 9) Try.underlying64 (by kernel_rfl) (by kernel_rfl) (by kernel_rfl) (hval 0 _ v0 rfl rfl)
  obtain ⟨x1, rfl, r1⟩ := val_str (by kernel_rfl) (hval 1 _ v1 rfl rfl)
  obtain ⟨x3, rfl, r3⟩ := val_int (k := .i64) (by kernel_rfl) (hval 3 _ v3 rfl rfl)
  obtain ⟨x4, rfl, r4⟩ := val_int (k := .i64) (by kernel_rfl) (hval 4 _ v4 rfl rfl)
  obtain ⟨fuel, hfu⟩ := t2
  have hv2 : v2.cells.toList = [v2] := slc_cells Try.underlying79 (hval 2 79 v2 rfl rfl)
  rw [hv2] at hfu
  obtain ⟨pc, ha, hbk⟩ := read_strs Try.underlying79 Try.underlying9 (by kernel_rfl) hfu
  have hbk2 : pc.flatten.length + pc.length + 1 ≤ Rows.uptoBulk d2 := hbk
  have hk2 := of_decide_eq_true hk
  simp only [Rows.uptoBulkAll] at hk2
  obtain ⟨c', H', ad, cp, st, hvr, hsl, _, hcp⟩ := (start0 W).strs ha
  have hz : strB pc = txs pc := rfl
  rw [hz] at hsl
  have hval12 := v12 (tbl := lookT filesMatchT) ⟨rfl, rfl, rfl, rfl, rfl, rfl, rfl, rfl, rfl, rfl, rfl, rfl, rfl, rfl, rfl, rfl, rfl, rfl, rfl, rfl, rfl⟩ ⟨rfl, rfl, rfl, rfl, rfl, rfl, rfl, rfl, rfl, rfl, rfl, rfl, rfl, rfl, rfl, rfl, rfl, rfl, rfl, rfl, rfl⟩ ⟨⟨rfl, rfl, rfl, rfl, rfl⟩, ⟨rfl, rfl, rfl, rfl, rfl, rfl⟩, ⟨rfl, rfl, rfl, rfl, rfl⟩, rfl, rfl, rfl, rfl⟩ ⟨rfl, rfl, rfl, rfl, rfl, rfl⟩ rfl rfl rfl x0.data.toList y0.data.toList z0.data.toList x1.data.toList pc x3 x4 (has_i64 r3) (has_i64 r4) H' hsl hcp (by omega) (by omega)
  simp only [keysV] at hval12
  rw [tx_of, tx_of, tx_of, tx_of] at hval12
  refine (calls_of_val mixed filesMatchT_ok Try.func12 (by kernel_rfl) (by kernel_rfl) hval12 st.sim (.cons (.of2 rfl) (.cons (.of2 rfl) (.cons hvr (.cons (.of2 rfl) (.cons (.of2 rfl) .nil)))))).mono fun e W' he => ?_
  cases e with
  | panicked ch => exact he.elim
  | outgrown => exact he.elim
  | returned v =>
    obtain ⟨c', h1, h2, h3⟩ := he
    exact ⟨h1.bool, h3.below⟩
set_option maxRecDepth 100000 in
theorem filesMatch_lifted (os : Os) (started : os.Started) (H : Type) (enc : TypeId × Value → H) (F : Stop.Interp) :
    ReturnsInHanded {} Try.checked os 12 .any ((Rows.OpenSpec.upto Rows.filesMatchSpec).pre6 enc Try.prog Try.f12 Rows.filesMatchUptoRow.domain false) (((Rows.OpenSpec.upto Rows.filesMatchSpec).at F).post enc Try.prog Try.f12 false true false false) :=
  law_lifted_upto (tb := 4) started F rfl Try.func12 (by kernel_rfl) (by kernel_rfl) (by kernel_rfl) (by kernel_rfl)
    (fun ds hlen => by
      rw [List.append_nil]
      have hlen : ds.length = 5 := hlen
      match ds, hlen with
      | [d1, d2, d3, d4, d5], _ => rfl)
    (OpenSpec.witness (enc := enc) (C := Try.checked) (s := Rows.OpenSpec.upto Rows.filesMatchSpec) (k := Rows.uptoSmall) rfl false ⟨#[], #[.agg #[.string ⟨#[]⟩, .string ⟨#[]⟩, .string ⟨#[]⟩], .string ⟨#[]⟩, .slice none 0 0, .int .i64 0, .int .i64 0], []⟩ 8 (by kernel_rfl) (by kernel_rfl) (by kernel_rfl)
      (x := ([.agg [.lit (.string []), .lit (.string []), .lit (.string [])], .lit (.string []), .nil, .lit (.int .i64 0), .lit (.int .i64 0)], [], [])) (by kernel_rfl) rfl (by kernel_rfl))
    (fun W args ds ps base hval hA _ hk => filesMatch_run W args ds ps base hval hA hk)
theorem filesMatchUpto_holds : Rows.FilesMatchUptoSaid :=
  OpenClaim.holds_of_cond 12 Try.f12 rfl rfl rfl rfl rfl rfl rfl ⟨rfl, rfl, rfl, rfl, rfl⟩ rfl rfl rfl rfl rfl (by kernel_rfl) Try.func12 (by kernel_rfl)
    (of_decide_eq_true (by kernel_rfl)) (by unfold Func.isWrapper; first | (rw [if_pos (by decide +kernel)]; kernel_rfl) | (rw [if_neg (by decide +kernel)]; exact ⟨rfl, rfl⟩))
    (fun os started H enc _ F => filesMatch_lifted os started H enc F)
end Go.Proofs.Ytildhljhbbhmmaa
