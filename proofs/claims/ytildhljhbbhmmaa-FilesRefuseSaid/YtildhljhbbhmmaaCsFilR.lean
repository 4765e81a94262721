/- The law FilesRefuse: a sealed file that is changed is opened just where the reference opens it. No conditions. -/
import Derived.Test.YtildhljhbbhmmaaCs7
namespace Go.Proofs.Ytildhljhbbhmmaa
open Go Go.RowKit Go.ChangeShapes Go.WideShapes Go.ChangeAt AM
set_option linter.all false

def filesRefuseT : List (Nat × Ent) := [(11, .code m11), (16, .code m16), (17, .code m17), (18, .code m18), (19, .code m19), (20, .code m20), (21, .code m21), (22, .code m22), (23, .code m23), (25, .code m25), (26, .code m26), (27, .code m27), (30, .code m30), (31, .code m31), (40, .code m40), (41, .code m41), (43, .code m43), (44, .code m44), (47, .code m47), (48, .code m48), (49, .nat natJoin), (50, .code m50), (51, .nat natWrite), (52, .nat natClose), (54, .code m54), (55, .nat natRepeat), (56, .code m56), (57, .code m57), (59, .code m59), (60, .code m60), (61, .code m61), (62, .code m62), (63, .code m63), (64, .code m64), (65, .code m65), (66, .code m66), (67, .code m67), (68, .code m68), (69, .code m69), (76, .code m76), (77, .code m77), (78, .code m78), (79, .nat natOpen), (80, .nat natGrow), (86, .code m86), (90, .code m90), (91, .code m91), (92, .code m92), (93, .code m93), (94, .code m94), (95, .code m95), (96, .code m96), (97, .code m97), (98, .code m98), (99, .code m99), (102, .code m102), (103, .code m103), (111, .code m111), (112, .code m112), (113, .code m113), (114, .code m114), (115, .code m115), (116, .nat natAdd64), (121, .code m121)]
instance : TMono (lookT filesRefuseT) := lookT_mono (by
  intro p hp g h
  simp only [filesRefuseT, List.mem_cons, List.not_mem_nil, or_false] at hp
  rcases hp with rfl | rfl | rfl | rfl | rfl | rfl | rfl | rfl | rfl | rfl | rfl | rfl | rfl | rfl | rfl | rfl | rfl | rfl | rfl | rfl | rfl | rfl | rfl | rfl | rfl | rfl | rfl | rfl | rfl | rfl | rfl | rfl | rfl | rfl | rfl | rfl | rfl | rfl | rfl | rfl | rfl | rfl | rfl | rfl | rfl | rfl | rfl | rfl | rfl | rfl | rfl | rfl | rfl | rfl | rfl | rfl | rfl | rfl | rfl | rfl | rfl | rfl | rfl | rfl
  · simp at h
  · simp at h
  · simp at h
  · simp at h
  · simp at h
  · simp at h
  · simp at h
  · simp at h
  · simp at h
  · simp at h
  · simp at h
  · simp at h
  · simp at h
  · simp at h
  · simp at h
  · simp at h
  · simp at h
  · simp at h
  · simp at h
  · simp at h
  · simp only [Ent.nat.injEq] at h; subst h; exact natJoin_mono
  · simp at h
  · simp only [Ent.nat.injEq] at h; subst h; exact natWrite_mono
  · simp only [Ent.nat.injEq] at h; subst h; exact natClose_mono
  · simp at h
  · simp only [Ent.nat.injEq] at h; subst h; exact natRepeat_mono
  · simp at h
  · simp at h
  · simp at h
  · simp at h
  · simp at h
  · simp at h
  · simp at h
  · simp at h
  · simp at h
  · simp at h
  · simp at h
  · simp at h
  · simp at h
  · simp at h
  · simp at h
  · simp at h
  · simp only [Ent.nat.injEq] at h; subst h; exact natOpen_mono
  · simp only [Ent.nat.injEq] at h; subst h; exact natGrow_mono
  · simp at h
  · simp at h
  · simp at h
  · simp at h
  · simp at h
  · simp at h
  · simp at h
  · simp at h
  · simp at h
  · simp at h
  · simp at h
  · simp at h
  · simp at h
  · simp at h
  · simp at h
  · simp at h
  · simp at h
  · simp at h
  · simp only [Ent.nat.injEq] at h; subst h; exact natAdd64_mono
  · simp at h)
theorem filesRefuseT_ok (N : Nat) : TblOk Try.prog N (lookT filesRefuseT) := tblOk_of (by
  intro p hp
  simp only [filesRefuseT, List.mem_cons, List.not_mem_nil, or_false] at hp
  rcases hp with rfl | rfl | rfl | rfl | rfl | rfl | rfl | rfl | rfl | rfl | rfl | rfl | rfl | rfl | rfl | rfl | rfl | rfl | rfl | rfl | rfl | rfl | rfl | rfl | rfl | rfl | rfl | rfl | rfl | rfl | rfl | rfl | rfl | rfl | rfl | rfl | rfl | rfl | rfl | rfl | rfl | rfl | rfl | rfl | rfl | rfl | rfl | rfl | rfl | rfl | rfl | rfl | rfl | rfl | rfl | rfl | rfl | rfl | rfl | rfl | rfl | rfl | rfl | rfl
  · exact ⟨_, Try.func11, c11⟩
  · exact ⟨_, Try.func16, c16⟩
  · exact ⟨_, Try.func17, c17⟩
  · exact ⟨_, Try.func18, c18⟩
  · exact ⟨_, Try.func19, c19⟩
  · exact ⟨_, Try.func20, c20⟩
  · exact ⟨_, Try.func21, c21⟩
  · exact ⟨_, Try.func22, c22⟩
  · exact ⟨_, Try.func23, c23⟩
  · exact ⟨_, Try.func25, c25⟩
  · exact ⟨_, Try.func26, c26⟩
  · exact ⟨_, Try.func27, c27⟩
  · exact ⟨_, Try.func30, c30⟩
  · exact ⟨_, Try.func31, c31⟩
  · exact ⟨_, Try.func40, c40⟩
  · exact ⟨_, Try.func41, c41⟩
  · exact ⟨_, Try.func43, c43⟩
  · exact ⟨_, Try.func44, c44⟩
  · exact ⟨_, Try.func47, c47⟩
  · exact ⟨_, Try.func48, c48⟩
  · exact natJoin_ok N
  · exact ⟨_, Try.func50, c50⟩
  · exact natWrite_ok N
  · exact natClose_ok N
  · exact ⟨_, Try.func54, c54⟩
  · exact natRepeat_ok N
  · exact ⟨_, Try.func56, c56⟩
  · exact ⟨_, Try.func57, c57⟩
  · exact ⟨_, Try.func59, c59⟩
  · exact ⟨_, Try.func60, c60⟩
  · exact ⟨_, Try.func61, c61⟩
  · exact ⟨_, Try.func62, c62⟩
  · exact ⟨_, Try.func63, c63⟩
  · exact ⟨_, Try.func64, c64⟩
  · exact ⟨_, Try.func65, c65⟩
  · exact ⟨_, Try.func66, c66⟩
  · exact ⟨_, Try.func67, c67⟩
  · exact ⟨_, Try.func68, c68⟩
  · exact ⟨_, Try.func69, c69⟩
  · exact ⟨_, Try.func76, c76⟩
  · exact ⟨_, Try.func77, c77⟩
  · exact ⟨_, Try.func78, c78⟩
  · exact natOpen_ok N
  · exact natGrow_ok N
  · exact ⟨_, Try.func86, c86⟩
  · exact ⟨_, Try.func90, c90⟩
  · exact ⟨_, Try.func91, c91⟩
  · exact ⟨_, Try.func92, c92⟩
  · exact ⟨_, Try.func93, c93⟩
  · exact ⟨_, Try.func94, c94⟩
  · exact ⟨_, Try.func95, c95⟩
  · exact ⟨_, Try.func96, c96⟩
  · exact ⟨_, Try.func97, c97⟩
  · exact ⟨_, Try.func98, c98⟩
  · exact ⟨_, Try.func99, c99⟩
  · exact ⟨_, Try.func102, c102⟩
  · exact ⟨_, Try.func103, c103⟩
  · exact ⟨_, Try.func111, c111⟩
  · exact ⟨_, Try.func112, c112⟩
  · exact ⟨_, Try.func113, c113⟩
  · exact ⟨_, Try.func114, c114⟩
  · exact ⟨_, Try.func115, c115⟩
  · exact add64_ent N
  · exact ⟨_, Try.func121, c121⟩)
theorem filesRefuse_val (x0 : ByteArray) (y0 : ByteArray) (z0 : ByteArray) (x1 : ByteArray) (r1 : x1.size ≤ 9223372036854775807) (x2 : ByteArray) (r2 : x2.size ≤ 9223372036854775807) (x3 : Int) (r3 : IntKind.i64.has x3) (x4 : Int) (r4 : IntKind.i64.has x4) (x5 : Int) (r5 : IntKind.u8.has x5) : Val (lookT filesRefuseT) 11 [.agg #[.string x0, .string y0, .string z0], .string x1, .string x2, .int .i64 x3, .int .i64 x4, .int .u8 x5] H0 (.bool true) H0 :=
  by
  have h := v11 (tbl := lookT filesRefuseT) ⟨rfl, rfl, rfl, rfl, rfl, rfl, rfl, rfl, rfl, rfl, rfl, rfl, rfl, rfl, rfl, rfl, rfl, rfl, rfl, rfl, rfl⟩ ⟨rfl, rfl, rfl, rfl, rfl, rfl, rfl, rfl, rfl, rfl, rfl, rfl, rfl, rfl, rfl, rfl, rfl, rfl, rfl, rfl, rfl⟩ ⟨⟨rfl, rfl, rfl, rfl, rfl⟩, ⟨rfl, rfl, rfl, rfl, rfl, rfl⟩, ⟨rfl, rfl, rfl, rfl, rfl⟩, rfl, rfl, rfl, rfl⟩ rfl rfl rfl x0.data.toList y0.data.toList z0.data.toList x1.data.toList x2.data.toList x3 x4 (has_i64 r4) x5 (has_u8 r5) H0 rfl (by decide)
  simp only [keysV] at h
  rw [tx_of, tx_of, tx_of, tx_of, tx_of] at h
  exact h
set_option maxRecDepth 100000 in
theorem filesRefuse_run (W : World) (args : Array Value) (base : Nat) (hval : ∀ (j : Nat) t v, Try.f11.params[j]? = some t → args[j]? = some v → Value.okWide Try.prog W .any base t v) (hlen : args.toList.length = Try.f11.params.toList.length) :
    Calls Try.prog 11 args W fun | .returned v', W' => v' = .bool true ∧ Below W.heap.size W W' | _, _ => False := by
  rw [Try.params11] at hval hlen
  obtain ⟨v0, v1, v2, v3, v4, v5, h01⟩ : ∃ v0 v1 v2 v3 v4 v5, args.toList = [v0, v1, v2, v3, v4, v5] := by
    match h : args.toList, hlen with
    | [v0, v1, v2, v3, v4, v5], _ => exact ⟨v0, v1, v2, v3, v4, v5, rfl⟩
  have hargs : args = #[v0, v1, v2, v3, v4, v5] := by rw [← Array.toList_inj, h01]
  subst hargs
  obtain ⟨x0, y0, z0, rfl⟩ := val_keys (u := 9) Try.underlying64 (by kernel_rfl) (by kernel_rfl) (by kernel_rfl) (hval 0 _ v0 rfl rfl)
  obtain ⟨x1, rfl, r1⟩ := val_str (by kernel_rfl) (hval 1 _ v1 rfl rfl)
  obtain ⟨x2, rfl, r2⟩ := val_str (by kernel_rfl) (hval 2 _ v2 rfl rfl)
  obtain ⟨x3, rfl, r3⟩ := val_int (k := .i64) (by kernel_rfl) (hval 3 _ v3 rfl rfl)
  obtain ⟨x4, rfl, r4⟩ := val_int (k := .i64) (by kernel_rfl) (hval 4 _ v4 rfl rfl)
  obtain ⟨x5, rfl, r5⟩ := val_int (k := .u8) (by kernel_rfl) (hval 5 _ v5 rfl rfl)
  refine (calls_of_val mixed filesRefuseT_ok Try.func11 (by kernel_rfl) (by kernel_rfl) (filesRefuse_val x0 y0 z0 x1 r1 x2 r2 x3 r3 x4 r4 x5 r5) (sim0 (Nat.le_refl _)) (.cons (.of2 rfl) (.cons (.of2 rfl) (.cons (.of2 rfl) (.cons (.of2 rfl) (.cons (.of2 rfl) (.cons (.of2 rfl) .nil))))))).mono fun e W' he => ?_
  cases e with
  | panicked ch => exact he.elim
  | outgrown => exact he.elim
  | returned v =>
    obtain ⟨c', h1, h2, h3⟩ := he
    exact ⟨h1.bool, h3.below⟩
set_option maxRecDepth 100000 in
theorem filesRefuse_lifted (os : Os) (started : os.Started) (H : Type) (enc : TypeId × Value → H) :
    ReturnsInHanded {} Try.checked os 11 .any (Rows.filesRefuseSpec.pre6 enc Try.prog Try.f11 Rows.filesRefuseRow.domain false) (Rows.filesRefuseSpec.post enc Try.prog Try.f11 false true false false) :=
  law_lifted (tb := 4) started rfl rfl Try.func11 (by kernel_rfl) (by kernel_rfl) (by kernel_rfl) (by kernel_rfl)
    (fun ds hlen => by
      rw [List.append_nil]
      have hlen : ds.length = 6 := hlen
      match ds, hlen with
      | [d1, d2, d3, d4, d5, d6], _ => rfl)
    (ChangeSpec.witness6 (enc := enc) (C := Try.checked) false ⟨#[], #[.agg #[.string ⟨#[]⟩, .string ⟨#[]⟩, .string ⟨#[]⟩], .string ⟨#[]⟩, .string ⟨#[]⟩, .int .i64 0, .int .i64 0, .int .u8 0], []⟩ 8 (by kernel_rfl) (by kernel_rfl) (by kernel_rfl) (by kernel_rfl))
    (fun W args ds ps base hval hA _ => filesRefuse_run W args base hval (trodAll_length hA).1)
theorem filesRefuse_holds : Rows.FilesRefuseSaid :=
  OpenClaim.holds_of_wide 11 Try.f11 rfl rfl rfl rfl rfl rfl rfl ⟨rfl, rfl, rfl, rfl, rfl⟩ rfl rfl rfl rfl rfl (by kernel_rfl) Try.func11 (by kernel_rfl)
    (of_decide_eq_true (by kernel_rfl)) (by unfold Func.isWrapper; first | (rw [if_pos (by decide +kernel)]; kernel_rfl) | (rw [if_neg (by decide +kernel)]; exact ⟨rfl, rfl⟩))
    (fun os started H enc _ => filesRefuse_lifted os started H enc)
end Go.Proofs.Ytildhljhbbhmmaa
