/- The law SecretsMatch: the secret by any shares, or the error, is as the reference says. No conditions. -/
import Derived.Test.YtildhljhbbhmmaaCu5
namespace Go.Proofs.Ytildhljhbbhmmaa
open Go Go.RowKit Go.ChangeShapes Go.WideShapes Go.ChangeAt AM
set_option linter.all false

def secretsMatchT : List (Nat × Ent) := [(7, .code m7), (14, .code m14), (17, .code m17), (18, .code m18), (19, .code m19), (21, .code m21), (23, .code m23), (32, .code m32), (33, .code m33), (34, .code m34), (35, .code m35), (49, .nat natJoin), (55, .nat natRepeat), (56, .code m56), (57, .code m57), (62, .code m62), (63, .code m63), (70, .code m70), (71, .code m71), (72, .code m72), (73, .code m73), (74, .code m74), (90, .code m90), (95, .code m95), (96, .code m96), (97, .code m97), (98, .code m98), (99, .code m99), (100, .code m100), (101, .code m101), (111, .code m111), (112, .code m112), (113, .code m113), (114, .code m114), (115, .code m115), (116, .nat natAdd64), (117, .code m117), (121, .code m121)]
instance : TMono (lookT secretsMatchT) := lookT_mono (by
  intro p hp g h
  simp only [secretsMatchT, List.mem_cons, List.not_mem_nil, or_false] at hp
  rcases hp with rfl | rfl | rfl | rfl | rfl | rfl | rfl | rfl | rfl | rfl | rfl | rfl | rfl | rfl | rfl | rfl | rfl | rfl | rfl | rfl | rfl | rfl | rfl | rfl | rfl | rfl | rfl | rfl | rfl | rfl | rfl | rfl | rfl | rfl | rfl | rfl | rfl | rfl
  · simp at h
  · simp at h
  · simp at h
  · simp at h
  · simp at h
  · simp at h
  · simp at h
  · simp at h
  · simp at h
  · simp at h
  · simp at h
  · simp only [Ent.nat.injEq] at h; subst h; exact natJoin_mono
  · simp only [Ent.nat.injEq] at h; subst h; exact natRepeat_mono
  · simp at h
  · simp at h
  · simp at h
  · simp at h
  · simp at h
  · simp at h
  · simp at h
  · simp at h
  · simp at h
  · simp at h
  · simp at h
  · simp at h
  · simp at h
  · simp at h
  · simp at h
  · simp at h
  · simp at h
  · simp at h
  · simp at h
  · simp at h
  · simp at h
  · simp at h
  · simp only [Ent.nat.injEq] at h; subst h; exact natAdd64_mono
  · simp at h
  · simp at h)
theorem secretsMatchT_ok (N : Nat) : TblOk Try.prog N (lookT secretsMatchT) := tblOk_of (by
  intro p hp
  simp only [secretsMatchT, List.mem_cons, List.not_mem_nil, or_false] at hp
  rcases hp with rfl | rfl | rfl | rfl | rfl | rfl | rfl | rfl | rfl | rfl | rfl | rfl | rfl | rfl | rfl | rfl | rfl | rfl | rfl | rfl | rfl | rfl | rfl | rfl | rfl | rfl | rfl | rfl | rfl | rfl | rfl | rfl | rfl | rfl | rfl | rfl | rfl | rfl
  · exact ⟨_, Try.func7, c7⟩
  · exact ⟨_, Try.func14, c14⟩
  · exact ⟨_, Try.func17, c17⟩
  · exact ⟨_, Try.func18, c18⟩
  · exact ⟨_, Try.func19, c19⟩
  · exact ⟨_, Try.func21, c21⟩
  · exact ⟨_, Try.func23, c23⟩
  · exact ⟨_, Try.func32, c32⟩
  · exact ⟨_, Try.func33, c33⟩
  · exact ⟨_, Try.func34, c34⟩
  · exact ⟨_, Try.func35, c35⟩
  · exact natJoin_ok N
  · exact natRepeat_ok N
  · exact ⟨_, Try.func56, c56⟩
  · exact ⟨_, Try.func57, c57⟩
  · exact ⟨_, Try.func62, c62⟩
  · exact ⟨_, Try.func63, c63⟩
  · exact ⟨_, Try.func70, c70⟩
  · exact ⟨_, Try.func71, c71⟩
  · exact ⟨_, Try.func72, c72⟩
  · exact ⟨_, Try.func73, c73⟩
  · exact ⟨_, Try.func74, c74⟩
  · exact ⟨_, Try.func90, c90⟩
  · exact ⟨_, Try.func95, c95⟩
  · exact ⟨_, Try.func96, c96⟩
  · exact ⟨_, Try.func97, c97⟩
  · exact ⟨_, Try.func98, c98⟩
  · exact ⟨_, Try.func99, c99⟩
  · exact ⟨_, Try.func100, c100⟩
  · exact ⟨_, Try.func101, c101⟩
  · exact ⟨_, Try.func111, c111⟩
  · exact ⟨_, Try.func112, c112⟩
  · exact ⟨_, Try.func113, c113⟩
  · exact ⟨_, Try.func114, c114⟩
  · exact ⟨_, Try.func115, c115⟩
  · exact add64_ent N
  · exact ⟨_, Try.func117, c117⟩
  · exact ⟨_, Try.func121, c121⟩)
set_option maxRecDepth 100000 in
theorem secretsMatch_run {H : Type} {enc : TypeId × Value → H} (W : World) (args : Array Value) (ds : List (DataW H)) (ps : List MemPlace) (base : Nat) (hval : ∀ (j : Nat) t v, Try.f7.params[j]? = some t → args[j]? = some v → Value.okWide Try.prog W .any base t v)
    (hA : DataW.TrodAll enc Try.prog W 0 (fun _ => true) true Try.f7.params.toList args.toList ds ps) :
    Calls Try.prog 7 args W fun | .returned v', W' => v' = .bool true ∧ Below W.heap.size W W' | _, _ => False := by
  rw [Try.params7] at hval hA
  obtain ⟨v0, l0, d0, e0, p0', q0, g0, rfl, rfl, t0, hA⟩ := trodAll_cons hA
  obtain ⟨v1, l1, d1, e1, p1', q1, rfl, rfl, rfl, t1, hA⟩ := trodAll_cons hA
  obtain ⟨rfl, rfl, rfl⟩ := trodAll_nil hA
  have hargs : args = #[v0, v1] := by rw [← Array.toList_inj, g0]
  subst hargs
  obtain ⟨x1, rfl, r1⟩ := val_int (k := .i64) (by kernel_rfl) (hval 1 _ v1 rfl rfl)
  obtain ⟨fuel, hfu⟩ := t0
  have hv0 : v0.cells.toList = [v0] := slc_cells Try.underlying48 (hval 0 48 v0 rfl rfl)
  rw [hv0] at hfu
  obtain ⟨l, ha⟩ := read_shares Try.underlying48 (by kernel_rfl) (fun _ _ _ h => trod_share (q := 3) (s := 9) Try.underlying51 rfl rfl rfl rfl (by kernel_rfl) (by kernel_rfl) (by kernel_rfl) (by kernel_rfl) (by kernel_rfl) h) hfu
  obtain ⟨c', H', ad, cp, st, hvr, hn, _, hll⟩ := (start0 W).shares ha
  have hval7 := v7 (tbl := lookT secretsMatchT) ⟨rfl, rfl, rfl, rfl, rfl, rfl, rfl, rfl, rfl, rfl, rfl, rfl, rfl, rfl, rfl, rfl, rfl, rfl, rfl, rfl, rfl⟩ ⟨rfl, rfl, rfl, rfl, rfl⟩ ⟨rfl, rfl, rfl, rfl, rfl, rfl, rfl, rfl, rfl, rfl, rfl, rfl⟩ l hll x1 hn st.dead st.pos
  refine (calls_of_val mixed secretsMatchT_ok Try.func7 (by kernel_rfl) (by kernel_rfl) hval7 st.sim (.cons hvr (.cons (.of2 rfl) .nil))).mono fun e W' he => ?_
  cases e with
  | panicked ch => exact he.elim
  | outgrown => exact he.elim
  | returned v =>
    obtain ⟨c', h1, h2, h3⟩ := he
    exact ⟨h1.bool, h3.below⟩
set_option maxRecDepth 100000 in
theorem secretsMatch_lifted (os : Os) (started : os.Started) (H : Type) (enc : TypeId × Value → H) :
    ReturnsInHanded {} Try.checked os 7 .any (Rows.secretsMatchSpec.pre6 enc Try.prog Try.f7 Rows.secretsMatchRow.domain false) (Rows.secretsMatchSpec.post enc Try.prog Try.f7 false true false false) :=
  law_lifted (tb := 4) started rfl rfl Try.func7 (by kernel_rfl) (by kernel_rfl) (by kernel_rfl) (by kernel_rfl)
    (fun ds hlen => by
      rw [List.append_nil]
      have hlen : ds.length = 2 := hlen
      match ds, hlen with
      | [d1, d2], _ => rfl)
    (ChangeSpec.witness6 (enc := enc) (C := Try.checked) false ⟨#[], #[.slice none 0 0, .int .i64 0], []⟩ 8 (by kernel_rfl) (by kernel_rfl) (by kernel_rfl) (by kernel_rfl))
    (fun W args ds ps base hval hA _ => secretsMatch_run W args ds ps base hval hA)
theorem secretsMatch_holds : Rows.SecretsMatchSaid :=
  OpenClaim.holds_of_wide 7 Try.f7 rfl rfl rfl rfl rfl rfl rfl ⟨rfl, rfl, rfl, rfl, rfl⟩ rfl rfl rfl rfl rfl (by kernel_rfl) Try.func7 (by kernel_rfl)
    (of_decide_eq_true (by kernel_rfl)) (by unfold Func.isWrapper; first | (rw [if_pos (by decide +kernel)]; kernel_rfl) | (rw [if_neg (by decide +kernel)]; exact ⟨rfl, rfl⟩))
    (fun os started H enc _ => secretsMatch_lifted os started H enc)
end Go.Proofs.Ytildhljhbbhmmaa
