/- The law SharesMatch: shares of a secret, and the secret by some of them, are as the reference says. No conditions. -/
import Derived.Test.YtildhljhbbhmmaaCv6
namespace Go.Proofs.Ytildhljhbbhmmaa
open Go Go.RowKit Go.ChangeShapes Go.WideShapes Go.ChangeAt AM
set_option linter.all false

def sharesMatchT : List (Nat × Ent) := [(8, .code m8), (14, .code m14), (17, .code m17), (18, .code m18), (19, .code m19), (21, .code m21), (32, .code m32), (36, .code m36), (37, .code m37), (38, .code m38), (39, .code m39), (49, .nat natJoin), (55, .nat natRepeat), (56, .code m56), (57, .code m57), (62, .code m62), (63, .code m63), (70, .code m70), (73, .code m73), (74, .code m74), (75, .code m75), (90, .code m90), (95, .code m95), (96, .code m96), (97, .code m97), (98, .code m98), (99, .code m99), (100, .code m100), (111, .code m111), (112, .code m112), (113, .code m113), (114, .code m114), (115, .code m115), (116, .nat natAdd64), (117, .code m117), (121, .code m121)]
instance : TMono (lookT sharesMatchT) := lookT_mono (by
  intro p hp g h
  simp only [sharesMatchT, List.mem_cons, List.not_mem_nil, or_false] at hp
  rcases hp with rfl | rfl | rfl | rfl | rfl | rfl | rfl | rfl | rfl | rfl | rfl | rfl | rfl | rfl | rfl | rfl | rfl | rfl | rfl | rfl | rfl | rfl | rfl | rfl | rfl | rfl | rfl | rfl | rfl | rfl | rfl | rfl | rfl | rfl | rfl | rfl
  · simp at h
  · simp at h
  · simp at h
  · simp at h
  · simp at h
  · simp at h
  · simp at h
  · simp at h
  · simp at h
  · simp at h
  · simp at h
  · simp only [Ent.nat.injEq] at h; subst h; exact natJoin_mono
  · simp only [Ent.nat.injEq] at h; subst h; exact natRepeat_mono
  · simp at h
  · simp at h
  · simp at h
  · simp at h
  · simp at h
  · simp at h
  · simp at h
  · simp at h
  · simp at h
  · simp at h
  · simp at h
  · simp at h
  · simp at h
  · simp at h
  · simp at h
  · simp at h
  · simp at h
  · simp at h
  · simp at h
  · simp at h
  · simp only [Ent.nat.injEq] at h; subst h; exact natAdd64_mono
  · simp at h
  · simp at h)
theorem sharesMatchT_ok (N : Nat) : TblOk Try.prog N (lookT sharesMatchT) := tblOk_of (by
  intro p hp
  simp only [sharesMatchT, List.mem_cons, List.not_mem_nil, or_false] at hp
  rcases hp with rfl | rfl | rfl | rfl | rfl | rfl | rfl | rfl | rfl | rfl | rfl | rfl | rfl | rfl | rfl | rfl | rfl | rfl | rfl | rfl | rfl | rfl | rfl | rfl | rfl | rfl | rfl | rfl | rfl | rfl | rfl | rfl | rfl | rfl | rfl | rfl
  · exact ⟨_, Try.func8, c8⟩
  · exact ⟨_, Try.func14, c14⟩
  · exact ⟨_, Try.func17, c17⟩
  · exact ⟨_, Try.func18, c18⟩
  · exact ⟨_, Try.func19, c19⟩
  · exact ⟨_, Try.func21, c21⟩
  · exact ⟨_, Try.func32, c32⟩
  · exact ⟨_, Try.func36, c36⟩
  · exact ⟨_, Try.func37, c37⟩
  · exact ⟨_, Try.func38, c38⟩
  · exact ⟨_, Try.func39, c39⟩
  · exact natJoin_ok N
  · exact natRepeat_ok N
  · exact ⟨_, Try.func56, c56⟩
  · exact ⟨_, Try.func57, c57⟩
  · exact ⟨_, Try.func62, c62⟩
  · exact ⟨_, Try.func63, c63⟩
  · exact ⟨_, Try.func70, c70⟩
  · exact ⟨_, Try.func73, c73⟩
  · exact ⟨_, Try.func74, c74⟩
  · exact ⟨_, Try.func75, c75⟩
  · exact ⟨_, Try.func90, c90⟩
  · exact ⟨_, Try.func95, c95⟩
  · exact ⟨_, Try.func96, c96⟩
  · exact ⟨_, Try.func97, c97⟩
  · exact ⟨_, Try.func98, c98⟩
  · exact ⟨_, Try.func99, c99⟩
  · exact ⟨_, Try.func100, c100⟩
  · exact ⟨_, Try.func111, c111⟩
  · exact ⟨_, Try.func112, c112⟩
  · exact ⟨_, Try.func113, c113⟩
  · exact ⟨_, Try.func114, c114⟩
  · exact ⟨_, Try.func115, c115⟩
  · exact add64_ent N
  · exact ⟨_, Try.func117, c117⟩
  · exact ⟨_, Try.func121, c121⟩)
set_option maxRecDepth 100000 in
theorem sharesMatch_run {H : Type} {enc : TypeId × Value → H} (W : World) (args : Array Value) (ds : List (DataW H)) (ps : List MemPlace) (base : Nat) (hval : ∀ (j : Nat) t v, Try.f8.params[j]? = some t → args[j]? = some v → Value.okWide Try.prog W .any base t v)
    (hA : DataW.TrodAll enc Try.prog W 0 (fun _ => true) true Try.f8.params.toList args.toList ds ps) :
    Calls Try.prog 8 args W fun | .returned v', W' => v' = .bool true ∧ Below W.heap.size W W' | _, _ => False := by
  rw [Try.params8] at hval hA
  obtain ⟨v0, l0, d0, e0, p0', q0, g0, rfl, rfl, t0, hA⟩ := trodAll_cons hA
  obtain ⟨v1, l1, d1, e1, p1', q1, rfl, rfl, rfl, t1, hA⟩ := trodAll_cons hA
  obtain ⟨v2, l2, d2, e2, p2', q2, rfl, rfl, rfl, t2, hA⟩ := trodAll_cons hA
  obtain ⟨v3, l3, d3, e3, p3', q3, rfl, rfl, rfl, t3, hA⟩ := trodAll_cons hA
  obtain ⟨v4, l4, d4, e4, p4', q4, rfl, rfl, rfl, t4, hA⟩ := trodAll_cons hA
  obtain ⟨rfl, rfl, rfl⟩ := trodAll_nil hA
  have hargs : args = #[v0, v1, v2, v3, v4] := by rw [← Array.toList_inj, g0]
  subst hargs
  obtain ⟨x0, rfl, r0⟩ := val_str (by kernel_rfl) (hval 0 _ v0 rfl rfl)
  obtain ⟨x1, rfl, r1⟩ := val_str (by kernel_rfl) (hval 1 _ v1 rfl rfl)
  obtain ⟨x2, rfl, r2⟩ := val_int (k := .i64) (by kernel_rfl) (hval 2 _ v2 rfl rfl)
  obtain ⟨x3, rfl, r3⟩ := val_int (k := .i64) (by kernel_rfl) (hval 3 _ v3 rfl rfl)
  obtain ⟨fuel, hfu⟩ := t4
  have hv4 : v4.cells.toList = [v4] := slc_cells Try.underlying56 (hval 4 56 v4 rfl rfl)
  rw [hv4] at hfu
  obtain ⟨pk, ha, hpr, hpl⟩ := read_ints Try.underlying56 (by kernel_rfl) (by kernel_rfl) hfu
  have hp : (pk.map I64).all p1 = true := i64_p1 pk
  have hml : maxLen ≤ 9223372036854775807 := by decide
  have hl0 : x0.data.toList.length ≤ 9223372036854775807 := by rw [← tx_size, tx_of]; exact r0
  have hl1 : x1.data.toList.length ≤ 9223372036854775807 := by rw [← tx_size, tx_of]; exact r1
  obtain ⟨c', H', u, st, hvr, hsl, hmo⟩ := (start0 W).slc ha hp
  have hval8 := v8 (tbl := lookT sharesMatchT) ⟨rfl, rfl, rfl, rfl, rfl, rfl, rfl, rfl, rfl, rfl, rfl, rfl, rfl, rfl, rfl, rfl, rfl, rfl, rfl, rfl, rfl⟩ ⟨rfl, rfl, rfl, rfl, rfl⟩ ⟨rfl, rfl, rfl, rfl, rfl, rfl, rfl, rfl, rfl⟩ rfl x0.data.toList x1.data.toList hl0 hl1 x2 x3 (has_i64 r2) pk (by omega) (fun x hx => has_i64 (hpr x hx)) st.dead st.pos hsl
  rw [tx_of, tx_of] at hval8
  refine (calls_of_val mixed sharesMatchT_ok Try.func8 (by kernel_rfl) (by kernel_rfl) hval8 st.sim (.cons (.of2 rfl) (.cons (.of2 rfl) (.cons (.of2 rfl) (.cons (.of2 rfl) (.cons hvr .nil)))))).mono fun e W' he => ?_
  cases e with
  | panicked ch => exact he.elim
  | outgrown => exact he.elim
  | returned v =>
    obtain ⟨c', h1, h2, h3⟩ := he
    exact ⟨h1.bool, h3.below⟩
set_option maxRecDepth 100000 in
theorem sharesMatch_lifted (os : Os) (started : os.Started) (H : Type) (enc : TypeId × Value → H) :
    ReturnsInHanded {} Try.checked os 8 .any (Rows.sharesMatchSpec.pre6 enc Try.prog Try.f8 Rows.sharesMatchRow.domain false) (Rows.sharesMatchSpec.post enc Try.prog Try.f8 false true false false) :=
  law_lifted (tb := 4) started rfl rfl Try.func8 (by kernel_rfl) (by kernel_rfl) (by kernel_rfl) (by kernel_rfl)
    (fun ds hlen => by
      rw [List.append_nil]
      have hlen : ds.length = 5 := hlen
      match ds, hlen with
      | [d1, d2, d3, d4, d5], _ => rfl)
    (ChangeSpec.witness6 (enc := enc) (C := Try.checked) false ⟨#[], #[.string ⟨#[]⟩, .string ⟨#[]⟩, .int .i64 0, .int .i64 0, .slice none 0 0], []⟩ 8 (by kernel_rfl) (by kernel_rfl) (by kernel_rfl) (by kernel_rfl))
    (fun W args ds ps base hval hA _ => sharesMatch_run W args ds ps base hval hA)
theorem sharesMatch_holds : Rows.SharesMatchSaid :=
  OpenClaim.holds_of_wide 8 Try.f8 rfl rfl rfl rfl rfl rfl rfl ⟨rfl, rfl, rfl, rfl, rfl⟩ rfl rfl rfl rfl rfl (by kernel_rfl) Try.func8 (by kernel_rfl)
    (of_decide_eq_true (by kernel_rfl)) (by unfold Func.isWrapper; first | (rw [if_pos (by decide +kernel)]; kernel_rfl) | (rw [if_neg (by decide +kernel)]; exact ⟨rfl, rfl⟩))
    (fun os started H enc _ => sharesMatch_lifted os started H enc)
end Go.Proofs.Ytildhljhbbhmmaa
