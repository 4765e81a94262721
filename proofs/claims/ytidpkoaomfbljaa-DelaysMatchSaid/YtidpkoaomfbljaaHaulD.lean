import Derived.Test.YtidpkoaomfbljaaHaulC
import Derived.Test.YtidpkoaomfbljaaAmU
namespace Go.Proofs.Ytidpkoaomfbljaa
open Go Go.RowKit Go.ChangeShapes Go.WideShapes Go.ChangeAt AM
set_option linter.all false

def delaysT : List (Nat × Ent) := [(3, .code m3), (11, .code m11), (12, .code m12), (13, .code m13), (14, .code m14), (15, .code m15), (16, .code m16), (17, .code m17), (18, .code m18), (19, .code m19), (47, .code m47), (48, .code m48), (49, .code m49), (50, .code m50), (68, .code m68)]
instance : TMono (lookT delaysT) := lookT_mono (by
  intro p hp g h
  simp only [delaysT, List.mem_cons, List.not_mem_nil, or_false] at hp
  rcases hp with rfl | rfl | rfl | rfl | rfl | rfl | rfl | rfl | rfl | rfl | rfl | rfl | rfl | rfl | rfl <;> simp at h)
theorem delaysT_ok (N : Nat) : TblOk Try.prog N (lookT delaysT) := tblOk_of (by
  intro p hp
  simp only [delaysT, List.mem_cons, List.not_mem_nil, or_false] at hp
  rcases hp with rfl | rfl | rfl | rfl | rfl | rfl | rfl | rfl | rfl | rfl | rfl | rfl | rfl | rfl | rfl
  · exact ⟨_, Try.func3, c3⟩
  · exact ⟨_, Try.func11, c11⟩
  · exact ⟨_, Try.func12, c12⟩
  · exact ⟨_, Try.func13, c13⟩
  · exact ⟨_, Try.func14, c14⟩
  · exact ⟨_, Try.func15, c15⟩
  · exact ⟨_, Try.func16, c16⟩
  · exact ⟨_, Try.func17, c17⟩
  · exact ⟨_, Try.func18, c18⟩
  · exact ⟨_, Try.func19, c19⟩
  · exact ⟨_, Try.func47, c47⟩
  · exact ⟨_, Try.func48, c48⟩
  · exact ⟨_, Try.func49, c49⟩
  · exact ⟨_, Try.func50, c50⟩
  · exact ⟨_, Try.func68, c68⟩)
theorem delays_val (a b c j e s : Int) : Val (lookT delaysT) 3 [.agg #[.int .i64 a, .int .i64 b, .int .i64 c, .int .i64 j, .int .i64 e], .int .i64 s] H0 (.bool true) H0 :=
  v3 rfl rfl rfl rfl rfl rfl rfl rfl rfl rfl rfl rfl rfl rfl rfl a b c j e s H0
set_option maxRecDepth 100000 in
theorem delays_run (W : World) (args : Array Value) (base : Nat) (hval : ∀ (j : Nat) t v, Try.f3.params[j]? = some t → args[j]? = some v → Value.okWide Try.prog W .any base t v) (hlen : args.toList.length = Try.f3.params.toList.length) :
    Calls Try.prog 3 args W fun | .returned v', W' => v' = .bool true ∧ Below W.heap.size W W' | _, _ => False := by
  rw [Try.params3] at hval hlen
  obtain ⟨v0, v1, h01⟩ : ∃ v0 v1, args.toList = [v0, v1] := by
    match h : args.toList, hlen with
    | [v0, v1], _ => exact ⟨v0, v1, rfl⟩
  have hargs : args = #[v0, v1] := by rw [← Array.toList_inj, h01]
  subst hargs
  obtain ⟨l, hl, rfl, _⟩ := val_ints (n := 5) (u := 3) Try.underlying23 (by kernel_rfl) (by kernel_rfl) (by kernel_rfl) (hval 0 _ v0 rfl rfl)
  obtain ⟨s, rfl, _⟩ := val_int (k := .i64) (by kernel_rfl) (hval 1 _ v1 rfl rfl)
  match l, hl with
  | [a, b, c, j, e], _ =>
    refine (calls_of_val mixed (delaysT_ok W.heap.size) Try.func3 (by kernel_rfl) (by kernel_rfl) (delays_val a b c j e s) (sim0 (Nat.le_refl _)) (.cons (.of2 rfl) (.cons (.of2 rfl) .nil))).mono fun e W' he => ?_
    cases e with
    | panicked ch => exact he.elim
    | outgrown => exact he.elim
    | returned v =>
      obtain ⟨c', h1, h2, h3⟩ := he
      exact ⟨h1.bool, h3.below⟩
set_option maxRecDepth 100000 in
theorem delaysMatch_lifted (os : Os) (started : os.Started) (H : Type) (enc : TypeId × Value → H) :
    ReturnsInHanded {} Try.checked os 3 .any (Rows.delaysMatchSpec.pre6 enc Try.prog Try.f3 Rows.delaysMatchRow.domain false) (Rows.delaysMatchSpec.post enc Try.prog Try.f3 false true false false) :=
  law_lifted (tb := 4) started rfl rfl Try.func3 (by kernel_rfl) (by kernel_rfl) (by kernel_rfl) (by kernel_rfl)
    (fun ds hlen => by
      rw [List.append_nil]
      have hlen : ds.length = 2 := hlen
      match ds, hlen with
      | [d1, d2], _ => rfl)
    (ChangeSpec.witness6 (enc := enc) (C := Try.checked) false ⟨#[], #[.agg #[.int .i64 0, .int .i64 0, .int .i64 0, .int .i64 0, .int .i64 0], .int .i64 0], []⟩ 8 (by kernel_rfl) (by kernel_rfl) (by kernel_rfl) (by kernel_rfl))
    (fun W args ds ps base hval hA _ => delays_run W args base hval (trodAll_length hA).1)
theorem delaysMatch_holds : Rows.DelaysMatchSaid :=
  OpenClaim.holds_of_wide 3 Try.f3 rfl rfl rfl rfl rfl rfl rfl ⟨rfl, rfl, rfl, rfl, rfl⟩ rfl rfl rfl rfl rfl (by kernel_rfl) Try.func3 (by kernel_rfl)
    (of_decide_eq_true (by kernel_rfl)) (by unfold Func.isWrapper; first | (rw [if_pos (by decide +kernel)]; kernel_rfl) | (rw [if_neg (by decide +kernel)]; exact ⟨rfl, rfl⟩))
    (fun os started H enc _ => delaysMatch_lifted os started H enc)
end Go.Proofs.Ytidpkoaomfbljaa
