import Derived.Test.YtidpkoaomfbljaaPaceB
namespace Go.Proofs.Ytidpkoaomfbljaa
open Go Go.RowKit Go.ChangeShapes Go.WideShapes Go.ChangeAt AM
set_option linter.all false

def pacerT : List (Nat × Ent) := [(4, .code m4), (11, .code m11), (12, .code m12), (13, .code m13), (14, .code m14), (17, .code m17), (18, .code m18), (20, .code m20), (21, .code m21), (22, .code m22), (23, .code m23), (47, .code m47), (48, .code m48), (49, .code m49), (68, .code m68)]
instance : TMono (lookT pacerT) := lookT_mono (by
  intro p hp g h
  simp only [pacerT, List.mem_cons, List.not_mem_nil, or_false] at hp
  rcases hp with rfl | rfl | rfl | rfl | rfl | rfl | rfl | rfl | rfl | rfl | rfl | rfl | rfl | rfl | rfl <;> simp at h)
theorem pacerT_ok (N : Nat) : TblOk Try.prog N (lookT pacerT) := tblOk_of (by
  intro p hp
  simp only [pacerT, List.mem_cons, List.not_mem_nil, or_false] at hp
  rcases hp with rfl | rfl | rfl | rfl | rfl | rfl | rfl | rfl | rfl | rfl | rfl | rfl | rfl | rfl | rfl
  · exact ⟨_, Try.func4, c4⟩
  · exact ⟨_, Try.func11, c11⟩
  · exact ⟨_, Try.func12, c12⟩
  · exact ⟨_, Try.func13, c13⟩
  · exact ⟨_, Try.func14, c14⟩
  · exact ⟨_, Try.func17, c17⟩
  · exact ⟨_, Try.func18, c18⟩
  · exact ⟨_, Try.func20, c20⟩
  · exact ⟨_, Try.func21, c21⟩
  · exact ⟨_, Try.func22, c22⟩
  · exact ⟨_, Try.func23, c23⟩
  · exact ⟨_, Try.func47, c47⟩
  · exact ⟨_, Try.func48, c48⟩
  · exact ⟨_, Try.func49, c49⟩
  · exact ⟨_, Try.func68, c68⟩)
theorem pacer_val {H : AH} {v : Value} {asks : List (Int × Int)} (hs : Sl H 2 v asks.length (cells2 asks)) (hn : asks.length ≤ 9223372036854775807) (a b c j e : Int) : Val (lookT pacerT) 4 [.agg #[.int .i64 a, .int .i64 b, .int .i64 c, .int .i64 j, .int .i64 e], v] H (.bool true) H :=
  v4 rfl rfl rfl rfl rfl rfl rfl rfl rfl rfl rfl rfl rfl rfl rfl a b c j e H v asks hs hn
set_option maxRecDepth 100000 in
theorem pacer_run {H : Type} {enc : TypeId × Value → H} (W : World) (args : Array Value) (ds : List (DataW H)) (ps : List MemPlace) (base : Nat) (hval : ∀ (j : Nat) t v, Try.f4.params[j]? = some t → args[j]? = some v → Value.okWide Try.prog W .any base t v)
    (hA : DataW.TrodAll enc Try.prog W 0 (fun _ => true) true Try.f4.params.toList args.toList ds ps) :
    Calls Try.prog 4 args W fun | .returned v', W' => v' = .bool true ∧ Below W.heap.size W W' | _, _ => False := by
  rw [show Try.f4.params = #[23, 36] from rfl] at hval hA
  obtain ⟨v0, l1, d0, ds1, p0, p1, e1, rfl, rfl, h0, hA⟩ := trodAll_cons hA
  obtain ⟨v1, l2, d1, ds2, p1, p2, rfl, rfl, rfl, h1, hA⟩ := trodAll_cons hA
  obtain ⟨rfl, rfl, rfl⟩ := trodAll_nil hA
  have hargs : args = #[v0, v1] := by rw [← Array.toList_inj, e1]
  subst hargs
  obtain ⟨l, hl, rfl, _⟩ := val_ints (n := 5) (u := 3) Try.underlying23 (by kernel_rfl) (by kernel_rfl) (by kernel_rfl) (hval 0 _ v0 rfl rfl)
  obtain ⟨asks, cap, hc1, hc2, _, hv⟩ := read_pairs (q := 3) Try.underlying36 (by kernel_rfl) (by kernel_rfl) (by kernel_rfl) (by kernel_rfl) (hval 1 _ v1 rfl rfl) h1
  obtain ⟨c0, H0', u, hsim, hvr, hsl⟩ := start_pairs (P := Try.prog) hc1 hv
  match l, hl with
  | [a, b, c, j, e], _ =>
    refine (calls_of_val mixed (pacerT_ok W.heap.size) Try.func4 (by kernel_rfl) (by kernel_rfl) (pacer_val hsl (Nat.le_trans hc1 hc2) a b c j e) hsim (.cons (.of2 rfl) (.cons hvr .nil))).mono fun e W' he => ?_
    cases e with
    | panicked ch => exact he.elim
    | outgrown => exact he.elim
    | returned v =>
      obtain ⟨c', h1, h2, h3⟩ := he
      exact ⟨h1.bool, h3.below⟩
set_option maxRecDepth 100000 in
theorem pacerMatches_lifted (os : Os) (started : os.Started) (H : Type) (enc : TypeId × Value → H) :
    ReturnsInHanded {} Try.checked os 4 .any (Rows.pacerMatchesSpec.pre6 enc Try.prog Try.f4 Rows.pacerMatchesRow.domain false) (Rows.pacerMatchesSpec.post enc Try.prog Try.f4 false true false false) :=
  law_lifted (tb := 4) started rfl rfl Try.func4 (by kernel_rfl) (by kernel_rfl) (by kernel_rfl) (by kernel_rfl)
    (fun ds hlen => by
      rw [List.append_nil]
      have hlen : ds.length = 2 := hlen
      match ds, hlen with
      | [d1, d2], _ => rfl)
    (ChangeSpec.witness6 (enc := enc) (C := Try.checked) false ⟨#[], #[.agg #[.int .i64 0, .int .i64 0, .int .i64 0, .int .i64 0, .int .i64 0], .slice none 0 0], []⟩ 8 (by kernel_rfl) (by kernel_rfl) (by kernel_rfl) (by kernel_rfl))
    (fun W args ds ps base hval hA _ => pacer_run W args ds ps base hval hA)
theorem pacerMatches_holds : Rows.PacerMatchesSaid :=
  OpenClaim.holds_of_wide 4 Try.f4 rfl rfl rfl rfl rfl rfl rfl ⟨rfl, rfl, rfl, rfl, rfl⟩ rfl rfl rfl rfl rfl (by kernel_rfl) Try.func4 (by kernel_rfl)
    (of_decide_eq_true (by kernel_rfl)) (by unfold Func.isWrapper; first | (rw [if_pos (by decide +kernel)]; kernel_rfl) | (rw [if_neg (by decide +kernel)]; exact ⟨rfl, rfl⟩))
    (fun os started H enc _ => pacerMatches_lifted os started H enc)
end Go.Proofs.Ytidpkoaomfbljaa
