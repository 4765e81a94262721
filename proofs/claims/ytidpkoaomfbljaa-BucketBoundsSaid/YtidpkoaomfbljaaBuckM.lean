import Derived.Test.YtidpkoaomfbljaaBuckL
import Derived.Test.YtidpkoaomfbljaaAmZ
namespace Go.Proofs.Ytidpkoaomfbljaa
open Go Go.RowKit Go.ChangeShapes Go.WideShapes Go.ChangeAt AM
set_option linter.all false

def bucketBoundsT : List (Nat × Ent) := [(7, .code m7), (11, .code m11), (12, .code m12), (14, .code m14), (18, .code m18), (24, .code m24), (26, .code m26), (28, .code m28), (30, .code m30), (47, .code m47), (48, .code m48), (49, .code m49), (51, .code m51), (52, .code m52), (54, .code m54), (55, .code m55), (68, .code m68)]
instance : TMono (lookT bucketBoundsT) := lookT_mono (by
  intro p hp g h
  simp only [bucketBoundsT, List.mem_cons, List.not_mem_nil, or_false] at hp
  rcases hp with rfl | rfl | rfl | rfl | rfl | rfl | rfl | rfl | rfl | rfl | rfl | rfl | rfl | rfl | rfl | rfl | rfl
  · simp at h
  · simp at h
  · simp at h
  · simp at h
  · simp at h
  · simp at h
  · simp at h
  · simp at h
  · simp at h
  · simp at h
  · simp at h
  · simp at h
  · simp at h
  · simp at h
  · simp at h
  · simp at h
  · simp at h)
theorem bucketBoundsT_ok (N : Nat) : TblOk Try.prog N (lookT bucketBoundsT) := tblOk_of (by
  intro p hp
  simp only [bucketBoundsT, List.mem_cons, List.not_mem_nil, or_false] at hp
  rcases hp with rfl | rfl | rfl | rfl | rfl | rfl | rfl | rfl | rfl | rfl | rfl | rfl | rfl | rfl | rfl | rfl | rfl
  · exact ⟨_, Try.func7, c7⟩
  · exact ⟨_, Try.func11, c11⟩
  · exact ⟨_, Try.func12, c12⟩
  · exact ⟨_, Try.func14, c14⟩
  · exact ⟨_, Try.func18, c18⟩
  · exact ⟨_, Try.func24, c24⟩
  · exact ⟨_, Try.func26, c26⟩
  · exact ⟨_, Try.func28, c28⟩
  · exact ⟨_, Try.func30, c30⟩
  · exact ⟨_, Try.func47, c47⟩
  · exact ⟨_, Try.func48, c48⟩
  · exact ⟨_, Try.func49, c49⟩
  · exact ⟨_, Try.func51, c51⟩
  · exact ⟨_, Try.func52, c52⟩
  · exact ⟨_, Try.func54, c54⟩
  · exact ⟨_, Try.func55, c55⟩
  · exact ⟨_, Try.func68, c68⟩)
theorem bucketBounds_val {H : AH} {u0 : Value} {l0 : List (Int × Int)} (h0 : Sl H 2 u0 l0.length (cells2 l0)) (x1 : Int) {u2 : Value} {l2 : List (Int × Int)} (h2 : Sl H 2 u2 l2.length (cells2 l2)) : Val (lookT bucketBoundsT) 7 [u0, .int .i64 x1, u2] H (.bool true) H :=
  v7 rfl rfl rfl rfl rfl rfl rfl rfl rfl rfl rfl rfl rfl rfl rfl rfl rfl h0 h2 x1
set_option maxRecDepth 100000 in
theorem bucketBounds_run {H : Type} {enc : TypeId × Value → H} (W : World) (args : Array Value) (ds : List (DataW H)) (ps : List MemPlace) (base : Nat) (hval : ∀ (j : Nat) t v, Try.f7.params[j]? = some t → args[j]? = some v → Value.okWide Try.prog W .any base t v)
    (hA : DataW.TrodAll enc Try.prog W 0 (fun _ => true) true Try.f7.params.toList args.toList ds ps) :
    Calls Try.prog 7 args W fun | .returned v', W' => v' = .bool true ∧ Below W.heap.size W W' | _, _ => False := by
  rw [show Try.f7.params = #[47, 3, 36] from rfl] at hval hA
  obtain ⟨v0, r1, d0, ds1, p0, q1, e1, rfl, rfl, t0, hA⟩ := trodAll_cons hA
  obtain ⟨v1, r2, d1, ds2, p1, q2, rfl, rfl, rfl, t1, hA⟩ := trodAll_cons hA
  obtain ⟨v2, r3, d2, ds3, p2, q3, rfl, rfl, rfl, t2, hA⟩ := trodAll_cons hA
  obtain ⟨rfl, rfl, rfl⟩ := trodAll_nil hA
  have hargs : args = #[v0, v1, v2] := by rw [← Array.toList_inj, e1]
  subst hargs
  obtain ⟨l0, cap0, ca0, cb0, _, hw0⟩ := read_pairsW Try.underlying47 (by kernel_rfl) (fun _ _ _ h => trod_pairS (q := 3) Try.underlying93 rfl rfl rfl rfl (by kernel_rfl) (by kernel_rfl) (by kernel_rfl) h) (hval 0 _ v0 rfl rfl) t0
  obtain ⟨c0, H0, u0, st0, hv0, hs0, hm0⟩ := (start0 W).slc (ArgS.of_pairs ca0 cb0 hw0) (cells2_p1 l0)
  obtain ⟨x1, rfl, _⟩ := val_int (k := .i64) (by kernel_rfl) (hval 1 _ v1 rfl rfl)
  obtain ⟨l2, cap2, ca2, cb2, _, hw2⟩ := read_pairs (q := 3) Try.underlying36 (by kernel_rfl) (by kernel_rfl) (by kernel_rfl) (by kernel_rfl) (hval 2 _ v2 rfl rfl) t2
  obtain ⟨c2, H2, u2, st2, hv2, hs2, hm2⟩ := st0.slc (ArgS.of_pairs ca2 cb2 hw2) (cells2_p1 l2)
  refine (calls_of_val mixed (bucketBoundsT_ok W.heap.size) Try.func7 (by kernel_rfl) (by kernel_rfl) (bucketBounds_val (hm2.sl hs0) x1 hs2) st2.sim (.cons (hm2.vr _ _ hv0) (.cons (.of2 rfl) (.cons hv2 .nil)))).mono fun e W' he => ?_
  cases e with
  | panicked ch => exact he.elim
  | outgrown => exact he.elim
  | returned v =>
    obtain ⟨c', h1, h2, h3⟩ := he
    exact ⟨h1.bool, h3.below⟩
set_option maxRecDepth 100000 in
theorem bucketBounds_lifted (os : Os) (started : os.Started) (H : Type) (enc : TypeId × Value → H) :
    ReturnsInHanded {} Try.checked os 7 .any (Rows.bucketBoundsSpec.pre6 enc Try.prog Try.f7 Rows.bucketBoundsRow.domain false) (Rows.bucketBoundsSpec.post enc Try.prog Try.f7 false true false false) :=
  law_lifted (tb := 4) started rfl rfl Try.func7 (by kernel_rfl) (by kernel_rfl) (by kernel_rfl) (by kernel_rfl)
    (fun ds hlen => by
      rw [List.append_nil]
      have hlen : ds.length = 3 := hlen
      match ds, hlen with
      | [d1, d2, d3], _ => rfl)
    (ChangeSpec.witness6 (enc := enc) (C := Try.checked) false ⟨#[], #[.slice none 0 0, .int .i64 0, .slice none 0 0], []⟩ 8 (by kernel_rfl) (by kernel_rfl) (by kernel_rfl) (by kernel_rfl))
    (fun W args ds ps base hval hA _ => bucketBounds_run W args ds ps base hval hA)
theorem bucketBounds_holds : Rows.BucketBoundsSaid :=
  OpenClaim.holds_of_wide 7 Try.f7 rfl rfl rfl rfl rfl rfl rfl ⟨rfl, rfl, rfl, rfl, rfl⟩ rfl rfl rfl rfl rfl (by kernel_rfl) Try.func7 (by kernel_rfl)
    (of_decide_eq_true (by kernel_rfl)) (by unfold Func.isWrapper; first | (rw [if_pos (by decide +kernel)]; kernel_rfl) | (rw [if_neg (by decide +kernel)]; exact ⟨rfl, rfl⟩))
    (fun os started H enc _ => bucketBounds_lifted os started H enc)
end Go.Proofs.Ytidpkoaomfbljaa
