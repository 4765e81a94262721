import Derived.Test.YtidpkoaomfbljaaBuckH
import Derived.Test.YtidpkoaomfbljaaAmZ
namespace Go.Proofs.Ytidpkoaomfbljaa
open Go Go.RowKit Go.ChangeShapes Go.WideShapes Go.ChangeAt AM
set_option linter.all false

def bucketT : List (Nat × Ent) := [(6, .code m6), (11, .code m11), (12, .code m12), (14, .code m14), (15, .code m15), (16, .code m16), (17, .code m17), (18, .code m18), (24, .code m24), (25, .code m25), (28, .code m28), (29, .code m29), (30, .code m30), (31, .code m31), (32, .code m32), (33, .code m33), (47, .code m47), (48, .code m48), (49, .code m49), (51, .code m51), (53, .code m53), (54, .code m54), (55, .code m55), (56, .code m56), (68, .code m68)]
instance : TMono (lookT bucketT) := lookT_mono (by
  intro p hp g h
  simp only [bucketT, List.mem_cons, List.not_mem_nil, or_false] at hp
  rcases hp with rfl | rfl | rfl | rfl | rfl | rfl | rfl | rfl | rfl | rfl | rfl | rfl | rfl | rfl | rfl | rfl | rfl | rfl | rfl | rfl | rfl | rfl | rfl | rfl | rfl <;> simp at h)
theorem bucketT_ok (N : Nat) : TblOk Try.prog N (lookT bucketT) := tblOk_of (by
  intro p hp
  simp only [bucketT, List.mem_cons, List.not_mem_nil, or_false] at hp
  rcases hp with rfl | rfl | rfl | rfl | rfl | rfl | rfl | rfl | rfl | rfl | rfl | rfl | rfl | rfl | rfl | rfl | rfl | rfl | rfl | rfl | rfl | rfl | rfl | rfl | rfl
  · exact ⟨_, Try.func6, c6⟩
  · exact ⟨_, Try.func11, c11⟩
  · exact ⟨_, Try.func12, c12⟩
  · exact ⟨_, Try.func14, c14⟩
  · exact ⟨_, Try.func15, c15⟩
  · exact ⟨_, Try.func16, c16⟩
  · exact ⟨_, Try.func17, c17⟩
  · exact ⟨_, Try.func18, c18⟩
  · exact ⟨_, Try.func24, c24⟩
  · exact ⟨_, Try.func25, c25⟩
  · exact ⟨_, Try.func28, c28⟩
  · exact ⟨_, Try.func29, c29⟩
  · exact ⟨_, Try.func30, c30⟩
  · exact ⟨_, Try.func31, c31⟩
  · exact ⟨_, Try.func32, c32⟩
  · exact ⟨_, Try.func33, c33⟩
  · exact ⟨_, Try.func47, c47⟩
  · exact ⟨_, Try.func48, c48⟩
  · exact ⟨_, Try.func49, c49⟩
  · exact ⟨_, Try.func51, c51⟩
  · exact ⟨_, Try.func53, c53⟩
  · exact ⟨_, Try.func54, c54⟩
  · exact ⟨_, Try.func55, c55⟩
  · exact ⟨_, Try.func56, c56⟩
  · exact ⟨_, Try.func68, c68⟩)
theorem bucket_val {H : AH} {v u : Value} {l asks : List (Int × Int)} (hs : Sl H 2 v l.length (cells2 l)) (hu : Sl H 2 u asks.length (cells2 asks)) (burst : Int) : Val (lookT bucketT) 6 [v, .int .i64 burst, u] H (.bool true) H :=
  v6 rfl rfl rfl rfl rfl rfl rfl rfl rfl rfl rfl rfl rfl rfl rfl rfl rfl rfl rfl rfl rfl rfl rfl rfl rfl hs hu burst
set_option maxRecDepth 100000 in
theorem bucket_run {H : Type} {enc : TypeId × Value → H} (W : World) (args : Array Value) (ds : List (DataW H)) (ps : List MemPlace) (base : Nat) (hval : ∀ (j : Nat) t v, Try.f6.params[j]? = some t → args[j]? = some v → Value.okWide Try.prog W .any base t v)
    (hA : DataW.TrodAll enc Try.prog W 0 (fun _ => true) true Try.f6.params.toList args.toList ds ps) :
    Calls Try.prog 6 args W fun | .returned v', W' => v' = .bool true ∧ Below W.heap.size W W' | _, _ => False := by
  rw [show Try.f6.params = #[47, 3, 36] from rfl] at hval hA
  obtain ⟨v0, l1, d0, ds1, p0, p1, e1, rfl, rfl, h0, hA⟩ := trodAll_cons hA
  obtain ⟨v1, l2, d1, ds2, p1, p2, rfl, rfl, rfl, h1, hA⟩ := trodAll_cons hA
  obtain ⟨v2, l3, d2, ds3, p2, p3, rfl, rfl, rfl, h2, hA⟩ := trodAll_cons hA
  obtain ⟨rfl, rfl, rfl⟩ := trodAll_nil hA
  have hargs : args = #[v0, v1, v2] := by rw [← Array.toList_inj, e1]
  subst hargs
  obtain ⟨l, cap, hc1, hc2, _, hv⟩ := read_pairsW Try.underlying47 (by kernel_rfl) (fun _ _ _ h => trod_pairS (q := 3) Try.underlying93 rfl rfl rfl rfl (by kernel_rfl) (by kernel_rfl) (by kernel_rfl) h) (hval 0 _ v0 rfl rfl) h0
  obtain ⟨burst, rfl, _⟩ := val_int (k := .i64) (by kernel_rfl) (hval 1 _ v1 rfl rfl)
  obtain ⟨asks, cap2, hc3, hc4, _, hw⟩ := read_pairs (q := 3) Try.underlying36 (by kernel_rfl) (by kernel_rfl) (by kernel_rfl) (by kernel_rfl) (hval 2 _ v2 rfl rfl) h2
  obtain ⟨c1, H1, u1, st1, hv1, hs1, hm1⟩ := (start0 W).slc (ArgS.of_pairs hc1 hc2 hv) (cells2_p1 l)
  obtain ⟨c2, H2, u2, st2, hv2, hs2, hm2⟩ := st1.slc (ArgS.of_pairs hc3 hc4 hw) (cells2_p1 asks)
  refine (calls_of_val mixed (bucketT_ok W.heap.size) Try.func6 (by kernel_rfl) (by kernel_rfl) (bucket_val (hm2.sl hs1) hs2 burst) st2.sim (.cons (hm2.vr _ _ hv1) (.cons (.of2 rfl) (.cons hv2 .nil)))).mono fun e W' he => ?_
  cases e with
  | panicked ch => exact he.elim
  | outgrown => exact he.elim
  | returned v =>
    obtain ⟨c', h1, h2, h3⟩ := he
    exact ⟨h1.bool, h3.below⟩
set_option maxRecDepth 100000 in
theorem bucketMatches_lifted (os : Os) (started : os.Started) (H : Type) (enc : TypeId × Value → H) :
    ReturnsInHanded {} Try.checked os 6 .any (Rows.bucketMatchesSpec.pre6 enc Try.prog Try.f6 Rows.bucketMatchesRow.domain false) (Rows.bucketMatchesSpec.post enc Try.prog Try.f6 false true false false) :=
  law_lifted (tb := 4) started rfl rfl Try.func6 (by kernel_rfl) (by kernel_rfl) (by kernel_rfl) (by kernel_rfl)
    (fun ds hlen => by
      rw [List.append_nil]
      have hlen : ds.length = 3 := hlen
      match ds, hlen with
      | [d1, d2, d3], _ => rfl)
    (ChangeSpec.witness6 (enc := enc) (C := Try.checked) false ⟨#[], #[.slice none 0 0, .int .i64 0, .slice none 0 0], []⟩ 8 (by kernel_rfl) (by kernel_rfl) (by kernel_rfl) (by kernel_rfl))
    (fun W args ds ps base hval hA _ => bucket_run W args ds ps base hval hA)
theorem bucketMatches_holds : Rows.BucketMatchesSaid :=
  OpenClaim.holds_of_wide 6 Try.f6 rfl rfl rfl rfl rfl rfl rfl ⟨rfl, rfl, rfl, rfl, rfl⟩ rfl rfl rfl rfl rfl (by kernel_rfl) Try.func6 (by kernel_rfl)
    (of_decide_eq_true (by kernel_rfl)) (by unfold Func.isWrapper; first | (rw [if_pos (by decide +kernel)]; kernel_rfl) | (rw [if_neg (by decide +kernel)]; exact ⟨rfl, rfl⟩))
    (fun os started H enc _ => bucketMatches_lifted os started H enc)
end Go.Proofs.Ytidpkoaomfbljaa
