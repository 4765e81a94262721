import Derived.Test.YtidpkoaomfbljaaRateG
namespace Go.Proofs.Ytidpkoaomfbljaa
open Go Go.RowKit Go.ChangeShapes Go.WideShapes Go.ChangeAt AM
set_option linter.all false

def ratesT : List (Nat × Ent) := [(5, .code m5), (11, .code m11), (12, .code m12), (14, .code m14), (15, .code m15), (16, .code m16), (17, .code m17), (18, .code m18), (24, .code m24), (25, .code m25), (26, .code m26), (27, .code m27), (47, .code m47), (48, .code m48), (49, .code m49), (51, .code m51), (52, .code m52), (53, .code m53), (55, .code m55), (68, .code m68)]
instance : TMono (lookT ratesT) := lookT_mono (by
  intro p hp g h
  simp only [ratesT, List.mem_cons, List.not_mem_nil, or_false] at hp
  rcases hp with rfl | rfl | rfl | rfl | rfl | rfl | rfl | rfl | rfl | rfl | rfl | rfl | rfl | rfl | rfl | rfl | rfl | rfl | rfl | rfl <;> simp at h)
theorem ratesT_ok (N : Nat) : TblOk Try.prog N (lookT ratesT) := tblOk_of (by
  intro p hp
  simp only [ratesT, List.mem_cons, List.not_mem_nil, or_false] at hp
  rcases hp with rfl | rfl | rfl | rfl | rfl | rfl | rfl | rfl | rfl | rfl | rfl | rfl | rfl | rfl | rfl | rfl | rfl | rfl | rfl | rfl
  · exact ⟨_, Try.func5, c5⟩
  · exact ⟨_, Try.func11, c11⟩
  · exact ⟨_, Try.func12, c12⟩
  · exact ⟨_, Try.func14, c14⟩
  · exact ⟨_, Try.func15, c15⟩
  · exact ⟨_, Try.func16, c16⟩
  · exact ⟨_, Try.func17, c17⟩
  · exact ⟨_, Try.func18, c18⟩
  · exact ⟨_, Try.func24, c24⟩
  · exact ⟨_, Try.func25, c25⟩
  · exact ⟨_, Try.func26, c26⟩
  · exact ⟨_, Try.func27, c27⟩
  · exact ⟨_, Try.func47, c47⟩
  · exact ⟨_, Try.func48, c48⟩
  · exact ⟨_, Try.func49, c49⟩
  · exact ⟨_, Try.func51, c51⟩
  · exact ⟨_, Try.func52, c52⟩
  · exact ⟨_, Try.func53, c53⟩
  · exact ⟨_, Try.func55, c55⟩
  · exact ⟨_, Try.func68, c68⟩)
theorem rates_val {H : AH} {v : Value} {l : List (Int × Int)} (hs : Sl H 2 v l.length (cells2 l)) (burst a b : Int) : Val (lookT ratesT) 5 [v, .int .i64 burst, .int .i64 a, .int .i64 b] H (.bool true) H :=
  v5 rfl rfl rfl rfl rfl rfl rfl rfl rfl rfl rfl rfl rfl rfl rfl rfl rfl rfl rfl rfl hs burst a b
set_option maxRecDepth 100000 in
theorem rates_run {H : Type} {enc : TypeId × Value → H} (W : World) (args : Array Value) (ds : List (DataW H)) (ps : List MemPlace) (base : Nat) (hval : ∀ (j : Nat) t v, Try.f5.params[j]? = some t → args[j]? = some v → Value.okWide Try.prog W .any base t v)
    (hA : DataW.TrodAll enc Try.prog W 0 (fun _ => true) true Try.f5.params.toList args.toList ds ps) :
    Calls Try.prog 5 args W fun | .returned v', W' => v' = .bool true ∧ Below W.heap.size W W' | _, _ => False := by
  rw [show Try.f5.params = #[47, 3, 3, 3] from rfl] at hval hA
  obtain ⟨v0, l1, d0, ds1, p0, p1, e1, rfl, rfl, h0, hA⟩ := trodAll_cons hA
  obtain ⟨v1, l2, d1, ds2, p1, p2, rfl, rfl, rfl, h1, hA⟩ := trodAll_cons hA
  obtain ⟨v2, l3, d2, ds3, p2, p3, rfl, rfl, rfl, h2, hA⟩ := trodAll_cons hA
  obtain ⟨v3, l4, d3, ds4, p3, p4, rfl, rfl, rfl, h3, hA⟩ := trodAll_cons hA
  obtain ⟨rfl, rfl, rfl⟩ := trodAll_nil hA
  have hargs : args = #[v0, v1, v2, v3] := by rw [← Array.toList_inj, e1]
  subst hargs
  obtain ⟨l, cap, hc1, hc2, _, hv⟩ := read_pairsW Try.underlying47 (by kernel_rfl) (fun _ _ _ h => trod_pairS (q := 3) Try.underlying93 rfl rfl rfl rfl (by kernel_rfl) (by kernel_rfl) (by kernel_rfl) h) (hval 0 _ v0 rfl rfl) h0
  obtain ⟨burst, rfl, _⟩ := val_int (k := .i64) (by kernel_rfl) (hval 1 _ v1 rfl rfl)
  obtain ⟨a, rfl, _⟩ := val_int (k := .i64) (by kernel_rfl) (hval 2 _ v2 rfl rfl)
  obtain ⟨b, rfl, _⟩ := val_int (k := .i64) (by kernel_rfl) (hval 3 _ v3 rfl rfl)
  obtain ⟨c0, H0', u, hsim, hvr, hsl⟩ := start_pairs (P := Try.prog) hc1 hv
  refine (calls_of_val mixed (ratesT_ok W.heap.size) Try.func5 (by kernel_rfl) (by kernel_rfl) (rates_val hsl burst a b) hsim (.cons hvr (.cons (.of2 rfl) (.cons (.of2 rfl) (.cons (.of2 rfl) .nil))))).mono fun e W' he => ?_
  cases e with
  | panicked ch => exact he.elim
  | outgrown => exact he.elim
  | returned v =>
    obtain ⟨c', h1, h2, h3⟩ := he
    exact ⟨h1.bool, h3.below⟩
set_option maxRecDepth 100000 in
theorem ratesMatch_lifted (os : Os) (started : os.Started) (H : Type) (enc : TypeId × Value → H) :
    ReturnsInHanded {} Try.checked os 5 .any (Rows.ratesMatchSpec.pre6 enc Try.prog Try.f5 Rows.ratesMatchRow.domain false) (Rows.ratesMatchSpec.post enc Try.prog Try.f5 false true false false) :=
  law_lifted (tb := 4) started rfl rfl Try.func5 (by kernel_rfl) (by kernel_rfl) (by kernel_rfl) (by kernel_rfl)
    (fun ds hlen => by
      rw [List.append_nil]
      have hlen : ds.length = 4 := hlen
      match ds, hlen with
      | [d1, d2, d3, d4], _ => rfl)
    (ChangeSpec.witness6 (enc := enc) (C := Try.checked) false ⟨#[], #[.slice none 0 0, .int .i64 0, .int .i64 0, .int .i64 0], []⟩ 8 (by kernel_rfl) (by kernel_rfl) (by kernel_rfl) (by kernel_rfl))
    (fun W args ds ps base hval hA _ => rates_run W args ds ps base hval hA)
theorem ratesMatch_holds : Rows.RatesMatchSaid :=
  OpenClaim.holds_of_wide 5 Try.f5 rfl rfl rfl rfl rfl rfl rfl ⟨rfl, rfl, rfl, rfl, rfl⟩ rfl rfl rfl rfl rfl (by kernel_rfl) Try.func5 (by kernel_rfl)
    (of_decide_eq_true (by kernel_rfl)) (by unfold Func.isWrapper; first | (rw [if_pos (by decide +kernel)]; kernel_rfl) | (rw [if_neg (by decide +kernel)]; exact ⟨rfl, rfl⟩))
    (fun os started H enc _ => ratesMatch_lifted os started H enc)
end Go.Proofs.Ytidpkoaomfbljaa
