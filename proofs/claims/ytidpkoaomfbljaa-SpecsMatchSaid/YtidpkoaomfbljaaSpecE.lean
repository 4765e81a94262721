import Derived.Test.YtidpkoaomfbljaaSpecD
import Derived.Test.YtidpkoaomfbljaaAmAA
namespace Go.Proofs.Ytidpkoaomfbljaa
open Go Go.RowKit Go.ChangeShapes Go.WideShapes Go.ChangeAt AM
set_option linter.all false

def specT : List (Nat × Ent) := [(8, .code m8), (11, .code m11), (12, .code m12), (13, .code m13), (14, .code m14), (18, .code m18), (24, .code m24), (25, .code m25), (34, .code m34), (35, .code m35), (36, .code m36), (37, .code m37), (38, .code m38), (39, .code m39), (47, .code m47), (48, .code m48), (49, .code m49), (51, .code m51), (57, .code m57), (58, .code m58), (59, .code m59), (60, .code m60), (61, .code m61), (68, .code m68), (69, .code m69), (70, .code m70), (71, .code m71), (72, .code m72), (75, .code m75)]
instance : TMono (lookT specT) := lookT_mono (by
  intro p hp g h
  simp only [specT, List.mem_cons, List.not_mem_nil, or_false] at hp
  rcases hp with rfl | rfl | rfl | rfl | rfl | rfl | rfl | rfl | rfl | rfl | rfl | rfl | rfl | rfl | rfl | rfl | rfl | rfl | rfl | rfl | rfl | rfl | rfl | rfl | rfl | rfl | rfl | rfl | rfl <;> simp at h)
theorem specT_ok (N : Nat) : TblOk Try.prog N (lookT specT) := tblOk_of (by
  intro p hp
  simp only [specT, List.mem_cons, List.not_mem_nil, or_false] at hp
  rcases hp with rfl | rfl | rfl | rfl | rfl | rfl | rfl | rfl | rfl | rfl | rfl | rfl | rfl | rfl | rfl | rfl | rfl | rfl | rfl | rfl | rfl | rfl | rfl | rfl | rfl | rfl | rfl | rfl | rfl
  · exact ⟨_, Try.func8, c8⟩
  · exact ⟨_, Try.func11, c11⟩
  · exact ⟨_, Try.func12, c12⟩
  · exact ⟨_, Try.func13, c13⟩
  · exact ⟨_, Try.func14, c14⟩
  · exact ⟨_, Try.func18, c18⟩
  · exact ⟨_, Try.func24, c24⟩
  · exact ⟨_, Try.func25, c25⟩
  · exact ⟨_, Try.func34, c34⟩
  · exact ⟨_, Try.func35, c35⟩
  · exact ⟨_, Try.func36, c36⟩
  · exact ⟨_, Try.func37, c37⟩
  · exact ⟨_, Try.func38, c38⟩
  · exact ⟨_, Try.func39, c39⟩
  · exact ⟨_, Try.func47, c47⟩
  · exact ⟨_, Try.func48, c48⟩
  · exact ⟨_, Try.func49, c49⟩
  · exact ⟨_, Try.func51, c51⟩
  · exact ⟨_, Try.func57, c57⟩
  · exact ⟨_, Try.func58, c58⟩
  · exact ⟨_, Try.func59, c59⟩
  · exact ⟨_, Try.func60, c60⟩
  · exact ⟨_, Try.func61, c61⟩
  · exact ⟨_, Try.func68, c68⟩
  · exact ⟨_, Try.func69, c69⟩
  · exact ⟨_, Try.func70, c70⟩
  · exact ⟨_, Try.func71, c71⟩
  · exact ⟨_, Try.func72, c72⟩
  · exact ⟨_, Try.func75, c75⟩)
theorem spec_val {H : AH} (hpos : 0 < H.next) (hdead : H.get 0 = none) (c p pc sp la o se li a b f j e : Int) {v : Value} {l : List (Int × Int)} (hs : Sl H 2 v l.length (cells2 l)) (bu : Int) : Val (lookT specT) 8 [specV c p pc sp la o se li a b f j e v bu] H (.bool true) H :=
  v8 rfl rfl rfl rfl rfl rfl rfl rfl rfl rfl rfl rfl rfl rfl rfl rfl rfl rfl rfl rfl rfl rfl rfl rfl rfl rfl rfl rfl rfl hpos hdead c p pc sp la o se li a b f j e hs bu
theorem spec_list : ∀ (l : List Value), l.length = 15 → (∀ i, i < 15 → i ≠ 13 → ∃ n, l[i]? = some (.int .i64 n)) → ∃ c p pc sp la o se li a b f j e v bu, l = [.int .i64 c, .int .i64 p, .int .i64 pc, .int .i64 sp, .int .i64 la, .int .i64 o, .int .i64 se, .int .i64 li, .int .i64 a, .int .i64 b, .int .i64 f, .int .i64 j, .int .i64 e, v, .int .i64 bu] := by
  intro l hl h
  match l, hl with
  | [x0, x1, x2, x3, x4, x5, x6, x7, x8, x9, x10, x11, x12, x13, x14], _ =>
    obtain ⟨n0, h0⟩ := h 0 (by omega) (by omega)
    obtain ⟨n1, h1⟩ := h 1 (by omega) (by omega)
    obtain ⟨n2, h2⟩ := h 2 (by omega) (by omega)
    obtain ⟨n3, h3⟩ := h 3 (by omega) (by omega)
    obtain ⟨n4, h4⟩ := h 4 (by omega) (by omega)
    obtain ⟨n5, h5⟩ := h 5 (by omega) (by omega)
    obtain ⟨n6, h6⟩ := h 6 (by omega) (by omega)
    obtain ⟨n7, h7⟩ := h 7 (by omega) (by omega)
    obtain ⟨n8, h8⟩ := h 8 (by omega) (by omega)
    obtain ⟨n9, h9⟩ := h 9 (by omega) (by omega)
    obtain ⟨n10, h10⟩ := h 10 (by omega) (by omega)
    obtain ⟨n11, h11⟩ := h 11 (by omega) (by omega)
    obtain ⟨n12, h12⟩ := h 12 (by omega) (by omega)
    obtain ⟨n14, h14⟩ := h 14 (by omega) (by omega)
    simp at h0 h1 h2 h3 h4 h5 h6 h7 h8 h9 h10 h11 h12 h14
    subst h0; subst h1; subst h2; subst h3; subst h4; subst h5; subst h6; subst h7; subst h8; subst h9; subst h10; subst h11; subst h12; subst h14
    exact ⟨_, _, _, _, _, _, _, _, _, _, _, _, _, _, _, rfl⟩
set_option maxRecDepth 100000 in
theorem spec_run {H : Type} {enc : TypeId × Value → H} (W : World) (args : Array Value) (ds : List (DataW H)) (ps : List MemPlace) (base : Nat) (hval : ∀ (j : Nat) t v, Try.f8.params[j]? = some t → args[j]? = some v → Value.okWide Try.prog W .any base t v)
    (hA : DataW.TrodAll enc Try.prog W 0 (fun _ => true) true Try.f8.params.toList args.toList ds ps) :
    Calls Try.prog 8 args W fun | .returned v', W' => v' = .bool true ∧ Below W.heap.size W W' | _, _ => False := by
  rw [show Try.f8.params = #[62] from rfl] at hval hA
  obtain ⟨v0, r1, d0, ds1, p0, q1, e1, rfl, rfl, t0, hA⟩ := trodAll_cons hA
  obtain ⟨rfl, rfl, rfl⟩ := trodAll_nil hA
  have hargs : args = #[v0] := by rw [← Array.toList_inj, e1]
  subst hargs
  obtain ⟨l, rfl, hl, hint⟩ := okWide_cells (ts := [3, 3, 3, 3, 3, 3, 3, 3, 3, 3, 3, 3, 3, 47, 3]) Try.underlying62 (by kernel_rfl) (hval 0 _ _ rfl rfl)
  have hsz : Try.prog.cellsOf 62 = 15 := by kernel_rfl
  rw [hsz] at hl hint
  have h3 : Try.prog.underlying 3 = some (.int .i64) := by kernel_rfl
  obtain ⟨c, p, pc, sp, la, o, se, li, a, b, f, j, e, v, bu, rfl⟩ := spec_list l hl fun i hi hne => by
    refine hint i 3 ?_ h3 hi
    match i, hi with
    | 0, _ | 1, _ | 2, _ | 3, _ | 4, _ | 5, _ | 6, _ | 7, _ | 8, _ | 9, _ | 10, _ | 11, _ | 12, _ | 14, _ => rfl
    | 13, _ => exact absurd rfl hne
  obtain ⟨fuel, ht⟩ := t0
  obtain ⟨k, hk⟩ := trod_fields Try.underlying62 ht
  obtain ⟨y, hy⟩ := hk _ (List.getElem_mem (show 9 < _ from by decide))
  have hc1 : Try.prog.cellsOf 47 = 1 := by kernel_rfl
  have hy1 : DataW.trod enc Try.prog W 0 (fun _ => true) true k 47 (([.int .i64 c, .int .i64 p, .int .i64 pc, .int .i64 sp, .int .i64 la, .int .i64 o, .int .i64 se, .int .i64 li, .int .i64 a, .int .i64 b, .int .i64 f, .int .i64 j, .int .i64 e, v, .int .i64 bu].drop 13).take (Try.prog.cellsOf 47)) = some y := hy
  rw [hc1] at hy1
  have hy' : DataW.trod enc Try.prog W 0 (fun _ => true) true k 47 [v] = some y := hy1
  obtain ⟨rl, hr⟩ := read_pairsT Try.underlying47 (by kernel_rfl) (fun _ _ _ h => trod_pairS (q := 3) Try.underlying93 rfl rfl rfl rfl (by kernel_rfl) (by kernel_rfl) (by kernel_rfl) h) hy'
  obtain ⟨c1, H1, u1, st1, hv1, hs1, hm1⟩ := (start0 W).slc hr (cells2_p1 rl)
  refine (calls_of_val mixed (specT_ok W.heap.size) Try.func8 (by kernel_rfl) (by kernel_rfl) (spec_val st1.pos st1.dead c p pc sp la o se li a b f j e hs1 bu) st1.sim (.cons ?_ .nil)).mono fun e W' he => ?_
  · refine VRL.agg (l := [.int .i64 c, .int .i64 p, .int .i64 pc, .int .i64 sp, .int .i64 la, .int .i64 o, .int .i64 se, .int .i64 li, .int .i64 a, .int .i64 b, .int .i64 f, .int .i64 j, .int .i64 e, u1, .int .i64 bu]) ?_
    exact .cons (.of2 rfl) (.cons (.of2 rfl) (.cons (.of2 rfl) (.cons (.of2 rfl) (.cons (.of2 rfl) (.cons (.of2 rfl) (.cons (.of2 rfl) (.cons (.of2 rfl) (.cons (.of2 rfl) (.cons (.of2 rfl) (.cons (.of2 rfl) (.cons (.of2 rfl) (.cons (.of2 rfl) (.cons hv1 (.cons (.of2 rfl) .nil))))))))))))))
  · cases e with
    | panicked ch => exact he.elim
    | outgrown => exact he.elim
    | returned v =>
      obtain ⟨c', h1, h2, h3⟩ := he
      exact ⟨h1.bool, h3.below⟩
set_option maxRecDepth 100000 in
theorem specsMatch_lifted (os : Os) (started : os.Started) (H : Type) (enc : TypeId × Value → H) :
    ReturnsInHanded {} Try.checked os 8 .any (Rows.specsMatchSpec.pre6 enc Try.prog Try.f8 Rows.specsMatchRow.domain false) (Rows.specsMatchSpec.post enc Try.prog Try.f8 false true false false) :=
  law_lifted (tb := 4) started rfl rfl Try.func8 (by kernel_rfl) (by kernel_rfl) (by kernel_rfl) (by kernel_rfl)
    (fun ds hlen => by
      rw [List.append_nil]
      have hlen : ds.length = 1 := hlen
      match ds, hlen with
      | [d1], _ => rfl)
    (ChangeSpec.witness6 (enc := enc) (C := Try.checked) false ⟨#[], #[.agg #[.int .i64 0, .int .i64 0, .int .i64 0, .int .i64 0, .int .i64 0, .int .i64 0, .int .i64 0, .int .i64 0, .int .i64 0, .int .i64 0, .int .i64 0, .int .i64 0, .int .i64 0, .slice none 0 0, .int .i64 0]], []⟩ 8 (by kernel_rfl) (by kernel_rfl) (by kernel_rfl) (by kernel_rfl))
    (fun W args ds ps base hval hA _ => spec_run W args ds ps base hval hA)
theorem specsMatch_holds : Rows.SpecsMatchSaid :=
  OpenClaim.holds_of_wide 8 Try.f8 rfl rfl rfl rfl rfl rfl rfl ⟨rfl, rfl, rfl, rfl, rfl⟩ rfl rfl rfl rfl rfl (by kernel_rfl) Try.func8 (by kernel_rfl)
    (of_decide_eq_true (by kernel_rfl)) (by unfold Func.isWrapper; first | (rw [if_pos (by decide +kernel)]; kernel_rfl) | (rw [if_neg (by decide +kernel)]; exact ⟨rfl, rfl⟩))
    (fun os started H enc _ => specsMatch_lifted os started H enc)
end Go.Proofs.Ytidpkoaomfbljaa
