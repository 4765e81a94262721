/- Part 4 of the texts that this claim needs. No conditions. -/
import Derived.JoinedCond
import Derived.Test.YtidpkoaomfbljaaOd3
namespace Go.Proofs.Ytidpkoaomfbljaa.AM
open Go
set_option linter.all false
set_option maxRecDepth 10000
variable {tbl : Tbl} [hT : TMono tbl]

/-- The sort of no numbers. -/
theorem v78_nil (L : StbTb tbl) (g : Value) (X : AH) : Val tbl 78 [.slice none 0 0, g] X (.tuple #[]) X := by
  have h1 : ∀ X : AH, Val tbl 100 [.slice none 0 0, .int .i64 0, .int .i64 0, g] X (.tuple #[]) X := by
    intro X
    refine Val.of_all fun Q hQ => ?_
    rw [rn_fun L.h100, k100]
    simp only [go_sem, Nat.reduceEqDiff, Nat.reduceAdd, Nat.reduceLeDiff, Int.reduceEq, Int.reduceLT, Int.reduceLE, Int.reduceAdd, Int.reduceSub, Int.reduceMul, Int.reduceNeg, Int.reduceToNat, Nat.reduceMul]
    have w1 : IntKind.wrap .i64 1 = 1 := w64 (by omega) (by omega)
    have n1 : ¬ (1 : Int) < 0 := by omega
    rw [rn_round]
    simp only [w1, n1, go_sem, Nat.reduceEqDiff, Nat.reduceAdd, Nat.reduceLeDiff, Int.reduceEq, Int.reduceLT, Int.reduceLE, Int.reduceAdd, Int.reduceSub, Int.reduceMul, Int.reduceNeg, Int.reduceToNat, Nat.reduceMul]
    exact hQ
  have h2 : ∀ X : AH, Val tbl 88 [.slice none 0 0, .int .i64 0, g] X (.tuple #[]) X := by
    intro X
    refine Val.of_all fun Q hQ => ?_
    rw [rn_fun L.h88, k88]
    simp only [go_sem, Nat.reduceEqDiff, Nat.reduceAdd, Nat.reduceLeDiff, Int.reduceEq, Int.reduceLT, Int.reduceLE, Int.reduceAdd, Int.reduceSub, Int.reduceMul, Int.reduceNeg, Int.reduceToNat, Nat.reduceMul]
    rw [rn_round]
    simp only [↓(h1 _).run, go_sem, Nat.reduceEqDiff, Nat.reduceAdd, Nat.reduceLeDiff, Int.reduceEq, Int.reduceLT, Int.reduceLE, Int.reduceAdd, Int.reduceSub, Int.reduceMul, Int.reduceNeg, Int.reduceToNat, Nat.reduceMul]
    rw [rn_round]
    simp only [↓(h1 _).run, go_sem, Nat.reduceEqDiff, Nat.reduceAdd, Nat.reduceLeDiff, Int.reduceEq, Int.reduceLT, Int.reduceLE, Int.reduceAdd, Int.reduceSub, Int.reduceMul, Int.reduceNeg, Int.reduceToNat, Nat.reduceMul]
    exact hQ
  refine Val.of_all fun Q hQ => ?_
  rw [rn_fun L.h78, k78]
  simp only [↓(h2 _).run, go_sem, Nat.reduceEqDiff, Nat.reduceAdd, Nat.reduceLeDiff, Int.reduceEq, Int.reduceLT, Int.reduceLE, Int.reduceAdd, Int.reduceSub, Int.reduceMul, Int.reduceNeg, Int.reduceToNat, Nat.reduceMul]
  exact hQ
theorem cmp79 (h79 : tbl 79 = some (.code m79)) {F : FuncId} {kf : Stp → Int} (hF : CmpF tbl F kf) {H Z : AH} {l : List Stp} {lv : Value} (hs : Sl H 5 lv l.length (sL l)) (old : ∀ j, j < H.next → Z.get j = H.get j) (hz : H.next ≤ Z.next) {a b id : Nat} {es1 es2 : Nat} {r1 r2 : Bool} (ha : Z.get a = some ⟨[.func (.func F) #[] #[]], es1, r1⟩) (hb : Z.get b = some ⟨[lv], es2, r2⟩) (hid : H.next ≤ id) (hia : id ≠ a) (hib : id ≠ b) (ha2 : a < Z.next) (hb2 : b < Z.next) :
    Cmp tbl 79 [.pointer (some ⟨a, 0, none⟩), .pointer (some ⟨b, 0, none⟩)] (kyL kf l) (inL l) id (fun X => ∀ j, j ≠ id → j < Z.next → X.get j = Z.get j) where
  call X x y hK hx hy := v79 h79 hF (hs.keep fun j hj => by rw [hK j (by omega) (by omega)]; exact old j hj) (by rw [hK a hia.symm ha2]; exact ha) (by rw [hK b hib.symm hb2]; exact hb) x y hx hy
  enter X h := h
  set X b h := fun j h1 h2 => by rw [AH.get_set_ne _ _ h1]; exact h j h1 h2
theorem v77 (L : StbTb tbl) (h79 : tbl 79 = some (.code m79)) (h77 : tbl 77 = some (.code m77)) {F : FuncId} {kf : Stp → Int} (hF : CmpF tbl F kf) {H X : AH} {l : List Stp} {lv v : Value} {D : List Int} {b0 b1 : Nat} (hs : Sl H 5 lv l.length (sL l)) (old : ∀ j, j < H.next → X.get j = H.get j) (h0 : H.next ≤ b0) (h01 : b0 < b1) (h1 : b1 < X.next)
    (hx0 : X.get b0 = some ⟨[lv], 1, false⟩) (hx1 : X.get b1 = some ⟨[v], 1, false⟩) (ho : Own (b1 + 1) X 1 v D.length (D.map I64)) (hr : D.Pairwise (· < ·)) (hD : ∀ x ∈ D, inL l x) (hl : D.length ≤ 1000000) :
    ∃ X', Val tbl 77 [.func (.func F) #[] #[], .pointer (some ⟨b1, 0, none⟩), .pointer (some ⟨b0, 0, none⟩)] X (.tuple #[]) X' ∧ Own (b1 + 1) X' 1 v D.length ((srt (kyL kf l) D).map I64) ∧ (∀ j, j ≤ b1 → X'.get j = X.get j) ∧ X.next ≤ X'.next ∧ (H.next ≤ X.low → H.next ≤ X'.low) := by
  rcases ho with ⟨rfl, hn, hl0⟩ | ⟨id, rfl, g1, g2, g3, g4⟩
  · have hD0 : D = [] := List.eq_nil_of_length_eq_zero hn
    subst hD0
    refine ⟨X, ?_, .inl ⟨rfl, rfl, rfl⟩, fun _ _ => rfl, Nat.le_refl _, fun h => h⟩
    refine Val.of_all fun Q hQ => ?_
    rw [rn_fun h77, k77]
    have e1 : X.enter.get b1 = some ⟨[.slice none 0 0], 1, false⟩ := hx1
    have e2 : (X.enter.push ⟨[.func (.func F) #[] #[]], 1, false⟩).get b1 = some ⟨[.slice none 0 0], 1, false⟩ := by rw [AH.get_push_lt _ _ (show b1 < X.enter.next from h1)]; exact hx1
    simp only [e2, ↓(v78_nil L _ _).run, go_sem, Nat.reduceEqDiff, Nat.reduceAdd, Nat.reduceLeDiff, Int.reduceEq, Int.reduceLT, Int.reduceLE, Int.reduceAdd, Int.reduceSub, Int.reduceMul, Int.reduceNeg, Int.reduceToNat, Nat.reduceMul]
    exact hQ
  · have e2 : (X.enter.push ⟨[.func (.func F) #[] #[]], 1, false⟩).get b1 = some ⟨[.slice (some ⟨id, 0, none⟩) D.length D.length], 1, false⟩ := by rw [AH.get_push_lt _ _ (show b1 < X.enter.next from h1)]; exact hx1
    have hidl : id < X.next := get_lt g1
    have nx : X.enter.next = X.next := rfl
    have np : (X.enter.push ⟨[.func (.func F) #[] #[]], 1, false⟩).next = X.next + 1 := by rw [AH.next_push, nx]
    have C := cmp79 h79 hF (H := H) (Z := X.enter.push ⟨[.func (.func F) #[] #[]], 1, false⟩) hs (fun j hj => by rw [AH.get_push_lt _ _ (by omega)]; exact old j hj) (by omega) (a := X.next) (b := b0) (id := id) (es1 := 1) (es2 := 1) (r1 := false) (r2 := false) (AH.get_push_eq X.enter _) (by rw [AH.get_push_lt _ _ (by omega)]; exact hx0) (by omega) (by omega) (by omega) (by omega) (by omega)
    obtain ⟨Y, hv, hu⟩ := v78 L C (c := D.length) (D0 := D) (A := X.enter.push ⟨[.func (.func F) #[] #[]], 1, false⟩) hl (by omega) (fun j _ _ => rfl) hr hD (by rw [AH.get_push_lt _ _ (show id < X.enter.next from hidl)]; exact g1)
    obtain ⟨Z, hZ, z1, z2, z3, z4⟩ : ∃ Z, back X Y (.tuple #[]) = (.tuple #[], Z) ∧ Z.get id = some (rwI (srt (kyL kf l) D)) ∧ (∀ j, j ≤ b1 → Z.get j = X.get j) ∧ X.next ≤ Z.next ∧ (H.next ≤ X.low → H.next ≤ Z.low) := by
      rcases hu with ⟨rfl, hg⟩ | rfl
      · rw [AH.get_push_lt _ _ (show id < X.enter.next from hidl)] at hg
        exact ⟨X, back_p3 (by show ¬ X.next < X.next; omega) rfl, hg, fun _ _ => rfl, Nat.le_refl _, fun h => h⟩
      · have hlw : ((X.enter.push ⟨[.func (.func F) #[] #[]], 1, false⟩).set id (some (rwI (srt (kyL kf l) D)))).low = min X.next id := rfl
        have hg := AH.get_set_eq (X.enter.push ⟨[.func (.func F) #[] #[]], 1, false⟩) (some (rwI (srt (kyL kf l) D))) (show id < _ by omega)
        have hg2 : ∀ j, j ≤ b1 → ((X.enter.push ⟨[.func (.func F) #[] #[]], 1, false⟩).set id (some (rwI (srt (kyL kf l) D)))).get j = X.get j := fun j hj => by
          rw [AH.get_set_ne _ _ (by omega), AH.get_push_lt _ _ (by omega)]; rfl
        have hnx : ((X.enter.push ⟨[.func (.func F) #[] #[]], 1, false⟩).set id (some (rwI (srt (kyL kf l) D)))).next = X.next + 1 := by rw [AH.next_set]; omega
        generalize (X.enter.push ⟨[.func (.func F) #[] #[]], 1, false⟩).set id (some (rwI (srt (kyL kf l) D))) = Y at hlw hg hg2 hnx ⊢
        refine ⟨{ Y with low := min X.low Y.low }, ?_, hg, hg2, ?_, fun h => ?_⟩
        · unfold back
          rw [if_pos (by omega)]
        · show X.next ≤ Y.next; omega
        · show H.next ≤ min X.low Y.low; omega
    refine ⟨Z, ?_, .inr ⟨id, rfl, ?_, ?_, g3, g4⟩, z2, z3, z4⟩
    · refine Val.of_all fun Q hQ => ?_
      rw [rn_fun h77, k77]
      have hv' := hv
      simp only [List.toArray] at hv'
      simp only [e2, ↓hv.run, ↓hv'.run, hZ, go_sem, Nat.reduceEqDiff, Nat.reduceAdd, Nat.reduceLeDiff, Int.reduceEq, Int.reduceLT, Int.reduceLE, Int.reduceAdd, Int.reduceSub, Int.reduceMul, Int.reduceNeg, Int.reduceToNat, Nat.reduceMul]
      exact hQ
    · rw [z1]; rfl
    · rw [List.length_map, srt_len]; omega
end Go.Proofs.Ytidpkoaomfbljaa.AM
namespace Go.Proofs.Ytidpkoaomfbljaa.AM
open Go
set_option linter.all false
set_option maxRecDepth 10000
def y2 : MCode := (.seq (.ops [⟨(some 15), none, false, (.load false 1 (.tmp 5))⟩, ⟨(some 16), none, false, (.len (.tmp 15))⟩, ⟨(some 17), none, false, (.mov (.const (.int .i64 0)))⟩]) (.block 0 (.loop (.seq (.ops [⟨(some 18), none, false, (.bin .int .lss (.tmp 17) (.tmp 16))⟩]) (.seq (.cond (.tmp 18) .skip (.exit 0)) (.seq (.block 1 (.seq (.ops [⟨(some 19), none, false, (.mov (.tmp 17))⟩, ⟨(some 20), none, false, (.idxS 5 (.tmp 15) (.tmp 17))⟩, ⟨(some 21), none, false, (.load true 5 (.tmp 20))⟩, ⟨(some 9), none, false, (.alloc [(.int .i64 0), (.string ⟨#[]⟩), (.string ⟨#[]⟩), (.int .i64 0), (.int .i64 0)] 1)⟩, ⟨(some 8), none, false, (.mov (.tmp 19))⟩, ⟨none, none, false, (.store 5 (.tmp 9) (.tmp 21))⟩]) (.seq (.ops [⟨(some 22), none, false, (.load true 5 (.tmp 9))⟩, ⟨(some 23), none, false, (.call false (.func 76) [(.tmp 22)])⟩]) (.cond (.tmp 23) (.ops [⟨(some 24), none, false, (.load false 1 (.tmp 7))⟩, ⟨(some 25), none, false, (.mov (.tmp 8))⟩, ⟨(some 26), none, false, (.buildSlice [(.int .i64 0)] 1 1 [(0, (1, (.tmp 25)))])⟩, ⟨(some 27), none, false, (.append 1 8 (.tmp 24) (.tmp 26))⟩, ⟨none, none, false, (.store 1 (.tmp 7) (.tmp 27))⟩]) .skip)))) (.ops [⟨(some 28), none, false, (.bin .int .add (.tmp 17) (.const (.int .i64 1)))⟩, ⟨(some 17), none, false, (.mov (.tmp 28))⟩])))))))
def y4 : MCode := (.seq (.ops [⟨(some 30), none, false, (.mov (.tmp 0))⟩]) (.block 2 (.seq (.seq (.ops [⟨(some 32), none, false, (.bin .int .eql (.tmp 30) (.const (.int .i64 2)))⟩, ⟨(some 31), none, false, (.mov (.tmp 32))⟩]) (.cond (.tmp 31) .skip (.ops [⟨(some 33), none, false, (.bin .int .eql (.tmp 30) (.const (.int .i64 5)))⟩, ⟨(some 31), none, false, (.mov (.tmp 33))⟩]))) (.cond (.tmp 31) (.ops [⟨(some 34), none, false, (.mov (.tmp 10))⟩, ⟨(some 35), none, false, (.call false (.tmp 34) [(.func 80)])⟩]) (.seq (.ops [⟨(some 37), none, false, (.bin .int .eql (.tmp 30) (.const (.int .i64 3)))⟩, ⟨(some 36), none, false, (.mov (.tmp 37))⟩]) (.cond (.tmp 36) (.ops [⟨(some 38), none, false, (.mov (.tmp 10))⟩, ⟨(some 39), none, false, (.call false (.tmp 38) [(.func 82)])⟩]) (.seq (.ops [⟨(some 41), none, false, (.bin .int .eql (.tmp 30) (.const (.int .i64 4)))⟩, ⟨(some 40), none, false, (.mov (.tmp 41))⟩]) (.cond (.tmp 40) (.ops [⟨(some 42), none, false, (.mov (.tmp 10))⟩, ⟨(some 43), none, false, (.call false (.tmp 42) [(.func 83)])⟩]) (.seq (.ops [⟨(some 45), none, false, (.bin .int .eql (.tmp 30) (.const (.int .i64 6)))⟩, ⟨(some 44), none, false, (.mov (.tmp 45))⟩]) (.cond (.tmp 44) (.seq (.ops [⟨(some 46), none, false, (.load false 1 (.tmp 7))⟩, ⟨(some 47), none, false, (.len (.tmp 46))⟩, ⟨(some 48), none, false, (.bin .int .sub (.tmp 47) (.const (.int .i64 1)))⟩, ⟨(some 11), none, false, (.mov (.tmp 48))⟩]) (.block 3 (.loop (.seq (.seq (.ops [⟨(some 49), none, false, (.mov (.tmp 11))⟩, ⟨(some 50), none, false, (.bin .int .gtr (.tmp 49) (.const (.int .i64 0)))⟩]) (.cond (.tmp 50) .skip (.exit 3))) (.seq (.block 4 (.seq (.ops [⟨(some 53), none, false, (.mov (.tmp 1))⟩, ⟨(some 54), none, false, (.call false (.func 68) [(.tmp 53)])⟩, ⟨(some 1), none, false, (.mov (.tmp 54))⟩]) (.seq (.ops [⟨(some 55), none, false, (.mov (.tmp 1))⟩, ⟨(some 56), none, false, (.mov (.tmp 11))⟩, ⟨(some 57), none, false, (.bin .int .add (.tmp 56) (.const (.int .i64 1)))⟩, ⟨(some 58), none, false, (.bin .int .rem (.tmp 55) (.tmp 57))⟩, ⟨(some 12), none, false, (.mov (.tmp 58))⟩]) (.opsD [⟨(some 59), none, false, (.load false 1 (.tmp 7))⟩, ⟨(some 60), none, false, (.mov (.tmp 11))⟩, ⟨(some 61), none, false, (.load false 1 (.tmp 7))⟩, ⟨(some 62), none, false, (.mov (.tmp 12))⟩, ⟨(some 63), none, false, (.load false 1 (.tmp 7))⟩, ⟨(some 64), none, false, (.mov (.tmp 12))⟩, ⟨(some 65), none, false, (.idxS 1 (.tmp 63) (.tmp 64))⟩, ⟨(some 66), none, false, (.load false 1 (.tmp 65))⟩, ⟨(some 67), none, false, (.load false 1 (.tmp 7))⟩, ⟨(some 68), none, false, (.mov (.tmp 11))⟩, ⟨(some 69), none, false, (.idxS 1 (.tmp 67) (.tmp 68))⟩, ⟨(some 70), none, false, (.load false 1 (.tmp 69))⟩, ⟨(some 71), none, false, (.idxS 1 (.tmp 59) (.tmp 60))⟩, ⟨none, none, false, (.storeX 1 (.tmp 71) (.tmp 66) [7])⟩, ⟨(some 72), none, false, (.idxS 1 (.tmp 61) (.tmp 62))⟩, ⟨none, none, false, (.store 1 (.tmp 72) (.tmp 70))⟩])))) (.ops [⟨(some 51), none, false, (.mov (.tmp 11))⟩, ⟨(some 52), none, false, (.bin .int .sub (.tmp 51) (.const (.int .i64 1)))⟩, ⟨(some 11), none, false, (.mov (.tmp 52))⟩])))))) .skip))))))))))
def y7 : MCode := (.block 5 (.loop (.seq (.seq (.ops [⟨(some 76), none, false, (.load false 1 (.tmp 7))⟩, ⟨(some 77), none, false, (.len (.tmp 76))⟩, ⟨(some 78), none, false, (.bin .int .gtr (.tmp 77) (.const (.int .i64 0)))⟩]) (.cond (.tmp 78) .skip (.exit 5))) (.block 6 (.seq (.ops [⟨(some 79), none, false, (.mov (.tmp 13))⟩, ⟨(some 80), none, false, (.load false 1 (.tmp 7))⟩, ⟨(some 81), none, false, (.idxS 1 (.tmp 80) (.const (.int .i64 0)))⟩, ⟨(some 82), none, false, (.load false 1 (.tmp 81))⟩, ⟨(some 83), none, false, (.buildSlice [(.int .i64 0)] 1 1 [(0, (1, (.tmp 82)))])⟩, ⟨(some 84), none, false, (.append 1 8 (.tmp 79) (.tmp 83))⟩, ⟨(some 13), none, false, (.mov (.tmp 84))⟩]) (.seq (.seq (.ops [⟨(some 85), none, false, (.load false 1 (.tmp 7))⟩, ⟨(some 86), none, false, (.len (.tmp 85))⟩, ⟨(some 87), none, false, (.bin .int .sub (.tmp 86) (.const (.int .i64 1)))⟩, ⟨(some 14), none, false, (.mov (.tmp 87))⟩]) (.seq (.ops [⟨(some 88), none, false, (.mov (.tmp 14))⟩, ⟨(some 89), none, false, (.bin .int .gtr (.tmp 88) (.const (.int .i64 0)))⟩]) (.cond (.tmp 89) (.seq (.ops [⟨(some 90), none, false, (.mov (.tmp 13))⟩, ⟨(some 91), none, false, (.load false 1 (.tmp 7))⟩, ⟨(some 92), none, false, (.mov (.tmp 14))⟩, ⟨(some 93), none, false, (.idxS 1 (.tmp 91) (.tmp 92))⟩, ⟨(some 94), none, false, (.load false 1 (.tmp 93))⟩, ⟨(some 95), none, false, (.buildSlice [(.int .i64 0)] 1 1 [(0, (1, (.tmp 94)))])⟩, ⟨(some 96), none, false, (.append 1 8 (.tmp 90) (.tmp 95))⟩, ⟨(some 13), none, false, (.mov (.tmp 96))⟩]) (.ops [⟨(some 97), none, false, (.load false 1 (.tmp 7))⟩, ⟨(some 98), none, false, (.mov (.tmp 14))⟩, ⟨(some 99), none, false, (.sliceS 1 (.tmp 97) none (some (.tmp 98)))⟩, ⟨none, none, false, (.store 1 (.tmp 7) (.tmp 99))⟩])) .skip))) (.ops [⟨(some 100), none, false, (.load false 1 (.tmp 7))⟩, ⟨(some 101), none, false, (.sliceS 1 (.tmp 100) (some (.const (.int .i64 1))) none)⟩, ⟨none, none, false, (.store 1 (.tmp 7) (.tmp 101))⟩])))))))
theorem k62_eq : k62 = (.seq (.ops [⟨(some 5), none, false, (.box 1 (.tmp 2))⟩, ⟨(some 6), none, false, (.mov (.const (.slice none 0 0)))⟩]) (.seq (.ops [⟨(some 7), none, false, (.alloc [(.slice none 0 0)] 1)⟩]) (.seq y2 (.seq (.ops [⟨(some 29), none, false, (.mkFunc (.func 77) [] [(.tmp 7), (.tmp 5)])⟩, ⟨(some 10), none, false, (.mov (.tmp 29))⟩]) (.seq y4 (.seq (.seq (.ops [⟨(some 73), none, false, (.mov (.tmp 0))⟩, ⟨(some 74), none, false, (.bin .int .neq (.tmp 73) (.const (.int .i64 5)))⟩]) (.cond (.tmp 74) (.seq (.ops [⟨(some 75), none, false, (.load false 1 (.tmp 7))⟩, ⟨(some 6), none, false, (.mov (.tmp 75))⟩]) .ret) .skip)) (.seq (.ops [⟨(some 13), none, false, (.mov (.const (.slice none 0 0)))⟩]) (.seq y7 (.seq (.ops [⟨(some 102), none, false, (.mov (.tmp 13))⟩, ⟨(some 6), none, false, (.mov (.tmp 102))⟩]) .ret))))))))) := rfl
variable {tbl : Tbl} [hT : TMono tbl]

/-- The numbers of the first steps that carry. -/
def carL (l : List Stp) : Nat → List Int
  | 0 => []
  | i + 1 => if car (l.getD i dS) then carL l i ++ [(i : Int)] else carL l i
theorem carL_lt {l : List Stp} : ∀ i, ∀ x ∈ carL l i, 0 ≤ x ∧ x < i
  | 0, x, h => by simp [carL] at h
  | i + 1, x, h => by
    rw [carL] at h
    split at h
    · rcases List.mem_append.1 h with h | h
      · have := carL_lt i x h; omega
      · rw [List.mem_singleton] at h; omega
    · have := carL_lt i x h; omega
theorem carL_rise {l : List Stp} : ∀ i, (carL l i).Pairwise (· < ·)
  | 0 => List.Pairwise.nil
  | i + 1 => by
    rw [carL]
    split
    · refine List.pairwise_append.2 ⟨carL_rise i, List.pairwise_singleton _ _, fun x hx y hy => ?_⟩
      rw [List.mem_singleton] at hy
      have := carL_lt i x hx
      omega
    · exact carL_rise i
theorem carL_len {l : List Stp} : ∀ i, (carL l i).length ≤ i
  | 0 => Nat.le_refl _
  | i + 1 => by
    have := carL_len (l := l) i
    rw [carL]
    split
    · rw [List.length_append]; simp only [List.length_cons, List.length_nil]; omega
    · omega
/-- The state of order: the steps, and the numbers so far. -/
structure St (H : AH) (lv v : Value) (L : List Int) (X : AH) : Prop where
  j : Junk H X
  g0 : X.get H.next = some ⟨[lv], 1, false⟩
  g1 : X.get (H.next + 1) = some ⟨[v], 1, false⟩
  ow : Own (H.next + 2) X 1 v L.length (L.map I64)
  nx : H.next + 2 ≤ X.next
theorem Own.keep {base : Nat} {H H' : AH} {es n : Nat} {v : Value} {l : List Value} (h : Own base H es v n l) (k : ∀ j, j < H.next → H'.get j = H.get j) : Own base H' es v n l := by
  rcases h with h | ⟨b, h1, h2, h3⟩
  · exact .inl h
  · exact .inr ⟨b, h1, by rw [k b (get_lt h2)]; exact h2, h3⟩
theorem Own.shape {base : Nat} {H : AH} {es n : Nat} {v : Value} {l : List Value} (h : Own base H es v n l) : ∃ a, v = .slice a n n := by
  rcases h with ⟨rfl, rfl, _⟩ | ⟨b, rfl, _⟩
  · exact ⟨none, rfl⟩
  · exact ⟨_, rfl⟩
theorem St.keep {H : AH} {lv v : Value} {L : List Int} {X Y : AH} (h : St H lv v L X) (k : ∀ j, j < X.next → Y.get j = X.get j) (hn : X.next ≤ Y.next) (hl : H.next ≤ Y.low) : St H lv v L Y where
  j := ⟨fun i hi => by rw [k i (by have := h.j.nx; omega)]; exact h.j.old i hi, by have := h.j.nx; omega, hl⟩
  g0 := by rw [k _ (get_lt h.g0)]; exact h.g0
  g1 := by rw [k _ (get_lt h.g1)]; exact h.g1
  ow := h.ow.keep k
  nx := by have := h.nx; omega
theorem St.push {H : AH} {lv v : Value} {L : List Int} {X : AH} (h : St H lv v L X) (b : Blk) : St H lv v L (X.push b) :=
  h.keep (fun j hj => AH.get_push_lt _ _ hj) (by rw [AH.next_push]; omega) (by rw [lw_push]; exact h.j.low)
theorem St.elem {H : AH} {lv v : Value} {L : List Int} {X : AH} (h : St H lv v L X) (b c : Blk) : St H lv v L ((X.push b).set X.next (some c)) :=
  h.keep (fun j hj => by rw [AH.get_set_ne _ _ (by omega), AH.get_push_lt _ _ hj]) (by rw [AH.next_set, AH.next_push]; omega) (by have := h.j.low; have := h.j.nx; rw [lw_set, lw_push]; omega)
/-- One number more. -/
theorem St.add {H : AH} {lv v : Value} {L : List Int} {X : AH} (h : St H lv v L X) (x : Int) (hs : L.length ≤ 1000000) :
    ∃ s' H', appended X 1 8 v 1 [.int .i64 x] = some (.slice (some s') (L.length + 1) (L.length + 1), H') ∧ H'.get (H.next + 1) = some ⟨[v], 1, false⟩ ∧ H.next + 1 < H'.next ∧ St H lv (.slice (some s') (L.length + 1) (L.length + 1)) (L ++ [x]) (H'.set (H.next + 1) (some ⟨[.slice (some s') (L.length + 1) (L.length + 1)], 1, false⟩)) := by
  have hnx := h.nx
  have hjl := h.j.low
  obtain ⟨s', H', h1, h2, h3, h4, h5⟩ := h.ow.append (bytes := 8) (k := 1) (new := [.int .i64 x]) h.nx (by omega) rfl (by omega)
  have hsh : ∃ p, s' = .slice (some p) (L.length + 1) (L.length + 1) := by
    rcases h2 with ⟨_, e, _⟩ | ⟨b, e, _⟩
    · omega
    · exact ⟨_, e⟩
  obtain ⟨p, rfl⟩ := hsh
  refine ⟨p, H', h1, by rw [h3 _ (by omega)]; exact h.g1, by omega, ⟨⟨fun i hi => ?_, ?_, ?_⟩, ?_, ?_, ?_, ?_⟩⟩
  · rw [AH.get_set_ne _ _ (by omega), h3 _ (by omega)]; exact h.j.old i hi
  · rw [AH.next_set]; omega
  · have := h5 H.next (by omega) h.j.low
    rw [lw_set]; omega
  · rw [AH.get_set_ne _ _ (by omega), h3 _ (by omega)]; exact h.g0
  · exact AH.get_set_eq _ _ (by omega)
  · rcases h2 with ⟨_, e, _⟩ | ⟨b, e1, e2, e3, e4, e5⟩
    · omega
    · refine .inr ⟨b, by rw [e1]; simp, ?_, by simp, e4, by simp⟩
      rw [AH.get_set_ne _ _ (by omega), e2]
      simp [I64]
  · rw [AH.next_set]; omega
theorem y2_ok (h76 : tbl 76 = some (.code m76)) {H : AH} {l : List Stp} {ad : Option Addr} {cp : Nat} (hs : Sl H 5 (.slice ad l.length cp) l.length (sL l)) (hl : l.length ≤ 20000) {f : Fr} {X : AH} (f5 : f 5 = .pointer (some ⟨H.next, 0, none⟩)) (f7 : f 7 = .pointer (some ⟨H.next + 1, 0, none⟩)) (st : St H (.slice ad l.length cp) (.slice none 0 0) [] X) :
    (@RunC tbl y2 f X ⟨fun e f' H' => e = .normal ∧ f' 0 = f 0 ∧ f' 1 = f 1 ∧ f' 5 = f 5 ∧ f' 7 = f 7 ∧ ∃ v, St H (.slice ad l.length cp) v (carL l l.length) H'⟩) := by
  rw [y2]
  have hg0 := st.g0
  simp only [f5, hg0, go_sem, Nat.reduceEqDiff, Nat.reduceAdd, Nat.reduceLeDiff, Int.reduceEq, Int.reduceLT, Int.reduceLE, Int.reduceAdd, Int.reduceSub, Int.reduceMul, Int.reduceNeg, Int.reduceToNat, Nat.reduceMul]
  refine rn_loop (fun m f' H' => ∃ i : Nat, i ≤ l.length ∧ m = l.length - i ∧ f' 0 = f 0 ∧ f' 1 = f 1 ∧ f' 5 = .pointer (some ⟨H.next, 0, none⟩) ∧ f' 7 = .pointer (some ⟨H.next + 1, 0, none⟩) ∧ f' 15 = .slice ad l.length cp ∧ f' 16 = .int .i64 l.length ∧ f' 17 = .int .i64 i ∧ ∃ v, St H (.slice ad l.length cp) v (carL l i) H') ?_ (n := l.length)
    ⟨0, by omega, by omega, by simp only [go_sem, Nat.reduceEqDiff, Nat.reduceAdd, Nat.reduceLeDiff, Int.reduceEq, Int.reduceLT, Int.reduceLE, Int.reduceAdd, Int.reduceSub, Int.reduceMul, Int.reduceNeg, Int.reduceToNat, Nat.reduceMul], by simp only [go_sem, Nat.reduceEqDiff, Nat.reduceAdd, Nat.reduceLeDiff, Int.reduceEq, Int.reduceLT, Int.reduceLE, Int.reduceAdd, Int.reduceSub, Int.reduceMul, Int.reduceNeg, Int.reduceToNat, Nat.reduceMul], by simp only [f5, go_sem, Nat.reduceEqDiff, Nat.reduceAdd, Nat.reduceLeDiff, Int.reduceEq, Int.reduceLT, Int.reduceLE, Int.reduceAdd, Int.reduceSub, Int.reduceMul, Int.reduceNeg, Int.reduceToNat, Nat.reduceMul], by simp only [f7, go_sem, Nat.reduceEqDiff, Nat.reduceAdd, Nat.reduceLeDiff, Int.reduceEq, Int.reduceLT, Int.reduceLE, Int.reduceAdd, Int.reduceSub, Int.reduceMul, Int.reduceNeg, Int.reduceToNat, Nat.reduceMul], by simp only [go_sem, Nat.reduceEqDiff, Nat.reduceAdd, Nat.reduceLeDiff, Int.reduceEq, Int.reduceLT, Int.reduceLE, Int.reduceAdd, Int.reduceSub, Int.reduceMul, Int.reduceNeg, Int.reduceToNat, Nat.reduceMul], by simp only [go_sem, Nat.reduceEqDiff, Nat.reduceAdd, Nat.reduceLeDiff, Int.reduceEq, Int.reduceLT, Int.reduceLE, Int.reduceAdd, Int.reduceSub, Int.reduceMul, Int.reduceNeg, Int.reduceToNat, Nat.reduceMul], by simp only [go_sem, Nat.reduceEqDiff, Nat.reduceAdd, Nat.reduceLeDiff, Int.reduceEq, Int.reduceLT, Int.reduceLE, Int.reduceAdd, Int.reduceSub, Int.reduceMul, Int.reduceNeg, Int.reduceToNat, Nat.reduceMul] <;> rfl, _, st⟩
  clear hg0 st
  rintro m f' H' ⟨i, hi, rfl, k0, k1, k5, k7, k15, k16, k17, v, st⟩
  by_cases hlt : (i : Int) < l.length
  · have hi2 : i < l.length := by omega
    simp only [k0, k1, k5, k7, k15, k16, k17, hlt, go_sem, Nat.reduceEqDiff, Nat.reduceAdd, Nat.reduceLeDiff, Int.reduceEq, Int.reduceLT, Int.reduceLE, Int.reduceAdd, Int.reduceSub, Int.reduceMul, Int.reduceNeg, Int.reduceToNat, Nat.reduceMul]
    refine (hs.keep st.j.old).at_ hi2 fun p hp1 hp2 => ?_
    rw [sL_at _ _ hi2] at hp2
    have hlt2 : H'.next < H'.next + 1 := by omega
    have wi := w64 (x := (i : Int) + 1) (by omega) (by omega)
    have st2 := st.elem ⟨[.int .i64 0, .string ⟨#[]⟩, .string ⟨#[]⟩, .int .i64 0, .int .i64 0], 1, false⟩ ⟨sv l[i], 1, false⟩
    have g2 : ((H'.push ⟨[.int .i64 0, .string ⟨#[]⟩, .string ⟨#[]⟩, .int .i64 0, .int .i64 0], 1, false⟩).set H'.next (some ⟨sv l[i], 1, false⟩)).get H'.next = some ⟨sv l[i], 1, false⟩ := AH.get_set_eq _ _ (by rw [AH.next_push]; omega)
    simp only [sv] at hp2 st2 g2
    simp only [k0, k1, k5, k7, k15, k16, k17, hp2, stc_eq, stB_some, hlt2, go_sem, Nat.reduceEqDiff, Nat.reduceAdd, Nat.reduceLeDiff, Int.reduceEq, Int.reduceLT, Int.reduceLE, Int.reduceAdd, Int.reduceSub, Int.reduceMul, Int.reduceNeg, Int.reduceToNat, Nat.reduceMul]
    generalize (H'.push ⟨[.int .i64 0, .string ⟨#[]⟩, .string ⟨#[]⟩, .int .i64 0, .int .i64 0], 1, false⟩).set H'.next (some ⟨[.int .i64 l[i].k, .string l[i].p, .string l[i].q, .int .i64 l[i].s, .int .i64 l[i].m], 1, false⟩) = H2 at st2 g2 ⊢
    have h76v := v76 h76 l[i] H2
    simp only [sav] at h76v
    have eg : l.getD i dS = l[i] := by simp [hi2]
    by_cases hc : car l[i]
    · have hcl : carL l (i + 1) = carL l i ++ [(i : Int)] := by rw [carL, eg, if_pos hc]
      have hd : decide (car l[i]) = true := decide_eq_true hc
      rw [hd] at h76v
      have st3 := st2.push ⟨[.int .i64 (i : Int)], 1, false⟩
      have gb1 := st2.g1
      have hn3 : H2.next < H2.next + 1 := by omega
      have hc1 := carL_len (l := l) i
      obtain ⟨s', H3, ha, hb, hc, st4⟩ := st3.add (i : Int) (by omega)
      simp only [k0, k1, k5, k7, k15, k16, k17, g2, ↓h76v.run, gb1, ha, hb, hc, stc_eq, stB_some, wi, go_sem, Nat.reduceEqDiff, Nat.reduceAdd, Nat.reduceLeDiff, Int.reduceEq, Int.reduceLT, Int.reduceLE, Int.reduceAdd, Int.reduceSub, Int.reduceMul, Int.reduceNeg, Int.reduceToNat, Nat.reduceMul]
      refine ⟨l.length - (i + 1), by omega, i + 1, by omega, rfl, by simp only [k0, go_sem, Nat.reduceEqDiff, Nat.reduceAdd, Nat.reduceLeDiff, Int.reduceEq, Int.reduceLT, Int.reduceLE, Int.reduceAdd, Int.reduceSub, Int.reduceMul, Int.reduceNeg, Int.reduceToNat, Nat.reduceMul], by simp only [k1, go_sem, Nat.reduceEqDiff, Nat.reduceAdd, Nat.reduceLeDiff, Int.reduceEq, Int.reduceLT, Int.reduceLE, Int.reduceAdd, Int.reduceSub, Int.reduceMul, Int.reduceNeg, Int.reduceToNat, Nat.reduceMul], by simp only [k5, go_sem, Nat.reduceEqDiff, Nat.reduceAdd, Nat.reduceLeDiff, Int.reduceEq, Int.reduceLT, Int.reduceLE, Int.reduceAdd, Int.reduceSub, Int.reduceMul, Int.reduceNeg, Int.reduceToNat, Nat.reduceMul], by simp only [k7, go_sem, Nat.reduceEqDiff, Nat.reduceAdd, Nat.reduceLeDiff, Int.reduceEq, Int.reduceLT, Int.reduceLE, Int.reduceAdd, Int.reduceSub, Int.reduceMul, Int.reduceNeg, Int.reduceToNat, Nat.reduceMul], by simp only [k15, go_sem, Nat.reduceEqDiff, Nat.reduceAdd, Nat.reduceLeDiff, Int.reduceEq, Int.reduceLT, Int.reduceLE, Int.reduceAdd, Int.reduceSub, Int.reduceMul, Int.reduceNeg, Int.reduceToNat, Nat.reduceMul], by simp only [k16, go_sem, Nat.reduceEqDiff, Nat.reduceAdd, Nat.reduceLeDiff, Int.reduceEq, Int.reduceLT, Int.reduceLE, Int.reduceAdd, Int.reduceSub, Int.reduceMul, Int.reduceNeg, Int.reduceToNat, Nat.reduceMul], by simp only [go_sem, Nat.reduceEqDiff, Nat.reduceAdd, Nat.reduceLeDiff, Int.reduceEq, Int.reduceLT, Int.reduceLE, Int.reduceAdd, Int.reduceSub, Int.reduceMul, Int.reduceNeg, Int.reduceToNat, Nat.reduceMul] <;> rfl, ?_⟩
      rw [hcl]
      exact ⟨_, st4⟩
    · have hcl : carL l (i + 1) = carL l i := by rw [carL, eg, if_neg hc]
      have hd : decide (car l[i]) = false := decide_eq_false hc
      rw [hd] at h76v
      simp only [k0, k1, k5, k7, k15, k16, k17, g2, ↓h76v.run, wi, go_sem, Nat.reduceEqDiff, Nat.reduceAdd, Nat.reduceLeDiff, Int.reduceEq, Int.reduceLT, Int.reduceLE, Int.reduceAdd, Int.reduceSub, Int.reduceMul, Int.reduceNeg, Int.reduceToNat, Nat.reduceMul]
      refine ⟨l.length - (i + 1), by omega, i + 1, by omega, rfl, by simp only [k0, go_sem, Nat.reduceEqDiff, Nat.reduceAdd, Nat.reduceLeDiff, Int.reduceEq, Int.reduceLT, Int.reduceLE, Int.reduceAdd, Int.reduceSub, Int.reduceMul, Int.reduceNeg, Int.reduceToNat, Nat.reduceMul], by simp only [k1, go_sem, Nat.reduceEqDiff, Nat.reduceAdd, Nat.reduceLeDiff, Int.reduceEq, Int.reduceLT, Int.reduceLE, Int.reduceAdd, Int.reduceSub, Int.reduceMul, Int.reduceNeg, Int.reduceToNat, Nat.reduceMul], by simp only [k5, go_sem, Nat.reduceEqDiff, Nat.reduceAdd, Nat.reduceLeDiff, Int.reduceEq, Int.reduceLT, Int.reduceLE, Int.reduceAdd, Int.reduceSub, Int.reduceMul, Int.reduceNeg, Int.reduceToNat, Nat.reduceMul], by simp only [k7, go_sem, Nat.reduceEqDiff, Nat.reduceAdd, Nat.reduceLeDiff, Int.reduceEq, Int.reduceLT, Int.reduceLE, Int.reduceAdd, Int.reduceSub, Int.reduceMul, Int.reduceNeg, Int.reduceToNat, Nat.reduceMul], by simp only [k15, go_sem, Nat.reduceEqDiff, Nat.reduceAdd, Nat.reduceLeDiff, Int.reduceEq, Int.reduceLT, Int.reduceLE, Int.reduceAdd, Int.reduceSub, Int.reduceMul, Int.reduceNeg, Int.reduceToNat, Nat.reduceMul], by simp only [k16, go_sem, Nat.reduceEqDiff, Nat.reduceAdd, Nat.reduceLeDiff, Int.reduceEq, Int.reduceLT, Int.reduceLE, Int.reduceAdd, Int.reduceSub, Int.reduceMul, Int.reduceNeg, Int.reduceToNat, Nat.reduceMul], by simp only [go_sem, Nat.reduceEqDiff, Nat.reduceAdd, Nat.reduceLeDiff, Int.reduceEq, Int.reduceLT, Int.reduceLE, Int.reduceAdd, Int.reduceSub, Int.reduceMul, Int.reduceNeg, Int.reduceToNat, Nat.reduceMul] <;> rfl, ?_⟩
      rw [hcl]
      exact ⟨_, st2⟩
  · have hie : i = l.length := by omega
    subst hie
    simp only [k0, k1, k5, k7, k15, k16, k17, hlt, go_sem, Nat.reduceEqDiff, Nat.reduceAdd, Nat.reduceLeDiff, Int.reduceEq, Int.reduceLT, Int.reduceLE, Int.reduceAdd, Int.reduceSub, Int.reduceMul, Int.reduceNeg, Int.reduceToNat, Nat.reduceMul]
    exact ⟨f5.symm, f7.symm, v, st⟩
end Go.Proofs.Ytidpkoaomfbljaa.AM
namespace Go.Proofs.Ytidpkoaomfbljaa.AM
open Go
set_option linter.all false
set_option maxRecDepth 10000
variable {tbl : Tbl} [hT : TMono tbl]

/-- The numbers by chance. -/
def shuf : Nat → Int → List Int → List Int
  | 0, _, D => D
  | i + 1, s, D => shuf i (chanceI s) ((D.set (i + 1) (ga D (Int.tmod (chanceI s) ((i : Int) + 1 + 1)).toNat)).set (Int.tmod (chanceI s) ((i : Int) + 1 + 1)).toNat (ga D (i + 1)))
/-- The key of a kind. -/
def kk (kind : Int) (x : Stp) : Int := if kind = 2 ∨ kind = 5 then x.s else if kind = 3 then -x.s else if kind = 4 then -x.m else 0
def ordK (kind seed : Int) (l : List Stp) (L : List Int) : List Int := if kind = 6 then shuf (L.length - 1) seed L else srt (kyL (kk kind) l) L
theorem srt_const {l : List Stp} {L : List Int} {kind : Int} (h : kind = 1 ∨ kind = 6) (hr : L.Pairwise (· < ·)) : srt (kyL (kk kind) l) L = L := by
  refine srt_id (hr.imp fun {a b} h1 => .inr ⟨?_, h1⟩)
  have e : ∀ x, kk kind x = 0 := fun x => by unfold kk; rw [if_neg (by omega), if_neg (by omega), if_neg (by omega)]
  unfold kyL
  rw [e, e]
theorem St.ups {H : AH} {lv : Value} {L D : List Int} {X Y : AH} {id n : Nat} (h : St H lv (.slice (some ⟨id, 0, none⟩) n n) L X) (hid : H.next + 2 ≤ id) (hu : UpS id X Y D) (hn : D.length = L.length) (hid2 : id < X.next) (hL : L.length = n) (h0 : 0 < n) : St H lv (.slice (some ⟨id, 0, none⟩) n n) D Y := by
  have hg := hu.get hid2
  rcases hu with ⟨rfl, hu⟩ | rfl
  · exact ⟨h.j, h.g0, h.g1, .inr ⟨id, by rw [hn, hL], hg, by simp, hid, by omega⟩, h.nx⟩
  · refine ⟨h.j.set (by omega) _, by rw [AH.get_set_ne _ _ (by omega)]; exact h.g0, by rw [AH.get_set_ne _ _ (by omega)]; exact h.g1, .inr ⟨id, by rw [hn, hL], hg, by simp, hid, by omega⟩, by rw [AH.next_set]; exact h.nx⟩
theorem v77_st (L0 : StbTb tbl) (h79 : tbl 79 = some (.code m79)) (h77 : tbl 77 = some (.code m77)) {F : FuncId} {kf : Stp → Int} (hF : CmpF tbl F kf) {H X : AH} {l : List Stp} {lv v : Value} {L : List Int} (hs : Sl H 5 lv l.length (sL l)) (st : St H lv v L X) (hr : L.Pairwise (· < ·)) (hD : ∀ x ∈ L, inL l x) (hl : L.length ≤ 20000) :
    ∃ X', Val tbl 77 [.func (.func F) #[] #[], .pointer (some ⟨H.next + 1, 0, none⟩), .pointer (some ⟨H.next, 0, none⟩)] X (.tuple #[]) X' ∧ St H lv v (srt (kyL kf l) L) X' := by
  have hnx := st.nx
  obtain ⟨X', h1, h2, h3, h4, h5⟩ := v77 L0 h79 h77 hF hs st.j.old (Nat.le_refl _) (by omega) (by omega) st.g0 st.g1 st.ow hr hD (by omega)
  exact ⟨X', h1, ⟨fun i hi => by rw [h3 i (by omega)]; exact st.j.old i hi, by omega, h5 st.j.low⟩, by rw [h3 _ (by omega)]; exact st.g0, by rw [h3 _ (by omega)]; exact st.g1, by rw [srt_len]; exact h2, by omega⟩
theorem y4_ok (L0 : StbTb tbl) (h79 : tbl 79 = some (.code m79)) (h77 : tbl 77 = some (.code m77)) (h80 : CmpF tbl 80 (fun x => x.s)) (h82 : CmpF tbl 82 (fun x => -x.s)) (h83 : CmpF tbl 83 (fun x => -x.m)) (h68 : tbl 68 = some (.code m68))
    {H X : AH} {l : List Stp} {lv v : Value} {L : List Int} (hs : Sl H 5 lv l.length (sL l)) (st : St H lv v L X) (hr : L.Pairwise (· < ·)) (hD : ∀ x ∈ L, inL l x) (hl : L.length ≤ 20000) {f : Fr} {kind seed : Int} (hk : 1 ≤ kind ∧ kind ≤ 6) (hsd : 0 ≤ seed ∧ seed ≤ 2147483647)
    (f0 : f 0 = .int .i64 kind) (f1 : f 1 = .int .i64 seed) (f5 : f 5 = .pointer (some ⟨H.next, 0, none⟩)) (f7 : f 7 = .pointer (some ⟨H.next + 1, 0, none⟩)) (f10 : f 10 = .func (.func 77) #[] #[.pointer (some ⟨H.next + 1, 0, none⟩), .pointer (some ⟨H.next, 0, none⟩)]) :
    (@RunC tbl y4 f X ⟨fun e f' H' => e = .normal ∧ f' 0 = f 0 ∧ f' 5 = f 5 ∧ f' 7 = f 7 ∧ ∃ v, St H lv v (ordK kind seed l L) H'⟩) := by
  rw [y4]
  have hc : kind = 1 ∨ kind = 2 ∨ kind = 3 ∨ kind = 4 ∨ kind = 5 ∨ kind = 6 := by omega
  rcases hc with rfl | rfl | rfl | rfl | rfl | rfl
  · have e : ordK 1 seed l L = L := by unfold ordK; rw [if_neg (by decide), srt_const (.inl rfl) hr]
    have n1 : ¬ (1 : Int) = 2 := by decide
    have n2 : ¬ (1 : Int) = 5 := by decide
    have n3 : ¬ (1 : Int) = 3 := by decide
    have n4 : ¬ (1 : Int) = 4 := by decide
    have n5 : ¬ (1 : Int) = 6 := by decide
    rw [e]
    simp only [f0, n1, n2, n3, n4, n5, go_sem, Nat.reduceEqDiff, Nat.reduceAdd, Nat.reduceLeDiff, Int.reduceEq, Int.reduceLT, Int.reduceLE, Int.reduceAdd, Int.reduceSub, Int.reduceMul, Int.reduceNeg, Int.reduceToNat, Nat.reduceMul]
    exact ⟨_, st⟩
  · have e : ordK 2 seed l L = srt (kyL (fun x => x.s) l) L := rfl
    obtain ⟨X', hv, st'⟩ := v77_st L0 h79 h77 h80 hs st hr hD hl
    rw [e]
    simp only [f0, f10, ↓hv.run, go_sem, Nat.reduceEqDiff, Nat.reduceAdd, Nat.reduceLeDiff, Int.reduceEq, Int.reduceLT, Int.reduceLE, Int.reduceAdd, Int.reduceSub, Int.reduceMul, Int.reduceNeg, Int.reduceToNat, Nat.reduceMul]
    exact ⟨_, st'⟩
  · have e : ordK 3 seed l L = srt (kyL (fun x => -x.s) l) L := rfl
    obtain ⟨X', hv, st'⟩ := v77_st L0 h79 h77 h82 hs st hr hD hl
    have n1 : ¬ (3 : Int) = 2 := by decide
    have n2 : ¬ (3 : Int) = 5 := by decide
    rw [e]
    simp only [f0, f10, n1, n2, ↓hv.run, go_sem, Nat.reduceEqDiff, Nat.reduceAdd, Nat.reduceLeDiff, Int.reduceEq, Int.reduceLT, Int.reduceLE, Int.reduceAdd, Int.reduceSub, Int.reduceMul, Int.reduceNeg, Int.reduceToNat, Nat.reduceMul]
    exact ⟨_, st'⟩
  · have e : ordK 4 seed l L = srt (kyL (fun x => -x.m) l) L := rfl
    obtain ⟨X', hv, st'⟩ := v77_st L0 h79 h77 h83 hs st hr hD hl
    have n1 : ¬ (4 : Int) = 2 := by decide
    have n2 : ¬ (4 : Int) = 5 := by decide
    have n3 : ¬ (4 : Int) = 3 := by decide
    rw [e]
    simp only [f0, f10, n1, n2, n3, ↓hv.run, go_sem, Nat.reduceEqDiff, Nat.reduceAdd, Nat.reduceLeDiff, Int.reduceEq, Int.reduceLT, Int.reduceLE, Int.reduceAdd, Int.reduceSub, Int.reduceMul, Int.reduceNeg, Int.reduceToNat, Nat.reduceMul]
    exact ⟨_, st'⟩
  · have e : ordK 5 seed l L = srt (kyL (fun x => x.s) l) L := rfl
    obtain ⟨X', hv, st'⟩ := v77_st L0 h79 h77 h80 hs st hr hD hl
    have n1 : ¬ (5 : Int) = 2 := by decide
    rw [e]
    simp only [f0, f10, n1, ↓hv.run, go_sem, Nat.reduceEqDiff, Nat.reduceAdd, Nat.reduceLeDiff, Int.reduceEq, Int.reduceLT, Int.reduceLE, Int.reduceAdd, Int.reduceSub, Int.reduceMul, Int.reduceNeg, Int.reduceToNat, Nat.reduceMul]
    exact ⟨_, st'⟩
  · have e : ordK 6 seed l L = shuf (L.length - 1) seed L := rfl
    have n1 : ¬ (6 : Int) = 2 := by decide
    have n2 : ¬ (6 : Int) = 5 := by decide
    have n3 : ¬ (6 : Int) = 3 := by decide
    have n4 : ¬ (6 : Int) = 4 := by decide
    have g1 := st.g1
    rw [e]
    rcases st.ow with ⟨rfl, hn, _⟩ | ⟨id, rfl, i1, i2, i3, i4⟩
    · have hL : L = [] := List.eq_nil_of_length_eq_zero hn
      subst hL
      have w1 : IntKind.wrap .i64 (-1) = -1 := w64 (by omega) (by omega)
      have n5 : ¬ (0 : Int) < -1 := by decide
      simp only [f0, f1, f7, g1, n1, n2, n3, n4, go_sem, Nat.reduceEqDiff, Nat.reduceAdd, Nat.reduceLeDiff, Int.reduceEq, Int.reduceLT, Int.reduceLE, Int.reduceAdd, Int.reduceSub, Int.reduceMul, Int.reduceNeg, Int.reduceToNat, Nat.reduceMul]
      rw [rn_round]
      simp only [f0, f1, f7, n5, w1, go_sem, Nat.reduceEqDiff, Nat.reduceAdd, Nat.reduceLeDiff, Int.reduceEq, Int.reduceLT, Int.reduceLE, Int.reduceAdd, Int.reduceSub, Int.reduceMul, Int.reduceNeg, Int.reduceToNat, Nat.reduceMul]
      exact ⟨_, st⟩
    · have w1 := w64 (x := (L.length : Int) - 1) (by omega) (by omega)
      have hidl : id < X.next := get_lt i1
      simp only [f0, f1, f7, g1, n1, n2, n3, n4, w1, go_sem, Nat.reduceEqDiff, Nat.reduceAdd, Nat.reduceLeDiff, Int.reduceEq, Int.reduceLT, Int.reduceLE, Int.reduceAdd, Int.reduceSub, Int.reduceMul, Int.reduceNeg, Int.reduceToNat, Nat.reduceMul]
      refine rn_loop (fun m f' H' => ∃ (j s : Int) (D : List Int), -1 ≤ j ∧ j < L.length ∧ m = j.toNat ∧ D.length = L.length ∧ (0 ≤ s ∧ s ≤ 2147483647) ∧ f' 0 = f 0 ∧ f' 1 = .int .i64 s ∧ f' 5 = f 5 ∧ f' 7 = .pointer (some ⟨H.next + 1, 0, none⟩) ∧ f' 11 = .int .i64 j ∧ UpS id X H' D ∧ shuf j.toNat s D = shuf (L.length - 1) seed L) ?_ (n := L.length - 1)
        ⟨(L.length : Int) - 1, seed, L, by omega, by omega, by omega, rfl, hsd, by simp only [f0, go_sem, Nat.reduceEqDiff, Nat.reduceAdd, Nat.reduceLeDiff, Int.reduceEq, Int.reduceLT, Int.reduceLE, Int.reduceAdd, Int.reduceSub, Int.reduceMul, Int.reduceNeg, Int.reduceToNat, Nat.reduceMul], by simp only [f1, go_sem, Nat.reduceEqDiff, Nat.reduceAdd, Nat.reduceLeDiff, Int.reduceEq, Int.reduceLT, Int.reduceLE, Int.reduceAdd, Int.reduceSub, Int.reduceMul, Int.reduceNeg, Int.reduceToNat, Nat.reduceMul], by simp only [f5, go_sem, Nat.reduceEqDiff, Nat.reduceAdd, Nat.reduceLeDiff, Int.reduceEq, Int.reduceLT, Int.reduceLE, Int.reduceAdd, Int.reduceSub, Int.reduceMul, Int.reduceNeg, Int.reduceToNat, Nat.reduceMul], by simp only [f7, go_sem, Nat.reduceEqDiff, Nat.reduceAdd, Nat.reduceLeDiff, Int.reduceEq, Int.reduceLT, Int.reduceLE, Int.reduceAdd, Int.reduceSub, Int.reduceMul, Int.reduceNeg, Int.reduceToNat, Nat.reduceMul], by simp only [go_sem, Nat.reduceEqDiff, Nat.reduceAdd, Nat.reduceLeDiff, Int.reduceEq, Int.reduceLT, Int.reduceLE, Int.reduceAdd, Int.reduceSub, Int.reduceMul, Int.reduceNeg, Int.reduceToNat, Nat.reduceMul], .inl ⟨rfl, i1⟩, by congr 1; omega⟩
      rintro m f' H' ⟨j, s, D, hj0, hj, rfl, hDl, hs2, k0, k1, k5, k7, k11, hu, hsh⟩
      by_cases hlt : 0 < j
      · have hg := hu.get hidl
        have g1' : H'.get (H.next + 1) = some ⟨[.slice (some ⟨id, 0, none⟩) L.length L.length], 1, false⟩ := by
          rcases hu with ⟨rfl, _⟩ | rfl
          · exact g1
          · rw [AH.get_set_ne _ _ (by omega)]; exact g1
        have hnx : H'.next = X.next := hu.next
        have hv := v68 h68 s hs2 H'
        have wj := w64 (x := j + 1) (by omega) (by omega)
        simp only [k0, k1, k5, k7, k11, hlt, g1', ↓hv.run, wj, go_sem, Nat.reduceEqDiff, Nat.reduceAdd, Nat.reduceLeDiff, Int.reduceEq, Int.reduceLT, Int.reduceLE, Int.reduceAdd, Int.reduceSub, Int.reduceMul, Int.reduceNeg, Int.reduceToNat, Nat.reduceMul]
        obtain ⟨i, hi⟩ : ∃ i : Nat, j = (i : Int) + 1 := ⟨(j - 1).toNat, by omega⟩
        subst hi
        have hz : ¬ (i : Int) + 1 + 1 = 0 := by omega
        have hch := chance_range s
        have hsh' : shuf i (chanceI s) ((D.set (i + 1) (ga D (Int.tmod (chanceI s) ((i : Int) + 1 + 1)).toNat)).set (Int.tmod (chanceI s) ((i : Int) + 1 + 1)).toNat (ga D (i + 1))) = shuf (L.length - 1) seed L := by
          rw [← hsh, show ((i : Int) + 1).toNat = i + 1 by omega]
          rfl
        obtain ⟨k, hk1, hk2⟩ : ∃ k : Nat, Int.tmod (chanceI s) ((i : Int) + 1 + 1) = (k : Int) ∧ k < i + 2 := by
          have h1 := Int.tmod_nonneg ((i : Int) + 1 + 1) hch.1
          have h2 := Int.tmod_lt_of_pos (chanceI s) (show (0 : Int) < (i : Int) + 1 + 1 by omega)
          exact ⟨(Int.tmod (chanceI s) ((i : Int) + 1 + 1)).toNat, by omega, by omega⟩
        rw [hk1] at hsh' ⊢
        have ei : (i : Int) + 1 = ((i + 1 : Nat) : Int) := by omega
        have a0 : (0 : Int) ≤ (k : Int) := by omega
        have a1 : (k : Int) < (L.length : Int) := by omega
        have a2 : k + 1 ≤ L.length := by omega
        have b0 : (0 : Int) ≤ ((i + 1 : Nat) : Int) := by omega
        have b1 : ((i + 1 : Nat) : Int) < (L.length : Int) := by omega
        have b2 : i + 1 + 1 ≤ L.length := by omega
        have hat1 := rwI_at (D := D) (i := k) (by omega)
        have hat2 := rwI_at (D := D) (i := i + 1) (by omega)
        have hid2 : id < H'.next := by omega
        have hne : ¬ H.next + 1 = id := by omega
        have hne2 : ¬ id = H.next + 1 := by omega
        have wi : IntKind.wrap .i64 (((i + 1 : Nat) : Int) - 1) = (i : Int) := by rw [w64 (by omega) (by omega)]; omega
        rw [Int.toNat_natCast] at hsh'
        rw [if_neg hz]
        simp only [k0, k1, k5, k7, k11, a0, a1, a2, b0, b1, b2, hg, g1', hat1, hat2, hDl, hid2, hne, hne2, ei, idxSP_slc, Int.toNat_natCast, rwI_len, rwI_ro, rwI_es, addA, Nat.zero_add, Nat.mul_one, stc_eq, stB_some, splice_one, rwI_set, List.length_set, set_get, set_set, AH.next_set, go_sem, Nat.reduceEqDiff, Nat.reduceAdd, Nat.reduceLeDiff, Int.reduceEq, Int.reduceLT, Int.reduceLE, Int.reduceAdd, Int.reduceSub, Int.reduceMul, Int.reduceNeg, Int.reduceToNat, Nat.reduceMul]
        refine ⟨i, by omega, (i : Int), chanceI s, (D.set (i + 1) (ga D k)).set k (ga D (i + 1)), by omega, by omega, by omega, by rw [List.length_set, List.length_set]; exact hDl, hch, by simp only [k0, f0, go_sem, Nat.reduceEqDiff, Nat.reduceAdd, Nat.reduceLeDiff, Int.reduceEq, Int.reduceLT, Int.reduceLE, Int.reduceAdd, Int.reduceSub, Int.reduceMul, Int.reduceNeg, Int.reduceToNat, Nat.reduceMul], by simp only [go_sem, Nat.reduceEqDiff, Nat.reduceAdd, Nat.reduceLeDiff, Int.reduceEq, Int.reduceLT, Int.reduceLE, Int.reduceAdd, Int.reduceSub, Int.reduceMul, Int.reduceNeg, Int.reduceToNat, Nat.reduceMul], by simp only [k5, go_sem, Nat.reduceEqDiff, Nat.reduceAdd, Nat.reduceLeDiff, Int.reduceEq, Int.reduceLT, Int.reduceLE, Int.reduceAdd, Int.reduceSub, Int.reduceMul, Int.reduceNeg, Int.reduceToNat, Nat.reduceMul], by simp only [k7, go_sem, Nat.reduceEqDiff, Nat.reduceAdd, Nat.reduceLeDiff, Int.reduceEq, Int.reduceLT, Int.reduceLE, Int.reduceAdd, Int.reduceSub, Int.reduceMul, Int.reduceNeg, Int.reduceToNat, Nat.reduceMul], by simp only [wi, go_sem, Nat.reduceEqDiff, Nat.reduceAdd, Nat.reduceLeDiff, Int.reduceEq, Int.reduceLT, Int.reduceLE, Int.reduceAdd, Int.reduceSub, Int.reduceMul, Int.reduceNeg, Int.reduceToNat, Nat.reduceMul], hu.set _, ?_⟩
        rw [Int.toNat_natCast]
        exact hsh'
      · have hsh' : D = shuf (L.length - 1) seed L := by
          rw [← hsh, show j.toNat = 0 by omega]
          rfl
        simp only [k0, k1, k5, k7, k11, hlt, go_sem, Nat.reduceEqDiff, Nat.reduceAdd, Nat.reduceLeDiff, Int.reduceEq, Int.reduceLT, Int.reduceLE, Int.reduceAdd, Int.reduceSub, Int.reduceMul, Int.reduceNeg, Int.reduceToNat, Nat.reduceMul]
        subst hsh'
        exact ⟨f7.symm, _, st.ups i3 hu hDl hidl rfl i4⟩
end Go.Proofs.Ytidpkoaomfbljaa.AM
namespace Go.Proofs.Ytidpkoaomfbljaa.AM
open Go
set_option linter.all false
set_option maxRecDepth 10000
variable {tbl : Tbl} [hT : TMono tbl]

/-- From both ends. -/
def mixL (D : List Int) : Nat → Nat → List Int
  | _, 0 => []
  | a, 1 => [ga D a]
  | a, k + 2 => ga D a :: ga D (a + k + 1) :: mixL D (a + 1) k
theorem mixL_one {D : List Int} {a : Nat} : mixL D a 1 = [ga D a] := rfl
theorem mixL_two {D : List Int} {a k : Nat} : mixL D a (k + 2) = ga D a :: ga D (a + k + 1) :: mixL D (a + 1) k := rfl
theorem mixL_zero {D : List Int} {a : Nat} : mixL D a 0 = [] := by simp [mixL]
/-- One number more in a slice of one's own. -/
theorem Own.add1 {base : Nat} {X : AH} {v : Value} {M : List Int} (h : Own base X 1 v M.length (M.map I64)) (hb : base ≤ X.next) (hs : M.length ≤ 1000000) (x : Int) :
    ∃ p H', appended X 1 8 v 1 [.int .i64 x] = some (.slice (some p) (M.length + 1) (M.length + 1), H') ∧ Own base H' 1 (.slice (some p) (M.length + 1) (M.length + 1)) (M ++ [x]).length ((M ++ [x]).map I64) ∧ (∀ j, j < base → H'.get j = X.get j) ∧ H'.next = X.next + 1 ∧ (∀ m, m ≤ base → m ≤ X.low → m ≤ H'.low) := by
  obtain ⟨s', H', h1, h2, h3, h4, h5⟩ := h.append (bytes := 8) (k := 1) (new := [.int .i64 x]) hb (by omega) rfl (by omega)
  rcases h2 with ⟨_, e, _⟩ | ⟨b, rfl, e2, e3, e4, e5⟩
  · omega
  · exact ⟨_, H', h1, .inr ⟨b, by simp, by rw [e2]; simp [I64], by simp, e4, by simp⟩, h3, h4, h5⟩
structure Mx (H Y : AH) (w v : Value) (M : List Int) (X : AH) : Prop where
  old : ∀ j, j < Y.next → j ≠ H.next + 1 → X.get j = Y.get j
  nx : Y.next ≤ X.next
  low : H.next ≤ X.low
  g : X.get (H.next + 1) = some ⟨[w], 1, false⟩
  ow : Own Y.next X 1 v M.length (M.map I64)
theorem Mx.add {H Y X : AH} {w v : Value} {M : List Int} (h : Mx H Y w v M X) (hY : H.next + 1 < Y.next) (hs : M.length ≤ 1000000) (x : Int) :
    ∃ p H', appended (X.push ⟨[.int .i64 x], 1, false⟩) 1 8 v 1 [.int .i64 x] = some (.slice (some p) (M.length + 1) (M.length + 1), H') ∧ Mx H Y w (.slice (some p) (M.length + 1) (M.length + 1)) (M ++ [x]) H' := by
  have hnx := h.nx
  have hn : (X.push ⟨[.int .i64 x], 1, false⟩).next = X.next + 1 := AH.next_push _ _
  have ho : Own Y.next (X.push ⟨[.int .i64 x], 1, false⟩) 1 v M.length (M.map I64) := h.ow.keep fun j hj => AH.get_push_lt _ _ hj
  obtain ⟨p, H', h1, h2, h3, h4, h5⟩ := ho.add1 (by omega) hs x
  refine ⟨p, H', h1, fun j hj hne => ?_, by omega, h5 H.next (by omega) h.low, ?_, h2⟩
  · rw [h3 j hj, AH.get_push_lt _ _ (by omega)]; exact h.old j hj hne
  · rw [h3 _ hY, AH.get_push_lt _ _ (by omega)]; exact h.g
theorem Mx.put {H Y X : AH} {w v : Value} {M : List Int} (h : Mx H Y w v M X) (hY : H.next + 1 < Y.next) (w' : Value) : Mx H Y w' v M (X.set (H.next + 1) (some ⟨[w'], 1, false⟩)) := by
  have hnx := h.nx
  refine ⟨fun j hj hne => by rw [AH.get_set_ne _ _ hne]; exact h.old j hj hne, by rw [AH.next_set]; exact hnx, ?_, AH.get_set_eq _ _ (by omega), ?_⟩
  · have := h.low
    rw [lw_set]; omega
  · rcases h.ow with h | ⟨b, h1, h2, h3, h4, h5⟩
    · exact .inl h
    · exact .inr ⟨b, h1, by rw [AH.get_set_ne _ _ (by omega)]; exact h2, h3, h4, h5⟩
theorem slc_pre {X : AH} {id a k c n : Nat} {D : List Int} (hg : X.get id = some (rwI D)) (h : n ≤ c) : slcAt X 1 (.slice (some ⟨id, a, none⟩) k c) 0 n = some (.slice (some ⟨id, a, none⟩) n c) := by
  simp only [slcAt, hg, rwI_es, if_true, if_pos h]
theorem slc_suf {X : AH} {id a k c n : Nat} {D : List Int} (hg : X.get id = some (rwI D)) (h : n ≤ c) (h1 : 1 < c) : slcAt X 1 (.slice (some ⟨id, a, none⟩) k c) 1 n = some (.slice (some ⟨id, a + 1, none⟩) (n - 1) (c - 1)) := by
  simp only [slcAt, hg, rwI_es, if_true, if_pos h, if_pos h1, if_neg (show ¬ (1 = 0) by omega), addA]
theorem slc_end {X : AH} {id a k : Nat} {D : List Int} (hg : X.get id = some (rwI D)) (h0 : X.get 0 = none) : slcAt X 1 (.slice (some ⟨id, a, none⟩) k 1) 1 1 = some (.slice (some ⟨0, 0, none⟩) 0 0) := by
  simp only [slcAt, hg, rwI_es, if_true, Nat.le_refl, if_neg (show ¬ (1 = 0) by omega), if_neg (show ¬ (1 < 1) by omega), h0]
theorem y7_ok {H Y : AH} {lv v : Value} {D : List Int} (st : St H lv v D Y) (hl : D.length ≤ 20000) (hd : H.get 0 = none) (hp : 0 < H.next) {f : Fr} (f7 : f 7 = .pointer (some ⟨H.next + 1, 0, none⟩)) (f13 : f 13 = .slice none 0 0) :
    (@RunC tbl y7 f Y ⟨fun e f' H' => e = .normal ∧ ∃ v, f' 13 = v ∧ Own Y.next H' 1 v (mixL D 0 D.length).length ((mixL D 0 D.length).map I64) ∧ H.next ≤ H'.low⟩) := by
  rw [y7]
  have hnx := st.nx
  have hY : H.next + 1 < Y.next := by omega
  obtain ⟨id, hid, hid2, hgD⟩ : ∃ id, id ≠ H.next + 1 ∧ (id < Y.next ∨ D = []) ∧ ((v = .slice none 0 0 ∧ D = []) ∨ (v = .slice (some ⟨id, 0, none⟩) D.length D.length ∧ Y.get id = some (rwI D) ∧ 0 < D.length)) := by
    rcases st.ow with ⟨h1, h2, h3⟩ | ⟨id, h1, h2, h3, h4, h5⟩
    · exact ⟨0, by omega, .inl (by omega), .inl ⟨h1, List.eq_nil_of_length_eq_zero h2⟩⟩
    · exact ⟨id, by omega, .inl (get_lt h2), .inr ⟨h1, h2, h5⟩⟩
  simp only [go_sem, Nat.reduceEqDiff, Nat.reduceAdd, Nat.reduceLeDiff, Int.reduceEq, Int.reduceLT, Int.reduceLE, Int.reduceAdd, Int.reduceSub, Int.reduceMul, Int.reduceNeg, Int.reduceToNat, Nat.reduceMul]
  refine rn_loop (fun m f' H' => ∃ (a k : Nat) (M : List Int) (w u : Value), k = m ∧ a + k ≤ D.length ∧ M.length + k ≤ 20000 ∧ f' 7 = .pointer (some ⟨H.next + 1, 0, none⟩) ∧ f' 13 = u ∧ Mx H Y w u M H' ∧ ((k = 0 ∧ ∃ x c, w = .slice x 0 c) ∨ (0 < k ∧ w = .slice (some ⟨id, a, none⟩) k (D.length - a) ∧ Y.get id = some (rwI D) ∧ id < Y.next)) ∧ M ++ mixL D a k = mixL D 0 D.length) ?_ (n := D.length)
    ⟨0, D.length, [], v, .slice none 0 0, rfl, by omega, by simpa using hl, f7, f13, ⟨fun _ _ _ => rfl, Nat.le_refl _, st.j.low, st.g1, .inl ⟨rfl, rfl, rfl⟩⟩, by
      rcases hgD with ⟨h1, h2⟩ | ⟨h1, h2, h3⟩
      · subst h1; subst h2; exact .inl ⟨rfl, _, _, rfl⟩
      · exact .inr ⟨h3, by rw [h1]; rfl, h2, get_lt h2⟩, rfl⟩
  rintro m f' H' ⟨a, k, M, w, u, rfl, hak, hMk, k7, k13, mx, hw, hM⟩
  have hg := mx.g
  rcases hw with ⟨rfl, x, c, rfl⟩ | ⟨hk, rfl, hrw, hidl⟩
  · have n0 : ¬ (0 : Int) < 0 := by omega
    simp only [k7, k13, hg, n0, go_sem, Nat.reduceEqDiff, Nat.reduceAdd, Nat.reduceLeDiff, Int.reduceEq, Int.reduceLT, Int.reduceLE, Int.reduceAdd, Int.reduceSub, Int.reduceMul, Int.reduceNeg, Int.reduceToNat, Nat.reduceMul]
    rw [mixL_zero, List.append_nil] at hM
    subst hM
    exact ⟨_, rfl, mx.ow, mx.low⟩
  · have hgr : H'.get id = some (rwI D) := by rw [mx.old id hidl hid]; exact hrw
    have hk1 : (0 : Int) < (k : Int) := by omega
    have hat0 := rwI_at (D := D) (i := a) (by omega)
    have i0 : (0 : Int) ≤ 0 := by omega
    have i2 : a + 1 ≤ D.length := by omega
    have wk : IntKind.wrap .i64 ((k : Int) - 1) = ((k - 1 : Nat) : Int) := by rw [w64 (by omega) (by omega)]; omega
    obtain ⟨p1, H1, ap1, mx1⟩ := mx.add hY (by omega) (ga D a)
    have g1 := mx1.g
    have gr1 : H1.get id = some (rwI D) := by rw [mx1.old id hidl hid]; exact hrw
    simp only [k7, k13, hg, hk1, hgr, hat0, i0, i2, idxSP_slc, rwI_len, Int.toNat_zero, Nat.zero_mul, Nat.add_zero, addA, ap1, g1, wk, go_sem, Nat.reduceEqDiff, Nat.reduceAdd, Nat.reduceLeDiff, Int.reduceEq, Int.reduceLT, Int.reduceLE, Int.reduceAdd, Int.reduceSub, Int.reduceMul, Int.reduceNeg, Int.reduceToNat, Nat.reduceMul]
    have b1 : (0 : Int) ≤ 1 := by omega
    have hlt1 : H.next + 1 < H1.next := get_lt g1
    by_cases hk2 : k = 1
    · have n1 : ¬ (0 : Int) < ((k - 1 : Nat) : Int) := by omega
      obtain ⟨x, c, hsl⟩ : ∃ x c, slcAt H1 1 (.slice (some ⟨id, a, none⟩) k (D.length - a)) 1 k = some (.slice x 0 c) := by
        by_cases hc : 1 < D.length - a
        · have := slc_suf (n := k) (k := k) (a := a) gr1 (by omega) hc
          rw [hk2] at this ⊢
          exact ⟨_, _, this⟩
        · have hc1 : D.length - a = 1 := by omega
          rw [hc1, hk2]
          exact ⟨_, _, slc_end gr1 (by rw [mx1.old 0 (by omega) (by omega), st.j.old 0 hp]; exact hd)⟩
      have st1 := mx1.put hY (.slice x 0 c)
      have b2 : 1 ≤ k := by omega
      rw [hk2, mixL_one] at hM
      simp only [k7, k13, g1, n1, wk, b1, b2, hsl, hlt1, stc_eq, stB_some, splice_one, go_sem, Nat.reduceEqDiff, Nat.reduceAdd, Nat.reduceLeDiff, Int.reduceEq, Int.reduceLT, Int.reduceLE, Int.reduceAdd, Int.reduceSub, Int.reduceMul, Int.reduceNeg, Int.reduceToNat, Nat.reduceMul]
      exact ⟨0, by omega, a, 0, M ++ [ga D a], .slice x 0 c, .slice (some p1) (M.length + 1) (M.length + 1), rfl, by omega, by simp; omega, by simp only [k7, go_sem, Nat.reduceEqDiff, Nat.reduceAdd, Nat.reduceLeDiff, Int.reduceEq, Int.reduceLT, Int.reduceLE, Int.reduceAdd, Int.reduceSub, Int.reduceMul, Int.reduceNeg, Int.reduceToNat, Nat.reduceMul], by simp only [go_sem, Nat.reduceEqDiff, Nat.reduceAdd, Nat.reduceLeDiff, Int.reduceEq, Int.reduceLT, Int.reduceLE, Int.reduceAdd, Int.reduceSub, Int.reduceMul, Int.reduceNeg, Int.reduceToNat, Nat.reduceMul], st1, .inl ⟨rfl, _, _, rfl⟩, by rw [mixL_zero, List.append_nil]; exact hM⟩
    · have n1 : (0 : Int) < ((k - 1 : Nat) : Int) := by omega
      obtain ⟨p2, H2, ap2, mx2⟩ := mx1.add hY (by simp; omega) (ga D (a + (k - 1)))
      have g2 := mx2.g
      have gr2 : H2.get id = some (rwI D) := by rw [mx2.old id hidl hid]; exact hrw
      have hl1 : (M ++ [ga D a]).length = M.length + 1 := by simp
      have hl2 : (M ++ [ga D a] ++ [ga D (a + (k - 1))]).length = M.length + 2 := by simp
      rw [hl1] at ap2 mx2
      have hat1 := rwI_at (D := D) (i := a + (k - 1)) (by omega)
      have q0 : (0 : Int) ≤ ((k - 1 : Nat) : Int) := by omega
      have q1 : ((k - 1 : Nat) : Int) < (k : Int) := by omega
      have q2 : a + (k - 1) + 1 ≤ D.length := by omega
      have q3 : k - 1 ≤ D.length - a := by omega
      have q4 : 1 ≤ k - 1 := by omega
      have hs1 := slc_pre (k := k) (a := a) gr2 q3
      have mx3 := mx2.put hY (.slice (some ⟨id, a, none⟩) (k - 1) (D.length - a))
      have hlt2 : H.next + 1 < H2.next := get_lt g2
      have gr3 : (H2.set (H.next + 1) (some ⟨[.slice (some ⟨id, a, none⟩) (k - 1) (D.length - a)], 1, false⟩)).get id = some (rwI D) := by rw [mx3.old id hidl hid]; exact hrw
      have hs2 := slc_suf (n := k - 1) (k := k - 1) (a := a) gr3 q3 (by omega)
      have mx4 := mx3.put hY (.slice (some ⟨id, a + 1, none⟩) (k - 1 - 1) (D.length - a - 1))
      rw [set_set] at mx4
      have ek : k = (k - 2) + 2 := by omega
      rw [ek, mixL_two, show a + (k - 2) + 1 = a + (k - 1) by omega] at hM
      simp only [k7, k13, g1, n1, wk, b1, q0, q1, q2, q3, q4, gr1, hat1, idxSP_slc, rwI_len, Int.toNat_natCast, addA, ap2, g2, hs1, hs2, hlt1, hlt2, stc_eq, stB_some, splice_one, set_get, set_set, AH.next_set, go_sem, Nat.reduceEqDiff, Nat.reduceAdd, Nat.reduceLeDiff, Int.reduceEq, Int.reduceLT, Int.reduceLE, Int.reduceAdd, Int.reduceSub, Int.reduceMul, Int.reduceNeg, Int.reduceToNat, Nat.reduceMul]
      have e1 : k - 1 - 1 = k - 2 := by omega
      have e2 : D.length - a - 1 = D.length - (a + 1) := by omega
      rw [e1, e2] at mx4
      refine ⟨k - 2, by omega, a + 1, k - 2, M ++ [ga D a] ++ [ga D (a + (k - 1))], .slice (some ⟨id, a + 1, none⟩) (k - 2) (D.length - (a + 1)), .slice (some p2) (M.length + 1 + 1) (M.length + 1 + 1), rfl, by omega, by omega, by simp only [k7, go_sem, Nat.reduceEqDiff, Nat.reduceAdd, Nat.reduceLeDiff, Int.reduceEq, Int.reduceLT, Int.reduceLE, Int.reduceAdd, Int.reduceSub, Int.reduceMul, Int.reduceNeg, Int.reduceToNat, Nat.reduceMul], by simp only [go_sem, Nat.reduceEqDiff, Nat.reduceAdd, Nat.reduceLeDiff, Int.reduceEq, Int.reduceLT, Int.reduceLE, Int.reduceAdd, Int.reduceSub, Int.reduceMul, Int.reduceNeg, Int.reduceToNat, Nat.reduceMul], ?_, ?_, by simpa using hM⟩
      · rw [e1, e2]; exact mx4
      · by_cases h0 : k - 2 = 0
        · rw [h0]; exact .inl ⟨rfl, _, _, rfl⟩
        · exact .inr ⟨by omega, rfl, hrw, hidl⟩
end Go.Proofs.Ytidpkoaomfbljaa.AM
namespace Go.Proofs.Ytidpkoaomfbljaa.AM
open Go
set_option linter.all false
set_option maxRecDepth 10000
variable {tbl : Tbl} [hT : TMono tbl]

/-- The functions of Order. -/
structure OrdTb (tbl : Tbl) : Prop where
  stb : StbTb tbl
  h79 : tbl 79 = some (.code m79)
  h77 : tbl 77 = some (.code m77)
  h80 : CmpF tbl 80 (fun x => x.s)
  h82 : CmpF tbl 82 (fun x => -x.s)
  h83 : CmpF tbl 83 (fun x => -x.m)
  h68 : tbl 68 = some (.code m68)
  h76 : tbl 76 = some (.code m76)
  h62 : tbl 62 = some (.code m62)
  h48 : tbl 48 = some (.code m48)
  h40 : tbl 40 = some (.code m40)
/-- The order. -/
def finL (kind seed : Int) (l : List Stp) : List Int := if kind = 5 then mixL (ordK kind seed l (carL l l.length)) 0 (ordK kind seed l (carL l l.length)).length else ordK kind seed l (carL l l.length)
theorem shuf_len : ∀ (i : Nat) (s : Int) (D : List Int), (shuf i s D).length = D.length
  | 0, _, _ => rfl
  | i + 1, s, D => by rw [shuf, shuf_len, List.length_set, List.length_set]
theorem ordK_len {kind seed : Int} {l : List Stp} {L : List Int} : (ordK kind seed l L).length = L.length := by
  unfold ordK
  split
  · exact shuf_len _ _ _
  · exact srt_len _
theorem car_in {l : List Stp} : ∀ x ∈ carL l l.length, inL l x := fun x hx => by
  have := carL_lt l.length x hx
  exact ⟨this.1, this.2⟩
theorem v62 (T : OrdTb tbl) {H : AH} {l : List Stp} {ad : Option Addr} {cp : Nat} (hs : Sl H 5 (.slice ad l.length cp) l.length (sL l)) (hl : l.length ≤ 20000) (hd : H.get 0 = none) (hp : 0 < H.next) {kind seed : Int} (hk : 1 ≤ kind ∧ kind ≤ 6) (hsd : 0 ≤ seed ∧ seed ≤ 2147483647) :
    Val tbl 62 [.int .i64 kind, .int .i64 seed, .slice ad l.length cp] H (mkS H (finL kind seed l).length) (mkH H 1 (finL kind seed l).length ((finL kind seed l).map I64)) := by
  refine Val.of_all fun Q hQ => ?_
  rw [rn_fun T.h62, k62_eq]
  simp only [go_sem, Nat.reduceEqDiff, Nat.reduceAdd, Nat.reduceLeDiff, Int.reduceEq, Int.reduceLT, Int.reduceLE, Int.reduceAdd, Int.reduceSub, Int.reduceMul, Int.reduceNeg, Int.reduceToNat, Nat.reduceMul]
  have hcl := carL_len (l := l) l.length
  have hln := ordK_len (kind := kind) (seed := seed) (l := l) (L := carL l l.length)
  have hE : H.enter.next = H.next := rfl
  have np1 : (H.enter.push ⟨[.slice ad l.length cp], 1, false⟩).next = H.next + 1 := by rw [AH.next_push, hE]
  have np2 : ((H.enter.push ⟨[.slice ad l.length cp], 1, false⟩).push ⟨[.slice none 0 0], 1, false⟩).next = H.next + 2 := by rw [AH.next_push, np1]
  have st0 : St H (.slice ad l.length cp) (.slice none 0 0) [] ((H.enter.push ⟨[.slice ad l.length cp], 1, false⟩).push ⟨[.slice none 0 0], 1, false⟩) :=
    ⟨((Junk.enter H).push _).push _, by rw [AH.get_push_lt _ _ (by omega)]; exact AH.get_push_eq H.enter _, by rw [← np1]; exact AH.get_push_eq _ _, .inl ⟨rfl, rfl, rfl⟩, by omega⟩
  refine (y2_ok T.h76 hs hl (by simp only [go_sem, Nat.reduceEqDiff, Nat.reduceAdd, Nat.reduceLeDiff, Int.reduceEq, Int.reduceLT, Int.reduceLE, Int.reduceAdd, Int.reduceSub, Int.reduceMul, Int.reduceNeg, Int.reduceToNat, Nat.reduceMul]) (by simp only [go_sem, Nat.reduceEqDiff, Nat.reduceAdd, Nat.reduceLeDiff, Int.reduceEq, Int.reduceLT, Int.reduceLE, Int.reduceAdd, Int.reduceSub, Int.reduceMul, Int.reduceNeg, Int.reduceToNat, Nat.reduceMul]) st0).mono ?_
  rintro e f1 H1 ⟨rfl, k0, k1, k5, k7, v1, st1⟩
  simp only [go_sem, Nat.reduceEqDiff, Nat.reduceAdd, Nat.reduceLeDiff, Int.reduceEq, Int.reduceLT, Int.reduceLE, Int.reduceAdd, Int.reduceSub, Int.reduceMul, Int.reduceNeg, Int.reduceToNat, Nat.reduceMul] at k0 k1 k5 k7
  simp only [k5, k7, go_sem, Nat.reduceEqDiff, Nat.reduceAdd, Nat.reduceLeDiff, Int.reduceEq, Int.reduceLT, Int.reduceLE, Int.reduceAdd, Int.reduceSub, Int.reduceMul, Int.reduceNeg, Int.reduceToNat, Nat.reduceMul]
  refine (y4_ok T.stb T.h79 T.h77 T.h80 T.h82 T.h83 T.h68 hs st1 (carL_rise _) car_in (by omega) hk hsd (f := _) (by simp only [k0, go_sem, Nat.reduceEqDiff, Nat.reduceAdd, Nat.reduceLeDiff, Int.reduceEq, Int.reduceLT, Int.reduceLE, Int.reduceAdd, Int.reduceSub, Int.reduceMul, Int.reduceNeg, Int.reduceToNat, Nat.reduceMul]) (by simp only [k1, go_sem, Nat.reduceEqDiff, Nat.reduceAdd, Nat.reduceLeDiff, Int.reduceEq, Int.reduceLT, Int.reduceLE, Int.reduceAdd, Int.reduceSub, Int.reduceMul, Int.reduceNeg, Int.reduceToNat, Nat.reduceMul]) (by simp only [k5, go_sem, Nat.reduceEqDiff, Nat.reduceAdd, Nat.reduceLeDiff, Int.reduceEq, Int.reduceLT, Int.reduceLE, Int.reduceAdd, Int.reduceSub, Int.reduceMul, Int.reduceNeg, Int.reduceToNat, Nat.reduceMul]) (by simp only [k7, go_sem, Nat.reduceEqDiff, Nat.reduceAdd, Nat.reduceLeDiff, Int.reduceEq, Int.reduceLT, Int.reduceLE, Int.reduceAdd, Int.reduceSub, Int.reduceMul, Int.reduceNeg, Int.reduceToNat, Nat.reduceMul]) (by simp only [go_sem, Nat.reduceEqDiff, Nat.reduceAdd, Nat.reduceLeDiff, Int.reduceEq, Int.reduceLT, Int.reduceLE, Int.reduceAdd, Int.reduceSub, Int.reduceMul, Int.reduceNeg, Int.reduceToNat, Nat.reduceMul])).mono ?_
  rintro e f2 H2 ⟨rfl, j0, j5, j7, v2, st2⟩
  simp only [k0, k5, k7, go_sem, Nat.reduceEqDiff, Nat.reduceAdd, Nat.reduceLeDiff, Int.reduceEq, Int.reduceLT, Int.reduceLE, Int.reduceAdd, Int.reduceSub, Int.reduceMul, Int.reduceNeg, Int.reduceToNat, Nat.reduceMul] at j0 j5 j7
  have g2 := st2.g1
  by_cases h5 : kind = 5
  · have hf : finL kind seed l = mixL (ordK kind seed l (carL l l.length)) 0 (ordK kind seed l (carL l l.length)).length := if_pos h5
    have hj := st2.j.nx
    simp only [j0, j7, h5, go_sem, Nat.reduceEqDiff, Nat.reduceAdd, Nat.reduceLeDiff, Int.reduceEq, Int.reduceLT, Int.reduceLE, Int.reduceAdd, Int.reduceSub, Int.reduceMul, Int.reduceNeg, Int.reduceToNat, Nat.reduceMul]
    refine (y7_ok st2 (by omega) hd hp (by simp only [j7, go_sem, Nat.reduceEqDiff, Nat.reduceAdd, Nat.reduceLeDiff, Int.reduceEq, Int.reduceLT, Int.reduceLE, Int.reduceAdd, Int.reduceSub, Int.reduceMul, Int.reduceNeg, Int.reduceToNat, Nat.reduceMul]) (by simp only [go_sem, Nat.reduceEqDiff, Nat.reduceAdd, Nat.reduceLeDiff, Int.reduceEq, Int.reduceLT, Int.reduceLE, Int.reduceAdd, Int.reduceSub, Int.reduceMul, Int.reduceNeg, Int.reduceToNat, Nat.reduceMul])).mono ?_
    rintro e f3 H3 ⟨rfl, v3, i13, ow, hlow⟩
    rw [← hf] at ow
    simp only [i13, go_sem, Nat.reduceEqDiff, Nat.reduceAdd, Nat.reduceLeDiff, Int.reduceEq, Int.reduceLT, Int.reduceLE, Int.reduceAdd, Int.reduceSub, Int.reduceMul, Int.reduceNeg, Int.reduceToNat, Nat.reduceMul]
    rw [back_own ow hj hlow (p1_ints _)]
    exact hQ
  · have hf : finL kind seed l = ordK kind seed l (carL l l.length) := if_neg h5
    have ow := st2.ow
    rw [← hf] at ow
    simp only [j0, j7, h5, g2, go_sem, Nat.reduceEqDiff, Nat.reduceAdd, Nat.reduceLeDiff, Int.reduceEq, Int.reduceLT, Int.reduceLE, Int.reduceAdd, Int.reduceSub, Int.reduceMul, Int.reduceNeg, Int.reduceToNat, Nat.reduceMul]
    rw [back_own ow (by omega) st2.j.low (p1_ints _)]
    exact hQ
theorem v40 (T : OrdTb tbl) {H : AH} {l : List Stp} {ad : Option Addr} {cp : Nat} (hs : Sl H 5 (.slice ad l.length cp) l.length (sL l)) (hl : l.length ≤ 20000) (hd : H.get 0 = none) (hp : 0 < H.next) {kind seed : Int} (hk : 1 ≤ kind ∧ kind ≤ 6) (hsd : 0 ≤ seed ∧ seed ≤ 2147483647) :
    Val tbl 40 [.int .i64 kind, .int .i64 seed, .slice ad l.length cp] H (.tuple #[mkS H (finL kind seed l).length, .int .i64 0]) (mkH H 1 (finL kind seed l).length ((finL kind seed l).map I64)) := by
  refine Val.of_all fun Q hQ => ?_
  rw [rn_fun T.h40, k40]
  have c1 : ¬ kind < 1 := by omega
  have c2 : ¬ 6 < kind := by omega
  have c3 : ¬ (20000 : Int) < (l.length : Int) := by omega
  have hv := v62 T (H := H.enter) (ad := ad) (cp := cp) (l := l) hs hl hd hp hk hsd
  simp only [↓(v48 T.h48 _ _).run, ↓hv.run, c1, c2, c3, hsd, go_sem, Nat.reduceEqDiff, Nat.reduceAdd, Nat.reduceLeDiff, Int.reduceEq, Int.reduceLT, Int.reduceLE, Int.reduceAdd, Int.reduceSub, Int.reduceMul, Int.reduceNeg, Int.reduceToNat, Nat.reduceMul]
  rw [back_own2 (own_mk (by simp)) (by simp only [go_sem, Nat.reduceEqDiff, Nat.reduceAdd, Nat.reduceLeDiff, Int.reduceEq, Int.reduceLT, Int.reduceLE, Int.reduceAdd, Int.reduceSub, Int.reduceMul, Int.reduceNeg, Int.reduceToNat, Nat.reduceMul] <;> omega) (by rw [mkH_low]; simp only [go_sem, Nat.reduceEqDiff, Nat.reduceAdd, Nat.reduceLeDiff, Int.reduceEq, Int.reduceLT, Int.reduceLE, Int.reduceAdd, Int.reduceSub, Int.reduceMul, Int.reduceNeg, Int.reduceToNat, Nat.reduceMul]; omega) (p1_ints _) rfl]
  exact hQ
/-- The error of an order. -/
def ordE (kind seed : Int) (n : Nat) : Int := if ¬ (1 ≤ kind ∧ kind ≤ 6) then 5 else if ¬ (0 ≤ seed ∧ seed ≤ 2147483647) then 7 else if 20000 < n then 8 else 0
theorem v40_bad (T : OrdTb tbl) {H : AH} {n : Nat} {ad : Option Addr} {cp : Nat} {kind seed : Int} (h : ordE kind seed n ≠ 0) :
    Val tbl 40 [.int .i64 kind, .int .i64 seed, .slice ad n cp] H (.tuple #[.slice none 0 0, .int .i64 (ordE kind seed n)]) H := by
  refine Val.of_all fun Q hQ => ?_
  rw [rn_fun T.h40, k40]
  unfold ordE at h hQ
  by_cases c1 : kind < 1
  · rw [if_pos (by omega)] at hQ
    simp only [c1, go_sem, Nat.reduceEqDiff, Nat.reduceAdd, Nat.reduceLeDiff, Int.reduceEq, Int.reduceLT, Int.reduceLE, Int.reduceAdd, Int.reduceSub, Int.reduceMul, Int.reduceNeg, Int.reduceToNat, Nat.reduceMul]
    exact hQ
  by_cases c2 : 6 < kind
  · rw [if_pos (by omega)] at hQ
    simp only [c1, c2, go_sem, Nat.reduceEqDiff, Nat.reduceAdd, Nat.reduceLeDiff, Int.reduceEq, Int.reduceLT, Int.reduceLE, Int.reduceAdd, Int.reduceSub, Int.reduceMul, Int.reduceNeg, Int.reduceToNat, Nat.reduceMul]
    exact hQ
  rw [if_neg (by omega)] at hQ h
  by_cases c3 : 0 ≤ seed ∧ seed ≤ 2147483647
  · rw [if_neg (by omega)] at hQ h
    by_cases c4 : (20000 : Int) < (n : Int)
    · rw [if_pos (by omega)] at hQ
      simp only [c1, c2, c3, c4, ↓(v48 T.h48 _ _).run, go_sem, Nat.reduceEqDiff, Nat.reduceAdd, Nat.reduceLeDiff, Int.reduceEq, Int.reduceLT, Int.reduceLE, Int.reduceAdd, Int.reduceSub, Int.reduceMul, Int.reduceNeg, Int.reduceToNat, Nat.reduceMul]
      exact hQ
    · rw [if_neg (by omega)] at h
      exact absurd rfl h
  · rw [if_pos c3] at hQ
    simp only [c1, c2, c3, ↓(v48 T.h48 _ _).run, go_sem, Nat.reduceEqDiff, Nat.reduceAdd, Nat.reduceLeDiff, Int.reduceEq, Int.reduceLT, Int.reduceLE, Int.reduceAdd, Int.reduceSub, Int.reduceMul, Int.reduceNeg, Int.reduceToNat, Nat.reduceMul]
    exact hQ
end Go.Proofs.Ytidpkoaomfbljaa.AM
namespace Go.Proofs.Ytidpkoaomfbljaa.AM
open Go
set_option linter.all false
set_option maxRecDepth 10000
variable {tbl : Tbl} [hT : TMono tbl]

theorem ldcB_part {ob : Option Blk} {off n : Nat} {l : List Value} (h : ldcB ob off n = some l) (i : Nat) (hi : i < n) : ldcB ob (off + i) 1 = some [l.getD i undef] := by
  cases ob with
  | none => simp [ldcB] at h
  | some b =>
    rw [ldcB_some] at h
    split at h
    · rename_i hle
      simp only [Option.some.injEq] at h
      subst h
      rw [ldcB_some, if_pos (by omega), take_one (by omega)]
      simp only [Option.some.injEq, List.cons.injEq, and_true]
      simp [List.getD, List.getElem?_take, hi, List.getElem?_drop, List.getElem?_eq_getElem (show off + i < b.cells.length by omega)]
    · simp at h
theorem v63 (h63 : tbl 63 = some (.code m63)) {X : AH} {l : List Stp} {lv : Value} (hs : Sl X 5 lv l.length (sL l)) {a b : Nat} {kind : Int} {es1 es2 : Nat} {r1 r2 : Bool} (ha : X.get a = some ⟨[.int .i64 kind], es1, r1⟩) (hb : X.get b = some ⟨[lv], es2, r2⟩) (x y : Int) (hx : inL l x) (hy : inL l y) (hk : 1 ≤ kind ∧ kind ≤ 6) :
    Val tbl 63 [.int .i64 x, .int .i64 y, .pointer (some ⟨a, 0, none⟩), .pointer (some ⟨b, 0, none⟩)] X (.bool (decide (kyL (kk kind) l x < kyL (kk kind) l y))) X := by
  obtain ⟨i, rfl⟩ : ∃ i : Nat, x = i := ⟨x.toNat, by have := hx.1; omega⟩
  obtain ⟨j, rfl⟩ : ∃ j : Nat, y = j := ⟨y.toNat, by have := hy.1; omega⟩
  have hi : i < l.length := by have := hx.2; omega
  have hj : j < l.length := by have := hy.2; omega
  have ei : l.getD (i : Int).toNat dS = l[i] := by simp [hi]
  have ej : l.getD (j : Int).toNat dS = l[j] := by simp [hj]
  unfold kyL
  rw [ei, ej]
  have ea : X.enter.get a = some ⟨[.int .i64 kind], es1, r1⟩ := ha
  have eb : X.enter.get b = some ⟨[lv], es2, r2⟩ := hb
  refine Val.of_all fun Q hQ => ?_
  obtain ⟨ad, cp, hv⟩ := hs.shape
  subst hv
  rw [rn_fun h63, k63]
  have hc : kind = 1 ∨ kind = 6 ∨ (kind = 2 ∨ kind = 5) ∨ kind = 3 ∨ kind = 4 := by omega
  rcases hc with h | h | h | h | h
  · subst h
    have n1 : ¬ (1 : Int) = 2 := by decide
    have n2 : ¬ (1 : Int) = 5 := by decide
    have n3 : ¬ (1 : Int) = 3 := by decide
    have n4 : ¬ (1 : Int) = 4 := by decide
    simp only [ea, n1, n2, n3, n4, go_sem, Nat.reduceEqDiff, Nat.reduceAdd, Nat.reduceLeDiff, Int.reduceEq, Int.reduceLT, Int.reduceLE, Int.reduceAdd, Int.reduceSub, Int.reduceMul, Int.reduceNeg, Int.reduceToNat, Nat.reduceMul]
    exact hQ
  · subst h
    have n1 : ¬ (6 : Int) = 2 := by decide
    have n2 : ¬ (6 : Int) = 5 := by decide
    have n3 : ¬ (6 : Int) = 3 := by decide
    have n4 : ¬ (6 : Int) = 4 := by decide
    simp only [ea, n1, n2, n3, n4, go_sem, Nat.reduceEqDiff, Nat.reduceAdd, Nat.reduceLeDiff, Int.reduceEq, Int.reduceLT, Int.reduceLE, Int.reduceAdd, Int.reduceSub, Int.reduceMul, Int.reduceNeg, Int.reduceToNat, Nat.reduceMul]
    exact hQ
  · have e : ∀ z, kk kind z = z.s := fun z => if_pos h
    rw [e, e] at hQ
    have n2 : ¬ (5 : Int) = 2 := by decide
    rcases h with h | h <;> subst h
    all_goals
      simp only [ea, eb, n2, go_sem, Nat.reduceEqDiff, Nat.reduceAdd, Nat.reduceLeDiff, Int.reduceEq, Int.reduceLT, Int.reduceLE, Int.reduceAdd, Int.reduceSub, Int.reduceMul, Int.reduceNeg, Int.reduceToNat, Nat.reduceMul]
      refine hs.at_ hi fun p hp1 hp2 => ?_
      have hp3 := ldcB_part hp2 3 (by omega)
      rw [sL_at _ _ hi] at hp3
      have hpe : X.enter.get p.block = X.get p.block := rfl
      simp only [ea, eb, hpe, addA, hp3, sv, go_sem, Nat.reduceEqDiff, Nat.reduceAdd, Nat.reduceLeDiff, Int.reduceEq, Int.reduceLT, Int.reduceLE, Int.reduceAdd, Int.reduceSub, Int.reduceMul, Int.reduceNeg, Int.reduceToNat, Nat.reduceMul]
      refine hs.at_ hj fun q hq1 hq2 => ?_
      have hq3 := ldcB_part hq2 3 (by omega)
      rw [sL_at _ _ hj] at hq3
      have hqe : X.enter.get q.block = X.get q.block := rfl
      simp only [ea, eb, hqe, addA, hq3, sv, go_sem, Nat.reduceEqDiff, Nat.reduceAdd, Nat.reduceLeDiff, Int.reduceEq, Int.reduceLT, Int.reduceLE, Int.reduceAdd, Int.reduceSub, Int.reduceMul, Int.reduceNeg, Int.reduceToNat, Nat.reduceMul]
      exact hQ
  · subst h
    have n1 : ¬ (3 : Int) = 2 := by decide
    have n2 : ¬ (3 : Int) = 5 := by decide
    have e : decide (kk 3 l[i] < kk 3 l[j]) = decide (l[j].s < l[i].s) := decide_eq_decide.2 (by show -l[i].s < -l[j].s ↔ _; omega)
    rw [e] at hQ
    simp only [ea, eb, n1, n2, go_sem, Nat.reduceEqDiff, Nat.reduceAdd, Nat.reduceLeDiff, Int.reduceEq, Int.reduceLT, Int.reduceLE, Int.reduceAdd, Int.reduceSub, Int.reduceMul, Int.reduceNeg, Int.reduceToNat, Nat.reduceMul]
    refine hs.at_ hi fun p hp1 hp2 => ?_
    have hp3 := ldcB_part hp2 3 (by omega)
    rw [sL_at _ _ hi] at hp3
    have hpe : X.enter.get p.block = X.get p.block := rfl
    simp only [ea, eb, hpe, addA, hp3, sv, go_sem, Nat.reduceEqDiff, Nat.reduceAdd, Nat.reduceLeDiff, Int.reduceEq, Int.reduceLT, Int.reduceLE, Int.reduceAdd, Int.reduceSub, Int.reduceMul, Int.reduceNeg, Int.reduceToNat, Nat.reduceMul]
    refine hs.at_ hj fun q hq1 hq2 => ?_
    have hq3 := ldcB_part hq2 3 (by omega)
    rw [sL_at _ _ hj] at hq3
    have hqe : X.enter.get q.block = X.get q.block := rfl
    simp only [ea, eb, hqe, addA, hq3, sv, go_sem, Nat.reduceEqDiff, Nat.reduceAdd, Nat.reduceLeDiff, Int.reduceEq, Int.reduceLT, Int.reduceLE, Int.reduceAdd, Int.reduceSub, Int.reduceMul, Int.reduceNeg, Int.reduceToNat, Nat.reduceMul]
    exact hQ
  · subst h
    have n1 : ¬ (4 : Int) = 2 := by decide
    have n2 : ¬ (4 : Int) = 5 := by decide
    have n3 : ¬ (4 : Int) = 3 := by decide
    have e : decide (kk 4 l[i] < kk 4 l[j]) = decide (l[j].m < l[i].m) := decide_eq_decide.2 (by show -l[i].m < -l[j].m ↔ _; omega)
    rw [e] at hQ
    simp only [ea, eb, n1, n2, n3, go_sem, Nat.reduceEqDiff, Nat.reduceAdd, Nat.reduceLeDiff, Int.reduceEq, Int.reduceLT, Int.reduceLE, Int.reduceAdd, Int.reduceSub, Int.reduceMul, Int.reduceNeg, Int.reduceToNat, Nat.reduceMul]
    refine hs.at_ hi fun p hp1 hp2 => ?_
    have hp3 := ldcB_part hp2 4 (by omega)
    rw [sL_at _ _ hi] at hp3
    have hpe : X.enter.get p.block = X.get p.block := rfl
    simp only [ea, eb, hpe, addA, hp3, sv, go_sem, Nat.reduceEqDiff, Nat.reduceAdd, Nat.reduceLeDiff, Int.reduceEq, Int.reduceLT, Int.reduceLE, Int.reduceAdd, Int.reduceSub, Int.reduceMul, Int.reduceNeg, Int.reduceToNat, Nat.reduceMul]
    refine hs.at_ hj fun q hq1 hq2 => ?_
    have hq3 := ldcB_part hq2 4 (by omega)
    rw [sL_at _ _ hj] at hq3
    have hqe : X.enter.get q.block = X.get q.block := rfl
    simp only [ea, eb, hqe, addA, hq3, sv, go_sem, Nat.reduceEqDiff, Nat.reduceAdd, Nat.reduceLeDiff, Int.reduceEq, Int.reduceLT, Int.reduceLE, Int.reduceAdd, Int.reduceSub, Int.reduceMul, Int.reduceNeg, Int.reduceToNat, Nat.reduceMul]
    exact hQ
end Go.Proofs.Ytidpkoaomfbljaa.AM
namespace Go.Proofs.Ytidpkoaomfbljaa.AM
open Go
set_option linter.all false
set_option maxRecDepth 10000
def x3 : MCode := (.seq (.ops [⟨(some 18), none, false, (.load false 1 (.tmp 5))⟩, ⟨(some 19), none, false, (.len (.tmp 18))⟩, ⟨(some 20), none, false, (.mov (.const (.int .i64 0)))⟩]) (.block 0 (.loop (.seq (.ops [⟨(some 21), none, false, (.bin .int .lss (.tmp 20) (.tmp 19))⟩]) (.seq (.cond (.tmp 21) .skip (.exit 0)) (.seq (.block 1 (.seq (.ops [⟨(some 22), none, false, (.mov (.tmp 20))⟩, ⟨(some 23), none, false, (.idxS 5 (.tmp 18) (.tmp 20))⟩, ⟨(some 24), none, false, (.load true 5 (.tmp 23))⟩, ⟨(some 10), none, false, (.alloc [(.int .i64 0), (.string ⟨#[]⟩), (.string ⟨#[]⟩), (.int .i64 0), (.int .i64 0)] 1)⟩, ⟨(some 9), none, false, (.mov (.tmp 22))⟩, ⟨none, none, false, (.store 5 (.tmp 10) (.tmp 24))⟩]) (.seq (.seq (.ops [⟨(some 25), none, false, (.addOff 0 (.tmp 10))⟩, ⟨(some 26), none, false, (.load false 1 (.tmp 25))⟩, ⟨(some 27), none, false, (.bin .int .neq (.tmp 26) (.const (.int .i64 4)))⟩, ⟨(some 28), none, false, (.mov (.tmp 27))⟩, ⟨(some 29), (some (28, true)), false, (.addOff 0 (.tmp 10))⟩, ⟨(some 30), (some (28, true)), false, (.load false 1 (.tmp 29))⟩, ⟨(some 31), (some (28, true)), false, (.bin .int .neq (.tmp 30) (.const (.int .i64 5)))⟩, ⟨(some 32), none, false, (.pick (.tmp 28) (.tmp 31) (.const (.bool false)))⟩]) (.cond (.tmp 32) (.exit 1) .skip)) (.seq (.ops [⟨(some 33), none, false, (.mov (.tmp 7))⟩, ⟨(some 34), none, false, (.len (.tmp 33))⟩, ⟨(some 11), none, false, (.mov (.tmp 34))⟩]) (.seq (.ops [⟨(some 35), none, false, (.mov (.tmp 7))⟩, ⟨(some 36), none, false, (.mov (.tmp 9))⟩, ⟨(some 37), none, false, (.buildSlice [(.int .i64 0)] 1 1 [(0, (1, (.tmp 36)))])⟩, ⟨(some 38), none, false, (.append 1 8 (.tmp 35) (.tmp 37))⟩, ⟨(some 7), none, false, (.mov (.tmp 38))⟩]) (.seq (.block 2 (.loop (.seq (.seq (.ops [⟨(some 39), none, false, (.mov (.tmp 11))⟩, ⟨(some 40), none, false, (.bin .int .gtr (.tmp 39) (.const (.int .i64 0)))⟩, ⟨(some 41), none, false, (.mov (.tmp 40))⟩, ⟨(some 42), (some (41, true)), false, (.mov (.tmp 8))⟩, ⟨(some 43), (some (41, true)), false, (.mov (.tmp 9))⟩, ⟨(some 44), (some (41, true)), false, (.mov (.tmp 7))⟩, ⟨(some 45), (some (41, true)), false, (.mov (.tmp 11))⟩, ⟨(some 46), (some (41, true)), false, (.bin .int .sub (.tmp 45) (.const (.int .i64 1)))⟩, ⟨(some 47), (some (41, true)), false, (.idxS 1 (.tmp 44) (.tmp 46))⟩, ⟨(some 48), (some (41, true)), false, (.load false 1 (.tmp 47))⟩, ⟨(some 49), (some (41, true)), false, (.call false (.tmp 42) [(.tmp 43), (.tmp 48)])⟩, ⟨(some 50), none, false, (.pick (.tmp 41) (.tmp 49) (.const (.bool false)))⟩]) (.cond (.tmp 50) .skip (.exit 2))) (.block 3 (.seq (.ops [⟨(some 51), none, false, (.mov (.tmp 7))⟩, ⟨(some 52), none, false, (.mov (.tmp 11))⟩, ⟨(some 53), none, false, (.mov (.tmp 7))⟩, ⟨(some 54), none, false, (.mov (.tmp 11))⟩, ⟨(some 55), none, false, (.bin .int .sub (.tmp 54) (.const (.int .i64 1)))⟩, ⟨(some 56), none, false, (.idxS 1 (.tmp 53) (.tmp 55))⟩, ⟨(some 57), none, false, (.load false 1 (.tmp 56))⟩, ⟨(some 58), none, false, (.idxS 1 (.tmp 51) (.tmp 52))⟩, ⟨none, none, false, (.store 1 (.tmp 58) (.tmp 57))⟩]) (.ops [⟨(some 59), none, false, (.mov (.tmp 11))⟩, ⟨(some 60), none, false, (.bin .int .sub (.tmp 59) (.const (.int .i64 1)))⟩, ⟨(some 11), none, false, (.mov (.tmp 60))⟩])))))) (.ops [⟨(some 61), none, false, (.mov (.tmp 7))⟩, ⟨(some 62), none, false, (.mov (.tmp 11))⟩, ⟨(some 63), none, false, (.mov (.tmp 9))⟩, ⟨(some 64), none, false, (.idxS 1 (.tmp 61) (.tmp 62))⟩, ⟨none, none, false, (.store 1 (.tmp 64) (.tmp 63))⟩]))))))) (.ops [⟨(some 65), none, false, (.bin .int .add (.tmp 20) (.const (.int .i64 1)))⟩, ⟨(some 20), none, false, (.mov (.tmp 65))⟩])))))))
def x4 : MCode := (.seq (.ops [⟨(some 66), none, false, (.load false 1 (.tmp 3))⟩, ⟨(some 67), none, false, (.bin .int .eql (.tmp 66) (.const (.int .i64 5)))⟩]) (.cond (.tmp 67) (.seq (.ops [⟨(some 12), none, false, (.mov (.const (.slice none 0 0)))⟩]) (.seq (.seq (.ops [⟨(some 68), none, false, (.mov (.tmp 7))⟩, ⟨(some 69), none, false, (.len (.tmp 68))⟩, ⟨(some 70), none, false, (.bin .int .sub (.tmp 69) (.const (.int .i64 1)))⟩, ⟨(some 13), none, false, (.mov (.const (.int .i64 0)))⟩, ⟨(some 14), none, false, (.mov (.tmp 70))⟩]) (.block 4 (.loop (.seq (.seq (.ops [⟨(some 71), none, false, (.mov (.tmp 13))⟩, ⟨(some 72), none, false, (.mov (.tmp 14))⟩, ⟨(some 73), none, false, (.bin .int .leq (.tmp 71) (.tmp 72))⟩]) (.cond (.tmp 73) .skip (.exit 4))) (.block 5 (.seq (.ops [⟨(some 74), none, false, (.mov (.tmp 12))⟩, ⟨(some 75), none, false, (.mov (.tmp 7))⟩, ⟨(some 76), none, false, (.mov (.tmp 13))⟩, ⟨(some 77), none, false, (.idxS 1 (.tmp 75) (.tmp 76))⟩, ⟨(some 78), none, false, (.load false 1 (.tmp 77))⟩, ⟨(some 79), none, false, (.buildSlice [(.int .i64 0)] 1 1 [(0, (1, (.tmp 78)))])⟩, ⟨(some 80), none, false, (.append 1 8 (.tmp 74) (.tmp 79))⟩, ⟨(some 12), none, false, (.mov (.tmp 80))⟩]) (.seq (.ops [⟨(some 81), none, false, (.mov (.tmp 13))⟩, ⟨(some 82), none, false, (.bin .int .add (.tmp 81) (.const (.int .i64 1)))⟩, ⟨(some 13), none, false, (.mov (.tmp 82))⟩]) (.seq (.ops [⟨(some 83), none, false, (.mov (.tmp 13))⟩, ⟨(some 84), none, false, (.mov (.tmp 14))⟩, ⟨(some 85), none, false, (.bin .int .leq (.tmp 83) (.tmp 84))⟩]) (.cond (.tmp 85) (.seq (.ops [⟨(some 86), none, false, (.mov (.tmp 12))⟩, ⟨(some 87), none, false, (.mov (.tmp 7))⟩, ⟨(some 88), none, false, (.mov (.tmp 14))⟩, ⟨(some 89), none, false, (.idxS 1 (.tmp 87) (.tmp 88))⟩, ⟨(some 90), none, false, (.load false 1 (.tmp 89))⟩, ⟨(some 91), none, false, (.buildSlice [(.int .i64 0)] 1 1 [(0, (1, (.tmp 90)))])⟩, ⟨(some 92), none, false, (.append 1 8 (.tmp 86) (.tmp 91))⟩, ⟨(some 12), none, false, (.mov (.tmp 92))⟩]) (.ops [⟨(some 93), none, false, (.mov (.tmp 14))⟩, ⟨(some 94), none, false, (.bin .int .sub (.tmp 93) (.const (.int .i64 1)))⟩, ⟨(some 14), none, false, (.mov (.tmp 94))⟩])) .skip))))))))) (.seq (.ops [⟨(some 95), none, false, (.mov (.tmp 12))⟩, ⟨(some 6), none, false, (.mov (.tmp 95))⟩]) .ret))) .skip))
def x5 : MCode := (.seq (.ops [⟨(some 96), none, false, (.load false 1 (.tmp 3))⟩, ⟨(some 97), none, false, (.bin .int .eql (.tmp 96) (.const (.int .i64 6)))⟩]) (.cond (.tmp 97) (.seq (.ops [⟨(some 98), none, false, (.mov (.tmp 7))⟩, ⟨(some 99), none, false, (.len (.tmp 98))⟩, ⟨(some 100), none, false, (.bin .int .sub (.tmp 99) (.const (.int .i64 1)))⟩, ⟨(some 15), none, false, (.mov (.tmp 100))⟩]) (.block 6 (.loop (.seq (.seq (.ops [⟨(some 101), none, false, (.mov (.tmp 15))⟩, ⟨(some 102), none, false, (.bin .int .gtr (.tmp 101) (.const (.int .i64 0)))⟩]) (.cond (.tmp 102) .skip (.exit 6))) (.seq (.block 7 (.seq (.ops [⟨(some 105), none, false, (.mov (.tmp 1))⟩, ⟨(some 106), none, false, (.call false (.func 50) [(.tmp 105)])⟩, ⟨(some 1), none, false, (.mov (.tmp 106))⟩]) (.seq (.ops [⟨(some 107), none, false, (.mov (.tmp 1))⟩, ⟨(some 108), none, false, (.mov (.tmp 15))⟩, ⟨(some 109), none, false, (.bin .int .add (.tmp 108) (.const (.int .i64 1)))⟩, ⟨(some 110), none, false, (.bin .int .rem (.tmp 107) (.tmp 109))⟩, ⟨(some 16), none, false, (.mov (.tmp 110))⟩]) (.opsD [⟨(some 111), none, false, (.mov (.tmp 7))⟩, ⟨(some 112), none, false, (.mov (.tmp 15))⟩, ⟨(some 113), none, false, (.mov (.tmp 7))⟩, ⟨(some 114), none, false, (.mov (.tmp 16))⟩, ⟨(some 115), none, false, (.mov (.tmp 7))⟩, ⟨(some 116), none, false, (.mov (.tmp 16))⟩, ⟨(some 117), none, false, (.idxS 1 (.tmp 115) (.tmp 116))⟩, ⟨(some 118), none, false, (.load false 1 (.tmp 117))⟩, ⟨(some 119), none, false, (.mov (.tmp 7))⟩, ⟨(some 120), none, false, (.mov (.tmp 15))⟩, ⟨(some 121), none, false, (.idxS 1 (.tmp 119) (.tmp 120))⟩, ⟨(some 122), none, false, (.load false 1 (.tmp 121))⟩, ⟨(some 123), none, false, (.idxS 1 (.tmp 111) (.tmp 112))⟩, ⟨none, none, false, (.store 1 (.tmp 123) (.tmp 118))⟩, ⟨(some 124), none, false, (.idxS 1 (.tmp 113) (.tmp 114))⟩, ⟨none, none, false, (.store 1 (.tmp 124) (.tmp 122))⟩])))) (.ops [⟨(some 103), none, false, (.mov (.tmp 15))⟩, ⟨(some 104), none, false, (.bin .int .sub (.tmp 103) (.const (.int .i64 1)))⟩, ⟨(some 15), none, false, (.mov (.tmp 104))⟩])))))) .skip))
theorem k41_eq : k41 = (.seq (.ops [⟨(some 3), none, false, (.box 1 (.tmp 0))⟩, ⟨(some 5), none, false, (.box 1 (.tmp 2))⟩, ⟨(some 6), none, false, (.mov (.const (.slice none 0 0)))⟩]) (.seq (.ops [⟨(some 7), none, false, (.mov (.const (.slice none 0 0)))⟩]) (.seq (.ops [⟨(some 17), none, false, (.mkFunc (.func 63) [] [(.tmp 3), (.tmp 5)])⟩, ⟨(some 8), none, false, (.mov (.tmp 17))⟩]) (.seq x3 (.seq x4 (.seq x5 (.seq (.ops [⟨(some 125), none, false, (.mov (.tmp 7))⟩, ⟨(some 6), none, false, (.mov (.tmp 125))⟩]) .ret))))))) := rfl
variable {tbl : Tbl} [hT : TMono tbl]

/-- The state of the reference: the kind, the steps, and the numbers so far. -/
structure Rt (H : AH) (kind : Int) (lv v : Value) (L : List Int) (X : AH) : Prop where
  j : Junk H X
  gk : X.get H.next = some ⟨[.int .i64 kind], 1, false⟩
  gl : X.get (H.next + 1) = some ⟨[lv], 1, false⟩
  ow : Own (H.next + 2) X 1 v L.length (L.map I64)
  nx : H.next + 2 ≤ X.next
theorem Rt.keep {H : AH} {kind : Int} {lv v : Value} {L : List Int} {X Y : AH} (h : Rt H kind lv v L X) (k : ∀ j, j < X.next → Y.get j = X.get j) (hn : X.next ≤ Y.next) (hl : H.next ≤ Y.low) : Rt H kind lv v L Y where
  j := ⟨fun i hi => by rw [k i (by have := h.j.nx; omega)]; exact h.j.old i hi, by have := h.j.nx; omega, hl⟩
  gk := by rw [k _ (get_lt h.gk)]; exact h.gk
  gl := by rw [k _ (get_lt h.gl)]; exact h.gl
  ow := h.ow.keep k
  nx := by have := h.nx; omega
theorem Rt.elem {H : AH} {kind : Int} {lv v : Value} {L : List Int} {X : AH} (h : Rt H kind lv v L X) (b c : Blk) : Rt H kind lv v L ((X.push b).set X.next (some c)) :=
  h.keep (fun j hj => by rw [AH.get_set_ne _ _ (by omega), AH.get_push_lt _ _ hj]) (by rw [AH.next_set, AH.next_push]; omega) (by have := h.j.low; have := h.j.nx; rw [lw_set, lw_push]; omega)
/-- One number more. -/
theorem Rt.add {H : AH} {kind : Int} {lv v : Value} {L : List Int} {X : AH} (h : Rt H kind lv v L X) (x : Int) (hs : L.length ≤ 1000000) :
    ∃ id H', appended (X.push ⟨[.int .i64 x], 1, false⟩) 1 8 v 1 [.int .i64 x] = some (.slice (some ⟨id, 0, none⟩) (L.length + 1) (L.length + 1), H') ∧ H.next + 2 ≤ id ∧ H'.get id = some (rwI (L ++ [x])) ∧ Rt H kind lv (.slice (some ⟨id, 0, none⟩) (L.length + 1) (L.length + 1)) (L ++ [x]) H' := by
  have hnx := h.nx
  have hjl := h.j.low
  have hn : (X.push ⟨[.int .i64 x], 1, false⟩).next = X.next + 1 := AH.next_push _ _
  have ho : Own (H.next + 2) (X.push ⟨[.int .i64 x], 1, false⟩) 1 v L.length (L.map I64) := h.ow.keep fun j hj => AH.get_push_lt _ _ hj
  obtain ⟨p, H', h1, h2, h3, h4, h5⟩ := ho.add1 (by omega) hs x
  have h2' := h2
  rcases h2 with ⟨e, _⟩ | ⟨id, e1, e2, e3, e4, e5⟩
  · simp at e
  · simp only [Value.slice.injEq, Option.some.injEq] at e1
    obtain ⟨rfl, _, _⟩ := e1
    refine ⟨id, H', h1, e4, e2, ⟨⟨fun i hi => ?_, by omega, h5 H.next (by omega) hjl⟩, ?_, ?_, h2', by omega⟩⟩
    · rw [h3 i (by omega), AH.get_push_lt _ _ (by omega)]; exact h.j.old i hi
    · rw [h3 _ (by omega), AH.get_push_lt _ _ (by omega)]; exact h.gk
    · rw [h3 _ (by omega), AH.get_push_lt _ _ (by omega)]; exact h.gl
theorem Rt.ups {H : AH} {kind : Int} {lv : Value} {L D : List Int} {X Y : AH} {id n : Nat} (h : Rt H kind lv (.slice (some ⟨id, 0, none⟩) n n) L X) (hid : H.next + 2 ≤ id) (hu : UpS id X Y D) (hn : D.length = L.length) (hid2 : id < X.next) (hL : L.length = n) (h0 : 0 < n) : Rt H kind lv (.slice (some ⟨id, 0, none⟩) n n) D Y := by
  have hg := hu.get hid2
  rcases hu with ⟨rfl, hu⟩ | rfl
  · exact ⟨h.j, h.gk, h.gl, .inr ⟨id, by rw [hn, hL], hg, by simp, hid, by omega⟩, h.nx⟩
  · refine ⟨h.j.set (by omega) _, by rw [AH.get_set_ne _ _ (by omega)]; exact h.gk, by rw [AH.get_set_ne _ _ (by omega)]; exact h.gl, .inr ⟨id, by rw [hn, hL], hg, by simp, hid, by omega⟩, by rw [AH.next_set]; exact h.nx⟩
theorem x3_ok (h63 : tbl 63 = some (.code m63)) {H : AH} {l : List Stp} {ad : Option Addr} {cp : Nat} (hs : Sl H 5 (.slice ad l.length cp) l.length (sL l)) (hl : l.length ≤ 20000) {kind : Int} (hk : 1 ≤ kind ∧ kind ≤ 6) {f : Fr} {X : AH} (f3 : f 3 = .pointer (some ⟨H.next, 0, none⟩)) (f5 : f 5 = .pointer (some ⟨H.next + 1, 0, none⟩)) (f7 : f 7 = .slice none 0 0) (f8 : f 8 = .func (.func 63) #[] #[.pointer (some ⟨H.next, 0, none⟩), .pointer (some ⟨H.next + 1, 0, none⟩)]) (st : Rt H kind (.slice ad l.length cp) (.slice none 0 0) [] X) :
    (@RunC tbl x3 f X ⟨fun e f' H' => e = .normal ∧ f' 1 = f 1 ∧ f' 3 = f 3 ∧ ∃ v, f' 7 = v ∧ Rt H kind (.slice ad l.length cp) v (srt (kyL (kk kind) l) (carL l l.length)) H'⟩) := by
  rw [x3]
  have hg0 := st.gl
  simp only [f5, hg0, go_sem, Nat.reduceEqDiff, Nat.reduceAdd, Nat.reduceLeDiff, Int.reduceEq, Int.reduceLT, Int.reduceLE, Int.reduceAdd, Int.reduceSub, Int.reduceMul, Int.reduceNeg, Int.reduceToNat, Nat.reduceMul]
  refine rn_loop (fun m f' H' => ∃ (i : Nat) (v : Value), i ≤ l.length ∧ m = l.length - i ∧ f' 1 = f 1 ∧ f' 3 = .pointer (some ⟨H.next, 0, none⟩) ∧ f' 7 = v ∧ f' 8 = .func (.func 63) #[] #[.pointer (some ⟨H.next, 0, none⟩), .pointer (some ⟨H.next + 1, 0, none⟩)] ∧ f' 18 = .slice ad l.length cp ∧ f' 19 = .int .i64 l.length ∧ f' 20 = .int .i64 i ∧ Rt H kind (.slice ad l.length cp) v (srt (kyL (kk kind) l) (carL l i)) H') ?_ (n := l.length)
    ⟨0, .slice none 0 0, by omega, by omega, by simp only [go_sem, Nat.reduceEqDiff, Nat.reduceAdd, Nat.reduceLeDiff, Int.reduceEq, Int.reduceLT, Int.reduceLE, Int.reduceAdd, Int.reduceSub, Int.reduceMul, Int.reduceNeg, Int.reduceToNat, Nat.reduceMul], by simp only [f3, go_sem, Nat.reduceEqDiff, Nat.reduceAdd, Nat.reduceLeDiff, Int.reduceEq, Int.reduceLT, Int.reduceLE, Int.reduceAdd, Int.reduceSub, Int.reduceMul, Int.reduceNeg, Int.reduceToNat, Nat.reduceMul], by simp only [f7, go_sem, Nat.reduceEqDiff, Nat.reduceAdd, Nat.reduceLeDiff, Int.reduceEq, Int.reduceLT, Int.reduceLE, Int.reduceAdd, Int.reduceSub, Int.reduceMul, Int.reduceNeg, Int.reduceToNat, Nat.reduceMul], by simp only [f8, go_sem, Nat.reduceEqDiff, Nat.reduceAdd, Nat.reduceLeDiff, Int.reduceEq, Int.reduceLT, Int.reduceLE, Int.reduceAdd, Int.reduceSub, Int.reduceMul, Int.reduceNeg, Int.reduceToNat, Nat.reduceMul], by simp only [go_sem, Nat.reduceEqDiff, Nat.reduceAdd, Nat.reduceLeDiff, Int.reduceEq, Int.reduceLT, Int.reduceLE, Int.reduceAdd, Int.reduceSub, Int.reduceMul, Int.reduceNeg, Int.reduceToNat, Nat.reduceMul], by simp only [go_sem, Nat.reduceEqDiff, Nat.reduceAdd, Nat.reduceLeDiff, Int.reduceEq, Int.reduceLT, Int.reduceLE, Int.reduceAdd, Int.reduceSub, Int.reduceMul, Int.reduceNeg, Int.reduceToNat, Nat.reduceMul], by simp only [go_sem, Nat.reduceEqDiff, Nat.reduceAdd, Nat.reduceLeDiff, Int.reduceEq, Int.reduceLT, Int.reduceLE, Int.reduceAdd, Int.reduceSub, Int.reduceMul, Int.reduceNeg, Int.reduceToNat, Nat.reduceMul] <;> rfl, st⟩
  clear hg0 st
  rintro m f' H' ⟨i, v, hi, rfl, k1, k3, k7, k8, k18, k19, k20, st⟩
  by_cases hlt : (i : Int) < l.length
  · have hi2 : i < l.length := by omega
    simp only [k1, k3, k7, k8, k18, k19, k20, hlt, go_sem, Nat.reduceEqDiff, Nat.reduceAdd, Nat.reduceLeDiff, Int.reduceEq, Int.reduceLT, Int.reduceLE, Int.reduceAdd, Int.reduceSub, Int.reduceMul, Int.reduceNeg, Int.reduceToNat, Nat.reduceMul]
    refine (hs.keep st.j.old).at_ hi2 fun p hp1 hp2 => ?_
    rw [sL_at _ _ hi2] at hp2
    have hlt2 : H'.next < H'.next + 1 := by omega
    have wi := w64 (x := (i : Int) + 1) (by omega) (by omega)
    have st2 := st.elem ⟨[.int .i64 0, .string ⟨#[]⟩, .string ⟨#[]⟩, .int .i64 0, .int .i64 0], 1, false⟩ ⟨sv l[i], 1, false⟩
    have g2 : ((H'.push ⟨[.int .i64 0, .string ⟨#[]⟩, .string ⟨#[]⟩, .int .i64 0, .int .i64 0], 1, false⟩).set H'.next (some ⟨sv l[i], 1, false⟩)).get H'.next = some ⟨sv l[i], 1, false⟩ := AH.get_set_eq _ _ (by rw [AH.next_push]; omega)
    simp only [sv] at hp2 st2 g2
    have eg : l.getD i dS = l[i] := by simp [hi2]
    simp only [k1, k3, k7, k8, k18, k19, k20, hp2, stc_eq, stB_some, hlt2, go_sem, Nat.reduceEqDiff, Nat.reduceAdd, Nat.reduceLeDiff, Int.reduceEq, Int.reduceLT, Int.reduceLE, Int.reduceAdd, Int.reduceSub, Int.reduceMul, Int.reduceNeg, Int.reduceToNat, Nat.reduceMul]
    generalize (H'.push ⟨[.int .i64 0, .string ⟨#[]⟩, .string ⟨#[]⟩, .int .i64 0, .int .i64 0], 1, false⟩).set H'.next (some ⟨[.int .i64 l[i].k, .string l[i].p, .string l[i].q, .int .i64 l[i].s, .int .i64 l[i].m], 1, false⟩) = H2 at st2 g2 ⊢
    have hc1 := carL_len (l := l) i
    by_cases hc : car l[i]
    · have hcl : carL l (i + 1) = carL l i ++ [(i : Int)] := by rw [carL, eg, if_pos hc]
      have hsl := srt_len (key := kyL (kk kind) l) (carL l i)
      obtain ⟨id, H3, ha, hid, hgr, st3⟩ := st2.add (i : Int) (by omega)
      rw [hsl] at ha st3
      have hidl : id < H3.next := get_lt hgr
      obtain ⟨a', hv⟩ := st2.ow.shape
      have hS : ∀ y ∈ srt (kyL (kk kind) l) (carL l i), inL l y ∧ y < i := fun y hy => by
        have := carL_lt i y ((srt_perm _).mem_iff.1 hy)
        exact ⟨⟨this.1, by omega⟩, this.2⟩
      have hin : inL l (i : Int) := ⟨by omega, hlt⟩
      have hnd : (carL l i ++ [(i : Int)]).Nodup := hcl ▸ rise_nd (carL_rise (l := l) (i + 1))
      have hsrt := srt_srt (key := kyL (kk kind) l) (List.nodup_append.1 hnd).1
      have n54 : ¬ (5 : Int) = 4 := by decide
      have out : ∀ (A B : List Int) (Y : AH), srt (kyL (kk kind) l) (carL l i) = A ++ B → (∀ y ∈ A, R (kyL (kk kind) l) y i) → (∀ y ∈ B, R (kyL (kk kind) l) i y) → UpS id H3 Y (A ++ (i : Int) :: B) → Rt H kind (.slice ad l.length cp) (.slice (some ⟨id, 0, none⟩) ((carL l i).length + 1) ((carL l i).length + 1)) (srt (kyL (kk kind) l) (carL l (i + 1))) Y := fun A B Y hAB hA hB hu => by
        have hs2 := srt_snoc hAB hnd hA hB
        rw [hcl, hs2]
        have hl2 : A.length + B.length = (carL l i).length := by rw [← hsl, hAB, List.length_append]
        exact st3.ups hid hu (by simp; omega) hidl (by simp; omega) (by omega)
      clear hcl
      have hv' : v = .slice a' (carL l i).length (carL l i).length := by rw [hv, hsl]
      subst hv'
      rcases hc with hc | hc
      all_goals
        simp only [k1, k3, k7, k8, k18, k19, k20, g2, hc, n54, ha, go_sem, Nat.reduceEqDiff, Nat.reduceAdd, Nat.reduceLeDiff, Int.reduceEq, Int.reduceLT, Int.reduceLE, Int.reduceAdd, Int.reduceSub, Int.reduceMul, Int.reduceNeg, Int.reduceToNat, Nat.reduceMul]
        refine rn_loop (fun m f'' Y => ∃ (A B : List Int) (z : Int), m = A.length ∧ srt (kyL (kk kind) l) (carL l i) = A ++ B ∧ f'' 1 = f 1 ∧ f'' 3 = .pointer (some ⟨H.next, 0, none⟩) ∧ f'' 7 = .slice (some ⟨id, 0, none⟩) ((carL l i).length + 1) ((carL l i).length + 1) ∧ f'' 8 = .func (.func 63) #[] #[.pointer (some ⟨H.next, 0, none⟩), .pointer (some ⟨H.next + 1, 0, none⟩)] ∧ f'' 9 = .int .i64 (i : Int) ∧ f'' 11 = .int .i64 (A.length : Int) ∧ f'' 18 = .slice ad l.length cp ∧ f'' 19 = .int .i64 l.length ∧ f'' 20 = .int .i64 i ∧ UpS id H3 Y (A ++ z :: B) ∧ ∀ y ∈ B, R (kyL (kk kind) l) i y) ?_ (n := (carL l i).length)
          ⟨srt (kyL (kk kind) l) (carL l i), [], (i : Int), hsl.symm, by simp, by simp only [k1, go_sem, Nat.reduceEqDiff, Nat.reduceAdd, Nat.reduceLeDiff, Int.reduceEq, Int.reduceLT, Int.reduceLE, Int.reduceAdd, Int.reduceSub, Int.reduceMul, Int.reduceNeg, Int.reduceToNat, Nat.reduceMul], by simp only [k3, go_sem, Nat.reduceEqDiff, Nat.reduceAdd, Nat.reduceLeDiff, Int.reduceEq, Int.reduceLT, Int.reduceLE, Int.reduceAdd, Int.reduceSub, Int.reduceMul, Int.reduceNeg, Int.reduceToNat, Nat.reduceMul], by simp only [go_sem, Nat.reduceEqDiff, Nat.reduceAdd, Nat.reduceLeDiff, Int.reduceEq, Int.reduceLT, Int.reduceLE, Int.reduceAdd, Int.reduceSub, Int.reduceMul, Int.reduceNeg, Int.reduceToNat, Nat.reduceMul], by simp only [k8, go_sem, Nat.reduceEqDiff, Nat.reduceAdd, Nat.reduceLeDiff, Int.reduceEq, Int.reduceLT, Int.reduceLE, Int.reduceAdd, Int.reduceSub, Int.reduceMul, Int.reduceNeg, Int.reduceToNat, Nat.reduceMul], by simp only [go_sem, Nat.reduceEqDiff, Nat.reduceAdd, Nat.reduceLeDiff, Int.reduceEq, Int.reduceLT, Int.reduceLE, Int.reduceAdd, Int.reduceSub, Int.reduceMul, Int.reduceNeg, Int.reduceToNat, Nat.reduceMul], by simp only [go_sem, Nat.reduceEqDiff, Nat.reduceAdd, Nat.reduceLeDiff, Int.reduceEq, Int.reduceLT, Int.reduceLE, Int.reduceAdd, Int.reduceSub, Int.reduceMul, Int.reduceNeg, Int.reduceToNat, Nat.reduceMul]; rw [hsl], by simp only [k18, go_sem, Nat.reduceEqDiff, Nat.reduceAdd, Nat.reduceLeDiff, Int.reduceEq, Int.reduceLT, Int.reduceLE, Int.reduceAdd, Int.reduceSub, Int.reduceMul, Int.reduceNeg, Int.reduceToNat, Nat.reduceMul], by simp only [k19, go_sem, Nat.reduceEqDiff, Nat.reduceAdd, Nat.reduceLeDiff, Int.reduceEq, Int.reduceLT, Int.reduceLE, Int.reduceAdd, Int.reduceSub, Int.reduceMul, Int.reduceNeg, Int.reduceToNat, Nat.reduceMul], by simp only [k20, go_sem, Nat.reduceEqDiff, Nat.reduceAdd, Nat.reduceLeDiff, Int.reduceEq, Int.reduceLT, Int.reduceLE, Int.reduceAdd, Int.reduceSub, Int.reduceMul, Int.reduceNeg, Int.reduceToNat, Nat.reduceMul], .inl ⟨rfl, hgr⟩, fun y hy => by simp at hy⟩
        clear k1 k3 k7 k8 k18 k19 k20
        rintro m f'' Y ⟨A, B, z, rfl, hAB, k1, k3, k7, k8, k9, k11, k18, k19, k20, hu, hB⟩
        have hl2 : A.length + B.length = (carL l i).length := by rw [← hsl, hAB, List.length_append]
        have hg := hu.get hidl
        have hYn : Y.next = H3.next := hu.next
        have hid2 : id < Y.next := by omega
        rcases List.eq_nil_or_concat A with rfl | ⟨A', y, hA1⟩
        · have k11 : f'' 11 = .int .i64 0 := k11
          have n0 : ¬ (0 : Int) < 0 := by omega
          have i0 : (0 : Int) ≤ 0 := by omega
          have i1 : (0 : Int) < (((carL l i).length + 1 : Nat) : Int) := by omega
          simp only [List.nil_append] at hg
          have hDl : (z :: B).length = (carL l i).length + 1 := by simp at hl2 ⊢; omega
          simp only [k1, k3, k7, k8, k9, k11, k18, k19, k20, n0, i0, i1, hg, hDl, hid2, idxSP_slc, rwI_len, rwI_ro, rwI_es, Int.toNat_zero, Nat.zero_mul, addA, stc_eq, stB_some, splice_one, rwI_set, wi, go_sem, Nat.reduceEqDiff, Nat.reduceAdd, Nat.reduceLeDiff, Int.reduceEq, Int.reduceLT, Int.reduceLE, Int.reduceAdd, Int.reduceSub, Int.reduceMul, Int.reduceNeg, Int.reduceToNat, Nat.reduceMul]
          exact ⟨l.length - (i + 1), by omega, i + 1, .slice (some ⟨id, 0, none⟩) ((carL l i).length + 1) ((carL l i).length + 1), by omega, rfl, by simp only [k1, go_sem, Nat.reduceEqDiff, Nat.reduceAdd, Nat.reduceLeDiff, Int.reduceEq, Int.reduceLT, Int.reduceLE, Int.reduceAdd, Int.reduceSub, Int.reduceMul, Int.reduceNeg, Int.reduceToNat, Nat.reduceMul], by simp only [k3, go_sem, Nat.reduceEqDiff, Nat.reduceAdd, Nat.reduceLeDiff, Int.reduceEq, Int.reduceLT, Int.reduceLE, Int.reduceAdd, Int.reduceSub, Int.reduceMul, Int.reduceNeg, Int.reduceToNat, Nat.reduceMul], by simp only [k7, go_sem, Nat.reduceEqDiff, Nat.reduceAdd, Nat.reduceLeDiff, Int.reduceEq, Int.reduceLT, Int.reduceLE, Int.reduceAdd, Int.reduceSub, Int.reduceMul, Int.reduceNeg, Int.reduceToNat, Nat.reduceMul], by simp only [k8, go_sem, Nat.reduceEqDiff, Nat.reduceAdd, Nat.reduceLeDiff, Int.reduceEq, Int.reduceLT, Int.reduceLE, Int.reduceAdd, Int.reduceSub, Int.reduceMul, Int.reduceNeg, Int.reduceToNat, Nat.reduceMul], by simp only [k18, go_sem, Nat.reduceEqDiff, Nat.reduceAdd, Nat.reduceLeDiff, Int.reduceEq, Int.reduceLT, Int.reduceLE, Int.reduceAdd, Int.reduceSub, Int.reduceMul, Int.reduceNeg, Int.reduceToNat, Nat.reduceMul], by simp only [k19, go_sem, Nat.reduceEqDiff, Nat.reduceAdd, Nat.reduceLeDiff, Int.reduceEq, Int.reduceLT, Int.reduceLE, Int.reduceAdd, Int.reduceSub, Int.reduceMul, Int.reduceNeg, Int.reduceToNat, Nat.reduceMul], by simp only [go_sem, Nat.reduceEqDiff, Nat.reduceAdd, Nat.reduceLeDiff, Int.reduceEq, Int.reduceLT, Int.reduceLE, Int.reduceAdd, Int.reduceSub, Int.reduceMul, Int.reduceNeg, Int.reduceToNat, Nat.reduceMul] <;> rfl, out [] B _ hAB (fun y hy => by simp at hy) hB (hu.set _)⟩
        · rw [List.concat_eq_append] at hA1
          subst hA1
          have hl1 : (A' ++ [y]).length = A'.length + 1 := by rw [List.length_append]; rfl
          rw [hl1] at k11 hl2
          have hyS := hS y (by rw [hAB]; simp)
          have hj : (0 : Int) < ((A'.length + 1 : Nat) : Int) := by omega
          have eD : (A' ++ [y]) ++ z :: B = A' ++ y :: ([] ++ z :: B) := by simp
          rw [eD] at hg
          have hDl : (A' ++ y :: ([] ++ z :: B)).length = (carL l i).length + 1 := by simp only [List.length_append, List.length_cons, List.length_nil]; omega
          have e1 : ((A'.length + 1 : Nat) : Int) - 1 = (A'.length : Int) := by omega
          have w2 := w64 (x := (A'.length : Int)) (by omega) (by omega)
          have j0 : (0 : Int) ≤ ((A'.length + 1 : Nat) : Int) := by omega
          have j1 : ((A'.length + 1 : Nat) : Int) < (((carL l i).length + 1 : Nat) : Int) := by omega
          have j2 : A'.length + 1 + 1 ≤ (carL l i).length + 1 := by omega
          have i0 : (0 : Int) ≤ (A'.length : Int) := by omega
          have i1 : (A'.length : Int) < (((carL l i).length + 1 : Nat) : Int) := by omega
          have i2 : A'.length + 1 ≤ (carL l i).length + 1 := by omega
          have hat1 := rwI_at (D := A' ++ y :: ([] ++ z :: B)) (i := A'.length) (by omega)
          rw [ga_mid rfl] at hat1
          have hset : ∀ u : Int, (A' ++ y :: ([] ++ z :: B)).set (A'.length + 1) u = A' ++ [y] ++ u :: B := fun u => by
            rw [← eD]; exact set_mid (by rw [hl1])
          generalize hD : A' ++ y :: ([] ++ z :: B) = D at hg hat1 hset hDl
          have gk' : Y.get H.next = some ⟨[.int .i64 kind], 1, false⟩ := by
            rcases hu with ⟨rfl, _⟩ | rfl
            · exact st3.gk
            · rw [AH.get_set_ne _ _ (by omega)]; exact st3.gk
          have gl' : Y.get (H.next + 1) = some ⟨[.slice ad l.length cp], 1, false⟩ := by
            rcases hu with ⟨rfl, _⟩ | rfl
            · exact st3.gl
            · rw [AH.get_set_ne _ _ (by omega)]; exact st3.gl
          have hsY : Sl Y 5 (.slice ad l.length cp) l.length (sL l) := hs.keep fun q hq => by
            rcases hu with ⟨rfl, _⟩ | rfl
            · exact st3.j.old q hq
            · rw [AH.get_set_ne _ _ (by omega)]; exact st3.j.old q hq
          have hv := v63 h63 hsY gk' gl' (i : Int) y hin hyS.1 hk
          by_cases hlt3 : kyL (kk kind) l i < kyL (kk kind) l y
          · rw [decide_eq_true hlt3] at hv
            simp only [k1, k3, k7, k8, k9, k11, k18, k19, k20, hj, j0, j1, j2, i0, i1, i2, e1, w2, hg, hat1, hDl, hid2, idxSP_slc, Int.toNat_natCast, rwI_len, rwI_ro, rwI_es, addA, Nat.zero_add, Nat.mul_one, ↓hv.run, stc_eq, stB_some, splice_one, rwI_set, hset, go_sem, Nat.reduceEqDiff, Nat.reduceAdd, Nat.reduceLeDiff, Int.reduceEq, Int.reduceLT, Int.reduceLE, Int.reduceAdd, Int.reduceSub, Int.reduceMul, Int.reduceNeg, Int.reduceToNat, Nat.reduceMul]
            refine ⟨A'.length, by omega, A', y :: B, y, rfl, by rw [hAB]; simp, by simp only [k1, go_sem, Nat.reduceEqDiff, Nat.reduceAdd, Nat.reduceLeDiff, Int.reduceEq, Int.reduceLT, Int.reduceLE, Int.reduceAdd, Int.reduceSub, Int.reduceMul, Int.reduceNeg, Int.reduceToNat, Nat.reduceMul], by simp only [k3, go_sem, Nat.reduceEqDiff, Nat.reduceAdd, Nat.reduceLeDiff, Int.reduceEq, Int.reduceLT, Int.reduceLE, Int.reduceAdd, Int.reduceSub, Int.reduceMul, Int.reduceNeg, Int.reduceToNat, Nat.reduceMul], by simp only [k7, go_sem, Nat.reduceEqDiff, Nat.reduceAdd, Nat.reduceLeDiff, Int.reduceEq, Int.reduceLT, Int.reduceLE, Int.reduceAdd, Int.reduceSub, Int.reduceMul, Int.reduceNeg, Int.reduceToNat, Nat.reduceMul], by simp only [k8, go_sem, Nat.reduceEqDiff, Nat.reduceAdd, Nat.reduceLeDiff, Int.reduceEq, Int.reduceLT, Int.reduceLE, Int.reduceAdd, Int.reduceSub, Int.reduceMul, Int.reduceNeg, Int.reduceToNat, Nat.reduceMul], by simp only [k9, go_sem, Nat.reduceEqDiff, Nat.reduceAdd, Nat.reduceLeDiff, Int.reduceEq, Int.reduceLT, Int.reduceLE, Int.reduceAdd, Int.reduceSub, Int.reduceMul, Int.reduceNeg, Int.reduceToNat, Nat.reduceMul], by simp only [go_sem, Nat.reduceEqDiff, Nat.reduceAdd, Nat.reduceLeDiff, Int.reduceEq, Int.reduceLT, Int.reduceLE, Int.reduceAdd, Int.reduceSub, Int.reduceMul, Int.reduceNeg, Int.reduceToNat, Nat.reduceMul], by simp only [k18, go_sem, Nat.reduceEqDiff, Nat.reduceAdd, Nat.reduceLeDiff, Int.reduceEq, Int.reduceLT, Int.reduceLE, Int.reduceAdd, Int.reduceSub, Int.reduceMul, Int.reduceNeg, Int.reduceToNat, Nat.reduceMul], by simp only [k19, go_sem, Nat.reduceEqDiff, Nat.reduceAdd, Nat.reduceLeDiff, Int.reduceEq, Int.reduceLT, Int.reduceLE, Int.reduceAdd, Int.reduceSub, Int.reduceMul, Int.reduceNeg, Int.reduceToNat, Nat.reduceMul], by simp only [k20, go_sem, Nat.reduceEqDiff, Nat.reduceAdd, Nat.reduceLeDiff, Int.reduceEq, Int.reduceLT, Int.reduceLE, Int.reduceAdd, Int.reduceSub, Int.reduceMul, Int.reduceNeg, Int.reduceToNat, Nat.reduceMul], ?_, fun q hq => ?_⟩
            · have e : A' ++ [y] ++ y :: B = A' ++ y :: y :: B := by simp
              rw [e]; exact hu.set _
            · rcases List.mem_cons.1 hq with e | e
              · subst e; exact .inl hlt3
              · exact hB q e
          · rw [decide_eq_false hlt3] at hv
            have hne : y ≠ (i : Int) := by omega
            have hRy : R (kyL (kk kind) l) y i := (R_tot hne).resolve_right fun h => by
              rcases h with h | ⟨_, h⟩
              · exact hlt3 h
              · omega
            rw [hAB, List.pairwise_append, List.pairwise_append] at hsrt
            simp only [k1, k3, k7, k8, k9, k11, k18, k19, k20, hj, j0, j1, j2, i0, i1, i2, e1, w2, hg, hat1, hDl, hid2, idxSP_slc, Int.toNat_natCast, rwI_len, rwI_ro, rwI_es, addA, Nat.zero_add, Nat.mul_one, ↓hv.run, stc_eq, stB_some, splice_one, rwI_set, hset, wi, go_sem, Nat.reduceEqDiff, Nat.reduceAdd, Nat.reduceLeDiff, Int.reduceEq, Int.reduceLT, Int.reduceLE, Int.reduceAdd, Int.reduceSub, Int.reduceMul, Int.reduceNeg, Int.reduceToNat, Nat.reduceMul]
            exact ⟨l.length - (i + 1), by omega, i + 1, .slice (some ⟨id, 0, none⟩) ((carL l i).length + 1) ((carL l i).length + 1), by omega, rfl, by simp only [k1, go_sem, Nat.reduceEqDiff, Nat.reduceAdd, Nat.reduceLeDiff, Int.reduceEq, Int.reduceLT, Int.reduceLE, Int.reduceAdd, Int.reduceSub, Int.reduceMul, Int.reduceNeg, Int.reduceToNat, Nat.reduceMul], by simp only [k3, go_sem, Nat.reduceEqDiff, Nat.reduceAdd, Nat.reduceLeDiff, Int.reduceEq, Int.reduceLT, Int.reduceLE, Int.reduceAdd, Int.reduceSub, Int.reduceMul, Int.reduceNeg, Int.reduceToNat, Nat.reduceMul], by simp only [k7, go_sem, Nat.reduceEqDiff, Nat.reduceAdd, Nat.reduceLeDiff, Int.reduceEq, Int.reduceLT, Int.reduceLE, Int.reduceAdd, Int.reduceSub, Int.reduceMul, Int.reduceNeg, Int.reduceToNat, Nat.reduceMul], by simp only [k8, go_sem, Nat.reduceEqDiff, Nat.reduceAdd, Nat.reduceLeDiff, Int.reduceEq, Int.reduceLT, Int.reduceLE, Int.reduceAdd, Int.reduceSub, Int.reduceMul, Int.reduceNeg, Int.reduceToNat, Nat.reduceMul], by simp only [k18, go_sem, Nat.reduceEqDiff, Nat.reduceAdd, Nat.reduceLeDiff, Int.reduceEq, Int.reduceLT, Int.reduceLE, Int.reduceAdd, Int.reduceSub, Int.reduceMul, Int.reduceNeg, Int.reduceToNat, Nat.reduceMul], by simp only [k19, go_sem, Nat.reduceEqDiff, Nat.reduceAdd, Nat.reduceLeDiff, Int.reduceEq, Int.reduceLT, Int.reduceLE, Int.reduceAdd, Int.reduceSub, Int.reduceMul, Int.reduceNeg, Int.reduceToNat, Nat.reduceMul], by simp only [go_sem, Nat.reduceEqDiff, Nat.reduceAdd, Nat.reduceLeDiff, Int.reduceEq, Int.reduceLT, Int.reduceLE, Int.reduceAdd, Int.reduceSub, Int.reduceMul, Int.reduceNeg, Int.reduceToNat, Nat.reduceMul] <;> rfl, out (A' ++ [y]) B _ hAB (fun q hq => by
              rcases List.mem_append.1 hq with e | e
              · exact R_tr (hsrt.1.2.2 q e y (by simp)) hRy
              · rw [List.mem_singleton] at e; subst e; exact hRy) hB (hu.set _)⟩
    · have hcl : carL l (i + 1) = carL l i := by rw [carL, eg, if_neg hc]
      have c1 : ¬ l[i].k = 4 := fun h => hc (.inl h)
      have c2 : ¬ l[i].k = 5 := fun h => hc (.inr h)
      simp only [k1, k3, k7, k8, k18, k19, k20, g2, c1, c2, wi, go_sem, Nat.reduceEqDiff, Nat.reduceAdd, Nat.reduceLeDiff, Int.reduceEq, Int.reduceLT, Int.reduceLE, Int.reduceAdd, Int.reduceSub, Int.reduceMul, Int.reduceNeg, Int.reduceToNat, Nat.reduceMul]
      refine ⟨l.length - (i + 1), by omega, i + 1, v, by omega, rfl, by simp only [k1, go_sem, Nat.reduceEqDiff, Nat.reduceAdd, Nat.reduceLeDiff, Int.reduceEq, Int.reduceLT, Int.reduceLE, Int.reduceAdd, Int.reduceSub, Int.reduceMul, Int.reduceNeg, Int.reduceToNat, Nat.reduceMul], by simp only [k3, go_sem, Nat.reduceEqDiff, Nat.reduceAdd, Nat.reduceLeDiff, Int.reduceEq, Int.reduceLT, Int.reduceLE, Int.reduceAdd, Int.reduceSub, Int.reduceMul, Int.reduceNeg, Int.reduceToNat, Nat.reduceMul], by simp only [k7, go_sem, Nat.reduceEqDiff, Nat.reduceAdd, Nat.reduceLeDiff, Int.reduceEq, Int.reduceLT, Int.reduceLE, Int.reduceAdd, Int.reduceSub, Int.reduceMul, Int.reduceNeg, Int.reduceToNat, Nat.reduceMul], by simp only [k8, go_sem, Nat.reduceEqDiff, Nat.reduceAdd, Nat.reduceLeDiff, Int.reduceEq, Int.reduceLT, Int.reduceLE, Int.reduceAdd, Int.reduceSub, Int.reduceMul, Int.reduceNeg, Int.reduceToNat, Nat.reduceMul], by simp only [k18, go_sem, Nat.reduceEqDiff, Nat.reduceAdd, Nat.reduceLeDiff, Int.reduceEq, Int.reduceLT, Int.reduceLE, Int.reduceAdd, Int.reduceSub, Int.reduceMul, Int.reduceNeg, Int.reduceToNat, Nat.reduceMul], by simp only [k19, go_sem, Nat.reduceEqDiff, Nat.reduceAdd, Nat.reduceLeDiff, Int.reduceEq, Int.reduceLT, Int.reduceLE, Int.reduceAdd, Int.reduceSub, Int.reduceMul, Int.reduceNeg, Int.reduceToNat, Nat.reduceMul], by simp only [go_sem, Nat.reduceEqDiff, Nat.reduceAdd, Nat.reduceLeDiff, Int.reduceEq, Int.reduceLT, Int.reduceLE, Int.reduceAdd, Int.reduceSub, Int.reduceMul, Int.reduceNeg, Int.reduceToNat, Nat.reduceMul] <;> rfl, ?_⟩
      rw [hcl]
      exact st2
  · have hie : i = l.length := by omega
    subst hie
    simp only [k1, k3, k7, k8, k18, k19, k20, hlt, go_sem, Nat.reduceEqDiff, Nat.reduceAdd, Nat.reduceLeDiff, Int.reduceEq, Int.reduceLT, Int.reduceLE, Int.reduceAdd, Int.reduceSub, Int.reduceMul, Int.reduceNeg, Int.reduceToNat, Nat.reduceMul]
    exact ⟨f3.symm, v, rfl, st⟩
end Go.Proofs.Ytidpkoaomfbljaa.AM
namespace Go.Proofs.Ytidpkoaomfbljaa.AM
open Go
set_option linter.all false
set_option maxRecDepth 10000
variable {tbl : Tbl} [hT : TMono tbl]

/-- The state of the reference's mixing: what was there, and a slice of one's own. -/
structure Mz (H Y : AH) (u : Value) (M : List Int) (X : AH) : Prop where
  old : ∀ j, j < Y.next → X.get j = Y.get j
  nx : Y.next ≤ X.next
  low : H.next ≤ X.low
  ow : Own Y.next X 1 u M.length (M.map I64)
theorem Mz.add {H Y X : AH} {v : Value} {M : List Int} (h : Mz H Y v M X) (hY : H.next ≤ Y.next) (hs : M.length ≤ 1000000) (x : Int) :
    ∃ p H', appended (X.push ⟨[.int .i64 x], 1, false⟩) 1 8 v 1 [.int .i64 x] = some (.slice (some p) (M.length + 1) (M.length + 1), H') ∧ Mz H Y (.slice (some p) (M.length + 1) (M.length + 1)) (M ++ [x]) H' := by
  have hnx := h.nx
  have hn : (X.push ⟨[.int .i64 x], 1, false⟩).next = X.next + 1 := AH.next_push _ _
  have ho : Own Y.next (X.push ⟨[.int .i64 x], 1, false⟩) 1 v M.length (M.map I64) := h.ow.keep fun j hj => AH.get_push_lt _ _ hj
  obtain ⟨p, H', h1, h2, h3, h4, h5⟩ := ho.add1 (by omega) hs x
  refine ⟨p, H', h1, fun j hj => ?_, by omega, h5 H.next (by omega) h.low, h2⟩
  rw [h3 j hj, AH.get_push_lt _ _ (by omega)]; exact h.old j hj
/-- The mixed order. -/
theorem x4_mix {H Y : AH} {kind : Int} {lv v : Value} {D : List Int} (st : Rt H kind lv v D Y) (h5 : kind = 5) (hl : D.length ≤ 20000) {f : Fr} (f3 : f 3 = .pointer (some ⟨H.next, 0, none⟩)) (f7 : f 7 = v) :
    (@RunC tbl x4 f Y ⟨fun e f' H' => e = .ret ∧ ∃ u, f' 6 = u ∧ Own Y.next H' 1 u (mixL D 0 D.length).length ((mixL D 0 D.length).map I64) ∧ H.next ≤ H'.low⟩) := by
  rw [x4]
  have hnx := st.nx
  have gk := st.gk
  obtain ⟨a', hv⟩ := st.ow.shape
  subst hv
  have wl := w64 (x := (D.length : Int) - 1) (by omega) (by omega)
  simp only [f3, f7, gk, h5, wl, go_sem, Nat.reduceEqDiff, Nat.reduceAdd, Nat.reduceLeDiff, Int.reduceEq, Int.reduceLT, Int.reduceLE, Int.reduceAdd, Int.reduceSub, Int.reduceMul, Int.reduceNeg, Int.reduceToNat, Nat.reduceMul]
  refine rn_loop (fun m f' X => ∃ (a k : Nat) (M : List Int) (u : Value), k = m ∧ a + k ≤ D.length ∧ M.length + k ≤ 20000 ∧ f' 7 = .slice a' D.length D.length ∧ f' 12 = u ∧ f' 13 = .int .i64 (a : Int) ∧ f' 14 = .int .i64 (((a + k : Nat) : Int) - 1) ∧ Mz H Y u M X ∧ M ++ mixL D a k = mixL D 0 D.length) ?_ (n := D.length)
    ⟨0, D.length, [], .slice none 0 0, rfl, by omega, by simpa using hl, by simp only [f7, go_sem, Nat.reduceEqDiff, Nat.reduceAdd, Nat.reduceLeDiff, Int.reduceEq, Int.reduceLT, Int.reduceLE, Int.reduceAdd, Int.reduceSub, Int.reduceMul, Int.reduceNeg, Int.reduceToNat, Nat.reduceMul], by simp only [go_sem, Nat.reduceEqDiff, Nat.reduceAdd, Nat.reduceLeDiff, Int.reduceEq, Int.reduceLT, Int.reduceLE, Int.reduceAdd, Int.reduceSub, Int.reduceMul, Int.reduceNeg, Int.reduceToNat, Nat.reduceMul], by simp only [go_sem, Nat.reduceEqDiff, Nat.reduceAdd, Nat.reduceLeDiff, Int.reduceEq, Int.reduceLT, Int.reduceLE, Int.reduceAdd, Int.reduceSub, Int.reduceMul, Int.reduceNeg, Int.reduceToNat, Nat.reduceMul] <;> rfl, by simp only [Nat.zero_add, go_sem, Nat.reduceEqDiff, Nat.reduceAdd, Nat.reduceLeDiff, Int.reduceEq, Int.reduceLT, Int.reduceLE, Int.reduceAdd, Int.reduceSub, Int.reduceMul, Int.reduceNeg, Int.reduceToNat, Nat.reduceMul], ⟨fun _ _ => rfl, Nat.le_refl _, st.j.low, .inl ⟨rfl, rfl, rfl⟩⟩, rfl⟩
  rintro m f' X ⟨a, k, M, u, rfl, hak, hMk, k7, k12, k13, k14, mx, hM⟩
  by_cases hk0 : k = 0
  · subst hk0
    have n0 : ¬ (a : Int) ≤ ((a + 0 : Nat) : Int) - 1 := by omega
    rw [mixL_zero, List.append_nil] at hM
    subst hM
    simp only [k7, k12, k13, k14, n0, go_sem, Nat.reduceEqDiff, Nat.reduceAdd, Nat.reduceLeDiff, Int.reduceEq, Int.reduceLT, Int.reduceLE, Int.reduceAdd, Int.reduceSub, Int.reduceMul, Int.reduceNeg, Int.reduceToNat, Nat.reduceMul]
    exact ⟨_, rfl, mx.ow, mx.low⟩
  · have n0 : (a : Int) ≤ ((a + k : Nat) : Int) - 1 := by omega
    obtain ⟨id, rfl, hrw⟩ : ∃ id, a' = some ⟨id, 0, none⟩ ∧ Y.get id = some (rwI D) := by
      rcases st.ow with ⟨_, h2, _⟩ | ⟨id, h1, h2, _⟩
      · omega
      · simp only [Value.slice.injEq] at h1
        exact ⟨id, h1.1, h2⟩
    have hidl : id < Y.next := get_lt hrw
    have hgr : X.get id = some (rwI D) := by rw [mx.old id hidl]; exact hrw
    have hat0 := rwI_at (D := D) (i := a) (by omega)
    have i0 : (0 : Int) ≤ (a : Int) := by omega
    have i1 : (a : Int) < (D.length : Int) := by omega
    have i2 : a + 1 ≤ D.length := by omega
    have wa := w64 (x := (a : Int) + 1) (by omega) (by omega)
    obtain ⟨p1, H1, ap1, mx1⟩ := mx.add (by omega) (by omega) (ga D a)
    have gr1 : H1.get id = some (rwI D) := by rw [mx1.old id hidl]; exact hrw
    by_cases hk2 : k = 1
    · have n1 : ¬ (a : Int) + 1 ≤ ((a + k : Nat) : Int) - 1 := by omega
      rw [hk2, mixL_one] at hM
      simp only [k7, k12, k13, k14, n0, n1, hgr, hat0, i0, i1, i2, wa, idxSP_slc, rwI_len, Int.toNat_natCast, addA, ap1, go_sem, Nat.reduceEqDiff, Nat.reduceAdd, Nat.reduceLeDiff, Int.reduceEq, Int.reduceLT, Int.reduceLE, Int.reduceAdd, Int.reduceSub, Int.reduceMul, Int.reduceNeg, Int.reduceToNat, Nat.reduceMul]
      exact ⟨0, by omega, a + 1, 0, M ++ [ga D a], .slice (some p1) (M.length + 1) (M.length + 1), rfl, by omega, by simp; omega, by simp only [k7, go_sem, Nat.reduceEqDiff, Nat.reduceAdd, Nat.reduceLeDiff, Int.reduceEq, Int.reduceLT, Int.reduceLE, Int.reduceAdd, Int.reduceSub, Int.reduceMul, Int.reduceNeg, Int.reduceToNat, Nat.reduceMul], by simp only [go_sem, Nat.reduceEqDiff, Nat.reduceAdd, Nat.reduceLeDiff, Int.reduceEq, Int.reduceLT, Int.reduceLE, Int.reduceAdd, Int.reduceSub, Int.reduceMul, Int.reduceNeg, Int.reduceToNat, Nat.reduceMul], by simp only [go_sem, Nat.reduceEqDiff, Nat.reduceAdd, Nat.reduceLeDiff, Int.reduceEq, Int.reduceLT, Int.reduceLE, Int.reduceAdd, Int.reduceSub, Int.reduceMul, Int.reduceNeg, Int.reduceToNat, Nat.reduceMul] <;> rfl, by simp only [k14, go_sem, Nat.reduceEqDiff, Nat.reduceAdd, Nat.reduceLeDiff, Int.reduceEq, Int.reduceLT, Int.reduceLE, Int.reduceAdd, Int.reduceSub, Int.reduceMul, Int.reduceNeg, Int.reduceToNat, Nat.reduceMul]; congr 1; omega, mx1, by rw [mixL_zero, List.append_nil]; exact hM⟩
    · have n1 : (a : Int) + 1 ≤ ((a + k : Nat) : Int) - 1 := by omega
      obtain ⟨p2, H2, ap2, mx2⟩ := mx1.add (by omega) (by simp; omega) (ga D (a + (k - 1)))
      have hl1 : (M ++ [ga D a]).length = M.length + 1 := by simp
      have hl2 : (M ++ [ga D a] ++ [ga D (a + (k - 1))]).length = M.length + 2 := by simp
      rw [hl1] at ap2 mx2
      have hat1 := rwI_at (D := D) (i := a + (k - 1)) (by omega)
      have eb : ((a + k : Nat) : Int) - 1 = ((a + (k - 1) : Nat) : Int) := by omega
      have q0 : (0 : Int) ≤ ((a + (k - 1) : Nat) : Int) := by omega
      have q1 : ((a + (k - 1) : Nat) : Int) < (D.length : Int) := by omega
      have q2 : a + (k - 1) + 1 ≤ D.length := by omega
      have wb := w64 (x := ((a + (k - 1) : Nat) : Int) - 1) (by omega) (by omega)
      have ek : k = (k - 2) + 2 := by omega
      rw [ek, mixL_two, show a + (k - 2) + 1 = a + (k - 1) by omega] at hM
      rw [eb] at k14 n0 n1
      simp only [k7, k12, k13, k14, n0, n1, hgr, gr1, hat0, hat1, i0, i1, i2, q0, q1, q2, wa, wb, idxSP_slc, rwI_len, Int.toNat_natCast, addA, ap1, ap2, go_sem, Nat.reduceEqDiff, Nat.reduceAdd, Nat.reduceLeDiff, Int.reduceEq, Int.reduceLT, Int.reduceLE, Int.reduceAdd, Int.reduceSub, Int.reduceMul, Int.reduceNeg, Int.reduceToNat, Nat.reduceMul]
      exact ⟨k - 2, by omega, a + 1, k - 2, M ++ [ga D a] ++ [ga D (a + (k - 1))], .slice (some p2) (M.length + 1 + 1) (M.length + 1 + 1), rfl, by omega, by omega, by simp only [k7, go_sem, Nat.reduceEqDiff, Nat.reduceAdd, Nat.reduceLeDiff, Int.reduceEq, Int.reduceLT, Int.reduceLE, Int.reduceAdd, Int.reduceSub, Int.reduceMul, Int.reduceNeg, Int.reduceToNat, Nat.reduceMul], by simp only [go_sem, Nat.reduceEqDiff, Nat.reduceAdd, Nat.reduceLeDiff, Int.reduceEq, Int.reduceLT, Int.reduceLE, Int.reduceAdd, Int.reduceSub, Int.reduceMul, Int.reduceNeg, Int.reduceToNat, Nat.reduceMul], by simp only [go_sem, Nat.reduceEqDiff, Nat.reduceAdd, Nat.reduceLeDiff, Int.reduceEq, Int.reduceLT, Int.reduceLE, Int.reduceAdd, Int.reduceSub, Int.reduceMul, Int.reduceNeg, Int.reduceToNat, Nat.reduceMul] <;> rfl, by simp only [go_sem, Nat.reduceEqDiff, Nat.reduceAdd, Nat.reduceLeDiff, Int.reduceEq, Int.reduceLT, Int.reduceLE, Int.reduceAdd, Int.reduceSub, Int.reduceMul, Int.reduceNeg, Int.reduceToNat, Nat.reduceMul]; congr 1; omega, mx2, by simpa using hM⟩
/-- The order by chance. -/
theorem x5_chance (h50 : tbl 50 = some (.code m50)) {H Y : AH} {kind seed : Int} {lv v : Value} {L : List Int} (st : Rt H kind lv v L Y) (h6 : kind = 6) (hl : L.length ≤ 20000) (hsd : 0 ≤ seed ∧ seed ≤ 2147483647) {f : Fr} (f1 : f 1 = .int .i64 seed) (f3 : f 3 = .pointer (some ⟨H.next, 0, none⟩)) (f7 : f 7 = v) :
    (@RunC tbl x5 f Y ⟨fun e f' H' => e = .normal ∧ ∃ u, f' 7 = u ∧ Rt H kind lv u (shuf (L.length - 1) seed L) H'⟩) := by
  rw [x5]
  have hnx := st.nx
  have gk := st.gk
  rcases st.ow with ⟨rfl, hn, _⟩ | ⟨id, rfl, i1, i2, i3, i4⟩
  · have hL : L = [] := List.eq_nil_of_length_eq_zero hn
    subst hL
    have w1 : IntKind.wrap .i64 (-1) = -1 := w64 (by omega) (by omega)
    have n5 : ¬ (0 : Int) < -1 := by decide
    simp only [f1, f3, f7, gk, h6, go_sem, Nat.reduceEqDiff, Nat.reduceAdd, Nat.reduceLeDiff, Int.reduceEq, Int.reduceLT, Int.reduceLE, Int.reduceAdd, Int.reduceSub, Int.reduceMul, Int.reduceNeg, Int.reduceToNat, Nat.reduceMul]
    rw [rn_round]
    simp only [f1, f3, f7, n5, w1, go_sem, Nat.reduceEqDiff, Nat.reduceAdd, Nat.reduceLeDiff, Int.reduceEq, Int.reduceLT, Int.reduceLE, Int.reduceAdd, Int.reduceSub, Int.reduceMul, Int.reduceNeg, Int.reduceToNat, Nat.reduceMul]
    exact ⟨_, rfl, h6 ▸ st⟩
  · have w1 := w64 (x := (L.length : Int) - 1) (by omega) (by omega)
    have hidl : id < Y.next := get_lt i1
    simp only [f1, f3, f7, gk, h6, w1, go_sem, Nat.reduceEqDiff, Nat.reduceAdd, Nat.reduceLeDiff, Int.reduceEq, Int.reduceLT, Int.reduceLE, Int.reduceAdd, Int.reduceSub, Int.reduceMul, Int.reduceNeg, Int.reduceToNat, Nat.reduceMul]
    refine rn_loop (fun m f' H' => ∃ (j s : Int) (D : List Int), -1 ≤ j ∧ j < L.length ∧ m = j.toNat ∧ D.length = L.length ∧ (0 ≤ s ∧ s ≤ 2147483647) ∧ f' 1 = .int .i64 s ∧ f' 7 = .slice (some ⟨id, 0, none⟩) L.length L.length ∧ f' 15 = .int .i64 j ∧ UpS id Y H' D ∧ shuf j.toNat s D = shuf (L.length - 1) seed L) ?_ (n := L.length - 1)
      ⟨(L.length : Int) - 1, seed, L, by omega, by omega, by omega, rfl, hsd, by simp only [f1, go_sem, Nat.reduceEqDiff, Nat.reduceAdd, Nat.reduceLeDiff, Int.reduceEq, Int.reduceLT, Int.reduceLE, Int.reduceAdd, Int.reduceSub, Int.reduceMul, Int.reduceNeg, Int.reduceToNat, Nat.reduceMul], by simp only [f7, go_sem, Nat.reduceEqDiff, Nat.reduceAdd, Nat.reduceLeDiff, Int.reduceEq, Int.reduceLT, Int.reduceLE, Int.reduceAdd, Int.reduceSub, Int.reduceMul, Int.reduceNeg, Int.reduceToNat, Nat.reduceMul], by simp only [go_sem, Nat.reduceEqDiff, Nat.reduceAdd, Nat.reduceLeDiff, Int.reduceEq, Int.reduceLT, Int.reduceLE, Int.reduceAdd, Int.reduceSub, Int.reduceMul, Int.reduceNeg, Int.reduceToNat, Nat.reduceMul], .inl ⟨rfl, i1⟩, by congr 1; omega⟩
    rintro m f' H' ⟨j, s, D, hj0, hj, rfl, hDl, hs2, k1, k7, k15, hu, hsh⟩
    by_cases hlt : 0 < j
    · have hg := hu.get hidl
      have hnx : H'.next = Y.next := hu.next
      have hv := v50 h50 s hs2 H'
      have wj := w64 (x := j + 1) (by omega) (by omega)
      simp only [k1, k7, k15, hlt, ↓hv.run, wj, go_sem, Nat.reduceEqDiff, Nat.reduceAdd, Nat.reduceLeDiff, Int.reduceEq, Int.reduceLT, Int.reduceLE, Int.reduceAdd, Int.reduceSub, Int.reduceMul, Int.reduceNeg, Int.reduceToNat, Nat.reduceMul]
      obtain ⟨i, hi⟩ : ∃ i : Nat, j = (i : Int) + 1 := ⟨(j - 1).toNat, by omega⟩
      subst hi
      have hz : ¬ (i : Int) + 1 + 1 = 0 := by omega
      have hch := chance_range s
      have hsh' : shuf i (chanceI s) ((D.set (i + 1) (ga D (Int.tmod (chanceI s) ((i : Int) + 1 + 1)).toNat)).set (Int.tmod (chanceI s) ((i : Int) + 1 + 1)).toNat (ga D (i + 1))) = shuf (L.length - 1) seed L := by
        rw [← hsh, show ((i : Int) + 1).toNat = i + 1 by omega]
        rfl
      obtain ⟨k, hk1, hk2⟩ : ∃ k : Nat, Int.tmod (chanceI s) ((i : Int) + 1 + 1) = (k : Int) ∧ k < i + 2 := by
        have h1 := Int.tmod_nonneg ((i : Int) + 1 + 1) hch.1
        have h2 := Int.tmod_lt_of_pos (chanceI s) (show (0 : Int) < (i : Int) + 1 + 1 by omega)
        exact ⟨(Int.tmod (chanceI s) ((i : Int) + 1 + 1)).toNat, by omega, by omega⟩
      rw [hk1] at hsh' ⊢
      have ei : (i : Int) + 1 = ((i + 1 : Nat) : Int) := by omega
      have a0 : (0 : Int) ≤ (k : Int) := by omega
      have a1 : (k : Int) < (L.length : Int) := by omega
      have a2 : k + 1 ≤ L.length := by omega
      have b0 : (0 : Int) ≤ ((i + 1 : Nat) : Int) := by omega
      have b1 : ((i + 1 : Nat) : Int) < (L.length : Int) := by omega
      have b2 : i + 1 + 1 ≤ L.length := by omega
      have hat1 := rwI_at (D := D) (i := k) (by omega)
      have hat2 := rwI_at (D := D) (i := i + 1) (by omega)
      have hid2 : id < H'.next := by omega
      have wi : IntKind.wrap .i64 (((i + 1 : Nat) : Int) - 1) = (i : Int) := by rw [w64 (by omega) (by omega)]; omega
      rw [Int.toNat_natCast] at hsh'
      rw [if_neg hz]
      simp only [k1, k7, k15, a0, a1, a2, b0, b1, b2, hg, hat1, hat2, hDl, hid2, ei, idxSP_slc, Int.toNat_natCast, rwI_len, rwI_ro, rwI_es, addA, Nat.zero_add, Nat.mul_one, stc_eq, stB_some, splice_one, rwI_set, List.length_set, set_get, set_set, AH.next_set, go_sem, Nat.reduceEqDiff, Nat.reduceAdd, Nat.reduceLeDiff, Int.reduceEq, Int.reduceLT, Int.reduceLE, Int.reduceAdd, Int.reduceSub, Int.reduceMul, Int.reduceNeg, Int.reduceToNat, Nat.reduceMul]
      refine ⟨i, by omega, (i : Int), chanceI s, (D.set (i + 1) (ga D k)).set k (ga D (i + 1)), by omega, by omega, by omega, by rw [List.length_set, List.length_set]; exact hDl, hch, by simp only [go_sem, Nat.reduceEqDiff, Nat.reduceAdd, Nat.reduceLeDiff, Int.reduceEq, Int.reduceLT, Int.reduceLE, Int.reduceAdd, Int.reduceSub, Int.reduceMul, Int.reduceNeg, Int.reduceToNat, Nat.reduceMul], by simp only [k7, go_sem, Nat.reduceEqDiff, Nat.reduceAdd, Nat.reduceLeDiff, Int.reduceEq, Int.reduceLT, Int.reduceLE, Int.reduceAdd, Int.reduceSub, Int.reduceMul, Int.reduceNeg, Int.reduceToNat, Nat.reduceMul], by simp only [wi, go_sem, Nat.reduceEqDiff, Nat.reduceAdd, Nat.reduceLeDiff, Int.reduceEq, Int.reduceLT, Int.reduceLE, Int.reduceAdd, Int.reduceSub, Int.reduceMul, Int.reduceNeg, Int.reduceToNat, Nat.reduceMul], hu.set _, ?_⟩
      rw [Int.toNat_natCast]
      exact hsh'
    · have hsh' : D = shuf (L.length - 1) seed L := by
        rw [← hsh, show j.toNat = 0 by omega]
        rfl
      simp only [k1, k7, k15, hlt, go_sem, Nat.reduceEqDiff, Nat.reduceAdd, Nat.reduceLeDiff, Int.reduceEq, Int.reduceLT, Int.reduceLE, Int.reduceAdd, Int.reduceSub, Int.reduceMul, Int.reduceNeg, Int.reduceToNat, Nat.reduceMul]
      subst hsh'
      exact ⟨_, rfl, h6 ▸ st.ups i3 hu hDl hidl rfl i4⟩
end Go.Proofs.Ytidpkoaomfbljaa.AM
namespace Go.Proofs.Ytidpkoaomfbljaa.AM
open Go
set_option linter.all false
set_option maxRecDepth 10000
variable {tbl : Tbl} [hT : TMono tbl]

theorem v41 (h63 : tbl 63 = some (.code m63)) (h50 : tbl 50 = some (.code m50)) (h41 : tbl 41 = some (.code m41)) {H : AH} {l : List Stp} {ad : Option Addr} {cp : Nat} (hs : Sl H 5 (.slice ad l.length cp) l.length (sL l)) (hl : l.length ≤ 20000) {kind seed : Int} (hk : 1 ≤ kind ∧ kind ≤ 6) (hsd : 0 ≤ seed ∧ seed ≤ 2147483647) :
    Val tbl 41 [.int .i64 kind, .int .i64 seed, .slice ad l.length cp] H (mkS H (finL kind seed l).length) (mkH H 1 (finL kind seed l).length ((finL kind seed l).map I64)) := by
  refine Val.of_all fun Q hQ => ?_
  rw [rn_fun h41, k41_eq]
  simp only [go_sem, Nat.reduceEqDiff, Nat.reduceAdd, Nat.reduceLeDiff, Int.reduceEq, Int.reduceLT, Int.reduceLE, Int.reduceAdd, Int.reduceSub, Int.reduceMul, Int.reduceNeg, Int.reduceToNat, Nat.reduceMul]
  have hcl := carL_len (l := l) l.length
  have hsl := srt_len (key := kyL (kk kind) l) (carL l l.length)
  have hE : H.enter.next = H.next := rfl
  have np1 : (H.enter.push ⟨[.int .i64 kind], 1, false⟩).next = H.next + 1 := by rw [AH.next_push, hE]
  have np2 : ((H.enter.push ⟨[.int .i64 kind], 1, false⟩).push ⟨[.slice ad l.length cp], 1, false⟩).next = H.next + 2 := by rw [AH.next_push, np1]
  have st0 : Rt H kind (.slice ad l.length cp) (.slice none 0 0) [] ((H.enter.push ⟨[.int .i64 kind], 1, false⟩).push ⟨[.slice ad l.length cp], 1, false⟩) :=
    ⟨((Junk.enter H).push _).push _, by rw [AH.get_push_lt _ _ (by omega)]; exact AH.get_push_eq H.enter _, by rw [← np1]; exact AH.get_push_eq _ _, .inl ⟨rfl, rfl, rfl⟩, by omega⟩
  refine (x3_ok h63 hs hl hk (f := _) (by simp only [go_sem, Nat.reduceEqDiff, Nat.reduceAdd, Nat.reduceLeDiff, Int.reduceEq, Int.reduceLT, Int.reduceLE, Int.reduceAdd, Int.reduceSub, Int.reduceMul, Int.reduceNeg, Int.reduceToNat, Nat.reduceMul]) (by simp only [go_sem, Nat.reduceEqDiff, Nat.reduceAdd, Nat.reduceLeDiff, Int.reduceEq, Int.reduceLT, Int.reduceLE, Int.reduceAdd, Int.reduceSub, Int.reduceMul, Int.reduceNeg, Int.reduceToNat, Nat.reduceMul]) (by simp only [go_sem, Nat.reduceEqDiff, Nat.reduceAdd, Nat.reduceLeDiff, Int.reduceEq, Int.reduceLT, Int.reduceLE, Int.reduceAdd, Int.reduceSub, Int.reduceMul, Int.reduceNeg, Int.reduceToNat, Nat.reduceMul]) (by simp only [go_sem, Nat.reduceEqDiff, Nat.reduceAdd, Nat.reduceLeDiff, Int.reduceEq, Int.reduceLT, Int.reduceLE, Int.reduceAdd, Int.reduceSub, Int.reduceMul, Int.reduceNeg, Int.reduceToNat, Nat.reduceMul]) st0).mono ?_
  rintro e f1 H1 ⟨rfl, k1, k3, v1, k7, st1⟩
  simp only [go_sem, Nat.reduceEqDiff, Nat.reduceAdd, Nat.reduceLeDiff, Int.reduceEq, Int.reduceLT, Int.reduceLE, Int.reduceAdd, Int.reduceSub, Int.reduceMul, Int.reduceNeg, Int.reduceToNat, Nat.reduceMul] at k1 k3
  have gk := st1.gk
  by_cases h5 : kind = 5
  · have hf : finL kind seed l = mixL (srt (kyL (kk kind) l) (carL l l.length)) 0 (srt (kyL (kk kind) l) (carL l l.length)).length := by
      have e : ordK kind seed l (carL l l.length) = srt (kyL (kk kind) l) (carL l l.length) := if_neg (by omega)
      unfold finL
      rw [if_pos h5, e]
    have hj := st1.j.nx
    simp only [go_sem, Nat.reduceEqDiff, Nat.reduceAdd, Nat.reduceLeDiff, Int.reduceEq, Int.reduceLT, Int.reduceLE, Int.reduceAdd, Int.reduceSub, Int.reduceMul, Int.reduceNeg, Int.reduceToNat, Nat.reduceMul]
    refine (x4_mix st1 h5 (by omega) k3 k7).mono ?_
    rintro e f3 H3 ⟨rfl, v3, i6, ow, hlow⟩
    rw [← hf] at ow
    simp only [i6, go_sem, Nat.reduceEqDiff, Nat.reduceAdd, Nat.reduceLeDiff, Int.reduceEq, Int.reduceLT, Int.reduceLE, Int.reduceAdd, Int.reduceSub, Int.reduceMul, Int.reduceNeg, Int.reduceToNat, Nat.reduceMul]
    rw [back_own ow hj hlow (p1_ints _)]
    exact hQ
  · by_cases h6 : kind = 6
    · have hf : finL kind seed l = shuf ((srt (kyL (kk kind) l) (carL l l.length)).length - 1) seed (srt (kyL (kk kind) l) (carL l l.length)) := by
        have e : ordK kind seed l (carL l l.length) = shuf ((carL l l.length).length - 1) seed (carL l l.length) := if_pos h6
        unfold finL
        rw [if_neg h5, e, srt_const (.inr h6) (carL_rise _)]
      have n5 : ¬ (6 : Int) = 5 := by decide
      have gk6 : H1.get H.next = some ⟨[.int .i64 6], 1, false⟩ := by rw [gk, h6]
      simp only [x4, k3, gk6, n5, go_sem, Nat.reduceEqDiff, Nat.reduceAdd, Nat.reduceLeDiff, Int.reduceEq, Int.reduceLT, Int.reduceLE, Int.reduceAdd, Int.reduceSub, Int.reduceMul, Int.reduceNeg, Int.reduceToNat, Nat.reduceMul]
      refine (x5_chance h50 st1 h6 (by omega) hsd (by simp only [k1, go_sem, Nat.reduceEqDiff, Nat.reduceAdd, Nat.reduceLeDiff, Int.reduceEq, Int.reduceLT, Int.reduceLE, Int.reduceAdd, Int.reduceSub, Int.reduceMul, Int.reduceNeg, Int.reduceToNat, Nat.reduceMul]) (by simp only [k3, go_sem, Nat.reduceEqDiff, Nat.reduceAdd, Nat.reduceLeDiff, Int.reduceEq, Int.reduceLT, Int.reduceLE, Int.reduceAdd, Int.reduceSub, Int.reduceMul, Int.reduceNeg, Int.reduceToNat, Nat.reduceMul]) (by simp only [k7, go_sem, Nat.reduceEqDiff, Nat.reduceAdd, Nat.reduceLeDiff, Int.reduceEq, Int.reduceLT, Int.reduceLE, Int.reduceAdd, Int.reduceSub, Int.reduceMul, Int.reduceNeg, Int.reduceToNat, Nat.reduceMul])).mono ?_
      rintro e f3 H3 ⟨rfl, v3, i7, st3⟩
      have ow := st3.ow
      rw [← hf] at ow
      simp only [i7, go_sem, Nat.reduceEqDiff, Nat.reduceAdd, Nat.reduceLeDiff, Int.reduceEq, Int.reduceLT, Int.reduceLE, Int.reduceAdd, Int.reduceSub, Int.reduceMul, Int.reduceNeg, Int.reduceToNat, Nat.reduceMul]
      rw [back_own ow (by omega) st3.j.low (p1_ints _)]
      exact hQ
    · have hf : finL kind seed l = srt (kyL (kk kind) l) (carL l l.length) := by
        have e : ordK kind seed l (carL l l.length) = srt (kyL (kk kind) l) (carL l l.length) := if_neg h6
        unfold finL
        rw [if_neg h5, e]
      have ow := st1.ow
      rw [← hf] at ow
      simp only [x4, x5, k3, k7, gk, h5, h6, go_sem, Nat.reduceEqDiff, Nat.reduceAdd, Nat.reduceLeDiff, Int.reduceEq, Int.reduceLT, Int.reduceLE, Int.reduceAdd, Int.reduceSub, Int.reduceMul, Int.reduceNeg, Int.reduceToNat, Nat.reduceMul]
      rw [back_own ow (by omega) st1.j.low (p1_ints _)]
      exact hQ
end Go.Proofs.Ytidpkoaomfbljaa.AM
namespace Go.Proofs.Ytidpkoaomfbljaa.AM
open Go
set_option linter.all false
set_option maxRecDepth 10000
variable {tbl : Tbl} [hT : TMono tbl]

theorem v15_3 (h15 : tbl 15 = some (.code m15)) (X : AH) (a b c : Int) : Val tbl 15 [.slice (some ⟨X.next, 0, none⟩) 3 3] (X.push ⟨[.int .i64 a, .int .i64 b, .int .i64 c], 1, false⟩) (.int .i64 (firstL [a, b, c])) (X.push ⟨[.int .i64 a, .int .i64 b, .int .i64 c], 1, false⟩) :=
  v15 h15 _ _ [a, b, c] (.inr ⟨_, _, rfl, ldc_all (AH.get_push_eq _ _) rfl⟩) (by show 3 < 1000000000; omega)
theorem mixL_len (D : List Int) : ∀ (k a : Nat), (mixL D a k).length = k
  | 0, a => by rw [mixL_zero]; rfl
  | 1, a => rfl
  | k + 2, a => by rw [mixL_two, List.length_cons, List.length_cons, mixL_len D k]
structure OrdL (tbl : Tbl) : Prop where
  T : OrdTb tbl
  h15 : tbl 15 = some (.code m15)
  h16 : tbl 16 = some (.code m16)
  h17 : tbl 17 = some (.code m17)
  h18 : tbl 18 = some (.code m18)
  h63 : tbl 63 = some (.code m63)
  h50 : tbl 50 = some (.code m50)
  h41 : tbl 41 = some (.code m41)
  h9 : tbl 9 = some (.code m9)
theorem first_ord {kind seed : Int} {n : Nat} : firstL [if (!decide (1 ≤ kind ∧ kind ≤ 6)) = true then 5 else 0, if (!decide (0 ≤ seed ∧ seed ≤ 2147483647)) = true then 7 else 0, if (20000 : Int) < (n : Int) then 8 else 0] = ordE kind seed n := by
  unfold ordE
  have e : ((20000 : Int) < (n : Int)) ↔ 20000 < n := by omega
  simp only [e]
  by_cases h1 : 1 ≤ kind ∧ kind ≤ 6 <;> by_cases h2 : 0 ≤ seed ∧ seed ≤ 2147483647 <;> by_cases h3 : 20000 < n <;> simp [firstL, h1, h2, h3]
theorem v9 (L : OrdL tbl) (h14 : ∀ X : AH, Val tbl 14 [] X (.bool true) X) (kind seed : Int) (l : List Stp) (hll : l.length ≤ 9223372036854775807) {ad : Option Addr} {cp : Nat} {H : AH} (hs : Sl H 5 (.slice ad l.length cp) l.length (sL l)) (hd : H.get 0 = none) (hp : 0 < H.next) :
    Val tbl 9 [.int .i64 kind, .int .i64 seed, .slice ad l.length cp] H (.bool true) H := by
  refine Val.of_all fun Q hQ => ?_
  rw [rn_fun L.h9, k9]
  have a17 := fun n a b X => v17 (tbl := tbl) L.h17 n a b X
  have a16 := fun b e X => v16b (tbl := tbl) L.h16 b e X
  have a16p := fun e X => v16 (tbl := tbl) L.h16 ((20000 : Int) < (l.length : Int)) e X
  by_cases hE : ordE kind seed l.length = 0
  · have hk : 1 ≤ kind ∧ kind ≤ 6 := by
      by_cases h : 1 ≤ kind ∧ kind ≤ 6
      · exact h
      · unfold ordE at hE; rw [if_pos h] at hE; exact absurd hE (by decide)
    have hsd : 0 ≤ seed ∧ seed ≤ 2147483647 := by
      by_cases h : 0 ≤ seed ∧ seed ≤ 2147483647
      · exact h
      · unfold ordE at hE; rw [if_neg (by omega), if_pos h] at hE; exact absurd hE (by decide)
    have hl : l.length ≤ 20000 := by
      by_cases h : 20000 < l.length
      · unfold ordE at hE; rw [if_neg (by omega), if_neg (by omega), if_pos h] at hE; exact absurd hE (by decide)
      · omega
    have a40 := v40 L.T (H := H.enter) hs hl hd hp hk hsd
    have hn1 := mkH_next (H := H.enter) (es := 1) (n := (finL kind seed l).length) (l := (finL kind seed l).map I64)
    have hlw1 := mkH_low (H := H.enter) (es := 1) (n := (finL kind seed l).length) (l := (finL kind seed l).map I64)
    have hg1 := fun (id : Nat) h => mkH_get (H := H.enter) (es := 1) (n := (finL kind seed l).length) (l := (finL kind seed l).map I64) (id := id) h
    have ow1 := own_mk (H := H.enter) (es := 1) (n := (finL kind seed l).length) (l := (finL kind seed l).map I64) (by simp)
    generalize mkH H.enter 1 (finL kind seed l).length ((finL kind seed l).map I64) = H1 at a40 hn1 hlw1 hg1 ow1
    have a15 := v15_3 (tbl := tbl) L.h15 H1 (if (!decide (1 ≤ kind ∧ kind ≤ 6)) = true then 5 else 0) (if (!decide (0 ≤ seed ∧ seed ≤ 2147483647)) = true then 7 else 0) (if (20000 : Int) < (l.length : Int) then 8 else 0)
    rw [first_ord, hE] at a15
    have hE1 : H.enter.next = H.next := rfl
    have hE2 : H.enter.low = H.next := rfl
    have np : (H1.push ⟨[.int .i64 (if (!decide (1 ≤ kind ∧ kind ≤ 6)) = true then 5 else 0), .int .i64 (if (!decide (0 ≤ seed ∧ seed ≤ 2147483647)) = true then 7 else 0), .int .i64 (if (20000 : Int) < (l.length : Int) then 8 else 0)], 1, false⟩).next = H1.next + 1 := AH.next_push _ _
    have lp : (H1.push ⟨[.int .i64 (if (!decide (1 ≤ kind ∧ kind ≤ 6)) = true then 5 else 0), .int .i64 (if (!decide (0 ≤ seed ∧ seed ≤ 2147483647)) = true then 7 else 0), .int .i64 (if (20000 : Int) < (l.length : Int) then 8 else 0)], 1, false⟩).low = H1.low := lw_push
    have gp := fun (j : Nat) (h : j < H1.next) => AH.get_push_lt H1 ⟨[.int .i64 (if (!decide (1 ≤ kind ∧ kind ≤ 6)) = true then 5 else 0), .int .i64 (if (!decide (0 ≤ seed ∧ seed ≤ 2147483647)) = true then 7 else 0), .int .i64 (if (20000 : Int) < (l.length : Int) then 8 else 0)], 1, false⟩ (id := j) h
    simp only [↓a40.run, ↓(a17 _ _ _ _).run, ↓(a16 _ _ _).run, ↓(a16p _ _).run, ↓(h14 _).run, ↓a15.run, go_sem, Nat.reduceEqDiff, Nat.reduceAdd, Nat.reduceLeDiff, Int.reduceEq, Int.reduceLT, Int.reduceLE, Int.reduceAdd, Int.reduceSub, Int.reduceMul, Int.reduceNeg, Int.reduceToNat, Nat.reduceMul]
    generalize (H1.push ⟨[.int .i64 (if (!decide (1 ≤ kind ∧ kind ≤ 6)) = true then 5 else 0), .int .i64 (if (!decide (0 ≤ seed ∧ seed ≤ 2147483647)) = true then 7 else 0), .int .i64 (if (20000 : Int) < (l.length : Int) then 8 else 0)], 1, false⟩) = H2 at np lp gp ⊢
    have a41 := v41 (tbl := tbl) L.h63 L.h50 L.h41 (H := H2) (hs.keep fun j hj => by rw [gp j (by omega), hg1 j (by omega)]; rfl) hl hk hsd
    have hn3 := mkH_next (H := H2) (es := 1) (n := (finL kind seed l).length) (l := (finL kind seed l).map I64)
    have hlw3 := mkH_low (H := H2) (es := 1) (n := (finL kind seed l).length) (l := (finL kind seed l).map I64)
    have hg3 := fun (id : Nat) h => mkH_get (H := H2) (es := 1) (n := (finL kind seed l).length) (l := (finL kind seed l).map I64) (id := id) h
    have ow3 := own_mk (H := H2) (es := 1) (n := (finL kind seed l).length) (l := (finL kind seed l).map I64) (by simp)
    generalize mkH H2 1 (finL kind seed l).length ((finL kind seed l).map I64) = H3 at a41 hn3 hlw3 hg3 ow3
    have a18 := v18 (tbl := tbl) L.h18 H3 (mkS H.enter (finL kind seed l).length) (mkS H2 (finL kind seed l).length) (finL kind seed l) (finL kind seed l) (ow1.sl.keep fun j hj => by rw [hg3 j (by omega), gp j hj]) ow3.sl (by
      have h1 : (finL kind seed l).length ≤ 20000 := by
        have := carL_len (l := l) l.length
        have := ordK_len (kind := kind) (seed := seed) (l := l) (L := carL l l.length)
        unfold finL
        split
        · rw [mixL_len]; omega
        · omega
      omega)
    have e18 : decide (finL kind seed l = finL kind seed l) = true := decide_eq_true rfl
    rw [e18] at a18
    have hlow : ¬ H3.low < H.next := by omega
    simp only [↓a41.run, ↓a18.run, hlow, go_sem, Nat.reduceEqDiff, Nat.reduceAdd, Nat.reduceLeDiff, Int.reduceEq, Int.reduceLT, Int.reduceLE, Int.reduceAdd, Int.reduceSub, Int.reduceMul, Int.reduceNeg, Int.reduceToNat, Nat.reduceMul]
    exact hQ
  · have a40 := v40_bad L.T (H := H.enter) (n := l.length) (ad := ad) (cp := cp) hE
    have a15 := v15_3 (tbl := tbl) L.h15 H.enter (if (!decide (1 ≤ kind ∧ kind ≤ 6)) = true then 5 else 0) (if (!decide (0 ≤ seed ∧ seed ≤ 2147483647)) = true then 7 else 0) (if (20000 : Int) < (l.length : Int) then 8 else 0)
    rw [first_ord] at a15
    simp only [go_sem, Nat.reduceEqDiff, Nat.reduceAdd, Nat.reduceLeDiff, Int.reduceEq, Int.reduceLT, Int.reduceLE, Int.reduceAdd, Int.reduceSub, Int.reduceMul, Int.reduceNeg, Int.reduceToNat, Nat.reduceMul] at a15
    simp only [↓a40.run, ↓(a17 _ _ _ _).run, ↓(a16 _ _ _).run, ↓(a16p _ _).run, ↓(h14 _).run, ↓a15.run, hE, go_sem, Nat.reduceEqDiff, Nat.reduceAdd, Nat.reduceLeDiff, Int.reduceEq, Int.reduceLT, Int.reduceLE, Int.reduceAdd, Int.reduceSub, Int.reduceMul, Int.reduceNeg, Int.reduceToNat, Nat.reduceMul]
    exact hQ
end Go.Proofs.Ytidpkoaomfbljaa.AM
/- The start heap, one argument after the other. -/
namespace Go.Proofs.Ytidpkoaomfbljaa.AM
open Go Go.RowKit Go.ChangeShapes Go.WideShapes Go.ChangeAt
set_option linter.all false

/-- A start heap: all blocks are read only. -/
structure Start (w : World) (H : AH) (c : CMap) : Prop where
  sim : Sim w.heap.size c H w
  ro : ∀ id b, H.get id = some b → b.ro = true
  pos : 0 < H.next
  dead : H.get 0 = none
/-- What an argument adds. -/
structure More (H : AH) (c : CMap) (H' : AH) (c' : CMap) : Prop where
  nx : H.next ≤ H'.next
  old : ∀ id, id < H.next → H'.get id = H.get id
  vr : ∀ v v', VR H.next c v v' → VR H'.next c' v v'
theorem More.refl (H : AH) (c : CMap) : More H c H c := ⟨Nat.le_refl _, fun _ _ => rfl, fun _ _ h => h⟩
theorem More.trans {H H1 H2 : AH} {c c1 c2 : CMap} (h : More H c H1 c1) (k : More H1 c1 H2 c2) : More H c H2 c2 :=
  ⟨Nat.le_trans h.nx k.nx, fun id hid => by rw [k.old id (Nat.lt_of_lt_of_le hid h.nx), h.old id hid], fun v v' hv => k.vr _ _ (h.vr _ _ hv)⟩
theorem More.sl {H H1 : AH} {c c1 : CMap} (h : More H c H1 c1) {es n : Nat} {v : Value} {l : List Value} (hs : Sl H es v n l) : Sl H1 es v n l := by
  rcases hs with hs | ⟨a, cp, h1, h2⟩
  · exact .inl hs
  · refine .inr ⟨a, cp, h1, ?_⟩
    rw [ldc_eq, h.old _ (ldc_lt h2), ← ldc_eq]
    exact h2
theorem start0 (w : World) : Start w H0 (fun _ => none) := by
  have hg : ∀ id, H0.get id = none := fun id => by
    unfold H0 AH.get
    cases id with
    | zero => rfl
    | succ n => simp
  exact ⟨sim0 (Nat.le_refl _), fun id b h => by rw [hg] at h; simp at h, by simp [H0, AH.next], hg 0⟩
theorem Start.arg {w : World} {H : AH} {c : CMap} (st : Start w H c) {a : Addr} {n cap es : Nat} {l : List Value} (h : ArgRow w a n cap es l) (hp : l.all p1 = true) :
    ∃ c', Start w (H.push ⟨l, es, true⟩) c' ∧ VR (H.push ⟨l, es, true⟩).next c' (.slice (some ⟨H.next, 0, none⟩) n cap) (.slice (some a) n cap) ∧ More H c (H.push ⟨l, es, true⟩) c' := by
  obtain ⟨hspot, ⟨cs, ty, fz, hrow, hsz, hcs⟩, hlen, hnc⟩ := h
  have hdom : ∀ id, id < H.next → (if id = H.next then some ⟨a.block, a.off, cs.size, es⟩ else c id) = c id := fun id hid => if_neg (by omega)
  have hvr : ∀ v v', VR H.next c v v' → VR (H.push ⟨l, es, true⟩).next (fun id => if id = H.next then some ⟨a.block, a.off, cs.size, es⟩ else c id) v v' := fun v v' hv =>
    hv.mono (by rw [AH.next_push]; omega) fun id hid => .inl (hdom id hid)
  have hlt : ∀ id b, H.get id = some b → id < H.next := fun id b hb => AH.get_lt hb
  refine ⟨fun id => if id = H.next then some ⟨a.block, a.off, cs.size, es⟩ else c id, ⟨⟨fun id => ?_, fun id b loc hb hc => ?_, fun id id' b l1 l2 hne hb hro hc hc' => ?_, Nat.le_refl _⟩, fun id b hb => ?_, ?_, ?_⟩, ?_, ?_, fun id hid => AH.get_push_lt H _ hid, hvr⟩
  · simp only [gt_push]
    split
    · rfl
    · exact st.sim.live id
  · rw [gt_push] at hb
    split at hb
    · rename_i hid
      simp only [if_pos hid, Option.some.injEq] at hb hc
      subst hb
      subst hc
      refine ⟨rfl, p1_one hp, cs, ty, fz, l, hrow, rfl, fun h => by simp at h, ?_, hcs, .refl hp⟩
      simp only
      have : l.length ≤ cap * es := by rw [hlen]; exact Nat.mul_le_mul_right _ hnc
      omega
    · rename_i hid
      simp only [if_neg hid] at hc
      obtain ⟨h1, h2, cs1, ty1, fz1, mid, h3, h4, h5, h6, h7, h8⟩ := st.sim.blk id b loc hb hc
      exact ⟨h1, h2, cs1, ty1, fz1, mid, h3, h4, h5, h6, h7, ⟨h8.1, fun j hj => hvr _ _ (h8.2 j hj)⟩⟩
  · rw [gt_push] at hb
    split at hb
    · simp only [Option.some.injEq] at hb; subst hb; simp at hro
    · rw [st.ro id b hb] at hro; simp at hro
  · rw [gt_push] at hb
    split at hb
    · simp only [Option.some.injEq] at hb; subst hb; rfl
    · exact st.ro id b hb
  · rw [AH.next_push]; omega
  · rw [gt_push, if_neg (by have := st.pos; omega)]; exact st.dead
  · obtain ⟨b, o, sp⟩ := a
    simp only at hspot
    subst hspot
    have := VR.slice (n := (H.push ⟨l, es, true⟩).next) (c := fun id => if id = H.next then some ⟨b, o, cs.size, es⟩ else c id) (a := ⟨H.next, 0, none⟩) (l := ⟨b, o, cs.size, es⟩) (m := n) (k := cap) (k' := cap) (by rw [AH.next_push]; exact Nat.lt_succ_self _) (if_pos rfl) rfl (Nat.le_refl _) (by simpa using hsz)
    simpa using this
  · rw [AH.next_push]; omega
/-- What a slice argument is. -/
def ArgS (w : World) (v : Value) (n es : Nat) (l : List Value) : Prop :=
  ∃ cap, n ≤ cap ∧ cap ≤ maxLen ∧ ((v = .slice none 0 0 ∧ n = 0 ∧ l = []) ∨ ∃ a, v = .slice (some a) n cap ∧ ((cap = 0 ∧ n = 0 ∧ l = []) ∨ (0 < cap ∧ ArgRow w a n cap es l)))
theorem Start.slc {w : World} {H : AH} {c : CMap} (st : Start w H c) {v : Value} {n es : Nat} {l : List Value} (h : ArgS w v n es l) (hp : l.all p1 = true) :
    ∃ (c' : CMap) (H' : AH) (u : Value), Start w H' c' ∧ VR H'.next c' u v ∧ Sl H' es u n l ∧ More H c H' c' := by
  obtain ⟨cap, hc, _, ⟨rfl, rfl, rfl⟩ | ⟨a, rfl, ⟨rfl, rfl, rfl⟩ | ⟨hpos, har⟩⟩⟩ := h
  · exact ⟨_, _, .slice none 0 0, st, .plain rfl, .inl ⟨none, 0, rfl, rfl, rfl⟩, .refl _ _⟩
  · have hc0 : c 0 = none := by
      have := st.sim.live 0
      rw [st.dead] at this
      cases h0 : c 0 with
      | none => rfl
      | some x => rw [h0] at this; simp at this
    exact ⟨_, _, .slice (some ⟨0, 0, none⟩) 0 0, st, .sliceDead st.pos hc0, .inl ⟨_, 0, rfl, rfl, rfl⟩, .refl _ _⟩
  · obtain ⟨c', h1, h2, h3⟩ := st.arg har hp
    refine ⟨_, _, _, h1, h2, .inr ⟨_, cap, rfl, ?_⟩, h3⟩
    rw [ldc_eq]
    simp only [gt_push, if_true]
    rw [ldcB_some, if_pos (by simp [har.len]), ← har.len]
    simp
end Go.Proofs.Ytidpkoaomfbljaa.AM
/- From the abstract machine to a row of the second form. -/
namespace Go.Proofs.Ytidpkoaomfbljaa.AM
open Go Go.RowKit Go.ChangeShapes Go.WideShapes Go.ChangeAt
set_option linter.all false
section
variable {H : Type} {enc : TypeId × Value → H}
set_option maxRecDepth 100000 in
/-- A law whose arguments are of little bulk: it returns true, and each argument reads as it read. -/
theorem law_lifted_upto {os : Os} (started : os.Started) {f : FuncId} {fn : Func} {s : ChangeSpec} {tb : TypeId} {conds : List PathCond} (F : Stop.Interp)
    (hvars : s.vars = []) (hfn : Try.prog.funcs[f]? = some fn) (hinit : Try.prog.inits.idxOf? f = none) (hres : fn.resultTypes = #[tb]) (htb : Try.prog.underlying tb = some .bool)
    (hread : (fn.params.toList.all fun t => Try.prog.readableRec t && decide (t < Try.prog.types.size)) = true)
    (hspec : ∀ (ds : List (DataW H)), ds.length = fn.params.size → s.fn H (ds ++ []) = { results := [.lit (.bool true)], args := ds })
    (witness : ∃ (w : World) (tape : Tape) (i : Input), w.os = os ∧ (w.forCall tape i).Shaped Try.checked.prog ∧ i.vars = [] ∧ Input.okWide Try.checked.prog (w.forCall tape i) .any w.heap.size f i ∧
      (Rows.OpenSpec.upto s).pre6 enc Try.checked.prog fn conds false (w.forCall tape i).memory i.args ∧ ({} : Assume).holds Try.checked.prog (lone (Frame.enter Try.checked.prog f i.args .normal) [] (w.forCall tape i)))
    (run : ∀ (W : World) (args : Array Value) (ds : List (DataW H)) (ps : List MemPlace) (base : Nat), (∀ (j : Nat) t v, fn.params[j]? = some t → args[j]? = some v → Value.okWide Try.prog W .any base t v) →
      DataW.TrodAll enc Try.prog W 0 (fun _ => true) true fn.params.toList args.toList ds ps → (∀ x ∈ ps, x.block < W.heap.size) → Rows.uptoSmall H ds = true →
      Calls Try.prog f args W fun | .returned v', W' => v' = .bool true ∧ Below W.heap.size W W' | _, _ => False) :
    ReturnsInHanded {} Try.checked os f .any ((Rows.OpenSpec.upto s).pre6 enc Try.prog fn conds false) (((Rows.OpenSpec.upto s).at F).post enc Try.prog fn false true false false) := by
  refine returnsInHanded_of_cond (C := Try.checked) (s := Rows.OpenSpec.upto s) (k := Rows.uptoSmall) rfl own started hinit hfn witness ?_
  intro W base args ds gs before hval hW _ hk _
  have hW' := hW
  obtain ⟨p, q, hA, hV, rfl, hfz, hnd⟩ := hW
  have hvars' : (Rows.OpenSpec.upto s).vars = [] := hvars
  rw [hvars'] at hV
  obtain ⟨rfl, rfl⟩ := trodVars_none hV
  rw [List.append_nil] at hW' hk
  have hlt : ∀ x ∈ p, x.block < W.heap.size := fun x hx => by simpa using hW'.lt x hx
  refine (run W args ds p base hval hA hlt hk).mono fun e W' he => ?_
  cases e with
  | panicked ch => exact he.elim
  | outgrown => exact he.elim
  | returned v =>
    obtain ⟨rfl, hb⟩ := he
    refine ⟨_, rfl, ?_⟩
    have hlen : ds.length = fn.params.size := by
      have := (trodAll_length hA).2
      simpa using this
    have hs := hspec ds hlen
    refine ⟨ds, [], p, [], p, [], hW', ?_, ?_, ?_, hb.frame _, fun h => by simp at h⟩
    · show DataW.TrodAll enc _ _ _ _ _ _ _ (s.fn H (ds ++ [])).results _
      rw [hs, hres]
      exact trodAll_mk1 (shut_bool htb true)
    · show DataW.TrodAll enc _ _ _ _ _ _ _ (s.fn H (ds ++ [])).args _
      rw [hs]
      exact trodAll_below laidOut hb hread hA hlt
    · have e : (((Rows.OpenSpec.upto s).at F).fn H (ds ++ [])) = { results := [.lit (.bool true)], args := ds } := hs
      rw [e]
      first | exact hvars ▸ rfl | (show _ = _; simp [hvars']; rfl) | rfl
end
end Go.Proofs.Ytidpkoaomfbljaa.AM
/- An argument that is a slice of texts, of little bulk. -/
namespace Go.Proofs.Ytidpkoaomfbljaa.AM
open Go Go.RowKit Go.ChangeShapes Go.WideShapes Go.ChangeAt
set_option linter.all false

section
variable {H : Type} {enc : TypeId × Value → H} {P : Program} {w : World}
end
theorem slc_cells {P : Program} {w : World} {r : Reach} {b : Nat} {t e : TypeId} {v : Value} (ht : P.underlying t = some (.slice e)) (hval : Value.okWide P w r b t v) : v.cells.toList = [v] := by
  unfold Value.okWide at hval
  rw [ht] at hval
  unfold Cell.okWide at hval
  rw [ht] at hval
  cases v <;> simp only [Cell.ok, ht] at hval <;> rfl
end Go.Proofs.Ytidpkoaomfbljaa.AM
/- Arguments that are slices of steps. -/
namespace Go.Proofs.Ytidpkoaomfbljaa.AM
open Go Go.RowKit Go.ChangeShapes Go.WideShapes Go.ChangeAt
set_option linter.all false
set_option maxRecDepth 10000

section
variable {H : Type} {enc : TypeId × Value → H} {P : Program} {w : World} {base : Nat} {spare : Nat → Bool} {held : Bool}
theorem trod_step {e q s : TypeId} {f0 f1 f2 f3 f4 : Field} {fuel : Nat} {cs : List Value} {x : DataW H × List MemPlace} (he : P.underlying e = some (.struct #[f0, f1, f2, f3, f4])) (o0 : f0.offset = 0) (o1 : f1.offset = 1) (o2 : f2.offset = 2) (o3 : f3.offset = 3) (o4 : f4.offset = 4) (t0 : f0.type = q) (t1 : f1.type = s) (t2 : f2.type = s) (t3 : f3.type = q) (t4 : f4.type = q) (hq : P.underlying q = some (.int .i64)) (hs : P.underlying s = some .string) (hce : P.cellsOf e = 5) (hcq : P.cellsOf q = 1) (hcs : P.cellsOf s = 1) (h : DataW.trod enc P w base spare held fuel e cs = some x) :
    ∃ y : Stp, cs = sv y := by
  cases fuel with
  | zero => simp [DataW.trod] at h
  | succ fuel =>
    unfold DataW.trod at h
    simp only [he] at h
    split at h
    · rename_i hlen
      rw [hce] at hlen
      match cs, hlen with
      | [u0, u1, u2, u3, u4], _ =>
        simp only [List.mapM_cons, List.mapM_nil, o0, o1, o2, o3, o4, t0, t1, t2, t3, t4, hcq, hcs, List.drop_zero, List.take_succ_cons, List.take_zero, List.drop_succ_cons] at h
        cases h0 : DataW.trod enc P w base spare held fuel q [u0] with
        | none => rw [h0] at h; simp at h
        | some y0 =>
          cases h1 : DataW.trod enc P w base spare held fuel s [u1] with
          | none => rw [h0, h1] at h; simp at h
          | some y1 =>
            cases h2 : DataW.trod enc P w base spare held fuel s [u2] with
            | none => rw [h0, h1, h2] at h; simp at h
            | some y2 =>
              cases h3 : DataW.trod enc P w base spare held fuel q [u3] with
              | none => rw [h0, h1, h2, h3] at h; simp at h
              | some y3 =>
                cases h4 : DataW.trod enc P w base spare held fuel q [u4] with
                | none => rw [h0, h1, h2, h3, h4] at h; simp at h
                | some y4 =>
                  obtain ⟨a0, e0, _⟩ := DataW.trod_int hq h0
                  obtain ⟨a1, e1, _⟩ := DataW.trod_string hs h1
                  obtain ⟨a2, e2, _⟩ := DataW.trod_string hs h2
                  obtain ⟨a3, e3, _⟩ := DataW.trod_int hq h3
                  obtain ⟨a4, e4, _⟩ := DataW.trod_int hq h4
                  simp only [List.cons.injEq, and_true] at e0 e1 e2 e3 e4
                  subst e0 e1 e2 e3 e4
                  exact ⟨⟨a0, a1, a2, a3, a4⟩, rfl⟩
    · simp at h
theorem read_steps {t e : TypeId} {v : Value} {x : DataW H × List MemPlace} {k : Nat} {w : World} (ht : P.underlying t = some (.slice e)) (hce : P.cellsOf e = 5)
    (hstep : ∀ (fuel : Nat) (cs : List Value) (x : DataW H × List MemPlace), DataW.trod enc P w 0 (fun _ => true) true fuel e cs = some x → ∃ y : Stp, cs = sv y)
    (hd : DataW.trod enc P w 0 (fun _ => true) true k t [v] = some x) :
    ∃ l : List Stp, ArgS w v l.length 5 (sL l) := by
  rcases _root_.Go.Deep.open_slice ht hd with ⟨h1, _⟩ | ⟨a, len, cap, m, n, D, Pl, h1, _, hlc, hcap, hm, _, hx⟩
  · simp only [List.cons.injEq, and_true] at h1
    exact ⟨[], 0, by simp, by simp, .inl ⟨h1, rfl, rfl⟩⟩
  · simp only [List.cons.injEq, and_true] at h1
    simp only [if_true] at hm
    subst hm
    rw [hce] at hx
    have key : ∀ k, k ≤ m → ∃ l : List Stp, l.length = k ∧ ∀ i, i < k → w.cells? 0 (a.add (i * 5)) 5 = some (((sL l).drop (i * 5)).take 5) := by
      intro k
      induction k with
      | zero => intro _; exact ⟨[], rfl, fun i hi => by omega⟩
      | succ k ih =>
        intro hk
        obtain ⟨l, h2, h4⟩ := ih (by omega)
        obtain ⟨cs', h5, h6⟩ := hx k (by omega)
        obtain ⟨y, rfl⟩ := hstep _ _ _ h6
        refine ⟨l ++ [y], by simp [h2], fun i hi => ?_⟩
        rw [sL_at _ _ (by simp [h2]; omega)]
        by_cases hik : i < k
        · have := h4 i hik
          rw [sL_at _ _ (by omega)] at this
          rw [this]
          simp [List.getElem_append_left (show i < l.length by omega)]
        · have : i = k := by omega
          subst this
          rw [h5]
          simp [List.getElem_append_right (show l.length ≤ i by omega), h2]
    obtain ⟨l, h2, h4⟩ := key len hlc
    refine ⟨l, m, by omega, hcap, .inr ⟨a, by rw [h1, h2], ?_⟩⟩
    by_cases hm0 : m = 0
    · have := List.eq_nil_of_length_eq_zero (show l.length = 0 by omega)
      subst this
      exact .inl ⟨hm0, rfl, rfl⟩
    · refine .inr ⟨by omega, argRow_of (base := 0) (by omega) (by omega) (sL_len l) (by omega) (fun v hv => ?_) fun i hi => ?_⟩
      · have := List.all_eq_true.1 (p1_one (sL_p1 l)) v hv
        exact this
      · obtain ⟨cs', h5, _⟩ := hx i hi
        refine ⟨cs', h5, fun hin => ?_⟩
        have := h4 i (by omega)
        rw [h5] at this
        exact Option.some.inj this
end
end Go.Proofs.Ytidpkoaomfbljaa.AM
