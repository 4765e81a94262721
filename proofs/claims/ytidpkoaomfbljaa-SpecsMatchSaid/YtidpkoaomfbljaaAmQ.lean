/- Rules for reckoning, one for each operation. -/
import Derived.Test.YtidpkoaomfbljaaAmP
namespace Go.Proofs.Ytidpkoaomfbljaa.AM
open Go
set_option linter.all false
section
variable {tbl : Tbl} [hT : TMono tbl]

def letP (v : Value) [K : Kn (Value → Prop)] : Prop := K.k v
def bindV (o : Option Value) [K : Kn (Value → Prop)] : Prop :=
  match o with
  | some v => K.k v
  | none => False
theorem letP_congr {v u : Value} {K : Value → Prop} (h : v = u) : (@letP v ⟨K⟩) = (@letP u ⟨K⟩) := by rw [h]
theorem bindV_congr {v u : Option Value} {K : Value → Prop} (h : v = u) : (@bindV v ⟨K⟩) = (@bindV u ⟨K⟩) := by rw [h]
theorem RunF_congr {n : FuncId} {vs vs' : List Value} {H H' : AH} {K : Value → AH → Prop} (h : vs = vs') (h2 : H = H') : (@RunF tbl n vs H ⟨K⟩) = (@RunF tbl n vs' H' ⟨K⟩) := by rw [h, h2]
theorem RunC_congr {m : MCode} {f : Fr} {H H' : AH} {K : Ex → Fr → AH → Prop} (h2 : H = H') : (@RunC tbl m f H ⟨K⟩) = (@RunC tbl m f H' ⟨K⟩) := by rw [h2]
theorem RunO_congr {bs : Nat} {m : List MOp} {f : Fr} {H H' : AH} {K : Fr → AH → Prop} (h2 : H = H') : RunO tbl bs m f H K = RunO tbl bs m f H' K := by rw [h2]
theorem RunP_congr {m : MI} {f : Fr} {H H' : AH} {K : Value → AH → Prop} (h2 : H = H') : RunP tbl m f H K = RunP tbl m f H' K := by rw [h2]
theorem letP_eq {v : Value} {K : Value → Prop} : (@letP v ⟨K⟩) = K v := rfl
theorem bindV_some {v : Value} {K : Value → Prop} : (@bindV (some v) ⟨K⟩) = K v := rfl
theorem bindV_ite {p : Prop} [Decidable p] {x y : Option Value} {K : Value → Prop} : (@bindV (if p then x else y) ⟨K⟩) = if p then (@bindV x ⟨K⟩) else (@bindV y ⟨K⟩) := by split <;> rfl
theorem bindV_none {K : Value → Prop} : (@bindV none ⟨K⟩) = False := rfl
theorem bindP_none {K : Value → AH → Prop} : (@bindP none ⟨K⟩) = False := rfl
theorem bindP_ite {p : Prop} [Decidable p] {x y : Option (Value × AH)} {K : Value → AH → Prop} : (@bindP (if p then x else y) ⟨K⟩) = if p then (@bindP x ⟨K⟩) else (@bindP y ⟨K⟩) := by split <;> rfl

def pickP (v a b : Value) [K : Kn (Value → Prop)] : Prop :=
  match v with
  | .bool t => K.k (if t = true then a else b)
  | _ => False
theorem pickP_congr {c c' a a' b b' : Value} {K : Value → Prop} (h1 : c = c') (h2 : a = a') (h3 : b = b') : (@pickP c a b ⟨K⟩) = (@pickP c' a' b' ⟨K⟩) := by rw [h1, h2, h3]
theorem pickP_true {a b : Value} {K : Value → Prop} : (@pickP (.bool true) a b ⟨K⟩) = K a := rfl
theorem pickP_false {a b : Value} {K : Value → Prop} : (@pickP (.bool false) a b ⟨K⟩) = K b := rfl
theorem pickP_dec {p : Prop} [Decidable p] {a b : Value} {K : Value → Prop} : (@pickP (.bool (decide p)) a b ⟨K⟩) = (@iteP p ⟨K a⟩ ⟨K b⟩) := by
  by_cases h : p <;> simp [pickP, h, iteP]
theorem pickP_not {t : Bool} {a b : Value} {K : Value → Prop} : (@pickP (.bool (!t)) a b ⟨K⟩) = (@pickP (.bool t) b a ⟨K⟩) := by cases t <;> rfl
def intP (v : Value) [K : Kn (Int → Prop)] : Prop :=
  match v with
  | .int _ n => K.k n
  | _ => False
theorem intP_congr {v u : Value} {K : Int → Prop} (h : v = u) : (@intP v ⟨K⟩) = (@intP u ⟨K⟩) := by rw [h]
theorem intP_int {k : IntKind} {n : Int} {K : Int → Prop} : (@intP (.int k n) ⟨K⟩) = K n := rfl
def strP (v : Value) [K : Kn (ByteArray → Prop)] : Prop :=
  match v with
  | .string s => K.k s
  | _ => False
theorem strP_congr {v u : Value} {K : ByteArray → Prop} (h : v = u) : (@strP v ⟨K⟩) = (@strP u ⟨K⟩) := by rw [h]
theorem strP_str {s : ByteArray} {K : ByteArray → Prop} : (@strP (.string s) ⟨K⟩) = K s := rfl
def ptrP (v : Value) [K : Kn (Addr → Prop)] : Prop :=
  match v with
  | .pointer (some a) => K.k a
  | _ => False
theorem ptrP_congr {v u : Value} {K : Addr → Prop} (h : v = u) : (@ptrP v ⟨K⟩) = (@ptrP u ⟨K⟩) := by rw [h]
theorem ptrP_ptr {a : Addr} {K : Addr → Prop} : (@ptrP (.pointer (some a)) ⟨K⟩) = K a := rfl
def optP {α : Type} (o : Option α) [K : Kn (α → Prop)] : Prop :=
  match o with
  | some a => K.k a
  | none => False
theorem optP_congr {α : Type} {v u : Option α} {K : α → Prop} (h : v = u) : (@optP _ v ⟨K⟩) = (@optP _ u ⟨K⟩) := by rw [h]
theorem optP_some {α : Type} {a : α} {K : α → Prop} : (@optP _ (some a) ⟨K⟩) = K a := rfl
theorem optP_none {α : Type} {K : α → Prop} : (@optP _ none ⟨K⟩) = False := rfl
theorem optP_ite {α : Type} {p : Prop} [Decidable p] {x y : Option α} {K : α → Prop} : (@optP _ (if p then x else y) ⟨K⟩) = if p then (@optP _ x ⟨K⟩) else (@optP _ y ⟨K⟩) := by split <;> rfl
theorem oldP_congr {l l' : List Nat} {bs bs' : Nat} {A : Prop} (h : l = l') (h2 : bs = bs') : (@oldP l bs ⟨A⟩) = (@oldP l' bs' ⟨A⟩) := by rw [h, h2]
theorem oldP_nil {bs : Nat} {A : Prop} : (@oldP [] bs ⟨A⟩) = A := rfl
theorem oldP_one {b bs : Nat} {A : Prop} : (@oldP [b] bs ⟨A⟩) = if b < bs then A else False := by
  unfold oldP; simp only [List.all_cons, List.all_nil, Bool.and_true, decide_eq_true_eq]
def andP (p : Prop) [A : Kn Prop] : Prop := p ∧ A.k
theorem andP_congr {p q A : Prop} (h : p = q) : (@andP p ⟨A⟩) = (@andP q ⟨A⟩) := by rw [h]
theorem andP_true {A : Prop} : (@andP True ⟨A⟩) = A := by simp [andP]
theorem andP_eq {p A : Prop} (h : p) : (@andP p ⟨A⟩) = A := by simp [andP, h]

theorem bindP_if {c : Prop} [Decidable c] {v : Value} {H : AH} {K : Value → AH → Prop} : (@bindP (if c then some (v, H) else none) ⟨K⟩) = (@andP c ⟨K v H⟩) := by
  by_cases h : c <;> simp [h, bindP, andP]
variable {f : Fr} {H : AH} {K : Value → AH → Prop}
theorem rn_mov {x : Operand} : RunP tbl (.mov x) f H K = (@letP (ev f x) ⟨fun v => K v H⟩) := rn_op rfl
theorem rn_pick {c a b : Operand} : RunP tbl (.pick c a b) f H K = (@pickP (ev f c) (ev f a) (ev f b) ⟨fun v => K v H⟩) := by
  rw [rn_op rfl]; simp only [evM]
  cases ev f c <;> rfl
theorem rn_bin {tk : TK} {op : BinOp} {x y : Operand} : RunP tbl (.bin tk op x y) f H K = (@bindV (binV tk op (ev f x) (ev f y)) ⟨fun v => K v H⟩) := by
  rw [rn_op rfl]; simp only [evM]
  cases binV tk op (ev f x) (ev f y) <;> rfl
def aggV (neq : Bool) (offs : List (Nat × TK)) : Value → Value → Option Value
  | .agg a, .agg b => (match eqAt a.toList b.toList offs with | some t => some (.bool (if neq = true then !t else t)) | none => none)
  | _, _ => none
theorem rn_eqc {neq : Bool} {offs : List (Nat × TK)} {x y : Operand} : RunP tbl (.eqc neq offs x y) f H K = (@bindV (aggV neq offs (ev f x) (ev f y)) ⟨fun v => K v H⟩) := by
  rw [rn_op rfl]; simp only [evM, aggV]
  cases ev f x <;> try rfl
  cases ev f y <;> try rfl
  rename_i a b
  simp only
  cases eqAt a.toList b.toList offs <;> rfl
theorem rn_un {op : UnOp} {x : Operand} : RunP tbl (.un op x) f H K = (@bindV (unV op (ev f x)) ⟨fun v => K v H⟩) := by
  rw [rn_op rfl]; simp only [evM]
  cases unV op (ev f x) <;> rfl
theorem rn_conv {k : IntKind} {x : Operand} : RunP tbl (.conv k x) f H K = (@intP (ev f x) ⟨fun n => (@letP (.int k (k.wrap n)) ⟨fun v => K v H⟩)⟩) := by
  rw [rn_op rfl]; simp only [evM]
  cases ev f x <;> rfl
theorem rn_strMov {x : Operand} : RunP tbl (.strMov x) f H K = (@strP (ev f x) ⟨fun s => K (.string s) H⟩) := by
  rw [rn_op rfl]; simp only [evM]
  cases ev f x <;> rfl
def slcBytes (H : AH) : Value → Option ByteArray
  | .slice none _ _ => some ⟨#[]⟩
  | .slice (some a) n _ => (match ldc H a n with
      | some l => (match bytesOf l with | some bs => some ⟨bs.toArray⟩ | none => none)
      | none => none)
  | _ => none
theorem rn_toStr {x : Operand} : RunP tbl (.toStr x) f H K = (@optP _ (slcBytes H (ev f x)) ⟨fun s => K (.string s) H⟩) := by
  rw [rn_op rfl]; simp only [evM, slcBytes]
  cases ev f x <;> try rfl
  rename_i a n c
  cases a <;> try rfl
  rename_i a
  simp only
  cases ldc H a n <;> try rfl
  rename_i l
  simp only
  cases bytesOf l <;> rfl
theorem rn_toBytes {x : Operand} : RunP tbl (.toBytes x) f H K = (@strP (ev f x) ⟨fun s => (@andP (s.size ≤ 140737488355328) ⟨K (.slice (some ⟨H.next, 0, none⟩) s.size s.size) (H.push ⟨byteCells s, 1, false⟩)⟩)⟩) := by
  rw [rn_op rfl]; simp only [evM]
  cases ev f x <;> try rfl
  exact bindP_if
theorem rn_alloc {zero : List Value} {es : Nat} : RunP tbl (.alloc zero es) f H K = K (.pointer (some ⟨H.next, 0, none⟩)) (H.push ⟨zero, es, false⟩) := rn_op rfl
theorem rn_box {es : Nat} {x : Operand} : RunP tbl (.box es x) f H K = (@letP (ev f x) ⟨fun v => (@andP (v.cells.toList.all one = true) ⟨K (.pointer (some ⟨H.next, 0, none⟩)) (H.push ⟨v.cells.toList, es, false⟩)⟩)⟩) := by
  rw [rn_op rfl]; simp only [evM, letP]
  exact bindP_if
def partsV (f : Fr) : List (Nat × Nat × Operand) → List (Nat × Nat × Value)
  | [] => []
  | p :: r => (p.1, p.2.1, ev f p.2.2) :: partsV f r
theorem partsV_eq (ps : List (Nat × Nat × Operand)) : (ps.map fun p => (p.1, p.2.1, ev f p.2.2)) = partsV f ps := by
  induction ps with
  | nil => rfl
  | cons p r ih => simp only [List.map_cons, partsV, ih]
theorem rn_build {zero : List Value} {parts : List (Nat × Nat × Operand)} : RunP tbl (.build zero parts) f H K = (@optP _ (fillC zero (partsV f parts)) ⟨fun cs => K (.agg cs.toArray) H⟩) := by
  rw [rn_op rfl]; simp only [evM, partsV_eq]
  cases fillC zero (partsV f parts) <;> rfl
theorem rn_buildSlice {zero : List Value} {es n : Nat} {parts : List (Nat × Nat × Operand)} : RunP tbl (.buildSlice zero es n parts) f H K = (@optP _ (fillC zero (partsV f parts)) ⟨fun cs => (@andP (cs.all one = true) ⟨K (.slice (some ⟨H.next, 0, none⟩) n n) (H.push ⟨cs, es, false⟩)⟩)⟩) := by
  rw [rn_op rfl]; simp only [evM, partsV_eq]
  cases fillC zero (partsV f parts) <;> try rfl
  exact bindP_if
theorem rn_load {agg : Bool} {n : Nat} {a : Operand} : RunP tbl (.load agg n a) f H K = (@ptrP (ev f a) ⟨fun p => (@optP _ (ldc H p n) ⟨fun cs => (@bindV (oneOf agg cs) ⟨fun v => K v H⟩)⟩)⟩) := by
  rw [rn_op rfl]; simp only [evM]
  cases ev f a <;> try rfl
  rename_i p
  cases p <;> try rfl
  rename_i p
  simp only [ptrP]
  cases ldc H p n <;> try rfl
  rename_i cs
  simp only [optP]
  cases oneOf agg cs <;> rfl
theorem rn_store {n : Nat} {a x : Operand} : RunP tbl (.store n a x) f H K = (@ptrP (ev f a) ⟨fun p => (@letP (ev f x) ⟨fun v => (@andP (v.cells.size = n) ⟨(@optP _ (stc H p v.cells.toList) ⟨fun H' => K undef H'⟩)⟩)⟩)⟩) := by
  rw [rn_op rfl]; simp only [evM]
  cases ev f a <;> try rfl
  rename_i p
  cases p <;> try rfl
  rename_i p
  simp only [ptrP, letP, andP]
  split
  · rename_i h
    simp only [h, true_and]
    cases stc H p (ev f x).cells.toList <;> rfl
  · rename_i h; simp [h, bindP]
def farV (v : Value) (b : Nat) : Bool := match v with | .pointer (some q) => decide (q.block ≠ b) | _ => false
theorem farB_nil {b : Nat} : farB f [] b = true := rfl
theorem farB_cons {t : Tmp} {r : List Tmp} {b : Nat} : farB f (t :: r) b = (farV (f t) b && farB f r b) := rfl
theorem farV_ptr {q : Addr} {b : Nat} : farV (.pointer (some q)) b = decide (q.block ≠ b) := rfl
theorem rn_storeX {n : Nat} {a x : Operand} {far : List Tmp} : RunP tbl (.storeX n a x far) f H K = (@ptrP (ev f a) ⟨fun p => (@andP (farB f far p.block = true) ⟨(@letP (ev f x) ⟨fun v => (@andP (v.cells.size = n) ⟨(@optP _ (stc H p v.cells.toList) ⟨fun H' => K undef H'⟩)⟩)⟩)⟩)⟩) := by
  rw [rn_op rfl]; simp only [evM]
  cases ev f a <;> try rfl
  rename_i p
  cases p <;> try rfl
  rename_i p
  simp only [ptrP, letP, andP]
  split
  · rename_i h0
    simp only [h0, true_and]
    split
    · rename_i h
      simp only [h, true_and]
      cases stc H p (ev f x).cells.toList <;> rfl
    · rename_i h; simp [h, bindP]
  · rename_i h; simp [h, bindP]
theorem rn_boxDead {x : Operand} : RunP tbl (.boxDead x) f H K = (@andP (0 < H.next ∧ (H.get 0).isNone = true) ⟨K (.pointer (some ⟨0, 0, none⟩)) H⟩) := by
  rw [rn_op rfl]; simp only [evM]
  exact bindP_if
theorem rn_newMap : RunP tbl .newMap f H K = K (.map (some 0)) H := rn_op rfl
def nilV : Value → Option Value
  | .pointer (some p) => some (.pointer (some p))
  | .func (.func g) a b => some (.func (.func g) a b)
  | _ => none
theorem rn_nilCheck {x : Operand} : RunP tbl (.nilCheck x) f H K = (@bindV (nilV (ev f x)) ⟨fun v => K v H⟩) := by
  rw [rn_op rfl]; simp only [evM, nilV]
  cases ev f x <;> try rfl
  · rename_i p; cases p <;> rfl
  · rename_i fn a b; cases fn <;> rfl
theorem rn_addOff {o : Nat} {x : Operand} : RunP tbl (.addOff o x) f H K = (@ptrP (ev f x) ⟨fun p => K (.pointer (some (addA p o))) H⟩) := by
  rw [rn_op rfl]; simp only [evM]
  cases ev f x <;> try rfl
  rename_i p; cases p <;> rfl
def idxSP (v : Value) (es : Nat) (i : Int) [K : Kn (Value → Prop)] : Prop :=
  match v with
  | .slice (some a) n _ => (@andP (0 ≤ i ∧ i < n) ⟨K.k (.pointer (some (addA a (i.toNat * es))))⟩)
  | _ => False
theorem rn_idxS {es : Nat} {x i : Operand} : RunP tbl (.idxS es x i) f H K = (@intP (ev f i) ⟨fun j => (@letP (ev f x) ⟨fun v => (@idxSP v es j ⟨fun v => K v H⟩)⟩)⟩) := by
  rw [rn_op rfl]; simp only [evM, letP]
  cases ev f i <;> (cases ev f x <;> try rfl)
  all_goals rename_i a n c; cases a
  all_goals try rfl
  all_goals exact bindP_if
theorem rn_idxA {len es : Nat} {x i : Operand} : RunP tbl (.idxA len es x i) f H K = (@intP (ev f i) ⟨fun j => (@ptrP (ev f x) ⟨fun a => (@andP (0 ≤ j ∧ j < len) ⟨K (.pointer (some (addA a (j.toNat * es)))) H⟩)⟩)⟩) := by
  rw [rn_op rfl]; simp only [evM]
  cases ev f i <;> (cases ev f x <;> try rfl)
  all_goals rename_i a; cases a
  all_goals try rfl
  all_goals exact bindP_if
def fieldV (agg : Bool) (off n : Nat) : Value → Option Value
  | .agg cs => if off + n ≤ cs.size then oneOf agg ((cs.toList.drop off).take n) else none
  | _ => none
theorem rn_field {agg : Bool} {off n : Nat} {x : Operand} : RunP tbl (.field agg off n x) f H K = (@bindV (fieldV agg off n (ev f x)) ⟨fun v => K v H⟩) := by
  rw [rn_op rfl]; simp only [evM, fieldV]
  cases ev f x <;> try rfl
  simp only
  split
  · cases oneOf agg _ <;> rfl
  · rfl
theorem rn_strIdx {x i : Operand} : RunP tbl (.strIdx x i) f H K = (@strP (ev f x) ⟨fun s => (@intP (ev f i) ⟨fun j => (@andP (0 ≤ j ∧ j < s.size) ⟨K (.int .u8 (s.data.toList.getD j.toNat 0).toNat) H⟩)⟩)⟩) := by
  rw [rn_op rfl]; simp only [evM]
  cases ev f x <;> try rfl
  cases ev f i <;> try rfl
  exact bindP_if
def aggAt (agg : Bool) (len es : Nat) (j : Int) : Value → Option Value
  | .agg cs => if 0 ≤ j ∧ j < len ∧ j.toNat * es + es ≤ cs.size then oneOf agg ((cs.toList.drop (j.toNat * es)).take es) else none
  | _ => none
theorem rn_arrIdx {agg : Bool} {len es : Nat} {x i : Operand} : RunP tbl (.arrIdx agg len es x i) f H K = (@intP (ev f i) ⟨fun j => (@bindV (aggAt agg len es j (ev f x)) ⟨fun v => K v H⟩)⟩) := by
  rw [rn_op rfl]; simp only [evM, aggAt]
  cases ev f i <;> (cases ev f x <;> try rfl)
  rename_i k n cs
  by_cases h : 0 ≤ n ∧ n < len ∧ n.toNat * es + es ≤ cs.size
  · simp only [intP, aggAt, if_pos h]
    cases oneOf agg ((cs.toList.drop (n.toNat * es)).take es) <;> rfl
  · simp only [intP, aggAt, if_neg h]; rfl
theorem rn_sliceStr {x : Operand} {lo hi : Option Operand} : RunP tbl (.sliceStr x lo hi) f H K = (@strP (ev f x) ⟨fun s => (@optP _ (bound f hi s.size s.size) ⟨fun h => (@optP _ (bound f lo 0 h) ⟨fun l => K (.string (s.extract l h)) H⟩)⟩)⟩) := by
  rw [rn_op rfl]; simp only [evM]
  cases ev f x <;> try rfl
  rename_i s
  simp only [strP]
  cases bound f hi s.size s.size <;> try rfl
  rename_i h
  simp only [optP]
  cases bound f lo 0 h <;> rfl
def slcAt (H : AH) (es : Nat) : Value → Nat → Nat → Option Value
  | .slice a n c, l, h => if h ≤ c then (match a with
          | none => some (.slice none (h - l) (c - l))
          | some p => (match H.get p.block with
            | some b => if b.es = es then
                if l = 0 then some (.slice (some p) h c)
                else if l < c then some (.slice (some (addA p (l * es))) (h - l) (c - l))
                else if H.get 0 = none then some (.slice (some ⟨0, 0, none⟩) 0 0) else none
              else none
            | none => none)) else none
  | _, _, _ => none
def slcN (v : Value) [K : Kn (Nat → Nat → Prop)] : Prop :=
  match v with
  | .slice _ n c => K.k n c
  | _ => False
theorem slcN_congr {v u : Value} {K : Nat → Nat → Prop} (h : v = u) : (@slcN v ⟨K⟩) = (@slcN u ⟨K⟩) := by rw [h]
theorem slcN_eq {a : Option Addr} {n c : Nat} {K : Nat → Nat → Prop} : (@slcN (.slice a n c) ⟨K⟩) = K n c := rfl
theorem rn_sliceS {es : Nat} {x : Operand} {lo hi : Option Operand} : RunP tbl (.sliceS es x lo hi) f H K = (@slcN (ev f x) ⟨fun n c => (@optP _ (bound f hi n c) ⟨fun h => (@optP _ (bound f lo 0 h) ⟨fun l => (@bindV (slcAt H es (ev f x) l h) ⟨fun v => K v H⟩)⟩)⟩)⟩) := by
  rw [rn_op rfl]; simp only [evM]
  cases ev f x <;> try rfl
  rename_i a n c
  simp only [slcN]
  cases bound f hi n c <;> try rfl
  rename_i h
  simp only [optP]
  cases bound f lo 0 h <;> try rfl
  rename_i l
  simp only [slcAt]
  split
  · cases a <;> try rfl
    rename_i p
    simp only
    cases H.get p.block <;> try rfl
    simp only
    (repeat' split) <;> rfl
  · rfl
theorem rn_sliceA {len es : Nat} {x : Operand} {lo hi : Option Operand} : RunP tbl (.sliceA len es x lo hi) f H K = (@ptrP (ev f x) ⟨fun p => (@optP _ (bound f hi len len) ⟨fun h => (@optP _ (bound f lo 0 h) ⟨fun l => (@optP _ (H.get p.block) ⟨fun b => (@andP (b.es = es ∧ p.off + len * es ≤ b.cells.length) ⟨K (.slice (some (if len = l then p else addA p (l * es))) (h - l) (len - l)) H⟩)⟩)⟩)⟩)⟩) := by
  rw [rn_op rfl]; simp only [evM]
  cases ev f x <;> try rfl
  rename_i p
  cases p <;> try rfl
  rename_i p
  simp only [ptrP]
  cases bound f hi len len <;> try rfl
  rename_i h
  simp only [optP]
  cases bound f lo 0 h <;> try rfl
  rename_i l
  simp only
  cases H.get p.block <;> try rfl
  exact bindP_if
theorem rn_toArr {n : Nat} {x : Operand} : RunP tbl (.toArr n x) f H K = (@bindV (match ev f x with | .slice (some a) l _ => if n ≤ l then some (.pointer (some a)) else none | _ => none) ⟨fun v => K v H⟩) := by
  rw [rn_op rfl]; simp only [evM]
  cases ev f x <;> try rfl
  rename_i a l c
  cases a <;> try rfl
  simp only
  split <;> rfl
theorem rn_mkIface {t : TypeId} {x : Operand} : RunP tbl (.mkIface t x) f H K = (@letP (ev f x) ⟨fun v => K (.iface t v) H⟩) := rn_op rfl
def evL (f : Fr) : List Operand → List Value
  | [] => []
  | x :: l => ev f x :: evL f l
theorem evL_eq (l : List Operand) : l.map (ev f) = evL f l := by
  induction l with
  | nil => rfl
  | cons x l ih => simp only [List.map_cons, evL, ih]
theorem rn_mkFunc {fn : Fn} {a b : List Operand} : RunP tbl (.mkFunc fn a b) f H K = (@letP (.func fn (evL f a).toArray (evL f b).toArray) ⟨fun v => K v H⟩) := by
  rw [rn_op rfl]; simp only [evM, evL_eq, bindP, letP]
theorem rn_mkSlice {zero : List Value} {es bytes : Nat} {l c : Operand} : RunP tbl (.mkSlice zero es bytes l c) f H K = (@intP (ev f l) ⟨fun n => (@intP (ev f c) ⟨fun m => (@andP (0 ≤ n ∧ n ≤ m ∧ m.toNat * bytes ≤ 140737488355328 ∧ m ≤ 9223372036854775807) ⟨K (.slice (some ⟨H.next, 0, none⟩) n.toNat m.toNat) (H.push ⟨rep m.toNat zero, es, false⟩)⟩)⟩)⟩) := by
  rw [rn_op rfl]; simp only [evM]
  cases ev f l <;> try rfl
  cases ev f c <;> try rfl
  simp only [intP, andP]
  split
  · rename_i h; simp only [h, bindP]; simp
  · rename_i h; simp only [h, bindP]; simp
theorem rn_extract {x : Operand} {i : Nat} : RunP tbl (.extract x i) f H K = (@bindV (match ev f x with | .tuple vs => vs[i]? | _ => none) ⟨fun v => K v H⟩) := by
  rw [rn_op rfl]; simp only [evM]
  cases ev f x <;> try rfl
  rename_i vs
  simp only
  cases vs[i]? <;> rfl
theorem rn_append {es bytes : Nat} {s x : Operand} : RunP tbl (.append es bytes s x) f H K = (@optP _ (added H es (ev f x)) ⟨fun p => (@bindP (appended H es bytes (ev f s) p.1 p.2) ⟨K⟩)⟩) := by
  rw [rn_op rfl]; simp only [evM]
  cases added H es (ev f x) <;> rfl
theorem rn_copy {es : Nat} {d s : Operand} : RunP tbl (.copy es d s) f H K = (@bindP (evM (.copy es d s) f H) ⟨K⟩) := rn_op rfl
theorem rn_len {x : Operand} : RunP tbl (.len x) f H K = (@slcN (ev f x) ⟨fun n _ => K (.int .i64 n) H⟩) := by
  rw [rn_op rfl]; simp only [evM]
  cases ev f x <;> rfl
theorem rn_lenStr {x : Operand} : RunP tbl (.lenStr x) f H K = (@strP (ev f x) ⟨fun s => K (.int .i64 s.size) H⟩) := by
  rw [rn_op rfl]; simp only [evM]
  cases ev f x <;> rfl
theorem rn_lenC {n : Nat} : RunP tbl (.lenC n) f H K = K (.int .i64 n) H := rn_op rfl
theorem rn_cap {x : Operand} : RunP tbl (.cap x) f H K = (@bindV (match ev f x with | .slice none _ c => some (.int .i64 c) | _ => none) ⟨fun v => K v H⟩) := by
  rw [rn_op rfl]; simp only [evM]
  cases ev f x <;> try rfl
  rename_i a n c
  cases a <;> rfl
theorem rn_min {x : Operand} {xs : List Operand} : RunP tbl (.min x xs) f H K = (@bindV (foldV minV (ev f x) (evL f xs)) ⟨fun v => K v H⟩) := by
  rw [rn_op rfl]; simp only [evM, evL_eq]
  cases foldV minV (ev f x) (evL f xs) <;> rfl
theorem rn_max {x : Operand} {xs : List Operand} : RunP tbl (.max x xs) f H K = (@bindV (foldV maxV (ev f x) (evL f xs)) ⟨fun v => K v H⟩) := by
  rw [rn_op rfl]; simp only [evM, evL_eq]
  cases foldV maxV (ev f x) (evL f xs) <;> rfl

/-! ### Values -/
theorem put_some {d : Tmp} {v : Value} : put f (some d) v = upd f d v := rfl
theorem put_none {v : Value} : put f none v = f := rfl
theorem upd_at {d t : Tmp} {v : Value} : upd f d v t = if t = d then v else f t := rfl
theorem bin_add {k : IntKind} {a b : Int} : binV .int .add (.int k a) (.int k b) = some (.int k (k.wrap (a + b))) := by simp [binV, intBin]
theorem bin_sub {k : IntKind} {a b : Int} : binV .int .sub (.int k a) (.int k b) = some (.int k (k.wrap (a - b))) := by simp [binV, intBin]
theorem bin_mul {k : IntKind} {a b : Int} : binV .int .mul (.int k a) (.int k b) = some (.int k (k.wrap (a * b))) := by simp [binV, intBin]
theorem bin_eql {k : IntKind} {a b : Int} : binV .int .eql (.int k a) (.int k b) = some (.bool (decide (a = b))) := by simp [binV, intBin]
theorem bin_neq {k : IntKind} {a b : Int} : binV .int .neq (.int k a) (.int k b) = some (.bool (!decide (a = b))) := by simp [binV, intBin]
theorem bin_lss {k : IntKind} {a b : Int} : binV .int .lss (.int k a) (.int k b) = some (.bool (decide (a < b))) := by simp [binV, intBin]
theorem bin_leq {k : IntKind} {a b : Int} : binV .int .leq (.int k a) (.int k b) = some (.bool (decide (a ≤ b))) := by simp [binV, intBin]
theorem bin_gtr {k : IntKind} {a b : Int} : binV .int .gtr (.int k a) (.int k b) = some (.bool (decide (b < a))) := by simp [binV, intBin]
theorem bin_geq {k : IntKind} {a b : Int} : binV .int .geq (.int k a) (.int k b) = some (.bool (decide (b ≤ a))) := by simp [binV, intBin]
theorem bin_and {k : IntKind} {a b : Int} : binV .int .and (.int k a) (.int k b) = some (.int k (bitsK .and k a b)) := by simp [binV, intBin]
theorem bin_or {k : IntKind} {a b : Int} : binV .int .or (.int k a) (.int k b) = some (.int k (bitsK .or k a b)) := by simp [binV, intBin]
theorem bin_xor {k : IntKind} {a b : Int} : binV .int .xor (.int k a) (.int k b) = some (.int k (bitsK .xor k a b)) := by simp [binV, intBin]
theorem bin_andNot {k : IntKind} {a b : Int} : binV .int .andNot (.int k a) (.int k b) = some (.int k (bitsK .andNot k a b)) := by simp [binV, intBin]
theorem bin_quo {k : IntKind} {a b : Int} : binV .int .quo (.int k a) (.int k b) = if b = 0 then none else some (.int k (k.wrap (a.tdiv b))) := by simp [binV, intBin]
theorem bin_rem {k : IntKind} {a b : Int} : binV .int .rem (.int k a) (.int k b) = if b = 0 then none else some (.int k (a.tmod b)) := by simp [binV, intBin]
theorem bin_shl {k k' : IntKind} {a b : Int} : binV .int .shl (.int k a) (.int k' b) = if b < 0 then none else some (.int k (shiftK .shl k a b)) := by simp [binV, shBin]
theorem bin_shr {k k' : IntKind} {a b : Int} : binV .int .shr (.int k a) (.int k' b) = if b < 0 then none else some (.int k (shiftK .shr k a b)) := by simp [binV, shBin]
theorem bin_beq {a b : Bool} : binV .bool .eql (.bool a) (.bool b) = some (.bool (a == b)) := rfl
theorem bin_bne {a b : Bool} : binV .bool .neq (.bool a) (.bool b) = some (.bool (!(a == b))) := rfl
theorem bin_cat {a b : ByteArray} : binV .str .add (.string a) (.string b) = if a.size + b.size ≤ 9223372036854775807 then some (.string (a ++ b)) else none := rfl
theorem bin_seq {a b : ByteArray} : binV .str .eql (.string a) (.string b) = some (.bool (decide (a = b))) := rfl
theorem bin_sne {a b : ByteArray} : binV .str .neq (.string a) (.string b) = some (.bool (!decide (a = b))) := rfl
theorem bin_nilL {b : Option Addr} : binV .ptr .eql (.pointer none) (.pointer b) = some (.bool b.isNone) := rfl
theorem bin_nilR {a : Option Addr} : binV .ptr .eql (.pointer a) (.pointer none) = some (.bool a.isNone) := by cases a <;> rfl
theorem bin_nilLn {b : Option Addr} : binV .ptr .neq (.pointer none) (.pointer b) = some (.bool (!b.isNone)) := rfl
theorem bin_nilRn {a : Option Addr} : binV .ptr .neq (.pointer a) (.pointer none) = some (.bool (!a.isNone)) := by cases a <;> rfl
theorem bin_slcR {a : Option Addr} {n c m k : Nat} : binV .slc .eql (.slice a n c) (.slice none m k) = some (.bool a.isNone) := by cases a <;> rfl
theorem bin_slcRn {a : Option Addr} {n c m k : Nat} : binV .slc .neq (.slice a n c) (.slice none m k) = some (.bool (!a.isNone)) := by cases a <;> rfl
theorem bin_ifcR {t : TypeId} {v : Value} : binV .ifc .eql (.iface t v) .nilIface = some (.bool false) := rfl
theorem bin_ifcRn {t : TypeId} {v : Value} : binV .ifc .neq (.iface t v) .nilIface = some (.bool true) := rfl
theorem un_not {b : Bool} : unV .not (.bool b) = some (.bool (!b)) := rfl
theorem un_neg {k : IntKind} {n : Int} : unV .neg (.int k n) = some (.int k (k.wrap (0 - n))) := rfl
theorem un_xor {k : IntKind} {n : Int} : unV .xor (.int k n) = some (.int k (bitsK .xor k (if k.signed then -1 else k.max) n)) := rfl
theorem foldV_nil {g : Value → Value → Option Value} {v : Value} : foldV g v [] = some v := rfl
theorem foldV_min {k k' : IntKind} {a b : Int} {l : List Value} : foldV minV (.int k a) (.int k' b :: l) = foldV minV (.int k (if b < a then b else a)) l := rfl
theorem foldV_max {k k' : IntKind} {a b : Int} {l : List Value} : foldV maxV (.int k a) (.int k' b :: l) = foldV maxV (.int k (if a < b then b else a)) l := rfl
theorem oneOf_one {v : Value} : oneOf false [v] = some v := rfl
theorem oneOf_agg {l : List Value} : oneOf true l = some (.agg l.toArray) := rfl
theorem back_p3 {H : AH} {v : Value} {H1 : AH} (h : ¬ H1.low < H.next) (hp : p3 v = true) : back H H1 v = (v, H) := by
  unfold back; rw [if_neg h, if_pos hp]
theorem finQ_normal {H H' : AH} {rs : List MRes} {Q : Value → AH → Prop} {f' : Fr} : finQ H rs Q .normal f' H' = (@optP _ (resL f' H' rs) ⟨fun vs => (@letP (tupV vs) ⟨fun v => Q (back H H' v).1 (back H H' v).2⟩)⟩) := by
  simp only [finQ]; cases resL f' H' rs <;> rfl
theorem finQ_ret {H H' : AH} {rs : List MRes} {Q : Value → AH → Prop} {f' : Fr} : finQ H rs Q .ret f' H' = (@optP _ (resL f' H' rs) ⟨fun vs => (@letP (tupV vs) ⟨fun v => Q (back H H' v).1 (back H H' v).2⟩)⟩) := by
  simp only [finQ]; cases resL f' H' rs <;> rfl
theorem resL_nil {H : AH} : resL f H [] = some [] := rfl
theorem resL_tmp {H : AH} {t : Tmp} {l : List MRes} : resL f H (.tmp t :: l) = (resL f H l).map fun vs => f t :: vs := by
  simp only [resL, resV]; cases resL f H l <;> rfl
theorem tupV_one {v : Value} : tupV [v] = v := rfl
theorem tupV_nil : tupV [] = .tuple #[] := rfl
theorem tupV_two {u v : Value} {l : List Value} : tupV (u :: v :: l) = .tuple (u :: v :: l).toArray := rfl
theorem back_int {H : AH} {k : IntKind} {n : Int} {H1 : AH} (h : ¬ H1.low < H.next) : back H H1 (.int k n) = (.int k n, H) := back_p3 h rfl
theorem p3_bool {b : Bool} : p3 (.bool b) = true := (And.intro rfl trivial : _ ∧ True).1
theorem p3_int {k : IntKind} {n : Int} : p3 (.int k n) = true := (And.intro rfl trivial : _ ∧ True).1
theorem p3_str {s : ByteArray} : p3 (.string s) = true := (And.intro rfl trivial : _ ∧ True).1
theorem p3_undef : p3 undef = true := (And.intro rfl trivial : _ ∧ True).1
theorem p3_nilS {n c : Nat} : p3 (.slice none n c) = true := (And.intro rfl trivial : _ ∧ True).1
theorem p3_nilP : p3 (.pointer none) = true := (And.intro rfl trivial : _ ∧ True).1
theorem p3_tup {l : List Value} : p3 (.tuple l.toArray) = l.all p2 := (And.intro rfl trivial : _ ∧ True).1
theorem p2_bool {b : Bool} : p2 (.bool b) = true := (And.intro rfl trivial : _ ∧ True).1
theorem p2_int {k : IntKind} {n : Int} : p2 (.int k n) = true := (And.intro rfl trivial : _ ∧ True).1
theorem p2_str {s : ByteArray} : p2 (.string s) = true := (And.intro rfl trivial : _ ∧ True).1
theorem p2_nilS {n c : Nat} : p2 (.slice none n c) = true := (And.intro rfl trivial : _ ∧ True).1
theorem p2_nilP : p2 (.pointer none) = true := (And.intro rfl trivial : _ ∧ True).1
theorem cells_agg {a : Array Value} : (Value.agg a).cells = a := rfl
theorem cells_int {k : IntKind} {n : Int} : (Value.int k n).cells = #[.int k n] := rfl
theorem cells_bool {b : Bool} : (Value.bool b).cells = #[.bool b] := rfl
theorem cells_str {s : ByteArray} : (Value.string s).cells = #[.string s] := rfl
theorem cells_ptr {a : Option Addr} : (Value.pointer a).cells = #[.pointer a] := rfl
theorem cells_slc {a : Option Addr} {n c : Nat} : (Value.slice a n c).cells = #[.slice a n c] := rfl
theorem cells_func {fn : Fn} {a b : Array Value} : (Value.func fn a b).cells = #[.func fn a b] := rfl
theorem one_map {a : Option Nat} : one (.map a) = true := (And.intro rfl trivial : _ ∧ True).1
theorem cells_map {a : Option Nat} : (Value.map a).cells = #[.map a] := rfl
theorem one_iface {t : TypeId} {v : Value} : one (.iface t v) = true := (And.intro rfl trivial : _ ∧ True).1
theorem cells_iface {t : TypeId} {v : Value} : (Value.iface t v).cells = #[.iface t v] := rfl
theorem one_nilI : one .nilIface = true := (And.intro rfl trivial : _ ∧ True).1
theorem cells_nilI : (Value.nilIface).cells = #[.nilIface] := rfl
theorem one_int {k : IntKind} {n : Int} : one (.int k n) = true := (And.intro rfl trivial : _ ∧ True).1
theorem one_bool {b : Bool} : one (.bool b) = true := (And.intro rfl trivial : _ ∧ True).1
theorem one_str {s : ByteArray} : one (.string s) = true := (And.intro rfl trivial : _ ∧ True).1
theorem one_ptr {a : Option Addr} : one (.pointer a) = true := (And.intro rfl trivial : _ ∧ True).1
theorem one_slc {a : Option Addr} {n c : Nat} : one (.slice a n c) = true := (And.intro rfl trivial : _ ∧ True).1
theorem one_func {fn : Fn} {a b : Array Value} : one (.func fn a b) = true := (And.intro rfl trivial : _ ∧ True).1
def ldcB : Option Blk → Nat → Nat → Option (List Value)
  | some b, off, n => if off + n ≤ b.cells.length then some ((b.cells.drop off).take n) else none
  | none, _, _ => none
theorem ldc_eq {H : AH} {a : Addr} {n : Nat} : ldc H a n = ldcB (H.get a.block) a.off n := by
  unfold ldc ldcB; cases H.get a.block <;> rfl
theorem ldcB_some {b : Blk} {off n : Nat} : ldcB (some b) off n = if off + n ≤ b.cells.length then some ((b.cells.drop off).take n) else none := rfl
theorem addA_eq {b o n : Nat} : addA ⟨b, o, none⟩ n = ⟨b, o + n, none⟩ := rfl
theorem lw_enter {H : AH} : H.enter.low = H.next := (And.intro rfl trivial : _ ∧ True).1
theorem nx_enter {H : AH} : H.enter.next = H.next := (And.intro rfl trivial : _ ∧ True).1
theorem gt_enter {H : AH} {id : Nat} : H.enter.get id = H.get id := (And.intro rfl trivial : _ ∧ True).1
theorem lw_push {H : AH} {b : Blk} : (H.push b).low = H.low := (And.intro rfl trivial : _ ∧ True).1
theorem gt_push {H : AH} {b : Blk} {id : Nat} : (H.push b).get id = if id = H.next then some b else H.get id := by
  split
  · rename_i h; subst h; exact AH.get_push_eq H b
  · rename_i h
    rcases Nat.lt_or_ge id H.next with h' | h'
    · exact AH.get_push_lt H b h'
    · have e1 : H.get id = none := by unfold AH.get; rw [List.getElem?_eq_none h']; rfl
      have e2 : (H.push b).get id = none := by
        unfold AH.get; rw [List.getElem?_eq_none (by have := AH.next_push H b; unfold AH.next at this h' h; omega)]; rfl
      rw [e1, e2]
theorem gt_set {H : AH} {b : Option Blk} {id j : Nat} (h : id < H.next) : (H.set id b).get j = if j = id then b else H.get j := by
  split
  · rename_i e; subst e; exact AH.get_set_eq H b h
  · rename_i e; exact AH.get_set_ne H b e
theorem lw_set {H : AH} {b : Option Blk} {id : Nat} : (H.set id b).low = min H.low id := rfl
theorem upd_self {d : Tmp} {v : Value} : upd f d v d = v := if_pos rfl
theorem upd_ne {d t : Tmp} {v : Value} (h : t ≠ d) : upd f d v t = f t := if_neg h
theorem ev_tmp {t : Tmp} : ev f (.tmp t) = f t := rfl
theorem ev_const {v : Value} : ev f (.const v) = v := rfl
theorem ev_func {g : FuncId} : ev f (.func g) = .func (.func g) #[] #[] := rfl
theorem entry_at {args : List Value} {t : Tmp} : entry args t = args.getD t undef := rfl
def calleeV : Value → List Value → Option (FuncId × List Value)
  | .func (.func n) first captured, args => some (n, first.toList ++ args ++ captured.toList)
  | _, _ => none
theorem calleeV_eq {n : FuncId} {a b : Array Value} {args : List Value} : calleeV (.func (.func n) a b) args = some (n, a.toList ++ args ++ b.toList) := rfl
theorem callee_eq {g : Operand} {args : List Operand} : callee f g args = calleeV (ev f g) (evL f args) := by
  unfold callee
  rw [evL_eq]
  cases ev f g <;> try rfl
  rename_i fn a b
  cases fn <;> rfl
end
end Go.Proofs.Ytidpkoaomfbljaa.AM
