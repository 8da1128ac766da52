/- Operations that read or reckon: what they give over the abstract heap, and that the model gives the same. -/
import Derived.Test.YtodklioaeooocaaA1
import Derived.Laws.Sem
set_option linter.unusedVariables false
set_option linter.unusedSimpArgs false
namespace Go.Abs
open Go.RowKit

abbrev Env := List Value
def aev (env : Env) : Operand → Value
  | .tmp t => env.getD t undef
  | .const v => v
  | .global g => .pointer (some ⟨g, 0, none⟩)
  | .func f => .func (.func f) #[] #[]
def Env.put (env : Env) (d : Option Tmp) (v : Value) : Env :=
  match d with
  | some d => env.set d v
  | none => env

def TT.ok (P : Program) (T : TT) : Prop := ∀ t i, T t = some i → P.underlying t = some i.desc ∧ ∃ j, P.info? t = some j ∧ j.size = i.size ∧ j.bytes = i.bytes ∧ j.zero = some i.zero
def TI.fine (i : TI) : Bool :=
  match i.desc, i.zero with
  | .struct _, .agg zs => zs.size == i.size
  | .array _ _, .agg zs => zs.size == i.size
  | .struct _, _ => false
  | .array _ _, _ => false
  | _, .agg _ => false
  | _, .tuple _ => false
  | _, _ => i.size == 1

/-- A choice by a Bool. -/
def pif (b : Bool) (A B : Prop) : Prop :=
  match b with
  | true => A
  | false => B
theorem pif_true {b : Bool} {A B : Prop} (h : pif b A B) : (b = true ∧ A) ∨ (b = false ∧ B) := by
  cases b
  · exact .inr ⟨rfl, h⟩
  · exact .inl ⟨rfl, h⟩

def asI (k : IntKind) (v : Value) (K : Int → Prop) : Prop :=
  match v with
  | .int k' n => pif (decide (k' = k)) (K n) False
  | _ => False
def asB (v : Value) (K : Bool → Prop) : Prop :=
  match v with
  | .bool b => K b
  | _ => False
def asS (v : Value) (K : ByteArray → Prop) : Prop :=
  match v with
  | .string s => K s
  | _ => False
def asP (v : Value) (K : Nat → Nat → Prop) : Prop :=
  match v with
  | .pointer (some ⟨b, o, none⟩) => K b o
  | _ => False
/-- A cell's value in a type's shape. -/
def shape1 (z v : Value) (K : Value → Prop) : Prop :=
  match z with
  | .int k _ => asI k v fun n => K (.int k n)
  | .bool _ => asB v fun b => K (.bool b)
  | .string _ => asS v fun s => K (.string s)
  | _ => K v
def asAgg (v : Value) (K : List Value → Prop) : Prop :=
  match v with
  | .agg ⟨l⟩ => K l
  | _ => False
def asTup (v : Value) (K : List Value → Prop) : Prop :=
  match v with
  | .tuple ⟨l⟩ => K l
  | _ => False
def agg1 (v : Value) (K : Value → Prop) : Prop := match v with | .agg ⟨[a]⟩ => K a | _ => False
def agg2 (v : Value) (K : Value → Value → Prop) : Prop := match v with | .agg ⟨[a, b]⟩ => K a b | _ => False
def agg3 (v : Value) (K : Value → Value → Value → Prop) : Prop := match v with | .agg ⟨[a, b, c]⟩ => K a b c | _ => False
def agg4 (v : Value) (K : Value → Value → Value → Value → Prop) : Prop := match v with | .agg ⟨[a, b, c, d]⟩ => K a b c d | _ => False
def tup2 (v : Value) (K : Value → Value → Prop) : Prop := match v with | .tuple ⟨[a, b]⟩ => K a b | _ => False
def tup3 (v : Value) (K : Value → Value → Value → Prop) : Prop := match v with | .tuple ⟨[a, b, c]⟩ => K a b c | _ => False
def shapeC (z v : Value) (K : Value → Prop) : Prop :=
  match z with
  | .agg ⟨zs⟩ => match zs with
    | [z1] => agg1 v fun a => shape1 z1 a fun a => K (.agg ⟨[a]⟩)
    | [z1, z2] => agg2 v fun a b => shape1 z1 a fun a => shape1 z2 b fun b => K (.agg ⟨[a, b]⟩)
    | [z1, z2, z3] => agg3 v fun a b c => shape1 z1 a fun a => shape1 z2 b fun b => shape1 z3 c fun c => K (.agg ⟨[a, b, c]⟩)
    | [z1, z2, z3, z4] => agg4 v fun a b c d => shape1 z1 a fun a => shape1 z2 b fun b => shape1 z3 c fun c => shape1 z4 d fun d => K (.agg ⟨[a, b, c, d]⟩)
    | _ => False
  | z => shape1 z v K
def shapeR (z v : Value) (K : Value → Prop) : Prop :=
  match z with
  | .tuple ⟨zs⟩ => match zs with
    | [] => asTup v fun vs => K (.tuple ⟨vs⟩)
    | [z1, z2] => tup2 v fun a b => shapeC z1 a fun a => shapeC z2 b fun b => K (.tuple ⟨[a, b]⟩)
    | [z1, z2, z3] => tup3 v fun a b c => shapeC z1 a fun a => shapeC z2 b fun b => shapeC z3 c fun c => K (.tuple ⟨[a, b, c]⟩)
    | _ => False
  | z => shapeC z v K

theorem asI_elim {k : IntKind} {v : Value} {K : Int → Prop} (h : asI k v K) : ∃ n, v = .int k n ∧ K n := by
  unfold asI at h; split at h
  · rcases pif_true h with ⟨h1, h⟩ | ⟨_, h⟩
    · exact ⟨_, by rw [of_decide_eq_true h1], h⟩
    · exact h.elim
  · exact h.elim
theorem asI_mk {k : IntKind} {n : Int} {K : Int → Prop} (h : K n) : asI k (.int k n) K := by
  unfold asI; simp only [decide_true]; exact h
theorem asB_elim {v : Value} {K : Bool → Prop} (h : asB v K) : ∃ n, v = .bool n ∧ K n := by
  unfold asB at h; split at h
  · exact ⟨_, rfl, h⟩
  · exact h.elim
theorem asS_elim {v : Value} {K : ByteArray → Prop} (h : asS v K) : ∃ n, v = .string n ∧ K n := by
  unfold asS at h; split at h
  · exact ⟨_, rfl, h⟩
  · exact h.elim
theorem asP_elim {v : Value} {K : Nat → Nat → Prop} (h : asP v K) : ∃ b o, v = .pointer (some ⟨b, o, none⟩) ∧ K b o := by
  unfold asP at h; split at h
  · exact ⟨_, _, rfl, h⟩
  · exact h.elim
theorem asAgg_elim {v : Value} {K : List Value → Prop} (h : asAgg v K) : ∃ l, v = .agg ⟨l⟩ ∧ K l := by
  unfold asAgg at h; split at h
  · exact ⟨_, rfl, h⟩
  · exact h.elim
theorem asTup_elim {v : Value} {K : List Value → Prop} (h : asTup v K) : ∃ l, v = .tuple ⟨l⟩ ∧ K l := by
  unfold asTup at h; split at h
  · exact ⟨_, rfl, h⟩
  · exact h.elim
theorem shape1_elim {z v : Value} {K : Value → Prop} (h : shape1 z v K) : K v := by
  unfold shape1 at h
  split at h
  · obtain ⟨n, e, h'⟩ := asI_elim h; rw [e]; exact h'
  · obtain ⟨n, e, h'⟩ := asB_elim h; rw [e]; exact h'
  · obtain ⟨n, e, h'⟩ := asS_elim h; rw [e]; exact h'
  · exact h
theorem agg1_elim {v : Value} {K : Value → Prop} (h : agg1 v K) : ∃ a, v = .agg ⟨[a]⟩ ∧ K a := by
  unfold agg1 at h; split at h
  · exact ⟨_, rfl, h⟩
  · exact h.elim
theorem agg2_elim {v : Value} {K : Value → Value → Prop} (h : agg2 v K) : ∃ a b, v = .agg ⟨[a, b]⟩ ∧ K a b := by
  unfold agg2 at h; split at h
  · exact ⟨_, _, rfl, h⟩
  · exact h.elim
theorem agg3_elim {v : Value} {K : Value → Value → Value → Prop} (h : agg3 v K) : ∃ a b c, v = .agg ⟨[a, b, c]⟩ ∧ K a b c := by
  unfold agg3 at h; split at h
  · exact ⟨_, _, _, rfl, h⟩
  · exact h.elim
theorem agg4_elim {v : Value} {K : Value → Value → Value → Value → Prop} (h : agg4 v K) : ∃ a b c d, v = .agg ⟨[a, b, c, d]⟩ ∧ K a b c d := by
  unfold agg4 at h; split at h
  · exact ⟨_, _, _, _, rfl, h⟩
  · exact h.elim
theorem tup2_elim {v : Value} {K : Value → Value → Prop} (h : tup2 v K) : ∃ a b, v = .tuple ⟨[a, b]⟩ ∧ K a b := by
  unfold tup2 at h; split at h
  · exact ⟨_, _, rfl, h⟩
  · exact h.elim
theorem tup3_elim {v : Value} {K : Value → Value → Value → Prop} (h : tup3 v K) : ∃ a b c, v = .tuple ⟨[a, b, c]⟩ ∧ K a b c := by
  unfold tup3 at h; split at h
  · exact ⟨_, _, _, rfl, h⟩
  · exact h.elim
theorem shapeC_elim {z v : Value} {K : Value → Prop} (h : shapeC z v K) : K v := by
  unfold shapeC at h
  split at h
  · split at h
    · obtain ⟨a, e, h⟩ := agg1_elim h; rw [e]; exact shape1_elim (K := fun a => K (.agg ⟨[a]⟩)) h
    · obtain ⟨a, b, e, h⟩ := agg2_elim h; rw [e]
      have h := shape1_elim (K := fun a => shape1 _ b fun b => K (.agg ⟨[a, b]⟩)) h
      exact shape1_elim (K := fun b => K (.agg ⟨[a, b]⟩)) h
    · obtain ⟨a, b, c, e, h⟩ := agg3_elim h; rw [e]
      have h := shape1_elim (K := fun a => shape1 _ b fun b => shape1 _ c fun c => K (.agg ⟨[a, b, c]⟩)) h
      have h := shape1_elim (K := fun b => shape1 _ c fun c => K (.agg ⟨[a, b, c]⟩)) h
      exact shape1_elim (K := fun c => K (.agg ⟨[a, b, c]⟩)) h
    · obtain ⟨a, b, c, d, e, h⟩ := agg4_elim h; rw [e]
      have h := shape1_elim (K := fun a => shape1 _ b fun b => shape1 _ c fun c => shape1 _ d fun d => K (.agg ⟨[a, b, c, d]⟩)) h
      have h := shape1_elim (K := fun b => shape1 _ c fun c => shape1 _ d fun d => K (.agg ⟨[a, b, c, d]⟩)) h
      have h := shape1_elim (K := fun c => shape1 _ d fun d => K (.agg ⟨[a, b, c, d]⟩)) h
      exact shape1_elim (K := fun d => K (.agg ⟨[a, b, c, d]⟩)) h
    · exact h.elim
  · exact shape1_elim h
theorem shapeR_elim {z v : Value} {K : Value → Prop} (h : shapeR z v K) : K v := by
  unfold shapeR at h
  split at h
  · split at h
    · obtain ⟨l, e, h'⟩ := asTup_elim h; rw [e]; exact h'
    · obtain ⟨a, b, e, h⟩ := tup2_elim h; rw [e]
      have h := shapeC_elim (K := fun a => shapeC _ b fun b => K (.tuple ⟨[a, b]⟩)) h
      exact shapeC_elim (K := fun b => K (.tuple ⟨[a, b]⟩)) h
    · obtain ⟨a, b, c, e, h⟩ := tup3_elim h; rw [e]
      have h := shapeC_elim (K := fun a => shapeC _ b fun b => shapeC _ c fun c => K (.tuple ⟨[a, b, c]⟩)) h
      have h := shapeC_elim (K := fun b => shapeC _ c fun c => K (.tuple ⟨[a, b, c]⟩)) h
      exact shapeC_elim (K := fun c => K (.tuple ⟨[a, b, c]⟩)) h
    · exact h.elim
  · exact shapeC_elim h

/-- Loads. -/
def ld1 (H : AHeap) (b o : Nat) (K : Value → Prop) : Prop :=
  match H.cell b o with
  | some v => K v
  | none => False
def ldI (k : IntKind) (H : AHeap) (b o : Nat) (K : Int → Prop) : Prop := ld1 H b o fun v => asI k v K
def ldCells (H : AHeap) (b : Nat) : Nat → List Value → (List Value → Prop) → Prop
  | _, [], K => K []
  | o, z :: zs, K => ld1 H b o fun v => shape1 z v fun v => ldCells H b (o + 1) zs fun l => K (v :: l)
def ldT (T : TT) (t : TypeId) (H : AHeap) (b o : Nat) (K : Value → Prop) : Prop :=
  match T t with
  | some i => pif i.fine (match i.zero with
    | .agg ⟨zs⟩ => ldCells H b o zs fun l => K (.agg ⟨l⟩)
    | z => ld1 H b o fun v => shape1 z v K) False
  | none => False

theorem ld1_elim {H : AHeap} {b o : Nat} {K : Value → Prop} (h : ld1 H b o K) : ∃ v, H.cell b o = some v ∧ K v := by
  unfold ld1 at h; split at h
  · exact ⟨_, by assumption, h⟩
  · exact h.elim
theorem ldCells_elim {H : AHeap} {b : Nat} : ∀ {zs : List Value} {o : Nat} {K : List Value → Prop}, ldCells H b o zs K →
    ∃ l, l.length = zs.length ∧ (∀ (i : Nat) v, l[i]? = some v → H.cell b (o + i) = some v) ∧ K l
  | [], o, K, h => ⟨[], rfl, by simp, h⟩
  | z :: zs, o, K, h => by
    obtain ⟨v, hv, h⟩ := ld1_elim h
    have h := shape1_elim h
    obtain ⟨l, hl, hc, hk⟩ := ldCells_elim (K := fun l => K (v :: l)) h
    refine ⟨v :: l, by simp [hl], fun i u hu => ?_, hk⟩
    cases i with
    | zero => simp at hu; subst hu; exact hv
    | succ i => simp at hu; have := hc i u hu; rw [← this]; congr 1; omega

def lenK (v : Value) (K : Nat → Prop) : Prop :=
  match v with
  | .slice _ n _ => K n
  | _ => False
/-- The place of an element. -/
def idxK (v : Value) (i : Int) (sz : Nat) (K : Nat → Nat → Prop) : Prop :=
  match v with
  | .slice (some ⟨b, o, none⟩) n _ => 0 ≤ i ∧ i < (n : Int) ∧ K b (o + i.toNat * sz)
  | _ => False
def bndK (i : Int) (n : Nat) (K : Prop) : Prop := pif (decide (0 ≤ i ∧ i < (n : Int))) K False
theorem bndK_iff {i : Int} {n : Nat} {K : Prop} : bndK i n K ↔ 0 ≤ i ∧ i < (n : Int) ∧ K := by
  unfold bndK
  by_cases h : 0 ≤ i ∧ i < (n : Int)
  · rw [decide_eq_true h]; exact ⟨fun k => ⟨h.1, h.2, k⟩, fun k => k.2.2⟩
  · rw [decide_eq_false h]; exact ⟨fun k => k.elim, fun k => h ⟨k.1, k.2.1⟩⟩
def sbndK (l h : Int) (n : Nat) (K : Prop) : Prop := 0 ≤ l ∧ l ≤ h ∧ h ≤ (n : Int) ∧ K
def clipK (v : Value) (K : Value → Prop) : Prop :=
  match v with
  | .slice (some a) _ _ => K (.slice (some a) 0 0)
  | .slice none 0 0 => K (.slice none 0 0)
  | _ => False
def isNilK (v : Value) (K : Bool → Prop) : Prop :=
  match v with
  | .slice a _ _ => K a.isNone
  | _ => False
def atK (cs : List Value) (i : Nat) (K : Value → Prop) : Prop :=
  match cs[i]? with
  | some v => K v
  | none => False
def nilK (v : Value) (K : Value → Prop) : Prop :=
  match v with
  | .pointer (some ⟨b, o, none⟩) => K (.pointer (some ⟨b, o, none⟩))
  | .func (.func f) xs ys => K (.func (.func f) xs ys)
  | _ => False
theorem lenK_elim {v : Value} {K : Nat → Prop} (h : lenK v K) : ∃ a n c, v = .slice a n c ∧ K n := by
  unfold lenK at h; split at h
  · exact ⟨_, _, _, rfl, h⟩
  · exact h.elim
theorem idxK_elim {v : Value} {i : Int} {sz : Nat} {K : Nat → Nat → Prop} (h : idxK v i sz K) :
    ∃ b o n c, v = .slice (some ⟨b, o, none⟩) n c ∧ 0 ≤ i ∧ i < (n : Int) ∧ K b (o + i.toNat * sz) := by
  unfold idxK at h; split at h
  · exact ⟨_, _, _, _, rfl, h⟩
  · exact h.elim

/-- Slices of slices: the bounds. -/
def loOf : Option Value → (Int → Prop) → Prop
  | none, K => K 0
  | some v, K => match v with | .int _ n => K n | _ => False
def hiOf : Option Value → Nat → (Int → Prop) → Prop
  | none, n, K => K n
  | some v, _, K => match v with | .int _ n => K n | _ => False
def rowHas (H : AHeap) (b : Nat) (e : TypeId) (n : Nat) : Prop := ∃ cs own, H[b]? = some (some (.row cs e own)) ∧ n ≤ cs.length
def sliceK (H : AHeap) (e : TypeId) (v : Value) (lo : Option Value) (hi : Option Value) (sz : Nat) (K : Value → Prop) : Prop :=
  match v with
  | .slice (some ⟨b, o, none⟩) n c => rowHas H b e (o + n * sz) ∧ loOf lo fun l => hiOf hi n fun h => 0 ≤ l ∧ l ≤ h ∧ h ≤ (n : Int) ∧ K (.slice (some ⟨b, o + l.toNat * sz, none⟩) (h.toNat - l.toNat) (h.toNat - l.toNat + 1))
  | .slice none n c => loOf lo fun l => hiOf hi n fun h => l = 0 ∧ h = 0 ∧ n = 0 ∧ c = 0 ∧ K (.slice none 0 0)
  | _ => False

def bitsOf (op : BinOp) (k : IntKind) (x y : Int) (K : Value → Prop) : Prop :=
  match op with
  | .and => K (.int k (k.wrap (BitVec.ofInt k.bits x &&& BitVec.ofInt k.bits y).toNat))
  | .or => K (.int k (k.wrap (BitVec.ofInt k.bits x ||| BitVec.ofInt k.bits y).toNat))
  | .xor => K (.int k (k.wrap (BitVec.ofInt k.bits x ^^^ BitVec.ofInt k.bits y).toNat))
  | .andNot => K (.int k (k.wrap (BitVec.ofInt k.bits x &&& ~~~BitVec.ofInt k.bits y).toNat))
  | _ => False
def shiftK (op : BinOp) (k : IntKind) (x y : Int) (K : Value → Prop) : Prop :=
  match op with
  | .shl => 0 ≤ y ∧ K (.int k (k.wrap (x * 2 ^ (min y.toNat k.bits))))
  | .shr => 0 ≤ y ∧ K (.int k (x.fdiv (2 ^ (min y.toNat k.bits))))
  | _ => False
/-- Is y not 0? Seen where it is written out. -/
def nzK (y : Int) (K : Prop) : Prop := pif (y != 0) K False
def intK (op : BinOp) (k : IntKind) (x y : Int) (K : Value → Prop) : Prop :=
  match op with
  | .add => K (.int k (k.wrap (x + y)))
  | .sub => K (.int k (k.wrap (x - y)))
  | .mul => K (.int k (k.wrap (x * y)))
  | .quo => nzK y (K (.int k (k.wrap (x.tdiv y))))
  | .rem => nzK y (K (.int k (x.tmod y)))
  | .and | .or | .xor | .andNot => bitsOf op k x y K
  | .eql => K (.bool (x == y))
  | .neq => K (.bool (x != y))
  | .lss => K (.bool (x < y))
  | .leq => K (.bool (x ≤ y))
  | .gtr => K (.bool (x > y))
  | .geq => K (.bool (x ≥ y))
  | _ => False
def strK (op : BinOp) (x y : ByteArray) (K : Value → Prop) : Prop :=
  match op with
  | .add => x.size + y.size ≤ 4611686018427387904 ∧ K (.string (x ++ y))
  | .eql => K (.bool (x.toList == y.toList))
  | .neq => K (.bool !(x.toList == y.toList))
  | .lss => K (.bool (Op.bytesLess x.toList y.toList))
  | _ => False
/-- Equality of two cells in an array of two integers. -/
def eq2K (v u : List Value) (K : Bool → Prop) : Prop :=
  match v, u with
  | [.int .i64 a, .int .i64 b], [.int .i64 c, .int .i64 d] => K ((a == c) && (b == d))
  | _, _ => False

/-- Equal or unequal. -/
def eqOp (op : BinOp) (b : Bool) (K : Value → Prop) : Prop :=
  match op with
  | .eql => K (.bool b)
  | .neq => K (.bool (!b))
  | _ => False
def intAll (op : BinOp) (k : IntKind) (x : Int) (k' : IntKind) (y : Int) (K : Value → Prop) : Prop :=
  match op with
  | .shl => shiftK .shl k x y K
  | .shr => shiftK .shr k x y K
  | op => pif (decide (k = k')) (intK op k x y K) False
def binK (T : TT) (op : BinOp) (t : TypeId) (v u : Value) (K : Value → Prop) : Prop :=
  match v, u with
  | .int k x, .int k' y => intAll op k x k' y K
  | .string x, .string y => strK op x y K
  | .bool x, .bool y => match T t with | some ⟨.bool, _, _, _⟩ => eqOp op (x == y) K | _ => False
  | .agg ⟨x⟩, .agg ⟨y⟩ => match T t with | some ⟨.array 2 e, _, _, _⟩ => (match T e with | some ⟨.int .i64, 1, _, _⟩ => eq2K x y fun b => eqOp op b K | _ => False) | _ => False
  | _, _ => False
/-- Is it nil? -/
def nilCmp (T : TT) (op : BinOp) (t : TypeId) (v : Value) (K : Value → Prop) : Prop :=
  match T t with
  | some ⟨.slice _, _, _, _⟩ => isNilK v fun b => eqOp op b K
  | _ => False
def isNilSlice (u : Value) : Bool := match u with | .slice none 0 0 => true | _ => false
def unK (op : UnOp) (v : Value) (K : Value → Prop) : Prop :=
  match op, v with
  | .not, .bool b => K (.bool !b)
  | .neg, .int k n => K (.int k (k.wrap (0 - n)))
  | .xor, .int k n => bitsOf .xor k (if k.signed then -1 else k.max) n K
  | _, _ => False
def convK (T : TT) (d : TypeId) (v : Value) (K : Value → Prop) : Prop :=
  match T d, v with
  | some ⟨.int k, _, _, _⟩, .int _ n => K (.int k (k.wrap n))
  | some ⟨.string, _, _, _⟩, .string s => K (.string s)
  | _, _ => False
/-- The cells of a value of a type. -/
def cellsOf (z v : Value) (K : List Value → Prop) : Prop :=
  match z with
  | .agg _ => asAgg v K
  | _ => pif v.oneCell' (K [v]) False
/-- A literal's parts, laid. -/
def fillK (T : TT) (place : Nat → Option (Nat × TypeId)) : List (Nat × Value) → List Value → (List Value → Prop) → Prop
  | [], cs, K => K cs
  | (i, v) :: rest, cs, K =>
    match place i with
    | some (off, t) => match T t with
      | some ti => pif ti.fine (cellsOf ti.zero v fun vs => pif (decide (vs.length = ti.size ∧ off + vs.length ≤ cs.length)) (fillK T place rest (cs.take off ++ vs ++ cs.drop (off + vs.length)) K) False) False
      | none => False
    | none => False
def placeOf (d : TypeDesc) (T : TT) (i : Nat) : Option (Nat × TypeId) :=
  match d with
  | .struct fs => (fs.toList[i]?).map fun f => (f.offset, f.type)
  | .array _ e => (T e).map fun ti => (i * ti.size, e)
  | _ => none
def partK (T : TT) (t : TypeId) (cs : List Value) (off : Nat) (K : Value → Prop) : Prop :=
  match T t with
  | some i => pif i.fine (match i.zero with
    | .agg _ => pif (decide (off + i.size ≤ cs.length)) (K (.agg ⟨(cs.drop off).take i.size⟩)) False
    | _ => atK cs off K) False
  | none => False

/-- Every part's type is told. -/
def fieldsTold (T : TT) (i : TI) : Bool :=
  match i.desc with
  | .struct fs => fs.toList.all fun f => (T f.type).isSome
  | .array _ e => (T e).isSome
  | _ => true

/-- An operation that reads or reckons. -/
def aRd (T : TT) (op : Op) (ev : Operand → Value) (H : AHeap) (K : Value → Prop) : Prop :=
  match op with
  | .move x => K (ev x)
  | .assign x => K (ev x)
  | .pick c a b => asB (ev c) fun c => pif c (K (ev a)) (K (ev b))
  | .load t p => asP (ev p) fun b o => ldT T t H b o K
  | .nilCheck x => nilK (ev x) K
  | .binOp op t x y _ => match y with
    | .const u => pif (isNilSlice u) (nilCmp T op t (ev x) K) (binK T op t (ev x) u K)
    | y => binK T op t (ev x) (ev y) K
  | .unOp op _ x => unK op (ev x) K
  | .convert s d x => pif (T s).isSome (convK T d (ev x) K) False
  | .makeFunc (.func f) xs ys => K (.func (.func f) ⟨xs.toList.map ev⟩ ⟨ys.toList.map ev⟩)
  | .fieldAddr s x f => match T s with
    | some ⟨.struct fs, _, _, _⟩ => match fs.toList[f]? with
      | some fl => match T fl.type with
        | some ti => pif (ti.size != 0) (asP (ev x) fun b o => K (.pointer (some ⟨b, o + fl.offset, none⟩))) False
        | none => False
      | none => False
    | _ => False
  | .field t x f => match T t with
    | some ⟨.struct fs, _, _, _⟩ => match fs.toList[f]? with
      | some fl => asAgg (ev x) fun cs => partK T fl.type cs fl.offset K
      | none => False
    | _ => False
  | .indexAddr t x i => match T t, ev i with
    | some ⟨.slice e, _, _, _⟩, .int _ n => match T e with
      | some ti => idxK (ev x) n ti.size fun b o => K (.pointer (some ⟨b, o, none⟩))
      | none => False
    | some ⟨.array len e, _, _, _⟩, .int _ n => match T e with
      | some ti => asP (ev x) fun b o => bndK n len (K (.pointer (some ⟨b, o + n.toNat * ti.size, none⟩)))
      | none => False
    | _, _ => False
  | .index t x i => match T t, ev i with
    | some ⟨.array len e, _, _, _⟩, .int _ n => match T e with
      | some ti => asAgg (ev x) fun cs => bndK n len (partK T e cs (n.toNat * ti.size) fun v => shape1 ti.zero v K)
      | none => False
    | some ⟨.string, _, _, _⟩, .int _ n => match ev x with
      | .string s => bndK n s.size (K (.int .u8 (s.data.toList.getD n.toNat 0).toNat))
      | _ => False
    | _, _ => False
  | .build t parts => match T t with
    | some i => pif (i.fine && fieldsTold T i) (asAgg i.zero fun zs => pif (zs.all scalar) (fillK T (placeOf i.desc T) (parts.toList.map fun p => (p.1, ev p.2)) zs fun cs => K (.agg ⟨cs⟩)) False) False
    | none => False
  | .slice t x lo hi none => match T t with
    | some ⟨.slice e, _, _, _⟩ => match T e with
      | some ti => pif (ti.size != 0) (sliceK H e (ev x) (lo.map ev) (hi.map ev) ti.size K) False
      | none => False
    | some ⟨.string, _, _, _⟩ => match ev x with
      | .string s => loOf (lo.map ev) fun l => hiOf (hi.map ev) s.size fun h => sbndK l h s.size (K (.string (s.extract l.toNat h.toNat)))
      | _ => False
    | some ⟨.array n e, _, _, _⟩ => match lo, hi, T e with
      | none, none, some _ => asP (ev x) fun b o => K (.slice (some ⟨b, o, none⟩) n (n + 1))
      | _, _, _ => False
    | _ => False
  | .slice t x none (some hi) (some mx) => match T t with
    | some ⟨.slice e, _, _, _⟩ => match T e, ev hi, ev mx with
      | some _, .int _ 0, .int _ 0 => clipK (ev x) K
      | _, _, _ => False
    | _ => False
  | .extract x ix => asTup (ev x) fun vs => match vs[ix]? with
    | some v => K v
    | none => False
  | _ => False
end Go.Abs
