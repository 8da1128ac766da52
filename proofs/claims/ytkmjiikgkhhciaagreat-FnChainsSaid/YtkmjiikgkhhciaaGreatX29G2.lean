import Derived.Test.YtkmjiikgkhhciaaGreatX29S
set_option linter.unusedVariables false
set_option maxRecDepth 100000
namespace Go.Proofs
open Go.Abs
noncomputable section
namespace F77
abbrev E := En 15
abbrev Q := QB Tryz.prog T0 15
def O (k : Nat) := ob Tryz.f77 (pth k)
def ret (P : PT) : EP := retE T0 15 Tryz.f77 P
abbrev k0 : Sk := [(0,J),(1,J),(2,J)]
def o1 := O 6
def B1 (P : PT) : Y k0 := fun x0 x1 x2 H =>
  pif (decide ((x1 : Int) ≤ x0)) (P (Value.bool (decide ((x0 : Int) ≤ x2))) H) (P (Value.bool false) H)
theorem q1 P : Q o1 (ret P) k0 (B1 P) := fun _ _ _ _ _ => by kernel_rfl
def o2 := O 2
def B2 (P : PT) : Y k0 := fun x0 x1 x2 H =>
  B1 P x0 x1 x2 H
theorem q2 P : Q o2 (E k0 (B1 P)) k0 (B2 P) := fun _ _ _ _ _ => by kernel_rfl
def code : Code := (.seq (R 0 o2) (.seq (R 1 o1) .ret))
theorem body : Tryz.f77.body = some code := by kernel_rfl
theorem main (P : PT) : ∀ env H, (En 15 k0 (B2 P)) env H → AW Tryz.prog T0 code env H (M (ret P)) :=
  (r_seq (b (q2 P)) (r_seq (b (q1 P)) r_ret))
theorem ac (P : PT) (x0 x1 x2 : Int) (H : AHeap) (h : B2 P x0 x1 x2 H) : AC Tryz.prog T0 77 [(Value.int .i64 x0), (Value.int .i64 x1), (Value.int .i64 x2)] H P :=
  r_fn T0_ok (c := code) (n := 15) Tryz.func77 body (by kernel_rfl) (main P) (En_mk (x0, x1, x2, ()) (by kernel_rfl) ⟨by kernel_rfl, by kernel_rfl, by kernel_rfl, trivial⟩ h)

end F77
namespace F81
abbrev E := En 19
abbrev Q := QB Tryz.prog T0 19
def O (k : Nat) := ob Tryz.f81 (pth k)
def ret (P : PT) : EP := retE T0 19 Tryz.f81 P
abbrev k0 : Sk := [(3,.v)]
def o1 := O 30
def B1 (P : PT) : Y k0 := fun x3 H =>
  P x3 H
theorem q1 P : Q o1 (ret P) k0 (B1 P) := fun _ _ _ => by kernel_rfl
abbrev k1 : Sk := [(0,.i .u64),(3,.v),(4,J)]
def o3 := O 467
def B3 (P : PT) (N2 : Y k1) : Y k1 := fun x0 x3 x4 H =>
  N2 x0 x3 (IntKind.i64.wrap (x4 + 1)) H
theorem q3 P N2 : Q o3 (E k1 N2) k1 (B3 P N2) := fun _ _ _ _ _ => by kernel_rfl
def o4 := O 3730
def B4 (P : PT) (N2 : Y k1) : Y k1 := fun x0 x3 x4 H =>
  newK H [(Value.int .i64 x4)] 2 (fun b1 H2 => apK T0 2 H2 x3 (Value.slice (some ⟨b1, 0, none⟩) 1 (1 + 1)) (fun v3 H4 => B3 P N2 x0 v3 x4 H4))
theorem q4 P N2 : Q o4 (E k1 (B3 P N2)) k1 (B4 P N2) := fun _ _ _ _ _ => by kernel_rfl
def o5 := O 1864
def B5 (P : PT) (N2 : Y k1) : Y k1 := fun x0 x3 x4 H =>
  AC Tryz.prog T0 134 [(Value.int .u64 x0), (Value.int .i64 x4)] H (fun v1 H2 => asB v1 (fun v3 => pif v3 (B4 P N2 x0 x3 x4 H2) (B3 P N2 x0 x3 x4 H2)))
theorem q5 P N2 : Q o5 (cnd 13 (E k1 (B4 P N2)) (E k1 (B3 P N2))) k1 (B5 P N2) := fun _ _ _ _ _ => by kernel_rfl
def o6 := O 464
def B6 (P : PT) (N2 : Y k1) : Y k1 := fun x0 x3 x4 H =>
  ((0 : Int) ≤ x4) ∧ (pif ((Int.fdiv x0 (2 ^ (min (Int.toNat x4) 64)) : Int) != 0) (B5 P N2 x0 x3 x4 H) (B1 P x3 H))
theorem q6 P N2 : Q o6 (cnd 8 (E k1 (B5 P N2)) (E k0 (B1 P))) k1 (B6 P N2) := fun _ _ _ _ _ => by kernel_rfl
def L2 (P : PT) : Y k1 := fun x0 x3 x4 H =>
  ∃ (I : Y k1) (μ : NTy k1 (AHeap → Nat)), I x0 x3 x4 H ∧ ∀ y0 y3 y4 G, I y0 y3 y4 G → B6 P (fun z0 z3 z4 G' => I z0 z3 z4 G' ∧ μ z0 z3 z4 G' < μ y0 y3 y4 G) y0 y3 y4 G
theorem l2 P : LQ k1 (L2 P) (B6 P) := fun ⟨_,_,_,_⟩ _ ⟨I, μ, h0, hI⟩ => ⟨apT _ I, apT _ μ, h0, fun ⟨_,_,_,_⟩ _ h => hI _ _ _ _  h⟩
abbrev k2 : Sk := [(0,.i .u64),(3,.v)]
def o7 := O 28
def B7 (P : PT) : Y k2 := fun x0 x3 H =>
  L2 P x0 x3 0 H
theorem q7 P : Q o7 (E k1 (L2 P)) k2 (B7 P) := fun _ _ _ _ => by kernel_rfl
abbrev k3 : Sk := [(0,.i .u64)]
def o8 := O 6
def B8 (P : PT) : Y k3 := fun x0 H =>
  B7 P x0 (Value.slice none 0 0) H
theorem q8 P : Q o8 (E k2 (B7 P)) k3 (B8 P) := fun _ _ _ => by kernel_rfl
def o9 := O 2
def B9 (P : PT) : Y k3 := fun x0 H =>
  B8 P x0 H
theorem q9 P : Q o9 (E k3 (B8 P)) k3 (B9 P) := fun _ _ _ => by kernel_rfl
def code : Code := (.seq (R 0 o9) (.seq (R 1 o8) (.seq (.seq (R 2 o7) (.block 0 (.loop (.seq (.seq (R 3 o6) (.cond (.tmp 8) .skip (.exit 0))) (.seq (.block 1 (.seq (R 5 o5) (.cond (.tmp 13) (R 6 o4) .skip))) (R 4 o3)))))) (.seq (R 7 o1) .ret))))
theorem body : Tryz.f81.body = some code := by kernel_rfl
theorem main (P : PT) : ∀ env H, (En 19 k3 (B9 P)) env H → AW Tryz.prog T0 code env H (M (ret P)) :=
  (r_seq (b (q9 P)) (r_seq (b (q8 P)) (r_seq (r_seq (b (q7 P)) (r_block (rL (l2 P) (fun N2 => (r_seq (r_seq (b (q6 P N2)) (r_cond rfl r_skip (r_exit (fun _ _ h => h)))) (r_seq (r_block (r_seq (b (q5 P N2)) (r_cond rfl (b (q4 P N2)) r_skip))) (b (q3 P N2)))))))) (r_seq (b (q1 P)) r_ret))))
theorem ac (P : PT) (x0 : Int) (H : AHeap) (h : B9 P x0 H) : AC Tryz.prog T0 81 [(Value.int .u64 x0)] H P :=
  r_fn T0_ok (c := code) (n := 19) Tryz.func81 body (by kernel_rfl) (main P) (En_mk (x0, ()) (by kernel_rfl) ⟨by kernel_rfl, trivial⟩ h)

end F81
namespace F82
abbrev E := En 32
abbrev Q := QB Tryz.prog T0 32
def O (k : Nat) := ob Tryz.f82 (pth k)
def ret (P : PT) : EP := retE T0 32 Tryz.f82 P
abbrev k0 : Sk := [(0,.v),(2,.x)]
def o1 := O 14
def B1 (P : PT) : Y k0 := fun x0 x2 H =>
  newK H [(Value.int .i64 2), (Value.int .i64 4), (Value.int .i64 4), (Value.int .i64 6), (Value.int .i64 6), (Value.int .i64 8), (Value.int .i64 8), (Value.int .i64 10)] 2 (fun b1 H2 => AC Tryz.prog T0 83 [x0, (Value.slice (some ⟨b1, 0, none⟩) 8 (8 + 1))] H2 (fun v3 H4 => asI .i64 v3 (fun v5 => AC Tryz.prog T0 150 [x0, (Value.int .i64 v5)] H4 (fun v6 H7 => agg2 v6 (fun v8 v9 => asI .i64 v8 (fun v10 => stK H7 x2 0 [(Value.int .i64 v10), v9] (fun H12 => ldI .i64 H12 x2 0 (fun v13 => ld1 H12 x2 1 (fun v14 => P (Value.agg ⟨[(Value.int .i64 v13), v14]⟩) H12)))))))))
theorem q1 P : Q o1 (ret P) k0 (B1 P) := fun _ _ _ _ => by kernel_rfl
abbrev k1 : Sk := [(0,.v),(2,.x),(4,.x)]
def o2 := O 214
def B2 (P : PT) : Y k1 := fun x0 x2 x4 H =>
  ldI .i64 H x4 0 (fun v1 => ld1 H x4 1 (fun v2 => ldI .i64 H x4 0 (fun v3 => AC Tryz.prog T0 70 [x0, (Value.int .i64 v3)] H (fun v4 H5 => (ldI .i64 H5 x4 0 (fun v7 => ld1 H5 x4 1 (fun v8 => ((Value.agg ⟨[(Value.int .i64 v7), v8]⟩) = (Value.agg ⟨[(Value.int .i64 v1), v2]⟩)) ∧ (H5 = H5)))) ∧ (AC Tryz.prog T0 69 [(Value.agg ⟨[(Value.int .i64 v1), v2]⟩), v4] H5 (fun v9 H10 => agg2 v9 (fun v11 v12 => asI .i64 v11 (fun v13 => stK H10 x2 0 [(Value.int .i64 v13), v12] (fun H15 => ldI .i64 H15 x2 0 (fun v16 => ld1 H15 x2 1 (fun v17 => P (Value.agg ⟨[(Value.int .i64 v16), v17]⟩) H15)))))))))))
theorem q2 (P : PT) : QT Tryz.prog T0 32 o2 (.op 0 [] (.op 1 [] (.op 2 [] (.op 3 [] (.op 4 [0] (.op 5 [] (.op 6 [] .done))))))) (ret P) k1 (B2 P) := fun _ _ _ _ _  => by kernel_rfl
abbrev k2 : Sk := [(0,.v),(2,.x),(3,.v)]
def o3 := O 106
def B3 (P : PT) : Y k2 := fun x0 x2 x3 H =>
  lenK x3 (fun n1 => AC Tryz.prog T0 66 [x0, (Value.int .i64 (n1 : Int))] H (fun v2 H3 => asI .i64 v2 (fun v4 => idxK x3 v4 1 (fun b5 o6 => ld1 H3 b5 o6 (fun v8 => asS v8 (fun v7 => AC Tryz.prog T0 67 [(Value.string v7)] H3 (fun v9 H10 => tup2 v9 (fun v11 v12 => agg2 v11 (fun v13 v14 => asI .i64 v13 (fun v15 => asB v12 (fun v17 => newK H10 [(Value.int .i64 0), (Value.slice none 0 0)] 26 (fun b18 H19 => stK H19 b18 0 [(Value.int .i64 v15), v14] (fun H20 => B2 P x0 x2 b18 H20)))))))))))))
theorem q3 P : Q o3 (E k1 (B2 P)) k2 (B3 P) := fun _ _ _ _ _ => by kernel_rfl
def o4 := O 52
def B4 (P : PT) : Y k0 := fun x0 x2 H =>
  newK H [(Value.string (⟨#[116, 104, 101, 116, 97]⟩)), (Value.string (⟨#[107, 52]⟩)), (Value.string (⟨#[107, 51, 51]⟩)), (Value.string (⟨#[112, 114, 105, 115, 109]⟩)), (Value.string (⟨#[99, 117, 98, 101]⟩)), (Value.string (⟨#[112, 101, 116, 101, 114, 115, 101, 110]⟩))] 9 (fun b1 H2 => B3 P x0 x2 (Value.slice (some ⟨b1, 0, none⟩) 6 (6 + 1)) H2)
theorem q4 P : Q o4 (E k2 (B3 P)) k0 (B4 P) := fun _ _ _ _ => by kernel_rfl
def o5 := O 12
def B5 (P : PT) : Y k0 := fun x0 x2 H =>
  AC Tryz.prog T0 66 [x0, (Value.int .i64 4)] H (fun v1 H2 => asI .i64 v1 (fun v3 => pif ((v3 : Int) == 0) (B4 P x0 x2 H2) (B1 P x0 x2 H2)))
theorem q5 P : Q o5 (cnd 8 (E k0 (B4 P)) (E k0 (B1 P))) k0 (B5 P) := fun _ _ _ _ => by kernel_rfl
abbrev k3 : Sk := [(0,.v)]
def o6 := O 2
def B6 (P : PT) : Y k3 := fun x0 H =>
  newK H [(Value.int .i64 0), (Value.slice none 0 0)] 26 (fun b1 H2 => B5 P x0 b1 H2)
theorem q6 P : Q o6 (E k0 (B5 P)) k3 (B6 P) := fun _ _ _ => by kernel_rfl
def code : Code := (.seq (R 0 o6) (.seq (.seq (R 1 o5) (.cond (.tmp 8) (.seq (R 2 o4) (.seq (R 3 o3) (.seq (.region 4 ⟨o2⟩ true) .ret))) .skip)) (.seq (R 5 o1) .ret)))
theorem body : Tryz.f82.body = some code := by kernel_rfl
theorem main (P : PT) : ∀ env H, (En 32 k3 (B6 P)) env H → AW Tryz.prog T0 code env H (M (ret P)) :=
  (r_seq (b (q6 P)) (r_seq (r_seq (b (q5 P)) (r_cond rfl (r_seq (b (q4 P)) (r_seq (b (q3 P)) (r_seq (rT T0_ok mixed (.op 0 [] (.op 1 [] (.op 2 [] (.op 3 [] (.op 4 [0] (.op 5 [] (.op 6 [] .done))))))) (by kernel_rfl) (q2 P)) r_ret))) r_skip)) (r_seq (b (q1 P)) r_ret)))
theorem ac (P : PT) (x0 : Value) (H : AHeap) (h : B6 P x0 H) : AC Tryz.prog T0 82 [x0] H P :=
  r_fn T0_ok (c := code) (n := 32) Tryz.func82 body (by kernel_rfl) (main P) (En_mk (x0, ()) (by kernel_rfl) ⟨by kernel_rfl, trivial⟩ h)

end F82
namespace F83
abbrev E := En 12
abbrev Q := QB Tryz.prog T0 12
def O (k : Nat) := ob Tryz.f83 (pth k)
def ret (P : PT) : EP := retE T0 12 Tryz.f83 P
abbrev k0 : Sk := [(0,.v),(1,.v)]
def o1 := O 6
def B1 (P : PT) : Y k0 := fun x0 x1 H =>
  lenK x1 (fun n1 => AC Tryz.prog T0 66 [x0, (Value.int .i64 (n1 : Int))] H (fun v2 H3 => asI .i64 v2 (fun v4 => idxK x1 v4 1 (fun b5 o6 => ldI .i64 H3 b5 o6 (fun v7 => P (Value.int .i64 v7) H3)))))
theorem q1 P : Q o1 (ret P) k0 (B1 P) := fun _ _ _ _ => by kernel_rfl
def o2 := O 2
def B2 (P : PT) : Y k0 := fun x0 x1 H =>
  B1 P x0 x1 H
theorem q2 P : Q o2 (E k0 (B1 P)) k0 (B2 P) := fun _ _ _ _ => by kernel_rfl
def code : Code := (.seq (R 0 o2) (.seq (R 1 o1) .ret))
theorem body : Tryz.f83.body = some code := by kernel_rfl
theorem main (P : PT) : ∀ env H, (En 12 k0 (B2 P)) env H → AW Tryz.prog T0 code env H (M (ret P)) :=
  (r_seq (b (q2 P)) (r_seq (b (q1 P)) r_ret))
theorem ac (P : PT) (x0 x1 : Value) (H : AHeap) (h : B2 P x0 x1 H) : AC Tryz.prog T0 83 [x0, x1] H P :=
  r_fn T0_ok (c := code) (n := 12) Tryz.func83 body (by kernel_rfl) (main P) (En_mk (x0, x1, ()) (by kernel_rfl) ⟨by kernel_rfl, by kernel_rfl, trivial⟩ h)

end F83
namespace F85
abbrev E := En 15
abbrev Q := QB Tryz.prog T0 15
def O (k : Nat) := ob Tryz.f85 (pth k)
def ret (P : PT) : EP := retE T0 15 Tryz.f85 P
abbrev k0 : Sk := [(0,J),(1,J),(2,J)]
def o1 := O 6
def B1 (P : PT) : Y k0 := fun x0 x1 x2 H =>
  pif (decide ((x0 : Int) ≥ x1)) (P (Value.bool (decide ((x0 : Int) ≤ x2))) H) (P (Value.bool false) H)
theorem q1 P : Q o1 (ret P) k0 (B1 P) := fun _ _ _ _ _ => by kernel_rfl
def o2 := O 2
def B2 (P : PT) : Y k0 := fun x0 x1 x2 H =>
  B1 P x0 x1 x2 H
theorem q2 P : Q o2 (E k0 (B1 P)) k0 (B2 P) := fun _ _ _ _ _ => by kernel_rfl
def code : Code := (.seq (R 0 o2) (.seq (R 1 o1) .ret))
theorem body : Tryz.f85.body = some code := by kernel_rfl
theorem main (P : PT) : ∀ env H, (En 15 k0 (B2 P)) env H → AW Tryz.prog T0 code env H (M (ret P)) :=
  (r_seq (b (q2 P)) (r_seq (b (q1 P)) r_ret))
theorem ac (P : PT) (x0 x1 x2 : Int) (H : AHeap) (h : B2 P x0 x1 x2 H) : AC Tryz.prog T0 85 [(Value.int .i64 x0), (Value.int .i64 x1), (Value.int .i64 x2)] H P :=
  r_fn T0_ok (c := code) (n := 15) Tryz.func85 body (by kernel_rfl) (main P) (En_mk (x0, x1, x2, ()) (by kernel_rfl) ⟨by kernel_rfl, by kernel_rfl, by kernel_rfl, trivial⟩ h)

end F85
namespace F89
abbrev E := En 18
abbrev Q := QB Tryz.prog T0 18
def O (k : Nat) := ob Tryz.f89 (pth k)
def ret (P : PT) : EP := retE T0 18 Tryz.f89 P
abbrev k0 : Sk := [(3,.i .u64)]
def o1 := O 30
def B1 (P : PT) : Y k0 := fun x3 H =>
  P (Value.int .u64 x3) H
theorem q1 P : Q o1 (ret P) k0 (B1 P) := fun _ _ _ => by kernel_rfl
abbrev k1 : Sk := [(3,.i .u64),(6,.v),(7,J),(8,J)]
def o3 := O 935
def B3 (P : PT) (N2 : Y k1) : Y k1 := fun x3 x6 x7 x8 H =>
  N2 x3 x6 x7 (IntKind.i64.wrap (x8 + 1)) H
theorem q3 P N2 : Q o3 (E k1 N2) k1 (B3 P N2) := fun _ _ _ _ _ _ => by kernel_rfl
abbrev k2 : Sk := [(3,.i .u64),(5,J),(6,.v),(7,J),(8,J)]
def o4 := O 3737
def B4 (P : PT) (N2 : Y k1) : Y k2 := fun x3 x5 x6 x7 x8 H =>
  ((0 : Int) ≤ x5) ∧ (B3 P N2 (IntKind.u64.wrap (BitVec.ofInt 64 x3 ||| BitVec.ofInt 64 (IntKind.u64.wrap (1 * 2 ^ (min (Int.toNat x5) 64)))).toNat) x6 x7 x8 H)
theorem q4 P N2 : Q o4 (E k1 (B3 P N2)) k2 (B4 P N2) := fun _ _ _ _ _ _ _ => by kernel_rfl
def o5 := O 3736
def B5 (P : PT) (N2 : Y k1) : Y k1 := fun x3 x6 x7 x8 H =>
  idxK x6 x8 1 (fun b1 o2 => ldI .i64 H b1 o2 (fun v3 => B4 P N2 x3 v3 x6 x7 x8 H))
theorem q5 P N2 : Q o5 (E k2 (B4 P N2)) k1 (B5 P N2) := fun _ _ _ _ _ _ => by kernel_rfl
def o6 := O 232
def B6 (P : PT) (N2 : Y k1) : Y k1 := fun x3 x6 x7 x8 H =>
  pif (decide ((x8 : Int) < x7)) (B5 P N2 x3 x6 x7 x8 H) (B1 P x3 H)
theorem q6 P N2 : Q o6 (cnd 9 (E k1 (B5 P N2)) (E k0 (B1 P))) k1 (B6 P N2) := fun _ _ _ _ _ _ => by kernel_rfl
def L2 (P : PT) : Y k1 := fun x3 x6 x7 x8 H =>
  ∃ (I : Y k1) (μ : NTy k1 (AHeap → Nat)), I x3 x6 x7 x8 H ∧ ∀ y3 y6 y7 y8 G, I y3 y6 y7 y8 G → B6 P (fun z3 z6 z7 z8 G' => I z3 z6 z7 z8 G' ∧ μ z3 z6 z7 z8 G' < μ y3 y6 y7 y8 G) y3 y6 y7 y8 G
theorem l2 P : LQ k1 (L2 P) (B6 P) := fun ⟨_,_,_,_,_⟩ _ ⟨I, μ, h0, hI⟩ => ⟨apT _ I, apT _ μ, h0, fun ⟨_,_,_,_,_⟩ _ h => hI _ _ _ _ _  h⟩
abbrev k3 : Sk := [(0,.v),(3,.i .u64)]
def o7 := O 28
def B7 (P : PT) : Y k3 := fun x0 x3 H =>
  lenK x0 (fun n1 => L2 P x3 x0 (n1 : Int) 0 H)
theorem q7 P : Q o7 (E k1 (L2 P)) k3 (B7 P) := fun _ _ _ _ => by kernel_rfl
abbrev k4 : Sk := [(0,.v)]
def o8 := O 6
def B8 (P : PT) : Y k4 := fun x0 H =>
  B7 P x0 0 H
theorem q8 P : Q o8 (E k3 (B7 P)) k4 (B8 P) := fun _ _ _ => by kernel_rfl
def o9 := O 2
def B9 (P : PT) : Y k4 := fun x0 H =>
  B8 P x0 H
theorem q9 P : Q o9 (E k4 (B8 P)) k4 (B9 P) := fun _ _ _ => by kernel_rfl
def code : Code := (.seq (R 0 o9) (.seq (R 1 o8) (.seq (.seq (R 2 o7) (.block 0 (.loop (.seq (R 3 o6) (.seq (.cond (.tmp 9) .skip (.exit 0)) (.seq (.block 1 (.seq (R 4 o5) (R 5 o4))) (R 6 o3))))))) (.seq (R 7 o1) .ret))))
theorem body : Tryz.f89.body = some code := by kernel_rfl
theorem main (P : PT) : ∀ env H, (En 18 k4 (B9 P)) env H → AW Tryz.prog T0 code env H (M (ret P)) :=
  (r_seq (b (q9 P)) (r_seq (b (q8 P)) (r_seq (r_seq (b (q7 P)) (r_block (rL (l2 P) (fun N2 => (r_seq (b (q6 P N2)) (r_seq (r_cond rfl r_skip (r_exit (fun _ _ h => h))) (r_seq (r_block (r_seq (b (q5 P N2)) (b (q4 P N2)))) (b (q3 P N2))))))))) (r_seq (b (q1 P)) r_ret))))
theorem ac (P : PT) (x0 : Value) (H : AHeap) (h : B9 P x0 H) : AC Tryz.prog T0 89 [x0] H P :=
  r_fn T0_ok (c := code) (n := 18) Tryz.func89 body (by kernel_rfl) (main P) (En_mk (x0, ()) (by kernel_rfl) ⟨by kernel_rfl, trivial⟩ h)

end F89
namespace F96
abbrev E := En 40
abbrev Q := QB Tryz.prog T0 40
def O (k : Nat) := ob Tryz.f96 (pth k)
def ret (P : PT) : EP := retE T0 40 Tryz.f96 P
abbrev k0 : Sk := [(0,.v),(2,.x)]
def o1 := O 30
def B1 (P : PT) : Y k0 := fun x0 x2 H =>
  newK H [(Value.int .i64 2), (Value.int .i64 4), (Value.int .i64 6), (Value.int .i64 8), (Value.int .i64 10), (Value.int .i64 12), (Value.int .i64 14), (Value.int .i64 20)] 2 (fun b1 H2 => AC Tryz.prog T0 83 [x0, (Value.slice (some ⟨b1, 0, none⟩) 8 (8 + 1))] H2 (fun v3 H4 => asI .i64 v3 (fun v5 => AC Tryz.prog T0 150 [x0, (Value.int .i64 v5)] H4 (fun v6 H7 => agg2 v6 (fun v8 v9 => asI .i64 v8 (fun v10 => stK H7 x2 0 [(Value.int .i64 v10), v9] (fun H12 => ldI .i64 H12 x2 0 (fun v13 => ld1 H12 x2 1 (fun v14 => P (Value.agg ⟨[(Value.int .i64 v13), v14]⟩) H12)))))))))
theorem q1 P : Q o1 (ret P) k0 (B1 P) := fun _ _ _ _ => by kernel_rfl
def o2 := O 116
def B2 (P : PT) : Y k0 := fun x0 x2 H =>
  AC Tryz.prog T0 82 [x0] H (fun v1 H2 => agg2 v1 (fun v3 v4 => asI .i64 v3 (fun v5 => AC Tryz.prog T0 82 [x0] H2 (fun v7 H8 => agg2 v7 (fun v9 v10 => asI .i64 v9 (fun v11 => AC Tryz.prog T0 153 [(Value.agg ⟨[(Value.int .i64 v5), v4]⟩), (Value.agg ⟨[(Value.int .i64 v11), v10]⟩)] H8 (fun v13 H14 => agg2 v13 (fun v15 v16 => asI .i64 v15 (fun v17 => stK H14 x2 0 [(Value.int .i64 v17), v16] (fun H19 => ldI .i64 H19 x2 0 (fun v20 => ld1 H19 x2 1 (fun v21 => P (Value.agg ⟨[(Value.int .i64 v20), v21]⟩) H19))))))))))))
theorem q2 P : Q o2 (ret P) k0 (B2 P) := fun _ _ _ _ => by kernel_rfl
def o3 := O 28
def B3 (P : PT) : Y k0 := fun x0 x2 H =>
  AC Tryz.prog T0 66 [x0, (Value.int .i64 8)] H (fun v1 H2 => asI .i64 v1 (fun v3 => pif ((v3 : Int) == 0) (B2 P x0 x2 H2) (B1 P x0 x2 H2)))
theorem q3 P : Q o3 (cnd 29 (E k0 (B2 P)) (E k0 (B1 P))) k0 (B3 P) := fun _ _ _ _ => by kernel_rfl
abbrev k1 : Sk := [(0,.v),(2,.x),(4,.x)]
def o4 := O 214
def B4 (P : PT) : Y k1 := fun x0 x2 x4 H =>
  ldI .i64 H x4 0 (fun v1 => ld1 H x4 1 (fun v2 => ldI .i64 H x4 0 (fun v3 => AC Tryz.prog T0 70 [x0, (Value.int .i64 v3)] H (fun v4 H5 => (ldI .i64 H5 x4 0 (fun v7 => ld1 H5 x4 1 (fun v8 => ((Value.agg ⟨[(Value.int .i64 v7), v8]⟩) = (Value.agg ⟨[(Value.int .i64 v1), v2]⟩)) ∧ (H5 = H5)))) ∧ (AC Tryz.prog T0 69 [(Value.agg ⟨[(Value.int .i64 v1), v2]⟩), v4] H5 (fun v9 H10 => agg2 v9 (fun v11 v12 => asI .i64 v11 (fun v13 => stK H10 x2 0 [(Value.int .i64 v13), v12] (fun H15 => ldI .i64 H15 x2 0 (fun v16 => ld1 H15 x2 1 (fun v17 => P (Value.agg ⟨[(Value.int .i64 v16), v17]⟩) H15)))))))))))
theorem q4 (P : PT) : QT Tryz.prog T0 40 o4 (.op 0 [] (.op 1 [] (.op 2 [] (.op 3 [] (.op 4 [0] (.op 5 [] (.op 6 [] .done))))))) (ret P) k1 (B4 P) := fun _ _ _ _ _  => by kernel_rfl
abbrev k2 : Sk := [(0,.v),(2,.x),(3,.v)]
def o5 := O 106
def B5 (P : PT) : Y k2 := fun x0 x2 x3 H =>
  lenK x3 (fun n1 => AC Tryz.prog T0 66 [x0, (Value.int .i64 (n1 : Int))] H (fun v2 H3 => asI .i64 v2 (fun v4 => idxK x3 v4 1 (fun b5 o6 => ld1 H3 b5 o6 (fun v8 => asS v8 (fun v7 => AC Tryz.prog T0 67 [(Value.string v7)] H3 (fun v9 H10 => tup2 v9 (fun v11 v12 => agg2 v11 (fun v13 v14 => asI .i64 v13 (fun v15 => asB v12 (fun v17 => newK H10 [(Value.int .i64 0), (Value.slice none 0 0)] 26 (fun b18 H19 => stK H19 b18 0 [(Value.int .i64 v15), v14] (fun H20 => B4 P x0 x2 b18 H20)))))))))))))
theorem q5 P : Q o5 (E k1 (B4 P)) k2 (B5 P) := fun _ _ _ _ _ => by kernel_rfl
def o6 := O 52
def B6 (P : PT) : Y k0 := fun x0 x2 H =>
  AC Tryz.prog T0 152 [] H (fun v1 H2 => B5 P x0 x2 v1 H2)
theorem q6 P : Q o6 (E k2 (B5 P)) k0 (B6 P) := fun _ _ _ _ => by kernel_rfl
def o7 := O 12
def B7 (P : PT) : Y k0 := fun x0 x2 H =>
  AC Tryz.prog T0 66 [x0, (Value.int .i64 3)] H (fun v1 H2 => asI .i64 v1 (fun v3 => pif ((v3 : Int) == 0) (B6 P x0 x2 H2) (B3 P x0 x2 H2)))
theorem q7 P : Q o7 (cnd 8 (E k0 (B6 P)) (E k0 (B3 P))) k0 (B7 P) := fun _ _ _ _ => by kernel_rfl
abbrev k3 : Sk := [(0,.v)]
def o8 := O 2
def B8 (P : PT) : Y k3 := fun x0 H =>
  newK H [(Value.int .i64 0), (Value.slice none 0 0)] 26 (fun b1 H2 => B7 P x0 b1 H2)
theorem q8 P : Q o8 (E k0 (B7 P)) k3 (B8 P) := fun _ _ _ => by kernel_rfl
def code : Code := (.seq (R 0 o8) (.seq (.seq (R 1 o7) (.cond (.tmp 8) (.seq (R 2 o6) (.seq (R 3 o5) (.seq (.region 4 ⟨o4⟩ true) .ret))) .skip)) (.seq (.seq (R 5 o3) (.cond (.tmp 29) (.seq (R 6 o2) .ret) .skip)) (.seq (R 7 o1) .ret))))
theorem body : Tryz.f96.body = some code := by kernel_rfl
theorem main (P : PT) : ∀ env H, (En 40 k3 (B8 P)) env H → AW Tryz.prog T0 code env H (M (ret P)) :=
  (r_seq (b (q8 P)) (r_seq (r_seq (b (q7 P)) (r_cond rfl (r_seq (b (q6 P)) (r_seq (b (q5 P)) (r_seq (rT T0_ok mixed (.op 0 [] (.op 1 [] (.op 2 [] (.op 3 [] (.op 4 [0] (.op 5 [] (.op 6 [] .done))))))) (by kernel_rfl) (q4 P)) r_ret))) r_skip)) (r_seq (r_seq (b (q3 P)) (r_cond rfl (r_seq (b (q2 P)) r_ret) r_skip)) (r_seq (b (q1 P)) r_ret))))
theorem ac (P : PT) (x0 : Value) (H : AHeap) (h : B8 P x0 H) : AC Tryz.prog T0 96 [x0] H P :=
  r_fn T0_ok (c := code) (n := 40) Tryz.func96 body (by kernel_rfl) (main P) (En_mk (x0, ()) (by kernel_rfl) ⟨by kernel_rfl, trivial⟩ h)

end F96
namespace F98
abbrev E := En 33
abbrev Q := QB Tryz.prog T0 33
def O (k : Nat) := ob Tryz.f98 (pth k)
def ret (P : PT) : EP := retE T0 33 Tryz.f98 P
abbrev k0 : Sk := []
def o1 := O 14
def B1 (P : PT) : Y k0 := fun H =>
  P (Value.bool true) H
theorem q1 P : Q o1 (ret P) k0 (B1 P) := fun _ _ => by kernel_rfl
abbrev k1 : Sk := [(0,.v),(1,J),(7,.v),(8,J),(9,J)]
def o3 := O 423
def B3 (P : PT) (N2 : Y k1) : Y k1 := fun x0 x1 x7 x8 x9 H =>
  N2 x0 x1 x7 x8 (IntKind.i64.wrap (x9 + 1)) H
theorem q3 P N2 : Q o3 (E k1 N2) k1 (B3 P N2) := fun _ _ _ _ _ _ _ => by kernel_rfl
def o4 := O 13516
def B4 (P : PT) (N2 : Y k1) : Y k0 := fun H =>
  P (Value.bool false) H
theorem q4 P N2 : Q o4 (ret P) k0 (B4 P N2) := fun _ _ => by kernel_rfl
abbrev k2 : Sk := [(0,.v),(1,J),(5,J),(6,J),(7,.v),(8,J),(9,J)]
def o5 := O 3378
def B5 (P : PT) (N2 : Y k1) : Y k2 := fun x0 x1 x5 x6 x7 x8 x9 H =>
  AC Tryz.prog T0 77 [(Value.int .i64 x6), (Value.int .i64 0), (Value.int .i64 (IntKind.i64.wrap (x1 - 1)))] H (fun v1 H2 => asB v1 (fun v3 => pif (!v3) (B4 P N2 H2) (pif (decide ((x5 : Int) > 0)) (idxK x0 (IntKind.i64.wrap (x5 - 1)) 1 (fun b4 o5 => ldI .i64 H2 b4 o5 (fun v6 => pif (decide ((x6 : Int) ≤ v6)) (B4 P N2 H2) (B3 P N2 x0 x1 x7 x8 x9 H2)))) (B3 P N2 x0 x1 x7 x8 x9 H2))))
theorem q5 P N2 : Q o5 (cnd 31 (E k0 (B4 P N2)) (E k1 (B3 P N2))) k2 (B5 P N2) := fun _ _ _ _ _ _ _ _ _ => by kernel_rfl
def o6 := O 1688
def B6 (P : PT) (N2 : Y k1) : Y k1 := fun x0 x1 x7 x8 x9 H =>
  idxK x7 x9 1 (fun b1 o2 => ldI .i64 H b1 o2 (fun v3 => B5 P N2 x0 x1 x9 v3 x7 x8 x9 H))
theorem q6 P N2 : Q o6 (E k2 (B5 P N2)) k1 (B6 P N2) := fun _ _ _ _ _ _ _ => by kernel_rfl
def o7 := O 104
def B7 (P : PT) (N2 : Y k1) : Y k1 := fun x0 x1 x7 x8 x9 H =>
  pif (decide ((x9 : Int) < x8)) (B6 P N2 x0 x1 x7 x8 x9 H) (B1 P H)
theorem q7 P N2 : Q o7 (cnd 10 (E k1 (B6 P N2)) (E k0 (B1 P))) k1 (B7 P N2) := fun _ _ _ _ _ _ _ => by kernel_rfl
def L2 (P : PT) : Y k1 := fun x0 x1 x7 x8 x9 H =>
  ∃ (I : Y k1) (μ : NTy k1 (AHeap → Nat)), I x0 x1 x7 x8 x9 H ∧ ∀ y0 y1 y7 y8 y9 G, I y0 y1 y7 y8 y9 G → B7 P (fun z0 z1 z7 z8 z9 G' => I z0 z1 z7 z8 z9 G' ∧ μ z0 z1 z7 z8 z9 G' < μ y0 y1 y7 y8 y9 G) y0 y1 y7 y8 y9 G
theorem l2 P : LQ k1 (L2 P) (B7 P) := fun ⟨_,_,_,_,_,_⟩ _ ⟨I, μ, h0, hI⟩ => ⟨apT _ I, apT _ μ, h0, fun ⟨_,_,_,_,_,_⟩ _ h => hI _ _ _ _ _ _  h⟩
abbrev k3 : Sk := [(0,.v),(1,J)]
def o8 := O 12
def B8 (P : PT) : Y k3 := fun x0 x1 H =>
  lenK x0 (fun n1 => L2 P x0 x1 x0 (n1 : Int) 0 H)
theorem q8 P : Q o8 (E k1 (L2 P)) k3 (B8 P) := fun _ _ _ _ => by kernel_rfl
def o9 := O 2
def B9 (P : PT) : Y k3 := fun x0 x1 H =>
  B8 P x0 x1 H
theorem q9 P : Q o9 (E k3 (B8 P)) k3 (B9 P) := fun _ _ _ _ => by kernel_rfl
def code : Code := (.seq (R 0 o9) (.seq (.seq (R 1 o8) (.block 0 (.loop (.seq (R 2 o7) (.seq (.cond (.tmp 10) .skip (.exit 0)) (.seq (.block 1 (.seq (R 3 o6) (.seq (R 4 o5) (.cond (.tmp 31) (.seq (R 5 o4) .ret) .skip)))) (R 6 o3))))))) (.seq (R 7 o1) .ret)))
theorem body : Tryz.f98.body = some code := by kernel_rfl
theorem main (P : PT) : ∀ env H, (En 33 k3 (B9 P)) env H → AW Tryz.prog T0 code env H (M (ret P)) :=
  (r_seq (b (q9 P)) (r_seq (r_seq (b (q8 P)) (r_block (rL (l2 P) (fun N2 => (r_seq (b (q7 P N2)) (r_seq (r_cond rfl r_skip (r_exit (fun _ _ h => h))) (r_seq (r_block (r_seq (b (q6 P N2)) (r_seq (b (q5 P N2)) (r_cond rfl (r_seq (b (q4 P N2)) r_ret) r_skip)))) (b (q3 P N2))))))))) (r_seq (b (q1 P)) r_ret)))
theorem ac (P : PT) (x0 : Value) (x1 : Int) (H : AHeap) (h : B9 P x0 x1 H) : AC Tryz.prog T0 98 [x0, (Value.int .i64 x1)] H P :=
  r_fn T0_ok (c := code) (n := 33) Tryz.func98 body (by kernel_rfl) (main P) (En_mk (x0, x1, ()) (by kernel_rfl) ⟨by kernel_rfl, by kernel_rfl, trivial⟩ h)

end F98
namespace F99
abbrev E := En 31
abbrev Q := QB Tryz.prog T0 31
def O (k : Nat) := ob Tryz.f99 (pth k)
def ret (P : PT) : EP := retE T0 31 Tryz.f99 P
abbrev k0 : Sk := [(5,.v)]
def o1 := O 30
def B1 (P : PT) : Y k0 := fun x5 H =>
  P x5 H
theorem q1 P : Q o1 (ret P) k0 (B1 P) := fun _ _ _ => by kernel_rfl
abbrev k1 : Sk := [(1,.i .u64),(5,.v),(9,.v),(10,J),(11,J)]
def o3 := O 935
def B3 (P : PT) (N2 : Y k1) : Y k1 := fun x1 x5 x9 x10 x11 H =>
  N2 x1 x5 x9 x10 (IntKind.i64.wrap (x11 + 1)) H
theorem q3 P N2 : Q o3 (E k1 N2) k1 (B3 P N2) := fun _ _ _ _ _ _ _ => by kernel_rfl
abbrev k2 : Sk := [(1,.i .u64),(5,.v),(6,J),(9,.v),(10,J),(11,J)]
def o4 := O 14950
def B4 (P : PT) (N2 : Y k1) : Y k2 := fun x1 x5 x6 x9 x10 x11 H =>
  newK H [(Value.int .i64 x6)] 2 (fun b1 H2 => apK T0 2 H2 x5 (Value.slice (some ⟨b1, 0, none⟩) 1 (1 + 1)) (fun v3 H4 => B3 P N2 x1 v3 x9 x10 x11 H4))
theorem q4 P N2 : Q o4 (E k1 (B3 P N2)) k2 (B4 P N2) := fun _ _ _ _ _ _ _ _ => by kernel_rfl
abbrev k3 : Sk := [(1,.i .u64),(5,.v),(6,J),(7,.x),(9,.v),(10,J),(11,J)]
def o5 := O 7474
def B5 (P : PT) (N2 : Y k1) : Y k3 := fun x1 x5 x6 x7 x9 x10 x11 H =>
  ldI .i64 H x7 0 (fun v1 => ldI .i64 H x7 1 (fun v2 => AC Tryz.prog T0 134 [(Value.int .u64 x1), (Value.int .i64 v1)] H (fun v3 H4 => asB v3 (fun v5 => (AHeap.le H H4) ∧ (AC Tryz.prog T0 134 [(Value.int .u64 x1), (Value.int .i64 v2)] H4 (fun v6 H7 => asB v6 (fun v8 => pif (!(v5 == v8)) (B4 P N2 x1 x5 x6 x9 x10 x11 H7) (B3 P N2 x1 x5 x9 x10 x11 H7))))))))
theorem q5 (P : PT) (N2 : Y k1) : QD Tryz.prog T0 31 o5 [(0, false), (1, false), (2, false), (4, false), (5, false), (6, false), (3, true), (7, false), (8, false)] (cnd 24 (En 31 k2 (B4 P N2)) (En 31 k1 (B3 P N2))) k3 (B5 P N2) := fun _ _ _ _ _ _ _ _ _  => by kernel_rfl
def o6 := O 3736
def B6 (P : PT) (N2 : Y k1) : Y k1 := fun x1 x5 x9 x10 x11 H =>
  idxK x9 x11 2 (fun b1 o2 => ldI .i64 H b1 o2 (fun v3 => ldI .i64 H b1 (o2 + 1) (fun v4 => newK H [(Value.int .i64 0), (Value.int .i64 0)] 78 (fun b5 H6 => stK H6 b5 0 [(Value.int .i64 v3), (Value.int .i64 v4)] (fun H7 => B5 P N2 x1 x5 x11 b5 x9 x10 x11 H7)))))
theorem q6 P N2 : Q o6 (E k3 (B5 P N2)) k1 (B6 P N2) := fun _ _ _ _ _ _ _ => by kernel_rfl
def o7 := O 232
def B7 (P : PT) (N2 : Y k1) : Y k1 := fun x1 x5 x9 x10 x11 H =>
  pif (decide ((x11 : Int) < x10)) (B6 P N2 x1 x5 x9 x10 x11 H) (B1 P x5 H)
theorem q7 P N2 : Q o7 (cnd 12 (E k1 (B6 P N2)) (E k0 (B1 P))) k1 (B7 P N2) := fun _ _ _ _ _ _ _ => by kernel_rfl
def L2 (P : PT) : Y k1 := fun x1 x5 x9 x10 x11 H =>
  ∃ (I : Y k1) (μ : NTy k1 (AHeap → Nat)), I x1 x5 x9 x10 x11 H ∧ ∀ y1 y5 y9 y10 y11 G, I y1 y5 y9 y10 y11 G → B7 P (fun z1 z5 z9 z10 z11 G' => I z1 z5 z9 z10 z11 G' ∧ μ z1 z5 z9 z10 z11 G' < μ y1 y5 y9 y10 y11 G) y1 y5 y9 y10 y11 G
theorem l2 P : LQ k1 (L2 P) (B7 P) := fun ⟨_,_,_,_,_,_⟩ _ ⟨I, μ, h0, hI⟩ => ⟨apT _ I, apT _ μ, h0, fun ⟨_,_,_,_,_,_⟩ _ h => hI _ _ _ _ _ _  h⟩
abbrev k4 : Sk := [(1,.i .u64),(2,.x),(5,.v)]
def o8 := O 28
def B8 (P : PT) : Y k4 := fun x1 x2 x5 H =>
  ld1 H x2 1 (fun v1 => lenK v1 (fun n2 => L2 P x1 x5 v1 (n2 : Int) 0 H))
theorem q8 P : Q o8 (E k1 (L2 P)) k4 (B8 P) := fun _ _ _ _ _ => by kernel_rfl
abbrev k5 : Sk := [(1,.i .u64),(2,.x)]
def o9 := O 6
def B9 (P : PT) : Y k5 := fun x1 x2 H =>
  B8 P x1 x2 (Value.slice none 0 0) H
theorem q9 P : Q o9 (E k4 (B8 P)) k5 (B9 P) := fun _ _ _ _ => by kernel_rfl
abbrev k6 : Sk := [(0,.g [.i,.v]),(1,.i .u64)]
def o10 := O 2
def B10 (P : PT) : Y k6 := fun x0a x0b x1 H =>
  newK H [(Value.int .i64 x0a), x0b] 26 (fun b1 H2 => B9 P x1 b1 H2)
theorem q10 P : Q o10 (E k5 (B9 P)) k6 (B10 P) := fun _ _ _ _ _ => by kernel_rfl
def code : Code := (.seq (R 0 o10) (.seq (R 1 o9) (.seq (.seq (R 2 o8) (.block 0 (.loop (.seq (R 3 o7) (.seq (.cond (.tmp 12) .skip (.exit 0)) (.seq (.block 1 (.seq (R 4 o6) (.seq (.region 5 ⟨o5⟩ true) (.cond (.tmp 24) (R 6 o4) .skip)))) (R 7 o3))))))) (.seq (R 8 o1) .ret))))
theorem body : Tryz.f99.body = some code := by kernel_rfl
theorem main (P : PT) : ∀ env H, (En 31 k6 (B10 P)) env H → AW Tryz.prog T0 code env H (M (ret P)) :=
  (r_seq (b (q10 P)) (r_seq (b (q9 P)) (r_seq (r_seq (b (q8 P)) (r_block (rL (l2 P) (fun N2 => (r_seq (b (q7 P N2)) (r_seq (r_cond rfl r_skip (r_exit (fun _ _ h => h))) (r_seq (r_block (r_seq (b (q6 P N2)) (r_seq (rD T0_ok mixed [(0, false), (1, false), (2, false), (4, false), (5, false), (6, false), (3, true), (7, false), (8, false)] (by kernel_rfl) (q5 P N2)) (r_cond rfl (b (q4 P N2)) r_skip)))) (b (q3 P N2))))))))) (r_seq (b (q1 P)) r_ret))))
theorem ac (P : PT) (x0a : Int) (x0b : Value) (x1 : Int) (H : AHeap) (h : B10 P x0a x0b x1 H) : AC Tryz.prog T0 99 [(Value.agg ⟨[(Value.int .i64 x0a), x0b]⟩), (Value.int .u64 x1)] H P :=
  r_fn T0_ok (c := code) (n := 31) Tryz.func99 body (by kernel_rfl) (main P) (En_mk (x0a, x0b, x1, ()) (by kernel_rfl) ⟨by kernel_rfl, by kernel_rfl, trivial⟩ h)

end F99
namespace F103
abbrev E := En 46
abbrev Q := QB Tryz.prog T0 46
def O (k : Nat) := ob Tryz.f103 (pth k)
def ret (P : PT) : EP := retE T0 46 Tryz.f103 P
abbrev k0 : Sk := [(5,.v)]
def o1 := O 62
def B1 (P : PT) : Y k0 := fun x5 H =>
  P x5 H
theorem q1 P : Q o1 (ret P) k0 (B1 P) := fun _ _ _ => by kernel_rfl
abbrev k1 : Sk := [(1,.i .u64),(2,.x),(5,.v),(6,.i .u64),(12,J),(13,J)]
def o3 := O 1959
def B3 (P : PT) (N2 : Y k1) : Y k1 := fun x1 x2 x5 x6 x12 x13 H =>
  N2 x1 x2 x5 x6 x12 (IntKind.i64.wrap (x13 + 1)) H
theorem q3 P N2 : Q o3 (E k1 N2) k1 (B3 P N2) := fun _ _ _ _ _ _ _ _ => by kernel_rfl
abbrev k2 : Sk := [(1,.i .u64),(2,.x),(5,.v),(6,.i .u64),(8,.v),(12,J),(13,J)]
def o4 := O 62671
def B4 (P : PT) (N2 : Y k1) : Y k2 := fun x1 x2 x5 x6 x8 x12 x13 H =>
  pif (Value.oneCell' x8) (newK H [x8] 28 (fun b1 H2 => apK T0 28 H2 x5 (Value.slice (some ⟨b1, 0, none⟩) 1 (1 + 1)) (fun v3 H4 => B3 P N2 x1 x2 v3 x6 x12 x13 H4))) False
theorem q4 P N2 : Q o4 (E k1 (B3 P N2)) k2 (B4 P N2) := fun _ _ _ _ _ _ _ _ _ => by kernel_rfl
abbrev k3 : Sk := [(1,.i .u64),(2,.x),(5,.v),(6,.i .u64),(8,.v),(12,J),(13,J),(22,.v),(23,J),(24,J)]
def o6 := O 4010919
def B6 (P : PT) (N2 : Y k1) (N5 : Y k3) : Y k3 := fun x1 x2 x5 x6 x8 x12 x13 x22 x23 x24 H =>
  N5 x1 x2 x5 x6 x8 x12 x13 x22 x23 (IntKind.i64.wrap (x24 + 1)) H
theorem q6 P N2 N5 : Q o6 (E k3 N5) k3 (B6 P N2 N5) := fun _ _ _ _ _ _ _ _ _ _ _ _ => by kernel_rfl
abbrev k4 : Sk := [(1,.i .u64),(2,.x),(5,.v),(6,.i .u64),(8,.v),(9,J),(12,J),(13,J),(22,.v),(23,J),(24,J)]
def o7 := O 128349389
def B7 (P : PT) (N2 : Y k1) (N5 : Y k3) : Y k4 := fun x1 x2 x5 x6 x8 x9 x12 x13 x22 x23 x24 H =>
  ((0 : Int) ≤ x9) ∧ (B6 P N2 N5 x1 x2 x5 (IntKind.u64.wrap (BitVec.ofInt 64 x6 ||| BitVec.ofInt 64 (IntKind.u64.wrap (1 * 2 ^ (min (Int.toNat x9) 64)))).toNat) x8 x12 x13 x22 x23 x24 H)
theorem q7 P N2 N5 : Q o7 (E k3 (B6 P N2 N5)) k4 (B7 P N2 N5) := fun _ _ _ _ _ _ _ _ _ _ _ _ _ => by kernel_rfl
def o8 := O 128349388
def B8 (P : PT) (N2 : Y k1) (N5 : Y k3) : Y k4 := fun x1 x2 x5 x6 x8 x9 x12 x13 x22 x23 x24 H =>
  newK H [(Value.int .i64 x9)] 2 (fun b1 H2 => apK T0 2 H2 x8 (Value.slice (some ⟨b1, 0, none⟩) 1 (1 + 1)) (fun v3 H4 => B7 P N2 N5 x1 x2 x5 x6 v3 x9 x12 x13 x22 x23 x24 H4))
theorem q8 P N2 N5 : Q o8 (E k4 (B7 P N2 N5)) k4 (B8 P N2 N5) := fun _ _ _ _ _ _ _ _ _ _ _ _ _ => by kernel_rfl
abbrev k5 : Sk := [(1,.i .u64),(2,.x),(5,.v),(6,.i .u64),(8,.v),(9,J),(10,J),(12,J),(13,J),(22,.v),(23,J),(24,J)]
def o9 := O 32087346
def B9 (P : PT) (N2 : Y k1) (N5 : Y k3) : Y k5 := fun x1 x2 x5 x6 x8 x9 x10 x12 x13 x22 x23 x24 H =>
  pif (decide ((x10 : Int) ≥ 0)) (B8 P N2 N5 x1 x2 x5 x6 x8 x9 x12 x13 x22 x23 x24 H) (B6 P N2 N5 x1 x2 x5 x6 x8 x12 x13 x22 x23 x24 H)
theorem q9 P N2 N5 : Q o9 (cnd 30 (E k4 (B8 P N2 N5)) (E k3 (B6 P N2 N5))) k5 (B9 P N2 N5) := fun _ _ _ _ _ _ _ _ _ _ _ _ _ _ => by kernel_rfl
def o10 := O 16043672
def B10 (P : PT) (N2 : Y k1) (N5 : Y k3) : Y k3 := fun x1 x2 x5 x6 x8 x12 x13 x22 x23 x24 H =>
  idxK x22 x24 1 (fun b1 o2 => ldI .i64 H b1 o2 (fun v3 => B9 P N2 N5 x1 x2 x5 x6 x8 x24 v3 x12 x13 x22 x23 x24 H))
theorem q10 P N2 N5 : Q o10 (E k5 (B9 P N2 N5)) k3 (B10 P N2 N5) := fun _ _ _ _ _ _ _ _ _ _ _ _ => by kernel_rfl
def o11 := O 1002728
def B11 (P : PT) (N2 : Y k1) (N5 : Y k3) : Y k3 := fun x1 x2 x5 x6 x8 x12 x13 x22 x23 x24 H =>
  pif (decide ((x24 : Int) < x23)) (B10 P N2 N5 x1 x2 x5 x6 x8 x12 x13 x22 x23 x24 H) (B4 P N2 x1 x2 x5 x6 x8 x12 x13 H)
theorem q11 P N2 N5 : Q o11 (cnd 25 (E k3 (B10 P N2 N5)) (E k2 (B4 P N2))) k3 (B11 P N2 N5) := fun _ _ _ _ _ _ _ _ _ _ _ _ => by kernel_rfl
def L5 (P : PT) (N2 : Y k1) : Y k3 := fun x1 x2 x5 x6 x8 x12 x13 x22 x23 x24 H =>
  ∃ (I : Y k3) (μ : NTy k3 (AHeap → Nat)), I x1 x2 x5 x6 x8 x12 x13 x22 x23 x24 H ∧ ∀ y1 y2 y5 y6 y8 y12 y13 y22 y23 y24 G, I y1 y2 y5 y6 y8 y12 y13 y22 y23 y24 G → B11 P N2 (fun z1 z2 z5 z6 z8 z12 z13 z22 z23 z24 G' => I z1 z2 z5 z6 z8 z12 z13 z22 z23 z24 G' ∧ μ z1 z2 z5 z6 z8 z12 z13 z22 z23 z24 G' < μ y1 y2 y5 y6 y8 y12 y13 y22 y23 y24 G) y1 y2 y5 y6 y8 y12 y13 y22 y23 y24 G
theorem l5 P N2 : LQ k3 (L5 P N2) (B11 P N2) := fun ⟨_,_,_,_,_,_,_,_,_,_,_⟩ _ ⟨I, μ, h0, hI⟩ => ⟨apT _ I, apT _ μ, h0, fun ⟨_,_,_,_,_,_,_,_,_,_,_⟩ _ h => hI _ _ _ _ _ _ _ _ _ _ _  h⟩
abbrev k6 : Sk := [(1,.i .u64),(2,.x),(5,.v),(6,.i .u64),(7,J),(8,.v),(12,J),(13,J)]
def o12 := O 125340
def B12 (P : PT) (N2 : Y k1) : Y k6 := fun x1 x2 x5 x6 x7 x8 x12 x13 H =>
  ldI .i64 H x2 0 (fun v1 => ld1 H x2 1 (fun v2 => AC Tryz.prog T0 155 [(Value.agg ⟨[(Value.int .i64 v1), v2]⟩), (Value.int .i64 x7), (Value.int .u64 x1)] H (fun v3 H4 => lenK v3 (fun n6 => L5 P N2 x1 x2 x5 x6 x8 x12 x13 v3 (n6 : Int) 0 H4))))
theorem q12 P N2 : Q o12 (E k3 (L5 P N2)) k6 (B12 P N2) := fun _ _ _ _ _ _ _ _ _ _ => by kernel_rfl
abbrev k7 : Sk := [(1,.i .u64),(2,.x),(5,.v),(6,.i .u64),(7,J),(12,J),(13,J)]
def o13 := O 31334
def B13 (P : PT) (N2 : Y k1) : Y k7 := fun x1 x2 x5 x6 x7 x12 x13 H =>
  B12 P N2 x1 x2 x5 x6 x7 (Value.slice none 0 0) x12 x13 H
theorem q13 P N2 : Q o13 (E k6 (B12 P N2)) k7 (B13 P N2) := fun _ _ _ _ _ _ _ _ _ => by kernel_rfl
def o14 := O 31332
def B14 (P : PT) (N2 : Y k1) : Y k7 := fun x1 x2 x5 x6 x7 x12 x13 H =>
  AC Tryz.prog T0 134 [(Value.int .u64 x6), (Value.int .i64 x7)] H (fun v1 H2 => asB v1 (fun v3 => pif v3 (B3 P N2 x1 x2 x5 x6 x12 x13 H2) (B13 P N2 x1 x2 x5 x6 x7 x12 x13 H2)))
theorem q14 P N2 : Q o14 (cnd 18 (E k1 (B3 P N2)) (E k7 (B13 P N2))) k7 (B14 P N2) := fun _ _ _ _ _ _ _ _ _ => by kernel_rfl
def o15 := O 7832
def B15 (P : PT) (N2 : Y k1) : Y k1 := fun x1 x2 x5 x6 x12 x13 H =>
  B14 P N2 x1 x2 x5 x6 x13 x12 x13 H
theorem q15 P N2 : Q o15 (E k7 (B14 P N2)) k1 (B15 P N2) := fun _ _ _ _ _ _ _ _ => by kernel_rfl
def o16 := O 488
def B16 (P : PT) (N2 : Y k1) : Y k1 := fun x1 x2 x5 x6 x12 x13 H =>
  pif (decide ((x13 : Int) < x12)) (B15 P N2 x1 x2 x5 x6 x12 x13 H) (B1 P x5 H)
theorem q16 P N2 : Q o16 (cnd 14 (E k1 (B15 P N2)) (E k0 (B1 P))) k1 (B16 P N2) := fun _ _ _ _ _ _ _ _ => by kernel_rfl
def L2 (P : PT) : Y k1 := fun x1 x2 x5 x6 x12 x13 H =>
  ∃ (I : Y k1) (μ : NTy k1 (AHeap → Nat)), I x1 x2 x5 x6 x12 x13 H ∧ ∀ y1 y2 y5 y6 y12 y13 G, I y1 y2 y5 y6 y12 y13 G → B16 P (fun z1 z2 z5 z6 z12 z13 G' => I z1 z2 z5 z6 z12 z13 G' ∧ μ z1 z2 z5 z6 z12 z13 G' < μ y1 y2 y5 y6 y12 y13 G) y1 y2 y5 y6 y12 y13 G
theorem l2 P : LQ k1 (L2 P) (B16 P) := fun ⟨_,_,_,_,_,_,_⟩ _ ⟨I, μ, h0, hI⟩ => ⟨apT _ I, apT _ μ, h0, fun ⟨_,_,_,_,_,_,_⟩ _ h => hI _ _ _ _ _ _ _  h⟩
abbrev k8 : Sk := [(1,.i .u64),(2,.x),(5,.v),(6,.i .u64)]
def o17 := O 60
def B17 (P : PT) : Y k8 := fun x1 x2 x5 x6 H =>
  ldI .i64 H x2 0 (fun v1 => L2 P x1 x2 x5 x6 v1 0 H)
theorem q17 P : Q o17 (E k1 (L2 P)) k8 (B17 P) := fun _ _ _ _ _ _ => by kernel_rfl
abbrev k9 : Sk := [(1,.i .u64),(2,.x),(5,.v)]
def o18 := O 14
def B18 (P : PT) : Y k9 := fun x1 x2 x5 H =>
  B17 P x1 x2 x5 0 H
theorem q18 P : Q o18 (E k8 (B17 P)) k9 (B18 P) := fun _ _ _ _ _ => by kernel_rfl
abbrev k10 : Sk := [(1,.i .u64),(2,.x)]
def o19 := O 6
def B19 (P : PT) : Y k10 := fun x1 x2 H =>
  B18 P x1 x2 (Value.slice none 0 0) H
theorem q19 P : Q o19 (E k9 (B18 P)) k10 (B19 P) := fun _ _ _ _ => by kernel_rfl
abbrev k11 : Sk := [(0,.g [.i,.v]),(1,.i .u64)]
def o20 := O 2
def B20 (P : PT) : Y k11 := fun x0a x0b x1 H =>
  newK H [(Value.int .i64 x0a), x0b] 26 (fun b1 H2 => B19 P x1 b1 H2)
theorem q20 P : Q o20 (E k10 (B19 P)) k11 (B20 P) := fun _ _ _ _ _ => by kernel_rfl
def code : Code := (.seq (R 0 o20) (.seq (R 1 o19) (.seq (R 2 o18) (.seq (.seq (R 3 o17) (.block 0 (.loop (.seq (R 4 o16) (.seq (.cond (.tmp 14) .skip (.exit 0)) (.seq (.block 1 (.seq (R 5 o15) (.seq (.seq (R 6 o14) (.cond (.tmp 18) (.exit 1) .skip)) (.seq (R 7 o13) (.seq (.seq (R 8 o12) (.block 2 (.loop (.seq (R 9 o11) (.seq (.cond (.tmp 25) .skip (.exit 2)) (.seq (.block 3 (.seq (R 10 o10) (.seq (R 11 o9) (.cond (.tmp 30) (.seq (R 12 o8) (R 13 o7)) .skip)))) (R 14 o6))))))) (R 15 o4)))))) (R 16 o3))))))) (.seq (R 17 o1) .ret)))))
theorem body : Tryz.f103.body = some code := by kernel_rfl
theorem main (P : PT) : ∀ env H, (En 46 k11 (B20 P)) env H → AW Tryz.prog T0 code env H (M (ret P)) :=
  (r_seq (b (q20 P)) (r_seq (b (q19 P)) (r_seq (b (q18 P)) (r_seq (r_seq (b (q17 P)) (r_block (rL (l2 P) (fun N2 => (r_seq (b (q16 P N2)) (r_seq (r_cond rfl r_skip (r_exit (fun _ _ h => h))) (r_seq (r_block (r_seq (b (q15 P N2)) (r_seq (r_seq (b (q14 P N2)) (r_cond rfl (r_exit (fun _ _ h => h)) r_skip)) (r_seq (b (q13 P N2)) (r_seq (r_seq (b (q12 P N2)) (r_block (rL (l5 P N2) (fun N5 => (r_seq (b (q11 P N2 N5)) (r_seq (r_cond rfl r_skip (r_exit (fun _ _ h => h))) (r_seq (r_block (r_seq (b (q10 P N2 N5)) (r_seq (b (q9 P N2 N5)) (r_cond rfl (r_seq (b (q8 P N2 N5)) (b (q7 P N2 N5))) r_skip)))) (b (q6 P N2 N5))))))))) (b (q4 P N2))))))) (b (q3 P N2))))))))) (r_seq (b (q1 P)) r_ret)))))
theorem ac (P : PT) (x0a : Int) (x0b : Value) (x1 : Int) (H : AHeap) (h : B20 P x0a x0b x1 H) : AC Tryz.prog T0 103 [(Value.agg ⟨[(Value.int .i64 x0a), x0b]⟩), (Value.int .u64 x1)] H P :=
  r_fn T0_ok (c := code) (n := 46) Tryz.func103 body (by kernel_rfl) (main P) (En_mk (x0a, x0b, x1, ()) (by kernel_rfl) ⟨by kernel_rfl, by kernel_rfl, trivial⟩ h)

end F103
namespace F125
abbrev E := En 51
abbrev Q := QB Tryz.prog T0 51
def O (k : Nat) := ob Tryz.f125 (pth k)
def ret (P : PT) : EP := retE T0 51 Tryz.f125 P
abbrev k0 : Sk := [(2,.x),(6,.v),(7,.x),(8,.v),(9,J)]
def o1 := O 254
def B1 (P : PT) : Y k0 := fun x2 x6 x7 x8 x9 H =>
  ldI .i64 H x7 0 (fun v1 => ld1 H x7 1 (fun v2 => AC Tryz.prog T0 66 [x6, (Value.int .i64 4)] H (fun v3 H4 => asI .i64 v3 (fun v5 => (ldI .i64 H4 x7 0 (fun v6 => ld1 H4 x7 1 (fun v7 => ((Value.agg ⟨[(Value.int .i64 v6), v7]⟩) = (Value.agg ⟨[(Value.int .i64 v1), v2]⟩)) ∧ (H4 = H4)))) ∧ (stK H4 x2 0 [(Value.int .i64 v1), v2] (fun H8 => ldI .i64 H8 x2 0 (fun v9 => ld1 H8 x2 1 (fun v10 => P (Value.tuple ⟨[(Value.agg ⟨[(Value.int .i64 v9), v10]⟩), x8, (Value.int .i64 x9), (Value.int .i64 v5)]⟩) H8))))))))
theorem q1 (P : PT) : QT Tryz.prog T0 51 o1 (.op 0 [] (.op 1 [] (.op 2 [] (.op 3 [] (.op 4 [0] (.op 5 [] (.op 6 [] (.op 7 [] (.op 8 [] .done))))))))) (ret P) k0 (B1 P) := fun _ _ _ _ _ _ _  => by kernel_rfl
def o2 := O 1012
def B2 (P : PT) : Y k0 := fun x2 x6 x7 x8 x9 H =>
  ldI .i64 H x7 0 (fun v1 => ld1 H x7 1 (fun v2 => idxK x8 x9 1 (fun b3 o4 => ldI .i64 H b3 o4 (fun v5 => AC Tryz.prog T0 66 [x6, (Value.int .i64 2)] H (fun v6 H7 => asI .i64 v6 (fun v8 => (ldI .i64 H7 x7 0 (fun v9 => ld1 H7 x7 1 (fun v10 => ((Value.agg ⟨[(Value.int .i64 v9), v10]⟩) = (Value.agg ⟨[(Value.int .i64 v1), v2]⟩)) ∧ (H7 = H7)))) ∧ ((ldI .i64 H7 b3 o4 (fun v11 => ((Value.int .i64 v11) = (Value.int .i64 v5)) ∧ (H7 = H7))) ∧ (stK H7 x2 0 [(Value.int .i64 v1), v2] (fun H12 => (ldI .i64 H12 b3 o4 (fun v13 => ((Value.int .i64 v13) = (Value.int .i64 v5)) ∧ (H12 = H12))) ∧ (ldI .i64 H12 x2 0 (fun v14 => ld1 H12 x2 1 (fun v15 => P (Value.tuple ⟨[(Value.agg ⟨[(Value.int .i64 v14), v15]⟩), x8, (Value.int .i64 x9), (Value.int .i64 (Int.tmod (IntKind.i64.wrap ((IntKind.i64.wrap (v5 + 1)) + v8)) 3))]⟩) H12))))))))))))
theorem q2 (P : PT) : QT Tryz.prog T0 51 o2 (.op 0 [] (.op 1 [] (.op 2 [] (.op 3 [] (.op 4 [] (.op 5 [] (.op 6 [] (.op 7 [] (.op 8 [] (.op 9 [0, 6] (.op 10 [] (.op 11 [] (.op 12 [6] (.op 13 [] (.op 14 [] (.op 15 [] .done)))))))))))))))) (ret P) k0 (B2 P) := fun _ _ _ _ _ _ _  => by kernel_rfl
def o3 := O 252
def B3 (P : PT) : Y k0 := fun x2 x6 x7 x8 x9 H =>
  lenK x8 (fun n1 => pif (decide ((x9 : Int) < (n1 : Int))) (AC Tryz.prog T0 66 [x6, (Value.int .i64 12)] H (fun v2 H3 => asI .i64 v2 (fun v4 => pif (decide ((v4 : Int) > 0)) (B2 P x2 x6 x7 x8 x9 H3) (B1 P x2 x6 x7 x8 x9 H3)))) (B1 P x2 x6 x7 x8 x9 H))
theorem q3 P : Q o3 (cnd 33 (E k0 (B2 P)) (E k0 (B1 P))) k0 (B3 P) := fun _ _ _ _ _ _ _ => by kernel_rfl
abbrev k1 : Sk := [(2,.x),(6,.v),(7,.x),(8,.v)]
def o4 := O 62
def B4 (P : PT) : Y k1 := fun x2 x6 x7 x8 H =>
  lenK x8 (fun n1 => AC Tryz.prog T0 66 [x6, (Value.int .i64 24)] H (fun v2 H3 => asI .i64 v2 (fun v4 => AC Tryz.prog T0 66 [x6, (Value.int .i64 (IntKind.i64.wrap ((n1 : Int) + (IntKind.i64.wrap (Int.tdiv v4 23)))))] H3 (fun v5 H6 => asI .i64 v5 (fun v7 => B3 P x2 x6 x7 x8 v7 H6)))))
theorem q4 P : Q o4 (E k0 (B3 P)) k1 (B4 P) := fun _ _ _ _ _ _ => by kernel_rfl
abbrev k2 : Sk := [(2,.x),(6,.v),(7,.x)]
def o5 := O 30
def B5 (P : PT) : Y k2 := fun x2 x6 x7 H =>
  ldI .i64 H x7 0 (fun v1 => ld1 H x7 1 (fun v2 => AC Tryz.prog T0 136 [x6, (Value.agg ⟨[(Value.int .i64 v1), v2]⟩)] H (fun v3 H4 => B4 P x2 x6 x7 v3 H4)))
theorem q5 P : Q o5 (E k1 (B4 P)) k2 (B5 P) := fun _ _ _ _ _ => by kernel_rfl
abbrev k3 : Sk := [(2,.x),(6,.v)]
def o6 := O 14
def B6 (P : PT) : Y k3 := fun x2 x6 H =>
  AC Tryz.prog T0 71 [x6] H (fun v1 H2 => agg2 v1 (fun v3 v4 => asI .i64 v3 (fun v5 => newK H2 [(Value.int .i64 0), (Value.slice none 0 0)] 26 (fun b7 H8 => stK H8 b7 0 [(Value.int .i64 v5), v4] (fun H9 => B5 P x2 x6 b7 H9)))))
theorem q6 P : Q o6 (E k2 (B5 P)) k3 (B6 P) := fun _ _ _ _ => by kernel_rfl
abbrev k4 : Sk := [(0,.v),(2,.x)]
def o7 := O 6
def B7 (P : PT) : Y k4 := fun x0 x2 H =>
  AC Tryz.prog T0 65 [x0] H (fun v1 H2 => B6 P x2 v1 H2)
theorem q7 P : Q o7 (E k3 (B6 P)) k4 (B7 P) := fun _ _ _ _ => by kernel_rfl
abbrev k5 : Sk := [(0,.v)]
def o8 := O 2
def B8 (P : PT) : Y k5 := fun x0 H =>
  newK H [(Value.int .i64 0), (Value.slice none 0 0)] 26 (fun b1 H2 => B7 P x0 b1 H2)
theorem q8 P : Q o8 (E k4 (B7 P)) k5 (B8 P) := fun _ _ _ => by kernel_rfl
def code : Code := (.seq (R 0 o8) (.seq (R 1 o7) (.seq (R 2 o6) (.seq (R 3 o5) (.seq (R 4 o4) (.seq (.seq (R 5 o3) (.cond (.tmp 33) (.seq (.region 6 ⟨o2⟩ true) .ret) .skip)) (.seq (.region 7 ⟨o1⟩ true) .ret)))))))
theorem body : Tryz.f125.body = some code := by kernel_rfl
theorem main (P : PT) : ∀ env H, (En 51 k5 (B8 P)) env H → AW Tryz.prog T0 code env H (M (ret P)) :=
  (r_seq (b (q8 P)) (r_seq (b (q7 P)) (r_seq (b (q6 P)) (r_seq (b (q5 P)) (r_seq (b (q4 P)) (r_seq (r_seq (b (q3 P)) (r_cond rfl (r_seq (rT T0_ok mixed (.op 0 [] (.op 1 [] (.op 2 [] (.op 3 [] (.op 4 [] (.op 5 [] (.op 6 [] (.op 7 [] (.op 8 [] (.op 9 [0, 6] (.op 10 [] (.op 11 [] (.op 12 [6] (.op 13 [] (.op 14 [] (.op 15 [] .done)))))))))))))))) (by kernel_rfl) (q2 P)) r_ret) r_skip)) (r_seq (rT T0_ok mixed (.op 0 [] (.op 1 [] (.op 2 [] (.op 3 [] (.op 4 [0] (.op 5 [] (.op 6 [] (.op 7 [] (.op 8 [] .done))))))))) (by kernel_rfl) (q1 P)) r_ret)))))))
theorem ac (P : PT) (x0 : Value) (H : AHeap) (h : B8 P x0 H) : AC Tryz.prog T0 125 [x0] H P :=
  r_fn T0_ok (c := code) (n := 51) Tryz.func125 body (by kernel_rfl) (main P) (En_mk (x0, ()) (by kernel_rfl) ⟨by kernel_rfl, trivial⟩ h)

end F125
namespace F126
abbrev E := En 31
abbrev Q := QB Tryz.prog T0 31
def O (k : Nat) := ob Tryz.f126 (pth k)
def ret (P : PT) : EP := retE T0 31 Tryz.f126 P
abbrev k0 : Sk := [(1,.v),(2,J),(3,J),(4,.x)]
def o1 := O 6
def B1 (P : PT) : Y k0 := fun x1 x2 x3 x4 H =>
  ldI .i64 H x4 0 (fun v1 => ld1 H x4 1 (fun v2 => ldI .i64 H x4 0 (fun v3 => ld1 H x4 1 (fun v4 => AC Tryz.prog T0 133 [(Value.agg ⟨[(Value.int .i64 v3), v4]⟩), x1] H (fun v5 H6 => asB v5 (fun v7 => (AHeap.le H H6) ∧ (pif v7 (ldI .i64 H6 x4 0 (fun v8 => ld1 H6 x4 1 (fun v9 => AC Tryz.prog T0 172 [(Value.agg ⟨[(Value.int .i64 v8), v9]⟩), (Value.int .i64 x2)] H6 (fun v10 H11 => asB v10 (fun v12 => (AHeap.le H6 H11) ∧ (pif v12 (AC Tryz.prog T0 173 [(Value.int .i64 x3)] H11 (fun v13 H14 => asB v13 (fun v15 => (AHeap.le H11 H14) ∧ (pif v15 (idxK x1 x2 1 (fun b16 o17 => ldI .i64 H14 b16 o17 (fun v18 => AC Tryz.prog T0 72 [(Value.agg ⟨[(Value.int .i64 v1), v2]⟩), (Value.bool ((v18 : Int) != x3))] H14 (fun v19 H20 => asI .i64 v19 (fun v21 => P (Value.int .i64 v21) H20))))) (AC Tryz.prog T0 72 [(Value.agg ⟨[(Value.int .i64 v1), v2]⟩), (Value.bool false)] H14 (fun v22 H23 => asI .i64 v22 (fun v24 => P (Value.int .i64 v24) H23))))))) (AC Tryz.prog T0 72 [(Value.agg ⟨[(Value.int .i64 v1), v2]⟩), (Value.bool false)] H11 (fun v25 H26 => asI .i64 v25 (fun v27 => P (Value.int .i64 v27) H26))))))))) (AC Tryz.prog T0 72 [(Value.agg ⟨[(Value.int .i64 v1), v2]⟩), (Value.bool false)] H6 (fun v28 H29 => asI .i64 v28 (fun v30 => P (Value.int .i64 v30) H29))))))))))
theorem q1 (P : PT) : QD Tryz.prog T0 31 o1 [(0, false), (1, false), (2, false), (3, true), (4, false), (5, false), (6, false), (7, true), (8, false), (9, false), (10, false), (11, true), (12, false), (13, false), (14, false), (15, false), (16, false), (17, false), (18, false), (19, false), (20, false), (21, false), (22, false)] (ret P) k0 (B1 P) := fun _ _ _ _ _ _  => by kernel_rfl
abbrev k1 : Sk := [(0,.g [.i,.v]),(1,.v),(2,J),(3,J)]
def o2 := O 2
def B2 (P : PT) : Y k1 := fun x0a x0b x1 x2 x3 H =>
  newK H [(Value.int .i64 x0a), x0b] 26 (fun b1 H2 => B1 P x1 x2 x3 b1 H2)
theorem q2 P : Q o2 (E k0 (B1 P)) k1 (B2 P) := fun _ _ _ _ _ _ _ => by kernel_rfl
def code : Code := (.seq (R 0 o2) (.seq (.region 1 ⟨o1⟩ true) .ret))
theorem body : Tryz.f126.body = some code := by kernel_rfl
theorem main (P : PT) : ∀ env H, (En 31 k1 (B2 P)) env H → AW Tryz.prog T0 code env H (M (ret P)) :=
  (r_seq (b (q2 P)) (r_seq (rD T0_ok mixed [(0, false), (1, false), (2, false), (3, true), (4, false), (5, false), (6, false), (7, true), (8, false), (9, false), (10, false), (11, true), (12, false), (13, false), (14, false), (15, false), (16, false), (17, false), (18, false), (19, false), (20, false), (21, false), (22, false)] (by kernel_rfl) (q1 P)) r_ret))
theorem ac (P : PT) (x0a : Int) (x0b x1 : Value) (x2 x3 : Int) (H : AHeap) (h : B2 P x0a x0b x1 x2 x3 H) : AC Tryz.prog T0 126 [(Value.agg ⟨[(Value.int .i64 x0a), x0b]⟩), x1, (Value.int .i64 x2), (Value.int .i64 x3)] H P :=
  r_fn T0_ok (c := code) (n := 31) Tryz.func126 body (by kernel_rfl) (main P) (En_mk (x0a, x0b, x1, x2, x3, ()) (by kernel_rfl) ⟨by kernel_rfl, by kernel_rfl, by kernel_rfl, by kernel_rfl, trivial⟩ h)

end F126
namespace F127
abbrev E := En 41
abbrev Q := QB Tryz.prog T0 41
def O (k : Nat) := ob Tryz.f127 (pth k)
def ret (P : PT) : EP := retE T0 41 Tryz.f127 P
abbrev k0 : Sk := [(9,.v)]
def o1 := O 30
def B1 (P : PT) : Y k0 := fun x9 H =>
  P x9 H
theorem q1 P : Q o1 (ret P) k0 (B1 P) := fun _ _ _ => by kernel_rfl
abbrev k1 : Sk := [(1,.v),(2,J),(3,J),(9,.v),(19,.v),(20,J),(21,J)]
def o3 := O 935
def B3 (P : PT) (N2 : Y k1) : Y k1 := fun x1 x2 x3 x9 x19 x20 x21 H =>
  N2 x1 x2 x3 x9 x19 x20 (IntKind.i64.wrap (x21 + 1)) H
theorem q3 P N2 : Q o3 (E k1 N2) k1 (B3 P N2) := fun _ _ _ _ _ _ _ _ _ => by kernel_rfl
abbrev k2 : Sk := [(1,.v),(2,J),(3,J),(9,.v),(11,J),(19,.v),(20,J),(21,J)]
def o4 := O 3737
def B4 (P : PT) (N2 : Y k1) : Y k2 := fun x1 x2 x3 x9 x11 x19 x20 x21 H =>
  idxK x1 x2 1 (fun b1 o2 => ldI .i64 H b1 o2 (fun v3 => idxK x1 x11 1 (fun b4 o5 => ldI .i64 H b4 o5 (fun v6 => idxK x9 x11 1 (fun b7 o8 => stK H b7 o8 [(Value.int .i64 (IntKind.i64.wrap ((IntKind.i64.wrap (v3 + x3)) - v6)))] (fun H9 => B3 P N2 x1 x2 x3 x9 x19 x20 x21 H9))))))
theorem q4 (P : PT) (N2 : Y k1) : QD Tryz.prog T0 41 o4 [(0, false), (1, false), (2, false), (3, false), (4, false), (5, false), (6, false), (7, false), (8, false), (9, false), (10, false), (11, false), (12, false), (13, false), (14, false)] (En 41 k1 (B3 P N2)) k2 (B4 P N2) := fun _ _ _ _ _ _ _ _ _ _  => by kernel_rfl
def o5 := O 3736
def B5 (P : PT) (N2 : Y k1) : Y k1 := fun x1 x2 x3 x9 x19 x20 x21 H =>
  idxK x19 x21 1 (fun b1 o2 => ldI .i64 H b1 o2 (fun v3 => B4 P N2 x1 x2 x3 x9 v3 x19 x20 x21 H))
theorem q5 P N2 : Q o5 (E k2 (B4 P N2)) k1 (B5 P N2) := fun _ _ _ _ _ _ _ _ _ => by kernel_rfl
def o6 := O 232
def B6 (P : PT) (N2 : Y k1) : Y k1 := fun x1 x2 x3 x9 x19 x20 x21 H =>
  pif (decide ((x21 : Int) < x20)) (B5 P N2 x1 x2 x3 x9 x19 x20 x21 H) (B1 P x9 H)
theorem q6 P N2 : Q o6 (cnd 22 (E k1 (B5 P N2)) (E k0 (B1 P))) k1 (B6 P N2) := fun _ _ _ _ _ _ _ _ _ => by kernel_rfl
def L2 (P : PT) : Y k1 := fun x1 x2 x3 x9 x19 x20 x21 H =>
  ∃ (I : Y k1) (μ : NTy k1 (AHeap → Nat)), I x1 x2 x3 x9 x19 x20 x21 H ∧ ∀ y1 y2 y3 y9 y19 y20 y21 G, I y1 y2 y3 y9 y19 y20 y21 G → B6 P (fun z1 z2 z3 z9 z19 z20 z21 G' => I z1 z2 z3 z9 z19 z20 z21 G' ∧ μ z1 z2 z3 z9 z19 z20 z21 G' < μ y1 y2 y3 y9 y19 y20 y21 G) y1 y2 y3 y9 y19 y20 y21 G
theorem l2 P : LQ k1 (L2 P) (B6 P) := fun ⟨_,_,_,_,_,_,_,_⟩ _ ⟨I, μ, h0, hI⟩ => ⟨apT _ I, apT _ μ, h0, fun ⟨_,_,_,_,_,_,_,_⟩ _ h => hI _ _ _ _ _ _ _ _  h⟩
abbrev k3 : Sk := [(1,.v),(2,J),(3,J),(4,.x),(9,.v)]
def o7 := O 28
def B7 (P : PT) : Y k3 := fun x1 x2 x3 x4 x9 H =>
  ldI .i64 H x4 0 (fun v1 => ld1 H x4 1 (fun v2 => AC Tryz.prog T0 130 [(Value.agg ⟨[(Value.int .i64 v1), v2]⟩), x1, (Value.int .i64 x2), (Value.int .i64 x3)] H (fun v3 H4 => asI .u64 v3 (fun v5 => AC Tryz.prog T0 81 [(Value.int .u64 v5)] H4 (fun v6 H7 => lenK v6 (fun n9 => L2 P x1 x2 x3 x9 v6 (n9 : Int) 0 H7))))))
theorem q7 P : Q o7 (E k1 (L2 P)) k3 (B7 P) := fun _ _ _ _ _ _ _ => by kernel_rfl
abbrev k4 : Sk := [(1,.v),(2,J),(3,J),(4,.x)]
def o8 := O 6
def B8 (P : PT) : Y k4 := fun x1 x2 x3 x4 H =>
  AC Tryz.prog T0 174 [x1] H (fun v1 H2 => B7 P x1 x2 x3 x4 v1 H2)
theorem q8 P : Q o8 (E k3 (B7 P)) k4 (B8 P) := fun _ _ _ _ _ _ => by kernel_rfl
abbrev k5 : Sk := [(0,.g [.i,.v]),(1,.v),(2,J),(3,J)]
def o9 := O 2
def B9 (P : PT) : Y k5 := fun x0a x0b x1 x2 x3 H =>
  newK H [(Value.int .i64 x0a), x0b] 26 (fun b1 H2 => B8 P x1 x2 x3 b1 H2)
theorem q9 P : Q o9 (E k4 (B8 P)) k5 (B9 P) := fun _ _ _ _ _ _ _ => by kernel_rfl
def code : Code := (.seq (R 0 o9) (.seq (R 1 o8) (.seq (.seq (R 2 o7) (.block 0 (.loop (.seq (R 3 o6) (.seq (.cond (.tmp 22) .skip (.exit 0)) (.seq (.block 1 (.seq (R 4 o5) (.region 5 ⟨o4⟩ true))) (R 6 o3))))))) (.seq (R 7 o1) .ret))))
theorem body : Tryz.f127.body = some code := by kernel_rfl
theorem main (P : PT) : ∀ env H, (En 41 k5 (B9 P)) env H → AW Tryz.prog T0 code env H (M (ret P)) :=
  (r_seq (b (q9 P)) (r_seq (b (q8 P)) (r_seq (r_seq (b (q7 P)) (r_block (rL (l2 P) (fun N2 => (r_seq (b (q6 P N2)) (r_seq (r_cond rfl r_skip (r_exit (fun _ _ h => h))) (r_seq (r_block (r_seq (b (q5 P N2)) (rD T0_ok mixed [(0, false), (1, false), (2, false), (3, false), (4, false), (5, false), (6, false), (7, false), (8, false), (9, false), (10, false), (11, false), (12, false), (13, false), (14, false)] (by kernel_rfl) (q4 P N2)))) (b (q3 P N2))))))))) (r_seq (b (q1 P)) r_ret))))
theorem ac (P : PT) (x0a : Int) (x0b x1 : Value) (x2 x3 : Int) (H : AHeap) (h : B9 P x0a x0b x1 x2 x3 H) : AC Tryz.prog T0 127 [(Value.agg ⟨[(Value.int .i64 x0a), x0b]⟩), x1, (Value.int .i64 x2), (Value.int .i64 x3)] H P :=
  r_fn T0_ok (c := code) (n := 41) Tryz.func127 body (by kernel_rfl) (main P) (En_mk (x0a, x0b, x1, x2, x3, ()) (by kernel_rfl) ⟨by kernel_rfl, by kernel_rfl, by kernel_rfl, by kernel_rfl, trivial⟩ h)

end F127
namespace F128
abbrev E := En 36
abbrev Q := QB Tryz.prog T0 36
def O (k : Nat) := ob Tryz.f128 (pth k)
def ret (P : PT) : EP := retE T0 36 Tryz.f128 P
abbrev k0 : Sk := []
def o1 := O 30
def B1 (P : PT) : Y k0 := fun H =>
  P (Value.int .i64 0) H
theorem q1 P : Q o1 (ret P) k0 (B1 P) := fun _ _ => by kernel_rfl
def o2 := O 116
def B2 (P : PT) : Y k0 := fun H =>
  P (Value.int .i64 2) H
theorem q2 P : Q o2 (ret P) k0 (B2 P) := fun _ _ => by kernel_rfl
abbrev k1 : Sk := [(1,.v),(2,J),(3,J)]
def o3 := O 28
def B3 (P : PT) : Y k1 := fun x1 x2 x3 H =>
  lenK x1 (fun n1 => AC Tryz.prog T0 85 [(Value.int .i64 x2), (Value.int .i64 0), (Value.int .i64 (IntKind.i64.wrap ((n1 : Int) - 1)))] H (fun v2 H3 => asB v2 (fun v4 => pif (!v4) (B2 P H3) (AC Tryz.prog T0 85 [(Value.int .i64 x3), (Value.int .i64 0), (Value.int .i64 2)] H3 (fun v5 H6 => asB v5 (fun v7 => pif (!v7) (B2 P H6) (idxK x1 x2 1 (fun b8 o9 => ldI .i64 H6 b8 o9 (fun v10 => pif ((v10 : Int) == x3) (B2 P H6) (B1 P H6))))))))))
theorem q3 P : Q o3 (cnd 35 (E k0 (B2 P)) (E k0 (B1 P))) k1 (B3 P) := fun _ _ _ _ _ => by kernel_rfl
abbrev k2 : Sk := [(9,J)]
def o4 := O 108
def B4 (P : PT) : Y k2 := fun x9 H =>
  P (Value.int .i64 x9) H
theorem q4 P : Q o4 (ret P) k2 (B4 P) := fun _ _ _ => by kernel_rfl
abbrev k3 : Sk := [(1,.v),(2,J),(3,J),(9,J)]
def o5 := O 26
def B5 (P : PT) : Y k3 := fun x1 x2 x3 x9 H =>
  pif ((x9 : Int) != 0) (B4 P x9 H) (B3 P x1 x2 x3 H)
theorem q5 P : Q o5 (cnd 15 (E k2 (B4 P)) (E k1 (B3 P))) k3 (B5 P) := fun _ _ _ _ _ _ => by kernel_rfl
abbrev k4 : Sk := [(1,.v),(2,J),(3,J),(4,.x)]
def o6 := O 12
def B6 (P : PT) : Y k4 := fun x1 x2 x3 x4 H =>
  ldI .i64 H x4 0 (fun v1 => ld1 H x4 1 (fun v2 => pif (Value.oneCell' x1) (newK H [x1] 28 (fun b3 H4 => AC Tryz.prog T0 135 [(Value.agg ⟨[(Value.int .i64 v1), v2]⟩), (Value.slice (some ⟨b3, 0, none⟩) 1 (1 + 1))] H4 (fun v5 H6 => asI .i64 v5 (fun v7 => B5 P x1 x2 x3 v7 H6)))) False))
theorem q6 P : Q o6 (E k3 (B5 P)) k4 (B6 P) := fun _ _ _ _ _ _ => by kernel_rfl
abbrev k5 : Sk := [(0,.g [.i,.v]),(1,.v),(2,J),(3,J)]
def o7 := O 2
def B7 (P : PT) : Y k5 := fun x0a x0b x1 x2 x3 H =>
  newK H [(Value.int .i64 x0a), x0b] 26 (fun b1 H2 => B6 P x1 x2 x3 b1 H2)
theorem q7 P : Q o7 (E k4 (B6 P)) k5 (B7 P) := fun _ _ _ _ _ _ _ => by kernel_rfl
def code : Code := (.seq (R 0 o7) (.seq (.seq (R 1 o6) (.seq (R 2 o5) (.cond (.tmp 15) (.seq (R 3 o4) .ret) .skip))) (.seq (.seq (R 4 o3) (.cond (.tmp 35) (.seq (R 5 o2) .ret) .skip)) (.seq (R 6 o1) .ret))))
theorem body : Tryz.f128.body = some code := by kernel_rfl
theorem main (P : PT) : ∀ env H, (En 36 k5 (B7 P)) env H → AW Tryz.prog T0 code env H (M (ret P)) :=
  (r_seq (b (q7 P)) (r_seq (r_seq (b (q6 P)) (r_seq (b (q5 P)) (r_cond rfl (r_seq (b (q4 P)) r_ret) r_skip))) (r_seq (r_seq (b (q3 P)) (r_cond rfl (r_seq (b (q2 P)) r_ret) r_skip)) (r_seq (b (q1 P)) r_ret))))
theorem ac (P : PT) (x0a : Int) (x0b x1 : Value) (x2 x3 : Int) (H : AHeap) (h : B7 P x0a x0b x1 x2 x3 H) : AC Tryz.prog T0 128 [(Value.agg ⟨[(Value.int .i64 x0a), x0b]⟩), x1, (Value.int .i64 x2), (Value.int .i64 x3)] H P :=
  r_fn T0_ok (c := code) (n := 36) Tryz.func128 body (by kernel_rfl) (main P) (En_mk (x0a, x0b, x1, x2, x3, ()) (by kernel_rfl) ⟨by kernel_rfl, by kernel_rfl, by kernel_rfl, by kernel_rfl, trivial⟩ h)

end F128
namespace F129
abbrev E := En 50
abbrev Q := QB Tryz.prog T0 50
def O (k : Nat) := ob Tryz.f129 (pth k)
def ret (P : PT) : EP := retE T0 50 Tryz.f129 P
abbrev k0 : Sk := [(10,.v)]
def o1 := O 30
def B1 (P : PT) : Y k0 := fun x10 H =>
  P x10 H
theorem q1 P : Q o1 (ret P) k0 (B1 P) := fun _ _ _ => by kernel_rfl
abbrev k1 : Sk := [(1,.v),(2,J),(3,J),(9,.v),(10,.v),(11,J)]
def o3 := O 467
def B3 (P : PT) (N2 : Y k1) : Y k1 := fun x1 x2 x3 x9 x10 x11 H =>
  N2 x1 x2 x3 x9 x10 (IntKind.i64.wrap (x11 + 1)) H
theorem q3 P N2 : Q o3 (E k1 N2) k1 (B3 P N2) := fun _ _ _ _ _ _ _ _ => by kernel_rfl
def o4 := O 3730
def B4 (P : PT) (N2 : Y k1) : Y k1 := fun x1 x2 x3 x9 x10 x11 H =>
  idxK x1 x2 1 (fun b1 o2 => ldI .i64 H b1 o2 (fun v3 => idxK x1 x11 1 (fun b4 o5 => ldI .i64 H b4 o5 (fun v6 => newK H [(Value.int .i64 (IntKind.i64.wrap ((IntKind.i64.wrap (v3 + x3)) - v6)))] 2 (fun b7 H8 => apK T0 2 H8 x10 (Value.slice (some ⟨b7, 0, none⟩) 1 (1 + 1)) (fun v9 H10 => B3 P N2 x1 x2 x3 x9 v9 x11 H10))))))
theorem q4 (P : PT) (N2 : Y k1) : QD Tryz.prog T0 50 o4 [(0, false), (1, false), (2, false), (3, false), (4, false), (5, false), (6, false), (7, false), (8, false), (9, false), (10, false), (11, false), (12, false), (13, false), (14, false)] (En 50 k1 (B3 P N2)) k1 (B4 P N2) := fun _ _ _ _ _ _ _ _  => by kernel_rfl
def o5 := O 3731
def B5 (P : PT) (N2 : Y k1) : Y k1 := fun x1 x2 x3 x9 x10 x11 H =>
  idxK x1 x11 1 (fun b1 o2 => ldI .i64 H b1 o2 (fun v3 => newK H [(Value.int .i64 v3)] 2 (fun b4 H5 => apK T0 2 H5 x10 (Value.slice (some ⟨b4, 0, none⟩) 1 (1 + 1)) (fun v6 H7 => B3 P N2 x1 x2 x3 x9 v6 x11 H7))))
theorem q5 P N2 : Q o5 (E k1 (B3 P N2)) k1 (B5 P N2) := fun _ _ _ _ _ _ _ _ => by kernel_rfl
def o6 := O 1864
def B6 (P : PT) (N2 : Y k1) : Y k1 := fun x1 x2 x3 x9 x10 x11 H =>
  idxK x9 x11 1 (fun b1 o2 => ld1 H b1 o2 (fun v4 => asB v4 (fun v3 => pif v3 (B4 P N2 x1 x2 x3 x9 x10 x11 H) (B5 P N2 x1 x2 x3 x9 x10 x11 H))))
theorem q6 P N2 : Q o6 (cnd 27 (E k1 (B4 P N2)) (E k1 (B5 P N2))) k1 (B6 P N2) := fun _ _ _ _ _ _ _ _ => by kernel_rfl
def o7 := O 464
def B7 (P : PT) (N2 : Y k1) : Y k1 := fun x1 x2 x3 x9 x10 x11 H =>
  lenK x1 (fun n1 => pif (decide ((x11 : Int) < (n1 : Int))) (B6 P N2 x1 x2 x3 x9 x10 x11 H) (B1 P x10 H))
theorem q7 P N2 : Q o7 (cnd 21 (E k1 (B6 P N2)) (E k0 (B1 P))) k1 (B7 P N2) := fun _ _ _ _ _ _ _ _ => by kernel_rfl
def L2 (P : PT) : Y k1 := fun x1 x2 x3 x9 x10 x11 H =>
  ∃ (I : Y k1) (μ : NTy k1 (AHeap → Nat)), I x1 x2 x3 x9 x10 x11 H ∧ ∀ y1 y2 y3 y9 y10 y11 G, I y1 y2 y3 y9 y10 y11 G → B7 P (fun z1 z2 z3 z9 z10 z11 G' => I z1 z2 z3 z9 z10 z11 G' ∧ μ z1 z2 z3 z9 z10 z11 G' < μ y1 y2 y3 y9 y10 y11 G) y1 y2 y3 y9 y10 y11 G
theorem l2 P : LQ k1 (L2 P) (B7 P) := fun ⟨_,_,_,_,_,_,_⟩ _ ⟨I, μ, h0, hI⟩ => ⟨apT _ I, apT _ μ, h0, fun ⟨_,_,_,_,_,_,_⟩ _ h => hI _ _ _ _ _ _ _  h⟩
abbrev k2 : Sk := [(1,.v),(2,J),(3,J),(9,.v),(10,.v)]
def o8 := O 28
def B8 (P : PT) : Y k2 := fun x1 x2 x3 x9 x10 H =>
  L2 P x1 x2 x3 x9 x10 0 H
theorem q8 P : Q o8 (E k1 (L2 P)) k2 (B8 P) := fun _ _ _ _ _ _ _ => by kernel_rfl
abbrev k3 : Sk := [(1,.v),(2,J),(3,J),(4,.x)]
def o9 := O 6
def B9 (P : PT) : Y k3 := fun x1 x2 x3 x4 H =>
  ldI .i64 H x4 0 (fun v1 => ld1 H x4 1 (fun v2 => AC Tryz.prog T0 131 [(Value.agg ⟨[(Value.int .i64 v1), v2]⟩), x1, (Value.int .i64 x2), (Value.int .i64 x3)] H (fun v3 H4 => newK H4 [] 2 (fun b6 H7 => B8 P x1 x2 x3 v3 (Value.slice (some ⟨b6, 0, none⟩) 0 (0 + 1)) H7))))
theorem q9 P : Q o9 (E k2 (B8 P)) k3 (B9 P) := fun _ _ _ _ _ _ => by kernel_rfl
abbrev k4 : Sk := [(0,.g [.i,.v]),(1,.v),(2,J),(3,J)]
def o10 := O 2
def B10 (P : PT) : Y k4 := fun x0a x0b x1 x2 x3 H =>
  newK H [(Value.int .i64 x0a), x0b] 26 (fun b1 H2 => B9 P x1 x2 x3 b1 H2)
theorem q10 P : Q o10 (E k3 (B9 P)) k4 (B10 P) := fun _ _ _ _ _ _ _ => by kernel_rfl
def code : Code := (.seq (R 0 o10) (.seq (R 1 o9) (.seq (.seq (R 2 o8) (.block 0 (.loop (.seq (.seq (R 3 o7) (.cond (.tmp 21) .skip (.exit 0))) (.seq (.block 1 (.seq (R 5 o6) (.cond (.tmp 27) (.region 6 ⟨o4⟩ true) (R 7 o5)))) (R 4 o3)))))) (.seq (R 8 o1) .ret))))
theorem body : Tryz.f129.body = some code := by kernel_rfl
theorem main (P : PT) : ∀ env H, (En 50 k4 (B10 P)) env H → AW Tryz.prog T0 code env H (M (ret P)) :=
  (r_seq (b (q10 P)) (r_seq (b (q9 P)) (r_seq (r_seq (b (q8 P)) (r_block (rL (l2 P) (fun N2 => (r_seq (r_seq (b (q7 P N2)) (r_cond rfl r_skip (r_exit (fun _ _ h => h)))) (r_seq (r_block (r_seq (b (q6 P N2)) (r_cond rfl (rD T0_ok mixed [(0, false), (1, false), (2, false), (3, false), (4, false), (5, false), (6, false), (7, false), (8, false), (9, false), (10, false), (11, false), (12, false), (13, false), (14, false)] (by kernel_rfl) (q4 P N2)) (b (q5 P N2))))) (b (q3 P N2)))))))) (r_seq (b (q1 P)) r_ret))))
theorem ac (P : PT) (x0a : Int) (x0b x1 : Value) (x2 x3 : Int) (H : AHeap) (h : B10 P x0a x0b x1 x2 x3 H) : AC Tryz.prog T0 129 [(Value.agg ⟨[(Value.int .i64 x0a), x0b]⟩), x1, (Value.int .i64 x2), (Value.int .i64 x3)] H P :=
  r_fn T0_ok (c := code) (n := 50) Tryz.func129 body (by kernel_rfl) (main P) (En_mk (x0a, x0b, x1, x2, x3, ()) (by kernel_rfl) ⟨by kernel_rfl, by kernel_rfl, by kernel_rfl, by kernel_rfl, trivial⟩ h)

end F129
namespace F130
abbrev E := En 76
abbrev Q := QB Tryz.prog T0 76
def O (k : Nat) := ob Tryz.f130 (pth k)
def ret (P : PT) : EP := retE T0 76 Tryz.f130 P
abbrev k0 : Sk := [(9,.i .u64)]
def o1 := O 30
def B1 (P : PT) : Y k0 := fun x9 H =>
  P (Value.int .u64 x9) H
theorem q1 P : Q o1 (ret P) k0 (B1 P) := fun _ _ _ => by kernel_rfl
abbrev k1 : Sk := [(1,.v),(2,J),(3,J),(4,.x),(9,.i .u64),(10,.v)]
def o3 := O 467
def B3 (P : PT) (N2 : Y k1) : Y k1 := fun x1 x2 x3 x4 x9 x10 H =>
  sliceK H 2 x10 (some (Value.int .i64 1)) none 1 (fun v1 => N2 x1 x2 x3 x4 x9 v1 H)
theorem q3 P N2 : Q o3 (E k1 N2) k1 (B3 P N2) := fun _ _ _ _ _ _ _ _ => by kernel_rfl
abbrev k2 : Sk := [(1,.v),(2,J),(3,J),(4,.x),(9,.i .u64),(10,.v),(30,.g [.i,.i]),(31,J)]
def o5 := O 59687
def B5 (P : PT) (N2 : Y k1) (N4 : Y k2) : Y k2 := fun x1 x2 x3 x4 x9 x10 x30a x30b x31 H =>
  N4 x1 x2 x3 x4 x9 x10 x30a x30b (IntKind.i64.wrap (x31 + 1)) H
theorem q5 P N2 N4 : Q o5 (E k2 N4) k2 (B5 P N2 N4) := fun _ _ _ _ _ _ _ _ _ _ _ => by kernel_rfl
abbrev k3 : Sk := [(1,.v),(2,J),(3,J),(4,.x),(9,.i .u64),(10,.v),(30,.g [.i,.i]),(31,J),(36,.v),(37,J),(38,J)]
def o7 := O 15279719
def B7 (P : PT) (N2 : Y k1) (N4 : Y k2) (N6 : Y k3) : Y k3 := fun x1 x2 x3 x4 x9 x10 x30a x30b x31 x36 x37 x38 H =>
  N6 x1 x2 x3 x4 x9 x10 x30a x30b x31 x36 x37 (IntKind.i64.wrap (x38 + 1)) H
theorem q7 P N2 N4 N6 : Q o7 (E k3 N6) k3 (B7 P N2 N4 N6) := fun _ _ _ _ _ _ _ _ _ _ _ _ _ _ => by kernel_rfl
abbrev k4 : Sk := [(1,.v),(2,J),(3,J),(4,.x),(9,.i .u64),(10,.v),(14,J),(30,.g [.i,.i]),(31,J),(36,.v),(37,J),(38,J)]
def o8 := O 488950989
def B8 (P : PT) (N2 : Y k1) (N4 : Y k2) (N6 : Y k3) : Y k4 := fun x1 x2 x3 x4 x9 x10 x14 x30a x30b x31 x36 x37 x38 H =>
  newK H [(Value.int .i64 x14)] 2 (fun b1 H2 => apK T0 2 H2 x10 (Value.slice (some ⟨b1, 0, none⟩) 1 (1 + 1)) (fun v3 H4 => B7 P N2 N4 N6 x1 x2 x3 x4 x9 v3 x30a x30b x31 x36 x37 x38 H4))
theorem q8 P N2 N4 N6 : Q o8 (E k3 (B7 P N2 N4 N6)) k4 (B8 P N2 N4 N6) := fun _ _ _ _ _ _ _ _ _ _ _ _ _ _ _ => by kernel_rfl
def o9 := O 488950988
def B9 (P : PT) (N2 : Y k1) (N4 : Y k2) (N6 : Y k3) : Y k4 := fun x1 x2 x3 x4 x9 x10 x14 x30a x30b x31 x36 x37 x38 H =>
  ((0 : Int) ≤ x14) ∧ (B8 P N2 N4 N6 x1 x2 x3 x4 (IntKind.u64.wrap (BitVec.ofInt 64 x9 ||| BitVec.ofInt 64 (IntKind.u64.wrap (1 * 2 ^ (min (Int.toNat x14) 64)))).toNat) x10 x14 x30a x30b x31 x36 x37 x38 H)
theorem q9 P N2 N4 N6 : Q o9 (E k4 (B8 P N2 N4 N6)) k4 (B9 P N2 N4 N6) := fun _ _ _ _ _ _ _ _ _ _ _ _ _ _ _ => by kernel_rfl
def o10 := O 122237746
def B10 (P : PT) (N2 : Y k1) (N4 : Y k2) (N6 : Y k3) : Y k4 := fun x1 x2 x3 x4 x9 x10 x14 x30a x30b x31 x36 x37 x38 H =>
  AC Tryz.prog T0 134 [(Value.int .u64 x9), (Value.int .i64 x14)] H (fun v1 H2 => asB v1 (fun v3 => pif (!v3) (idxK x1 x14 1 (fun b4 o5 => ldI .i64 H2 b4 o5 (fun v6 => idxK x1 x2 1 (fun b7 o8 => ldI .i64 H2 b7 o8 (fun v9 => pif ((v6 : Int) == v9) (B9 P N2 N4 N6 x1 x2 x3 x4 x9 x10 x14 x30a x30b x31 x36 x37 x38 H2) (idxK x1 x14 1 (fun b10 o11 => ldI .i64 H2 b10 o11 (fun v12 => pif ((v12 : Int) == x3) (B9 P N2 N4 N6 x1 x2 x3 x4 x9 x10 x14 x30a x30b x31 x36 x37 x38 H2) (B7 P N2 N4 N6 x1 x2 x3 x4 x9 x10 x30a x30b x31 x36 x37 x38 H2))))))))) (B7 P N2 N4 N6 x1 x2 x3 x4 x9 x10 x30a x30b x31 x36 x37 x38 H2)))
theorem q10 (P : PT) (N2 : Y k1) (N4 : Y k2) (N6 : Y k3) : QD Tryz.prog T0 76 o10 [(0, false), (1, false), (2, false), (3, false), (4, false), (5, false), (6, false), (7, false), (8, false), (9, false), (10, false), (11, false), (12, false), (13, false), (14, false), (15, false), (16, false), (17, false), (18, false), (19, false), (20, false), (21, false), (22, false)] (cnd 64 (En 76 k4 (B9 P N2 N4 N6)) (En 76 k3 (B7 P N2 N4 N6))) k4 (B10 P N2 N4 N6) := fun _ _ _ _ _ _ _ _ _ _ _ _ _ _ _  => by kernel_rfl
def o11 := O 61118872
def B11 (P : PT) (N2 : Y k1) (N4 : Y k2) (N6 : Y k3) : Y k3 := fun x1 x2 x3 x4 x9 x10 x30a x30b x31 x36 x37 x38 H =>
  idxK x36 x38 1 (fun b1 o2 => ldI .i64 H b1 o2 (fun v3 => B10 P N2 N4 N6 x1 x2 x3 x4 x9 x10 v3 x30a x30b x31 x36 x37 x38 H))
theorem q11 P N2 N4 N6 : Q o11 (E k4 (B10 P N2 N4 N6)) k3 (B11 P N2 N4 N6) := fun _ _ _ _ _ _ _ _ _ _ _ _ _ _ => by kernel_rfl
def o12 := O 3819928
def B12 (P : PT) (N2 : Y k1) (N4 : Y k2) (N6 : Y k3) : Y k3 := fun x1 x2 x3 x4 x9 x10 x30a x30b x31 x36 x37 x38 H =>
  pif (decide ((x38 : Int) < x37)) (B11 P N2 N4 N6 x1 x2 x3 x4 x9 x10 x30a x30b x31 x36 x37 x38 H) (B5 P N2 N4 x1 x2 x3 x4 x9 x10 x30a x30b x31 H)
theorem q12 P N2 N4 N6 : Q o12 (cnd 39 (E k3 (B11 P N2 N4 N6)) (E k2 (B5 P N2 N4))) k3 (B12 P N2 N4 N6) := fun _ _ _ _ _ _ _ _ _ _ _ _ _ _ => by kernel_rfl
def L6 (P : PT) (N2 : Y k1) (N4 : Y k2) : Y k3 := fun x1 x2 x3 x4 x9 x10 x30a x30b x31 x36 x37 x38 H =>
  ∃ (I : Y k3) (μ : NTy k3 (AHeap → Nat)), I x1 x2 x3 x4 x9 x10 x30a x30b x31 x36 x37 x38 H ∧ ∀ y1 y2 y3 y4 y9 y10 y30a y30b y31 y36 y37 y38 G, I y1 y2 y3 y4 y9 y10 y30a y30b y31 y36 y37 y38 G → B12 P N2 N4 (fun z1 z2 z3 z4 z9 z10 z30a z30b z31 z36 z37 z38 G' => I z1 z2 z3 z4 z9 z10 z30a z30b z31 z36 z37 z38 G' ∧ μ z1 z2 z3 z4 z9 z10 z30a z30b z31 z36 z37 z38 G' < μ y1 y2 y3 y4 y9 y10 y30a y30b y31 y36 y37 y38 G) y1 y2 y3 y4 y9 y10 y30a y30b y31 y36 y37 y38 G
theorem l6 P N2 N4 : LQ k3 (L6 P N2 N4) (B12 P N2 N4) := fun ⟨_,_,_,_,_,_,_,_,_,_,_,_,_⟩ _ ⟨I, μ, h0, hI⟩ => ⟨apT _ I, apT _ μ, h0, fun ⟨_,_,_,_,_,_,_,_,_,_,_,_,_⟩ _ h => hI _ _ _ _ _ _ _ _ _ _ _ _ _  h⟩
abbrev k5 : Sk := [(1,.v),(2,J),(3,J),(4,.x),(9,.i .u64),(10,.v),(12,J),(30,.g [.i,.i]),(31,J)]
def o13 := O 477490
def B13 (P : PT) (N2 : Y k1) (N4 : Y k2) : Y k5 := fun x1 x2 x3 x4 x9 x10 x12 x30a x30b x31 H =>
  ldI .i64 H x4 0 (fun v1 => ld1 H x4 1 (fun v2 => AC Tryz.prog T0 161 [(Value.agg ⟨[(Value.int .i64 v1), v2]⟩), (Value.int .i64 x12)] H (fun v3 H4 => lenK v3 (fun n6 => L6 P N2 N4 x1 x2 x3 x4 x9 x10 x30a x30b x31 v3 (n6 : Int) 0 H4))))
theorem q13 P N2 N4 : Q o13 (E k3 (L6 P N2 N4)) k5 (B13 P N2 N4) := fun _ _ _ _ _ _ _ _ _ _ _ _ => by kernel_rfl
def o14 := O 238744
def B14 (P : PT) (N2 : Y k1) (N4 : Y k2) : Y k2 := fun x1 x2 x3 x4 x9 x10 x30a x30b x31 H =>
  bndK x31 2 (atK [(Value.int .i64 x30a), (Value.int .i64 x30b)] (Int.toNat x31 * 1) (fun v1 => asI .i64 v1 (fun v2 => B13 P N2 N4 x1 x2 x3 x4 x9 x10 v2 x30a x30b x31 H)))
theorem q14 P N2 N4 : Q o14 (E k5 (B13 P N2 N4)) k2 (B14 P N2 N4) := fun _ _ _ _ _ _ _ _ _ _ _ => by kernel_rfl
def o15 := O 14920
def B15 (P : PT) (N2 : Y k1) (N4 : Y k2) : Y k2 := fun x1 x2 x3 x4 x9 x10 x30a x30b x31 H =>
  pif (decide ((x31 : Int) < 2)) (B14 P N2 N4 x1 x2 x3 x4 x9 x10 x30a x30b x31 H) (B3 P N2 x1 x2 x3 x4 x9 x10 H)
theorem q15 P N2 N4 : Q o15 (cnd 32 (E k2 (B14 P N2 N4)) (E k1 (B3 P N2))) k2 (B15 P N2 N4) := fun _ _ _ _ _ _ _ _ _ _ _ => by kernel_rfl
def L4 (P : PT) (N2 : Y k1) : Y k2 := fun x1 x2 x3 x4 x9 x10 x30a x30b x31 H =>
  ∃ (I : Y k2) (μ : NTy k2 (AHeap → Nat)), I x1 x2 x3 x4 x9 x10 x30a x30b x31 H ∧ ∀ y1 y2 y3 y4 y9 y10 y30a y30b y31 G, I y1 y2 y3 y4 y9 y10 y30a y30b y31 G → B15 P N2 (fun z1 z2 z3 z4 z9 z10 z30a z30b z31 G' => I z1 z2 z3 z4 z9 z10 z30a z30b z31 G' ∧ μ z1 z2 z3 z4 z9 z10 z30a z30b z31 G' < μ y1 y2 y3 y4 y9 y10 y30a y30b y31 G) y1 y2 y3 y4 y9 y10 y30a y30b y31 G
theorem l4 P N2 : LQ k2 (L4 P N2) (B15 P N2) := fun ⟨_,_,_,_,_,_,_,_,_,_⟩ _ ⟨I, μ, h0, hI⟩ => ⟨apT _ I, apT _ μ, h0, fun ⟨_,_,_,_,_,_,_,_,_,_⟩ _ h => hI _ _ _ _ _ _ _ _ _ _  h⟩
def o16 := O 1864
def B16 (P : PT) (N2 : Y k1) : Y k1 := fun x1 x2 x3 x4 x9 x10 H =>
  ld1 H x4 1 (fun v1 => idxK x10 0 1 (fun b2 o3 => ldI .i64 H b2 o3 (fun v4 => idxK v1 v4 2 (fun b5 o6 => ldI .i64 H b5 o6 (fun v7 => ldI .i64 H b5 (o6 + 1) (fun v8 => L4 P N2 x1 x2 x3 x4 x9 x10 v7 v8 0 H))))))
theorem q16 (P : PT) (N2 : Y k1) : QD Tryz.prog T0 76 o16 [(0, false), (1, false), (2, false), (3, false), (4, false), (5, false), (6, false), (7, false)] (En 76 k2 (L4 P N2)) k1 (B16 P N2) := fun _ _ _ _ _ _ _ _  => by kernel_rfl
def o17 := O 464
def B17 (P : PT) (N2 : Y k1) : Y k1 := fun x1 x2 x3 x4 x9 x10 H =>
  lenK x10 (fun n1 => pif (decide (((n1 : Int) : Int) > 0)) (B16 P N2 x1 x2 x3 x4 x9 x10 H) (B1 P x9 H))
theorem q17 P N2 : Q o17 (cnd 21 (E k1 (B16 P N2)) (E k0 (B1 P))) k1 (B17 P N2) := fun _ _ _ _ _ _ _ _ => by kernel_rfl
def L2 (P : PT) : Y k1 := fun x1 x2 x3 x4 x9 x10 H =>
  ∃ (I : Y k1) (μ : NTy k1 (AHeap → Nat)), I x1 x2 x3 x4 x9 x10 H ∧ ∀ y1 y2 y3 y4 y9 y10 G, I y1 y2 y3 y4 y9 y10 G → B17 P (fun z1 z2 z3 z4 z9 z10 G' => I z1 z2 z3 z4 z9 z10 G' ∧ μ z1 z2 z3 z4 z9 z10 G' < μ y1 y2 y3 y4 y9 y10 G) y1 y2 y3 y4 y9 y10 G
theorem l2 P : LQ k1 (L2 P) (B17 P) := fun ⟨_,_,_,_,_,_,_⟩ _ ⟨I, μ, h0, hI⟩ => ⟨apT _ I, apT _ μ, h0, fun ⟨_,_,_,_,_,_,_⟩ _ h => hI _ _ _ _ _ _ _  h⟩
abbrev k6 : Sk := [(1,.v),(2,J),(3,J),(4,.x),(9,.i .u64)]
def o18 := O 28
def B18 (P : PT) : Y k6 := fun x1 x2 x3 x4 x9 H =>
  newK H [(Value.int .i64 x2)] 2 (fun b1 H2 => L2 P x1 x2 x3 x4 x9 (Value.slice (some ⟨b1, 0, none⟩) 1 (1 + 1)) H2)
theorem q18 P : Q o18 (E k1 (L2 P)) k6 (B18 P) := fun _ _ _ _ _ _ _ => by kernel_rfl
abbrev k7 : Sk := [(1,.v),(2,J),(3,J),(4,.x)]
def o19 := O 6
def B19 (P : PT) : Y k7 := fun x1 x2 x3 x4 H =>
  ((0 : Int) ≤ x2) ∧ (B18 P x1 x2 x3 x4 (IntKind.u64.wrap (1 * 2 ^ (min (Int.toNat x2) 64))) H)
theorem q19 P : Q o19 (E k6 (B18 P)) k7 (B19 P) := fun _ _ _ _ _ _ => by kernel_rfl
abbrev k8 : Sk := [(0,.g [.i,.v]),(1,.v),(2,J),(3,J)]
def o20 := O 2
def B20 (P : PT) : Y k8 := fun x0a x0b x1 x2 x3 H =>
  newK H [(Value.int .i64 x0a), x0b] 26 (fun b1 H2 => B19 P x1 x2 x3 b1 H2)
theorem q20 P : Q o20 (E k7 (B19 P)) k8 (B20 P) := fun _ _ _ _ _ _ _ => by kernel_rfl
def code : Code := (.seq (R 0 o20) (.seq (R 1 o19) (.seq (.seq (R 2 o18) (.block 0 (.loop (.seq (.seq (R 3 o17) (.cond (.tmp 21) .skip (.exit 0))) (.seq (.block 1 (.seq (.region 5 ⟨o16⟩ true) (.block 2 (.loop (.seq (R 6 o15) (.seq (.cond (.tmp 32) .skip (.exit 2)) (.seq (.block 3 (.seq (R 7 o14) (.seq (R 8 o13) (.block 4 (.loop (.seq (R 9 o12) (.seq (.cond (.tmp 39) .skip (.exit 4)) (.seq (.block 5 (.seq (R 10 o11) (.seq (.region 11 ⟨o10⟩ true) (.cond (.tmp 64) (.seq (R 12 o9) (R 13 o8)) .skip)))) (R 14 o7))))))))) (R 15 o5)))))))) (R 4 o3)))))) (.seq (R 16 o1) .ret))))
theorem body : Tryz.f130.body = some code := by kernel_rfl
theorem main (P : PT) : ∀ env H, (En 76 k8 (B20 P)) env H → AW Tryz.prog T0 code env H (M (ret P)) :=
  (r_seq (b (q20 P)) (r_seq (b (q19 P)) (r_seq (r_seq (b (q18 P)) (r_block (rL (l2 P) (fun N2 => (r_seq (r_seq (b (q17 P N2)) (r_cond rfl r_skip (r_exit (fun _ _ h => h)))) (r_seq (r_block (r_seq (rD T0_ok mixed [(0, false), (1, false), (2, false), (3, false), (4, false), (5, false), (6, false), (7, false)] (by kernel_rfl) (q16 P N2)) (r_block (rL (l4 P N2) (fun N4 => (r_seq (b (q15 P N2 N4)) (r_seq (r_cond rfl r_skip (r_exit (fun _ _ h => h))) (r_seq (r_block (r_seq (b (q14 P N2 N4)) (r_seq (b (q13 P N2 N4)) (r_block (rL (l6 P N2 N4) (fun N6 => (r_seq (b (q12 P N2 N4 N6)) (r_seq (r_cond rfl r_skip (r_exit (fun _ _ h => h))) (r_seq (r_block (r_seq (b (q11 P N2 N4 N6)) (r_seq (rD T0_ok mixed [(0, false), (1, false), (2, false), (3, false), (4, false), (5, false), (6, false), (7, false), (8, false), (9, false), (10, false), (11, false), (12, false), (13, false), (14, false), (15, false), (16, false), (17, false), (18, false), (19, false), (20, false), (21, false), (22, false)] (by kernel_rfl) (q10 P N2 N4 N6)) (r_cond rfl (r_seq (b (q9 P N2 N4 N6)) (b (q8 P N2 N4 N6))) r_skip)))) (b (q7 P N2 N4 N6))))))))))) (b (q5 P N2 N4)))))))))) (b (q3 P N2)))))))) (r_seq (b (q1 P)) r_ret))))
theorem ac (P : PT) (x0a : Int) (x0b x1 : Value) (x2 x3 : Int) (H : AHeap) (h : B20 P x0a x0b x1 x2 x3 H) : AC Tryz.prog T0 130 [(Value.agg ⟨[(Value.int .i64 x0a), x0b]⟩), x1, (Value.int .i64 x2), (Value.int .i64 x3)] H P :=
  r_fn T0_ok (c := code) (n := 76) Tryz.func130 body (by kernel_rfl) (main P) (En_mk (x0a, x0b, x1, x2, x3, ()) (by kernel_rfl) ⟨by kernel_rfl, by kernel_rfl, by kernel_rfl, by kernel_rfl, trivial⟩ h)

end F130
namespace F131
abbrev E := En 86
abbrev Q := QB Tryz.prog T0 86
def O (k : Nat) := ob Tryz.f131 (pth k)
def ret (P : PT) : EP := retE T0 86 Tryz.f131 P
abbrev k0 : Sk := [(9,.v)]
def o1 := O 62
def B1 (P : PT) : Y k0 := fun x9 H =>
  P x9 H
theorem q1 P : Q o1 (ret P) k0 (B1 P) := fun _ _ _ => by kernel_rfl
abbrev k1 : Sk := [(1,.v),(2,J),(3,J),(4,.x),(9,.v),(10,.v),(11,J)]
def o3 := O 979
def B3 (P : PT) (N2 : Y k1) : Y k1 := fun x1 x2 x3 x4 x9 x10 x11 H =>
  N2 x1 x2 x3 x4 x9 x10 (IntKind.i64.wrap (x11 + 1)) H
theorem q3 P N2 : Q o3 (E k1 N2) k1 (B3 P N2) := fun _ _ _ _ _ _ _ _ _ => by kernel_rfl
abbrev k2 : Sk := [(1,.v),(2,J),(3,J),(4,.x),(9,.v),(10,.v),(11,J),(12,J)]
def o5 := O 62611
def B5 (P : PT) (N2 : Y k1) (N4 : Y k2) : Y k2 := fun x1 x2 x3 x4 x9 x10 x11 x12 H =>
  N4 x1 x2 x3 x4 x9 x10 x11 (IntKind.i64.wrap (x12 + 1)) H
theorem q5 P N2 N4 : Q o5 (E k2 N4) k2 (B5 P N2 N4) := fun _ _ _ _ _ _ _ _ _ _ => by kernel_rfl
abbrev k3 : Sk := [(1,.v),(2,J),(3,J),(4,.x),(9,.v),(10,.v),(11,J),(12,J),(13,.v),(14,J)]
def o7 := O 8014131
def B7 (P : PT) (N2 : Y k1) (N4 : Y k2) (N6 : Y k3) : Y k3 := fun x1 x2 x3 x4 x9 x10 x11 x12 x13 x14 H =>
  N6 x1 x2 x3 x4 x9 x10 x11 x12 x13 (IntKind.i64.wrap (x14 + 1)) H
theorem q7 P N2 N4 N6 : Q o7 (E k3 N6) k3 (B7 P N2 N4 N6) := fun _ _ _ _ _ _ _ _ _ _ _ _ => by kernel_rfl
abbrev k4 : Sk := [(1,.v),(2,J),(3,J),(4,.x),(9,.v),(10,.v),(11,J),(12,J),(13,.v),(14,J),(15,J)]
def o8 := O 256452173
def B8 (P : PT) (N2 : Y k1) (N4 : Y k2) (N6 : Y k3) : Y k4 := fun x1 x2 x3 x4 x9 x10 x11 x12 x13 x14 x15 H =>
  newK H [(Value.int .i64 x15)] 2 (fun b1 H2 => apK T0 2 H2 x10 (Value.slice (some ⟨b1, 0, none⟩) 1 (1 + 1)) (fun v3 H4 => B7 P N2 N4 N6 x1 x2 x3 x4 x9 v3 x11 x12 x13 x14 H4))
theorem q8 P N2 N4 N6 : Q o8 (E k3 (B7 P N2 N4 N6)) k4 (B8 P N2 N4 N6) := fun _ _ _ _ _ _ _ _ _ _ _ _ _ => by kernel_rfl
def o9 := O 256452172
def B9 (P : PT) (N2 : Y k1) (N4 : Y k2) (N6 : Y k3) : Y k4 := fun x1 x2 x3 x4 x9 x10 x11 x12 x13 x14 x15 H =>
  idxK x9 x15 1 (fun b1 o2 => stK H b1 o2 [(Value.bool true)] (fun H3 => B8 P N2 N4 N6 x1 x2 x3 x4 x9 x10 x11 x12 x13 x14 x15 H3))
theorem q9 P N2 N4 N6 : Q o9 (E k4 (B8 P N2 N4 N6)) k4 (B9 P N2 N4 N6) := fun _ _ _ _ _ _ _ _ _ _ _ _ _ => by kernel_rfl
def o10 := O 64113042
def B10 (P : PT) (N2 : Y k1) (N4 : Y k2) (N6 : Y k3) : Y k4 := fun x1 x2 x3 x4 x9 x10 x11 x12 x13 x14 x15 H =>
  idxK x9 x15 1 (fun b1 o2 => ld1 H b1 o2 (fun v4 => asB v4 (fun v3 => pif (!v3) (idxK x1 x15 1 (fun b5 o6 => ldI .i64 H b5 o6 (fun v7 => idxK x1 x2 1 (fun b8 o9 => ldI .i64 H b8 o9 (fun v10 => pif ((v7 : Int) == v10) (B9 P N2 N4 N6 x1 x2 x3 x4 x9 x10 x11 x12 x13 x14 x15 H) (idxK x1 x15 1 (fun b11 o12 => ldI .i64 H b11 o12 (fun v13 => pif ((v13 : Int) == x3) (B9 P N2 N4 N6 x1 x2 x3 x4 x9 x10 x11 x12 x13 x14 x15 H) (B7 P N2 N4 N6 x1 x2 x3 x4 x9 x10 x11 x12 x13 x14 H))))))))) (B7 P N2 N4 N6 x1 x2 x3 x4 x9 x10 x11 x12 x13 x14 H))))
theorem q10 (P : PT) (N2 : Y k1) (N4 : Y k2) (N6 : Y k3) : QD Tryz.prog T0 86 o10 [(0, false), (1, false), (2, false), (3, false), (4, false), (5, false), (6, false), (7, false), (8, false), (9, false), (10, false), (11, false), (12, false), (13, false), (14, false), (15, false), (16, false), (17, false), (18, false), (19, false), (20, false), (21, false), (22, false), (23, false)] (cnd 77 (En 86 k4 (B9 P N2 N4 N6)) (En 86 k3 (B7 P N2 N4 N6))) k4 (B10 P N2 N4 N6) := fun _ _ _ _ _ _ _ _ _ _ _ _ _  => by kernel_rfl
def o11 := O 32056520
def B11 (P : PT) (N2 : Y k1) (N4 : Y k2) (N6 : Y k3) : Y k3 := fun x1 x2 x3 x4 x9 x10 x11 x12 x13 x14 H =>
  idxK x13 x14 1 (fun b1 o2 => ldI .i64 H b1 o2 (fun v3 => B10 P N2 N4 N6 x1 x2 x3 x4 x9 x10 x11 x12 x13 x14 v3 H))
theorem q11 P N2 N4 N6 : Q o11 (E k4 (B10 P N2 N4 N6)) k3 (B11 P N2 N4 N6) := fun _ _ _ _ _ _ _ _ _ _ _ _ => by kernel_rfl
def o12 := O 8014128
def B12 (P : PT) (N2 : Y k1) (N4 : Y k2) (N6 : Y k3) : Y k3 := fun x1 x2 x3 x4 x9 x10 x11 x12 x13 x14 H =>
  pif (decide ((x14 : Int) < 3)) (B11 P N2 N4 N6 x1 x2 x3 x4 x9 x10 x11 x12 x13 x14 H) (B5 P N2 N4 x1 x2 x3 x4 x9 x10 x11 x12 H)
theorem q12 P N2 N4 N6 : Q o12 (cnd 47 (E k3 (B11 P N2 N4 N6)) (E k2 (B5 P N2 N4))) k3 (B12 P N2 N4 N6) := fun _ _ _ _ _ _ _ _ _ _ _ _ => by kernel_rfl
def L6 (P : PT) (N2 : Y k1) (N4 : Y k2) : Y k3 := fun x1 x2 x3 x4 x9 x10 x11 x12 x13 x14 H =>
  ∃ (I : Y k3) (μ : NTy k3 (AHeap → Nat)), I x1 x2 x3 x4 x9 x10 x11 x12 x13 x14 H ∧ ∀ y1 y2 y3 y4 y9 y10 y11 y12 y13 y14 G, I y1 y2 y3 y4 y9 y10 y11 y12 y13 y14 G → B12 P N2 N4 (fun z1 z2 z3 z4 z9 z10 z11 z12 z13 z14 G' => I z1 z2 z3 z4 z9 z10 z11 z12 z13 z14 G' ∧ μ z1 z2 z3 z4 z9 z10 z11 z12 z13 z14 G' < μ y1 y2 y3 y4 y9 y10 y11 y12 y13 y14 G) y1 y2 y3 y4 y9 y10 y11 y12 y13 y14 G
theorem l6 P N2 N4 : LQ k3 (L6 P N2 N4) (B12 P N2 N4) := fun ⟨_,_,_,_,_,_,_,_,_,_,_⟩ _ ⟨I, μ, h0, hI⟩ => ⟨apT _ I, apT _ μ, h0, fun ⟨_,_,_,_,_,_,_,_,_,_,_⟩ _ h => hI _ _ _ _ _ _ _ _ _ _ _  h⟩
abbrev k5 : Sk := [(1,.v),(2,J),(3,J),(4,.x),(9,.v),(10,.v),(11,J),(12,J),(13,.v)]
def o13 := O 500882
def B13 (P : PT) (N2 : Y k1) (N4 : Y k2) : Y k5 := fun x1 x2 x3 x4 x9 x10 x11 x12 x13 H =>
  L6 P N2 N4 x1 x2 x3 x4 x9 x10 x11 x12 x13 0 H
theorem q13 P N2 N4 : Q o13 (E k3 (L6 P N2 N4)) k5 (B13 P N2 N4) := fun _ _ _ _ _ _ _ _ _ _ _ => by kernel_rfl
def o14 := O 250440
def B14 (P : PT) (N2 : Y k1) (N4 : Y k2) : Y k2 := fun x1 x2 x3 x4 x9 x10 x11 x12 H =>
  ldI .i64 H x4 0 (fun v1 => ld1 H x4 1 (fun v2 => ld1 H x4 1 (fun v3 => idxK x10 x11 1 (fun b4 o5 => ldI .i64 H b4 o5 (fun v6 => idxK v3 v6 2 (fun b7 o8 => bndK x12 2 (ldI .i64 H b7 (o8 + Int.toNat x12 * 1) (fun v9 => AC Tryz.prog T0 175 [(Value.agg ⟨[(Value.int .i64 v1), v2]⟩), (Value.int .i64 v9)] H (fun v10 H11 => B13 P N2 N4 x1 x2 x3 x4 x9 x10 x11 x12 v10 H11)))))))))
theorem q14 (P : PT) (N2 : Y k1) (N4 : Y k2) : QD Tryz.prog T0 86 o14 [(0, false), (1, false), (2, false), (3, false), (4, false), (5, false), (6, false), (7, false), (8, false), (9, false), (10, false), (11, false), (12, false)] (En 86 k5 (B13 P N2 N4)) k2 (B14 P N2 N4) := fun _ _ _ _ _ _ _ _ _ _  => by kernel_rfl
def o15 := O 62608
def B15 (P : PT) (N2 : Y k1) (N4 : Y k2) : Y k2 := fun x1 x2 x3 x4 x9 x10 x11 x12 H =>
  pif (decide ((x12 : Int) < 2)) (B14 P N2 N4 x1 x2 x3 x4 x9 x10 x11 x12 H) (B3 P N2 x1 x2 x3 x4 x9 x10 x11 H)
theorem q15 P N2 N4 : Q o15 (cnd 31 (E k2 (B14 P N2 N4)) (E k1 (B3 P N2))) k2 (B15 P N2 N4) := fun _ _ _ _ _ _ _ _ _ _ => by kernel_rfl
def L4 (P : PT) (N2 : Y k1) : Y k2 := fun x1 x2 x3 x4 x9 x10 x11 x12 H =>
  ∃ (I : Y k2) (μ : NTy k2 (AHeap → Nat)), I x1 x2 x3 x4 x9 x10 x11 x12 H ∧ ∀ y1 y2 y3 y4 y9 y10 y11 y12 G, I y1 y2 y3 y4 y9 y10 y11 y12 G → B15 P N2 (fun z1 z2 z3 z4 z9 z10 z11 z12 G' => I z1 z2 z3 z4 z9 z10 z11 z12 G' ∧ μ z1 z2 z3 z4 z9 z10 z11 z12 G' < μ y1 y2 y3 y4 y9 y10 y11 y12 G) y1 y2 y3 y4 y9 y10 y11 y12 G
theorem l4 P N2 : LQ k2 (L4 P N2) (B15 P N2) := fun ⟨_,_,_,_,_,_,_,_,_⟩ _ ⟨I, μ, h0, hI⟩ => ⟨apT _ I, apT _ μ, h0, fun ⟨_,_,_,_,_,_,_,_,_⟩ _ h => hI _ _ _ _ _ _ _ _ _  h⟩
def o16 := O 3912
def B16 (P : PT) (N2 : Y k1) : Y k1 := fun x1 x2 x3 x4 x9 x10 x11 H =>
  L4 P N2 x1 x2 x3 x4 x9 x10 x11 0 H
theorem q16 P N2 : Q o16 (E k2 (L4 P N2)) k1 (B16 P N2) := fun _ _ _ _ _ _ _ _ _ => by kernel_rfl
def o17 := O 976
def B17 (P : PT) (N2 : Y k1) : Y k1 := fun x1 x2 x3 x4 x9 x10 x11 H =>
  lenK x10 (fun n1 => pif (decide ((x11 : Int) < (n1 : Int))) (B16 P N2 x1 x2 x3 x4 x9 x10 x11 H) (B1 P x9 H))
theorem q17 P N2 : Q o17 (cnd 27 (E k1 (B16 P N2)) (E k0 (B1 P))) k1 (B17 P N2) := fun _ _ _ _ _ _ _ _ _ => by kernel_rfl
def L2 (P : PT) : Y k1 := fun x1 x2 x3 x4 x9 x10 x11 H =>
  ∃ (I : Y k1) (μ : NTy k1 (AHeap → Nat)), I x1 x2 x3 x4 x9 x10 x11 H ∧ ∀ y1 y2 y3 y4 y9 y10 y11 G, I y1 y2 y3 y4 y9 y10 y11 G → B17 P (fun z1 z2 z3 z4 z9 z10 z11 G' => I z1 z2 z3 z4 z9 z10 z11 G' ∧ μ z1 z2 z3 z4 z9 z10 z11 G' < μ y1 y2 y3 y4 y9 y10 y11 G) y1 y2 y3 y4 y9 y10 y11 G
theorem l2 P : LQ k1 (L2 P) (B17 P) := fun ⟨_,_,_,_,_,_,_,_⟩ _ ⟨I, μ, h0, hI⟩ => ⟨apT _ I, apT _ μ, h0, fun ⟨_,_,_,_,_,_,_,_⟩ _ h => hI _ _ _ _ _ _ _ _  h⟩
abbrev k6 : Sk := [(1,.v),(2,J),(3,J),(4,.x),(9,.v),(10,.v)]
def o18 := O 60
def B18 (P : PT) : Y k6 := fun x1 x2 x3 x4 x9 x10 H =>
  L2 P x1 x2 x3 x4 x9 x10 0 H
theorem q18 P : Q o18 (E k1 (L2 P)) k6 (B18 P) := fun _ _ _ _ _ _ _ _ => by kernel_rfl
def o19 := O 14
def B19 (P : PT) : Y k6 := fun x1 x2 x3 x4 x9 x10 H =>
  idxK x9 x2 1 (fun b1 o2 => stK H b1 o2 [(Value.bool true)] (fun H3 => B18 P x1 x2 x3 x4 x9 x10 H3))
theorem q19 P : Q o19 (E k6 (B18 P)) k6 (B19 P) := fun _ _ _ _ _ _ _ _ => by kernel_rfl
abbrev k7 : Sk := [(1,.v),(2,J),(3,J),(4,.x)]
def o20 := O 6
def B20 (P : PT) : Y k7 := fun x1 x2 x3 x4 H =>
  lenK x1 (fun n1 => mkR H 1 4 [(Value.bool false)] (n1 : Int) (n1 : Int) (fun v3 H2 => newK H2 [(Value.int .i64 x2)] 2 (fun b4 H5 => B19 P x1 x2 x3 x4 v3 (Value.slice (some ⟨b4, 0, none⟩) 1 (1 + 1)) H5)))
theorem q20 P : Q o20 (E k6 (B19 P)) k7 (B20 P) := fun _ _ _ _ _ _ => by kernel_rfl
abbrev k8 : Sk := [(0,.g [.i,.v]),(1,.v),(2,J),(3,J)]
def o21 := O 2
def B21 (P : PT) : Y k8 := fun x0a x0b x1 x2 x3 H =>
  newK H [(Value.int .i64 x0a), x0b] 26 (fun b1 H2 => B20 P x1 x2 x3 b1 H2)
theorem q21 P : Q o21 (E k7 (B20 P)) k8 (B21 P) := fun _ _ _ _ _ _ _ => by kernel_rfl
def code : Code := (.seq (R 0 o21) (.seq (R 1 o20) (.seq (R 2 o19) (.seq (.seq (R 3 o18) (.block 0 (.loop (.seq (.seq (R 4 o17) (.cond (.tmp 27) .skip (.exit 0))) (.seq (.block 1 (.seq (R 6 o16) (.block 2 (.loop (.seq (.seq (R 7 o15) (.cond (.tmp 31) .skip (.exit 2))) (.seq (.block 3 (.seq (.region 9 ⟨o14⟩ true) (.seq (R 10 o13) (.block 4 (.loop (.seq (.seq (R 11 o12) (.cond (.tmp 47) .skip (.exit 4))) (.seq (.block 5 (.seq (R 13 o11) (.seq (.region 14 ⟨o10⟩ true) (.cond (.tmp 77) (.seq (R 15 o9) (R 16 o8)) .skip)))) (R 12 o7)))))))) (R 8 o5))))))) (R 5 o3)))))) (.seq (R 17 o1) .ret)))))
theorem body : Tryz.f131.body = some code := by kernel_rfl
theorem main (P : PT) : ∀ env H, (En 86 k8 (B21 P)) env H → AW Tryz.prog T0 code env H (M (ret P)) :=
  (r_seq (b (q21 P)) (r_seq (b (q20 P)) (r_seq (b (q19 P)) (r_seq (r_seq (b (q18 P)) (r_block (rL (l2 P) (fun N2 => (r_seq (r_seq (b (q17 P N2)) (r_cond rfl r_skip (r_exit (fun _ _ h => h)))) (r_seq (r_block (r_seq (b (q16 P N2)) (r_block (rL (l4 P N2) (fun N4 => (r_seq (r_seq (b (q15 P N2 N4)) (r_cond rfl r_skip (r_exit (fun _ _ h => h)))) (r_seq (r_block (r_seq (rD T0_ok mixed [(0, false), (1, false), (2, false), (3, false), (4, false), (5, false), (6, false), (7, false), (8, false), (9, false), (10, false), (11, false), (12, false)] (by kernel_rfl) (q14 P N2 N4)) (r_seq (b (q13 P N2 N4)) (r_block (rL (l6 P N2 N4) (fun N6 => (r_seq (r_seq (b (q12 P N2 N4 N6)) (r_cond rfl r_skip (r_exit (fun _ _ h => h)))) (r_seq (r_block (r_seq (b (q11 P N2 N4 N6)) (r_seq (rD T0_ok mixed [(0, false), (1, false), (2, false), (3, false), (4, false), (5, false), (6, false), (7, false), (8, false), (9, false), (10, false), (11, false), (12, false), (13, false), (14, false), (15, false), (16, false), (17, false), (18, false), (19, false), (20, false), (21, false), (22, false), (23, false)] (by kernel_rfl) (q10 P N2 N4 N6)) (r_cond rfl (r_seq (b (q9 P N2 N4 N6)) (b (q8 P N2 N4 N6))) r_skip)))) (b (q7 P N2 N4 N6)))))))))) (b (q5 P N2 N4))))))))) (b (q3 P N2)))))))) (r_seq (b (q1 P)) r_ret)))))
theorem ac (P : PT) (x0a : Int) (x0b x1 : Value) (x2 x3 : Int) (H : AHeap) (h : B21 P x0a x0b x1 x2 x3 H) : AC Tryz.prog T0 131 [(Value.agg ⟨[(Value.int .i64 x0a), x0b]⟩), x1, (Value.int .i64 x2), (Value.int .i64 x3)] H P :=
  r_fn T0_ok (c := code) (n := 86) Tryz.func131 body (by kernel_rfl) (main P) (En_mk (x0a, x0b, x1, x2, x3, ()) (by kernel_rfl) ⟨by kernel_rfl, by kernel_rfl, by kernel_rfl, by kernel_rfl, trivial⟩ h)

end F131
namespace F132
abbrev E := En 14
abbrev Q := QB Tryz.prog T0 14
def O (k : Nat) := ob Tryz.f132 (pth k)
def ret (P : PT) : EP := retE T0 14 Tryz.f132 P
abbrev k0 : Sk := [(2,.x),(4,.v),(5,.x)]
def o1 := O 30
def B1 (P : PT) : Y k0 := fun x2 x4 x5 H =>
  ldI .i64 H x5 0 (fun v1 => ld1 H x5 1 (fun v2 => ldI .i64 H x5 0 (fun v3 => ld1 H x5 1 (fun v4 => AC Tryz.prog T0 136 [x4, (Value.agg ⟨[(Value.int .i64 v3), v4]⟩)] H (fun v5 H6 => (ldI .i64 H6 x5 0 (fun v8 => ld1 H6 x5 1 (fun v9 => ((Value.agg ⟨[(Value.int .i64 v8), v9]⟩) = (Value.agg ⟨[(Value.int .i64 v1), v2]⟩)) ∧ (H6 = H6)))) ∧ (stK H6 x2 0 [(Value.int .i64 v1), v2] (fun H10 => ldI .i64 H10 x2 0 (fun v11 => ld1 H10 x2 1 (fun v12 => P (Value.tuple ⟨[(Value.agg ⟨[(Value.int .i64 v11), v12]⟩), v5]⟩) H10)))))))))
theorem q1 (P : PT) : QT Tryz.prog T0 14 o1 (.op 0 [] (.op 1 [] (.op 2 [] (.op 3 [0] (.op 4 [] (.op 5 [] .done)))))) (ret P) k0 (B1 P) := fun _ _ _ _ _  => by kernel_rfl
abbrev k1 : Sk := [(2,.x),(4,.v)]
def o2 := O 14
def B2 (P : PT) : Y k1 := fun x2 x4 H =>
  AC Tryz.prog T0 71 [x4] H (fun v1 H2 => agg2 v1 (fun v3 v4 => asI .i64 v3 (fun v5 => newK H2 [(Value.int .i64 0), (Value.slice none 0 0)] 26 (fun b7 H8 => stK H8 b7 0 [(Value.int .i64 v5), v4] (fun H9 => B1 P x2 x4 b7 H9)))))
theorem q2 P : Q o2 (E k0 (B1 P)) k1 (B2 P) := fun _ _ _ _ => by kernel_rfl
abbrev k2 : Sk := [(0,.v),(2,.x)]
def o3 := O 6
def B3 (P : PT) : Y k2 := fun x0 x2 H =>
  AC Tryz.prog T0 65 [x0] H (fun v1 H2 => B2 P x2 v1 H2)
theorem q3 P : Q o3 (E k1 (B2 P)) k2 (B3 P) := fun _ _ _ _ => by kernel_rfl
abbrev k3 : Sk := [(0,.v)]
def o4 := O 2
def B4 (P : PT) : Y k3 := fun x0 H =>
  newK H [(Value.int .i64 0), (Value.slice none 0 0)] 26 (fun b1 H2 => B3 P x0 b1 H2)
theorem q4 P : Q o4 (E k2 (B3 P)) k3 (B4 P) := fun _ _ _ => by kernel_rfl
def code : Code := (.seq (R 0 o4) (.seq (R 1 o3) (.seq (R 2 o2) (.seq (.region 3 ⟨o1⟩ true) .ret))))
theorem body : Tryz.f132.body = some code := by kernel_rfl
theorem main (P : PT) : ∀ env H, (En 14 k3 (B4 P)) env H → AW Tryz.prog T0 code env H (M (ret P)) :=
  (r_seq (b (q4 P)) (r_seq (b (q3 P)) (r_seq (b (q2 P)) (r_seq (rT T0_ok mixed (.op 0 [] (.op 1 [] (.op 2 [] (.op 3 [0] (.op 4 [] (.op 5 [] .done)))))) (by kernel_rfl) (q1 P)) r_ret))))
theorem ac (P : PT) (x0 : Value) (H : AHeap) (h : B4 P x0 H) : AC Tryz.prog T0 132 [x0] H P :=
  r_fn T0_ok (c := code) (n := 14) Tryz.func132 body (by kernel_rfl) (main P) (En_mk (x0, ()) (by kernel_rfl) ⟨by kernel_rfl, trivial⟩ h)

end F132
namespace F133
abbrev E := En 63
abbrev Q := QB Tryz.prog T0 63
def O (k : Nat) := ob Tryz.f133 (pth k)
def ret (P : PT) : EP := retE T0 63 Tryz.f133 P
abbrev k0 : Sk := []
def o1 := O 62
def B1 (P : PT) : Y k0 := fun H =>
  P (Value.bool true) H
theorem q1 P : Q o1 (ret P) k0 (B1 P) := fun _ _ => by kernel_rfl
abbrev k1 : Sk := [(1,.v),(5,.v),(30,.v),(31,J),(32,J)]
def o3 := O 1959
def B3 (P : PT) (N2 : Y k1) : Y k1 := fun x1 x5 x30 x31 x32 H =>
  N2 x1 x5 x30 x31 (IntKind.i64.wrap (x32 + 1)) H
theorem q3 P N2 : Q o3 (E k1 N2) k1 (B3 P N2) := fun _ _ _ _ _ _ _ => by kernel_rfl
abbrev k2 : Sk := [(1,.v),(5,.v),(6,J),(30,.v),(31,J),(32,J),(37,.g [.i,.i]),(38,J)]
def o5 := O 501351
def B5 (P : PT) (N2 : Y k1) (N4 : Y k2) : Y k2 := fun x1 x5 x6 x30 x31 x32 x37a x37b x38 H =>
  N4 x1 x5 x6 x30 x31 x32 x37a x37b (IntKind.i64.wrap (x38 + 1)) H
theorem q5 P N2 N4 : Q o5 (E k2 N4) k2 (B5 P N2 N4) := fun _ _ _ _ _ _ _ _ _ _ _ => by kernel_rfl
abbrev k3 : Sk := [(1,.v),(5,.v),(6,J),(9,J),(30,.v),(31,J),(32,J),(37,.g [.i,.i]),(38,J)]
def o6 := O 4010803
def B6 (P : PT) (N2 : Y k1) (N4 : Y k2) : Y k3 := fun x1 x5 x6 x9 x30 x31 x32 x37a x37b x38 H =>
  idxK x5 x9 1 (fun b1 o2 => ldI .u64 H b1 o2 (fun v3 => idxK x1 x6 1 (fun b4 o5 => ldI .i64 H b4 o5 (fun v6 => ((0 : Int) ≤ v6) ∧ (idxK x5 x9 1 (fun b7 o8 => stK H b7 o8 [(Value.int .u64 (IntKind.u64.wrap (BitVec.ofInt 64 v3 ||| BitVec.ofInt 64 (IntKind.u64.wrap (1 * 2 ^ (min (Int.toNat v6) 64)))).toNat))] (fun H9 => B5 P N2 N4 x1 x5 x6 x30 x31 x32 x37a x37b x38 H9)))))))
theorem q6 (P : PT) (N2 : Y k1) (N4 : Y k2) : QD Tryz.prog T0 63 o6 [(0, false), (1, false), (2, false), (3, false), (4, false), (5, false), (6, false), (7, false), (8, false), (9, false), (10, false), (11, false)] (En 63 k2 (B5 P N2 N4)) k3 (B6 P N2 N4) := fun _ _ _ _ _ _ _ _ _ _ _ _  => by kernel_rfl
def o7 := O 32086420
def B7 (P : PT) (N2 : Y k1) (N4 : Y k2) : Y k0 := fun H =>
  P (Value.bool false) H
theorem q7 P N2 N4 : Q o7 (ret P) k0 (B7 P N2 N4) := fun _ _ => by kernel_rfl
def o8 := O 8021604
def B8 (P : PT) (N2 : Y k1) (N4 : Y k2) : Y k3 := fun x1 x5 x6 x9 x30 x31 x32 x37a x37b x38 H =>
  idxK x5 x9 1 (fun b1 o2 => ldI .u64 H b1 o2 (fun v3 => idxK x1 x6 1 (fun b4 o5 => ldI .i64 H b4 o5 (fun v6 => AC Tryz.prog T0 134 [(Value.int .u64 v3), (Value.int .i64 v6)] H (fun v7 H8 => asB v7 (fun v9 => pif v9 (B7 P N2 N4 H8) (B6 P N2 N4 x1 x5 x6 x9 x30 x31 x32 x37a x37b x38 H8)))))))
theorem q8 (P : PT) (N2 : Y k1) (N4 : Y k2) : QD Tryz.prog T0 63 o8 [(0, false), (1, false), (2, false), (3, false), (4, false), (5, false), (6, false), (7, false), (8, false)] (cnd 49 (En 63 k0 (B7 P N2 N4)) (En 63 k3 (B6 P N2 N4))) k3 (B8 P N2 N4) := fun _ _ _ _ _ _ _ _ _ _ _ _  => by kernel_rfl
def o9 := O 2005400
def B9 (P : PT) (N2 : Y k1) (N4 : Y k2) : Y k2 := fun x1 x5 x6 x30 x31 x32 x37a x37b x38 H =>
  bndK x38 2 (atK [(Value.int .i64 x37a), (Value.int .i64 x37b)] (Int.toNat x38 * 1) (fun v1 => asI .i64 v1 (fun v2 => B8 P N2 N4 x1 x5 x6 v2 x30 x31 x32 x37a x37b x38 H)))
theorem q9 P N2 N4 : Q o9 (E k3 (B8 P N2 N4)) k2 (B9 P N2 N4) := fun _ _ _ _ _ _ _ _ _ _ _ => by kernel_rfl
def o10 := O 125336
def B10 (P : PT) (N2 : Y k1) (N4 : Y k2) : Y k2 := fun x1 x5 x6 x30 x31 x32 x37a x37b x38 H =>
  pif (decide ((x38 : Int) < 2)) (B9 P N2 N4 x1 x5 x6 x30 x31 x32 x37a x37b x38 H) (B3 P N2 x1 x5 x30 x31 x32 H)
theorem q10 P N2 N4 : Q o10 (cnd 39 (E k2 (B9 P N2 N4)) (E k1 (B3 P N2))) k2 (B10 P N2 N4) := fun _ _ _ _ _ _ _ _ _ _ _ => by kernel_rfl
def L4 (P : PT) (N2 : Y k1) : Y k2 := fun x1 x5 x6 x30 x31 x32 x37a x37b x38 H =>
  ∃ (I : Y k2) (μ : NTy k2 (AHeap → Nat)), I x1 x5 x6 x30 x31 x32 x37a x37b x38 H ∧ ∀ y1 y5 y6 y30 y31 y32 y37a y37b y38 G, I y1 y5 y6 y30 y31 y32 y37a y37b y38 G → B10 P N2 (fun z1 z5 z6 z30 z31 z32 z37a z37b z38 G' => I z1 z5 z6 z30 z31 z32 z37a z37b z38 G' ∧ μ z1 z5 z6 z30 z31 z32 z37a z37b z38 G' < μ y1 y5 y6 y30 y31 y32 y37a y37b y38 G) y1 y5 y6 y30 y31 y32 y37a y37b y38 G
theorem l4 P N2 : LQ k2 (L4 P N2) (B10 P N2) := fun ⟨_,_,_,_,_,_,_,_,_,_⟩ _ ⟨I, μ, h0, hI⟩ => ⟨apT _ I, apT _ μ, h0, fun ⟨_,_,_,_,_,_,_,_,_,_⟩ _ h => hI _ _ _ _ _ _ _ _ _ _  h⟩
abbrev k4 : Sk := [(1,.v),(5,.v),(6,J),(7,.x),(30,.v),(31,J),(32,J)]
def o11 := O 15666
def B11 (P : PT) (N2 : Y k1) : Y k4 := fun x1 x5 x6 x7 x30 x31 x32 H =>
  ldI .i64 H x7 0 (fun v1 => ldI .i64 H x7 1 (fun v2 => L4 P N2 x1 x5 x6 x30 x31 x32 v1 v2 0 H))
theorem q11 P N2 : Q o11 (E k2 (L4 P N2)) k4 (B11 P N2) := fun _ _ _ _ _ _ _ _ _ => by kernel_rfl
def o12 := O 7832
def B12 (P : PT) (N2 : Y k1) : Y k1 := fun x1 x5 x30 x31 x32 H =>
  idxK x30 x32 2 (fun b1 o2 => ldI .i64 H b1 o2 (fun v3 => ldI .i64 H b1 (o2 + 1) (fun v4 => newK H [(Value.int .i64 0), (Value.int .i64 0)] 78 (fun b5 H6 => stK H6 b5 0 [(Value.int .i64 v3), (Value.int .i64 v4)] (fun H7 => B11 P N2 x1 x5 x32 b5 x30 x31 x32 H7)))))
theorem q12 P N2 : Q o12 (E k4 (B11 P N2)) k1 (B12 P N2) := fun _ _ _ _ _ _ _ => by kernel_rfl
def o13 := O 488
def B13 (P : PT) (N2 : Y k1) : Y k1 := fun x1 x5 x30 x31 x32 H =>
  pif (decide ((x32 : Int) < x31)) (B12 P N2 x1 x5 x30 x31 x32 H) (B1 P H)
theorem q13 P N2 : Q o13 (cnd 33 (E k1 (B12 P N2)) (E k0 (B1 P))) k1 (B13 P N2) := fun _ _ _ _ _ _ _ => by kernel_rfl
def L2 (P : PT) : Y k1 := fun x1 x5 x30 x31 x32 H =>
  ∃ (I : Y k1) (μ : NTy k1 (AHeap → Nat)), I x1 x5 x30 x31 x32 H ∧ ∀ y1 y5 y30 y31 y32 G, I y1 y5 y30 y31 y32 G → B13 P (fun z1 z5 z30 z31 z32 G' => I z1 z5 z30 z31 z32 G' ∧ μ z1 z5 z30 z31 z32 G' < μ y1 y5 y30 y31 y32 G) y1 y5 y30 y31 y32 G
theorem l2 P : LQ k1 (L2 P) (B13 P) := fun ⟨_,_,_,_,_,_⟩ _ ⟨I, μ, h0, hI⟩ => ⟨apT _ I, apT _ μ, h0, fun ⟨_,_,_,_,_,_⟩ _ h => hI _ _ _ _ _ _  h⟩
abbrev k5 : Sk := [(1,.v),(2,.x),(5,.v)]
def o14 := O 60
def B14 (P : PT) : Y k5 := fun x1 x2 x5 H =>
  ld1 H x2 1 (fun v1 => lenK v1 (fun n2 => L2 P x1 x5 v1 (n2 : Int) 0 H))
theorem q14 P : Q o14 (E k1 (L2 P)) k5 (B14 P) := fun _ _ _ _ _ => by kernel_rfl
abbrev k6 : Sk := [(1,.v),(2,.x)]
def o15 := O 14
def B15 (P : PT) : Y k6 := fun x1 x2 H =>
  ldI .i64 H x2 0 (fun v1 => mkR H 8 81 [(Value.int .u64 0)] v1 v1 (fun v3 H2 => B14 P x1 x2 v3 H2))
theorem q15 P : Q o15 (E k5 (B14 P)) k6 (B15 P) := fun _ _ _ _ => by kernel_rfl
def o16 := O 52
def B16 (P : PT) : Y k0 := fun H =>
  P (Value.bool false) H
theorem q16 P : Q o16 (ret P) k0 (B16 P) := fun _ _ => by kernel_rfl
def o17 := O 12
def B17 (P : PT) : Y k6 := fun x1 x2 H =>
  ldI .i64 H x2 0 (fun v1 => ld1 H x2 1 (fun v2 => AC Tryz.prog T0 143 [(Value.agg ⟨[(Value.int .i64 v1), v2]⟩)] H (fun v3 H4 => asB v3 (fun v5 => pif (!v5) (B16 P H4) (lenK x1 (fun n6 => ld1 H4 x2 1 (fun v7 => lenK v7 (fun n8 => pif (((n6 : Int) : Int) != (n8 : Int)) (B16 P H4) (AC Tryz.prog T0 148 [x1, (Value.func (.func 173) ⟨[]⟩ ⟨[]⟩)] H4 (fun v9 H10 => asB v9 (fun v11 => pif (!v11) (B16 P H10) (B15 P x1 x2 H10))))))))))))
theorem q17 P : Q o17 (cnd 25 (E k0 (B16 P)) (E k6 (B15 P))) k6 (B17 P) := fun _ _ _ _ => by kernel_rfl
abbrev k7 : Sk := [(0,.g [.i,.v]),(1,.v)]
def o18 := O 2
def B18 (P : PT) : Y k7 := fun x0a x0b x1 H =>
  newK H [(Value.int .i64 x0a), x0b] 26 (fun b1 H2 => B17 P x1 b1 H2)
theorem q18 P : Q o18 (E k6 (B17 P)) k7 (B18 P) := fun _ _ _ _ _ => by kernel_rfl
def code : Code := (.seq (R 0 o18) (.seq (.seq (R 1 o17) (.cond (.tmp 25) (.seq (R 2 o16) .ret) .skip)) (.seq (R 3 o15) (.seq (.seq (R 4 o14) (.block 0 (.loop (.seq (R 5 o13) (.seq (.cond (.tmp 33) .skip (.exit 0)) (.seq (.block 1 (.seq (R 6 o12) (.seq (R 7 o11) (.block 2 (.loop (.seq (R 8 o10) (.seq (.cond (.tmp 39) .skip (.exit 2)) (.seq (.block 3 (.seq (R 9 o9) (.seq (.seq (.region 10 ⟨o8⟩ true) (.cond (.tmp 49) (.seq (R 11 o7) .ret) .skip)) (.region 12 ⟨o6⟩ true)))) (R 13 o5))))))))) (R 14 o3))))))) (.seq (R 15 o1) .ret)))))
theorem body : Tryz.f133.body = some code := by kernel_rfl
theorem main (P : PT) : ∀ env H, (En 63 k7 (B18 P)) env H → AW Tryz.prog T0 code env H (M (ret P)) :=
  (r_seq (b (q18 P)) (r_seq (r_seq (b (q17 P)) (r_cond rfl (r_seq (b (q16 P)) r_ret) r_skip)) (r_seq (b (q15 P)) (r_seq (r_seq (b (q14 P)) (r_block (rL (l2 P) (fun N2 => (r_seq (b (q13 P N2)) (r_seq (r_cond rfl r_skip (r_exit (fun _ _ h => h))) (r_seq (r_block (r_seq (b (q12 P N2)) (r_seq (b (q11 P N2)) (r_block (rL (l4 P N2) (fun N4 => (r_seq (b (q10 P N2 N4)) (r_seq (r_cond rfl r_skip (r_exit (fun _ _ h => h))) (r_seq (r_block (r_seq (b (q9 P N2 N4)) (r_seq (r_seq (rD T0_ok mixed [(0, false), (1, false), (2, false), (3, false), (4, false), (5, false), (6, false), (7, false), (8, false)] (by kernel_rfl) (q8 P N2 N4)) (r_cond rfl (r_seq (b (q7 P N2 N4)) r_ret) r_skip)) (rD T0_ok mixed [(0, false), (1, false), (2, false), (3, false), (4, false), (5, false), (6, false), (7, false), (8, false), (9, false), (10, false), (11, false)] (by kernel_rfl) (q6 P N2 N4))))) (b (q5 P N2 N4))))))))))) (b (q3 P N2))))))))) (r_seq (b (q1 P)) r_ret)))))
theorem ac (P : PT) (x0a : Int) (x0b x1 : Value) (H : AHeap) (h : B18 P x0a x0b x1 H) : AC Tryz.prog T0 133 [(Value.agg ⟨[(Value.int .i64 x0a), x0b]⟩), x1] H P :=
  r_fn T0_ok (c := code) (n := 63) Tryz.func133 body (by kernel_rfl) (main P) (En_mk (x0a, x0b, x1, ()) (by kernel_rfl) ⟨by kernel_rfl, by kernel_rfl, trivial⟩ h)

end F133
namespace F134
abbrev E := En 10
abbrev Q := QB Tryz.prog T0 10
def O (k : Nat) := ob Tryz.f134 (pth k)
def ret (P : PT) : EP := retE T0 10 Tryz.f134 P
abbrev k0 : Sk := [(0,.i .u64),(1,J)]
def o1 := O 6
def B1 (P : PT) : Y k0 := fun x0 x1 H =>
  ((0 : Int) ≤ x1) ∧ (P (Value.bool ((IntKind.u64.wrap (BitVec.ofInt 64 (Int.fdiv x0 (2 ^ (min (Int.toNat x1) 64))) &&& BitVec.ofInt 64 1).toNat : Int) == 1)) H)
theorem q1 P : Q o1 (ret P) k0 (B1 P) := fun _ _ _ _ => by kernel_rfl
def o2 := O 2
def B2 (P : PT) : Y k0 := fun x0 x1 H =>
  B1 P x0 x1 H
theorem q2 P : Q o2 (E k0 (B1 P)) k0 (B2 P) := fun _ _ _ _ => by kernel_rfl
def code : Code := (.seq (R 0 o2) (.seq (R 1 o1) .ret))
theorem body : Tryz.f134.body = some code := by kernel_rfl
theorem main (P : PT) : ∀ env H, (En 10 k0 (B2 P)) env H → AW Tryz.prog T0 code env H (M (ret P)) :=
  (r_seq (b (q2 P)) (r_seq (b (q1 P)) r_ret))
theorem ac (P : PT) (x0 x1 : Int) (H : AHeap) (h : B2 P x0 x1 H) : AC Tryz.prog T0 134 [(Value.int .u64 x0), (Value.int .i64 x1)] H P :=
  r_fn T0_ok (c := code) (n := 10) Tryz.func134 body (by kernel_rfl) (main P) (En_mk (x0, x1, ()) (by kernel_rfl) ⟨by kernel_rfl, by kernel_rfl, trivial⟩ h)

end F134
namespace F135
abbrev E := En 22
abbrev Q := QB Tryz.prog T0 22
def O (k : Nat) := ob Tryz.f135 (pth k)
def ret (P : PT) : EP := retE T0 22 Tryz.f135 P
abbrev k0 : Sk := []
def o1 := O 30
def B1 (P : PT) : Y k0 := fun H =>
  P (Value.int .i64 0) H
theorem q1 P : Q o1 (ret P) k0 (B1 P) := fun _ _ => by kernel_rfl
abbrev k1 : Sk := [(1,.v),(2,.x),(5,J)]
def o3 := O 467
def B3 (P : PT) (N2 : Y k1) : Y k1 := fun x1 x2 x5 H =>
  N2 x1 x2 (IntKind.i64.wrap (x5 + 1)) H
theorem q3 P N2 : Q o3 (E k1 N2) k1 (B3 P N2) := fun _ _ _ _ _ => by kernel_rfl
def o4 := O 7460
def B4 (P : PT) (N2 : Y k1) : Y k0 := fun H =>
  P (Value.int .i64 2) H
theorem q4 P N2 : Q o4 (ret P) k0 (B4 P N2) := fun _ _ => by kernel_rfl
def o5 := O 1864
def B5 (P : PT) (N2 : Y k1) : Y k1 := fun x1 x2 x5 H =>
  ldI .i64 H x2 0 (fun v1 => ld1 H x2 1 (fun v2 => idxK x1 x5 1 (fun b3 o4 => ld1 H b3 o4 (fun v5 => AC Tryz.prog T0 176 [(Value.agg ⟨[(Value.int .i64 v1), v2]⟩), v5] H (fun v6 H7 => asB v6 (fun v8 => pif (!v8) (B4 P N2 H7) (B3 P N2 x1 x2 x5 H7)))))))
theorem q5 (P : PT) (N2 : Y k1) : QD Tryz.prog T0 22 o5 [(0, false), (1, false), (2, false), (3, false), (4, false), (5, false), (6, false)] (cnd 21 (En 22 k0 (B4 P N2)) (En 22 k1 (B3 P N2))) k1 (B5 P N2) := fun _ _ _ _ _  => by kernel_rfl
def o6 := O 464
def B6 (P : PT) (N2 : Y k1) : Y k1 := fun x1 x2 x5 H =>
  lenK x1 (fun n1 => pif (decide ((x5 : Int) < (n1 : Int))) (B5 P N2 x1 x2 x5 H) (B1 P H))
theorem q6 P N2 : Q o6 (cnd 12 (E k1 (B5 P N2)) (E k0 (B1 P))) k1 (B6 P N2) := fun _ _ _ _ _ => by kernel_rfl
def L2 (P : PT) : Y k1 := fun x1 x2 x5 H =>
  ∃ (I : Y k1) (μ : NTy k1 (AHeap → Nat)), I x1 x2 x5 H ∧ ∀ y1 y2 y5 G, I y1 y2 y5 G → B6 P (fun z1 z2 z5 G' => I z1 z2 z5 G' ∧ μ z1 z2 z5 G' < μ y1 y2 y5 G) y1 y2 y5 G
theorem l2 P : LQ k1 (L2 P) (B6 P) := fun ⟨_,_,_,_⟩ _ ⟨I, μ, h0, hI⟩ => ⟨apT _ I, apT _ μ, h0, fun ⟨_,_,_,_⟩ _ h => hI _ _ _ _  h⟩
abbrev k2 : Sk := [(1,.v),(2,.x)]
def o7 := O 28
def B7 (P : PT) : Y k2 := fun x1 x2 H =>
  L2 P x1 x2 0 H
theorem q7 P : Q o7 (E k1 (L2 P)) k2 (B7 P) := fun _ _ _ _ => by kernel_rfl
def o8 := O 52
def B8 (P : PT) : Y k0 := fun H =>
  P (Value.int .i64 1) H
theorem q8 P : Q o8 (ret P) k0 (B8 P) := fun _ _ => by kernel_rfl
def o9 := O 12
def B9 (P : PT) : Y k2 := fun x1 x2 H =>
  ldI .i64 H x2 0 (fun v1 => ld1 H x2 1 (fun v2 => AC Tryz.prog T0 75 [(Value.agg ⟨[(Value.int .i64 v1), v2]⟩)] H (fun v3 H4 => asB v3 (fun v5 => pif (!v5) (B8 P H4) (B7 P x1 x2 H4)))))
theorem q9 P : Q o9 (cnd 8 (E k0 (B8 P)) (E k2 (B7 P))) k2 (B9 P) := fun _ _ _ _ => by kernel_rfl
abbrev k3 : Sk := [(0,.g [.i,.v]),(1,.v)]
def o10 := O 2
def B10 (P : PT) : Y k3 := fun x0a x0b x1 H =>
  newK H [(Value.int .i64 x0a), x0b] 26 (fun b1 H2 => B9 P x1 b1 H2)
theorem q10 P : Q o10 (E k2 (B9 P)) k3 (B10 P) := fun _ _ _ _ _ => by kernel_rfl
def code : Code := (.seq (R 0 o10) (.seq (.seq (R 1 o9) (.cond (.tmp 8) (.seq (R 2 o8) .ret) .skip)) (.seq (.seq (R 3 o7) (.block 0 (.loop (.seq (.seq (R 4 o6) (.cond (.tmp 12) .skip (.exit 0))) (.seq (.block 1 (.seq (.region 6 ⟨o5⟩ true) (.cond (.tmp 21) (.seq (R 7 o4) .ret) .skip))) (R 5 o3)))))) (.seq (R 8 o1) .ret))))
theorem body : Tryz.f135.body = some code := by kernel_rfl
theorem main (P : PT) : ∀ env H, (En 22 k3 (B10 P)) env H → AW Tryz.prog T0 code env H (M (ret P)) :=
  (r_seq (b (q10 P)) (r_seq (r_seq (b (q9 P)) (r_cond rfl (r_seq (b (q8 P)) r_ret) r_skip)) (r_seq (r_seq (b (q7 P)) (r_block (rL (l2 P) (fun N2 => (r_seq (r_seq (b (q6 P N2)) (r_cond rfl r_skip (r_exit (fun _ _ h => h)))) (r_seq (r_block (r_seq (rD T0_ok mixed [(0, false), (1, false), (2, false), (3, false), (4, false), (5, false), (6, false)] (by kernel_rfl) (q5 P N2)) (r_cond rfl (r_seq (b (q4 P N2)) r_ret) r_skip))) (b (q3 P N2)))))))) (r_seq (b (q1 P)) r_ret))))
theorem ac (P : PT) (x0a : Int) (x0b x1 : Value) (H : AHeap) (h : B10 P x0a x0b x1 H) : AC Tryz.prog T0 135 [(Value.agg ⟨[(Value.int .i64 x0a), x0b]⟩), x1] H P :=
  r_fn T0_ok (c := code) (n := 22) Tryz.func135 body (by kernel_rfl) (main P) (En_mk (x0a, x0b, x1, ()) (by kernel_rfl) ⟨by kernel_rfl, by kernel_rfl, trivial⟩ h)

end F135
namespace F136
abbrev E := En 70
abbrev Q := QB Tryz.prog T0 70
def O (k : Nat) := ob Tryz.f136 (pth k)
def ret (P : PT) : EP := retE T0 70 Tryz.f136 P
abbrev k0 : Sk := [(8,.v)]
def o1 := O 254
def B1 (P : PT) : Y k0 := fun x8 H =>
  P x8 H
theorem q1 P : Q o1 (ret P) k0 (B1 P) := fun _ _ _ => by kernel_rfl
abbrev k1 : Sk := [(0,.v),(3,.x),(8,.v),(9,J)]
def o3 := O 4051
def B3 (P : PT) (N2 : Y k1) : Y k1 := fun x0 x3 x8 x9 H =>
  N2 x0 x3 x8 (IntKind.i64.wrap (x9 - 1)) H
theorem q3 P N2 : Q o3 (E k1 N2) k1 (B3 P N2) := fun _ _ _ _ _ _ => by kernel_rfl
abbrev k2 : Sk := [(0,.v),(3,.x),(8,.v),(9,J),(10,J)]
def o4 := O 16201
def B4 (P : PT) (N2 : Y k1) : Y k2 := fun x0 x3 x8 x9 x10 H =>
  ldI .i64 H x3 0 (fun v1 => ld1 H x3 1 (fun v2 => idxK x8 x10 1 (fun b3 o4 => ldI .i64 H b3 o4 (fun v5 => AC Tryz.prog T0 66 [x0, (Value.int .i64 2)] H (fun v6 H7 => asI .i64 v6 (fun v8 => (ldI .i64 H7 x3 0 (fun v9 => ld1 H7 x3 1 (fun v10 => ((Value.agg ⟨[(Value.int .i64 v9), v10]⟩) = (Value.agg ⟨[(Value.int .i64 v1), v2]⟩)) ∧ (H7 = H7)))) ∧ ((ldI .i64 H7 b3 o4 (fun v11 => ((Value.int .i64 v11) = (Value.int .i64 v5)) ∧ (H7 = H7))) ∧ (AC Tryz.prog T0 129 [(Value.agg ⟨[(Value.int .i64 v1), v2]⟩), x8, (Value.int .i64 x10), (Value.int .i64 (Int.tmod (IntKind.i64.wrap ((IntKind.i64.wrap (v5 + 1)) + v8)) 3))] H7 (fun v12 H13 => B3 P N2 x0 x3 v12 x9 H13)))))))))
theorem q4 (P : PT) (N2 : Y k1) : QT Tryz.prog T0 70 o4 (.op 0 [] (.op 1 [] (.op 2 [] (.op 3 [] (.op 4 [] (.op 5 [] (.op 6 [] (.op 7 [] (.op 8 [] (.op 9 [0, 6] (.op 10 [] (.op 11 [] (.op 12 [] (.op 13 [] .done)))))))))))))) (En 70 k1 (B3 P N2)) k2 (B4 P N2) := fun _ _ _ _ _ _ _  => by kernel_rfl
def o5 := O 16200
def B5 (P : PT) (N2 : Y k1) : Y k1 := fun x0 x3 x8 x9 H =>
  lenK x8 (fun n1 => AC Tryz.prog T0 66 [x0, (Value.int .i64 (n1 : Int))] H (fun v2 H3 => asI .i64 v2 (fun v4 => B4 P N2 x0 x3 x8 x9 v4 H3)))
theorem q5 P N2 : Q o5 (E k2 (B4 P N2)) k1 (B5 P N2) := fun _ _ _ _ _ _ => by kernel_rfl
def o6 := O 4048
def B6 (P : PT) (N2 : Y k1) : Y k1 := fun x0 x3 x8 x9 H =>
  pif (decide ((x9 : Int) > 0)) (B5 P N2 x0 x3 x8 x9 H) (B1 P x8 H)
theorem q6 P N2 : Q o6 (cnd 49 (E k1 (B5 P N2)) (E k0 (B1 P))) k1 (B6 P N2) := fun _ _ _ _ _ _ => by kernel_rfl
def L2 (P : PT) : Y k1 := fun x0 x3 x8 x9 H =>
  ∃ (I : Y k1) (μ : NTy k1 (AHeap → Nat)), I x0 x3 x8 x9 H ∧ ∀ y0 y3 y8 y9 G, I y0 y3 y8 y9 G → B6 P (fun z0 z3 z8 z9 G' => I z0 z3 z8 z9 G' ∧ μ z0 z3 z8 z9 G' < μ y0 y3 y8 y9 G) y0 y3 y8 y9 G
theorem l2 P : LQ k1 (L2 P) (B6 P) := fun ⟨_,_,_,_,_⟩ _ ⟨I, μ, h0, hI⟩ => ⟨apT _ I, apT _ μ, h0, fun ⟨_,_,_,_,_⟩ _ h => hI _ _ _ _ _  h⟩
abbrev k3 : Sk := [(0,.v),(3,.x),(8,.v)]
def o7 := O 252
def B7 (P : PT) : Y k3 := fun x0 x3 x8 H =>
  AC Tryz.prog T0 66 [x0, (Value.int .i64 3)] H (fun v1 H2 => asI .i64 v1 (fun v3 => L2 P x0 x3 x8 v3 H2))
theorem q7 P : Q o7 (E k1 (L2 P)) k3 (B7 P) := fun _ _ _ _ _ => by kernel_rfl
abbrev k4 : Sk := [(0,.v),(3,.x),(5,.v)]
def o8 := O 62
def B8 (P : PT) : Y k4 := fun x0 x3 x5 H =>
  lenK x5 (fun n1 => AC Tryz.prog T0 66 [x0, (Value.int .i64 (n1 : Int))] H (fun v2 H3 => asI .i64 v2 (fun v4 => idxK x5 v4 1 (fun b5 o6 => ld1 H3 b5 o6 (fun v7 => B7 P x0 x3 v7 H3)))))
theorem q8 P : Q o8 (E k3 (B7 P)) k4 (B8 P) := fun _ _ _ _ _ => by kernel_rfl
abbrev k5 : Sk := [(6,.v)]
def o9 := O 982
def B9 (P : PT) : Y k5 := fun x6 H =>
  P x6 H
theorem q9 P : Q o9 (ret P) k5 (B9 P) := fun _ _ _ => by kernel_rfl
abbrev k6 : Sk := [(0,.v),(3,.x),(6,.v),(7,J)]
def o11 := O 15699
def B11 (P : PT) (N10 : Y k6) : Y k6 := fun x0 x3 x6 x7 H =>
  N10 x0 x3 x6 (IntKind.i64.wrap (x7 + 1)) H
theorem q11 P N10 : Q o11 (E k6 N10) k6 (B11 P N10) := fun _ _ _ _ _ _ => by kernel_rfl
def o12 := O 31396
def B12 (P : PT) (N10 : Y k6) : Y k6 := fun x0 x3 x6 x7 H =>
  AC Tryz.prog T0 66 [x0, (Value.int .i64 3)] H (fun v1 H2 => asI .i64 v1 (fun v3 => newK H2 [(Value.int .i64 v3)] 2 (fun b4 H5 => apK T0 2 H5 x6 (Value.slice (some ⟨b4, 0, none⟩) 1 (1 + 1)) (fun v6 H7 => B11 P N10 x0 x3 v6 x7 H7))))
theorem q12 P N10 : Q o12 (E k6 (B11 P N10)) k6 (B12 P N10) := fun _ _ _ _ _ _ => by kernel_rfl
def o13 := O 15696
def B13 (P : PT) (N10 : Y k6) : Y k6 := fun x0 x3 x6 x7 H =>
  ld1 H x3 1 (fun v1 => lenK v1 (fun n2 => pif (decide ((x7 : Int) < (n2 : Int))) (B12 P N10 x0 x3 x6 x7 H) (B9 P x6 H)))
theorem q13 P N10 : Q o13 (cnd 30 (E k6 (B12 P N10)) (E k5 (B9 P))) k6 (B13 P N10) := fun _ _ _ _ _ _ => by kernel_rfl
def L10 (P : PT) : Y k6 := fun x0 x3 x6 x7 H =>
  ∃ (I : Y k6) (μ : NTy k6 (AHeap → Nat)), I x0 x3 x6 x7 H ∧ ∀ y0 y3 y6 y7 G, I y0 y3 y6 y7 G → B13 P (fun z0 z3 z6 z7 G' => I z0 z3 z6 z7 G' ∧ μ z0 z3 z6 z7 G' < μ y0 y3 y6 y7 G) y0 y3 y6 y7 G
theorem l10 P : LQ k6 (L10 P) (B13 P) := fun ⟨_,_,_,_,_⟩ _ ⟨I, μ, h0, hI⟩ => ⟨apT _ I, apT _ μ, h0, fun ⟨_,_,_,_,_⟩ _ h => hI _ _ _ _ _  h⟩
abbrev k7 : Sk := [(0,.v),(3,.x),(6,.v)]
def o14 := O 980
def B14 (P : PT) : Y k7 := fun x0 x3 x6 H =>
  L10 P x0 x3 x6 0 H
theorem q14 P : Q o14 (E k6 (L10 P)) k7 (B14 P) := fun _ _ _ _ _ => by kernel_rfl
abbrev k8 : Sk := [(0,.v),(3,.x)]
def o15 := O 244
def B15 (P : PT) : Y k8 := fun x0 x3 H =>
  newK H [] 2 (fun b1 H2 => B14 P x0 x3 (Value.slice (some ⟨b1, 0, none⟩) 0 (0 + 1)) H2)
theorem q15 P : Q o15 (E k7 (B14 P)) k8 (B15 P) := fun _ _ _ _ => by kernel_rfl
def o16 := O 60
def B16 (P : PT) : Y k4 := fun x0 x3 x5 H =>
  lenK x5 (fun n1 => pif (((n1 : Int) : Int) == 0) (B15 P x0 x3 H) (AC Tryz.prog T0 66 [x0, (Value.int .i64 24)] H (fun v2 H3 => asI .i64 v2 (fun v4 => pif ((v4 : Int) == 0) (B15 P x0 x3 H3) (B8 P x0 x3 x5 H3)))))
theorem q16 P : Q o16 (cnd 24 (E k8 (B15 P)) (E k4 (B8 P))) k4 (B16 P) := fun _ _ _ _ _ => by kernel_rfl
def o17 := O 14
def B17 (P : PT) : Y k8 := fun x0 x3 H =>
  ldI .i64 H x3 0 (fun v1 => ld1 H x3 1 (fun v2 => AC Tryz.prog T0 177 [(Value.agg ⟨[(Value.int .i64 v1), v2]⟩), (Value.int .i64 5)] H (fun v3 H4 => B16 P x0 x3 v3 H4)))
theorem q17 P : Q o17 (E k4 (B16 P)) k8 (B17 P) := fun _ _ _ _ => by kernel_rfl
abbrev k9 : Sk := []
def o18 := O 52
def B18 (P : PT) : Y k9 := fun H =>
  newK H [] 2 (fun b1 H2 => P (Value.slice (some ⟨b1, 0, none⟩) 0 (0 + 1)) H2)
theorem q18 P : Q o18 (ret P) k9 (B18 P) := fun _ _ => by kernel_rfl
def o19 := O 12
def B19 (P : PT) : Y k8 := fun x0 x3 H =>
  ldI .i64 H x3 0 (fun v1 => ld1 H x3 1 (fun v2 => AC Tryz.prog T0 75 [(Value.agg ⟨[(Value.int .i64 v1), v2]⟩)] H (fun v3 H4 => asB v3 (fun v5 => pif (!v5) (B18 P H4) (B17 P x0 x3 H4)))))
theorem q19 P : Q o19 (cnd 13 (E k9 (B18 P)) (E k8 (B17 P))) k8 (B19 P) := fun _ _ _ _ => by kernel_rfl
abbrev k10 : Sk := [(0,.v),(1,.g [.i,.v])]
def o20 := O 2
def B20 (P : PT) : Y k10 := fun x0 x1a x1b H =>
  newK H [(Value.int .i64 x1a), x1b] 26 (fun b1 H2 => B19 P x0 b1 H2)
theorem q20 P : Q o20 (E k8 (B19 P)) k10 (B20 P) := fun _ _ _ _ _ => by kernel_rfl
def code : Code := (.seq (R 0 o20) (.seq (.seq (R 1 o19) (.cond (.tmp 13) (.seq (R 2 o18) .ret) .skip)) (.seq (R 3 o17) (.seq (.seq (R 4 o16) (.cond (.tmp 24) (.seq (R 5 o15) (.seq (.seq (R 6 o14) (.block 0 (.loop (.seq (.seq (R 7 o13) (.cond (.tmp 30) .skip (.exit 0))) (.seq (.block 1 (R 9 o12)) (R 8 o11)))))) (.seq (R 10 o9) .ret))) .skip)) (.seq (R 11 o8) (.seq (.seq (R 12 o7) (.block 2 (.loop (.seq (.seq (R 13 o6) (.cond (.tmp 49) .skip (.exit 2))) (.seq (.block 3 (.seq (R 15 o5) (.region 16 ⟨o4⟩ true))) (R 14 o3)))))) (.seq (R 17 o1) .ret)))))))
theorem body : Tryz.f136.body = some code := by kernel_rfl
theorem main (P : PT) : ∀ env H, (En 70 k10 (B20 P)) env H → AW Tryz.prog T0 code env H (M (ret P)) :=
  (r_seq (b (q20 P)) (r_seq (r_seq (b (q19 P)) (r_cond rfl (r_seq (b (q18 P)) r_ret) r_skip)) (r_seq (b (q17 P)) (r_seq (r_seq (b (q16 P)) (r_cond rfl (r_seq (b (q15 P)) (r_seq (r_seq (b (q14 P)) (r_block (rL (l10 P) (fun N10 => (r_seq (r_seq (b (q13 P N10)) (r_cond rfl r_skip (r_exit (fun _ _ h => h)))) (r_seq (r_block (b (q12 P N10))) (b (q11 P N10)))))))) (r_seq (b (q9 P)) r_ret))) r_skip)) (r_seq (b (q8 P)) (r_seq (r_seq (b (q7 P)) (r_block (rL (l2 P) (fun N2 => (r_seq (r_seq (b (q6 P N2)) (r_cond rfl r_skip (r_exit (fun _ _ h => h)))) (r_seq (r_block (r_seq (b (q5 P N2)) (rT T0_ok mixed (.op 0 [] (.op 1 [] (.op 2 [] (.op 3 [] (.op 4 [] (.op 5 [] (.op 6 [] (.op 7 [] (.op 8 [] (.op 9 [0, 6] (.op 10 [] (.op 11 [] (.op 12 [] (.op 13 [] .done)))))))))))))) (by kernel_rfl) (q4 P N2)))) (b (q3 P N2)))))))) (r_seq (b (q1 P)) r_ret)))))))
theorem ac (P : PT) (x0 : Value) (x1a : Int) (x1b : Value) (H : AHeap) (h : B20 P x0 x1a x1b H) : AC Tryz.prog T0 136 [x0, (Value.agg ⟨[(Value.int .i64 x1a), x1b]⟩)] H P :=
  r_fn T0_ok (c := code) (n := 70) Tryz.func136 body (by kernel_rfl) (main P) (En_mk (x0, x1a, x1b, ()) (by kernel_rfl) ⟨by kernel_rfl, by kernel_rfl, trivial⟩ h)

end F136
namespace F137
abbrev E := En 20
abbrev Q := QB Tryz.prog T0 20
def O (k : Nat) := ob Tryz.f137 (pth k)
def ret (P : PT) : EP := retE T0 20 Tryz.f137 P
abbrev k0 : Sk := [(3,.v)]
def o1 := O 30
def B1 (P : PT) : Y k0 := fun x3 H =>
  bytK H x3 (fun s1 => P (Value.string s1) H)
theorem q1 P : Q o1 (ret P) k0 (B1 P) := fun _ _ _ => by kernel_rfl
abbrev k1 : Sk := [(3,.v),(6,.v),(7,J),(8,J)]
def o3 := O 935
def B3 (P : PT) (N2 : Y k1) : Y k1 := fun x3 x6 x7 x8 H =>
  N2 x3 x6 x7 (IntKind.i64.wrap (x8 + 1)) H
theorem q3 P N2 : Q o3 (E k1 N2) k1 (B3 P N2) := fun _ _ _ _ _ _ => by kernel_rfl
abbrev k2 : Sk := [(3,.v),(5,J),(6,.v),(7,J),(8,J)]
def o4 := O 3737
def B4 (P : PT) (N2 : Y k1) : Y k2 := fun x3 x5 x6 x7 x8 H =>
  newK H [(Value.int .u8 (IntKind.u8.wrap x5))] 5 (fun b1 H2 => apK T0 5 H2 x3 (Value.slice (some ⟨b1, 0, none⟩) 1 (1 + 1)) (fun v3 H4 => B3 P N2 v3 x6 x7 x8 H4))
theorem q4 P N2 : Q o4 (E k1 (B3 P N2)) k2 (B4 P N2) := fun _ _ _ _ _ _ _ => by kernel_rfl
def o5 := O 3736
def B5 (P : PT) (N2 : Y k1) : Y k1 := fun x3 x6 x7 x8 H =>
  idxK x6 x8 1 (fun b1 o2 => ldI .i64 H b1 o2 (fun v3 => B4 P N2 x3 v3 x6 x7 x8 H))
theorem q5 P N2 : Q o5 (E k2 (B4 P N2)) k1 (B5 P N2) := fun _ _ _ _ _ _ => by kernel_rfl
def o6 := O 232
def B6 (P : PT) (N2 : Y k1) : Y k1 := fun x3 x6 x7 x8 H =>
  pif (decide ((x8 : Int) < x7)) (B5 P N2 x3 x6 x7 x8 H) (B1 P x3 H)
theorem q6 P N2 : Q o6 (cnd 9 (E k1 (B5 P N2)) (E k0 (B1 P))) k1 (B6 P N2) := fun _ _ _ _ _ _ => by kernel_rfl
def L2 (P : PT) : Y k1 := fun x3 x6 x7 x8 H =>
  ∃ (I : Y k1) (μ : NTy k1 (AHeap → Nat)), I x3 x6 x7 x8 H ∧ ∀ y3 y6 y7 y8 G, I y3 y6 y7 y8 G → B6 P (fun z3 z6 z7 z8 G' => I z3 z6 z7 z8 G' ∧ μ z3 z6 z7 z8 G' < μ y3 y6 y7 y8 G) y3 y6 y7 y8 G
theorem l2 P : LQ k1 (L2 P) (B6 P) := fun ⟨_,_,_,_,_⟩ _ ⟨I, μ, h0, hI⟩ => ⟨apT _ I, apT _ μ, h0, fun ⟨_,_,_,_,_⟩ _ h => hI _ _ _ _ _  h⟩
abbrev k3 : Sk := [(0,.v),(3,.v)]
def o7 := O 28
def B7 (P : PT) : Y k3 := fun x0 x3 H =>
  lenK x0 (fun n1 => L2 P x3 x0 (n1 : Int) 0 H)
theorem q7 P : Q o7 (E k1 (L2 P)) k3 (B7 P) := fun _ _ _ _ => by kernel_rfl
abbrev k4 : Sk := [(0,.v)]
def o8 := O 6
def B8 (P : PT) : Y k4 := fun x0 H =>
  B7 P x0 (Value.slice none 0 0) H
theorem q8 P : Q o8 (E k3 (B7 P)) k4 (B8 P) := fun _ _ _ => by kernel_rfl
def o9 := O 2
def B9 (P : PT) : Y k4 := fun x0 H =>
  B8 P x0 H
theorem q9 P : Q o9 (E k4 (B8 P)) k4 (B9 P) := fun _ _ _ => by kernel_rfl
def code : Code := (.seq (R 0 o9) (.seq (R 1 o8) (.seq (.seq (R 2 o7) (.block 0 (.loop (.seq (R 3 o6) (.seq (.cond (.tmp 9) .skip (.exit 0)) (.seq (.block 1 (.seq (R 4 o5) (R 5 o4))) (R 6 o3))))))) (.seq (R 7 o1) .ret))))
theorem body : Tryz.f137.body = some code := by kernel_rfl
theorem main (P : PT) : ∀ env H, (En 20 k4 (B9 P)) env H → AW Tryz.prog T0 code env H (M (ret P)) :=
  (r_seq (b (q9 P)) (r_seq (b (q8 P)) (r_seq (r_seq (b (q7 P)) (r_block (rL (l2 P) (fun N2 => (r_seq (b (q6 P N2)) (r_seq (r_cond rfl r_skip (r_exit (fun _ _ h => h))) (r_seq (r_block (r_seq (b (q5 P N2)) (b (q4 P N2)))) (b (q3 P N2))))))))) (r_seq (b (q1 P)) r_ret))))
theorem ac (P : PT) (x0 : Value) (H : AHeap) (h : B9 P x0 H) : AC Tryz.prog T0 137 [x0] H P :=
  r_fn T0_ok (c := code) (n := 20) Tryz.func137 body (by kernel_rfl) (main P) (En_mk (x0, ()) (by kernel_rfl) ⟨by kernel_rfl, trivial⟩ h)

end F137
namespace F138
abbrev E := En 6
abbrev Q := QB Tryz.prog T0 6
def O (k : Nat) := ob Tryz.f138 (pth k)
def ret (P : PT) : EP := retE T0 6 Tryz.f138 P
abbrev k0 : Sk := [(0,.v)]
def o1 := O 6
def B1 (P : PT) : Y k0 := fun x0 H =>
  newK H [] 2 (fun b1 H2 => apK T0 2 H2 (Value.slice (some ⟨b1, 0, none⟩) 0 (0 + 1)) x0 (fun v3 H4 => P v3 H4))
theorem q1 P : Q o1 (ret P) k0 (B1 P) := fun _ _ _ => by kernel_rfl
def o2 := O 2
def B2 (P : PT) : Y k0 := fun x0 H =>
  B1 P x0 H
theorem q2 P : Q o2 (E k0 (B1 P)) k0 (B2 P) := fun _ _ _ => by kernel_rfl
def code : Code := (.seq (R 0 o2) (.seq (R 1 o1) .ret))
theorem body : Tryz.f138.body = some code := by kernel_rfl
theorem main (P : PT) : ∀ env H, (En 6 k0 (B2 P)) env H → AW Tryz.prog T0 code env H (M (ret P)) :=
  (r_seq (b (q2 P)) (r_seq (b (q1 P)) r_ret))
theorem ac (P : PT) (x0 : Value) (H : AHeap) (h : B2 P x0 H) : AC Tryz.prog T0 138 [x0] H P :=
  r_fn T0_ok (c := code) (n := 6) Tryz.func138 body (by kernel_rfl) (main P) (En_mk (x0, ()) (by kernel_rfl) ⟨by kernel_rfl, trivial⟩ h)

end F138
namespace F139
abbrev E := En 21
abbrev Q := QB Tryz.prog T0 21
def O (k : Nat) := ob Tryz.f139 (pth k)
def ret (P : PT) : EP := retE T0 21 Tryz.f139 P
abbrev k0 : Sk := []
def o1 := O 14
def B1 (P : PT) : Y k0 := fun H =>
  P (Value.bool true) H
theorem q1 P : Q o1 (ret P) k0 (B1 P) := fun _ _ => by kernel_rfl
abbrev k1 : Sk := [(0,.v),(1,.v),(5,J)]
def o3 := O 211
def B3 (P : PT) (N2 : Y k1) : Y k1 := fun x0 x1 x5 H =>
  N2 x0 x1 (IntKind.i64.wrap (x5 + 1)) H
theorem q3 P N2 : Q o3 (E k1 N2) k1 (B3 P N2) := fun _ _ _ _ _ => by kernel_rfl
def o4 := O 3364
def B4 (P : PT) (N2 : Y k1) : Y k0 := fun H =>
  P (Value.bool false) H
theorem q4 P N2 : Q o4 (ret P) k0 (B4 P N2) := fun _ _ => by kernel_rfl
def o5 := O 840
def B5 (P : PT) (N2 : Y k1) : Y k1 := fun x0 x1 x5 H =>
  idxK x0 x5 1 (fun b1 o2 => ldI .i64 H b1 o2 (fun v3 => idxK x1 x5 1 (fun b4 o5 => ldI .i64 H b4 o5 (fun v6 => pif ((v3 : Int) != v6) (B4 P N2 H) (B3 P N2 x0 x1 x5 H)))))
theorem q5 (P : PT) (N2 : Y k1) : QD Tryz.prog T0 21 o5 [(0, false), (1, false), (2, false), (3, false), (4, false), (5, false), (6, false), (7, false), (8, false)] (cnd 20 (En 21 k0 (B4 P N2)) (En 21 k1 (B3 P N2))) k1 (B5 P N2) := fun _ _ _ _ _  => by kernel_rfl
def o6 := O 208
def B6 (P : PT) (N2 : Y k1) : Y k1 := fun x0 x1 x5 H =>
  lenK x0 (fun n1 => pif (decide ((x5 : Int) < (n1 : Int))) (B5 P N2 x0 x1 x5 H) (B1 P H))
theorem q6 P N2 : Q o6 (cnd 9 (E k1 (B5 P N2)) (E k0 (B1 P))) k1 (B6 P N2) := fun _ _ _ _ _ => by kernel_rfl
def L2 (P : PT) : Y k1 := fun x0 x1 x5 H =>
  ∃ (I : Y k1) (μ : NTy k1 (AHeap → Nat)), I x0 x1 x5 H ∧ ∀ y0 y1 y5 G, I y0 y1 y5 G → B6 P (fun z0 z1 z5 G' => I z0 z1 z5 G' ∧ μ z0 z1 z5 G' < μ y0 y1 y5 G) y0 y1 y5 G
theorem l2 P : LQ k1 (L2 P) (B6 P) := fun ⟨_,_,_,_⟩ _ ⟨I, μ, h0, hI⟩ => ⟨apT _ I, apT _ μ, h0, fun ⟨_,_,_,_⟩ _ h => hI _ _ _ _  h⟩
abbrev k2 : Sk := [(0,.v),(1,.v)]
def o7 := O 12
def B7 (P : PT) : Y k2 := fun x0 x1 H =>
  L2 P x0 x1 0 H
theorem q7 P : Q o7 (E k1 (L2 P)) k2 (B7 P) := fun _ _ _ _ => by kernel_rfl
def o8 := O 2
def B8 (P : PT) : Y k2 := fun x0 x1 H =>
  B7 P x0 x1 H
theorem q8 P : Q o8 (E k2 (B7 P)) k2 (B8 P) := fun _ _ _ _ => by kernel_rfl
def code : Code := (.seq (R 0 o8) (.seq (.seq (R 1 o7) (.block 0 (.loop (.seq (.seq (R 2 o6) (.cond (.tmp 9) .skip (.exit 0))) (.seq (.block 1 (.seq (.region 4 ⟨o5⟩ true) (.cond (.tmp 20) (.seq (R 5 o4) .ret) .skip))) (R 3 o3)))))) (.seq (R 6 o1) .ret)))
theorem body : Tryz.f139.body = some code := by kernel_rfl
theorem main (P : PT) : ∀ env H, (En 21 k2 (B8 P)) env H → AW Tryz.prog T0 code env H (M (ret P)) :=
  (r_seq (b (q8 P)) (r_seq (r_seq (b (q7 P)) (r_block (rL (l2 P) (fun N2 => (r_seq (r_seq (b (q6 P N2)) (r_cond rfl r_skip (r_exit (fun _ _ h => h)))) (r_seq (r_block (r_seq (rD T0_ok mixed [(0, false), (1, false), (2, false), (3, false), (4, false), (5, false), (6, false), (7, false), (8, false)] (by kernel_rfl) (q5 P N2)) (r_cond rfl (r_seq (b (q4 P N2)) r_ret) r_skip))) (b (q3 P N2)))))))) (r_seq (b (q1 P)) r_ret)))
theorem ac (P : PT) (x0 x1 : Value) (H : AHeap) (h : B8 P x0 x1 H) : AC Tryz.prog T0 139 [x0, x1] H P :=
  r_fn T0_ok (c := code) (n := 21) Tryz.func139 body (by kernel_rfl) (main P) (En_mk (x0, x1, ()) (by kernel_rfl) ⟨by kernel_rfl, by kernel_rfl, trivial⟩ h)

end F139
namespace F140
abbrev E := En 24
abbrev Q := QB Tryz.prog T0 24
def O (k : Nat) := ob Tryz.f140 (pth k)
def ret (P : PT) : EP := retE T0 24 Tryz.f140 P
abbrev k0 : Sk := [(3,J)]
def o1 := O 30
def B1 (P : PT) : Y k0 := fun x3 H =>
  P (Value.int .i64 x3) H
theorem q1 P : Q o1 (ret P) k0 (B1 P) := fun _ _ _ => by kernel_rfl
abbrev k1 : Sk := [(1,.x),(3,J),(8,.v),(9,J),(10,J)]
def o3 := O 935
def B3 (P : PT) (N2 : Y k1) : Y k1 := fun x1 x3 x8 x9 x10 H =>
  N2 x1 x3 x8 x9 (IntKind.i64.wrap (x10 + 1)) H
theorem q3 P N2 : Q o3 (E k1 N2) k1 (B3 P N2) := fun _ _ _ _ _ _ _ => by kernel_rfl
abbrev k2 : Sk := [(1,.x),(3,J),(6,.x),(8,.v),(9,J),(10,J)]
def o4 := O 14951
def B4 (P : PT) (N2 : Y k1) : Y k2 := fun x1 x3 x6 x8 x9 x10 H =>
  ldI .i64 H x6 0 (fun v1 => B3 P N2 x1 (IntKind.i64.wrap (x3 * v1)) x8 x9 x10 H)
theorem q4 P N2 : Q o4 (E k1 (B3 P N2)) k2 (B4 P N2) := fun _ _ _ _ _ _ _ _ => by kernel_rfl
abbrev k3 : Sk := [(1,.x),(3,J),(5,.v),(6,.x),(8,.v),(9,J),(10,J)]
def o5 := O 14950
def B5 (P : PT) (N2 : Y k1) : Y k3 := fun x1 x3 x5 x6 x8 x9 x10 H =>
  ldI .i64 H x1 0 (fun v1 => ld1 H x1 1 (fun v2 => AC Tryz.prog T0 179 [(Value.agg ⟨[(Value.int .i64 v1), v2]⟩), x5, (Value.bool false), (Value.func (.func 180) ⟨[]⟩ ⟨[(Value.pointer (some ⟨x6, 0, none⟩))]⟩)] H (fun v3 H4 => AC Tryz.prog T0 181 [v3] H4 (fun v6 H7 => asB v6 (fun v8 => B4 P N2 x1 x3 x6 x8 x9 x10 H7)))))
theorem q5 P N2 : Q o5 (E k2 (B4 P N2)) k3 (B5 P N2) := fun _ _ _ _ _ _ _ _ _ => by kernel_rfl
abbrev k4 : Sk := [(1,.x),(3,J),(5,.v),(8,.v),(9,J),(10,J)]
def o6 := O 7474
def B6 (P : PT) (N2 : Y k1) : Y k4 := fun x1 x3 x5 x8 x9 x10 H =>
  newK H [(Value.int .i64 0)] 2 (fun b1 H2 => B5 P N2 x1 x3 x5 b1 x8 x9 x10 H2)
theorem q6 P N2 : Q o6 (E k3 (B5 P N2)) k4 (B6 P N2) := fun _ _ _ _ _ _ _ _ => by kernel_rfl
def o7 := O 3736
def B7 (P : PT) (N2 : Y k1) : Y k1 := fun x1 x3 x8 x9 x10 H =>
  idxK x8 x10 1 (fun b1 o2 => ld1 H b1 o2 (fun v3 => B6 P N2 x1 x3 v3 x8 x9 x10 H))
theorem q7 P N2 : Q o7 (E k4 (B6 P N2)) k1 (B7 P N2) := fun _ _ _ _ _ _ _ => by kernel_rfl
def o8 := O 232
def B8 (P : PT) (N2 : Y k1) : Y k1 := fun x1 x3 x8 x9 x10 H =>
  pif (decide ((x10 : Int) < x9)) (B7 P N2 x1 x3 x8 x9 x10 H) (B1 P x3 H)
theorem q8 P N2 : Q o8 (cnd 11 (E k1 (B7 P N2)) (E k0 (B1 P))) k1 (B8 P N2) := fun _ _ _ _ _ _ _ => by kernel_rfl
def L2 (P : PT) : Y k1 := fun x1 x3 x8 x9 x10 H =>
  ∃ (I : Y k1) (μ : NTy k1 (AHeap → Nat)), I x1 x3 x8 x9 x10 H ∧ ∀ y1 y3 y8 y9 y10 G, I y1 y3 y8 y9 y10 G → B8 P (fun z1 z3 z8 z9 z10 G' => I z1 z3 z8 z9 z10 G' ∧ μ z1 z3 z8 z9 z10 G' < μ y1 y3 y8 y9 y10 G) y1 y3 y8 y9 y10 G
theorem l2 P : LQ k1 (L2 P) (B8 P) := fun ⟨_,_,_,_,_,_⟩ _ ⟨I, μ, h0, hI⟩ => ⟨apT _ I, apT _ μ, h0, fun ⟨_,_,_,_,_,_⟩ _ h => hI _ _ _ _ _ _  h⟩
abbrev k5 : Sk := [(1,.x),(3,J)]
def o9 := O 28
def B9 (P : PT) : Y k5 := fun x1 x3 H =>
  ldI .i64 H x1 0 (fun v1 => ld1 H x1 1 (fun v2 => AC Tryz.prog T0 178 [(Value.agg ⟨[(Value.int .i64 v1), v2]⟩)] H (fun v3 H4 => lenK v3 (fun n6 => L2 P x1 x3 v3 (n6 : Int) 0 H4))))
theorem q9 P : Q o9 (E k1 (L2 P)) k5 (B9 P) := fun _ _ _ _ => by kernel_rfl
abbrev k6 : Sk := [(1,.x)]
def o10 := O 6
def B10 (P : PT) : Y k6 := fun x1 H =>
  B9 P x1 1 H
theorem q10 P : Q o10 (E k5 (B9 P)) k6 (B10 P) := fun _ _ _ => by kernel_rfl
abbrev k7 : Sk := [(0,.g [.i,.v])]
def o11 := O 2
def B11 (P : PT) : Y k7 := fun x0a x0b H =>
  newK H [(Value.int .i64 x0a), x0b] 26 (fun b1 H2 => B10 P b1 H2)
theorem q11 P : Q o11 (E k6 (B10 P)) k7 (B11 P) := fun _ _ _ _ => by kernel_rfl
def code : Code := (.seq (R 0 o11) (.seq (R 1 o10) (.seq (.seq (R 2 o9) (.block 0 (.loop (.seq (R 3 o8) (.seq (.cond (.tmp 11) .skip (.exit 0)) (.seq (.block 1 (.seq (R 4 o7) (.seq (R 5 o6) (.seq (R 6 o5) (R 7 o4))))) (R 8 o3))))))) (.seq (R 9 o1) .ret))))
theorem body : Tryz.f140.body = some code := by kernel_rfl
theorem main (P : PT) : ∀ env H, (En 24 k7 (B11 P)) env H → AW Tryz.prog T0 code env H (M (ret P)) :=
  (r_seq (b (q11 P)) (r_seq (b (q10 P)) (r_seq (r_seq (b (q9 P)) (r_block (rL (l2 P) (fun N2 => (r_seq (b (q8 P N2)) (r_seq (r_cond rfl r_skip (r_exit (fun _ _ h => h))) (r_seq (r_block (r_seq (b (q7 P N2)) (r_seq (b (q6 P N2)) (r_seq (b (q5 P N2)) (b (q4 P N2)))))) (b (q3 P N2))))))))) (r_seq (b (q1 P)) r_ret))))
theorem ac (P : PT) (x0a : Int) (x0b : Value) (H : AHeap) (h : B11 P x0a x0b H) : AC Tryz.prog T0 140 [(Value.agg ⟨[(Value.int .i64 x0a), x0b]⟩)] H P :=
  r_fn T0_ok (c := code) (n := 24) Tryz.func140 body (by kernel_rfl) (main P) (En_mk (x0a, x0b, ()) (by kernel_rfl) ⟨by kernel_rfl, trivial⟩ h)

end F140
namespace F141
abbrev E := En 9
abbrev Q := QB Tryz.prog T0 9
def O (k : Nat) := ob Tryz.f141 (pth k)
def ret (P : PT) : EP := retE T0 9 Tryz.f141 P
abbrev k0 : Sk := [(0,J),(1,.v),(4,.x)]
def o1 := O 6
def B1 (P : PT) : Y k0 := fun x0 x1 x4 H =>
  AC Tryz.prog T0 182 [x1] H (fun v1 H2 => pif (Value.oneCell' v1) (stK H2 x4 0 [(Value.int .i64 x0), v1] (fun H4 => ldI .i64 H4 x4 0 (fun v5 => ld1 H4 x4 1 (fun v6 => P (Value.agg ⟨[(Value.int .i64 v5), v6]⟩) H4)))) False)
theorem q1 P : Q o1 (ret P) k0 (B1 P) := fun _ _ _ _ _ => by kernel_rfl
abbrev k1 : Sk := [(0,J),(1,.v)]
def o2 := O 2
def B2 (P : PT) : Y k1 := fun x0 x1 H =>
  newK H [(Value.int .i64 0), (Value.slice none 0 0)] 26 (fun b1 H2 => B1 P x0 x1 b1 H2)
theorem q2 P : Q o2 (E k0 (B1 P)) k1 (B2 P) := fun _ _ _ _ => by kernel_rfl
def code : Code := (.seq (R 0 o2) (.seq (R 1 o1) .ret))
theorem body : Tryz.f141.body = some code := by kernel_rfl
theorem main (P : PT) : ∀ env H, (En 9 k1 (B2 P)) env H → AW Tryz.prog T0 code env H (M (ret P)) :=
  (r_seq (b (q2 P)) (r_seq (b (q1 P)) r_ret))
theorem ac (P : PT) (x0 : Int) (x1 : Value) (H : AHeap) (h : B2 P x0 x1 H) : AC Tryz.prog T0 141 [(Value.int .i64 x0), x1] H P :=
  r_fn T0_ok (c := code) (n := 9) Tryz.func141 body (by kernel_rfl) (main P) (En_mk (x0, x1, ()) (by kernel_rfl) ⟨by kernel_rfl, by kernel_rfl, trivial⟩ h)

end F141
namespace F142
abbrev E := En 29
abbrev Q := QB Tryz.prog T0 29
def O (k : Nat) := ob Tryz.f142 (pth k)
def ret (P : PT) : EP := retE T0 29 Tryz.f142 P
abbrev k0 : Sk := [(0,.v)]
def o1 := O 14
def B1 (P : PT) : Y k0 := fun x0 H =>
  P x0 H
theorem q1 P : Q o1 (ret P) k0 (B1 P) := fun _ _ _ => by kernel_rfl
abbrev k1 : Sk := [(0,.v),(1,.v),(5,J)]
def o3 := O 211
def B3 (P : PT) (N2 : Y k1) : Y k1 := fun x0 x1 x5 H =>
  N2 x0 x1 (IntKind.i64.wrap (x5 + 1)) H
theorem q3 P N2 : Q o3 (E k1 N2) k1 (B3 P N2) := fun _ _ _ _ _ => by kernel_rfl
def o4 := O 420
def B4 (P : PT) (N2 : Y k1) : Y k1 := fun x0 x1 x5 H =>
  idxK x1 x5 1 (fun b1 o2 => ldI .i64 H b1 o2 (fun v3 => lenK x1 (fun n4 => nzK (n4 : Int) (idxK x1 (Int.tmod (IntKind.i64.wrap (x5 + 1)) (n4 : Int)) 1 (fun b5 o6 => ldI .i64 H b5 o6 (fun v7 => newK H [(Value.int .i64 v3), (Value.int .i64 v7)] 78 (fun b8 H9 => apK T0 78 H9 x0 (Value.slice (some ⟨b8, 0, none⟩) 1 (1 + 1)) (fun v10 H11 => B3 P N2 v10 x1 x5 H11))))))))
theorem q4 (P : PT) (N2 : Y k1) : QD Tryz.prog T0 29 o4 [(0, false), (1, false), (2, false), (3, false), (4, false), (5, false), (6, false), (7, false), (8, false), (9, false), (10, false), (11, false), (12, false), (13, false), (14, false), (15, false), (16, false)] (En 29 k1 (B3 P N2)) k1 (B4 P N2) := fun _ _ _ _ _  => by kernel_rfl
def o5 := O 208
def B5 (P : PT) (N2 : Y k1) : Y k1 := fun x0 x1 x5 H =>
  lenK x1 (fun n1 => pif (decide ((x5 : Int) < (n1 : Int))) (B4 P N2 x0 x1 x5 H) (B1 P x0 H))
theorem q5 P N2 : Q o5 (cnd 9 (E k1 (B4 P N2)) (E k0 (B1 P))) k1 (B5 P N2) := fun _ _ _ _ _ => by kernel_rfl
def L2 (P : PT) : Y k1 := fun x0 x1 x5 H =>
  ∃ (I : Y k1) (μ : NTy k1 (AHeap → Nat)), I x0 x1 x5 H ∧ ∀ y0 y1 y5 G, I y0 y1 y5 G → B5 P (fun z0 z1 z5 G' => I z0 z1 z5 G' ∧ μ z0 z1 z5 G' < μ y0 y1 y5 G) y0 y1 y5 G
theorem l2 P : LQ k1 (L2 P) (B5 P) := fun ⟨_,_,_,_⟩ _ ⟨I, μ, h0, hI⟩ => ⟨apT _ I, apT _ μ, h0, fun ⟨_,_,_,_⟩ _ h => hI _ _ _ _  h⟩
abbrev k2 : Sk := [(0,.v),(1,.v)]
def o6 := O 12
def B6 (P : PT) : Y k2 := fun x0 x1 H =>
  L2 P x0 x1 0 H
theorem q6 P : Q o6 (E k1 (L2 P)) k2 (B6 P) := fun _ _ _ _ => by kernel_rfl
def o7 := O 2
def B7 (P : PT) : Y k2 := fun x0 x1 H =>
  B6 P x0 x1 H
theorem q7 P : Q o7 (E k2 (B6 P)) k2 (B7 P) := fun _ _ _ _ => by kernel_rfl
def code : Code := (.seq (R 0 o7) (.seq (.seq (R 1 o6) (.block 0 (.loop (.seq (.seq (R 2 o5) (.cond (.tmp 9) .skip (.exit 0))) (.seq (.block 1 (.region 4 ⟨o4⟩ true)) (R 3 o3)))))) (.seq (R 5 o1) .ret)))
theorem body : Tryz.f142.body = some code := by kernel_rfl
theorem main (P : PT) : ∀ env H, (En 29 k2 (B7 P)) env H → AW Tryz.prog T0 code env H (M (ret P)) :=
  (r_seq (b (q7 P)) (r_seq (r_seq (b (q6 P)) (r_block (rL (l2 P) (fun N2 => (r_seq (r_seq (b (q5 P N2)) (r_cond rfl r_skip (r_exit (fun _ _ h => h)))) (r_seq (r_block (rD T0_ok mixed [(0, false), (1, false), (2, false), (3, false), (4, false), (5, false), (6, false), (7, false), (8, false), (9, false), (10, false), (11, false), (12, false), (13, false), (14, false), (15, false), (16, false)] (by kernel_rfl) (q4 P N2))) (b (q3 P N2)))))))) (r_seq (b (q1 P)) r_ret)))
theorem ac (P : PT) (x0 x1 : Value) (H : AHeap) (h : B7 P x0 x1 H) : AC Tryz.prog T0 142 [x0, x1] H P :=
  r_fn T0_ok (c := code) (n := 29) Tryz.func142 body (by kernel_rfl) (main P) (En_mk (x0, x1, ()) (by kernel_rfl) ⟨by kernel_rfl, by kernel_rfl, trivial⟩ h)

end F142
namespace F143
abbrev E := En 25
abbrev Q := QB Tryz.prog T0 25
def O (k : Nat) := ob Tryz.f143 (pth k)
def ret (P : PT) : EP := retE T0 25 Tryz.f143 P
abbrev k0 : Sk := [(1,.x)]
def o1 := O 6
def B1 (P : PT) : Y k0 := fun x1 H =>
  ldI .i64 H x1 0 (fun v1 => ld1 H x1 1 (fun v2 => AC Tryz.prog T0 183 [(Value.int .i64 v1), v2] H (fun v3 H4 => asB v3 (fun v5 => pif v5 (ld1 H4 x1 1 (fun v6 => AC Tryz.prog T0 184 [v6, (Value.func (.func 185) ⟨[]⟩ ⟨[]⟩)] H4 (fun v7 H8 => asB v7 (fun v9 => pif v9 (ld1 H8 x1 1 (fun v10 => AC Tryz.prog T0 186 [v10, (Value.func (.func 187) ⟨[]⟩ ⟨[]⟩)] H8 (fun v11 H12 => asB v11 (fun v13 => pif v13 (ldI .i64 H12 x1 0 (fun v14 => ld1 H12 x1 1 (fun v15 => AC Tryz.prog T0 188 [(Value.int .i64 v14), v15] H12 (fun v16 H17 => asB v16 (fun v18 => P (Value.bool v18) H17))))) (P (Value.bool false) H12))))) (P (Value.bool false) H8))))) (P (Value.bool false) H4)))))
theorem q1 P : Q o1 (ret P) k0 (B1 P) := fun _ _ _ => by kernel_rfl
abbrev k1 : Sk := [(0,.g [.i,.v])]
def o2 := O 2
def B2 (P : PT) : Y k1 := fun x0a x0b H =>
  newK H [(Value.int .i64 x0a), x0b] 26 (fun b1 H2 => B1 P b1 H2)
theorem q2 P : Q o2 (E k0 (B1 P)) k1 (B2 P) := fun _ _ _ _ => by kernel_rfl
def code : Code := (.seq (R 0 o2) (.seq (R 1 o1) .ret))
theorem body : Tryz.f143.body = some code := by kernel_rfl
theorem main (P : PT) : ∀ env H, (En 25 k1 (B2 P)) env H → AW Tryz.prog T0 code env H (M (ret P)) :=
  (r_seq (b (q2 P)) (r_seq (b (q1 P)) r_ret))
theorem ac (P : PT) (x0a : Int) (x0b : Value) (H : AHeap) (h : B2 P x0a x0b H) : AC Tryz.prog T0 143 [(Value.agg ⟨[(Value.int .i64 x0a), x0b]⟩)] H P :=
  r_fn T0_ok (c := code) (n := 25) Tryz.func143 body (by kernel_rfl) (main P) (En_mk (x0a, x0b, ()) (by kernel_rfl) ⟨by kernel_rfl, trivial⟩ h)

end F143
namespace F144
abbrev E := En 61
abbrev Q := QB Tryz.prog T0 61
def O (k : Nat) := ob Tryz.f144 (pth k)
def ret (P : PT) : EP := retE T0 61 Tryz.f144 P
abbrev k0 : Sk := []
def o1 := O 30
def B1 (P : PT) : Y k0 := fun H =>
  P (Value.int .i64 0) H
theorem q1 P : Q o1 (ret P) k0 (B1 P) := fun _ _ => by kernel_rfl
abbrev k1 : Sk := [(0,J),(1,.v),(5,J)]
def o3 := O 467
def B3 (P : PT) (N2 : Y k1) : Y k1 := fun x0 x1 x5 H =>
  N2 x0 x1 (IntKind.i64.wrap (x5 + 1)) H
theorem q3 P N2 : Q o3 (E k1 N2) k1 (B3 P N2) := fun _ _ _ _ _ => by kernel_rfl
def o4 := O 7460
def B4 (P : PT) (N2 : Y k1) : Y k0 := fun H =>
  P (Value.int .i64 2) H
theorem q4 P N2 : Q o4 (ret P) k0 (B4 P N2) := fun _ _ => by kernel_rfl
def o5 := O 1864
def B5 (P : PT) (N2 : Y k1) : Y k1 := fun x0 x1 x5 H =>
  idxK x1 x5 2 (fun b1 o2 => ldI .i64 H b1 o2 (fun v3 => AC Tryz.prog T0 85 [(Value.int .i64 v3), (Value.int .i64 0), (Value.int .i64 (IntKind.i64.wrap (x0 - 1)))] H (fun v4 H5 => asB v4 (fun v6 => pif (!v6) (B4 P N2 H5) (idxK x1 x5 2 (fun b7 o8 => ldI .i64 H5 b7 (o8 + 1) (fun v9 => AC Tryz.prog T0 85 [(Value.int .i64 v9), (Value.int .i64 0), (Value.int .i64 (IntKind.i64.wrap (x0 - 1)))] H5 (fun v10 H11 => asB v10 (fun v12 => pif (!v12) (B4 P N2 H11) (idxK x1 x5 2 (fun b13 o14 => ldI .i64 H11 b13 o14 (fun v15 => idxK x1 x5 2 (fun b16 o17 => ldI .i64 H11 b16 (o17 + 1) (fun v18 => pif ((v15 : Int) == v18) (B4 P N2 H11) (B3 P N2 x0 x1 x5 H11)))))))))))))))
theorem q5 (P : PT) (N2 : Y k1) : QD Tryz.prog T0 61 o5 [(0, false), (1, false), (2, false), (3, false), (4, false), (5, false), (6, false), (7, false), (8, false), (9, false), (10, false), (11, false), (12, false), (13, false), (14, false), (15, false), (16, false), (17, false), (18, false), (19, false), (20, false), (21, false), (22, false), (23, false), (24, false), (25, false), (26, false), (27, false), (28, false), (29, false), (30, false), (31, false), (32, false)] (cnd 60 (En 61 k0 (B4 P N2)) (En 61 k1 (B3 P N2))) k1 (B5 P N2) := fun _ _ _ _ _  => by kernel_rfl
def o6 := O 464
def B6 (P : PT) (N2 : Y k1) : Y k1 := fun x0 x1 x5 H =>
  lenK x1 (fun n1 => pif (decide ((x5 : Int) < (n1 : Int))) (B5 P N2 x0 x1 x5 H) (B1 P H))
theorem q6 P N2 : Q o6 (cnd 25 (E k1 (B5 P N2)) (E k0 (B1 P))) k1 (B6 P N2) := fun _ _ _ _ _ => by kernel_rfl
def L2 (P : PT) : Y k1 := fun x0 x1 x5 H =>
  ∃ (I : Y k1) (μ : NTy k1 (AHeap → Nat)), I x0 x1 x5 H ∧ ∀ y0 y1 y5 G, I y0 y1 y5 G → B6 P (fun z0 z1 z5 G' => I z0 z1 z5 G' ∧ μ z0 z1 z5 G' < μ y0 y1 y5 G) y0 y1 y5 G
theorem l2 P : LQ k1 (L2 P) (B6 P) := fun ⟨_,_,_,_⟩ _ ⟨I, μ, h0, hI⟩ => ⟨apT _ I, apT _ μ, h0, fun ⟨_,_,_,_⟩ _ h => hI _ _ _ _  h⟩
abbrev k2 : Sk := [(0,J),(1,.v)]
def o7 := O 28
def B7 (P : PT) : Y k2 := fun x0 x1 H =>
  L2 P x0 x1 0 H
theorem q7 P : Q o7 (E k1 (L2 P)) k2 (B7 P) := fun _ _ _ _ => by kernel_rfl
def o8 := O 52
def B8 (P : PT) : Y k0 := fun H =>
  P (Value.int .i64 2) H
theorem q8 P : Q o8 (ret P) k0 (B8 P) := fun _ _ => by kernel_rfl
def o9 := O 12
def B9 (P : PT) : Y k2 := fun x0 x1 H =>
  AC Tryz.prog T0 85 [(Value.int .i64 x0), (Value.int .i64 2), (Value.int .i64 20)] H (fun v1 H2 => asB v1 (fun v3 => pif (!v3) (B8 P H2) (pif ((Int.tmod x0 2 : Int) != 0) (B8 P H2) (lenK x1 (fun n4 => pif (((n4 : Int) : Int) != (IntKind.i64.wrap (Int.tdiv (IntKind.i64.wrap (3 * x0)) 2))) (B8 P H2) (B7 P x0 x1 H2))))))
theorem q9 P : Q o9 (cnd 21 (E k0 (B8 P)) (E k2 (B7 P))) k2 (B9 P) := fun _ _ _ _ => by kernel_rfl
def o10 := O 2
def B10 (P : PT) : Y k2 := fun x0 x1 H =>
  B9 P x0 x1 H
theorem q10 P : Q o10 (E k2 (B9 P)) k2 (B10 P) := fun _ _ _ _ => by kernel_rfl
def code : Code := (.seq (R 0 o10) (.seq (.seq (R 1 o9) (.cond (.tmp 21) (.seq (R 2 o8) .ret) .skip)) (.seq (.seq (R 3 o7) (.block 0 (.loop (.seq (.seq (R 4 o6) (.cond (.tmp 25) .skip (.exit 0))) (.seq (.block 1 (.seq (.region 6 ⟨o5⟩ true) (.cond (.tmp 60) (.seq (R 7 o4) .ret) .skip))) (R 5 o3)))))) (.seq (R 8 o1) .ret))))
theorem body : Tryz.f144.body = some code := by kernel_rfl
theorem main (P : PT) : ∀ env H, (En 61 k2 (B10 P)) env H → AW Tryz.prog T0 code env H (M (ret P)) :=
  (r_seq (b (q10 P)) (r_seq (r_seq (b (q9 P)) (r_cond rfl (r_seq (b (q8 P)) r_ret) r_skip)) (r_seq (r_seq (b (q7 P)) (r_block (rL (l2 P) (fun N2 => (r_seq (r_seq (b (q6 P N2)) (r_cond rfl r_skip (r_exit (fun _ _ h => h)))) (r_seq (r_block (r_seq (rD T0_ok mixed [(0, false), (1, false), (2, false), (3, false), (4, false), (5, false), (6, false), (7, false), (8, false), (9, false), (10, false), (11, false), (12, false), (13, false), (14, false), (15, false), (16, false), (17, false), (18, false), (19, false), (20, false), (21, false), (22, false), (23, false), (24, false), (25, false), (26, false), (27, false), (28, false), (29, false), (30, false), (31, false), (32, false)] (by kernel_rfl) (q5 P N2)) (r_cond rfl (r_seq (b (q4 P N2)) r_ret) r_skip))) (b (q3 P N2)))))))) (r_seq (b (q1 P)) r_ret))))
theorem ac (P : PT) (x0 : Int) (x1 : Value) (H : AHeap) (h : B10 P x0 x1 H) : AC Tryz.prog T0 144 [(Value.int .i64 x0), x1] H P :=
  r_fn T0_ok (c := code) (n := 61) Tryz.func144 body (by kernel_rfl) (main P) (En_mk (x0, x1, ()) (by kernel_rfl) ⟨by kernel_rfl, by kernel_rfl, trivial⟩ h)

end F144
namespace F145
abbrev E := En 46
abbrev Q := QB Tryz.prog T0 46
def O (k : Nat) := ob Tryz.f145 (pth k)
def ret (P : PT) : EP := retE T0 46 Tryz.f145 P
abbrev k0 : Sk := []
def o1 := O 62
def B1 (P : PT) : Y k0 := fun H =>
  P (Value.bool true) H
theorem q1 P : Q o1 (ret P) k0 (B1 P) := fun _ _ => by kernel_rfl
abbrev k1 : Sk := [(0,J),(5,.v),(7,J)]
def o3 := O 979
def B3 (P : PT) (N2 : Y k1) : Y k1 := fun x0 x5 x7 H =>
  N2 x0 x5 (IntKind.i64.wrap (x7 + 1)) H
theorem q3 P N2 : Q o3 (E k1 N2) k1 (B3 P N2) := fun _ _ _ _ _ => by kernel_rfl
def o4 := O 15652
def B4 (P : PT) (N2 : Y k1) : Y k0 := fun H =>
  P (Value.bool false) H
theorem q4 P N2 : Q o4 (ret P) k0 (B4 P N2) := fun _ _ => by kernel_rfl
def o5 := O 3912
def B5 (P : PT) (N2 : Y k1) : Y k1 := fun x0 x5 x7 H =>
  idxK x5 x7 1 (fun b1 o2 => ldI .i64 H b1 o2 (fun v3 => pif ((v3 : Int) != 3) (B4 P N2 H) (B3 P N2 x0 x5 x7 H)))
theorem q5 P N2 : Q o5 (cnd 45 (E k0 (B4 P N2)) (E k1 (B3 P N2))) k1 (B5 P N2) := fun _ _ _ _ _ => by kernel_rfl
def o6 := O 976
def B6 (P : PT) (N2 : Y k1) : Y k1 := fun x0 x5 x7 H =>
  pif (decide ((x7 : Int) < x0)) (B5 P N2 x0 x5 x7 H) (B1 P H)
theorem q6 P N2 : Q o6 (cnd 38 (E k1 (B5 P N2)) (E k0 (B1 P))) k1 (B6 P N2) := fun _ _ _ _ _ => by kernel_rfl
def L2 (P : PT) : Y k1 := fun x0 x5 x7 H =>
  ∃ (I : Y k1) (μ : NTy k1 (AHeap → Nat)), I x0 x5 x7 H ∧ ∀ y0 y5 y7 G, I y0 y5 y7 G → B6 P (fun z0 z5 z7 G' => I z0 z5 z7 G' ∧ μ z0 z5 z7 G' < μ y0 y5 y7 G) y0 y5 y7 G
theorem l2 P : LQ k1 (L2 P) (B6 P) := fun ⟨_,_,_,_⟩ _ ⟨I, μ, h0, hI⟩ => ⟨apT _ I, apT _ μ, h0, fun ⟨_,_,_,_⟩ _ h => hI _ _ _ _  h⟩
abbrev k2 : Sk := [(0,J),(5,.v)]
def o7 := O 60
def B7 (P : PT) : Y k2 := fun x0 x5 H =>
  L2 P x0 x5 0 H
theorem q7 P : Q o7 (E k1 (L2 P)) k2 (B7 P) := fun _ _ _ _ => by kernel_rfl
abbrev k3 : Sk := [(0,J),(1,.v),(5,.v),(6,J)]
def o9 := O 467
def B9 (P : PT) (N8 : Y k3) : Y k3 := fun x0 x1 x5 x6 H =>
  N8 x0 x1 x5 (IntKind.i64.wrap (x6 + 1)) H
theorem q9 P N8 : Q o9 (E k3 N8) k3 (B9 P N8) := fun _ _ _ _ _ _ => by kernel_rfl
def o10 := O 1865
def B10 (P : PT) (N8 : Y k3) : Y k3 := fun x0 x1 x5 x6 H =>
  idxK x1 x6 2 (fun b1 o2 => ldI .i64 H b1 (o2 + 1) (fun v3 => idxK x5 v3 1 (fun b4 o5 => ldI .i64 H b4 o5 (fun v6 => idxK x5 v3 1 (fun b7 o8 => stK H b7 o8 [(Value.int .i64 (IntKind.i64.wrap (v6 + 1)))] (fun H9 => B9 P N8 x0 x1 x5 x6 H9))))))
theorem q10 P N8 : Q o10 (E k3 (B9 P N8)) k3 (B10 P N8) := fun _ _ _ _ _ _ => by kernel_rfl
def o11 := O 1864
def B11 (P : PT) (N8 : Y k3) : Y k3 := fun x0 x1 x5 x6 H =>
  idxK x1 x6 2 (fun b1 o2 => ldI .i64 H b1 o2 (fun v3 => idxK x5 v3 1 (fun b4 o5 => ldI .i64 H b4 o5 (fun v6 => idxK x5 v3 1 (fun b7 o8 => stK H b7 o8 [(Value.int .i64 (IntKind.i64.wrap (v6 + 1)))] (fun H9 => B10 P N8 x0 x1 x5 x6 H9))))))
theorem q11 P N8 : Q o11 (E k3 (B10 P N8)) k3 (B11 P N8) := fun _ _ _ _ _ _ => by kernel_rfl
def o12 := O 464
def B12 (P : PT) (N8 : Y k3) : Y k3 := fun x0 x1 x5 x6 H =>
  lenK x1 (fun n1 => pif (decide ((x6 : Int) < (n1 : Int))) (B11 P N8 x0 x1 x5 x6 H) (B7 P x0 x5 H))
theorem q12 P N8 : Q o12 (cnd 13 (E k3 (B11 P N8)) (E k2 (B7 P))) k3 (B12 P N8) := fun _ _ _ _ _ _ => by kernel_rfl
def L8 (P : PT) : Y k3 := fun x0 x1 x5 x6 H =>
  ∃ (I : Y k3) (μ : NTy k3 (AHeap → Nat)), I x0 x1 x5 x6 H ∧ ∀ y0 y1 y5 y6 G, I y0 y1 y5 y6 G → B12 P (fun z0 z1 z5 z6 G' => I z0 z1 z5 z6 G' ∧ μ z0 z1 z5 z6 G' < μ y0 y1 y5 y6 G) y0 y1 y5 y6 G
theorem l8 P : LQ k3 (L8 P) (B12 P) := fun ⟨_,_,_,_,_⟩ _ ⟨I, μ, h0, hI⟩ => ⟨apT _ I, apT _ μ, h0, fun ⟨_,_,_,_,_⟩ _ h => hI _ _ _ _ _  h⟩
abbrev k4 : Sk := [(0,J),(1,.v),(5,.v)]
def o13 := O 28
def B13 (P : PT) : Y k4 := fun x0 x1 x5 H =>
  L8 P x0 x1 x5 0 H
theorem q13 P : Q o13 (E k3 (L8 P)) k4 (B13 P) := fun _ _ _ _ _ => by kernel_rfl
abbrev k5 : Sk := [(0,J),(1,.v)]
def o14 := O 6
def B14 (P : PT) : Y k5 := fun x0 x1 H =>
  mkR H 8 2 [(Value.int .i64 0)] x0 x0 (fun v2 H1 => B13 P x0 x1 v2 H1)
theorem q14 P : Q o14 (E k4 (B13 P)) k5 (B14 P) := fun _ _ _ _ => by kernel_rfl
def o15 := O 2
def B15 (P : PT) : Y k5 := fun x0 x1 H =>
  B14 P x0 x1 H
theorem q15 P : Q o15 (E k5 (B14 P)) k5 (B15 P) := fun _ _ _ _ => by kernel_rfl
def code : Code := (.seq (R 0 o15) (.seq (R 1 o14) (.seq (.seq (R 2 o13) (.block 0 (.loop (.seq (.seq (R 3 o12) (.cond (.tmp 13) .skip (.exit 0))) (.seq (.block 1 (.seq (R 5 o11) (R 6 o10))) (R 4 o9)))))) (.seq (.seq (R 7 o7) (.block 2 (.loop (.seq (.seq (R 8 o6) (.cond (.tmp 38) .skip (.exit 2))) (.seq (.block 3 (.seq (R 10 o5) (.cond (.tmp 45) (.seq (R 11 o4) .ret) .skip))) (R 9 o3)))))) (.seq (R 12 o1) .ret)))))
theorem body : Tryz.f145.body = some code := by kernel_rfl
theorem main (P : PT) : ∀ env H, (En 46 k5 (B15 P)) env H → AW Tryz.prog T0 code env H (M (ret P)) :=
  (r_seq (b (q15 P)) (r_seq (b (q14 P)) (r_seq (r_seq (b (q13 P)) (r_block (rL (l8 P) (fun N8 => (r_seq (r_seq (b (q12 P N8)) (r_cond rfl r_skip (r_exit (fun _ _ h => h)))) (r_seq (r_block (r_seq (b (q11 P N8)) (b (q10 P N8)))) (b (q9 P N8)))))))) (r_seq (r_seq (b (q7 P)) (r_block (rL (l2 P) (fun N2 => (r_seq (r_seq (b (q6 P N2)) (r_cond rfl r_skip (r_exit (fun _ _ h => h)))) (r_seq (r_block (r_seq (b (q5 P N2)) (r_cond rfl (r_seq (b (q4 P N2)) r_ret) r_skip))) (b (q3 P N2)))))))) (r_seq (b (q1 P)) r_ret)))))
theorem ac (P : PT) (x0 : Int) (x1 : Value) (H : AHeap) (h : B15 P x0 x1 H) : AC Tryz.prog T0 145 [(Value.int .i64 x0), x1] H P :=
  r_fn T0_ok (c := code) (n := 46) Tryz.func145 body (by kernel_rfl) (main P) (En_mk (x0, x1, ()) (by kernel_rfl) ⟨by kernel_rfl, by kernel_rfl, trivial⟩ h)

end F145
namespace F146
abbrev E := En 24
abbrev Q := QB Tryz.prog T0 24
def O (k : Nat) := ob Tryz.f146 (pth k)
def ret (P : PT) : EP := retE T0 24 Tryz.f146 P
abbrev k0 : Sk := [(2,.x),(3,.x)]
def o1 := O 6
def B1 (P : PT) : Y k0 := fun x2 x3 H =>
  ldI .i64 H x2 0 (fun v1 => ldI .i64 H x3 0 (fun v2 => pif (decide ((v1 : Int) < v2)) (P (Value.bool true) H) (ldI .i64 H x2 0 (fun v3 => ldI .i64 H x3 0 (fun v4 => pif ((v3 : Int) == v4) (ldI .i64 H x2 1 (fun v5 => ldI .i64 H x3 1 (fun v6 => P (Value.bool (decide ((v5 : Int) < v6))) H))) (P (Value.bool false) H))))))
theorem q1 P : Q o1 (ret P) k0 (B1 P) := fun _ _ _ _ => by kernel_rfl
abbrev k1 : Sk := [(0,.g [.i,.i]),(1,.g [.i,.i])]
def o2 := O 2
def B2 (P : PT) : Y k1 := fun x0a x0b x1a x1b H =>
  newK H [(Value.int .i64 x0a), (Value.int .i64 x0b)] 78 (fun b1 H2 => newK H2 [(Value.int .i64 x1a), (Value.int .i64 x1b)] 78 (fun b3 H4 => B1 P b1 b3 H4))
theorem q2 P : Q o2 (E k0 (B1 P)) k1 (B2 P) := fun _ _ _ _ _ _ => by kernel_rfl
def code : Code := (.seq (R 0 o2) (.seq (R 1 o1) .ret))
theorem body : Tryz.f146.body = some code := by kernel_rfl
theorem main (P : PT) : ∀ env H, (En 24 k1 (B2 P)) env H → AW Tryz.prog T0 code env H (M (ret P)) :=
  (r_seq (b (q2 P)) (r_seq (b (q1 P)) r_ret))
theorem ac (P : PT) (x0a x0b x1a x1b : Int) (H : AHeap) (h : B2 P x0a x0b x1a x1b H) : AC Tryz.prog T0 146 [(Value.agg ⟨[(Value.int .i64 x0a), (Value.int .i64 x0b)]⟩), (Value.agg ⟨[(Value.int .i64 x1a), (Value.int .i64 x1b)]⟩)] H P :=
  r_fn T0_ok (c := code) (n := 24) Tryz.func146 body (by kernel_rfl) (main P) (En_mk (x0a, x0b, x1a, x1b, ()) (by kernel_rfl) ⟨by kernel_rfl, by kernel_rfl, trivial⟩ h)

end F146
namespace F148
abbrev E := En 9
abbrev Q := QB Tryz.prog T0 9
def O (k : Nat) := ob Tryz.f148 (pth k)
def ret (P : PT) : EP := retE T0 9 Tryz.f148 P
abbrev k0 : Sk := [(0,.v),(3,.x)]
def o1 := O 6
def B1 (P : PT) : Y k0 := fun x0 x3 H =>
  AC Tryz.prog T0 189 [x0, (Value.func (.func 190) ⟨[]⟩ ⟨[(Value.pointer (some ⟨x3, 0, none⟩))]⟩)] H (fun v1 H2 => asB v1 (fun v3 => P (Value.bool (!v3)) H2))
theorem q1 P : Q o1 (ret P) k0 (B1 P) := fun _ _ _ _ => by kernel_rfl
abbrev k1 : Sk := [(0,.v),(1,.v)]
def o2 := O 2
def B2 (P : PT) : Y k1 := fun x0 x1 H =>
  pif (Value.oneCell' x1) (newK H [x1] 123 (fun b1 H2 => B1 P x0 b1 H2)) False
theorem q2 P : Q o2 (E k0 (B1 P)) k1 (B2 P) := fun _ _ _ _ => by kernel_rfl
def code : Code := (.seq (R 0 o2) (.seq (R 1 o1) .ret))
theorem body : Tryz.f148.body = some code := by kernel_rfl
theorem main (P : PT) : ∀ env H, (En 9 k1 (B2 P)) env H → AW Tryz.prog T0 code env H (M (ret P)) :=
  (r_seq (b (q2 P)) (r_seq (b (q1 P)) r_ret))
theorem ac (P : PT) (x0 x1 : Value) (H : AHeap) (h : B2 P x0 x1 H) : AC Tryz.prog T0 148 [x0, x1] H P :=
  r_fn T0_ok (c := code) (n := 9) Tryz.func148 body (by kernel_rfl) (main P) (En_mk (x0, x1, ()) (by kernel_rfl) ⟨by kernel_rfl, by kernel_rfl, trivial⟩ h)

end F148
namespace F150
abbrev E := En 87
abbrev Q := QB Tryz.prog T0 87
def O (k : Nat) := ob Tryz.f150 (pth k)
def ret (P : PT) : EP := retE T0 87 Tryz.f150 P
abbrev k0 : Sk := [(1,J),(4,.x),(12,.v)]
def o1 := O 62
def B1 (P : PT) : Y k0 := fun x1 x4 x12 H =>
  AC Tryz.prog T0 141 [(Value.int .i64 x1), x12] H (fun v1 H2 => agg2 v1 (fun v3 v4 => asI .i64 v3 (fun v5 => stK H2 x4 0 [(Value.int .i64 v5), v4] (fun H7 => ldI .i64 H7 x4 0 (fun v8 => ld1 H7 x4 1 (fun v9 => P (Value.agg ⟨[(Value.int .i64 v8), v9]⟩) H7))))))
theorem q1 P : Q o1 (ret P) k0 (B1 P) := fun _ _ _ _ _ => by kernel_rfl
abbrev k1 : Sk := [(1,J),(4,.x),(12,.v),(13,J)]
def o3 := O 979
def B3 (P : PT) (N2 : Y k1) : Y k1 := fun x1 x4 x12 x13 H =>
  N2 x1 x4 x12 (IntKind.i64.wrap (x13 + 1)) H
theorem q3 P N2 : Q o3 (E k1 N2) k1 (B3 P N2) := fun _ _ _ _ _ _ => by kernel_rfl
def o4 := O 15654
def B4 (P : PT) (N2 : Y k1) : Y k1 := fun x1 x4 x12 x13 H =>
  newK H [(Value.int .i64 x13), (Value.int .i64 (IntKind.i64.wrap (x13 + (IntKind.i64.wrap (Int.tdiv x1 2)))))] 78 (fun b1 H2 => apK T0 78 H2 x12 (Value.slice (some ⟨b1, 0, none⟩) 1 (1 + 1)) (fun v3 H4 => B3 P N2 x1 x4 v3 x13 H4))
theorem q4 P N2 : Q o4 (E k1 (B3 P N2)) k1 (B4 P N2) := fun _ _ _ _ _ _ => by kernel_rfl
def o5 := O 7826
def B5 (P : PT) (N2 : Y k1) : Y k1 := fun x1 x4 x12 x13 H =>
  pif (decide ((x13 : Int) < (IntKind.i64.wrap (Int.tdiv x1 2)))) (B4 P N2 x1 x4 x12 x13 H) (B3 P N2 x1 x4 x12 x13 H)
theorem q5 P N2 : Q o5 (cnd 74 (E k1 (B4 P N2)) (E k1 (B3 P N2))) k1 (B5 P N2) := fun _ _ _ _ _ _ => by kernel_rfl
def o6 := O 3912
def B6 (P : PT) (N2 : Y k1) : Y k1 := fun x1 x4 x12 x13 H =>
  nzK x1 (newK H [(Value.int .i64 x13), (Value.int .i64 (Int.tmod (IntKind.i64.wrap (x13 + 1)) x1))] 78 (fun b1 H2 => apK T0 78 H2 x12 (Value.slice (some ⟨b1, 0, none⟩) 1 (1 + 1)) (fun v3 H4 => B5 P N2 x1 x4 v3 x13 H4)))
theorem q6 P N2 : Q o6 (E k1 (B5 P N2)) k1 (B6 P N2) := fun _ _ _ _ _ _ => by kernel_rfl
def o7 := O 976
def B7 (P : PT) (N2 : Y k1) : Y k1 := fun x1 x4 x12 x13 H =>
  pif (decide ((x13 : Int) < x1)) (B6 P N2 x1 x4 x12 x13 H) (B1 P x1 x4 x12 H)
theorem q7 P N2 : Q o7 (cnd 59 (E k1 (B6 P N2)) (E k0 (B1 P))) k1 (B7 P N2) := fun _ _ _ _ _ _ => by kernel_rfl
def L2 (P : PT) : Y k1 := fun x1 x4 x12 x13 H =>
  ∃ (I : Y k1) (μ : NTy k1 (AHeap → Nat)), I x1 x4 x12 x13 H ∧ ∀ y1 y4 y12 y13 G, I y1 y4 y12 y13 G → B7 P (fun z1 z4 z12 z13 G' => I z1 z4 z12 z13 G' ∧ μ z1 z4 z12 z13 G' < μ y1 y4 y12 y13 G) y1 y4 y12 y13 G
theorem l2 P : LQ k1 (L2 P) (B7 P) := fun ⟨_,_,_,_,_⟩ _ ⟨I, μ, h0, hI⟩ => ⟨apT _ I, apT _ μ, h0, fun ⟨_,_,_,_,_⟩ _ h => hI _ _ _ _ _  h⟩
def o8 := O 60
def B8 (P : PT) : Y k0 := fun x1 x4 x12 H =>
  L2 P x1 x4 x12 0 H
theorem q8 P : Q o8 (E k1 (L2 P)) k0 (B8 P) := fun _ _ _ _ _ => by kernel_rfl
abbrev k2 : Sk := [(1,J),(4,.x)]
def o9 := O 14
def B9 (P : PT) : Y k2 := fun x1 x4 H =>
  newK H [] 78 (fun b1 H2 => B8 P x1 x4 (Value.slice (some ⟨b1, 0, none⟩) 0 (0 + 1)) H2)
theorem q9 P : Q o9 (E k0 (B8 P)) k2 (B9 P) := fun _ _ _ _ => by kernel_rfl
abbrev k3 : Sk := [(0,.v),(1,J),(4,.x),(5,J)]
def o11 := O 211
def B11 (P : PT) (N10 : Y k3) : Y k3 := fun x0 x1 x4 x5 H =>
  N10 x0 x1 x4 (IntKind.i64.wrap (x5 + 1)) H
theorem q11 P N10 : Q o11 (E k3 N10) k3 (B11 P N10) := fun _ _ _ _ _ _ => by kernel_rfl
abbrev k4 : Sk := [(1,J),(4,.x),(7,.v)]
def o12 := O 13468
def B12 (P : PT) (N10 : Y k3) : Y k4 := fun x1 x4 x7 H =>
  AC Tryz.prog T0 141 [(Value.int .i64 x1), x7] H (fun v1 H2 => agg2 v1 (fun v3 v4 => asI .i64 v3 (fun v5 => stK H2 x4 0 [(Value.int .i64 v5), v4] (fun H7 => ldI .i64 H7 x4 0 (fun v8 => ld1 H7 x4 1 (fun v9 => P (Value.agg ⟨[(Value.int .i64 v8), v9]⟩) H7))))))
theorem q12 P N10 : Q o12 (ret P) k4 (B12 P N10) := fun _ _ _ _ _ => by kernel_rfl
abbrev k5 : Sk := [(0,.v),(1,J),(4,.x),(5,J),(7,.v),(8,.b)]
def o13 := O 3366
def B13 (P : PT) (N10 : Y k3) : Y k5 := fun x0 x1 x4 x5 x7 x8 H =>
  pif x8 (B12 P N10 x1 x4 x7 H) (B11 P N10 x0 x1 x4 x5 H)
theorem q13 P N10 : Q o13 (cnd 52 (E k4 (B12 P N10)) (E k3 (B11 P N10))) k5 (B13 P N10) := fun _ _ _ _ _ _ _ _ => by kernel_rfl
abbrev k6 : Sk := [(0,.v),(1,J),(4,.x),(5,J),(6,.v),(7,.v),(8,.b),(9,J)]
def o15 := O 53843
def B15 (P : PT) (N10 : Y k3) (N14 : Y k6) : Y k6 := fun x0 x1 x4 x5 x6 x7 x8 x9 H =>
  N14 x0 x1 x4 x5 x6 x7 x8 (IntKind.i64.wrap (x9 + 2)) H
theorem q15 P N10 N14 : Q o15 (E k6 N14) k6 (B15 P N10 N14) := fun _ _ _ _ _ _ _ _ _ _ => by kernel_rfl
abbrev k7 : Sk := [(0,.v),(1,J),(4,.x),(5,J),(6,.v),(7,.v),(8,.b),(9,J),(10,J),(11,J)]
def o16 := O 430739
def B16 (P : PT) (N10 : Y k3) (N14 : Y k6) : Y k7 := fun x0 x1 x4 x5 x6 x7 x8 x9 x10 x11 H =>
  pif x8 (B15 P N10 N14 x0 x1 x4 x5 x6 x7 ((x10 : Int) != x11) x9 H) (B15 P N10 N14 x0 x1 x4 x5 x6 x7 false x9 H)
theorem q16 P N10 N14 : Q o16 (E k6 (B15 P N10 N14)) k7 (B16 P N10 N14) := fun _ _ _ _ _ _ _ _ _ _ _ _ => by kernel_rfl
def o17 := O 430738
def B17 (P : PT) (N10 : Y k3) (N14 : Y k6) : Y k7 := fun x0 x1 x4 x5 x6 x7 x8 x9 x10 x11 H =>
  newK H [(Value.int .i64 x10), (Value.int .i64 x11)] 78 (fun b1 H2 => apK T0 78 H2 x7 (Value.slice (some ⟨b1, 0, none⟩) 1 (1 + 1)) (fun v3 H4 => B16 P N10 N14 x0 x1 x4 x5 x6 v3 x8 x9 x10 x11 H4))
theorem q17 P N10 N14 : Q o17 (E k7 (B16 P N10 N14)) k7 (B17 P N10 N14) := fun _ _ _ _ _ _ _ _ _ _ _ _ => by kernel_rfl
def o18 := O 215368
def B18 (P : PT) (N10 : Y k3) (N14 : Y k6) : Y k6 := fun x0 x1 x4 x5 x6 x7 x8 x9 H =>
  idxK x6 x9 1 (fun b1 o2 => ldI .i64 H b1 o2 (fun v3 => idxK x6 (IntKind.i64.wrap (x9 + 1)) 1 (fun b4 o5 => ldI .i64 H b4 o5 (fun v6 => B17 P N10 N14 x0 x1 x4 x5 x6 x7 x8 x9 (IntKind.i64.wrap (Int.tdiv v3 3)) (IntKind.i64.wrap (Int.tdiv v6 3)) H))))
theorem q18 (P : PT) (N10 : Y k3) (N14 : Y k6) : QD Tryz.prog T0 87 o18 [(0, false), (1, false), (2, false), (3, false), (4, false), (5, false), (6, false), (7, false), (8, false), (9, false), (10, false), (11, false), (12, false)] (En 87 k7 (B17 P N10 N14)) k6 (B18 P N10 N14) := fun _ _ _ _ _ _ _ _ _ _  => by kernel_rfl
def o19 := O 53840
def B19 (P : PT) (N10 : Y k3) (N14 : Y k6) : Y k6 := fun x0 x1 x4 x5 x6 x7 x8 x9 H =>
  lenK x6 (fun n1 => pif (decide ((x9 : Int) < (n1 : Int))) (B18 P N10 N14 x0 x1 x4 x5 x6 x7 x8 x9 H) (B13 P N10 x0 x1 x4 x5 x7 x8 H))
theorem q19 P N10 N14 : Q o19 (cnd 26 (E k6 (B18 P N10 N14)) (E k5 (B13 P N10))) k6 (B19 P N10 N14) := fun _ _ _ _ _ _ _ _ _ _ => by kernel_rfl
def L14 (P : PT) (N10 : Y k3) : Y k6 := fun x0 x1 x4 x5 x6 x7 x8 x9 H =>
  ∃ (I : Y k6) (μ : NTy k6 (AHeap → Nat)), I x0 x1 x4 x5 x6 x7 x8 x9 H ∧ ∀ y0 y1 y4 y5 y6 y7 y8 y9 G, I y0 y1 y4 y5 y6 y7 y8 y9 G → B19 P N10 (fun z0 z1 z4 z5 z6 z7 z8 z9 G' => I z0 z1 z4 z5 z6 z7 z8 z9 G' ∧ μ z0 z1 z4 z5 z6 z7 z8 z9 G' < μ y0 y1 y4 y5 y6 y7 y8 y9 G) y0 y1 y4 y5 y6 y7 y8 y9 G
theorem l14 P N10 : LQ k6 (L14 P N10) (B19 P N10) := fun ⟨_,_,_,_,_,_,_,_,_⟩ _ ⟨I, μ, h0, hI⟩ => ⟨apT _ I, apT _ μ, h0, fun ⟨_,_,_,_,_,_,_,_,_⟩ _ h => hI _ _ _ _ _ _ _ _ _  h⟩
abbrev k8 : Sk := [(0,.v),(1,J),(4,.x),(5,J),(6,.v),(7,.v),(8,.b)]
def o20 := O 3364
def B20 (P : PT) (N10 : Y k3) : Y k8 := fun x0 x1 x4 x5 x6 x7 x8 H =>
  L14 P N10 x0 x1 x4 x5 x6 x7 x8 0 H
theorem q20 P N10 : Q o20 (E k6 (L14 P N10)) k8 (B20 P N10) := fun _ _ _ _ _ _ _ _ _ => by kernel_rfl
def o21 := O 840
def B21 (P : PT) (N10 : Y k3) : Y k3 := fun x0 x1 x4 x5 H =>
  AC Tryz.prog T0 70 [x0, (Value.int .i64 (IntKind.i64.wrap (3 * x1)))] H (fun v1 H2 => newK H2 [] 78 (fun b4 H5 => B20 P N10 x0 x1 x4 x5 v1 (Value.slice (some ⟨b4, 0, none⟩) 0 (0 + 1)) true H5))
theorem q21 P N10 : Q o21 (E k8 (B20 P N10)) k3 (B21 P N10) := fun _ _ _ _ _ _ => by kernel_rfl
def o22 := O 208
def B22 (P : PT) (N10 : Y k3) : Y k3 := fun x0 x1 x4 x5 H =>
  pif (decide ((x5 : Int) < 20)) (B21 P N10 x0 x1 x4 x5 H) (B9 P x1 x4 H)
theorem q22 P N10 : Q o22 (cnd 15 (E k3 (B21 P N10)) (E k2 (B9 P))) k3 (B22 P N10) := fun _ _ _ _ _ _ => by kernel_rfl
def L10 (P : PT) : Y k3 := fun x0 x1 x4 x5 H =>
  ∃ (I : Y k3) (μ : NTy k3 (AHeap → Nat)), I x0 x1 x4 x5 H ∧ ∀ y0 y1 y4 y5 G, I y0 y1 y4 y5 G → B22 P (fun z0 z1 z4 z5 G' => I z0 z1 z4 z5 G' ∧ μ z0 z1 z4 z5 G' < μ y0 y1 y4 y5 G) y0 y1 y4 y5 G
theorem l10 P : LQ k3 (L10 P) (B22 P) := fun ⟨_,_,_,_,_⟩ _ ⟨I, μ, h0, hI⟩ => ⟨apT _ I, apT _ μ, h0, fun ⟨_,_,_,_,_⟩ _ h => hI _ _ _ _ _  h⟩
abbrev k9 : Sk := [(0,.v),(1,J),(4,.x)]
def o23 := O 12
def B23 (P : PT) : Y k9 := fun x0 x1 x4 H =>
  L10 P x0 x1 x4 0 H
theorem q23 P : Q o23 (E k3 (L10 P)) k9 (B23 P) := fun _ _ _ _ _ => by kernel_rfl
abbrev k10 : Sk := [(0,.v),(1,J)]
def o24 := O 2
def B24 (P : PT) : Y k10 := fun x0 x1 H =>
  newK H [(Value.int .i64 0), (Value.slice none 0 0)] 26 (fun b1 H2 => B23 P x0 x1 b1 H2)
theorem q24 P : Q o24 (E k9 (B23 P)) k10 (B24 P) := fun _ _ _ _ => by kernel_rfl
def code : Code := (.seq (R 0 o24) (.seq (.seq (R 1 o23) (.block 0 (.loop (.seq (.seq (R 2 o22) (.cond (.tmp 15) .skip (.exit 0))) (.seq (.block 1 (.seq (R 4 o21) (.seq (.seq (R 5 o20) (.block 2 (.loop (.seq (.seq (R 6 o19) (.cond (.tmp 26) .skip (.exit 2))) (.seq (.block 3 (.seq (.region 8 ⟨o18⟩ true) (.seq (R 9 o17) (R 10 o16)))) (R 7 o15)))))) (.seq (R 11 o13) (.cond (.tmp 52) (.seq (R 12 o12) .ret) .skip))))) (R 3 o11)))))) (.seq (R 13 o9) (.seq (.seq (R 14 o8) (.block 4 (.loop (.seq (.seq (R 15 o7) (.cond (.tmp 59) .skip (.exit 4))) (.seq (.block 5 (.seq (R 17 o6) (.seq (R 18 o5) (.cond (.tmp 74) (R 19 o4) .skip)))) (R 16 o3)))))) (.seq (R 20 o1) .ret)))))
theorem body : Tryz.f150.body = some code := by kernel_rfl
theorem main (P : PT) : ∀ env H, (En 87 k10 (B24 P)) env H → AW Tryz.prog T0 code env H (M (ret P)) :=
  (r_seq (b (q24 P)) (r_seq (r_seq (b (q23 P)) (r_block (rL (l10 P) (fun N10 => (r_seq (r_seq (b (q22 P N10)) (r_cond rfl r_skip (r_exit (fun _ _ h => h)))) (r_seq (r_block (r_seq (b (q21 P N10)) (r_seq (r_seq (b (q20 P N10)) (r_block (rL (l14 P N10) (fun N14 => (r_seq (r_seq (b (q19 P N10 N14)) (r_cond rfl r_skip (r_exit (fun _ _ h => h)))) (r_seq (r_block (r_seq (rD T0_ok mixed [(0, false), (1, false), (2, false), (3, false), (4, false), (5, false), (6, false), (7, false), (8, false), (9, false), (10, false), (11, false), (12, false)] (by kernel_rfl) (q18 P N10 N14)) (r_seq (b (q17 P N10 N14)) (b (q16 P N10 N14))))) (b (q15 P N10 N14)))))))) (r_seq (b (q13 P N10)) (r_cond rfl (r_seq (b (q12 P N10)) r_ret) r_skip))))) (b (q11 P N10)))))))) (r_seq (b (q9 P)) (r_seq (r_seq (b (q8 P)) (r_block (rL (l2 P) (fun N2 => (r_seq (r_seq (b (q7 P N2)) (r_cond rfl r_skip (r_exit (fun _ _ h => h)))) (r_seq (r_block (r_seq (b (q6 P N2)) (r_seq (b (q5 P N2)) (r_cond rfl (b (q4 P N2)) r_skip)))) (b (q3 P N2)))))))) (r_seq (b (q1 P)) r_ret)))))
theorem ac (P : PT) (x0 : Value) (x1 : Int) (H : AHeap) (h : B24 P x0 x1 H) : AC Tryz.prog T0 150 [x0, (Value.int .i64 x1)] H P :=
  r_fn T0_ok (c := code) (n := 87) Tryz.func150 body (by kernel_rfl) (main P) (En_mk (x0, x1, ()) (by kernel_rfl) ⟨by kernel_rfl, by kernel_rfl, trivial⟩ h)

end F150
namespace F152
abbrev E := En 2
abbrev Q := QB Tryz.prog T0 2
def O (k : Nat) := ob Tryz.f152 (pth k)
def ret (P : PT) : EP := retE T0 2 Tryz.f152 P
abbrev k0 : Sk := []
def o1 := O 6
def B1 (P : PT) : Y k0 := fun H =>
  newK H [(Value.string (⟨#[116, 104, 101, 116, 97]⟩)), (Value.string (⟨#[107, 52]⟩)), (Value.string (⟨#[107, 51, 51]⟩)), (Value.string (⟨#[112, 114, 105, 115, 109]⟩)), (Value.string (⟨#[99, 117, 98, 101]⟩)), (Value.string (⟨#[112, 101, 116, 101, 114, 115, 101, 110]⟩)), (Value.string (⟨#[116, 105, 101, 116, 122, 101]⟩)), (Value.string (⟨#[102, 108, 111, 119, 101, 114, 53]⟩)), (Value.string (⟨#[98, 114, 105, 100, 103, 101]⟩))] 9 (fun b1 H2 => P (Value.slice (some ⟨b1, 0, none⟩) 9 (9 + 1)) H2)
theorem q1 P : Q o1 (ret P) k0 (B1 P) := fun _ _ => by kernel_rfl
def o2 := O 2
def B2 (P : PT) : Y k0 := fun H =>
  B1 P H
theorem q2 P : Q o2 (E k0 (B1 P)) k0 (B2 P) := fun _ _ => by kernel_rfl
def code : Code := (.seq (R 0 o2) (.seq (R 1 o1) .ret))
theorem body : Tryz.f152.body = some code := by kernel_rfl
theorem main (P : PT) : ∀ env H, (En 2 k0 (B2 P)) env H → AW Tryz.prog T0 code env H (M (ret P)) :=
  (r_seq (b (q2 P)) (r_seq (b (q1 P)) r_ret))
theorem ac (P : PT) (H : AHeap) (h : B2 P H) : AC Tryz.prog T0 152 [] H P :=
  r_fn T0_ok (c := code) (n := 2) Tryz.func152 body (by kernel_rfl) (main P) (En_mk (()) (by kernel_rfl) trivial h)

end F152
namespace F153
abbrev E := En 47
abbrev Q := QB Tryz.prog T0 47
def O (k : Nat) := ob Tryz.f153 (pth k)
def ret (P : PT) : EP := retE T0 47 Tryz.f153 P
abbrev k0 : Sk := [(2,.x),(3,.x),(4,.x),(5,.v)]
def o1 := O 30
def B1 (P : PT) : Y k0 := fun x2 x3 x4 x5 H =>
  ldI .i64 H x2 0 (fun v1 => ldI .i64 H x3 0 (fun v2 => AC Tryz.prog T0 141 [(Value.int .i64 (IntKind.i64.wrap (v1 + v2))), x5] H (fun v3 H4 => agg2 v3 (fun v5 v6 => asI .i64 v5 (fun v7 => stK H4 x4 0 [(Value.int .i64 v7), v6] (fun H9 => ldI .i64 H9 x4 0 (fun v10 => ld1 H9 x4 1 (fun v11 => P (Value.agg ⟨[(Value.int .i64 v10), v11]⟩) H9))))))))
theorem q1 P : Q o1 (ret P) k0 (B1 P) := fun _ _ _ _ _ _ => by kernel_rfl
abbrev k1 : Sk := [(2,.x),(3,.x),(4,.x),(5,.v),(6,J)]
def o3 := O 467
def B3 (P : PT) (N2 : Y k1) : Y k1 := fun x2 x3 x4 x5 x6 H =>
  N2 x2 x3 x4 x5 (IntKind.i64.wrap (x6 + 1)) H
theorem q3 P N2 : Q o3 (E k1 N2) k1 (B3 P N2) := fun _ _ _ _ _ _ _ => by kernel_rfl
def o4 := O 932
def B4 (P : PT) (N2 : Y k1) : Y k1 := fun x2 x3 x4 x5 x6 H =>
  ld1 H x3 1 (fun v1 => idxK v1 x6 2 (fun b2 o3 => ldI .i64 H b2 o3 (fun v4 => ldI .i64 H x2 0 (fun v5 => ld1 H x3 1 (fun v6 => idxK v6 x6 2 (fun b7 o8 => ldI .i64 H b7 (o8 + 1) (fun v9 => ldI .i64 H x2 0 (fun v10 => newK H [(Value.int .i64 (IntKind.i64.wrap (v4 + v5))), (Value.int .i64 (IntKind.i64.wrap (v9 + v10)))] 78 (fun b11 H12 => apK T0 78 H12 x5 (Value.slice (some ⟨b11, 0, none⟩) 1 (1 + 1)) (fun v13 H14 => B3 P N2 x2 x3 x4 v13 x6 H14))))))))))
theorem q4 (P : PT) (N2 : Y k1) : QD Tryz.prog T0 47 o4 [(0, false), (1, false), (2, false), (3, false), (4, false), (5, false), (6, false), (7, false), (8, false), (9, false), (10, false), (11, false), (12, false), (13, false), (14, false), (15, false), (16, false), (17, false), (18, false), (19, false), (20, false), (21, false), (22, false)] (En 47 k1 (B3 P N2)) k1 (B4 P N2) := fun _ _ _ _ _ _ _  => by kernel_rfl
def o5 := O 464
def B5 (P : PT) (N2 : Y k1) : Y k1 := fun x2 x3 x4 x5 x6 H =>
  ld1 H x3 1 (fun v1 => lenK v1 (fun n2 => pif (decide ((x6 : Int) < (n2 : Int))) (B4 P N2 x2 x3 x4 x5 x6 H) (B1 P x2 x3 x4 x5 H)))
theorem q5 P N2 : Q o5 (cnd 15 (E k1 (B4 P N2)) (E k0 (B1 P))) k1 (B5 P N2) := fun _ _ _ _ _ _ _ => by kernel_rfl
def L2 (P : PT) : Y k1 := fun x2 x3 x4 x5 x6 H =>
  ∃ (I : Y k1) (μ : NTy k1 (AHeap → Nat)), I x2 x3 x4 x5 x6 H ∧ ∀ y2 y3 y4 y5 y6 G, I y2 y3 y4 y5 y6 G → B5 P (fun z2 z3 z4 z5 z6 G' => I z2 z3 z4 z5 z6 G' ∧ μ z2 z3 z4 z5 z6 G' < μ y2 y3 y4 y5 y6 G) y2 y3 y4 y5 y6 G
theorem l2 P : LQ k1 (L2 P) (B5 P) := fun ⟨_,_,_,_,_,_⟩ _ ⟨I, μ, h0, hI⟩ => ⟨apT _ I, apT _ μ, h0, fun ⟨_,_,_,_,_,_⟩ _ h => hI _ _ _ _ _ _  h⟩
def o6 := O 28
def B6 (P : PT) : Y k0 := fun x2 x3 x4 x5 H =>
  L2 P x2 x3 x4 x5 0 H
theorem q6 P : Q o6 (E k1 (L2 P)) k0 (B6 P) := fun _ _ _ _ _ _ => by kernel_rfl
abbrev k2 : Sk := [(2,.x),(3,.x),(4,.x)]
def o7 := O 6
def B7 (P : PT) : Y k2 := fun x2 x3 x4 H =>
  newK H [] 78 (fun b1 H2 => ld1 H2 x2 1 (fun v3 => apK T0 78 H2 (Value.slice (some ⟨b1, 0, none⟩) 0 (0 + 1)) v3 (fun v4 H5 => B6 P x2 x3 x4 v4 H5)))
theorem q7 P : Q o7 (E k0 (B6 P)) k2 (B7 P) := fun _ _ _ _ _ => by kernel_rfl
abbrev k3 : Sk := [(0,.g [.i,.v]),(1,.g [.i,.v])]
def o8 := O 2
def B8 (P : PT) : Y k3 := fun x0a x0b x1a x1b H =>
  newK H [(Value.int .i64 x0a), x0b] 26 (fun b1 H2 => newK H2 [(Value.int .i64 x1a), x1b] 26 (fun b3 H4 => newK H4 [(Value.int .i64 0), (Value.slice none 0 0)] 26 (fun b5 H6 => B7 P b1 b3 b5 H6)))
theorem q8 P : Q o8 (E k2 (B7 P)) k3 (B8 P) := fun _ _ _ _ _ _ => by kernel_rfl
def code : Code := (.seq (R 0 o8) (.seq (R 1 o7) (.seq (.seq (R 2 o6) (.block 0 (.loop (.seq (.seq (R 3 o5) (.cond (.tmp 15) .skip (.exit 0))) (.seq (.block 1 (.region 5 ⟨o4⟩ true)) (R 4 o3)))))) (.seq (R 6 o1) .ret))))
theorem body : Tryz.f153.body = some code := by kernel_rfl
theorem main (P : PT) : ∀ env H, (En 47 k3 (B8 P)) env H → AW Tryz.prog T0 code env H (M (ret P)) :=
  (r_seq (b (q8 P)) (r_seq (b (q7 P)) (r_seq (r_seq (b (q6 P)) (r_block (rL (l2 P) (fun N2 => (r_seq (r_seq (b (q5 P N2)) (r_cond rfl r_skip (r_exit (fun _ _ h => h)))) (r_seq (r_block (rD T0_ok mixed [(0, false), (1, false), (2, false), (3, false), (4, false), (5, false), (6, false), (7, false), (8, false), (9, false), (10, false), (11, false), (12, false), (13, false), (14, false), (15, false), (16, false), (17, false), (18, false), (19, false), (20, false), (21, false), (22, false)] (by kernel_rfl) (q4 P N2))) (b (q3 P N2)))))))) (r_seq (b (q1 P)) r_ret))))
theorem ac (P : PT) (x0a : Int) (x0b : Value) (x1a : Int) (x1b : Value) (H : AHeap) (h : B8 P x0a x0b x1a x1b H) : AC Tryz.prog T0 153 [(Value.agg ⟨[(Value.int .i64 x0a), x0b]⟩), (Value.agg ⟨[(Value.int .i64 x1a), x1b]⟩)] H P :=
  r_fn T0_ok (c := code) (n := 47) Tryz.func153 body (by kernel_rfl) (main P) (En_mk (x0a, x0b, x1a, x1b, ()) (by kernel_rfl) ⟨by kernel_rfl, by kernel_rfl, trivial⟩ h)

end F153
namespace F155
abbrev E := En 72
abbrev Q := QB Tryz.prog T0 72
def O (k : Nat) := ob Tryz.f155 (pth k)
def ret (P : PT) : EP := retE T0 72 Tryz.f155 P
abbrev k0 : Sk := [(7,.v)]
def o1 := O 62
def B1 (P : PT) : Y k0 := fun x7 H =>
  P x7 H
theorem q1 P : Q o1 (ret P) k0 (B1 P) := fun _ _ _ => by kernel_rfl
abbrev k1 : Sk := [(2,.i .u64),(3,.x),(7,.v),(8,.v)]
def o3 := O 979
def B3 (P : PT) (N2 : Y k1) : Y k1 := fun x2 x3 x7 x8 H =>
  sliceK H 2 x8 (some (Value.int .i64 1)) none 1 (fun v1 => N2 x2 x3 x7 v1 H)
theorem q3 P N2 : Q o3 (E k1 N2) k1 (B3 P N2) := fun _ _ _ _ _ _ => by kernel_rfl
abbrev k2 : Sk := [(2,.i .u64),(3,.x),(7,.v),(8,.v),(30,.v),(31,J),(32,J)]
def o5 := O 125223
def B5 (P : PT) (N2 : Y k1) (N4 : Y k2) : Y k2 := fun x2 x3 x7 x8 x30 x31 x32 H =>
  N4 x2 x3 x7 x8 x30 x31 (IntKind.i64.wrap (x32 + 1)) H
theorem q5 P N2 N4 : Q o5 (E k2 N4) k2 (B5 P N2 N4) := fun _ _ _ _ _ _ _ _ _ => by kernel_rfl
abbrev k3 : Sk := [(2,.i .u64),(3,.x),(7,.v),(8,.v),(11,J),(30,.v),(31,J),(32,J)]
def o6 := O 8014237
def B6 (P : PT) (N2 : Y k1) (N4 : Y k2) : Y k3 := fun x2 x3 x7 x8 x11 x30 x31 x32 H =>
  newK H [(Value.int .i64 x11)] 2 (fun b1 H2 => apK T0 2 H2 x8 (Value.slice (some ⟨b1, 0, none⟩) 1 (1 + 1)) (fun v3 H4 => B5 P N2 N4 x2 x3 x7 v3 x30 x31 x32 H4))
theorem q6 P N2 N4 : Q o6 (E k2 (B5 P N2 N4)) k3 (B6 P N2 N4) := fun _ _ _ _ _ _ _ _ _ _ => by kernel_rfl
def o7 := O 8014236
def B7 (P : PT) (N2 : Y k1) (N4 : Y k2) : Y k3 := fun x2 x3 x7 x8 x11 x30 x31 x32 H =>
  idxK x8 0 1 (fun b1 o2 => ldI .i64 H b1 o2 (fun v3 => idxK x7 v3 1 (fun b4 o5 => ldI .i64 H b4 o5 (fun v6 => idxK x7 x11 1 (fun b7 o8 => stK H b7 o8 [(Value.int .i64 (IntKind.i64.wrap (v6 + 1)))] (fun H9 => B6 P N2 N4 x2 x3 x7 x8 x11 x30 x31 x32 H9))))))
theorem q7 P N2 N4 : Q o7 (E k3 (B6 P N2 N4)) k3 (B7 P N2 N4) := fun _ _ _ _ _ _ _ _ _ _ => by kernel_rfl
abbrev k4 : Sk := [(2,.i .u64),(3,.x),(7,.v),(8,.v),(10,J),(11,J),(30,.v),(31,J),(32,J)]
def o8 := O 2003558
def B8 (P : PT) (N2 : Y k1) (N4 : Y k2) : Y k4 := fun x2 x3 x7 x8 x10 x11 x30 x31 x32 H =>
  idxK x7 x11 1 (fun b1 o2 => ldI .i64 H b1 o2 (fun v3 => pif (decide ((v3 : Int) < 0)) (AC Tryz.prog T0 134 [(Value.int .u64 x2), (Value.int .i64 x10)] H (fun v4 H5 => asB v4 (fun v6 => pif (!v6) (B7 P N2 N4 x2 x3 x7 x8 x11 x30 x31 x32 H5) (B5 P N2 N4 x2 x3 x7 x8 x30 x31 x32 H5)))) (B5 P N2 N4 x2 x3 x7 x8 x30 x31 x32 H)))
theorem q8 P N2 N4 : Q o8 (cnd 55 (E k3 (B7 P N2 N4)) (E k2 (B5 P N2 N4))) k4 (B8 P N2 N4) := fun _ _ _ _ _ _ _ _ _ _ _ => by kernel_rfl
abbrev k5 : Sk := [(2,.i .u64),(3,.x),(7,.v),(8,.v),(10,J),(30,.v),(31,J),(32,J)]
def o9 := O 1001778
def B9 (P : PT) (N2 : Y k1) (N4 : Y k2) : Y k5 := fun x2 x3 x7 x8 x10 x30 x31 x32 H =>
  ld1 H x3 1 (fun v1 => idxK v1 x10 2 (fun b2 o3 => ldI .i64 H b2 o3 (fun v4 => ldI .i64 H b2 (o3 + 1) (fun v5 => idxK x8 0 1 (fun b6 o7 => ldI .i64 H b6 o7 (fun v8 => AC Tryz.prog T0 193 [(Value.agg ⟨[(Value.int .i64 v4), (Value.int .i64 v5)]⟩), (Value.int .i64 v8)] H (fun v9 H10 => asI .i64 v9 (fun v11 => B8 P N2 N4 x2 x3 x7 x8 x10 v11 x30 x31 x32 H10))))))))
theorem q9 (P : PT) (N2 : Y k1) (N4 : Y k2) : QD Tryz.prog T0 72 o9 [(0, false), (1, false), (2, false), (3, false), (4, false), (5, false), (6, false), (7, false), (8, false), (9, false)] (En 72 k4 (B8 P N2 N4)) k5 (B9 P N2 N4) := fun _ _ _ _ _ _ _ _ _ _  => by kernel_rfl
def o10 := O 500888
def B10 (P : PT) (N2 : Y k1) (N4 : Y k2) : Y k2 := fun x2 x3 x7 x8 x30 x31 x32 H =>
  idxK x30 x32 1 (fun b1 o2 => ldI .i64 H b1 o2 (fun v3 => B9 P N2 N4 x2 x3 x7 x8 v3 x30 x31 x32 H))
theorem q10 P N2 N4 : Q o10 (E k5 (B9 P N2 N4)) k2 (B10 P N2 N4) := fun _ _ _ _ _ _ _ _ _ => by kernel_rfl
def o11 := O 31304
def B11 (P : PT) (N2 : Y k1) (N4 : Y k2) : Y k2 := fun x2 x3 x7 x8 x30 x31 x32 H =>
  pif (decide ((x32 : Int) < x31)) (B10 P N2 N4 x2 x3 x7 x8 x30 x31 x32 H) (B3 P N2 x2 x3 x7 x8 H)
theorem q11 P N2 N4 : Q o11 (cnd 33 (E k2 (B10 P N2 N4)) (E k1 (B3 P N2))) k2 (B11 P N2 N4) := fun _ _ _ _ _ _ _ _ _ => by kernel_rfl
def L4 (P : PT) (N2 : Y k1) : Y k2 := fun x2 x3 x7 x8 x30 x31 x32 H =>
  ∃ (I : Y k2) (μ : NTy k2 (AHeap → Nat)), I x2 x3 x7 x8 x30 x31 x32 H ∧ ∀ y2 y3 y7 y8 y30 y31 y32 G, I y2 y3 y7 y8 y30 y31 y32 G → B11 P N2 (fun z2 z3 z7 z8 z30 z31 z32 G' => I z2 z3 z7 z8 z30 z31 z32 G' ∧ μ z2 z3 z7 z8 z30 z31 z32 G' < μ y2 y3 y7 y8 y30 y31 y32 G) y2 y3 y7 y8 y30 y31 y32 G
theorem l4 P N2 : LQ k2 (L4 P N2) (B11 P N2) := fun ⟨_,_,_,_,_,_,_,_⟩ _ ⟨I, μ, h0, hI⟩ => ⟨apT _ I, apT _ μ, h0, fun ⟨_,_,_,_,_,_,_,_⟩ _ h => hI _ _ _ _ _ _ _ _  h⟩
def o12 := O 3912
def B12 (P : PT) (N2 : Y k1) : Y k1 := fun x2 x3 x7 x8 H =>
  ldI .i64 H x3 0 (fun v1 => ld1 H x3 1 (fun v2 => idxK x8 0 1 (fun b3 o4 => ldI .i64 H b3 o4 (fun v5 => AC Tryz.prog T0 161 [(Value.agg ⟨[(Value.int .i64 v1), v2]⟩), (Value.int .i64 v5)] H (fun v6 H7 => lenK v6 (fun n9 => L4 P N2 x2 x3 x7 x8 v6 (n9 : Int) 0 H7))))))
theorem q12 (P : PT) (N2 : Y k1) : QD Tryz.prog T0 72 o12 [(0, false), (1, false), (2, false), (3, false), (6, false), (4, false), (5, false)] (En 72 k2 (L4 P N2)) k1 (B12 P N2) := fun _ _ _ _ _ _  => by kernel_rfl
def o13 := O 976
def B13 (P : PT) (N2 : Y k1) : Y k1 := fun x2 x3 x7 x8 H =>
  lenK x8 (fun n1 => pif (decide (((n1 : Int) : Int) > 0)) (B12 P N2 x2 x3 x7 x8 H) (B1 P x7 H))
theorem q13 P N2 : Q o13 (cnd 23 (E k1 (B12 P N2)) (E k0 (B1 P))) k1 (B13 P N2) := fun _ _ _ _ _ _ => by kernel_rfl
def L2 (P : PT) : Y k1 := fun x2 x3 x7 x8 H =>
  ∃ (I : Y k1) (μ : NTy k1 (AHeap → Nat)), I x2 x3 x7 x8 H ∧ ∀ y2 y3 y7 y8 G, I y2 y3 y7 y8 G → B13 P (fun z2 z3 z7 z8 G' => I z2 z3 z7 z8 G' ∧ μ z2 z3 z7 z8 G' < μ y2 y3 y7 y8 G) y2 y3 y7 y8 G
theorem l2 P : LQ k1 (L2 P) (B13 P) := fun ⟨_,_,_,_,_⟩ _ ⟨I, μ, h0, hI⟩ => ⟨apT _ I, apT _ μ, h0, fun ⟨_,_,_,_,_⟩ _ h => hI _ _ _ _ _  h⟩
abbrev k6 : Sk := [(1,J),(2,.i .u64),(3,.x),(7,.v)]
def o14 := O 60
def B14 (P : PT) : Y k6 := fun x1 x2 x3 x7 H =>
  newK H [(Value.int .i64 x1)] 2 (fun b1 H2 => L2 P x2 x3 x7 (Value.slice (some ⟨b1, 0, none⟩) 1 (1 + 1)) H2)
theorem q14 P : Q o14 (E k1 (L2 P)) k6 (B14 P) := fun _ _ _ _ _ _ => by kernel_rfl
def o15 := O 14
def B15 (P : PT) : Y k6 := fun x1 x2 x3 x7 H =>
  idxK x7 x1 1 (fun b1 o2 => stK H b1 o2 [(Value.int .i64 0)] (fun H3 => B14 P x1 x2 x3 x7 H3))
theorem q15 P : Q o15 (E k6 (B14 P)) k6 (B15 P) := fun _ _ _ _ _ _ => by kernel_rfl
abbrev k7 : Sk := [(1,J),(2,.i .u64),(3,.x)]
def o16 := O 6
def B16 (P : PT) : Y k7 := fun x1 x2 x3 H =>
  newK H [(Value.int .i64 (-1))] 2 (fun b1 H2 => ldI .i64 H2 x3 0 (fun v3 => AC Tryz.prog T0 192 [(Value.slice (some ⟨b1, 0, none⟩) 1 (1 + 1)), (Value.int .i64 v3)] H2 (fun v4 H5 => B15 P x1 x2 x3 v4 H5)))
theorem q16 P : Q o16 (E k6 (B15 P)) k7 (B16 P) := fun _ _ _ _ _ => by kernel_rfl
abbrev k8 : Sk := [(0,.g [.i,.v]),(1,J),(2,.i .u64)]
def o17 := O 2
def B17 (P : PT) : Y k8 := fun x0a x0b x1 x2 H =>
  newK H [(Value.int .i64 x0a), x0b] 26 (fun b1 H2 => B16 P x1 x2 b1 H2)
theorem q17 P : Q o17 (E k7 (B16 P)) k8 (B17 P) := fun _ _ _ _ _ _ => by kernel_rfl
def code : Code := (.seq (R 0 o17) (.seq (R 1 o16) (.seq (R 2 o15) (.seq (.seq (R 3 o14) (.block 0 (.loop (.seq (.seq (R 4 o13) (.cond (.tmp 23) .skip (.exit 0))) (.seq (.block 1 (.seq (.region 6 ⟨o12⟩ true) (.block 2 (.loop (.seq (R 7 o11) (.seq (.cond (.tmp 33) .skip (.exit 2)) (.seq (.block 3 (.seq (R 8 o10) (.seq (.region 9 ⟨o9⟩ true) (.seq (R 10 o8) (.cond (.tmp 55) (.seq (R 11 o7) (R 12 o6)) .skip))))) (R 13 o5)))))))) (R 5 o3)))))) (.seq (R 14 o1) .ret)))))
theorem body : Tryz.f155.body = some code := by kernel_rfl
theorem main (P : PT) : ∀ env H, (En 72 k8 (B17 P)) env H → AW Tryz.prog T0 code env H (M (ret P)) :=
  (r_seq (b (q17 P)) (r_seq (b (q16 P)) (r_seq (b (q15 P)) (r_seq (r_seq (b (q14 P)) (r_block (rL (l2 P) (fun N2 => (r_seq (r_seq (b (q13 P N2)) (r_cond rfl r_skip (r_exit (fun _ _ h => h)))) (r_seq (r_block (r_seq (rD T0_ok mixed [(0, false), (1, false), (2, false), (3, false), (6, false), (4, false), (5, false)] (by kernel_rfl) (q12 P N2)) (r_block (rL (l4 P N2) (fun N4 => (r_seq (b (q11 P N2 N4)) (r_seq (r_cond rfl r_skip (r_exit (fun _ _ h => h))) (r_seq (r_block (r_seq (b (q10 P N2 N4)) (r_seq (rD T0_ok mixed [(0, false), (1, false), (2, false), (3, false), (4, false), (5, false), (6, false), (7, false), (8, false), (9, false)] (by kernel_rfl) (q9 P N2 N4)) (r_seq (b (q8 P N2 N4)) (r_cond rfl (r_seq (b (q7 P N2 N4)) (b (q6 P N2 N4))) r_skip))))) (b (q5 P N2 N4)))))))))) (b (q3 P N2)))))))) (r_seq (b (q1 P)) r_ret)))))
theorem ac (P : PT) (x0a : Int) (x0b : Value) (x1 x2 : Int) (H : AHeap) (h : B17 P x0a x0b x1 x2 H) : AC Tryz.prog T0 155 [(Value.agg ⟨[(Value.int .i64 x0a), x0b]⟩), (Value.int .i64 x1), (Value.int .u64 x2)] H P :=
  r_fn T0_ok (c := code) (n := 72) Tryz.func155 body (by kernel_rfl) (main P) (En_mk (x0a, x0b, x1, x2, ()) (by kernel_rfl) ⟨by kernel_rfl, by kernel_rfl, by kernel_rfl, trivial⟩ h)

end F155
namespace F161
abbrev E := En 25
abbrev Q := QB Tryz.prog T0 25
def O (k : Nat) := ob Tryz.f161 (pth k)
def ret (P : PT) : EP := retE T0 25 Tryz.f161 P
abbrev k0 : Sk := [(5,.v)]
def o1 := O 30
def B1 (P : PT) : Y k0 := fun x5 H =>
  P x5 H
theorem q1 P : Q o1 (ret P) k0 (B1 P) := fun _ _ _ => by kernel_rfl
abbrev k1 : Sk := [(1,J),(5,.v),(9,.v),(10,J),(11,J)]
def o3 := O 935
def B3 (P : PT) (N2 : Y k1) : Y k1 := fun x1 x5 x9 x10 x11 H =>
  N2 x1 x5 x9 x10 (IntKind.i64.wrap (x11 + 1)) H
theorem q3 P N2 : Q o3 (E k1 N2) k1 (B3 P N2) := fun _ _ _ _ _ _ _ => by kernel_rfl
abbrev k2 : Sk := [(1,J),(5,.v),(6,J),(9,.v),(10,J),(11,J)]
def o4 := O 14950
def B4 (P : PT) (N2 : Y k1) : Y k2 := fun x1 x5 x6 x9 x10 x11 H =>
  newK H [(Value.int .i64 x6)] 2 (fun b1 H2 => apK T0 2 H2 x5 (Value.slice (some ⟨b1, 0, none⟩) 1 (1 + 1)) (fun v3 H4 => B3 P N2 x1 v3 x9 x10 x11 H4))
theorem q4 P N2 : Q o4 (E k1 (B3 P N2)) k2 (B4 P N2) := fun _ _ _ _ _ _ _ _ => by kernel_rfl
abbrev k3 : Sk := [(1,J),(5,.v),(6,J),(7,.x),(9,.v),(10,J),(11,J)]
def o5 := O 7474
def B5 (P : PT) (N2 : Y k1) : Y k3 := fun x1 x5 x6 x7 x9 x10 x11 H =>
  ldI .i64 H x7 0 (fun v1 => ldI .i64 H x7 1 (fun v2 => AC Tryz.prog T0 195 [(Value.agg ⟨[(Value.int .i64 v1), (Value.int .i64 v2)]⟩), (Value.int .i64 x1)] H (fun v3 H4 => asB v3 (fun v5 => pif v5 (B4 P N2 x1 x5 x6 x9 x10 x11 H4) (B3 P N2 x1 x5 x9 x10 x11 H4)))))
theorem q5 P N2 : Q o5 (cnd 18 (E k2 (B4 P N2)) (E k1 (B3 P N2))) k3 (B5 P N2) := fun _ _ _ _ _ _ _ _ _ => by kernel_rfl
def o6 := O 3736
def B6 (P : PT) (N2 : Y k1) : Y k1 := fun x1 x5 x9 x10 x11 H =>
  idxK x9 x11 2 (fun b1 o2 => ldI .i64 H b1 o2 (fun v3 => ldI .i64 H b1 (o2 + 1) (fun v4 => newK H [(Value.int .i64 0), (Value.int .i64 0)] 78 (fun b5 H6 => stK H6 b5 0 [(Value.int .i64 v3), (Value.int .i64 v4)] (fun H7 => B5 P N2 x1 x5 x11 b5 x9 x10 x11 H7)))))
theorem q6 P N2 : Q o6 (E k3 (B5 P N2)) k1 (B6 P N2) := fun _ _ _ _ _ _ _ => by kernel_rfl
def o7 := O 232
def B7 (P : PT) (N2 : Y k1) : Y k1 := fun x1 x5 x9 x10 x11 H =>
  pif (decide ((x11 : Int) < x10)) (B6 P N2 x1 x5 x9 x10 x11 H) (B1 P x5 H)
theorem q7 P N2 : Q o7 (cnd 12 (E k1 (B6 P N2)) (E k0 (B1 P))) k1 (B7 P N2) := fun _ _ _ _ _ _ _ => by kernel_rfl
def L2 (P : PT) : Y k1 := fun x1 x5 x9 x10 x11 H =>
  ∃ (I : Y k1) (μ : NTy k1 (AHeap → Nat)), I x1 x5 x9 x10 x11 H ∧ ∀ y1 y5 y9 y10 y11 G, I y1 y5 y9 y10 y11 G → B7 P (fun z1 z5 z9 z10 z11 G' => I z1 z5 z9 z10 z11 G' ∧ μ z1 z5 z9 z10 z11 G' < μ y1 y5 y9 y10 y11 G) y1 y5 y9 y10 y11 G
theorem l2 P : LQ k1 (L2 P) (B7 P) := fun ⟨_,_,_,_,_,_⟩ _ ⟨I, μ, h0, hI⟩ => ⟨apT _ I, apT _ μ, h0, fun ⟨_,_,_,_,_,_⟩ _ h => hI _ _ _ _ _ _  h⟩
abbrev k4 : Sk := [(1,J),(2,.x),(5,.v)]
def o8 := O 28
def B8 (P : PT) : Y k4 := fun x1 x2 x5 H =>
  ld1 H x2 1 (fun v1 => lenK v1 (fun n2 => L2 P x1 x5 v1 (n2 : Int) 0 H))
theorem q8 P : Q o8 (E k1 (L2 P)) k4 (B8 P) := fun _ _ _ _ _ => by kernel_rfl
abbrev k5 : Sk := [(1,J),(2,.x)]
def o9 := O 6
def B9 (P : PT) : Y k5 := fun x1 x2 H =>
  B8 P x1 x2 (Value.slice none 0 0) H
theorem q9 P : Q o9 (E k4 (B8 P)) k5 (B9 P) := fun _ _ _ _ => by kernel_rfl
abbrev k6 : Sk := [(0,.g [.i,.v]),(1,J)]
def o10 := O 2
def B10 (P : PT) : Y k6 := fun x0a x0b x1 H =>
  newK H [(Value.int .i64 x0a), x0b] 26 (fun b1 H2 => B9 P x1 b1 H2)
theorem q10 P : Q o10 (E k5 (B9 P)) k6 (B10 P) := fun _ _ _ _ _ => by kernel_rfl
def code : Code := (.seq (R 0 o10) (.seq (R 1 o9) (.seq (.seq (R 2 o8) (.block 0 (.loop (.seq (R 3 o7) (.seq (.cond (.tmp 12) .skip (.exit 0)) (.seq (.block 1 (.seq (R 4 o6) (.seq (R 5 o5) (.cond (.tmp 18) (R 6 o4) .skip)))) (R 7 o3))))))) (.seq (R 8 o1) .ret))))
theorem body : Tryz.f161.body = some code := by kernel_rfl
theorem main (P : PT) : ∀ env H, (En 25 k6 (B10 P)) env H → AW Tryz.prog T0 code env H (M (ret P)) :=
  (r_seq (b (q10 P)) (r_seq (b (q9 P)) (r_seq (r_seq (b (q8 P)) (r_block (rL (l2 P) (fun N2 => (r_seq (b (q7 P N2)) (r_seq (r_cond rfl r_skip (r_exit (fun _ _ h => h))) (r_seq (r_block (r_seq (b (q6 P N2)) (r_seq (b (q5 P N2)) (r_cond rfl (b (q4 P N2)) r_skip)))) (b (q3 P N2))))))))) (r_seq (b (q1 P)) r_ret))))
theorem ac (P : PT) (x0a : Int) (x0b : Value) (x1 : Int) (H : AHeap) (h : B10 P x0a x0b x1 H) : AC Tryz.prog T0 161 [(Value.agg ⟨[(Value.int .i64 x0a), x0b]⟩), (Value.int .i64 x1)] H P :=
  r_fn T0_ok (c := code) (n := 25) Tryz.func161 body (by kernel_rfl) (main P) (En_mk (x0a, x0b, x1, ()) (by kernel_rfl) ⟨by kernel_rfl, by kernel_rfl, trivial⟩ h)

end F161
namespace F169
abbrev E := En 20
abbrev Q := QB Tryz.prog T0 20
def O (k : Nat) := ob Tryz.f169 (pth k)
def ret (P : PT) : EP := retE T0 20 Tryz.f169 P
abbrev k0 : Sk := []
def o1 := O 510
def B1 (P : PT) : Y k0 := fun H =>
  P (Value.int .i64 0) H
theorem q1 P : Q o1 (ret P) k0 (B1 P) := fun _ _ => by kernel_rfl
def o2 := O 2036
def B2 (P : PT) : Y k0 := fun H =>
  P (Value.int .i64 1) H
theorem q2 P : Q o2 (ret P) k0 (B2 P) := fun _ _ => by kernel_rfl
abbrev k1 : Sk := [(0,J),(1,J)]
def o3 := O 508
def B3 (P : PT) : Y k1 := fun x0 x1 H =>
  pif (decide ((x0 : Int) > x1)) (B2 P H) (B1 P H)
theorem q3 P : Q o3 (cnd 19 (E k0 (B2 P)) (E k0 (B1 P))) k1 (B3 P) := fun _ _ _ _ => by kernel_rfl
def o4 := O 1012
def B4 (P : PT) : Y k0 := fun H =>
  P (Value.int .i64 (-1)) H
theorem q4 P : Q o4 (ret P) k0 (B4 P) := fun _ _ => by kernel_rfl
def o5 := O 252
def B5 (P : PT) : Y k1 := fun x0 x1 H =>
  pif (decide ((x0 : Int) < x1)) (B4 P H) (B3 P x0 x1 H)
theorem q5 P : Q o5 (cnd 16 (E k0 (B4 P)) (E k1 (B3 P))) k1 (B5 P) := fun _ _ _ _ => by kernel_rfl
def o6 := O 500
def B6 (P : PT) : Y k0 := fun H =>
  P (Value.int .i64 1) H
theorem q6 P : Q o6 (ret P) k0 (B6 P) := fun _ _ => by kernel_rfl
abbrev k2 : Sk := [(0,J),(1,J),(6,.b)]
def o7 := O 124
def B7 (P : PT) : Y k2 := fun x0 x1 x6 H =>
  pif x6 (B6 P H) (B5 P x0 x1 H)
theorem q7 P : Q o7 (cnd 13 (E k0 (B6 P)) (E k1 (B5 P))) k2 (B7 P) := fun _ _ _ _ _ => by kernel_rfl
def o8 := O 490
def B8 (P : PT) : Y k0 := fun H =>
  P (Value.int .i64 (-1)) H
theorem q8 P : Q o8 (ret P) k0 (B8 P) := fun _ _ => by kernel_rfl
def o9 := O 1956
def B9 (P : PT) : Y k0 := fun H =>
  P (Value.int .i64 0) H
theorem q9 P : Q o9 (ret P) k0 (B9 P) := fun _ _ => by kernel_rfl
abbrev k3 : Sk := [(6,.b)]
def o10 := O 488
def B10 (P : PT) : Y k3 := fun x6 H =>
  pif x6 (B9 P H) (B8 P H)
theorem q10 P : Q o10 (cnd 12 (E k0 (B9 P)) (E k0 (B8 P))) k3 (B10 P) := fun _ _ _ => by kernel_rfl
abbrev k4 : Sk := [(0,J),(1,J),(5,.b),(6,.b)]
def o11 := O 60
def B11 (P : PT) : Y k4 := fun x0 x1 x5 x6 H =>
  pif x5 (B10 P x6 H) (B7 P x0 x1 x6 H)
theorem q11 P : Q o11 (cnd 11 (E k3 (B10 P)) (E k2 (B7 P))) k4 (B11 P) := fun _ _ _ _ _ _ => by kernel_rfl
abbrev k5 : Sk := [(0,J),(1,J),(5,.b)]
def o12 := O 14
def B12 (P : PT) : Y k5 := fun x0 x1 x5 H =>
  AC Tryz.prog T0 209 [(Value.int .i64 x1)] H (fun v1 H2 => asB v1 (fun v3 => B11 P x0 x1 x5 v3 H2))
theorem q12 P : Q o12 (E k4 (B11 P)) k5 (B12 P) := fun _ _ _ _ _ => by kernel_rfl
def o13 := O 6
def B13 (P : PT) : Y k1 := fun x0 x1 H =>
  AC Tryz.prog T0 209 [(Value.int .i64 x0)] H (fun v1 H2 => asB v1 (fun v3 => B12 P x0 x1 v3 H2))
theorem q13 P : Q o13 (E k5 (B12 P)) k1 (B13 P) := fun _ _ _ _ => by kernel_rfl
def o14 := O 2
def B14 (P : PT) : Y k1 := fun x0 x1 H =>
  B13 P x0 x1 H
theorem q14 P : Q o14 (E k1 (B13 P)) k1 (B14 P) := fun _ _ _ _ => by kernel_rfl
def code : Code := (.seq (R 0 o14) (.seq (R 1 o13) (.seq (R 2 o12) (.seq (.seq (R 3 o11) (.cond (.tmp 11) (.seq (.seq (R 4 o10) (.cond (.tmp 12) (.seq (R 5 o9) .ret) .skip)) (.seq (R 6 o8) .ret)) .skip)) (.seq (.seq (R 7 o7) (.cond (.tmp 13) (.seq (R 8 o6) .ret) .skip)) (.seq (.seq (R 9 o5) (.cond (.tmp 16) (.seq (R 10 o4) .ret) .skip)) (.seq (.seq (R 11 o3) (.cond (.tmp 19) (.seq (R 12 o2) .ret) .skip)) (.seq (R 13 o1) .ret))))))))
theorem body : Tryz.f169.body = some code := by kernel_rfl
theorem main (P : PT) : ∀ env H, (En 20 k1 (B14 P)) env H → AW Tryz.prog T0 code env H (M (ret P)) :=
  (r_seq (b (q14 P)) (r_seq (b (q13 P)) (r_seq (b (q12 P)) (r_seq (r_seq (b (q11 P)) (r_cond rfl (r_seq (r_seq (b (q10 P)) (r_cond rfl (r_seq (b (q9 P)) r_ret) r_skip)) (r_seq (b (q8 P)) r_ret)) r_skip)) (r_seq (r_seq (b (q7 P)) (r_cond rfl (r_seq (b (q6 P)) r_ret) r_skip)) (r_seq (r_seq (b (q5 P)) (r_cond rfl (r_seq (b (q4 P)) r_ret) r_skip)) (r_seq (r_seq (b (q3 P)) (r_cond rfl (r_seq (b (q2 P)) r_ret) r_skip)) (r_seq (b (q1 P)) r_ret))))))))
theorem ac (P : PT) (x0 x1 : Int) (H : AHeap) (h : B14 P x0 x1 H) : AC Tryz.prog T0 169 [(Value.int .i64 x0), (Value.int .i64 x1)] H P :=
  r_fn T0_ok (c := code) (n := 20) Tryz.func169 body (by kernel_rfl) (main P) (En_mk (x0, x1, ()) (by kernel_rfl) ⟨by kernel_rfl, by kernel_rfl, trivial⟩ h)

end F169
namespace F170
abbrev E := En 36
abbrev Q := QB Tryz.prog T0 36
def O (k : Nat) := ob Tryz.f170 (pth k)
def ret (P : PT) : EP := retE T0 36 Tryz.f170 P
abbrev k0 : Sk := []
def o1 := O 30
def B1 (P : PT) : Y k0 := fun H =>
  P (Value.int .i64 0) H
theorem q1 P : Q o1 (ret P) k0 (B1 P) := fun _ _ => by kernel_rfl
def o2 := O 116
def B2 (P : PT) : Y k0 := fun H =>
  P (Value.int .i64 (-1)) H
theorem q2 P : Q o2 (ret P) k0 (B2 P) := fun _ _ => by kernel_rfl
abbrev k1 : Sk := [(0,.v),(1,.v)]
def o3 := O 28
def B3 (P : PT) : Y k1 := fun x0 x1 H =>
  lenK x0 (fun n1 => lenK x1 (fun n2 => pif (decide (((n1 : Int) : Int) < (n2 : Int))) (B2 P H) (B1 P H)))
theorem q3 P : Q o3 (cnd 35 (E k0 (B2 P)) (E k0 (B1 P))) k1 (B3 P) := fun _ _ _ _ => by kernel_rfl
abbrev k2 : Sk := [(0,.v),(1,.v),(9,.v),(10,J),(11,J)]
def o5 := O 423
def B5 (P : PT) (N4 : Y k2) : Y k2 := fun x0 x1 x9 x10 x11 H =>
  N4 x0 x1 x9 x10 (IntKind.i64.wrap (x11 + 1)) H
theorem q5 P N4 : Q o5 (E k2 N4) k2 (B5 P N4) := fun _ _ _ _ _ _ _ => by kernel_rfl
abbrev k3 : Sk := [(8,J)]
def o6 := O 108156
def B6 (P : PT) (N4 : Y k2) : Y k3 := fun x8 H =>
  P (Value.int .i64 x8) H
theorem q6 P N4 : Q o6 (ret P) k3 (B6 P N4) := fun _ _ _ => by kernel_rfl
abbrev k4 : Sk := [(0,.v),(1,.v),(8,J),(9,.v),(10,J),(11,J)]
def o7 := O 27038
def B7 (P : PT) (N4 : Y k2) : Y k4 := fun x0 x1 x8 x9 x10 x11 H =>
  pif ((x8 : Int) != 0) (B6 P N4 x8 H) (B5 P N4 x0 x1 x9 x10 x11 H)
theorem q7 P N4 : Q o7 (cnd 28 (E k3 (B6 P N4)) (E k2 (B5 P N4))) k4 (B7 P N4) := fun _ _ _ _ _ _ _ _ => by kernel_rfl
abbrev k5 : Sk := [(0,.v),(1,.v),(6,J),(7,J),(9,.v),(10,J),(11,J)]
def o8 := O 13518
def B8 (P : PT) (N4 : Y k2) : Y k5 := fun x0 x1 x6 x7 x9 x10 x11 H =>
  AC Tryz.prog T0 169 [(Value.int .i64 x6), (Value.int .i64 x7)] H (fun v1 H2 => asI .i64 v1 (fun v3 => B7 P N4 x0 x1 v3 x9 x10 x11 H2))
theorem q8 P N4 : Q o8 (E k4 (B7 P N4)) k5 (B8 P N4) := fun _ _ _ _ _ _ _ _ _ => by kernel_rfl
abbrev k6 : Sk := [(0,.v),(1,.v),(5,J),(6,J),(9,.v),(10,J),(11,J)]
def o9 := O 6758
def B9 (P : PT) (N4 : Y k2) : Y k6 := fun x0 x1 x5 x6 x9 x10 x11 H =>
  idxK x1 x5 1 (fun b1 o2 => ldI .i64 H b1 o2 (fun v3 => B8 P N4 x0 x1 x6 v3 x9 x10 x11 H))
theorem q9 P N4 : Q o9 (E k5 (B8 P N4)) k6 (B9 P N4) := fun _ _ _ _ _ _ _ _ _ => by kernel_rfl
def o10 := O 27028
def B10 (P : PT) (N4 : Y k2) : Y k0 := fun H =>
  P (Value.int .i64 1) H
theorem q10 P N4 : Q o10 (ret P) k0 (B10 P N4) := fun _ _ => by kernel_rfl
def o11 := O 6756
def B11 (P : PT) (N4 : Y k2) : Y k6 := fun x0 x1 x5 x6 x9 x10 x11 H =>
  lenK x1 (fun n1 => pif (decide ((x5 : Int) ≥ (n1 : Int))) (B10 P N4 H) (B9 P N4 x0 x1 x5 x6 x9 x10 x11 H))
theorem q11 P N4 : Q o11 (cnd 19 (E k0 (B10 P N4)) (E k6 (B9 P N4))) k6 (B11 P N4) := fun _ _ _ _ _ _ _ _ _ => by kernel_rfl
def o12 := O 1688
def B12 (P : PT) (N4 : Y k2) : Y k2 := fun x0 x1 x9 x10 x11 H =>
  idxK x9 x11 1 (fun b1 o2 => ldI .i64 H b1 o2 (fun v3 => B11 P N4 x0 x1 x11 v3 x9 x10 x11 H))
theorem q12 P N4 : Q o12 (E k6 (B11 P N4)) k2 (B12 P N4) := fun _ _ _ _ _ _ _ => by kernel_rfl
def o13 := O 104
def B13 (P : PT) (N4 : Y k2) : Y k2 := fun x0 x1 x9 x10 x11 H =>
  pif (decide ((x11 : Int) < x10)) (B12 P N4 x0 x1 x9 x10 x11 H) (B3 P x0 x1 H)
theorem q13 P N4 : Q o13 (cnd 12 (E k2 (B12 P N4)) (E k1 (B3 P))) k2 (B13 P N4) := fun _ _ _ _ _ _ _ => by kernel_rfl
def L4 (P : PT) : Y k2 := fun x0 x1 x9 x10 x11 H =>
  ∃ (I : Y k2) (μ : NTy k2 (AHeap → Nat)), I x0 x1 x9 x10 x11 H ∧ ∀ y0 y1 y9 y10 y11 G, I y0 y1 y9 y10 y11 G → B13 P (fun z0 z1 z9 z10 z11 G' => I z0 z1 z9 z10 z11 G' ∧ μ z0 z1 z9 z10 z11 G' < μ y0 y1 y9 y10 y11 G) y0 y1 y9 y10 y11 G
theorem l4 P : LQ k2 (L4 P) (B13 P) := fun ⟨_,_,_,_,_,_⟩ _ ⟨I, μ, h0, hI⟩ => ⟨apT _ I, apT _ μ, h0, fun ⟨_,_,_,_,_,_⟩ _ h => hI _ _ _ _ _ _  h⟩
def o14 := O 12
def B14 (P : PT) : Y k1 := fun x0 x1 H =>
  lenK x0 (fun n1 => L4 P x0 x1 x0 (n1 : Int) 0 H)
theorem q14 P : Q o14 (E k2 (L4 P)) k1 (B14 P) := fun _ _ _ _ => by kernel_rfl
def o15 := O 2
def B15 (P : PT) : Y k1 := fun x0 x1 H =>
  B14 P x0 x1 H
theorem q15 P : Q o15 (E k1 (B14 P)) k1 (B15 P) := fun _ _ _ _ => by kernel_rfl
def code : Code := (.seq (R 0 o15) (.seq (.seq (R 1 o14) (.block 0 (.loop (.seq (R 2 o13) (.seq (.cond (.tmp 12) .skip (.exit 0)) (.seq (.block 1 (.seq (R 3 o12) (.seq (.seq (R 4 o11) (.cond (.tmp 19) (.seq (R 5 o10) .ret) .skip)) (.seq (R 6 o9) (.seq (R 7 o8) (.seq (R 8 o7) (.cond (.tmp 28) (.seq (R 9 o6) .ret) .skip))))))) (R 10 o5))))))) (.seq (.seq (R 11 o3) (.cond (.tmp 35) (.seq (R 12 o2) .ret) .skip)) (.seq (R 13 o1) .ret))))
theorem body : Tryz.f170.body = some code := by kernel_rfl
theorem main (P : PT) : ∀ env H, (En 36 k1 (B15 P)) env H → AW Tryz.prog T0 code env H (M (ret P)) :=
  (r_seq (b (q15 P)) (r_seq (r_seq (b (q14 P)) (r_block (rL (l4 P) (fun N4 => (r_seq (b (q13 P N4)) (r_seq (r_cond rfl r_skip (r_exit (fun _ _ h => h))) (r_seq (r_block (r_seq (b (q12 P N4)) (r_seq (r_seq (b (q11 P N4)) (r_cond rfl (r_seq (b (q10 P N4)) r_ret) r_skip)) (r_seq (b (q9 P N4)) (r_seq (b (q8 P N4)) (r_seq (b (q7 P N4)) (r_cond rfl (r_seq (b (q6 P N4)) r_ret) r_skip))))))) (b (q5 P N4))))))))) (r_seq (r_seq (b (q3 P)) (r_cond rfl (r_seq (b (q2 P)) r_ret) r_skip)) (r_seq (b (q1 P)) r_ret))))
theorem ac (P : PT) (x0 x1 : Value) (H : AHeap) (h : B15 P x0 x1 H) : AC Tryz.prog T0 170 [x0, x1] H P :=
  r_fn T0_ok (c := code) (n := 36) Tryz.func170 body (by kernel_rfl) (main P) (En_mk (x0, x1, ()) (by kernel_rfl) ⟨by kernel_rfl, by kernel_rfl, trivial⟩ h)

end F170
namespace F172
abbrev E := En 11
abbrev Q := QB Tryz.prog T0 11
def O (k : Nat) := ob Tryz.f172 (pth k)
def ret (P : PT) : EP := retE T0 11 Tryz.f172 P
abbrev k0 : Sk := [(1,J),(2,.x)]
def o1 := O 6
def B1 (P : PT) : Y k0 := fun x1 x2 H =>
  ld1 H x2 1 (fun v1 => AC Tryz.prog T0 73 [v1] H (fun v2 H3 => asI .i64 v2 (fun v4 => AC Tryz.prog T0 77 [(Value.int .i64 x1), (Value.int .i64 0), (Value.int .i64 (IntKind.i64.wrap (v4 - 1)))] H3 (fun v5 H6 => asB v5 (fun v7 => P (Value.bool v7) H6)))))
theorem q1 P : Q o1 (ret P) k0 (B1 P) := fun _ _ _ _ => by kernel_rfl
abbrev k1 : Sk := [(0,.g [.i,.v]),(1,J)]
def o2 := O 2
def B2 (P : PT) : Y k1 := fun x0a x0b x1 H =>
  newK H [(Value.int .i64 x0a), x0b] 26 (fun b1 H2 => B1 P x1 b1 H2)
theorem q2 P : Q o2 (E k0 (B1 P)) k1 (B2 P) := fun _ _ _ _ _ => by kernel_rfl
def code : Code := (.seq (R 0 o2) (.seq (R 1 o1) .ret))
theorem body : Tryz.f172.body = some code := by kernel_rfl
theorem main (P : PT) : ∀ env H, (En 11 k1 (B2 P)) env H → AW Tryz.prog T0 code env H (M (ret P)) :=
  (r_seq (b (q2 P)) (r_seq (b (q1 P)) r_ret))
theorem ac (P : PT) (x0a : Int) (x0b : Value) (x1 : Int) (H : AHeap) (h : B2 P x0a x0b x1 H) : AC Tryz.prog T0 172 [(Value.agg ⟨[(Value.int .i64 x0a), x0b]⟩), (Value.int .i64 x1)] H P :=
  r_fn T0_ok (c := code) (n := 11) Tryz.func172 body (by kernel_rfl) (main P) (En_mk (x0a, x0b, x1, ()) (by kernel_rfl) ⟨by kernel_rfl, by kernel_rfl, trivial⟩ h)

end F172
namespace F173
abbrev E := En 5
abbrev Q := QB Tryz.prog T0 5
def O (k : Nat) := ob Tryz.f173 (pth k)
def ret (P : PT) : EP := retE T0 5 Tryz.f173 P
abbrev k0 : Sk := [(0,J)]
def o1 := O 6
def B1 (P : PT) : Y k0 := fun x0 H =>
  AC Tryz.prog T0 77 [(Value.int .i64 x0), (Value.int .i64 0), (Value.int .i64 2)] H (fun v1 H2 => asB v1 (fun v3 => P (Value.bool v3) H2))
theorem q1 P : Q o1 (ret P) k0 (B1 P) := fun _ _ _ => by kernel_rfl
def o2 := O 2
def B2 (P : PT) : Y k0 := fun x0 H =>
  B1 P x0 H
theorem q2 P : Q o2 (E k0 (B1 P)) k0 (B2 P) := fun _ _ _ => by kernel_rfl
def code : Code := (.seq (R 0 o2) (.seq (R 1 o1) .ret))
theorem body : Tryz.f173.body = some code := by kernel_rfl
theorem main (P : PT) : ∀ env H, (En 5 k0 (B2 P)) env H → AW Tryz.prog T0 code env H (M (ret P)) :=
  (r_seq (b (q2 P)) (r_seq (b (q1 P)) r_ret))
theorem ac (P : PT) (x0 : Int) (H : AHeap) (h : B2 P x0 H) : AC Tryz.prog T0 173 [(Value.int .i64 x0)] H P :=
  r_fn T0_ok (c := code) (n := 5) Tryz.func173 body (by kernel_rfl) (main P) (En_mk (x0, ()) (by kernel_rfl) ⟨by kernel_rfl, trivial⟩ h)

end F173
namespace F174
abbrev E := En 8
abbrev Q := QB Tryz.prog T0 8
def O (k : Nat) := ob Tryz.f174 (pth k)
def ret (P : PT) : EP := retE T0 8 Tryz.f174 P
abbrev k0 : Sk := [(0,.v)]
def o1 := O 14
def B1 (P : PT) : Y k0 := fun x0 H =>
  newK H [] 2 (fun b1 H2 => apK T0 2 H2 (Value.slice (some ⟨b1, 0, none⟩) 0 (0 + 1)) x0 (fun v3 H4 => P v3 H4))
theorem q1 P : Q o1 (ret P) k0 (B1 P) := fun _ _ _ => by kernel_rfl
abbrev k1 : Sk := []
def o2 := O 52
def B2 (P : PT) : Y k1 := fun H =>
  P (Value.slice none 0 0) H
theorem q2 P : Q o2 (ret P) k1 (B2 P) := fun _ _ => by kernel_rfl
def o3 := O 12
def B3 (P : PT) : Y k0 := fun x0 H =>
  isNilK x0 (fun v1 => pif v1 (B2 P H) (B1 P x0 H))
theorem q3 P : Q o3 (cnd 4 (E k1 (B2 P)) (E k0 (B1 P))) k0 (B3 P) := fun _ _ _ => by kernel_rfl
def o4 := O 2
def B4 (P : PT) : Y k0 := fun x0 H =>
  B3 P x0 H
theorem q4 P : Q o4 (E k0 (B3 P)) k0 (B4 P) := fun _ _ _ => by kernel_rfl
def code : Code := (.seq (R 0 o4) (.seq (.seq (R 1 o3) (.cond (.tmp 4) (.seq (R 2 o2) .ret) .skip)) (.seq (R 3 o1) .ret)))
theorem body : Tryz.f174.body = some code := by kernel_rfl
theorem main (P : PT) : ∀ env H, (En 8 k0 (B4 P)) env H → AW Tryz.prog T0 code env H (M (ret P)) :=
  (r_seq (b (q4 P)) (r_seq (r_seq (b (q3 P)) (r_cond rfl (r_seq (b (q2 P)) r_ret) r_skip)) (r_seq (b (q1 P)) r_ret)))
theorem ac (P : PT) (x0 : Value) (H : AHeap) (h : B4 P x0 H) : AC Tryz.prog T0 174 [x0] H P :=
  r_fn T0_ok (c := code) (n := 8) Tryz.func174 body (by kernel_rfl) (main P) (En_mk (x0, ()) (by kernel_rfl) ⟨by kernel_rfl, trivial⟩ h)

end F174
namespace F175
abbrev E := En 38
abbrev Q := QB Tryz.prog T0 38
def O (k : Nat) := ob Tryz.f175 (pth k)
def ret (P : PT) : EP := retE T0 38 Tryz.f175 P
abbrev k0 : Sk := [(5,.v)]
def o1 := O 30
def B1 (P : PT) : Y k0 := fun x5 H =>
  P x5 H
theorem q1 P : Q o1 (ret P) k0 (B1 P) := fun _ _ _ => by kernel_rfl
abbrev k1 : Sk := [(1,J),(2,.x),(5,.v),(6,J)]
def o3 := O 467
def B3 (P : PT) (N2 : Y k1) : Y k1 := fun x1 x2 x5 x6 H =>
  N2 x1 x2 x5 (IntKind.i64.wrap (x6 + 1)) H
theorem q3 P N2 : Q o3 (E k1 N2) k1 (B3 P N2) := fun _ _ _ _ _ _ => by kernel_rfl
def o4 := O 3730
def B4 (P : PT) (N2 : Y k1) : Y k1 := fun x1 x2 x5 x6 H =>
  newK H [(Value.int .i64 x6)] 2 (fun b1 H2 => apK T0 2 H2 x5 (Value.slice (some ⟨b1, 0, none⟩) 1 (1 + 1)) (fun v3 H4 => B3 P N2 x1 x2 v3 x6 H4))
theorem q4 P N2 : Q o4 (E k1 (B3 P N2)) k1 (B4 P N2) := fun _ _ _ _ _ _ => by kernel_rfl
def o5 := O 1864
def B5 (P : PT) (N2 : Y k1) : Y k1 := fun x1 x2 x5 x6 H =>
  ld1 H x2 1 (fun v1 => idxK v1 x6 2 (fun b2 o3 => ldI .i64 H b2 o3 (fun v4 => pif ((v4 : Int) == x1) (B4 P N2 x1 x2 x5 x6 H) (ld1 H x2 1 (fun v5 => idxK v5 x6 2 (fun b6 o7 => ldI .i64 H b6 (o7 + 1) (fun v8 => pif ((v8 : Int) == x1) (B4 P N2 x1 x2 x5 x6 H) (B3 P N2 x1 x2 x5 x6 H))))))))
theorem q5 P N2 : Q o5 (cnd 32 (E k1 (B4 P N2)) (E k1 (B3 P N2))) k1 (B5 P N2) := fun _ _ _ _ _ _ => by kernel_rfl
def o6 := O 464
def B6 (P : PT) (N2 : Y k1) : Y k1 := fun x1 x2 x5 x6 H =>
  ld1 H x2 1 (fun v1 => lenK v1 (fun n2 => pif (decide ((x6 : Int) < (n2 : Int))) (B5 P N2 x1 x2 x5 x6 H) (B1 P x5 H)))
theorem q6 P N2 : Q o6 (cnd 12 (E k1 (B5 P N2)) (E k0 (B1 P))) k1 (B6 P N2) := fun _ _ _ _ _ _ => by kernel_rfl
def L2 (P : PT) : Y k1 := fun x1 x2 x5 x6 H =>
  ∃ (I : Y k1) (μ : NTy k1 (AHeap → Nat)), I x1 x2 x5 x6 H ∧ ∀ y1 y2 y5 y6 G, I y1 y2 y5 y6 G → B6 P (fun z1 z2 z5 z6 G' => I z1 z2 z5 z6 G' ∧ μ z1 z2 z5 z6 G' < μ y1 y2 y5 y6 G) y1 y2 y5 y6 G
theorem l2 P : LQ k1 (L2 P) (B6 P) := fun ⟨_,_,_,_,_⟩ _ ⟨I, μ, h0, hI⟩ => ⟨apT _ I, apT _ μ, h0, fun ⟨_,_,_,_,_⟩ _ h => hI _ _ _ _ _  h⟩
abbrev k2 : Sk := [(1,J),(2,.x),(5,.v)]
def o7 := O 28
def B7 (P : PT) : Y k2 := fun x1 x2 x5 H =>
  L2 P x1 x2 x5 0 H
theorem q7 P : Q o7 (E k1 (L2 P)) k2 (B7 P) := fun _ _ _ _ _ => by kernel_rfl
abbrev k3 : Sk := [(1,J),(2,.x)]
def o8 := O 6
def B8 (P : PT) : Y k3 := fun x1 x2 H =>
  newK H [] 2 (fun b1 H2 => B7 P x1 x2 (Value.slice (some ⟨b1, 0, none⟩) 0 (0 + 1)) H2)
theorem q8 P : Q o8 (E k2 (B7 P)) k3 (B8 P) := fun _ _ _ _ => by kernel_rfl
abbrev k4 : Sk := [(0,.g [.i,.v]),(1,J)]
def o9 := O 2
def B9 (P : PT) : Y k4 := fun x0a x0b x1 H =>
  newK H [(Value.int .i64 x0a), x0b] 26 (fun b1 H2 => B8 P x1 b1 H2)
theorem q9 P : Q o9 (E k3 (B8 P)) k4 (B9 P) := fun _ _ _ _ _ => by kernel_rfl
def code : Code := (.seq (R 0 o9) (.seq (R 1 o8) (.seq (.seq (R 2 o7) (.block 0 (.loop (.seq (.seq (R 3 o6) (.cond (.tmp 12) .skip (.exit 0))) (.seq (.block 1 (.seq (R 5 o5) (.cond (.tmp 32) (R 6 o4) .skip))) (R 4 o3)))))) (.seq (R 7 o1) .ret))))
theorem body : Tryz.f175.body = some code := by kernel_rfl
theorem main (P : PT) : ∀ env H, (En 38 k4 (B9 P)) env H → AW Tryz.prog T0 code env H (M (ret P)) :=
  (r_seq (b (q9 P)) (r_seq (b (q8 P)) (r_seq (r_seq (b (q7 P)) (r_block (rL (l2 P) (fun N2 => (r_seq (r_seq (b (q6 P N2)) (r_cond rfl r_skip (r_exit (fun _ _ h => h)))) (r_seq (r_block (r_seq (b (q5 P N2)) (r_cond rfl (b (q4 P N2)) r_skip))) (b (q3 P N2)))))))) (r_seq (b (q1 P)) r_ret))))
theorem ac (P : PT) (x0a : Int) (x0b : Value) (x1 : Int) (H : AHeap) (h : B9 P x0a x0b x1 H) : AC Tryz.prog T0 175 [(Value.agg ⟨[(Value.int .i64 x0a), x0b]⟩), (Value.int .i64 x1)] H P :=
  r_fn T0_ok (c := code) (n := 38) Tryz.func175 body (by kernel_rfl) (main P) (En_mk (x0a, x0b, x1, ()) (by kernel_rfl) ⟨by kernel_rfl, by kernel_rfl, trivial⟩ h)

end F175
namespace F176
abbrev E := En 35
abbrev Q := QB Tryz.prog T0 35
def O (k : Nat) := ob Tryz.f176 (pth k)
def ret (P : PT) : EP := retE T0 35 Tryz.f176 P
abbrev k0 : Sk := []
def o1 := O 30
def B1 (P : PT) : Y k0 := fun H =>
  P (Value.bool true) H
theorem q1 P : Q o1 (ret P) k0 (B1 P) := fun _ _ => by kernel_rfl
abbrev k1 : Sk := [(1,.v),(2,.x),(5,J)]
def o3 := O 467
def B3 (P : PT) (N2 : Y k1) : Y k1 := fun x1 x2 x5 H =>
  N2 x1 x2 (IntKind.i64.wrap (x5 + 1)) H
theorem q3 P N2 : Q o3 (E k1 N2) k1 (B3 P N2) := fun _ _ _ _ _ => by kernel_rfl
def o4 := O 7460
def B4 (P : PT) (N2 : Y k1) : Y k0 := fun H =>
  P (Value.bool false) H
theorem q4 P N2 : Q o4 (ret P) k0 (B4 P N2) := fun _ _ => by kernel_rfl
def o5 := O 1864
def B5 (P : PT) (N2 : Y k1) : Y k1 := fun x1 x2 x5 H =>
  idxK x1 x5 1 (fun b1 o2 => ldI .i64 H b1 o2 (fun v3 => AC Tryz.prog T0 85 [(Value.int .i64 v3), (Value.int .i64 0), (Value.int .i64 2)] H (fun v4 H5 => asB v4 (fun v6 => pif (!v6) (B4 P N2 H5) (ldI .i64 H5 x2 0 (fun v7 => ld1 H5 x2 1 (fun v8 => idxK x1 x5 1 (fun b9 o10 => ldI .i64 H5 b9 o10 (fun v11 => AC Tryz.prog T0 210 [(Value.agg ⟨[(Value.int .i64 v7), v8]⟩), x1, (Value.int .i64 x5), (Value.int .i64 v11)] H5 (fun v12 H13 => asB v12 (fun v14 => pif (!v14) (B4 P N2 H13) (B3 P N2 x1 x2 x5 H13))))))))))))
theorem q5 (P : PT) (N2 : Y k1) : QD Tryz.prog T0 35 o5 [(0, false), (1, false), (2, false), (3, false), (4, false), (5, false), (6, false), (7, false), (8, false), (9, false), (10, false), (11, false), (12, false), (13, false), (14, false), (15, false), (16, false)] (cnd 34 (En 35 k0 (B4 P N2)) (En 35 k1 (B3 P N2))) k1 (B5 P N2) := fun _ _ _ _ _  => by kernel_rfl
def o6 := O 464
def B6 (P : PT) (N2 : Y k1) : Y k1 := fun x1 x2 x5 H =>
  lenK x1 (fun n1 => pif (decide ((x5 : Int) < (n1 : Int))) (B5 P N2 x1 x2 x5 H) (B1 P H))
theorem q6 P N2 : Q o6 (cnd 15 (E k1 (B5 P N2)) (E k0 (B1 P))) k1 (B6 P N2) := fun _ _ _ _ _ => by kernel_rfl
def L2 (P : PT) : Y k1 := fun x1 x2 x5 H =>
  ∃ (I : Y k1) (μ : NTy k1 (AHeap → Nat)), I x1 x2 x5 H ∧ ∀ y1 y2 y5 G, I y1 y2 y5 G → B6 P (fun z1 z2 z5 G' => I z1 z2 z5 G' ∧ μ z1 z2 z5 G' < μ y1 y2 y5 G) y1 y2 y5 G
theorem l2 P : LQ k1 (L2 P) (B6 P) := fun ⟨_,_,_,_⟩ _ ⟨I, μ, h0, hI⟩ => ⟨apT _ I, apT _ μ, h0, fun ⟨_,_,_,_⟩ _ h => hI _ _ _ _  h⟩
abbrev k2 : Sk := [(1,.v),(2,.x)]
def o7 := O 28
def B7 (P : PT) : Y k2 := fun x1 x2 H =>
  L2 P x1 x2 0 H
theorem q7 P : Q o7 (E k1 (L2 P)) k2 (B7 P) := fun _ _ _ _ => by kernel_rfl
def o8 := O 52
def B8 (P : PT) : Y k0 := fun H =>
  P (Value.bool false) H
theorem q8 P : Q o8 (ret P) k0 (B8 P) := fun _ _ => by kernel_rfl
def o9 := O 12
def B9 (P : PT) : Y k2 := fun x1 x2 H =>
  lenK x1 (fun n1 => ld1 H x2 1 (fun v2 => lenK v2 (fun n3 => pif (((n1 : Int) : Int) != (n3 : Int)) (B8 P H) (B7 P x1 x2 H))))
theorem q9 P : Q o9 (cnd 11 (E k0 (B8 P)) (E k2 (B7 P))) k2 (B9 P) := fun _ _ _ _ => by kernel_rfl
abbrev k3 : Sk := [(0,.g [.i,.v]),(1,.v)]
def o10 := O 2
def B10 (P : PT) : Y k3 := fun x0a x0b x1 H =>
  newK H [(Value.int .i64 x0a), x0b] 26 (fun b1 H2 => B9 P x1 b1 H2)
theorem q10 P : Q o10 (E k2 (B9 P)) k3 (B10 P) := fun _ _ _ _ _ => by kernel_rfl
def code : Code := (.seq (R 0 o10) (.seq (.seq (R 1 o9) (.cond (.tmp 11) (.seq (R 2 o8) .ret) .skip)) (.seq (.seq (R 3 o7) (.block 0 (.loop (.seq (.seq (R 4 o6) (.cond (.tmp 15) .skip (.exit 0))) (.seq (.block 1 (.seq (.region 6 ⟨o5⟩ true) (.cond (.tmp 34) (.seq (R 7 o4) .ret) .skip))) (R 5 o3)))))) (.seq (R 8 o1) .ret))))
theorem body : Tryz.f176.body = some code := by kernel_rfl
theorem main (P : PT) : ∀ env H, (En 35 k3 (B10 P)) env H → AW Tryz.prog T0 code env H (M (ret P)) :=
  (r_seq (b (q10 P)) (r_seq (r_seq (b (q9 P)) (r_cond rfl (r_seq (b (q8 P)) r_ret) r_skip)) (r_seq (r_seq (b (q7 P)) (r_block (rL (l2 P) (fun N2 => (r_seq (r_seq (b (q6 P N2)) (r_cond rfl r_skip (r_exit (fun _ _ h => h)))) (r_seq (r_block (r_seq (rD T0_ok mixed [(0, false), (1, false), (2, false), (3, false), (4, false), (5, false), (6, false), (7, false), (8, false), (9, false), (10, false), (11, false), (12, false), (13, false), (14, false), (15, false), (16, false)] (by kernel_rfl) (q5 P N2)) (r_cond rfl (r_seq (b (q4 P N2)) r_ret) r_skip))) (b (q3 P N2)))))))) (r_seq (b (q1 P)) r_ret))))
theorem ac (P : PT) (x0a : Int) (x0b x1 : Value) (H : AHeap) (h : B10 P x0a x0b x1 H) : AC Tryz.prog T0 176 [(Value.agg ⟨[(Value.int .i64 x0a), x0b]⟩), x1] H P :=
  r_fn T0_ok (c := code) (n := 35) Tryz.func176 body (by kernel_rfl) (main P) (En_mk (x0a, x0b, x1, ()) (by kernel_rfl) ⟨by kernel_rfl, by kernel_rfl, trivial⟩ h)

end F176
namespace F177
abbrev E := En 10
abbrev Q := QB Tryz.prog T0 10
def O (k : Nat) := ob Tryz.f177 (pth k)
def ret (P : PT) : EP := retE T0 10 Tryz.f177 P
abbrev k0 : Sk := [(1,J),(2,.x)]
def o1 := O 6
def B1 (P : PT) : Y k0 := fun x1 x2 H =>
  ldI .i64 H x2 0 (fun v1 => ld1 H x2 1 (fun v2 => newK H [] 2 (fun b3 H4 => newK H4 [] 28 (fun b5 H6 => AC Tryz.prog T0 211 [(Value.agg ⟨[(Value.int .i64 v1), v2]⟩), (Value.slice (some ⟨b3, 0, none⟩) 0 (0 + 1)), (Value.slice (some ⟨b5, 0, none⟩) 0 (0 + 1)), (Value.int .i64 x1)] H6 (fun v7 H8 => P v7 H8)))))
theorem q1 P : Q o1 (ret P) k0 (B1 P) := fun _ _ _ _ => by kernel_rfl
abbrev k1 : Sk := [(0,.g [.i,.v]),(1,J)]
def o2 := O 2
def B2 (P : PT) : Y k1 := fun x0a x0b x1 H =>
  newK H [(Value.int .i64 x0a), x0b] 26 (fun b1 H2 => B1 P x1 b1 H2)
theorem q2 P : Q o2 (E k0 (B1 P)) k1 (B2 P) := fun _ _ _ _ _ => by kernel_rfl
def code : Code := (.seq (R 0 o2) (.seq (R 1 o1) .ret))
theorem body : Tryz.f177.body = some code := by kernel_rfl
theorem main (P : PT) : ∀ env H, (En 10 k1 (B2 P)) env H → AW Tryz.prog T0 code env H (M (ret P)) :=
  (r_seq (b (q2 P)) (r_seq (b (q1 P)) r_ret))
theorem ac (P : PT) (x0a : Int) (x0b : Value) (x1 : Int) (H : AHeap) (h : B2 P x0a x0b x1 H) : AC Tryz.prog T0 177 [(Value.agg ⟨[(Value.int .i64 x0a), x0b]⟩), (Value.int .i64 x1)] H P :=
  r_fn T0_ok (c := code) (n := 10) Tryz.func177 body (by kernel_rfl) (main P) (En_mk (x0a, x0b, x1, ()) (by kernel_rfl) ⟨by kernel_rfl, by kernel_rfl, trivial⟩ h)

end F177
end
end Go.Proofs
