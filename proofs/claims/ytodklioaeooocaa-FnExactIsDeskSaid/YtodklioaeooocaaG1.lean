import Derived.Test.YtodklioaeooocaaS
set_option linter.unusedVariables false
set_option maxRecDepth 100000
namespace Go.Proofs
open Go.Abs
-- loop.example/g01329/laws.FnExactSumOfSets
noncomputable def F3.ret (Post : Value → AHeap → Prop) : EP := retE T0 138 Try.f3 Post
noncomputable def F3.o1 : List Oper := opsIn (codeAt (bodyOf Try.f3) [.r, .r, .r, .r, .r, .r, .r, .r, .r, .r, .r, .r, .r, .r, .r, .r, .r, .r, .r, .r, .r, .r, .r, .r, .r, .r, .r, .r, .r, .r, .r, .r, .l])
def F3.B1 (Post : Value → AHeap → Prop) (H : AHeap) : Prop :=
  Post (Value.bool true) H
def F3.B1.e (Post : Value → AHeap → Prop) : EP := fun env H => pif (Nat.beq (List.length env) 138) (F3.B1 Post H) False
theorem F3.q1 (u : Nat → Value) (Post : Value → AHeap → Prop) (H : AHeap) : aOps Try.prog T0 F3.o1 F3.o1 (mkEnv u 138 0) H (F3.ret Post) = F3.B1 Post H := by kernel_rfl
theorem F3.r1 (Post : Value → AHeap → Prop) : ∀ env H, F3.B1.e Post env H → aOps Try.prog T0 F3.o1 F3.o1 env H (F3.ret Post) := by
  intro env H h
  obtain ⟨hl, h⟩ := lenE h
  exact use_ops hl rfl ((F3.q1 _ Post H).mpr h)
noncomputable def F3.o2 : List Oper := opsIn (codeAt (bodyOf Try.f3) [.r, .r, .r, .r, .r, .r, .r, .r, .r, .r, .r, .r, .r, .r, .r, .r, .r, .r, .r, .r, .r, .r, .r, .r, .r, .r, .r, .r, .r, .r, .r, .l, .r, .l, .l])
def F3.B2 (Post : Value → AHeap → Prop) (H : AHeap) : Prop :=
  Post (Value.bool false) H
def F3.B2.e (Post : Value → AHeap → Prop) : EP := fun env H => pif (Nat.beq (List.length env) 138) (F3.B2 Post H) False
theorem F3.q2 (u : Nat → Value) (Post : Value → AHeap → Prop) (H : AHeap) : aOps Try.prog T0 F3.o2 F3.o2 (mkEnv u 138 0) H (F3.ret Post) = F3.B2 Post H := by kernel_rfl
theorem F3.r2 (Post : Value → AHeap → Prop) : ∀ env H, F3.B2.e Post env H → aOps Try.prog T0 F3.o2 F3.o2 env H (F3.ret Post) := by
  intro env H h
  obtain ⟨hl, h⟩ := lenE h
  exact use_ops hl rfl ((F3.q2 _ Post H).mpr h)
noncomputable def F3.o3 : List Oper := opsIn (codeAt (bodyOf Try.f3) [.r, .r, .r, .r, .r, .r, .r, .r, .r, .r, .r, .r, .r, .r, .r, .r, .r, .r, .r, .r, .r, .r, .r, .r, .r, .r, .r, .r, .r, .r, .r, .l, .l])
def F3.B3 (Post : Value → AHeap → Prop) (x16 : Int) (x17 : Int) (H : AHeap) : Prop :=
  pif ((x17 : Int) != x16) (F3.B2 Post H) (F3.B1 Post H)
def F3.B3.e (Post : Value → AHeap → Prop) : EP := fun env H => pif (Nat.beq (List.length env) 138) (asI .i64 (List.getD env 16 undef) (fun x16 => asI .i64 (List.getD env 17 undef) (fun x17 => F3.B3 Post x16 x17 H))) False
theorem F3.q3 (u : Nat → Value) (Post : Value → AHeap → Prop) (x16 : Int) (x17 : Int) (H : AHeap) : aOps Try.prog T0 F3.o3 F3.o3 (mkEnv (upd (upd u 16 (Value.int .i64 x16)) 17 (Value.int .i64 x17)) 138 0) H (fun env H => asB (aev env (.tmp 137)) (fun b => pif b ((F3.B2.e Post) env H) ((F3.B1.e Post) env H))) = F3.B3 Post x16 x17 H := by kernel_rfl
theorem F3.r3 (Post : Value → AHeap → Prop) : ∀ env H, F3.B3.e Post env H → aOps Try.prog T0 F3.o3 F3.o3 env H (fun env H => asB (aev env (.tmp 137)) (fun b => pif b ((F3.B2.e Post) env H) ((F3.B1.e Post) env H))) := by
  intro env H h
  obtain ⟨hl, h⟩ := lenE h
  obtain ⟨x16, e16, h⟩ := asI_elim h
  obtain ⟨x17, e17, h⟩ := asI_elim h
  exact use_ops hl (upd_step (upd_step rfl e16) e17) ((F3.q3 _ Post x16 x17 H).mpr h)
noncomputable def F3.o4 : List Oper := opsIn (codeAt (bodyOf Try.f3) [.r, .r, .r, .r, .r, .r, .r, .r, .r, .r, .r, .r, .r, .r, .r, .r, .r, .r, .r, .r, .r, .r, .r, .r, .r, .r, .r, .r, .r, .r, .l, .r, .l, .l])
def F3.B4 (Post : Value → AHeap → Prop) (H : AHeap) : Prop :=
  Post (Value.bool false) H
def F3.B4.e (Post : Value → AHeap → Prop) : EP := fun env H => pif (Nat.beq (List.length env) 138) (F3.B4 Post H) False
theorem F3.q4 (u : Nat → Value) (Post : Value → AHeap → Prop) (H : AHeap) : aOps Try.prog T0 F3.o4 F3.o4 (mkEnv u 138 0) H (F3.ret Post) = F3.B4 Post H := by kernel_rfl
theorem F3.r4 (Post : Value → AHeap → Prop) : ∀ env H, F3.B4.e Post env H → aOps Try.prog T0 F3.o4 F3.o4 env H (F3.ret Post) := by
  intro env H h
  obtain ⟨hl, h⟩ := lenE h
  exact use_ops hl rfl ((F3.q4 _ Post H).mpr h)
noncomputable def F3.o5 : List Oper := opsIn (codeAt (bodyOf Try.f3) [.r, .r, .r, .r, .r, .r, .r, .r, .r, .r, .r, .r, .r, .r, .r, .r, .r, .r, .r, .r, .r, .r, .r, .r, .r, .r, .r, .r, .r, .r, .l, .l])
def F3.B5 (Post : Value → AHeap → Prop) (x16 : Int) (x17 : Int) (H : AHeap) : Prop :=
  pif (decide ((x17 : Int) < 0)) (F3.B4 Post H) (F3.B3 Post x16 x17 H)
def F3.B5.e (Post : Value → AHeap → Prop) : EP := fun env H => pif (Nat.beq (List.length env) 138) (asI .i64 (List.getD env 16 undef) (fun x16 => asI .i64 (List.getD env 17 undef) (fun x17 => F3.B5 Post x16 x17 H))) False
theorem F3.q5 (u : Nat → Value) (Post : Value → AHeap → Prop) (x16 : Int) (x17 : Int) (H : AHeap) : aOps Try.prog T0 F3.o5 F3.o5 (mkEnv (upd (upd u 16 (Value.int .i64 x16)) 17 (Value.int .i64 x17)) 138 0) H (fun env H => asB (aev env (.tmp 134)) (fun b => pif b ((F3.B4.e Post) env H) ((F3.B3.e Post) env H))) = F3.B5 Post x16 x17 H := by kernel_rfl
theorem F3.r5 (Post : Value → AHeap → Prop) : ∀ env H, F3.B5.e Post env H → aOps Try.prog T0 F3.o5 F3.o5 env H (fun env H => asB (aev env (.tmp 134)) (fun b => pif b ((F3.B4.e Post) env H) ((F3.B3.e Post) env H))) := by
  intro env H h
  obtain ⟨hl, h⟩ := lenE h
  obtain ⟨x16, e16, h⟩ := asI_elim h
  obtain ⟨x17, e17, h⟩ := asI_elim h
  exact use_ops hl (upd_step (upd_step rfl e16) e17) ((F3.q5 _ Post x16 x17 H).mpr h)
noncomputable def F3.o6 : List Oper := opsIn (codeAt (bodyOf Try.f3) [.r, .r, .r, .r, .r, .r, .r, .r, .r, .r, .r, .r, .r, .r, .r, .r, .r, .r, .r, .r, .r, .r, .r, .r, .r, .r, .r, .r, .r, .l])
def F3.B6 (Post : Value → AHeap → Prop) (x13 : Value) (x16 : Int) (x17 : Int) (H : AHeap) : Prop :=
  AC Try.prog T0 14 [x13, (Value.int .i64 x17)] H (fun v1 H2 => asI .i64 v1 (fun v3 => F3.B5 Post x16 v3 H2))
def F3.B6.e (Post : Value → AHeap → Prop) : EP := fun env H => pif (Nat.beq (List.length env) 138) (asI .i64 (List.getD env 16 undef) (fun x16 => asI .i64 (List.getD env 17 undef) (fun x17 => F3.B6 Post (List.getD env 13 undef) x16 x17 H))) False
theorem F3.q6 (u : Nat → Value) (Post : Value → AHeap → Prop) (x13 : Value) (x16 : Int) (x17 : Int) (H : AHeap) : aOps Try.prog T0 F3.o6 F3.o6 (mkEnv (upd (upd (upd u 13 x13) 16 (Value.int .i64 x16)) 17 (Value.int .i64 x17)) 138 0) H (F3.B5.e Post) = F3.B6 Post x13 x16 x17 H := by kernel_rfl
theorem F3.r6 (Post : Value → AHeap → Prop) : ∀ env H, F3.B6.e Post env H → aOps Try.prog T0 F3.o6 F3.o6 env H (F3.B5.e Post) := by
  intro env H h
  obtain ⟨hl, h⟩ := lenE h
  obtain ⟨x16, e16, h⟩ := asI_elim h
  obtain ⟨x17, e17, h⟩ := asI_elim h
  exact use_ops hl (upd_step (upd_step (upd_step rfl rfl) e16) e17) ((F3.q6 _ Post (List.getD env 13 undef) x16 x17 H).mpr h)
noncomputable def F3.o7 : List Oper := opsIn (codeAt (bodyOf Try.f3) [.r, .r, .r, .r, .r, .r, .r, .r, .r, .r, .r, .r, .r, .r, .r, .r, .r, .r, .r, .r, .r, .r, .r, .r, .r, .r, .r, .r, .l])
def F3.B7 (Post : Value → AHeap → Prop) (x13 : Value) (x16 : Int) (H : AHeap) : Prop :=
  F3.B6 Post x13 x16 1 H
def F3.B7.e (Post : Value → AHeap → Prop) : EP := fun env H => pif (Nat.beq (List.length env) 138) (asI .i64 (List.getD env 16 undef) (fun x16 => F3.B7 Post (List.getD env 13 undef) x16 H)) False
theorem F3.q7 (u : Nat → Value) (Post : Value → AHeap → Prop) (x13 : Value) (x16 : Int) (H : AHeap) : aOps Try.prog T0 F3.o7 F3.o7 (mkEnv (upd (upd u 13 x13) 16 (Value.int .i64 x16)) 138 0) H (F3.B6.e Post) = F3.B7 Post x13 x16 H := by kernel_rfl
theorem F3.r7 (Post : Value → AHeap → Prop) : ∀ env H, F3.B7.e Post env H → aOps Try.prog T0 F3.o7 F3.o7 env H (F3.B6.e Post) := by
  intro env H h
  obtain ⟨hl, h⟩ := lenE h
  obtain ⟨x16, e16, h⟩ := asI_elim h
  exact use_ops hl (upd_step (upd_step rfl rfl) e16) ((F3.q7 _ Post (List.getD env 13 undef) x16 H).mpr h)
noncomputable def F3.o8 : List Oper := opsIn (codeAt (bodyOf Try.f3) [.r, .r, .r, .r, .r, .r, .r, .r, .r, .r, .r, .r, .r, .r, .r, .r, .r, .r, .r, .r, .r, .r, .r, .r, .r, .r, .r, .l, .r, .l, .l])
def F3.B8 (Post : Value → AHeap → Prop) (H : AHeap) : Prop :=
  Post (Value.bool false) H
def F3.B8.e (Post : Value → AHeap → Prop) : EP := fun env H => pif (Nat.beq (List.length env) 138) (F3.B8 Post H) False
theorem F3.q8 (u : Nat → Value) (Post : Value → AHeap → Prop) (H : AHeap) : aOps Try.prog T0 F3.o8 F3.o8 (mkEnv u 138 0) H (F3.ret Post) = F3.B8 Post H := by kernel_rfl
theorem F3.r8 (Post : Value → AHeap → Prop) : ∀ env H, F3.B8.e Post env H → aOps Try.prog T0 F3.o8 F3.o8 env H (F3.ret Post) := by
  intro env H h
  obtain ⟨hl, h⟩ := lenE h
  exact use_ops hl rfl ((F3.q8 _ Post H).mpr h)
noncomputable def F3.o9 : List Oper := opsIn (codeAt (bodyOf Try.f3) [.r, .r, .r, .r, .r, .r, .r, .r, .r, .r, .r, .r, .r, .r, .r, .r, .r, .r, .r, .r, .r, .r, .r, .r, .r, .r, .r, .l, .l])
def F3.B9 (Post : Value → AHeap → Prop) (x8 : Value) (x9 : Int) (x13 : Value) (x16 : Int) (x18 : Value) (x19 : Int) (H : AHeap) : Prop :=
  AC Try.prog T0 10 [x18, x8] H (fun v1 H2 => asB v1 (fun v3 => pif (!v3) (F3.B8 Post H2) (pif ((x19 : Int) != x9) (F3.B8 Post H2) (F3.B7 Post x13 x16 H2))))
def F3.B9.e (Post : Value → AHeap → Prop) : EP := fun env H => pif (Nat.beq (List.length env) 138) (asI .i64 (List.getD env 9 undef) (fun x9 => asI .i64 (List.getD env 16 undef) (fun x16 => asI .i64 (List.getD env 19 undef) (fun x19 => F3.B9 Post (List.getD env 8 undef) x9 (List.getD env 13 undef) x16 (List.getD env 18 undef) x19 H)))) False
theorem F3.q9 (u : Nat → Value) (Post : Value → AHeap → Prop) (x8 : Value) (x9 : Int) (x13 : Value) (x16 : Int) (x18 : Value) (x19 : Int) (H : AHeap) : aOps Try.prog T0 F3.o9 F3.o9 (mkEnv (upd (upd (upd (upd (upd (upd u 8 x8) 9 (Value.int .i64 x9)) 13 x13) 16 (Value.int .i64 x16)) 18 x18) 19 (Value.int .i64 x19)) 138 0) H (fun env H => asB (aev env (.tmp 129)) (fun b => pif b ((F3.B8.e Post) env H) ((F3.B7.e Post) env H))) = F3.B9 Post x8 x9 x13 x16 x18 x19 H := by kernel_rfl
theorem F3.r9 (Post : Value → AHeap → Prop) : ∀ env H, F3.B9.e Post env H → aOps Try.prog T0 F3.o9 F3.o9 env H (fun env H => asB (aev env (.tmp 129)) (fun b => pif b ((F3.B8.e Post) env H) ((F3.B7.e Post) env H))) := by
  intro env H h
  obtain ⟨hl, h⟩ := lenE h
  obtain ⟨x9, e9, h⟩ := asI_elim h
  obtain ⟨x16, e16, h⟩ := asI_elim h
  obtain ⟨x19, e19, h⟩ := asI_elim h
  exact use_ops hl (upd_step (upd_step (upd_step (upd_step (upd_step (upd_step rfl rfl) e9) rfl) e16) rfl) e19) ((F3.q9 _ Post (List.getD env 8 undef) x9 (List.getD env 13 undef) x16 (List.getD env 18 undef) x19 H).mpr h)
noncomputable def F3.o10 : List Oper := opsIn (codeAt (bodyOf Try.f3) [.r, .r, .r, .r, .r, .r, .r, .r, .r, .r, .r, .r, .r, .r, .r, .r, .r, .r, .r, .r, .r, .r, .r, .r, .r, .r, .l])
def F3.B10 (Post : Value → AHeap → Prop) (x1 : Value) (x2 : Value) (x3 : Nat) (x8 : Value) (x9 : Int) (x13 : Value) (x16 : Int) (H : AHeap) : Prop :=
  ldI .i64 H x3 0 (fun v1 => ld1 H x3 1 (fun v2 => AC Try.prog T0 7 [(Value.agg ⟨[(Value.int .i64 v1), v2]⟩)] H (fun v3 H4 => agg2 v3 (fun v5 v6 => asI .i64 v5 (fun v7 => AC Try.prog T0 8 [x1] H4 (fun v9 H10 => AC Try.prog T0 8 [x2] H10 (fun v12 H13 => AC Try.prog T0 9 [(Value.agg ⟨[(Value.int .i64 v7), v6]⟩), v9, v12] H13 (fun v15 H16 => tup2 v15 (fun v17 v18 => asI .i64 v18 (fun v20 => F3.B9 Post x8 x9 x13 x16 v17 v20 H16))))))))))
def F3.B10.e (Post : Value → AHeap → Prop) : EP := fun env H => pif (Nat.beq (List.length env) 138) (asX (List.getD env 3 undef) (fun x3 => asI .i64 (List.getD env 9 undef) (fun x9 => asI .i64 (List.getD env 16 undef) (fun x16 => F3.B10 Post (List.getD env 1 undef) (List.getD env 2 undef) x3 (List.getD env 8 undef) x9 (List.getD env 13 undef) x16 H)))) False
theorem F3.q10 (u : Nat → Value) (Post : Value → AHeap → Prop) (x1 : Value) (x2 : Value) (x3 : Nat) (x8 : Value) (x9 : Int) (x13 : Value) (x16 : Int) (H : AHeap) : aOps Try.prog T0 F3.o10 F3.o10 (mkEnv (upd (upd (upd (upd (upd (upd (upd u 1 x1) 2 x2) 3 (Value.pointer (some ⟨x3, 0, none⟩))) 8 x8) 9 (Value.int .i64 x9)) 13 x13) 16 (Value.int .i64 x16)) 138 0) H (F3.B9.e Post) = F3.B10 Post x1 x2 x3 x8 x9 x13 x16 H := by kernel_rfl
theorem F3.r10 (Post : Value → AHeap → Prop) : ∀ env H, F3.B10.e Post env H → aOps Try.prog T0 F3.o10 F3.o10 env H (F3.B9.e Post) := by
  intro env H h
  obtain ⟨hl, h⟩ := lenE h
  obtain ⟨x3, e3, h⟩ := asX_elim h
  obtain ⟨x9, e9, h⟩ := asI_elim h
  obtain ⟨x16, e16, h⟩ := asI_elim h
  exact use_ops hl (upd_step (upd_step (upd_step (upd_step (upd_step (upd_step (upd_step rfl rfl) rfl) e3) rfl) e9) rfl) e16) ((F3.q10 _ Post (List.getD env 1 undef) (List.getD env 2 undef) x3 (List.getD env 8 undef) x9 (List.getD env 13 undef) x16 H).mpr h)
noncomputable def F3.o11 : List Oper := opsIn (codeAt (bodyOf Try.f3) [.r, .r, .r, .r, .r, .r, .r, .r, .r, .r, .r, .r, .r, .r, .r, .r, .r, .r, .r, .r, .r, .r, .r, .r, .r, .l, .r, .l, .l])
def F3.B11 (Post : Value → AHeap → Prop) (H : AHeap) : Prop :=
  Post (Value.bool false) H
def F3.B11.e (Post : Value → AHeap → Prop) : EP := fun env H => pif (Nat.beq (List.length env) 138) (F3.B11 Post H) False
theorem F3.q11 (u : Nat → Value) (Post : Value → AHeap → Prop) (H : AHeap) : aOps Try.prog T0 F3.o11 F3.o11 (mkEnv u 138 0) H (F3.ret Post) = F3.B11 Post H := by kernel_rfl
theorem F3.r11 (Post : Value → AHeap → Prop) : ∀ env H, F3.B11.e Post env H → aOps Try.prog T0 F3.o11 F3.o11 env H (F3.ret Post) := by
  intro env H h
  obtain ⟨hl, h⟩ := lenE h
  exact use_ops hl rfl ((F3.q11 _ Post H).mpr h)
noncomputable def F3.o12 : List Oper := opsIn (codeAt (bodyOf Try.f3) [.r, .r, .r, .r, .r, .r, .r, .r, .r, .r, .r, .r, .r, .r, .r, .r, .r, .r, .r, .r, .r, .r, .r, .r, .r, .l, .l])
def F3.B12 (Post : Value → AHeap → Prop) (x1 : Value) (x2 : Value) (x3 : Nat) (x8 : Value) (x9 : Int) (x13 : Value) (x16 : Int) (x17 : Int) (H : AHeap) : Prop :=
  pif ((x17 : Int) != x16) (F3.B11 Post H) (F3.B10 Post x1 x2 x3 x8 x9 x13 x16 H)
def F3.B12.e (Post : Value → AHeap → Prop) : EP := fun env H => pif (Nat.beq (List.length env) 138) (asX (List.getD env 3 undef) (fun x3 => asI .i64 (List.getD env 9 undef) (fun x9 => asI .i64 (List.getD env 16 undef) (fun x16 => asI .i64 (List.getD env 17 undef) (fun x17 => F3.B12 Post (List.getD env 1 undef) (List.getD env 2 undef) x3 (List.getD env 8 undef) x9 (List.getD env 13 undef) x16 x17 H))))) False
theorem F3.q12 (u : Nat → Value) (Post : Value → AHeap → Prop) (x1 : Value) (x2 : Value) (x3 : Nat) (x8 : Value) (x9 : Int) (x13 : Value) (x16 : Int) (x17 : Int) (H : AHeap) : aOps Try.prog T0 F3.o12 F3.o12 (mkEnv (upd (upd (upd (upd (upd (upd (upd (upd u 1 x1) 2 x2) 3 (Value.pointer (some ⟨x3, 0, none⟩))) 8 x8) 9 (Value.int .i64 x9)) 13 x13) 16 (Value.int .i64 x16)) 17 (Value.int .i64 x17)) 138 0) H (fun env H => asB (aev env (.tmp 110)) (fun b => pif b ((F3.B11.e Post) env H) ((F3.B10.e Post) env H))) = F3.B12 Post x1 x2 x3 x8 x9 x13 x16 x17 H := by kernel_rfl
theorem F3.r12 (Post : Value → AHeap → Prop) : ∀ env H, F3.B12.e Post env H → aOps Try.prog T0 F3.o12 F3.o12 env H (fun env H => asB (aev env (.tmp 110)) (fun b => pif b ((F3.B11.e Post) env H) ((F3.B10.e Post) env H))) := by
  intro env H h
  obtain ⟨hl, h⟩ := lenE h
  obtain ⟨x3, e3, h⟩ := asX_elim h
  obtain ⟨x9, e9, h⟩ := asI_elim h
  obtain ⟨x16, e16, h⟩ := asI_elim h
  obtain ⟨x17, e17, h⟩ := asI_elim h
  exact use_ops hl (upd_step (upd_step (upd_step (upd_step (upd_step (upd_step (upd_step (upd_step rfl rfl) rfl) e3) rfl) e9) rfl) e16) e17) ((F3.q12 _ Post (List.getD env 1 undef) (List.getD env 2 undef) x3 (List.getD env 8 undef) x9 (List.getD env 13 undef) x16 x17 H).mpr h)
noncomputable def F3.o13 : List Oper := opsIn (codeAt (bodyOf Try.f3) [.r, .r, .r, .r, .r, .r, .r, .r, .r, .r, .r, .r, .r, .r, .r, .r, .r, .r, .r, .r, .r, .r, .r, .r, .l, .r, .l, .l])
def F3.B13 (Post : Value → AHeap → Prop) (H : AHeap) : Prop :=
  Post (Value.bool false) H
def F3.B13.e (Post : Value → AHeap → Prop) : EP := fun env H => pif (Nat.beq (List.length env) 138) (F3.B13 Post H) False
theorem F3.q13 (u : Nat → Value) (Post : Value → AHeap → Prop) (H : AHeap) : aOps Try.prog T0 F3.o13 F3.o13 (mkEnv u 138 0) H (F3.ret Post) = F3.B13 Post H := by kernel_rfl
theorem F3.r13 (Post : Value → AHeap → Prop) : ∀ env H, F3.B13.e Post env H → aOps Try.prog T0 F3.o13 F3.o13 env H (F3.ret Post) := by
  intro env H h
  obtain ⟨hl, h⟩ := lenE h
  exact use_ops hl rfl ((F3.q13 _ Post H).mpr h)
noncomputable def F3.o14 : List Oper := opsIn (codeAt (bodyOf Try.f3) [.r, .r, .r, .r, .r, .r, .r, .r, .r, .r, .r, .r, .r, .r, .r, .r, .r, .r, .r, .r, .r, .r, .r, .r, .l, .l])
def F3.B14 (Post : Value → AHeap → Prop) (x1 : Value) (x2 : Value) (x3 : Nat) (x8 : Value) (x9 : Int) (x13 : Value) (x16 : Int) (x17 : Int) (H : AHeap) : Prop :=
  pif (decide ((x17 : Int) < 0)) (F3.B13 Post H) (F3.B12 Post x1 x2 x3 x8 x9 x13 x16 x17 H)
def F3.B14.e (Post : Value → AHeap → Prop) : EP := fun env H => pif (Nat.beq (List.length env) 138) (asX (List.getD env 3 undef) (fun x3 => asI .i64 (List.getD env 9 undef) (fun x9 => asI .i64 (List.getD env 16 undef) (fun x16 => asI .i64 (List.getD env 17 undef) (fun x17 => F3.B14 Post (List.getD env 1 undef) (List.getD env 2 undef) x3 (List.getD env 8 undef) x9 (List.getD env 13 undef) x16 x17 H))))) False
theorem F3.q14 (u : Nat → Value) (Post : Value → AHeap → Prop) (x1 : Value) (x2 : Value) (x3 : Nat) (x8 : Value) (x9 : Int) (x13 : Value) (x16 : Int) (x17 : Int) (H : AHeap) : aOps Try.prog T0 F3.o14 F3.o14 (mkEnv (upd (upd (upd (upd (upd (upd (upd (upd u 1 x1) 2 x2) 3 (Value.pointer (some ⟨x3, 0, none⟩))) 8 x8) 9 (Value.int .i64 x9)) 13 x13) 16 (Value.int .i64 x16)) 17 (Value.int .i64 x17)) 138 0) H (fun env H => asB (aev env (.tmp 107)) (fun b => pif b ((F3.B13.e Post) env H) ((F3.B12.e Post) env H))) = F3.B14 Post x1 x2 x3 x8 x9 x13 x16 x17 H := by kernel_rfl
theorem F3.r14 (Post : Value → AHeap → Prop) : ∀ env H, F3.B14.e Post env H → aOps Try.prog T0 F3.o14 F3.o14 env H (fun env H => asB (aev env (.tmp 107)) (fun b => pif b ((F3.B13.e Post) env H) ((F3.B12.e Post) env H))) := by
  intro env H h
  obtain ⟨hl, h⟩ := lenE h
  obtain ⟨x3, e3, h⟩ := asX_elim h
  obtain ⟨x9, e9, h⟩ := asI_elim h
  obtain ⟨x16, e16, h⟩ := asI_elim h
  obtain ⟨x17, e17, h⟩ := asI_elim h
  exact use_ops hl (upd_step (upd_step (upd_step (upd_step (upd_step (upd_step (upd_step (upd_step rfl rfl) rfl) e3) rfl) e9) rfl) e16) e17) ((F3.q14 _ Post (List.getD env 1 undef) (List.getD env 2 undef) x3 (List.getD env 8 undef) x9 (List.getD env 13 undef) x16 x17 H).mpr h)
noncomputable def F3.o15 : List Oper := opsIn (codeAt (bodyOf Try.f3) [.r, .r, .r, .r, .r, .r, .r, .r, .r, .r, .r, .r, .r, .r, .r, .r, .r, .r, .r, .r, .r, .r, .r, .l])
def F3.B15 (Post : Value → AHeap → Prop) (x1 : Value) (x2 : Value) (x3 : Nat) (x8 : Value) (x9 : Int) (x13 : Value) (x16 : Int) (x17 : Int) (H : AHeap) : Prop :=
  AC Try.prog T0 14 [x13, (Value.int .i64 x17)] H (fun v1 H2 => asI .i64 v1 (fun v3 => F3.B14 Post x1 x2 x3 x8 x9 x13 x16 v3 H2))
def F3.B15.e (Post : Value → AHeap → Prop) : EP := fun env H => pif (Nat.beq (List.length env) 138) (asX (List.getD env 3 undef) (fun x3 => asI .i64 (List.getD env 9 undef) (fun x9 => asI .i64 (List.getD env 16 undef) (fun x16 => asI .i64 (List.getD env 17 undef) (fun x17 => F3.B15 Post (List.getD env 1 undef) (List.getD env 2 undef) x3 (List.getD env 8 undef) x9 (List.getD env 13 undef) x16 x17 H))))) False
theorem F3.q15 (u : Nat → Value) (Post : Value → AHeap → Prop) (x1 : Value) (x2 : Value) (x3 : Nat) (x8 : Value) (x9 : Int) (x13 : Value) (x16 : Int) (x17 : Int) (H : AHeap) : aOps Try.prog T0 F3.o15 F3.o15 (mkEnv (upd (upd (upd (upd (upd (upd (upd (upd u 1 x1) 2 x2) 3 (Value.pointer (some ⟨x3, 0, none⟩))) 8 x8) 9 (Value.int .i64 x9)) 13 x13) 16 (Value.int .i64 x16)) 17 (Value.int .i64 x17)) 138 0) H (F3.B14.e Post) = F3.B15 Post x1 x2 x3 x8 x9 x13 x16 x17 H := by kernel_rfl
theorem F3.r15 (Post : Value → AHeap → Prop) : ∀ env H, F3.B15.e Post env H → aOps Try.prog T0 F3.o15 F3.o15 env H (F3.B14.e Post) := by
  intro env H h
  obtain ⟨hl, h⟩ := lenE h
  obtain ⟨x3, e3, h⟩ := asX_elim h
  obtain ⟨x9, e9, h⟩ := asI_elim h
  obtain ⟨x16, e16, h⟩ := asI_elim h
  obtain ⟨x17, e17, h⟩ := asI_elim h
  exact use_ops hl (upd_step (upd_step (upd_step (upd_step (upd_step (upd_step (upd_step (upd_step rfl rfl) rfl) e3) rfl) e9) rfl) e16) e17) ((F3.q15 _ Post (List.getD env 1 undef) (List.getD env 2 undef) x3 (List.getD env 8 undef) x9 (List.getD env 13 undef) x16 x17 H).mpr h)
noncomputable def F3.o16 : List Oper := opsIn (codeAt (bodyOf Try.f3) [.r, .r, .r, .r, .r, .r, .r, .r, .r, .r, .r, .r, .r, .r, .r, .r, .r, .r, .r, .r, .r, .r, .l])
def F3.B16 (Post : Value → AHeap → Prop) (x1 : Value) (x2 : Value) (x3 : Nat) (x8 : Value) (x9 : Int) (x13 : Value) (x16 : Int) (H : AHeap) : Prop :=
  F3.B15 Post x1 x2 x3 x8 x9 x13 x16 1 H
def F3.B16.e (Post : Value → AHeap → Prop) : EP := fun env H => pif (Nat.beq (List.length env) 138) (asX (List.getD env 3 undef) (fun x3 => asI .i64 (List.getD env 9 undef) (fun x9 => asI .i64 (List.getD env 16 undef) (fun x16 => F3.B16 Post (List.getD env 1 undef) (List.getD env 2 undef) x3 (List.getD env 8 undef) x9 (List.getD env 13 undef) x16 H)))) False
theorem F3.q16 (u : Nat → Value) (Post : Value → AHeap → Prop) (x1 : Value) (x2 : Value) (x3 : Nat) (x8 : Value) (x9 : Int) (x13 : Value) (x16 : Int) (H : AHeap) : aOps Try.prog T0 F3.o16 F3.o16 (mkEnv (upd (upd (upd (upd (upd (upd (upd u 1 x1) 2 x2) 3 (Value.pointer (some ⟨x3, 0, none⟩))) 8 x8) 9 (Value.int .i64 x9)) 13 x13) 16 (Value.int .i64 x16)) 138 0) H (F3.B15.e Post) = F3.B16 Post x1 x2 x3 x8 x9 x13 x16 H := by kernel_rfl
theorem F3.r16 (Post : Value → AHeap → Prop) : ∀ env H, F3.B16.e Post env H → aOps Try.prog T0 F3.o16 F3.o16 env H (F3.B15.e Post) := by
  intro env H h
  obtain ⟨hl, h⟩ := lenE h
  obtain ⟨x3, e3, h⟩ := asX_elim h
  obtain ⟨x9, e9, h⟩ := asI_elim h
  obtain ⟨x16, e16, h⟩ := asI_elim h
  exact use_ops hl (upd_step (upd_step (upd_step (upd_step (upd_step (upd_step (upd_step rfl rfl) rfl) e3) rfl) e9) rfl) e16) ((F3.q16 _ Post (List.getD env 1 undef) (List.getD env 2 undef) x3 (List.getD env 8 undef) x9 (List.getD env 13 undef) x16 H).mpr h)
noncomputable def F3.o17 : List Oper := opsIn (codeAt (bodyOf Try.f3) [.r, .r, .r, .r, .r, .r, .r, .r, .r, .r, .r, .r, .r, .r, .r, .r, .r, .r, .r, .r, .r, .l])
def F3.B17 (Post : Value → AHeap → Prop) (x1 : Value) (x2 : Value) (x3 : Nat) (x8 : Value) (x9 : Int) (x13 : Value) (x16 : Int) (H : AHeap) : Prop :=
  AC Try.prog T0 13 [x13, (Value.int .i64 x16)] H (fun v1 H2 => asI .i64 v1 (fun v3 => F3.B16 Post x1 x2 x3 x8 x9 x13 v3 H2))
def F3.B17.e (Post : Value → AHeap → Prop) : EP := fun env H => pif (Nat.beq (List.length env) 138) (asX (List.getD env 3 undef) (fun x3 => asI .i64 (List.getD env 9 undef) (fun x9 => asI .i64 (List.getD env 16 undef) (fun x16 => F3.B17 Post (List.getD env 1 undef) (List.getD env 2 undef) x3 (List.getD env 8 undef) x9 (List.getD env 13 undef) x16 H)))) False
theorem F3.q17 (u : Nat → Value) (Post : Value → AHeap → Prop) (x1 : Value) (x2 : Value) (x3 : Nat) (x8 : Value) (x9 : Int) (x13 : Value) (x16 : Int) (H : AHeap) : aOps Try.prog T0 F3.o17 F3.o17 (mkEnv (upd (upd (upd (upd (upd (upd (upd u 1 x1) 2 x2) 3 (Value.pointer (some ⟨x3, 0, none⟩))) 8 x8) 9 (Value.int .i64 x9)) 13 x13) 16 (Value.int .i64 x16)) 138 0) H (F3.B16.e Post) = F3.B17 Post x1 x2 x3 x8 x9 x13 x16 H := by kernel_rfl
theorem F3.r17 (Post : Value → AHeap → Prop) : ∀ env H, F3.B17.e Post env H → aOps Try.prog T0 F3.o17 F3.o17 env H (F3.B16.e Post) := by
  intro env H h
  obtain ⟨hl, h⟩ := lenE h
  obtain ⟨x3, e3, h⟩ := asX_elim h
  obtain ⟨x9, e9, h⟩ := asI_elim h
  obtain ⟨x16, e16, h⟩ := asI_elim h
  exact use_ops hl (upd_step (upd_step (upd_step (upd_step (upd_step (upd_step (upd_step rfl rfl) rfl) e3) rfl) e9) rfl) e16) ((F3.q17 _ Post (List.getD env 1 undef) (List.getD env 2 undef) x3 (List.getD env 8 undef) x9 (List.getD env 13 undef) x16 H).mpr h)
noncomputable def F3.o18 : List Oper := opsIn (codeAt (bodyOf Try.f3) [.r, .r, .r, .r, .r, .r, .r, .r, .r, .r, .r, .r, .r, .r, .r, .r, .r, .r, .r, .r, .l])
def F3.B18 (Post : Value → AHeap → Prop) (x1 : Value) (x2 : Value) (x3 : Nat) (x8 : Value) (x9 : Int) (x13 : Value) (H : AHeap) : Prop :=
  F3.B17 Post x1 x2 x3 x8 x9 x13 1 H
def F3.B18.e (Post : Value → AHeap → Prop) : EP := fun env H => pif (Nat.beq (List.length env) 138) (asX (List.getD env 3 undef) (fun x3 => asI .i64 (List.getD env 9 undef) (fun x9 => F3.B18 Post (List.getD env 1 undef) (List.getD env 2 undef) x3 (List.getD env 8 undef) x9 (List.getD env 13 undef) H))) False
theorem F3.q18 (u : Nat → Value) (Post : Value → AHeap → Prop) (x1 : Value) (x2 : Value) (x3 : Nat) (x8 : Value) (x9 : Int) (x13 : Value) (H : AHeap) : aOps Try.prog T0 F3.o18 F3.o18 (mkEnv (upd (upd (upd (upd (upd (upd u 1 x1) 2 x2) 3 (Value.pointer (some ⟨x3, 0, none⟩))) 8 x8) 9 (Value.int .i64 x9)) 13 x13) 138 0) H (F3.B17.e Post) = F3.B18 Post x1 x2 x3 x8 x9 x13 H := by kernel_rfl
theorem F3.r18 (Post : Value → AHeap → Prop) : ∀ env H, F3.B18.e Post env H → aOps Try.prog T0 F3.o18 F3.o18 env H (F3.B17.e Post) := by
  intro env H h
  obtain ⟨hl, h⟩ := lenE h
  obtain ⟨x3, e3, h⟩ := asX_elim h
  obtain ⟨x9, e9, h⟩ := asI_elim h
  exact use_ops hl (upd_step (upd_step (upd_step (upd_step (upd_step (upd_step rfl rfl) rfl) e3) rfl) e9) rfl) ((F3.q18 _ Post (List.getD env 1 undef) (List.getD env 2 undef) x3 (List.getD env 8 undef) x9 (List.getD env 13 undef) H).mpr h)
noncomputable def F3.o19 : List Oper := opsIn (codeAt (bodyOf Try.f3) [.r, .r, .r, .r, .r, .r, .r, .r, .r, .r, .r, .r, .r, .r, .r, .r, .r, .r, .r, .l, .r, .l, .l])
def F3.B19 (Post : Value → AHeap → Prop) (H : AHeap) : Prop :=
  Post (Value.bool false) H
def F3.B19.e (Post : Value → AHeap → Prop) : EP := fun env H => pif (Nat.beq (List.length env) 138) (F3.B19 Post H) False
theorem F3.q19 (u : Nat → Value) (Post : Value → AHeap → Prop) (H : AHeap) : aOps Try.prog T0 F3.o19 F3.o19 (mkEnv u 138 0) H (F3.ret Post) = F3.B19 Post H := by kernel_rfl
theorem F3.r19 (Post : Value → AHeap → Prop) : ∀ env H, F3.B19.e Post env H → aOps Try.prog T0 F3.o19 F3.o19 env H (F3.ret Post) := by
  intro env H h
  obtain ⟨hl, h⟩ := lenE h
  exact use_ops hl rfl ((F3.q19 _ Post H).mpr h)
noncomputable def F3.o20 : List Oper := opsIn (codeAt (bodyOf Try.f3) [.r, .r, .r, .r, .r, .r, .r, .r, .r, .r, .r, .r, .r, .r, .r, .r, .r, .r, .r, .l, .l])
def F3.B20 (Post : Value → AHeap → Prop) (x1 : Value) (x2 : Value) (x3 : Nat) (x8 : Value) (x9 : Int) (x13 : Value) (x14 : Int) (x15 : Int) (H : AHeap) : Prop :=
  pif (decide ((x15 : Int) < 0)) (F3.B19 Post H) (AC Try.prog T0 10 [x13, x8] H (fun v1 H2 => asB v1 (fun v3 => pif (!v3) (F3.B19 Post H2) (pif ((x14 : Int) != x9) (F3.B19 Post H2) (F3.B18 Post x1 x2 x3 x8 x9 x13 H2)))))
def F3.B20.e (Post : Value → AHeap → Prop) : EP := fun env H => pif (Nat.beq (List.length env) 138) (asX (List.getD env 3 undef) (fun x3 => asI .i64 (List.getD env 9 undef) (fun x9 => asI .i64 (List.getD env 14 undef) (fun x14 => asI .i64 (List.getD env 15 undef) (fun x15 => F3.B20 Post (List.getD env 1 undef) (List.getD env 2 undef) x3 (List.getD env 8 undef) x9 (List.getD env 13 undef) x14 x15 H))))) False
theorem F3.q20 (u : Nat → Value) (Post : Value → AHeap → Prop) (x1 : Value) (x2 : Value) (x3 : Nat) (x8 : Value) (x9 : Int) (x13 : Value) (x14 : Int) (x15 : Int) (H : AHeap) : aOps Try.prog T0 F3.o20 F3.o20 (mkEnv (upd (upd (upd (upd (upd (upd (upd (upd u 1 x1) 2 x2) 3 (Value.pointer (some ⟨x3, 0, none⟩))) 8 x8) 9 (Value.int .i64 x9)) 13 x13) 14 (Value.int .i64 x14)) 15 (Value.int .i64 x15)) 138 0) H (fun env H => asB (aev env (.tmp 99)) (fun b => pif b ((F3.B19.e Post) env H) ((F3.B18.e Post) env H))) = F3.B20 Post x1 x2 x3 x8 x9 x13 x14 x15 H := by kernel_rfl
theorem F3.r20 (Post : Value → AHeap → Prop) : ∀ env H, F3.B20.e Post env H → aOps Try.prog T0 F3.o20 F3.o20 env H (fun env H => asB (aev env (.tmp 99)) (fun b => pif b ((F3.B19.e Post) env H) ((F3.B18.e Post) env H))) := by
  intro env H h
  obtain ⟨hl, h⟩ := lenE h
  obtain ⟨x3, e3, h⟩ := asX_elim h
  obtain ⟨x9, e9, h⟩ := asI_elim h
  obtain ⟨x14, e14, h⟩ := asI_elim h
  obtain ⟨x15, e15, h⟩ := asI_elim h
  exact use_ops hl (upd_step (upd_step (upd_step (upd_step (upd_step (upd_step (upd_step (upd_step rfl rfl) rfl) e3) rfl) e9) rfl) e14) e15) ((F3.q20 _ Post (List.getD env 1 undef) (List.getD env 2 undef) x3 (List.getD env 8 undef) x9 (List.getD env 13 undef) x14 x15 H).mpr h)
noncomputable def F3.o21 : List Oper := opsIn (codeAt (bodyOf Try.f3) [.r, .r, .r, .r, .r, .r, .r, .r, .r, .r, .r, .r, .r, .r, .r, .r, .r, .r, .l])
def F3.B21 (Post : Value → AHeap → Prop) (x1 : Value) (x2 : Value) (x3 : Nat) (x8 : Value) (x9 : Int) (x12 : Value) (x13 : Value) (x14 : Int) (x15 : Int) (H : AHeap) : Prop :=
  AC Try.prog T0 13 [x12, (Value.int .i64 x15)] H (fun v1 H2 => asI .i64 v1 (fun v3 => F3.B20 Post x1 x2 x3 x8 x9 x13 x14 v3 H2))
def F3.B21.e (Post : Value → AHeap → Prop) : EP := fun env H => pif (Nat.beq (List.length env) 138) (asX (List.getD env 3 undef) (fun x3 => asI .i64 (List.getD env 9 undef) (fun x9 => asI .i64 (List.getD env 14 undef) (fun x14 => asI .i64 (List.getD env 15 undef) (fun x15 => F3.B21 Post (List.getD env 1 undef) (List.getD env 2 undef) x3 (List.getD env 8 undef) x9 (List.getD env 12 undef) (List.getD env 13 undef) x14 x15 H))))) False
theorem F3.q21 (u : Nat → Value) (Post : Value → AHeap → Prop) (x1 : Value) (x2 : Value) (x3 : Nat) (x8 : Value) (x9 : Int) (x12 : Value) (x13 : Value) (x14 : Int) (x15 : Int) (H : AHeap) : aOps Try.prog T0 F3.o21 F3.o21 (mkEnv (upd (upd (upd (upd (upd (upd (upd (upd (upd u 1 x1) 2 x2) 3 (Value.pointer (some ⟨x3, 0, none⟩))) 8 x8) 9 (Value.int .i64 x9)) 12 x12) 13 x13) 14 (Value.int .i64 x14)) 15 (Value.int .i64 x15)) 138 0) H (F3.B20.e Post) = F3.B21 Post x1 x2 x3 x8 x9 x12 x13 x14 x15 H := by kernel_rfl
theorem F3.r21 (Post : Value → AHeap → Prop) : ∀ env H, F3.B21.e Post env H → aOps Try.prog T0 F3.o21 F3.o21 env H (F3.B20.e Post) := by
  intro env H h
  obtain ⟨hl, h⟩ := lenE h
  obtain ⟨x3, e3, h⟩ := asX_elim h
  obtain ⟨x9, e9, h⟩ := asI_elim h
  obtain ⟨x14, e14, h⟩ := asI_elim h
  obtain ⟨x15, e15, h⟩ := asI_elim h
  exact use_ops hl (upd_step (upd_step (upd_step (upd_step (upd_step (upd_step (upd_step (upd_step (upd_step rfl rfl) rfl) e3) rfl) e9) rfl) rfl) e14) e15) ((F3.q21 _ Post (List.getD env 1 undef) (List.getD env 2 undef) x3 (List.getD env 8 undef) x9 (List.getD env 12 undef) (List.getD env 13 undef) x14 x15 H).mpr h)
noncomputable def F3.o22 : List Oper := opsIn (codeAt (bodyOf Try.f3) [.r, .r, .r, .r, .r, .r, .r, .r, .r, .r, .r, .r, .r, .r, .r, .r, .r, .l])
def F3.B22 (Post : Value → AHeap → Prop) (x1 : Value) (x2 : Value) (x3 : Nat) (x8 : Value) (x9 : Int) (x11 : Value) (x12 : Value) (x13 : Value) (x14 : Int) (x15 : Int) (H : AHeap) : Prop :=
  AC Try.prog T0 13 [x11, (Value.int .i64 x15)] H (fun v1 H2 => asI .i64 v1 (fun v3 => F3.B21 Post x1 x2 x3 x8 x9 x12 x13 x14 v3 H2))
def F3.B22.e (Post : Value → AHeap → Prop) : EP := fun env H => pif (Nat.beq (List.length env) 138) (asX (List.getD env 3 undef) (fun x3 => asI .i64 (List.getD env 9 undef) (fun x9 => asI .i64 (List.getD env 14 undef) (fun x14 => asI .i64 (List.getD env 15 undef) (fun x15 => F3.B22 Post (List.getD env 1 undef) (List.getD env 2 undef) x3 (List.getD env 8 undef) x9 (List.getD env 11 undef) (List.getD env 12 undef) (List.getD env 13 undef) x14 x15 H))))) False
theorem F3.q22 (u : Nat → Value) (Post : Value → AHeap → Prop) (x1 : Value) (x2 : Value) (x3 : Nat) (x8 : Value) (x9 : Int) (x11 : Value) (x12 : Value) (x13 : Value) (x14 : Int) (x15 : Int) (H : AHeap) : aOps Try.prog T0 F3.o22 F3.o22 (mkEnv (upd (upd (upd (upd (upd (upd (upd (upd (upd (upd u 1 x1) 2 x2) 3 (Value.pointer (some ⟨x3, 0, none⟩))) 8 x8) 9 (Value.int .i64 x9)) 11 x11) 12 x12) 13 x13) 14 (Value.int .i64 x14)) 15 (Value.int .i64 x15)) 138 0) H (F3.B21.e Post) = F3.B22 Post x1 x2 x3 x8 x9 x11 x12 x13 x14 x15 H := by kernel_rfl
theorem F3.r22 (Post : Value → AHeap → Prop) : ∀ env H, F3.B22.e Post env H → aOps Try.prog T0 F3.o22 F3.o22 env H (F3.B21.e Post) := by
  intro env H h
  obtain ⟨hl, h⟩ := lenE h
  obtain ⟨x3, e3, h⟩ := asX_elim h
  obtain ⟨x9, e9, h⟩ := asI_elim h
  obtain ⟨x14, e14, h⟩ := asI_elim h
  obtain ⟨x15, e15, h⟩ := asI_elim h
  exact use_ops hl (upd_step (upd_step (upd_step (upd_step (upd_step (upd_step (upd_step (upd_step (upd_step (upd_step rfl rfl) rfl) e3) rfl) e9) rfl) rfl) rfl) e14) e15) ((F3.q22 _ Post (List.getD env 1 undef) (List.getD env 2 undef) x3 (List.getD env 8 undef) x9 (List.getD env 11 undef) (List.getD env 12 undef) (List.getD env 13 undef) x14 x15 H).mpr h)
noncomputable def F3.o23 : List Oper := opsIn (codeAt (bodyOf Try.f3) [.r, .r, .r, .r, .r, .r, .r, .r, .r, .r, .r, .r, .r, .r, .r, .r, .l])
def F3.B23 (Post : Value → AHeap → Prop) (x1 : Value) (x2 : Value) (x3 : Nat) (x8 : Value) (x9 : Int) (x10 : Nat) (x11 : Value) (x12 : Value) (x13 : Value) (x14 : Int) (x15 : Int) (H : AHeap) : Prop :=
  ldI .i64 H x10 0 (fun v1 => ld1 H x10 1 (fun v2 => AC Try.prog T0 12 [(Value.agg ⟨[(Value.int .i64 v1), v2]⟩), (Value.int .i64 x15)] H (fun v3 H4 => asI .i64 v3 (fun v5 => F3.B22 Post x1 x2 x3 x8 x9 x11 x12 x13 x14 v5 H4))))
def F3.B23.e (Post : Value → AHeap → Prop) : EP := fun env H => pif (Nat.beq (List.length env) 138) (asX (List.getD env 3 undef) (fun x3 => asI .i64 (List.getD env 9 undef) (fun x9 => asX (List.getD env 10 undef) (fun x10 => asI .i64 (List.getD env 14 undef) (fun x14 => asI .i64 (List.getD env 15 undef) (fun x15 => F3.B23 Post (List.getD env 1 undef) (List.getD env 2 undef) x3 (List.getD env 8 undef) x9 x10 (List.getD env 11 undef) (List.getD env 12 undef) (List.getD env 13 undef) x14 x15 H)))))) False
theorem F3.q23 (u : Nat → Value) (Post : Value → AHeap → Prop) (x1 : Value) (x2 : Value) (x3 : Nat) (x8 : Value) (x9 : Int) (x10 : Nat) (x11 : Value) (x12 : Value) (x13 : Value) (x14 : Int) (x15 : Int) (H : AHeap) : aOps Try.prog T0 F3.o23 F3.o23 (mkEnv (upd (upd (upd (upd (upd (upd (upd (upd (upd (upd (upd u 1 x1) 2 x2) 3 (Value.pointer (some ⟨x3, 0, none⟩))) 8 x8) 9 (Value.int .i64 x9)) 10 (Value.pointer (some ⟨x10, 0, none⟩))) 11 x11) 12 x12) 13 x13) 14 (Value.int .i64 x14)) 15 (Value.int .i64 x15)) 138 0) H (F3.B22.e Post) = F3.B23 Post x1 x2 x3 x8 x9 x10 x11 x12 x13 x14 x15 H := by kernel_rfl
theorem F3.r23 (Post : Value → AHeap → Prop) : ∀ env H, F3.B23.e Post env H → aOps Try.prog T0 F3.o23 F3.o23 env H (F3.B22.e Post) := by
  intro env H h
  obtain ⟨hl, h⟩ := lenE h
  obtain ⟨x3, e3, h⟩ := asX_elim h
  obtain ⟨x9, e9, h⟩ := asI_elim h
  obtain ⟨x10, e10, h⟩ := asX_elim h
  obtain ⟨x14, e14, h⟩ := asI_elim h
  obtain ⟨x15, e15, h⟩ := asI_elim h
  exact use_ops hl (upd_step (upd_step (upd_step (upd_step (upd_step (upd_step (upd_step (upd_step (upd_step (upd_step (upd_step rfl rfl) rfl) e3) rfl) e9) e10) rfl) rfl) rfl) e14) e15) ((F3.q23 _ Post (List.getD env 1 undef) (List.getD env 2 undef) x3 (List.getD env 8 undef) x9 x10 (List.getD env 11 undef) (List.getD env 12 undef) (List.getD env 13 undef) x14 x15 H).mpr h)
noncomputable def F3.o24 : List Oper := opsIn (codeAt (bodyOf Try.f3) [.r, .r, .r, .r, .r, .r, .r, .r, .r, .r, .r, .r, .r, .r, .r, .l])
def F3.B24 (Post : Value → AHeap → Prop) (x1 : Value) (x2 : Value) (x3 : Nat) (x8 : Value) (x9 : Int) (x10 : Nat) (x11 : Value) (x12 : Value) (x13 : Value) (x14 : Int) (H : AHeap) : Prop :=
  F3.B23 Post x1 x2 x3 x8 x9 x10 x11 x12 x13 x14 1 H
def F3.B24.e (Post : Value → AHeap → Prop) : EP := fun env H => pif (Nat.beq (List.length env) 138) (asX (List.getD env 3 undef) (fun x3 => asI .i64 (List.getD env 9 undef) (fun x9 => asX (List.getD env 10 undef) (fun x10 => asI .i64 (List.getD env 14 undef) (fun x14 => F3.B24 Post (List.getD env 1 undef) (List.getD env 2 undef) x3 (List.getD env 8 undef) x9 x10 (List.getD env 11 undef) (List.getD env 12 undef) (List.getD env 13 undef) x14 H))))) False
theorem F3.q24 (u : Nat → Value) (Post : Value → AHeap → Prop) (x1 : Value) (x2 : Value) (x3 : Nat) (x8 : Value) (x9 : Int) (x10 : Nat) (x11 : Value) (x12 : Value) (x13 : Value) (x14 : Int) (H : AHeap) : aOps Try.prog T0 F3.o24 F3.o24 (mkEnv (upd (upd (upd (upd (upd (upd (upd (upd (upd (upd u 1 x1) 2 x2) 3 (Value.pointer (some ⟨x3, 0, none⟩))) 8 x8) 9 (Value.int .i64 x9)) 10 (Value.pointer (some ⟨x10, 0, none⟩))) 11 x11) 12 x12) 13 x13) 14 (Value.int .i64 x14)) 138 0) H (F3.B23.e Post) = F3.B24 Post x1 x2 x3 x8 x9 x10 x11 x12 x13 x14 H := by kernel_rfl
theorem F3.r24 (Post : Value → AHeap → Prop) : ∀ env H, F3.B24.e Post env H → aOps Try.prog T0 F3.o24 F3.o24 env H (F3.B23.e Post) := by
  intro env H h
  obtain ⟨hl, h⟩ := lenE h
  obtain ⟨x3, e3, h⟩ := asX_elim h
  obtain ⟨x9, e9, h⟩ := asI_elim h
  obtain ⟨x10, e10, h⟩ := asX_elim h
  obtain ⟨x14, e14, h⟩ := asI_elim h
  exact use_ops hl (upd_step (upd_step (upd_step (upd_step (upd_step (upd_step (upd_step (upd_step (upd_step (upd_step rfl rfl) rfl) e3) rfl) e9) e10) rfl) rfl) rfl) e14) ((F3.q24 _ Post (List.getD env 1 undef) (List.getD env 2 undef) x3 (List.getD env 8 undef) x9 x10 (List.getD env 11 undef) (List.getD env 12 undef) (List.getD env 13 undef) x14 H).mpr h)
noncomputable def F3.o25 : List Oper := opsIn (codeAt (bodyOf Try.f3) [.r, .r, .r, .r, .r, .r, .r, .r, .r, .r, .r, .r, .r, .r, .l, .r, .l, .l])
def F3.B25 (Post : Value → AHeap → Prop) (H : AHeap) : Prop :=
  Post (Value.bool false) H
def F3.B25.e (Post : Value → AHeap → Prop) : EP := fun env H => pif (Nat.beq (List.length env) 138) (F3.B25 Post H) False
theorem F3.q25 (u : Nat → Value) (Post : Value → AHeap → Prop) (H : AHeap) : aOps Try.prog T0 F3.o25 F3.o25 (mkEnv u 138 0) H (F3.ret Post) = F3.B25 Post H := by kernel_rfl
theorem F3.r25 (Post : Value → AHeap → Prop) : ∀ env H, F3.B25.e Post env H → aOps Try.prog T0 F3.o25 F3.o25 env H (F3.ret Post) := by
  intro env H h
  obtain ⟨hl, h⟩ := lenE h
  exact use_ops hl rfl ((F3.q25 _ Post H).mpr h)
noncomputable def F3.o26 : List Oper := opsIn (codeAt (bodyOf Try.f3) [.r, .r, .r, .r, .r, .r, .r, .r, .r, .r, .r, .r, .r, .r, .l, .l])
def F3.B26 (Post : Value → AHeap → Prop) (x1 : Value) (x2 : Value) (x3 : Nat) (x8 : Value) (x9 : Int) (x10 : Nat) (x11 : Value) (x12 : Value) (x13 : Value) (x14 : Int) (H : AHeap) : Prop :=
  AC Try.prog T0 8 [x2] H (fun v1 H2 => AC Try.prog T0 10 [x12, v1] H2 (fun v4 H5 => asB v4 (fun v6 => pif (!v6) (F3.B25 Post H5) (F3.B24 Post x1 x2 x3 x8 x9 x10 x11 x12 x13 x14 H5))))
def F3.B26.e (Post : Value → AHeap → Prop) : EP := fun env H => pif (Nat.beq (List.length env) 138) (asX (List.getD env 3 undef) (fun x3 => asI .i64 (List.getD env 9 undef) (fun x9 => asX (List.getD env 10 undef) (fun x10 => asI .i64 (List.getD env 14 undef) (fun x14 => F3.B26 Post (List.getD env 1 undef) (List.getD env 2 undef) x3 (List.getD env 8 undef) x9 x10 (List.getD env 11 undef) (List.getD env 12 undef) (List.getD env 13 undef) x14 H))))) False
theorem F3.q26 (u : Nat → Value) (Post : Value → AHeap → Prop) (x1 : Value) (x2 : Value) (x3 : Nat) (x8 : Value) (x9 : Int) (x10 : Nat) (x11 : Value) (x12 : Value) (x13 : Value) (x14 : Int) (H : AHeap) : aOps Try.prog T0 F3.o26 F3.o26 (mkEnv (upd (upd (upd (upd (upd (upd (upd (upd (upd (upd u 1 x1) 2 x2) 3 (Value.pointer (some ⟨x3, 0, none⟩))) 8 x8) 9 (Value.int .i64 x9)) 10 (Value.pointer (some ⟨x10, 0, none⟩))) 11 x11) 12 x12) 13 x13) 14 (Value.int .i64 x14)) 138 0) H (fun env H => asB (aev env (.tmp 77)) (fun b => pif b ((F3.B25.e Post) env H) ((F3.B24.e Post) env H))) = F3.B26 Post x1 x2 x3 x8 x9 x10 x11 x12 x13 x14 H := by kernel_rfl
theorem F3.r26 (Post : Value → AHeap → Prop) : ∀ env H, F3.B26.e Post env H → aOps Try.prog T0 F3.o26 F3.o26 env H (fun env H => asB (aev env (.tmp 77)) (fun b => pif b ((F3.B25.e Post) env H) ((F3.B24.e Post) env H))) := by
  intro env H h
  obtain ⟨hl, h⟩ := lenE h
  obtain ⟨x3, e3, h⟩ := asX_elim h
  obtain ⟨x9, e9, h⟩ := asI_elim h
  obtain ⟨x10, e10, h⟩ := asX_elim h
  obtain ⟨x14, e14, h⟩ := asI_elim h
  exact use_ops hl (upd_step (upd_step (upd_step (upd_step (upd_step (upd_step (upd_step (upd_step (upd_step (upd_step rfl rfl) rfl) e3) rfl) e9) e10) rfl) rfl) rfl) e14) ((F3.q26 _ Post (List.getD env 1 undef) (List.getD env 2 undef) x3 (List.getD env 8 undef) x9 x10 (List.getD env 11 undef) (List.getD env 12 undef) (List.getD env 13 undef) x14 H).mpr h)
noncomputable def F3.o27 : List Oper := opsIn (codeAt (bodyOf Try.f3) [.r, .r, .r, .r, .r, .r, .r, .r, .r, .r, .r, .r, .r, .l, .r, .l, .l])
def F3.B27 (Post : Value → AHeap → Prop) (H : AHeap) : Prop :=
  Post (Value.bool false) H
def F3.B27.e (Post : Value → AHeap → Prop) : EP := fun env H => pif (Nat.beq (List.length env) 138) (F3.B27 Post H) False
theorem F3.q27 (u : Nat → Value) (Post : Value → AHeap → Prop) (H : AHeap) : aOps Try.prog T0 F3.o27 F3.o27 (mkEnv u 138 0) H (F3.ret Post) = F3.B27 Post H := by kernel_rfl
theorem F3.r27 (Post : Value → AHeap → Prop) : ∀ env H, F3.B27.e Post env H → aOps Try.prog T0 F3.o27 F3.o27 env H (F3.ret Post) := by
  intro env H h
  obtain ⟨hl, h⟩ := lenE h
  exact use_ops hl rfl ((F3.q27 _ Post H).mpr h)
noncomputable def F3.o28 : List Oper := opsIn (codeAt (bodyOf Try.f3) [.r, .r, .r, .r, .r, .r, .r, .r, .r, .r, .r, .r, .r, .l, .l])
def F3.B28 (Post : Value → AHeap → Prop) (x1 : Value) (x2 : Value) (x3 : Nat) (x8 : Value) (x9 : Int) (x10 : Nat) (x11 : Value) (x12 : Value) (x13 : Value) (x14 : Int) (H : AHeap) : Prop :=
  AC Try.prog T0 8 [x1] H (fun v1 H2 => AC Try.prog T0 10 [x11, v1] H2 (fun v4 H5 => asB v4 (fun v6 => pif (!v6) (F3.B27 Post H5) (F3.B26 Post x1 x2 x3 x8 x9 x10 x11 x12 x13 x14 H5))))
def F3.B28.e (Post : Value → AHeap → Prop) : EP := fun env H => pif (Nat.beq (List.length env) 138) (asX (List.getD env 3 undef) (fun x3 => asI .i64 (List.getD env 9 undef) (fun x9 => asX (List.getD env 10 undef) (fun x10 => asI .i64 (List.getD env 14 undef) (fun x14 => F3.B28 Post (List.getD env 1 undef) (List.getD env 2 undef) x3 (List.getD env 8 undef) x9 x10 (List.getD env 11 undef) (List.getD env 12 undef) (List.getD env 13 undef) x14 H))))) False
theorem F3.q28 (u : Nat → Value) (Post : Value → AHeap → Prop) (x1 : Value) (x2 : Value) (x3 : Nat) (x8 : Value) (x9 : Int) (x10 : Nat) (x11 : Value) (x12 : Value) (x13 : Value) (x14 : Int) (H : AHeap) : aOps Try.prog T0 F3.o28 F3.o28 (mkEnv (upd (upd (upd (upd (upd (upd (upd (upd (upd (upd u 1 x1) 2 x2) 3 (Value.pointer (some ⟨x3, 0, none⟩))) 8 x8) 9 (Value.int .i64 x9)) 10 (Value.pointer (some ⟨x10, 0, none⟩))) 11 x11) 12 x12) 13 x13) 14 (Value.int .i64 x14)) 138 0) H (fun env H => asB (aev env (.tmp 72)) (fun b => pif b ((F3.B27.e Post) env H) ((F3.B26.e Post) env H))) = F3.B28 Post x1 x2 x3 x8 x9 x10 x11 x12 x13 x14 H := by kernel_rfl
theorem F3.r28 (Post : Value → AHeap → Prop) : ∀ env H, F3.B28.e Post env H → aOps Try.prog T0 F3.o28 F3.o28 env H (fun env H => asB (aev env (.tmp 72)) (fun b => pif b ((F3.B27.e Post) env H) ((F3.B26.e Post) env H))) := by
  intro env H h
  obtain ⟨hl, h⟩ := lenE h
  obtain ⟨x3, e3, h⟩ := asX_elim h
  obtain ⟨x9, e9, h⟩ := asI_elim h
  obtain ⟨x10, e10, h⟩ := asX_elim h
  obtain ⟨x14, e14, h⟩ := asI_elim h
  exact use_ops hl (upd_step (upd_step (upd_step (upd_step (upd_step (upd_step (upd_step (upd_step (upd_step (upd_step rfl rfl) rfl) e3) rfl) e9) e10) rfl) rfl) rfl) e14) ((F3.q28 _ Post (List.getD env 1 undef) (List.getD env 2 undef) x3 (List.getD env 8 undef) x9 x10 (List.getD env 11 undef) (List.getD env 12 undef) (List.getD env 13 undef) x14 H).mpr h)
noncomputable def F3.o29 : List Oper := opsIn (codeAt (bodyOf Try.f3) [.r, .r, .r, .r, .r, .r, .r, .r, .r, .r, .r, .r, .l, .r, .l, .l])
def F3.B29 (Post : Value → AHeap → Prop) (H : AHeap) : Prop :=
  Post (Value.bool false) H
def F3.B29.e (Post : Value → AHeap → Prop) : EP := fun env H => pif (Nat.beq (List.length env) 138) (F3.B29 Post H) False
theorem F3.q29 (u : Nat → Value) (Post : Value → AHeap → Prop) (H : AHeap) : aOps Try.prog T0 F3.o29 F3.o29 (mkEnv u 138 0) H (F3.ret Post) = F3.B29 Post H := by kernel_rfl
theorem F3.r29 (Post : Value → AHeap → Prop) : ∀ env H, F3.B29.e Post env H → aOps Try.prog T0 F3.o29 F3.o29 env H (F3.ret Post) := by
  intro env H h
  obtain ⟨hl, h⟩ := lenE h
  exact use_ops hl rfl ((F3.q29 _ Post H).mpr h)
noncomputable def F3.o30 : List Oper := opsIn (codeAt (bodyOf Try.f3) [.r, .r, .r, .r, .r, .r, .r, .r, .r, .r, .r, .r, .l, .l])
def F3.B30 (Post : Value → AHeap → Prop) (x1 : Value) (x2 : Value) (x3 : Nat) (x8 : Value) (x9 : Int) (x10 : Nat) (x11 : Value) (x12 : Value) (x13 : Value) (x14 : Int) (H : AHeap) : Prop :=
  ldI .i64 H x10 0 (fun v1 => ld1 H x10 1 (fun v2 => ldI .i64 H x3 0 (fun v3 => ld1 H x3 1 (fun v4 => AC Try.prog T0 7 [(Value.agg ⟨[(Value.int .i64 v3), v4]⟩)] H (fun v5 H6 => agg2 v5 (fun v7 v8 => asI .i64 v7 (fun v9 => (AHeap.le H H6) ∧ (AC Try.prog T0 11 [(Value.agg ⟨[(Value.int .i64 v1), v2]⟩), (Value.agg ⟨[(Value.int .i64 v9), v8]⟩)] H6 (fun v11 H12 => asB v11 (fun v13 => pif (!v13) (F3.B29 Post H12) (F3.B28 Post x1 x2 x3 x8 x9 x10 x11 x12 x13 x14 H12)))))))))))
def F3.B30.e (Post : Value → AHeap → Prop) : EP := fun env H => pif (Nat.beq (List.length env) 138) (asX (List.getD env 3 undef) (fun x3 => asI .i64 (List.getD env 9 undef) (fun x9 => asX (List.getD env 10 undef) (fun x10 => asI .i64 (List.getD env 14 undef) (fun x14 => F3.B30 Post (List.getD env 1 undef) (List.getD env 2 undef) x3 (List.getD env 8 undef) x9 x10 (List.getD env 11 undef) (List.getD env 12 undef) (List.getD env 13 undef) x14 H))))) False
theorem F3.q30 (u : Nat → Value) (Post : Value → AHeap → Prop) (x1 : Value) (x2 : Value) (x3 : Nat) (x8 : Value) (x9 : Int) (x10 : Nat) (x11 : Value) (x12 : Value) (x13 : Value) (x14 : Int) (H : AHeap) : aOpsD Try.prog T0 F3.o30 (opsOf F3.o30 [(0, false), (1, false), (2, true), (3, false), (4, false)]) (mkEnv (upd (upd (upd (upd (upd (upd (upd (upd (upd (upd u 1 x1) 2 x2) 3 (Value.pointer (some ⟨x3, 0, none⟩))) 8 x8) 9 (Value.int .i64 x9)) 10 (Value.pointer (some ⟨x10, 0, none⟩))) 11 x11) 12 x12) 13 x13) 14 (Value.int .i64 x14)) 138 0) H (fun env H => asB (aev env (.tmp 67)) (fun b => pif b ((F3.B29.e Post) env H) ((F3.B28.e Post) env H))) = F3.B30 Post x1 x2 x3 x8 x9 x10 x11 x12 x13 x14 H := by kernel_rfl
theorem F3.r30 (Post : Value → AHeap → Prop) : ∀ env H, F3.B30.e Post env H → aOpsD Try.prog T0 F3.o30 (opsOf F3.o30 [(0, false), (1, false), (2, true), (3, false), (4, false)]) env H (fun env H => asB (aev env (.tmp 67)) (fun b => pif b ((F3.B29.e Post) env H) ((F3.B28.e Post) env H))) := by
  intro env H h
  obtain ⟨hl, h⟩ := lenE h
  obtain ⟨x3, e3, h⟩ := asX_elim h
  obtain ⟨x9, e9, h⟩ := asI_elim h
  obtain ⟨x10, e10, h⟩ := asX_elim h
  obtain ⟨x14, e14, h⟩ := asI_elim h
  exact use_opsD hl (upd_step (upd_step (upd_step (upd_step (upd_step (upd_step (upd_step (upd_step (upd_step (upd_step rfl rfl) rfl) e3) rfl) e9) e10) rfl) rfl) rfl) e14) ((F3.q30 _ Post (List.getD env 1 undef) (List.getD env 2 undef) x3 (List.getD env 8 undef) x9 x10 (List.getD env 11 undef) (List.getD env 12 undef) (List.getD env 13 undef) x14 H).mpr h)
noncomputable def F3.o31 : List Oper := opsIn (codeAt (bodyOf Try.f3) [.r, .r, .r, .r, .r, .r, .r, .r, .r, .r, .r, .l, .r, .l, .l])
def F3.B31 (Post : Value → AHeap → Prop) (H : AHeap) : Prop :=
  Post (Value.bool false) H
def F3.B31.e (Post : Value → AHeap → Prop) : EP := fun env H => pif (Nat.beq (List.length env) 138) (F3.B31 Post H) False
theorem F3.q31 (u : Nat → Value) (Post : Value → AHeap → Prop) (H : AHeap) : aOps Try.prog T0 F3.o31 F3.o31 (mkEnv u 138 0) H (F3.ret Post) = F3.B31 Post H := by kernel_rfl
theorem F3.r31 (Post : Value → AHeap → Prop) : ∀ env H, F3.B31.e Post env H → aOps Try.prog T0 F3.o31 F3.o31 env H (F3.ret Post) := by
  intro env H h
  obtain ⟨hl, h⟩ := lenE h
  exact use_ops hl rfl ((F3.q31 _ Post H).mpr h)
noncomputable def F3.o32 : List Oper := opsIn (codeAt (bodyOf Try.f3) [.r, .r, .r, .r, .r, .r, .r, .r, .r, .r, .r, .l, .l])
def F3.B32 (Post : Value → AHeap → Prop) (x1 : Value) (x2 : Value) (x3 : Nat) (x8 : Value) (x9 : Int) (x10 : Nat) (x11 : Value) (x12 : Value) (x13 : Value) (x14 : Int) (H : AHeap) : Prop :=
  AC Try.prog T0 10 [x13, x8] H (fun v1 H2 => asB v1 (fun v3 => pif (!v3) (F3.B31 Post H2) (pif ((x14 : Int) != x9) (F3.B31 Post H2) (F3.B30 Post x1 x2 x3 x8 x9 x10 x11 x12 x13 x14 H2))))
def F3.B32.e (Post : Value → AHeap → Prop) : EP := fun env H => pif (Nat.beq (List.length env) 138) (asX (List.getD env 3 undef) (fun x3 => asI .i64 (List.getD env 9 undef) (fun x9 => asX (List.getD env 10 undef) (fun x10 => asI .i64 (List.getD env 14 undef) (fun x14 => F3.B32 Post (List.getD env 1 undef) (List.getD env 2 undef) x3 (List.getD env 8 undef) x9 x10 (List.getD env 11 undef) (List.getD env 12 undef) (List.getD env 13 undef) x14 H))))) False
theorem F3.q32 (u : Nat → Value) (Post : Value → AHeap → Prop) (x1 : Value) (x2 : Value) (x3 : Nat) (x8 : Value) (x9 : Int) (x10 : Nat) (x11 : Value) (x12 : Value) (x13 : Value) (x14 : Int) (H : AHeap) : aOps Try.prog T0 F3.o32 F3.o32 (mkEnv (upd (upd (upd (upd (upd (upd (upd (upd (upd (upd u 1 x1) 2 x2) 3 (Value.pointer (some ⟨x3, 0, none⟩))) 8 x8) 9 (Value.int .i64 x9)) 10 (Value.pointer (some ⟨x10, 0, none⟩))) 11 x11) 12 x12) 13 x13) 14 (Value.int .i64 x14)) 138 0) H (fun env H => asB (aev env (.tmp 62)) (fun b => pif b ((F3.B31.e Post) env H) ((F3.B30.e Post) env H))) = F3.B32 Post x1 x2 x3 x8 x9 x10 x11 x12 x13 x14 H := by kernel_rfl
theorem F3.r32 (Post : Value → AHeap → Prop) : ∀ env H, F3.B32.e Post env H → aOps Try.prog T0 F3.o32 F3.o32 env H (fun env H => asB (aev env (.tmp 62)) (fun b => pif b ((F3.B31.e Post) env H) ((F3.B30.e Post) env H))) := by
  intro env H h
  obtain ⟨hl, h⟩ := lenE h
  obtain ⟨x3, e3, h⟩ := asX_elim h
  obtain ⟨x9, e9, h⟩ := asI_elim h
  obtain ⟨x10, e10, h⟩ := asX_elim h
  obtain ⟨x14, e14, h⟩ := asI_elim h
  exact use_ops hl (upd_step (upd_step (upd_step (upd_step (upd_step (upd_step (upd_step (upd_step (upd_step (upd_step rfl rfl) rfl) e3) rfl) e9) e10) rfl) rfl) rfl) e14) ((F3.q32 _ Post (List.getD env 1 undef) (List.getD env 2 undef) x3 (List.getD env 8 undef) x9 x10 (List.getD env 11 undef) (List.getD env 12 undef) (List.getD env 13 undef) x14 H).mpr h)
noncomputable def F3.o33 : List Oper := opsIn (codeAt (bodyOf Try.f3) [.r, .r, .r, .r, .r, .r, .r, .r, .r, .r, .l])
def F3.B33 (Post : Value → AHeap → Prop) (x1 : Value) (x2 : Value) (x3 : Nat) (x8 : Value) (x9 : Int) (x10 : Nat) (x11 : Value) (x12 : Value) (H : AHeap) : Prop :=
  ldI .i64 H x10 0 (fun v1 => ld1 H x10 1 (fun v2 => AC Try.prog T0 9 [(Value.agg ⟨[(Value.int .i64 v1), v2]⟩), x11, x12] H (fun v3 H4 => tup2 v3 (fun v5 v6 => asI .i64 v6 (fun v8 => F3.B32 Post x1 x2 x3 x8 x9 x10 x11 x12 v5 v8 H4)))))
def F3.B33.e (Post : Value → AHeap → Prop) : EP := fun env H => pif (Nat.beq (List.length env) 138) (asX (List.getD env 3 undef) (fun x3 => asI .i64 (List.getD env 9 undef) (fun x9 => asX (List.getD env 10 undef) (fun x10 => F3.B33 Post (List.getD env 1 undef) (List.getD env 2 undef) x3 (List.getD env 8 undef) x9 x10 (List.getD env 11 undef) (List.getD env 12 undef) H)))) False
theorem F3.q33 (u : Nat → Value) (Post : Value → AHeap → Prop) (x1 : Value) (x2 : Value) (x3 : Nat) (x8 : Value) (x9 : Int) (x10 : Nat) (x11 : Value) (x12 : Value) (H : AHeap) : aOps Try.prog T0 F3.o33 F3.o33 (mkEnv (upd (upd (upd (upd (upd (upd (upd (upd u 1 x1) 2 x2) 3 (Value.pointer (some ⟨x3, 0, none⟩))) 8 x8) 9 (Value.int .i64 x9)) 10 (Value.pointer (some ⟨x10, 0, none⟩))) 11 x11) 12 x12) 138 0) H (F3.B32.e Post) = F3.B33 Post x1 x2 x3 x8 x9 x10 x11 x12 H := by kernel_rfl
theorem F3.r33 (Post : Value → AHeap → Prop) : ∀ env H, F3.B33.e Post env H → aOps Try.prog T0 F3.o33 F3.o33 env H (F3.B32.e Post) := by
  intro env H h
  obtain ⟨hl, h⟩ := lenE h
  obtain ⟨x3, e3, h⟩ := asX_elim h
  obtain ⟨x9, e9, h⟩ := asI_elim h
  obtain ⟨x10, e10, h⟩ := asX_elim h
  exact use_ops hl (upd_step (upd_step (upd_step (upd_step (upd_step (upd_step (upd_step (upd_step rfl rfl) rfl) e3) rfl) e9) e10) rfl) rfl) ((F3.q33 _ Post (List.getD env 1 undef) (List.getD env 2 undef) x3 (List.getD env 8 undef) x9 x10 (List.getD env 11 undef) (List.getD env 12 undef) H).mpr h)
noncomputable def F3.o34 : List Oper := opsIn (codeAt (bodyOf Try.f3) [.r, .r, .r, .r, .r, .r, .r, .r, .r, .l])
def F3.B34 (Post : Value → AHeap → Prop) (x1 : Value) (x2 : Value) (x3 : Nat) (x8 : Value) (x9 : Int) (x10 : Nat) (x11 : Value) (H : AHeap) : Prop :=
  AC Try.prog T0 8 [x2] H (fun v1 H2 => F3.B33 Post x1 x2 x3 x8 x9 x10 x11 v1 H2)
def F3.B34.e (Post : Value → AHeap → Prop) : EP := fun env H => pif (Nat.beq (List.length env) 138) (asX (List.getD env 3 undef) (fun x3 => asI .i64 (List.getD env 9 undef) (fun x9 => asX (List.getD env 10 undef) (fun x10 => F3.B34 Post (List.getD env 1 undef) (List.getD env 2 undef) x3 (List.getD env 8 undef) x9 x10 (List.getD env 11 undef) H)))) False
theorem F3.q34 (u : Nat → Value) (Post : Value → AHeap → Prop) (x1 : Value) (x2 : Value) (x3 : Nat) (x8 : Value) (x9 : Int) (x10 : Nat) (x11 : Value) (H : AHeap) : aOps Try.prog T0 F3.o34 F3.o34 (mkEnv (upd (upd (upd (upd (upd (upd (upd u 1 x1) 2 x2) 3 (Value.pointer (some ⟨x3, 0, none⟩))) 8 x8) 9 (Value.int .i64 x9)) 10 (Value.pointer (some ⟨x10, 0, none⟩))) 11 x11) 138 0) H (F3.B33.e Post) = F3.B34 Post x1 x2 x3 x8 x9 x10 x11 H := by kernel_rfl
theorem F3.r34 (Post : Value → AHeap → Prop) : ∀ env H, F3.B34.e Post env H → aOps Try.prog T0 F3.o34 F3.o34 env H (F3.B33.e Post) := by
  intro env H h
  obtain ⟨hl, h⟩ := lenE h
  obtain ⟨x3, e3, h⟩ := asX_elim h
  obtain ⟨x9, e9, h⟩ := asI_elim h
  obtain ⟨x10, e10, h⟩ := asX_elim h
  exact use_ops hl (upd_step (upd_step (upd_step (upd_step (upd_step (upd_step (upd_step rfl rfl) rfl) e3) rfl) e9) e10) rfl) ((F3.q34 _ Post (List.getD env 1 undef) (List.getD env 2 undef) x3 (List.getD env 8 undef) x9 x10 (List.getD env 11 undef) H).mpr h)
noncomputable def F3.o35 : List Oper := opsIn (codeAt (bodyOf Try.f3) [.r, .r, .r, .r, .r, .r, .r, .r, .l])
def F3.B35 (Post : Value → AHeap → Prop) (x1 : Value) (x2 : Value) (x3 : Nat) (x8 : Value) (x9 : Int) (x10 : Nat) (H : AHeap) : Prop :=
  AC Try.prog T0 8 [x1] H (fun v1 H2 => F3.B34 Post x1 x2 x3 x8 x9 x10 v1 H2)
def F3.B35.e (Post : Value → AHeap → Prop) : EP := fun env H => pif (Nat.beq (List.length env) 138) (asX (List.getD env 3 undef) (fun x3 => asI .i64 (List.getD env 9 undef) (fun x9 => asX (List.getD env 10 undef) (fun x10 => F3.B35 Post (List.getD env 1 undef) (List.getD env 2 undef) x3 (List.getD env 8 undef) x9 x10 H)))) False
theorem F3.q35 (u : Nat → Value) (Post : Value → AHeap → Prop) (x1 : Value) (x2 : Value) (x3 : Nat) (x8 : Value) (x9 : Int) (x10 : Nat) (H : AHeap) : aOps Try.prog T0 F3.o35 F3.o35 (mkEnv (upd (upd (upd (upd (upd (upd u 1 x1) 2 x2) 3 (Value.pointer (some ⟨x3, 0, none⟩))) 8 x8) 9 (Value.int .i64 x9)) 10 (Value.pointer (some ⟨x10, 0, none⟩))) 138 0) H (F3.B34.e Post) = F3.B35 Post x1 x2 x3 x8 x9 x10 H := by kernel_rfl
theorem F3.r35 (Post : Value → AHeap → Prop) : ∀ env H, F3.B35.e Post env H → aOps Try.prog T0 F3.o35 F3.o35 env H (F3.B34.e Post) := by
  intro env H h
  obtain ⟨hl, h⟩ := lenE h
  obtain ⟨x3, e3, h⟩ := asX_elim h
  obtain ⟨x9, e9, h⟩ := asI_elim h
  obtain ⟨x10, e10, h⟩ := asX_elim h
  exact use_ops hl (upd_step (upd_step (upd_step (upd_step (upd_step (upd_step rfl rfl) rfl) e3) rfl) e9) e10) ((F3.q35 _ Post (List.getD env 1 undef) (List.getD env 2 undef) x3 (List.getD env 8 undef) x9 x10 H).mpr h)
noncomputable def F3.o36 : List Oper := opsIn (codeAt (bodyOf Try.f3) [.r, .r, .r, .r, .r, .r, .r, .l])
def F3.B36 (Post : Value → AHeap → Prop) (x1 : Value) (x2 : Value) (x3 : Nat) (x8 : Value) (x9 : Int) (H : AHeap) : Prop :=
  ldI .i64 H x3 0 (fun v1 => ld1 H x3 1 (fun v2 => AC Try.prog T0 7 [(Value.agg ⟨[(Value.int .i64 v1), v2]⟩)] H (fun v3 H4 => agg2 v3 (fun v5 v6 => asI .i64 v5 (fun v7 => newK H4 [(Value.int .i64 0), (Value.slice none 0 0)] 31 (fun b9 H10 => stK H10 b9 0 [(Value.int .i64 v7), v6] (fun H11 => F3.B35 Post x1 x2 x3 x8 x9 b9 H11)))))))
def F3.B36.e (Post : Value → AHeap → Prop) : EP := fun env H => pif (Nat.beq (List.length env) 138) (asX (List.getD env 3 undef) (fun x3 => asI .i64 (List.getD env 9 undef) (fun x9 => F3.B36 Post (List.getD env 1 undef) (List.getD env 2 undef) x3 (List.getD env 8 undef) x9 H))) False
theorem F3.q36 (u : Nat → Value) (Post : Value → AHeap → Prop) (x1 : Value) (x2 : Value) (x3 : Nat) (x8 : Value) (x9 : Int) (H : AHeap) : aOps Try.prog T0 F3.o36 F3.o36 (mkEnv (upd (upd (upd (upd (upd u 1 x1) 2 x2) 3 (Value.pointer (some ⟨x3, 0, none⟩))) 8 x8) 9 (Value.int .i64 x9)) 138 0) H (F3.B35.e Post) = F3.B36 Post x1 x2 x3 x8 x9 H := by kernel_rfl
theorem F3.r36 (Post : Value → AHeap → Prop) : ∀ env H, F3.B36.e Post env H → aOps Try.prog T0 F3.o36 F3.o36 env H (F3.B35.e Post) := by
  intro env H h
  obtain ⟨hl, h⟩ := lenE h
  obtain ⟨x3, e3, h⟩ := asX_elim h
  obtain ⟨x9, e9, h⟩ := asI_elim h
  exact use_ops hl (upd_step (upd_step (upd_step (upd_step (upd_step rfl rfl) rfl) e3) rfl) e9) ((F3.q36 _ Post (List.getD env 1 undef) (List.getD env 2 undef) x3 (List.getD env 8 undef) x9 H).mpr h)
noncomputable def F3.o37 : List Oper := opsIn (codeAt (bodyOf Try.f3) [.r, .r, .r, .r, .r, .r, .l])
def F3.B37 (Post : Value → AHeap → Prop) (x1 : Value) (x2 : Value) (x3 : Nat) (H : AHeap) : Prop :=
  ldI .i64 H x3 0 (fun v1 => ld1 H x3 1 (fun v2 => AC Try.prog T0 7 [(Value.agg ⟨[(Value.int .i64 v1), v2]⟩)] H (fun v3 H4 => agg2 v3 (fun v5 v6 => asI .i64 v5 (fun v7 => AC Try.prog T0 8 [x1] H4 (fun v9 H10 => AC Try.prog T0 8 [x2] H10 (fun v12 H13 => AC Try.prog T0 6 [(Value.agg ⟨[(Value.int .i64 v7), v6]⟩), v9, v12] H13 (fun v15 H16 => tup2 v15 (fun v17 v18 => asI .i64 v18 (fun v20 => F3.B36 Post x1 x2 x3 v17 v20 H16))))))))))
def F3.B37.e (Post : Value → AHeap → Prop) : EP := fun env H => pif (Nat.beq (List.length env) 138) (asX (List.getD env 3 undef) (fun x3 => F3.B37 Post (List.getD env 1 undef) (List.getD env 2 undef) x3 H)) False
theorem F3.q37 (u : Nat → Value) (Post : Value → AHeap → Prop) (x1 : Value) (x2 : Value) (x3 : Nat) (H : AHeap) : aOps Try.prog T0 F3.o37 F3.o37 (mkEnv (upd (upd (upd u 1 x1) 2 x2) 3 (Value.pointer (some ⟨x3, 0, none⟩))) 138 0) H (F3.B36.e Post) = F3.B37 Post x1 x2 x3 H := by kernel_rfl
theorem F3.r37 (Post : Value → AHeap → Prop) : ∀ env H, F3.B37.e Post env H → aOps Try.prog T0 F3.o37 F3.o37 env H (F3.B36.e Post) := by
  intro env H h
  obtain ⟨hl, h⟩ := lenE h
  obtain ⟨x3, e3, h⟩ := asX_elim h
  exact use_ops hl (upd_step (upd_step (upd_step rfl rfl) rfl) e3) ((F3.q37 _ Post (List.getD env 1 undef) (List.getD env 2 undef) x3 H).mpr h)
noncomputable def F3.o38 : List Oper := opsIn (codeAt (bodyOf Try.f3) [.r, .r, .r, .r, .r, .l, .r, .l, .l])
def F3.B38 (Post : Value → AHeap → Prop) (H : AHeap) : Prop :=
  Post (Value.bool true) H
def F3.B38.e (Post : Value → AHeap → Prop) : EP := fun env H => pif (Nat.beq (List.length env) 138) (F3.B38 Post H) False
theorem F3.q38 (u : Nat → Value) (Post : Value → AHeap → Prop) (H : AHeap) : aOps Try.prog T0 F3.o38 F3.o38 (mkEnv u 138 0) H (F3.ret Post) = F3.B38 Post H := by kernel_rfl
theorem F3.r38 (Post : Value → AHeap → Prop) : ∀ env H, F3.B38.e Post env H → aOps Try.prog T0 F3.o38 F3.o38 env H (F3.ret Post) := by
  intro env H h
  obtain ⟨hl, h⟩ := lenE h
  exact use_ops hl rfl ((F3.q38 _ Post H).mpr h)
noncomputable def F3.o39 : List Oper := opsIn (codeAt (bodyOf Try.f3) [.r, .r, .r, .r, .r, .l, .l])
def F3.B39 (Post : Value → AHeap → Prop) (x1 : Value) (x2 : Value) (x3 : Nat) (x7 : Int) (H : AHeap) : Prop :=
  pif (decide ((x7 : Int) < 0)) (F3.B38 Post H) (F3.B37 Post x1 x2 x3 H)
def F3.B39.e (Post : Value → AHeap → Prop) : EP := fun env H => pif (Nat.beq (List.length env) 138) (asX (List.getD env 3 undef) (fun x3 => asI .i64 (List.getD env 7 undef) (fun x7 => F3.B39 Post (List.getD env 1 undef) (List.getD env 2 undef) x3 x7 H))) False
theorem F3.q39 (u : Nat → Value) (Post : Value → AHeap → Prop) (x1 : Value) (x2 : Value) (x3 : Nat) (x7 : Int) (H : AHeap) : aOps Try.prog T0 F3.o39 F3.o39 (mkEnv (upd (upd (upd (upd u 1 x1) 2 x2) 3 (Value.pointer (some ⟨x3, 0, none⟩))) 7 (Value.int .i64 x7)) 138 0) H (fun env H => asB (aev env (.tmp 30)) (fun b => pif b ((F3.B38.e Post) env H) ((F3.B37.e Post) env H))) = F3.B39 Post x1 x2 x3 x7 H := by kernel_rfl
theorem F3.r39 (Post : Value → AHeap → Prop) : ∀ env H, F3.B39.e Post env H → aOps Try.prog T0 F3.o39 F3.o39 env H (fun env H => asB (aev env (.tmp 30)) (fun b => pif b ((F3.B38.e Post) env H) ((F3.B37.e Post) env H))) := by
  intro env H h
  obtain ⟨hl, h⟩ := lenE h
  obtain ⟨x3, e3, h⟩ := asX_elim h
  obtain ⟨x7, e7, h⟩ := asI_elim h
  exact use_ops hl (upd_step (upd_step (upd_step (upd_step rfl rfl) rfl) e3) e7) ((F3.q39 _ Post (List.getD env 1 undef) (List.getD env 2 undef) x3 x7 H).mpr h)
noncomputable def F3.o40 : List Oper := opsIn (codeAt (bodyOf Try.f3) [.r, .r, .r, .r, .l])
def F3.B40 (Post : Value → AHeap → Prop) (x1 : Value) (x2 : Value) (x3 : Nat) (x7 : Int) (H : AHeap) : Prop :=
  ldI .i64 H x3 0 (fun v1 => ld1 H x3 1 (fun v2 => AC Try.prog T0 5 [(Value.agg ⟨[(Value.int .i64 v1), v2]⟩), (Value.int .i64 x7)] H (fun v3 H4 => asI .i64 v3 (fun v5 => F3.B39 Post x1 x2 x3 v5 H4))))
def F3.B40.e (Post : Value → AHeap → Prop) : EP := fun env H => pif (Nat.beq (List.length env) 138) (asX (List.getD env 3 undef) (fun x3 => asI .i64 (List.getD env 7 undef) (fun x7 => F3.B40 Post (List.getD env 1 undef) (List.getD env 2 undef) x3 x7 H))) False
theorem F3.q40 (u : Nat → Value) (Post : Value → AHeap → Prop) (x1 : Value) (x2 : Value) (x3 : Nat) (x7 : Int) (H : AHeap) : aOps Try.prog T0 F3.o40 F3.o40 (mkEnv (upd (upd (upd (upd u 1 x1) 2 x2) 3 (Value.pointer (some ⟨x3, 0, none⟩))) 7 (Value.int .i64 x7)) 138 0) H (F3.B39.e Post) = F3.B40 Post x1 x2 x3 x7 H := by kernel_rfl
theorem F3.r40 (Post : Value → AHeap → Prop) : ∀ env H, F3.B40.e Post env H → aOps Try.prog T0 F3.o40 F3.o40 env H (F3.B39.e Post) := by
  intro env H h
  obtain ⟨hl, h⟩ := lenE h
  obtain ⟨x3, e3, h⟩ := asX_elim h
  obtain ⟨x7, e7, h⟩ := asI_elim h
  exact use_ops hl (upd_step (upd_step (upd_step (upd_step rfl rfl) rfl) e3) e7) ((F3.q40 _ Post (List.getD env 1 undef) (List.getD env 2 undef) x3 x7 H).mpr h)
noncomputable def F3.o41 : List Oper := opsIn (codeAt (bodyOf Try.f3) [.r, .r, .r, .l])
def F3.B41 (Post : Value → AHeap → Prop) (x1 : Value) (x2 : Value) (x3 : Nat) (H : AHeap) : Prop :=
  F3.B40 Post x1 x2 x3 1048576 H
def F3.B41.e (Post : Value → AHeap → Prop) : EP := fun env H => pif (Nat.beq (List.length env) 138) (asX (List.getD env 3 undef) (fun x3 => F3.B41 Post (List.getD env 1 undef) (List.getD env 2 undef) x3 H)) False
theorem F3.q41 (u : Nat → Value) (Post : Value → AHeap → Prop) (x1 : Value) (x2 : Value) (x3 : Nat) (H : AHeap) : aOps Try.prog T0 F3.o41 F3.o41 (mkEnv (upd (upd (upd u 1 x1) 2 x2) 3 (Value.pointer (some ⟨x3, 0, none⟩))) 138 0) H (F3.B40.e Post) = F3.B41 Post x1 x2 x3 H := by kernel_rfl
theorem F3.r41 (Post : Value → AHeap → Prop) : ∀ env H, F3.B41.e Post env H → aOps Try.prog T0 F3.o41 F3.o41 env H (F3.B40.e Post) := by
  intro env H h
  obtain ⟨hl, h⟩ := lenE h
  obtain ⟨x3, e3, h⟩ := asX_elim h
  exact use_ops hl (upd_step (upd_step (upd_step rfl rfl) rfl) e3) ((F3.q41 _ Post (List.getD env 1 undef) (List.getD env 2 undef) x3 H).mpr h)
noncomputable def F3.o42 : List Oper := opsIn (codeAt (bodyOf Try.f3) [.r, .r, .l, .r, .l, .l])
def F3.B42 (Post : Value → AHeap → Prop) (H : AHeap) : Prop :=
  Post (Value.bool true) H
def F3.B42.e (Post : Value → AHeap → Prop) : EP := fun env H => pif (Nat.beq (List.length env) 138) (F3.B42 Post H) False
theorem F3.q42 (u : Nat → Value) (Post : Value → AHeap → Prop) (H : AHeap) : aOps Try.prog T0 F3.o42 F3.o42 (mkEnv u 138 0) H (F3.ret Post) = F3.B42 Post H := by kernel_rfl
theorem F3.r42 (Post : Value → AHeap → Prop) : ∀ env H, F3.B42.e Post env H → aOps Try.prog T0 F3.o42 F3.o42 env H (F3.ret Post) := by
  intro env H h
  obtain ⟨hl, h⟩ := lenE h
  exact use_ops hl rfl ((F3.q42 _ Post H).mpr h)
noncomputable def F3.o43 : List Oper := opsIn (codeAt (bodyOf Try.f3) [.r, .r, .l, .l])
def F3.B43 (Post : Value → AHeap → Prop) (x1 : Value) (x2 : Value) (x3 : Nat) (H : AHeap) : Prop :=
  lenK x2 (fun n1 => pif (decide (((n1 : Int) : Int) > 1048576)) (F3.B42 Post H) (F3.B41 Post x1 x2 x3 H))
def F3.B43.e (Post : Value → AHeap → Prop) : EP := fun env H => pif (Nat.beq (List.length env) 138) (asX (List.getD env 3 undef) (fun x3 => F3.B43 Post (List.getD env 1 undef) (List.getD env 2 undef) x3 H)) False
theorem F3.q43 (u : Nat → Value) (Post : Value → AHeap → Prop) (x1 : Value) (x2 : Value) (x3 : Nat) (H : AHeap) : aOps Try.prog T0 F3.o43 F3.o43 (mkEnv (upd (upd (upd u 1 x1) 2 x2) 3 (Value.pointer (some ⟨x3, 0, none⟩))) 138 0) H (fun env H => asB (aev env (.tmp 25)) (fun b => pif b ((F3.B42.e Post) env H) ((F3.B41.e Post) env H))) = F3.B43 Post x1 x2 x3 H := by kernel_rfl
theorem F3.r43 (Post : Value → AHeap → Prop) : ∀ env H, F3.B43.e Post env H → aOps Try.prog T0 F3.o43 F3.o43 env H (fun env H => asB (aev env (.tmp 25)) (fun b => pif b ((F3.B42.e Post) env H) ((F3.B41.e Post) env H))) := by
  intro env H h
  obtain ⟨hl, h⟩ := lenE h
  obtain ⟨x3, e3, h⟩ := asX_elim h
  exact use_ops hl (upd_step (upd_step (upd_step rfl rfl) rfl) e3) ((F3.q43 _ Post (List.getD env 1 undef) (List.getD env 2 undef) x3 H).mpr h)
noncomputable def F3.o44 : List Oper := opsIn (codeAt (bodyOf Try.f3) [.r, .l, .r, .l, .l])
def F3.B44 (Post : Value → AHeap → Prop) (H : AHeap) : Prop :=
  Post (Value.bool true) H
def F3.B44.e (Post : Value → AHeap → Prop) : EP := fun env H => pif (Nat.beq (List.length env) 138) (F3.B44 Post H) False
theorem F3.q44 (u : Nat → Value) (Post : Value → AHeap → Prop) (H : AHeap) : aOps Try.prog T0 F3.o44 F3.o44 (mkEnv u 138 0) H (F3.ret Post) = F3.B44 Post H := by kernel_rfl
theorem F3.r44 (Post : Value → AHeap → Prop) : ∀ env H, F3.B44.e Post env H → aOps Try.prog T0 F3.o44 F3.o44 env H (F3.ret Post) := by
  intro env H h
  obtain ⟨hl, h⟩ := lenE h
  exact use_ops hl rfl ((F3.q44 _ Post H).mpr h)
noncomputable def F3.o45 : List Oper := opsIn (codeAt (bodyOf Try.f3) [.r, .l, .l])
def F3.B45 (Post : Value → AHeap → Prop) (x1 : Value) (x2 : Value) (x3 : Nat) (H : AHeap) : Prop :=
  lenK x1 (fun n1 => pif (decide (((n1 : Int) : Int) > 1048576)) (F3.B44 Post H) (F3.B43 Post x1 x2 x3 H))
def F3.B45.e (Post : Value → AHeap → Prop) : EP := fun env H => pif (Nat.beq (List.length env) 138) (asX (List.getD env 3 undef) (fun x3 => F3.B45 Post (List.getD env 1 undef) (List.getD env 2 undef) x3 H)) False
theorem F3.q45 (u : Nat → Value) (Post : Value → AHeap → Prop) (x1 : Value) (x2 : Value) (x3 : Nat) (H : AHeap) : aOps Try.prog T0 F3.o45 F3.o45 (mkEnv (upd (upd (upd u 1 x1) 2 x2) 3 (Value.pointer (some ⟨x3, 0, none⟩))) 138 0) H (fun env H => asB (aev env (.tmp 22)) (fun b => pif b ((F3.B44.e Post) env H) ((F3.B43.e Post) env H))) = F3.B45 Post x1 x2 x3 H := by kernel_rfl
theorem F3.r45 (Post : Value → AHeap → Prop) : ∀ env H, F3.B45.e Post env H → aOps Try.prog T0 F3.o45 F3.o45 env H (fun env H => asB (aev env (.tmp 22)) (fun b => pif b ((F3.B44.e Post) env H) ((F3.B43.e Post) env H))) := by
  intro env H h
  obtain ⟨hl, h⟩ := lenE h
  obtain ⟨x3, e3, h⟩ := asX_elim h
  exact use_ops hl (upd_step (upd_step (upd_step rfl rfl) rfl) e3) ((F3.q45 _ Post (List.getD env 1 undef) (List.getD env 2 undef) x3 H).mpr h)
noncomputable def F3.o46 : List Oper := opsIn (codeAt (bodyOf Try.f3) [.l])
def F3.B46 (Post : Value → AHeap → Prop) (x0a : Int) (x0b : Value) (x1 : Value) (x2 : Value) (H : AHeap) : Prop :=
  newK H [(Value.int .i64 x0a), x0b] 24 (fun b1 H2 => F3.B45 Post x1 x2 b1 H2)
def F3.B46.e (Post : Value → AHeap → Prop) : EP := fun env H => pif (Nat.beq (List.length env) 138) (as_iv (List.getD env 0 undef) (fun x0a x0b => F3.B46 Post x0a x0b (List.getD env 1 undef) (List.getD env 2 undef) H)) False
theorem F3.q46 (u : Nat → Value) (Post : Value → AHeap → Prop) (x0a : Int) (x0b : Value) (x1 : Value) (x2 : Value) (H : AHeap) : aOps Try.prog T0 F3.o46 F3.o46 (mkEnv (upd (upd (upd u 0 (Value.agg ⟨[(Value.int .i64 x0a), x0b]⟩)) 1 x1) 2 x2) 138 0) H (F3.B45.e Post) = F3.B46 Post x0a x0b x1 x2 H := by kernel_rfl
theorem F3.r46 (Post : Value → AHeap → Prop) : ∀ env H, F3.B46.e Post env H → aOps Try.prog T0 F3.o46 F3.o46 env H (F3.B45.e Post) := by
  intro env H h
  obtain ⟨hl, h⟩ := lenE h
  obtain ⟨x0a, x0b, e0, h⟩ := as_iv_elim h
  exact use_ops hl (upd_step (upd_step (upd_step rfl e0) rfl) rfl) ((F3.q46 _ Post x0a x0b (List.getD env 1 undef) (List.getD env 2 undef) H).mpr h)
noncomputable def F3.code : Code := (.seq (.region 0 ⟨F3.o46⟩ false) (.seq (.seq (.region 1 ⟨F3.o45⟩ false) (.cond (.tmp 22) (.seq (.region 2 ⟨F3.o44⟩ false) .ret) .skip)) (.seq (.seq (.region 3 ⟨F3.o43⟩ false) (.cond (.tmp 25) (.seq (.region 4 ⟨F3.o42⟩ false) .ret) .skip)) (.seq (.region 5 ⟨F3.o41⟩ false) (.seq (.region 6 ⟨F3.o40⟩ false) (.seq (.seq (.region 7 ⟨F3.o39⟩ false) (.cond (.tmp 30) (.seq (.region 8 ⟨F3.o38⟩ false) .ret) .skip)) (.seq (.region 9 ⟨F3.o37⟩ false) (.seq (.region 10 ⟨F3.o36⟩ false) (.seq (.region 11 ⟨F3.o35⟩ false) (.seq (.region 12 ⟨F3.o34⟩ false) (.seq (.region 13 ⟨F3.o33⟩ false) (.seq (.seq (.region 14 ⟨F3.o32⟩ false) (.cond (.tmp 62) (.seq (.region 15 ⟨F3.o31⟩ false) .ret) .skip)) (.seq (.seq (.region 16 ⟨F3.o30⟩ true) (.cond (.tmp 67) (.seq (.region 17 ⟨F3.o29⟩ false) .ret) .skip)) (.seq (.seq (.region 18 ⟨F3.o28⟩ false) (.cond (.tmp 72) (.seq (.region 19 ⟨F3.o27⟩ false) .ret) .skip)) (.seq (.seq (.region 20 ⟨F3.o26⟩ false) (.cond (.tmp 77) (.seq (.region 21 ⟨F3.o25⟩ false) .ret) .skip)) (.seq (.region 22 ⟨F3.o24⟩ false) (.seq (.region 23 ⟨F3.o23⟩ false) (.seq (.region 24 ⟨F3.o22⟩ false) (.seq (.region 25 ⟨F3.o21⟩ false) (.seq (.seq (.region 26 ⟨F3.o20⟩ false) (.cond (.tmp 99) (.seq (.region 27 ⟨F3.o19⟩ false) .ret) .skip)) (.seq (.region 28 ⟨F3.o18⟩ false) (.seq (.region 29 ⟨F3.o17⟩ false) (.seq (.region 30 ⟨F3.o16⟩ false) (.seq (.region 31 ⟨F3.o15⟩ false) (.seq (.seq (.region 32 ⟨F3.o14⟩ false) (.cond (.tmp 107) (.seq (.region 33 ⟨F3.o13⟩ false) .ret) .skip)) (.seq (.seq (.region 34 ⟨F3.o12⟩ false) (.cond (.tmp 110) (.seq (.region 35 ⟨F3.o11⟩ false) .ret) .skip)) (.seq (.region 36 ⟨F3.o10⟩ false) (.seq (.seq (.region 37 ⟨F3.o9⟩ false) (.cond (.tmp 129) (.seq (.region 38 ⟨F3.o8⟩ false) .ret) .skip)) (.seq (.region 39 ⟨F3.o7⟩ false) (.seq (.region 40 ⟨F3.o6⟩ false) (.seq (.seq (.region 41 ⟨F3.o5⟩ false) (.cond (.tmp 134) (.seq (.region 42 ⟨F3.o4⟩ false) .ret) .skip)) (.seq (.seq (.region 43 ⟨F3.o3⟩ false) (.cond (.tmp 137) (.seq (.region 44 ⟨F3.o2⟩ false) .ret) .skip)) (.seq (.region 45 ⟨F3.o1⟩ false) .ret)))))))))))))))))))))))))))))))))
theorem F3.body : Try.f3.body = some F3.code := by kernel_rfl
theorem F3.main (Post : Value → AHeap → Prop) : ∀ env H, F3.B46.e Post env H → AW Try.prog T0 F3.code env H (mkQ (F3.ret Post) (fun _ _ _ => False) (F3.ret Post)) :=
  (r_seq (r_region T0_ok (F3.r46 Post)) (r_seq (r_seq (r_region T0_ok (F3.r45 Post)) (r_cond rfl (r_seq (r_region T0_ok (F3.r44 Post)) r_ret) r_skip)) (r_seq (r_seq (r_region T0_ok (F3.r43 Post)) (r_cond rfl (r_seq (r_region T0_ok (F3.r42 Post)) r_ret) r_skip)) (r_seq (r_region T0_ok (F3.r41 Post)) (r_seq (r_region T0_ok (F3.r40 Post)) (r_seq (r_seq (r_region T0_ok (F3.r39 Post)) (r_cond rfl (r_seq (r_region T0_ok (F3.r38 Post)) r_ret) r_skip)) (r_seq (r_region T0_ok (F3.r37 Post)) (r_seq (r_region T0_ok (F3.r36 Post)) (r_seq (r_region T0_ok (F3.r35 Post)) (r_seq (r_region T0_ok (F3.r34 Post)) (r_seq (r_region T0_ok (F3.r33 Post)) (r_seq (r_seq (r_region T0_ok (F3.r32 Post)) (r_cond rfl (r_seq (r_region T0_ok (F3.r31 Post)) r_ret) r_skip)) (r_seq (r_seq (r_draw T0_ok mixed [(0, false), (1, false), (2, true), (3, false), (4, false)] (by kernel_rfl) (F3.r30 Post)) (r_cond rfl (r_seq (r_region T0_ok (F3.r29 Post)) r_ret) r_skip)) (r_seq (r_seq (r_region T0_ok (F3.r28 Post)) (r_cond rfl (r_seq (r_region T0_ok (F3.r27 Post)) r_ret) r_skip)) (r_seq (r_seq (r_region T0_ok (F3.r26 Post)) (r_cond rfl (r_seq (r_region T0_ok (F3.r25 Post)) r_ret) r_skip)) (r_seq (r_region T0_ok (F3.r24 Post)) (r_seq (r_region T0_ok (F3.r23 Post)) (r_seq (r_region T0_ok (F3.r22 Post)) (r_seq (r_region T0_ok (F3.r21 Post)) (r_seq (r_seq (r_region T0_ok (F3.r20 Post)) (r_cond rfl (r_seq (r_region T0_ok (F3.r19 Post)) r_ret) r_skip)) (r_seq (r_region T0_ok (F3.r18 Post)) (r_seq (r_region T0_ok (F3.r17 Post)) (r_seq (r_region T0_ok (F3.r16 Post)) (r_seq (r_region T0_ok (F3.r15 Post)) (r_seq (r_seq (r_region T0_ok (F3.r14 Post)) (r_cond rfl (r_seq (r_region T0_ok (F3.r13 Post)) r_ret) r_skip)) (r_seq (r_seq (r_region T0_ok (F3.r12 Post)) (r_cond rfl (r_seq (r_region T0_ok (F3.r11 Post)) r_ret) r_skip)) (r_seq (r_region T0_ok (F3.r10 Post)) (r_seq (r_seq (r_region T0_ok (F3.r9 Post)) (r_cond rfl (r_seq (r_region T0_ok (F3.r8 Post)) r_ret) r_skip)) (r_seq (r_region T0_ok (F3.r7 Post)) (r_seq (r_region T0_ok (F3.r6 Post)) (r_seq (r_seq (r_region T0_ok (F3.r5 Post)) (r_cond rfl (r_seq (r_region T0_ok (F3.r4 Post)) r_ret) r_skip)) (r_seq (r_seq (r_region T0_ok (F3.r3 Post)) (r_cond rfl (r_seq (r_region T0_ok (F3.r2 Post)) r_ret) r_skip)) (r_seq (r_region T0_ok (F3.r1 Post)) r_ret)))))))))))))))))))))))))))))))))
theorem F3.ac (Post : Value → AHeap → Prop) (x0a : Int) (x0b : Value) (x1 : Value) (x2 : Value) (H : AHeap) (h : F3.B46 Post x0a x0b x1 x2 H) : AC Try.prog T0 3 [(Value.agg ⟨[(Value.int .i64 x0a), x0b]⟩), x1, x2] H Post :=
  r_fn T0_ok (c := F3.code) (n := 138) Try.func3 F3.body (by kernel_rfl) (F3.main Post) (lenM (by kernel_rfl) (as_iv_mk' (by kernel_rfl) (h)))

-- loop.example/g01329/laws.FnExactIsDesk
noncomputable def F4.ret (Post : Value → AHeap → Prop) : EP := retE T0 27 Try.f4 Post
noncomputable def F4.o1 : List Oper := opsIn (codeAt (bodyOf Try.f4) [.r, .r, .r, .r, .r, .r, .r, .r, .r, .l])
def F4.B1 (Post : Value → AHeap → Prop) (H : AHeap) : Prop :=
  Post (Value.bool true) H
def F4.B1.e (Post : Value → AHeap → Prop) : EP := fun env H => pif (Nat.beq (List.length env) 27) (F4.B1 Post H) False
theorem F4.q1 (u : Nat → Value) (Post : Value → AHeap → Prop) (H : AHeap) : aOps Try.prog T0 F4.o1 F4.o1 (mkEnv u 27 0) H (F4.ret Post) = F4.B1 Post H := by kernel_rfl
theorem F4.r1 (Post : Value → AHeap → Prop) : ∀ env H, F4.B1.e Post env H → aOps Try.prog T0 F4.o1 F4.o1 env H (F4.ret Post) := by
  intro env H h
  obtain ⟨hl, h⟩ := lenE h
  exact use_ops hl rfl ((F4.q1 _ Post H).mpr h)
noncomputable def F4.o2 : List Oper := opsIn (codeAt (bodyOf Try.f4) [.r, .r, .r, .r, .r, .r, .r, .r, .l, .r, .l, .l])
def F4.B2 (Post : Value → AHeap → Prop) (H : AHeap) : Prop :=
  Post (Value.bool false) H
def F4.B2.e (Post : Value → AHeap → Prop) : EP := fun env H => pif (Nat.beq (List.length env) 27) (F4.B2 Post H) False
theorem F4.q2 (u : Nat → Value) (Post : Value → AHeap → Prop) (H : AHeap) : aOps Try.prog T0 F4.o2 F4.o2 (mkEnv u 27 0) H (F4.ret Post) = F4.B2 Post H := by kernel_rfl
theorem F4.r2 (Post : Value → AHeap → Prop) : ∀ env H, F4.B2.e Post env H → aOps Try.prog T0 F4.o2 F4.o2 env H (F4.ret Post) := by
  intro env H h
  obtain ⟨hl, h⟩ := lenE h
  exact use_ops hl rfl ((F4.q2 _ Post H).mpr h)
noncomputable def F4.o3 : List Oper := opsIn (codeAt (bodyOf Try.f4) [.r, .r, .r, .r, .r, .r, .r, .r, .l, .l])
def F4.B3 (Post : Value → AHeap → Prop) (x1 : Nat) (x5 : Nat) (H : AHeap) : Prop :=
  ldI .i64 H x5 0 (fun v1 => ld1 H x5 1 (fun v2 => ld1 H x5 2 (fun v3 => ld1 H x5 3 (fun v4 => ldI .i64 H x1 0 (fun v5 => ld1 H x1 1 (fun v6 => ld1 H x1 2 (fun v7 => ld1 H x1 3 (fun v8 => AC Try.prog T0 17 [(Value.agg ⟨[(Value.int .i64 v5), v6, v7, v8]⟩)] H (fun v9 H10 => agg4 v9 (fun v11 v12 v13 v14 => asI .i64 v11 (fun v15 => (AHeap.le H H10) ∧ (AC Try.prog T0 19 [(Value.agg ⟨[(Value.int .i64 v1), v2, v3, v4]⟩), (Value.agg ⟨[(Value.int .i64 v15), v12, v13, v14]⟩)] H10 (fun v19 H20 => asB v19 (fun v21 => pif (!v21) (F4.B2 Post H20) (F4.B1 Post H20)))))))))))))))
def F4.B3.e (Post : Value → AHeap → Prop) : EP := fun env H => pif (Nat.beq (List.length env) 27) (asX (List.getD env 1 undef) (fun x1 => asX (List.getD env 5 undef) (fun x5 => F4.B3 Post x1 x5 H))) False
theorem F4.q3 (u : Nat → Value) (Post : Value → AHeap → Prop) (x1 : Nat) (x5 : Nat) (H : AHeap) : aOpsD Try.prog T0 F4.o3 (opsOf F4.o3 [(0, false), (1, false), (2, true), (3, false), (4, false)]) (mkEnv (upd (upd u 1 (Value.pointer (some ⟨x1, 0, none⟩))) 5 (Value.pointer (some ⟨x5, 0, none⟩))) 27 0) H (fun env H => asB (aev env (.tmp 26)) (fun b => pif b ((F4.B2.e Post) env H) ((F4.B1.e Post) env H))) = F4.B3 Post x1 x5 H := by kernel_rfl
theorem F4.r3 (Post : Value → AHeap → Prop) : ∀ env H, F4.B3.e Post env H → aOpsD Try.prog T0 F4.o3 (opsOf F4.o3 [(0, false), (1, false), (2, true), (3, false), (4, false)]) env H (fun env H => asB (aev env (.tmp 26)) (fun b => pif b ((F4.B2.e Post) env H) ((F4.B1.e Post) env H))) := by
  intro env H h
  obtain ⟨hl, h⟩ := lenE h
  obtain ⟨x1, e1, h⟩ := asX_elim h
  obtain ⟨x5, e5, h⟩ := asX_elim h
  exact use_opsD hl (upd_step (upd_step rfl e1) e5) ((F4.q3 _ Post x1 x5 H).mpr h)
noncomputable def F4.o4 : List Oper := opsIn (codeAt (bodyOf Try.f4) [.r, .r, .r, .r, .r, .r, .r, .l, .r, .l, .l])
def F4.B4 (Post : Value → AHeap → Prop) (H : AHeap) : Prop :=
  Post (Value.bool false) H
def F4.B4.e (Post : Value → AHeap → Prop) : EP := fun env H => pif (Nat.beq (List.length env) 27) (F4.B4 Post H) False
theorem F4.q4 (u : Nat → Value) (Post : Value → AHeap → Prop) (H : AHeap) : aOps Try.prog T0 F4.o4 F4.o4 (mkEnv u 27 0) H (F4.ret Post) = F4.B4 Post H := by kernel_rfl
theorem F4.r4 (Post : Value → AHeap → Prop) : ∀ env H, F4.B4.e Post env H → aOps Try.prog T0 F4.o4 F4.o4 env H (F4.ret Post) := by
  intro env H h
  obtain ⟨hl, h⟩ := lenE h
  exact use_ops hl rfl ((F4.q4 _ Post H).mpr h)
noncomputable def F4.o5 : List Oper := opsIn (codeAt (bodyOf Try.f4) [.r, .r, .r, .r, .r, .r, .r, .l, .l])
def F4.B5 (Post : Value → AHeap → Prop) (x1 : Nat) (x4 : Bool) (x5 : Nat) (x6 : Bool) (H : AHeap) : Prop :=
  pif (!(x6 == x4)) (F4.B4 Post H) (F4.B3 Post x1 x5 H)
def F4.B5.e (Post : Value → AHeap → Prop) : EP := fun env H => pif (Nat.beq (List.length env) 27) (asX (List.getD env 1 undef) (fun x1 => asB (List.getD env 4 undef) (fun x4 => asX (List.getD env 5 undef) (fun x5 => asB (List.getD env 6 undef) (fun x6 => F4.B5 Post x1 x4 x5 x6 H))))) False
theorem F4.q5 (u : Nat → Value) (Post : Value → AHeap → Prop) (x1 : Nat) (x4 : Bool) (x5 : Nat) (x6 : Bool) (H : AHeap) : aOps Try.prog T0 F4.o5 F4.o5 (mkEnv (upd (upd (upd (upd u 1 (Value.pointer (some ⟨x1, 0, none⟩))) 4 (Value.bool x4)) 5 (Value.pointer (some ⟨x5, 0, none⟩))) 6 (Value.bool x6)) 27 0) H (fun env H => asB (aev env (.tmp 21)) (fun b => pif b ((F4.B4.e Post) env H) ((F4.B3.e Post) env H))) = F4.B5 Post x1 x4 x5 x6 H := by kernel_rfl
theorem F4.r5 (Post : Value → AHeap → Prop) : ∀ env H, F4.B5.e Post env H → aOps Try.prog T0 F4.o5 F4.o5 env H (fun env H => asB (aev env (.tmp 21)) (fun b => pif b ((F4.B4.e Post) env H) ((F4.B3.e Post) env H))) := by
  intro env H h
  obtain ⟨hl, h⟩ := lenE h
  obtain ⟨x1, e1, h⟩ := asX_elim h
  obtain ⟨x4, e4, h⟩ := asB_elim h
  obtain ⟨x5, e5, h⟩ := asX_elim h
  obtain ⟨x6, e6, h⟩ := asB_elim h
  exact use_ops hl (upd_step (upd_step (upd_step (upd_step rfl e1) e4) e5) e6) ((F4.q5 _ Post x1 x4 x5 x6 H).mpr h)
noncomputable def F4.o6 : List Oper := opsIn (codeAt (bodyOf Try.f4) [.r, .r, .r, .r, .r, .r, .l])
def F4.B6 (Post : Value → AHeap → Prop) (x1 : Nat) (x4 : Bool) (x5 : Nat) (H : AHeap) : Prop :=
  ldI .i64 H x5 0 (fun v1 => ld1 H x5 1 (fun v2 => ld1 H x5 2 (fun v3 => ld1 H x5 3 (fun v4 => AC Try.prog T0 18 [(Value.agg ⟨[(Value.int .i64 v1), v2, v3, v4]⟩)] H (fun v5 H6 => asB v5 (fun v7 => F4.B5 Post x1 x4 x5 v7 H6))))))
def F4.B6.e (Post : Value → AHeap → Prop) : EP := fun env H => pif (Nat.beq (List.length env) 27) (asX (List.getD env 1 undef) (fun x1 => asB (List.getD env 4 undef) (fun x4 => asX (List.getD env 5 undef) (fun x5 => F4.B6 Post x1 x4 x5 H)))) False
theorem F4.q6 (u : Nat → Value) (Post : Value → AHeap → Prop) (x1 : Nat) (x4 : Bool) (x5 : Nat) (H : AHeap) : aOps Try.prog T0 F4.o6 F4.o6 (mkEnv (upd (upd (upd u 1 (Value.pointer (some ⟨x1, 0, none⟩))) 4 (Value.bool x4)) 5 (Value.pointer (some ⟨x5, 0, none⟩))) 27 0) H (F4.B5.e Post) = F4.B6 Post x1 x4 x5 H := by kernel_rfl
theorem F4.r6 (Post : Value → AHeap → Prop) : ∀ env H, F4.B6.e Post env H → aOps Try.prog T0 F4.o6 F4.o6 env H (F4.B5.e Post) := by
  intro env H h
  obtain ⟨hl, h⟩ := lenE h
  obtain ⟨x1, e1, h⟩ := asX_elim h
  obtain ⟨x4, e4, h⟩ := asB_elim h
  obtain ⟨x5, e5, h⟩ := asX_elim h
  exact use_ops hl (upd_step (upd_step (upd_step rfl e1) e4) e5) ((F4.q6 _ Post x1 x4 x5 H).mpr h)
noncomputable def F4.o7 : List Oper := opsIn (codeAt (bodyOf Try.f4) [.r, .r, .r, .r, .r, .l])
def F4.B7 (Post : Value → AHeap → Prop) (x1 : Nat) (x4 : Bool) (H : AHeap) : Prop :=
  ldI .i64 H x1 0 (fun v1 => ld1 H x1 1 (fun v2 => ld1 H x1 2 (fun v3 => ld1 H x1 3 (fun v4 => AC Try.prog T0 17 [(Value.agg ⟨[(Value.int .i64 v1), v2, v3, v4]⟩)] H (fun v5 H6 => agg4 v5 (fun v7 v8 v9 v10 => asI .i64 v7 (fun v11 => newK H6 [(Value.int .i64 0), (Value.slice none 0 0), (Value.slice none 0 0), (Value.slice none 0 0)] 44 (fun b15 H16 => stK H16 b15 0 [(Value.int .i64 v11), v8, v9, v10] (fun H17 => F4.B6 Post x1 x4 b15 H17)))))))))
def F4.B7.e (Post : Value → AHeap → Prop) : EP := fun env H => pif (Nat.beq (List.length env) 27) (asX (List.getD env 1 undef) (fun x1 => asB (List.getD env 4 undef) (fun x4 => F4.B7 Post x1 x4 H))) False
theorem F4.q7 (u : Nat → Value) (Post : Value → AHeap → Prop) (x1 : Nat) (x4 : Bool) (H : AHeap) : aOps Try.prog T0 F4.o7 F4.o7 (mkEnv (upd (upd u 1 (Value.pointer (some ⟨x1, 0, none⟩))) 4 (Value.bool x4)) 27 0) H (F4.B6.e Post) = F4.B7 Post x1 x4 H := by kernel_rfl
theorem F4.r7 (Post : Value → AHeap → Prop) : ∀ env H, F4.B7.e Post env H → aOps Try.prog T0 F4.o7 F4.o7 env H (F4.B6.e Post) := by
  intro env H h
  obtain ⟨hl, h⟩ := lenE h
  obtain ⟨x1, e1, h⟩ := asX_elim h
  obtain ⟨x4, e4, h⟩ := asB_elim h
  exact use_ops hl (upd_step (upd_step rfl e1) e4) ((F4.q7 _ Post x1 x4 H).mpr h)
noncomputable def F4.o8 : List Oper := opsIn (codeAt (bodyOf Try.f4) [.r, .r, .r, .r, .l])
def F4.B8 (Post : Value → AHeap → Prop) (x1 : Nat) (H : AHeap) : Prop :=
  ldI .i64 H x1 0 (fun v1 => ld1 H x1 1 (fun v2 => ld1 H x1 2 (fun v3 => ld1 H x1 3 (fun v4 => AC Try.prog T0 17 [(Value.agg ⟨[(Value.int .i64 v1), v2, v3, v4]⟩)] H (fun v5 H6 => agg4 v5 (fun v7 v8 v9 v10 => asI .i64 v7 (fun v11 => AC Try.prog T0 16 [(Value.agg ⟨[(Value.int .i64 v11), v8, v9, v10]⟩)] H6 (fun v15 H16 => asB v15 (fun v17 => F4.B7 Post x1 v17 H16)))))))))
def F4.B8.e (Post : Value → AHeap → Prop) : EP := fun env H => pif (Nat.beq (List.length env) 27) (asX (List.getD env 1 undef) (fun x1 => F4.B8 Post x1 H)) False
theorem F4.q8 (u : Nat → Value) (Post : Value → AHeap → Prop) (x1 : Nat) (H : AHeap) : aOps Try.prog T0 F4.o8 F4.o8 (mkEnv (upd u 1 (Value.pointer (some ⟨x1, 0, none⟩))) 27 0) H (F4.B7.e Post) = F4.B8 Post x1 H := by kernel_rfl
theorem F4.r8 (Post : Value → AHeap → Prop) : ∀ env H, F4.B8.e Post env H → aOps Try.prog T0 F4.o8 F4.o8 env H (F4.B7.e Post) := by
  intro env H h
  obtain ⟨hl, h⟩ := lenE h
  obtain ⟨x1, e1, h⟩ := asX_elim h
  exact use_ops hl (upd_step rfl e1) ((F4.q8 _ Post x1 H).mpr h)
noncomputable def F4.o9 : List Oper := opsIn (codeAt (bodyOf Try.f4) [.r, .r, .r, .l, .r, .l, .l])
def F4.B9 (Post : Value → AHeap → Prop) (H : AHeap) : Prop :=
  Post (Value.bool true) H
def F4.B9.e (Post : Value → AHeap → Prop) : EP := fun env H => pif (Nat.beq (List.length env) 27) (F4.B9 Post H) False
theorem F4.q9 (u : Nat → Value) (Post : Value → AHeap → Prop) (H : AHeap) : aOps Try.prog T0 F4.o9 F4.o9 (mkEnv u 27 0) H (F4.ret Post) = F4.B9 Post H := by kernel_rfl
theorem F4.r9 (Post : Value → AHeap → Prop) : ∀ env H, F4.B9.e Post env H → aOps Try.prog T0 F4.o9 F4.o9 env H (F4.ret Post) := by
  intro env H h
  obtain ⟨hl, h⟩ := lenE h
  exact use_ops hl rfl ((F4.q9 _ Post H).mpr h)
noncomputable def F4.o10 : List Oper := opsIn (codeAt (bodyOf Try.f4) [.r, .r, .r, .l, .l])
def F4.B10 (Post : Value → AHeap → Prop) (x1 : Nat) (x3 : Int) (H : AHeap) : Prop :=
  pif (decide ((x3 : Int) < 0)) (F4.B9 Post H) (F4.B8 Post x1 H)
def F4.B10.e (Post : Value → AHeap → Prop) : EP := fun env H => pif (Nat.beq (List.length env) 27) (asX (List.getD env 1 undef) (fun x1 => asI .i64 (List.getD env 3 undef) (fun x3 => F4.B10 Post x1 x3 H))) False
theorem F4.q10 (u : Nat → Value) (Post : Value → AHeap → Prop) (x1 : Nat) (x3 : Int) (H : AHeap) : aOps Try.prog T0 F4.o10 F4.o10 (mkEnv (upd (upd u 1 (Value.pointer (some ⟨x1, 0, none⟩))) 3 (Value.int .i64 x3)) 27 0) H (fun env H => asB (aev env (.tmp 11)) (fun b => pif b ((F4.B9.e Post) env H) ((F4.B8.e Post) env H))) = F4.B10 Post x1 x3 H := by kernel_rfl
theorem F4.r10 (Post : Value → AHeap → Prop) : ∀ env H, F4.B10.e Post env H → aOps Try.prog T0 F4.o10 F4.o10 env H (fun env H => asB (aev env (.tmp 11)) (fun b => pif b ((F4.B9.e Post) env H) ((F4.B8.e Post) env H))) := by
  intro env H h
  obtain ⟨hl, h⟩ := lenE h
  obtain ⟨x1, e1, h⟩ := asX_elim h
  obtain ⟨x3, e3, h⟩ := asI_elim h
  exact use_ops hl (upd_step (upd_step rfl e1) e3) ((F4.q10 _ Post x1 x3 H).mpr h)
noncomputable def F4.o11 : List Oper := opsIn (codeAt (bodyOf Try.f4) [.r, .r, .l])
def F4.B11 (Post : Value → AHeap → Prop) (x1 : Nat) (x3 : Int) (H : AHeap) : Prop :=
  ldI .i64 H x1 0 (fun v1 => ld1 H x1 1 (fun v2 => ld1 H x1 2 (fun v3 => ld1 H x1 3 (fun v4 => AC Try.prog T0 15 [(Value.agg ⟨[(Value.int .i64 v1), v2, v3, v4]⟩), (Value.int .i64 x3)] H (fun v5 H6 => asI .i64 v5 (fun v7 => F4.B10 Post x1 v7 H6))))))
def F4.B11.e (Post : Value → AHeap → Prop) : EP := fun env H => pif (Nat.beq (List.length env) 27) (asX (List.getD env 1 undef) (fun x1 => asI .i64 (List.getD env 3 undef) (fun x3 => F4.B11 Post x1 x3 H))) False
theorem F4.q11 (u : Nat → Value) (Post : Value → AHeap → Prop) (x1 : Nat) (x3 : Int) (H : AHeap) : aOps Try.prog T0 F4.o11 F4.o11 (mkEnv (upd (upd u 1 (Value.pointer (some ⟨x1, 0, none⟩))) 3 (Value.int .i64 x3)) 27 0) H (F4.B10.e Post) = F4.B11 Post x1 x3 H := by kernel_rfl
theorem F4.r11 (Post : Value → AHeap → Prop) : ∀ env H, F4.B11.e Post env H → aOps Try.prog T0 F4.o11 F4.o11 env H (F4.B10.e Post) := by
  intro env H h
  obtain ⟨hl, h⟩ := lenE h
  obtain ⟨x1, e1, h⟩ := asX_elim h
  obtain ⟨x3, e3, h⟩ := asI_elim h
  exact use_ops hl (upd_step (upd_step rfl e1) e3) ((F4.q11 _ Post x1 x3 H).mpr h)
noncomputable def F4.o12 : List Oper := opsIn (codeAt (bodyOf Try.f4) [.r, .l])
def F4.B12 (Post : Value → AHeap → Prop) (x1 : Nat) (H : AHeap) : Prop :=
  F4.B11 Post x1 1048576 H
def F4.B12.e (Post : Value → AHeap → Prop) : EP := fun env H => pif (Nat.beq (List.length env) 27) (asX (List.getD env 1 undef) (fun x1 => F4.B12 Post x1 H)) False
theorem F4.q12 (u : Nat → Value) (Post : Value → AHeap → Prop) (x1 : Nat) (H : AHeap) : aOps Try.prog T0 F4.o12 F4.o12 (mkEnv (upd u 1 (Value.pointer (some ⟨x1, 0, none⟩))) 27 0) H (F4.B11.e Post) = F4.B12 Post x1 H := by kernel_rfl
theorem F4.r12 (Post : Value → AHeap → Prop) : ∀ env H, F4.B12.e Post env H → aOps Try.prog T0 F4.o12 F4.o12 env H (F4.B11.e Post) := by
  intro env H h
  obtain ⟨hl, h⟩ := lenE h
  obtain ⟨x1, e1, h⟩ := asX_elim h
  exact use_ops hl (upd_step rfl e1) ((F4.q12 _ Post x1 H).mpr h)
noncomputable def F4.o13 : List Oper := opsIn (codeAt (bodyOf Try.f4) [.l])
def F4.B13 (Post : Value → AHeap → Prop) (x0a : Int) (x0b : Value) (x0c : Value) (x0d : Value) (H : AHeap) : Prop :=
  newK H [(Value.int .i64 x0a), x0b, x0c, x0d] 40 (fun b1 H2 => F4.B12 Post b1 H2)
def F4.B13.e (Post : Value → AHeap → Prop) : EP := fun env H => pif (Nat.beq (List.length env) 27) (as_ivvv (List.getD env 0 undef) (fun x0a x0b x0c x0d => F4.B13 Post x0a x0b x0c x0d H)) False
theorem F4.q13 (u : Nat → Value) (Post : Value → AHeap → Prop) (x0a : Int) (x0b : Value) (x0c : Value) (x0d : Value) (H : AHeap) : aOps Try.prog T0 F4.o13 F4.o13 (mkEnv (upd u 0 (Value.agg ⟨[(Value.int .i64 x0a), x0b, x0c, x0d]⟩)) 27 0) H (F4.B12.e Post) = F4.B13 Post x0a x0b x0c x0d H := by kernel_rfl
theorem F4.r13 (Post : Value → AHeap → Prop) : ∀ env H, F4.B13.e Post env H → aOps Try.prog T0 F4.o13 F4.o13 env H (F4.B12.e Post) := by
  intro env H h
  obtain ⟨hl, h⟩ := lenE h
  obtain ⟨x0a, x0b, x0c, x0d, e0, h⟩ := as_ivvv_elim h
  exact use_ops hl (upd_step rfl e0) ((F4.q13 _ Post x0a x0b x0c x0d H).mpr h)
noncomputable def F4.code : Code := (.seq (.region 0 ⟨F4.o13⟩ false) (.seq (.region 1 ⟨F4.o12⟩ false) (.seq (.region 2 ⟨F4.o11⟩ false) (.seq (.seq (.region 3 ⟨F4.o10⟩ false) (.cond (.tmp 11) (.seq (.region 4 ⟨F4.o9⟩ false) .ret) .skip)) (.seq (.region 5 ⟨F4.o8⟩ false) (.seq (.region 6 ⟨F4.o7⟩ false) (.seq (.region 7 ⟨F4.o6⟩ false) (.seq (.seq (.region 8 ⟨F4.o5⟩ false) (.cond (.tmp 21) (.seq (.region 9 ⟨F4.o4⟩ false) .ret) .skip)) (.seq (.seq (.region 10 ⟨F4.o3⟩ true) (.cond (.tmp 26) (.seq (.region 11 ⟨F4.o2⟩ false) .ret) .skip)) (.seq (.region 12 ⟨F4.o1⟩ false) .ret))))))))))
theorem F4.body : Try.f4.body = some F4.code := by kernel_rfl
theorem F4.main (Post : Value → AHeap → Prop) : ∀ env H, F4.B13.e Post env H → AW Try.prog T0 F4.code env H (mkQ (F4.ret Post) (fun _ _ _ => False) (F4.ret Post)) :=
  (r_seq (r_region T0_ok (F4.r13 Post)) (r_seq (r_region T0_ok (F4.r12 Post)) (r_seq (r_region T0_ok (F4.r11 Post)) (r_seq (r_seq (r_region T0_ok (F4.r10 Post)) (r_cond rfl (r_seq (r_region T0_ok (F4.r9 Post)) r_ret) r_skip)) (r_seq (r_region T0_ok (F4.r8 Post)) (r_seq (r_region T0_ok (F4.r7 Post)) (r_seq (r_region T0_ok (F4.r6 Post)) (r_seq (r_seq (r_region T0_ok (F4.r5 Post)) (r_cond rfl (r_seq (r_region T0_ok (F4.r4 Post)) r_ret) r_skip)) (r_seq (r_seq (r_draw T0_ok mixed [(0, false), (1, false), (2, true), (3, false), (4, false)] (by kernel_rfl) (F4.r3 Post)) (r_cond rfl (r_seq (r_region T0_ok (F4.r2 Post)) r_ret) r_skip)) (r_seq (r_region T0_ok (F4.r1 Post)) r_ret))))))))))
theorem F4.ac (Post : Value → AHeap → Prop) (x0a : Int) (x0b : Value) (x0c : Value) (x0d : Value) (H : AHeap) (h : F4.B13 Post x0a x0b x0c x0d H) : AC Try.prog T0 4 [(Value.agg ⟨[(Value.int .i64 x0a), x0b, x0c, x0d]⟩)] H Post :=
  r_fn T0_ok (c := F4.code) (n := 27) Try.func4 F4.body (by kernel_rfl) (F4.main Post) (lenM (by kernel_rfl) (as_ivvv_mk' (by kernel_rfl) (h)))

-- loop.example/g01329/laws.szGraph
noncomputable def F5.ret (Post : Value → AHeap → Prop) : EP := retE T0 12 Try.f5 Post
noncomputable def F5.o1 : List Oper := opsIn (codeAt (bodyOf Try.f5) [.r, .r, .r, .l])
def F5.B1 (Post : Value → AHeap → Prop) (x1 : Int) (H : AHeap) : Prop :=
  Post (Value.int .i64 x1) H
def F5.B1.e (Post : Value → AHeap → Prop) : EP := fun env H => pif (Nat.beq (List.length env) 12) (asI .i64 (List.getD env 1 undef) (fun x1 => F5.B1 Post x1 H)) False
theorem F5.q1 (u : Nat → Value) (Post : Value → AHeap → Prop) (x1 : Int) (H : AHeap) : aOps Try.prog T0 F5.o1 F5.o1 (mkEnv (upd u 1 (Value.int .i64 x1)) 12 0) H (F5.ret Post) = F5.B1 Post x1 H := by kernel_rfl
theorem F5.r1 (Post : Value → AHeap → Prop) : ∀ env H, F5.B1.e Post env H → aOps Try.prog T0 F5.o1 F5.o1 env H (F5.ret Post) := by
  intro env H h
  obtain ⟨hl, h⟩ := lenE h
  obtain ⟨x1, e1, h⟩ := asI_elim h
  exact use_ops hl (upd_step rfl e1) ((F5.q1 _ Post x1 H).mpr h)
noncomputable def F5.o2 : List Oper := opsIn (codeAt (bodyOf Try.f5) [.r, .r, .l, .r, .l, .l])
def F5.B2 (Post : Value → AHeap → Prop) (H : AHeap) : Prop :=
  Post (Value.int .i64 (-1)) H
def F5.B2.e (Post : Value → AHeap → Prop) : EP := fun env H => pif (Nat.beq (List.length env) 12) (F5.B2 Post H) False
theorem F5.q2 (u : Nat → Value) (Post : Value → AHeap → Prop) (H : AHeap) : aOps Try.prog T0 F5.o2 F5.o2 (mkEnv u 12 0) H (F5.ret Post) = F5.B2 Post H := by kernel_rfl
theorem F5.r2 (Post : Value → AHeap → Prop) : ∀ env H, F5.B2.e Post env H → aOps Try.prog T0 F5.o2 F5.o2 env H (F5.ret Post) := by
  intro env H h
  obtain ⟨hl, h⟩ := lenE h
  exact use_ops hl rfl ((F5.q2 _ Post H).mpr h)
noncomputable def F5.o3 : List Oper := opsIn (codeAt (bodyOf Try.f5) [.r, .r, .l, .l])
def F5.B3 (Post : Value → AHeap → Prop) (x1 : Int) (H : AHeap) : Prop :=
  pif (decide ((x1 : Int) < 0)) (F5.B2 Post H) (F5.B1 Post x1 H)
def F5.B3.e (Post : Value → AHeap → Prop) : EP := fun env H => pif (Nat.beq (List.length env) 12) (asI .i64 (List.getD env 1 undef) (fun x1 => F5.B3 Post x1 H)) False
theorem F5.q3 (u : Nat → Value) (Post : Value → AHeap → Prop) (x1 : Int) (H : AHeap) : aOps Try.prog T0 F5.o3 F5.o3 (mkEnv (upd u 1 (Value.int .i64 x1)) 12 0) H (fun env H => asB (aev env (.tmp 10)) (fun b => pif b ((F5.B2.e Post) env H) ((F5.B1.e Post) env H))) = F5.B3 Post x1 H := by kernel_rfl
theorem F5.r3 (Post : Value → AHeap → Prop) : ∀ env H, F5.B3.e Post env H → aOps Try.prog T0 F5.o3 F5.o3 env H (fun env H => asB (aev env (.tmp 10)) (fun b => pif b ((F5.B2.e Post) env H) ((F5.B1.e Post) env H))) := by
  intro env H h
  obtain ⟨hl, h⟩ := lenE h
  obtain ⟨x1, e1, h⟩ := asI_elim h
  exact use_ops hl (upd_step rfl e1) ((F5.q3 _ Post x1 H).mpr h)
noncomputable def F5.o4 : List Oper := opsIn (codeAt (bodyOf Try.f5) [.r, .l])
def F5.B4 (Post : Value → AHeap → Prop) (x1 : Int) (x2 : Nat) (H : AHeap) : Prop :=
  ld1 H x2 1 (fun v1 => AC Try.prog T0 20 [v1, (Value.int .i64 x1)] H (fun v2 H3 => asI .i64 v2 (fun v4 => F5.B3 Post v4 H3)))
def F5.B4.e (Post : Value → AHeap → Prop) : EP := fun env H => pif (Nat.beq (List.length env) 12) (asI .i64 (List.getD env 1 undef) (fun x1 => asX (List.getD env 2 undef) (fun x2 => F5.B4 Post x1 x2 H))) False
theorem F5.q4 (u : Nat → Value) (Post : Value → AHeap → Prop) (x1 : Int) (x2 : Nat) (H : AHeap) : aOps Try.prog T0 F5.o4 F5.o4 (mkEnv (upd (upd u 1 (Value.int .i64 x1)) 2 (Value.pointer (some ⟨x2, 0, none⟩))) 12 0) H (F5.B3.e Post) = F5.B4 Post x1 x2 H := by kernel_rfl
theorem F5.r4 (Post : Value → AHeap → Prop) : ∀ env H, F5.B4.e Post env H → aOps Try.prog T0 F5.o4 F5.o4 env H (F5.B3.e Post) := by
  intro env H h
  obtain ⟨hl, h⟩ := lenE h
  obtain ⟨x1, e1, h⟩ := asI_elim h
  obtain ⟨x2, e2, h⟩ := asX_elim h
  exact use_ops hl (upd_step (upd_step rfl e1) e2) ((F5.q4 _ Post x1 x2 H).mpr h)
noncomputable def F5.o5 : List Oper := opsIn (codeAt (bodyOf Try.f5) [.l])
def F5.B5 (Post : Value → AHeap → Prop) (x0a : Int) (x0b : Value) (x1 : Int) (H : AHeap) : Prop :=
  newK H [(Value.int .i64 x0a), x0b] 24 (fun b1 H2 => F5.B4 Post x1 b1 H2)
def F5.B5.e (Post : Value → AHeap → Prop) : EP := fun env H => pif (Nat.beq (List.length env) 12) (as_iv (List.getD env 0 undef) (fun x0a x0b => asI .i64 (List.getD env 1 undef) (fun x1 => F5.B5 Post x0a x0b x1 H))) False
theorem F5.q5 (u : Nat → Value) (Post : Value → AHeap → Prop) (x0a : Int) (x0b : Value) (x1 : Int) (H : AHeap) : aOps Try.prog T0 F5.o5 F5.o5 (mkEnv (upd (upd u 0 (Value.agg ⟨[(Value.int .i64 x0a), x0b]⟩)) 1 (Value.int .i64 x1)) 12 0) H (F5.B4.e Post) = F5.B5 Post x0a x0b x1 H := by kernel_rfl
theorem F5.r5 (Post : Value → AHeap → Prop) : ∀ env H, F5.B5.e Post env H → aOps Try.prog T0 F5.o5 F5.o5 env H (F5.B4.e Post) := by
  intro env H h
  obtain ⟨hl, h⟩ := lenE h
  obtain ⟨x0a, x0b, e0, h⟩ := as_iv_elim h
  obtain ⟨x1, e1, h⟩ := asI_elim h
  exact use_ops hl (upd_step (upd_step rfl e0) e1) ((F5.q5 _ Post x0a x0b x1 H).mpr h)
noncomputable def F5.code : Code := (.seq (.region 0 ⟨F5.o5⟩ false) (.seq (.region 1 ⟨F5.o4⟩ false) (.seq (.seq (.region 2 ⟨F5.o3⟩ false) (.cond (.tmp 10) (.seq (.region 3 ⟨F5.o2⟩ false) .ret) .skip)) (.seq (.region 4 ⟨F5.o1⟩ false) .ret))))
theorem F5.body : Try.f5.body = some F5.code := by kernel_rfl
theorem F5.main (Post : Value → AHeap → Prop) : ∀ env H, F5.B5.e Post env H → AW Try.prog T0 F5.code env H (mkQ (F5.ret Post) (fun _ _ _ => False) (F5.ret Post)) :=
  (r_seq (r_region T0_ok (F5.r5 Post)) (r_seq (r_region T0_ok (F5.r4 Post)) (r_seq (r_seq (r_region T0_ok (F5.r3 Post)) (r_cond rfl (r_seq (r_region T0_ok (F5.r2 Post)) r_ret) r_skip)) (r_seq (r_region T0_ok (F5.r1 Post)) r_ret))))
theorem F5.ac (Post : Value → AHeap → Prop) (x0a : Int) (x0b : Value) (x1 : Int) (H : AHeap) (h : F5.B5 Post x0a x0b x1 H) : AC Try.prog T0 5 [(Value.agg ⟨[(Value.int .i64 x0a), x0b]⟩), (Value.int .i64 x1)] H Post :=
  r_fn T0_ok (c := F5.code) (n := 12) Try.func5 F5.body (by kernel_rfl) (F5.main Post) (lenM (by kernel_rfl) (as_iv_mk' (by kernel_rfl) (asI_mk' (by kernel_rfl) (h))))

-- loop.example/g01329/spec.SumOfSets
noncomputable def F6.ret (Post : Value → AHeap → Prop) : EP := retE T0 44 Try.f6 Post
noncomputable def F6.o1 : List Oper := opsIn (codeAt (bodyOf Try.f6) [.r, .r, .r, .r, .r, .l])
def F6.B1 (Post : Value → AHeap → Prop) (x10 : Value) (H : AHeap) : Prop :=
  Post (Value.tuple ⟨[x10, (Value.int .i64 0)]⟩) H
def F6.B1.e (Post : Value → AHeap → Prop) : EP := fun env H => pif (Nat.beq (List.length env) 44) (F6.B1 Post (List.getD env 10 undef) H) False
theorem F6.q1 (u : Nat → Value) (Post : Value → AHeap → Prop) (x10 : Value) (H : AHeap) : aOps Try.prog T0 F6.o1 F6.o1 (mkEnv (upd u 10 x10) 44 0) H (F6.ret Post) = F6.B1 Post x10 H := by kernel_rfl
theorem F6.r1 (Post : Value → AHeap → Prop) : ∀ env H, F6.B1.e Post env H → aOps Try.prog T0 F6.o1 F6.o1 env H (F6.ret Post) := by
  intro env H h
  obtain ⟨hl, h⟩ := lenE h
  exact use_ops hl (upd_step rfl rfl) ((F6.q1 _ Post (List.getD env 10 undef) H).mpr h)
def F6.L2.ne (N : Value → Value → Nat → Value → Int → AHeap → Prop) : EP := fun env H => pif (Nat.beq (List.length env) 44) (asX (List.getD env 3 undef) (fun x3 => asI .i64 (List.getD env 11 undef) (fun x11 => N (List.getD env 1 undef) (List.getD env 2 undef) x3 (List.getD env 10 undef) x11 H))) False
noncomputable def F6.o3 : List Oper := opsIn (codeAt (bodyOf Try.f6) [.r, .r, .r, .r, .l, .r, .l, .l, .r, .r])
def F6.B3 (Post : Value → AHeap → Prop) (N2 : Value → Value → Nat → Value → Int → AHeap → Prop) (x1 : Value) (x2 : Value) (x3 : Nat) (x10 : Value) (x11 : Int) (H : AHeap) : Prop :=
  N2 x1 x2 x3 x10 (IntKind.i64.wrap (x11 + 1)) H
def F6.B3.e (Post : Value → AHeap → Prop) (N2 : Value → Value → Nat → Value → Int → AHeap → Prop) : EP := fun env H => pif (Nat.beq (List.length env) 44) (asX (List.getD env 3 undef) (fun x3 => asI .i64 (List.getD env 11 undef) (fun x11 => F6.B3 Post N2 (List.getD env 1 undef) (List.getD env 2 undef) x3 (List.getD env 10 undef) x11 H))) False
theorem F6.q3 (u : Nat → Value) (Post : Value → AHeap → Prop) (N2 : Value → Value → Nat → Value → Int → AHeap → Prop) (x1 : Value) (x2 : Value) (x3 : Nat) (x10 : Value) (x11 : Int) (H : AHeap) : aOps Try.prog T0 F6.o3 F6.o3 (mkEnv (upd (upd (upd (upd (upd u 1 x1) 2 x2) 3 (Value.pointer (some ⟨x3, 0, none⟩))) 10 x10) 11 (Value.int .i64 x11)) 44 0) H (F6.L2.ne N2) = F6.B3 Post N2 x1 x2 x3 x10 x11 H := by kernel_rfl
theorem F6.r3 (Post : Value → AHeap → Prop) (N2 : Value → Value → Nat → Value → Int → AHeap → Prop) : ∀ env H, F6.B3.e Post N2 env H → aOps Try.prog T0 F6.o3 F6.o3 env H (F6.L2.ne N2) := by
  intro env H h
  obtain ⟨hl, h⟩ := lenE h
  obtain ⟨x3, e3, h⟩ := asX_elim h
  obtain ⟨x11, e11, h⟩ := asI_elim h
  exact use_ops hl (upd_step (upd_step (upd_step (upd_step (upd_step rfl rfl) rfl) e3) rfl) e11) ((F6.q3 _ Post N2 (List.getD env 1 undef) (List.getD env 2 undef) x3 (List.getD env 10 undef) x11 H).mpr h)
noncomputable def F6.o4 : List Oper := opsIn (codeAt (bodyOf Try.f6) [.r, .r, .r, .r, .l, .r, .l, .l, .r, .l, .l, .r, .l])
def F6.B4 (Post : Value → AHeap → Prop) (N2 : Value → Value → Nat → Value → Int → AHeap → Prop) (x1 : Value) (x2 : Value) (x3 : Nat) (x10 : Value) (x11 : Int) (H : AHeap) : Prop :=
  newK H [(Value.int .i64 x11)] 2 (fun b1 H2 => apK T0 2 H2 x10 (Value.slice (some ⟨b1, 0, none⟩) 1 (1 + 1)) (fun v3 H4 => F6.B3 Post N2 x1 x2 x3 v3 x11 H4))
def F6.B4.e (Post : Value → AHeap → Prop) (N2 : Value → Value → Nat → Value → Int → AHeap → Prop) : EP := fun env H => pif (Nat.beq (List.length env) 44) (asX (List.getD env 3 undef) (fun x3 => asI .i64 (List.getD env 11 undef) (fun x11 => F6.B4 Post N2 (List.getD env 1 undef) (List.getD env 2 undef) x3 (List.getD env 10 undef) x11 H))) False
theorem F6.q4 (u : Nat → Value) (Post : Value → AHeap → Prop) (N2 : Value → Value → Nat → Value → Int → AHeap → Prop) (x1 : Value) (x2 : Value) (x3 : Nat) (x10 : Value) (x11 : Int) (H : AHeap) : aOps Try.prog T0 F6.o4 F6.o4 (mkEnv (upd (upd (upd (upd (upd u 1 x1) 2 x2) 3 (Value.pointer (some ⟨x3, 0, none⟩))) 10 x10) 11 (Value.int .i64 x11)) 44 0) H (F6.B3.e Post N2) = F6.B4 Post N2 x1 x2 x3 x10 x11 H := by kernel_rfl
theorem F6.r4 (Post : Value → AHeap → Prop) (N2 : Value → Value → Nat → Value → Int → AHeap → Prop) : ∀ env H, F6.B4.e Post N2 env H → aOps Try.prog T0 F6.o4 F6.o4 env H (F6.B3.e Post N2) := by
  intro env H h
  obtain ⟨hl, h⟩ := lenE h
  obtain ⟨x3, e3, h⟩ := asX_elim h
  obtain ⟨x11, e11, h⟩ := asI_elim h
  exact use_ops hl (upd_step (upd_step (upd_step (upd_step (upd_step rfl rfl) rfl) e3) rfl) e11) ((F6.q4 _ Post N2 (List.getD env 1 undef) (List.getD env 2 undef) x3 (List.getD env 10 undef) x11 H).mpr h)
noncomputable def F6.o5 : List Oper := opsIn (codeAt (bodyOf Try.f6) [.r, .r, .r, .r, .l, .r, .l, .l, .r, .l, .l, .l])
def F6.B5 (Post : Value → AHeap → Prop) (N2 : Value → Value → Nat → Value → Int → AHeap → Prop) (x1 : Value) (x2 : Value) (x3 : Nat) (x10 : Value) (x11 : Int) (H : AHeap) : Prop :=
  AC Try.prog T0 22 [x1, (Value.int .i64 x11)] H (fun v1 H2 => asB v1 (fun v3 => AC Try.prog T0 22 [x2, (Value.int .i64 x11)] H2 (fun v4 H5 => asB v4 (fun v6 => pif (!(v3 == v6)) (F6.B4 Post N2 x1 x2 x3 x10 x11 H5) (F6.B3 Post N2 x1 x2 x3 x10 x11 H5)))))
def F6.B5.e (Post : Value → AHeap → Prop) (N2 : Value → Value → Nat → Value → Int → AHeap → Prop) : EP := fun env H => pif (Nat.beq (List.length env) 44) (asX (List.getD env 3 undef) (fun x3 => asI .i64 (List.getD env 11 undef) (fun x11 => F6.B5 Post N2 (List.getD env 1 undef) (List.getD env 2 undef) x3 (List.getD env 10 undef) x11 H))) False
theorem F6.q5 (u : Nat → Value) (Post : Value → AHeap → Prop) (N2 : Value → Value → Nat → Value → Int → AHeap → Prop) (x1 : Value) (x2 : Value) (x3 : Nat) (x10 : Value) (x11 : Int) (H : AHeap) : aOps Try.prog T0 F6.o5 F6.o5 (mkEnv (upd (upd (upd (upd (upd u 1 x1) 2 x2) 3 (Value.pointer (some ⟨x3, 0, none⟩))) 10 x10) 11 (Value.int .i64 x11)) 44 0) H (fun env H => asB (aev env (.tmp 38)) (fun b => pif b ((F6.B4.e Post N2) env H) ((F6.B3.e Post N2) env H))) = F6.B5 Post N2 x1 x2 x3 x10 x11 H := by kernel_rfl
theorem F6.r5 (Post : Value → AHeap → Prop) (N2 : Value → Value → Nat → Value → Int → AHeap → Prop) : ∀ env H, F6.B5.e Post N2 env H → aOps Try.prog T0 F6.o5 F6.o5 env H (fun env H => asB (aev env (.tmp 38)) (fun b => pif b ((F6.B4.e Post N2) env H) ((F6.B3.e Post N2) env H))) := by
  intro env H h
  obtain ⟨hl, h⟩ := lenE h
  obtain ⟨x3, e3, h⟩ := asX_elim h
  obtain ⟨x11, e11, h⟩ := asI_elim h
  exact use_ops hl (upd_step (upd_step (upd_step (upd_step (upd_step rfl rfl) rfl) e3) rfl) e11) ((F6.q5 _ Post N2 (List.getD env 1 undef) (List.getD env 2 undef) x3 (List.getD env 10 undef) x11 H).mpr h)
noncomputable def F6.o6 : List Oper := opsIn (codeAt (bodyOf Try.f6) [.r, .r, .r, .r, .l, .r, .l, .l, .l, .l])
def F6.B6 (Post : Value → AHeap → Prop) (N2 : Value → Value → Nat → Value → Int → AHeap → Prop) (x1 : Value) (x2 : Value) (x3 : Nat) (x10 : Value) (x11 : Int) (H : AHeap) : Prop :=
  ld1 H x3 1 (fun v1 => lenK v1 (fun n2 => pif (decide ((x11 : Int) < (n2 : Int))) (F6.B5 Post N2 x1 x2 x3 x10 x11 H) (F6.B1 Post x10 H)))
def F6.B6.e (Post : Value → AHeap → Prop) (N2 : Value → Value → Nat → Value → Int → AHeap → Prop) : EP := fun env H => pif (Nat.beq (List.length env) 44) (asX (List.getD env 3 undef) (fun x3 => asI .i64 (List.getD env 11 undef) (fun x11 => F6.B6 Post N2 (List.getD env 1 undef) (List.getD env 2 undef) x3 (List.getD env 10 undef) x11 H))) False
theorem F6.q6 (u : Nat → Value) (Post : Value → AHeap → Prop) (N2 : Value → Value → Nat → Value → Int → AHeap → Prop) (x1 : Value) (x2 : Value) (x3 : Nat) (x10 : Value) (x11 : Int) (H : AHeap) : aOps Try.prog T0 F6.o6 F6.o6 (mkEnv (upd (upd (upd (upd (upd u 1 x1) 2 x2) 3 (Value.pointer (some ⟨x3, 0, none⟩))) 10 x10) 11 (Value.int .i64 x11)) 44 0) H (fun env H => asB (aev env (.tmp 29)) (fun b => pif b ((F6.B5.e Post N2) env H) ((F6.B1.e Post) env H))) = F6.B6 Post N2 x1 x2 x3 x10 x11 H := by kernel_rfl
theorem F6.r6 (Post : Value → AHeap → Prop) (N2 : Value → Value → Nat → Value → Int → AHeap → Prop) : ∀ env H, F6.B6.e Post N2 env H → aOps Try.prog T0 F6.o6 F6.o6 env H (fun env H => asB (aev env (.tmp 29)) (fun b => pif b ((F6.B5.e Post N2) env H) ((F6.B1.e Post) env H))) := by
  intro env H h
  obtain ⟨hl, h⟩ := lenE h
  obtain ⟨x3, e3, h⟩ := asX_elim h
  obtain ⟨x11, e11, h⟩ := asI_elim h
  exact use_ops hl (upd_step (upd_step (upd_step (upd_step (upd_step rfl rfl) rfl) e3) rfl) e11) ((F6.q6 _ Post N2 (List.getD env 1 undef) (List.getD env 2 undef) x3 (List.getD env 10 undef) x11 H).mpr h)
def F6.L2 (Post : Value → AHeap → Prop) (x1 : Value) (x2 : Value) (x3 : Nat) (x10 : Value) (x11 : Int) (H : AHeap) : Prop :=
  ∃ (I : Value → Value → Nat → Value → Int → AHeap → Prop) (μ : Value → Value → Nat → Value → Int → AHeap → Nat), I x1 x2 x3 x10 x11 H ∧ ∀ x1' x2' x3' x10' x11' H', I x1' x2' x3' x10' x11' H' → F6.B6 Post (fun x1'' x2'' x3'' x10'' x11'' H'' => I x1'' x2'' x3'' x10'' x11'' H'' ∧ μ x1'' x2'' x3'' x10'' x11'' H'' < μ x1' x2' x3' x10' x11' H') x1' x2' x3' x10' x11' H'
def F6.L2.e (Post : Value → AHeap → Prop) : EP := fun env H => pif (Nat.beq (List.length env) 44) (asX (List.getD env 3 undef) (fun x3 => asI .i64 (List.getD env 11 undef) (fun x11 => F6.L2 Post (List.getD env 1 undef) (List.getD env 2 undef) x3 (List.getD env 10 undef) x11 H))) False
theorem F6.l2 (Post : Value → AHeap → Prop) {c : Code} {K : EP} {X : Nat → EP}
    (hb : ∀ N2 : Value → Value → Nat → Value → Int → AHeap → Prop, ∀ env H, (F6.B6.e Post N2) env H → AW Try.prog T0 c env H (mkQ (F6.L2.ne N2) X (F6.ret Post))) :
    ∀ env H, F6.L2.e Post env H → AW Try.prog T0 (.loop c) env H (mkQ K X (F6.ret Post)) := by
  intro env H h
  obtain ⟨hl, h⟩ := lenE h
  obtain ⟨x3, e3, h⟩ := asX_elim h
  obtain ⟨x11, e11, h⟩ := asI_elim h
  obtain ⟨I, μ, h0, hI⟩ := h
  refine r_loop (fun n env H => pif (Nat.beq (List.length env) 44) (asX (List.getD env 3 undef) (fun x3 => asI .i64 (List.getD env 11 undef) (fun x11 => (I (List.getD env 1 undef) (List.getD env 2 undef) x3 (List.getD env 10 undef) x11 H) ∧ (μ (List.getD env 1 undef) (List.getD env 2 undef) x3 (List.getD env 10 undef) x11 H = n)))) False) ?_ env H ⟨μ (List.getD env 1 undef) (List.getD env 2 undef) x3 (List.getD env 10 undef) x11 H, lenM hl (asX_mk' e3 (asI_mk' e11 (⟨h0, rfl⟩)))⟩
  intro n env' H' h
  obtain ⟨hl', h⟩ := lenE h
  obtain ⟨x3', e3', h⟩ := asX_elim h
  obtain ⟨x11', e11', h⟩ := asI_elim h
  obtain ⟨hi, hm⟩ := h
  refine r_imp (hb (fun x1'' x2'' x3'' x10'' x11'' H'' => I x1'' x2'' x3'' x10'' x11'' H'' ∧ μ x1'' x2'' x3'' x10'' x11'' H'' < n)) ?_ env' H' ?_
  · intro env H h
    obtain ⟨hl'', h⟩ := lenE h
    obtain ⟨x3'', e3'', h⟩ := asX_elim h
    obtain ⟨x11'', e11'', h⟩ := asI_elim h
    obtain ⟨hi, hlt⟩ := h
    exact ⟨_, hlt, lenM hl'' (asX_mk' e3'' (asI_mk' e11'' (⟨hi, rfl⟩)))⟩
  · have h := hI (List.getD env' 1 undef) (List.getD env' 2 undef) x3' (List.getD env' 10 undef) x11' H' hi
    rw [hm] at h
    exact lenM hl' (asX_mk' e3' (asI_mk' e11' (h)))
noncomputable def F6.o7 : List Oper := opsIn (codeAt (bodyOf Try.f6) [.r, .r, .r, .r, .l, .l])
def F6.B7 (Post : Value → AHeap → Prop) (x1 : Value) (x2 : Value) (x3 : Nat) (x10 : Value) (H : AHeap) : Prop :=
  F6.L2 Post x1 x2 x3 x10 0 H
def F6.B7.e (Post : Value → AHeap → Prop) : EP := fun env H => pif (Nat.beq (List.length env) 44) (asX (List.getD env 3 undef) (fun x3 => F6.B7 Post (List.getD env 1 undef) (List.getD env 2 undef) x3 (List.getD env 10 undef) H)) False
theorem F6.q7 (u : Nat → Value) (Post : Value → AHeap → Prop) (x1 : Value) (x2 : Value) (x3 : Nat) (x10 : Value) (H : AHeap) : aOps Try.prog T0 F6.o7 F6.o7 (mkEnv (upd (upd (upd (upd u 1 x1) 2 x2) 3 (Value.pointer (some ⟨x3, 0, none⟩))) 10 x10) 44 0) H (F6.L2.e Post) = F6.B7 Post x1 x2 x3 x10 H := by kernel_rfl
theorem F6.r7 (Post : Value → AHeap → Prop) : ∀ env H, F6.B7.e Post env H → aOps Try.prog T0 F6.o7 F6.o7 env H (F6.L2.e Post) := by
  intro env H h
  obtain ⟨hl, h⟩ := lenE h
  obtain ⟨x3, e3, h⟩ := asX_elim h
  exact use_ops hl (upd_step (upd_step (upd_step (upd_step rfl rfl) rfl) e3) rfl) ((F6.q7 _ Post (List.getD env 1 undef) (List.getD env 2 undef) x3 (List.getD env 10 undef) H).mpr h)
noncomputable def F6.o8 : List Oper := opsIn (codeAt (bodyOf Try.f6) [.r, .r, .r, .l])
def F6.B8 (Post : Value → AHeap → Prop) (x1 : Value) (x2 : Value) (x3 : Nat) (H : AHeap) : Prop :=
  newK H [] 2 (fun b1 H2 => F6.B7 Post x1 x2 x3 (Value.slice (some ⟨b1, 0, none⟩) 0 (0 + 1)) H2)
def F6.B8.e (Post : Value → AHeap → Prop) : EP := fun env H => pif (Nat.beq (List.length env) 44) (asX (List.getD env 3 undef) (fun x3 => F6.B8 Post (List.getD env 1 undef) (List.getD env 2 undef) x3 H)) False
theorem F6.q8 (u : Nat → Value) (Post : Value → AHeap → Prop) (x1 : Value) (x2 : Value) (x3 : Nat) (H : AHeap) : aOps Try.prog T0 F6.o8 F6.o8 (mkEnv (upd (upd (upd u 1 x1) 2 x2) 3 (Value.pointer (some ⟨x3, 0, none⟩))) 44 0) H (F6.B7.e Post) = F6.B8 Post x1 x2 x3 H := by kernel_rfl
theorem F6.r8 (Post : Value → AHeap → Prop) : ∀ env H, F6.B8.e Post env H → aOps Try.prog T0 F6.o8 F6.o8 env H (F6.B7.e Post) := by
  intro env H h
  obtain ⟨hl, h⟩ := lenE h
  obtain ⟨x3, e3, h⟩ := asX_elim h
  exact use_ops hl (upd_step (upd_step (upd_step rfl rfl) rfl) e3) ((F6.q8 _ Post (List.getD env 1 undef) (List.getD env 2 undef) x3 H).mpr h)
noncomputable def F6.o9 : List Oper := opsIn (codeAt (bodyOf Try.f6) [.r, .r, .l, .r, .r, .l, .l])
def F6.B9 (Post : Value → AHeap → Prop) (x9 : Int) (H : AHeap) : Prop :=
  Post (Value.tuple ⟨[(Value.slice none 0 0), (Value.int .i64 x9)]⟩) H
def F6.B9.e (Post : Value → AHeap → Prop) : EP := fun env H => pif (Nat.beq (List.length env) 44) (asI .i64 (List.getD env 9 undef) (fun x9 => F6.B9 Post x9 H)) False
theorem F6.q9 (u : Nat → Value) (Post : Value → AHeap → Prop) (x9 : Int) (H : AHeap) : aOps Try.prog T0 F6.o9 F6.o9 (mkEnv (upd u 9 (Value.int .i64 x9)) 44 0) H (F6.ret Post) = F6.B9 Post x9 H := by kernel_rfl
theorem F6.r9 (Post : Value → AHeap → Prop) : ∀ env H, F6.B9.e Post env H → aOps Try.prog T0 F6.o9 F6.o9 env H (F6.ret Post) := by
  intro env H h
  obtain ⟨hl, h⟩ := lenE h
  obtain ⟨x9, e9, h⟩ := asI_elim h
  exact use_ops hl (upd_step rfl e9) ((F6.q9 _ Post x9 H).mpr h)
noncomputable def F6.o10 : List Oper := opsIn (codeAt (bodyOf Try.f6) [.r, .r, .l, .r, .l])
def F6.B10 (Post : Value → AHeap → Prop) (x1 : Value) (x2 : Value) (x3 : Nat) (x9 : Int) (H : AHeap) : Prop :=
  pif ((x9 : Int) != 0) (F6.B9 Post x9 H) (F6.B8 Post x1 x2 x3 H)
def F6.B10.e (Post : Value → AHeap → Prop) : EP := fun env H => pif (Nat.beq (List.length env) 44) (asX (List.getD env 3 undef) (fun x3 => asI .i64 (List.getD env 9 undef) (fun x9 => F6.B10 Post (List.getD env 1 undef) (List.getD env 2 undef) x3 x9 H))) False
theorem F6.q10 (u : Nat → Value) (Post : Value → AHeap → Prop) (x1 : Value) (x2 : Value) (x3 : Nat) (x9 : Int) (H : AHeap) : aOps Try.prog T0 F6.o10 F6.o10 (mkEnv (upd (upd (upd (upd u 1 x1) 2 x2) 3 (Value.pointer (some ⟨x3, 0, none⟩))) 9 (Value.int .i64 x9)) 44 0) H (fun env H => asB (aev env (.tmp 22)) (fun b => pif b ((F6.B9.e Post) env H) ((F6.B8.e Post) env H))) = F6.B10 Post x1 x2 x3 x9 H := by kernel_rfl
theorem F6.r10 (Post : Value → AHeap → Prop) : ∀ env H, F6.B10.e Post env H → aOps Try.prog T0 F6.o10 F6.o10 env H (fun env H => asB (aev env (.tmp 22)) (fun b => pif b ((F6.B9.e Post) env H) ((F6.B8.e Post) env H))) := by
  intro env H h
  obtain ⟨hl, h⟩ := lenE h
  obtain ⟨x3, e3, h⟩ := asX_elim h
  obtain ⟨x9, e9, h⟩ := asI_elim h
  exact use_ops hl (upd_step (upd_step (upd_step (upd_step rfl rfl) rfl) e3) e9) ((F6.q10 _ Post (List.getD env 1 undef) (List.getD env 2 undef) x3 x9 H).mpr h)
noncomputable def F6.o11 : List Oper := opsIn (codeAt (bodyOf Try.f6) [.r, .r, .l, .l])
def F6.B11 (Post : Value → AHeap → Prop) (x1 : Value) (x2 : Value) (x3 : Nat) (H : AHeap) : Prop :=
  ldI .i64 H x3 0 (fun v1 => ld1 H x3 1 (fun v2 => AC Try.prog T0 21 [(Value.agg ⟨[(Value.int .i64 v1), v2]⟩), x2] H (fun v3 H4 => asI .i64 v3 (fun v5 => F6.B10 Post x1 x2 x3 v5 H4))))
def F6.B11.e (Post : Value → AHeap → Prop) : EP := fun env H => pif (Nat.beq (List.length env) 44) (asX (List.getD env 3 undef) (fun x3 => F6.B11 Post (List.getD env 1 undef) (List.getD env 2 undef) x3 H)) False
theorem F6.q11 (u : Nat → Value) (Post : Value → AHeap → Prop) (x1 : Value) (x2 : Value) (x3 : Nat) (H : AHeap) : aOps Try.prog T0 F6.o11 F6.o11 (mkEnv (upd (upd (upd u 1 x1) 2 x2) 3 (Value.pointer (some ⟨x3, 0, none⟩))) 44 0) H (F6.B10.e Post) = F6.B11 Post x1 x2 x3 H := by kernel_rfl
theorem F6.r11 (Post : Value → AHeap → Prop) : ∀ env H, F6.B11.e Post env H → aOps Try.prog T0 F6.o11 F6.o11 env H (F6.B10.e Post) := by
  intro env H h
  obtain ⟨hl, h⟩ := lenE h
  obtain ⟨x3, e3, h⟩ := asX_elim h
  exact use_ops hl (upd_step (upd_step (upd_step rfl rfl) rfl) e3) ((F6.q11 _ Post (List.getD env 1 undef) (List.getD env 2 undef) x3 H).mpr h)
noncomputable def F6.o12 : List Oper := opsIn (codeAt (bodyOf Try.f6) [.r, .l, .r, .r, .l, .l])
def F6.B12 (Post : Value → AHeap → Prop) (x8 : Int) (H : AHeap) : Prop :=
  Post (Value.tuple ⟨[(Value.slice none 0 0), (Value.int .i64 x8)]⟩) H
def F6.B12.e (Post : Value → AHeap → Prop) : EP := fun env H => pif (Nat.beq (List.length env) 44) (asI .i64 (List.getD env 8 undef) (fun x8 => F6.B12 Post x8 H)) False
theorem F6.q12 (u : Nat → Value) (Post : Value → AHeap → Prop) (x8 : Int) (H : AHeap) : aOps Try.prog T0 F6.o12 F6.o12 (mkEnv (upd u 8 (Value.int .i64 x8)) 44 0) H (F6.ret Post) = F6.B12 Post x8 H := by kernel_rfl
theorem F6.r12 (Post : Value → AHeap → Prop) : ∀ env H, F6.B12.e Post env H → aOps Try.prog T0 F6.o12 F6.o12 env H (F6.ret Post) := by
  intro env H h
  obtain ⟨hl, h⟩ := lenE h
  obtain ⟨x8, e8, h⟩ := asI_elim h
  exact use_ops hl (upd_step rfl e8) ((F6.q12 _ Post x8 H).mpr h)
noncomputable def F6.o13 : List Oper := opsIn (codeAt (bodyOf Try.f6) [.r, .l, .r, .l])
def F6.B13 (Post : Value → AHeap → Prop) (x1 : Value) (x2 : Value) (x3 : Nat) (x8 : Int) (H : AHeap) : Prop :=
  pif ((x8 : Int) != 0) (F6.B12 Post x8 H) (F6.B11 Post x1 x2 x3 H)
def F6.B13.e (Post : Value → AHeap → Prop) : EP := fun env H => pif (Nat.beq (List.length env) 44) (asX (List.getD env 3 undef) (fun x3 => asI .i64 (List.getD env 8 undef) (fun x8 => F6.B13 Post (List.getD env 1 undef) (List.getD env 2 undef) x3 x8 H))) False
theorem F6.q13 (u : Nat → Value) (Post : Value → AHeap → Prop) (x1 : Value) (x2 : Value) (x3 : Nat) (x8 : Int) (H : AHeap) : aOps Try.prog T0 F6.o13 F6.o13 (mkEnv (upd (upd (upd (upd u 1 x1) 2 x2) 3 (Value.pointer (some ⟨x3, 0, none⟩))) 8 (Value.int .i64 x8)) 44 0) H (fun env H => asB (aev env (.tmp 16)) (fun b => pif b ((F6.B12.e Post) env H) ((F6.B11.e Post) env H))) = F6.B13 Post x1 x2 x3 x8 H := by kernel_rfl
theorem F6.r13 (Post : Value → AHeap → Prop) : ∀ env H, F6.B13.e Post env H → aOps Try.prog T0 F6.o13 F6.o13 env H (fun env H => asB (aev env (.tmp 16)) (fun b => pif b ((F6.B12.e Post) env H) ((F6.B11.e Post) env H))) := by
  intro env H h
  obtain ⟨hl, h⟩ := lenE h
  obtain ⟨x3, e3, h⟩ := asX_elim h
  obtain ⟨x8, e8, h⟩ := asI_elim h
  exact use_ops hl (upd_step (upd_step (upd_step (upd_step rfl rfl) rfl) e3) e8) ((F6.q13 _ Post (List.getD env 1 undef) (List.getD env 2 undef) x3 x8 H).mpr h)
noncomputable def F6.o14 : List Oper := opsIn (codeAt (bodyOf Try.f6) [.r, .l, .l])
def F6.B14 (Post : Value → AHeap → Prop) (x1 : Value) (x2 : Value) (x3 : Nat) (H : AHeap) : Prop :=
  ldI .i64 H x3 0 (fun v1 => ld1 H x3 1 (fun v2 => AC Try.prog T0 21 [(Value.agg ⟨[(Value.int .i64 v1), v2]⟩), x1] H (fun v3 H4 => asI .i64 v3 (fun v5 => F6.B13 Post x1 x2 x3 v5 H4))))
def F6.B14.e (Post : Value → AHeap → Prop) : EP := fun env H => pif (Nat.beq (List.length env) 44) (asX (List.getD env 3 undef) (fun x3 => F6.B14 Post (List.getD env 1 undef) (List.getD env 2 undef) x3 H)) False
theorem F6.q14 (u : Nat → Value) (Post : Value → AHeap → Prop) (x1 : Value) (x2 : Value) (x3 : Nat) (H : AHeap) : aOps Try.prog T0 F6.o14 F6.o14 (mkEnv (upd (upd (upd u 1 x1) 2 x2) 3 (Value.pointer (some ⟨x3, 0, none⟩))) 44 0) H (F6.B13.e Post) = F6.B14 Post x1 x2 x3 H := by kernel_rfl
theorem F6.r14 (Post : Value → AHeap → Prop) : ∀ env H, F6.B14.e Post env H → aOps Try.prog T0 F6.o14 F6.o14 env H (F6.B13.e Post) := by
  intro env H h
  obtain ⟨hl, h⟩ := lenE h
  obtain ⟨x3, e3, h⟩ := asX_elim h
  exact use_ops hl (upd_step (upd_step (upd_step rfl rfl) rfl) e3) ((F6.q14 _ Post (List.getD env 1 undef) (List.getD env 2 undef) x3 H).mpr h)
noncomputable def F6.o15 : List Oper := opsIn (codeAt (bodyOf Try.f6) [.l])
def F6.B15 (Post : Value → AHeap → Prop) (x0a : Int) (x0b : Value) (x1 : Value) (x2 : Value) (H : AHeap) : Prop :=
  newK H [(Value.int .i64 x0a), x0b] 31 (fun b1 H2 => F6.B14 Post x1 x2 b1 H2)
def F6.B15.e (Post : Value → AHeap → Prop) : EP := fun env H => pif (Nat.beq (List.length env) 44) (as_iv (List.getD env 0 undef) (fun x0a x0b => F6.B15 Post x0a x0b (List.getD env 1 undef) (List.getD env 2 undef) H)) False
theorem F6.q15 (u : Nat → Value) (Post : Value → AHeap → Prop) (x0a : Int) (x0b : Value) (x1 : Value) (x2 : Value) (H : AHeap) : aOps Try.prog T0 F6.o15 F6.o15 (mkEnv (upd (upd (upd u 0 (Value.agg ⟨[(Value.int .i64 x0a), x0b]⟩)) 1 x1) 2 x2) 44 0) H (F6.B14.e Post) = F6.B15 Post x0a x0b x1 x2 H := by kernel_rfl
theorem F6.r15 (Post : Value → AHeap → Prop) : ∀ env H, F6.B15.e Post env H → aOps Try.prog T0 F6.o15 F6.o15 env H (F6.B14.e Post) := by
  intro env H h
  obtain ⟨hl, h⟩ := lenE h
  obtain ⟨x0a, x0b, e0, h⟩ := as_iv_elim h
  exact use_ops hl (upd_step (upd_step (upd_step rfl e0) rfl) rfl) ((F6.q15 _ Post x0a x0b (List.getD env 1 undef) (List.getD env 2 undef) H).mpr h)
noncomputable def F6.code : Code := (.seq (.region 0 ⟨F6.o15⟩ false) (.seq (.seq (.region 1 ⟨F6.o14⟩ false) (.seq (.region 2 ⟨F6.o13⟩ false) (.cond (.tmp 16) (.seq (.region 3 ⟨F6.o12⟩ false) .ret) .skip))) (.seq (.seq (.region 4 ⟨F6.o11⟩ false) (.seq (.region 5 ⟨F6.o10⟩ false) (.cond (.tmp 22) (.seq (.region 6 ⟨F6.o9⟩ false) .ret) .skip))) (.seq (.region 7 ⟨F6.o8⟩ false) (.seq (.seq (.region 8 ⟨F6.o7⟩ false) (.block 0 (.loop (.seq (.seq (.region 9 ⟨F6.o6⟩ false) (.cond (.tmp 29) .skip (.exit 0))) (.seq (.block 1 (.seq (.region 11 ⟨F6.o5⟩ false) (.cond (.tmp 38) (.region 12 ⟨F6.o4⟩ false) .skip))) (.region 10 ⟨F6.o3⟩ false)))))) (.seq (.region 13 ⟨F6.o1⟩ false) .ret))))))
theorem F6.body : Try.f6.body = some F6.code := by kernel_rfl
theorem F6.main (Post : Value → AHeap → Prop) : ∀ env H, F6.B15.e Post env H → AW Try.prog T0 F6.code env H (mkQ (F6.ret Post) (fun _ _ _ => False) (F6.ret Post)) :=
  (r_seq (r_region T0_ok (F6.r15 Post)) (r_seq (r_seq (r_region T0_ok (F6.r14 Post)) (r_seq (r_region T0_ok (F6.r13 Post)) (r_cond rfl (r_seq (r_region T0_ok (F6.r12 Post)) r_ret) r_skip))) (r_seq (r_seq (r_region T0_ok (F6.r11 Post)) (r_seq (r_region T0_ok (F6.r10 Post)) (r_cond rfl (r_seq (r_region T0_ok (F6.r9 Post)) r_ret) r_skip))) (r_seq (r_region T0_ok (F6.r8 Post)) (r_seq (r_seq (r_region T0_ok (F6.r7 Post)) (r_block (F6.l2 Post (fun N2 => (r_seq (r_seq (r_region T0_ok (F6.r6 Post N2)) (r_cond rfl r_skip (r_exit (fun _ _ h => h)))) (r_seq (r_block (r_seq (r_region T0_ok (F6.r5 Post N2)) (r_cond rfl (r_region T0_ok (F6.r4 Post N2)) r_skip))) (r_region T0_ok (F6.r3 Post N2)))))))) (r_seq (r_region T0_ok (F6.r1 Post)) r_ret))))))
theorem F6.ac (Post : Value → AHeap → Prop) (x0a : Int) (x0b : Value) (x1 : Value) (x2 : Value) (H : AHeap) (h : F6.B15 Post x0a x0b x1 x2 H) : AC Try.prog T0 6 [(Value.agg ⟨[(Value.int .i64 x0a), x0b]⟩), x1, x2] H Post :=
  r_fn T0_ok (c := F6.code) (n := 44) Try.func6 F6.body (by kernel_rfl) (F6.main Post) (lenM (by kernel_rfl) (as_iv_mk' (by kernel_rfl) (h)))

-- loop.example/g01329/laws.toGraph
noncomputable def F7.ret (Post : Value → AHeap → Prop) : EP := retE T0 12 Try.f7 Post
noncomputable def F7.o1 : List Oper := opsIn (codeAt (bodyOf Try.f7) [.r, .r, .r, .r, .l])
def F7.B1 (Post : Value → AHeap → Prop) (x2 : Nat) (x3 : Nat) (H : AHeap) : Prop :=
  ldI .i64 H x3 0 (fun v1 => ld1 H x3 1 (fun v2 => stK H x2 0 [(Value.int .i64 v1), v2] (fun H3 => ldI .i64 H3 x2 0 (fun v4 => ld1 H3 x2 1 (fun v5 => Post (Value.agg ⟨[(Value.int .i64 v4), v5]⟩) H3)))))
def F7.B1.e (Post : Value → AHeap → Prop) : EP := fun env H => pif (Nat.beq (List.length env) 12) (asX (List.getD env 2 undef) (fun x2 => asX (List.getD env 3 undef) (fun x3 => F7.B1 Post x2 x3 H))) False
theorem F7.q1 (u : Nat → Value) (Post : Value → AHeap → Prop) (x2 : Nat) (x3 : Nat) (H : AHeap) : aOps Try.prog T0 F7.o1 F7.o1 (mkEnv (upd (upd u 2 (Value.pointer (some ⟨x2, 0, none⟩))) 3 (Value.pointer (some ⟨x3, 0, none⟩))) 12 0) H (F7.ret Post) = F7.B1 Post x2 x3 H := by kernel_rfl
theorem F7.r1 (Post : Value → AHeap → Prop) : ∀ env H, F7.B1.e Post env H → aOps Try.prog T0 F7.o1 F7.o1 env H (F7.ret Post) := by
  intro env H h
  obtain ⟨hl, h⟩ := lenE h
  obtain ⟨x2, e2, h⟩ := asX_elim h
  obtain ⟨x3, e3, h⟩ := asX_elim h
  exact use_ops hl (upd_step (upd_step rfl e2) e3) ((F7.q1 _ Post x2 x3 H).mpr h)
noncomputable def F7.o2 : List Oper := opsIn (codeAt (bodyOf Try.f7) [.r, .r, .r, .l])
def F7.B2 (Post : Value → AHeap → Prop) (x1 : Nat) (x2 : Nat) (x3 : Nat) (H : AHeap) : Prop :=
  ld1 H x1 1 (fun v1 => AC Try.prog T0 23 [v1] H (fun v2 H3 => pif (Value.oneCell' v2) (stK H3 x3 1 [v2] (fun H5 => F7.B1 Post x2 x3 H5)) False))
def F7.B2.e (Post : Value → AHeap → Prop) : EP := fun env H => pif (Nat.beq (List.length env) 12) (asX (List.getD env 1 undef) (fun x1 => asX (List.getD env 2 undef) (fun x2 => asX (List.getD env 3 undef) (fun x3 => F7.B2 Post x1 x2 x3 H)))) False
theorem F7.q2 (u : Nat → Value) (Post : Value → AHeap → Prop) (x1 : Nat) (x2 : Nat) (x3 : Nat) (H : AHeap) : aOps Try.prog T0 F7.o2 F7.o2 (mkEnv (upd (upd (upd u 1 (Value.pointer (some ⟨x1, 0, none⟩))) 2 (Value.pointer (some ⟨x2, 0, none⟩))) 3 (Value.pointer (some ⟨x3, 0, none⟩))) 12 0) H (F7.B1.e Post) = F7.B2 Post x1 x2 x3 H := by kernel_rfl
theorem F7.r2 (Post : Value → AHeap → Prop) : ∀ env H, F7.B2.e Post env H → aOps Try.prog T0 F7.o2 F7.o2 env H (F7.B1.e Post) := by
  intro env H h
  obtain ⟨hl, h⟩ := lenE h
  obtain ⟨x1, e1, h⟩ := asX_elim h
  obtain ⟨x2, e2, h⟩ := asX_elim h
  obtain ⟨x3, e3, h⟩ := asX_elim h
  exact use_ops hl (upd_step (upd_step (upd_step rfl e1) e2) e3) ((F7.q2 _ Post x1 x2 x3 H).mpr h)
noncomputable def F7.o3 : List Oper := opsIn (codeAt (bodyOf Try.f7) [.r, .r, .l])
def F7.B3 (Post : Value → AHeap → Prop) (x1 : Nat) (x2 : Nat) (x3 : Nat) (H : AHeap) : Prop :=
  ldI .i64 H x1 0 (fun v1 => stK H x3 0 [(Value.int .i64 v1)] (fun H2 => F7.B2 Post x1 x2 x3 H2))
def F7.B3.e (Post : Value → AHeap → Prop) : EP := fun env H => pif (Nat.beq (List.length env) 12) (asX (List.getD env 1 undef) (fun x1 => asX (List.getD env 2 undef) (fun x2 => asX (List.getD env 3 undef) (fun x3 => F7.B3 Post x1 x2 x3 H)))) False
theorem F7.q3 (u : Nat → Value) (Post : Value → AHeap → Prop) (x1 : Nat) (x2 : Nat) (x3 : Nat) (H : AHeap) : aOps Try.prog T0 F7.o3 F7.o3 (mkEnv (upd (upd (upd u 1 (Value.pointer (some ⟨x1, 0, none⟩))) 2 (Value.pointer (some ⟨x2, 0, none⟩))) 3 (Value.pointer (some ⟨x3, 0, none⟩))) 12 0) H (F7.B2.e Post) = F7.B3 Post x1 x2 x3 H := by kernel_rfl
theorem F7.r3 (Post : Value → AHeap → Prop) : ∀ env H, F7.B3.e Post env H → aOps Try.prog T0 F7.o3 F7.o3 env H (F7.B2.e Post) := by
  intro env H h
  obtain ⟨hl, h⟩ := lenE h
  obtain ⟨x1, e1, h⟩ := asX_elim h
  obtain ⟨x2, e2, h⟩ := asX_elim h
  obtain ⟨x3, e3, h⟩ := asX_elim h
  exact use_ops hl (upd_step (upd_step (upd_step rfl e1) e2) e3) ((F7.q3 _ Post x1 x2 x3 H).mpr h)
noncomputable def F7.o4 : List Oper := opsIn (codeAt (bodyOf Try.f7) [.r, .l])
def F7.B4 (Post : Value → AHeap → Prop) (x1 : Nat) (x2 : Nat) (H : AHeap) : Prop :=
  newK H [(Value.int .i64 0), (Value.slice none 0 0)] 31 (fun b1 H2 => F7.B3 Post x1 x2 b1 H2)
def F7.B4.e (Post : Value → AHeap → Prop) : EP := fun env H => pif (Nat.beq (List.length env) 12) (asX (List.getD env 1 undef) (fun x1 => asX (List.getD env 2 undef) (fun x2 => F7.B4 Post x1 x2 H))) False
theorem F7.q4 (u : Nat → Value) (Post : Value → AHeap → Prop) (x1 : Nat) (x2 : Nat) (H : AHeap) : aOps Try.prog T0 F7.o4 F7.o4 (mkEnv (upd (upd u 1 (Value.pointer (some ⟨x1, 0, none⟩))) 2 (Value.pointer (some ⟨x2, 0, none⟩))) 12 0) H (F7.B3.e Post) = F7.B4 Post x1 x2 H := by kernel_rfl
theorem F7.r4 (Post : Value → AHeap → Prop) : ∀ env H, F7.B4.e Post env H → aOps Try.prog T0 F7.o4 F7.o4 env H (F7.B3.e Post) := by
  intro env H h
  obtain ⟨hl, h⟩ := lenE h
  obtain ⟨x1, e1, h⟩ := asX_elim h
  obtain ⟨x2, e2, h⟩ := asX_elim h
  exact use_ops hl (upd_step (upd_step rfl e1) e2) ((F7.q4 _ Post x1 x2 H).mpr h)
noncomputable def F7.o5 : List Oper := opsIn (codeAt (bodyOf Try.f7) [.l])
def F7.B5 (Post : Value → AHeap → Prop) (x0a : Int) (x0b : Value) (H : AHeap) : Prop :=
  newK H [(Value.int .i64 x0a), x0b] 24 (fun b1 H2 => newK H2 [(Value.int .i64 0), (Value.slice none 0 0)] 31 (fun b3 H4 => F7.B4 Post b1 b3 H4))
def F7.B5.e (Post : Value → AHeap → Prop) : EP := fun env H => pif (Nat.beq (List.length env) 12) (as_iv (List.getD env 0 undef) (fun x0a x0b => F7.B5 Post x0a x0b H)) False
theorem F7.q5 (u : Nat → Value) (Post : Value → AHeap → Prop) (x0a : Int) (x0b : Value) (H : AHeap) : aOps Try.prog T0 F7.o5 F7.o5 (mkEnv (upd u 0 (Value.agg ⟨[(Value.int .i64 x0a), x0b]⟩)) 12 0) H (F7.B4.e Post) = F7.B5 Post x0a x0b H := by kernel_rfl
theorem F7.r5 (Post : Value → AHeap → Prop) : ∀ env H, F7.B5.e Post env H → aOps Try.prog T0 F7.o5 F7.o5 env H (F7.B4.e Post) := by
  intro env H h
  obtain ⟨hl, h⟩ := lenE h
  obtain ⟨x0a, x0b, e0, h⟩ := as_iv_elim h
  exact use_ops hl (upd_step rfl e0) ((F7.q5 _ Post x0a x0b H).mpr h)
noncomputable def F7.code : Code := (.seq (.region 0 ⟨F7.o5⟩ false) (.seq (.region 1 ⟨F7.o4⟩ false) (.seq (.region 2 ⟨F7.o3⟩ false) (.seq (.region 3 ⟨F7.o2⟩ false) (.seq (.region 4 ⟨F7.o1⟩ false) .ret)))))
theorem F7.body : Try.f7.body = some F7.code := by kernel_rfl
theorem F7.main (Post : Value → AHeap → Prop) : ∀ env H, F7.B5.e Post env H → AW Try.prog T0 F7.code env H (mkQ (F7.ret Post) (fun _ _ _ => False) (F7.ret Post)) :=
  (r_seq (r_region T0_ok (F7.r5 Post)) (r_seq (r_region T0_ok (F7.r4 Post)) (r_seq (r_region T0_ok (F7.r3 Post)) (r_seq (r_region T0_ok (F7.r2 Post)) (r_seq (r_region T0_ok (F7.r1 Post)) r_ret)))))
theorem F7.ac (Post : Value → AHeap → Prop) (x0a : Int) (x0b : Value) (H : AHeap) (h : F7.B5 Post x0a x0b H) : AC Try.prog T0 7 [(Value.agg ⟨[(Value.int .i64 x0a), x0b]⟩)] H Post :=
  r_fn T0_ok (c := F7.code) (n := 12) Try.func7 F7.body (by kernel_rfl) (F7.main Post) (lenM (by kernel_rfl) (as_iv_mk' (by kernel_rfl) (h)))

-- loop.example/g01329/laws.toInt64S
noncomputable def F8.ret (Post : Value → AHeap → Prop) : EP := retE T0 22 Try.f8 Post
noncomputable def F8.o1 : List Oper := opsIn (codeAt (bodyOf Try.f8) [.r, .r, .r, .l])
def F8.B1 (Post : Value → AHeap → Prop) (x3 : Value) (H : AHeap) : Prop :=
  Post x3 H
def F8.B1.e (Post : Value → AHeap → Prop) : EP := fun env H => pif (Nat.beq (List.length env) 22) (F8.B1 Post (List.getD env 3 undef) H) False
theorem F8.q1 (u : Nat → Value) (Post : Value → AHeap → Prop) (x3 : Value) (H : AHeap) : aOps Try.prog T0 F8.o1 F8.o1 (mkEnv (upd u 3 x3) 22 0) H (F8.ret Post) = F8.B1 Post x3 H := by kernel_rfl
theorem F8.r1 (Post : Value → AHeap → Prop) : ∀ env H, F8.B1.e Post env H → aOps Try.prog T0 F8.o1 F8.o1 env H (F8.ret Post) := by
  intro env H h
  obtain ⟨hl, h⟩ := lenE h
  exact use_ops hl (upd_step rfl rfl) ((F8.q1 _ Post (List.getD env 3 undef) H).mpr h)
def F8.L2.ne (N : Value → Value → Int → AHeap → Prop) : EP := fun env H => pif (Nat.beq (List.length env) 22) (asI .i64 (List.getD env 4 undef) (fun x4 => N (List.getD env 0 undef) (List.getD env 3 undef) x4 H)) False
noncomputable def F8.o3 : List Oper := opsIn (codeAt (bodyOf Try.f8) [.r, .r, .l, .r, .l, .l, .r, .r])
def F8.B3 (Post : Value → AHeap → Prop) (N2 : Value → Value → Int → AHeap → Prop) (x0 : Value) (x3 : Value) (x4 : Int) (H : AHeap) : Prop :=
  N2 x0 x3 (IntKind.i64.wrap (x4 + 1)) H
def F8.B3.e (Post : Value → AHeap → Prop) (N2 : Value → Value → Int → AHeap → Prop) : EP := fun env H => pif (Nat.beq (List.length env) 22) (asI .i64 (List.getD env 4 undef) (fun x4 => F8.B3 Post N2 (List.getD env 0 undef) (List.getD env 3 undef) x4 H)) False
theorem F8.q3 (u : Nat → Value) (Post : Value → AHeap → Prop) (N2 : Value → Value → Int → AHeap → Prop) (x0 : Value) (x3 : Value) (x4 : Int) (H : AHeap) : aOps Try.prog T0 F8.o3 F8.o3 (mkEnv (upd (upd (upd u 0 x0) 3 x3) 4 (Value.int .i64 x4)) 22 0) H (F8.L2.ne N2) = F8.B3 Post N2 x0 x3 x4 H := by kernel_rfl
theorem F8.r3 (Post : Value → AHeap → Prop) (N2 : Value → Value → Int → AHeap → Prop) : ∀ env H, F8.B3.e Post N2 env H → aOps Try.prog T0 F8.o3 F8.o3 env H (F8.L2.ne N2) := by
  intro env H h
  obtain ⟨hl, h⟩ := lenE h
  obtain ⟨x4, e4, h⟩ := asI_elim h
  exact use_ops hl (upd_step (upd_step (upd_step rfl rfl) rfl) e4) ((F8.q3 _ Post N2 (List.getD env 0 undef) (List.getD env 3 undef) x4 H).mpr h)
noncomputable def F8.o4 : List Oper := opsIn (codeAt (bodyOf Try.f8) [.r, .r, .l, .r, .l, .l, .r, .l, .l])
def F8.B4 (Post : Value → AHeap → Prop) (N2 : Value → Value → Int → AHeap → Prop) (x0 : Value) (x3 : Value) (x4 : Int) (H : AHeap) : Prop :=
  idxK x0 x4 1 (fun b1 o2 => ldI .i64 H b1 o2 (fun v3 => idxK x3 x4 1 (fun b4 o5 => stK H b4 o5 [(Value.int .i64 v3)] (fun H6 => F8.B3 Post N2 x0 x3 x4 H6))))
def F8.B4.e (Post : Value → AHeap → Prop) (N2 : Value → Value → Int → AHeap → Prop) : EP := fun env H => pif (Nat.beq (List.length env) 22) (asI .i64 (List.getD env 4 undef) (fun x4 => F8.B4 Post N2 (List.getD env 0 undef) (List.getD env 3 undef) x4 H)) False
theorem F8.q4 (u : Nat → Value) (Post : Value → AHeap → Prop) (N2 : Value → Value → Int → AHeap → Prop) (x0 : Value) (x3 : Value) (x4 : Int) (H : AHeap) : aOps Try.prog T0 F8.o4 F8.o4 (mkEnv (upd (upd (upd u 0 x0) 3 x3) 4 (Value.int .i64 x4)) 22 0) H (F8.B3.e Post N2) = F8.B4 Post N2 x0 x3 x4 H := by kernel_rfl
theorem F8.r4 (Post : Value → AHeap → Prop) (N2 : Value → Value → Int → AHeap → Prop) : ∀ env H, F8.B4.e Post N2 env H → aOps Try.prog T0 F8.o4 F8.o4 env H (F8.B3.e Post N2) := by
  intro env H h
  obtain ⟨hl, h⟩ := lenE h
  obtain ⟨x4, e4, h⟩ := asI_elim h
  exact use_ops hl (upd_step (upd_step (upd_step rfl rfl) rfl) e4) ((F8.q4 _ Post N2 (List.getD env 0 undef) (List.getD env 3 undef) x4 H).mpr h)
noncomputable def F8.o5 : List Oper := opsIn (codeAt (bodyOf Try.f8) [.r, .r, .l, .r, .l, .l, .l, .l])
def F8.B5 (Post : Value → AHeap → Prop) (N2 : Value → Value → Int → AHeap → Prop) (x0 : Value) (x3 : Value) (x4 : Int) (H : AHeap) : Prop :=
  lenK x0 (fun n1 => pif (decide ((x4 : Int) < (n1 : Int))) (F8.B4 Post N2 x0 x3 x4 H) (F8.B1 Post x3 H))
def F8.B5.e (Post : Value → AHeap → Prop) (N2 : Value → Value → Int → AHeap → Prop) : EP := fun env H => pif (Nat.beq (List.length env) 22) (asI .i64 (List.getD env 4 undef) (fun x4 => F8.B5 Post N2 (List.getD env 0 undef) (List.getD env 3 undef) x4 H)) False
theorem F8.q5 (u : Nat → Value) (Post : Value → AHeap → Prop) (N2 : Value → Value → Int → AHeap → Prop) (x0 : Value) (x3 : Value) (x4 : Int) (H : AHeap) : aOps Try.prog T0 F8.o5 F8.o5 (mkEnv (upd (upd (upd u 0 x0) 3 x3) 4 (Value.int .i64 x4)) 22 0) H (fun env H => asB (aev env (.tmp 11)) (fun b => pif b ((F8.B4.e Post N2) env H) ((F8.B1.e Post) env H))) = F8.B5 Post N2 x0 x3 x4 H := by kernel_rfl
theorem F8.r5 (Post : Value → AHeap → Prop) (N2 : Value → Value → Int → AHeap → Prop) : ∀ env H, F8.B5.e Post N2 env H → aOps Try.prog T0 F8.o5 F8.o5 env H (fun env H => asB (aev env (.tmp 11)) (fun b => pif b ((F8.B4.e Post N2) env H) ((F8.B1.e Post) env H))) := by
  intro env H h
  obtain ⟨hl, h⟩ := lenE h
  obtain ⟨x4, e4, h⟩ := asI_elim h
  exact use_ops hl (upd_step (upd_step (upd_step rfl rfl) rfl) e4) ((F8.q5 _ Post N2 (List.getD env 0 undef) (List.getD env 3 undef) x4 H).mpr h)
def F8.L2 (Post : Value → AHeap → Prop) (x0 : Value) (x3 : Value) (x4 : Int) (H : AHeap) : Prop :=
  ∃ (I : Value → Value → Int → AHeap → Prop) (μ : Value → Value → Int → AHeap → Nat), I x0 x3 x4 H ∧ ∀ x0' x3' x4' H', I x0' x3' x4' H' → F8.B5 Post (fun x0'' x3'' x4'' H'' => I x0'' x3'' x4'' H'' ∧ μ x0'' x3'' x4'' H'' < μ x0' x3' x4' H') x0' x3' x4' H'
def F8.L2.e (Post : Value → AHeap → Prop) : EP := fun env H => pif (Nat.beq (List.length env) 22) (asI .i64 (List.getD env 4 undef) (fun x4 => F8.L2 Post (List.getD env 0 undef) (List.getD env 3 undef) x4 H)) False
theorem F8.l2 (Post : Value → AHeap → Prop) {c : Code} {K : EP} {X : Nat → EP}
    (hb : ∀ N2 : Value → Value → Int → AHeap → Prop, ∀ env H, (F8.B5.e Post N2) env H → AW Try.prog T0 c env H (mkQ (F8.L2.ne N2) X (F8.ret Post))) :
    ∀ env H, F8.L2.e Post env H → AW Try.prog T0 (.loop c) env H (mkQ K X (F8.ret Post)) := by
  intro env H h
  obtain ⟨hl, h⟩ := lenE h
  obtain ⟨x4, e4, h⟩ := asI_elim h
  obtain ⟨I, μ, h0, hI⟩ := h
  refine r_loop (fun n env H => pif (Nat.beq (List.length env) 22) (asI .i64 (List.getD env 4 undef) (fun x4 => (I (List.getD env 0 undef) (List.getD env 3 undef) x4 H) ∧ (μ (List.getD env 0 undef) (List.getD env 3 undef) x4 H = n))) False) ?_ env H ⟨μ (List.getD env 0 undef) (List.getD env 3 undef) x4 H, lenM hl (asI_mk' e4 (⟨h0, rfl⟩))⟩
  intro n env' H' h
  obtain ⟨hl', h⟩ := lenE h
  obtain ⟨x4', e4', h⟩ := asI_elim h
  obtain ⟨hi, hm⟩ := h
  refine r_imp (hb (fun x0'' x3'' x4'' H'' => I x0'' x3'' x4'' H'' ∧ μ x0'' x3'' x4'' H'' < n)) ?_ env' H' ?_
  · intro env H h
    obtain ⟨hl'', h⟩ := lenE h
    obtain ⟨x4'', e4'', h⟩ := asI_elim h
    obtain ⟨hi, hlt⟩ := h
    exact ⟨_, hlt, lenM hl'' (asI_mk' e4'' (⟨hi, rfl⟩))⟩
  · have h := hI (List.getD env' 0 undef) (List.getD env' 3 undef) x4' H' hi
    rw [hm] at h
    exact lenM hl' (asI_mk' e4' (h))
noncomputable def F8.o6 : List Oper := opsIn (codeAt (bodyOf Try.f8) [.r, .r, .l, .l])
def F8.B6 (Post : Value → AHeap → Prop) (x0 : Value) (x3 : Value) (H : AHeap) : Prop :=
  F8.L2 Post x0 x3 0 H
def F8.B6.e (Post : Value → AHeap → Prop) : EP := fun env H => pif (Nat.beq (List.length env) 22) (F8.B6 Post (List.getD env 0 undef) (List.getD env 3 undef) H) False
theorem F8.q6 (u : Nat → Value) (Post : Value → AHeap → Prop) (x0 : Value) (x3 : Value) (H : AHeap) : aOps Try.prog T0 F8.o6 F8.o6 (mkEnv (upd (upd u 0 x0) 3 x3) 22 0) H (F8.L2.e Post) = F8.B6 Post x0 x3 H := by kernel_rfl
theorem F8.r6 (Post : Value → AHeap → Prop) : ∀ env H, F8.B6.e Post env H → aOps Try.prog T0 F8.o6 F8.o6 env H (F8.L2.e Post) := by
  intro env H h
  obtain ⟨hl, h⟩ := lenE h
  exact use_ops hl (upd_step (upd_step rfl rfl) rfl) ((F8.q6 _ Post (List.getD env 0 undef) (List.getD env 3 undef) H).mpr h)
noncomputable def F8.o7 : List Oper := opsIn (codeAt (bodyOf Try.f8) [.r, .l])
def F8.B7 (Post : Value → AHeap → Prop) (x0 : Value) (H : AHeap) : Prop :=
  lenK x0 (fun n1 => mkR H 8 2 [(Value.int .i64 0)] (n1 : Int) (n1 : Int) (fun v3 H2 => F8.B6 Post x0 v3 H2))
def F8.B7.e (Post : Value → AHeap → Prop) : EP := fun env H => pif (Nat.beq (List.length env) 22) (F8.B7 Post (List.getD env 0 undef) H) False
theorem F8.q7 (u : Nat → Value) (Post : Value → AHeap → Prop) (x0 : Value) (H : AHeap) : aOps Try.prog T0 F8.o7 F8.o7 (mkEnv (upd u 0 x0) 22 0) H (F8.B6.e Post) = F8.B7 Post x0 H := by kernel_rfl
theorem F8.r7 (Post : Value → AHeap → Prop) : ∀ env H, F8.B7.e Post env H → aOps Try.prog T0 F8.o7 F8.o7 env H (F8.B6.e Post) := by
  intro env H h
  obtain ⟨hl, h⟩ := lenE h
  exact use_ops hl (upd_step rfl rfl) ((F8.q7 _ Post (List.getD env 0 undef) H).mpr h)
noncomputable def F8.o8 : List Oper := opsIn (codeAt (bodyOf Try.f8) [.l])
def F8.B8 (Post : Value → AHeap → Prop) (x0 : Value) (H : AHeap) : Prop :=
  F8.B7 Post x0 H
def F8.B8.e (Post : Value → AHeap → Prop) : EP := fun env H => pif (Nat.beq (List.length env) 22) (F8.B8 Post (List.getD env 0 undef) H) False
theorem F8.q8 (u : Nat → Value) (Post : Value → AHeap → Prop) (x0 : Value) (H : AHeap) : aOps Try.prog T0 F8.o8 F8.o8 (mkEnv (upd u 0 x0) 22 0) H (F8.B7.e Post) = F8.B8 Post x0 H := by kernel_rfl
theorem F8.r8 (Post : Value → AHeap → Prop) : ∀ env H, F8.B8.e Post env H → aOps Try.prog T0 F8.o8 F8.o8 env H (F8.B7.e Post) := by
  intro env H h
  obtain ⟨hl, h⟩ := lenE h
  exact use_ops hl (upd_step rfl rfl) ((F8.q8 _ Post (List.getD env 0 undef) H).mpr h)
noncomputable def F8.code : Code := (.seq (.region 0 ⟨F8.o8⟩ false) (.seq (.region 1 ⟨F8.o7⟩ false) (.seq (.seq (.region 2 ⟨F8.o6⟩ false) (.block 0 (.loop (.seq (.seq (.region 3 ⟨F8.o5⟩ false) (.cond (.tmp 11) .skip (.exit 0))) (.seq (.block 1 (.region 5 ⟨F8.o4⟩ false)) (.region 4 ⟨F8.o3⟩ false)))))) (.seq (.region 6 ⟨F8.o1⟩ false) .ret))))
theorem F8.body : Try.f8.body = some F8.code := by kernel_rfl
theorem F8.main (Post : Value → AHeap → Prop) : ∀ env H, F8.B8.e Post env H → AW Try.prog T0 F8.code env H (mkQ (F8.ret Post) (fun _ _ _ => False) (F8.ret Post)) :=
  (r_seq (r_region T0_ok (F8.r8 Post)) (r_seq (r_region T0_ok (F8.r7 Post)) (r_seq (r_seq (r_region T0_ok (F8.r6 Post)) (r_block (F8.l2 Post (fun N2 => (r_seq (r_seq (r_region T0_ok (F8.r5 Post N2)) (r_cond rfl r_skip (r_exit (fun _ _ h => h)))) (r_seq (r_block (r_region T0_ok (F8.r4 Post N2))) (r_region T0_ok (F8.r3 Post N2)))))))) (r_seq (r_region T0_ok (F8.r1 Post)) r_ret))))
theorem F8.ac (Post : Value → AHeap → Prop) (x0 : Value) (H : AHeap) (h : F8.B8 Post x0 H) : AC Try.prog T0 8 [x0] H Post :=
  r_fn T0_ok (c := F8.code) (n := 22) Try.func8 F8.body (by kernel_rfl) (F8.main Post) (lenM (by kernel_rfl) (h))

-- loop.example/g01329/impl.SumOfSets
noncomputable def F9.ret (Post : Value → AHeap → Prop) : EP := retE T0 32 Try.f9 Post
noncomputable def F9.o1 : List Oper := opsIn (codeAt (bodyOf Try.f9) [.r, .r, .l])
def F9.B1 (Post : Value → AHeap → Prop) (x1 : Value) (x2 : Value) (H : AHeap) : Prop :=
  AC Try.prog T0 27 [x1] H (fun v1 H2 => asI .u64 v1 (fun v3 => AC Try.prog T0 27 [x2] H2 (fun v4 H5 => asI .u64 v4 (fun v6 => AC Try.prog T0 28 [(Value.int .u64 (IntKind.u64.wrap (BitVec.ofInt 64 v3 ^^^ BitVec.ofInt 64 v6).toNat))] H5 (fun v7 H8 => Post (Value.tuple ⟨[v7, (Value.int .i64 0)]⟩) H8)))))
def F9.B1.e (Post : Value → AHeap → Prop) : EP := fun env H => pif (Nat.beq (List.length env) 32) (F9.B1 Post (List.getD env 1 undef) (List.getD env 2 undef) H) False
theorem F9.q1 (u : Nat → Value) (Post : Value → AHeap → Prop) (x1 : Value) (x2 : Value) (H : AHeap) : aOps Try.prog T0 F9.o1 F9.o1 (mkEnv (upd (upd u 1 x1) 2 x2) 32 0) H (F9.ret Post) = F9.B1 Post x1 x2 H := by kernel_rfl
theorem F9.r1 (Post : Value → AHeap → Prop) : ∀ env H, F9.B1.e Post env H → aOps Try.prog T0 F9.o1 F9.o1 env H (F9.ret Post) := by
  intro env H h
  obtain ⟨hl, h⟩ := lenE h
  exact use_ops hl (upd_step (upd_step rfl rfl) rfl) ((F9.q1 _ Post (List.getD env 1 undef) (List.getD env 2 undef) H).mpr h)
noncomputable def F9.o2 : List Oper := opsIn (codeAt (bodyOf Try.f9) [.r, .l, .r, .r, .l, .l])
def F9.B2 (Post : Value → AHeap → Prop) (x8 : Int) (H : AHeap) : Prop :=
  Post (Value.tuple ⟨[(Value.slice none 0 0), (Value.int .i64 x8)]⟩) H
def F9.B2.e (Post : Value → AHeap → Prop) : EP := fun env H => pif (Nat.beq (List.length env) 32) (asI .i64 (List.getD env 8 undef) (fun x8 => F9.B2 Post x8 H)) False
theorem F9.q2 (u : Nat → Value) (Post : Value → AHeap → Prop) (x8 : Int) (H : AHeap) : aOps Try.prog T0 F9.o2 F9.o2 (mkEnv (upd u 8 (Value.int .i64 x8)) 32 0) H (F9.ret Post) = F9.B2 Post x8 H := by kernel_rfl
theorem F9.r2 (Post : Value → AHeap → Prop) : ∀ env H, F9.B2.e Post env H → aOps Try.prog T0 F9.o2 F9.o2 env H (F9.ret Post) := by
  intro env H h
  obtain ⟨hl, h⟩ := lenE h
  obtain ⟨x8, e8, h⟩ := asI_elim h
  exact use_ops hl (upd_step rfl e8) ((F9.q2 _ Post x8 H).mpr h)
noncomputable def F9.o3 : List Oper := opsIn (codeAt (bodyOf Try.f9) [.r, .l, .r, .l])
def F9.B3 (Post : Value → AHeap → Prop) (x1 : Value) (x2 : Value) (x8 : Int) (H : AHeap) : Prop :=
  pif ((x8 : Int) != 0) (F9.B2 Post x8 H) (F9.B1 Post x1 x2 H)
def F9.B3.e (Post : Value → AHeap → Prop) : EP := fun env H => pif (Nat.beq (List.length env) 32) (asI .i64 (List.getD env 8 undef) (fun x8 => F9.B3 Post (List.getD env 1 undef) (List.getD env 2 undef) x8 H)) False
theorem F9.q3 (u : Nat → Value) (Post : Value → AHeap → Prop) (x1 : Value) (x2 : Value) (x8 : Int) (H : AHeap) : aOps Try.prog T0 F9.o3 F9.o3 (mkEnv (upd (upd (upd u 1 x1) 2 x2) 8 (Value.int .i64 x8)) 32 0) H (fun env H => asB (aev env (.tmp 24)) (fun b => pif b ((F9.B2.e Post) env H) ((F9.B1.e Post) env H))) = F9.B3 Post x1 x2 x8 H := by kernel_rfl
theorem F9.r3 (Post : Value → AHeap → Prop) : ∀ env H, F9.B3.e Post env H → aOps Try.prog T0 F9.o3 F9.o3 env H (fun env H => asB (aev env (.tmp 24)) (fun b => pif b ((F9.B2.e Post) env H) ((F9.B1.e Post) env H))) := by
  intro env H h
  obtain ⟨hl, h⟩ := lenE h
  obtain ⟨x8, e8, h⟩ := asI_elim h
  exact use_ops hl (upd_step (upd_step (upd_step rfl rfl) rfl) e8) ((F9.q3 _ Post (List.getD env 1 undef) (List.getD env 2 undef) x8 H).mpr h)
noncomputable def F9.o4 : List Oper := opsIn (codeAt (bodyOf Try.f9) [.r, .l, .l])
def F9.B4 (Post : Value → AHeap → Prop) (x1 : Value) (x2 : Value) (x3 : Nat) (H : AHeap) : Prop :=
  ldI .i64 H x3 0 (fun v1 => ld1 H x3 1 (fun v2 => ld1 H x3 1 (fun v3 => AC Try.prog T0 26 [v3] H (fun v4 H5 => asI .i64 v4 (fun v6 => (AHeap.le H H5) ∧ (AC Try.prog T0 25 [x1, (Value.int .i64 v6)] H5 (fun v7 H8 => asB v7 (fun v9 => (AHeap.le H5 H8) ∧ (pif v9 (ld1 H8 x3 1 (fun v10 => AC Try.prog T0 26 [v10] H8 (fun v11 H12 => asI .i64 v11 (fun v13 => (AHeap.le H8 H12) ∧ (AC Try.prog T0 25 [x2, (Value.int .i64 v13)] H12 (fun v14 H15 => asB v14 (fun v16 => (AHeap.le H12 H15) ∧ (AC Try.prog T0 24 [(Value.agg ⟨[(Value.int .i64 v1), v2]⟩), (Value.bool v16)] H15 (fun v17 H18 => asI .i64 v17 (fun v19 => F9.B3 Post x1 x2 v19 H18)))))))))) (AC Try.prog T0 24 [(Value.agg ⟨[(Value.int .i64 v1), v2]⟩), (Value.bool false)] H8 (fun v20 H21 => asI .i64 v20 (fun v22 => F9.B3 Post x1 x2 v22 H21))))))))))))
def F9.B4.e (Post : Value → AHeap → Prop) : EP := fun env H => pif (Nat.beq (List.length env) 32) (asX (List.getD env 3 undef) (fun x3 => F9.B4 Post (List.getD env 1 undef) (List.getD env 2 undef) x3 H)) False
theorem F9.q4 (u : Nat → Value) (Post : Value → AHeap → Prop) (x1 : Value) (x2 : Value) (x3 : Nat) (H : AHeap) : aOpsD Try.prog T0 F9.o4 (opsOf F9.o4 [(0, false), (1, false), (2, false), (3, false), (4, true), (5, true), (6, false), (7, false), (8, false), (9, false), (10, true), (11, true), (12, false), (13, false), (14, false)]) (mkEnv (upd (upd (upd u 1 x1) 2 x2) 3 (Value.pointer (some ⟨x3, 0, none⟩))) 32 0) H (F9.B3.e Post) = F9.B4 Post x1 x2 x3 H := by kernel_rfl
theorem F9.r4 (Post : Value → AHeap → Prop) : ∀ env H, F9.B4.e Post env H → aOpsD Try.prog T0 F9.o4 (opsOf F9.o4 [(0, false), (1, false), (2, false), (3, false), (4, true), (5, true), (6, false), (7, false), (8, false), (9, false), (10, true), (11, true), (12, false), (13, false), (14, false)]) env H (F9.B3.e Post) := by
  intro env H h
  obtain ⟨hl, h⟩ := lenE h
  obtain ⟨x3, e3, h⟩ := asX_elim h
  exact use_opsD hl (upd_step (upd_step (upd_step rfl rfl) rfl) e3) ((F9.q4 _ Post (List.getD env 1 undef) (List.getD env 2 undef) x3 H).mpr h)
noncomputable def F9.o5 : List Oper := opsIn (codeAt (bodyOf Try.f9) [.l])
def F9.B5 (Post : Value → AHeap → Prop) (x0a : Int) (x0b : Value) (x1 : Value) (x2 : Value) (H : AHeap) : Prop :=
  newK H [(Value.int .i64 x0a), x0b] 31 (fun b1 H2 => F9.B4 Post x1 x2 b1 H2)
def F9.B5.e (Post : Value → AHeap → Prop) : EP := fun env H => pif (Nat.beq (List.length env) 32) (as_iv (List.getD env 0 undef) (fun x0a x0b => F9.B5 Post x0a x0b (List.getD env 1 undef) (List.getD env 2 undef) H)) False
theorem F9.q5 (u : Nat → Value) (Post : Value → AHeap → Prop) (x0a : Int) (x0b : Value) (x1 : Value) (x2 : Value) (H : AHeap) : aOps Try.prog T0 F9.o5 F9.o5 (mkEnv (upd (upd (upd u 0 (Value.agg ⟨[(Value.int .i64 x0a), x0b]⟩)) 1 x1) 2 x2) 32 0) H (F9.B4.e Post) = F9.B5 Post x0a x0b x1 x2 H := by kernel_rfl
theorem F9.r5 (Post : Value → AHeap → Prop) : ∀ env H, F9.B5.e Post env H → aOps Try.prog T0 F9.o5 F9.o5 env H (F9.B4.e Post) := by
  intro env H h
  obtain ⟨hl, h⟩ := lenE h
  obtain ⟨x0a, x0b, e0, h⟩ := as_iv_elim h
  exact use_ops hl (upd_step (upd_step (upd_step rfl e0) rfl) rfl) ((F9.q5 _ Post x0a x0b (List.getD env 1 undef) (List.getD env 2 undef) H).mpr h)
noncomputable def F9.code : Code := (.seq (.region 0 ⟨F9.o5⟩ false) (.seq (.seq (.region 1 ⟨F9.o4⟩ true) (.seq (.region 2 ⟨F9.o3⟩ false) (.cond (.tmp 24) (.seq (.region 3 ⟨F9.o2⟩ false) .ret) .skip))) (.seq (.region 4 ⟨F9.o1⟩ false) .ret)))
theorem F9.body : Try.f9.body = some F9.code := by kernel_rfl
theorem F9.main (Post : Value → AHeap → Prop) : ∀ env H, F9.B5.e Post env H → AW Try.prog T0 F9.code env H (mkQ (F9.ret Post) (fun _ _ _ => False) (F9.ret Post)) :=
  (r_seq (r_region T0_ok (F9.r5 Post)) (r_seq (r_seq (r_draw T0_ok mixed [(0, false), (1, false), (2, false), (3, false), (4, true), (5, true), (6, false), (7, false), (8, false), (9, false), (10, true), (11, true), (12, false), (13, false), (14, false)] (by kernel_rfl) (F9.r4 Post)) (r_seq (r_region T0_ok (F9.r3 Post)) (r_cond rfl (r_seq (r_region T0_ok (F9.r2 Post)) r_ret) r_skip))) (r_seq (r_region T0_ok (F9.r1 Post)) r_ret)))
theorem F9.ac (Post : Value → AHeap → Prop) (x0a : Int) (x0b : Value) (x1 : Value) (x2 : Value) (H : AHeap) (h : F9.B5 Post x0a x0b x1 x2 H) : AC Try.prog T0 9 [(Value.agg ⟨[(Value.int .i64 x0a), x0b]⟩), x1, x2] H Post :=
  r_fn T0_ok (c := F9.code) (n := 32) Try.func9 F9.body (by kernel_rfl) (F9.main Post) (lenM (by kernel_rfl) (as_iv_mk' (by kernel_rfl) (h)))

-- loop.example/g01329/laws.eqInt64S
noncomputable def F10.ret (Post : Value → AHeap → Prop) : EP := retE T0 26 Try.f10 Post
noncomputable def F10.o1 : List Oper := opsIn (codeAt (bodyOf Try.f10) [.r, .r, .r, .l])
def F10.B1 (Post : Value → AHeap → Prop) (H : AHeap) : Prop :=
  Post (Value.bool true) H
def F10.B1.e (Post : Value → AHeap → Prop) : EP := fun env H => pif (Nat.beq (List.length env) 26) (F10.B1 Post H) False
theorem F10.q1 (u : Nat → Value) (Post : Value → AHeap → Prop) (H : AHeap) : aOps Try.prog T0 F10.o1 F10.o1 (mkEnv u 26 0) H (F10.ret Post) = F10.B1 Post H := by kernel_rfl
theorem F10.r1 (Post : Value → AHeap → Prop) : ∀ env H, F10.B1.e Post env H → aOps Try.prog T0 F10.o1 F10.o1 env H (F10.ret Post) := by
  intro env H h
  obtain ⟨hl, h⟩ := lenE h
  exact use_ops hl rfl ((F10.q1 _ Post H).mpr h)
def F10.L2.ne (N : Value → Value → Int → AHeap → Prop) : EP := fun env H => pif (Nat.beq (List.length env) 26) (asI .i64 (List.getD env 5 undef) (fun x5 => N (List.getD env 0 undef) (List.getD env 1 undef) x5 H)) False
noncomputable def F10.o3 : List Oper := opsIn (codeAt (bodyOf Try.f10) [.r, .r, .l, .r, .l, .l, .r, .r])
def F10.B3 (Post : Value → AHeap → Prop) (N2 : Value → Value → Int → AHeap → Prop) (x0 : Value) (x1 : Value) (x5 : Int) (H : AHeap) : Prop :=
  N2 x0 x1 (IntKind.i64.wrap (x5 + 1)) H
def F10.B3.e (Post : Value → AHeap → Prop) (N2 : Value → Value → Int → AHeap → Prop) : EP := fun env H => pif (Nat.beq (List.length env) 26) (asI .i64 (List.getD env 5 undef) (fun x5 => F10.B3 Post N2 (List.getD env 0 undef) (List.getD env 1 undef) x5 H)) False
theorem F10.q3 (u : Nat → Value) (Post : Value → AHeap → Prop) (N2 : Value → Value → Int → AHeap → Prop) (x0 : Value) (x1 : Value) (x5 : Int) (H : AHeap) : aOps Try.prog T0 F10.o3 F10.o3 (mkEnv (upd (upd (upd u 0 x0) 1 x1) 5 (Value.int .i64 x5)) 26 0) H (F10.L2.ne N2) = F10.B3 Post N2 x0 x1 x5 H := by kernel_rfl
theorem F10.r3 (Post : Value → AHeap → Prop) (N2 : Value → Value → Int → AHeap → Prop) : ∀ env H, F10.B3.e Post N2 env H → aOps Try.prog T0 F10.o3 F10.o3 env H (F10.L2.ne N2) := by
  intro env H h
  obtain ⟨hl, h⟩ := lenE h
  obtain ⟨x5, e5, h⟩ := asI_elim h
  exact use_ops hl (upd_step (upd_step (upd_step rfl rfl) rfl) e5) ((F10.q3 _ Post N2 (List.getD env 0 undef) (List.getD env 1 undef) x5 H).mpr h)
noncomputable def F10.o4 : List Oper := opsIn (codeAt (bodyOf Try.f10) [.r, .r, .l, .r, .l, .l, .r, .l, .l, .r, .l, .l])
def F10.B4 (Post : Value → AHeap → Prop) (N2 : Value → Value → Int → AHeap → Prop) (H : AHeap) : Prop :=
  Post (Value.bool false) H
def F10.B4.e (Post : Value → AHeap → Prop) (N2 : Value → Value → Int → AHeap → Prop) : EP := fun env H => pif (Nat.beq (List.length env) 26) (F10.B4 Post N2 H) False
theorem F10.q4 (u : Nat → Value) (Post : Value → AHeap → Prop) (N2 : Value → Value → Int → AHeap → Prop) (H : AHeap) : aOps Try.prog T0 F10.o4 F10.o4 (mkEnv u 26 0) H (F10.ret Post) = F10.B4 Post N2 H := by kernel_rfl
theorem F10.r4 (Post : Value → AHeap → Prop) (N2 : Value → Value → Int → AHeap → Prop) : ∀ env H, F10.B4.e Post N2 env H → aOps Try.prog T0 F10.o4 F10.o4 env H (F10.ret Post) := by
  intro env H h
  obtain ⟨hl, h⟩ := lenE h
  exact use_ops hl rfl ((F10.q4 _ Post N2 H).mpr h)
noncomputable def F10.o5 : List Oper := opsIn (codeAt (bodyOf Try.f10) [.r, .r, .l, .r, .l, .l, .r, .l, .l, .l])
def F10.B5 (Post : Value → AHeap → Prop) (N2 : Value → Value → Int → AHeap → Prop) (x0 : Value) (x1 : Value) (x5 : Int) (H : AHeap) : Prop :=
  idxK x0 x5 1 (fun b1 o2 => ldI .i64 H b1 o2 (fun v3 => idxK x1 x5 1 (fun b4 o5 => ldI .i64 H b4 o5 (fun v6 => pif ((v3 : Int) != v6) (F10.B4 Post N2 H) (F10.B3 Post N2 x0 x1 x5 H)))))
def F10.B5.e (Post : Value → AHeap → Prop) (N2 : Value → Value → Int → AHeap → Prop) : EP := fun env H => pif (Nat.beq (List.length env) 26) (asI .i64 (List.getD env 5 undef) (fun x5 => F10.B5 Post N2 (List.getD env 0 undef) (List.getD env 1 undef) x5 H)) False
theorem F10.q5 (u : Nat → Value) (Post : Value → AHeap → Prop) (N2 : Value → Value → Int → AHeap → Prop) (x0 : Value) (x1 : Value) (x5 : Int) (H : AHeap) : aOpsD Try.prog T0 F10.o5 (opsOf F10.o5 [(0, false), (1, false), (2, false), (3, false), (4, false), (5, false), (6, false), (7, false), (8, false)]) (mkEnv (upd (upd (upd u 0 x0) 1 x1) 5 (Value.int .i64 x5)) 26 0) H (fun env H => asB (aev env (.tmp 25)) (fun b => pif b ((F10.B4.e Post N2) env H) ((F10.B3.e Post N2) env H))) = F10.B5 Post N2 x0 x1 x5 H := by kernel_rfl
theorem F10.r5 (Post : Value → AHeap → Prop) (N2 : Value → Value → Int → AHeap → Prop) : ∀ env H, F10.B5.e Post N2 env H → aOpsD Try.prog T0 F10.o5 (opsOf F10.o5 [(0, false), (1, false), (2, false), (3, false), (4, false), (5, false), (6, false), (7, false), (8, false)]) env H (fun env H => asB (aev env (.tmp 25)) (fun b => pif b ((F10.B4.e Post N2) env H) ((F10.B3.e Post N2) env H))) := by
  intro env H h
  obtain ⟨hl, h⟩ := lenE h
  obtain ⟨x5, e5, h⟩ := asI_elim h
  exact use_opsD hl (upd_step (upd_step (upd_step rfl rfl) rfl) e5) ((F10.q5 _ Post N2 (List.getD env 0 undef) (List.getD env 1 undef) x5 H).mpr h)
noncomputable def F10.o6 : List Oper := opsIn (codeAt (bodyOf Try.f10) [.r, .r, .l, .r, .l, .l, .l, .l])
def F10.B6 (Post : Value → AHeap → Prop) (N2 : Value → Value → Int → AHeap → Prop) (x0 : Value) (x1 : Value) (x5 : Int) (H : AHeap) : Prop :=
  lenK x0 (fun n1 => pif (decide ((x5 : Int) < (n1 : Int))) (F10.B5 Post N2 x0 x1 x5 H) (F10.B1 Post H))
def F10.B6.e (Post : Value → AHeap → Prop) (N2 : Value → Value → Int → AHeap → Prop) : EP := fun env H => pif (Nat.beq (List.length env) 26) (asI .i64 (List.getD env 5 undef) (fun x5 => F10.B6 Post N2 (List.getD env 0 undef) (List.getD env 1 undef) x5 H)) False
theorem F10.q6 (u : Nat → Value) (Post : Value → AHeap → Prop) (N2 : Value → Value → Int → AHeap → Prop) (x0 : Value) (x1 : Value) (x5 : Int) (H : AHeap) : aOps Try.prog T0 F10.o6 F10.o6 (mkEnv (upd (upd (upd u 0 x0) 1 x1) 5 (Value.int .i64 x5)) 26 0) H (fun env H => asB (aev env (.tmp 14)) (fun b => pif b ((F10.B5.e Post N2) env H) ((F10.B1.e Post) env H))) = F10.B6 Post N2 x0 x1 x5 H := by kernel_rfl
theorem F10.r6 (Post : Value → AHeap → Prop) (N2 : Value → Value → Int → AHeap → Prop) : ∀ env H, F10.B6.e Post N2 env H → aOps Try.prog T0 F10.o6 F10.o6 env H (fun env H => asB (aev env (.tmp 14)) (fun b => pif b ((F10.B5.e Post N2) env H) ((F10.B1.e Post) env H))) := by
  intro env H h
  obtain ⟨hl, h⟩ := lenE h
  obtain ⟨x5, e5, h⟩ := asI_elim h
  exact use_ops hl (upd_step (upd_step (upd_step rfl rfl) rfl) e5) ((F10.q6 _ Post N2 (List.getD env 0 undef) (List.getD env 1 undef) x5 H).mpr h)
def F10.L2 (Post : Value → AHeap → Prop) (x0 : Value) (x1 : Value) (x5 : Int) (H : AHeap) : Prop :=
  ∃ (I : Value → Value → Int → AHeap → Prop) (μ : Value → Value → Int → AHeap → Nat), I x0 x1 x5 H ∧ ∀ x0' x1' x5' H', I x0' x1' x5' H' → F10.B6 Post (fun x0'' x1'' x5'' H'' => I x0'' x1'' x5'' H'' ∧ μ x0'' x1'' x5'' H'' < μ x0' x1' x5' H') x0' x1' x5' H'
def F10.L2.e (Post : Value → AHeap → Prop) : EP := fun env H => pif (Nat.beq (List.length env) 26) (asI .i64 (List.getD env 5 undef) (fun x5 => F10.L2 Post (List.getD env 0 undef) (List.getD env 1 undef) x5 H)) False
theorem F10.l2 (Post : Value → AHeap → Prop) {c : Code} {K : EP} {X : Nat → EP}
    (hb : ∀ N2 : Value → Value → Int → AHeap → Prop, ∀ env H, (F10.B6.e Post N2) env H → AW Try.prog T0 c env H (mkQ (F10.L2.ne N2) X (F10.ret Post))) :
    ∀ env H, F10.L2.e Post env H → AW Try.prog T0 (.loop c) env H (mkQ K X (F10.ret Post)) := by
  intro env H h
  obtain ⟨hl, h⟩ := lenE h
  obtain ⟨x5, e5, h⟩ := asI_elim h
  obtain ⟨I, μ, h0, hI⟩ := h
  refine r_loop (fun n env H => pif (Nat.beq (List.length env) 26) (asI .i64 (List.getD env 5 undef) (fun x5 => (I (List.getD env 0 undef) (List.getD env 1 undef) x5 H) ∧ (μ (List.getD env 0 undef) (List.getD env 1 undef) x5 H = n))) False) ?_ env H ⟨μ (List.getD env 0 undef) (List.getD env 1 undef) x5 H, lenM hl (asI_mk' e5 (⟨h0, rfl⟩))⟩
  intro n env' H' h
  obtain ⟨hl', h⟩ := lenE h
  obtain ⟨x5', e5', h⟩ := asI_elim h
  obtain ⟨hi, hm⟩ := h
  refine r_imp (hb (fun x0'' x1'' x5'' H'' => I x0'' x1'' x5'' H'' ∧ μ x0'' x1'' x5'' H'' < n)) ?_ env' H' ?_
  · intro env H h
    obtain ⟨hl'', h⟩ := lenE h
    obtain ⟨x5'', e5'', h⟩ := asI_elim h
    obtain ⟨hi, hlt⟩ := h
    exact ⟨_, hlt, lenM hl'' (asI_mk' e5'' (⟨hi, rfl⟩))⟩
  · have h := hI (List.getD env' 0 undef) (List.getD env' 1 undef) x5' H' hi
    rw [hm] at h
    exact lenM hl' (asI_mk' e5' (h))
noncomputable def F10.o7 : List Oper := opsIn (codeAt (bodyOf Try.f10) [.r, .r, .l, .l])
def F10.B7 (Post : Value → AHeap → Prop) (x0 : Value) (x1 : Value) (H : AHeap) : Prop :=
  F10.L2 Post x0 x1 0 H
def F10.B7.e (Post : Value → AHeap → Prop) : EP := fun env H => pif (Nat.beq (List.length env) 26) (F10.B7 Post (List.getD env 0 undef) (List.getD env 1 undef) H) False
theorem F10.q7 (u : Nat → Value) (Post : Value → AHeap → Prop) (x0 : Value) (x1 : Value) (H : AHeap) : aOps Try.prog T0 F10.o7 F10.o7 (mkEnv (upd (upd u 0 x0) 1 x1) 26 0) H (F10.L2.e Post) = F10.B7 Post x0 x1 H := by kernel_rfl
theorem F10.r7 (Post : Value → AHeap → Prop) : ∀ env H, F10.B7.e Post env H → aOps Try.prog T0 F10.o7 F10.o7 env H (F10.L2.e Post) := by
  intro env H h
  obtain ⟨hl, h⟩ := lenE h
  exact use_ops hl (upd_step (upd_step rfl rfl) rfl) ((F10.q7 _ Post (List.getD env 0 undef) (List.getD env 1 undef) H).mpr h)
noncomputable def F10.o8 : List Oper := opsIn (codeAt (bodyOf Try.f10) [.r, .l, .r, .l, .l])
def F10.B8 (Post : Value → AHeap → Prop) (H : AHeap) : Prop :=
  Post (Value.bool false) H
def F10.B8.e (Post : Value → AHeap → Prop) : EP := fun env H => pif (Nat.beq (List.length env) 26) (F10.B8 Post H) False
theorem F10.q8 (u : Nat → Value) (Post : Value → AHeap → Prop) (H : AHeap) : aOps Try.prog T0 F10.o8 F10.o8 (mkEnv u 26 0) H (F10.ret Post) = F10.B8 Post H := by kernel_rfl
theorem F10.r8 (Post : Value → AHeap → Prop) : ∀ env H, F10.B8.e Post env H → aOps Try.prog T0 F10.o8 F10.o8 env H (F10.ret Post) := by
  intro env H h
  obtain ⟨hl, h⟩ := lenE h
  exact use_ops hl rfl ((F10.q8 _ Post H).mpr h)
noncomputable def F10.o9 : List Oper := opsIn (codeAt (bodyOf Try.f10) [.r, .l, .l])
def F10.B9 (Post : Value → AHeap → Prop) (x0 : Value) (x1 : Value) (H : AHeap) : Prop :=
  lenK x0 (fun n1 => lenK x1 (fun n2 => pif (((n1 : Int) : Int) != (n2 : Int)) (F10.B8 Post H) (F10.B7 Post x0 x1 H)))
def F10.B9.e (Post : Value → AHeap → Prop) : EP := fun env H => pif (Nat.beq (List.length env) 26) (F10.B9 Post (List.getD env 0 undef) (List.getD env 1 undef) H) False
theorem F10.q9 (u : Nat → Value) (Post : Value → AHeap → Prop) (x0 : Value) (x1 : Value) (H : AHeap) : aOps Try.prog T0 F10.o9 F10.o9 (mkEnv (upd (upd u 0 x0) 1 x1) 26 0) H (fun env H => asB (aev env (.tmp 10)) (fun b => pif b ((F10.B8.e Post) env H) ((F10.B7.e Post) env H))) = F10.B9 Post x0 x1 H := by kernel_rfl
theorem F10.r9 (Post : Value → AHeap → Prop) : ∀ env H, F10.B9.e Post env H → aOps Try.prog T0 F10.o9 F10.o9 env H (fun env H => asB (aev env (.tmp 10)) (fun b => pif b ((F10.B8.e Post) env H) ((F10.B7.e Post) env H))) := by
  intro env H h
  obtain ⟨hl, h⟩ := lenE h
  exact use_ops hl (upd_step (upd_step rfl rfl) rfl) ((F10.q9 _ Post (List.getD env 0 undef) (List.getD env 1 undef) H).mpr h)
noncomputable def F10.o10 : List Oper := opsIn (codeAt (bodyOf Try.f10) [.l])
def F10.B10 (Post : Value → AHeap → Prop) (x0 : Value) (x1 : Value) (H : AHeap) : Prop :=
  F10.B9 Post x0 x1 H
def F10.B10.e (Post : Value → AHeap → Prop) : EP := fun env H => pif (Nat.beq (List.length env) 26) (F10.B10 Post (List.getD env 0 undef) (List.getD env 1 undef) H) False
theorem F10.q10 (u : Nat → Value) (Post : Value → AHeap → Prop) (x0 : Value) (x1 : Value) (H : AHeap) : aOps Try.prog T0 F10.o10 F10.o10 (mkEnv (upd (upd u 0 x0) 1 x1) 26 0) H (F10.B9.e Post) = F10.B10 Post x0 x1 H := by kernel_rfl
theorem F10.r10 (Post : Value → AHeap → Prop) : ∀ env H, F10.B10.e Post env H → aOps Try.prog T0 F10.o10 F10.o10 env H (F10.B9.e Post) := by
  intro env H h
  obtain ⟨hl, h⟩ := lenE h
  exact use_ops hl (upd_step (upd_step rfl rfl) rfl) ((F10.q10 _ Post (List.getD env 0 undef) (List.getD env 1 undef) H).mpr h)
noncomputable def F10.code : Code := (.seq (.region 0 ⟨F10.o10⟩ false) (.seq (.seq (.region 1 ⟨F10.o9⟩ false) (.cond (.tmp 10) (.seq (.region 2 ⟨F10.o8⟩ false) .ret) .skip)) (.seq (.seq (.region 3 ⟨F10.o7⟩ false) (.block 0 (.loop (.seq (.seq (.region 4 ⟨F10.o6⟩ false) (.cond (.tmp 14) .skip (.exit 0))) (.seq (.block 1 (.seq (.region 6 ⟨F10.o5⟩ true) (.cond (.tmp 25) (.seq (.region 7 ⟨F10.o4⟩ false) .ret) .skip))) (.region 5 ⟨F10.o3⟩ false)))))) (.seq (.region 8 ⟨F10.o1⟩ false) .ret))))
theorem F10.body : Try.f10.body = some F10.code := by kernel_rfl
theorem F10.main (Post : Value → AHeap → Prop) : ∀ env H, F10.B10.e Post env H → AW Try.prog T0 F10.code env H (mkQ (F10.ret Post) (fun _ _ _ => False) (F10.ret Post)) :=
  (r_seq (r_region T0_ok (F10.r10 Post)) (r_seq (r_seq (r_region T0_ok (F10.r9 Post)) (r_cond rfl (r_seq (r_region T0_ok (F10.r8 Post)) r_ret) r_skip)) (r_seq (r_seq (r_region T0_ok (F10.r7 Post)) (r_block (F10.l2 Post (fun N2 => (r_seq (r_seq (r_region T0_ok (F10.r6 Post N2)) (r_cond rfl r_skip (r_exit (fun _ _ h => h)))) (r_seq (r_block (r_seq (r_draw T0_ok mixed [(0, false), (1, false), (2, false), (3, false), (4, false), (5, false), (6, false), (7, false), (8, false)] (by kernel_rfl) (F10.r5 Post N2)) (r_cond rfl (r_seq (r_region T0_ok (F10.r4 Post N2)) r_ret) r_skip))) (r_region T0_ok (F10.r3 Post N2)))))))) (r_seq (r_region T0_ok (F10.r1 Post)) r_ret))))
theorem F10.ac (Post : Value → AHeap → Prop) (x0 : Value) (x1 : Value) (H : AHeap) (h : F10.B10 Post x0 x1 H) : AC Try.prog T0 10 [x0, x1] H Post :=
  r_fn T0_ok (c := F10.code) (n := 26) Try.func10 F10.body (by kernel_rfl) (F10.main Post) (lenM (by kernel_rfl) (h))

-- loop.example/g01329/laws.eqGraph
noncomputable def F11.ret (Post : Value → AHeap → Prop) : EP := retE T0 16 Try.f11 Post
noncomputable def F11.o1 : List Oper := opsIn (codeAt (bodyOf Try.f11) [.r, .r, .r, .l])
def F11.B1 (Post : Value → AHeap → Prop) (H : AHeap) : Prop :=
  Post (Value.bool true) H
def F11.B1.e (Post : Value → AHeap → Prop) : EP := fun env H => pif (Nat.beq (List.length env) 16) (F11.B1 Post H) False
theorem F11.q1 (u : Nat → Value) (Post : Value → AHeap → Prop) (H : AHeap) : aOps Try.prog T0 F11.o1 F11.o1 (mkEnv u 16 0) H (F11.ret Post) = F11.B1 Post H := by kernel_rfl
theorem F11.r1 (Post : Value → AHeap → Prop) : ∀ env H, F11.B1.e Post env H → aOps Try.prog T0 F11.o1 F11.o1 env H (F11.ret Post) := by
  intro env H h
  obtain ⟨hl, h⟩ := lenE h
  exact use_ops hl rfl ((F11.q1 _ Post H).mpr h)
noncomputable def F11.o2 : List Oper := opsIn (codeAt (bodyOf Try.f11) [.r, .r, .l, .r, .l, .l])
def F11.B2 (Post : Value → AHeap → Prop) (H : AHeap) : Prop :=
  Post (Value.bool false) H
def F11.B2.e (Post : Value → AHeap → Prop) : EP := fun env H => pif (Nat.beq (List.length env) 16) (F11.B2 Post H) False
theorem F11.q2 (u : Nat → Value) (Post : Value → AHeap → Prop) (H : AHeap) : aOps Try.prog T0 F11.o2 F11.o2 (mkEnv u 16 0) H (F11.ret Post) = F11.B2 Post H := by kernel_rfl
theorem F11.r2 (Post : Value → AHeap → Prop) : ∀ env H, F11.B2.e Post env H → aOps Try.prog T0 F11.o2 F11.o2 env H (F11.ret Post) := by
  intro env H h
  obtain ⟨hl, h⟩ := lenE h
  exact use_ops hl rfl ((F11.q2 _ Post H).mpr h)
noncomputable def F11.o3 : List Oper := opsIn (codeAt (bodyOf Try.f11) [.r, .r, .l, .l])
def F11.B3 (Post : Value → AHeap → Prop) (x2 : Nat) (x3 : Nat) (H : AHeap) : Prop :=
  ld1 H x2 1 (fun v1 => ld1 H x3 1 (fun v2 => AC Try.prog T0 29 [v1, v2] H (fun v3 H4 => asB v3 (fun v5 => pif (!v5) (F11.B2 Post H4) (F11.B1 Post H4)))))
def F11.B3.e (Post : Value → AHeap → Prop) : EP := fun env H => pif (Nat.beq (List.length env) 16) (asX (List.getD env 2 undef) (fun x2 => asX (List.getD env 3 undef) (fun x3 => F11.B3 Post x2 x3 H))) False
theorem F11.q3 (u : Nat → Value) (Post : Value → AHeap → Prop) (x2 : Nat) (x3 : Nat) (H : AHeap) : aOps Try.prog T0 F11.o3 F11.o3 (mkEnv (upd (upd u 2 (Value.pointer (some ⟨x2, 0, none⟩))) 3 (Value.pointer (some ⟨x3, 0, none⟩))) 16 0) H (fun env H => asB (aev env (.tmp 15)) (fun b => pif b ((F11.B2.e Post) env H) ((F11.B1.e Post) env H))) = F11.B3 Post x2 x3 H := by kernel_rfl
theorem F11.r3 (Post : Value → AHeap → Prop) : ∀ env H, F11.B3.e Post env H → aOps Try.prog T0 F11.o3 F11.o3 env H (fun env H => asB (aev env (.tmp 15)) (fun b => pif b ((F11.B2.e Post) env H) ((F11.B1.e Post) env H))) := by
  intro env H h
  obtain ⟨hl, h⟩ := lenE h
  obtain ⟨x2, e2, h⟩ := asX_elim h
  obtain ⟨x3, e3, h⟩ := asX_elim h
  exact use_ops hl (upd_step (upd_step rfl e2) e3) ((F11.q3 _ Post x2 x3 H).mpr h)
noncomputable def F11.o4 : List Oper := opsIn (codeAt (bodyOf Try.f11) [.r, .l, .r, .l, .l])
def F11.B4 (Post : Value → AHeap → Prop) (H : AHeap) : Prop :=
  Post (Value.bool false) H
def F11.B4.e (Post : Value → AHeap → Prop) : EP := fun env H => pif (Nat.beq (List.length env) 16) (F11.B4 Post H) False
theorem F11.q4 (u : Nat → Value) (Post : Value → AHeap → Prop) (H : AHeap) : aOps Try.prog T0 F11.o4 F11.o4 (mkEnv u 16 0) H (F11.ret Post) = F11.B4 Post H := by kernel_rfl
theorem F11.r4 (Post : Value → AHeap → Prop) : ∀ env H, F11.B4.e Post env H → aOps Try.prog T0 F11.o4 F11.o4 env H (F11.ret Post) := by
  intro env H h
  obtain ⟨hl, h⟩ := lenE h
  exact use_ops hl rfl ((F11.q4 _ Post H).mpr h)
noncomputable def F11.o5 : List Oper := opsIn (codeAt (bodyOf Try.f11) [.r, .l, .l])
def F11.B5 (Post : Value → AHeap → Prop) (x2 : Nat) (x3 : Nat) (H : AHeap) : Prop :=
  ldI .i64 H x2 0 (fun v1 => ldI .i64 H x3 0 (fun v2 => pif ((v1 : Int) != v2) (F11.B4 Post H) (F11.B3 Post x2 x3 H)))
def F11.B5.e (Post : Value → AHeap → Prop) : EP := fun env H => pif (Nat.beq (List.length env) 16) (asX (List.getD env 2 undef) (fun x2 => asX (List.getD env 3 undef) (fun x3 => F11.B5 Post x2 x3 H))) False
theorem F11.q5 (u : Nat → Value) (Post : Value → AHeap → Prop) (x2 : Nat) (x3 : Nat) (H : AHeap) : aOps Try.prog T0 F11.o5 F11.o5 (mkEnv (upd (upd u 2 (Value.pointer (some ⟨x2, 0, none⟩))) 3 (Value.pointer (some ⟨x3, 0, none⟩))) 16 0) H (fun env H => asB (aev env (.tmp 9)) (fun b => pif b ((F11.B4.e Post) env H) ((F11.B3.e Post) env H))) = F11.B5 Post x2 x3 H := by kernel_rfl
theorem F11.r5 (Post : Value → AHeap → Prop) : ∀ env H, F11.B5.e Post env H → aOps Try.prog T0 F11.o5 F11.o5 env H (fun env H => asB (aev env (.tmp 9)) (fun b => pif b ((F11.B4.e Post) env H) ((F11.B3.e Post) env H))) := by
  intro env H h
  obtain ⟨hl, h⟩ := lenE h
  obtain ⟨x2, e2, h⟩ := asX_elim h
  obtain ⟨x3, e3, h⟩ := asX_elim h
  exact use_ops hl (upd_step (upd_step rfl e2) e3) ((F11.q5 _ Post x2 x3 H).mpr h)
noncomputable def F11.o6 : List Oper := opsIn (codeAt (bodyOf Try.f11) [.l])
def F11.B6 (Post : Value → AHeap → Prop) (x0a : Int) (x0b : Value) (x1a : Int) (x1b : Value) (H : AHeap) : Prop :=
  newK H [(Value.int .i64 x0a), x0b] 31 (fun b1 H2 => newK H2 [(Value.int .i64 x1a), x1b] 31 (fun b3 H4 => F11.B5 Post b1 b3 H4))
def F11.B6.e (Post : Value → AHeap → Prop) : EP := fun env H => pif (Nat.beq (List.length env) 16) (as_iv (List.getD env 0 undef) (fun x0a x0b => as_iv (List.getD env 1 undef) (fun x1a x1b => F11.B6 Post x0a x0b x1a x1b H))) False
theorem F11.q6 (u : Nat → Value) (Post : Value → AHeap → Prop) (x0a : Int) (x0b : Value) (x1a : Int) (x1b : Value) (H : AHeap) : aOps Try.prog T0 F11.o6 F11.o6 (mkEnv (upd (upd u 0 (Value.agg ⟨[(Value.int .i64 x0a), x0b]⟩)) 1 (Value.agg ⟨[(Value.int .i64 x1a), x1b]⟩)) 16 0) H (F11.B5.e Post) = F11.B6 Post x0a x0b x1a x1b H := by kernel_rfl
theorem F11.r6 (Post : Value → AHeap → Prop) : ∀ env H, F11.B6.e Post env H → aOps Try.prog T0 F11.o6 F11.o6 env H (F11.B5.e Post) := by
  intro env H h
  obtain ⟨hl, h⟩ := lenE h
  obtain ⟨x0a, x0b, e0, h⟩ := as_iv_elim h
  obtain ⟨x1a, x1b, e1, h⟩ := as_iv_elim h
  exact use_ops hl (upd_step (upd_step rfl e0) e1) ((F11.q6 _ Post x0a x0b x1a x1b H).mpr h)
noncomputable def F11.code : Code := (.seq (.region 0 ⟨F11.o6⟩ false) (.seq (.seq (.region 1 ⟨F11.o5⟩ false) (.cond (.tmp 9) (.seq (.region 2 ⟨F11.o4⟩ false) .ret) .skip)) (.seq (.seq (.region 3 ⟨F11.o3⟩ false) (.cond (.tmp 15) (.seq (.region 4 ⟨F11.o2⟩ false) .ret) .skip)) (.seq (.region 5 ⟨F11.o1⟩ false) .ret))))
theorem F11.body : Try.f11.body = some F11.code := by kernel_rfl
theorem F11.main (Post : Value → AHeap → Prop) : ∀ env H, F11.B6.e Post env H → AW Try.prog T0 F11.code env H (mkQ (F11.ret Post) (fun _ _ _ => False) (F11.ret Post)) :=
  (r_seq (r_region T0_ok (F11.r6 Post)) (r_seq (r_seq (r_region T0_ok (F11.r5 Post)) (r_cond rfl (r_seq (r_region T0_ok (F11.r4 Post)) r_ret) r_skip)) (r_seq (r_seq (r_region T0_ok (F11.r3 Post)) (r_cond rfl (r_seq (r_region T0_ok (F11.r2 Post)) r_ret) r_skip)) (r_seq (r_region T0_ok (F11.r1 Post)) r_ret))))
theorem F11.ac (Post : Value → AHeap → Prop) (x0a : Int) (x0b : Value) (x1a : Int) (x1b : Value) (H : AHeap) (h : F11.B6 Post x0a x0b x1a x1b H) : AC Try.prog T0 11 [(Value.agg ⟨[(Value.int .i64 x0a), x0b]⟩), (Value.agg ⟨[(Value.int .i64 x1a), x1b]⟩)] H Post :=
  r_fn T0_ok (c := F11.code) (n := 16) Try.func11 F11.body (by kernel_rfl) (F11.main Post) (lenM (by kernel_rfl) (as_iv_mk' (by kernel_rfl) (as_iv_mk' (by kernel_rfl) (h))))

-- loop.example/g01329/laws.markGraph
noncomputable def F12.ret (Post : Value → AHeap → Prop) : EP := retE T0 10 Try.f12 Post
noncomputable def F12.o1 : List Oper := opsIn (codeAt (bodyOf Try.f12) [.r, .r, .l])
def F12.B1 (Post : Value → AHeap → Prop) (x1 : Int) (H : AHeap) : Prop :=
  Post (Value.int .i64 x1) H
def F12.B1.e (Post : Value → AHeap → Prop) : EP := fun env H => pif (Nat.beq (List.length env) 10) (asI .i64 (List.getD env 1 undef) (fun x1 => F12.B1 Post x1 H)) False
theorem F12.q1 (u : Nat → Value) (Post : Value → AHeap → Prop) (x1 : Int) (H : AHeap) : aOps Try.prog T0 F12.o1 F12.o1 (mkEnv (upd u 1 (Value.int .i64 x1)) 10 0) H (F12.ret Post) = F12.B1 Post x1 H := by kernel_rfl
theorem F12.r1 (Post : Value → AHeap → Prop) : ∀ env H, F12.B1.e Post env H → aOps Try.prog T0 F12.o1 F12.o1 env H (F12.ret Post) := by
  intro env H h
  obtain ⟨hl, h⟩ := lenE h
  obtain ⟨x1, e1, h⟩ := asI_elim h
  exact use_ops hl (upd_step rfl e1) ((F12.q1 _ Post x1 H).mpr h)
noncomputable def F12.o2 : List Oper := opsIn (codeAt (bodyOf Try.f12) [.r, .l])
def F12.B2 (Post : Value → AHeap → Prop) (x1 : Int) (x2 : Nat) (H : AHeap) : Prop :=
  ld1 H x2 1 (fun v1 => AC Try.prog T0 30 [v1, (Value.int .i64 x1)] H (fun v2 H3 => asI .i64 v2 (fun v4 => F12.B1 Post v4 H3)))
def F12.B2.e (Post : Value → AHeap → Prop) : EP := fun env H => pif (Nat.beq (List.length env) 10) (asI .i64 (List.getD env 1 undef) (fun x1 => asX (List.getD env 2 undef) (fun x2 => F12.B2 Post x1 x2 H))) False
theorem F12.q2 (u : Nat → Value) (Post : Value → AHeap → Prop) (x1 : Int) (x2 : Nat) (H : AHeap) : aOps Try.prog T0 F12.o2 F12.o2 (mkEnv (upd (upd u 1 (Value.int .i64 x1)) 2 (Value.pointer (some ⟨x2, 0, none⟩))) 10 0) H (F12.B1.e Post) = F12.B2 Post x1 x2 H := by kernel_rfl
theorem F12.r2 (Post : Value → AHeap → Prop) : ∀ env H, F12.B2.e Post env H → aOps Try.prog T0 F12.o2 F12.o2 env H (F12.B1.e Post) := by
  intro env H h
  obtain ⟨hl, h⟩ := lenE h
  obtain ⟨x1, e1, h⟩ := asI_elim h
  obtain ⟨x2, e2, h⟩ := asX_elim h
  exact use_ops hl (upd_step (upd_step rfl e1) e2) ((F12.q2 _ Post x1 x2 H).mpr h)
noncomputable def F12.o3 : List Oper := opsIn (codeAt (bodyOf Try.f12) [.l])
def F12.B3 (Post : Value → AHeap → Prop) (x0a : Int) (x0b : Value) (x1 : Int) (H : AHeap) : Prop :=
  newK H [(Value.int .i64 x0a), x0b] 31 (fun b1 H2 => F12.B2 Post x1 b1 H2)
def F12.B3.e (Post : Value → AHeap → Prop) : EP := fun env H => pif (Nat.beq (List.length env) 10) (as_iv (List.getD env 0 undef) (fun x0a x0b => asI .i64 (List.getD env 1 undef) (fun x1 => F12.B3 Post x0a x0b x1 H))) False
theorem F12.q3 (u : Nat → Value) (Post : Value → AHeap → Prop) (x0a : Int) (x0b : Value) (x1 : Int) (H : AHeap) : aOps Try.prog T0 F12.o3 F12.o3 (mkEnv (upd (upd u 0 (Value.agg ⟨[(Value.int .i64 x0a), x0b]⟩)) 1 (Value.int .i64 x1)) 10 0) H (F12.B2.e Post) = F12.B3 Post x0a x0b x1 H := by kernel_rfl
theorem F12.r3 (Post : Value → AHeap → Prop) : ∀ env H, F12.B3.e Post env H → aOps Try.prog T0 F12.o3 F12.o3 env H (F12.B2.e Post) := by
  intro env H h
  obtain ⟨hl, h⟩ := lenE h
  obtain ⟨x0a, x0b, e0, h⟩ := as_iv_elim h
  obtain ⟨x1, e1, h⟩ := asI_elim h
  exact use_ops hl (upd_step (upd_step rfl e0) e1) ((F12.q3 _ Post x0a x0b x1 H).mpr h)
noncomputable def F12.code : Code := (.seq (.region 0 ⟨F12.o3⟩ false) (.seq (.region 1 ⟨F12.o2⟩ false) (.seq (.region 2 ⟨F12.o1⟩ false) .ret)))
theorem F12.body : Try.f12.body = some F12.code := by kernel_rfl
theorem F12.main (Post : Value → AHeap → Prop) : ∀ env H, F12.B3.e Post env H → AW Try.prog T0 F12.code env H (mkQ (F12.ret Post) (fun _ _ _ => False) (F12.ret Post)) :=
  (r_seq (r_region T0_ok (F12.r3 Post)) (r_seq (r_region T0_ok (F12.r2 Post)) (r_seq (r_region T0_ok (F12.r1 Post)) r_ret)))
theorem F12.ac (Post : Value → AHeap → Prop) (x0a : Int) (x0b : Value) (x1 : Int) (H : AHeap) (h : F12.B3 Post x0a x0b x1 H) : AC Try.prog T0 12 [(Value.agg ⟨[(Value.int .i64 x0a), x0b]⟩), (Value.int .i64 x1)] H Post :=
  r_fn T0_ok (c := F12.code) (n := 10) Try.func12 F12.body (by kernel_rfl) (F12.main Post) (lenM (by kernel_rfl) (as_iv_mk' (by kernel_rfl) (asI_mk' (by kernel_rfl) (h))))

-- loop.example/g01329/laws.markInt64S
noncomputable def F13.ret (Post : Value → AHeap → Prop) : EP := retE T0 19 Try.f13 Post
noncomputable def F13.o1 : List Oper := opsIn (codeAt (bodyOf Try.f13) [.r, .r, .l])
def F13.B1 (Post : Value → AHeap → Prop) (x1 : Int) (H : AHeap) : Prop :=
  Post (Value.int .i64 x1) H
def F13.B1.e (Post : Value → AHeap → Prop) : EP := fun env H => pif (Nat.beq (List.length env) 19) (asI .i64 (List.getD env 1 undef) (fun x1 => F13.B1 Post x1 H)) False
theorem F13.q1 (u : Nat → Value) (Post : Value → AHeap → Prop) (x1 : Int) (H : AHeap) : aOps Try.prog T0 F13.o1 F13.o1 (mkEnv (upd u 1 (Value.int .i64 x1)) 19 0) H (F13.ret Post) = F13.B1 Post x1 H := by kernel_rfl
theorem F13.r1 (Post : Value → AHeap → Prop) : ∀ env H, F13.B1.e Post env H → aOps Try.prog T0 F13.o1 F13.o1 env H (F13.ret Post) := by
  intro env H h
  obtain ⟨hl, h⟩ := lenE h
  obtain ⟨x1, e1, h⟩ := asI_elim h
  exact use_ops hl (upd_step rfl e1) ((F13.q1 _ Post x1 H).mpr h)
def F13.L2.ne (N : Value → Int → Int → AHeap → Prop) : EP := fun env H => pif (Nat.beq (List.length env) 19) (asI .i64 (List.getD env 1 undef) (fun x1 => asI .i64 (List.getD env 5 undef) (fun x5 => N (List.getD env 0 undef) x1 x5 H))) False
noncomputable def F13.o3 : List Oper := opsIn (codeAt (bodyOf Try.f13) [.r, .l, .r, .l, .l, .r, .r])
def F13.B3 (Post : Value → AHeap → Prop) (N2 : Value → Int → Int → AHeap → Prop) (x0 : Value) (x1 : Int) (x5 : Int) (H : AHeap) : Prop :=
  N2 x0 x1 (IntKind.i64.wrap (x5 + 1)) H
def F13.B3.e (Post : Value → AHeap → Prop) (N2 : Value → Int → Int → AHeap → Prop) : EP := fun env H => pif (Nat.beq (List.length env) 19) (asI .i64 (List.getD env 1 undef) (fun x1 => asI .i64 (List.getD env 5 undef) (fun x5 => F13.B3 Post N2 (List.getD env 0 undef) x1 x5 H))) False
theorem F13.q3 (u : Nat → Value) (Post : Value → AHeap → Prop) (N2 : Value → Int → Int → AHeap → Prop) (x0 : Value) (x1 : Int) (x5 : Int) (H : AHeap) : aOps Try.prog T0 F13.o3 F13.o3 (mkEnv (upd (upd (upd u 0 x0) 1 (Value.int .i64 x1)) 5 (Value.int .i64 x5)) 19 0) H (F13.L2.ne N2) = F13.B3 Post N2 x0 x1 x5 H := by kernel_rfl
theorem F13.r3 (Post : Value → AHeap → Prop) (N2 : Value → Int → Int → AHeap → Prop) : ∀ env H, F13.B3.e Post N2 env H → aOps Try.prog T0 F13.o3 F13.o3 env H (F13.L2.ne N2) := by
  intro env H h
  obtain ⟨hl, h⟩ := lenE h
  obtain ⟨x1, e1, h⟩ := asI_elim h
  obtain ⟨x5, e5, h⟩ := asI_elim h
  exact use_ops hl (upd_step (upd_step (upd_step rfl rfl) e1) e5) ((F13.q3 _ Post N2 (List.getD env 0 undef) x1 x5 H).mpr h)
noncomputable def F13.o4 : List Oper := opsIn (codeAt (bodyOf Try.f13) [.r, .l, .r, .l, .l, .r, .l, .l, .r])
def F13.B4 (Post : Value → AHeap → Prop) (N2 : Value → Int → Int → AHeap → Prop) (x0 : Value) (x1 : Int) (x5 : Int) (H : AHeap) : Prop :=
  F13.B3 Post N2 x0 (IntKind.i64.wrap (x1 + 1)) x5 H
def F13.B4.e (Post : Value → AHeap → Prop) (N2 : Value → Int → Int → AHeap → Prop) : EP := fun env H => pif (Nat.beq (List.length env) 19) (asI .i64 (List.getD env 1 undef) (fun x1 => asI .i64 (List.getD env 5 undef) (fun x5 => F13.B4 Post N2 (List.getD env 0 undef) x1 x5 H))) False
theorem F13.q4 (u : Nat → Value) (Post : Value → AHeap → Prop) (N2 : Value → Int → Int → AHeap → Prop) (x0 : Value) (x1 : Int) (x5 : Int) (H : AHeap) : aOps Try.prog T0 F13.o4 F13.o4 (mkEnv (upd (upd (upd u 0 x0) 1 (Value.int .i64 x1)) 5 (Value.int .i64 x5)) 19 0) H (F13.B3.e Post N2) = F13.B4 Post N2 x0 x1 x5 H := by kernel_rfl
theorem F13.r4 (Post : Value → AHeap → Prop) (N2 : Value → Int → Int → AHeap → Prop) : ∀ env H, F13.B4.e Post N2 env H → aOps Try.prog T0 F13.o4 F13.o4 env H (F13.B3.e Post N2) := by
  intro env H h
  obtain ⟨hl, h⟩ := lenE h
  obtain ⟨x1, e1, h⟩ := asI_elim h
  obtain ⟨x5, e5, h⟩ := asI_elim h
  exact use_ops hl (upd_step (upd_step (upd_step rfl rfl) e1) e5) ((F13.q4 _ Post N2 (List.getD env 0 undef) x1 x5 H).mpr h)
noncomputable def F13.o5 : List Oper := opsIn (codeAt (bodyOf Try.f13) [.r, .l, .r, .l, .l, .r, .l, .l, .l])
def F13.B5 (Post : Value → AHeap → Prop) (N2 : Value → Int → Int → AHeap → Prop) (x0 : Value) (x1 : Int) (x5 : Int) (H : AHeap) : Prop :=
  idxK x0 x5 1 (fun b1 o2 => stK H b1 o2 [(Value.int .i64 x1)] (fun H3 => F13.B4 Post N2 x0 x1 x5 H3))
def F13.B5.e (Post : Value → AHeap → Prop) (N2 : Value → Int → Int → AHeap → Prop) : EP := fun env H => pif (Nat.beq (List.length env) 19) (asI .i64 (List.getD env 1 undef) (fun x1 => asI .i64 (List.getD env 5 undef) (fun x5 => F13.B5 Post N2 (List.getD env 0 undef) x1 x5 H))) False
theorem F13.q5 (u : Nat → Value) (Post : Value → AHeap → Prop) (N2 : Value → Int → Int → AHeap → Prop) (x0 : Value) (x1 : Int) (x5 : Int) (H : AHeap) : aOps Try.prog T0 F13.o5 F13.o5 (mkEnv (upd (upd (upd u 0 x0) 1 (Value.int .i64 x1)) 5 (Value.int .i64 x5)) 19 0) H (F13.B4.e Post N2) = F13.B5 Post N2 x0 x1 x5 H := by kernel_rfl
theorem F13.r5 (Post : Value → AHeap → Prop) (N2 : Value → Int → Int → AHeap → Prop) : ∀ env H, F13.B5.e Post N2 env H → aOps Try.prog T0 F13.o5 F13.o5 env H (F13.B4.e Post N2) := by
  intro env H h
  obtain ⟨hl, h⟩ := lenE h
  obtain ⟨x1, e1, h⟩ := asI_elim h
  obtain ⟨x5, e5, h⟩ := asI_elim h
  exact use_ops hl (upd_step (upd_step (upd_step rfl rfl) e1) e5) ((F13.q5 _ Post N2 (List.getD env 0 undef) x1 x5 H).mpr h)
noncomputable def F13.o6 : List Oper := opsIn (codeAt (bodyOf Try.f13) [.r, .l, .r, .l, .l, .l, .l])
def F13.B6 (Post : Value → AHeap → Prop) (N2 : Value → Int → Int → AHeap → Prop) (x0 : Value) (x1 : Int) (x5 : Int) (H : AHeap) : Prop :=
  lenK x0 (fun n1 => pif (decide ((x5 : Int) < (n1 : Int))) (F13.B5 Post N2 x0 x1 x5 H) (F13.B1 Post x1 H))
def F13.B6.e (Post : Value → AHeap → Prop) (N2 : Value → Int → Int → AHeap → Prop) : EP := fun env H => pif (Nat.beq (List.length env) 19) (asI .i64 (List.getD env 1 undef) (fun x1 => asI .i64 (List.getD env 5 undef) (fun x5 => F13.B6 Post N2 (List.getD env 0 undef) x1 x5 H))) False
theorem F13.q6 (u : Nat → Value) (Post : Value → AHeap → Prop) (N2 : Value → Int → Int → AHeap → Prop) (x0 : Value) (x1 : Int) (x5 : Int) (H : AHeap) : aOps Try.prog T0 F13.o6 F13.o6 (mkEnv (upd (upd (upd u 0 x0) 1 (Value.int .i64 x1)) 5 (Value.int .i64 x5)) 19 0) H (fun env H => asB (aev env (.tmp 9)) (fun b => pif b ((F13.B5.e Post N2) env H) ((F13.B1.e Post) env H))) = F13.B6 Post N2 x0 x1 x5 H := by kernel_rfl
theorem F13.r6 (Post : Value → AHeap → Prop) (N2 : Value → Int → Int → AHeap → Prop) : ∀ env H, F13.B6.e Post N2 env H → aOps Try.prog T0 F13.o6 F13.o6 env H (fun env H => asB (aev env (.tmp 9)) (fun b => pif b ((F13.B5.e Post N2) env H) ((F13.B1.e Post) env H))) := by
  intro env H h
  obtain ⟨hl, h⟩ := lenE h
  obtain ⟨x1, e1, h⟩ := asI_elim h
  obtain ⟨x5, e5, h⟩ := asI_elim h
  exact use_ops hl (upd_step (upd_step (upd_step rfl rfl) e1) e5) ((F13.q6 _ Post N2 (List.getD env 0 undef) x1 x5 H).mpr h)
def F13.L2 (Post : Value → AHeap → Prop) (x0 : Value) (x1 : Int) (x5 : Int) (H : AHeap) : Prop :=
  ∃ (I : Value → Int → Int → AHeap → Prop) (μ : Value → Int → Int → AHeap → Nat), I x0 x1 x5 H ∧ ∀ x0' x1' x5' H', I x0' x1' x5' H' → F13.B6 Post (fun x0'' x1'' x5'' H'' => I x0'' x1'' x5'' H'' ∧ μ x0'' x1'' x5'' H'' < μ x0' x1' x5' H') x0' x1' x5' H'
def F13.L2.e (Post : Value → AHeap → Prop) : EP := fun env H => pif (Nat.beq (List.length env) 19) (asI .i64 (List.getD env 1 undef) (fun x1 => asI .i64 (List.getD env 5 undef) (fun x5 => F13.L2 Post (List.getD env 0 undef) x1 x5 H))) False
theorem F13.l2 (Post : Value → AHeap → Prop) {c : Code} {K : EP} {X : Nat → EP}
    (hb : ∀ N2 : Value → Int → Int → AHeap → Prop, ∀ env H, (F13.B6.e Post N2) env H → AW Try.prog T0 c env H (mkQ (F13.L2.ne N2) X (F13.ret Post))) :
    ∀ env H, F13.L2.e Post env H → AW Try.prog T0 (.loop c) env H (mkQ K X (F13.ret Post)) := by
  intro env H h
  obtain ⟨hl, h⟩ := lenE h
  obtain ⟨x1, e1, h⟩ := asI_elim h
  obtain ⟨x5, e5, h⟩ := asI_elim h
  obtain ⟨I, μ, h0, hI⟩ := h
  refine r_loop (fun n env H => pif (Nat.beq (List.length env) 19) (asI .i64 (List.getD env 1 undef) (fun x1 => asI .i64 (List.getD env 5 undef) (fun x5 => (I (List.getD env 0 undef) x1 x5 H) ∧ (μ (List.getD env 0 undef) x1 x5 H = n)))) False) ?_ env H ⟨μ (List.getD env 0 undef) x1 x5 H, lenM hl (asI_mk' e1 (asI_mk' e5 (⟨h0, rfl⟩)))⟩
  intro n env' H' h
  obtain ⟨hl', h⟩ := lenE h
  obtain ⟨x1', e1', h⟩ := asI_elim h
  obtain ⟨x5', e5', h⟩ := asI_elim h
  obtain ⟨hi, hm⟩ := h
  refine r_imp (hb (fun x0'' x1'' x5'' H'' => I x0'' x1'' x5'' H'' ∧ μ x0'' x1'' x5'' H'' < n)) ?_ env' H' ?_
  · intro env H h
    obtain ⟨hl'', h⟩ := lenE h
    obtain ⟨x1'', e1'', h⟩ := asI_elim h
    obtain ⟨x5'', e5'', h⟩ := asI_elim h
    obtain ⟨hi, hlt⟩ := h
    exact ⟨_, hlt, lenM hl'' (asI_mk' e1'' (asI_mk' e5'' (⟨hi, rfl⟩)))⟩
  · have h := hI (List.getD env' 0 undef) x1' x5' H' hi
    rw [hm] at h
    exact lenM hl' (asI_mk' e1' (asI_mk' e5' (h)))
noncomputable def F13.o7 : List Oper := opsIn (codeAt (bodyOf Try.f13) [.r, .l, .l])
def F13.B7 (Post : Value → AHeap → Prop) (x0 : Value) (x1 : Int) (H : AHeap) : Prop :=
  F13.L2 Post x0 x1 0 H
def F13.B7.e (Post : Value → AHeap → Prop) : EP := fun env H => pif (Nat.beq (List.length env) 19) (asI .i64 (List.getD env 1 undef) (fun x1 => F13.B7 Post (List.getD env 0 undef) x1 H)) False
theorem F13.q7 (u : Nat → Value) (Post : Value → AHeap → Prop) (x0 : Value) (x1 : Int) (H : AHeap) : aOps Try.prog T0 F13.o7 F13.o7 (mkEnv (upd (upd u 0 x0) 1 (Value.int .i64 x1)) 19 0) H (F13.L2.e Post) = F13.B7 Post x0 x1 H := by kernel_rfl
theorem F13.r7 (Post : Value → AHeap → Prop) : ∀ env H, F13.B7.e Post env H → aOps Try.prog T0 F13.o7 F13.o7 env H (F13.L2.e Post) := by
  intro env H h
  obtain ⟨hl, h⟩ := lenE h
  obtain ⟨x1, e1, h⟩ := asI_elim h
  exact use_ops hl (upd_step (upd_step rfl rfl) e1) ((F13.q7 _ Post (List.getD env 0 undef) x1 H).mpr h)
noncomputable def F13.o8 : List Oper := opsIn (codeAt (bodyOf Try.f13) [.l])
def F13.B8 (Post : Value → AHeap → Prop) (x0 : Value) (x1 : Int) (H : AHeap) : Prop :=
  F13.B7 Post x0 x1 H
def F13.B8.e (Post : Value → AHeap → Prop) : EP := fun env H => pif (Nat.beq (List.length env) 19) (asI .i64 (List.getD env 1 undef) (fun x1 => F13.B8 Post (List.getD env 0 undef) x1 H)) False
theorem F13.q8 (u : Nat → Value) (Post : Value → AHeap → Prop) (x0 : Value) (x1 : Int) (H : AHeap) : aOps Try.prog T0 F13.o8 F13.o8 (mkEnv (upd (upd u 0 x0) 1 (Value.int .i64 x1)) 19 0) H (F13.B7.e Post) = F13.B8 Post x0 x1 H := by kernel_rfl
theorem F13.r8 (Post : Value → AHeap → Prop) : ∀ env H, F13.B8.e Post env H → aOps Try.prog T0 F13.o8 F13.o8 env H (F13.B7.e Post) := by
  intro env H h
  obtain ⟨hl, h⟩ := lenE h
  obtain ⟨x1, e1, h⟩ := asI_elim h
  exact use_ops hl (upd_step (upd_step rfl rfl) e1) ((F13.q8 _ Post (List.getD env 0 undef) x1 H).mpr h)
noncomputable def F13.code : Code := (.seq (.region 0 ⟨F13.o8⟩ false) (.seq (.seq (.region 1 ⟨F13.o7⟩ false) (.block 0 (.loop (.seq (.seq (.region 2 ⟨F13.o6⟩ false) (.cond (.tmp 9) .skip (.exit 0))) (.seq (.block 1 (.seq (.region 4 ⟨F13.o5⟩ false) (.region 5 ⟨F13.o4⟩ false))) (.region 3 ⟨F13.o3⟩ false)))))) (.seq (.region 6 ⟨F13.o1⟩ false) .ret)))
theorem F13.body : Try.f13.body = some F13.code := by kernel_rfl
theorem F13.main (Post : Value → AHeap → Prop) : ∀ env H, F13.B8.e Post env H → AW Try.prog T0 F13.code env H (mkQ (F13.ret Post) (fun _ _ _ => False) (F13.ret Post)) :=
  (r_seq (r_region T0_ok (F13.r8 Post)) (r_seq (r_seq (r_region T0_ok (F13.r7 Post)) (r_block (F13.l2 Post (fun N2 => (r_seq (r_seq (r_region T0_ok (F13.r6 Post N2)) (r_cond rfl r_skip (r_exit (fun _ _ h => h)))) (r_seq (r_block (r_seq (r_region T0_ok (F13.r5 Post N2)) (r_region T0_ok (F13.r4 Post N2)))) (r_region T0_ok (F13.r3 Post N2)))))))) (r_seq (r_region T0_ok (F13.r1 Post)) r_ret)))
theorem F13.ac (Post : Value → AHeap → Prop) (x0 : Value) (x1 : Int) (H : AHeap) (h : F13.B8 Post x0 x1 H) : AC Try.prog T0 13 [x0, (Value.int .i64 x1)] H Post :=
  r_fn T0_ok (c := F13.code) (n := 19) Try.func13 F13.body (by kernel_rfl) (F13.main Post) (lenM (by kernel_rfl) (asI_mk' (by kernel_rfl) (h)))

-- loop.example/g01329/laws.heldInt64S
noncomputable def F14.ret (Post : Value → AHeap → Prop) : EP := retE T0 21 Try.f14 Post
noncomputable def F14.o1 : List Oper := opsIn (codeAt (bodyOf Try.f14) [.r, .r, .l])
def F14.B1 (Post : Value → AHeap → Prop) (x1 : Int) (H : AHeap) : Prop :=
  Post (Value.int .i64 x1) H
def F14.B1.e (Post : Value → AHeap → Prop) : EP := fun env H => pif (Nat.beq (List.length env) 21) (asI .i64 (List.getD env 1 undef) (fun x1 => F14.B1 Post x1 H)) False
theorem F14.q1 (u : Nat → Value) (Post : Value → AHeap → Prop) (x1 : Int) (H : AHeap) : aOps Try.prog T0 F14.o1 F14.o1 (mkEnv (upd u 1 (Value.int .i64 x1)) 21 0) H (F14.ret Post) = F14.B1 Post x1 H := by kernel_rfl
theorem F14.r1 (Post : Value → AHeap → Prop) : ∀ env H, F14.B1.e Post env H → aOps Try.prog T0 F14.o1 F14.o1 env H (F14.ret Post) := by
  intro env H h
  obtain ⟨hl, h⟩ := lenE h
  obtain ⟨x1, e1, h⟩ := asI_elim h
  exact use_ops hl (upd_step rfl e1) ((F14.q1 _ Post x1 H).mpr h)
def F14.L2.ne (N : Value → Int → Int → AHeap → Prop) : EP := fun env H => pif (Nat.beq (List.length env) 21) (asI .i64 (List.getD env 1 undef) (fun x1 => asI .i64 (List.getD env 5 undef) (fun x5 => N (List.getD env 0 undef) x1 x5 H))) False
noncomputable def F14.o3 : List Oper := opsIn (codeAt (bodyOf Try.f14) [.r, .l, .r, .l, .l, .r, .r])
def F14.B3 (Post : Value → AHeap → Prop) (N2 : Value → Int → Int → AHeap → Prop) (x0 : Value) (x1 : Int) (x5 : Int) (H : AHeap) : Prop :=
  N2 x0 x1 (IntKind.i64.wrap (x5 + 1)) H
def F14.B3.e (Post : Value → AHeap → Prop) (N2 : Value → Int → Int → AHeap → Prop) : EP := fun env H => pif (Nat.beq (List.length env) 21) (asI .i64 (List.getD env 1 undef) (fun x1 => asI .i64 (List.getD env 5 undef) (fun x5 => F14.B3 Post N2 (List.getD env 0 undef) x1 x5 H))) False
theorem F14.q3 (u : Nat → Value) (Post : Value → AHeap → Prop) (N2 : Value → Int → Int → AHeap → Prop) (x0 : Value) (x1 : Int) (x5 : Int) (H : AHeap) : aOps Try.prog T0 F14.o3 F14.o3 (mkEnv (upd (upd (upd u 0 x0) 1 (Value.int .i64 x1)) 5 (Value.int .i64 x5)) 21 0) H (F14.L2.ne N2) = F14.B3 Post N2 x0 x1 x5 H := by kernel_rfl
theorem F14.r3 (Post : Value → AHeap → Prop) (N2 : Value → Int → Int → AHeap → Prop) : ∀ env H, F14.B3.e Post N2 env H → aOps Try.prog T0 F14.o3 F14.o3 env H (F14.L2.ne N2) := by
  intro env H h
  obtain ⟨hl, h⟩ := lenE h
  obtain ⟨x1, e1, h⟩ := asI_elim h
  obtain ⟨x5, e5, h⟩ := asI_elim h
  exact use_ops hl (upd_step (upd_step (upd_step rfl rfl) e1) e5) ((F14.q3 _ Post N2 (List.getD env 0 undef) x1 x5 H).mpr h)
noncomputable def F14.o4 : List Oper := opsIn (codeAt (bodyOf Try.f14) [.r, .l, .r, .l, .l, .r, .l, .l, .r])
def F14.B4 (Post : Value → AHeap → Prop) (N2 : Value → Int → Int → AHeap → Prop) (x0 : Value) (x1 : Int) (x5 : Int) (H : AHeap) : Prop :=
  F14.B3 Post N2 x0 (IntKind.i64.wrap (x1 + 1)) x5 H
def F14.B4.e (Post : Value → AHeap → Prop) (N2 : Value → Int → Int → AHeap → Prop) : EP := fun env H => pif (Nat.beq (List.length env) 21) (asI .i64 (List.getD env 1 undef) (fun x1 => asI .i64 (List.getD env 5 undef) (fun x5 => F14.B4 Post N2 (List.getD env 0 undef) x1 x5 H))) False
theorem F14.q4 (u : Nat → Value) (Post : Value → AHeap → Prop) (N2 : Value → Int → Int → AHeap → Prop) (x0 : Value) (x1 : Int) (x5 : Int) (H : AHeap) : aOps Try.prog T0 F14.o4 F14.o4 (mkEnv (upd (upd (upd u 0 x0) 1 (Value.int .i64 x1)) 5 (Value.int .i64 x5)) 21 0) H (F14.B3.e Post N2) = F14.B4 Post N2 x0 x1 x5 H := by kernel_rfl
theorem F14.r4 (Post : Value → AHeap → Prop) (N2 : Value → Int → Int → AHeap → Prop) : ∀ env H, F14.B4.e Post N2 env H → aOps Try.prog T0 F14.o4 F14.o4 env H (F14.B3.e Post N2) := by
  intro env H h
  obtain ⟨hl, h⟩ := lenE h
  obtain ⟨x1, e1, h⟩ := asI_elim h
  obtain ⟨x5, e5, h⟩ := asI_elim h
  exact use_ops hl (upd_step (upd_step (upd_step rfl rfl) e1) e5) ((F14.q4 _ Post N2 (List.getD env 0 undef) x1 x5 H).mpr h)
noncomputable def F14.o5 : List Oper := opsIn (codeAt (bodyOf Try.f14) [.r, .l, .r, .l, .l, .r, .l, .l, .l, .r, .l, .l])
def F14.B5 (Post : Value → AHeap → Prop) (N2 : Value → Int → Int → AHeap → Prop) (H : AHeap) : Prop :=
  Post (Value.int .i64 (-1)) H
def F14.B5.e (Post : Value → AHeap → Prop) (N2 : Value → Int → Int → AHeap → Prop) : EP := fun env H => pif (Nat.beq (List.length env) 21) (F14.B5 Post N2 H) False
theorem F14.q5 (u : Nat → Value) (Post : Value → AHeap → Prop) (N2 : Value → Int → Int → AHeap → Prop) (H : AHeap) : aOps Try.prog T0 F14.o5 F14.o5 (mkEnv u 21 0) H (F14.ret Post) = F14.B5 Post N2 H := by kernel_rfl
theorem F14.r5 (Post : Value → AHeap → Prop) (N2 : Value → Int → Int → AHeap → Prop) : ∀ env H, F14.B5.e Post N2 env H → aOps Try.prog T0 F14.o5 F14.o5 env H (F14.ret Post) := by
  intro env H h
  obtain ⟨hl, h⟩ := lenE h
  exact use_ops hl rfl ((F14.q5 _ Post N2 H).mpr h)
noncomputable def F14.o6 : List Oper := opsIn (codeAt (bodyOf Try.f14) [.r, .l, .r, .l, .l, .r, .l, .l, .l, .l])
def F14.B6 (Post : Value → AHeap → Prop) (N2 : Value → Int → Int → AHeap → Prop) (x0 : Value) (x1 : Int) (x5 : Int) (H : AHeap) : Prop :=
  idxK x0 x5 1 (fun b1 o2 => ldI .i64 H b1 o2 (fun v3 => pif ((v3 : Int) != x1) (F14.B5 Post N2 H) (F14.B4 Post N2 x0 x1 x5 H)))
def F14.B6.e (Post : Value → AHeap → Prop) (N2 : Value → Int → Int → AHeap → Prop) : EP := fun env H => pif (Nat.beq (List.length env) 21) (asI .i64 (List.getD env 1 undef) (fun x1 => asI .i64 (List.getD env 5 undef) (fun x5 => F14.B6 Post N2 (List.getD env 0 undef) x1 x5 H))) False
theorem F14.q6 (u : Nat → Value) (Post : Value → AHeap → Prop) (N2 : Value → Int → Int → AHeap → Prop) (x0 : Value) (x1 : Int) (x5 : Int) (H : AHeap) : aOps Try.prog T0 F14.o6 F14.o6 (mkEnv (upd (upd (upd u 0 x0) 1 (Value.int .i64 x1)) 5 (Value.int .i64 x5)) 21 0) H (fun env H => asB (aev env (.tmp 17)) (fun b => pif b ((F14.B5.e Post N2) env H) ((F14.B4.e Post N2) env H))) = F14.B6 Post N2 x0 x1 x5 H := by kernel_rfl
theorem F14.r6 (Post : Value → AHeap → Prop) (N2 : Value → Int → Int → AHeap → Prop) : ∀ env H, F14.B6.e Post N2 env H → aOps Try.prog T0 F14.o6 F14.o6 env H (fun env H => asB (aev env (.tmp 17)) (fun b => pif b ((F14.B5.e Post N2) env H) ((F14.B4.e Post N2) env H))) := by
  intro env H h
  obtain ⟨hl, h⟩ := lenE h
  obtain ⟨x1, e1, h⟩ := asI_elim h
  obtain ⟨x5, e5, h⟩ := asI_elim h
  exact use_ops hl (upd_step (upd_step (upd_step rfl rfl) e1) e5) ((F14.q6 _ Post N2 (List.getD env 0 undef) x1 x5 H).mpr h)
noncomputable def F14.o7 : List Oper := opsIn (codeAt (bodyOf Try.f14) [.r, .l, .r, .l, .l, .l, .l])
def F14.B7 (Post : Value → AHeap → Prop) (N2 : Value → Int → Int → AHeap → Prop) (x0 : Value) (x1 : Int) (x5 : Int) (H : AHeap) : Prop :=
  lenK x0 (fun n1 => pif (decide ((x5 : Int) < (n1 : Int))) (F14.B6 Post N2 x0 x1 x5 H) (F14.B1 Post x1 H))
def F14.B7.e (Post : Value → AHeap → Prop) (N2 : Value → Int → Int → AHeap → Prop) : EP := fun env H => pif (Nat.beq (List.length env) 21) (asI .i64 (List.getD env 1 undef) (fun x1 => asI .i64 (List.getD env 5 undef) (fun x5 => F14.B7 Post N2 (List.getD env 0 undef) x1 x5 H))) False
theorem F14.q7 (u : Nat → Value) (Post : Value → AHeap → Prop) (N2 : Value → Int → Int → AHeap → Prop) (x0 : Value) (x1 : Int) (x5 : Int) (H : AHeap) : aOps Try.prog T0 F14.o7 F14.o7 (mkEnv (upd (upd (upd u 0 x0) 1 (Value.int .i64 x1)) 5 (Value.int .i64 x5)) 21 0) H (fun env H => asB (aev env (.tmp 9)) (fun b => pif b ((F14.B6.e Post N2) env H) ((F14.B1.e Post) env H))) = F14.B7 Post N2 x0 x1 x5 H := by kernel_rfl
theorem F14.r7 (Post : Value → AHeap → Prop) (N2 : Value → Int → Int → AHeap → Prop) : ∀ env H, F14.B7.e Post N2 env H → aOps Try.prog T0 F14.o7 F14.o7 env H (fun env H => asB (aev env (.tmp 9)) (fun b => pif b ((F14.B6.e Post N2) env H) ((F14.B1.e Post) env H))) := by
  intro env H h
  obtain ⟨hl, h⟩ := lenE h
  obtain ⟨x1, e1, h⟩ := asI_elim h
  obtain ⟨x5, e5, h⟩ := asI_elim h
  exact use_ops hl (upd_step (upd_step (upd_step rfl rfl) e1) e5) ((F14.q7 _ Post N2 (List.getD env 0 undef) x1 x5 H).mpr h)
def F14.L2 (Post : Value → AHeap → Prop) (x0 : Value) (x1 : Int) (x5 : Int) (H : AHeap) : Prop :=
  ∃ (I : Value → Int → Int → AHeap → Prop) (μ : Value → Int → Int → AHeap → Nat), I x0 x1 x5 H ∧ ∀ x0' x1' x5' H', I x0' x1' x5' H' → F14.B7 Post (fun x0'' x1'' x5'' H'' => I x0'' x1'' x5'' H'' ∧ μ x0'' x1'' x5'' H'' < μ x0' x1' x5' H') x0' x1' x5' H'
def F14.L2.e (Post : Value → AHeap → Prop) : EP := fun env H => pif (Nat.beq (List.length env) 21) (asI .i64 (List.getD env 1 undef) (fun x1 => asI .i64 (List.getD env 5 undef) (fun x5 => F14.L2 Post (List.getD env 0 undef) x1 x5 H))) False
theorem F14.l2 (Post : Value → AHeap → Prop) {c : Code} {K : EP} {X : Nat → EP}
    (hb : ∀ N2 : Value → Int → Int → AHeap → Prop, ∀ env H, (F14.B7.e Post N2) env H → AW Try.prog T0 c env H (mkQ (F14.L2.ne N2) X (F14.ret Post))) :
    ∀ env H, F14.L2.e Post env H → AW Try.prog T0 (.loop c) env H (mkQ K X (F14.ret Post)) := by
  intro env H h
  obtain ⟨hl, h⟩ := lenE h
  obtain ⟨x1, e1, h⟩ := asI_elim h
  obtain ⟨x5, e5, h⟩ := asI_elim h
  obtain ⟨I, μ, h0, hI⟩ := h
  refine r_loop (fun n env H => pif (Nat.beq (List.length env) 21) (asI .i64 (List.getD env 1 undef) (fun x1 => asI .i64 (List.getD env 5 undef) (fun x5 => (I (List.getD env 0 undef) x1 x5 H) ∧ (μ (List.getD env 0 undef) x1 x5 H = n)))) False) ?_ env H ⟨μ (List.getD env 0 undef) x1 x5 H, lenM hl (asI_mk' e1 (asI_mk' e5 (⟨h0, rfl⟩)))⟩
  intro n env' H' h
  obtain ⟨hl', h⟩ := lenE h
  obtain ⟨x1', e1', h⟩ := asI_elim h
  obtain ⟨x5', e5', h⟩ := asI_elim h
  obtain ⟨hi, hm⟩ := h
  refine r_imp (hb (fun x0'' x1'' x5'' H'' => I x0'' x1'' x5'' H'' ∧ μ x0'' x1'' x5'' H'' < n)) ?_ env' H' ?_
  · intro env H h
    obtain ⟨hl'', h⟩ := lenE h
    obtain ⟨x1'', e1'', h⟩ := asI_elim h
    obtain ⟨x5'', e5'', h⟩ := asI_elim h
    obtain ⟨hi, hlt⟩ := h
    exact ⟨_, hlt, lenM hl'' (asI_mk' e1'' (asI_mk' e5'' (⟨hi, rfl⟩)))⟩
  · have h := hI (List.getD env' 0 undef) x1' x5' H' hi
    rw [hm] at h
    exact lenM hl' (asI_mk' e1' (asI_mk' e5' (h)))
noncomputable def F14.o8 : List Oper := opsIn (codeAt (bodyOf Try.f14) [.r, .l, .l])
def F14.B8 (Post : Value → AHeap → Prop) (x0 : Value) (x1 : Int) (H : AHeap) : Prop :=
  F14.L2 Post x0 x1 0 H
def F14.B8.e (Post : Value → AHeap → Prop) : EP := fun env H => pif (Nat.beq (List.length env) 21) (asI .i64 (List.getD env 1 undef) (fun x1 => F14.B8 Post (List.getD env 0 undef) x1 H)) False
theorem F14.q8 (u : Nat → Value) (Post : Value → AHeap → Prop) (x0 : Value) (x1 : Int) (H : AHeap) : aOps Try.prog T0 F14.o8 F14.o8 (mkEnv (upd (upd u 0 x0) 1 (Value.int .i64 x1)) 21 0) H (F14.L2.e Post) = F14.B8 Post x0 x1 H := by kernel_rfl
theorem F14.r8 (Post : Value → AHeap → Prop) : ∀ env H, F14.B8.e Post env H → aOps Try.prog T0 F14.o8 F14.o8 env H (F14.L2.e Post) := by
  intro env H h
  obtain ⟨hl, h⟩ := lenE h
  obtain ⟨x1, e1, h⟩ := asI_elim h
  exact use_ops hl (upd_step (upd_step rfl rfl) e1) ((F14.q8 _ Post (List.getD env 0 undef) x1 H).mpr h)
noncomputable def F14.o9 : List Oper := opsIn (codeAt (bodyOf Try.f14) [.l])
def F14.B9 (Post : Value → AHeap → Prop) (x0 : Value) (x1 : Int) (H : AHeap) : Prop :=
  F14.B8 Post x0 x1 H
def F14.B9.e (Post : Value → AHeap → Prop) : EP := fun env H => pif (Nat.beq (List.length env) 21) (asI .i64 (List.getD env 1 undef) (fun x1 => F14.B9 Post (List.getD env 0 undef) x1 H)) False
theorem F14.q9 (u : Nat → Value) (Post : Value → AHeap → Prop) (x0 : Value) (x1 : Int) (H : AHeap) : aOps Try.prog T0 F14.o9 F14.o9 (mkEnv (upd (upd u 0 x0) 1 (Value.int .i64 x1)) 21 0) H (F14.B8.e Post) = F14.B9 Post x0 x1 H := by kernel_rfl
theorem F14.r9 (Post : Value → AHeap → Prop) : ∀ env H, F14.B9.e Post env H → aOps Try.prog T0 F14.o9 F14.o9 env H (F14.B8.e Post) := by
  intro env H h
  obtain ⟨hl, h⟩ := lenE h
  obtain ⟨x1, e1, h⟩ := asI_elim h
  exact use_ops hl (upd_step (upd_step rfl rfl) e1) ((F14.q9 _ Post (List.getD env 0 undef) x1 H).mpr h)
noncomputable def F14.code : Code := (.seq (.region 0 ⟨F14.o9⟩ false) (.seq (.seq (.region 1 ⟨F14.o8⟩ false) (.block 0 (.loop (.seq (.seq (.region 2 ⟨F14.o7⟩ false) (.cond (.tmp 9) .skip (.exit 0))) (.seq (.block 1 (.seq (.seq (.region 4 ⟨F14.o6⟩ false) (.cond (.tmp 17) (.seq (.region 5 ⟨F14.o5⟩ false) .ret) .skip)) (.region 6 ⟨F14.o4⟩ false))) (.region 3 ⟨F14.o3⟩ false)))))) (.seq (.region 7 ⟨F14.o1⟩ false) .ret)))
theorem F14.body : Try.f14.body = some F14.code := by kernel_rfl
theorem F14.main (Post : Value → AHeap → Prop) : ∀ env H, F14.B9.e Post env H → AW Try.prog T0 F14.code env H (mkQ (F14.ret Post) (fun _ _ _ => False) (F14.ret Post)) :=
  (r_seq (r_region T0_ok (F14.r9 Post)) (r_seq (r_seq (r_region T0_ok (F14.r8 Post)) (r_block (F14.l2 Post (fun N2 => (r_seq (r_seq (r_region T0_ok (F14.r7 Post N2)) (r_cond rfl r_skip (r_exit (fun _ _ h => h)))) (r_seq (r_block (r_seq (r_seq (r_region T0_ok (F14.r6 Post N2)) (r_cond rfl (r_seq (r_region T0_ok (F14.r5 Post N2)) r_ret) r_skip)) (r_region T0_ok (F14.r4 Post N2)))) (r_region T0_ok (F14.r3 Post N2)))))))) (r_seq (r_region T0_ok (F14.r1 Post)) r_ret)))
theorem F14.ac (Post : Value → AHeap → Prop) (x0 : Value) (x1 : Int) (H : AHeap) (h : F14.B9 Post x0 x1 H) : AC Try.prog T0 14 [x0, (Value.int .i64 x1)] H Post :=
  r_fn T0_ok (c := F14.code) (n := 21) Try.func14 F14.body (by kernel_rfl) (F14.main Post) (lenM (by kernel_rfl) (asI_mk' (by kernel_rfl) (h)))

-- loop.example/g01329/laws.szDesk
noncomputable def F15.ret (Post : Value → AHeap → Prop) : EP := retE T0 24 Try.f15 Post
noncomputable def F15.o1 : List Oper := opsIn (codeAt (bodyOf Try.f15) [.r, .r, .r, .r, .r, .r, .r, .l])
def F15.B1 (Post : Value → AHeap → Prop) (x1 : Int) (H : AHeap) : Prop :=
  Post (Value.int .i64 x1) H
def F15.B1.e (Post : Value → AHeap → Prop) : EP := fun env H => pif (Nat.beq (List.length env) 24) (asI .i64 (List.getD env 1 undef) (fun x1 => F15.B1 Post x1 H)) False
theorem F15.q1 (u : Nat → Value) (Post : Value → AHeap → Prop) (x1 : Int) (H : AHeap) : aOps Try.prog T0 F15.o1 F15.o1 (mkEnv (upd u 1 (Value.int .i64 x1)) 24 0) H (F15.ret Post) = F15.B1 Post x1 H := by kernel_rfl
theorem F15.r1 (Post : Value → AHeap → Prop) : ∀ env H, F15.B1.e Post env H → aOps Try.prog T0 F15.o1 F15.o1 env H (F15.ret Post) := by
  intro env H h
  obtain ⟨hl, h⟩ := lenE h
  obtain ⟨x1, e1, h⟩ := asI_elim h
  exact use_ops hl (upd_step rfl e1) ((F15.q1 _ Post x1 H).mpr h)
noncomputable def F15.o2 : List Oper := opsIn (codeAt (bodyOf Try.f15) [.r, .r, .r, .r, .r, .r, .l, .r, .l, .l])
def F15.B2 (Post : Value → AHeap → Prop) (H : AHeap) : Prop :=
  Post (Value.int .i64 (-1)) H
def F15.B2.e (Post : Value → AHeap → Prop) : EP := fun env H => pif (Nat.beq (List.length env) 24) (F15.B2 Post H) False
theorem F15.q2 (u : Nat → Value) (Post : Value → AHeap → Prop) (H : AHeap) : aOps Try.prog T0 F15.o2 F15.o2 (mkEnv u 24 0) H (F15.ret Post) = F15.B2 Post H := by kernel_rfl
theorem F15.r2 (Post : Value → AHeap → Prop) : ∀ env H, F15.B2.e Post env H → aOps Try.prog T0 F15.o2 F15.o2 env H (F15.ret Post) := by
  intro env H h
  obtain ⟨hl, h⟩ := lenE h
  exact use_ops hl rfl ((F15.q2 _ Post H).mpr h)
noncomputable def F15.o3 : List Oper := opsIn (codeAt (bodyOf Try.f15) [.r, .r, .r, .r, .r, .r, .l, .l])
def F15.B3 (Post : Value → AHeap → Prop) (x1 : Int) (H : AHeap) : Prop :=
  pif (decide ((x1 : Int) < 0)) (F15.B2 Post H) (F15.B1 Post x1 H)
def F15.B3.e (Post : Value → AHeap → Prop) : EP := fun env H => pif (Nat.beq (List.length env) 24) (asI .i64 (List.getD env 1 undef) (fun x1 => F15.B3 Post x1 H)) False
theorem F15.q3 (u : Nat → Value) (Post : Value → AHeap → Prop) (x1 : Int) (H : AHeap) : aOps Try.prog T0 F15.o3 F15.o3 (mkEnv (upd u 1 (Value.int .i64 x1)) 24 0) H (fun env H => asB (aev env (.tmp 22)) (fun b => pif b ((F15.B2.e Post) env H) ((F15.B1.e Post) env H))) = F15.B3 Post x1 H := by kernel_rfl
theorem F15.r3 (Post : Value → AHeap → Prop) : ∀ env H, F15.B3.e Post env H → aOps Try.prog T0 F15.o3 F15.o3 env H (fun env H => asB (aev env (.tmp 22)) (fun b => pif b ((F15.B2.e Post) env H) ((F15.B1.e Post) env H))) := by
  intro env H h
  obtain ⟨hl, h⟩ := lenE h
  obtain ⟨x1, e1, h⟩ := asI_elim h
  exact use_ops hl (upd_step rfl e1) ((F15.q3 _ Post x1 H).mpr h)
noncomputable def F15.o4 : List Oper := opsIn (codeAt (bodyOf Try.f15) [.r, .r, .r, .r, .r, .l])
def F15.B4 (Post : Value → AHeap → Prop) (x1 : Int) (x2 : Nat) (H : AHeap) : Prop :=
  ld1 H x2 3 (fun v1 => AC Try.prog T0 31 [v1, (Value.int .i64 x1)] H (fun v2 H3 => asI .i64 v2 (fun v4 => F15.B3 Post v4 H3)))
def F15.B4.e (Post : Value → AHeap → Prop) : EP := fun env H => pif (Nat.beq (List.length env) 24) (asI .i64 (List.getD env 1 undef) (fun x1 => asX (List.getD env 2 undef) (fun x2 => F15.B4 Post x1 x2 H))) False
theorem F15.q4 (u : Nat → Value) (Post : Value → AHeap → Prop) (x1 : Int) (x2 : Nat) (H : AHeap) : aOps Try.prog T0 F15.o4 F15.o4 (mkEnv (upd (upd u 1 (Value.int .i64 x1)) 2 (Value.pointer (some ⟨x2, 0, none⟩))) 24 0) H (F15.B3.e Post) = F15.B4 Post x1 x2 H := by kernel_rfl
theorem F15.r4 (Post : Value → AHeap → Prop) : ∀ env H, F15.B4.e Post env H → aOps Try.prog T0 F15.o4 F15.o4 env H (F15.B3.e Post) := by
  intro env H h
  obtain ⟨hl, h⟩ := lenE h
  obtain ⟨x1, e1, h⟩ := asI_elim h
  obtain ⟨x2, e2, h⟩ := asX_elim h
  exact use_ops hl (upd_step (upd_step rfl e1) e2) ((F15.q4 _ Post x1 x2 H).mpr h)
noncomputable def F15.o5 : List Oper := opsIn (codeAt (bodyOf Try.f15) [.r, .r, .r, .r, .l, .r, .l, .l])
def F15.B5 (Post : Value → AHeap → Prop) (H : AHeap) : Prop :=
  Post (Value.int .i64 (-1)) H
def F15.B5.e (Post : Value → AHeap → Prop) : EP := fun env H => pif (Nat.beq (List.length env) 24) (F15.B5 Post H) False
theorem F15.q5 (u : Nat → Value) (Post : Value → AHeap → Prop) (H : AHeap) : aOps Try.prog T0 F15.o5 F15.o5 (mkEnv u 24 0) H (F15.ret Post) = F15.B5 Post H := by kernel_rfl
theorem F15.r5 (Post : Value → AHeap → Prop) : ∀ env H, F15.B5.e Post env H → aOps Try.prog T0 F15.o5 F15.o5 env H (F15.ret Post) := by
  intro env H h
  obtain ⟨hl, h⟩ := lenE h
  exact use_ops hl rfl ((F15.q5 _ Post H).mpr h)
noncomputable def F15.o6 : List Oper := opsIn (codeAt (bodyOf Try.f15) [.r, .r, .r, .r, .l, .l])
def F15.B6 (Post : Value → AHeap → Prop) (x1 : Int) (x2 : Nat) (H : AHeap) : Prop :=
  pif (decide ((x1 : Int) < 0)) (F15.B5 Post H) (F15.B4 Post x1 x2 H)
def F15.B6.e (Post : Value → AHeap → Prop) : EP := fun env H => pif (Nat.beq (List.length env) 24) (asI .i64 (List.getD env 1 undef) (fun x1 => asX (List.getD env 2 undef) (fun x2 => F15.B6 Post x1 x2 H))) False
theorem F15.q6 (u : Nat → Value) (Post : Value → AHeap → Prop) (x1 : Int) (x2 : Nat) (H : AHeap) : aOps Try.prog T0 F15.o6 F15.o6 (mkEnv (upd (upd u 1 (Value.int .i64 x1)) 2 (Value.pointer (some ⟨x2, 0, none⟩))) 24 0) H (fun env H => asB (aev env (.tmp 16)) (fun b => pif b ((F15.B5.e Post) env H) ((F15.B4.e Post) env H))) = F15.B6 Post x1 x2 H := by kernel_rfl
theorem F15.r6 (Post : Value → AHeap → Prop) : ∀ env H, F15.B6.e Post env H → aOps Try.prog T0 F15.o6 F15.o6 env H (fun env H => asB (aev env (.tmp 16)) (fun b => pif b ((F15.B5.e Post) env H) ((F15.B4.e Post) env H))) := by
  intro env H h
  obtain ⟨hl, h⟩ := lenE h
  obtain ⟨x1, e1, h⟩ := asI_elim h
  obtain ⟨x2, e2, h⟩ := asX_elim h
  exact use_ops hl (upd_step (upd_step rfl e1) e2) ((F15.q6 _ Post x1 x2 H).mpr h)
noncomputable def F15.o7 : List Oper := opsIn (codeAt (bodyOf Try.f15) [.r, .r, .r, .l])
def F15.B7 (Post : Value → AHeap → Prop) (x1 : Int) (x2 : Nat) (H : AHeap) : Prop :=
  ld1 H x2 2 (fun v1 => AC Try.prog T0 31 [v1, (Value.int .i64 x1)] H (fun v2 H3 => asI .i64 v2 (fun v4 => F15.B6 Post v4 x2 H3)))
def F15.B7.e (Post : Value → AHeap → Prop) : EP := fun env H => pif (Nat.beq (List.length env) 24) (asI .i64 (List.getD env 1 undef) (fun x1 => asX (List.getD env 2 undef) (fun x2 => F15.B7 Post x1 x2 H))) False
theorem F15.q7 (u : Nat → Value) (Post : Value → AHeap → Prop) (x1 : Int) (x2 : Nat) (H : AHeap) : aOps Try.prog T0 F15.o7 F15.o7 (mkEnv (upd (upd u 1 (Value.int .i64 x1)) 2 (Value.pointer (some ⟨x2, 0, none⟩))) 24 0) H (F15.B6.e Post) = F15.B7 Post x1 x2 H := by kernel_rfl
theorem F15.r7 (Post : Value → AHeap → Prop) : ∀ env H, F15.B7.e Post env H → aOps Try.prog T0 F15.o7 F15.o7 env H (F15.B6.e Post) := by
  intro env H h
  obtain ⟨hl, h⟩ := lenE h
  obtain ⟨x1, e1, h⟩ := asI_elim h
  obtain ⟨x2, e2, h⟩ := asX_elim h
  exact use_ops hl (upd_step (upd_step rfl e1) e2) ((F15.q7 _ Post x1 x2 H).mpr h)
noncomputable def F15.o8 : List Oper := opsIn (codeAt (bodyOf Try.f15) [.r, .r, .l, .r, .l, .l])
def F15.B8 (Post : Value → AHeap → Prop) (H : AHeap) : Prop :=
  Post (Value.int .i64 (-1)) H
def F15.B8.e (Post : Value → AHeap → Prop) : EP := fun env H => pif (Nat.beq (List.length env) 24) (F15.B8 Post H) False
theorem F15.q8 (u : Nat → Value) (Post : Value → AHeap → Prop) (H : AHeap) : aOps Try.prog T0 F15.o8 F15.o8 (mkEnv u 24 0) H (F15.ret Post) = F15.B8 Post H := by kernel_rfl
theorem F15.r8 (Post : Value → AHeap → Prop) : ∀ env H, F15.B8.e Post env H → aOps Try.prog T0 F15.o8 F15.o8 env H (F15.ret Post) := by
  intro env H h
  obtain ⟨hl, h⟩ := lenE h
  exact use_ops hl rfl ((F15.q8 _ Post H).mpr h)
noncomputable def F15.o9 : List Oper := opsIn (codeAt (bodyOf Try.f15) [.r, .r, .l, .l])
def F15.B9 (Post : Value → AHeap → Prop) (x1 : Int) (x2 : Nat) (H : AHeap) : Prop :=
  pif (decide ((x1 : Int) < 0)) (F15.B8 Post H) (F15.B7 Post x1 x2 H)
def F15.B9.e (Post : Value → AHeap → Prop) : EP := fun env H => pif (Nat.beq (List.length env) 24) (asI .i64 (List.getD env 1 undef) (fun x1 => asX (List.getD env 2 undef) (fun x2 => F15.B9 Post x1 x2 H))) False
theorem F15.q9 (u : Nat → Value) (Post : Value → AHeap → Prop) (x1 : Int) (x2 : Nat) (H : AHeap) : aOps Try.prog T0 F15.o9 F15.o9 (mkEnv (upd (upd u 1 (Value.int .i64 x1)) 2 (Value.pointer (some ⟨x2, 0, none⟩))) 24 0) H (fun env H => asB (aev env (.tmp 10)) (fun b => pif b ((F15.B8.e Post) env H) ((F15.B7.e Post) env H))) = F15.B9 Post x1 x2 H := by kernel_rfl
theorem F15.r9 (Post : Value → AHeap → Prop) : ∀ env H, F15.B9.e Post env H → aOps Try.prog T0 F15.o9 F15.o9 env H (fun env H => asB (aev env (.tmp 10)) (fun b => pif b ((F15.B8.e Post) env H) ((F15.B7.e Post) env H))) := by
  intro env H h
  obtain ⟨hl, h⟩ := lenE h
  obtain ⟨x1, e1, h⟩ := asI_elim h
  obtain ⟨x2, e2, h⟩ := asX_elim h
  exact use_ops hl (upd_step (upd_step rfl e1) e2) ((F15.q9 _ Post x1 x2 H).mpr h)
noncomputable def F15.o10 : List Oper := opsIn (codeAt (bodyOf Try.f15) [.r, .l])
def F15.B10 (Post : Value → AHeap → Prop) (x1 : Int) (x2 : Nat) (H : AHeap) : Prop :=
  ldI .i64 H x2 0 (fun v1 => ld1 H x2 1 (fun v2 => AC Try.prog T0 5 [(Value.agg ⟨[(Value.int .i64 v1), v2]⟩), (Value.int .i64 x1)] H (fun v3 H4 => asI .i64 v3 (fun v5 => F15.B9 Post v5 x2 H4))))
def F15.B10.e (Post : Value → AHeap → Prop) : EP := fun env H => pif (Nat.beq (List.length env) 24) (asI .i64 (List.getD env 1 undef) (fun x1 => asX (List.getD env 2 undef) (fun x2 => F15.B10 Post x1 x2 H))) False
theorem F15.q10 (u : Nat → Value) (Post : Value → AHeap → Prop) (x1 : Int) (x2 : Nat) (H : AHeap) : aOps Try.prog T0 F15.o10 F15.o10 (mkEnv (upd (upd u 1 (Value.int .i64 x1)) 2 (Value.pointer (some ⟨x2, 0, none⟩))) 24 0) H (F15.B9.e Post) = F15.B10 Post x1 x2 H := by kernel_rfl
theorem F15.r10 (Post : Value → AHeap → Prop) : ∀ env H, F15.B10.e Post env H → aOps Try.prog T0 F15.o10 F15.o10 env H (F15.B9.e Post) := by
  intro env H h
  obtain ⟨hl, h⟩ := lenE h
  obtain ⟨x1, e1, h⟩ := asI_elim h
  obtain ⟨x2, e2, h⟩ := asX_elim h
  exact use_ops hl (upd_step (upd_step rfl e1) e2) ((F15.q10 _ Post x1 x2 H).mpr h)
noncomputable def F15.o11 : List Oper := opsIn (codeAt (bodyOf Try.f15) [.l])
def F15.B11 (Post : Value → AHeap → Prop) (x0a : Int) (x0b : Value) (x0c : Value) (x0d : Value) (x1 : Int) (H : AHeap) : Prop :=
  newK H [(Value.int .i64 x0a), x0b, x0c, x0d] 40 (fun b1 H2 => F15.B10 Post x1 b1 H2)
def F15.B11.e (Post : Value → AHeap → Prop) : EP := fun env H => pif (Nat.beq (List.length env) 24) (as_ivvv (List.getD env 0 undef) (fun x0a x0b x0c x0d => asI .i64 (List.getD env 1 undef) (fun x1 => F15.B11 Post x0a x0b x0c x0d x1 H))) False
theorem F15.q11 (u : Nat → Value) (Post : Value → AHeap → Prop) (x0a : Int) (x0b : Value) (x0c : Value) (x0d : Value) (x1 : Int) (H : AHeap) : aOps Try.prog T0 F15.o11 F15.o11 (mkEnv (upd (upd u 0 (Value.agg ⟨[(Value.int .i64 x0a), x0b, x0c, x0d]⟩)) 1 (Value.int .i64 x1)) 24 0) H (F15.B10.e Post) = F15.B11 Post x0a x0b x0c x0d x1 H := by kernel_rfl
theorem F15.r11 (Post : Value → AHeap → Prop) : ∀ env H, F15.B11.e Post env H → aOps Try.prog T0 F15.o11 F15.o11 env H (F15.B10.e Post) := by
  intro env H h
  obtain ⟨hl, h⟩ := lenE h
  obtain ⟨x0a, x0b, x0c, x0d, e0, h⟩ := as_ivvv_elim h
  obtain ⟨x1, e1, h⟩ := asI_elim h
  exact use_ops hl (upd_step (upd_step rfl e0) e1) ((F15.q11 _ Post x0a x0b x0c x0d x1 H).mpr h)
noncomputable def F15.code : Code := (.seq (.region 0 ⟨F15.o11⟩ false) (.seq (.region 1 ⟨F15.o10⟩ false) (.seq (.seq (.region 2 ⟨F15.o9⟩ false) (.cond (.tmp 10) (.seq (.region 3 ⟨F15.o8⟩ false) .ret) .skip)) (.seq (.region 4 ⟨F15.o7⟩ false) (.seq (.seq (.region 5 ⟨F15.o6⟩ false) (.cond (.tmp 16) (.seq (.region 6 ⟨F15.o5⟩ false) .ret) .skip)) (.seq (.region 7 ⟨F15.o4⟩ false) (.seq (.seq (.region 8 ⟨F15.o3⟩ false) (.cond (.tmp 22) (.seq (.region 9 ⟨F15.o2⟩ false) .ret) .skip)) (.seq (.region 10 ⟨F15.o1⟩ false) .ret))))))))
theorem F15.body : Try.f15.body = some F15.code := by kernel_rfl
theorem F15.main (Post : Value → AHeap → Prop) : ∀ env H, F15.B11.e Post env H → AW Try.prog T0 F15.code env H (mkQ (F15.ret Post) (fun _ _ _ => False) (F15.ret Post)) :=
  (r_seq (r_region T0_ok (F15.r11 Post)) (r_seq (r_region T0_ok (F15.r10 Post)) (r_seq (r_seq (r_region T0_ok (F15.r9 Post)) (r_cond rfl (r_seq (r_region T0_ok (F15.r8 Post)) r_ret) r_skip)) (r_seq (r_region T0_ok (F15.r7 Post)) (r_seq (r_seq (r_region T0_ok (F15.r6 Post)) (r_cond rfl (r_seq (r_region T0_ok (F15.r5 Post)) r_ret) r_skip)) (r_seq (r_region T0_ok (F15.r4 Post)) (r_seq (r_seq (r_region T0_ok (F15.r3 Post)) (r_cond rfl (r_seq (r_region T0_ok (F15.r2 Post)) r_ret) r_skip)) (r_seq (r_region T0_ok (F15.r1 Post)) r_ret))))))))
theorem F15.ac (Post : Value → AHeap → Prop) (x0a : Int) (x0b : Value) (x0c : Value) (x0d : Value) (x1 : Int) (H : AHeap) (h : F15.B11 Post x0a x0b x0c x0d x1 H) : AC Try.prog T0 15 [(Value.agg ⟨[(Value.int .i64 x0a), x0b, x0c, x0d]⟩), (Value.int .i64 x1)] H Post :=
  r_fn T0_ok (c := F15.code) (n := 24) Try.func15 F15.body (by kernel_rfl) (F15.main Post) (lenM (by kernel_rfl) (as_ivvv_mk' (by kernel_rfl) (asI_mk' (by kernel_rfl) (h))))

-- loop.example/g01329/spec.IsDesk
noncomputable def F16.ret (Post : Value → AHeap → Prop) : EP := retE T0 32 Try.f16 Post
noncomputable def F16.o1 : List Oper := opsIn (codeAt (bodyOf Try.f16) [.r, .l])
def F16.B1 (Post : Value → AHeap → Prop) (x1 : Nat) (H : AHeap) : Prop :=
  ldI .i64 H x1 0 (fun v1 => ld1 H x1 1 (fun v2 => AC Try.prog T0 32 [(Value.agg ⟨[(Value.int .i64 v1), v2]⟩)] H (fun v3 H4 => asB v3 (fun v5 => pif v5 (ld1 H4 x1 2 (fun v6 => lenK v6 (fun n7 => pif (((n7 : Int) : Int) == 0) (ld1 H4 x1 3 (fun v8 => lenK v8 (fun n9 => pif (((n9 : Int) : Int) == 0) (Post (Value.bool true) H4) (ldI .i64 H4 x1 0 (fun v10 => ld1 H4 x1 1 (fun v11 => ld1 H4 x1 3 (fun v12 => AC Try.prog T0 34 [(Value.agg ⟨[(Value.int .i64 v10), v11]⟩), v12] H4 (fun v13 H14 => asB v13 (fun v15 => Post (Value.bool v15) H14))))))))) (ldI .i64 H4 x1 0 (fun v16 => ld1 H4 x1 1 (fun v17 => ld1 H4 x1 2 (fun v18 => AC Try.prog T0 33 [(Value.agg ⟨[(Value.int .i64 v16), v17]⟩), v18] H4 (fun v19 H20 => asB v19 (fun v21 => pif v21 (ld1 H20 x1 3 (fun v22 => lenK v22 (fun n23 => pif (((n23 : Int) : Int) == 0) (Post (Value.bool true) H20) (ldI .i64 H20 x1 0 (fun v24 => ld1 H20 x1 1 (fun v25 => ld1 H20 x1 3 (fun v26 => AC Try.prog T0 34 [(Value.agg ⟨[(Value.int .i64 v24), v25]⟩), v26] H20 (fun v27 H28 => asB v27 (fun v29 => Post (Value.bool v29) H28))))))))) (Post (Value.bool false) H20)))))))))) (Post (Value.bool false) H4)))))
def F16.B1.e (Post : Value → AHeap → Prop) : EP := fun env H => pif (Nat.beq (List.length env) 32) (asX (List.getD env 1 undef) (fun x1 => F16.B1 Post x1 H)) False
theorem F16.q1 (u : Nat → Value) (Post : Value → AHeap → Prop) (x1 : Nat) (H : AHeap) : aOps Try.prog T0 F16.o1 F16.o1 (mkEnv (upd u 1 (Value.pointer (some ⟨x1, 0, none⟩))) 32 0) H (F16.ret Post) = F16.B1 Post x1 H := by kernel_rfl
theorem F16.r1 (Post : Value → AHeap → Prop) : ∀ env H, F16.B1.e Post env H → aOps Try.prog T0 F16.o1 F16.o1 env H (F16.ret Post) := by
  intro env H h
  obtain ⟨hl, h⟩ := lenE h
  obtain ⟨x1, e1, h⟩ := asX_elim h
  exact use_ops hl (upd_step rfl e1) ((F16.q1 _ Post x1 H).mpr h)
noncomputable def F16.o2 : List Oper := opsIn (codeAt (bodyOf Try.f16) [.l])
def F16.B2 (Post : Value → AHeap → Prop) (x0a : Int) (x0b : Value) (x0c : Value) (x0d : Value) (H : AHeap) : Prop :=
  newK H [(Value.int .i64 x0a), x0b, x0c, x0d] 44 (fun b1 H2 => F16.B1 Post b1 H2)
def F16.B2.e (Post : Value → AHeap → Prop) : EP := fun env H => pif (Nat.beq (List.length env) 32) (as_ivvv (List.getD env 0 undef) (fun x0a x0b x0c x0d => F16.B2 Post x0a x0b x0c x0d H)) False
theorem F16.q2 (u : Nat → Value) (Post : Value → AHeap → Prop) (x0a : Int) (x0b : Value) (x0c : Value) (x0d : Value) (H : AHeap) : aOps Try.prog T0 F16.o2 F16.o2 (mkEnv (upd u 0 (Value.agg ⟨[(Value.int .i64 x0a), x0b, x0c, x0d]⟩)) 32 0) H (F16.B1.e Post) = F16.B2 Post x0a x0b x0c x0d H := by kernel_rfl
theorem F16.r2 (Post : Value → AHeap → Prop) : ∀ env H, F16.B2.e Post env H → aOps Try.prog T0 F16.o2 F16.o2 env H (F16.B1.e Post) := by
  intro env H h
  obtain ⟨hl, h⟩ := lenE h
  obtain ⟨x0a, x0b, x0c, x0d, e0, h⟩ := as_ivvv_elim h
  exact use_ops hl (upd_step rfl e0) ((F16.q2 _ Post x0a x0b x0c x0d H).mpr h)
noncomputable def F16.code : Code := (.seq (.region 0 ⟨F16.o2⟩ false) (.seq (.region 1 ⟨F16.o1⟩ false) .ret))
theorem F16.body : Try.f16.body = some F16.code := by kernel_rfl
theorem F16.main (Post : Value → AHeap → Prop) : ∀ env H, F16.B2.e Post env H → AW Try.prog T0 F16.code env H (mkQ (F16.ret Post) (fun _ _ _ => False) (F16.ret Post)) :=
  (r_seq (r_region T0_ok (F16.r2 Post)) (r_seq (r_region T0_ok (F16.r1 Post)) r_ret))
theorem F16.ac (Post : Value → AHeap → Prop) (x0a : Int) (x0b : Value) (x0c : Value) (x0d : Value) (H : AHeap) (h : F16.B2 Post x0a x0b x0c x0d H) : AC Try.prog T0 16 [(Value.agg ⟨[(Value.int .i64 x0a), x0b, x0c, x0d]⟩)] H Post :=
  r_fn T0_ok (c := F16.code) (n := 32) Try.func16 F16.body (by kernel_rfl) (F16.main Post) (lenM (by kernel_rfl) (as_ivvv_mk' (by kernel_rfl) (h)))

-- loop.example/g01329/laws.toDesk
noncomputable def F17.ret (Post : Value → AHeap → Prop) : EP := retE T0 17 Try.f17 Post
noncomputable def F17.o1 : List Oper := opsIn (codeAt (bodyOf Try.f17) [.r, .r, .r, .r, .r, .l])
def F17.B1 (Post : Value → AHeap → Prop) (x2 : Nat) (x3 : Nat) (H : AHeap) : Prop :=
  ldI .i64 H x3 0 (fun v1 => ld1 H x3 1 (fun v2 => ld1 H x3 2 (fun v3 => ld1 H x3 3 (fun v4 => stK H x2 0 [(Value.int .i64 v1), v2, v3, v4] (fun H5 => ldI .i64 H5 x2 0 (fun v6 => ld1 H5 x2 1 (fun v7 => ld1 H5 x2 2 (fun v8 => ld1 H5 x2 3 (fun v9 => Post (Value.agg ⟨[(Value.int .i64 v6), v7, v8, v9]⟩) H5)))))))))
def F17.B1.e (Post : Value → AHeap → Prop) : EP := fun env H => pif (Nat.beq (List.length env) 17) (asX (List.getD env 2 undef) (fun x2 => asX (List.getD env 3 undef) (fun x3 => F17.B1 Post x2 x3 H))) False
theorem F17.q1 (u : Nat → Value) (Post : Value → AHeap → Prop) (x2 : Nat) (x3 : Nat) (H : AHeap) : aOps Try.prog T0 F17.o1 F17.o1 (mkEnv (upd (upd u 2 (Value.pointer (some ⟨x2, 0, none⟩))) 3 (Value.pointer (some ⟨x3, 0, none⟩))) 17 0) H (F17.ret Post) = F17.B1 Post x2 x3 H := by kernel_rfl
theorem F17.r1 (Post : Value → AHeap → Prop) : ∀ env H, F17.B1.e Post env H → aOps Try.prog T0 F17.o1 F17.o1 env H (F17.ret Post) := by
  intro env H h
  obtain ⟨hl, h⟩ := lenE h
  obtain ⟨x2, e2, h⟩ := asX_elim h
  obtain ⟨x3, e3, h⟩ := asX_elim h
  exact use_ops hl (upd_step (upd_step rfl e2) e3) ((F17.q1 _ Post x2 x3 H).mpr h)
noncomputable def F17.o2 : List Oper := opsIn (codeAt (bodyOf Try.f17) [.r, .r, .r, .r, .l])
def F17.B2 (Post : Value → AHeap → Prop) (x1 : Nat) (x2 : Nat) (x3 : Nat) (H : AHeap) : Prop :=
  ld1 H x1 3 (fun v1 => AC Try.prog T0 8 [v1] H (fun v2 H3 => pif (Value.oneCell' v2) (stK H3 x3 3 [v2] (fun H5 => F17.B1 Post x2 x3 H5)) False))
def F17.B2.e (Post : Value → AHeap → Prop) : EP := fun env H => pif (Nat.beq (List.length env) 17) (asX (List.getD env 1 undef) (fun x1 => asX (List.getD env 2 undef) (fun x2 => asX (List.getD env 3 undef) (fun x3 => F17.B2 Post x1 x2 x3 H)))) False
theorem F17.q2 (u : Nat → Value) (Post : Value → AHeap → Prop) (x1 : Nat) (x2 : Nat) (x3 : Nat) (H : AHeap) : aOps Try.prog T0 F17.o2 F17.o2 (mkEnv (upd (upd (upd u 1 (Value.pointer (some ⟨x1, 0, none⟩))) 2 (Value.pointer (some ⟨x2, 0, none⟩))) 3 (Value.pointer (some ⟨x3, 0, none⟩))) 17 0) H (F17.B1.e Post) = F17.B2 Post x1 x2 x3 H := by kernel_rfl
theorem F17.r2 (Post : Value → AHeap → Prop) : ∀ env H, F17.B2.e Post env H → aOps Try.prog T0 F17.o2 F17.o2 env H (F17.B1.e Post) := by
  intro env H h
  obtain ⟨hl, h⟩ := lenE h
  obtain ⟨x1, e1, h⟩ := asX_elim h
  obtain ⟨x2, e2, h⟩ := asX_elim h
  obtain ⟨x3, e3, h⟩ := asX_elim h
  exact use_ops hl (upd_step (upd_step (upd_step rfl e1) e2) e3) ((F17.q2 _ Post x1 x2 x3 H).mpr h)
noncomputable def F17.o3 : List Oper := opsIn (codeAt (bodyOf Try.f17) [.r, .r, .r, .l])
def F17.B3 (Post : Value → AHeap → Prop) (x1 : Nat) (x2 : Nat) (x3 : Nat) (H : AHeap) : Prop :=
  ld1 H x1 2 (fun v1 => AC Try.prog T0 8 [v1] H (fun v2 H3 => pif (Value.oneCell' v2) (stK H3 x3 2 [v2] (fun H5 => F17.B2 Post x1 x2 x3 H5)) False))
def F17.B3.e (Post : Value → AHeap → Prop) : EP := fun env H => pif (Nat.beq (List.length env) 17) (asX (List.getD env 1 undef) (fun x1 => asX (List.getD env 2 undef) (fun x2 => asX (List.getD env 3 undef) (fun x3 => F17.B3 Post x1 x2 x3 H)))) False
theorem F17.q3 (u : Nat → Value) (Post : Value → AHeap → Prop) (x1 : Nat) (x2 : Nat) (x3 : Nat) (H : AHeap) : aOps Try.prog T0 F17.o3 F17.o3 (mkEnv (upd (upd (upd u 1 (Value.pointer (some ⟨x1, 0, none⟩))) 2 (Value.pointer (some ⟨x2, 0, none⟩))) 3 (Value.pointer (some ⟨x3, 0, none⟩))) 17 0) H (F17.B2.e Post) = F17.B3 Post x1 x2 x3 H := by kernel_rfl
theorem F17.r3 (Post : Value → AHeap → Prop) : ∀ env H, F17.B3.e Post env H → aOps Try.prog T0 F17.o3 F17.o3 env H (F17.B2.e Post) := by
  intro env H h
  obtain ⟨hl, h⟩ := lenE h
  obtain ⟨x1, e1, h⟩ := asX_elim h
  obtain ⟨x2, e2, h⟩ := asX_elim h
  obtain ⟨x3, e3, h⟩ := asX_elim h
  exact use_ops hl (upd_step (upd_step (upd_step rfl e1) e2) e3) ((F17.q3 _ Post x1 x2 x3 H).mpr h)
noncomputable def F17.o4 : List Oper := opsIn (codeAt (bodyOf Try.f17) [.r, .r, .l])
def F17.B4 (Post : Value → AHeap → Prop) (x1 : Nat) (x2 : Nat) (x3 : Nat) (H : AHeap) : Prop :=
  ldI .i64 H x1 0 (fun v1 => ld1 H x1 1 (fun v2 => AC Try.prog T0 7 [(Value.agg ⟨[(Value.int .i64 v1), v2]⟩)] H (fun v3 H4 => agg2 v3 (fun v5 v6 => asI .i64 v5 (fun v7 => stK H4 x3 0 [(Value.int .i64 v7), v6] (fun H9 => F17.B3 Post x1 x2 x3 H9))))))
def F17.B4.e (Post : Value → AHeap → Prop) : EP := fun env H => pif (Nat.beq (List.length env) 17) (asX (List.getD env 1 undef) (fun x1 => asX (List.getD env 2 undef) (fun x2 => asX (List.getD env 3 undef) (fun x3 => F17.B4 Post x1 x2 x3 H)))) False
theorem F17.q4 (u : Nat → Value) (Post : Value → AHeap → Prop) (x1 : Nat) (x2 : Nat) (x3 : Nat) (H : AHeap) : aOps Try.prog T0 F17.o4 F17.o4 (mkEnv (upd (upd (upd u 1 (Value.pointer (some ⟨x1, 0, none⟩))) 2 (Value.pointer (some ⟨x2, 0, none⟩))) 3 (Value.pointer (some ⟨x3, 0, none⟩))) 17 0) H (F17.B3.e Post) = F17.B4 Post x1 x2 x3 H := by kernel_rfl
theorem F17.r4 (Post : Value → AHeap → Prop) : ∀ env H, F17.B4.e Post env H → aOps Try.prog T0 F17.o4 F17.o4 env H (F17.B3.e Post) := by
  intro env H h
  obtain ⟨hl, h⟩ := lenE h
  obtain ⟨x1, e1, h⟩ := asX_elim h
  obtain ⟨x2, e2, h⟩ := asX_elim h
  obtain ⟨x3, e3, h⟩ := asX_elim h
  exact use_ops hl (upd_step (upd_step (upd_step rfl e1) e2) e3) ((F17.q4 _ Post x1 x2 x3 H).mpr h)
noncomputable def F17.o5 : List Oper := opsIn (codeAt (bodyOf Try.f17) [.r, .l])
def F17.B5 (Post : Value → AHeap → Prop) (x1 : Nat) (x2 : Nat) (H : AHeap) : Prop :=
  newK H [(Value.int .i64 0), (Value.slice none 0 0), (Value.slice none 0 0), (Value.slice none 0 0)] 44 (fun b1 H2 => F17.B4 Post x1 x2 b1 H2)
def F17.B5.e (Post : Value → AHeap → Prop) : EP := fun env H => pif (Nat.beq (List.length env) 17) (asX (List.getD env 1 undef) (fun x1 => asX (List.getD env 2 undef) (fun x2 => F17.B5 Post x1 x2 H))) False
theorem F17.q5 (u : Nat → Value) (Post : Value → AHeap → Prop) (x1 : Nat) (x2 : Nat) (H : AHeap) : aOps Try.prog T0 F17.o5 F17.o5 (mkEnv (upd (upd u 1 (Value.pointer (some ⟨x1, 0, none⟩))) 2 (Value.pointer (some ⟨x2, 0, none⟩))) 17 0) H (F17.B4.e Post) = F17.B5 Post x1 x2 H := by kernel_rfl
theorem F17.r5 (Post : Value → AHeap → Prop) : ∀ env H, F17.B5.e Post env H → aOps Try.prog T0 F17.o5 F17.o5 env H (F17.B4.e Post) := by
  intro env H h
  obtain ⟨hl, h⟩ := lenE h
  obtain ⟨x1, e1, h⟩ := asX_elim h
  obtain ⟨x2, e2, h⟩ := asX_elim h
  exact use_ops hl (upd_step (upd_step rfl e1) e2) ((F17.q5 _ Post x1 x2 H).mpr h)
noncomputable def F17.o6 : List Oper := opsIn (codeAt (bodyOf Try.f17) [.l])
def F17.B6 (Post : Value → AHeap → Prop) (x0a : Int) (x0b : Value) (x0c : Value) (x0d : Value) (H : AHeap) : Prop :=
  newK H [(Value.int .i64 x0a), x0b, x0c, x0d] 40 (fun b1 H2 => newK H2 [(Value.int .i64 0), (Value.slice none 0 0), (Value.slice none 0 0), (Value.slice none 0 0)] 44 (fun b3 H4 => F17.B5 Post b1 b3 H4))
def F17.B6.e (Post : Value → AHeap → Prop) : EP := fun env H => pif (Nat.beq (List.length env) 17) (as_ivvv (List.getD env 0 undef) (fun x0a x0b x0c x0d => F17.B6 Post x0a x0b x0c x0d H)) False
theorem F17.q6 (u : Nat → Value) (Post : Value → AHeap → Prop) (x0a : Int) (x0b : Value) (x0c : Value) (x0d : Value) (H : AHeap) : aOps Try.prog T0 F17.o6 F17.o6 (mkEnv (upd u 0 (Value.agg ⟨[(Value.int .i64 x0a), x0b, x0c, x0d]⟩)) 17 0) H (F17.B5.e Post) = F17.B6 Post x0a x0b x0c x0d H := by kernel_rfl
theorem F17.r6 (Post : Value → AHeap → Prop) : ∀ env H, F17.B6.e Post env H → aOps Try.prog T0 F17.o6 F17.o6 env H (F17.B5.e Post) := by
  intro env H h
  obtain ⟨hl, h⟩ := lenE h
  obtain ⟨x0a, x0b, x0c, x0d, e0, h⟩ := as_ivvv_elim h
  exact use_ops hl (upd_step rfl e0) ((F17.q6 _ Post x0a x0b x0c x0d H).mpr h)
noncomputable def F17.code : Code := (.seq (.region 0 ⟨F17.o6⟩ false) (.seq (.region 1 ⟨F17.o5⟩ false) (.seq (.region 2 ⟨F17.o4⟩ false) (.seq (.region 3 ⟨F17.o3⟩ false) (.seq (.region 4 ⟨F17.o2⟩ false) (.seq (.region 5 ⟨F17.o1⟩ false) .ret))))))
theorem F17.body : Try.f17.body = some F17.code := by kernel_rfl
theorem F17.main (Post : Value → AHeap → Prop) : ∀ env H, F17.B6.e Post env H → AW Try.prog T0 F17.code env H (mkQ (F17.ret Post) (fun _ _ _ => False) (F17.ret Post)) :=
  (r_seq (r_region T0_ok (F17.r6 Post)) (r_seq (r_region T0_ok (F17.r5 Post)) (r_seq (r_region T0_ok (F17.r4 Post)) (r_seq (r_region T0_ok (F17.r3 Post)) (r_seq (r_region T0_ok (F17.r2 Post)) (r_seq (r_region T0_ok (F17.r1 Post)) r_ret))))))
theorem F17.ac (Post : Value → AHeap → Prop) (x0a : Int) (x0b : Value) (x0c : Value) (x0d : Value) (H : AHeap) (h : F17.B6 Post x0a x0b x0c x0d H) : AC Try.prog T0 17 [(Value.agg ⟨[(Value.int .i64 x0a), x0b, x0c, x0d]⟩)] H Post :=
  r_fn T0_ok (c := F17.code) (n := 17) Try.func17 F17.body (by kernel_rfl) (F17.main Post) (lenM (by kernel_rfl) (as_ivvv_mk' (by kernel_rfl) (h)))

-- loop.example/g01329/impl.IsDesk
noncomputable def F18.ret (Post : Value → AHeap → Prop) : EP := retE T0 32 Try.f18 Post
noncomputable def F18.o1 : List Oper := opsIn (codeAt (bodyOf Try.f18) [.r, .l])
def F18.B1 (Post : Value → AHeap → Prop) (x1 : Nat) (H : AHeap) : Prop :=
  ldI .i64 H x1 0 (fun v1 => ld1 H x1 1 (fun v2 => AC Try.prog T0 35 [(Value.agg ⟨[(Value.int .i64 v1), v2]⟩)] H (fun v3 H4 => asB v3 (fun v5 => pif v5 (ld1 H4 x1 2 (fun v6 => lenK v6 (fun n7 => pif (((n7 : Int) : Int) == 0) (ld1 H4 x1 3 (fun v8 => lenK v8 (fun n9 => pif (((n9 : Int) : Int) == 0) (Post (Value.bool true) H4) (ldI .i64 H4 x1 0 (fun v10 => ld1 H4 x1 1 (fun v11 => ld1 H4 x1 3 (fun v12 => AC Try.prog T0 37 [(Value.agg ⟨[(Value.int .i64 v10), v11]⟩), v12] H4 (fun v13 H14 => asB v13 (fun v15 => Post (Value.bool v15) H14))))))))) (ldI .i64 H4 x1 0 (fun v16 => ld1 H4 x1 1 (fun v17 => ld1 H4 x1 2 (fun v18 => AC Try.prog T0 36 [(Value.agg ⟨[(Value.int .i64 v16), v17]⟩), v18] H4 (fun v19 H20 => asB v19 (fun v21 => pif v21 (ld1 H20 x1 3 (fun v22 => lenK v22 (fun n23 => pif (((n23 : Int) : Int) == 0) (Post (Value.bool true) H20) (ldI .i64 H20 x1 0 (fun v24 => ld1 H20 x1 1 (fun v25 => ld1 H20 x1 3 (fun v26 => AC Try.prog T0 37 [(Value.agg ⟨[(Value.int .i64 v24), v25]⟩), v26] H20 (fun v27 H28 => asB v27 (fun v29 => Post (Value.bool v29) H28))))))))) (Post (Value.bool false) H20)))))))))) (Post (Value.bool false) H4)))))
def F18.B1.e (Post : Value → AHeap → Prop) : EP := fun env H => pif (Nat.beq (List.length env) 32) (asX (List.getD env 1 undef) (fun x1 => F18.B1 Post x1 H)) False
theorem F18.q1 (u : Nat → Value) (Post : Value → AHeap → Prop) (x1 : Nat) (H : AHeap) : aOps Try.prog T0 F18.o1 F18.o1 (mkEnv (upd u 1 (Value.pointer (some ⟨x1, 0, none⟩))) 32 0) H (F18.ret Post) = F18.B1 Post x1 H := by kernel_rfl
theorem F18.r1 (Post : Value → AHeap → Prop) : ∀ env H, F18.B1.e Post env H → aOps Try.prog T0 F18.o1 F18.o1 env H (F18.ret Post) := by
  intro env H h
  obtain ⟨hl, h⟩ := lenE h
  obtain ⟨x1, e1, h⟩ := asX_elim h
  exact use_ops hl (upd_step rfl e1) ((F18.q1 _ Post x1 H).mpr h)
noncomputable def F18.o2 : List Oper := opsIn (codeAt (bodyOf Try.f18) [.l])
def F18.B2 (Post : Value → AHeap → Prop) (x0a : Int) (x0b : Value) (x0c : Value) (x0d : Value) (H : AHeap) : Prop :=
  newK H [(Value.int .i64 x0a), x0b, x0c, x0d] 44 (fun b1 H2 => F18.B1 Post b1 H2)
def F18.B2.e (Post : Value → AHeap → Prop) : EP := fun env H => pif (Nat.beq (List.length env) 32) (as_ivvv (List.getD env 0 undef) (fun x0a x0b x0c x0d => F18.B2 Post x0a x0b x0c x0d H)) False
theorem F18.q2 (u : Nat → Value) (Post : Value → AHeap → Prop) (x0a : Int) (x0b : Value) (x0c : Value) (x0d : Value) (H : AHeap) : aOps Try.prog T0 F18.o2 F18.o2 (mkEnv (upd u 0 (Value.agg ⟨[(Value.int .i64 x0a), x0b, x0c, x0d]⟩)) 32 0) H (F18.B1.e Post) = F18.B2 Post x0a x0b x0c x0d H := by kernel_rfl
theorem F18.r2 (Post : Value → AHeap → Prop) : ∀ env H, F18.B2.e Post env H → aOps Try.prog T0 F18.o2 F18.o2 env H (F18.B1.e Post) := by
  intro env H h
  obtain ⟨hl, h⟩ := lenE h
  obtain ⟨x0a, x0b, x0c, x0d, e0, h⟩ := as_ivvv_elim h
  exact use_ops hl (upd_step rfl e0) ((F18.q2 _ Post x0a x0b x0c x0d H).mpr h)
noncomputable def F18.code : Code := (.seq (.region 0 ⟨F18.o2⟩ false) (.seq (.region 1 ⟨F18.o1⟩ false) .ret))
theorem F18.body : Try.f18.body = some F18.code := by kernel_rfl
theorem F18.main (Post : Value → AHeap → Prop) : ∀ env H, F18.B2.e Post env H → AW Try.prog T0 F18.code env H (mkQ (F18.ret Post) (fun _ _ _ => False) (F18.ret Post)) :=
  (r_seq (r_region T0_ok (F18.r2 Post)) (r_seq (r_region T0_ok (F18.r1 Post)) r_ret))
theorem F18.ac (Post : Value → AHeap → Prop) (x0a : Int) (x0b : Value) (x0c : Value) (x0d : Value) (H : AHeap) (h : F18.B2 Post x0a x0b x0c x0d H) : AC Try.prog T0 18 [(Value.agg ⟨[(Value.int .i64 x0a), x0b, x0c, x0d]⟩)] H Post :=
  r_fn T0_ok (c := F18.code) (n := 32) Try.func18 F18.body (by kernel_rfl) (F18.main Post) (lenM (by kernel_rfl) (as_ivvv_mk' (by kernel_rfl) (h)))

-- loop.example/g01329/laws.eqDesk
noncomputable def F19.ret (Post : Value → AHeap → Prop) : EP := retE T0 23 Try.f19 Post
noncomputable def F19.o1 : List Oper := opsIn (codeAt (bodyOf Try.f19) [.r, .r, .r, .r, .l])
def F19.B1 (Post : Value → AHeap → Prop) (H : AHeap) : Prop :=
  Post (Value.bool true) H
def F19.B1.e (Post : Value → AHeap → Prop) : EP := fun env H => pif (Nat.beq (List.length env) 23) (F19.B1 Post H) False
theorem F19.q1 (u : Nat → Value) (Post : Value → AHeap → Prop) (H : AHeap) : aOps Try.prog T0 F19.o1 F19.o1 (mkEnv u 23 0) H (F19.ret Post) = F19.B1 Post H := by kernel_rfl
theorem F19.r1 (Post : Value → AHeap → Prop) : ∀ env H, F19.B1.e Post env H → aOps Try.prog T0 F19.o1 F19.o1 env H (F19.ret Post) := by
  intro env H h
  obtain ⟨hl, h⟩ := lenE h
  exact use_ops hl rfl ((F19.q1 _ Post H).mpr h)
noncomputable def F19.o2 : List Oper := opsIn (codeAt (bodyOf Try.f19) [.r, .r, .r, .l, .r, .l, .l])
def F19.B2 (Post : Value → AHeap → Prop) (H : AHeap) : Prop :=
  Post (Value.bool false) H
def F19.B2.e (Post : Value → AHeap → Prop) : EP := fun env H => pif (Nat.beq (List.length env) 23) (F19.B2 Post H) False
theorem F19.q2 (u : Nat → Value) (Post : Value → AHeap → Prop) (H : AHeap) : aOps Try.prog T0 F19.o2 F19.o2 (mkEnv u 23 0) H (F19.ret Post) = F19.B2 Post H := by kernel_rfl
theorem F19.r2 (Post : Value → AHeap → Prop) : ∀ env H, F19.B2.e Post env H → aOps Try.prog T0 F19.o2 F19.o2 env H (F19.ret Post) := by
  intro env H h
  obtain ⟨hl, h⟩ := lenE h
  exact use_ops hl rfl ((F19.q2 _ Post H).mpr h)
noncomputable def F19.o3 : List Oper := opsIn (codeAt (bodyOf Try.f19) [.r, .r, .r, .l, .l])
def F19.B3 (Post : Value → AHeap → Prop) (x2 : Nat) (x3 : Nat) (H : AHeap) : Prop :=
  ld1 H x2 3 (fun v1 => ld1 H x3 3 (fun v2 => AC Try.prog T0 10 [v1, v2] H (fun v3 H4 => asB v3 (fun v5 => pif (!v5) (F19.B2 Post H4) (F19.B1 Post H4)))))
def F19.B3.e (Post : Value → AHeap → Prop) : EP := fun env H => pif (Nat.beq (List.length env) 23) (asX (List.getD env 2 undef) (fun x2 => asX (List.getD env 3 undef) (fun x3 => F19.B3 Post x2 x3 H))) False
theorem F19.q3 (u : Nat → Value) (Post : Value → AHeap → Prop) (x2 : Nat) (x3 : Nat) (H : AHeap) : aOps Try.prog T0 F19.o3 F19.o3 (mkEnv (upd (upd u 2 (Value.pointer (some ⟨x2, 0, none⟩))) 3 (Value.pointer (some ⟨x3, 0, none⟩))) 23 0) H (fun env H => asB (aev env (.tmp 22)) (fun b => pif b ((F19.B2.e Post) env H) ((F19.B1.e Post) env H))) = F19.B3 Post x2 x3 H := by kernel_rfl
theorem F19.r3 (Post : Value → AHeap → Prop) : ∀ env H, F19.B3.e Post env H → aOps Try.prog T0 F19.o3 F19.o3 env H (fun env H => asB (aev env (.tmp 22)) (fun b => pif b ((F19.B2.e Post) env H) ((F19.B1.e Post) env H))) := by
  intro env H h
  obtain ⟨hl, h⟩ := lenE h
  obtain ⟨x2, e2, h⟩ := asX_elim h
  obtain ⟨x3, e3, h⟩ := asX_elim h
  exact use_ops hl (upd_step (upd_step rfl e2) e3) ((F19.q3 _ Post x2 x3 H).mpr h)
noncomputable def F19.o4 : List Oper := opsIn (codeAt (bodyOf Try.f19) [.r, .r, .l, .r, .l, .l])
def F19.B4 (Post : Value → AHeap → Prop) (H : AHeap) : Prop :=
  Post (Value.bool false) H
def F19.B4.e (Post : Value → AHeap → Prop) : EP := fun env H => pif (Nat.beq (List.length env) 23) (F19.B4 Post H) False
theorem F19.q4 (u : Nat → Value) (Post : Value → AHeap → Prop) (H : AHeap) : aOps Try.prog T0 F19.o4 F19.o4 (mkEnv u 23 0) H (F19.ret Post) = F19.B4 Post H := by kernel_rfl
theorem F19.r4 (Post : Value → AHeap → Prop) : ∀ env H, F19.B4.e Post env H → aOps Try.prog T0 F19.o4 F19.o4 env H (F19.ret Post) := by
  intro env H h
  obtain ⟨hl, h⟩ := lenE h
  exact use_ops hl rfl ((F19.q4 _ Post H).mpr h)
noncomputable def F19.o5 : List Oper := opsIn (codeAt (bodyOf Try.f19) [.r, .r, .l, .l])
def F19.B5 (Post : Value → AHeap → Prop) (x2 : Nat) (x3 : Nat) (H : AHeap) : Prop :=
  ld1 H x2 2 (fun v1 => ld1 H x3 2 (fun v2 => AC Try.prog T0 10 [v1, v2] H (fun v3 H4 => asB v3 (fun v5 => pif (!v5) (F19.B4 Post H4) (F19.B3 Post x2 x3 H4)))))
def F19.B5.e (Post : Value → AHeap → Prop) : EP := fun env H => pif (Nat.beq (List.length env) 23) (asX (List.getD env 2 undef) (fun x2 => asX (List.getD env 3 undef) (fun x3 => F19.B5 Post x2 x3 H))) False
theorem F19.q5 (u : Nat → Value) (Post : Value → AHeap → Prop) (x2 : Nat) (x3 : Nat) (H : AHeap) : aOps Try.prog T0 F19.o5 F19.o5 (mkEnv (upd (upd u 2 (Value.pointer (some ⟨x2, 0, none⟩))) 3 (Value.pointer (some ⟨x3, 0, none⟩))) 23 0) H (fun env H => asB (aev env (.tmp 16)) (fun b => pif b ((F19.B4.e Post) env H) ((F19.B3.e Post) env H))) = F19.B5 Post x2 x3 H := by kernel_rfl
theorem F19.r5 (Post : Value → AHeap → Prop) : ∀ env H, F19.B5.e Post env H → aOps Try.prog T0 F19.o5 F19.o5 env H (fun env H => asB (aev env (.tmp 16)) (fun b => pif b ((F19.B4.e Post) env H) ((F19.B3.e Post) env H))) := by
  intro env H h
  obtain ⟨hl, h⟩ := lenE h
  obtain ⟨x2, e2, h⟩ := asX_elim h
  obtain ⟨x3, e3, h⟩ := asX_elim h
  exact use_ops hl (upd_step (upd_step rfl e2) e3) ((F19.q5 _ Post x2 x3 H).mpr h)
noncomputable def F19.o6 : List Oper := opsIn (codeAt (bodyOf Try.f19) [.r, .l, .r, .l, .l])
def F19.B6 (Post : Value → AHeap → Prop) (H : AHeap) : Prop :=
  Post (Value.bool false) H
def F19.B6.e (Post : Value → AHeap → Prop) : EP := fun env H => pif (Nat.beq (List.length env) 23) (F19.B6 Post H) False
theorem F19.q6 (u : Nat → Value) (Post : Value → AHeap → Prop) (H : AHeap) : aOps Try.prog T0 F19.o6 F19.o6 (mkEnv u 23 0) H (F19.ret Post) = F19.B6 Post H := by kernel_rfl
theorem F19.r6 (Post : Value → AHeap → Prop) : ∀ env H, F19.B6.e Post env H → aOps Try.prog T0 F19.o6 F19.o6 env H (F19.ret Post) := by
  intro env H h
  obtain ⟨hl, h⟩ := lenE h
  exact use_ops hl rfl ((F19.q6 _ Post H).mpr h)
noncomputable def F19.o7 : List Oper := opsIn (codeAt (bodyOf Try.f19) [.r, .l, .l])
def F19.B7 (Post : Value → AHeap → Prop) (x2 : Nat) (x3 : Nat) (H : AHeap) : Prop :=
  ldI .i64 H x2 0 (fun v1 => ld1 H x2 1 (fun v2 => ldI .i64 H x3 0 (fun v3 => ld1 H x3 1 (fun v4 => AC Try.prog T0 11 [(Value.agg ⟨[(Value.int .i64 v1), v2]⟩), (Value.agg ⟨[(Value.int .i64 v3), v4]⟩)] H (fun v5 H6 => asB v5 (fun v7 => pif (!v7) (F19.B6 Post H6) (F19.B5 Post x2 x3 H6)))))))
def F19.B7.e (Post : Value → AHeap → Prop) : EP := fun env H => pif (Nat.beq (List.length env) 23) (asX (List.getD env 2 undef) (fun x2 => asX (List.getD env 3 undef) (fun x3 => F19.B7 Post x2 x3 H))) False
theorem F19.q7 (u : Nat → Value) (Post : Value → AHeap → Prop) (x2 : Nat) (x3 : Nat) (H : AHeap) : aOps Try.prog T0 F19.o7 F19.o7 (mkEnv (upd (upd u 2 (Value.pointer (some ⟨x2, 0, none⟩))) 3 (Value.pointer (some ⟨x3, 0, none⟩))) 23 0) H (fun env H => asB (aev env (.tmp 10)) (fun b => pif b ((F19.B6.e Post) env H) ((F19.B5.e Post) env H))) = F19.B7 Post x2 x3 H := by kernel_rfl
theorem F19.r7 (Post : Value → AHeap → Prop) : ∀ env H, F19.B7.e Post env H → aOps Try.prog T0 F19.o7 F19.o7 env H (fun env H => asB (aev env (.tmp 10)) (fun b => pif b ((F19.B6.e Post) env H) ((F19.B5.e Post) env H))) := by
  intro env H h
  obtain ⟨hl, h⟩ := lenE h
  obtain ⟨x2, e2, h⟩ := asX_elim h
  obtain ⟨x3, e3, h⟩ := asX_elim h
  exact use_ops hl (upd_step (upd_step rfl e2) e3) ((F19.q7 _ Post x2 x3 H).mpr h)
noncomputable def F19.o8 : List Oper := opsIn (codeAt (bodyOf Try.f19) [.l])
def F19.B8 (Post : Value → AHeap → Prop) (x0a : Int) (x0b : Value) (x0c : Value) (x0d : Value) (x1a : Int) (x1b : Value) (x1c : Value) (x1d : Value) (H : AHeap) : Prop :=
  newK H [(Value.int .i64 x0a), x0b, x0c, x0d] 44 (fun b1 H2 => newK H2 [(Value.int .i64 x1a), x1b, x1c, x1d] 44 (fun b3 H4 => F19.B7 Post b1 b3 H4))
def F19.B8.e (Post : Value → AHeap → Prop) : EP := fun env H => pif (Nat.beq (List.length env) 23) (as_ivvv (List.getD env 0 undef) (fun x0a x0b x0c x0d => as_ivvv (List.getD env 1 undef) (fun x1a x1b x1c x1d => F19.B8 Post x0a x0b x0c x0d x1a x1b x1c x1d H))) False
theorem F19.q8 (u : Nat → Value) (Post : Value → AHeap → Prop) (x0a : Int) (x0b : Value) (x0c : Value) (x0d : Value) (x1a : Int) (x1b : Value) (x1c : Value) (x1d : Value) (H : AHeap) : aOps Try.prog T0 F19.o8 F19.o8 (mkEnv (upd (upd u 0 (Value.agg ⟨[(Value.int .i64 x0a), x0b, x0c, x0d]⟩)) 1 (Value.agg ⟨[(Value.int .i64 x1a), x1b, x1c, x1d]⟩)) 23 0) H (F19.B7.e Post) = F19.B8 Post x0a x0b x0c x0d x1a x1b x1c x1d H := by kernel_rfl
theorem F19.r8 (Post : Value → AHeap → Prop) : ∀ env H, F19.B8.e Post env H → aOps Try.prog T0 F19.o8 F19.o8 env H (F19.B7.e Post) := by
  intro env H h
  obtain ⟨hl, h⟩ := lenE h
  obtain ⟨x0a, x0b, x0c, x0d, e0, h⟩ := as_ivvv_elim h
  obtain ⟨x1a, x1b, x1c, x1d, e1, h⟩ := as_ivvv_elim h
  exact use_ops hl (upd_step (upd_step rfl e0) e1) ((F19.q8 _ Post x0a x0b x0c x0d x1a x1b x1c x1d H).mpr h)
noncomputable def F19.code : Code := (.seq (.region 0 ⟨F19.o8⟩ false) (.seq (.seq (.region 1 ⟨F19.o7⟩ false) (.cond (.tmp 10) (.seq (.region 2 ⟨F19.o6⟩ false) .ret) .skip)) (.seq (.seq (.region 3 ⟨F19.o5⟩ false) (.cond (.tmp 16) (.seq (.region 4 ⟨F19.o4⟩ false) .ret) .skip)) (.seq (.seq (.region 5 ⟨F19.o3⟩ false) (.cond (.tmp 22) (.seq (.region 6 ⟨F19.o2⟩ false) .ret) .skip)) (.seq (.region 7 ⟨F19.o1⟩ false) .ret)))))
theorem F19.body : Try.f19.body = some F19.code := by kernel_rfl
theorem F19.main (Post : Value → AHeap → Prop) : ∀ env H, F19.B8.e Post env H → AW Try.prog T0 F19.code env H (mkQ (F19.ret Post) (fun _ _ _ => False) (F19.ret Post)) :=
  (r_seq (r_region T0_ok (F19.r8 Post)) (r_seq (r_seq (r_region T0_ok (F19.r7 Post)) (r_cond rfl (r_seq (r_region T0_ok (F19.r6 Post)) r_ret) r_skip)) (r_seq (r_seq (r_region T0_ok (F19.r5 Post)) (r_cond rfl (r_seq (r_region T0_ok (F19.r4 Post)) r_ret) r_skip)) (r_seq (r_seq (r_region T0_ok (F19.r3 Post)) (r_cond rfl (r_seq (r_region T0_ok (F19.r2 Post)) r_ret) r_skip)) (r_seq (r_region T0_ok (F19.r1 Post)) r_ret)))))
theorem F19.ac (Post : Value → AHeap → Prop) (x0a : Int) (x0b : Value) (x0c : Value) (x0d : Value) (x1a : Int) (x1b : Value) (x1c : Value) (x1d : Value) (H : AHeap) (h : F19.B8 Post x0a x0b x0c x0d x1a x1b x1c x1d H) : AC Try.prog T0 19 [(Value.agg ⟨[(Value.int .i64 x0a), x0b, x0c, x0d]⟩), (Value.agg ⟨[(Value.int .i64 x1a), x1b, x1c, x1d]⟩)] H Post :=
  r_fn T0_ok (c := F19.code) (n := 23) Try.func19 F19.body (by kernel_rfl) (F19.main Post) (lenM (by kernel_rfl) (as_ivvv_mk' (by kernel_rfl) (as_ivvv_mk' (by kernel_rfl) (h))))

end Go.Proofs
