import Derived.Test.YtodklioaeooocaaS
set_option linter.unusedVariables false
set_option maxRecDepth 100000
namespace Go.Proofs
open Go.Abs
-- slices.Compare[[]int64,int64]
noncomputable def F62.ret (Post : Value → AHeap → Prop) : EP := retE T0 36 Try.f62 Post
noncomputable def F62.o1 : List Oper := opsIn (codeAt (bodyOf Try.f62) [.r, .r, .r, .l])
def F62.B1 (Post : Value → AHeap → Prop) (H : AHeap) : Prop :=
  Post (Value.int .i64 0) H
def F62.B1.e (Post : Value → AHeap → Prop) : EP := fun env H => pif (Nat.beq (List.length env) 36) (F62.B1 Post H) False
theorem F62.q1 (u : Nat → Value) (Post : Value → AHeap → Prop) (H : AHeap) : aOps Try.prog T0 F62.o1 F62.o1 (mkEnv u 36 0) H (F62.ret Post) = F62.B1 Post H := by kernel_rfl
theorem F62.r1 (Post : Value → AHeap → Prop) : ∀ env H, F62.B1.e Post env H → aOps Try.prog T0 F62.o1 F62.o1 env H (F62.ret Post) := by
  intro env H h
  obtain ⟨hl, h⟩ := lenE h
  exact use_ops hl rfl ((F62.q1 _ Post H).mpr h)
noncomputable def F62.o2 : List Oper := opsIn (codeAt (bodyOf Try.f62) [.r, .r, .l, .r, .l, .l])
def F62.B2 (Post : Value → AHeap → Prop) (H : AHeap) : Prop :=
  Post (Value.int .i64 (-1)) H
def F62.B2.e (Post : Value → AHeap → Prop) : EP := fun env H => pif (Nat.beq (List.length env) 36) (F62.B2 Post H) False
theorem F62.q2 (u : Nat → Value) (Post : Value → AHeap → Prop) (H : AHeap) : aOps Try.prog T0 F62.o2 F62.o2 (mkEnv u 36 0) H (F62.ret Post) = F62.B2 Post H := by kernel_rfl
theorem F62.r2 (Post : Value → AHeap → Prop) : ∀ env H, F62.B2.e Post env H → aOps Try.prog T0 F62.o2 F62.o2 env H (F62.ret Post) := by
  intro env H h
  obtain ⟨hl, h⟩ := lenE h
  exact use_ops hl rfl ((F62.q2 _ Post H).mpr h)
noncomputable def F62.o3 : List Oper := opsIn (codeAt (bodyOf Try.f62) [.r, .r, .l, .l])
def F62.B3 (Post : Value → AHeap → Prop) (x0 : Value) (x1 : Value) (H : AHeap) : Prop :=
  lenK x0 (fun n1 => lenK x1 (fun n2 => pif (decide (((n1 : Int) : Int) < (n2 : Int))) (F62.B2 Post H) (F62.B1 Post H)))
def F62.B3.e (Post : Value → AHeap → Prop) : EP := fun env H => pif (Nat.beq (List.length env) 36) (F62.B3 Post (List.getD env 0 undef) (List.getD env 1 undef) H) False
theorem F62.q3 (u : Nat → Value) (Post : Value → AHeap → Prop) (x0 : Value) (x1 : Value) (H : AHeap) : aOps Try.prog T0 F62.o3 F62.o3 (mkEnv (upd (upd u 0 x0) 1 x1) 36 0) H (fun env H => asB (aev env (.tmp 35)) (fun b => pif b ((F62.B2.e Post) env H) ((F62.B1.e Post) env H))) = F62.B3 Post x0 x1 H := by kernel_rfl
theorem F62.r3 (Post : Value → AHeap → Prop) : ∀ env H, F62.B3.e Post env H → aOps Try.prog T0 F62.o3 F62.o3 env H (fun env H => asB (aev env (.tmp 35)) (fun b => pif b ((F62.B2.e Post) env H) ((F62.B1.e Post) env H))) := by
  intro env H h
  obtain ⟨hl, h⟩ := lenE h
  exact use_ops hl (upd_step (upd_step rfl rfl) rfl) ((F62.q3 _ Post (List.getD env 0 undef) (List.getD env 1 undef) H).mpr h)
def F62.L4.ne (N : Value → Value → Value → Int → Int → AHeap → Prop) : EP := fun env H => pif (Nat.beq (List.length env) 36) (asI .i64 (List.getD env 10 undef) (fun x10 => asI .i64 (List.getD env 11 undef) (fun x11 => N (List.getD env 0 undef) (List.getD env 1 undef) (List.getD env 9 undef) x10 x11 H))) False
noncomputable def F62.o5 : List Oper := opsIn (codeAt (bodyOf Try.f62) [.r, .l, .r, .l, .l, .r, .r, .r])
def F62.B5 (Post : Value → AHeap → Prop) (N4 : Value → Value → Value → Int → Int → AHeap → Prop) (x0 : Value) (x1 : Value) (x9 : Value) (x10 : Int) (x11 : Int) (H : AHeap) : Prop :=
  N4 x0 x1 x9 x10 (IntKind.i64.wrap (x11 + 1)) H
def F62.B5.e (Post : Value → AHeap → Prop) (N4 : Value → Value → Value → Int → Int → AHeap → Prop) : EP := fun env H => pif (Nat.beq (List.length env) 36) (asI .i64 (List.getD env 10 undef) (fun x10 => asI .i64 (List.getD env 11 undef) (fun x11 => F62.B5 Post N4 (List.getD env 0 undef) (List.getD env 1 undef) (List.getD env 9 undef) x10 x11 H))) False
theorem F62.q5 (u : Nat → Value) (Post : Value → AHeap → Prop) (N4 : Value → Value → Value → Int → Int → AHeap → Prop) (x0 : Value) (x1 : Value) (x9 : Value) (x10 : Int) (x11 : Int) (H : AHeap) : aOps Try.prog T0 F62.o5 F62.o5 (mkEnv (upd (upd (upd (upd (upd u 0 x0) 1 x1) 9 x9) 10 (Value.int .i64 x10)) 11 (Value.int .i64 x11)) 36 0) H (F62.L4.ne N4) = F62.B5 Post N4 x0 x1 x9 x10 x11 H := by kernel_rfl
theorem F62.r5 (Post : Value → AHeap → Prop) (N4 : Value → Value → Value → Int → Int → AHeap → Prop) : ∀ env H, F62.B5.e Post N4 env H → aOps Try.prog T0 F62.o5 F62.o5 env H (F62.L4.ne N4) := by
  intro env H h
  obtain ⟨hl, h⟩ := lenE h
  obtain ⟨x10, e10, h⟩ := asI_elim h
  obtain ⟨x11, e11, h⟩ := asI_elim h
  exact use_ops hl (upd_step (upd_step (upd_step (upd_step (upd_step rfl rfl) rfl) rfl) e10) e11) ((F62.q5 _ Post N4 (List.getD env 0 undef) (List.getD env 1 undef) (List.getD env 9 undef) x10 x11 H).mpr h)
noncomputable def F62.o6 : List Oper := opsIn (codeAt (bodyOf Try.f62) [.r, .l, .r, .l, .l, .r, .r, .l, .l, .r, .r, .r, .r, .r, .l, .l])
def F62.B6 (Post : Value → AHeap → Prop) (N4 : Value → Value → Value → Int → Int → AHeap → Prop) (x8 : Int) (H : AHeap) : Prop :=
  Post (Value.int .i64 x8) H
def F62.B6.e (Post : Value → AHeap → Prop) (N4 : Value → Value → Value → Int → Int → AHeap → Prop) : EP := fun env H => pif (Nat.beq (List.length env) 36) (asI .i64 (List.getD env 8 undef) (fun x8 => F62.B6 Post N4 x8 H)) False
theorem F62.q6 (u : Nat → Value) (Post : Value → AHeap → Prop) (N4 : Value → Value → Value → Int → Int → AHeap → Prop) (x8 : Int) (H : AHeap) : aOps Try.prog T0 F62.o6 F62.o6 (mkEnv (upd u 8 (Value.int .i64 x8)) 36 0) H (F62.ret Post) = F62.B6 Post N4 x8 H := by kernel_rfl
theorem F62.r6 (Post : Value → AHeap → Prop) (N4 : Value → Value → Value → Int → Int → AHeap → Prop) : ∀ env H, F62.B6.e Post N4 env H → aOps Try.prog T0 F62.o6 F62.o6 env H (F62.ret Post) := by
  intro env H h
  obtain ⟨hl, h⟩ := lenE h
  obtain ⟨x8, e8, h⟩ := asI_elim h
  exact use_ops hl (upd_step rfl e8) ((F62.q6 _ Post N4 x8 H).mpr h)
noncomputable def F62.o7 : List Oper := opsIn (codeAt (bodyOf Try.f62) [.r, .l, .r, .l, .l, .r, .r, .l, .l, .r, .r, .r, .r, .l])
def F62.B7 (Post : Value → AHeap → Prop) (N4 : Value → Value → Value → Int → Int → AHeap → Prop) (x0 : Value) (x1 : Value) (x8 : Int) (x9 : Value) (x10 : Int) (x11 : Int) (H : AHeap) : Prop :=
  pif ((x8 : Int) != 0) (F62.B6 Post N4 x8 H) (F62.B5 Post N4 x0 x1 x9 x10 x11 H)
def F62.B7.e (Post : Value → AHeap → Prop) (N4 : Value → Value → Value → Int → Int → AHeap → Prop) : EP := fun env H => pif (Nat.beq (List.length env) 36) (asI .i64 (List.getD env 8 undef) (fun x8 => asI .i64 (List.getD env 10 undef) (fun x10 => asI .i64 (List.getD env 11 undef) (fun x11 => F62.B7 Post N4 (List.getD env 0 undef) (List.getD env 1 undef) x8 (List.getD env 9 undef) x10 x11 H)))) False
theorem F62.q7 (u : Nat → Value) (Post : Value → AHeap → Prop) (N4 : Value → Value → Value → Int → Int → AHeap → Prop) (x0 : Value) (x1 : Value) (x8 : Int) (x9 : Value) (x10 : Int) (x11 : Int) (H : AHeap) : aOps Try.prog T0 F62.o7 F62.o7 (mkEnv (upd (upd (upd (upd (upd (upd u 0 x0) 1 x1) 8 (Value.int .i64 x8)) 9 x9) 10 (Value.int .i64 x10)) 11 (Value.int .i64 x11)) 36 0) H (fun env H => asB (aev env (.tmp 28)) (fun b => pif b ((F62.B6.e Post N4) env H) ((F62.B5.e Post N4) env H))) = F62.B7 Post N4 x0 x1 x8 x9 x10 x11 H := by kernel_rfl
theorem F62.r7 (Post : Value → AHeap → Prop) (N4 : Value → Value → Value → Int → Int → AHeap → Prop) : ∀ env H, F62.B7.e Post N4 env H → aOps Try.prog T0 F62.o7 F62.o7 env H (fun env H => asB (aev env (.tmp 28)) (fun b => pif b ((F62.B6.e Post N4) env H) ((F62.B5.e Post N4) env H))) := by
  intro env H h
  obtain ⟨hl, h⟩ := lenE h
  obtain ⟨x8, e8, h⟩ := asI_elim h
  obtain ⟨x10, e10, h⟩ := asI_elim h
  obtain ⟨x11, e11, h⟩ := asI_elim h
  exact use_ops hl (upd_step (upd_step (upd_step (upd_step (upd_step (upd_step rfl rfl) rfl) e8) rfl) e10) e11) ((F62.q7 _ Post N4 (List.getD env 0 undef) (List.getD env 1 undef) x8 (List.getD env 9 undef) x10 x11 H).mpr h)
noncomputable def F62.o8 : List Oper := opsIn (codeAt (bodyOf Try.f62) [.r, .l, .r, .l, .l, .r, .r, .l, .l, .r, .r, .r, .l])
def F62.B8 (Post : Value → AHeap → Prop) (N4 : Value → Value → Value → Int → Int → AHeap → Prop) (x0 : Value) (x1 : Value) (x6 : Int) (x7 : Int) (x9 : Value) (x10 : Int) (x11 : Int) (H : AHeap) : Prop :=
  AC Try.prog T0 68 [(Value.int .i64 x6), (Value.int .i64 x7)] H (fun v1 H2 => asI .i64 v1 (fun v3 => F62.B7 Post N4 x0 x1 v3 x9 x10 x11 H2))
def F62.B8.e (Post : Value → AHeap → Prop) (N4 : Value → Value → Value → Int → Int → AHeap → Prop) : EP := fun env H => pif (Nat.beq (List.length env) 36) (asI .i64 (List.getD env 6 undef) (fun x6 => asI .i64 (List.getD env 7 undef) (fun x7 => asI .i64 (List.getD env 10 undef) (fun x10 => asI .i64 (List.getD env 11 undef) (fun x11 => F62.B8 Post N4 (List.getD env 0 undef) (List.getD env 1 undef) x6 x7 (List.getD env 9 undef) x10 x11 H))))) False
theorem F62.q8 (u : Nat → Value) (Post : Value → AHeap → Prop) (N4 : Value → Value → Value → Int → Int → AHeap → Prop) (x0 : Value) (x1 : Value) (x6 : Int) (x7 : Int) (x9 : Value) (x10 : Int) (x11 : Int) (H : AHeap) : aOps Try.prog T0 F62.o8 F62.o8 (mkEnv (upd (upd (upd (upd (upd (upd (upd u 0 x0) 1 x1) 6 (Value.int .i64 x6)) 7 (Value.int .i64 x7)) 9 x9) 10 (Value.int .i64 x10)) 11 (Value.int .i64 x11)) 36 0) H (F62.B7.e Post N4) = F62.B8 Post N4 x0 x1 x6 x7 x9 x10 x11 H := by kernel_rfl
theorem F62.r8 (Post : Value → AHeap → Prop) (N4 : Value → Value → Value → Int → Int → AHeap → Prop) : ∀ env H, F62.B8.e Post N4 env H → aOps Try.prog T0 F62.o8 F62.o8 env H (F62.B7.e Post N4) := by
  intro env H h
  obtain ⟨hl, h⟩ := lenE h
  obtain ⟨x6, e6, h⟩ := asI_elim h
  obtain ⟨x7, e7, h⟩ := asI_elim h
  obtain ⟨x10, e10, h⟩ := asI_elim h
  obtain ⟨x11, e11, h⟩ := asI_elim h
  exact use_ops hl (upd_step (upd_step (upd_step (upd_step (upd_step (upd_step (upd_step rfl rfl) rfl) e6) e7) rfl) e10) e11) ((F62.q8 _ Post N4 (List.getD env 0 undef) (List.getD env 1 undef) x6 x7 (List.getD env 9 undef) x10 x11 H).mpr h)
noncomputable def F62.o9 : List Oper := opsIn (codeAt (bodyOf Try.f62) [.r, .l, .r, .l, .l, .r, .r, .l, .l, .r, .r, .l])
def F62.B9 (Post : Value → AHeap → Prop) (N4 : Value → Value → Value → Int → Int → AHeap → Prop) (x0 : Value) (x1 : Value) (x5 : Int) (x6 : Int) (x9 : Value) (x10 : Int) (x11 : Int) (H : AHeap) : Prop :=
  idxK x1 x5 1 (fun b1 o2 => ldI .i64 H b1 o2 (fun v3 => F62.B8 Post N4 x0 x1 x6 v3 x9 x10 x11 H))
def F62.B9.e (Post : Value → AHeap → Prop) (N4 : Value → Value → Value → Int → Int → AHeap → Prop) : EP := fun env H => pif (Nat.beq (List.length env) 36) (asI .i64 (List.getD env 5 undef) (fun x5 => asI .i64 (List.getD env 6 undef) (fun x6 => asI .i64 (List.getD env 10 undef) (fun x10 => asI .i64 (List.getD env 11 undef) (fun x11 => F62.B9 Post N4 (List.getD env 0 undef) (List.getD env 1 undef) x5 x6 (List.getD env 9 undef) x10 x11 H))))) False
theorem F62.q9 (u : Nat → Value) (Post : Value → AHeap → Prop) (N4 : Value → Value → Value → Int → Int → AHeap → Prop) (x0 : Value) (x1 : Value) (x5 : Int) (x6 : Int) (x9 : Value) (x10 : Int) (x11 : Int) (H : AHeap) : aOps Try.prog T0 F62.o9 F62.o9 (mkEnv (upd (upd (upd (upd (upd (upd (upd u 0 x0) 1 x1) 5 (Value.int .i64 x5)) 6 (Value.int .i64 x6)) 9 x9) 10 (Value.int .i64 x10)) 11 (Value.int .i64 x11)) 36 0) H (F62.B8.e Post N4) = F62.B9 Post N4 x0 x1 x5 x6 x9 x10 x11 H := by kernel_rfl
theorem F62.r9 (Post : Value → AHeap → Prop) (N4 : Value → Value → Value → Int → Int → AHeap → Prop) : ∀ env H, F62.B9.e Post N4 env H → aOps Try.prog T0 F62.o9 F62.o9 env H (F62.B8.e Post N4) := by
  intro env H h
  obtain ⟨hl, h⟩ := lenE h
  obtain ⟨x5, e5, h⟩ := asI_elim h
  obtain ⟨x6, e6, h⟩ := asI_elim h
  obtain ⟨x10, e10, h⟩ := asI_elim h
  obtain ⟨x11, e11, h⟩ := asI_elim h
  exact use_ops hl (upd_step (upd_step (upd_step (upd_step (upd_step (upd_step (upd_step rfl rfl) rfl) e5) e6) rfl) e10) e11) ((F62.q9 _ Post N4 (List.getD env 0 undef) (List.getD env 1 undef) x5 x6 (List.getD env 9 undef) x10 x11 H).mpr h)
noncomputable def F62.o10 : List Oper := opsIn (codeAt (bodyOf Try.f62) [.r, .l, .r, .l, .l, .r, .r, .l, .l, .r, .l, .r, .l, .l])
def F62.B10 (Post : Value → AHeap → Prop) (N4 : Value → Value → Value → Int → Int → AHeap → Prop) (H : AHeap) : Prop :=
  Post (Value.int .i64 1) H
def F62.B10.e (Post : Value → AHeap → Prop) (N4 : Value → Value → Value → Int → Int → AHeap → Prop) : EP := fun env H => pif (Nat.beq (List.length env) 36) (F62.B10 Post N4 H) False
theorem F62.q10 (u : Nat → Value) (Post : Value → AHeap → Prop) (N4 : Value → Value → Value → Int → Int → AHeap → Prop) (H : AHeap) : aOps Try.prog T0 F62.o10 F62.o10 (mkEnv u 36 0) H (F62.ret Post) = F62.B10 Post N4 H := by kernel_rfl
theorem F62.r10 (Post : Value → AHeap → Prop) (N4 : Value → Value → Value → Int → Int → AHeap → Prop) : ∀ env H, F62.B10.e Post N4 env H → aOps Try.prog T0 F62.o10 F62.o10 env H (F62.ret Post) := by
  intro env H h
  obtain ⟨hl, h⟩ := lenE h
  exact use_ops hl rfl ((F62.q10 _ Post N4 H).mpr h)
noncomputable def F62.o11 : List Oper := opsIn (codeAt (bodyOf Try.f62) [.r, .l, .r, .l, .l, .r, .r, .l, .l, .r, .l, .l])
def F62.B11 (Post : Value → AHeap → Prop) (N4 : Value → Value → Value → Int → Int → AHeap → Prop) (x0 : Value) (x1 : Value) (x5 : Int) (x6 : Int) (x9 : Value) (x10 : Int) (x11 : Int) (H : AHeap) : Prop :=
  lenK x1 (fun n1 => pif (decide ((x5 : Int) ≥ (n1 : Int))) (F62.B10 Post N4 H) (F62.B9 Post N4 x0 x1 x5 x6 x9 x10 x11 H))
def F62.B11.e (Post : Value → AHeap → Prop) (N4 : Value → Value → Value → Int → Int → AHeap → Prop) : EP := fun env H => pif (Nat.beq (List.length env) 36) (asI .i64 (List.getD env 5 undef) (fun x5 => asI .i64 (List.getD env 6 undef) (fun x6 => asI .i64 (List.getD env 10 undef) (fun x10 => asI .i64 (List.getD env 11 undef) (fun x11 => F62.B11 Post N4 (List.getD env 0 undef) (List.getD env 1 undef) x5 x6 (List.getD env 9 undef) x10 x11 H))))) False
theorem F62.q11 (u : Nat → Value) (Post : Value → AHeap → Prop) (N4 : Value → Value → Value → Int → Int → AHeap → Prop) (x0 : Value) (x1 : Value) (x5 : Int) (x6 : Int) (x9 : Value) (x10 : Int) (x11 : Int) (H : AHeap) : aOps Try.prog T0 F62.o11 F62.o11 (mkEnv (upd (upd (upd (upd (upd (upd (upd u 0 x0) 1 x1) 5 (Value.int .i64 x5)) 6 (Value.int .i64 x6)) 9 x9) 10 (Value.int .i64 x10)) 11 (Value.int .i64 x11)) 36 0) H (fun env H => asB (aev env (.tmp 19)) (fun b => pif b ((F62.B10.e Post N4) env H) ((F62.B9.e Post N4) env H))) = F62.B11 Post N4 x0 x1 x5 x6 x9 x10 x11 H := by kernel_rfl
theorem F62.r11 (Post : Value → AHeap → Prop) (N4 : Value → Value → Value → Int → Int → AHeap → Prop) : ∀ env H, F62.B11.e Post N4 env H → aOps Try.prog T0 F62.o11 F62.o11 env H (fun env H => asB (aev env (.tmp 19)) (fun b => pif b ((F62.B10.e Post N4) env H) ((F62.B9.e Post N4) env H))) := by
  intro env H h
  obtain ⟨hl, h⟩ := lenE h
  obtain ⟨x5, e5, h⟩ := asI_elim h
  obtain ⟨x6, e6, h⟩ := asI_elim h
  obtain ⟨x10, e10, h⟩ := asI_elim h
  obtain ⟨x11, e11, h⟩ := asI_elim h
  exact use_ops hl (upd_step (upd_step (upd_step (upd_step (upd_step (upd_step (upd_step rfl rfl) rfl) e5) e6) rfl) e10) e11) ((F62.q11 _ Post N4 (List.getD env 0 undef) (List.getD env 1 undef) x5 x6 (List.getD env 9 undef) x10 x11 H).mpr h)
noncomputable def F62.o12 : List Oper := opsIn (codeAt (bodyOf Try.f62) [.r, .l, .r, .l, .l, .r, .r, .l, .l, .l])
def F62.B12 (Post : Value → AHeap → Prop) (N4 : Value → Value → Value → Int → Int → AHeap → Prop) (x0 : Value) (x1 : Value) (x9 : Value) (x10 : Int) (x11 : Int) (H : AHeap) : Prop :=
  idxK x9 x11 1 (fun b1 o2 => ldI .i64 H b1 o2 (fun v3 => F62.B11 Post N4 x0 x1 x11 v3 x9 x10 x11 H))
def F62.B12.e (Post : Value → AHeap → Prop) (N4 : Value → Value → Value → Int → Int → AHeap → Prop) : EP := fun env H => pif (Nat.beq (List.length env) 36) (asI .i64 (List.getD env 10 undef) (fun x10 => asI .i64 (List.getD env 11 undef) (fun x11 => F62.B12 Post N4 (List.getD env 0 undef) (List.getD env 1 undef) (List.getD env 9 undef) x10 x11 H))) False
theorem F62.q12 (u : Nat → Value) (Post : Value → AHeap → Prop) (N4 : Value → Value → Value → Int → Int → AHeap → Prop) (x0 : Value) (x1 : Value) (x9 : Value) (x10 : Int) (x11 : Int) (H : AHeap) : aOps Try.prog T0 F62.o12 F62.o12 (mkEnv (upd (upd (upd (upd (upd u 0 x0) 1 x1) 9 x9) 10 (Value.int .i64 x10)) 11 (Value.int .i64 x11)) 36 0) H (F62.B11.e Post N4) = F62.B12 Post N4 x0 x1 x9 x10 x11 H := by kernel_rfl
theorem F62.r12 (Post : Value → AHeap → Prop) (N4 : Value → Value → Value → Int → Int → AHeap → Prop) : ∀ env H, F62.B12.e Post N4 env H → aOps Try.prog T0 F62.o12 F62.o12 env H (F62.B11.e Post N4) := by
  intro env H h
  obtain ⟨hl, h⟩ := lenE h
  obtain ⟨x10, e10, h⟩ := asI_elim h
  obtain ⟨x11, e11, h⟩ := asI_elim h
  exact use_ops hl (upd_step (upd_step (upd_step (upd_step (upd_step rfl rfl) rfl) rfl) e10) e11) ((F62.q12 _ Post N4 (List.getD env 0 undef) (List.getD env 1 undef) (List.getD env 9 undef) x10 x11 H).mpr h)
noncomputable def F62.o13 : List Oper := opsIn (codeAt (bodyOf Try.f62) [.r, .l, .r, .l, .l, .l])
def F62.B13 (Post : Value → AHeap → Prop) (N4 : Value → Value → Value → Int → Int → AHeap → Prop) (x0 : Value) (x1 : Value) (x9 : Value) (x10 : Int) (x11 : Int) (H : AHeap) : Prop :=
  pif (decide ((x11 : Int) < x10)) (F62.B12 Post N4 x0 x1 x9 x10 x11 H) (F62.B3 Post x0 x1 H)
def F62.B13.e (Post : Value → AHeap → Prop) (N4 : Value → Value → Value → Int → Int → AHeap → Prop) : EP := fun env H => pif (Nat.beq (List.length env) 36) (asI .i64 (List.getD env 10 undef) (fun x10 => asI .i64 (List.getD env 11 undef) (fun x11 => F62.B13 Post N4 (List.getD env 0 undef) (List.getD env 1 undef) (List.getD env 9 undef) x10 x11 H))) False
theorem F62.q13 (u : Nat → Value) (Post : Value → AHeap → Prop) (N4 : Value → Value → Value → Int → Int → AHeap → Prop) (x0 : Value) (x1 : Value) (x9 : Value) (x10 : Int) (x11 : Int) (H : AHeap) : aOps Try.prog T0 F62.o13 F62.o13 (mkEnv (upd (upd (upd (upd (upd u 0 x0) 1 x1) 9 x9) 10 (Value.int .i64 x10)) 11 (Value.int .i64 x11)) 36 0) H (fun env H => asB (aev env (.tmp 12)) (fun b => pif b ((F62.B12.e Post N4) env H) ((F62.B3.e Post) env H))) = F62.B13 Post N4 x0 x1 x9 x10 x11 H := by kernel_rfl
theorem F62.r13 (Post : Value → AHeap → Prop) (N4 : Value → Value → Value → Int → Int → AHeap → Prop) : ∀ env H, F62.B13.e Post N4 env H → aOps Try.prog T0 F62.o13 F62.o13 env H (fun env H => asB (aev env (.tmp 12)) (fun b => pif b ((F62.B12.e Post N4) env H) ((F62.B3.e Post) env H))) := by
  intro env H h
  obtain ⟨hl, h⟩ := lenE h
  obtain ⟨x10, e10, h⟩ := asI_elim h
  obtain ⟨x11, e11, h⟩ := asI_elim h
  exact use_ops hl (upd_step (upd_step (upd_step (upd_step (upd_step rfl rfl) rfl) rfl) e10) e11) ((F62.q13 _ Post N4 (List.getD env 0 undef) (List.getD env 1 undef) (List.getD env 9 undef) x10 x11 H).mpr h)
def F62.L4 (Post : Value → AHeap → Prop) (x0 : Value) (x1 : Value) (x9 : Value) (x10 : Int) (x11 : Int) (H : AHeap) : Prop :=
  ∃ (I : Value → Value → Value → Int → Int → AHeap → Prop) (μ : Value → Value → Value → Int → Int → AHeap → Nat), I x0 x1 x9 x10 x11 H ∧ ∀ x0' x1' x9' x10' x11' H', I x0' x1' x9' x10' x11' H' → F62.B13 Post (fun x0'' x1'' x9'' x10'' x11'' H'' => I x0'' x1'' x9'' x10'' x11'' H'' ∧ μ x0'' x1'' x9'' x10'' x11'' H'' < μ x0' x1' x9' x10' x11' H') x0' x1' x9' x10' x11' H'
def F62.L4.e (Post : Value → AHeap → Prop) : EP := fun env H => pif (Nat.beq (List.length env) 36) (asI .i64 (List.getD env 10 undef) (fun x10 => asI .i64 (List.getD env 11 undef) (fun x11 => F62.L4 Post (List.getD env 0 undef) (List.getD env 1 undef) (List.getD env 9 undef) x10 x11 H))) False
theorem F62.l4 (Post : Value → AHeap → Prop) {c : Code} {K : EP} {X : Nat → EP}
    (hb : ∀ N4 : Value → Value → Value → Int → Int → AHeap → Prop, ∀ env H, (F62.B13.e Post N4) env H → AW Try.prog T0 c env H (mkQ (F62.L4.ne N4) X (F62.ret Post))) :
    ∀ env H, F62.L4.e Post env H → AW Try.prog T0 (.loop c) env H (mkQ K X (F62.ret Post)) := by
  intro env H h
  obtain ⟨hl, h⟩ := lenE h
  obtain ⟨x10, e10, h⟩ := asI_elim h
  obtain ⟨x11, e11, h⟩ := asI_elim h
  obtain ⟨I, μ, h0, hI⟩ := h
  refine r_loop (fun n env H => pif (Nat.beq (List.length env) 36) (asI .i64 (List.getD env 10 undef) (fun x10 => asI .i64 (List.getD env 11 undef) (fun x11 => (I (List.getD env 0 undef) (List.getD env 1 undef) (List.getD env 9 undef) x10 x11 H) ∧ (μ (List.getD env 0 undef) (List.getD env 1 undef) (List.getD env 9 undef) x10 x11 H = n)))) False) ?_ env H ⟨μ (List.getD env 0 undef) (List.getD env 1 undef) (List.getD env 9 undef) x10 x11 H, lenM hl (asI_mk' e10 (asI_mk' e11 (⟨h0, rfl⟩)))⟩
  intro n env' H' h
  obtain ⟨hl', h⟩ := lenE h
  obtain ⟨x10', e10', h⟩ := asI_elim h
  obtain ⟨x11', e11', h⟩ := asI_elim h
  obtain ⟨hi, hm⟩ := h
  refine r_imp (hb (fun x0'' x1'' x9'' x10'' x11'' H'' => I x0'' x1'' x9'' x10'' x11'' H'' ∧ μ x0'' x1'' x9'' x10'' x11'' H'' < n)) ?_ env' H' ?_
  · intro env H h
    obtain ⟨hl'', h⟩ := lenE h
    obtain ⟨x10'', e10'', h⟩ := asI_elim h
    obtain ⟨x11'', e11'', h⟩ := asI_elim h
    obtain ⟨hi, hlt⟩ := h
    exact ⟨_, hlt, lenM hl'' (asI_mk' e10'' (asI_mk' e11'' (⟨hi, rfl⟩)))⟩
  · have h := hI (List.getD env' 0 undef) (List.getD env' 1 undef) (List.getD env' 9 undef) x10' x11' H' hi
    rw [hm] at h
    exact lenM hl' (asI_mk' e10' (asI_mk' e11' (h)))
noncomputable def F62.o14 : List Oper := opsIn (codeAt (bodyOf Try.f62) [.r, .l, .l])
def F62.B14 (Post : Value → AHeap → Prop) (x0 : Value) (x1 : Value) (H : AHeap) : Prop :=
  lenK x0 (fun n1 => F62.L4 Post x0 x1 x0 (n1 : Int) 0 H)
def F62.B14.e (Post : Value → AHeap → Prop) : EP := fun env H => pif (Nat.beq (List.length env) 36) (F62.B14 Post (List.getD env 0 undef) (List.getD env 1 undef) H) False
theorem F62.q14 (u : Nat → Value) (Post : Value → AHeap → Prop) (x0 : Value) (x1 : Value) (H : AHeap) : aOps Try.prog T0 F62.o14 F62.o14 (mkEnv (upd (upd u 0 x0) 1 x1) 36 0) H (F62.L4.e Post) = F62.B14 Post x0 x1 H := by kernel_rfl
theorem F62.r14 (Post : Value → AHeap → Prop) : ∀ env H, F62.B14.e Post env H → aOps Try.prog T0 F62.o14 F62.o14 env H (F62.L4.e Post) := by
  intro env H h
  obtain ⟨hl, h⟩ := lenE h
  exact use_ops hl (upd_step (upd_step rfl rfl) rfl) ((F62.q14 _ Post (List.getD env 0 undef) (List.getD env 1 undef) H).mpr h)
noncomputable def F62.o15 : List Oper := opsIn (codeAt (bodyOf Try.f62) [.l])
def F62.B15 (Post : Value → AHeap → Prop) (x0 : Value) (x1 : Value) (H : AHeap) : Prop :=
  F62.B14 Post x0 x1 H
def F62.B15.e (Post : Value → AHeap → Prop) : EP := fun env H => pif (Nat.beq (List.length env) 36) (F62.B15 Post (List.getD env 0 undef) (List.getD env 1 undef) H) False
theorem F62.q15 (u : Nat → Value) (Post : Value → AHeap → Prop) (x0 : Value) (x1 : Value) (H : AHeap) : aOps Try.prog T0 F62.o15 F62.o15 (mkEnv (upd (upd u 0 x0) 1 x1) 36 0) H (F62.B14.e Post) = F62.B15 Post x0 x1 H := by kernel_rfl
theorem F62.r15 (Post : Value → AHeap → Prop) : ∀ env H, F62.B15.e Post env H → aOps Try.prog T0 F62.o15 F62.o15 env H (F62.B14.e Post) := by
  intro env H h
  obtain ⟨hl, h⟩ := lenE h
  exact use_ops hl (upd_step (upd_step rfl rfl) rfl) ((F62.q15 _ Post (List.getD env 0 undef) (List.getD env 1 undef) H).mpr h)
noncomputable def F62.code : Code := (.seq (.region 0 ⟨F62.o15⟩ false) (.seq (.seq (.region 1 ⟨F62.o14⟩ false) (.block 0 (.loop (.seq (.region 2 ⟨F62.o13⟩ false) (.seq (.cond (.tmp 12) .skip (.exit 0)) (.seq (.block 1 (.seq (.region 3 ⟨F62.o12⟩ false) (.seq (.seq (.region 4 ⟨F62.o11⟩ false) (.cond (.tmp 19) (.seq (.region 5 ⟨F62.o10⟩ false) .ret) .skip)) (.seq (.region 6 ⟨F62.o9⟩ false) (.seq (.region 7 ⟨F62.o8⟩ false) (.seq (.region 8 ⟨F62.o7⟩ false) (.cond (.tmp 28) (.seq (.region 9 ⟨F62.o6⟩ false) .ret) .skip))))))) (.region 10 ⟨F62.o5⟩ false))))))) (.seq (.seq (.region 11 ⟨F62.o3⟩ false) (.cond (.tmp 35) (.seq (.region 12 ⟨F62.o2⟩ false) .ret) .skip)) (.seq (.region 13 ⟨F62.o1⟩ false) .ret))))
theorem F62.body : Try.f62.body = some F62.code := by kernel_rfl
theorem F62.main (Post : Value → AHeap → Prop) : ∀ env H, F62.B15.e Post env H → AW Try.prog T0 F62.code env H (mkQ (F62.ret Post) (fun _ _ _ => False) (F62.ret Post)) :=
  (r_seq (r_region T0_ok (F62.r15 Post)) (r_seq (r_seq (r_region T0_ok (F62.r14 Post)) (r_block (F62.l4 Post (fun N4 => (r_seq (r_region T0_ok (F62.r13 Post N4)) (r_seq (r_cond rfl r_skip (r_exit (fun _ _ h => h))) (r_seq (r_block (r_seq (r_region T0_ok (F62.r12 Post N4)) (r_seq (r_seq (r_region T0_ok (F62.r11 Post N4)) (r_cond rfl (r_seq (r_region T0_ok (F62.r10 Post N4)) r_ret) r_skip)) (r_seq (r_region T0_ok (F62.r9 Post N4)) (r_seq (r_region T0_ok (F62.r8 Post N4)) (r_seq (r_region T0_ok (F62.r7 Post N4)) (r_cond rfl (r_seq (r_region T0_ok (F62.r6 Post N4)) r_ret) r_skip))))))) (r_region T0_ok (F62.r5 Post N4))))))))) (r_seq (r_seq (r_region T0_ok (F62.r3 Post)) (r_cond rfl (r_seq (r_region T0_ok (F62.r2 Post)) r_ret) r_skip)) (r_seq (r_region T0_ok (F62.r1 Post)) r_ret))))
theorem F62.ac (Post : Value → AHeap → Prop) (x0 : Value) (x1 : Value) (H : AHeap) (h : F62.B15 Post x0 x1 H) : AC Try.prog T0 62 [x0, x1] H Post :=
  r_fn T0_ok (c := F62.code) (n := 36) Try.func62 F62.body (by kernel_rfl) (F62.main Post) (lenM (by kernel_rfl) (h))

-- loop.example/g01329/impl.areAll[int]
noncomputable def F63.ret (Post : Value → AHeap → Prop) : EP := retE T0 9 Try.f63 Post
noncomputable def F63.o1 : List Oper := opsIn (codeAt (bodyOf Try.f63) [.r, .l])
def F63.B1 (Post : Value → AHeap → Prop) (x0 : Value) (x3 : Nat) (H : AHeap) : Prop :=
  AC Try.prog T0 69 [x0, (Value.func (.func 70) ⟨[]⟩ ⟨[(Value.pointer (some ⟨x3, 0, none⟩))]⟩)] H (fun v1 H2 => asB v1 (fun v3 => Post (Value.bool (!v3)) H2))
def F63.B1.e (Post : Value → AHeap → Prop) : EP := fun env H => pif (Nat.beq (List.length env) 9) (asX (List.getD env 3 undef) (fun x3 => F63.B1 Post (List.getD env 0 undef) x3 H)) False
theorem F63.q1 (u : Nat → Value) (Post : Value → AHeap → Prop) (x0 : Value) (x3 : Nat) (H : AHeap) : aOps Try.prog T0 F63.o1 F63.o1 (mkEnv (upd (upd u 0 x0) 3 (Value.pointer (some ⟨x3, 0, none⟩))) 9 0) H (F63.ret Post) = F63.B1 Post x0 x3 H := by kernel_rfl
theorem F63.r1 (Post : Value → AHeap → Prop) : ∀ env H, F63.B1.e Post env H → aOps Try.prog T0 F63.o1 F63.o1 env H (F63.ret Post) := by
  intro env H h
  obtain ⟨hl, h⟩ := lenE h
  obtain ⟨x3, e3, h⟩ := asX_elim h
  exact use_ops hl (upd_step (upd_step rfl rfl) e3) ((F63.q1 _ Post (List.getD env 0 undef) x3 H).mpr h)
noncomputable def F63.o2 : List Oper := opsIn (codeAt (bodyOf Try.f63) [.l])
def F63.B2 (Post : Value → AHeap → Prop) (x0 : Value) (x1 : Value) (H : AHeap) : Prop :=
  pif (Value.oneCell' x1) (newK H [x1] 85 (fun b1 H2 => F63.B1 Post x0 b1 H2)) False
def F63.B2.e (Post : Value → AHeap → Prop) : EP := fun env H => pif (Nat.beq (List.length env) 9) (F63.B2 Post (List.getD env 0 undef) (List.getD env 1 undef) H) False
theorem F63.q2 (u : Nat → Value) (Post : Value → AHeap → Prop) (x0 : Value) (x1 : Value) (H : AHeap) : aOps Try.prog T0 F63.o2 F63.o2 (mkEnv (upd (upd u 0 x0) 1 x1) 9 0) H (F63.B1.e Post) = F63.B2 Post x0 x1 H := by kernel_rfl
theorem F63.r2 (Post : Value → AHeap → Prop) : ∀ env H, F63.B2.e Post env H → aOps Try.prog T0 F63.o2 F63.o2 env H (F63.B1.e Post) := by
  intro env H h
  obtain ⟨hl, h⟩ := lenE h
  exact use_ops hl (upd_step (upd_step rfl rfl) rfl) ((F63.q2 _ Post (List.getD env 0 undef) (List.getD env 1 undef) H).mpr h)
noncomputable def F63.code : Code := (.seq (.region 0 ⟨F63.o2⟩ false) (.seq (.region 1 ⟨F63.o1⟩ false) .ret))
theorem F63.body : Try.f63.body = some F63.code := by kernel_rfl
theorem F63.main (Post : Value → AHeap → Prop) : ∀ env H, F63.B2.e Post env H → AW Try.prog T0 F63.code env H (mkQ (F63.ret Post) (fun _ _ _ => False) (F63.ret Post)) :=
  (r_seq (r_region T0_ok (F63.r2 Post)) (r_seq (r_region T0_ok (F63.r1 Post)) r_ret))
theorem F63.ac (Post : Value → AHeap → Prop) (x0 : Value) (x1 : Value) (H : AHeap) (h : F63.B2 Post x0 x1 H) : AC Try.prog T0 63 [x0, x1] H Post :=
  r_fn T0_ok (c := F63.code) (n := 9) Try.func63 F63.body (by kernel_rfl) (F63.main Post) (lenM (by kernel_rfl) (h))

-- loop.example/g01329/impl.isCubic$1
noncomputable def F64.ret (Post : Value → AHeap → Prop) : EP := retE T0 5 Try.f64 Post
noncomputable def F64.o1 : List Oper := opsIn (codeAt (bodyOf Try.f64) [.r, .l])
def F64.B1 (Post : Value → AHeap → Prop) (x0 : Int) (H : AHeap) : Prop :=
  Post (Value.bool ((x0 : Int) == 3)) H
def F64.B1.e (Post : Value → AHeap → Prop) : EP := fun env H => pif (Nat.beq (List.length env) 5) (asI .i64 (List.getD env 0 undef) (fun x0 => F64.B1 Post x0 H)) False
theorem F64.q1 (u : Nat → Value) (Post : Value → AHeap → Prop) (x0 : Int) (H : AHeap) : aOps Try.prog T0 F64.o1 F64.o1 (mkEnv (upd u 0 (Value.int .i64 x0)) 5 0) H (F64.ret Post) = F64.B1 Post x0 H := by kernel_rfl
theorem F64.r1 (Post : Value → AHeap → Prop) : ∀ env H, F64.B1.e Post env H → aOps Try.prog T0 F64.o1 F64.o1 env H (F64.ret Post) := by
  intro env H h
  obtain ⟨hl, h⟩ := lenE h
  obtain ⟨x0, e0, h⟩ := asI_elim h
  exact use_ops hl (upd_step rfl e0) ((F64.q1 _ Post x0 H).mpr h)
noncomputable def F64.o2 : List Oper := opsIn (codeAt (bodyOf Try.f64) [.l])
def F64.B2 (Post : Value → AHeap → Prop) (x0 : Int) (H : AHeap) : Prop :=
  F64.B1 Post x0 H
def F64.B2.e (Post : Value → AHeap → Prop) : EP := fun env H => pif (Nat.beq (List.length env) 5) (asI .i64 (List.getD env 0 undef) (fun x0 => F64.B2 Post x0 H)) False
theorem F64.q2 (u : Nat → Value) (Post : Value → AHeap → Prop) (x0 : Int) (H : AHeap) : aOps Try.prog T0 F64.o2 F64.o2 (mkEnv (upd u 0 (Value.int .i64 x0)) 5 0) H (F64.B1.e Post) = F64.B2 Post x0 H := by kernel_rfl
theorem F64.r2 (Post : Value → AHeap → Prop) : ∀ env H, F64.B2.e Post env H → aOps Try.prog T0 F64.o2 F64.o2 env H (F64.B1.e Post) := by
  intro env H h
  obtain ⟨hl, h⟩ := lenE h
  obtain ⟨x0, e0, h⟩ := asI_elim h
  exact use_ops hl (upd_step rfl e0) ((F64.q2 _ Post x0 H).mpr h)
noncomputable def F64.code : Code := (.seq (.region 0 ⟨F64.o2⟩ false) (.seq (.region 1 ⟨F64.o1⟩ false) .ret))
theorem F64.body : Try.f64.body = some F64.code := by kernel_rfl
theorem F64.main (Post : Value → AHeap → Prop) : ∀ env H, F64.B2.e Post env H → AW Try.prog T0 F64.code env H (mkQ (F64.ret Post) (fun _ _ _ => False) (F64.ret Post)) :=
  (r_seq (r_region T0_ok (F64.r2 Post)) (r_seq (r_region T0_ok (F64.r1 Post)) r_ret))
theorem F64.ac (Post : Value → AHeap → Prop) (x0 : Int) (H : AHeap) (h : F64.B2 Post x0 H) : AC Try.prog T0 64 [(Value.int .i64 x0)] H Post :=
  r_fn T0_ok (c := F64.code) (n := 5) Try.func64 F64.body (by kernel_rfl) (F64.main Post) (lenM (by kernel_rfl) (asI_mk' (by kernel_rfl) (h)))

-- slices.ContainsFunc[[]int64,int64]
noncomputable def F65.ret (Post : Value → AHeap → Prop) : EP := retE T0 9 Try.f65 Post
noncomputable def F65.o1 : List Oper := opsIn (codeAt (bodyOf Try.f65) [.r, .l])
def F65.B1 (Post : Value → AHeap → Prop) (x0 : Value) (x1 : Value) (H : AHeap) : Prop :=
  AC Try.prog T0 71 [x0, x1] H (fun v1 H2 => asI .i64 v1 (fun v3 => Post (Value.bool (decide ((v3 : Int) ≥ 0))) H2))
def F65.B1.e (Post : Value → AHeap → Prop) : EP := fun env H => pif (Nat.beq (List.length env) 9) (F65.B1 Post (List.getD env 0 undef) (List.getD env 1 undef) H) False
theorem F65.q1 (u : Nat → Value) (Post : Value → AHeap → Prop) (x0 : Value) (x1 : Value) (H : AHeap) : aOps Try.prog T0 F65.o1 F65.o1 (mkEnv (upd (upd u 0 x0) 1 x1) 9 0) H (F65.ret Post) = F65.B1 Post x0 x1 H := by kernel_rfl
theorem F65.r1 (Post : Value → AHeap → Prop) : ∀ env H, F65.B1.e Post env H → aOps Try.prog T0 F65.o1 F65.o1 env H (F65.ret Post) := by
  intro env H h
  obtain ⟨hl, h⟩ := lenE h
  exact use_ops hl (upd_step (upd_step rfl rfl) rfl) ((F65.q1 _ Post (List.getD env 0 undef) (List.getD env 1 undef) H).mpr h)
noncomputable def F65.o2 : List Oper := opsIn (codeAt (bodyOf Try.f65) [.l])
def F65.B2 (Post : Value → AHeap → Prop) (x0 : Value) (x1 : Value) (H : AHeap) : Prop :=
  F65.B1 Post x0 x1 H
def F65.B2.e (Post : Value → AHeap → Prop) : EP := fun env H => pif (Nat.beq (List.length env) 9) (F65.B2 Post (List.getD env 0 undef) (List.getD env 1 undef) H) False
theorem F65.q2 (u : Nat → Value) (Post : Value → AHeap → Prop) (x0 : Value) (x1 : Value) (H : AHeap) : aOps Try.prog T0 F65.o2 F65.o2 (mkEnv (upd (upd u 0 x0) 1 x1) 9 0) H (F65.B1.e Post) = F65.B2 Post x0 x1 H := by kernel_rfl
theorem F65.r2 (Post : Value → AHeap → Prop) : ∀ env H, F65.B2.e Post env H → aOps Try.prog T0 F65.o2 F65.o2 env H (F65.B1.e Post) := by
  intro env H h
  obtain ⟨hl, h⟩ := lenE h
  exact use_ops hl (upd_step (upd_step rfl rfl) rfl) ((F65.q2 _ Post (List.getD env 0 undef) (List.getD env 1 undef) H).mpr h)
noncomputable def F65.code : Code := (.seq (.region 0 ⟨F65.o2⟩ false) (.seq (.region 1 ⟨F65.o1⟩ false) .ret))
theorem F65.body : Try.f65.body = some F65.code := by kernel_rfl
theorem F65.main (Post : Value → AHeap → Prop) : ∀ env H, F65.B2.e Post env H → AW Try.prog T0 F65.code env H (mkQ (F65.ret Post) (fun _ _ _ => False) (F65.ret Post)) :=
  (r_seq (r_region T0_ok (F65.r2 Post)) (r_seq (r_region T0_ok (F65.r1 Post)) r_ret))
theorem F65.ac (Post : Value → AHeap → Prop) (x0 : Value) (x1 : Value) (H : AHeap) (h : F65.B2 Post x0 x1 H) : AC Try.prog T0 65 [x0, x1] H Post :=
  r_fn T0_ok (c := F65.code) (n := 9) Try.func65 F65.body (by kernel_rfl) (F65.main Post) (lenM (by kernel_rfl) (h))

-- loop.example/g01329/impl.areAll[int64]$1
noncomputable def F66.ret (Post : Value → AHeap → Prop) : EP := retE T0 8 Try.f66 Post
noncomputable def F66.o1 : List Oper := opsIn (codeAt (bodyOf Try.f66) [.r, .l])
def F66.B1 (Post : Value → AHeap → Prop) (x0 : Int) (x1 : Value) (H : AHeap) : Prop :=
  asP x1 (fun b1 o2 => ld1 H b1 o2 (fun v3 => callV Try.prog T0 v3 [(Value.int .i64 x0)] H (fun v4 H5 => asB v4 (fun v6 => Post (Value.bool (!v6)) H5))))
def F66.B1.e (Post : Value → AHeap → Prop) : EP := fun env H => pif (Nat.beq (List.length env) 8) (asI .i64 (List.getD env 0 undef) (fun x0 => F66.B1 Post x0 (List.getD env 1 undef) H)) False
theorem F66.q1 (u : Nat → Value) (Post : Value → AHeap → Prop) (x0 : Int) (x1 : Value) (H : AHeap) : aOps Try.prog T0 F66.o1 F66.o1 (mkEnv (upd (upd u 0 (Value.int .i64 x0)) 1 x1) 8 0) H (F66.ret Post) = F66.B1 Post x0 x1 H := by kernel_rfl
theorem F66.r1 (Post : Value → AHeap → Prop) : ∀ env H, F66.B1.e Post env H → aOps Try.prog T0 F66.o1 F66.o1 env H (F66.ret Post) := by
  intro env H h
  obtain ⟨hl, h⟩ := lenE h
  obtain ⟨x0, e0, h⟩ := asI_elim h
  exact use_ops hl (upd_step (upd_step rfl e0) rfl) ((F66.q1 _ Post x0 (List.getD env 1 undef) H).mpr h)
noncomputable def F66.o2 : List Oper := opsIn (codeAt (bodyOf Try.f66) [.l])
def F66.B2 (Post : Value → AHeap → Prop) (x0 : Int) (x1 : Value) (H : AHeap) : Prop :=
  F66.B1 Post x0 x1 H
def F66.B2.e (Post : Value → AHeap → Prop) : EP := fun env H => pif (Nat.beq (List.length env) 8) (asI .i64 (List.getD env 0 undef) (fun x0 => F66.B2 Post x0 (List.getD env 1 undef) H)) False
theorem F66.q2 (u : Nat → Value) (Post : Value → AHeap → Prop) (x0 : Int) (x1 : Value) (H : AHeap) : aOps Try.prog T0 F66.o2 F66.o2 (mkEnv (upd (upd u 0 (Value.int .i64 x0)) 1 x1) 8 0) H (F66.B1.e Post) = F66.B2 Post x0 x1 H := by kernel_rfl
theorem F66.r2 (Post : Value → AHeap → Prop) : ∀ env H, F66.B2.e Post env H → aOps Try.prog T0 F66.o2 F66.o2 env H (F66.B1.e Post) := by
  intro env H h
  obtain ⟨hl, h⟩ := lenE h
  obtain ⟨x0, e0, h⟩ := asI_elim h
  exact use_ops hl (upd_step (upd_step rfl e0) rfl) ((F66.q2 _ Post x0 (List.getD env 1 undef) H).mpr h)
noncomputable def F66.code : Code := (.seq (.region 0 ⟨F66.o2⟩ false) (.seq (.region 1 ⟨F66.o1⟩ false) .ret))
theorem F66.body : Try.f66.body = some F66.code := by kernel_rfl
theorem F66.main (Post : Value → AHeap → Prop) : ∀ env H, F66.B2.e Post env H → AW Try.prog T0 F66.code env H (mkQ (F66.ret Post) (fun _ _ _ => False) (F66.ret Post)) :=
  (r_seq (r_region T0_ok (F66.r2 Post)) (r_seq (r_region T0_ok (F66.r1 Post)) r_ret))
theorem F66.ac (Post : Value → AHeap → Prop) (x0 : Int) (x1 : Value) (H : AHeap) (h : F66.B2 Post x0 x1 H) : AC Try.prog T0 66 [(Value.int .i64 x0), x1] H Post :=
  r_fn T0_ok (c := F66.code) (n := 8) Try.func66 F66.body (by kernel_rfl) (F66.main Post) (lenM (by kernel_rfl) (asI_mk' (by kernel_rfl) (h)))

-- slices.IndexFunc[[]loop.example/g01329/impl.Edge,loop.example/g01329/impl.Edge]
noncomputable def F67.ret (Post : Value → AHeap → Prop) : EP := retE T0 19 Try.f67 Post
noncomputable def F67.o1 : List Oper := opsIn (codeAt (bodyOf Try.f67) [.r, .r, .l])
def F67.B1 (Post : Value → AHeap → Prop) (H : AHeap) : Prop :=
  Post (Value.int .i64 (-1)) H
def F67.B1.e (Post : Value → AHeap → Prop) : EP := fun env H => pif (Nat.beq (List.length env) 19) (F67.B1 Post H) False
theorem F67.q1 (u : Nat → Value) (Post : Value → AHeap → Prop) (H : AHeap) : aOps Try.prog T0 F67.o1 F67.o1 (mkEnv u 19 0) H (F67.ret Post) = F67.B1 Post H := by kernel_rfl
theorem F67.r1 (Post : Value → AHeap → Prop) : ∀ env H, F67.B1.e Post env H → aOps Try.prog T0 F67.o1 F67.o1 env H (F67.ret Post) := by
  intro env H h
  obtain ⟨hl, h⟩ := lenE h
  exact use_ops hl rfl ((F67.q1 _ Post H).mpr h)
def F67.L2.ne (N : Value → Value → Int → Int → AHeap → Prop) : EP := fun env H => pif (Nat.beq (List.length env) 19) (asI .i64 (List.getD env 7 undef) (fun x7 => asI .i64 (List.getD env 8 undef) (fun x8 => N (List.getD env 0 undef) (List.getD env 1 undef) x7 x8 H))) False
noncomputable def F67.o3 : List Oper := opsIn (codeAt (bodyOf Try.f67) [.r, .l, .r, .l, .l, .r, .r, .r])
def F67.B3 (Post : Value → AHeap → Prop) (N2 : Value → Value → Int → Int → AHeap → Prop) (x0 : Value) (x1 : Value) (x7 : Int) (x8 : Int) (H : AHeap) : Prop :=
  N2 x0 x1 x7 (IntKind.i64.wrap (x8 + 1)) H
def F67.B3.e (Post : Value → AHeap → Prop) (N2 : Value → Value → Int → Int → AHeap → Prop) : EP := fun env H => pif (Nat.beq (List.length env) 19) (asI .i64 (List.getD env 7 undef) (fun x7 => asI .i64 (List.getD env 8 undef) (fun x8 => F67.B3 Post N2 (List.getD env 0 undef) (List.getD env 1 undef) x7 x8 H))) False
theorem F67.q3 (u : Nat → Value) (Post : Value → AHeap → Prop) (N2 : Value → Value → Int → Int → AHeap → Prop) (x0 : Value) (x1 : Value) (x7 : Int) (x8 : Int) (H : AHeap) : aOps Try.prog T0 F67.o3 F67.o3 (mkEnv (upd (upd (upd (upd u 0 x0) 1 x1) 7 (Value.int .i64 x7)) 8 (Value.int .i64 x8)) 19 0) H (F67.L2.ne N2) = F67.B3 Post N2 x0 x1 x7 x8 H := by kernel_rfl
theorem F67.r3 (Post : Value → AHeap → Prop) (N2 : Value → Value → Int → Int → AHeap → Prop) : ∀ env H, F67.B3.e Post N2 env H → aOps Try.prog T0 F67.o3 F67.o3 env H (F67.L2.ne N2) := by
  intro env H h
  obtain ⟨hl, h⟩ := lenE h
  obtain ⟨x7, e7, h⟩ := asI_elim h
  obtain ⟨x8, e8, h⟩ := asI_elim h
  exact use_ops hl (upd_step (upd_step (upd_step (upd_step rfl rfl) rfl) e7) e8) ((F67.q3 _ Post N2 (List.getD env 0 undef) (List.getD env 1 undef) x7 x8 H).mpr h)
noncomputable def F67.o4 : List Oper := opsIn (codeAt (bodyOf Try.f67) [.r, .l, .r, .l, .l, .r, .r, .l, .l, .r, .r, .l, .l])
def F67.B4 (Post : Value → AHeap → Prop) (N2 : Value → Value → Int → Int → AHeap → Prop) (x5 : Int) (H : AHeap) : Prop :=
  Post (Value.int .i64 x5) H
def F67.B4.e (Post : Value → AHeap → Prop) (N2 : Value → Value → Int → Int → AHeap → Prop) : EP := fun env H => pif (Nat.beq (List.length env) 19) (asI .i64 (List.getD env 5 undef) (fun x5 => F67.B4 Post N2 x5 H)) False
theorem F67.q4 (u : Nat → Value) (Post : Value → AHeap → Prop) (N2 : Value → Value → Int → Int → AHeap → Prop) (x5 : Int) (H : AHeap) : aOps Try.prog T0 F67.o4 F67.o4 (mkEnv (upd u 5 (Value.int .i64 x5)) 19 0) H (F67.ret Post) = F67.B4 Post N2 x5 H := by kernel_rfl
theorem F67.r4 (Post : Value → AHeap → Prop) (N2 : Value → Value → Int → Int → AHeap → Prop) : ∀ env H, F67.B4.e Post N2 env H → aOps Try.prog T0 F67.o4 F67.o4 env H (F67.ret Post) := by
  intro env H h
  obtain ⟨hl, h⟩ := lenE h
  obtain ⟨x5, e5, h⟩ := asI_elim h
  exact use_ops hl (upd_step rfl e5) ((F67.q4 _ Post N2 x5 H).mpr h)
noncomputable def F67.o5 : List Oper := opsIn (codeAt (bodyOf Try.f67) [.r, .l, .r, .l, .l, .r, .r, .l, .l, .r, .l])
def F67.B5 (Post : Value → AHeap → Prop) (N2 : Value → Value → Int → Int → AHeap → Prop) (x0 : Value) (x1 : Value) (x5 : Int) (x7 : Int) (x8 : Int) (H : AHeap) : Prop :=
  idxK x0 x5 2 (fun b1 o2 => ldI .i64 H b1 o2 (fun v3 => ldI .i64 H b1 (o2 + 1) (fun v4 => callV Try.prog T0 x1 [(Value.agg ⟨[(Value.int .i64 v3), (Value.int .i64 v4)]⟩)] H (fun v5 H6 => asB v5 (fun v7 => pif v7 (F67.B4 Post N2 x5 H6) (F67.B3 Post N2 x0 x1 x7 x8 H6))))))
def F67.B5.e (Post : Value → AHeap → Prop) (N2 : Value → Value → Int → Int → AHeap → Prop) : EP := fun env H => pif (Nat.beq (List.length env) 19) (asI .i64 (List.getD env 5 undef) (fun x5 => asI .i64 (List.getD env 7 undef) (fun x7 => asI .i64 (List.getD env 8 undef) (fun x8 => F67.B5 Post N2 (List.getD env 0 undef) (List.getD env 1 undef) x5 x7 x8 H)))) False
theorem F67.q5 (u : Nat → Value) (Post : Value → AHeap → Prop) (N2 : Value → Value → Int → Int → AHeap → Prop) (x0 : Value) (x1 : Value) (x5 : Int) (x7 : Int) (x8 : Int) (H : AHeap) : aOps Try.prog T0 F67.o5 F67.o5 (mkEnv (upd (upd (upd (upd (upd u 0 x0) 1 x1) 5 (Value.int .i64 x5)) 7 (Value.int .i64 x7)) 8 (Value.int .i64 x8)) 19 0) H (fun env H => asB (aev env (.tmp 16)) (fun b => pif b ((F67.B4.e Post N2) env H) ((F67.B3.e Post N2) env H))) = F67.B5 Post N2 x0 x1 x5 x7 x8 H := by kernel_rfl
theorem F67.r5 (Post : Value → AHeap → Prop) (N2 : Value → Value → Int → Int → AHeap → Prop) : ∀ env H, F67.B5.e Post N2 env H → aOps Try.prog T0 F67.o5 F67.o5 env H (fun env H => asB (aev env (.tmp 16)) (fun b => pif b ((F67.B4.e Post N2) env H) ((F67.B3.e Post N2) env H))) := by
  intro env H h
  obtain ⟨hl, h⟩ := lenE h
  obtain ⟨x5, e5, h⟩ := asI_elim h
  obtain ⟨x7, e7, h⟩ := asI_elim h
  obtain ⟨x8, e8, h⟩ := asI_elim h
  exact use_ops hl (upd_step (upd_step (upd_step (upd_step (upd_step rfl rfl) rfl) e5) e7) e8) ((F67.q5 _ Post N2 (List.getD env 0 undef) (List.getD env 1 undef) x5 x7 x8 H).mpr h)
noncomputable def F67.o6 : List Oper := opsIn (codeAt (bodyOf Try.f67) [.r, .l, .r, .l, .l, .r, .r, .l, .l, .l])
def F67.B6 (Post : Value → AHeap → Prop) (N2 : Value → Value → Int → Int → AHeap → Prop) (x0 : Value) (x1 : Value) (x7 : Int) (x8 : Int) (H : AHeap) : Prop :=
  F67.B5 Post N2 x0 x1 x8 x7 x8 H
def F67.B6.e (Post : Value → AHeap → Prop) (N2 : Value → Value → Int → Int → AHeap → Prop) : EP := fun env H => pif (Nat.beq (List.length env) 19) (asI .i64 (List.getD env 7 undef) (fun x7 => asI .i64 (List.getD env 8 undef) (fun x8 => F67.B6 Post N2 (List.getD env 0 undef) (List.getD env 1 undef) x7 x8 H))) False
theorem F67.q6 (u : Nat → Value) (Post : Value → AHeap → Prop) (N2 : Value → Value → Int → Int → AHeap → Prop) (x0 : Value) (x1 : Value) (x7 : Int) (x8 : Int) (H : AHeap) : aOps Try.prog T0 F67.o6 F67.o6 (mkEnv (upd (upd (upd (upd u 0 x0) 1 x1) 7 (Value.int .i64 x7)) 8 (Value.int .i64 x8)) 19 0) H (F67.B5.e Post N2) = F67.B6 Post N2 x0 x1 x7 x8 H := by kernel_rfl
theorem F67.r6 (Post : Value → AHeap → Prop) (N2 : Value → Value → Int → Int → AHeap → Prop) : ∀ env H, F67.B6.e Post N2 env H → aOps Try.prog T0 F67.o6 F67.o6 env H (F67.B5.e Post N2) := by
  intro env H h
  obtain ⟨hl, h⟩ := lenE h
  obtain ⟨x7, e7, h⟩ := asI_elim h
  obtain ⟨x8, e8, h⟩ := asI_elim h
  exact use_ops hl (upd_step (upd_step (upd_step (upd_step rfl rfl) rfl) e7) e8) ((F67.q6 _ Post N2 (List.getD env 0 undef) (List.getD env 1 undef) x7 x8 H).mpr h)
noncomputable def F67.o7 : List Oper := opsIn (codeAt (bodyOf Try.f67) [.r, .l, .r, .l, .l, .l])
def F67.B7 (Post : Value → AHeap → Prop) (N2 : Value → Value → Int → Int → AHeap → Prop) (x0 : Value) (x1 : Value) (x7 : Int) (x8 : Int) (H : AHeap) : Prop :=
  pif (decide ((x8 : Int) < x7)) (F67.B6 Post N2 x0 x1 x7 x8 H) (F67.B1 Post H)
def F67.B7.e (Post : Value → AHeap → Prop) (N2 : Value → Value → Int → Int → AHeap → Prop) : EP := fun env H => pif (Nat.beq (List.length env) 19) (asI .i64 (List.getD env 7 undef) (fun x7 => asI .i64 (List.getD env 8 undef) (fun x8 => F67.B7 Post N2 (List.getD env 0 undef) (List.getD env 1 undef) x7 x8 H))) False
theorem F67.q7 (u : Nat → Value) (Post : Value → AHeap → Prop) (N2 : Value → Value → Int → Int → AHeap → Prop) (x0 : Value) (x1 : Value) (x7 : Int) (x8 : Int) (H : AHeap) : aOps Try.prog T0 F67.o7 F67.o7 (mkEnv (upd (upd (upd (upd u 0 x0) 1 x1) 7 (Value.int .i64 x7)) 8 (Value.int .i64 x8)) 19 0) H (fun env H => asB (aev env (.tmp 9)) (fun b => pif b ((F67.B6.e Post N2) env H) ((F67.B1.e Post) env H))) = F67.B7 Post N2 x0 x1 x7 x8 H := by kernel_rfl
theorem F67.r7 (Post : Value → AHeap → Prop) (N2 : Value → Value → Int → Int → AHeap → Prop) : ∀ env H, F67.B7.e Post N2 env H → aOps Try.prog T0 F67.o7 F67.o7 env H (fun env H => asB (aev env (.tmp 9)) (fun b => pif b ((F67.B6.e Post N2) env H) ((F67.B1.e Post) env H))) := by
  intro env H h
  obtain ⟨hl, h⟩ := lenE h
  obtain ⟨x7, e7, h⟩ := asI_elim h
  obtain ⟨x8, e8, h⟩ := asI_elim h
  exact use_ops hl (upd_step (upd_step (upd_step (upd_step rfl rfl) rfl) e7) e8) ((F67.q7 _ Post N2 (List.getD env 0 undef) (List.getD env 1 undef) x7 x8 H).mpr h)
def F67.L2 (Post : Value → AHeap → Prop) (x0 : Value) (x1 : Value) (x7 : Int) (x8 : Int) (H : AHeap) : Prop :=
  ∃ (I : Value → Value → Int → Int → AHeap → Prop) (μ : Value → Value → Int → Int → AHeap → Nat), I x0 x1 x7 x8 H ∧ ∀ x0' x1' x7' x8' H', I x0' x1' x7' x8' H' → F67.B7 Post (fun x0'' x1'' x7'' x8'' H'' => I x0'' x1'' x7'' x8'' H'' ∧ μ x0'' x1'' x7'' x8'' H'' < μ x0' x1' x7' x8' H') x0' x1' x7' x8' H'
def F67.L2.e (Post : Value → AHeap → Prop) : EP := fun env H => pif (Nat.beq (List.length env) 19) (asI .i64 (List.getD env 7 undef) (fun x7 => asI .i64 (List.getD env 8 undef) (fun x8 => F67.L2 Post (List.getD env 0 undef) (List.getD env 1 undef) x7 x8 H))) False
theorem F67.l2 (Post : Value → AHeap → Prop) {c : Code} {K : EP} {X : Nat → EP}
    (hb : ∀ N2 : Value → Value → Int → Int → AHeap → Prop, ∀ env H, (F67.B7.e Post N2) env H → AW Try.prog T0 c env H (mkQ (F67.L2.ne N2) X (F67.ret Post))) :
    ∀ env H, F67.L2.e Post env H → AW Try.prog T0 (.loop c) env H (mkQ K X (F67.ret Post)) := by
  intro env H h
  obtain ⟨hl, h⟩ := lenE h
  obtain ⟨x7, e7, h⟩ := asI_elim h
  obtain ⟨x8, e8, h⟩ := asI_elim h
  obtain ⟨I, μ, h0, hI⟩ := h
  refine r_loop (fun n env H => pif (Nat.beq (List.length env) 19) (asI .i64 (List.getD env 7 undef) (fun x7 => asI .i64 (List.getD env 8 undef) (fun x8 => (I (List.getD env 0 undef) (List.getD env 1 undef) x7 x8 H) ∧ (μ (List.getD env 0 undef) (List.getD env 1 undef) x7 x8 H = n)))) False) ?_ env H ⟨μ (List.getD env 0 undef) (List.getD env 1 undef) x7 x8 H, lenM hl (asI_mk' e7 (asI_mk' e8 (⟨h0, rfl⟩)))⟩
  intro n env' H' h
  obtain ⟨hl', h⟩ := lenE h
  obtain ⟨x7', e7', h⟩ := asI_elim h
  obtain ⟨x8', e8', h⟩ := asI_elim h
  obtain ⟨hi, hm⟩ := h
  refine r_imp (hb (fun x0'' x1'' x7'' x8'' H'' => I x0'' x1'' x7'' x8'' H'' ∧ μ x0'' x1'' x7'' x8'' H'' < n)) ?_ env' H' ?_
  · intro env H h
    obtain ⟨hl'', h⟩ := lenE h
    obtain ⟨x7'', e7'', h⟩ := asI_elim h
    obtain ⟨x8'', e8'', h⟩ := asI_elim h
    obtain ⟨hi, hlt⟩ := h
    exact ⟨_, hlt, lenM hl'' (asI_mk' e7'' (asI_mk' e8'' (⟨hi, rfl⟩)))⟩
  · have h := hI (List.getD env' 0 undef) (List.getD env' 1 undef) x7' x8' H' hi
    rw [hm] at h
    exact lenM hl' (asI_mk' e7' (asI_mk' e8' (h)))
noncomputable def F67.o8 : List Oper := opsIn (codeAt (bodyOf Try.f67) [.r, .l, .l])
def F67.B8 (Post : Value → AHeap → Prop) (x0 : Value) (x1 : Value) (H : AHeap) : Prop :=
  lenK x0 (fun n1 => F67.L2 Post x0 x1 (n1 : Int) 0 H)
def F67.B8.e (Post : Value → AHeap → Prop) : EP := fun env H => pif (Nat.beq (List.length env) 19) (F67.B8 Post (List.getD env 0 undef) (List.getD env 1 undef) H) False
theorem F67.q8 (u : Nat → Value) (Post : Value → AHeap → Prop) (x0 : Value) (x1 : Value) (H : AHeap) : aOps Try.prog T0 F67.o8 F67.o8 (mkEnv (upd (upd u 0 x0) 1 x1) 19 0) H (F67.L2.e Post) = F67.B8 Post x0 x1 H := by kernel_rfl
theorem F67.r8 (Post : Value → AHeap → Prop) : ∀ env H, F67.B8.e Post env H → aOps Try.prog T0 F67.o8 F67.o8 env H (F67.L2.e Post) := by
  intro env H h
  obtain ⟨hl, h⟩ := lenE h
  exact use_ops hl (upd_step (upd_step rfl rfl) rfl) ((F67.q8 _ Post (List.getD env 0 undef) (List.getD env 1 undef) H).mpr h)
noncomputable def F67.o9 : List Oper := opsIn (codeAt (bodyOf Try.f67) [.l])
def F67.B9 (Post : Value → AHeap → Prop) (x0 : Value) (x1 : Value) (H : AHeap) : Prop :=
  F67.B8 Post x0 x1 H
def F67.B9.e (Post : Value → AHeap → Prop) : EP := fun env H => pif (Nat.beq (List.length env) 19) (F67.B9 Post (List.getD env 0 undef) (List.getD env 1 undef) H) False
theorem F67.q9 (u : Nat → Value) (Post : Value → AHeap → Prop) (x0 : Value) (x1 : Value) (H : AHeap) : aOps Try.prog T0 F67.o9 F67.o9 (mkEnv (upd (upd u 0 x0) 1 x1) 19 0) H (F67.B8.e Post) = F67.B9 Post x0 x1 H := by kernel_rfl
theorem F67.r9 (Post : Value → AHeap → Prop) : ∀ env H, F67.B9.e Post env H → aOps Try.prog T0 F67.o9 F67.o9 env H (F67.B8.e Post) := by
  intro env H h
  obtain ⟨hl, h⟩ := lenE h
  exact use_ops hl (upd_step (upd_step rfl rfl) rfl) ((F67.q9 _ Post (List.getD env 0 undef) (List.getD env 1 undef) H).mpr h)
noncomputable def F67.code : Code := (.seq (.region 0 ⟨F67.o9⟩ false) (.seq (.seq (.region 1 ⟨F67.o8⟩ false) (.block 0 (.loop (.seq (.region 2 ⟨F67.o7⟩ false) (.seq (.cond (.tmp 9) .skip (.exit 0)) (.seq (.block 1 (.seq (.region 3 ⟨F67.o6⟩ false) (.seq (.region 4 ⟨F67.o5⟩ false) (.cond (.tmp 16) (.seq (.region 5 ⟨F67.o4⟩ false) .ret) .skip)))) (.region 6 ⟨F67.o3⟩ false))))))) (.seq (.region 7 ⟨F67.o1⟩ false) .ret)))
theorem F67.body : Try.f67.body = some F67.code := by kernel_rfl
theorem F67.main (Post : Value → AHeap → Prop) : ∀ env H, F67.B9.e Post env H → AW Try.prog T0 F67.code env H (mkQ (F67.ret Post) (fun _ _ _ => False) (F67.ret Post)) :=
  (r_seq (r_region T0_ok (F67.r9 Post)) (r_seq (r_seq (r_region T0_ok (F67.r8 Post)) (r_block (F67.l2 Post (fun N2 => (r_seq (r_region T0_ok (F67.r7 Post N2)) (r_seq (r_cond rfl r_skip (r_exit (fun _ _ h => h))) (r_seq (r_block (r_seq (r_region T0_ok (F67.r6 Post N2)) (r_seq (r_region T0_ok (F67.r5 Post N2)) (r_cond rfl (r_seq (r_region T0_ok (F67.r4 Post N2)) r_ret) r_skip)))) (r_region T0_ok (F67.r3 Post N2))))))))) (r_seq (r_region T0_ok (F67.r1 Post)) r_ret)))
theorem F67.ac (Post : Value → AHeap → Prop) (x0 : Value) (x1 : Value) (H : AHeap) (h : F67.B9 Post x0 x1 H) : AC Try.prog T0 67 [x0, x1] H Post :=
  r_fn T0_ok (c := F67.code) (n := 19) Try.func67 F67.body (by kernel_rfl) (F67.main Post) (lenM (by kernel_rfl) (h))

-- cmp.Compare[int64]
noncomputable def F68.ret (Post : Value → AHeap → Prop) : EP := retE T0 20 Try.f68 Post
noncomputable def F68.o1 : List Oper := opsIn (codeAt (bodyOf Try.f68) [.r, .r, .r, .r, .r, .r, .r, .l])
def F68.B1 (Post : Value → AHeap → Prop) (H : AHeap) : Prop :=
  Post (Value.int .i64 0) H
def F68.B1.e (Post : Value → AHeap → Prop) : EP := fun env H => pif (Nat.beq (List.length env) 20) (F68.B1 Post H) False
theorem F68.q1 (u : Nat → Value) (Post : Value → AHeap → Prop) (H : AHeap) : aOps Try.prog T0 F68.o1 F68.o1 (mkEnv u 20 0) H (F68.ret Post) = F68.B1 Post H := by kernel_rfl
theorem F68.r1 (Post : Value → AHeap → Prop) : ∀ env H, F68.B1.e Post env H → aOps Try.prog T0 F68.o1 F68.o1 env H (F68.ret Post) := by
  intro env H h
  obtain ⟨hl, h⟩ := lenE h
  exact use_ops hl rfl ((F68.q1 _ Post H).mpr h)
noncomputable def F68.o2 : List Oper := opsIn (codeAt (bodyOf Try.f68) [.r, .r, .r, .r, .r, .r, .l, .r, .l, .l])
def F68.B2 (Post : Value → AHeap → Prop) (H : AHeap) : Prop :=
  Post (Value.int .i64 1) H
def F68.B2.e (Post : Value → AHeap → Prop) : EP := fun env H => pif (Nat.beq (List.length env) 20) (F68.B2 Post H) False
theorem F68.q2 (u : Nat → Value) (Post : Value → AHeap → Prop) (H : AHeap) : aOps Try.prog T0 F68.o2 F68.o2 (mkEnv u 20 0) H (F68.ret Post) = F68.B2 Post H := by kernel_rfl
theorem F68.r2 (Post : Value → AHeap → Prop) : ∀ env H, F68.B2.e Post env H → aOps Try.prog T0 F68.o2 F68.o2 env H (F68.ret Post) := by
  intro env H h
  obtain ⟨hl, h⟩ := lenE h
  exact use_ops hl rfl ((F68.q2 _ Post H).mpr h)
noncomputable def F68.o3 : List Oper := opsIn (codeAt (bodyOf Try.f68) [.r, .r, .r, .r, .r, .r, .l, .l])
def F68.B3 (Post : Value → AHeap → Prop) (x0 : Int) (x1 : Int) (H : AHeap) : Prop :=
  pif (decide ((x0 : Int) > x1)) (F68.B2 Post H) (F68.B1 Post H)
def F68.B3.e (Post : Value → AHeap → Prop) : EP := fun env H => pif (Nat.beq (List.length env) 20) (asI .i64 (List.getD env 0 undef) (fun x0 => asI .i64 (List.getD env 1 undef) (fun x1 => F68.B3 Post x0 x1 H))) False
theorem F68.q3 (u : Nat → Value) (Post : Value → AHeap → Prop) (x0 : Int) (x1 : Int) (H : AHeap) : aOps Try.prog T0 F68.o3 F68.o3 (mkEnv (upd (upd u 0 (Value.int .i64 x0)) 1 (Value.int .i64 x1)) 20 0) H (fun env H => asB (aev env (.tmp 19)) (fun b => pif b ((F68.B2.e Post) env H) ((F68.B1.e Post) env H))) = F68.B3 Post x0 x1 H := by kernel_rfl
theorem F68.r3 (Post : Value → AHeap → Prop) : ∀ env H, F68.B3.e Post env H → aOps Try.prog T0 F68.o3 F68.o3 env H (fun env H => asB (aev env (.tmp 19)) (fun b => pif b ((F68.B2.e Post) env H) ((F68.B1.e Post) env H))) := by
  intro env H h
  obtain ⟨hl, h⟩ := lenE h
  obtain ⟨x0, e0, h⟩ := asI_elim h
  obtain ⟨x1, e1, h⟩ := asI_elim h
  exact use_ops hl (upd_step (upd_step rfl e0) e1) ((F68.q3 _ Post x0 x1 H).mpr h)
noncomputable def F68.o4 : List Oper := opsIn (codeAt (bodyOf Try.f68) [.r, .r, .r, .r, .r, .l, .r, .l, .l])
def F68.B4 (Post : Value → AHeap → Prop) (H : AHeap) : Prop :=
  Post (Value.int .i64 (-1)) H
def F68.B4.e (Post : Value → AHeap → Prop) : EP := fun env H => pif (Nat.beq (List.length env) 20) (F68.B4 Post H) False
theorem F68.q4 (u : Nat → Value) (Post : Value → AHeap → Prop) (H : AHeap) : aOps Try.prog T0 F68.o4 F68.o4 (mkEnv u 20 0) H (F68.ret Post) = F68.B4 Post H := by kernel_rfl
theorem F68.r4 (Post : Value → AHeap → Prop) : ∀ env H, F68.B4.e Post env H → aOps Try.prog T0 F68.o4 F68.o4 env H (F68.ret Post) := by
  intro env H h
  obtain ⟨hl, h⟩ := lenE h
  exact use_ops hl rfl ((F68.q4 _ Post H).mpr h)
noncomputable def F68.o5 : List Oper := opsIn (codeAt (bodyOf Try.f68) [.r, .r, .r, .r, .r, .l, .l])
def F68.B5 (Post : Value → AHeap → Prop) (x0 : Int) (x1 : Int) (H : AHeap) : Prop :=
  pif (decide ((x0 : Int) < x1)) (F68.B4 Post H) (F68.B3 Post x0 x1 H)
def F68.B5.e (Post : Value → AHeap → Prop) : EP := fun env H => pif (Nat.beq (List.length env) 20) (asI .i64 (List.getD env 0 undef) (fun x0 => asI .i64 (List.getD env 1 undef) (fun x1 => F68.B5 Post x0 x1 H))) False
theorem F68.q5 (u : Nat → Value) (Post : Value → AHeap → Prop) (x0 : Int) (x1 : Int) (H : AHeap) : aOps Try.prog T0 F68.o5 F68.o5 (mkEnv (upd (upd u 0 (Value.int .i64 x0)) 1 (Value.int .i64 x1)) 20 0) H (fun env H => asB (aev env (.tmp 16)) (fun b => pif b ((F68.B4.e Post) env H) ((F68.B3.e Post) env H))) = F68.B5 Post x0 x1 H := by kernel_rfl
theorem F68.r5 (Post : Value → AHeap → Prop) : ∀ env H, F68.B5.e Post env H → aOps Try.prog T0 F68.o5 F68.o5 env H (fun env H => asB (aev env (.tmp 16)) (fun b => pif b ((F68.B4.e Post) env H) ((F68.B3.e Post) env H))) := by
  intro env H h
  obtain ⟨hl, h⟩ := lenE h
  obtain ⟨x0, e0, h⟩ := asI_elim h
  obtain ⟨x1, e1, h⟩ := asI_elim h
  exact use_ops hl (upd_step (upd_step rfl e0) e1) ((F68.q5 _ Post x0 x1 H).mpr h)
noncomputable def F68.o6 : List Oper := opsIn (codeAt (bodyOf Try.f68) [.r, .r, .r, .r, .l, .r, .l, .l])
def F68.B6 (Post : Value → AHeap → Prop) (H : AHeap) : Prop :=
  Post (Value.int .i64 1) H
def F68.B6.e (Post : Value → AHeap → Prop) : EP := fun env H => pif (Nat.beq (List.length env) 20) (F68.B6 Post H) False
theorem F68.q6 (u : Nat → Value) (Post : Value → AHeap → Prop) (H : AHeap) : aOps Try.prog T0 F68.o6 F68.o6 (mkEnv u 20 0) H (F68.ret Post) = F68.B6 Post H := by kernel_rfl
theorem F68.r6 (Post : Value → AHeap → Prop) : ∀ env H, F68.B6.e Post env H → aOps Try.prog T0 F68.o6 F68.o6 env H (F68.ret Post) := by
  intro env H h
  obtain ⟨hl, h⟩ := lenE h
  exact use_ops hl rfl ((F68.q6 _ Post H).mpr h)
noncomputable def F68.o7 : List Oper := opsIn (codeAt (bodyOf Try.f68) [.r, .r, .r, .r, .l, .l])
def F68.B7 (Post : Value → AHeap → Prop) (x0 : Int) (x1 : Int) (x6 : Bool) (H : AHeap) : Prop :=
  pif x6 (F68.B6 Post H) (F68.B5 Post x0 x1 H)
def F68.B7.e (Post : Value → AHeap → Prop) : EP := fun env H => pif (Nat.beq (List.length env) 20) (asI .i64 (List.getD env 0 undef) (fun x0 => asI .i64 (List.getD env 1 undef) (fun x1 => asB (List.getD env 6 undef) (fun x6 => F68.B7 Post x0 x1 x6 H)))) False
theorem F68.q7 (u : Nat → Value) (Post : Value → AHeap → Prop) (x0 : Int) (x1 : Int) (x6 : Bool) (H : AHeap) : aOps Try.prog T0 F68.o7 F68.o7 (mkEnv (upd (upd (upd u 0 (Value.int .i64 x0)) 1 (Value.int .i64 x1)) 6 (Value.bool x6)) 20 0) H (fun env H => asB (aev env (.tmp 13)) (fun b => pif b ((F68.B6.e Post) env H) ((F68.B5.e Post) env H))) = F68.B7 Post x0 x1 x6 H := by kernel_rfl
theorem F68.r7 (Post : Value → AHeap → Prop) : ∀ env H, F68.B7.e Post env H → aOps Try.prog T0 F68.o7 F68.o7 env H (fun env H => asB (aev env (.tmp 13)) (fun b => pif b ((F68.B6.e Post) env H) ((F68.B5.e Post) env H))) := by
  intro env H h
  obtain ⟨hl, h⟩ := lenE h
  obtain ⟨x0, e0, h⟩ := asI_elim h
  obtain ⟨x1, e1, h⟩ := asI_elim h
  obtain ⟨x6, e6, h⟩ := asB_elim h
  exact use_ops hl (upd_step (upd_step (upd_step rfl e0) e1) e6) ((F68.q7 _ Post x0 x1 x6 H).mpr h)
noncomputable def F68.o8 : List Oper := opsIn (codeAt (bodyOf Try.f68) [.r, .r, .r, .l, .r, .l, .r, .l])
def F68.B8 (Post : Value → AHeap → Prop) (H : AHeap) : Prop :=
  Post (Value.int .i64 (-1)) H
def F68.B8.e (Post : Value → AHeap → Prop) : EP := fun env H => pif (Nat.beq (List.length env) 20) (F68.B8 Post H) False
theorem F68.q8 (u : Nat → Value) (Post : Value → AHeap → Prop) (H : AHeap) : aOps Try.prog T0 F68.o8 F68.o8 (mkEnv u 20 0) H (F68.ret Post) = F68.B8 Post H := by kernel_rfl
theorem F68.r8 (Post : Value → AHeap → Prop) : ∀ env H, F68.B8.e Post env H → aOps Try.prog T0 F68.o8 F68.o8 env H (F68.ret Post) := by
  intro env H h
  obtain ⟨hl, h⟩ := lenE h
  exact use_ops hl rfl ((F68.q8 _ Post H).mpr h)
noncomputable def F68.o9 : List Oper := opsIn (codeAt (bodyOf Try.f68) [.r, .r, .r, .l, .r, .l, .l, .r, .l, .l])
def F68.B9 (Post : Value → AHeap → Prop) (H : AHeap) : Prop :=
  Post (Value.int .i64 0) H
def F68.B9.e (Post : Value → AHeap → Prop) : EP := fun env H => pif (Nat.beq (List.length env) 20) (F68.B9 Post H) False
theorem F68.q9 (u : Nat → Value) (Post : Value → AHeap → Prop) (H : AHeap) : aOps Try.prog T0 F68.o9 F68.o9 (mkEnv u 20 0) H (F68.ret Post) = F68.B9 Post H := by kernel_rfl
theorem F68.r9 (Post : Value → AHeap → Prop) : ∀ env H, F68.B9.e Post env H → aOps Try.prog T0 F68.o9 F68.o9 env H (F68.ret Post) := by
  intro env H h
  obtain ⟨hl, h⟩ := lenE h
  exact use_ops hl rfl ((F68.q9 _ Post H).mpr h)
noncomputable def F68.o10 : List Oper := opsIn (codeAt (bodyOf Try.f68) [.r, .r, .r, .l, .r, .l, .l, .l])
def F68.B10 (Post : Value → AHeap → Prop) (x6 : Bool) (H : AHeap) : Prop :=
  pif x6 (F68.B9 Post H) (F68.B8 Post H)
def F68.B10.e (Post : Value → AHeap → Prop) : EP := fun env H => pif (Nat.beq (List.length env) 20) (asB (List.getD env 6 undef) (fun x6 => F68.B10 Post x6 H)) False
theorem F68.q10 (u : Nat → Value) (Post : Value → AHeap → Prop) (x6 : Bool) (H : AHeap) : aOps Try.prog T0 F68.o10 F68.o10 (mkEnv (upd u 6 (Value.bool x6)) 20 0) H (fun env H => asB (aev env (.tmp 12)) (fun b => pif b ((F68.B9.e Post) env H) ((F68.B8.e Post) env H))) = F68.B10 Post x6 H := by kernel_rfl
theorem F68.r10 (Post : Value → AHeap → Prop) : ∀ env H, F68.B10.e Post env H → aOps Try.prog T0 F68.o10 F68.o10 env H (fun env H => asB (aev env (.tmp 12)) (fun b => pif b ((F68.B9.e Post) env H) ((F68.B8.e Post) env H))) := by
  intro env H h
  obtain ⟨hl, h⟩ := lenE h
  obtain ⟨x6, e6, h⟩ := asB_elim h
  exact use_ops hl (upd_step rfl e6) ((F68.q10 _ Post x6 H).mpr h)
noncomputable def F68.o11 : List Oper := opsIn (codeAt (bodyOf Try.f68) [.r, .r, .r, .l, .l])
def F68.B11 (Post : Value → AHeap → Prop) (x0 : Int) (x1 : Int) (x5 : Bool) (x6 : Bool) (H : AHeap) : Prop :=
  pif x5 (F68.B10 Post x6 H) (F68.B7 Post x0 x1 x6 H)
def F68.B11.e (Post : Value → AHeap → Prop) : EP := fun env H => pif (Nat.beq (List.length env) 20) (asI .i64 (List.getD env 0 undef) (fun x0 => asI .i64 (List.getD env 1 undef) (fun x1 => asB (List.getD env 5 undef) (fun x5 => asB (List.getD env 6 undef) (fun x6 => F68.B11 Post x0 x1 x5 x6 H))))) False
theorem F68.q11 (u : Nat → Value) (Post : Value → AHeap → Prop) (x0 : Int) (x1 : Int) (x5 : Bool) (x6 : Bool) (H : AHeap) : aOps Try.prog T0 F68.o11 F68.o11 (mkEnv (upd (upd (upd (upd u 0 (Value.int .i64 x0)) 1 (Value.int .i64 x1)) 5 (Value.bool x5)) 6 (Value.bool x6)) 20 0) H (fun env H => asB (aev env (.tmp 11)) (fun b => pif b ((F68.B10.e Post) env H) ((F68.B7.e Post) env H))) = F68.B11 Post x0 x1 x5 x6 H := by kernel_rfl
theorem F68.r11 (Post : Value → AHeap → Prop) : ∀ env H, F68.B11.e Post env H → aOps Try.prog T0 F68.o11 F68.o11 env H (fun env H => asB (aev env (.tmp 11)) (fun b => pif b ((F68.B10.e Post) env H) ((F68.B7.e Post) env H))) := by
  intro env H h
  obtain ⟨hl, h⟩ := lenE h
  obtain ⟨x0, e0, h⟩ := asI_elim h
  obtain ⟨x1, e1, h⟩ := asI_elim h
  obtain ⟨x5, e5, h⟩ := asB_elim h
  obtain ⟨x6, e6, h⟩ := asB_elim h
  exact use_ops hl (upd_step (upd_step (upd_step (upd_step rfl e0) e1) e5) e6) ((F68.q11 _ Post x0 x1 x5 x6 H).mpr h)
noncomputable def F68.o12 : List Oper := opsIn (codeAt (bodyOf Try.f68) [.r, .r, .l])
def F68.B12 (Post : Value → AHeap → Prop) (x0 : Int) (x1 : Int) (x5 : Bool) (H : AHeap) : Prop :=
  AC Try.prog T0 72 [(Value.int .i64 x1)] H (fun v1 H2 => asB v1 (fun v3 => F68.B11 Post x0 x1 x5 v3 H2))
def F68.B12.e (Post : Value → AHeap → Prop) : EP := fun env H => pif (Nat.beq (List.length env) 20) (asI .i64 (List.getD env 0 undef) (fun x0 => asI .i64 (List.getD env 1 undef) (fun x1 => asB (List.getD env 5 undef) (fun x5 => F68.B12 Post x0 x1 x5 H)))) False
theorem F68.q12 (u : Nat → Value) (Post : Value → AHeap → Prop) (x0 : Int) (x1 : Int) (x5 : Bool) (H : AHeap) : aOps Try.prog T0 F68.o12 F68.o12 (mkEnv (upd (upd (upd u 0 (Value.int .i64 x0)) 1 (Value.int .i64 x1)) 5 (Value.bool x5)) 20 0) H (F68.B11.e Post) = F68.B12 Post x0 x1 x5 H := by kernel_rfl
theorem F68.r12 (Post : Value → AHeap → Prop) : ∀ env H, F68.B12.e Post env H → aOps Try.prog T0 F68.o12 F68.o12 env H (F68.B11.e Post) := by
  intro env H h
  obtain ⟨hl, h⟩ := lenE h
  obtain ⟨x0, e0, h⟩ := asI_elim h
  obtain ⟨x1, e1, h⟩ := asI_elim h
  obtain ⟨x5, e5, h⟩ := asB_elim h
  exact use_ops hl (upd_step (upd_step (upd_step rfl e0) e1) e5) ((F68.q12 _ Post x0 x1 x5 H).mpr h)
noncomputable def F68.o13 : List Oper := opsIn (codeAt (bodyOf Try.f68) [.r, .l])
def F68.B13 (Post : Value → AHeap → Prop) (x0 : Int) (x1 : Int) (H : AHeap) : Prop :=
  AC Try.prog T0 72 [(Value.int .i64 x0)] H (fun v1 H2 => asB v1 (fun v3 => F68.B12 Post x0 x1 v3 H2))
def F68.B13.e (Post : Value → AHeap → Prop) : EP := fun env H => pif (Nat.beq (List.length env) 20) (asI .i64 (List.getD env 0 undef) (fun x0 => asI .i64 (List.getD env 1 undef) (fun x1 => F68.B13 Post x0 x1 H))) False
theorem F68.q13 (u : Nat → Value) (Post : Value → AHeap → Prop) (x0 : Int) (x1 : Int) (H : AHeap) : aOps Try.prog T0 F68.o13 F68.o13 (mkEnv (upd (upd u 0 (Value.int .i64 x0)) 1 (Value.int .i64 x1)) 20 0) H (F68.B12.e Post) = F68.B13 Post x0 x1 H := by kernel_rfl
theorem F68.r13 (Post : Value → AHeap → Prop) : ∀ env H, F68.B13.e Post env H → aOps Try.prog T0 F68.o13 F68.o13 env H (F68.B12.e Post) := by
  intro env H h
  obtain ⟨hl, h⟩ := lenE h
  obtain ⟨x0, e0, h⟩ := asI_elim h
  obtain ⟨x1, e1, h⟩ := asI_elim h
  exact use_ops hl (upd_step (upd_step rfl e0) e1) ((F68.q13 _ Post x0 x1 H).mpr h)
noncomputable def F68.o14 : List Oper := opsIn (codeAt (bodyOf Try.f68) [.l])
def F68.B14 (Post : Value → AHeap → Prop) (x0 : Int) (x1 : Int) (H : AHeap) : Prop :=
  F68.B13 Post x0 x1 H
def F68.B14.e (Post : Value → AHeap → Prop) : EP := fun env H => pif (Nat.beq (List.length env) 20) (asI .i64 (List.getD env 0 undef) (fun x0 => asI .i64 (List.getD env 1 undef) (fun x1 => F68.B14 Post x0 x1 H))) False
theorem F68.q14 (u : Nat → Value) (Post : Value → AHeap → Prop) (x0 : Int) (x1 : Int) (H : AHeap) : aOps Try.prog T0 F68.o14 F68.o14 (mkEnv (upd (upd u 0 (Value.int .i64 x0)) 1 (Value.int .i64 x1)) 20 0) H (F68.B13.e Post) = F68.B14 Post x0 x1 H := by kernel_rfl
theorem F68.r14 (Post : Value → AHeap → Prop) : ∀ env H, F68.B14.e Post env H → aOps Try.prog T0 F68.o14 F68.o14 env H (F68.B13.e Post) := by
  intro env H h
  obtain ⟨hl, h⟩ := lenE h
  obtain ⟨x0, e0, h⟩ := asI_elim h
  obtain ⟨x1, e1, h⟩ := asI_elim h
  exact use_ops hl (upd_step (upd_step rfl e0) e1) ((F68.q14 _ Post x0 x1 H).mpr h)
noncomputable def F68.code : Code := (.seq (.region 0 ⟨F68.o14⟩ false) (.seq (.region 1 ⟨F68.o13⟩ false) (.seq (.region 2 ⟨F68.o12⟩ false) (.seq (.seq (.region 3 ⟨F68.o11⟩ false) (.cond (.tmp 11) (.seq (.seq (.region 4 ⟨F68.o10⟩ false) (.cond (.tmp 12) (.seq (.region 5 ⟨F68.o9⟩ false) .ret) .skip)) (.seq (.region 6 ⟨F68.o8⟩ false) .ret)) .skip)) (.seq (.seq (.region 7 ⟨F68.o7⟩ false) (.cond (.tmp 13) (.seq (.region 8 ⟨F68.o6⟩ false) .ret) .skip)) (.seq (.seq (.region 9 ⟨F68.o5⟩ false) (.cond (.tmp 16) (.seq (.region 10 ⟨F68.o4⟩ false) .ret) .skip)) (.seq (.seq (.region 11 ⟨F68.o3⟩ false) (.cond (.tmp 19) (.seq (.region 12 ⟨F68.o2⟩ false) .ret) .skip)) (.seq (.region 13 ⟨F68.o1⟩ false) .ret))))))))
theorem F68.body : Try.f68.body = some F68.code := by kernel_rfl
theorem F68.main (Post : Value → AHeap → Prop) : ∀ env H, F68.B14.e Post env H → AW Try.prog T0 F68.code env H (mkQ (F68.ret Post) (fun _ _ _ => False) (F68.ret Post)) :=
  (r_seq (r_region T0_ok (F68.r14 Post)) (r_seq (r_region T0_ok (F68.r13 Post)) (r_seq (r_region T0_ok (F68.r12 Post)) (r_seq (r_seq (r_region T0_ok (F68.r11 Post)) (r_cond rfl (r_seq (r_seq (r_region T0_ok (F68.r10 Post)) (r_cond rfl (r_seq (r_region T0_ok (F68.r9 Post)) r_ret) r_skip)) (r_seq (r_region T0_ok (F68.r8 Post)) r_ret)) r_skip)) (r_seq (r_seq (r_region T0_ok (F68.r7 Post)) (r_cond rfl (r_seq (r_region T0_ok (F68.r6 Post)) r_ret) r_skip)) (r_seq (r_seq (r_region T0_ok (F68.r5 Post)) (r_cond rfl (r_seq (r_region T0_ok (F68.r4 Post)) r_ret) r_skip)) (r_seq (r_seq (r_region T0_ok (F68.r3 Post)) (r_cond rfl (r_seq (r_region T0_ok (F68.r2 Post)) r_ret) r_skip)) (r_seq (r_region T0_ok (F68.r1 Post)) r_ret))))))))
theorem F68.ac (Post : Value → AHeap → Prop) (x0 : Int) (x1 : Int) (H : AHeap) (h : F68.B14 Post x0 x1 H) : AC Try.prog T0 68 [(Value.int .i64 x0), (Value.int .i64 x1)] H Post :=
  r_fn T0_ok (c := F68.code) (n := 20) Try.func68 F68.body (by kernel_rfl) (F68.main Post) (lenM (by kernel_rfl) (asI_mk' (by kernel_rfl) (asI_mk' (by kernel_rfl) (h))))

-- slices.ContainsFunc[[]int,int]
noncomputable def F69.ret (Post : Value → AHeap → Prop) : EP := retE T0 9 Try.f69 Post
noncomputable def F69.o1 : List Oper := opsIn (codeAt (bodyOf Try.f69) [.r, .l])
def F69.B1 (Post : Value → AHeap → Prop) (x0 : Value) (x1 : Value) (H : AHeap) : Prop :=
  AC Try.prog T0 73 [x0, x1] H (fun v1 H2 => asI .i64 v1 (fun v3 => Post (Value.bool (decide ((v3 : Int) ≥ 0))) H2))
def F69.B1.e (Post : Value → AHeap → Prop) : EP := fun env H => pif (Nat.beq (List.length env) 9) (F69.B1 Post (List.getD env 0 undef) (List.getD env 1 undef) H) False
theorem F69.q1 (u : Nat → Value) (Post : Value → AHeap → Prop) (x0 : Value) (x1 : Value) (H : AHeap) : aOps Try.prog T0 F69.o1 F69.o1 (mkEnv (upd (upd u 0 x0) 1 x1) 9 0) H (F69.ret Post) = F69.B1 Post x0 x1 H := by kernel_rfl
theorem F69.r1 (Post : Value → AHeap → Prop) : ∀ env H, F69.B1.e Post env H → aOps Try.prog T0 F69.o1 F69.o1 env H (F69.ret Post) := by
  intro env H h
  obtain ⟨hl, h⟩ := lenE h
  exact use_ops hl (upd_step (upd_step rfl rfl) rfl) ((F69.q1 _ Post (List.getD env 0 undef) (List.getD env 1 undef) H).mpr h)
noncomputable def F69.o2 : List Oper := opsIn (codeAt (bodyOf Try.f69) [.l])
def F69.B2 (Post : Value → AHeap → Prop) (x0 : Value) (x1 : Value) (H : AHeap) : Prop :=
  F69.B1 Post x0 x1 H
def F69.B2.e (Post : Value → AHeap → Prop) : EP := fun env H => pif (Nat.beq (List.length env) 9) (F69.B2 Post (List.getD env 0 undef) (List.getD env 1 undef) H) False
theorem F69.q2 (u : Nat → Value) (Post : Value → AHeap → Prop) (x0 : Value) (x1 : Value) (H : AHeap) : aOps Try.prog T0 F69.o2 F69.o2 (mkEnv (upd (upd u 0 x0) 1 x1) 9 0) H (F69.B1.e Post) = F69.B2 Post x0 x1 H := by kernel_rfl
theorem F69.r2 (Post : Value → AHeap → Prop) : ∀ env H, F69.B2.e Post env H → aOps Try.prog T0 F69.o2 F69.o2 env H (F69.B1.e Post) := by
  intro env H h
  obtain ⟨hl, h⟩ := lenE h
  exact use_ops hl (upd_step (upd_step rfl rfl) rfl) ((F69.q2 _ Post (List.getD env 0 undef) (List.getD env 1 undef) H).mpr h)
noncomputable def F69.code : Code := (.seq (.region 0 ⟨F69.o2⟩ false) (.seq (.region 1 ⟨F69.o1⟩ false) .ret))
theorem F69.body : Try.f69.body = some F69.code := by kernel_rfl
theorem F69.main (Post : Value → AHeap → Prop) : ∀ env H, F69.B2.e Post env H → AW Try.prog T0 F69.code env H (mkQ (F69.ret Post) (fun _ _ _ => False) (F69.ret Post)) :=
  (r_seq (r_region T0_ok (F69.r2 Post)) (r_seq (r_region T0_ok (F69.r1 Post)) r_ret))
theorem F69.ac (Post : Value → AHeap → Prop) (x0 : Value) (x1 : Value) (H : AHeap) (h : F69.B2 Post x0 x1 H) : AC Try.prog T0 69 [x0, x1] H Post :=
  r_fn T0_ok (c := F69.code) (n := 9) Try.func69 F69.body (by kernel_rfl) (F69.main Post) (lenM (by kernel_rfl) (h))

-- loop.example/g01329/impl.areAll[int]$1
noncomputable def F70.ret (Post : Value → AHeap → Prop) : EP := retE T0 8 Try.f70 Post
noncomputable def F70.o1 : List Oper := opsIn (codeAt (bodyOf Try.f70) [.r, .l])
def F70.B1 (Post : Value → AHeap → Prop) (x0 : Int) (x1 : Value) (H : AHeap) : Prop :=
  asP x1 (fun b1 o2 => ld1 H b1 o2 (fun v3 => callV Try.prog T0 v3 [(Value.int .i64 x0)] H (fun v4 H5 => asB v4 (fun v6 => Post (Value.bool (!v6)) H5))))
def F70.B1.e (Post : Value → AHeap → Prop) : EP := fun env H => pif (Nat.beq (List.length env) 8) (asI .i64 (List.getD env 0 undef) (fun x0 => F70.B1 Post x0 (List.getD env 1 undef) H)) False
theorem F70.q1 (u : Nat → Value) (Post : Value → AHeap → Prop) (x0 : Int) (x1 : Value) (H : AHeap) : aOps Try.prog T0 F70.o1 F70.o1 (mkEnv (upd (upd u 0 (Value.int .i64 x0)) 1 x1) 8 0) H (F70.ret Post) = F70.B1 Post x0 x1 H := by kernel_rfl
theorem F70.r1 (Post : Value → AHeap → Prop) : ∀ env H, F70.B1.e Post env H → aOps Try.prog T0 F70.o1 F70.o1 env H (F70.ret Post) := by
  intro env H h
  obtain ⟨hl, h⟩ := lenE h
  obtain ⟨x0, e0, h⟩ := asI_elim h
  exact use_ops hl (upd_step (upd_step rfl e0) rfl) ((F70.q1 _ Post x0 (List.getD env 1 undef) H).mpr h)
noncomputable def F70.o2 : List Oper := opsIn (codeAt (bodyOf Try.f70) [.l])
def F70.B2 (Post : Value → AHeap → Prop) (x0 : Int) (x1 : Value) (H : AHeap) : Prop :=
  F70.B1 Post x0 x1 H
def F70.B2.e (Post : Value → AHeap → Prop) : EP := fun env H => pif (Nat.beq (List.length env) 8) (asI .i64 (List.getD env 0 undef) (fun x0 => F70.B2 Post x0 (List.getD env 1 undef) H)) False
theorem F70.q2 (u : Nat → Value) (Post : Value → AHeap → Prop) (x0 : Int) (x1 : Value) (H : AHeap) : aOps Try.prog T0 F70.o2 F70.o2 (mkEnv (upd (upd u 0 (Value.int .i64 x0)) 1 x1) 8 0) H (F70.B1.e Post) = F70.B2 Post x0 x1 H := by kernel_rfl
theorem F70.r2 (Post : Value → AHeap → Prop) : ∀ env H, F70.B2.e Post env H → aOps Try.prog T0 F70.o2 F70.o2 env H (F70.B1.e Post) := by
  intro env H h
  obtain ⟨hl, h⟩ := lenE h
  obtain ⟨x0, e0, h⟩ := asI_elim h
  exact use_ops hl (upd_step (upd_step rfl e0) rfl) ((F70.q2 _ Post x0 (List.getD env 1 undef) H).mpr h)
noncomputable def F70.code : Code := (.seq (.region 0 ⟨F70.o2⟩ false) (.seq (.region 1 ⟨F70.o1⟩ false) .ret))
theorem F70.body : Try.f70.body = some F70.code := by kernel_rfl
theorem F70.main (Post : Value → AHeap → Prop) : ∀ env H, F70.B2.e Post env H → AW Try.prog T0 F70.code env H (mkQ (F70.ret Post) (fun _ _ _ => False) (F70.ret Post)) :=
  (r_seq (r_region T0_ok (F70.r2 Post)) (r_seq (r_region T0_ok (F70.r1 Post)) r_ret))
theorem F70.ac (Post : Value → AHeap → Prop) (x0 : Int) (x1 : Value) (H : AHeap) (h : F70.B2 Post x0 x1 H) : AC Try.prog T0 70 [(Value.int .i64 x0), x1] H Post :=
  r_fn T0_ok (c := F70.code) (n := 8) Try.func70 F70.body (by kernel_rfl) (F70.main Post) (lenM (by kernel_rfl) (asI_mk' (by kernel_rfl) (h)))

-- slices.IndexFunc[[]int64,int64]
noncomputable def F71.ret (Post : Value → AHeap → Prop) : EP := retE T0 19 Try.f71 Post
noncomputable def F71.o1 : List Oper := opsIn (codeAt (bodyOf Try.f71) [.r, .r, .l])
def F71.B1 (Post : Value → AHeap → Prop) (H : AHeap) : Prop :=
  Post (Value.int .i64 (-1)) H
def F71.B1.e (Post : Value → AHeap → Prop) : EP := fun env H => pif (Nat.beq (List.length env) 19) (F71.B1 Post H) False
theorem F71.q1 (u : Nat → Value) (Post : Value → AHeap → Prop) (H : AHeap) : aOps Try.prog T0 F71.o1 F71.o1 (mkEnv u 19 0) H (F71.ret Post) = F71.B1 Post H := by kernel_rfl
theorem F71.r1 (Post : Value → AHeap → Prop) : ∀ env H, F71.B1.e Post env H → aOps Try.prog T0 F71.o1 F71.o1 env H (F71.ret Post) := by
  intro env H h
  obtain ⟨hl, h⟩ := lenE h
  exact use_ops hl rfl ((F71.q1 _ Post H).mpr h)
def F71.L2.ne (N : Value → Value → Int → Int → AHeap → Prop) : EP := fun env H => pif (Nat.beq (List.length env) 19) (asI .i64 (List.getD env 7 undef) (fun x7 => asI .i64 (List.getD env 8 undef) (fun x8 => N (List.getD env 0 undef) (List.getD env 1 undef) x7 x8 H))) False
noncomputable def F71.o3 : List Oper := opsIn (codeAt (bodyOf Try.f71) [.r, .l, .r, .l, .l, .r, .r, .r])
def F71.B3 (Post : Value → AHeap → Prop) (N2 : Value → Value → Int → Int → AHeap → Prop) (x0 : Value) (x1 : Value) (x7 : Int) (x8 : Int) (H : AHeap) : Prop :=
  N2 x0 x1 x7 (IntKind.i64.wrap (x8 + 1)) H
def F71.B3.e (Post : Value → AHeap → Prop) (N2 : Value → Value → Int → Int → AHeap → Prop) : EP := fun env H => pif (Nat.beq (List.length env) 19) (asI .i64 (List.getD env 7 undef) (fun x7 => asI .i64 (List.getD env 8 undef) (fun x8 => F71.B3 Post N2 (List.getD env 0 undef) (List.getD env 1 undef) x7 x8 H))) False
theorem F71.q3 (u : Nat → Value) (Post : Value → AHeap → Prop) (N2 : Value → Value → Int → Int → AHeap → Prop) (x0 : Value) (x1 : Value) (x7 : Int) (x8 : Int) (H : AHeap) : aOps Try.prog T0 F71.o3 F71.o3 (mkEnv (upd (upd (upd (upd u 0 x0) 1 x1) 7 (Value.int .i64 x7)) 8 (Value.int .i64 x8)) 19 0) H (F71.L2.ne N2) = F71.B3 Post N2 x0 x1 x7 x8 H := by kernel_rfl
theorem F71.r3 (Post : Value → AHeap → Prop) (N2 : Value → Value → Int → Int → AHeap → Prop) : ∀ env H, F71.B3.e Post N2 env H → aOps Try.prog T0 F71.o3 F71.o3 env H (F71.L2.ne N2) := by
  intro env H h
  obtain ⟨hl, h⟩ := lenE h
  obtain ⟨x7, e7, h⟩ := asI_elim h
  obtain ⟨x8, e8, h⟩ := asI_elim h
  exact use_ops hl (upd_step (upd_step (upd_step (upd_step rfl rfl) rfl) e7) e8) ((F71.q3 _ Post N2 (List.getD env 0 undef) (List.getD env 1 undef) x7 x8 H).mpr h)
noncomputable def F71.o4 : List Oper := opsIn (codeAt (bodyOf Try.f71) [.r, .l, .r, .l, .l, .r, .r, .l, .l, .r, .r, .l, .l])
def F71.B4 (Post : Value → AHeap → Prop) (N2 : Value → Value → Int → Int → AHeap → Prop) (x5 : Int) (H : AHeap) : Prop :=
  Post (Value.int .i64 x5) H
def F71.B4.e (Post : Value → AHeap → Prop) (N2 : Value → Value → Int → Int → AHeap → Prop) : EP := fun env H => pif (Nat.beq (List.length env) 19) (asI .i64 (List.getD env 5 undef) (fun x5 => F71.B4 Post N2 x5 H)) False
theorem F71.q4 (u : Nat → Value) (Post : Value → AHeap → Prop) (N2 : Value → Value → Int → Int → AHeap → Prop) (x5 : Int) (H : AHeap) : aOps Try.prog T0 F71.o4 F71.o4 (mkEnv (upd u 5 (Value.int .i64 x5)) 19 0) H (F71.ret Post) = F71.B4 Post N2 x5 H := by kernel_rfl
theorem F71.r4 (Post : Value → AHeap → Prop) (N2 : Value → Value → Int → Int → AHeap → Prop) : ∀ env H, F71.B4.e Post N2 env H → aOps Try.prog T0 F71.o4 F71.o4 env H (F71.ret Post) := by
  intro env H h
  obtain ⟨hl, h⟩ := lenE h
  obtain ⟨x5, e5, h⟩ := asI_elim h
  exact use_ops hl (upd_step rfl e5) ((F71.q4 _ Post N2 x5 H).mpr h)
noncomputable def F71.o5 : List Oper := opsIn (codeAt (bodyOf Try.f71) [.r, .l, .r, .l, .l, .r, .r, .l, .l, .r, .l])
def F71.B5 (Post : Value → AHeap → Prop) (N2 : Value → Value → Int → Int → AHeap → Prop) (x0 : Value) (x1 : Value) (x5 : Int) (x7 : Int) (x8 : Int) (H : AHeap) : Prop :=
  idxK x0 x5 1 (fun b1 o2 => ldI .i64 H b1 o2 (fun v3 => callV Try.prog T0 x1 [(Value.int .i64 v3)] H (fun v4 H5 => asB v4 (fun v6 => pif v6 (F71.B4 Post N2 x5 H5) (F71.B3 Post N2 x0 x1 x7 x8 H5)))))
def F71.B5.e (Post : Value → AHeap → Prop) (N2 : Value → Value → Int → Int → AHeap → Prop) : EP := fun env H => pif (Nat.beq (List.length env) 19) (asI .i64 (List.getD env 5 undef) (fun x5 => asI .i64 (List.getD env 7 undef) (fun x7 => asI .i64 (List.getD env 8 undef) (fun x8 => F71.B5 Post N2 (List.getD env 0 undef) (List.getD env 1 undef) x5 x7 x8 H)))) False
theorem F71.q5 (u : Nat → Value) (Post : Value → AHeap → Prop) (N2 : Value → Value → Int → Int → AHeap → Prop) (x0 : Value) (x1 : Value) (x5 : Int) (x7 : Int) (x8 : Int) (H : AHeap) : aOps Try.prog T0 F71.o5 F71.o5 (mkEnv (upd (upd (upd (upd (upd u 0 x0) 1 x1) 5 (Value.int .i64 x5)) 7 (Value.int .i64 x7)) 8 (Value.int .i64 x8)) 19 0) H (fun env H => asB (aev env (.tmp 16)) (fun b => pif b ((F71.B4.e Post N2) env H) ((F71.B3.e Post N2) env H))) = F71.B5 Post N2 x0 x1 x5 x7 x8 H := by kernel_rfl
theorem F71.r5 (Post : Value → AHeap → Prop) (N2 : Value → Value → Int → Int → AHeap → Prop) : ∀ env H, F71.B5.e Post N2 env H → aOps Try.prog T0 F71.o5 F71.o5 env H (fun env H => asB (aev env (.tmp 16)) (fun b => pif b ((F71.B4.e Post N2) env H) ((F71.B3.e Post N2) env H))) := by
  intro env H h
  obtain ⟨hl, h⟩ := lenE h
  obtain ⟨x5, e5, h⟩ := asI_elim h
  obtain ⟨x7, e7, h⟩ := asI_elim h
  obtain ⟨x8, e8, h⟩ := asI_elim h
  exact use_ops hl (upd_step (upd_step (upd_step (upd_step (upd_step rfl rfl) rfl) e5) e7) e8) ((F71.q5 _ Post N2 (List.getD env 0 undef) (List.getD env 1 undef) x5 x7 x8 H).mpr h)
noncomputable def F71.o6 : List Oper := opsIn (codeAt (bodyOf Try.f71) [.r, .l, .r, .l, .l, .r, .r, .l, .l, .l])
def F71.B6 (Post : Value → AHeap → Prop) (N2 : Value → Value → Int → Int → AHeap → Prop) (x0 : Value) (x1 : Value) (x7 : Int) (x8 : Int) (H : AHeap) : Prop :=
  F71.B5 Post N2 x0 x1 x8 x7 x8 H
def F71.B6.e (Post : Value → AHeap → Prop) (N2 : Value → Value → Int → Int → AHeap → Prop) : EP := fun env H => pif (Nat.beq (List.length env) 19) (asI .i64 (List.getD env 7 undef) (fun x7 => asI .i64 (List.getD env 8 undef) (fun x8 => F71.B6 Post N2 (List.getD env 0 undef) (List.getD env 1 undef) x7 x8 H))) False
theorem F71.q6 (u : Nat → Value) (Post : Value → AHeap → Prop) (N2 : Value → Value → Int → Int → AHeap → Prop) (x0 : Value) (x1 : Value) (x7 : Int) (x8 : Int) (H : AHeap) : aOps Try.prog T0 F71.o6 F71.o6 (mkEnv (upd (upd (upd (upd u 0 x0) 1 x1) 7 (Value.int .i64 x7)) 8 (Value.int .i64 x8)) 19 0) H (F71.B5.e Post N2) = F71.B6 Post N2 x0 x1 x7 x8 H := by kernel_rfl
theorem F71.r6 (Post : Value → AHeap → Prop) (N2 : Value → Value → Int → Int → AHeap → Prop) : ∀ env H, F71.B6.e Post N2 env H → aOps Try.prog T0 F71.o6 F71.o6 env H (F71.B5.e Post N2) := by
  intro env H h
  obtain ⟨hl, h⟩ := lenE h
  obtain ⟨x7, e7, h⟩ := asI_elim h
  obtain ⟨x8, e8, h⟩ := asI_elim h
  exact use_ops hl (upd_step (upd_step (upd_step (upd_step rfl rfl) rfl) e7) e8) ((F71.q6 _ Post N2 (List.getD env 0 undef) (List.getD env 1 undef) x7 x8 H).mpr h)
noncomputable def F71.o7 : List Oper := opsIn (codeAt (bodyOf Try.f71) [.r, .l, .r, .l, .l, .l])
def F71.B7 (Post : Value → AHeap → Prop) (N2 : Value → Value → Int → Int → AHeap → Prop) (x0 : Value) (x1 : Value) (x7 : Int) (x8 : Int) (H : AHeap) : Prop :=
  pif (decide ((x8 : Int) < x7)) (F71.B6 Post N2 x0 x1 x7 x8 H) (F71.B1 Post H)
def F71.B7.e (Post : Value → AHeap → Prop) (N2 : Value → Value → Int → Int → AHeap → Prop) : EP := fun env H => pif (Nat.beq (List.length env) 19) (asI .i64 (List.getD env 7 undef) (fun x7 => asI .i64 (List.getD env 8 undef) (fun x8 => F71.B7 Post N2 (List.getD env 0 undef) (List.getD env 1 undef) x7 x8 H))) False
theorem F71.q7 (u : Nat → Value) (Post : Value → AHeap → Prop) (N2 : Value → Value → Int → Int → AHeap → Prop) (x0 : Value) (x1 : Value) (x7 : Int) (x8 : Int) (H : AHeap) : aOps Try.prog T0 F71.o7 F71.o7 (mkEnv (upd (upd (upd (upd u 0 x0) 1 x1) 7 (Value.int .i64 x7)) 8 (Value.int .i64 x8)) 19 0) H (fun env H => asB (aev env (.tmp 9)) (fun b => pif b ((F71.B6.e Post N2) env H) ((F71.B1.e Post) env H))) = F71.B7 Post N2 x0 x1 x7 x8 H := by kernel_rfl
theorem F71.r7 (Post : Value → AHeap → Prop) (N2 : Value → Value → Int → Int → AHeap → Prop) : ∀ env H, F71.B7.e Post N2 env H → aOps Try.prog T0 F71.o7 F71.o7 env H (fun env H => asB (aev env (.tmp 9)) (fun b => pif b ((F71.B6.e Post N2) env H) ((F71.B1.e Post) env H))) := by
  intro env H h
  obtain ⟨hl, h⟩ := lenE h
  obtain ⟨x7, e7, h⟩ := asI_elim h
  obtain ⟨x8, e8, h⟩ := asI_elim h
  exact use_ops hl (upd_step (upd_step (upd_step (upd_step rfl rfl) rfl) e7) e8) ((F71.q7 _ Post N2 (List.getD env 0 undef) (List.getD env 1 undef) x7 x8 H).mpr h)
def F71.L2 (Post : Value → AHeap → Prop) (x0 : Value) (x1 : Value) (x7 : Int) (x8 : Int) (H : AHeap) : Prop :=
  ∃ (I : Value → Value → Int → Int → AHeap → Prop) (μ : Value → Value → Int → Int → AHeap → Nat), I x0 x1 x7 x8 H ∧ ∀ x0' x1' x7' x8' H', I x0' x1' x7' x8' H' → F71.B7 Post (fun x0'' x1'' x7'' x8'' H'' => I x0'' x1'' x7'' x8'' H'' ∧ μ x0'' x1'' x7'' x8'' H'' < μ x0' x1' x7' x8' H') x0' x1' x7' x8' H'
def F71.L2.e (Post : Value → AHeap → Prop) : EP := fun env H => pif (Nat.beq (List.length env) 19) (asI .i64 (List.getD env 7 undef) (fun x7 => asI .i64 (List.getD env 8 undef) (fun x8 => F71.L2 Post (List.getD env 0 undef) (List.getD env 1 undef) x7 x8 H))) False
theorem F71.l2 (Post : Value → AHeap → Prop) {c : Code} {K : EP} {X : Nat → EP}
    (hb : ∀ N2 : Value → Value → Int → Int → AHeap → Prop, ∀ env H, (F71.B7.e Post N2) env H → AW Try.prog T0 c env H (mkQ (F71.L2.ne N2) X (F71.ret Post))) :
    ∀ env H, F71.L2.e Post env H → AW Try.prog T0 (.loop c) env H (mkQ K X (F71.ret Post)) := by
  intro env H h
  obtain ⟨hl, h⟩ := lenE h
  obtain ⟨x7, e7, h⟩ := asI_elim h
  obtain ⟨x8, e8, h⟩ := asI_elim h
  obtain ⟨I, μ, h0, hI⟩ := h
  refine r_loop (fun n env H => pif (Nat.beq (List.length env) 19) (asI .i64 (List.getD env 7 undef) (fun x7 => asI .i64 (List.getD env 8 undef) (fun x8 => (I (List.getD env 0 undef) (List.getD env 1 undef) x7 x8 H) ∧ (μ (List.getD env 0 undef) (List.getD env 1 undef) x7 x8 H = n)))) False) ?_ env H ⟨μ (List.getD env 0 undef) (List.getD env 1 undef) x7 x8 H, lenM hl (asI_mk' e7 (asI_mk' e8 (⟨h0, rfl⟩)))⟩
  intro n env' H' h
  obtain ⟨hl', h⟩ := lenE h
  obtain ⟨x7', e7', h⟩ := asI_elim h
  obtain ⟨x8', e8', h⟩ := asI_elim h
  obtain ⟨hi, hm⟩ := h
  refine r_imp (hb (fun x0'' x1'' x7'' x8'' H'' => I x0'' x1'' x7'' x8'' H'' ∧ μ x0'' x1'' x7'' x8'' H'' < n)) ?_ env' H' ?_
  · intro env H h
    obtain ⟨hl'', h⟩ := lenE h
    obtain ⟨x7'', e7'', h⟩ := asI_elim h
    obtain ⟨x8'', e8'', h⟩ := asI_elim h
    obtain ⟨hi, hlt⟩ := h
    exact ⟨_, hlt, lenM hl'' (asI_mk' e7'' (asI_mk' e8'' (⟨hi, rfl⟩)))⟩
  · have h := hI (List.getD env' 0 undef) (List.getD env' 1 undef) x7' x8' H' hi
    rw [hm] at h
    exact lenM hl' (asI_mk' e7' (asI_mk' e8' (h)))
noncomputable def F71.o8 : List Oper := opsIn (codeAt (bodyOf Try.f71) [.r, .l, .l])
def F71.B8 (Post : Value → AHeap → Prop) (x0 : Value) (x1 : Value) (H : AHeap) : Prop :=
  lenK x0 (fun n1 => F71.L2 Post x0 x1 (n1 : Int) 0 H)
def F71.B8.e (Post : Value → AHeap → Prop) : EP := fun env H => pif (Nat.beq (List.length env) 19) (F71.B8 Post (List.getD env 0 undef) (List.getD env 1 undef) H) False
theorem F71.q8 (u : Nat → Value) (Post : Value → AHeap → Prop) (x0 : Value) (x1 : Value) (H : AHeap) : aOps Try.prog T0 F71.o8 F71.o8 (mkEnv (upd (upd u 0 x0) 1 x1) 19 0) H (F71.L2.e Post) = F71.B8 Post x0 x1 H := by kernel_rfl
theorem F71.r8 (Post : Value → AHeap → Prop) : ∀ env H, F71.B8.e Post env H → aOps Try.prog T0 F71.o8 F71.o8 env H (F71.L2.e Post) := by
  intro env H h
  obtain ⟨hl, h⟩ := lenE h
  exact use_ops hl (upd_step (upd_step rfl rfl) rfl) ((F71.q8 _ Post (List.getD env 0 undef) (List.getD env 1 undef) H).mpr h)
noncomputable def F71.o9 : List Oper := opsIn (codeAt (bodyOf Try.f71) [.l])
def F71.B9 (Post : Value → AHeap → Prop) (x0 : Value) (x1 : Value) (H : AHeap) : Prop :=
  F71.B8 Post x0 x1 H
def F71.B9.e (Post : Value → AHeap → Prop) : EP := fun env H => pif (Nat.beq (List.length env) 19) (F71.B9 Post (List.getD env 0 undef) (List.getD env 1 undef) H) False
theorem F71.q9 (u : Nat → Value) (Post : Value → AHeap → Prop) (x0 : Value) (x1 : Value) (H : AHeap) : aOps Try.prog T0 F71.o9 F71.o9 (mkEnv (upd (upd u 0 x0) 1 x1) 19 0) H (F71.B8.e Post) = F71.B9 Post x0 x1 H := by kernel_rfl
theorem F71.r9 (Post : Value → AHeap → Prop) : ∀ env H, F71.B9.e Post env H → aOps Try.prog T0 F71.o9 F71.o9 env H (F71.B8.e Post) := by
  intro env H h
  obtain ⟨hl, h⟩ := lenE h
  exact use_ops hl (upd_step (upd_step rfl rfl) rfl) ((F71.q9 _ Post (List.getD env 0 undef) (List.getD env 1 undef) H).mpr h)
noncomputable def F71.code : Code := (.seq (.region 0 ⟨F71.o9⟩ false) (.seq (.seq (.region 1 ⟨F71.o8⟩ false) (.block 0 (.loop (.seq (.region 2 ⟨F71.o7⟩ false) (.seq (.cond (.tmp 9) .skip (.exit 0)) (.seq (.block 1 (.seq (.region 3 ⟨F71.o6⟩ false) (.seq (.region 4 ⟨F71.o5⟩ false) (.cond (.tmp 16) (.seq (.region 5 ⟨F71.o4⟩ false) .ret) .skip)))) (.region 6 ⟨F71.o3⟩ false))))))) (.seq (.region 7 ⟨F71.o1⟩ false) .ret)))
theorem F71.body : Try.f71.body = some F71.code := by kernel_rfl
theorem F71.main (Post : Value → AHeap → Prop) : ∀ env H, F71.B9.e Post env H → AW Try.prog T0 F71.code env H (mkQ (F71.ret Post) (fun _ _ _ => False) (F71.ret Post)) :=
  (r_seq (r_region T0_ok (F71.r9 Post)) (r_seq (r_seq (r_region T0_ok (F71.r8 Post)) (r_block (F71.l2 Post (fun N2 => (r_seq (r_region T0_ok (F71.r7 Post N2)) (r_seq (r_cond rfl r_skip (r_exit (fun _ _ h => h))) (r_seq (r_block (r_seq (r_region T0_ok (F71.r6 Post N2)) (r_seq (r_region T0_ok (F71.r5 Post N2)) (r_cond rfl (r_seq (r_region T0_ok (F71.r4 Post N2)) r_ret) r_skip)))) (r_region T0_ok (F71.r3 Post N2))))))))) (r_seq (r_region T0_ok (F71.r1 Post)) r_ret)))
theorem F71.ac (Post : Value → AHeap → Prop) (x0 : Value) (x1 : Value) (H : AHeap) (h : F71.B9 Post x0 x1 H) : AC Try.prog T0 71 [x0, x1] H Post :=
  r_fn T0_ok (c := F71.code) (n := 19) Try.func71 F71.body (by kernel_rfl) (F71.main Post) (lenM (by kernel_rfl) (h))

-- cmp.isNaN[int64]
noncomputable def F72.ret (Post : Value → AHeap → Prop) : EP := retE T0 6 Try.f72 Post
noncomputable def F72.o1 : List Oper := opsIn (codeAt (bodyOf Try.f72) [.r, .l])
def F72.B1 (Post : Value → AHeap → Prop) (x0 : Int) (H : AHeap) : Prop :=
  Post (Value.bool ((x0 : Int) != x0)) H
def F72.B1.e (Post : Value → AHeap → Prop) : EP := fun env H => pif (Nat.beq (List.length env) 6) (asI .i64 (List.getD env 0 undef) (fun x0 => F72.B1 Post x0 H)) False
theorem F72.q1 (u : Nat → Value) (Post : Value → AHeap → Prop) (x0 : Int) (H : AHeap) : aOps Try.prog T0 F72.o1 F72.o1 (mkEnv (upd u 0 (Value.int .i64 x0)) 6 0) H (F72.ret Post) = F72.B1 Post x0 H := by kernel_rfl
theorem F72.r1 (Post : Value → AHeap → Prop) : ∀ env H, F72.B1.e Post env H → aOps Try.prog T0 F72.o1 F72.o1 env H (F72.ret Post) := by
  intro env H h
  obtain ⟨hl, h⟩ := lenE h
  obtain ⟨x0, e0, h⟩ := asI_elim h
  exact use_ops hl (upd_step rfl e0) ((F72.q1 _ Post x0 H).mpr h)
noncomputable def F72.o2 : List Oper := opsIn (codeAt (bodyOf Try.f72) [.l])
def F72.B2 (Post : Value → AHeap → Prop) (x0 : Int) (H : AHeap) : Prop :=
  F72.B1 Post x0 H
def F72.B2.e (Post : Value → AHeap → Prop) : EP := fun env H => pif (Nat.beq (List.length env) 6) (asI .i64 (List.getD env 0 undef) (fun x0 => F72.B2 Post x0 H)) False
theorem F72.q2 (u : Nat → Value) (Post : Value → AHeap → Prop) (x0 : Int) (H : AHeap) : aOps Try.prog T0 F72.o2 F72.o2 (mkEnv (upd u 0 (Value.int .i64 x0)) 6 0) H (F72.B1.e Post) = F72.B2 Post x0 H := by kernel_rfl
theorem F72.r2 (Post : Value → AHeap → Prop) : ∀ env H, F72.B2.e Post env H → aOps Try.prog T0 F72.o2 F72.o2 env H (F72.B1.e Post) := by
  intro env H h
  obtain ⟨hl, h⟩ := lenE h
  obtain ⟨x0, e0, h⟩ := asI_elim h
  exact use_ops hl (upd_step rfl e0) ((F72.q2 _ Post x0 H).mpr h)
noncomputable def F72.code : Code := (.seq (.region 0 ⟨F72.o2⟩ false) (.seq (.region 1 ⟨F72.o1⟩ false) .ret))
theorem F72.body : Try.f72.body = some F72.code := by kernel_rfl
theorem F72.main (Post : Value → AHeap → Prop) : ∀ env H, F72.B2.e Post env H → AW Try.prog T0 F72.code env H (mkQ (F72.ret Post) (fun _ _ _ => False) (F72.ret Post)) :=
  (r_seq (r_region T0_ok (F72.r2 Post)) (r_seq (r_region T0_ok (F72.r1 Post)) r_ret))
theorem F72.ac (Post : Value → AHeap → Prop) (x0 : Int) (H : AHeap) (h : F72.B2 Post x0 H) : AC Try.prog T0 72 [(Value.int .i64 x0)] H Post :=
  r_fn T0_ok (c := F72.code) (n := 6) Try.func72 F72.body (by kernel_rfl) (F72.main Post) (lenM (by kernel_rfl) (asI_mk' (by kernel_rfl) (h)))

-- slices.IndexFunc[[]int,int]
noncomputable def F73.ret (Post : Value → AHeap → Prop) : EP := retE T0 19 Try.f73 Post
noncomputable def F73.o1 : List Oper := opsIn (codeAt (bodyOf Try.f73) [.r, .r, .l])
def F73.B1 (Post : Value → AHeap → Prop) (H : AHeap) : Prop :=
  Post (Value.int .i64 (-1)) H
def F73.B1.e (Post : Value → AHeap → Prop) : EP := fun env H => pif (Nat.beq (List.length env) 19) (F73.B1 Post H) False
theorem F73.q1 (u : Nat → Value) (Post : Value → AHeap → Prop) (H : AHeap) : aOps Try.prog T0 F73.o1 F73.o1 (mkEnv u 19 0) H (F73.ret Post) = F73.B1 Post H := by kernel_rfl
theorem F73.r1 (Post : Value → AHeap → Prop) : ∀ env H, F73.B1.e Post env H → aOps Try.prog T0 F73.o1 F73.o1 env H (F73.ret Post) := by
  intro env H h
  obtain ⟨hl, h⟩ := lenE h
  exact use_ops hl rfl ((F73.q1 _ Post H).mpr h)
def F73.L2.ne (N : Value → Value → Int → Int → AHeap → Prop) : EP := fun env H => pif (Nat.beq (List.length env) 19) (asI .i64 (List.getD env 7 undef) (fun x7 => asI .i64 (List.getD env 8 undef) (fun x8 => N (List.getD env 0 undef) (List.getD env 1 undef) x7 x8 H))) False
noncomputable def F73.o3 : List Oper := opsIn (codeAt (bodyOf Try.f73) [.r, .l, .r, .l, .l, .r, .r, .r])
def F73.B3 (Post : Value → AHeap → Prop) (N2 : Value → Value → Int → Int → AHeap → Prop) (x0 : Value) (x1 : Value) (x7 : Int) (x8 : Int) (H : AHeap) : Prop :=
  N2 x0 x1 x7 (IntKind.i64.wrap (x8 + 1)) H
def F73.B3.e (Post : Value → AHeap → Prop) (N2 : Value → Value → Int → Int → AHeap → Prop) : EP := fun env H => pif (Nat.beq (List.length env) 19) (asI .i64 (List.getD env 7 undef) (fun x7 => asI .i64 (List.getD env 8 undef) (fun x8 => F73.B3 Post N2 (List.getD env 0 undef) (List.getD env 1 undef) x7 x8 H))) False
theorem F73.q3 (u : Nat → Value) (Post : Value → AHeap → Prop) (N2 : Value → Value → Int → Int → AHeap → Prop) (x0 : Value) (x1 : Value) (x7 : Int) (x8 : Int) (H : AHeap) : aOps Try.prog T0 F73.o3 F73.o3 (mkEnv (upd (upd (upd (upd u 0 x0) 1 x1) 7 (Value.int .i64 x7)) 8 (Value.int .i64 x8)) 19 0) H (F73.L2.ne N2) = F73.B3 Post N2 x0 x1 x7 x8 H := by kernel_rfl
theorem F73.r3 (Post : Value → AHeap → Prop) (N2 : Value → Value → Int → Int → AHeap → Prop) : ∀ env H, F73.B3.e Post N2 env H → aOps Try.prog T0 F73.o3 F73.o3 env H (F73.L2.ne N2) := by
  intro env H h
  obtain ⟨hl, h⟩ := lenE h
  obtain ⟨x7, e7, h⟩ := asI_elim h
  obtain ⟨x8, e8, h⟩ := asI_elim h
  exact use_ops hl (upd_step (upd_step (upd_step (upd_step rfl rfl) rfl) e7) e8) ((F73.q3 _ Post N2 (List.getD env 0 undef) (List.getD env 1 undef) x7 x8 H).mpr h)
noncomputable def F73.o4 : List Oper := opsIn (codeAt (bodyOf Try.f73) [.r, .l, .r, .l, .l, .r, .r, .l, .l, .r, .r, .l, .l])
def F73.B4 (Post : Value → AHeap → Prop) (N2 : Value → Value → Int → Int → AHeap → Prop) (x5 : Int) (H : AHeap) : Prop :=
  Post (Value.int .i64 x5) H
def F73.B4.e (Post : Value → AHeap → Prop) (N2 : Value → Value → Int → Int → AHeap → Prop) : EP := fun env H => pif (Nat.beq (List.length env) 19) (asI .i64 (List.getD env 5 undef) (fun x5 => F73.B4 Post N2 x5 H)) False
theorem F73.q4 (u : Nat → Value) (Post : Value → AHeap → Prop) (N2 : Value → Value → Int → Int → AHeap → Prop) (x5 : Int) (H : AHeap) : aOps Try.prog T0 F73.o4 F73.o4 (mkEnv (upd u 5 (Value.int .i64 x5)) 19 0) H (F73.ret Post) = F73.B4 Post N2 x5 H := by kernel_rfl
theorem F73.r4 (Post : Value → AHeap → Prop) (N2 : Value → Value → Int → Int → AHeap → Prop) : ∀ env H, F73.B4.e Post N2 env H → aOps Try.prog T0 F73.o4 F73.o4 env H (F73.ret Post) := by
  intro env H h
  obtain ⟨hl, h⟩ := lenE h
  obtain ⟨x5, e5, h⟩ := asI_elim h
  exact use_ops hl (upd_step rfl e5) ((F73.q4 _ Post N2 x5 H).mpr h)
noncomputable def F73.o5 : List Oper := opsIn (codeAt (bodyOf Try.f73) [.r, .l, .r, .l, .l, .r, .r, .l, .l, .r, .l])
def F73.B5 (Post : Value → AHeap → Prop) (N2 : Value → Value → Int → Int → AHeap → Prop) (x0 : Value) (x1 : Value) (x5 : Int) (x7 : Int) (x8 : Int) (H : AHeap) : Prop :=
  idxK x0 x5 1 (fun b1 o2 => ldI .i64 H b1 o2 (fun v3 => callV Try.prog T0 x1 [(Value.int .i64 v3)] H (fun v4 H5 => asB v4 (fun v6 => pif v6 (F73.B4 Post N2 x5 H5) (F73.B3 Post N2 x0 x1 x7 x8 H5)))))
def F73.B5.e (Post : Value → AHeap → Prop) (N2 : Value → Value → Int → Int → AHeap → Prop) : EP := fun env H => pif (Nat.beq (List.length env) 19) (asI .i64 (List.getD env 5 undef) (fun x5 => asI .i64 (List.getD env 7 undef) (fun x7 => asI .i64 (List.getD env 8 undef) (fun x8 => F73.B5 Post N2 (List.getD env 0 undef) (List.getD env 1 undef) x5 x7 x8 H)))) False
theorem F73.q5 (u : Nat → Value) (Post : Value → AHeap → Prop) (N2 : Value → Value → Int → Int → AHeap → Prop) (x0 : Value) (x1 : Value) (x5 : Int) (x7 : Int) (x8 : Int) (H : AHeap) : aOps Try.prog T0 F73.o5 F73.o5 (mkEnv (upd (upd (upd (upd (upd u 0 x0) 1 x1) 5 (Value.int .i64 x5)) 7 (Value.int .i64 x7)) 8 (Value.int .i64 x8)) 19 0) H (fun env H => asB (aev env (.tmp 16)) (fun b => pif b ((F73.B4.e Post N2) env H) ((F73.B3.e Post N2) env H))) = F73.B5 Post N2 x0 x1 x5 x7 x8 H := by kernel_rfl
theorem F73.r5 (Post : Value → AHeap → Prop) (N2 : Value → Value → Int → Int → AHeap → Prop) : ∀ env H, F73.B5.e Post N2 env H → aOps Try.prog T0 F73.o5 F73.o5 env H (fun env H => asB (aev env (.tmp 16)) (fun b => pif b ((F73.B4.e Post N2) env H) ((F73.B3.e Post N2) env H))) := by
  intro env H h
  obtain ⟨hl, h⟩ := lenE h
  obtain ⟨x5, e5, h⟩ := asI_elim h
  obtain ⟨x7, e7, h⟩ := asI_elim h
  obtain ⟨x8, e8, h⟩ := asI_elim h
  exact use_ops hl (upd_step (upd_step (upd_step (upd_step (upd_step rfl rfl) rfl) e5) e7) e8) ((F73.q5 _ Post N2 (List.getD env 0 undef) (List.getD env 1 undef) x5 x7 x8 H).mpr h)
noncomputable def F73.o6 : List Oper := opsIn (codeAt (bodyOf Try.f73) [.r, .l, .r, .l, .l, .r, .r, .l, .l, .l])
def F73.B6 (Post : Value → AHeap → Prop) (N2 : Value → Value → Int → Int → AHeap → Prop) (x0 : Value) (x1 : Value) (x7 : Int) (x8 : Int) (H : AHeap) : Prop :=
  F73.B5 Post N2 x0 x1 x8 x7 x8 H
def F73.B6.e (Post : Value → AHeap → Prop) (N2 : Value → Value → Int → Int → AHeap → Prop) : EP := fun env H => pif (Nat.beq (List.length env) 19) (asI .i64 (List.getD env 7 undef) (fun x7 => asI .i64 (List.getD env 8 undef) (fun x8 => F73.B6 Post N2 (List.getD env 0 undef) (List.getD env 1 undef) x7 x8 H))) False
theorem F73.q6 (u : Nat → Value) (Post : Value → AHeap → Prop) (N2 : Value → Value → Int → Int → AHeap → Prop) (x0 : Value) (x1 : Value) (x7 : Int) (x8 : Int) (H : AHeap) : aOps Try.prog T0 F73.o6 F73.o6 (mkEnv (upd (upd (upd (upd u 0 x0) 1 x1) 7 (Value.int .i64 x7)) 8 (Value.int .i64 x8)) 19 0) H (F73.B5.e Post N2) = F73.B6 Post N2 x0 x1 x7 x8 H := by kernel_rfl
theorem F73.r6 (Post : Value → AHeap → Prop) (N2 : Value → Value → Int → Int → AHeap → Prop) : ∀ env H, F73.B6.e Post N2 env H → aOps Try.prog T0 F73.o6 F73.o6 env H (F73.B5.e Post N2) := by
  intro env H h
  obtain ⟨hl, h⟩ := lenE h
  obtain ⟨x7, e7, h⟩ := asI_elim h
  obtain ⟨x8, e8, h⟩ := asI_elim h
  exact use_ops hl (upd_step (upd_step (upd_step (upd_step rfl rfl) rfl) e7) e8) ((F73.q6 _ Post N2 (List.getD env 0 undef) (List.getD env 1 undef) x7 x8 H).mpr h)
noncomputable def F73.o7 : List Oper := opsIn (codeAt (bodyOf Try.f73) [.r, .l, .r, .l, .l, .l])
def F73.B7 (Post : Value → AHeap → Prop) (N2 : Value → Value → Int → Int → AHeap → Prop) (x0 : Value) (x1 : Value) (x7 : Int) (x8 : Int) (H : AHeap) : Prop :=
  pif (decide ((x8 : Int) < x7)) (F73.B6 Post N2 x0 x1 x7 x8 H) (F73.B1 Post H)
def F73.B7.e (Post : Value → AHeap → Prop) (N2 : Value → Value → Int → Int → AHeap → Prop) : EP := fun env H => pif (Nat.beq (List.length env) 19) (asI .i64 (List.getD env 7 undef) (fun x7 => asI .i64 (List.getD env 8 undef) (fun x8 => F73.B7 Post N2 (List.getD env 0 undef) (List.getD env 1 undef) x7 x8 H))) False
theorem F73.q7 (u : Nat → Value) (Post : Value → AHeap → Prop) (N2 : Value → Value → Int → Int → AHeap → Prop) (x0 : Value) (x1 : Value) (x7 : Int) (x8 : Int) (H : AHeap) : aOps Try.prog T0 F73.o7 F73.o7 (mkEnv (upd (upd (upd (upd u 0 x0) 1 x1) 7 (Value.int .i64 x7)) 8 (Value.int .i64 x8)) 19 0) H (fun env H => asB (aev env (.tmp 9)) (fun b => pif b ((F73.B6.e Post N2) env H) ((F73.B1.e Post) env H))) = F73.B7 Post N2 x0 x1 x7 x8 H := by kernel_rfl
theorem F73.r7 (Post : Value → AHeap → Prop) (N2 : Value → Value → Int → Int → AHeap → Prop) : ∀ env H, F73.B7.e Post N2 env H → aOps Try.prog T0 F73.o7 F73.o7 env H (fun env H => asB (aev env (.tmp 9)) (fun b => pif b ((F73.B6.e Post N2) env H) ((F73.B1.e Post) env H))) := by
  intro env H h
  obtain ⟨hl, h⟩ := lenE h
  obtain ⟨x7, e7, h⟩ := asI_elim h
  obtain ⟨x8, e8, h⟩ := asI_elim h
  exact use_ops hl (upd_step (upd_step (upd_step (upd_step rfl rfl) rfl) e7) e8) ((F73.q7 _ Post N2 (List.getD env 0 undef) (List.getD env 1 undef) x7 x8 H).mpr h)
def F73.L2 (Post : Value → AHeap → Prop) (x0 : Value) (x1 : Value) (x7 : Int) (x8 : Int) (H : AHeap) : Prop :=
  ∃ (I : Value → Value → Int → Int → AHeap → Prop) (μ : Value → Value → Int → Int → AHeap → Nat), I x0 x1 x7 x8 H ∧ ∀ x0' x1' x7' x8' H', I x0' x1' x7' x8' H' → F73.B7 Post (fun x0'' x1'' x7'' x8'' H'' => I x0'' x1'' x7'' x8'' H'' ∧ μ x0'' x1'' x7'' x8'' H'' < μ x0' x1' x7' x8' H') x0' x1' x7' x8' H'
def F73.L2.e (Post : Value → AHeap → Prop) : EP := fun env H => pif (Nat.beq (List.length env) 19) (asI .i64 (List.getD env 7 undef) (fun x7 => asI .i64 (List.getD env 8 undef) (fun x8 => F73.L2 Post (List.getD env 0 undef) (List.getD env 1 undef) x7 x8 H))) False
theorem F73.l2 (Post : Value → AHeap → Prop) {c : Code} {K : EP} {X : Nat → EP}
    (hb : ∀ N2 : Value → Value → Int → Int → AHeap → Prop, ∀ env H, (F73.B7.e Post N2) env H → AW Try.prog T0 c env H (mkQ (F73.L2.ne N2) X (F73.ret Post))) :
    ∀ env H, F73.L2.e Post env H → AW Try.prog T0 (.loop c) env H (mkQ K X (F73.ret Post)) := by
  intro env H h
  obtain ⟨hl, h⟩ := lenE h
  obtain ⟨x7, e7, h⟩ := asI_elim h
  obtain ⟨x8, e8, h⟩ := asI_elim h
  obtain ⟨I, μ, h0, hI⟩ := h
  refine r_loop (fun n env H => pif (Nat.beq (List.length env) 19) (asI .i64 (List.getD env 7 undef) (fun x7 => asI .i64 (List.getD env 8 undef) (fun x8 => (I (List.getD env 0 undef) (List.getD env 1 undef) x7 x8 H) ∧ (μ (List.getD env 0 undef) (List.getD env 1 undef) x7 x8 H = n)))) False) ?_ env H ⟨μ (List.getD env 0 undef) (List.getD env 1 undef) x7 x8 H, lenM hl (asI_mk' e7 (asI_mk' e8 (⟨h0, rfl⟩)))⟩
  intro n env' H' h
  obtain ⟨hl', h⟩ := lenE h
  obtain ⟨x7', e7', h⟩ := asI_elim h
  obtain ⟨x8', e8', h⟩ := asI_elim h
  obtain ⟨hi, hm⟩ := h
  refine r_imp (hb (fun x0'' x1'' x7'' x8'' H'' => I x0'' x1'' x7'' x8'' H'' ∧ μ x0'' x1'' x7'' x8'' H'' < n)) ?_ env' H' ?_
  · intro env H h
    obtain ⟨hl'', h⟩ := lenE h
    obtain ⟨x7'', e7'', h⟩ := asI_elim h
    obtain ⟨x8'', e8'', h⟩ := asI_elim h
    obtain ⟨hi, hlt⟩ := h
    exact ⟨_, hlt, lenM hl'' (asI_mk' e7'' (asI_mk' e8'' (⟨hi, rfl⟩)))⟩
  · have h := hI (List.getD env' 0 undef) (List.getD env' 1 undef) x7' x8' H' hi
    rw [hm] at h
    exact lenM hl' (asI_mk' e7' (asI_mk' e8' (h)))
noncomputable def F73.o8 : List Oper := opsIn (codeAt (bodyOf Try.f73) [.r, .l, .l])
def F73.B8 (Post : Value → AHeap → Prop) (x0 : Value) (x1 : Value) (H : AHeap) : Prop :=
  lenK x0 (fun n1 => F73.L2 Post x0 x1 (n1 : Int) 0 H)
def F73.B8.e (Post : Value → AHeap → Prop) : EP := fun env H => pif (Nat.beq (List.length env) 19) (F73.B8 Post (List.getD env 0 undef) (List.getD env 1 undef) H) False
theorem F73.q8 (u : Nat → Value) (Post : Value → AHeap → Prop) (x0 : Value) (x1 : Value) (H : AHeap) : aOps Try.prog T0 F73.o8 F73.o8 (mkEnv (upd (upd u 0 x0) 1 x1) 19 0) H (F73.L2.e Post) = F73.B8 Post x0 x1 H := by kernel_rfl
theorem F73.r8 (Post : Value → AHeap → Prop) : ∀ env H, F73.B8.e Post env H → aOps Try.prog T0 F73.o8 F73.o8 env H (F73.L2.e Post) := by
  intro env H h
  obtain ⟨hl, h⟩ := lenE h
  exact use_ops hl (upd_step (upd_step rfl rfl) rfl) ((F73.q8 _ Post (List.getD env 0 undef) (List.getD env 1 undef) H).mpr h)
noncomputable def F73.o9 : List Oper := opsIn (codeAt (bodyOf Try.f73) [.l])
def F73.B9 (Post : Value → AHeap → Prop) (x0 : Value) (x1 : Value) (H : AHeap) : Prop :=
  F73.B8 Post x0 x1 H
def F73.B9.e (Post : Value → AHeap → Prop) : EP := fun env H => pif (Nat.beq (List.length env) 19) (F73.B9 Post (List.getD env 0 undef) (List.getD env 1 undef) H) False
theorem F73.q9 (u : Nat → Value) (Post : Value → AHeap → Prop) (x0 : Value) (x1 : Value) (H : AHeap) : aOps Try.prog T0 F73.o9 F73.o9 (mkEnv (upd (upd u 0 x0) 1 x1) 19 0) H (F73.B8.e Post) = F73.B9 Post x0 x1 H := by kernel_rfl
theorem F73.r9 (Post : Value → AHeap → Prop) : ∀ env H, F73.B9.e Post env H → aOps Try.prog T0 F73.o9 F73.o9 env H (F73.B8.e Post) := by
  intro env H h
  obtain ⟨hl, h⟩ := lenE h
  exact use_ops hl (upd_step (upd_step rfl rfl) rfl) ((F73.q9 _ Post (List.getD env 0 undef) (List.getD env 1 undef) H).mpr h)
noncomputable def F73.code : Code := (.seq (.region 0 ⟨F73.o9⟩ false) (.seq (.seq (.region 1 ⟨F73.o8⟩ false) (.block 0 (.loop (.seq (.region 2 ⟨F73.o7⟩ false) (.seq (.cond (.tmp 9) .skip (.exit 0)) (.seq (.block 1 (.seq (.region 3 ⟨F73.o6⟩ false) (.seq (.region 4 ⟨F73.o5⟩ false) (.cond (.tmp 16) (.seq (.region 5 ⟨F73.o4⟩ false) .ret) .skip)))) (.region 6 ⟨F73.o3⟩ false))))))) (.seq (.region 7 ⟨F73.o1⟩ false) .ret)))
theorem F73.body : Try.f73.body = some F73.code := by kernel_rfl
theorem F73.main (Post : Value → AHeap → Prop) : ∀ env H, F73.B9.e Post env H → AW Try.prog T0 F73.code env H (mkQ (F73.ret Post) (fun _ _ _ => False) (F73.ret Post)) :=
  (r_seq (r_region T0_ok (F73.r9 Post)) (r_seq (r_seq (r_region T0_ok (F73.r8 Post)) (r_block (F73.l2 Post (fun N2 => (r_seq (r_region T0_ok (F73.r7 Post N2)) (r_seq (r_cond rfl r_skip (r_exit (fun _ _ h => h))) (r_seq (r_block (r_seq (r_region T0_ok (F73.r6 Post N2)) (r_seq (r_region T0_ok (F73.r5 Post N2)) (r_cond rfl (r_seq (r_region T0_ok (F73.r4 Post N2)) r_ret) r_skip)))) (r_region T0_ok (F73.r3 Post N2))))))))) (r_seq (r_region T0_ok (F73.r1 Post)) r_ret)))
theorem F73.ac (Post : Value → AHeap → Prop) (x0 : Value) (x1 : Value) (H : AHeap) (h : F73.B9 Post x0 x1 H) : AC Try.prog T0 73 [x0, x1] H Post :=
  r_fn T0_ok (c := F73.code) (n := 19) Try.func73 F73.body (by kernel_rfl) (F73.main Post) (lenM (by kernel_rfl) (h))

end Go.Proofs
