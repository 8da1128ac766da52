import Derived.Test.YtodklioaeooocaaS
set_option linter.unusedVariables false
set_option maxRecDepth 100000
namespace Go.Proofs
open Go.Abs
-- loop.example/g01329/laws.szEdgeS
noncomputable def F20.ret (Post : Value → AHeap → Prop) : EP := retE T0 12 Try.f20 Post
noncomputable def F20.o1 : List Oper := opsIn (codeAt (bodyOf Try.f20) [.r, .r, .r, .l])
def F20.B1 (Post : Value → AHeap → Prop) (x1 : Int) (H : AHeap) : Prop :=
  Post (Value.int .i64 x1) H
def F20.B1.e (Post : Value → AHeap → Prop) : EP := fun env H => pif (Nat.beq (List.length env) 12) (asI .i64 (List.getD env 1 undef) (fun x1 => F20.B1 Post x1 H)) False
theorem F20.q1 (u : Nat → Value) (Post : Value → AHeap → Prop) (x1 : Int) (H : AHeap) : aOps Try.prog T0 F20.o1 F20.o1 (mkEnv (upd u 1 (Value.int .i64 x1)) 12 0) H (F20.ret Post) = F20.B1 Post x1 H := by kernel_rfl
theorem F20.r1 (Post : Value → AHeap → Prop) : ∀ env H, F20.B1.e Post env H → aOps Try.prog T0 F20.o1 F20.o1 env H (F20.ret Post) := by
  intro env H h
  obtain ⟨hl, h⟩ := lenE h
  obtain ⟨x1, e1, h⟩ := asI_elim h
  exact use_ops hl (upd_step rfl e1) ((F20.q1 _ Post x1 H).mpr h)
noncomputable def F20.o2 : List Oper := opsIn (codeAt (bodyOf Try.f20) [.r, .r, .l, .r, .l, .l])
def F20.B2 (Post : Value → AHeap → Prop) (H : AHeap) : Prop :=
  Post (Value.int .i64 (-1)) H
def F20.B2.e (Post : Value → AHeap → Prop) : EP := fun env H => pif (Nat.beq (List.length env) 12) (F20.B2 Post H) False
theorem F20.q2 (u : Nat → Value) (Post : Value → AHeap → Prop) (H : AHeap) : aOps Try.prog T0 F20.o2 F20.o2 (mkEnv u 12 0) H (F20.ret Post) = F20.B2 Post H := by kernel_rfl
theorem F20.r2 (Post : Value → AHeap → Prop) : ∀ env H, F20.B2.e Post env H → aOps Try.prog T0 F20.o2 F20.o2 env H (F20.ret Post) := by
  intro env H h
  obtain ⟨hl, h⟩ := lenE h
  exact use_ops hl rfl ((F20.q2 _ Post H).mpr h)
noncomputable def F20.o3 : List Oper := opsIn (codeAt (bodyOf Try.f20) [.r, .r, .l, .l])
def F20.B3 (Post : Value → AHeap → Prop) (x1 : Int) (H : AHeap) : Prop :=
  pif (decide ((x1 : Int) < 0)) (F20.B2 Post H) (F20.B1 Post x1 H)
def F20.B3.e (Post : Value → AHeap → Prop) : EP := fun env H => pif (Nat.beq (List.length env) 12) (asI .i64 (List.getD env 1 undef) (fun x1 => F20.B3 Post x1 H)) False
theorem F20.q3 (u : Nat → Value) (Post : Value → AHeap → Prop) (x1 : Int) (H : AHeap) : aOps Try.prog T0 F20.o3 F20.o3 (mkEnv (upd u 1 (Value.int .i64 x1)) 12 0) H (fun env H => asB (aev env (.tmp 10)) (fun b => pif b ((F20.B2.e Post) env H) ((F20.B1.e Post) env H))) = F20.B3 Post x1 H := by kernel_rfl
theorem F20.r3 (Post : Value → AHeap → Prop) : ∀ env H, F20.B3.e Post env H → aOps Try.prog T0 F20.o3 F20.o3 env H (fun env H => asB (aev env (.tmp 10)) (fun b => pif b ((F20.B2.e Post) env H) ((F20.B1.e Post) env H))) := by
  intro env H h
  obtain ⟨hl, h⟩ := lenE h
  obtain ⟨x1, e1, h⟩ := asI_elim h
  exact use_ops hl (upd_step rfl e1) ((F20.q3 _ Post x1 H).mpr h)
noncomputable def F20.o4 : List Oper := opsIn (codeAt (bodyOf Try.f20) [.r, .l])
def F20.B4 (Post : Value → AHeap → Prop) (x0 : Value) (x1 : Int) (H : AHeap) : Prop :=
  lenK x0 (fun n1 => F20.B3 Post (IntKind.i64.wrap (x1 - (n1 : Int))) H)
def F20.B4.e (Post : Value → AHeap → Prop) : EP := fun env H => pif (Nat.beq (List.length env) 12) (asI .i64 (List.getD env 1 undef) (fun x1 => F20.B4 Post (List.getD env 0 undef) x1 H)) False
theorem F20.q4 (u : Nat → Value) (Post : Value → AHeap → Prop) (x0 : Value) (x1 : Int) (H : AHeap) : aOps Try.prog T0 F20.o4 F20.o4 (mkEnv (upd (upd u 0 x0) 1 (Value.int .i64 x1)) 12 0) H (F20.B3.e Post) = F20.B4 Post x0 x1 H := by kernel_rfl
theorem F20.r4 (Post : Value → AHeap → Prop) : ∀ env H, F20.B4.e Post env H → aOps Try.prog T0 F20.o4 F20.o4 env H (F20.B3.e Post) := by
  intro env H h
  obtain ⟨hl, h⟩ := lenE h
  obtain ⟨x1, e1, h⟩ := asI_elim h
  exact use_ops hl (upd_step (upd_step rfl rfl) e1) ((F20.q4 _ Post (List.getD env 0 undef) x1 H).mpr h)
noncomputable def F20.o5 : List Oper := opsIn (codeAt (bodyOf Try.f20) [.l])
def F20.B5 (Post : Value → AHeap → Prop) (x0 : Value) (x1 : Int) (H : AHeap) : Prop :=
  F20.B4 Post x0 x1 H
def F20.B5.e (Post : Value → AHeap → Prop) : EP := fun env H => pif (Nat.beq (List.length env) 12) (asI .i64 (List.getD env 1 undef) (fun x1 => F20.B5 Post (List.getD env 0 undef) x1 H)) False
theorem F20.q5 (u : Nat → Value) (Post : Value → AHeap → Prop) (x0 : Value) (x1 : Int) (H : AHeap) : aOps Try.prog T0 F20.o5 F20.o5 (mkEnv (upd (upd u 0 x0) 1 (Value.int .i64 x1)) 12 0) H (F20.B4.e Post) = F20.B5 Post x0 x1 H := by kernel_rfl
theorem F20.r5 (Post : Value → AHeap → Prop) : ∀ env H, F20.B5.e Post env H → aOps Try.prog T0 F20.o5 F20.o5 env H (F20.B4.e Post) := by
  intro env H h
  obtain ⟨hl, h⟩ := lenE h
  obtain ⟨x1, e1, h⟩ := asI_elim h
  exact use_ops hl (upd_step (upd_step rfl rfl) e1) ((F20.q5 _ Post (List.getD env 0 undef) x1 H).mpr h)
noncomputable def F20.code : Code := (.seq (.region 0 ⟨F20.o5⟩ false) (.seq (.region 1 ⟨F20.o4⟩ false) (.seq (.seq (.region 2 ⟨F20.o3⟩ false) (.cond (.tmp 10) (.seq (.region 3 ⟨F20.o2⟩ false) .ret) .skip)) (.seq (.region 4 ⟨F20.o1⟩ false) .ret))))
theorem F20.body : Try.f20.body = some F20.code := by kernel_rfl
theorem F20.main (Post : Value → AHeap → Prop) : ∀ env H, F20.B5.e Post env H → AW Try.prog T0 F20.code env H (mkQ (F20.ret Post) (fun _ _ _ => False) (F20.ret Post)) :=
  (r_seq (r_region T0_ok (F20.r5 Post)) (r_seq (r_region T0_ok (F20.r4 Post)) (r_seq (r_seq (r_region T0_ok (F20.r3 Post)) (r_cond rfl (r_seq (r_region T0_ok (F20.r2 Post)) r_ret) r_skip)) (r_seq (r_region T0_ok (F20.r1 Post)) r_ret))))
theorem F20.ac (Post : Value → AHeap → Prop) (x0 : Value) (x1 : Int) (H : AHeap) (h : F20.B5 Post x0 x1 H) : AC Try.prog T0 20 [x0, (Value.int .i64 x1)] H Post :=
  r_fn T0_ok (c := F20.code) (n := 12) Try.func20 F20.body (by kernel_rfl) (F20.main Post) (lenM (by kernel_rfl) (asI_mk' (by kernel_rfl) (h)))

-- loop.example/g01329/spec.l03Edges
noncomputable def F21.ret (Post : Value → AHeap → Prop) : EP := retE T0 13 Try.f21 Post
noncomputable def F21.o1 : List Oper := opsIn (codeAt (bodyOf Try.f21) [.r, .r, .l])
def F21.B1 (Post : Value → AHeap → Prop) (x1 : Value) (x2 : Nat) (H : AHeap) : Prop :=
  ld1 H x2 1 (fun v1 => lenK v1 (fun n2 => AC Try.prog T0 38 [x1, (Value.int .i64 (n2 : Int))] H (fun v3 H4 => asI .i64 v3 (fun v5 => Post (Value.int .i64 v5) H4))))
def F21.B1.e (Post : Value → AHeap → Prop) : EP := fun env H => pif (Nat.beq (List.length env) 13) (asX (List.getD env 2 undef) (fun x2 => F21.B1 Post (List.getD env 1 undef) x2 H)) False
theorem F21.q1 (u : Nat → Value) (Post : Value → AHeap → Prop) (x1 : Value) (x2 : Nat) (H : AHeap) : aOps Try.prog T0 F21.o1 F21.o1 (mkEnv (upd (upd u 1 x1) 2 (Value.pointer (some ⟨x2, 0, none⟩))) 13 0) H (F21.ret Post) = F21.B1 Post x1 x2 H := by kernel_rfl
theorem F21.r1 (Post : Value → AHeap → Prop) : ∀ env H, F21.B1.e Post env H → aOps Try.prog T0 F21.o1 F21.o1 env H (F21.ret Post) := by
  intro env H h
  obtain ⟨hl, h⟩ := lenE h
  obtain ⟨x2, e2, h⟩ := asX_elim h
  exact use_ops hl (upd_step (upd_step rfl rfl) e2) ((F21.q1 _ Post (List.getD env 1 undef) x2 H).mpr h)
noncomputable def F21.o2 : List Oper := opsIn (codeAt (bodyOf Try.f21) [.r, .l, .r, .l, .l])
def F21.B2 (Post : Value → AHeap → Prop) (H : AHeap) : Prop :=
  Post (Value.int .i64 1) H
def F21.B2.e (Post : Value → AHeap → Prop) : EP := fun env H => pif (Nat.beq (List.length env) 13) (F21.B2 Post H) False
theorem F21.q2 (u : Nat → Value) (Post : Value → AHeap → Prop) (H : AHeap) : aOps Try.prog T0 F21.o2 F21.o2 (mkEnv u 13 0) H (F21.ret Post) = F21.B2 Post H := by kernel_rfl
theorem F21.r2 (Post : Value → AHeap → Prop) : ∀ env H, F21.B2.e Post env H → aOps Try.prog T0 F21.o2 F21.o2 env H (F21.ret Post) := by
  intro env H h
  obtain ⟨hl, h⟩ := lenE h
  exact use_ops hl rfl ((F21.q2 _ Post H).mpr h)
noncomputable def F21.o3 : List Oper := opsIn (codeAt (bodyOf Try.f21) [.r, .l, .l])
def F21.B3 (Post : Value → AHeap → Prop) (x1 : Value) (x2 : Nat) (H : AHeap) : Prop :=
  ldI .i64 H x2 0 (fun v1 => ld1 H x2 1 (fun v2 => AC Try.prog T0 32 [(Value.agg ⟨[(Value.int .i64 v1), v2]⟩)] H (fun v3 H4 => asB v3 (fun v5 => pif (!v5) (F21.B2 Post H4) (F21.B1 Post x1 x2 H4)))))
def F21.B3.e (Post : Value → AHeap → Prop) : EP := fun env H => pif (Nat.beq (List.length env) 13) (asX (List.getD env 2 undef) (fun x2 => F21.B3 Post (List.getD env 1 undef) x2 H)) False
theorem F21.q3 (u : Nat → Value) (Post : Value → AHeap → Prop) (x1 : Value) (x2 : Nat) (H : AHeap) : aOps Try.prog T0 F21.o3 F21.o3 (mkEnv (upd (upd u 1 x1) 2 (Value.pointer (some ⟨x2, 0, none⟩))) 13 0) H (fun env H => asB (aev env (.tmp 7)) (fun b => pif b ((F21.B2.e Post) env H) ((F21.B1.e Post) env H))) = F21.B3 Post x1 x2 H := by kernel_rfl
theorem F21.r3 (Post : Value → AHeap → Prop) : ∀ env H, F21.B3.e Post env H → aOps Try.prog T0 F21.o3 F21.o3 env H (fun env H => asB (aev env (.tmp 7)) (fun b => pif b ((F21.B2.e Post) env H) ((F21.B1.e Post) env H))) := by
  intro env H h
  obtain ⟨hl, h⟩ := lenE h
  obtain ⟨x2, e2, h⟩ := asX_elim h
  exact use_ops hl (upd_step (upd_step rfl rfl) e2) ((F21.q3 _ Post (List.getD env 1 undef) x2 H).mpr h)
noncomputable def F21.o4 : List Oper := opsIn (codeAt (bodyOf Try.f21) [.l])
def F21.B4 (Post : Value → AHeap → Prop) (x0a : Int) (x0b : Value) (x1 : Value) (H : AHeap) : Prop :=
  newK H [(Value.int .i64 x0a), x0b] 31 (fun b1 H2 => F21.B3 Post x1 b1 H2)
def F21.B4.e (Post : Value → AHeap → Prop) : EP := fun env H => pif (Nat.beq (List.length env) 13) (as_iv (List.getD env 0 undef) (fun x0a x0b => F21.B4 Post x0a x0b (List.getD env 1 undef) H)) False
theorem F21.q4 (u : Nat → Value) (Post : Value → AHeap → Prop) (x0a : Int) (x0b : Value) (x1 : Value) (H : AHeap) : aOps Try.prog T0 F21.o4 F21.o4 (mkEnv (upd (upd u 0 (Value.agg ⟨[(Value.int .i64 x0a), x0b]⟩)) 1 x1) 13 0) H (F21.B3.e Post) = F21.B4 Post x0a x0b x1 H := by kernel_rfl
theorem F21.r4 (Post : Value → AHeap → Prop) : ∀ env H, F21.B4.e Post env H → aOps Try.prog T0 F21.o4 F21.o4 env H (F21.B3.e Post) := by
  intro env H h
  obtain ⟨hl, h⟩ := lenE h
  obtain ⟨x0a, x0b, e0, h⟩ := as_iv_elim h
  exact use_ops hl (upd_step (upd_step rfl e0) rfl) ((F21.q4 _ Post x0a x0b (List.getD env 1 undef) H).mpr h)
noncomputable def F21.code : Code := (.seq (.region 0 ⟨F21.o4⟩ false) (.seq (.seq (.region 1 ⟨F21.o3⟩ false) (.cond (.tmp 7) (.seq (.region 2 ⟨F21.o2⟩ false) .ret) .skip)) (.seq (.region 3 ⟨F21.o1⟩ false) .ret)))
theorem F21.body : Try.f21.body = some F21.code := by kernel_rfl
theorem F21.main (Post : Value → AHeap → Prop) : ∀ env H, F21.B4.e Post env H → AW Try.prog T0 F21.code env H (mkQ (F21.ret Post) (fun _ _ _ => False) (F21.ret Post)) :=
  (r_seq (r_region T0_ok (F21.r4 Post)) (r_seq (r_seq (r_region T0_ok (F21.r3 Post)) (r_cond rfl (r_seq (r_region T0_ok (F21.r2 Post)) r_ret) r_skip)) (r_seq (r_region T0_ok (F21.r1 Post)) r_ret)))
theorem F21.ac (Post : Value → AHeap → Prop) (x0a : Int) (x0b : Value) (x1 : Value) (H : AHeap) (h : F21.B4 Post x0a x0b x1 H) : AC Try.prog T0 21 [(Value.agg ⟨[(Value.int .i64 x0a), x0b]⟩), x1] H Post :=
  r_fn T0_ok (c := F21.code) (n := 13) Try.func21 F21.body (by kernel_rfl) (F21.main Post) (lenM (by kernel_rfl) (as_iv_mk' (by kernel_rfl) (h)))

-- loop.example/g01329/spec.l07Has
noncomputable def F22.ret (Post : Value → AHeap → Prop) : EP := retE T0 18 Try.f22 Post
noncomputable def F22.o1 : List Oper := opsIn (codeAt (bodyOf Try.f22) [.r, .r, .l])
def F22.B1 (Post : Value → AHeap → Prop) (H : AHeap) : Prop :=
  Post (Value.bool false) H
def F22.B1.e (Post : Value → AHeap → Prop) : EP := fun env H => pif (Nat.beq (List.length env) 18) (F22.B1 Post H) False
theorem F22.q1 (u : Nat → Value) (Post : Value → AHeap → Prop) (H : AHeap) : aOps Try.prog T0 F22.o1 F22.o1 (mkEnv u 18 0) H (F22.ret Post) = F22.B1 Post H := by kernel_rfl
theorem F22.r1 (Post : Value → AHeap → Prop) : ∀ env H, F22.B1.e Post env H → aOps Try.prog T0 F22.o1 F22.o1 env H (F22.ret Post) := by
  intro env H h
  obtain ⟨hl, h⟩ := lenE h
  exact use_ops hl rfl ((F22.q1 _ Post H).mpr h)
def F22.L2.ne (N : Value → Int → Int → AHeap → Prop) : EP := fun env H => pif (Nat.beq (List.length env) 18) (asI .i64 (List.getD env 1 undef) (fun x1 => asI .i64 (List.getD env 5 undef) (fun x5 => N (List.getD env 0 undef) x1 x5 H))) False
noncomputable def F22.o3 : List Oper := opsIn (codeAt (bodyOf Try.f22) [.r, .l, .r, .l, .l, .r, .r])
def F22.B3 (Post : Value → AHeap → Prop) (N2 : Value → Int → Int → AHeap → Prop) (x0 : Value) (x1 : Int) (x5 : Int) (H : AHeap) : Prop :=
  N2 x0 x1 (IntKind.i64.wrap (x5 + 1)) H
def F22.B3.e (Post : Value → AHeap → Prop) (N2 : Value → Int → Int → AHeap → Prop) : EP := fun env H => pif (Nat.beq (List.length env) 18) (asI .i64 (List.getD env 1 undef) (fun x1 => asI .i64 (List.getD env 5 undef) (fun x5 => F22.B3 Post N2 (List.getD env 0 undef) x1 x5 H))) False
theorem F22.q3 (u : Nat → Value) (Post : Value → AHeap → Prop) (N2 : Value → Int → Int → AHeap → Prop) (x0 : Value) (x1 : Int) (x5 : Int) (H : AHeap) : aOps Try.prog T0 F22.o3 F22.o3 (mkEnv (upd (upd (upd u 0 x0) 1 (Value.int .i64 x1)) 5 (Value.int .i64 x5)) 18 0) H (F22.L2.ne N2) = F22.B3 Post N2 x0 x1 x5 H := by kernel_rfl
theorem F22.r3 (Post : Value → AHeap → Prop) (N2 : Value → Int → Int → AHeap → Prop) : ∀ env H, F22.B3.e Post N2 env H → aOps Try.prog T0 F22.o3 F22.o3 env H (F22.L2.ne N2) := by
  intro env H h
  obtain ⟨hl, h⟩ := lenE h
  obtain ⟨x1, e1, h⟩ := asI_elim h
  obtain ⟨x5, e5, h⟩ := asI_elim h
  exact use_ops hl (upd_step (upd_step (upd_step rfl rfl) e1) e5) ((F22.q3 _ Post N2 (List.getD env 0 undef) x1 x5 H).mpr h)
noncomputable def F22.o4 : List Oper := opsIn (codeAt (bodyOf Try.f22) [.r, .l, .r, .l, .l, .r, .l, .l, .r, .l, .l])
def F22.B4 (Post : Value → AHeap → Prop) (N2 : Value → Int → Int → AHeap → Prop) (H : AHeap) : Prop :=
  Post (Value.bool true) H
def F22.B4.e (Post : Value → AHeap → Prop) (N2 : Value → Int → Int → AHeap → Prop) : EP := fun env H => pif (Nat.beq (List.length env) 18) (F22.B4 Post N2 H) False
theorem F22.q4 (u : Nat → Value) (Post : Value → AHeap → Prop) (N2 : Value → Int → Int → AHeap → Prop) (H : AHeap) : aOps Try.prog T0 F22.o4 F22.o4 (mkEnv u 18 0) H (F22.ret Post) = F22.B4 Post N2 H := by kernel_rfl
theorem F22.r4 (Post : Value → AHeap → Prop) (N2 : Value → Int → Int → AHeap → Prop) : ∀ env H, F22.B4.e Post N2 env H → aOps Try.prog T0 F22.o4 F22.o4 env H (F22.ret Post) := by
  intro env H h
  obtain ⟨hl, h⟩ := lenE h
  exact use_ops hl rfl ((F22.q4 _ Post N2 H).mpr h)
noncomputable def F22.o5 : List Oper := opsIn (codeAt (bodyOf Try.f22) [.r, .l, .r, .l, .l, .r, .l, .l, .l])
def F22.B5 (Post : Value → AHeap → Prop) (N2 : Value → Int → Int → AHeap → Prop) (x0 : Value) (x1 : Int) (x5 : Int) (H : AHeap) : Prop :=
  idxK x0 x5 1 (fun b1 o2 => ldI .i64 H b1 o2 (fun v3 => pif ((v3 : Int) == x1) (F22.B4 Post N2 H) (F22.B3 Post N2 x0 x1 x5 H)))
def F22.B5.e (Post : Value → AHeap → Prop) (N2 : Value → Int → Int → AHeap → Prop) : EP := fun env H => pif (Nat.beq (List.length env) 18) (asI .i64 (List.getD env 1 undef) (fun x1 => asI .i64 (List.getD env 5 undef) (fun x5 => F22.B5 Post N2 (List.getD env 0 undef) x1 x5 H))) False
theorem F22.q5 (u : Nat → Value) (Post : Value → AHeap → Prop) (N2 : Value → Int → Int → AHeap → Prop) (x0 : Value) (x1 : Int) (x5 : Int) (H : AHeap) : aOps Try.prog T0 F22.o5 F22.o5 (mkEnv (upd (upd (upd u 0 x0) 1 (Value.int .i64 x1)) 5 (Value.int .i64 x5)) 18 0) H (fun env H => asB (aev env (.tmp 17)) (fun b => pif b ((F22.B4.e Post N2) env H) ((F22.B3.e Post N2) env H))) = F22.B5 Post N2 x0 x1 x5 H := by kernel_rfl
theorem F22.r5 (Post : Value → AHeap → Prop) (N2 : Value → Int → Int → AHeap → Prop) : ∀ env H, F22.B5.e Post N2 env H → aOps Try.prog T0 F22.o5 F22.o5 env H (fun env H => asB (aev env (.tmp 17)) (fun b => pif b ((F22.B4.e Post N2) env H) ((F22.B3.e Post N2) env H))) := by
  intro env H h
  obtain ⟨hl, h⟩ := lenE h
  obtain ⟨x1, e1, h⟩ := asI_elim h
  obtain ⟨x5, e5, h⟩ := asI_elim h
  exact use_ops hl (upd_step (upd_step (upd_step rfl rfl) e1) e5) ((F22.q5 _ Post N2 (List.getD env 0 undef) x1 x5 H).mpr h)
noncomputable def F22.o6 : List Oper := opsIn (codeAt (bodyOf Try.f22) [.r, .l, .r, .l, .l, .l, .l])
def F22.B6 (Post : Value → AHeap → Prop) (N2 : Value → Int → Int → AHeap → Prop) (x0 : Value) (x1 : Int) (x5 : Int) (H : AHeap) : Prop :=
  lenK x0 (fun n1 => pif (decide ((x5 : Int) < (n1 : Int))) (F22.B5 Post N2 x0 x1 x5 H) (F22.B1 Post H))
def F22.B6.e (Post : Value → AHeap → Prop) (N2 : Value → Int → Int → AHeap → Prop) : EP := fun env H => pif (Nat.beq (List.length env) 18) (asI .i64 (List.getD env 1 undef) (fun x1 => asI .i64 (List.getD env 5 undef) (fun x5 => F22.B6 Post N2 (List.getD env 0 undef) x1 x5 H))) False
theorem F22.q6 (u : Nat → Value) (Post : Value → AHeap → Prop) (N2 : Value → Int → Int → AHeap → Prop) (x0 : Value) (x1 : Int) (x5 : Int) (H : AHeap) : aOps Try.prog T0 F22.o6 F22.o6 (mkEnv (upd (upd (upd u 0 x0) 1 (Value.int .i64 x1)) 5 (Value.int .i64 x5)) 18 0) H (fun env H => asB (aev env (.tmp 9)) (fun b => pif b ((F22.B5.e Post N2) env H) ((F22.B1.e Post) env H))) = F22.B6 Post N2 x0 x1 x5 H := by kernel_rfl
theorem F22.r6 (Post : Value → AHeap → Prop) (N2 : Value → Int → Int → AHeap → Prop) : ∀ env H, F22.B6.e Post N2 env H → aOps Try.prog T0 F22.o6 F22.o6 env H (fun env H => asB (aev env (.tmp 9)) (fun b => pif b ((F22.B5.e Post N2) env H) ((F22.B1.e Post) env H))) := by
  intro env H h
  obtain ⟨hl, h⟩ := lenE h
  obtain ⟨x1, e1, h⟩ := asI_elim h
  obtain ⟨x5, e5, h⟩ := asI_elim h
  exact use_ops hl (upd_step (upd_step (upd_step rfl rfl) e1) e5) ((F22.q6 _ Post N2 (List.getD env 0 undef) x1 x5 H).mpr h)
def F22.L2 (Post : Value → AHeap → Prop) (x0 : Value) (x1 : Int) (x5 : Int) (H : AHeap) : Prop :=
  ∃ (I : Value → Int → Int → AHeap → Prop) (μ : Value → Int → Int → AHeap → Nat), I x0 x1 x5 H ∧ ∀ x0' x1' x5' H', I x0' x1' x5' H' → F22.B6 Post (fun x0'' x1'' x5'' H'' => I x0'' x1'' x5'' H'' ∧ μ x0'' x1'' x5'' H'' < μ x0' x1' x5' H') x0' x1' x5' H'
def F22.L2.e (Post : Value → AHeap → Prop) : EP := fun env H => pif (Nat.beq (List.length env) 18) (asI .i64 (List.getD env 1 undef) (fun x1 => asI .i64 (List.getD env 5 undef) (fun x5 => F22.L2 Post (List.getD env 0 undef) x1 x5 H))) False
theorem F22.l2 (Post : Value → AHeap → Prop) {c : Code} {K : EP} {X : Nat → EP}
    (hb : ∀ N2 : Value → Int → Int → AHeap → Prop, ∀ env H, (F22.B6.e Post N2) env H → AW Try.prog T0 c env H (mkQ (F22.L2.ne N2) X (F22.ret Post))) :
    ∀ env H, F22.L2.e Post env H → AW Try.prog T0 (.loop c) env H (mkQ K X (F22.ret Post)) := by
  intro env H h
  obtain ⟨hl, h⟩ := lenE h
  obtain ⟨x1, e1, h⟩ := asI_elim h
  obtain ⟨x5, e5, h⟩ := asI_elim h
  obtain ⟨I, μ, h0, hI⟩ := h
  refine r_loop (fun n env H => pif (Nat.beq (List.length env) 18) (asI .i64 (List.getD env 1 undef) (fun x1 => asI .i64 (List.getD env 5 undef) (fun x5 => (I (List.getD env 0 undef) x1 x5 H) ∧ (μ (List.getD env 0 undef) x1 x5 H = n)))) False) ?_ env H ⟨μ (List.getD env 0 undef) x1 x5 H, lenM hl (asI_mk' e1 (asI_mk' e5 (⟨h0, rfl⟩)))⟩
  intro n env' H' h
  obtain ⟨hl', h⟩ := lenE h
  obtain ⟨x1', e1', h⟩ := asI_elim h
  obtain ⟨x5', e5', h⟩ := asI_elim h
  obtain ⟨hi, hm⟩ := h
  refine r_imp (hb (fun x0'' x1'' x5'' H'' => I x0'' x1'' x5'' H'' ∧ μ x0'' x1'' x5'' H'' < n)) ?_ env' H' ?_
  · intro env H h
    obtain ⟨hl'', h⟩ := lenE h
    obtain ⟨x1'', e1'', h⟩ := asI_elim h
    obtain ⟨x5'', e5'', h⟩ := asI_elim h
    obtain ⟨hi, hlt⟩ := h
    exact ⟨_, hlt, lenM hl'' (asI_mk' e1'' (asI_mk' e5'' (⟨hi, rfl⟩)))⟩
  · have h := hI (List.getD env' 0 undef) x1' x5' H' hi
    rw [hm] at h
    exact lenM hl' (asI_mk' e1' (asI_mk' e5' (h)))
noncomputable def F22.o7 : List Oper := opsIn (codeAt (bodyOf Try.f22) [.r, .l, .l])
def F22.B7 (Post : Value → AHeap → Prop) (x0 : Value) (x1 : Int) (H : AHeap) : Prop :=
  F22.L2 Post x0 x1 0 H
def F22.B7.e (Post : Value → AHeap → Prop) : EP := fun env H => pif (Nat.beq (List.length env) 18) (asI .i64 (List.getD env 1 undef) (fun x1 => F22.B7 Post (List.getD env 0 undef) x1 H)) False
theorem F22.q7 (u : Nat → Value) (Post : Value → AHeap → Prop) (x0 : Value) (x1 : Int) (H : AHeap) : aOps Try.prog T0 F22.o7 F22.o7 (mkEnv (upd (upd u 0 x0) 1 (Value.int .i64 x1)) 18 0) H (F22.L2.e Post) = F22.B7 Post x0 x1 H := by kernel_rfl
theorem F22.r7 (Post : Value → AHeap → Prop) : ∀ env H, F22.B7.e Post env H → aOps Try.prog T0 F22.o7 F22.o7 env H (F22.L2.e Post) := by
  intro env H h
  obtain ⟨hl, h⟩ := lenE h
  obtain ⟨x1, e1, h⟩ := asI_elim h
  exact use_ops hl (upd_step (upd_step rfl rfl) e1) ((F22.q7 _ Post (List.getD env 0 undef) x1 H).mpr h)
noncomputable def F22.o8 : List Oper := opsIn (codeAt (bodyOf Try.f22) [.l])
def F22.B8 (Post : Value → AHeap → Prop) (x0 : Value) (x1 : Int) (H : AHeap) : Prop :=
  F22.B7 Post x0 x1 H
def F22.B8.e (Post : Value → AHeap → Prop) : EP := fun env H => pif (Nat.beq (List.length env) 18) (asI .i64 (List.getD env 1 undef) (fun x1 => F22.B8 Post (List.getD env 0 undef) x1 H)) False
theorem F22.q8 (u : Nat → Value) (Post : Value → AHeap → Prop) (x0 : Value) (x1 : Int) (H : AHeap) : aOps Try.prog T0 F22.o8 F22.o8 (mkEnv (upd (upd u 0 x0) 1 (Value.int .i64 x1)) 18 0) H (F22.B7.e Post) = F22.B8 Post x0 x1 H := by kernel_rfl
theorem F22.r8 (Post : Value → AHeap → Prop) : ∀ env H, F22.B8.e Post env H → aOps Try.prog T0 F22.o8 F22.o8 env H (F22.B7.e Post) := by
  intro env H h
  obtain ⟨hl, h⟩ := lenE h
  obtain ⟨x1, e1, h⟩ := asI_elim h
  exact use_ops hl (upd_step (upd_step rfl rfl) e1) ((F22.q8 _ Post (List.getD env 0 undef) x1 H).mpr h)
noncomputable def F22.code : Code := (.seq (.region 0 ⟨F22.o8⟩ false) (.seq (.seq (.region 1 ⟨F22.o7⟩ false) (.block 0 (.loop (.seq (.seq (.region 2 ⟨F22.o6⟩ false) (.cond (.tmp 9) .skip (.exit 0))) (.seq (.block 1 (.seq (.region 4 ⟨F22.o5⟩ false) (.cond (.tmp 17) (.seq (.region 5 ⟨F22.o4⟩ false) .ret) .skip))) (.region 3 ⟨F22.o3⟩ false)))))) (.seq (.region 6 ⟨F22.o1⟩ false) .ret)))
theorem F22.body : Try.f22.body = some F22.code := by kernel_rfl
theorem F22.main (Post : Value → AHeap → Prop) : ∀ env H, F22.B8.e Post env H → AW Try.prog T0 F22.code env H (mkQ (F22.ret Post) (fun _ _ _ => False) (F22.ret Post)) :=
  (r_seq (r_region T0_ok (F22.r8 Post)) (r_seq (r_seq (r_region T0_ok (F22.r7 Post)) (r_block (F22.l2 Post (fun N2 => (r_seq (r_seq (r_region T0_ok (F22.r6 Post N2)) (r_cond rfl r_skip (r_exit (fun _ _ h => h)))) (r_seq (r_block (r_seq (r_region T0_ok (F22.r5 Post N2)) (r_cond rfl (r_seq (r_region T0_ok (F22.r4 Post N2)) r_ret) r_skip))) (r_region T0_ok (F22.r3 Post N2)))))))) (r_seq (r_region T0_ok (F22.r1 Post)) r_ret)))
theorem F22.ac (Post : Value → AHeap → Prop) (x0 : Value) (x1 : Int) (H : AHeap) (h : F22.B8 Post x0 x1 H) : AC Try.prog T0 22 [x0, (Value.int .i64 x1)] H Post :=
  r_fn T0_ok (c := F22.code) (n := 18) Try.func22 F22.body (by kernel_rfl) (F22.main Post) (lenM (by kernel_rfl) (asI_mk' (by kernel_rfl) (h)))

-- loop.example/g01329/laws.toEdgeS
noncomputable def F23.ret (Post : Value → AHeap → Prop) : EP := retE T0 23 Try.f23 Post
noncomputable def F23.o1 : List Oper := opsIn (codeAt (bodyOf Try.f23) [.r, .r, .r, .l])
def F23.B1 (Post : Value → AHeap → Prop) (x3 : Value) (H : AHeap) : Prop :=
  Post x3 H
def F23.B1.e (Post : Value → AHeap → Prop) : EP := fun env H => pif (Nat.beq (List.length env) 23) (F23.B1 Post (List.getD env 3 undef) H) False
theorem F23.q1 (u : Nat → Value) (Post : Value → AHeap → Prop) (x3 : Value) (H : AHeap) : aOps Try.prog T0 F23.o1 F23.o1 (mkEnv (upd u 3 x3) 23 0) H (F23.ret Post) = F23.B1 Post x3 H := by kernel_rfl
theorem F23.r1 (Post : Value → AHeap → Prop) : ∀ env H, F23.B1.e Post env H → aOps Try.prog T0 F23.o1 F23.o1 env H (F23.ret Post) := by
  intro env H h
  obtain ⟨hl, h⟩ := lenE h
  exact use_ops hl (upd_step rfl rfl) ((F23.q1 _ Post (List.getD env 3 undef) H).mpr h)
def F23.L2.ne (N : Value → Value → Int → AHeap → Prop) : EP := fun env H => pif (Nat.beq (List.length env) 23) (asI .i64 (List.getD env 4 undef) (fun x4 => N (List.getD env 0 undef) (List.getD env 3 undef) x4 H)) False
noncomputable def F23.o3 : List Oper := opsIn (codeAt (bodyOf Try.f23) [.r, .r, .l, .r, .l, .l, .r, .r])
def F23.B3 (Post : Value → AHeap → Prop) (N2 : Value → Value → Int → AHeap → Prop) (x0 : Value) (x3 : Value) (x4 : Int) (H : AHeap) : Prop :=
  N2 x0 x3 (IntKind.i64.wrap (x4 + 1)) H
def F23.B3.e (Post : Value → AHeap → Prop) (N2 : Value → Value → Int → AHeap → Prop) : EP := fun env H => pif (Nat.beq (List.length env) 23) (asI .i64 (List.getD env 4 undef) (fun x4 => F23.B3 Post N2 (List.getD env 0 undef) (List.getD env 3 undef) x4 H)) False
theorem F23.q3 (u : Nat → Value) (Post : Value → AHeap → Prop) (N2 : Value → Value → Int → AHeap → Prop) (x0 : Value) (x3 : Value) (x4 : Int) (H : AHeap) : aOps Try.prog T0 F23.o3 F23.o3 (mkEnv (upd (upd (upd u 0 x0) 3 x3) 4 (Value.int .i64 x4)) 23 0) H (F23.L2.ne N2) = F23.B3 Post N2 x0 x3 x4 H := by kernel_rfl
theorem F23.r3 (Post : Value → AHeap → Prop) (N2 : Value → Value → Int → AHeap → Prop) : ∀ env H, F23.B3.e Post N2 env H → aOps Try.prog T0 F23.o3 F23.o3 env H (F23.L2.ne N2) := by
  intro env H h
  obtain ⟨hl, h⟩ := lenE h
  obtain ⟨x4, e4, h⟩ := asI_elim h
  exact use_ops hl (upd_step (upd_step (upd_step rfl rfl) rfl) e4) ((F23.q3 _ Post N2 (List.getD env 0 undef) (List.getD env 3 undef) x4 H).mpr h)
noncomputable def F23.o4 : List Oper := opsIn (codeAt (bodyOf Try.f23) [.r, .r, .l, .r, .l, .l, .r, .l, .l])
def F23.B4 (Post : Value → AHeap → Prop) (N2 : Value → Value → Int → AHeap → Prop) (x0 : Value) (x3 : Value) (x4 : Int) (H : AHeap) : Prop :=
  idxK x0 x4 2 (fun b1 o2 => ldI .i64 H b1 o2 (fun v3 => ldI .i64 H b1 (o2 + 1) (fun v4 => AC Try.prog T0 39 [(Value.agg ⟨[(Value.int .i64 v3), (Value.int .i64 v4)]⟩)] H (fun v5 H6 => agg2 v5 (fun v7 v8 => asI .i64 v7 (fun v9 => asI .i64 v8 (fun v10 => idxK x3 x4 2 (fun b11 o12 => stK H6 b11 o12 [(Value.int .i64 v9), (Value.int .i64 v10)] (fun H13 => F23.B3 Post N2 x0 x3 x4 H13)))))))))
def F23.B4.e (Post : Value → AHeap → Prop) (N2 : Value → Value → Int → AHeap → Prop) : EP := fun env H => pif (Nat.beq (List.length env) 23) (asI .i64 (List.getD env 4 undef) (fun x4 => F23.B4 Post N2 (List.getD env 0 undef) (List.getD env 3 undef) x4 H)) False
theorem F23.q4 (u : Nat → Value) (Post : Value → AHeap → Prop) (N2 : Value → Value → Int → AHeap → Prop) (x0 : Value) (x3 : Value) (x4 : Int) (H : AHeap) : aOps Try.prog T0 F23.o4 F23.o4 (mkEnv (upd (upd (upd u 0 x0) 3 x3) 4 (Value.int .i64 x4)) 23 0) H (F23.B3.e Post N2) = F23.B4 Post N2 x0 x3 x4 H := by kernel_rfl
theorem F23.r4 (Post : Value → AHeap → Prop) (N2 : Value → Value → Int → AHeap → Prop) : ∀ env H, F23.B4.e Post N2 env H → aOps Try.prog T0 F23.o4 F23.o4 env H (F23.B3.e Post N2) := by
  intro env H h
  obtain ⟨hl, h⟩ := lenE h
  obtain ⟨x4, e4, h⟩ := asI_elim h
  exact use_ops hl (upd_step (upd_step (upd_step rfl rfl) rfl) e4) ((F23.q4 _ Post N2 (List.getD env 0 undef) (List.getD env 3 undef) x4 H).mpr h)
noncomputable def F23.o5 : List Oper := opsIn (codeAt (bodyOf Try.f23) [.r, .r, .l, .r, .l, .l, .l, .l])
def F23.B5 (Post : Value → AHeap → Prop) (N2 : Value → Value → Int → AHeap → Prop) (x0 : Value) (x3 : Value) (x4 : Int) (H : AHeap) : Prop :=
  lenK x0 (fun n1 => pif (decide ((x4 : Int) < (n1 : Int))) (F23.B4 Post N2 x0 x3 x4 H) (F23.B1 Post x3 H))
def F23.B5.e (Post : Value → AHeap → Prop) (N2 : Value → Value → Int → AHeap → Prop) : EP := fun env H => pif (Nat.beq (List.length env) 23) (asI .i64 (List.getD env 4 undef) (fun x4 => F23.B5 Post N2 (List.getD env 0 undef) (List.getD env 3 undef) x4 H)) False
theorem F23.q5 (u : Nat → Value) (Post : Value → AHeap → Prop) (N2 : Value → Value → Int → AHeap → Prop) (x0 : Value) (x3 : Value) (x4 : Int) (H : AHeap) : aOps Try.prog T0 F23.o5 F23.o5 (mkEnv (upd (upd (upd u 0 x0) 3 x3) 4 (Value.int .i64 x4)) 23 0) H (fun env H => asB (aev env (.tmp 11)) (fun b => pif b ((F23.B4.e Post N2) env H) ((F23.B1.e Post) env H))) = F23.B5 Post N2 x0 x3 x4 H := by kernel_rfl
theorem F23.r5 (Post : Value → AHeap → Prop) (N2 : Value → Value → Int → AHeap → Prop) : ∀ env H, F23.B5.e Post N2 env H → aOps Try.prog T0 F23.o5 F23.o5 env H (fun env H => asB (aev env (.tmp 11)) (fun b => pif b ((F23.B4.e Post N2) env H) ((F23.B1.e Post) env H))) := by
  intro env H h
  obtain ⟨hl, h⟩ := lenE h
  obtain ⟨x4, e4, h⟩ := asI_elim h
  exact use_ops hl (upd_step (upd_step (upd_step rfl rfl) rfl) e4) ((F23.q5 _ Post N2 (List.getD env 0 undef) (List.getD env 3 undef) x4 H).mpr h)
def F23.L2 (Post : Value → AHeap → Prop) (x0 : Value) (x3 : Value) (x4 : Int) (H : AHeap) : Prop :=
  ∃ (I : Value → Value → Int → AHeap → Prop) (μ : Value → Value → Int → AHeap → Nat), I x0 x3 x4 H ∧ ∀ x0' x3' x4' H', I x0' x3' x4' H' → F23.B5 Post (fun x0'' x3'' x4'' H'' => I x0'' x3'' x4'' H'' ∧ μ x0'' x3'' x4'' H'' < μ x0' x3' x4' H') x0' x3' x4' H'
def F23.L2.e (Post : Value → AHeap → Prop) : EP := fun env H => pif (Nat.beq (List.length env) 23) (asI .i64 (List.getD env 4 undef) (fun x4 => F23.L2 Post (List.getD env 0 undef) (List.getD env 3 undef) x4 H)) False
theorem F23.l2 (Post : Value → AHeap → Prop) {c : Code} {K : EP} {X : Nat → EP}
    (hb : ∀ N2 : Value → Value → Int → AHeap → Prop, ∀ env H, (F23.B5.e Post N2) env H → AW Try.prog T0 c env H (mkQ (F23.L2.ne N2) X (F23.ret Post))) :
    ∀ env H, F23.L2.e Post env H → AW Try.prog T0 (.loop c) env H (mkQ K X (F23.ret Post)) := by
  intro env H h
  obtain ⟨hl, h⟩ := lenE h
  obtain ⟨x4, e4, h⟩ := asI_elim h
  obtain ⟨I, μ, h0, hI⟩ := h
  refine r_loop (fun n env H => pif (Nat.beq (List.length env) 23) (asI .i64 (List.getD env 4 undef) (fun x4 => (I (List.getD env 0 undef) (List.getD env 3 undef) x4 H) ∧ (μ (List.getD env 0 undef) (List.getD env 3 undef) x4 H = n))) False) ?_ env H ⟨μ (List.getD env 0 undef) (List.getD env 3 undef) x4 H, lenM hl (asI_mk' e4 (⟨h0, rfl⟩))⟩
  intro n env' H' h
  obtain ⟨hl', h⟩ := lenE h
  obtain ⟨x4', e4', h⟩ := asI_elim h
  obtain ⟨hi, hm⟩ := h
  refine r_imp (hb (fun x0'' x3'' x4'' H'' => I x0'' x3'' x4'' H'' ∧ μ x0'' x3'' x4'' H'' < n)) ?_ env' H' ?_
  · intro env H h
    obtain ⟨hl'', h⟩ := lenE h
    obtain ⟨x4'', e4'', h⟩ := asI_elim h
    obtain ⟨hi, hlt⟩ := h
    exact ⟨_, hlt, lenM hl'' (asI_mk' e4'' (⟨hi, rfl⟩))⟩
  · have h := hI (List.getD env' 0 undef) (List.getD env' 3 undef) x4' H' hi
    rw [hm] at h
    exact lenM hl' (asI_mk' e4' (h))
noncomputable def F23.o6 : List Oper := opsIn (codeAt (bodyOf Try.f23) [.r, .r, .l, .l])
def F23.B6 (Post : Value → AHeap → Prop) (x0 : Value) (x3 : Value) (H : AHeap) : Prop :=
  F23.L2 Post x0 x3 0 H
def F23.B6.e (Post : Value → AHeap → Prop) : EP := fun env H => pif (Nat.beq (List.length env) 23) (F23.B6 Post (List.getD env 0 undef) (List.getD env 3 undef) H) False
theorem F23.q6 (u : Nat → Value) (Post : Value → AHeap → Prop) (x0 : Value) (x3 : Value) (H : AHeap) : aOps Try.prog T0 F23.o6 F23.o6 (mkEnv (upd (upd u 0 x0) 3 x3) 23 0) H (F23.L2.e Post) = F23.B6 Post x0 x3 H := by kernel_rfl
theorem F23.r6 (Post : Value → AHeap → Prop) : ∀ env H, F23.B6.e Post env H → aOps Try.prog T0 F23.o6 F23.o6 env H (F23.L2.e Post) := by
  intro env H h
  obtain ⟨hl, h⟩ := lenE h
  exact use_ops hl (upd_step (upd_step rfl rfl) rfl) ((F23.q6 _ Post (List.getD env 0 undef) (List.getD env 3 undef) H).mpr h)
noncomputable def F23.o7 : List Oper := opsIn (codeAt (bodyOf Try.f23) [.r, .l])
def F23.B7 (Post : Value → AHeap → Prop) (x0 : Value) (H : AHeap) : Prop :=
  lenK x0 (fun n1 => mkR H 16 55 [(Value.int .i64 0), (Value.int .i64 0)] (n1 : Int) (n1 : Int) (fun v3 H2 => F23.B6 Post x0 v3 H2))
def F23.B7.e (Post : Value → AHeap → Prop) : EP := fun env H => pif (Nat.beq (List.length env) 23) (F23.B7 Post (List.getD env 0 undef) H) False
theorem F23.q7 (u : Nat → Value) (Post : Value → AHeap → Prop) (x0 : Value) (H : AHeap) : aOps Try.prog T0 F23.o7 F23.o7 (mkEnv (upd u 0 x0) 23 0) H (F23.B6.e Post) = F23.B7 Post x0 H := by kernel_rfl
theorem F23.r7 (Post : Value → AHeap → Prop) : ∀ env H, F23.B7.e Post env H → aOps Try.prog T0 F23.o7 F23.o7 env H (F23.B6.e Post) := by
  intro env H h
  obtain ⟨hl, h⟩ := lenE h
  exact use_ops hl (upd_step rfl rfl) ((F23.q7 _ Post (List.getD env 0 undef) H).mpr h)
noncomputable def F23.o8 : List Oper := opsIn (codeAt (bodyOf Try.f23) [.l])
def F23.B8 (Post : Value → AHeap → Prop) (x0 : Value) (H : AHeap) : Prop :=
  F23.B7 Post x0 H
def F23.B8.e (Post : Value → AHeap → Prop) : EP := fun env H => pif (Nat.beq (List.length env) 23) (F23.B8 Post (List.getD env 0 undef) H) False
theorem F23.q8 (u : Nat → Value) (Post : Value → AHeap → Prop) (x0 : Value) (H : AHeap) : aOps Try.prog T0 F23.o8 F23.o8 (mkEnv (upd u 0 x0) 23 0) H (F23.B7.e Post) = F23.B8 Post x0 H := by kernel_rfl
theorem F23.r8 (Post : Value → AHeap → Prop) : ∀ env H, F23.B8.e Post env H → aOps Try.prog T0 F23.o8 F23.o8 env H (F23.B7.e Post) := by
  intro env H h
  obtain ⟨hl, h⟩ := lenE h
  exact use_ops hl (upd_step rfl rfl) ((F23.q8 _ Post (List.getD env 0 undef) H).mpr h)
noncomputable def F23.code : Code := (.seq (.region 0 ⟨F23.o8⟩ false) (.seq (.region 1 ⟨F23.o7⟩ false) (.seq (.seq (.region 2 ⟨F23.o6⟩ false) (.block 0 (.loop (.seq (.seq (.region 3 ⟨F23.o5⟩ false) (.cond (.tmp 11) .skip (.exit 0))) (.seq (.block 1 (.region 5 ⟨F23.o4⟩ false)) (.region 4 ⟨F23.o3⟩ false)))))) (.seq (.region 6 ⟨F23.o1⟩ false) .ret))))
theorem F23.body : Try.f23.body = some F23.code := by kernel_rfl
theorem F23.main (Post : Value → AHeap → Prop) : ∀ env H, F23.B8.e Post env H → AW Try.prog T0 F23.code env H (mkQ (F23.ret Post) (fun _ _ _ => False) (F23.ret Post)) :=
  (r_seq (r_region T0_ok (F23.r8 Post)) (r_seq (r_region T0_ok (F23.r7 Post)) (r_seq (r_seq (r_region T0_ok (F23.r6 Post)) (r_block (F23.l2 Post (fun N2 => (r_seq (r_seq (r_region T0_ok (F23.r5 Post N2)) (r_cond rfl r_skip (r_exit (fun _ _ h => h)))) (r_seq (r_block (r_region T0_ok (F23.r4 Post N2))) (r_region T0_ok (F23.r3 Post N2)))))))) (r_seq (r_region T0_ok (F23.r1 Post)) r_ret))))
theorem F23.ac (Post : Value → AHeap → Prop) (x0 : Value) (H : AHeap) (h : F23.B8 Post x0 H) : AC Try.prog T0 23 [x0] H Post :=
  r_fn T0_ok (c := F23.code) (n := 23) Try.func23 F23.body (by kernel_rfl) (F23.main Post) (lenM (by kernel_rfl) (h))

-- loop.example/g01329/impl.graphCode
noncomputable def F24.ret (Post : Value → AHeap → Prop) : EP := retE T0 12 Try.f24 Post
noncomputable def F24.o1 : List Oper := opsIn (codeAt (bodyOf Try.f24) [.r, .r, .l])
def F24.B1 (Post : Value → AHeap → Prop) (H : AHeap) : Prop :=
  Post (Value.int .i64 0) H
def F24.B1.e (Post : Value → AHeap → Prop) : EP := fun env H => pif (Nat.beq (List.length env) 12) (F24.B1 Post H) False
theorem F24.q1 (u : Nat → Value) (Post : Value → AHeap → Prop) (H : AHeap) : aOps Try.prog T0 F24.o1 F24.o1 (mkEnv u 12 0) H (F24.ret Post) = F24.B1 Post H := by kernel_rfl
theorem F24.r1 (Post : Value → AHeap → Prop) : ∀ env H, F24.B1.e Post env H → aOps Try.prog T0 F24.o1 F24.o1 env H (F24.ret Post) := by
  intro env H h
  obtain ⟨hl, h⟩ := lenE h
  exact use_ops hl rfl ((F24.q1 _ Post H).mpr h)
noncomputable def F24.o2 : List Oper := opsIn (codeAt (bodyOf Try.f24) [.r, .l, .l, .r, .l, .l])
def F24.B2 (Post : Value → AHeap → Prop) (H : AHeap) : Prop :=
  Post (Value.int .i64 1) H
def F24.B2.e (Post : Value → AHeap → Prop) : EP := fun env H => pif (Nat.beq (List.length env) 12) (F24.B2 Post H) False
theorem F24.q2 (u : Nat → Value) (Post : Value → AHeap → Prop) (H : AHeap) : aOps Try.prog T0 F24.o2 F24.o2 (mkEnv u 12 0) H (F24.ret Post) = F24.B2 Post H := by kernel_rfl
theorem F24.r2 (Post : Value → AHeap → Prop) : ∀ env H, F24.B2.e Post env H → aOps Try.prog T0 F24.o2 F24.o2 env H (F24.ret Post) := by
  intro env H h
  obtain ⟨hl, h⟩ := lenE h
  exact use_ops hl rfl ((F24.q2 _ Post H).mpr h)
noncomputable def F24.o3 : List Oper := opsIn (codeAt (bodyOf Try.f24) [.r, .l, .l, .r, .r, .r, .l, .l])
def F24.B3 (Post : Value → AHeap → Prop) (H : AHeap) : Prop :=
  Post (Value.int .i64 2) H
def F24.B3.e (Post : Value → AHeap → Prop) : EP := fun env H => pif (Nat.beq (List.length env) 12) (F24.B3 Post H) False
theorem F24.q3 (u : Nat → Value) (Post : Value → AHeap → Prop) (H : AHeap) : aOps Try.prog T0 F24.o3 F24.o3 (mkEnv u 12 0) H (F24.ret Post) = F24.B3 Post H := by kernel_rfl
theorem F24.r3 (Post : Value → AHeap → Prop) : ∀ env H, F24.B3.e Post env H → aOps Try.prog T0 F24.o3 F24.o3 env H (F24.ret Post) := by
  intro env H h
  obtain ⟨hl, h⟩ := lenE h
  exact use_ops hl rfl ((F24.q3 _ Post H).mpr h)
noncomputable def F24.o4 : List Oper := opsIn (codeAt (bodyOf Try.f24) [.r, .l, .l, .r, .r, .l])
def F24.B4 (Post : Value → AHeap → Prop) (x1 : Bool) (H : AHeap) : Prop :=
  pif (!x1) (F24.B3 Post H) (F24.B1 Post H)
def F24.B4.e (Post : Value → AHeap → Prop) : EP := fun env H => pif (Nat.beq (List.length env) 12) (asB (List.getD env 1 undef) (fun x1 => F24.B4 Post x1 H)) False
theorem F24.q4 (u : Nat → Value) (Post : Value → AHeap → Prop) (x1 : Bool) (H : AHeap) : aOps Try.prog T0 F24.o4 F24.o4 (mkEnv (upd u 1 (Value.bool x1)) 12 0) H (fun env H => asB (aev env (.tmp 9)) (fun b => pif b ((F24.B3.e Post) env H) ((F24.B1.e Post) env H))) = F24.B4 Post x1 H := by kernel_rfl
theorem F24.r4 (Post : Value → AHeap → Prop) : ∀ env H, F24.B4.e Post env H → aOps Try.prog T0 F24.o4 F24.o4 env H (fun env H => asB (aev env (.tmp 9)) (fun b => pif b ((F24.B3.e Post) env H) ((F24.B1.e Post) env H))) := by
  intro env H h
  obtain ⟨hl, h⟩ := lenE h
  obtain ⟨x1, e1, h⟩ := asB_elim h
  exact use_ops hl (upd_step rfl e1) ((F24.q4 _ Post x1 H).mpr h)
noncomputable def F24.o5 : List Oper := opsIn (codeAt (bodyOf Try.f24) [.r, .l, .l, .l])
def F24.B5 (Post : Value → AHeap → Prop) (x1 : Bool) (x2 : Nat) (H : AHeap) : Prop :=
  ldI .i64 H x2 0 (fun v1 => ld1 H x2 1 (fun v2 => AC Try.prog T0 35 [(Value.agg ⟨[(Value.int .i64 v1), v2]⟩)] H (fun v3 H4 => asB v3 (fun v5 => pif (!v5) (F24.B2 Post H4) (F24.B4 Post x1 H4)))))
def F24.B5.e (Post : Value → AHeap → Prop) : EP := fun env H => pif (Nat.beq (List.length env) 12) (asB (List.getD env 1 undef) (fun x1 => asX (List.getD env 2 undef) (fun x2 => F24.B5 Post x1 x2 H))) False
theorem F24.q5 (u : Nat → Value) (Post : Value → AHeap → Prop) (x1 : Bool) (x2 : Nat) (H : AHeap) : aOps Try.prog T0 F24.o5 F24.o5 (mkEnv (upd (upd u 1 (Value.bool x1)) 2 (Value.pointer (some ⟨x2, 0, none⟩))) 12 0) H (fun env H => asB (aev env (.tmp 5)) (fun b => pif b ((F24.B2.e Post) env H) ((F24.B4.e Post) env H))) = F24.B5 Post x1 x2 H := by kernel_rfl
theorem F24.r5 (Post : Value → AHeap → Prop) : ∀ env H, F24.B5.e Post env H → aOps Try.prog T0 F24.o5 F24.o5 env H (fun env H => asB (aev env (.tmp 5)) (fun b => pif b ((F24.B2.e Post) env H) ((F24.B4.e Post) env H))) := by
  intro env H h
  obtain ⟨hl, h⟩ := lenE h
  obtain ⟨x1, e1, h⟩ := asB_elim h
  obtain ⟨x2, e2, h⟩ := asX_elim h
  exact use_ops hl (upd_step (upd_step rfl e1) e2) ((F24.q5 _ Post x1 x2 H).mpr h)
noncomputable def F24.o6 : List Oper := opsIn (codeAt (bodyOf Try.f24) [.l])
def F24.B6 (Post : Value → AHeap → Prop) (x0a : Int) (x0b : Value) (x1 : Bool) (H : AHeap) : Prop :=
  newK H [(Value.int .i64 x0a), x0b] 31 (fun b1 H2 => F24.B5 Post x1 b1 H2)
def F24.B6.e (Post : Value → AHeap → Prop) : EP := fun env H => pif (Nat.beq (List.length env) 12) (as_iv (List.getD env 0 undef) (fun x0a x0b => asB (List.getD env 1 undef) (fun x1 => F24.B6 Post x0a x0b x1 H))) False
theorem F24.q6 (u : Nat → Value) (Post : Value → AHeap → Prop) (x0a : Int) (x0b : Value) (x1 : Bool) (H : AHeap) : aOps Try.prog T0 F24.o6 F24.o6 (mkEnv (upd (upd u 0 (Value.agg ⟨[(Value.int .i64 x0a), x0b]⟩)) 1 (Value.bool x1)) 12 0) H (F24.B5.e Post) = F24.B6 Post x0a x0b x1 H := by kernel_rfl
theorem F24.r6 (Post : Value → AHeap → Prop) : ∀ env H, F24.B6.e Post env H → aOps Try.prog T0 F24.o6 F24.o6 env H (F24.B5.e Post) := by
  intro env H h
  obtain ⟨hl, h⟩ := lenE h
  obtain ⟨x0a, x0b, e0, h⟩ := as_iv_elim h
  obtain ⟨x1, e1, h⟩ := asB_elim h
  exact use_ops hl (upd_step (upd_step rfl e0) e1) ((F24.q6 _ Post x0a x0b x1 H).mpr h)
noncomputable def F24.code : Code := (.seq (.region 0 ⟨F24.o6⟩ false) (.seq (.block 0 (.seq (.region 1 ⟨F24.o5⟩ false) (.cond (.tmp 5) (.seq (.region 2 ⟨F24.o2⟩ false) .ret) (.seq (.region 3 ⟨F24.o4⟩ false) (.cond (.tmp 9) (.seq (.region 4 ⟨F24.o3⟩ false) .ret) .skip))))) (.seq (.region 5 ⟨F24.o1⟩ false) .ret)))
theorem F24.body : Try.f24.body = some F24.code := by kernel_rfl
theorem F24.main (Post : Value → AHeap → Prop) : ∀ env H, F24.B6.e Post env H → AW Try.prog T0 F24.code env H (mkQ (F24.ret Post) (fun _ _ _ => False) (F24.ret Post)) :=
  (r_seq (r_region T0_ok (F24.r6 Post)) (r_seq (r_block (r_seq (r_region T0_ok (F24.r5 Post)) (r_cond rfl (r_seq (r_region T0_ok (F24.r2 Post)) r_ret) (r_seq (r_region T0_ok (F24.r4 Post)) (r_cond rfl (r_seq (r_region T0_ok (F24.r3 Post)) r_ret) r_skip))))) (r_seq (r_region T0_ok (F24.r1 Post)) r_ret)))
theorem F24.ac (Post : Value → AHeap → Prop) (x0a : Int) (x0b : Value) (x1 : Bool) (H : AHeap) (h : F24.B6 Post x0a x0b x1 H) : AC Try.prog T0 24 [(Value.agg ⟨[(Value.int .i64 x0a), x0b]⟩), (Value.bool x1)] H Post :=
  r_fn T0_ok (c := F24.code) (n := 12) Try.func24 F24.body (by kernel_rfl) (F24.main Post) (lenM (by kernel_rfl) (as_iv_mk' (by kernel_rfl) (asB_mk' (by kernel_rfl) (h))))

-- loop.example/g01329/impl.isSet
noncomputable def F25.ret (Post : Value → AHeap → Prop) : EP := retE T0 33 Try.f25 Post
noncomputable def F25.o1 : List Oper := opsIn (codeAt (bodyOf Try.f25) [.r, .r, .l])
def F25.B1 (Post : Value → AHeap → Prop) (H : AHeap) : Prop :=
  Post (Value.bool true) H
def F25.B1.e (Post : Value → AHeap → Prop) : EP := fun env H => pif (Nat.beq (List.length env) 33) (F25.B1 Post H) False
theorem F25.q1 (u : Nat → Value) (Post : Value → AHeap → Prop) (H : AHeap) : aOps Try.prog T0 F25.o1 F25.o1 (mkEnv u 33 0) H (F25.ret Post) = F25.B1 Post H := by kernel_rfl
theorem F25.r1 (Post : Value → AHeap → Prop) : ∀ env H, F25.B1.e Post env H → aOps Try.prog T0 F25.o1 F25.o1 env H (F25.ret Post) := by
  intro env H h
  obtain ⟨hl, h⟩ := lenE h
  exact use_ops hl rfl ((F25.q1 _ Post H).mpr h)
def F25.L2.ne (N : Value → Int → Value → Int → Int → AHeap → Prop) : EP := fun env H => pif (Nat.beq (List.length env) 33) (asI .i64 (List.getD env 1 undef) (fun x1 => asI .i64 (List.getD env 8 undef) (fun x8 => asI .i64 (List.getD env 9 undef) (fun x9 => N (List.getD env 0 undef) x1 (List.getD env 7 undef) x8 x9 H)))) False
noncomputable def F25.o3 : List Oper := opsIn (codeAt (bodyOf Try.f25) [.r, .l, .r, .l, .l, .r, .r, .r])
def F25.B3 (Post : Value → AHeap → Prop) (N2 : Value → Int → Value → Int → Int → AHeap → Prop) (x0 : Value) (x1 : Int) (x7 : Value) (x8 : Int) (x9 : Int) (H : AHeap) : Prop :=
  N2 x0 x1 x7 x8 (IntKind.i64.wrap (x9 + 1)) H
def F25.B3.e (Post : Value → AHeap → Prop) (N2 : Value → Int → Value → Int → Int → AHeap → Prop) : EP := fun env H => pif (Nat.beq (List.length env) 33) (asI .i64 (List.getD env 1 undef) (fun x1 => asI .i64 (List.getD env 8 undef) (fun x8 => asI .i64 (List.getD env 9 undef) (fun x9 => F25.B3 Post N2 (List.getD env 0 undef) x1 (List.getD env 7 undef) x8 x9 H)))) False
theorem F25.q3 (u : Nat → Value) (Post : Value → AHeap → Prop) (N2 : Value → Int → Value → Int → Int → AHeap → Prop) (x0 : Value) (x1 : Int) (x7 : Value) (x8 : Int) (x9 : Int) (H : AHeap) : aOps Try.prog T0 F25.o3 F25.o3 (mkEnv (upd (upd (upd (upd (upd u 0 x0) 1 (Value.int .i64 x1)) 7 x7) 8 (Value.int .i64 x8)) 9 (Value.int .i64 x9)) 33 0) H (F25.L2.ne N2) = F25.B3 Post N2 x0 x1 x7 x8 x9 H := by kernel_rfl
theorem F25.r3 (Post : Value → AHeap → Prop) (N2 : Value → Int → Value → Int → Int → AHeap → Prop) : ∀ env H, F25.B3.e Post N2 env H → aOps Try.prog T0 F25.o3 F25.o3 env H (F25.L2.ne N2) := by
  intro env H h
  obtain ⟨hl, h⟩ := lenE h
  obtain ⟨x1, e1, h⟩ := asI_elim h
  obtain ⟨x8, e8, h⟩ := asI_elim h
  obtain ⟨x9, e9, h⟩ := asI_elim h
  exact use_ops hl (upd_step (upd_step (upd_step (upd_step (upd_step rfl rfl) e1) rfl) e8) e9) ((F25.q3 _ Post N2 (List.getD env 0 undef) x1 (List.getD env 7 undef) x8 x9 H).mpr h)
noncomputable def F25.o4 : List Oper := opsIn (codeAt (bodyOf Try.f25) [.r, .l, .r, .l, .l, .r, .r, .l, .l, .r, .r, .l, .l])
def F25.B4 (Post : Value → AHeap → Prop) (N2 : Value → Int → Value → Int → Int → AHeap → Prop) (H : AHeap) : Prop :=
  Post (Value.bool false) H
def F25.B4.e (Post : Value → AHeap → Prop) (N2 : Value → Int → Value → Int → Int → AHeap → Prop) : EP := fun env H => pif (Nat.beq (List.length env) 33) (F25.B4 Post N2 H) False
theorem F25.q4 (u : Nat → Value) (Post : Value → AHeap → Prop) (N2 : Value → Int → Value → Int → Int → AHeap → Prop) (H : AHeap) : aOps Try.prog T0 F25.o4 F25.o4 (mkEnv u 33 0) H (F25.ret Post) = F25.B4 Post N2 H := by kernel_rfl
theorem F25.r4 (Post : Value → AHeap → Prop) (N2 : Value → Int → Value → Int → Int → AHeap → Prop) : ∀ env H, F25.B4.e Post N2 env H → aOps Try.prog T0 F25.o4 F25.o4 env H (F25.ret Post) := by
  intro env H h
  obtain ⟨hl, h⟩ := lenE h
  exact use_ops hl rfl ((F25.q4 _ Post N2 H).mpr h)
noncomputable def F25.o5 : List Oper := opsIn (codeAt (bodyOf Try.f25) [.r, .l, .r, .l, .l, .r, .r, .l, .l, .r, .l])
def F25.B5 (Post : Value → AHeap → Prop) (N2 : Value → Int → Value → Int → Int → AHeap → Prop) (x0 : Value) (x1 : Int) (x5 : Int) (x6 : Int) (x7 : Value) (x8 : Int) (x9 : Int) (H : AHeap) : Prop :=
  AC Try.prog T0 40 [(Value.int .i64 x6), (Value.int .i64 0), (Value.int .i64 (IntKind.i64.wrap (x1 - 1)))] H (fun v1 H2 => asB v1 (fun v3 => pif (!v3) (F25.B4 Post N2 H2) (pif (decide ((x5 : Int) > 0)) (idxK x0 (IntKind.i64.wrap (x5 - 1)) 1 (fun b4 o5 => ldI .i64 H2 b4 o5 (fun v6 => pif (decide ((x6 : Int) ≤ v6)) (F25.B4 Post N2 H2) (F25.B3 Post N2 x0 x1 x7 x8 x9 H2)))) (F25.B3 Post N2 x0 x1 x7 x8 x9 H2))))
def F25.B5.e (Post : Value → AHeap → Prop) (N2 : Value → Int → Value → Int → Int → AHeap → Prop) : EP := fun env H => pif (Nat.beq (List.length env) 33) (asI .i64 (List.getD env 1 undef) (fun x1 => asI .i64 (List.getD env 5 undef) (fun x5 => asI .i64 (List.getD env 6 undef) (fun x6 => asI .i64 (List.getD env 8 undef) (fun x8 => asI .i64 (List.getD env 9 undef) (fun x9 => F25.B5 Post N2 (List.getD env 0 undef) x1 x5 x6 (List.getD env 7 undef) x8 x9 H)))))) False
theorem F25.q5 (u : Nat → Value) (Post : Value → AHeap → Prop) (N2 : Value → Int → Value → Int → Int → AHeap → Prop) (x0 : Value) (x1 : Int) (x5 : Int) (x6 : Int) (x7 : Value) (x8 : Int) (x9 : Int) (H : AHeap) : aOps Try.prog T0 F25.o5 F25.o5 (mkEnv (upd (upd (upd (upd (upd (upd (upd u 0 x0) 1 (Value.int .i64 x1)) 5 (Value.int .i64 x5)) 6 (Value.int .i64 x6)) 7 x7) 8 (Value.int .i64 x8)) 9 (Value.int .i64 x9)) 33 0) H (fun env H => asB (aev env (.tmp 31)) (fun b => pif b ((F25.B4.e Post N2) env H) ((F25.B3.e Post N2) env H))) = F25.B5 Post N2 x0 x1 x5 x6 x7 x8 x9 H := by kernel_rfl
theorem F25.r5 (Post : Value → AHeap → Prop) (N2 : Value → Int → Value → Int → Int → AHeap → Prop) : ∀ env H, F25.B5.e Post N2 env H → aOps Try.prog T0 F25.o5 F25.o5 env H (fun env H => asB (aev env (.tmp 31)) (fun b => pif b ((F25.B4.e Post N2) env H) ((F25.B3.e Post N2) env H))) := by
  intro env H h
  obtain ⟨hl, h⟩ := lenE h
  obtain ⟨x1, e1, h⟩ := asI_elim h
  obtain ⟨x5, e5, h⟩ := asI_elim h
  obtain ⟨x6, e6, h⟩ := asI_elim h
  obtain ⟨x8, e8, h⟩ := asI_elim h
  obtain ⟨x9, e9, h⟩ := asI_elim h
  exact use_ops hl (upd_step (upd_step (upd_step (upd_step (upd_step (upd_step (upd_step rfl rfl) e1) e5) e6) rfl) e8) e9) ((F25.q5 _ Post N2 (List.getD env 0 undef) x1 x5 x6 (List.getD env 7 undef) x8 x9 H).mpr h)
noncomputable def F25.o6 : List Oper := opsIn (codeAt (bodyOf Try.f25) [.r, .l, .r, .l, .l, .r, .r, .l, .l, .l])
def F25.B6 (Post : Value → AHeap → Prop) (N2 : Value → Int → Value → Int → Int → AHeap → Prop) (x0 : Value) (x1 : Int) (x7 : Value) (x8 : Int) (x9 : Int) (H : AHeap) : Prop :=
  idxK x7 x9 1 (fun b1 o2 => ldI .i64 H b1 o2 (fun v3 => F25.B5 Post N2 x0 x1 x9 v3 x7 x8 x9 H))
def F25.B6.e (Post : Value → AHeap → Prop) (N2 : Value → Int → Value → Int → Int → AHeap → Prop) : EP := fun env H => pif (Nat.beq (List.length env) 33) (asI .i64 (List.getD env 1 undef) (fun x1 => asI .i64 (List.getD env 8 undef) (fun x8 => asI .i64 (List.getD env 9 undef) (fun x9 => F25.B6 Post N2 (List.getD env 0 undef) x1 (List.getD env 7 undef) x8 x9 H)))) False
theorem F25.q6 (u : Nat → Value) (Post : Value → AHeap → Prop) (N2 : Value → Int → Value → Int → Int → AHeap → Prop) (x0 : Value) (x1 : Int) (x7 : Value) (x8 : Int) (x9 : Int) (H : AHeap) : aOps Try.prog T0 F25.o6 F25.o6 (mkEnv (upd (upd (upd (upd (upd u 0 x0) 1 (Value.int .i64 x1)) 7 x7) 8 (Value.int .i64 x8)) 9 (Value.int .i64 x9)) 33 0) H (F25.B5.e Post N2) = F25.B6 Post N2 x0 x1 x7 x8 x9 H := by kernel_rfl
theorem F25.r6 (Post : Value → AHeap → Prop) (N2 : Value → Int → Value → Int → Int → AHeap → Prop) : ∀ env H, F25.B6.e Post N2 env H → aOps Try.prog T0 F25.o6 F25.o6 env H (F25.B5.e Post N2) := by
  intro env H h
  obtain ⟨hl, h⟩ := lenE h
  obtain ⟨x1, e1, h⟩ := asI_elim h
  obtain ⟨x8, e8, h⟩ := asI_elim h
  obtain ⟨x9, e9, h⟩ := asI_elim h
  exact use_ops hl (upd_step (upd_step (upd_step (upd_step (upd_step rfl rfl) e1) rfl) e8) e9) ((F25.q6 _ Post N2 (List.getD env 0 undef) x1 (List.getD env 7 undef) x8 x9 H).mpr h)
noncomputable def F25.o7 : List Oper := opsIn (codeAt (bodyOf Try.f25) [.r, .l, .r, .l, .l, .l])
def F25.B7 (Post : Value → AHeap → Prop) (N2 : Value → Int → Value → Int → Int → AHeap → Prop) (x0 : Value) (x1 : Int) (x7 : Value) (x8 : Int) (x9 : Int) (H : AHeap) : Prop :=
  pif (decide ((x9 : Int) < x8)) (F25.B6 Post N2 x0 x1 x7 x8 x9 H) (F25.B1 Post H)
def F25.B7.e (Post : Value → AHeap → Prop) (N2 : Value → Int → Value → Int → Int → AHeap → Prop) : EP := fun env H => pif (Nat.beq (List.length env) 33) (asI .i64 (List.getD env 1 undef) (fun x1 => asI .i64 (List.getD env 8 undef) (fun x8 => asI .i64 (List.getD env 9 undef) (fun x9 => F25.B7 Post N2 (List.getD env 0 undef) x1 (List.getD env 7 undef) x8 x9 H)))) False
theorem F25.q7 (u : Nat → Value) (Post : Value → AHeap → Prop) (N2 : Value → Int → Value → Int → Int → AHeap → Prop) (x0 : Value) (x1 : Int) (x7 : Value) (x8 : Int) (x9 : Int) (H : AHeap) : aOps Try.prog T0 F25.o7 F25.o7 (mkEnv (upd (upd (upd (upd (upd u 0 x0) 1 (Value.int .i64 x1)) 7 x7) 8 (Value.int .i64 x8)) 9 (Value.int .i64 x9)) 33 0) H (fun env H => asB (aev env (.tmp 10)) (fun b => pif b ((F25.B6.e Post N2) env H) ((F25.B1.e Post) env H))) = F25.B7 Post N2 x0 x1 x7 x8 x9 H := by kernel_rfl
theorem F25.r7 (Post : Value → AHeap → Prop) (N2 : Value → Int → Value → Int → Int → AHeap → Prop) : ∀ env H, F25.B7.e Post N2 env H → aOps Try.prog T0 F25.o7 F25.o7 env H (fun env H => asB (aev env (.tmp 10)) (fun b => pif b ((F25.B6.e Post N2) env H) ((F25.B1.e Post) env H))) := by
  intro env H h
  obtain ⟨hl, h⟩ := lenE h
  obtain ⟨x1, e1, h⟩ := asI_elim h
  obtain ⟨x8, e8, h⟩ := asI_elim h
  obtain ⟨x9, e9, h⟩ := asI_elim h
  exact use_ops hl (upd_step (upd_step (upd_step (upd_step (upd_step rfl rfl) e1) rfl) e8) e9) ((F25.q7 _ Post N2 (List.getD env 0 undef) x1 (List.getD env 7 undef) x8 x9 H).mpr h)
def F25.L2 (Post : Value → AHeap → Prop) (x0 : Value) (x1 : Int) (x7 : Value) (x8 : Int) (x9 : Int) (H : AHeap) : Prop :=
  ∃ (I : Value → Int → Value → Int → Int → AHeap → Prop) (μ : Value → Int → Value → Int → Int → AHeap → Nat), I x0 x1 x7 x8 x9 H ∧ ∀ x0' x1' x7' x8' x9' H', I x0' x1' x7' x8' x9' H' → F25.B7 Post (fun x0'' x1'' x7'' x8'' x9'' H'' => I x0'' x1'' x7'' x8'' x9'' H'' ∧ μ x0'' x1'' x7'' x8'' x9'' H'' < μ x0' x1' x7' x8' x9' H') x0' x1' x7' x8' x9' H'
def F25.L2.e (Post : Value → AHeap → Prop) : EP := fun env H => pif (Nat.beq (List.length env) 33) (asI .i64 (List.getD env 1 undef) (fun x1 => asI .i64 (List.getD env 8 undef) (fun x8 => asI .i64 (List.getD env 9 undef) (fun x9 => F25.L2 Post (List.getD env 0 undef) x1 (List.getD env 7 undef) x8 x9 H)))) False
theorem F25.l2 (Post : Value → AHeap → Prop) {c : Code} {K : EP} {X : Nat → EP}
    (hb : ∀ N2 : Value → Int → Value → Int → Int → AHeap → Prop, ∀ env H, (F25.B7.e Post N2) env H → AW Try.prog T0 c env H (mkQ (F25.L2.ne N2) X (F25.ret Post))) :
    ∀ env H, F25.L2.e Post env H → AW Try.prog T0 (.loop c) env H (mkQ K X (F25.ret Post)) := by
  intro env H h
  obtain ⟨hl, h⟩ := lenE h
  obtain ⟨x1, e1, h⟩ := asI_elim h
  obtain ⟨x8, e8, h⟩ := asI_elim h
  obtain ⟨x9, e9, h⟩ := asI_elim h
  obtain ⟨I, μ, h0, hI⟩ := h
  refine r_loop (fun n env H => pif (Nat.beq (List.length env) 33) (asI .i64 (List.getD env 1 undef) (fun x1 => asI .i64 (List.getD env 8 undef) (fun x8 => asI .i64 (List.getD env 9 undef) (fun x9 => (I (List.getD env 0 undef) x1 (List.getD env 7 undef) x8 x9 H) ∧ (μ (List.getD env 0 undef) x1 (List.getD env 7 undef) x8 x9 H = n))))) False) ?_ env H ⟨μ (List.getD env 0 undef) x1 (List.getD env 7 undef) x8 x9 H, lenM hl (asI_mk' e1 (asI_mk' e8 (asI_mk' e9 (⟨h0, rfl⟩))))⟩
  intro n env' H' h
  obtain ⟨hl', h⟩ := lenE h
  obtain ⟨x1', e1', h⟩ := asI_elim h
  obtain ⟨x8', e8', h⟩ := asI_elim h
  obtain ⟨x9', e9', h⟩ := asI_elim h
  obtain ⟨hi, hm⟩ := h
  refine r_imp (hb (fun x0'' x1'' x7'' x8'' x9'' H'' => I x0'' x1'' x7'' x8'' x9'' H'' ∧ μ x0'' x1'' x7'' x8'' x9'' H'' < n)) ?_ env' H' ?_
  · intro env H h
    obtain ⟨hl'', h⟩ := lenE h
    obtain ⟨x1'', e1'', h⟩ := asI_elim h
    obtain ⟨x8'', e8'', h⟩ := asI_elim h
    obtain ⟨x9'', e9'', h⟩ := asI_elim h
    obtain ⟨hi, hlt⟩ := h
    exact ⟨_, hlt, lenM hl'' (asI_mk' e1'' (asI_mk' e8'' (asI_mk' e9'' (⟨hi, rfl⟩))))⟩
  · have h := hI (List.getD env' 0 undef) x1' (List.getD env' 7 undef) x8' x9' H' hi
    rw [hm] at h
    exact lenM hl' (asI_mk' e1' (asI_mk' e8' (asI_mk' e9' (h))))
noncomputable def F25.o8 : List Oper := opsIn (codeAt (bodyOf Try.f25) [.r, .l, .l])
def F25.B8 (Post : Value → AHeap → Prop) (x0 : Value) (x1 : Int) (H : AHeap) : Prop :=
  lenK x0 (fun n1 => F25.L2 Post x0 x1 x0 (n1 : Int) 0 H)
def F25.B8.e (Post : Value → AHeap → Prop) : EP := fun env H => pif (Nat.beq (List.length env) 33) (asI .i64 (List.getD env 1 undef) (fun x1 => F25.B8 Post (List.getD env 0 undef) x1 H)) False
theorem F25.q8 (u : Nat → Value) (Post : Value → AHeap → Prop) (x0 : Value) (x1 : Int) (H : AHeap) : aOps Try.prog T0 F25.o8 F25.o8 (mkEnv (upd (upd u 0 x0) 1 (Value.int .i64 x1)) 33 0) H (F25.L2.e Post) = F25.B8 Post x0 x1 H := by kernel_rfl
theorem F25.r8 (Post : Value → AHeap → Prop) : ∀ env H, F25.B8.e Post env H → aOps Try.prog T0 F25.o8 F25.o8 env H (F25.L2.e Post) := by
  intro env H h
  obtain ⟨hl, h⟩ := lenE h
  obtain ⟨x1, e1, h⟩ := asI_elim h
  exact use_ops hl (upd_step (upd_step rfl rfl) e1) ((F25.q8 _ Post (List.getD env 0 undef) x1 H).mpr h)
noncomputable def F25.o9 : List Oper := opsIn (codeAt (bodyOf Try.f25) [.l])
def F25.B9 (Post : Value → AHeap → Prop) (x0 : Value) (x1 : Int) (H : AHeap) : Prop :=
  F25.B8 Post x0 x1 H
def F25.B9.e (Post : Value → AHeap → Prop) : EP := fun env H => pif (Nat.beq (List.length env) 33) (asI .i64 (List.getD env 1 undef) (fun x1 => F25.B9 Post (List.getD env 0 undef) x1 H)) False
theorem F25.q9 (u : Nat → Value) (Post : Value → AHeap → Prop) (x0 : Value) (x1 : Int) (H : AHeap) : aOps Try.prog T0 F25.o9 F25.o9 (mkEnv (upd (upd u 0 x0) 1 (Value.int .i64 x1)) 33 0) H (F25.B8.e Post) = F25.B9 Post x0 x1 H := by kernel_rfl
theorem F25.r9 (Post : Value → AHeap → Prop) : ∀ env H, F25.B9.e Post env H → aOps Try.prog T0 F25.o9 F25.o9 env H (F25.B8.e Post) := by
  intro env H h
  obtain ⟨hl, h⟩ := lenE h
  obtain ⟨x1, e1, h⟩ := asI_elim h
  exact use_ops hl (upd_step (upd_step rfl rfl) e1) ((F25.q9 _ Post (List.getD env 0 undef) x1 H).mpr h)
noncomputable def F25.code : Code := (.seq (.region 0 ⟨F25.o9⟩ false) (.seq (.seq (.region 1 ⟨F25.o8⟩ false) (.block 0 (.loop (.seq (.region 2 ⟨F25.o7⟩ false) (.seq (.cond (.tmp 10) .skip (.exit 0)) (.seq (.block 1 (.seq (.region 3 ⟨F25.o6⟩ false) (.seq (.region 4 ⟨F25.o5⟩ false) (.cond (.tmp 31) (.seq (.region 5 ⟨F25.o4⟩ false) .ret) .skip)))) (.region 6 ⟨F25.o3⟩ false))))))) (.seq (.region 7 ⟨F25.o1⟩ false) .ret)))
theorem F25.body : Try.f25.body = some F25.code := by kernel_rfl
theorem F25.main (Post : Value → AHeap → Prop) : ∀ env H, F25.B9.e Post env H → AW Try.prog T0 F25.code env H (mkQ (F25.ret Post) (fun _ _ _ => False) (F25.ret Post)) :=
  (r_seq (r_region T0_ok (F25.r9 Post)) (r_seq (r_seq (r_region T0_ok (F25.r8 Post)) (r_block (F25.l2 Post (fun N2 => (r_seq (r_region T0_ok (F25.r7 Post N2)) (r_seq (r_cond rfl r_skip (r_exit (fun _ _ h => h))) (r_seq (r_block (r_seq (r_region T0_ok (F25.r6 Post N2)) (r_seq (r_region T0_ok (F25.r5 Post N2)) (r_cond rfl (r_seq (r_region T0_ok (F25.r4 Post N2)) r_ret) r_skip)))) (r_region T0_ok (F25.r3 Post N2))))))))) (r_seq (r_region T0_ok (F25.r1 Post)) r_ret)))
theorem F25.ac (Post : Value → AHeap → Prop) (x0 : Value) (x1 : Int) (H : AHeap) (h : F25.B9 Post x0 x1 H) : AC Try.prog T0 25 [x0, (Value.int .i64 x1)] H Post :=
  r_fn T0_ok (c := F25.code) (n := 33) Try.func25 F25.body (by kernel_rfl) (F25.main Post) (lenM (by kernel_rfl) (asI_mk' (by kernel_rfl) (h)))

-- loop.example/g01329/impl.length[loop.example/g01329/impl.Edge]
noncomputable def F26.ret (Post : Value → AHeap → Prop) : EP := retE T0 5 Try.f26 Post
noncomputable def F26.o1 : List Oper := opsIn (codeAt (bodyOf Try.f26) [.r, .l])
def F26.B1 (Post : Value → AHeap → Prop) (x0 : Value) (H : AHeap) : Prop :=
  lenK x0 (fun n1 => Post (Value.int .i64 (n1 : Int)) H)
def F26.B1.e (Post : Value → AHeap → Prop) : EP := fun env H => pif (Nat.beq (List.length env) 5) (F26.B1 Post (List.getD env 0 undef) H) False
theorem F26.q1 (u : Nat → Value) (Post : Value → AHeap → Prop) (x0 : Value) (H : AHeap) : aOps Try.prog T0 F26.o1 F26.o1 (mkEnv (upd u 0 x0) 5 0) H (F26.ret Post) = F26.B1 Post x0 H := by kernel_rfl
theorem F26.r1 (Post : Value → AHeap → Prop) : ∀ env H, F26.B1.e Post env H → aOps Try.prog T0 F26.o1 F26.o1 env H (F26.ret Post) := by
  intro env H h
  obtain ⟨hl, h⟩ := lenE h
  exact use_ops hl (upd_step rfl rfl) ((F26.q1 _ Post (List.getD env 0 undef) H).mpr h)
noncomputable def F26.o2 : List Oper := opsIn (codeAt (bodyOf Try.f26) [.l])
def F26.B2 (Post : Value → AHeap → Prop) (x0 : Value) (H : AHeap) : Prop :=
  F26.B1 Post x0 H
def F26.B2.e (Post : Value → AHeap → Prop) : EP := fun env H => pif (Nat.beq (List.length env) 5) (F26.B2 Post (List.getD env 0 undef) H) False
theorem F26.q2 (u : Nat → Value) (Post : Value → AHeap → Prop) (x0 : Value) (H : AHeap) : aOps Try.prog T0 F26.o2 F26.o2 (mkEnv (upd u 0 x0) 5 0) H (F26.B1.e Post) = F26.B2 Post x0 H := by kernel_rfl
theorem F26.r2 (Post : Value → AHeap → Prop) : ∀ env H, F26.B2.e Post env H → aOps Try.prog T0 F26.o2 F26.o2 env H (F26.B1.e Post) := by
  intro env H h
  obtain ⟨hl, h⟩ := lenE h
  exact use_ops hl (upd_step rfl rfl) ((F26.q2 _ Post (List.getD env 0 undef) H).mpr h)
noncomputable def F26.code : Code := (.seq (.region 0 ⟨F26.o2⟩ false) (.seq (.region 1 ⟨F26.o1⟩ false) .ret))
theorem F26.body : Try.f26.body = some F26.code := by kernel_rfl
theorem F26.main (Post : Value → AHeap → Prop) : ∀ env H, F26.B2.e Post env H → AW Try.prog T0 F26.code env H (mkQ (F26.ret Post) (fun _ _ _ => False) (F26.ret Post)) :=
  (r_seq (r_region T0_ok (F26.r2 Post)) (r_seq (r_region T0_ok (F26.r1 Post)) r_ret))
theorem F26.ac (Post : Value → AHeap → Prop) (x0 : Value) (H : AHeap) (h : F26.B2 Post x0 H) : AC Try.prog T0 26 [x0] H Post :=
  r_fn T0_ok (c := F26.code) (n := 5) Try.func26 F26.body (by kernel_rfl) (F26.main Post) (lenM (by kernel_rfl) (h))

-- loop.example/g01329/impl.setOf
noncomputable def F27.ret (Post : Value → AHeap → Prop) : EP := retE T0 18 Try.f27 Post
noncomputable def F27.o1 : List Oper := opsIn (codeAt (bodyOf Try.f27) [.r, .r, .r, .l])
def F27.B1 (Post : Value → AHeap → Prop) (x3 : Int) (H : AHeap) : Prop :=
  Post (Value.int .u64 x3) H
def F27.B1.e (Post : Value → AHeap → Prop) : EP := fun env H => pif (Nat.beq (List.length env) 18) (asI .u64 (List.getD env 3 undef) (fun x3 => F27.B1 Post x3 H)) False
theorem F27.q1 (u : Nat → Value) (Post : Value → AHeap → Prop) (x3 : Int) (H : AHeap) : aOps Try.prog T0 F27.o1 F27.o1 (mkEnv (upd u 3 (Value.int .u64 x3)) 18 0) H (F27.ret Post) = F27.B1 Post x3 H := by kernel_rfl
theorem F27.r1 (Post : Value → AHeap → Prop) : ∀ env H, F27.B1.e Post env H → aOps Try.prog T0 F27.o1 F27.o1 env H (F27.ret Post) := by
  intro env H h
  obtain ⟨hl, h⟩ := lenE h
  obtain ⟨x3, e3, h⟩ := asI_elim h
  exact use_ops hl (upd_step rfl e3) ((F27.q1 _ Post x3 H).mpr h)
def F27.L2.ne (N : Int → Value → Int → Int → AHeap → Prop) : EP := fun env H => pif (Nat.beq (List.length env) 18) (asI .u64 (List.getD env 3 undef) (fun x3 => asI .i64 (List.getD env 7 undef) (fun x7 => asI .i64 (List.getD env 8 undef) (fun x8 => N x3 (List.getD env 6 undef) x7 x8 H)))) False
noncomputable def F27.o3 : List Oper := opsIn (codeAt (bodyOf Try.f27) [.r, .r, .l, .r, .l, .l, .r, .r, .r])
def F27.B3 (Post : Value → AHeap → Prop) (N2 : Int → Value → Int → Int → AHeap → Prop) (x3 : Int) (x6 : Value) (x7 : Int) (x8 : Int) (H : AHeap) : Prop :=
  N2 x3 x6 x7 (IntKind.i64.wrap (x8 + 1)) H
def F27.B3.e (Post : Value → AHeap → Prop) (N2 : Int → Value → Int → Int → AHeap → Prop) : EP := fun env H => pif (Nat.beq (List.length env) 18) (asI .u64 (List.getD env 3 undef) (fun x3 => asI .i64 (List.getD env 7 undef) (fun x7 => asI .i64 (List.getD env 8 undef) (fun x8 => F27.B3 Post N2 x3 (List.getD env 6 undef) x7 x8 H)))) False
theorem F27.q3 (u : Nat → Value) (Post : Value → AHeap → Prop) (N2 : Int → Value → Int → Int → AHeap → Prop) (x3 : Int) (x6 : Value) (x7 : Int) (x8 : Int) (H : AHeap) : aOps Try.prog T0 F27.o3 F27.o3 (mkEnv (upd (upd (upd (upd u 3 (Value.int .u64 x3)) 6 x6) 7 (Value.int .i64 x7)) 8 (Value.int .i64 x8)) 18 0) H (F27.L2.ne N2) = F27.B3 Post N2 x3 x6 x7 x8 H := by kernel_rfl
theorem F27.r3 (Post : Value → AHeap → Prop) (N2 : Int → Value → Int → Int → AHeap → Prop) : ∀ env H, F27.B3.e Post N2 env H → aOps Try.prog T0 F27.o3 F27.o3 env H (F27.L2.ne N2) := by
  intro env H h
  obtain ⟨hl, h⟩ := lenE h
  obtain ⟨x3, e3, h⟩ := asI_elim h
  obtain ⟨x7, e7, h⟩ := asI_elim h
  obtain ⟨x8, e8, h⟩ := asI_elim h
  exact use_ops hl (upd_step (upd_step (upd_step (upd_step rfl e3) rfl) e7) e8) ((F27.q3 _ Post N2 x3 (List.getD env 6 undef) x7 x8 H).mpr h)
noncomputable def F27.o4 : List Oper := opsIn (codeAt (bodyOf Try.f27) [.r, .r, .l, .r, .l, .l, .r, .r, .l, .l, .r])
def F27.B4 (Post : Value → AHeap → Prop) (N2 : Int → Value → Int → Int → AHeap → Prop) (x3 : Int) (x5 : Int) (x6 : Value) (x7 : Int) (x8 : Int) (H : AHeap) : Prop :=
  (0 ≤ x5) ∧ (F27.B3 Post N2 (IntKind.u64.wrap (BitVec.ofInt 64 x3 ||| BitVec.ofInt 64 (IntKind.u64.wrap (1 * 2 ^ (min (Int.toNat x5) 64)))).toNat) x6 x7 x8 H)
def F27.B4.e (Post : Value → AHeap → Prop) (N2 : Int → Value → Int → Int → AHeap → Prop) : EP := fun env H => pif (Nat.beq (List.length env) 18) (asI .u64 (List.getD env 3 undef) (fun x3 => asI .i64 (List.getD env 5 undef) (fun x5 => asI .i64 (List.getD env 7 undef) (fun x7 => asI .i64 (List.getD env 8 undef) (fun x8 => F27.B4 Post N2 x3 x5 (List.getD env 6 undef) x7 x8 H))))) False
theorem F27.q4 (u : Nat → Value) (Post : Value → AHeap → Prop) (N2 : Int → Value → Int → Int → AHeap → Prop) (x3 : Int) (x5 : Int) (x6 : Value) (x7 : Int) (x8 : Int) (H : AHeap) : aOps Try.prog T0 F27.o4 F27.o4 (mkEnv (upd (upd (upd (upd (upd u 3 (Value.int .u64 x3)) 5 (Value.int .i64 x5)) 6 x6) 7 (Value.int .i64 x7)) 8 (Value.int .i64 x8)) 18 0) H (F27.B3.e Post N2) = F27.B4 Post N2 x3 x5 x6 x7 x8 H := by kernel_rfl
theorem F27.r4 (Post : Value → AHeap → Prop) (N2 : Int → Value → Int → Int → AHeap → Prop) : ∀ env H, F27.B4.e Post N2 env H → aOps Try.prog T0 F27.o4 F27.o4 env H (F27.B3.e Post N2) := by
  intro env H h
  obtain ⟨hl, h⟩ := lenE h
  obtain ⟨x3, e3, h⟩ := asI_elim h
  obtain ⟨x5, e5, h⟩ := asI_elim h
  obtain ⟨x7, e7, h⟩ := asI_elim h
  obtain ⟨x8, e8, h⟩ := asI_elim h
  exact use_ops hl (upd_step (upd_step (upd_step (upd_step (upd_step rfl e3) e5) rfl) e7) e8) ((F27.q4 _ Post N2 x3 x5 (List.getD env 6 undef) x7 x8 H).mpr h)
noncomputable def F27.o5 : List Oper := opsIn (codeAt (bodyOf Try.f27) [.r, .r, .l, .r, .l, .l, .r, .r, .l, .l, .l])
def F27.B5 (Post : Value → AHeap → Prop) (N2 : Int → Value → Int → Int → AHeap → Prop) (x3 : Int) (x6 : Value) (x7 : Int) (x8 : Int) (H : AHeap) : Prop :=
  idxK x6 x8 1 (fun b1 o2 => ldI .i64 H b1 o2 (fun v3 => F27.B4 Post N2 x3 v3 x6 x7 x8 H))
def F27.B5.e (Post : Value → AHeap → Prop) (N2 : Int → Value → Int → Int → AHeap → Prop) : EP := fun env H => pif (Nat.beq (List.length env) 18) (asI .u64 (List.getD env 3 undef) (fun x3 => asI .i64 (List.getD env 7 undef) (fun x7 => asI .i64 (List.getD env 8 undef) (fun x8 => F27.B5 Post N2 x3 (List.getD env 6 undef) x7 x8 H)))) False
theorem F27.q5 (u : Nat → Value) (Post : Value → AHeap → Prop) (N2 : Int → Value → Int → Int → AHeap → Prop) (x3 : Int) (x6 : Value) (x7 : Int) (x8 : Int) (H : AHeap) : aOps Try.prog T0 F27.o5 F27.o5 (mkEnv (upd (upd (upd (upd u 3 (Value.int .u64 x3)) 6 x6) 7 (Value.int .i64 x7)) 8 (Value.int .i64 x8)) 18 0) H (F27.B4.e Post N2) = F27.B5 Post N2 x3 x6 x7 x8 H := by kernel_rfl
theorem F27.r5 (Post : Value → AHeap → Prop) (N2 : Int → Value → Int → Int → AHeap → Prop) : ∀ env H, F27.B5.e Post N2 env H → aOps Try.prog T0 F27.o5 F27.o5 env H (F27.B4.e Post N2) := by
  intro env H h
  obtain ⟨hl, h⟩ := lenE h
  obtain ⟨x3, e3, h⟩ := asI_elim h
  obtain ⟨x7, e7, h⟩ := asI_elim h
  obtain ⟨x8, e8, h⟩ := asI_elim h
  exact use_ops hl (upd_step (upd_step (upd_step (upd_step rfl e3) rfl) e7) e8) ((F27.q5 _ Post N2 x3 (List.getD env 6 undef) x7 x8 H).mpr h)
noncomputable def F27.o6 : List Oper := opsIn (codeAt (bodyOf Try.f27) [.r, .r, .l, .r, .l, .l, .l])
def F27.B6 (Post : Value → AHeap → Prop) (N2 : Int → Value → Int → Int → AHeap → Prop) (x3 : Int) (x6 : Value) (x7 : Int) (x8 : Int) (H : AHeap) : Prop :=
  pif (decide ((x8 : Int) < x7)) (F27.B5 Post N2 x3 x6 x7 x8 H) (F27.B1 Post x3 H)
def F27.B6.e (Post : Value → AHeap → Prop) (N2 : Int → Value → Int → Int → AHeap → Prop) : EP := fun env H => pif (Nat.beq (List.length env) 18) (asI .u64 (List.getD env 3 undef) (fun x3 => asI .i64 (List.getD env 7 undef) (fun x7 => asI .i64 (List.getD env 8 undef) (fun x8 => F27.B6 Post N2 x3 (List.getD env 6 undef) x7 x8 H)))) False
theorem F27.q6 (u : Nat → Value) (Post : Value → AHeap → Prop) (N2 : Int → Value → Int → Int → AHeap → Prop) (x3 : Int) (x6 : Value) (x7 : Int) (x8 : Int) (H : AHeap) : aOps Try.prog T0 F27.o6 F27.o6 (mkEnv (upd (upd (upd (upd u 3 (Value.int .u64 x3)) 6 x6) 7 (Value.int .i64 x7)) 8 (Value.int .i64 x8)) 18 0) H (fun env H => asB (aev env (.tmp 9)) (fun b => pif b ((F27.B5.e Post N2) env H) ((F27.B1.e Post) env H))) = F27.B6 Post N2 x3 x6 x7 x8 H := by kernel_rfl
theorem F27.r6 (Post : Value → AHeap → Prop) (N2 : Int → Value → Int → Int → AHeap → Prop) : ∀ env H, F27.B6.e Post N2 env H → aOps Try.prog T0 F27.o6 F27.o6 env H (fun env H => asB (aev env (.tmp 9)) (fun b => pif b ((F27.B5.e Post N2) env H) ((F27.B1.e Post) env H))) := by
  intro env H h
  obtain ⟨hl, h⟩ := lenE h
  obtain ⟨x3, e3, h⟩ := asI_elim h
  obtain ⟨x7, e7, h⟩ := asI_elim h
  obtain ⟨x8, e8, h⟩ := asI_elim h
  exact use_ops hl (upd_step (upd_step (upd_step (upd_step rfl e3) rfl) e7) e8) ((F27.q6 _ Post N2 x3 (List.getD env 6 undef) x7 x8 H).mpr h)
def F27.L2 (Post : Value → AHeap → Prop) (x3 : Int) (x6 : Value) (x7 : Int) (x8 : Int) (H : AHeap) : Prop :=
  ∃ (I : Int → Value → Int → Int → AHeap → Prop) (μ : Int → Value → Int → Int → AHeap → Nat), I x3 x6 x7 x8 H ∧ ∀ x3' x6' x7' x8' H', I x3' x6' x7' x8' H' → F27.B6 Post (fun x3'' x6'' x7'' x8'' H'' => I x3'' x6'' x7'' x8'' H'' ∧ μ x3'' x6'' x7'' x8'' H'' < μ x3' x6' x7' x8' H') x3' x6' x7' x8' H'
def F27.L2.e (Post : Value → AHeap → Prop) : EP := fun env H => pif (Nat.beq (List.length env) 18) (asI .u64 (List.getD env 3 undef) (fun x3 => asI .i64 (List.getD env 7 undef) (fun x7 => asI .i64 (List.getD env 8 undef) (fun x8 => F27.L2 Post x3 (List.getD env 6 undef) x7 x8 H)))) False
theorem F27.l2 (Post : Value → AHeap → Prop) {c : Code} {K : EP} {X : Nat → EP}
    (hb : ∀ N2 : Int → Value → Int → Int → AHeap → Prop, ∀ env H, (F27.B6.e Post N2) env H → AW Try.prog T0 c env H (mkQ (F27.L2.ne N2) X (F27.ret Post))) :
    ∀ env H, F27.L2.e Post env H → AW Try.prog T0 (.loop c) env H (mkQ K X (F27.ret Post)) := by
  intro env H h
  obtain ⟨hl, h⟩ := lenE h
  obtain ⟨x3, e3, h⟩ := asI_elim h
  obtain ⟨x7, e7, h⟩ := asI_elim h
  obtain ⟨x8, e8, h⟩ := asI_elim h
  obtain ⟨I, μ, h0, hI⟩ := h
  refine r_loop (fun n env H => pif (Nat.beq (List.length env) 18) (asI .u64 (List.getD env 3 undef) (fun x3 => asI .i64 (List.getD env 7 undef) (fun x7 => asI .i64 (List.getD env 8 undef) (fun x8 => (I x3 (List.getD env 6 undef) x7 x8 H) ∧ (μ x3 (List.getD env 6 undef) x7 x8 H = n))))) False) ?_ env H ⟨μ x3 (List.getD env 6 undef) x7 x8 H, lenM hl (asI_mk' e3 (asI_mk' e7 (asI_mk' e8 (⟨h0, rfl⟩))))⟩
  intro n env' H' h
  obtain ⟨hl', h⟩ := lenE h
  obtain ⟨x3', e3', h⟩ := asI_elim h
  obtain ⟨x7', e7', h⟩ := asI_elim h
  obtain ⟨x8', e8', h⟩ := asI_elim h
  obtain ⟨hi, hm⟩ := h
  refine r_imp (hb (fun x3'' x6'' x7'' x8'' H'' => I x3'' x6'' x7'' x8'' H'' ∧ μ x3'' x6'' x7'' x8'' H'' < n)) ?_ env' H' ?_
  · intro env H h
    obtain ⟨hl'', h⟩ := lenE h
    obtain ⟨x3'', e3'', h⟩ := asI_elim h
    obtain ⟨x7'', e7'', h⟩ := asI_elim h
    obtain ⟨x8'', e8'', h⟩ := asI_elim h
    obtain ⟨hi, hlt⟩ := h
    exact ⟨_, hlt, lenM hl'' (asI_mk' e3'' (asI_mk' e7'' (asI_mk' e8'' (⟨hi, rfl⟩))))⟩
  · have h := hI x3' (List.getD env' 6 undef) x7' x8' H' hi
    rw [hm] at h
    exact lenM hl' (asI_mk' e3' (asI_mk' e7' (asI_mk' e8' (h))))
noncomputable def F27.o7 : List Oper := opsIn (codeAt (bodyOf Try.f27) [.r, .r, .l, .l])
def F27.B7 (Post : Value → AHeap → Prop) (x0 : Value) (x3 : Int) (H : AHeap) : Prop :=
  lenK x0 (fun n1 => F27.L2 Post x3 x0 (n1 : Int) 0 H)
def F27.B7.e (Post : Value → AHeap → Prop) : EP := fun env H => pif (Nat.beq (List.length env) 18) (asI .u64 (List.getD env 3 undef) (fun x3 => F27.B7 Post (List.getD env 0 undef) x3 H)) False
theorem F27.q7 (u : Nat → Value) (Post : Value → AHeap → Prop) (x0 : Value) (x3 : Int) (H : AHeap) : aOps Try.prog T0 F27.o7 F27.o7 (mkEnv (upd (upd u 0 x0) 3 (Value.int .u64 x3)) 18 0) H (F27.L2.e Post) = F27.B7 Post x0 x3 H := by kernel_rfl
theorem F27.r7 (Post : Value → AHeap → Prop) : ∀ env H, F27.B7.e Post env H → aOps Try.prog T0 F27.o7 F27.o7 env H (F27.L2.e Post) := by
  intro env H h
  obtain ⟨hl, h⟩ := lenE h
  obtain ⟨x3, e3, h⟩ := asI_elim h
  exact use_ops hl (upd_step (upd_step rfl rfl) e3) ((F27.q7 _ Post (List.getD env 0 undef) x3 H).mpr h)
noncomputable def F27.o8 : List Oper := opsIn (codeAt (bodyOf Try.f27) [.r, .l])
def F27.B8 (Post : Value → AHeap → Prop) (x0 : Value) (H : AHeap) : Prop :=
  F27.B7 Post x0 0 H
def F27.B8.e (Post : Value → AHeap → Prop) : EP := fun env H => pif (Nat.beq (List.length env) 18) (F27.B8 Post (List.getD env 0 undef) H) False
theorem F27.q8 (u : Nat → Value) (Post : Value → AHeap → Prop) (x0 : Value) (H : AHeap) : aOps Try.prog T0 F27.o8 F27.o8 (mkEnv (upd u 0 x0) 18 0) H (F27.B7.e Post) = F27.B8 Post x0 H := by kernel_rfl
theorem F27.r8 (Post : Value → AHeap → Prop) : ∀ env H, F27.B8.e Post env H → aOps Try.prog T0 F27.o8 F27.o8 env H (F27.B7.e Post) := by
  intro env H h
  obtain ⟨hl, h⟩ := lenE h
  exact use_ops hl (upd_step rfl rfl) ((F27.q8 _ Post (List.getD env 0 undef) H).mpr h)
noncomputable def F27.o9 : List Oper := opsIn (codeAt (bodyOf Try.f27) [.l])
def F27.B9 (Post : Value → AHeap → Prop) (x0 : Value) (H : AHeap) : Prop :=
  F27.B8 Post x0 H
def F27.B9.e (Post : Value → AHeap → Prop) : EP := fun env H => pif (Nat.beq (List.length env) 18) (F27.B9 Post (List.getD env 0 undef) H) False
theorem F27.q9 (u : Nat → Value) (Post : Value → AHeap → Prop) (x0 : Value) (H : AHeap) : aOps Try.prog T0 F27.o9 F27.o9 (mkEnv (upd u 0 x0) 18 0) H (F27.B8.e Post) = F27.B9 Post x0 H := by kernel_rfl
theorem F27.r9 (Post : Value → AHeap → Prop) : ∀ env H, F27.B9.e Post env H → aOps Try.prog T0 F27.o9 F27.o9 env H (F27.B8.e Post) := by
  intro env H h
  obtain ⟨hl, h⟩ := lenE h
  exact use_ops hl (upd_step rfl rfl) ((F27.q9 _ Post (List.getD env 0 undef) H).mpr h)
noncomputable def F27.code : Code := (.seq (.region 0 ⟨F27.o9⟩ false) (.seq (.region 1 ⟨F27.o8⟩ false) (.seq (.seq (.region 2 ⟨F27.o7⟩ false) (.block 0 (.loop (.seq (.region 3 ⟨F27.o6⟩ false) (.seq (.cond (.tmp 9) .skip (.exit 0)) (.seq (.block 1 (.seq (.region 4 ⟨F27.o5⟩ false) (.region 5 ⟨F27.o4⟩ false))) (.region 6 ⟨F27.o3⟩ false))))))) (.seq (.region 7 ⟨F27.o1⟩ false) .ret))))
theorem F27.body : Try.f27.body = some F27.code := by kernel_rfl
theorem F27.main (Post : Value → AHeap → Prop) : ∀ env H, F27.B9.e Post env H → AW Try.prog T0 F27.code env H (mkQ (F27.ret Post) (fun _ _ _ => False) (F27.ret Post)) :=
  (r_seq (r_region T0_ok (F27.r9 Post)) (r_seq (r_region T0_ok (F27.r8 Post)) (r_seq (r_seq (r_region T0_ok (F27.r7 Post)) (r_block (F27.l2 Post (fun N2 => (r_seq (r_region T0_ok (F27.r6 Post N2)) (r_seq (r_cond rfl r_skip (r_exit (fun _ _ h => h))) (r_seq (r_block (r_seq (r_region T0_ok (F27.r5 Post N2)) (r_region T0_ok (F27.r4 Post N2)))) (r_region T0_ok (F27.r3 Post N2))))))))) (r_seq (r_region T0_ok (F27.r1 Post)) r_ret))))
theorem F27.ac (Post : Value → AHeap → Prop) (x0 : Value) (H : AHeap) (h : F27.B9 Post x0 H) : AC Try.prog T0 27 [x0] H Post :=
  r_fn T0_ok (c := F27.code) (n := 18) Try.func27 F27.body (by kernel_rfl) (F27.main Post) (lenM (by kernel_rfl) (h))

-- (loop.example/g01329/impl.set).list
noncomputable def F28.ret (Post : Value → AHeap → Prop) : EP := retE T0 19 Try.f28 Post
noncomputable def F28.o1 : List Oper := opsIn (codeAt (bodyOf Try.f28) [.r, .r, .r, .l])
def F28.B1 (Post : Value → AHeap → Prop) (x3 : Value) (H : AHeap) : Prop :=
  Post x3 H
def F28.B1.e (Post : Value → AHeap → Prop) : EP := fun env H => pif (Nat.beq (List.length env) 19) (F28.B1 Post (List.getD env 3 undef) H) False
theorem F28.q1 (u : Nat → Value) (Post : Value → AHeap → Prop) (x3 : Value) (H : AHeap) : aOps Try.prog T0 F28.o1 F28.o1 (mkEnv (upd u 3 x3) 19 0) H (F28.ret Post) = F28.B1 Post x3 H := by kernel_rfl
theorem F28.r1 (Post : Value → AHeap → Prop) : ∀ env H, F28.B1.e Post env H → aOps Try.prog T0 F28.o1 F28.o1 env H (F28.ret Post) := by
  intro env H h
  obtain ⟨hl, h⟩ := lenE h
  exact use_ops hl (upd_step rfl rfl) ((F28.q1 _ Post (List.getD env 3 undef) H).mpr h)
def F28.L2.ne (N : Int → Value → Int → AHeap → Prop) : EP := fun env H => pif (Nat.beq (List.length env) 19) (asI .u64 (List.getD env 0 undef) (fun x0 => asI .i64 (List.getD env 4 undef) (fun x4 => N x0 (List.getD env 3 undef) x4 H))) False
noncomputable def F28.o3 : List Oper := opsIn (codeAt (bodyOf Try.f28) [.r, .r, .l, .r, .l, .l, .r, .r])
def F28.B3 (Post : Value → AHeap → Prop) (N2 : Int → Value → Int → AHeap → Prop) (x0 : Int) (x3 : Value) (x4 : Int) (H : AHeap) : Prop :=
  N2 x0 x3 (IntKind.i64.wrap (x4 + 1)) H
def F28.B3.e (Post : Value → AHeap → Prop) (N2 : Int → Value → Int → AHeap → Prop) : EP := fun env H => pif (Nat.beq (List.length env) 19) (asI .u64 (List.getD env 0 undef) (fun x0 => asI .i64 (List.getD env 4 undef) (fun x4 => F28.B3 Post N2 x0 (List.getD env 3 undef) x4 H))) False
theorem F28.q3 (u : Nat → Value) (Post : Value → AHeap → Prop) (N2 : Int → Value → Int → AHeap → Prop) (x0 : Int) (x3 : Value) (x4 : Int) (H : AHeap) : aOps Try.prog T0 F28.o3 F28.o3 (mkEnv (upd (upd (upd u 0 (Value.int .u64 x0)) 3 x3) 4 (Value.int .i64 x4)) 19 0) H (F28.L2.ne N2) = F28.B3 Post N2 x0 x3 x4 H := by kernel_rfl
theorem F28.r3 (Post : Value → AHeap → Prop) (N2 : Int → Value → Int → AHeap → Prop) : ∀ env H, F28.B3.e Post N2 env H → aOps Try.prog T0 F28.o3 F28.o3 env H (F28.L2.ne N2) := by
  intro env H h
  obtain ⟨hl, h⟩ := lenE h
  obtain ⟨x0, e0, h⟩ := asI_elim h
  obtain ⟨x4, e4, h⟩ := asI_elim h
  exact use_ops hl (upd_step (upd_step (upd_step rfl e0) rfl) e4) ((F28.q3 _ Post N2 x0 (List.getD env 3 undef) x4 H).mpr h)
noncomputable def F28.o4 : List Oper := opsIn (codeAt (bodyOf Try.f28) [.r, .r, .l, .r, .l, .l, .r, .l, .l, .r, .l])
def F28.B4 (Post : Value → AHeap → Prop) (N2 : Int → Value → Int → AHeap → Prop) (x0 : Int) (x3 : Value) (x4 : Int) (H : AHeap) : Prop :=
  newK H [(Value.int .i64 x4)] 2 (fun b1 H2 => apK T0 2 H2 x3 (Value.slice (some ⟨b1, 0, none⟩) 1 (1 + 1)) (fun v3 H4 => F28.B3 Post N2 x0 v3 x4 H4))
def F28.B4.e (Post : Value → AHeap → Prop) (N2 : Int → Value → Int → AHeap → Prop) : EP := fun env H => pif (Nat.beq (List.length env) 19) (asI .u64 (List.getD env 0 undef) (fun x0 => asI .i64 (List.getD env 4 undef) (fun x4 => F28.B4 Post N2 x0 (List.getD env 3 undef) x4 H))) False
theorem F28.q4 (u : Nat → Value) (Post : Value → AHeap → Prop) (N2 : Int → Value → Int → AHeap → Prop) (x0 : Int) (x3 : Value) (x4 : Int) (H : AHeap) : aOps Try.prog T0 F28.o4 F28.o4 (mkEnv (upd (upd (upd u 0 (Value.int .u64 x0)) 3 x3) 4 (Value.int .i64 x4)) 19 0) H (F28.B3.e Post N2) = F28.B4 Post N2 x0 x3 x4 H := by kernel_rfl
theorem F28.r4 (Post : Value → AHeap → Prop) (N2 : Int → Value → Int → AHeap → Prop) : ∀ env H, F28.B4.e Post N2 env H → aOps Try.prog T0 F28.o4 F28.o4 env H (F28.B3.e Post N2) := by
  intro env H h
  obtain ⟨hl, h⟩ := lenE h
  obtain ⟨x0, e0, h⟩ := asI_elim h
  obtain ⟨x4, e4, h⟩ := asI_elim h
  exact use_ops hl (upd_step (upd_step (upd_step rfl e0) rfl) e4) ((F28.q4 _ Post N2 x0 (List.getD env 3 undef) x4 H).mpr h)
noncomputable def F28.o5 : List Oper := opsIn (codeAt (bodyOf Try.f28) [.r, .r, .l, .r, .l, .l, .r, .l, .l, .l])
def F28.B5 (Post : Value → AHeap → Prop) (N2 : Int → Value → Int → AHeap → Prop) (x0 : Int) (x3 : Value) (x4 : Int) (H : AHeap) : Prop :=
  AC Try.prog T0 41 [(Value.int .u64 x0), (Value.int .i64 x4)] H (fun v1 H2 => asB v1 (fun v3 => pif v3 (F28.B4 Post N2 x0 x3 x4 H2) (F28.B3 Post N2 x0 x3 x4 H2)))
def F28.B5.e (Post : Value → AHeap → Prop) (N2 : Int → Value → Int → AHeap → Prop) : EP := fun env H => pif (Nat.beq (List.length env) 19) (asI .u64 (List.getD env 0 undef) (fun x0 => asI .i64 (List.getD env 4 undef) (fun x4 => F28.B5 Post N2 x0 (List.getD env 3 undef) x4 H))) False
theorem F28.q5 (u : Nat → Value) (Post : Value → AHeap → Prop) (N2 : Int → Value → Int → AHeap → Prop) (x0 : Int) (x3 : Value) (x4 : Int) (H : AHeap) : aOps Try.prog T0 F28.o5 F28.o5 (mkEnv (upd (upd (upd u 0 (Value.int .u64 x0)) 3 x3) 4 (Value.int .i64 x4)) 19 0) H (fun env H => asB (aev env (.tmp 13)) (fun b => pif b ((F28.B4.e Post N2) env H) ((F28.B3.e Post N2) env H))) = F28.B5 Post N2 x0 x3 x4 H := by kernel_rfl
theorem F28.r5 (Post : Value → AHeap → Prop) (N2 : Int → Value → Int → AHeap → Prop) : ∀ env H, F28.B5.e Post N2 env H → aOps Try.prog T0 F28.o5 F28.o5 env H (fun env H => asB (aev env (.tmp 13)) (fun b => pif b ((F28.B4.e Post N2) env H) ((F28.B3.e Post N2) env H))) := by
  intro env H h
  obtain ⟨hl, h⟩ := lenE h
  obtain ⟨x0, e0, h⟩ := asI_elim h
  obtain ⟨x4, e4, h⟩ := asI_elim h
  exact use_ops hl (upd_step (upd_step (upd_step rfl e0) rfl) e4) ((F28.q5 _ Post N2 x0 (List.getD env 3 undef) x4 H).mpr h)
noncomputable def F28.o6 : List Oper := opsIn (codeAt (bodyOf Try.f28) [.r, .r, .l, .r, .l, .l, .l, .l])
def F28.B6 (Post : Value → AHeap → Prop) (N2 : Int → Value → Int → AHeap → Prop) (x0 : Int) (x3 : Value) (x4 : Int) (H : AHeap) : Prop :=
  (0 ≤ x4) ∧ (pif ((Int.fdiv x0 (2 ^ (min (Int.toNat x4) 64)) : Int) != 0) (F28.B5 Post N2 x0 x3 x4 H) (F28.B1 Post x3 H))
def F28.B6.e (Post : Value → AHeap → Prop) (N2 : Int → Value → Int → AHeap → Prop) : EP := fun env H => pif (Nat.beq (List.length env) 19) (asI .u64 (List.getD env 0 undef) (fun x0 => asI .i64 (List.getD env 4 undef) (fun x4 => F28.B6 Post N2 x0 (List.getD env 3 undef) x4 H))) False
theorem F28.q6 (u : Nat → Value) (Post : Value → AHeap → Prop) (N2 : Int → Value → Int → AHeap → Prop) (x0 : Int) (x3 : Value) (x4 : Int) (H : AHeap) : aOps Try.prog T0 F28.o6 F28.o6 (mkEnv (upd (upd (upd u 0 (Value.int .u64 x0)) 3 x3) 4 (Value.int .i64 x4)) 19 0) H (fun env H => asB (aev env (.tmp 8)) (fun b => pif b ((F28.B5.e Post N2) env H) ((F28.B1.e Post) env H))) = F28.B6 Post N2 x0 x3 x4 H := by kernel_rfl
theorem F28.r6 (Post : Value → AHeap → Prop) (N2 : Int → Value → Int → AHeap → Prop) : ∀ env H, F28.B6.e Post N2 env H → aOps Try.prog T0 F28.o6 F28.o6 env H (fun env H => asB (aev env (.tmp 8)) (fun b => pif b ((F28.B5.e Post N2) env H) ((F28.B1.e Post) env H))) := by
  intro env H h
  obtain ⟨hl, h⟩ := lenE h
  obtain ⟨x0, e0, h⟩ := asI_elim h
  obtain ⟨x4, e4, h⟩ := asI_elim h
  exact use_ops hl (upd_step (upd_step (upd_step rfl e0) rfl) e4) ((F28.q6 _ Post N2 x0 (List.getD env 3 undef) x4 H).mpr h)
def F28.L2 (Post : Value → AHeap → Prop) (x0 : Int) (x3 : Value) (x4 : Int) (H : AHeap) : Prop :=
  ∃ (I : Int → Value → Int → AHeap → Prop) (μ : Int → Value → Int → AHeap → Nat), I x0 x3 x4 H ∧ ∀ x0' x3' x4' H', I x0' x3' x4' H' → F28.B6 Post (fun x0'' x3'' x4'' H'' => I x0'' x3'' x4'' H'' ∧ μ x0'' x3'' x4'' H'' < μ x0' x3' x4' H') x0' x3' x4' H'
def F28.L2.e (Post : Value → AHeap → Prop) : EP := fun env H => pif (Nat.beq (List.length env) 19) (asI .u64 (List.getD env 0 undef) (fun x0 => asI .i64 (List.getD env 4 undef) (fun x4 => F28.L2 Post x0 (List.getD env 3 undef) x4 H))) False
theorem F28.l2 (Post : Value → AHeap → Prop) {c : Code} {K : EP} {X : Nat → EP}
    (hb : ∀ N2 : Int → Value → Int → AHeap → Prop, ∀ env H, (F28.B6.e Post N2) env H → AW Try.prog T0 c env H (mkQ (F28.L2.ne N2) X (F28.ret Post))) :
    ∀ env H, F28.L2.e Post env H → AW Try.prog T0 (.loop c) env H (mkQ K X (F28.ret Post)) := by
  intro env H h
  obtain ⟨hl, h⟩ := lenE h
  obtain ⟨x0, e0, h⟩ := asI_elim h
  obtain ⟨x4, e4, h⟩ := asI_elim h
  obtain ⟨I, μ, h0, hI⟩ := h
  refine r_loop (fun n env H => pif (Nat.beq (List.length env) 19) (asI .u64 (List.getD env 0 undef) (fun x0 => asI .i64 (List.getD env 4 undef) (fun x4 => (I x0 (List.getD env 3 undef) x4 H) ∧ (μ x0 (List.getD env 3 undef) x4 H = n)))) False) ?_ env H ⟨μ x0 (List.getD env 3 undef) x4 H, lenM hl (asI_mk' e0 (asI_mk' e4 (⟨h0, rfl⟩)))⟩
  intro n env' H' h
  obtain ⟨hl', h⟩ := lenE h
  obtain ⟨x0', e0', h⟩ := asI_elim h
  obtain ⟨x4', e4', h⟩ := asI_elim h
  obtain ⟨hi, hm⟩ := h
  refine r_imp (hb (fun x0'' x3'' x4'' H'' => I x0'' x3'' x4'' H'' ∧ μ x0'' x3'' x4'' H'' < n)) ?_ env' H' ?_
  · intro env H h
    obtain ⟨hl'', h⟩ := lenE h
    obtain ⟨x0'', e0'', h⟩ := asI_elim h
    obtain ⟨x4'', e4'', h⟩ := asI_elim h
    obtain ⟨hi, hlt⟩ := h
    exact ⟨_, hlt, lenM hl'' (asI_mk' e0'' (asI_mk' e4'' (⟨hi, rfl⟩)))⟩
  · have h := hI x0' (List.getD env' 3 undef) x4' H' hi
    rw [hm] at h
    exact lenM hl' (asI_mk' e0' (asI_mk' e4' (h)))
noncomputable def F28.o7 : List Oper := opsIn (codeAt (bodyOf Try.f28) [.r, .r, .l, .l])
def F28.B7 (Post : Value → AHeap → Prop) (x0 : Int) (x3 : Value) (H : AHeap) : Prop :=
  F28.L2 Post x0 x3 0 H
def F28.B7.e (Post : Value → AHeap → Prop) : EP := fun env H => pif (Nat.beq (List.length env) 19) (asI .u64 (List.getD env 0 undef) (fun x0 => F28.B7 Post x0 (List.getD env 3 undef) H)) False
theorem F28.q7 (u : Nat → Value) (Post : Value → AHeap → Prop) (x0 : Int) (x3 : Value) (H : AHeap) : aOps Try.prog T0 F28.o7 F28.o7 (mkEnv (upd (upd u 0 (Value.int .u64 x0)) 3 x3) 19 0) H (F28.L2.e Post) = F28.B7 Post x0 x3 H := by kernel_rfl
theorem F28.r7 (Post : Value → AHeap → Prop) : ∀ env H, F28.B7.e Post env H → aOps Try.prog T0 F28.o7 F28.o7 env H (F28.L2.e Post) := by
  intro env H h
  obtain ⟨hl, h⟩ := lenE h
  obtain ⟨x0, e0, h⟩ := asI_elim h
  exact use_ops hl (upd_step (upd_step rfl e0) rfl) ((F28.q7 _ Post x0 (List.getD env 3 undef) H).mpr h)
noncomputable def F28.o8 : List Oper := opsIn (codeAt (bodyOf Try.f28) [.r, .l])
def F28.B8 (Post : Value → AHeap → Prop) (x0 : Int) (H : AHeap) : Prop :=
  F28.B7 Post x0 (Value.slice none 0 0) H
def F28.B8.e (Post : Value → AHeap → Prop) : EP := fun env H => pif (Nat.beq (List.length env) 19) (asI .u64 (List.getD env 0 undef) (fun x0 => F28.B8 Post x0 H)) False
theorem F28.q8 (u : Nat → Value) (Post : Value → AHeap → Prop) (x0 : Int) (H : AHeap) : aOps Try.prog T0 F28.o8 F28.o8 (mkEnv (upd u 0 (Value.int .u64 x0)) 19 0) H (F28.B7.e Post) = F28.B8 Post x0 H := by kernel_rfl
theorem F28.r8 (Post : Value → AHeap → Prop) : ∀ env H, F28.B8.e Post env H → aOps Try.prog T0 F28.o8 F28.o8 env H (F28.B7.e Post) := by
  intro env H h
  obtain ⟨hl, h⟩ := lenE h
  obtain ⟨x0, e0, h⟩ := asI_elim h
  exact use_ops hl (upd_step rfl e0) ((F28.q8 _ Post x0 H).mpr h)
noncomputable def F28.o9 : List Oper := opsIn (codeAt (bodyOf Try.f28) [.l])
def F28.B9 (Post : Value → AHeap → Prop) (x0 : Int) (H : AHeap) : Prop :=
  F28.B8 Post x0 H
def F28.B9.e (Post : Value → AHeap → Prop) : EP := fun env H => pif (Nat.beq (List.length env) 19) (asI .u64 (List.getD env 0 undef) (fun x0 => F28.B9 Post x0 H)) False
theorem F28.q9 (u : Nat → Value) (Post : Value → AHeap → Prop) (x0 : Int) (H : AHeap) : aOps Try.prog T0 F28.o9 F28.o9 (mkEnv (upd u 0 (Value.int .u64 x0)) 19 0) H (F28.B8.e Post) = F28.B9 Post x0 H := by kernel_rfl
theorem F28.r9 (Post : Value → AHeap → Prop) : ∀ env H, F28.B9.e Post env H → aOps Try.prog T0 F28.o9 F28.o9 env H (F28.B8.e Post) := by
  intro env H h
  obtain ⟨hl, h⟩ := lenE h
  obtain ⟨x0, e0, h⟩ := asI_elim h
  exact use_ops hl (upd_step rfl e0) ((F28.q9 _ Post x0 H).mpr h)
noncomputable def F28.code : Code := (.seq (.region 0 ⟨F28.o9⟩ false) (.seq (.region 1 ⟨F28.o8⟩ false) (.seq (.seq (.region 2 ⟨F28.o7⟩ false) (.block 0 (.loop (.seq (.seq (.region 3 ⟨F28.o6⟩ false) (.cond (.tmp 8) .skip (.exit 0))) (.seq (.block 1 (.seq (.region 5 ⟨F28.o5⟩ false) (.cond (.tmp 13) (.region 6 ⟨F28.o4⟩ false) .skip))) (.region 4 ⟨F28.o3⟩ false)))))) (.seq (.region 7 ⟨F28.o1⟩ false) .ret))))
theorem F28.body : Try.f28.body = some F28.code := by kernel_rfl
theorem F28.main (Post : Value → AHeap → Prop) : ∀ env H, F28.B9.e Post env H → AW Try.prog T0 F28.code env H (mkQ (F28.ret Post) (fun _ _ _ => False) (F28.ret Post)) :=
  (r_seq (r_region T0_ok (F28.r9 Post)) (r_seq (r_region T0_ok (F28.r8 Post)) (r_seq (r_seq (r_region T0_ok (F28.r7 Post)) (r_block (F28.l2 Post (fun N2 => (r_seq (r_seq (r_region T0_ok (F28.r6 Post N2)) (r_cond rfl r_skip (r_exit (fun _ _ h => h)))) (r_seq (r_block (r_seq (r_region T0_ok (F28.r5 Post N2)) (r_cond rfl (r_region T0_ok (F28.r4 Post N2)) r_skip))) (r_region T0_ok (F28.r3 Post N2)))))))) (r_seq (r_region T0_ok (F28.r1 Post)) r_ret))))
theorem F28.ac (Post : Value → AHeap → Prop) (x0 : Int) (H : AHeap) (h : F28.B9 Post x0 H) : AC Try.prog T0 28 [(Value.int .u64 x0)] H Post :=
  r_fn T0_ok (c := F28.code) (n := 19) Try.func28 F28.body (by kernel_rfl) (F28.main Post) (lenM (by kernel_rfl) (asI_mk' (by kernel_rfl) (h)))

-- loop.example/g01329/laws.eqEdgeS
noncomputable def F29.ret (Post : Value → AHeap → Prop) : EP := retE T0 27 Try.f29 Post
noncomputable def F29.o1 : List Oper := opsIn (codeAt (bodyOf Try.f29) [.r, .r, .r, .l])
def F29.B1 (Post : Value → AHeap → Prop) (H : AHeap) : Prop :=
  Post (Value.bool true) H
def F29.B1.e (Post : Value → AHeap → Prop) : EP := fun env H => pif (Nat.beq (List.length env) 27) (F29.B1 Post H) False
theorem F29.q1 (u : Nat → Value) (Post : Value → AHeap → Prop) (H : AHeap) : aOps Try.prog T0 F29.o1 F29.o1 (mkEnv u 27 0) H (F29.ret Post) = F29.B1 Post H := by kernel_rfl
theorem F29.r1 (Post : Value → AHeap → Prop) : ∀ env H, F29.B1.e Post env H → aOps Try.prog T0 F29.o1 F29.o1 env H (F29.ret Post) := by
  intro env H h
  obtain ⟨hl, h⟩ := lenE h
  exact use_ops hl rfl ((F29.q1 _ Post H).mpr h)
def F29.L2.ne (N : Value → Value → Int → AHeap → Prop) : EP := fun env H => pif (Nat.beq (List.length env) 27) (asI .i64 (List.getD env 5 undef) (fun x5 => N (List.getD env 0 undef) (List.getD env 1 undef) x5 H)) False
noncomputable def F29.o3 : List Oper := opsIn (codeAt (bodyOf Try.f29) [.r, .r, .l, .r, .l, .l, .r, .r])
def F29.B3 (Post : Value → AHeap → Prop) (N2 : Value → Value → Int → AHeap → Prop) (x0 : Value) (x1 : Value) (x5 : Int) (H : AHeap) : Prop :=
  N2 x0 x1 (IntKind.i64.wrap (x5 + 1)) H
def F29.B3.e (Post : Value → AHeap → Prop) (N2 : Value → Value → Int → AHeap → Prop) : EP := fun env H => pif (Nat.beq (List.length env) 27) (asI .i64 (List.getD env 5 undef) (fun x5 => F29.B3 Post N2 (List.getD env 0 undef) (List.getD env 1 undef) x5 H)) False
theorem F29.q3 (u : Nat → Value) (Post : Value → AHeap → Prop) (N2 : Value → Value → Int → AHeap → Prop) (x0 : Value) (x1 : Value) (x5 : Int) (H : AHeap) : aOps Try.prog T0 F29.o3 F29.o3 (mkEnv (upd (upd (upd u 0 x0) 1 x1) 5 (Value.int .i64 x5)) 27 0) H (F29.L2.ne N2) = F29.B3 Post N2 x0 x1 x5 H := by kernel_rfl
theorem F29.r3 (Post : Value → AHeap → Prop) (N2 : Value → Value → Int → AHeap → Prop) : ∀ env H, F29.B3.e Post N2 env H → aOps Try.prog T0 F29.o3 F29.o3 env H (F29.L2.ne N2) := by
  intro env H h
  obtain ⟨hl, h⟩ := lenE h
  obtain ⟨x5, e5, h⟩ := asI_elim h
  exact use_ops hl (upd_step (upd_step (upd_step rfl rfl) rfl) e5) ((F29.q3 _ Post N2 (List.getD env 0 undef) (List.getD env 1 undef) x5 H).mpr h)
noncomputable def F29.o4 : List Oper := opsIn (codeAt (bodyOf Try.f29) [.r, .r, .l, .r, .l, .l, .r, .l, .l, .r, .l, .l])
def F29.B4 (Post : Value → AHeap → Prop) (N2 : Value → Value → Int → AHeap → Prop) (H : AHeap) : Prop :=
  Post (Value.bool false) H
def F29.B4.e (Post : Value → AHeap → Prop) (N2 : Value → Value → Int → AHeap → Prop) : EP := fun env H => pif (Nat.beq (List.length env) 27) (F29.B4 Post N2 H) False
theorem F29.q4 (u : Nat → Value) (Post : Value → AHeap → Prop) (N2 : Value → Value → Int → AHeap → Prop) (H : AHeap) : aOps Try.prog T0 F29.o4 F29.o4 (mkEnv u 27 0) H (F29.ret Post) = F29.B4 Post N2 H := by kernel_rfl
theorem F29.r4 (Post : Value → AHeap → Prop) (N2 : Value → Value → Int → AHeap → Prop) : ∀ env H, F29.B4.e Post N2 env H → aOps Try.prog T0 F29.o4 F29.o4 env H (F29.ret Post) := by
  intro env H h
  obtain ⟨hl, h⟩ := lenE h
  exact use_ops hl rfl ((F29.q4 _ Post N2 H).mpr h)
noncomputable def F29.o5 : List Oper := opsIn (codeAt (bodyOf Try.f29) [.r, .r, .l, .r, .l, .l, .r, .l, .l, .l])
def F29.B5 (Post : Value → AHeap → Prop) (N2 : Value → Value → Int → AHeap → Prop) (x0 : Value) (x1 : Value) (x5 : Int) (H : AHeap) : Prop :=
  idxK x0 x5 2 (fun b1 o2 => ldI .i64 H b1 o2 (fun v3 => ldI .i64 H b1 (o2 + 1) (fun v4 => idxK x1 x5 2 (fun b5 o6 => ldI .i64 H b5 o6 (fun v7 => ldI .i64 H b5 (o6 + 1) (fun v8 => AC Try.prog T0 42 [(Value.agg ⟨[(Value.int .i64 v3), (Value.int .i64 v4)]⟩), (Value.agg ⟨[(Value.int .i64 v7), (Value.int .i64 v8)]⟩)] H (fun v9 H10 => asB v9 (fun v11 => pif (!v11) (F29.B4 Post N2 H10) (F29.B3 Post N2 x0 x1 x5 H10)))))))))
def F29.B5.e (Post : Value → AHeap → Prop) (N2 : Value → Value → Int → AHeap → Prop) : EP := fun env H => pif (Nat.beq (List.length env) 27) (asI .i64 (List.getD env 5 undef) (fun x5 => F29.B5 Post N2 (List.getD env 0 undef) (List.getD env 1 undef) x5 H)) False
theorem F29.q5 (u : Nat → Value) (Post : Value → AHeap → Prop) (N2 : Value → Value → Int → AHeap → Prop) (x0 : Value) (x1 : Value) (x5 : Int) (H : AHeap) : aOpsD Try.prog T0 F29.o5 (opsOf F29.o5 [(0, false), (1, false), (2, false), (3, false), (4, false), (5, false), (6, false), (7, false), (8, false), (9, false)]) (mkEnv (upd (upd (upd u 0 x0) 1 x1) 5 (Value.int .i64 x5)) 27 0) H (fun env H => asB (aev env (.tmp 26)) (fun b => pif b ((F29.B4.e Post N2) env H) ((F29.B3.e Post N2) env H))) = F29.B5 Post N2 x0 x1 x5 H := by kernel_rfl
theorem F29.r5 (Post : Value → AHeap → Prop) (N2 : Value → Value → Int → AHeap → Prop) : ∀ env H, F29.B5.e Post N2 env H → aOpsD Try.prog T0 F29.o5 (opsOf F29.o5 [(0, false), (1, false), (2, false), (3, false), (4, false), (5, false), (6, false), (7, false), (8, false), (9, false)]) env H (fun env H => asB (aev env (.tmp 26)) (fun b => pif b ((F29.B4.e Post N2) env H) ((F29.B3.e Post N2) env H))) := by
  intro env H h
  obtain ⟨hl, h⟩ := lenE h
  obtain ⟨x5, e5, h⟩ := asI_elim h
  exact use_opsD hl (upd_step (upd_step (upd_step rfl rfl) rfl) e5) ((F29.q5 _ Post N2 (List.getD env 0 undef) (List.getD env 1 undef) x5 H).mpr h)
noncomputable def F29.o6 : List Oper := opsIn (codeAt (bodyOf Try.f29) [.r, .r, .l, .r, .l, .l, .l, .l])
def F29.B6 (Post : Value → AHeap → Prop) (N2 : Value → Value → Int → AHeap → Prop) (x0 : Value) (x1 : Value) (x5 : Int) (H : AHeap) : Prop :=
  lenK x0 (fun n1 => pif (decide ((x5 : Int) < (n1 : Int))) (F29.B5 Post N2 x0 x1 x5 H) (F29.B1 Post H))
def F29.B6.e (Post : Value → AHeap → Prop) (N2 : Value → Value → Int → AHeap → Prop) : EP := fun env H => pif (Nat.beq (List.length env) 27) (asI .i64 (List.getD env 5 undef) (fun x5 => F29.B6 Post N2 (List.getD env 0 undef) (List.getD env 1 undef) x5 H)) False
theorem F29.q6 (u : Nat → Value) (Post : Value → AHeap → Prop) (N2 : Value → Value → Int → AHeap → Prop) (x0 : Value) (x1 : Value) (x5 : Int) (H : AHeap) : aOps Try.prog T0 F29.o6 F29.o6 (mkEnv (upd (upd (upd u 0 x0) 1 x1) 5 (Value.int .i64 x5)) 27 0) H (fun env H => asB (aev env (.tmp 14)) (fun b => pif b ((F29.B5.e Post N2) env H) ((F29.B1.e Post) env H))) = F29.B6 Post N2 x0 x1 x5 H := by kernel_rfl
theorem F29.r6 (Post : Value → AHeap → Prop) (N2 : Value → Value → Int → AHeap → Prop) : ∀ env H, F29.B6.e Post N2 env H → aOps Try.prog T0 F29.o6 F29.o6 env H (fun env H => asB (aev env (.tmp 14)) (fun b => pif b ((F29.B5.e Post N2) env H) ((F29.B1.e Post) env H))) := by
  intro env H h
  obtain ⟨hl, h⟩ := lenE h
  obtain ⟨x5, e5, h⟩ := asI_elim h
  exact use_ops hl (upd_step (upd_step (upd_step rfl rfl) rfl) e5) ((F29.q6 _ Post N2 (List.getD env 0 undef) (List.getD env 1 undef) x5 H).mpr h)
def F29.L2 (Post : Value → AHeap → Prop) (x0 : Value) (x1 : Value) (x5 : Int) (H : AHeap) : Prop :=
  ∃ (I : Value → Value → Int → AHeap → Prop) (μ : Value → Value → Int → AHeap → Nat), I x0 x1 x5 H ∧ ∀ x0' x1' x5' H', I x0' x1' x5' H' → F29.B6 Post (fun x0'' x1'' x5'' H'' => I x0'' x1'' x5'' H'' ∧ μ x0'' x1'' x5'' H'' < μ x0' x1' x5' H') x0' x1' x5' H'
def F29.L2.e (Post : Value → AHeap → Prop) : EP := fun env H => pif (Nat.beq (List.length env) 27) (asI .i64 (List.getD env 5 undef) (fun x5 => F29.L2 Post (List.getD env 0 undef) (List.getD env 1 undef) x5 H)) False
theorem F29.l2 (Post : Value → AHeap → Prop) {c : Code} {K : EP} {X : Nat → EP}
    (hb : ∀ N2 : Value → Value → Int → AHeap → Prop, ∀ env H, (F29.B6.e Post N2) env H → AW Try.prog T0 c env H (mkQ (F29.L2.ne N2) X (F29.ret Post))) :
    ∀ env H, F29.L2.e Post env H → AW Try.prog T0 (.loop c) env H (mkQ K X (F29.ret Post)) := by
  intro env H h
  obtain ⟨hl, h⟩ := lenE h
  obtain ⟨x5, e5, h⟩ := asI_elim h
  obtain ⟨I, μ, h0, hI⟩ := h
  refine r_loop (fun n env H => pif (Nat.beq (List.length env) 27) (asI .i64 (List.getD env 5 undef) (fun x5 => (I (List.getD env 0 undef) (List.getD env 1 undef) x5 H) ∧ (μ (List.getD env 0 undef) (List.getD env 1 undef) x5 H = n))) False) ?_ env H ⟨μ (List.getD env 0 undef) (List.getD env 1 undef) x5 H, lenM hl (asI_mk' e5 (⟨h0, rfl⟩))⟩
  intro n env' H' h
  obtain ⟨hl', h⟩ := lenE h
  obtain ⟨x5', e5', h⟩ := asI_elim h
  obtain ⟨hi, hm⟩ := h
  refine r_imp (hb (fun x0'' x1'' x5'' H'' => I x0'' x1'' x5'' H'' ∧ μ x0'' x1'' x5'' H'' < n)) ?_ env' H' ?_
  · intro env H h
    obtain ⟨hl'', h⟩ := lenE h
    obtain ⟨x5'', e5'', h⟩ := asI_elim h
    obtain ⟨hi, hlt⟩ := h
    exact ⟨_, hlt, lenM hl'' (asI_mk' e5'' (⟨hi, rfl⟩))⟩
  · have h := hI (List.getD env' 0 undef) (List.getD env' 1 undef) x5' H' hi
    rw [hm] at h
    exact lenM hl' (asI_mk' e5' (h))
noncomputable def F29.o7 : List Oper := opsIn (codeAt (bodyOf Try.f29) [.r, .r, .l, .l])
def F29.B7 (Post : Value → AHeap → Prop) (x0 : Value) (x1 : Value) (H : AHeap) : Prop :=
  F29.L2 Post x0 x1 0 H
def F29.B7.e (Post : Value → AHeap → Prop) : EP := fun env H => pif (Nat.beq (List.length env) 27) (F29.B7 Post (List.getD env 0 undef) (List.getD env 1 undef) H) False
theorem F29.q7 (u : Nat → Value) (Post : Value → AHeap → Prop) (x0 : Value) (x1 : Value) (H : AHeap) : aOps Try.prog T0 F29.o7 F29.o7 (mkEnv (upd (upd u 0 x0) 1 x1) 27 0) H (F29.L2.e Post) = F29.B7 Post x0 x1 H := by kernel_rfl
theorem F29.r7 (Post : Value → AHeap → Prop) : ∀ env H, F29.B7.e Post env H → aOps Try.prog T0 F29.o7 F29.o7 env H (F29.L2.e Post) := by
  intro env H h
  obtain ⟨hl, h⟩ := lenE h
  exact use_ops hl (upd_step (upd_step rfl rfl) rfl) ((F29.q7 _ Post (List.getD env 0 undef) (List.getD env 1 undef) H).mpr h)
noncomputable def F29.o8 : List Oper := opsIn (codeAt (bodyOf Try.f29) [.r, .l, .r, .l, .l])
def F29.B8 (Post : Value → AHeap → Prop) (H : AHeap) : Prop :=
  Post (Value.bool false) H
def F29.B8.e (Post : Value → AHeap → Prop) : EP := fun env H => pif (Nat.beq (List.length env) 27) (F29.B8 Post H) False
theorem F29.q8 (u : Nat → Value) (Post : Value → AHeap → Prop) (H : AHeap) : aOps Try.prog T0 F29.o8 F29.o8 (mkEnv u 27 0) H (F29.ret Post) = F29.B8 Post H := by kernel_rfl
theorem F29.r8 (Post : Value → AHeap → Prop) : ∀ env H, F29.B8.e Post env H → aOps Try.prog T0 F29.o8 F29.o8 env H (F29.ret Post) := by
  intro env H h
  obtain ⟨hl, h⟩ := lenE h
  exact use_ops hl rfl ((F29.q8 _ Post H).mpr h)
noncomputable def F29.o9 : List Oper := opsIn (codeAt (bodyOf Try.f29) [.r, .l, .l])
def F29.B9 (Post : Value → AHeap → Prop) (x0 : Value) (x1 : Value) (H : AHeap) : Prop :=
  lenK x0 (fun n1 => lenK x1 (fun n2 => pif (((n1 : Int) : Int) != (n2 : Int)) (F29.B8 Post H) (F29.B7 Post x0 x1 H)))
def F29.B9.e (Post : Value → AHeap → Prop) : EP := fun env H => pif (Nat.beq (List.length env) 27) (F29.B9 Post (List.getD env 0 undef) (List.getD env 1 undef) H) False
theorem F29.q9 (u : Nat → Value) (Post : Value → AHeap → Prop) (x0 : Value) (x1 : Value) (H : AHeap) : aOps Try.prog T0 F29.o9 F29.o9 (mkEnv (upd (upd u 0 x0) 1 x1) 27 0) H (fun env H => asB (aev env (.tmp 10)) (fun b => pif b ((F29.B8.e Post) env H) ((F29.B7.e Post) env H))) = F29.B9 Post x0 x1 H := by kernel_rfl
theorem F29.r9 (Post : Value → AHeap → Prop) : ∀ env H, F29.B9.e Post env H → aOps Try.prog T0 F29.o9 F29.o9 env H (fun env H => asB (aev env (.tmp 10)) (fun b => pif b ((F29.B8.e Post) env H) ((F29.B7.e Post) env H))) := by
  intro env H h
  obtain ⟨hl, h⟩ := lenE h
  exact use_ops hl (upd_step (upd_step rfl rfl) rfl) ((F29.q9 _ Post (List.getD env 0 undef) (List.getD env 1 undef) H).mpr h)
noncomputable def F29.o10 : List Oper := opsIn (codeAt (bodyOf Try.f29) [.l])
def F29.B10 (Post : Value → AHeap → Prop) (x0 : Value) (x1 : Value) (H : AHeap) : Prop :=
  F29.B9 Post x0 x1 H
def F29.B10.e (Post : Value → AHeap → Prop) : EP := fun env H => pif (Nat.beq (List.length env) 27) (F29.B10 Post (List.getD env 0 undef) (List.getD env 1 undef) H) False
theorem F29.q10 (u : Nat → Value) (Post : Value → AHeap → Prop) (x0 : Value) (x1 : Value) (H : AHeap) : aOps Try.prog T0 F29.o10 F29.o10 (mkEnv (upd (upd u 0 x0) 1 x1) 27 0) H (F29.B9.e Post) = F29.B10 Post x0 x1 H := by kernel_rfl
theorem F29.r10 (Post : Value → AHeap → Prop) : ∀ env H, F29.B10.e Post env H → aOps Try.prog T0 F29.o10 F29.o10 env H (F29.B9.e Post) := by
  intro env H h
  obtain ⟨hl, h⟩ := lenE h
  exact use_ops hl (upd_step (upd_step rfl rfl) rfl) ((F29.q10 _ Post (List.getD env 0 undef) (List.getD env 1 undef) H).mpr h)
noncomputable def F29.code : Code := (.seq (.region 0 ⟨F29.o10⟩ false) (.seq (.seq (.region 1 ⟨F29.o9⟩ false) (.cond (.tmp 10) (.seq (.region 2 ⟨F29.o8⟩ false) .ret) .skip)) (.seq (.seq (.region 3 ⟨F29.o7⟩ false) (.block 0 (.loop (.seq (.seq (.region 4 ⟨F29.o6⟩ false) (.cond (.tmp 14) .skip (.exit 0))) (.seq (.block 1 (.seq (.region 6 ⟨F29.o5⟩ true) (.cond (.tmp 26) (.seq (.region 7 ⟨F29.o4⟩ false) .ret) .skip))) (.region 5 ⟨F29.o3⟩ false)))))) (.seq (.region 8 ⟨F29.o1⟩ false) .ret))))
theorem F29.body : Try.f29.body = some F29.code := by kernel_rfl
theorem F29.main (Post : Value → AHeap → Prop) : ∀ env H, F29.B10.e Post env H → AW Try.prog T0 F29.code env H (mkQ (F29.ret Post) (fun _ _ _ => False) (F29.ret Post)) :=
  (r_seq (r_region T0_ok (F29.r10 Post)) (r_seq (r_seq (r_region T0_ok (F29.r9 Post)) (r_cond rfl (r_seq (r_region T0_ok (F29.r8 Post)) r_ret) r_skip)) (r_seq (r_seq (r_region T0_ok (F29.r7 Post)) (r_block (F29.l2 Post (fun N2 => (r_seq (r_seq (r_region T0_ok (F29.r6 Post N2)) (r_cond rfl r_skip (r_exit (fun _ _ h => h)))) (r_seq (r_block (r_seq (r_draw T0_ok mixed [(0, false), (1, false), (2, false), (3, false), (4, false), (5, false), (6, false), (7, false), (8, false), (9, false)] (by kernel_rfl) (F29.r5 Post N2)) (r_cond rfl (r_seq (r_region T0_ok (F29.r4 Post N2)) r_ret) r_skip))) (r_region T0_ok (F29.r3 Post N2)))))))) (r_seq (r_region T0_ok (F29.r1 Post)) r_ret))))
theorem F29.ac (Post : Value → AHeap → Prop) (x0 : Value) (x1 : Value) (H : AHeap) (h : F29.B10 Post x0 x1 H) : AC Try.prog T0 29 [x0, x1] H Post :=
  r_fn T0_ok (c := F29.code) (n := 27) Try.func29 F29.body (by kernel_rfl) (F29.main Post) (lenM (by kernel_rfl) (h))

-- loop.example/g01329/laws.markEdgeS
noncomputable def F30.ret (Post : Value → AHeap → Prop) : EP := retE T0 26 Try.f30 Post
noncomputable def F30.o1 : List Oper := opsIn (codeAt (bodyOf Try.f30) [.r, .r, .l])
def F30.B1 (Post : Value → AHeap → Prop) (x1 : Int) (H : AHeap) : Prop :=
  Post (Value.int .i64 x1) H
def F30.B1.e (Post : Value → AHeap → Prop) : EP := fun env H => pif (Nat.beq (List.length env) 26) (asI .i64 (List.getD env 1 undef) (fun x1 => F30.B1 Post x1 H)) False
theorem F30.q1 (u : Nat → Value) (Post : Value → AHeap → Prop) (x1 : Int) (H : AHeap) : aOps Try.prog T0 F30.o1 F30.o1 (mkEnv (upd u 1 (Value.int .i64 x1)) 26 0) H (F30.ret Post) = F30.B1 Post x1 H := by kernel_rfl
theorem F30.r1 (Post : Value → AHeap → Prop) : ∀ env H, F30.B1.e Post env H → aOps Try.prog T0 F30.o1 F30.o1 env H (F30.ret Post) := by
  intro env H h
  obtain ⟨hl, h⟩ := lenE h
  obtain ⟨x1, e1, h⟩ := asI_elim h
  exact use_ops hl (upd_step rfl e1) ((F30.q1 _ Post x1 H).mpr h)
def F30.L2.ne (N : Value → Int → Int → AHeap → Prop) : EP := fun env H => pif (Nat.beq (List.length env) 26) (asI .i64 (List.getD env 1 undef) (fun x1 => asI .i64 (List.getD env 5 undef) (fun x5 => N (List.getD env 0 undef) x1 x5 H))) False
noncomputable def F30.o3 : List Oper := opsIn (codeAt (bodyOf Try.f30) [.r, .l, .r, .l, .l, .r, .r])
def F30.B3 (Post : Value → AHeap → Prop) (N2 : Value → Int → Int → AHeap → Prop) (x0 : Value) (x1 : Int) (x5 : Int) (H : AHeap) : Prop :=
  N2 x0 x1 (IntKind.i64.wrap (x5 + 1)) H
def F30.B3.e (Post : Value → AHeap → Prop) (N2 : Value → Int → Int → AHeap → Prop) : EP := fun env H => pif (Nat.beq (List.length env) 26) (asI .i64 (List.getD env 1 undef) (fun x1 => asI .i64 (List.getD env 5 undef) (fun x5 => F30.B3 Post N2 (List.getD env 0 undef) x1 x5 H))) False
theorem F30.q3 (u : Nat → Value) (Post : Value → AHeap → Prop) (N2 : Value → Int → Int → AHeap → Prop) (x0 : Value) (x1 : Int) (x5 : Int) (H : AHeap) : aOps Try.prog T0 F30.o3 F30.o3 (mkEnv (upd (upd (upd u 0 x0) 1 (Value.int .i64 x1)) 5 (Value.int .i64 x5)) 26 0) H (F30.L2.ne N2) = F30.B3 Post N2 x0 x1 x5 H := by kernel_rfl
theorem F30.r3 (Post : Value → AHeap → Prop) (N2 : Value → Int → Int → AHeap → Prop) : ∀ env H, F30.B3.e Post N2 env H → aOps Try.prog T0 F30.o3 F30.o3 env H (F30.L2.ne N2) := by
  intro env H h
  obtain ⟨hl, h⟩ := lenE h
  obtain ⟨x1, e1, h⟩ := asI_elim h
  obtain ⟨x5, e5, h⟩ := asI_elim h
  exact use_ops hl (upd_step (upd_step (upd_step rfl rfl) e1) e5) ((F30.q3 _ Post N2 (List.getD env 0 undef) x1 x5 H).mpr h)
def F30.L4.ne (N : Value → Int → Int → Int → AHeap → Prop) : EP := fun env H => pif (Nat.beq (List.length env) 26) (asI .i64 (List.getD env 1 undef) (fun x1 => asI .i64 (List.getD env 5 undef) (fun x5 => asI .i64 (List.getD env 6 undef) (fun x6 => N (List.getD env 0 undef) x1 x5 x6 H)))) False
noncomputable def F30.o5 : List Oper := opsIn (codeAt (bodyOf Try.f30) [.r, .l, .r, .l, .l, .r, .l, .l, .r, .l, .l, .r, .r])
def F30.B5 (Post : Value → AHeap → Prop) (N2 : Value → Int → Int → AHeap → Prop) (N4 : Value → Int → Int → Int → AHeap → Prop) (x0 : Value) (x1 : Int) (x5 : Int) (x6 : Int) (H : AHeap) : Prop :=
  N4 x0 x1 x5 (IntKind.i64.wrap (x6 + 1)) H
def F30.B5.e (Post : Value → AHeap → Prop) (N2 : Value → Int → Int → AHeap → Prop) (N4 : Value → Int → Int → Int → AHeap → Prop) : EP := fun env H => pif (Nat.beq (List.length env) 26) (asI .i64 (List.getD env 1 undef) (fun x1 => asI .i64 (List.getD env 5 undef) (fun x5 => asI .i64 (List.getD env 6 undef) (fun x6 => F30.B5 Post N2 N4 (List.getD env 0 undef) x1 x5 x6 H)))) False
theorem F30.q5 (u : Nat → Value) (Post : Value → AHeap → Prop) (N2 : Value → Int → Int → AHeap → Prop) (N4 : Value → Int → Int → Int → AHeap → Prop) (x0 : Value) (x1 : Int) (x5 : Int) (x6 : Int) (H : AHeap) : aOps Try.prog T0 F30.o5 F30.o5 (mkEnv (upd (upd (upd (upd u 0 x0) 1 (Value.int .i64 x1)) 5 (Value.int .i64 x5)) 6 (Value.int .i64 x6)) 26 0) H (F30.L4.ne N4) = F30.B5 Post N2 N4 x0 x1 x5 x6 H := by kernel_rfl
theorem F30.r5 (Post : Value → AHeap → Prop) (N2 : Value → Int → Int → AHeap → Prop) (N4 : Value → Int → Int → Int → AHeap → Prop) : ∀ env H, F30.B5.e Post N2 N4 env H → aOps Try.prog T0 F30.o5 F30.o5 env H (F30.L4.ne N4) := by
  intro env H h
  obtain ⟨hl, h⟩ := lenE h
  obtain ⟨x1, e1, h⟩ := asI_elim h
  obtain ⟨x5, e5, h⟩ := asI_elim h
  obtain ⟨x6, e6, h⟩ := asI_elim h
  exact use_ops hl (upd_step (upd_step (upd_step (upd_step rfl rfl) e1) e5) e6) ((F30.q5 _ Post N2 N4 (List.getD env 0 undef) x1 x5 x6 H).mpr h)
noncomputable def F30.o6 : List Oper := opsIn (codeAt (bodyOf Try.f30) [.r, .l, .r, .l, .l, .r, .l, .l, .r, .l, .l, .r, .l, .l, .r])
def F30.B6 (Post : Value → AHeap → Prop) (N2 : Value → Int → Int → AHeap → Prop) (N4 : Value → Int → Int → Int → AHeap → Prop) (x0 : Value) (x1 : Int) (x5 : Int) (x6 : Int) (H : AHeap) : Prop :=
  F30.B5 Post N2 N4 x0 (IntKind.i64.wrap (x1 + 1)) x5 x6 H
def F30.B6.e (Post : Value → AHeap → Prop) (N2 : Value → Int → Int → AHeap → Prop) (N4 : Value → Int → Int → Int → AHeap → Prop) : EP := fun env H => pif (Nat.beq (List.length env) 26) (asI .i64 (List.getD env 1 undef) (fun x1 => asI .i64 (List.getD env 5 undef) (fun x5 => asI .i64 (List.getD env 6 undef) (fun x6 => F30.B6 Post N2 N4 (List.getD env 0 undef) x1 x5 x6 H)))) False
theorem F30.q6 (u : Nat → Value) (Post : Value → AHeap → Prop) (N2 : Value → Int → Int → AHeap → Prop) (N4 : Value → Int → Int → Int → AHeap → Prop) (x0 : Value) (x1 : Int) (x5 : Int) (x6 : Int) (H : AHeap) : aOps Try.prog T0 F30.o6 F30.o6 (mkEnv (upd (upd (upd (upd u 0 x0) 1 (Value.int .i64 x1)) 5 (Value.int .i64 x5)) 6 (Value.int .i64 x6)) 26 0) H (F30.B5.e Post N2 N4) = F30.B6 Post N2 N4 x0 x1 x5 x6 H := by kernel_rfl
theorem F30.r6 (Post : Value → AHeap → Prop) (N2 : Value → Int → Int → AHeap → Prop) (N4 : Value → Int → Int → Int → AHeap → Prop) : ∀ env H, F30.B6.e Post N2 N4 env H → aOps Try.prog T0 F30.o6 F30.o6 env H (F30.B5.e Post N2 N4) := by
  intro env H h
  obtain ⟨hl, h⟩ := lenE h
  obtain ⟨x1, e1, h⟩ := asI_elim h
  obtain ⟨x5, e5, h⟩ := asI_elim h
  obtain ⟨x6, e6, h⟩ := asI_elim h
  exact use_ops hl (upd_step (upd_step (upd_step (upd_step rfl rfl) e1) e5) e6) ((F30.q6 _ Post N2 N4 (List.getD env 0 undef) x1 x5 x6 H).mpr h)
noncomputable def F30.o7 : List Oper := opsIn (codeAt (bodyOf Try.f30) [.r, .l, .r, .l, .l, .r, .l, .l, .r, .l, .l, .r, .l, .l, .l])
def F30.B7 (Post : Value → AHeap → Prop) (N2 : Value → Int → Int → AHeap → Prop) (N4 : Value → Int → Int → Int → AHeap → Prop) (x0 : Value) (x1 : Int) (x5 : Int) (x6 : Int) (H : AHeap) : Prop :=
  idxK x0 x5 2 (fun b1 o2 => bndK x6 2 (stK H b1 (o2 + Int.toNat x6 * 1) [(Value.int .i64 x1)] (fun H3 => F30.B6 Post N2 N4 x0 x1 x5 x6 H3)))
def F30.B7.e (Post : Value → AHeap → Prop) (N2 : Value → Int → Int → AHeap → Prop) (N4 : Value → Int → Int → Int → AHeap → Prop) : EP := fun env H => pif (Nat.beq (List.length env) 26) (asI .i64 (List.getD env 1 undef) (fun x1 => asI .i64 (List.getD env 5 undef) (fun x5 => asI .i64 (List.getD env 6 undef) (fun x6 => F30.B7 Post N2 N4 (List.getD env 0 undef) x1 x5 x6 H)))) False
theorem F30.q7 (u : Nat → Value) (Post : Value → AHeap → Prop) (N2 : Value → Int → Int → AHeap → Prop) (N4 : Value → Int → Int → Int → AHeap → Prop) (x0 : Value) (x1 : Int) (x5 : Int) (x6 : Int) (H : AHeap) : aOps Try.prog T0 F30.o7 F30.o7 (mkEnv (upd (upd (upd (upd u 0 x0) 1 (Value.int .i64 x1)) 5 (Value.int .i64 x5)) 6 (Value.int .i64 x6)) 26 0) H (F30.B6.e Post N2 N4) = F30.B7 Post N2 N4 x0 x1 x5 x6 H := by kernel_rfl
theorem F30.r7 (Post : Value → AHeap → Prop) (N2 : Value → Int → Int → AHeap → Prop) (N4 : Value → Int → Int → Int → AHeap → Prop) : ∀ env H, F30.B7.e Post N2 N4 env H → aOps Try.prog T0 F30.o7 F30.o7 env H (F30.B6.e Post N2 N4) := by
  intro env H h
  obtain ⟨hl, h⟩ := lenE h
  obtain ⟨x1, e1, h⟩ := asI_elim h
  obtain ⟨x5, e5, h⟩ := asI_elim h
  obtain ⟨x6, e6, h⟩ := asI_elim h
  exact use_ops hl (upd_step (upd_step (upd_step (upd_step rfl rfl) e1) e5) e6) ((F30.q7 _ Post N2 N4 (List.getD env 0 undef) x1 x5 x6 H).mpr h)
noncomputable def F30.o8 : List Oper := opsIn (codeAt (bodyOf Try.f30) [.r, .l, .r, .l, .l, .r, .l, .l, .r, .l, .l, .l, .l])
def F30.B8 (Post : Value → AHeap → Prop) (N2 : Value → Int → Int → AHeap → Prop) (N4 : Value → Int → Int → Int → AHeap → Prop) (x0 : Value) (x1 : Int) (x5 : Int) (x6 : Int) (H : AHeap) : Prop :=
  pif (decide ((x6 : Int) < 2)) (F30.B7 Post N2 N4 x0 x1 x5 x6 H) (F30.B3 Post N2 x0 x1 x5 H)
def F30.B8.e (Post : Value → AHeap → Prop) (N2 : Value → Int → Int → AHeap → Prop) (N4 : Value → Int → Int → Int → AHeap → Prop) : EP := fun env H => pif (Nat.beq (List.length env) 26) (asI .i64 (List.getD env 1 undef) (fun x1 => asI .i64 (List.getD env 5 undef) (fun x5 => asI .i64 (List.getD env 6 undef) (fun x6 => F30.B8 Post N2 N4 (List.getD env 0 undef) x1 x5 x6 H)))) False
theorem F30.q8 (u : Nat → Value) (Post : Value → AHeap → Prop) (N2 : Value → Int → Int → AHeap → Prop) (N4 : Value → Int → Int → Int → AHeap → Prop) (x0 : Value) (x1 : Int) (x5 : Int) (x6 : Int) (H : AHeap) : aOps Try.prog T0 F30.o8 F30.o8 (mkEnv (upd (upd (upd (upd u 0 x0) 1 (Value.int .i64 x1)) 5 (Value.int .i64 x5)) 6 (Value.int .i64 x6)) 26 0) H (fun env H => asB (aev env (.tmp 14)) (fun b => pif b ((F30.B7.e Post N2 N4) env H) ((F30.B3.e Post N2) env H))) = F30.B8 Post N2 N4 x0 x1 x5 x6 H := by kernel_rfl
theorem F30.r8 (Post : Value → AHeap → Prop) (N2 : Value → Int → Int → AHeap → Prop) (N4 : Value → Int → Int → Int → AHeap → Prop) : ∀ env H, F30.B8.e Post N2 N4 env H → aOps Try.prog T0 F30.o8 F30.o8 env H (fun env H => asB (aev env (.tmp 14)) (fun b => pif b ((F30.B7.e Post N2 N4) env H) ((F30.B3.e Post N2) env H))) := by
  intro env H h
  obtain ⟨hl, h⟩ := lenE h
  obtain ⟨x1, e1, h⟩ := asI_elim h
  obtain ⟨x5, e5, h⟩ := asI_elim h
  obtain ⟨x6, e6, h⟩ := asI_elim h
  exact use_ops hl (upd_step (upd_step (upd_step (upd_step rfl rfl) e1) e5) e6) ((F30.q8 _ Post N2 N4 (List.getD env 0 undef) x1 x5 x6 H).mpr h)
def F30.L4 (Post : Value → AHeap → Prop) (N2 : Value → Int → Int → AHeap → Prop) (x0 : Value) (x1 : Int) (x5 : Int) (x6 : Int) (H : AHeap) : Prop :=
  ∃ (I : Value → Int → Int → Int → AHeap → Prop) (μ : Value → Int → Int → Int → AHeap → Nat), I x0 x1 x5 x6 H ∧ ∀ x0' x1' x5' x6' H', I x0' x1' x5' x6' H' → F30.B8 Post N2 (fun x0'' x1'' x5'' x6'' H'' => I x0'' x1'' x5'' x6'' H'' ∧ μ x0'' x1'' x5'' x6'' H'' < μ x0' x1' x5' x6' H') x0' x1' x5' x6' H'
def F30.L4.e (Post : Value → AHeap → Prop) (N2 : Value → Int → Int → AHeap → Prop) : EP := fun env H => pif (Nat.beq (List.length env) 26) (asI .i64 (List.getD env 1 undef) (fun x1 => asI .i64 (List.getD env 5 undef) (fun x5 => asI .i64 (List.getD env 6 undef) (fun x6 => F30.L4 Post N2 (List.getD env 0 undef) x1 x5 x6 H)))) False
theorem F30.l4 (Post : Value → AHeap → Prop) (N2 : Value → Int → Int → AHeap → Prop) {c : Code} {K : EP} {X : Nat → EP}
    (hb : ∀ N4 : Value → Int → Int → Int → AHeap → Prop, ∀ env H, (F30.B8.e Post N2 N4) env H → AW Try.prog T0 c env H (mkQ (F30.L4.ne N4) X (F30.ret Post))) :
    ∀ env H, F30.L4.e Post N2 env H → AW Try.prog T0 (.loop c) env H (mkQ K X (F30.ret Post)) := by
  intro env H h
  obtain ⟨hl, h⟩ := lenE h
  obtain ⟨x1, e1, h⟩ := asI_elim h
  obtain ⟨x5, e5, h⟩ := asI_elim h
  obtain ⟨x6, e6, h⟩ := asI_elim h
  obtain ⟨I, μ, h0, hI⟩ := h
  refine r_loop (fun n env H => pif (Nat.beq (List.length env) 26) (asI .i64 (List.getD env 1 undef) (fun x1 => asI .i64 (List.getD env 5 undef) (fun x5 => asI .i64 (List.getD env 6 undef) (fun x6 => (I (List.getD env 0 undef) x1 x5 x6 H) ∧ (μ (List.getD env 0 undef) x1 x5 x6 H = n))))) False) ?_ env H ⟨μ (List.getD env 0 undef) x1 x5 x6 H, lenM hl (asI_mk' e1 (asI_mk' e5 (asI_mk' e6 (⟨h0, rfl⟩))))⟩
  intro n env' H' h
  obtain ⟨hl', h⟩ := lenE h
  obtain ⟨x1', e1', h⟩ := asI_elim h
  obtain ⟨x5', e5', h⟩ := asI_elim h
  obtain ⟨x6', e6', h⟩ := asI_elim h
  obtain ⟨hi, hm⟩ := h
  refine r_imp (hb (fun x0'' x1'' x5'' x6'' H'' => I x0'' x1'' x5'' x6'' H'' ∧ μ x0'' x1'' x5'' x6'' H'' < n)) ?_ env' H' ?_
  · intro env H h
    obtain ⟨hl'', h⟩ := lenE h
    obtain ⟨x1'', e1'', h⟩ := asI_elim h
    obtain ⟨x5'', e5'', h⟩ := asI_elim h
    obtain ⟨x6'', e6'', h⟩ := asI_elim h
    obtain ⟨hi, hlt⟩ := h
    exact ⟨_, hlt, lenM hl'' (asI_mk' e1'' (asI_mk' e5'' (asI_mk' e6'' (⟨hi, rfl⟩))))⟩
  · have h := hI (List.getD env' 0 undef) x1' x5' x6' H' hi
    rw [hm] at h
    exact lenM hl' (asI_mk' e1' (asI_mk' e5' (asI_mk' e6' (h))))
noncomputable def F30.o9 : List Oper := opsIn (codeAt (bodyOf Try.f30) [.r, .l, .r, .l, .l, .r, .l, .l, .l])
def F30.B9 (Post : Value → AHeap → Prop) (N2 : Value → Int → Int → AHeap → Prop) (x0 : Value) (x1 : Int) (x5 : Int) (H : AHeap) : Prop :=
  F30.L4 Post N2 x0 x1 x5 0 H
def F30.B9.e (Post : Value → AHeap → Prop) (N2 : Value → Int → Int → AHeap → Prop) : EP := fun env H => pif (Nat.beq (List.length env) 26) (asI .i64 (List.getD env 1 undef) (fun x1 => asI .i64 (List.getD env 5 undef) (fun x5 => F30.B9 Post N2 (List.getD env 0 undef) x1 x5 H))) False
theorem F30.q9 (u : Nat → Value) (Post : Value → AHeap → Prop) (N2 : Value → Int → Int → AHeap → Prop) (x0 : Value) (x1 : Int) (x5 : Int) (H : AHeap) : aOps Try.prog T0 F30.o9 F30.o9 (mkEnv (upd (upd (upd u 0 x0) 1 (Value.int .i64 x1)) 5 (Value.int .i64 x5)) 26 0) H (F30.L4.e Post N2) = F30.B9 Post N2 x0 x1 x5 H := by kernel_rfl
theorem F30.r9 (Post : Value → AHeap → Prop) (N2 : Value → Int → Int → AHeap → Prop) : ∀ env H, F30.B9.e Post N2 env H → aOps Try.prog T0 F30.o9 F30.o9 env H (F30.L4.e Post N2) := by
  intro env H h
  obtain ⟨hl, h⟩ := lenE h
  obtain ⟨x1, e1, h⟩ := asI_elim h
  obtain ⟨x5, e5, h⟩ := asI_elim h
  exact use_ops hl (upd_step (upd_step (upd_step rfl rfl) e1) e5) ((F30.q9 _ Post N2 (List.getD env 0 undef) x1 x5 H).mpr h)
noncomputable def F30.o10 : List Oper := opsIn (codeAt (bodyOf Try.f30) [.r, .l, .r, .l, .l, .l, .l])
def F30.B10 (Post : Value → AHeap → Prop) (N2 : Value → Int → Int → AHeap → Prop) (x0 : Value) (x1 : Int) (x5 : Int) (H : AHeap) : Prop :=
  lenK x0 (fun n1 => pif (decide ((x5 : Int) < (n1 : Int))) (F30.B9 Post N2 x0 x1 x5 H) (F30.B1 Post x1 H))
def F30.B10.e (Post : Value → AHeap → Prop) (N2 : Value → Int → Int → AHeap → Prop) : EP := fun env H => pif (Nat.beq (List.length env) 26) (asI .i64 (List.getD env 1 undef) (fun x1 => asI .i64 (List.getD env 5 undef) (fun x5 => F30.B10 Post N2 (List.getD env 0 undef) x1 x5 H))) False
theorem F30.q10 (u : Nat → Value) (Post : Value → AHeap → Prop) (N2 : Value → Int → Int → AHeap → Prop) (x0 : Value) (x1 : Int) (x5 : Int) (H : AHeap) : aOps Try.prog T0 F30.o10 F30.o10 (mkEnv (upd (upd (upd u 0 x0) 1 (Value.int .i64 x1)) 5 (Value.int .i64 x5)) 26 0) H (fun env H => asB (aev env (.tmp 10)) (fun b => pif b ((F30.B9.e Post N2) env H) ((F30.B1.e Post) env H))) = F30.B10 Post N2 x0 x1 x5 H := by kernel_rfl
theorem F30.r10 (Post : Value → AHeap → Prop) (N2 : Value → Int → Int → AHeap → Prop) : ∀ env H, F30.B10.e Post N2 env H → aOps Try.prog T0 F30.o10 F30.o10 env H (fun env H => asB (aev env (.tmp 10)) (fun b => pif b ((F30.B9.e Post N2) env H) ((F30.B1.e Post) env H))) := by
  intro env H h
  obtain ⟨hl, h⟩ := lenE h
  obtain ⟨x1, e1, h⟩ := asI_elim h
  obtain ⟨x5, e5, h⟩ := asI_elim h
  exact use_ops hl (upd_step (upd_step (upd_step rfl rfl) e1) e5) ((F30.q10 _ Post N2 (List.getD env 0 undef) x1 x5 H).mpr h)
def F30.L2 (Post : Value → AHeap → Prop) (x0 : Value) (x1 : Int) (x5 : Int) (H : AHeap) : Prop :=
  ∃ (I : Value → Int → Int → AHeap → Prop) (μ : Value → Int → Int → AHeap → Nat), I x0 x1 x5 H ∧ ∀ x0' x1' x5' H', I x0' x1' x5' H' → F30.B10 Post (fun x0'' x1'' x5'' H'' => I x0'' x1'' x5'' H'' ∧ μ x0'' x1'' x5'' H'' < μ x0' x1' x5' H') x0' x1' x5' H'
def F30.L2.e (Post : Value → AHeap → Prop) : EP := fun env H => pif (Nat.beq (List.length env) 26) (asI .i64 (List.getD env 1 undef) (fun x1 => asI .i64 (List.getD env 5 undef) (fun x5 => F30.L2 Post (List.getD env 0 undef) x1 x5 H))) False
theorem F30.l2 (Post : Value → AHeap → Prop) {c : Code} {K : EP} {X : Nat → EP}
    (hb : ∀ N2 : Value → Int → Int → AHeap → Prop, ∀ env H, (F30.B10.e Post N2) env H → AW Try.prog T0 c env H (mkQ (F30.L2.ne N2) X (F30.ret Post))) :
    ∀ env H, F30.L2.e Post env H → AW Try.prog T0 (.loop c) env H (mkQ K X (F30.ret Post)) := by
  intro env H h
  obtain ⟨hl, h⟩ := lenE h
  obtain ⟨x1, e1, h⟩ := asI_elim h
  obtain ⟨x5, e5, h⟩ := asI_elim h
  obtain ⟨I, μ, h0, hI⟩ := h
  refine r_loop (fun n env H => pif (Nat.beq (List.length env) 26) (asI .i64 (List.getD env 1 undef) (fun x1 => asI .i64 (List.getD env 5 undef) (fun x5 => (I (List.getD env 0 undef) x1 x5 H) ∧ (μ (List.getD env 0 undef) x1 x5 H = n)))) False) ?_ env H ⟨μ (List.getD env 0 undef) x1 x5 H, lenM hl (asI_mk' e1 (asI_mk' e5 (⟨h0, rfl⟩)))⟩
  intro n env' H' h
  obtain ⟨hl', h⟩ := lenE h
  obtain ⟨x1', e1', h⟩ := asI_elim h
  obtain ⟨x5', e5', h⟩ := asI_elim h
  obtain ⟨hi, hm⟩ := h
  refine r_imp (hb (fun x0'' x1'' x5'' H'' => I x0'' x1'' x5'' H'' ∧ μ x0'' x1'' x5'' H'' < n)) ?_ env' H' ?_
  · intro env H h
    obtain ⟨hl'', h⟩ := lenE h
    obtain ⟨x1'', e1'', h⟩ := asI_elim h
    obtain ⟨x5'', e5'', h⟩ := asI_elim h
    obtain ⟨hi, hlt⟩ := h
    exact ⟨_, hlt, lenM hl'' (asI_mk' e1'' (asI_mk' e5'' (⟨hi, rfl⟩)))⟩
  · have h := hI (List.getD env' 0 undef) x1' x5' H' hi
    rw [hm] at h
    exact lenM hl' (asI_mk' e1' (asI_mk' e5' (h)))
noncomputable def F30.o11 : List Oper := opsIn (codeAt (bodyOf Try.f30) [.r, .l, .l])
def F30.B11 (Post : Value → AHeap → Prop) (x0 : Value) (x1 : Int) (H : AHeap) : Prop :=
  F30.L2 Post x0 x1 0 H
def F30.B11.e (Post : Value → AHeap → Prop) : EP := fun env H => pif (Nat.beq (List.length env) 26) (asI .i64 (List.getD env 1 undef) (fun x1 => F30.B11 Post (List.getD env 0 undef) x1 H)) False
theorem F30.q11 (u : Nat → Value) (Post : Value → AHeap → Prop) (x0 : Value) (x1 : Int) (H : AHeap) : aOps Try.prog T0 F30.o11 F30.o11 (mkEnv (upd (upd u 0 x0) 1 (Value.int .i64 x1)) 26 0) H (F30.L2.e Post) = F30.B11 Post x0 x1 H := by kernel_rfl
theorem F30.r11 (Post : Value → AHeap → Prop) : ∀ env H, F30.B11.e Post env H → aOps Try.prog T0 F30.o11 F30.o11 env H (F30.L2.e Post) := by
  intro env H h
  obtain ⟨hl, h⟩ := lenE h
  obtain ⟨x1, e1, h⟩ := asI_elim h
  exact use_ops hl (upd_step (upd_step rfl rfl) e1) ((F30.q11 _ Post (List.getD env 0 undef) x1 H).mpr h)
noncomputable def F30.o12 : List Oper := opsIn (codeAt (bodyOf Try.f30) [.l])
def F30.B12 (Post : Value → AHeap → Prop) (x0 : Value) (x1 : Int) (H : AHeap) : Prop :=
  F30.B11 Post x0 x1 H
def F30.B12.e (Post : Value → AHeap → Prop) : EP := fun env H => pif (Nat.beq (List.length env) 26) (asI .i64 (List.getD env 1 undef) (fun x1 => F30.B12 Post (List.getD env 0 undef) x1 H)) False
theorem F30.q12 (u : Nat → Value) (Post : Value → AHeap → Prop) (x0 : Value) (x1 : Int) (H : AHeap) : aOps Try.prog T0 F30.o12 F30.o12 (mkEnv (upd (upd u 0 x0) 1 (Value.int .i64 x1)) 26 0) H (F30.B11.e Post) = F30.B12 Post x0 x1 H := by kernel_rfl
theorem F30.r12 (Post : Value → AHeap → Prop) : ∀ env H, F30.B12.e Post env H → aOps Try.prog T0 F30.o12 F30.o12 env H (F30.B11.e Post) := by
  intro env H h
  obtain ⟨hl, h⟩ := lenE h
  obtain ⟨x1, e1, h⟩ := asI_elim h
  exact use_ops hl (upd_step (upd_step rfl rfl) e1) ((F30.q12 _ Post (List.getD env 0 undef) x1 H).mpr h)
noncomputable def F30.code : Code := (.seq (.region 0 ⟨F30.o12⟩ false) (.seq (.seq (.region 1 ⟨F30.o11⟩ false) (.block 0 (.loop (.seq (.seq (.region 2 ⟨F30.o10⟩ false) (.cond (.tmp 10) .skip (.exit 0))) (.seq (.block 1 (.seq (.region 4 ⟨F30.o9⟩ false) (.block 2 (.loop (.seq (.seq (.region 5 ⟨F30.o8⟩ false) (.cond (.tmp 14) .skip (.exit 2))) (.seq (.block 3 (.seq (.region 7 ⟨F30.o7⟩ false) (.region 8 ⟨F30.o6⟩ false))) (.region 6 ⟨F30.o5⟩ false))))))) (.region 3 ⟨F30.o3⟩ false)))))) (.seq (.region 9 ⟨F30.o1⟩ false) .ret)))
theorem F30.body : Try.f30.body = some F30.code := by kernel_rfl
theorem F30.main (Post : Value → AHeap → Prop) : ∀ env H, F30.B12.e Post env H → AW Try.prog T0 F30.code env H (mkQ (F30.ret Post) (fun _ _ _ => False) (F30.ret Post)) :=
  (r_seq (r_region T0_ok (F30.r12 Post)) (r_seq (r_seq (r_region T0_ok (F30.r11 Post)) (r_block (F30.l2 Post (fun N2 => (r_seq (r_seq (r_region T0_ok (F30.r10 Post N2)) (r_cond rfl r_skip (r_exit (fun _ _ h => h)))) (r_seq (r_block (r_seq (r_region T0_ok (F30.r9 Post N2)) (r_block (F30.l4 Post N2 (fun N4 => (r_seq (r_seq (r_region T0_ok (F30.r8 Post N2 N4)) (r_cond rfl r_skip (r_exit (fun _ _ h => h)))) (r_seq (r_block (r_seq (r_region T0_ok (F30.r7 Post N2 N4)) (r_region T0_ok (F30.r6 Post N2 N4)))) (r_region T0_ok (F30.r5 Post N2 N4))))))))) (r_region T0_ok (F30.r3 Post N2)))))))) (r_seq (r_region T0_ok (F30.r1 Post)) r_ret)))
theorem F30.ac (Post : Value → AHeap → Prop) (x0 : Value) (x1 : Int) (H : AHeap) (h : F30.B12 Post x0 x1 H) : AC Try.prog T0 30 [x0, (Value.int .i64 x1)] H Post :=
  r_fn T0_ok (c := F30.code) (n := 26) Try.func30 F30.body (by kernel_rfl) (F30.main Post) (lenM (by kernel_rfl) (asI_mk' (by kernel_rfl) (h)))

-- loop.example/g01329/laws.szInt64S
noncomputable def F31.ret (Post : Value → AHeap → Prop) : EP := retE T0 12 Try.f31 Post
noncomputable def F31.o1 : List Oper := opsIn (codeAt (bodyOf Try.f31) [.r, .r, .r, .l])
def F31.B1 (Post : Value → AHeap → Prop) (x1 : Int) (H : AHeap) : Prop :=
  Post (Value.int .i64 x1) H
def F31.B1.e (Post : Value → AHeap → Prop) : EP := fun env H => pif (Nat.beq (List.length env) 12) (asI .i64 (List.getD env 1 undef) (fun x1 => F31.B1 Post x1 H)) False
theorem F31.q1 (u : Nat → Value) (Post : Value → AHeap → Prop) (x1 : Int) (H : AHeap) : aOps Try.prog T0 F31.o1 F31.o1 (mkEnv (upd u 1 (Value.int .i64 x1)) 12 0) H (F31.ret Post) = F31.B1 Post x1 H := by kernel_rfl
theorem F31.r1 (Post : Value → AHeap → Prop) : ∀ env H, F31.B1.e Post env H → aOps Try.prog T0 F31.o1 F31.o1 env H (F31.ret Post) := by
  intro env H h
  obtain ⟨hl, h⟩ := lenE h
  obtain ⟨x1, e1, h⟩ := asI_elim h
  exact use_ops hl (upd_step rfl e1) ((F31.q1 _ Post x1 H).mpr h)
noncomputable def F31.o2 : List Oper := opsIn (codeAt (bodyOf Try.f31) [.r, .r, .l, .r, .l, .l])
def F31.B2 (Post : Value → AHeap → Prop) (H : AHeap) : Prop :=
  Post (Value.int .i64 (-1)) H
def F31.B2.e (Post : Value → AHeap → Prop) : EP := fun env H => pif (Nat.beq (List.length env) 12) (F31.B2 Post H) False
theorem F31.q2 (u : Nat → Value) (Post : Value → AHeap → Prop) (H : AHeap) : aOps Try.prog T0 F31.o2 F31.o2 (mkEnv u 12 0) H (F31.ret Post) = F31.B2 Post H := by kernel_rfl
theorem F31.r2 (Post : Value → AHeap → Prop) : ∀ env H, F31.B2.e Post env H → aOps Try.prog T0 F31.o2 F31.o2 env H (F31.ret Post) := by
  intro env H h
  obtain ⟨hl, h⟩ := lenE h
  exact use_ops hl rfl ((F31.q2 _ Post H).mpr h)
noncomputable def F31.o3 : List Oper := opsIn (codeAt (bodyOf Try.f31) [.r, .r, .l, .l])
def F31.B3 (Post : Value → AHeap → Prop) (x1 : Int) (H : AHeap) : Prop :=
  pif (decide ((x1 : Int) < 0)) (F31.B2 Post H) (F31.B1 Post x1 H)
def F31.B3.e (Post : Value → AHeap → Prop) : EP := fun env H => pif (Nat.beq (List.length env) 12) (asI .i64 (List.getD env 1 undef) (fun x1 => F31.B3 Post x1 H)) False
theorem F31.q3 (u : Nat → Value) (Post : Value → AHeap → Prop) (x1 : Int) (H : AHeap) : aOps Try.prog T0 F31.o3 F31.o3 (mkEnv (upd u 1 (Value.int .i64 x1)) 12 0) H (fun env H => asB (aev env (.tmp 10)) (fun b => pif b ((F31.B2.e Post) env H) ((F31.B1.e Post) env H))) = F31.B3 Post x1 H := by kernel_rfl
theorem F31.r3 (Post : Value → AHeap → Prop) : ∀ env H, F31.B3.e Post env H → aOps Try.prog T0 F31.o3 F31.o3 env H (fun env H => asB (aev env (.tmp 10)) (fun b => pif b ((F31.B2.e Post) env H) ((F31.B1.e Post) env H))) := by
  intro env H h
  obtain ⟨hl, h⟩ := lenE h
  obtain ⟨x1, e1, h⟩ := asI_elim h
  exact use_ops hl (upd_step rfl e1) ((F31.q3 _ Post x1 H).mpr h)
noncomputable def F31.o4 : List Oper := opsIn (codeAt (bodyOf Try.f31) [.r, .l])
def F31.B4 (Post : Value → AHeap → Prop) (x0 : Value) (x1 : Int) (H : AHeap) : Prop :=
  lenK x0 (fun n1 => F31.B3 Post (IntKind.i64.wrap (x1 - (n1 : Int))) H)
def F31.B4.e (Post : Value → AHeap → Prop) : EP := fun env H => pif (Nat.beq (List.length env) 12) (asI .i64 (List.getD env 1 undef) (fun x1 => F31.B4 Post (List.getD env 0 undef) x1 H)) False
theorem F31.q4 (u : Nat → Value) (Post : Value → AHeap → Prop) (x0 : Value) (x1 : Int) (H : AHeap) : aOps Try.prog T0 F31.o4 F31.o4 (mkEnv (upd (upd u 0 x0) 1 (Value.int .i64 x1)) 12 0) H (F31.B3.e Post) = F31.B4 Post x0 x1 H := by kernel_rfl
theorem F31.r4 (Post : Value → AHeap → Prop) : ∀ env H, F31.B4.e Post env H → aOps Try.prog T0 F31.o4 F31.o4 env H (F31.B3.e Post) := by
  intro env H h
  obtain ⟨hl, h⟩ := lenE h
  obtain ⟨x1, e1, h⟩ := asI_elim h
  exact use_ops hl (upd_step (upd_step rfl rfl) e1) ((F31.q4 _ Post (List.getD env 0 undef) x1 H).mpr h)
noncomputable def F31.o5 : List Oper := opsIn (codeAt (bodyOf Try.f31) [.l])
def F31.B5 (Post : Value → AHeap → Prop) (x0 : Value) (x1 : Int) (H : AHeap) : Prop :=
  F31.B4 Post x0 x1 H
def F31.B5.e (Post : Value → AHeap → Prop) : EP := fun env H => pif (Nat.beq (List.length env) 12) (asI .i64 (List.getD env 1 undef) (fun x1 => F31.B5 Post (List.getD env 0 undef) x1 H)) False
theorem F31.q5 (u : Nat → Value) (Post : Value → AHeap → Prop) (x0 : Value) (x1 : Int) (H : AHeap) : aOps Try.prog T0 F31.o5 F31.o5 (mkEnv (upd (upd u 0 x0) 1 (Value.int .i64 x1)) 12 0) H (F31.B4.e Post) = F31.B5 Post x0 x1 H := by kernel_rfl
theorem F31.r5 (Post : Value → AHeap → Prop) : ∀ env H, F31.B5.e Post env H → aOps Try.prog T0 F31.o5 F31.o5 env H (F31.B4.e Post) := by
  intro env H h
  obtain ⟨hl, h⟩ := lenE h
  obtain ⟨x1, e1, h⟩ := asI_elim h
  exact use_ops hl (upd_step (upd_step rfl rfl) e1) ((F31.q5 _ Post (List.getD env 0 undef) x1 H).mpr h)
noncomputable def F31.code : Code := (.seq (.region 0 ⟨F31.o5⟩ false) (.seq (.region 1 ⟨F31.o4⟩ false) (.seq (.seq (.region 2 ⟨F31.o3⟩ false) (.cond (.tmp 10) (.seq (.region 3 ⟨F31.o2⟩ false) .ret) .skip)) (.seq (.region 4 ⟨F31.o1⟩ false) .ret))))
theorem F31.body : Try.f31.body = some F31.code := by kernel_rfl
theorem F31.main (Post : Value → AHeap → Prop) : ∀ env H, F31.B5.e Post env H → AW Try.prog T0 F31.code env H (mkQ (F31.ret Post) (fun _ _ _ => False) (F31.ret Post)) :=
  (r_seq (r_region T0_ok (F31.r5 Post)) (r_seq (r_region T0_ok (F31.r4 Post)) (r_seq (r_seq (r_region T0_ok (F31.r3 Post)) (r_cond rfl (r_seq (r_region T0_ok (F31.r2 Post)) r_ret) r_skip)) (r_seq (r_region T0_ok (F31.r1 Post)) r_ret))))
theorem F31.ac (Post : Value → AHeap → Prop) (x0 : Value) (x1 : Int) (H : AHeap) (h : F31.B5 Post x0 x1 H) : AC Try.prog T0 31 [x0, (Value.int .i64 x1)] H Post :=
  r_fn T0_ok (c := F31.code) (n := 12) Try.func31 F31.body (by kernel_rfl) (F31.main Post) (lenM (by kernel_rfl) (asI_mk' (by kernel_rfl) (h)))

-- loop.example/g01329/spec.l01Is
noncomputable def F32.ret (Post : Value → AHeap → Prop) : EP := retE T0 56 Try.f32 Post
noncomputable def F32.o1 : List Oper := opsIn (codeAt (bodyOf Try.f32) [.r, .r, .r, .l])
def F32.B1 (Post : Value → AHeap → Prop) (H : AHeap) : Prop :=
  Post (Value.bool true) H
def F32.B1.e (Post : Value → AHeap → Prop) : EP := fun env H => pif (Nat.beq (List.length env) 56) (F32.B1 Post H) False
theorem F32.q1 (u : Nat → Value) (Post : Value → AHeap → Prop) (H : AHeap) : aOps Try.prog T0 F32.o1 F32.o1 (mkEnv u 56 0) H (F32.ret Post) = F32.B1 Post H := by kernel_rfl
theorem F32.r1 (Post : Value → AHeap → Prop) : ∀ env H, F32.B1.e Post env H → aOps Try.prog T0 F32.o1 F32.o1 env H (F32.ret Post) := by
  intro env H h
  obtain ⟨hl, h⟩ := lenE h
  exact use_ops hl rfl ((F32.q1 _ Post H).mpr h)
def F32.L2.ne (N : Nat → Int → AHeap → Prop) : EP := fun env H => pif (Nat.beq (List.length env) 56) (asX (List.getD env 1 undef) (fun x1 => asI .i64 (List.getD env 3 undef) (fun x3 => N x1 x3 H))) False
noncomputable def F32.o3 : List Oper := opsIn (codeAt (bodyOf Try.f32) [.r, .r, .l, .r, .l, .l, .r, .r])
def F32.B3 (Post : Value → AHeap → Prop) (N2 : Nat → Int → AHeap → Prop) (x1 : Nat) (x3 : Int) (H : AHeap) : Prop :=
  N2 x1 (IntKind.i64.wrap (x3 + 1)) H
def F32.B3.e (Post : Value → AHeap → Prop) (N2 : Nat → Int → AHeap → Prop) : EP := fun env H => pif (Nat.beq (List.length env) 56) (asX (List.getD env 1 undef) (fun x1 => asI .i64 (List.getD env 3 undef) (fun x3 => F32.B3 Post N2 x1 x3 H))) False
theorem F32.q3 (u : Nat → Value) (Post : Value → AHeap → Prop) (N2 : Nat → Int → AHeap → Prop) (x1 : Nat) (x3 : Int) (H : AHeap) : aOps Try.prog T0 F32.o3 F32.o3 (mkEnv (upd (upd u 1 (Value.pointer (some ⟨x1, 0, none⟩))) 3 (Value.int .i64 x3)) 56 0) H (F32.L2.ne N2) = F32.B3 Post N2 x1 x3 H := by kernel_rfl
theorem F32.r3 (Post : Value → AHeap → Prop) (N2 : Nat → Int → AHeap → Prop) : ∀ env H, F32.B3.e Post N2 env H → aOps Try.prog T0 F32.o3 F32.o3 env H (F32.L2.ne N2) := by
  intro env H h
  obtain ⟨hl, h⟩ := lenE h
  obtain ⟨x1, e1, h⟩ := asX_elim h
  obtain ⟨x3, e3, h⟩ := asI_elim h
  exact use_ops hl (upd_step (upd_step rfl e1) e3) ((F32.q3 _ Post N2 x1 x3 H).mpr h)
noncomputable def F32.o4 : List Oper := opsIn (codeAt (bodyOf Try.f32) [.r, .r, .l, .r, .l, .l, .r, .l, .l, .r, .l, .l])
def F32.B4 (Post : Value → AHeap → Prop) (N2 : Nat → Int → AHeap → Prop) (H : AHeap) : Prop :=
  Post (Value.bool false) H
def F32.B4.e (Post : Value → AHeap → Prop) (N2 : Nat → Int → AHeap → Prop) : EP := fun env H => pif (Nat.beq (List.length env) 56) (F32.B4 Post N2 H) False
theorem F32.q4 (u : Nat → Value) (Post : Value → AHeap → Prop) (N2 : Nat → Int → AHeap → Prop) (H : AHeap) : aOps Try.prog T0 F32.o4 F32.o4 (mkEnv u 56 0) H (F32.ret Post) = F32.B4 Post N2 H := by kernel_rfl
theorem F32.r4 (Post : Value → AHeap → Prop) (N2 : Nat → Int → AHeap → Prop) : ∀ env H, F32.B4.e Post N2 env H → aOps Try.prog T0 F32.o4 F32.o4 env H (F32.ret Post) := by
  intro env H h
  obtain ⟨hl, h⟩ := lenE h
  exact use_ops hl rfl ((F32.q4 _ Post N2 H).mpr h)
noncomputable def F32.o5 : List Oper := opsIn (codeAt (bodyOf Try.f32) [.r, .r, .l, .r, .l, .l, .r, .l, .l, .l])
def F32.B5 (Post : Value → AHeap → Prop) (N2 : Nat → Int → AHeap → Prop) (x1 : Nat) (x3 : Int) (H : AHeap) : Prop :=
  ld1 H x1 1 (fun v1 => idxK v1 x3 2 (fun b2 o3 => ldI .i64 H b2 o3 (fun v4 => ld1 H x1 1 (fun v5 => idxK v5 x3 2 (fun b6 o7 => ldI .i64 H b6 (o7 + 1) (fun v8 => pif (decide ((v4 : Int) > v8)) (F32.B4 Post N2 H) (pif (decide ((x3 : Int) > 0)) (ld1 H x1 1 (fun v9 => idxK v9 x3 2 (fun b10 o11 => ldI .i64 H b10 o11 (fun v12 => ldI .i64 H b10 (o11 + 1) (fun v13 => ld1 H x1 1 (fun v14 => idxK v14 (IntKind.i64.wrap (x3 - 1)) 2 (fun b15 o16 => ldI .i64 H b15 o16 (fun v17 => ldI .i64 H b15 (o16 + 1) (fun v18 => AC Try.prog T0 45 [(Value.agg ⟨[(Value.int .i64 v12), (Value.int .i64 v13)]⟩), (Value.agg ⟨[(Value.int .i64 v17), (Value.int .i64 v18)]⟩)] H (fun v19 H20 => asB v19 (fun v21 => pif v21 (F32.B4 Post N2 H20) (F32.B3 Post N2 x1 x3 H20)))))))))))) (F32.B3 Post N2 x1 x3 H))))))))
def F32.B5.e (Post : Value → AHeap → Prop) (N2 : Nat → Int → AHeap → Prop) : EP := fun env H => pif (Nat.beq (List.length env) 56) (asX (List.getD env 1 undef) (fun x1 => asI .i64 (List.getD env 3 undef) (fun x3 => F32.B5 Post N2 x1 x3 H))) False
theorem F32.q5 (u : Nat → Value) (Post : Value → AHeap → Prop) (N2 : Nat → Int → AHeap → Prop) (x1 : Nat) (x3 : Int) (H : AHeap) : aOpsD Try.prog T0 F32.o5 (opsOf F32.o5 [(0, false), (1, false), (2, false), (3, false), (4, false), (5, false), (6, false), (7, false), (8, false), (9, false), (10, false), (11, false), (12, false), (13, false), (14, false), (15, false), (16, false), (17, false), (18, false), (19, false), (20, false), (21, false), (22, false), (23, false), (24, false), (25, false), (26, false), (27, false), (28, false), (29, false), (30, false)]) (mkEnv (upd (upd u 1 (Value.pointer (some ⟨x1, 0, none⟩))) 3 (Value.int .i64 x3)) 56 0) H (fun env H => asB (aev env (.tmp 55)) (fun b => pif b ((F32.B4.e Post N2) env H) ((F32.B3.e Post N2) env H))) = F32.B5 Post N2 x1 x3 H := by kernel_rfl
theorem F32.r5 (Post : Value → AHeap → Prop) (N2 : Nat → Int → AHeap → Prop) : ∀ env H, F32.B5.e Post N2 env H → aOpsD Try.prog T0 F32.o5 (opsOf F32.o5 [(0, false), (1, false), (2, false), (3, false), (4, false), (5, false), (6, false), (7, false), (8, false), (9, false), (10, false), (11, false), (12, false), (13, false), (14, false), (15, false), (16, false), (17, false), (18, false), (19, false), (20, false), (21, false), (22, false), (23, false), (24, false), (25, false), (26, false), (27, false), (28, false), (29, false), (30, false)]) env H (fun env H => asB (aev env (.tmp 55)) (fun b => pif b ((F32.B4.e Post N2) env H) ((F32.B3.e Post N2) env H))) := by
  intro env H h
  obtain ⟨hl, h⟩ := lenE h
  obtain ⟨x1, e1, h⟩ := asX_elim h
  obtain ⟨x3, e3, h⟩ := asI_elim h
  exact use_opsD hl (upd_step (upd_step rfl e1) e3) ((F32.q5 _ Post N2 x1 x3 H).mpr h)
noncomputable def F32.o6 : List Oper := opsIn (codeAt (bodyOf Try.f32) [.r, .r, .l, .r, .l, .l, .l, .l])
def F32.B6 (Post : Value → AHeap → Prop) (N2 : Nat → Int → AHeap → Prop) (x1 : Nat) (x3 : Int) (H : AHeap) : Prop :=
  ld1 H x1 1 (fun v1 => lenK v1 (fun n2 => pif (decide ((x3 : Int) < (n2 : Int))) (F32.B5 Post N2 x1 x3 H) (F32.B1 Post H)))
def F32.B6.e (Post : Value → AHeap → Prop) (N2 : Nat → Int → AHeap → Prop) : EP := fun env H => pif (Nat.beq (List.length env) 56) (asX (List.getD env 1 undef) (fun x1 => asI .i64 (List.getD env 3 undef) (fun x3 => F32.B6 Post N2 x1 x3 H))) False
theorem F32.q6 (u : Nat → Value) (Post : Value → AHeap → Prop) (N2 : Nat → Int → AHeap → Prop) (x1 : Nat) (x3 : Int) (H : AHeap) : aOps Try.prog T0 F32.o6 F32.o6 (mkEnv (upd (upd u 1 (Value.pointer (some ⟨x1, 0, none⟩))) 3 (Value.int .i64 x3)) 56 0) H (fun env H => asB (aev env (.tmp 22)) (fun b => pif b ((F32.B5.e Post N2) env H) ((F32.B1.e Post) env H))) = F32.B6 Post N2 x1 x3 H := by kernel_rfl
theorem F32.r6 (Post : Value → AHeap → Prop) (N2 : Nat → Int → AHeap → Prop) : ∀ env H, F32.B6.e Post N2 env H → aOps Try.prog T0 F32.o6 F32.o6 env H (fun env H => asB (aev env (.tmp 22)) (fun b => pif b ((F32.B5.e Post N2) env H) ((F32.B1.e Post) env H))) := by
  intro env H h
  obtain ⟨hl, h⟩ := lenE h
  obtain ⟨x1, e1, h⟩ := asX_elim h
  obtain ⟨x3, e3, h⟩ := asI_elim h
  exact use_ops hl (upd_step (upd_step rfl e1) e3) ((F32.q6 _ Post N2 x1 x3 H).mpr h)
def F32.L2 (Post : Value → AHeap → Prop) (x1 : Nat) (x3 : Int) (H : AHeap) : Prop :=
  ∃ (I : Nat → Int → AHeap → Prop) (μ : Nat → Int → AHeap → Nat), I x1 x3 H ∧ ∀ x1' x3' H', I x1' x3' H' → F32.B6 Post (fun x1'' x3'' H'' => I x1'' x3'' H'' ∧ μ x1'' x3'' H'' < μ x1' x3' H') x1' x3' H'
def F32.L2.e (Post : Value → AHeap → Prop) : EP := fun env H => pif (Nat.beq (List.length env) 56) (asX (List.getD env 1 undef) (fun x1 => asI .i64 (List.getD env 3 undef) (fun x3 => F32.L2 Post x1 x3 H))) False
theorem F32.l2 (Post : Value → AHeap → Prop) {c : Code} {K : EP} {X : Nat → EP}
    (hb : ∀ N2 : Nat → Int → AHeap → Prop, ∀ env H, (F32.B6.e Post N2) env H → AW Try.prog T0 c env H (mkQ (F32.L2.ne N2) X (F32.ret Post))) :
    ∀ env H, F32.L2.e Post env H → AW Try.prog T0 (.loop c) env H (mkQ K X (F32.ret Post)) := by
  intro env H h
  obtain ⟨hl, h⟩ := lenE h
  obtain ⟨x1, e1, h⟩ := asX_elim h
  obtain ⟨x3, e3, h⟩ := asI_elim h
  obtain ⟨I, μ, h0, hI⟩ := h
  refine r_loop (fun n env H => pif (Nat.beq (List.length env) 56) (asX (List.getD env 1 undef) (fun x1 => asI .i64 (List.getD env 3 undef) (fun x3 => (I x1 x3 H) ∧ (μ x1 x3 H = n)))) False) ?_ env H ⟨μ x1 x3 H, lenM hl (asX_mk' e1 (asI_mk' e3 (⟨h0, rfl⟩)))⟩
  intro n env' H' h
  obtain ⟨hl', h⟩ := lenE h
  obtain ⟨x1', e1', h⟩ := asX_elim h
  obtain ⟨x3', e3', h⟩ := asI_elim h
  obtain ⟨hi, hm⟩ := h
  refine r_imp (hb (fun x1'' x3'' H'' => I x1'' x3'' H'' ∧ μ x1'' x3'' H'' < n)) ?_ env' H' ?_
  · intro env H h
    obtain ⟨hl'', h⟩ := lenE h
    obtain ⟨x1'', e1'', h⟩ := asX_elim h
    obtain ⟨x3'', e3'', h⟩ := asI_elim h
    obtain ⟨hi, hlt⟩ := h
    exact ⟨_, hlt, lenM hl'' (asX_mk' e1'' (asI_mk' e3'' (⟨hi, rfl⟩)))⟩
  · have h := hI x1' x3' H' hi
    rw [hm] at h
    exact lenM hl' (asX_mk' e1' (asI_mk' e3' (h)))
noncomputable def F32.o7 : List Oper := opsIn (codeAt (bodyOf Try.f32) [.r, .r, .l, .l])
def F32.B7 (Post : Value → AHeap → Prop) (x1 : Nat) (H : AHeap) : Prop :=
  F32.L2 Post x1 0 H
def F32.B7.e (Post : Value → AHeap → Prop) : EP := fun env H => pif (Nat.beq (List.length env) 56) (asX (List.getD env 1 undef) (fun x1 => F32.B7 Post x1 H)) False
theorem F32.q7 (u : Nat → Value) (Post : Value → AHeap → Prop) (x1 : Nat) (H : AHeap) : aOps Try.prog T0 F32.o7 F32.o7 (mkEnv (upd u 1 (Value.pointer (some ⟨x1, 0, none⟩))) 56 0) H (F32.L2.e Post) = F32.B7 Post x1 H := by kernel_rfl
theorem F32.r7 (Post : Value → AHeap → Prop) : ∀ env H, F32.B7.e Post env H → aOps Try.prog T0 F32.o7 F32.o7 env H (F32.L2.e Post) := by
  intro env H h
  obtain ⟨hl, h⟩ := lenE h
  obtain ⟨x1, e1, h⟩ := asX_elim h
  exact use_ops hl (upd_step rfl e1) ((F32.q7 _ Post x1 H).mpr h)
noncomputable def F32.o8 : List Oper := opsIn (codeAt (bodyOf Try.f32) [.r, .l, .r, .l, .l])
def F32.B8 (Post : Value → AHeap → Prop) (H : AHeap) : Prop :=
  Post (Value.bool false) H
def F32.B8.e (Post : Value → AHeap → Prop) : EP := fun env H => pif (Nat.beq (List.length env) 56) (F32.B8 Post H) False
theorem F32.q8 (u : Nat → Value) (Post : Value → AHeap → Prop) (H : AHeap) : aOps Try.prog T0 F32.o8 F32.o8 (mkEnv u 56 0) H (F32.ret Post) = F32.B8 Post H := by kernel_rfl
theorem F32.r8 (Post : Value → AHeap → Prop) : ∀ env H, F32.B8.e Post env H → aOps Try.prog T0 F32.o8 F32.o8 env H (F32.ret Post) := by
  intro env H h
  obtain ⟨hl, h⟩ := lenE h
  exact use_ops hl rfl ((F32.q8 _ Post H).mpr h)
noncomputable def F32.o9 : List Oper := opsIn (codeAt (bodyOf Try.f32) [.r, .l, .l])
def F32.B9 (Post : Value → AHeap → Prop) (x1 : Nat) (H : AHeap) : Prop :=
  ldI .i64 H x1 0 (fun v1 => ld1 H x1 1 (fun v2 => AC Try.prog T0 43 [(Value.int .i64 v1), v2] H (fun v3 H4 => asI .i64 v3 (fun v5 => pif ((v5 : Int) != 0) (F32.B8 Post H4) (ldI .i64 H4 x1 0 (fun v6 => ld1 H4 x1 1 (fun v7 => AC Try.prog T0 44 [(Value.int .i64 v6), v7] H4 (fun v8 H9 => asB v8 (fun v10 => pif (!v10) (F32.B8 Post H9) (F32.B7 Post x1 H9))))))))))
def F32.B9.e (Post : Value → AHeap → Prop) : EP := fun env H => pif (Nat.beq (List.length env) 56) (asX (List.getD env 1 undef) (fun x1 => F32.B9 Post x1 H)) False
theorem F32.q9 (u : Nat → Value) (Post : Value → AHeap → Prop) (x1 : Nat) (H : AHeap) : aOps Try.prog T0 F32.o9 F32.o9 (mkEnv (upd u 1 (Value.pointer (some ⟨x1, 0, none⟩))) 56 0) H (fun env H => asB (aev env (.tmp 17)) (fun b => pif b ((F32.B8.e Post) env H) ((F32.B7.e Post) env H))) = F32.B9 Post x1 H := by kernel_rfl
theorem F32.r9 (Post : Value → AHeap → Prop) : ∀ env H, F32.B9.e Post env H → aOps Try.prog T0 F32.o9 F32.o9 env H (fun env H => asB (aev env (.tmp 17)) (fun b => pif b ((F32.B8.e Post) env H) ((F32.B7.e Post) env H))) := by
  intro env H h
  obtain ⟨hl, h⟩ := lenE h
  obtain ⟨x1, e1, h⟩ := asX_elim h
  exact use_ops hl (upd_step rfl e1) ((F32.q9 _ Post x1 H).mpr h)
noncomputable def F32.o10 : List Oper := opsIn (codeAt (bodyOf Try.f32) [.l])
def F32.B10 (Post : Value → AHeap → Prop) (x0a : Int) (x0b : Value) (H : AHeap) : Prop :=
  newK H [(Value.int .i64 x0a), x0b] 31 (fun b1 H2 => F32.B9 Post b1 H2)
def F32.B10.e (Post : Value → AHeap → Prop) : EP := fun env H => pif (Nat.beq (List.length env) 56) (as_iv (List.getD env 0 undef) (fun x0a x0b => F32.B10 Post x0a x0b H)) False
theorem F32.q10 (u : Nat → Value) (Post : Value → AHeap → Prop) (x0a : Int) (x0b : Value) (H : AHeap) : aOps Try.prog T0 F32.o10 F32.o10 (mkEnv (upd u 0 (Value.agg ⟨[(Value.int .i64 x0a), x0b]⟩)) 56 0) H (F32.B9.e Post) = F32.B10 Post x0a x0b H := by kernel_rfl
theorem F32.r10 (Post : Value → AHeap → Prop) : ∀ env H, F32.B10.e Post env H → aOps Try.prog T0 F32.o10 F32.o10 env H (F32.B9.e Post) := by
  intro env H h
  obtain ⟨hl, h⟩ := lenE h
  obtain ⟨x0a, x0b, e0, h⟩ := as_iv_elim h
  exact use_ops hl (upd_step rfl e0) ((F32.q10 _ Post x0a x0b H).mpr h)
noncomputable def F32.code : Code := (.seq (.region 0 ⟨F32.o10⟩ false) (.seq (.seq (.region 1 ⟨F32.o9⟩ false) (.cond (.tmp 17) (.seq (.region 2 ⟨F32.o8⟩ false) .ret) .skip)) (.seq (.seq (.region 3 ⟨F32.o7⟩ false) (.block 0 (.loop (.seq (.seq (.region 4 ⟨F32.o6⟩ false) (.cond (.tmp 22) .skip (.exit 0))) (.seq (.block 1 (.seq (.region 6 ⟨F32.o5⟩ true) (.cond (.tmp 55) (.seq (.region 7 ⟨F32.o4⟩ false) .ret) .skip))) (.region 5 ⟨F32.o3⟩ false)))))) (.seq (.region 8 ⟨F32.o1⟩ false) .ret))))
theorem F32.body : Try.f32.body = some F32.code := by kernel_rfl
theorem F32.main (Post : Value → AHeap → Prop) : ∀ env H, F32.B10.e Post env H → AW Try.prog T0 F32.code env H (mkQ (F32.ret Post) (fun _ _ _ => False) (F32.ret Post)) :=
  (r_seq (r_region T0_ok (F32.r10 Post)) (r_seq (r_seq (r_region T0_ok (F32.r9 Post)) (r_cond rfl (r_seq (r_region T0_ok (F32.r8 Post)) r_ret) r_skip)) (r_seq (r_seq (r_region T0_ok (F32.r7 Post)) (r_block (F32.l2 Post (fun N2 => (r_seq (r_seq (r_region T0_ok (F32.r6 Post N2)) (r_cond rfl r_skip (r_exit (fun _ _ h => h)))) (r_seq (r_block (r_seq (r_draw T0_ok mixed [(0, false), (1, false), (2, false), (3, false), (4, false), (5, false), (6, false), (7, false), (8, false), (9, false), (10, false), (11, false), (12, false), (13, false), (14, false), (15, false), (16, false), (17, false), (18, false), (19, false), (20, false), (21, false), (22, false), (23, false), (24, false), (25, false), (26, false), (27, false), (28, false), (29, false), (30, false)] (by kernel_rfl) (F32.r5 Post N2)) (r_cond rfl (r_seq (r_region T0_ok (F32.r4 Post N2)) r_ret) r_skip))) (r_region T0_ok (F32.r3 Post N2)))))))) (r_seq (r_region T0_ok (F32.r1 Post)) r_ret))))
theorem F32.ac (Post : Value → AHeap → Prop) (x0a : Int) (x0b : Value) (H : AHeap) (h : F32.B10 Post x0a x0b H) : AC Try.prog T0 32 [(Value.agg ⟨[(Value.int .i64 x0a), x0b]⟩)] H Post :=
  r_fn T0_ok (c := F32.code) (n := 56) Try.func32 F32.body (by kernel_rfl) (F32.main Post) (lenM (by kernel_rfl) (as_iv_mk' (by kernel_rfl) (h)))

-- loop.example/g01329/spec.l02Is
noncomputable def F33.ret (Post : Value → AHeap → Prop) : EP := retE T0 35 Try.f33 Post
noncomputable def F33.o1 : List Oper := opsIn (codeAt (bodyOf Try.f33) [.r, .r, .r, .l])
def F33.B1 (Post : Value → AHeap → Prop) (H : AHeap) : Prop :=
  Post (Value.bool true) H
def F33.B1.e (Post : Value → AHeap → Prop) : EP := fun env H => pif (Nat.beq (List.length env) 35) (F33.B1 Post H) False
theorem F33.q1 (u : Nat → Value) (Post : Value → AHeap → Prop) (H : AHeap) : aOps Try.prog T0 F33.o1 F33.o1 (mkEnv u 35 0) H (F33.ret Post) = F33.B1 Post H := by kernel_rfl
theorem F33.r1 (Post : Value → AHeap → Prop) : ∀ env H, F33.B1.e Post env H → aOps Try.prog T0 F33.o1 F33.o1 env H (F33.ret Post) := by
  intro env H h
  obtain ⟨hl, h⟩ := lenE h
  exact use_ops hl rfl ((F33.q1 _ Post H).mpr h)
def F33.L2.ne (N : Value → Nat → Int → AHeap → Prop) : EP := fun env H => pif (Nat.beq (List.length env) 35) (asX (List.getD env 2 undef) (fun x2 => asI .i64 (List.getD env 5 undef) (fun x5 => N (List.getD env 1 undef) x2 x5 H))) False
noncomputable def F33.o3 : List Oper := opsIn (codeAt (bodyOf Try.f33) [.r, .r, .l, .r, .l, .l, .r, .r])
def F33.B3 (Post : Value → AHeap → Prop) (N2 : Value → Nat → Int → AHeap → Prop) (x1 : Value) (x2 : Nat) (x5 : Int) (H : AHeap) : Prop :=
  N2 x1 x2 (IntKind.i64.wrap (x5 + 1)) H
def F33.B3.e (Post : Value → AHeap → Prop) (N2 : Value → Nat → Int → AHeap → Prop) : EP := fun env H => pif (Nat.beq (List.length env) 35) (asX (List.getD env 2 undef) (fun x2 => asI .i64 (List.getD env 5 undef) (fun x5 => F33.B3 Post N2 (List.getD env 1 undef) x2 x5 H))) False
theorem F33.q3 (u : Nat → Value) (Post : Value → AHeap → Prop) (N2 : Value → Nat → Int → AHeap → Prop) (x1 : Value) (x2 : Nat) (x5 : Int) (H : AHeap) : aOps Try.prog T0 F33.o3 F33.o3 (mkEnv (upd (upd (upd u 1 x1) 2 (Value.pointer (some ⟨x2, 0, none⟩))) 5 (Value.int .i64 x5)) 35 0) H (F33.L2.ne N2) = F33.B3 Post N2 x1 x2 x5 H := by kernel_rfl
theorem F33.r3 (Post : Value → AHeap → Prop) (N2 : Value → Nat → Int → AHeap → Prop) : ∀ env H, F33.B3.e Post N2 env H → aOps Try.prog T0 F33.o3 F33.o3 env H (F33.L2.ne N2) := by
  intro env H h
  obtain ⟨hl, h⟩ := lenE h
  obtain ⟨x2, e2, h⟩ := asX_elim h
  obtain ⟨x5, e5, h⟩ := asI_elim h
  exact use_ops hl (upd_step (upd_step (upd_step rfl rfl) e2) e5) ((F33.q3 _ Post N2 (List.getD env 1 undef) x2 x5 H).mpr h)
noncomputable def F33.o4 : List Oper := opsIn (codeAt (bodyOf Try.f33) [.r, .r, .l, .r, .l, .l, .r, .l, .l, .r, .l, .l])
def F33.B4 (Post : Value → AHeap → Prop) (N2 : Value → Nat → Int → AHeap → Prop) (H : AHeap) : Prop :=
  Post (Value.bool false) H
def F33.B4.e (Post : Value → AHeap → Prop) (N2 : Value → Nat → Int → AHeap → Prop) : EP := fun env H => pif (Nat.beq (List.length env) 35) (F33.B4 Post N2 H) False
theorem F33.q4 (u : Nat → Value) (Post : Value → AHeap → Prop) (N2 : Value → Nat → Int → AHeap → Prop) (H : AHeap) : aOps Try.prog T0 F33.o4 F33.o4 (mkEnv u 35 0) H (F33.ret Post) = F33.B4 Post N2 H := by kernel_rfl
theorem F33.r4 (Post : Value → AHeap → Prop) (N2 : Value → Nat → Int → AHeap → Prop) : ∀ env H, F33.B4.e Post N2 env H → aOps Try.prog T0 F33.o4 F33.o4 env H (F33.ret Post) := by
  intro env H h
  obtain ⟨hl, h⟩ := lenE h
  exact use_ops hl rfl ((F33.q4 _ Post N2 H).mpr h)
noncomputable def F33.o5 : List Oper := opsIn (codeAt (bodyOf Try.f33) [.r, .r, .l, .r, .l, .l, .r, .l, .l, .l])
def F33.B5 (Post : Value → AHeap → Prop) (N2 : Value → Nat → Int → AHeap → Prop) (x1 : Value) (x2 : Nat) (x5 : Int) (H : AHeap) : Prop :=
  idxK x1 x5 1 (fun b1 o2 => ldI .i64 H b1 o2 (fun v3 => AC Try.prog T0 46 [(Value.int .i64 v3), (Value.int .i64 0), (Value.int .i64 2)] H (fun v4 H5 => asB v4 (fun v6 => pif (!v6) (F33.B4 Post N2 H5) (ldI .i64 H5 x2 0 (fun v7 => ld1 H5 x2 1 (fun v8 => idxK x1 x5 1 (fun b9 o10 => ldI .i64 H5 b9 o10 (fun v11 => AC Try.prog T0 47 [(Value.agg ⟨[(Value.int .i64 v7), v8]⟩), x1, (Value.int .i64 x5), (Value.int .i64 v11)] H5 (fun v12 H13 => asB v12 (fun v14 => pif (!v14) (F33.B4 Post N2 H13) (F33.B3 Post N2 x1 x2 x5 H13))))))))))))
def F33.B5.e (Post : Value → AHeap → Prop) (N2 : Value → Nat → Int → AHeap → Prop) : EP := fun env H => pif (Nat.beq (List.length env) 35) (asX (List.getD env 2 undef) (fun x2 => asI .i64 (List.getD env 5 undef) (fun x5 => F33.B5 Post N2 (List.getD env 1 undef) x2 x5 H))) False
theorem F33.q5 (u : Nat → Value) (Post : Value → AHeap → Prop) (N2 : Value → Nat → Int → AHeap → Prop) (x1 : Value) (x2 : Nat) (x5 : Int) (H : AHeap) : aOpsD Try.prog T0 F33.o5 (opsOf F33.o5 [(0, false), (1, false), (2, false), (3, false), (4, false), (5, false), (6, false), (7, false), (8, false), (9, false), (10, false), (11, false), (12, false), (13, false), (14, false), (15, false), (16, false)]) (mkEnv (upd (upd (upd u 1 x1) 2 (Value.pointer (some ⟨x2, 0, none⟩))) 5 (Value.int .i64 x5)) 35 0) H (fun env H => asB (aev env (.tmp 34)) (fun b => pif b ((F33.B4.e Post N2) env H) ((F33.B3.e Post N2) env H))) = F33.B5 Post N2 x1 x2 x5 H := by kernel_rfl
theorem F33.r5 (Post : Value → AHeap → Prop) (N2 : Value → Nat → Int → AHeap → Prop) : ∀ env H, F33.B5.e Post N2 env H → aOpsD Try.prog T0 F33.o5 (opsOf F33.o5 [(0, false), (1, false), (2, false), (3, false), (4, false), (5, false), (6, false), (7, false), (8, false), (9, false), (10, false), (11, false), (12, false), (13, false), (14, false), (15, false), (16, false)]) env H (fun env H => asB (aev env (.tmp 34)) (fun b => pif b ((F33.B4.e Post N2) env H) ((F33.B3.e Post N2) env H))) := by
  intro env H h
  obtain ⟨hl, h⟩ := lenE h
  obtain ⟨x2, e2, h⟩ := asX_elim h
  obtain ⟨x5, e5, h⟩ := asI_elim h
  exact use_opsD hl (upd_step (upd_step (upd_step rfl rfl) e2) e5) ((F33.q5 _ Post N2 (List.getD env 1 undef) x2 x5 H).mpr h)
noncomputable def F33.o6 : List Oper := opsIn (codeAt (bodyOf Try.f33) [.r, .r, .l, .r, .l, .l, .l, .l])
def F33.B6 (Post : Value → AHeap → Prop) (N2 : Value → Nat → Int → AHeap → Prop) (x1 : Value) (x2 : Nat) (x5 : Int) (H : AHeap) : Prop :=
  lenK x1 (fun n1 => pif (decide ((x5 : Int) < (n1 : Int))) (F33.B5 Post N2 x1 x2 x5 H) (F33.B1 Post H))
def F33.B6.e (Post : Value → AHeap → Prop) (N2 : Value → Nat → Int → AHeap → Prop) : EP := fun env H => pif (Nat.beq (List.length env) 35) (asX (List.getD env 2 undef) (fun x2 => asI .i64 (List.getD env 5 undef) (fun x5 => F33.B6 Post N2 (List.getD env 1 undef) x2 x5 H))) False
theorem F33.q6 (u : Nat → Value) (Post : Value → AHeap → Prop) (N2 : Value → Nat → Int → AHeap → Prop) (x1 : Value) (x2 : Nat) (x5 : Int) (H : AHeap) : aOps Try.prog T0 F33.o6 F33.o6 (mkEnv (upd (upd (upd u 1 x1) 2 (Value.pointer (some ⟨x2, 0, none⟩))) 5 (Value.int .i64 x5)) 35 0) H (fun env H => asB (aev env (.tmp 15)) (fun b => pif b ((F33.B5.e Post N2) env H) ((F33.B1.e Post) env H))) = F33.B6 Post N2 x1 x2 x5 H := by kernel_rfl
theorem F33.r6 (Post : Value → AHeap → Prop) (N2 : Value → Nat → Int → AHeap → Prop) : ∀ env H, F33.B6.e Post N2 env H → aOps Try.prog T0 F33.o6 F33.o6 env H (fun env H => asB (aev env (.tmp 15)) (fun b => pif b ((F33.B5.e Post N2) env H) ((F33.B1.e Post) env H))) := by
  intro env H h
  obtain ⟨hl, h⟩ := lenE h
  obtain ⟨x2, e2, h⟩ := asX_elim h
  obtain ⟨x5, e5, h⟩ := asI_elim h
  exact use_ops hl (upd_step (upd_step (upd_step rfl rfl) e2) e5) ((F33.q6 _ Post N2 (List.getD env 1 undef) x2 x5 H).mpr h)
def F33.L2 (Post : Value → AHeap → Prop) (x1 : Value) (x2 : Nat) (x5 : Int) (H : AHeap) : Prop :=
  ∃ (I : Value → Nat → Int → AHeap → Prop) (μ : Value → Nat → Int → AHeap → Nat), I x1 x2 x5 H ∧ ∀ x1' x2' x5' H', I x1' x2' x5' H' → F33.B6 Post (fun x1'' x2'' x5'' H'' => I x1'' x2'' x5'' H'' ∧ μ x1'' x2'' x5'' H'' < μ x1' x2' x5' H') x1' x2' x5' H'
def F33.L2.e (Post : Value → AHeap → Prop) : EP := fun env H => pif (Nat.beq (List.length env) 35) (asX (List.getD env 2 undef) (fun x2 => asI .i64 (List.getD env 5 undef) (fun x5 => F33.L2 Post (List.getD env 1 undef) x2 x5 H))) False
theorem F33.l2 (Post : Value → AHeap → Prop) {c : Code} {K : EP} {X : Nat → EP}
    (hb : ∀ N2 : Value → Nat → Int → AHeap → Prop, ∀ env H, (F33.B6.e Post N2) env H → AW Try.prog T0 c env H (mkQ (F33.L2.ne N2) X (F33.ret Post))) :
    ∀ env H, F33.L2.e Post env H → AW Try.prog T0 (.loop c) env H (mkQ K X (F33.ret Post)) := by
  intro env H h
  obtain ⟨hl, h⟩ := lenE h
  obtain ⟨x2, e2, h⟩ := asX_elim h
  obtain ⟨x5, e5, h⟩ := asI_elim h
  obtain ⟨I, μ, h0, hI⟩ := h
  refine r_loop (fun n env H => pif (Nat.beq (List.length env) 35) (asX (List.getD env 2 undef) (fun x2 => asI .i64 (List.getD env 5 undef) (fun x5 => (I (List.getD env 1 undef) x2 x5 H) ∧ (μ (List.getD env 1 undef) x2 x5 H = n)))) False) ?_ env H ⟨μ (List.getD env 1 undef) x2 x5 H, lenM hl (asX_mk' e2 (asI_mk' e5 (⟨h0, rfl⟩)))⟩
  intro n env' H' h
  obtain ⟨hl', h⟩ := lenE h
  obtain ⟨x2', e2', h⟩ := asX_elim h
  obtain ⟨x5', e5', h⟩ := asI_elim h
  obtain ⟨hi, hm⟩ := h
  refine r_imp (hb (fun x1'' x2'' x5'' H'' => I x1'' x2'' x5'' H'' ∧ μ x1'' x2'' x5'' H'' < n)) ?_ env' H' ?_
  · intro env H h
    obtain ⟨hl'', h⟩ := lenE h
    obtain ⟨x2'', e2'', h⟩ := asX_elim h
    obtain ⟨x5'', e5'', h⟩ := asI_elim h
    obtain ⟨hi, hlt⟩ := h
    exact ⟨_, hlt, lenM hl'' (asX_mk' e2'' (asI_mk' e5'' (⟨hi, rfl⟩)))⟩
  · have h := hI (List.getD env' 1 undef) x2' x5' H' hi
    rw [hm] at h
    exact lenM hl' (asX_mk' e2' (asI_mk' e5' (h)))
noncomputable def F33.o7 : List Oper := opsIn (codeAt (bodyOf Try.f33) [.r, .r, .l, .l])
def F33.B7 (Post : Value → AHeap → Prop) (x1 : Value) (x2 : Nat) (H : AHeap) : Prop :=
  F33.L2 Post x1 x2 0 H
def F33.B7.e (Post : Value → AHeap → Prop) : EP := fun env H => pif (Nat.beq (List.length env) 35) (asX (List.getD env 2 undef) (fun x2 => F33.B7 Post (List.getD env 1 undef) x2 H)) False
theorem F33.q7 (u : Nat → Value) (Post : Value → AHeap → Prop) (x1 : Value) (x2 : Nat) (H : AHeap) : aOps Try.prog T0 F33.o7 F33.o7 (mkEnv (upd (upd u 1 x1) 2 (Value.pointer (some ⟨x2, 0, none⟩))) 35 0) H (F33.L2.e Post) = F33.B7 Post x1 x2 H := by kernel_rfl
theorem F33.r7 (Post : Value → AHeap → Prop) : ∀ env H, F33.B7.e Post env H → aOps Try.prog T0 F33.o7 F33.o7 env H (F33.L2.e Post) := by
  intro env H h
  obtain ⟨hl, h⟩ := lenE h
  obtain ⟨x2, e2, h⟩ := asX_elim h
  exact use_ops hl (upd_step (upd_step rfl rfl) e2) ((F33.q7 _ Post (List.getD env 1 undef) x2 H).mpr h)
noncomputable def F33.o8 : List Oper := opsIn (codeAt (bodyOf Try.f33) [.r, .l, .r, .l, .l])
def F33.B8 (Post : Value → AHeap → Prop) (H : AHeap) : Prop :=
  Post (Value.bool false) H
def F33.B8.e (Post : Value → AHeap → Prop) : EP := fun env H => pif (Nat.beq (List.length env) 35) (F33.B8 Post H) False
theorem F33.q8 (u : Nat → Value) (Post : Value → AHeap → Prop) (H : AHeap) : aOps Try.prog T0 F33.o8 F33.o8 (mkEnv u 35 0) H (F33.ret Post) = F33.B8 Post H := by kernel_rfl
theorem F33.r8 (Post : Value → AHeap → Prop) : ∀ env H, F33.B8.e Post env H → aOps Try.prog T0 F33.o8 F33.o8 env H (F33.ret Post) := by
  intro env H h
  obtain ⟨hl, h⟩ := lenE h
  exact use_ops hl rfl ((F33.q8 _ Post H).mpr h)
noncomputable def F33.o9 : List Oper := opsIn (codeAt (bodyOf Try.f33) [.r, .l, .l])
def F33.B9 (Post : Value → AHeap → Prop) (x1 : Value) (x2 : Nat) (H : AHeap) : Prop :=
  lenK x1 (fun n1 => ld1 H x2 1 (fun v2 => lenK v2 (fun n3 => pif (((n1 : Int) : Int) != (n3 : Int)) (F33.B8 Post H) (F33.B7 Post x1 x2 H))))
def F33.B9.e (Post : Value → AHeap → Prop) : EP := fun env H => pif (Nat.beq (List.length env) 35) (asX (List.getD env 2 undef) (fun x2 => F33.B9 Post (List.getD env 1 undef) x2 H)) False
theorem F33.q9 (u : Nat → Value) (Post : Value → AHeap → Prop) (x1 : Value) (x2 : Nat) (H : AHeap) : aOps Try.prog T0 F33.o9 F33.o9 (mkEnv (upd (upd u 1 x1) 2 (Value.pointer (some ⟨x2, 0, none⟩))) 35 0) H (fun env H => asB (aev env (.tmp 11)) (fun b => pif b ((F33.B8.e Post) env H) ((F33.B7.e Post) env H))) = F33.B9 Post x1 x2 H := by kernel_rfl
theorem F33.r9 (Post : Value → AHeap → Prop) : ∀ env H, F33.B9.e Post env H → aOps Try.prog T0 F33.o9 F33.o9 env H (fun env H => asB (aev env (.tmp 11)) (fun b => pif b ((F33.B8.e Post) env H) ((F33.B7.e Post) env H))) := by
  intro env H h
  obtain ⟨hl, h⟩ := lenE h
  obtain ⟨x2, e2, h⟩ := asX_elim h
  exact use_ops hl (upd_step (upd_step rfl rfl) e2) ((F33.q9 _ Post (List.getD env 1 undef) x2 H).mpr h)
noncomputable def F33.o10 : List Oper := opsIn (codeAt (bodyOf Try.f33) [.l])
def F33.B10 (Post : Value → AHeap → Prop) (x0a : Int) (x0b : Value) (x1 : Value) (H : AHeap) : Prop :=
  newK H [(Value.int .i64 x0a), x0b] 31 (fun b1 H2 => F33.B9 Post x1 b1 H2)
def F33.B10.e (Post : Value → AHeap → Prop) : EP := fun env H => pif (Nat.beq (List.length env) 35) (as_iv (List.getD env 0 undef) (fun x0a x0b => F33.B10 Post x0a x0b (List.getD env 1 undef) H)) False
theorem F33.q10 (u : Nat → Value) (Post : Value → AHeap → Prop) (x0a : Int) (x0b : Value) (x1 : Value) (H : AHeap) : aOps Try.prog T0 F33.o10 F33.o10 (mkEnv (upd (upd u 0 (Value.agg ⟨[(Value.int .i64 x0a), x0b]⟩)) 1 x1) 35 0) H (F33.B9.e Post) = F33.B10 Post x0a x0b x1 H := by kernel_rfl
theorem F33.r10 (Post : Value → AHeap → Prop) : ∀ env H, F33.B10.e Post env H → aOps Try.prog T0 F33.o10 F33.o10 env H (F33.B9.e Post) := by
  intro env H h
  obtain ⟨hl, h⟩ := lenE h
  obtain ⟨x0a, x0b, e0, h⟩ := as_iv_elim h
  exact use_ops hl (upd_step (upd_step rfl e0) rfl) ((F33.q10 _ Post x0a x0b (List.getD env 1 undef) H).mpr h)
noncomputable def F33.code : Code := (.seq (.region 0 ⟨F33.o10⟩ false) (.seq (.seq (.region 1 ⟨F33.o9⟩ false) (.cond (.tmp 11) (.seq (.region 2 ⟨F33.o8⟩ false) .ret) .skip)) (.seq (.seq (.region 3 ⟨F33.o7⟩ false) (.block 0 (.loop (.seq (.seq (.region 4 ⟨F33.o6⟩ false) (.cond (.tmp 15) .skip (.exit 0))) (.seq (.block 1 (.seq (.region 6 ⟨F33.o5⟩ true) (.cond (.tmp 34) (.seq (.region 7 ⟨F33.o4⟩ false) .ret) .skip))) (.region 5 ⟨F33.o3⟩ false)))))) (.seq (.region 8 ⟨F33.o1⟩ false) .ret))))
theorem F33.body : Try.f33.body = some F33.code := by kernel_rfl
theorem F33.main (Post : Value → AHeap → Prop) : ∀ env H, F33.B10.e Post env H → AW Try.prog T0 F33.code env H (mkQ (F33.ret Post) (fun _ _ _ => False) (F33.ret Post)) :=
  (r_seq (r_region T0_ok (F33.r10 Post)) (r_seq (r_seq (r_region T0_ok (F33.r9 Post)) (r_cond rfl (r_seq (r_region T0_ok (F33.r8 Post)) r_ret) r_skip)) (r_seq (r_seq (r_region T0_ok (F33.r7 Post)) (r_block (F33.l2 Post (fun N2 => (r_seq (r_seq (r_region T0_ok (F33.r6 Post N2)) (r_cond rfl r_skip (r_exit (fun _ _ h => h)))) (r_seq (r_block (r_seq (r_draw T0_ok mixed [(0, false), (1, false), (2, false), (3, false), (4, false), (5, false), (6, false), (7, false), (8, false), (9, false), (10, false), (11, false), (12, false), (13, false), (14, false), (15, false), (16, false)] (by kernel_rfl) (F33.r5 Post N2)) (r_cond rfl (r_seq (r_region T0_ok (F33.r4 Post N2)) r_ret) r_skip))) (r_region T0_ok (F33.r3 Post N2)))))))) (r_seq (r_region T0_ok (F33.r1 Post)) r_ret))))
theorem F33.ac (Post : Value → AHeap → Prop) (x0a : Int) (x0b : Value) (x1 : Value) (H : AHeap) (h : F33.B10 Post x0a x0b x1 H) : AC Try.prog T0 33 [(Value.agg ⟨[(Value.int .i64 x0a), x0b]⟩), x1] H Post :=
  r_fn T0_ok (c := F33.code) (n := 35) Try.func33 F33.body (by kernel_rfl) (F33.main Post) (lenM (by kernel_rfl) (as_iv_mk' (by kernel_rfl) (h)))

-- loop.example/g01329/spec.l04Is
noncomputable def F34.ret (Post : Value → AHeap → Prop) : EP := retE T0 71 Try.f34 Post
noncomputable def F34.o1 : List Oper := opsIn (codeAt (bodyOf Try.f34) [.r, .r, .r, .l])
def F34.B1 (Post : Value → AHeap → Prop) (x1 : Value) (x2 : Nat) (H : AHeap) : Prop :=
  lenK x1 (fun n1 => ldI .i64 H x2 0 (fun v2 => Post (Value.bool ((IntKind.i64.wrap (2 * (n1 : Int)) : Int) == v2)) H))
def F34.B1.e (Post : Value → AHeap → Prop) : EP := fun env H => pif (Nat.beq (List.length env) 71) (asX (List.getD env 2 undef) (fun x2 => F34.B1 Post (List.getD env 1 undef) x2 H)) False
theorem F34.q1 (u : Nat → Value) (Post : Value → AHeap → Prop) (x1 : Value) (x2 : Nat) (H : AHeap) : aOps Try.prog T0 F34.o1 F34.o1 (mkEnv (upd (upd u 1 x1) 2 (Value.pointer (some ⟨x2, 0, none⟩))) 71 0) H (F34.ret Post) = F34.B1 Post x1 x2 H := by kernel_rfl
theorem F34.r1 (Post : Value → AHeap → Prop) : ∀ env H, F34.B1.e Post env H → aOps Try.prog T0 F34.o1 F34.o1 env H (F34.ret Post) := by
  intro env H h
  obtain ⟨hl, h⟩ := lenE h
  obtain ⟨x2, e2, h⟩ := asX_elim h
  exact use_ops hl (upd_step (upd_step rfl rfl) e2) ((F34.q1 _ Post (List.getD env 1 undef) x2 H).mpr h)
def F34.L2.ne (N : Value → Nat → Value → Int → AHeap → Prop) : EP := fun env H => pif (Nat.beq (List.length env) 71) (asX (List.getD env 2 undef) (fun x2 => asI .i64 (List.getD env 6 undef) (fun x6 => N (List.getD env 1 undef) x2 (List.getD env 5 undef) x6 H))) False
noncomputable def F34.o3 : List Oper := opsIn (codeAt (bodyOf Try.f34) [.r, .r, .l, .r, .l, .l, .r, .r])
def F34.B3 (Post : Value → AHeap → Prop) (N2 : Value → Nat → Value → Int → AHeap → Prop) (x1 : Value) (x2 : Nat) (x5 : Value) (x6 : Int) (H : AHeap) : Prop :=
  N2 x1 x2 x5 (IntKind.i64.wrap (x6 + 1)) H
def F34.B3.e (Post : Value → AHeap → Prop) (N2 : Value → Nat → Value → Int → AHeap → Prop) : EP := fun env H => pif (Nat.beq (List.length env) 71) (asX (List.getD env 2 undef) (fun x2 => asI .i64 (List.getD env 6 undef) (fun x6 => F34.B3 Post N2 (List.getD env 1 undef) x2 (List.getD env 5 undef) x6 H))) False
theorem F34.q3 (u : Nat → Value) (Post : Value → AHeap → Prop) (N2 : Value → Nat → Value → Int → AHeap → Prop) (x1 : Value) (x2 : Nat) (x5 : Value) (x6 : Int) (H : AHeap) : aOps Try.prog T0 F34.o3 F34.o3 (mkEnv (upd (upd (upd (upd u 1 x1) 2 (Value.pointer (some ⟨x2, 0, none⟩))) 5 x5) 6 (Value.int .i64 x6)) 71 0) H (F34.L2.ne N2) = F34.B3 Post N2 x1 x2 x5 x6 H := by kernel_rfl
theorem F34.r3 (Post : Value → AHeap → Prop) (N2 : Value → Nat → Value → Int → AHeap → Prop) : ∀ env H, F34.B3.e Post N2 env H → aOps Try.prog T0 F34.o3 F34.o3 env H (F34.L2.ne N2) := by
  intro env H h
  obtain ⟨hl, h⟩ := lenE h
  obtain ⟨x2, e2, h⟩ := asX_elim h
  obtain ⟨x6, e6, h⟩ := asI_elim h
  exact use_ops hl (upd_step (upd_step (upd_step (upd_step rfl rfl) e2) rfl) e6) ((F34.q3 _ Post N2 (List.getD env 1 undef) x2 (List.getD env 5 undef) x6 H).mpr h)
def F34.L4.ne (N : Value → Nat → Value → Int → Int → AHeap → Prop) : EP := fun env H => pif (Nat.beq (List.length env) 71) (asX (List.getD env 2 undef) (fun x2 => asI .i64 (List.getD env 6 undef) (fun x6 => asI .i64 (List.getD env 7 undef) (fun x7 => N (List.getD env 1 undef) x2 (List.getD env 5 undef) x6 x7 H)))) False
noncomputable def F34.o5 : List Oper := opsIn (codeAt (bodyOf Try.f34) [.r, .r, .l, .r, .l, .l, .r, .l, .l, .r, .r, .l, .l, .r, .r])
def F34.B5 (Post : Value → AHeap → Prop) (N2 : Value → Nat → Value → Int → AHeap → Prop) (N4 : Value → Nat → Value → Int → Int → AHeap → Prop) (x1 : Value) (x2 : Nat) (x5 : Value) (x6 : Int) (x7 : Int) (H : AHeap) : Prop :=
  N4 x1 x2 x5 x6 (IntKind.i64.wrap (x7 + 1)) H
def F34.B5.e (Post : Value → AHeap → Prop) (N2 : Value → Nat → Value → Int → AHeap → Prop) (N4 : Value → Nat → Value → Int → Int → AHeap → Prop) : EP := fun env H => pif (Nat.beq (List.length env) 71) (asX (List.getD env 2 undef) (fun x2 => asI .i64 (List.getD env 6 undef) (fun x6 => asI .i64 (List.getD env 7 undef) (fun x7 => F34.B5 Post N2 N4 (List.getD env 1 undef) x2 (List.getD env 5 undef) x6 x7 H)))) False
theorem F34.q5 (u : Nat → Value) (Post : Value → AHeap → Prop) (N2 : Value → Nat → Value → Int → AHeap → Prop) (N4 : Value → Nat → Value → Int → Int → AHeap → Prop) (x1 : Value) (x2 : Nat) (x5 : Value) (x6 : Int) (x7 : Int) (H : AHeap) : aOps Try.prog T0 F34.o5 F34.o5 (mkEnv (upd (upd (upd (upd (upd u 1 x1) 2 (Value.pointer (some ⟨x2, 0, none⟩))) 5 x5) 6 (Value.int .i64 x6)) 7 (Value.int .i64 x7)) 71 0) H (F34.L4.ne N4) = F34.B5 Post N2 N4 x1 x2 x5 x6 x7 H := by kernel_rfl
theorem F34.r5 (Post : Value → AHeap → Prop) (N2 : Value → Nat → Value → Int → AHeap → Prop) (N4 : Value → Nat → Value → Int → Int → AHeap → Prop) : ∀ env H, F34.B5.e Post N2 N4 env H → aOps Try.prog T0 F34.o5 F34.o5 env H (F34.L4.ne N4) := by
  intro env H h
  obtain ⟨hl, h⟩ := lenE h
  obtain ⟨x2, e2, h⟩ := asX_elim h
  obtain ⟨x6, e6, h⟩ := asI_elim h
  obtain ⟨x7, e7, h⟩ := asI_elim h
  exact use_ops hl (upd_step (upd_step (upd_step (upd_step (upd_step rfl rfl) e2) rfl) e6) e7) ((F34.q5 _ Post N2 N4 (List.getD env 1 undef) x2 (List.getD env 5 undef) x6 x7 H).mpr h)
noncomputable def F34.o6 : List Oper := opsIn (codeAt (bodyOf Try.f34) [.r, .r, .l, .r, .l, .l, .r, .l, .l, .r, .r, .l, .l, .r, .l, .l, .r, .r])
def F34.B6 (Post : Value → AHeap → Prop) (N2 : Value → Nat → Value → Int → AHeap → Prop) (N4 : Value → Nat → Value → Int → Int → AHeap → Prop) (x1 : Value) (x2 : Nat) (x5 : Value) (x6 : Int) (x7 : Int) (x8 : Int) (H : AHeap) : Prop :=
  idxK x5 x8 1 (fun b1 o2 => stK H b1 o2 [(Value.bool true)] (fun H3 => F34.B5 Post N2 N4 x1 x2 x5 x6 x7 H3))
def F34.B6.e (Post : Value → AHeap → Prop) (N2 : Value → Nat → Value → Int → AHeap → Prop) (N4 : Value → Nat → Value → Int → Int → AHeap → Prop) : EP := fun env H => pif (Nat.beq (List.length env) 71) (asX (List.getD env 2 undef) (fun x2 => asI .i64 (List.getD env 6 undef) (fun x6 => asI .i64 (List.getD env 7 undef) (fun x7 => asI .i64 (List.getD env 8 undef) (fun x8 => F34.B6 Post N2 N4 (List.getD env 1 undef) x2 (List.getD env 5 undef) x6 x7 x8 H))))) False
theorem F34.q6 (u : Nat → Value) (Post : Value → AHeap → Prop) (N2 : Value → Nat → Value → Int → AHeap → Prop) (N4 : Value → Nat → Value → Int → Int → AHeap → Prop) (x1 : Value) (x2 : Nat) (x5 : Value) (x6 : Int) (x7 : Int) (x8 : Int) (H : AHeap) : aOps Try.prog T0 F34.o6 F34.o6 (mkEnv (upd (upd (upd (upd (upd (upd u 1 x1) 2 (Value.pointer (some ⟨x2, 0, none⟩))) 5 x5) 6 (Value.int .i64 x6)) 7 (Value.int .i64 x7)) 8 (Value.int .i64 x8)) 71 0) H (F34.B5.e Post N2 N4) = F34.B6 Post N2 N4 x1 x2 x5 x6 x7 x8 H := by kernel_rfl
theorem F34.r6 (Post : Value → AHeap → Prop) (N2 : Value → Nat → Value → Int → AHeap → Prop) (N4 : Value → Nat → Value → Int → Int → AHeap → Prop) : ∀ env H, F34.B6.e Post N2 N4 env H → aOps Try.prog T0 F34.o6 F34.o6 env H (F34.B5.e Post N2 N4) := by
  intro env H h
  obtain ⟨hl, h⟩ := lenE h
  obtain ⟨x2, e2, h⟩ := asX_elim h
  obtain ⟨x6, e6, h⟩ := asI_elim h
  obtain ⟨x7, e7, h⟩ := asI_elim h
  obtain ⟨x8, e8, h⟩ := asI_elim h
  exact use_ops hl (upd_step (upd_step (upd_step (upd_step (upd_step (upd_step rfl rfl) e2) rfl) e6) e7) e8) ((F34.q6 _ Post N2 N4 (List.getD env 1 undef) x2 (List.getD env 5 undef) x6 x7 x8 H).mpr h)
noncomputable def F34.o7 : List Oper := opsIn (codeAt (bodyOf Try.f34) [.r, .r, .l, .r, .l, .l, .r, .l, .l, .r, .r, .l, .l, .r, .l, .l, .r, .l, .r, .l, .l])
def F34.B7 (Post : Value → AHeap → Prop) (N2 : Value → Nat → Value → Int → AHeap → Prop) (N4 : Value → Nat → Value → Int → Int → AHeap → Prop) (H : AHeap) : Prop :=
  Post (Value.bool false) H
def F34.B7.e (Post : Value → AHeap → Prop) (N2 : Value → Nat → Value → Int → AHeap → Prop) (N4 : Value → Nat → Value → Int → Int → AHeap → Prop) : EP := fun env H => pif (Nat.beq (List.length env) 71) (F34.B7 Post N2 N4 H) False
theorem F34.q7 (u : Nat → Value) (Post : Value → AHeap → Prop) (N2 : Value → Nat → Value → Int → AHeap → Prop) (N4 : Value → Nat → Value → Int → Int → AHeap → Prop) (H : AHeap) : aOps Try.prog T0 F34.o7 F34.o7 (mkEnv u 71 0) H (F34.ret Post) = F34.B7 Post N2 N4 H := by kernel_rfl
theorem F34.r7 (Post : Value → AHeap → Prop) (N2 : Value → Nat → Value → Int → AHeap → Prop) (N4 : Value → Nat → Value → Int → Int → AHeap → Prop) : ∀ env H, F34.B7.e Post N2 N4 env H → aOps Try.prog T0 F34.o7 F34.o7 env H (F34.ret Post) := by
  intro env H h
  obtain ⟨hl, h⟩ := lenE h
  exact use_ops hl rfl ((F34.q7 _ Post N2 N4 H).mpr h)
noncomputable def F34.o8 : List Oper := opsIn (codeAt (bodyOf Try.f34) [.r, .r, .l, .r, .l, .l, .r, .l, .l, .r, .r, .l, .l, .r, .l, .l, .r, .l, .l])
def F34.B8 (Post : Value → AHeap → Prop) (N2 : Value → Nat → Value → Int → AHeap → Prop) (N4 : Value → Nat → Value → Int → Int → AHeap → Prop) (x1 : Value) (x2 : Nat) (x5 : Value) (x6 : Int) (x7 : Int) (x8 : Int) (H : AHeap) : Prop :=
  idxK x5 x8 1 (fun b1 o2 => ld1 H b1 o2 (fun v4 => asB v4 (fun v3 => pif v3 (F34.B7 Post N2 N4 H) (F34.B6 Post N2 N4 x1 x2 x5 x6 x7 x8 H))))
def F34.B8.e (Post : Value → AHeap → Prop) (N2 : Value → Nat → Value → Int → AHeap → Prop) (N4 : Value → Nat → Value → Int → Int → AHeap → Prop) : EP := fun env H => pif (Nat.beq (List.length env) 71) (asX (List.getD env 2 undef) (fun x2 => asI .i64 (List.getD env 6 undef) (fun x6 => asI .i64 (List.getD env 7 undef) (fun x7 => asI .i64 (List.getD env 8 undef) (fun x8 => F34.B8 Post N2 N4 (List.getD env 1 undef) x2 (List.getD env 5 undef) x6 x7 x8 H))))) False
theorem F34.q8 (u : Nat → Value) (Post : Value → AHeap → Prop) (N2 : Value → Nat → Value → Int → AHeap → Prop) (N4 : Value → Nat → Value → Int → Int → AHeap → Prop) (x1 : Value) (x2 : Nat) (x5 : Value) (x6 : Int) (x7 : Int) (x8 : Int) (H : AHeap) : aOps Try.prog T0 F34.o8 F34.o8 (mkEnv (upd (upd (upd (upd (upd (upd u 1 x1) 2 (Value.pointer (some ⟨x2, 0, none⟩))) 5 x5) 6 (Value.int .i64 x6)) 7 (Value.int .i64 x7)) 8 (Value.int .i64 x8)) 71 0) H (fun env H => asB (aev env (.tmp 61)) (fun b => pif b ((F34.B7.e Post N2 N4) env H) ((F34.B6.e Post N2 N4) env H))) = F34.B8 Post N2 N4 x1 x2 x5 x6 x7 x8 H := by kernel_rfl
theorem F34.r8 (Post : Value → AHeap → Prop) (N2 : Value → Nat → Value → Int → AHeap → Prop) (N4 : Value → Nat → Value → Int → Int → AHeap → Prop) : ∀ env H, F34.B8.e Post N2 N4 env H → aOps Try.prog T0 F34.o8 F34.o8 env H (fun env H => asB (aev env (.tmp 61)) (fun b => pif b ((F34.B7.e Post N2 N4) env H) ((F34.B6.e Post N2 N4) env H))) := by
  intro env H h
  obtain ⟨hl, h⟩ := lenE h
  obtain ⟨x2, e2, h⟩ := asX_elim h
  obtain ⟨x6, e6, h⟩ := asI_elim h
  obtain ⟨x7, e7, h⟩ := asI_elim h
  obtain ⟨x8, e8, h⟩ := asI_elim h
  exact use_ops hl (upd_step (upd_step (upd_step (upd_step (upd_step (upd_step rfl rfl) e2) rfl) e6) e7) e8) ((F34.q8 _ Post N2 N4 (List.getD env 1 undef) x2 (List.getD env 5 undef) x6 x7 x8 H).mpr h)
noncomputable def F34.o9 : List Oper := opsIn (codeAt (bodyOf Try.f34) [.r, .r, .l, .r, .l, .l, .r, .l, .l, .r, .r, .l, .l, .r, .l, .l, .l])
def F34.B9 (Post : Value → AHeap → Prop) (N2 : Value → Nat → Value → Int → AHeap → Prop) (N4 : Value → Nat → Value → Int → Int → AHeap → Prop) (x1 : Value) (x2 : Nat) (x5 : Value) (x6 : Int) (x7 : Int) (H : AHeap) : Prop :=
  ld1 H x2 1 (fun v1 => idxK x1 x6 1 (fun b2 o3 => ldI .i64 H b2 o3 (fun v4 => idxK v1 v4 2 (fun b5 o6 => bndK x7 2 (ldI .i64 H b5 (o6 + Int.toNat x7 * 1) (fun v7 => F34.B8 Post N2 N4 x1 x2 x5 x6 x7 v7 H))))))
def F34.B9.e (Post : Value → AHeap → Prop) (N2 : Value → Nat → Value → Int → AHeap → Prop) (N4 : Value → Nat → Value → Int → Int → AHeap → Prop) : EP := fun env H => pif (Nat.beq (List.length env) 71) (asX (List.getD env 2 undef) (fun x2 => asI .i64 (List.getD env 6 undef) (fun x6 => asI .i64 (List.getD env 7 undef) (fun x7 => F34.B9 Post N2 N4 (List.getD env 1 undef) x2 (List.getD env 5 undef) x6 x7 H)))) False
theorem F34.q9 (u : Nat → Value) (Post : Value → AHeap → Prop) (N2 : Value → Nat → Value → Int → AHeap → Prop) (N4 : Value → Nat → Value → Int → Int → AHeap → Prop) (x1 : Value) (x2 : Nat) (x5 : Value) (x6 : Int) (x7 : Int) (H : AHeap) : aOpsD Try.prog T0 F34.o9 (opsOf F34.o9 [(0, false), (1, false), (2, false), (3, false), (4, false), (5, false), (6, false), (7, false), (8, false), (9, false), (10, false)]) (mkEnv (upd (upd (upd (upd (upd u 1 x1) 2 (Value.pointer (some ⟨x2, 0, none⟩))) 5 x5) 6 (Value.int .i64 x6)) 7 (Value.int .i64 x7)) 71 0) H (F34.B8.e Post N2 N4) = F34.B9 Post N2 N4 x1 x2 x5 x6 x7 H := by kernel_rfl
theorem F34.r9 (Post : Value → AHeap → Prop) (N2 : Value → Nat → Value → Int → AHeap → Prop) (N4 : Value → Nat → Value → Int → Int → AHeap → Prop) : ∀ env H, F34.B9.e Post N2 N4 env H → aOpsD Try.prog T0 F34.o9 (opsOf F34.o9 [(0, false), (1, false), (2, false), (3, false), (4, false), (5, false), (6, false), (7, false), (8, false), (9, false), (10, false)]) env H (F34.B8.e Post N2 N4) := by
  intro env H h
  obtain ⟨hl, h⟩ := lenE h
  obtain ⟨x2, e2, h⟩ := asX_elim h
  obtain ⟨x6, e6, h⟩ := asI_elim h
  obtain ⟨x7, e7, h⟩ := asI_elim h
  exact use_opsD hl (upd_step (upd_step (upd_step (upd_step (upd_step rfl rfl) e2) rfl) e6) e7) ((F34.q9 _ Post N2 N4 (List.getD env 1 undef) x2 (List.getD env 5 undef) x6 x7 H).mpr h)
noncomputable def F34.o10 : List Oper := opsIn (codeAt (bodyOf Try.f34) [.r, .r, .l, .r, .l, .l, .r, .l, .l, .r, .r, .l, .l, .l, .l])
def F34.B10 (Post : Value → AHeap → Prop) (N2 : Value → Nat → Value → Int → AHeap → Prop) (N4 : Value → Nat → Value → Int → Int → AHeap → Prop) (x1 : Value) (x2 : Nat) (x5 : Value) (x6 : Int) (x7 : Int) (H : AHeap) : Prop :=
  pif (decide ((x7 : Int) < 2)) (F34.B9 Post N2 N4 x1 x2 x5 x6 x7 H) (F34.B3 Post N2 x1 x2 x5 x6 H)
def F34.B10.e (Post : Value → AHeap → Prop) (N2 : Value → Nat → Value → Int → AHeap → Prop) (N4 : Value → Nat → Value → Int → Int → AHeap → Prop) : EP := fun env H => pif (Nat.beq (List.length env) 71) (asX (List.getD env 2 undef) (fun x2 => asI .i64 (List.getD env 6 undef) (fun x6 => asI .i64 (List.getD env 7 undef) (fun x7 => F34.B10 Post N2 N4 (List.getD env 1 undef) x2 (List.getD env 5 undef) x6 x7 H)))) False
theorem F34.q10 (u : Nat → Value) (Post : Value → AHeap → Prop) (N2 : Value → Nat → Value → Int → AHeap → Prop) (N4 : Value → Nat → Value → Int → Int → AHeap → Prop) (x1 : Value) (x2 : Nat) (x5 : Value) (x6 : Int) (x7 : Int) (H : AHeap) : aOps Try.prog T0 F34.o10 F34.o10 (mkEnv (upd (upd (upd (upd (upd u 1 x1) 2 (Value.pointer (some ⟨x2, 0, none⟩))) 5 x5) 6 (Value.int .i64 x6)) 7 (Value.int .i64 x7)) 71 0) H (fun env H => asB (aev env (.tmp 45)) (fun b => pif b ((F34.B9.e Post N2 N4) env H) ((F34.B3.e Post N2) env H))) = F34.B10 Post N2 N4 x1 x2 x5 x6 x7 H := by kernel_rfl
theorem F34.r10 (Post : Value → AHeap → Prop) (N2 : Value → Nat → Value → Int → AHeap → Prop) (N4 : Value → Nat → Value → Int → Int → AHeap → Prop) : ∀ env H, F34.B10.e Post N2 N4 env H → aOps Try.prog T0 F34.o10 F34.o10 env H (fun env H => asB (aev env (.tmp 45)) (fun b => pif b ((F34.B9.e Post N2 N4) env H) ((F34.B3.e Post N2) env H))) := by
  intro env H h
  obtain ⟨hl, h⟩ := lenE h
  obtain ⟨x2, e2, h⟩ := asX_elim h
  obtain ⟨x6, e6, h⟩ := asI_elim h
  obtain ⟨x7, e7, h⟩ := asI_elim h
  exact use_ops hl (upd_step (upd_step (upd_step (upd_step (upd_step rfl rfl) e2) rfl) e6) e7) ((F34.q10 _ Post N2 N4 (List.getD env 1 undef) x2 (List.getD env 5 undef) x6 x7 H).mpr h)
def F34.L4 (Post : Value → AHeap → Prop) (N2 : Value → Nat → Value → Int → AHeap → Prop) (x1 : Value) (x2 : Nat) (x5 : Value) (x6 : Int) (x7 : Int) (H : AHeap) : Prop :=
  ∃ (I : Value → Nat → Value → Int → Int → AHeap → Prop) (μ : Value → Nat → Value → Int → Int → AHeap → Nat), I x1 x2 x5 x6 x7 H ∧ ∀ x1' x2' x5' x6' x7' H', I x1' x2' x5' x6' x7' H' → F34.B10 Post N2 (fun x1'' x2'' x5'' x6'' x7'' H'' => I x1'' x2'' x5'' x6'' x7'' H'' ∧ μ x1'' x2'' x5'' x6'' x7'' H'' < μ x1' x2' x5' x6' x7' H') x1' x2' x5' x6' x7' H'
def F34.L4.e (Post : Value → AHeap → Prop) (N2 : Value → Nat → Value → Int → AHeap → Prop) : EP := fun env H => pif (Nat.beq (List.length env) 71) (asX (List.getD env 2 undef) (fun x2 => asI .i64 (List.getD env 6 undef) (fun x6 => asI .i64 (List.getD env 7 undef) (fun x7 => F34.L4 Post N2 (List.getD env 1 undef) x2 (List.getD env 5 undef) x6 x7 H)))) False
theorem F34.l4 (Post : Value → AHeap → Prop) (N2 : Value → Nat → Value → Int → AHeap → Prop) {c : Code} {K : EP} {X : Nat → EP}
    (hb : ∀ N4 : Value → Nat → Value → Int → Int → AHeap → Prop, ∀ env H, (F34.B10.e Post N2 N4) env H → AW Try.prog T0 c env H (mkQ (F34.L4.ne N4) X (F34.ret Post))) :
    ∀ env H, F34.L4.e Post N2 env H → AW Try.prog T0 (.loop c) env H (mkQ K X (F34.ret Post)) := by
  intro env H h
  obtain ⟨hl, h⟩ := lenE h
  obtain ⟨x2, e2, h⟩ := asX_elim h
  obtain ⟨x6, e6, h⟩ := asI_elim h
  obtain ⟨x7, e7, h⟩ := asI_elim h
  obtain ⟨I, μ, h0, hI⟩ := h
  refine r_loop (fun n env H => pif (Nat.beq (List.length env) 71) (asX (List.getD env 2 undef) (fun x2 => asI .i64 (List.getD env 6 undef) (fun x6 => asI .i64 (List.getD env 7 undef) (fun x7 => (I (List.getD env 1 undef) x2 (List.getD env 5 undef) x6 x7 H) ∧ (μ (List.getD env 1 undef) x2 (List.getD env 5 undef) x6 x7 H = n))))) False) ?_ env H ⟨μ (List.getD env 1 undef) x2 (List.getD env 5 undef) x6 x7 H, lenM hl (asX_mk' e2 (asI_mk' e6 (asI_mk' e7 (⟨h0, rfl⟩))))⟩
  intro n env' H' h
  obtain ⟨hl', h⟩ := lenE h
  obtain ⟨x2', e2', h⟩ := asX_elim h
  obtain ⟨x6', e6', h⟩ := asI_elim h
  obtain ⟨x7', e7', h⟩ := asI_elim h
  obtain ⟨hi, hm⟩ := h
  refine r_imp (hb (fun x1'' x2'' x5'' x6'' x7'' H'' => I x1'' x2'' x5'' x6'' x7'' H'' ∧ μ x1'' x2'' x5'' x6'' x7'' H'' < n)) ?_ env' H' ?_
  · intro env H h
    obtain ⟨hl'', h⟩ := lenE h
    obtain ⟨x2'', e2'', h⟩ := asX_elim h
    obtain ⟨x6'', e6'', h⟩ := asI_elim h
    obtain ⟨x7'', e7'', h⟩ := asI_elim h
    obtain ⟨hi, hlt⟩ := h
    exact ⟨_, hlt, lenM hl'' (asX_mk' e2'' (asI_mk' e6'' (asI_mk' e7'' (⟨hi, rfl⟩))))⟩
  · have h := hI (List.getD env' 1 undef) x2' (List.getD env' 5 undef) x6' x7' H' hi
    rw [hm] at h
    exact lenM hl' (asX_mk' e2' (asI_mk' e6' (asI_mk' e7' (h))))
noncomputable def F34.o11 : List Oper := opsIn (codeAt (bodyOf Try.f34) [.r, .r, .l, .r, .l, .l, .r, .l, .l, .r, .l])
def F34.B11 (Post : Value → AHeap → Prop) (N2 : Value → Nat → Value → Int → AHeap → Prop) (x1 : Value) (x2 : Nat) (x5 : Value) (x6 : Int) (H : AHeap) : Prop :=
  F34.L4 Post N2 x1 x2 x5 x6 0 H
def F34.B11.e (Post : Value → AHeap → Prop) (N2 : Value → Nat → Value → Int → AHeap → Prop) : EP := fun env H => pif (Nat.beq (List.length env) 71) (asX (List.getD env 2 undef) (fun x2 => asI .i64 (List.getD env 6 undef) (fun x6 => F34.B11 Post N2 (List.getD env 1 undef) x2 (List.getD env 5 undef) x6 H))) False
theorem F34.q11 (u : Nat → Value) (Post : Value → AHeap → Prop) (N2 : Value → Nat → Value → Int → AHeap → Prop) (x1 : Value) (x2 : Nat) (x5 : Value) (x6 : Int) (H : AHeap) : aOps Try.prog T0 F34.o11 F34.o11 (mkEnv (upd (upd (upd (upd u 1 x1) 2 (Value.pointer (some ⟨x2, 0, none⟩))) 5 x5) 6 (Value.int .i64 x6)) 71 0) H (F34.L4.e Post N2) = F34.B11 Post N2 x1 x2 x5 x6 H := by kernel_rfl
theorem F34.r11 (Post : Value → AHeap → Prop) (N2 : Value → Nat → Value → Int → AHeap → Prop) : ∀ env H, F34.B11.e Post N2 env H → aOps Try.prog T0 F34.o11 F34.o11 env H (F34.L4.e Post N2) := by
  intro env H h
  obtain ⟨hl, h⟩ := lenE h
  obtain ⟨x2, e2, h⟩ := asX_elim h
  obtain ⟨x6, e6, h⟩ := asI_elim h
  exact use_ops hl (upd_step (upd_step (upd_step (upd_step rfl rfl) e2) rfl) e6) ((F34.q11 _ Post N2 (List.getD env 1 undef) x2 (List.getD env 5 undef) x6 H).mpr h)
noncomputable def F34.o12 : List Oper := opsIn (codeAt (bodyOf Try.f34) [.r, .r, .l, .r, .l, .l, .r, .l, .l, .l, .r, .l, .l])
def F34.B12 (Post : Value → AHeap → Prop) (N2 : Value → Nat → Value → Int → AHeap → Prop) (H : AHeap) : Prop :=
  Post (Value.bool false) H
def F34.B12.e (Post : Value → AHeap → Prop) (N2 : Value → Nat → Value → Int → AHeap → Prop) : EP := fun env H => pif (Nat.beq (List.length env) 71) (F34.B12 Post N2 H) False
theorem F34.q12 (u : Nat → Value) (Post : Value → AHeap → Prop) (N2 : Value → Nat → Value → Int → AHeap → Prop) (H : AHeap) : aOps Try.prog T0 F34.o12 F34.o12 (mkEnv u 71 0) H (F34.ret Post) = F34.B12 Post N2 H := by kernel_rfl
theorem F34.r12 (Post : Value → AHeap → Prop) (N2 : Value → Nat → Value → Int → AHeap → Prop) : ∀ env H, F34.B12.e Post N2 env H → aOps Try.prog T0 F34.o12 F34.o12 env H (F34.ret Post) := by
  intro env H h
  obtain ⟨hl, h⟩ := lenE h
  exact use_ops hl rfl ((F34.q12 _ Post N2 H).mpr h)
noncomputable def F34.o13 : List Oper := opsIn (codeAt (bodyOf Try.f34) [.r, .r, .l, .r, .l, .l, .r, .l, .l, .l, .l])
def F34.B13 (Post : Value → AHeap → Prop) (N2 : Value → Nat → Value → Int → AHeap → Prop) (x1 : Value) (x2 : Nat) (x5 : Value) (x6 : Int) (H : AHeap) : Prop :=
  idxK x1 x6 1 (fun b1 o2 => ldI .i64 H b1 o2 (fun v3 => ld1 H x2 1 (fun v4 => lenK v4 (fun n5 => AC Try.prog T0 46 [(Value.int .i64 v3), (Value.int .i64 0), (Value.int .i64 (IntKind.i64.wrap ((n5 : Int) - 1)))] H (fun v6 H7 => asB v6 (fun v8 => pif (!v8) (F34.B12 Post N2 H7) (pif (decide ((x6 : Int) > 0)) (idxK x1 x6 1 (fun b9 o10 => ldI .i64 H7 b9 o10 (fun v11 => idxK x1 (IntKind.i64.wrap (x6 - 1)) 1 (fun b12 o13 => ldI .i64 H7 b12 o13 (fun v14 => pif (decide ((v11 : Int) ≤ v14)) (F34.B12 Post N2 H7) (F34.B11 Post N2 x1 x2 x5 x6 H7)))))) (F34.B11 Post N2 x1 x2 x5 x6 H7))))))))
def F34.B13.e (Post : Value → AHeap → Prop) (N2 : Value → Nat → Value → Int → AHeap → Prop) : EP := fun env H => pif (Nat.beq (List.length env) 71) (asX (List.getD env 2 undef) (fun x2 => asI .i64 (List.getD env 6 undef) (fun x6 => F34.B13 Post N2 (List.getD env 1 undef) x2 (List.getD env 5 undef) x6 H))) False
theorem F34.q13 (u : Nat → Value) (Post : Value → AHeap → Prop) (N2 : Value → Nat → Value → Int → AHeap → Prop) (x1 : Value) (x2 : Nat) (x5 : Value) (x6 : Int) (H : AHeap) : aOpsD Try.prog T0 F34.o13 (opsOf F34.o13 [(0, false), (1, false), (2, false), (3, false), (4, false), (5, false), (6, false), (7, false), (8, false), (9, false), (10, false), (11, false), (12, false), (13, false), (14, false), (15, false), (16, false), (17, false), (18, false), (19, false), (20, false), (21, false), (22, false), (23, false), (24, false), (25, false)]) (mkEnv (upd (upd (upd (upd u 1 x1) 2 (Value.pointer (some ⟨x2, 0, none⟩))) 5 x5) 6 (Value.int .i64 x6)) 71 0) H (fun env H => asB (aev env (.tmp 43)) (fun b => pif b ((F34.B12.e Post N2) env H) ((F34.B11.e Post N2) env H))) = F34.B13 Post N2 x1 x2 x5 x6 H := by kernel_rfl
theorem F34.r13 (Post : Value → AHeap → Prop) (N2 : Value → Nat → Value → Int → AHeap → Prop) : ∀ env H, F34.B13.e Post N2 env H → aOpsD Try.prog T0 F34.o13 (opsOf F34.o13 [(0, false), (1, false), (2, false), (3, false), (4, false), (5, false), (6, false), (7, false), (8, false), (9, false), (10, false), (11, false), (12, false), (13, false), (14, false), (15, false), (16, false), (17, false), (18, false), (19, false), (20, false), (21, false), (22, false), (23, false), (24, false), (25, false)]) env H (fun env H => asB (aev env (.tmp 43)) (fun b => pif b ((F34.B12.e Post N2) env H) ((F34.B11.e Post N2) env H))) := by
  intro env H h
  obtain ⟨hl, h⟩ := lenE h
  obtain ⟨x2, e2, h⟩ := asX_elim h
  obtain ⟨x6, e6, h⟩ := asI_elim h
  exact use_opsD hl (upd_step (upd_step (upd_step (upd_step rfl rfl) e2) rfl) e6) ((F34.q13 _ Post N2 (List.getD env 1 undef) x2 (List.getD env 5 undef) x6 H).mpr h)
noncomputable def F34.o14 : List Oper := opsIn (codeAt (bodyOf Try.f34) [.r, .r, .l, .r, .l, .l, .l, .l])
def F34.B14 (Post : Value → AHeap → Prop) (N2 : Value → Nat → Value → Int → AHeap → Prop) (x1 : Value) (x2 : Nat) (x5 : Value) (x6 : Int) (H : AHeap) : Prop :=
  lenK x1 (fun n1 => pif (decide ((x6 : Int) < (n1 : Int))) (F34.B13 Post N2 x1 x2 x5 x6 H) (F34.B1 Post x1 x2 H))
def F34.B14.e (Post : Value → AHeap → Prop) (N2 : Value → Nat → Value → Int → AHeap → Prop) : EP := fun env H => pif (Nat.beq (List.length env) 71) (asX (List.getD env 2 undef) (fun x2 => asI .i64 (List.getD env 6 undef) (fun x6 => F34.B14 Post N2 (List.getD env 1 undef) x2 (List.getD env 5 undef) x6 H))) False
theorem F34.q14 (u : Nat → Value) (Post : Value → AHeap → Prop) (N2 : Value → Nat → Value → Int → AHeap → Prop) (x1 : Value) (x2 : Nat) (x5 : Value) (x6 : Int) (H : AHeap) : aOps Try.prog T0 F34.o14 F34.o14 (mkEnv (upd (upd (upd (upd u 1 x1) 2 (Value.pointer (some ⟨x2, 0, none⟩))) 5 x5) 6 (Value.int .i64 x6)) 71 0) H (fun env H => asB (aev env (.tmp 15)) (fun b => pif b ((F34.B13.e Post N2) env H) ((F34.B1.e Post) env H))) = F34.B14 Post N2 x1 x2 x5 x6 H := by kernel_rfl
theorem F34.r14 (Post : Value → AHeap → Prop) (N2 : Value → Nat → Value → Int → AHeap → Prop) : ∀ env H, F34.B14.e Post N2 env H → aOps Try.prog T0 F34.o14 F34.o14 env H (fun env H => asB (aev env (.tmp 15)) (fun b => pif b ((F34.B13.e Post N2) env H) ((F34.B1.e Post) env H))) := by
  intro env H h
  obtain ⟨hl, h⟩ := lenE h
  obtain ⟨x2, e2, h⟩ := asX_elim h
  obtain ⟨x6, e6, h⟩ := asI_elim h
  exact use_ops hl (upd_step (upd_step (upd_step (upd_step rfl rfl) e2) rfl) e6) ((F34.q14 _ Post N2 (List.getD env 1 undef) x2 (List.getD env 5 undef) x6 H).mpr h)
def F34.L2 (Post : Value → AHeap → Prop) (x1 : Value) (x2 : Nat) (x5 : Value) (x6 : Int) (H : AHeap) : Prop :=
  ∃ (I : Value → Nat → Value → Int → AHeap → Prop) (μ : Value → Nat → Value → Int → AHeap → Nat), I x1 x2 x5 x6 H ∧ ∀ x1' x2' x5' x6' H', I x1' x2' x5' x6' H' → F34.B14 Post (fun x1'' x2'' x5'' x6'' H'' => I x1'' x2'' x5'' x6'' H'' ∧ μ x1'' x2'' x5'' x6'' H'' < μ x1' x2' x5' x6' H') x1' x2' x5' x6' H'
def F34.L2.e (Post : Value → AHeap → Prop) : EP := fun env H => pif (Nat.beq (List.length env) 71) (asX (List.getD env 2 undef) (fun x2 => asI .i64 (List.getD env 6 undef) (fun x6 => F34.L2 Post (List.getD env 1 undef) x2 (List.getD env 5 undef) x6 H))) False
theorem F34.l2 (Post : Value → AHeap → Prop) {c : Code} {K : EP} {X : Nat → EP}
    (hb : ∀ N2 : Value → Nat → Value → Int → AHeap → Prop, ∀ env H, (F34.B14.e Post N2) env H → AW Try.prog T0 c env H (mkQ (F34.L2.ne N2) X (F34.ret Post))) :
    ∀ env H, F34.L2.e Post env H → AW Try.prog T0 (.loop c) env H (mkQ K X (F34.ret Post)) := by
  intro env H h
  obtain ⟨hl, h⟩ := lenE h
  obtain ⟨x2, e2, h⟩ := asX_elim h
  obtain ⟨x6, e6, h⟩ := asI_elim h
  obtain ⟨I, μ, h0, hI⟩ := h
  refine r_loop (fun n env H => pif (Nat.beq (List.length env) 71) (asX (List.getD env 2 undef) (fun x2 => asI .i64 (List.getD env 6 undef) (fun x6 => (I (List.getD env 1 undef) x2 (List.getD env 5 undef) x6 H) ∧ (μ (List.getD env 1 undef) x2 (List.getD env 5 undef) x6 H = n)))) False) ?_ env H ⟨μ (List.getD env 1 undef) x2 (List.getD env 5 undef) x6 H, lenM hl (asX_mk' e2 (asI_mk' e6 (⟨h0, rfl⟩)))⟩
  intro n env' H' h
  obtain ⟨hl', h⟩ := lenE h
  obtain ⟨x2', e2', h⟩ := asX_elim h
  obtain ⟨x6', e6', h⟩ := asI_elim h
  obtain ⟨hi, hm⟩ := h
  refine r_imp (hb (fun x1'' x2'' x5'' x6'' H'' => I x1'' x2'' x5'' x6'' H'' ∧ μ x1'' x2'' x5'' x6'' H'' < n)) ?_ env' H' ?_
  · intro env H h
    obtain ⟨hl'', h⟩ := lenE h
    obtain ⟨x2'', e2'', h⟩ := asX_elim h
    obtain ⟨x6'', e6'', h⟩ := asI_elim h
    obtain ⟨hi, hlt⟩ := h
    exact ⟨_, hlt, lenM hl'' (asX_mk' e2'' (asI_mk' e6'' (⟨hi, rfl⟩)))⟩
  · have h := hI (List.getD env' 1 undef) x2' (List.getD env' 5 undef) x6' H' hi
    rw [hm] at h
    exact lenM hl' (asX_mk' e2' (asI_mk' e6' (h)))
noncomputable def F34.o15 : List Oper := opsIn (codeAt (bodyOf Try.f34) [.r, .r, .l, .l])
def F34.B15 (Post : Value → AHeap → Prop) (x1 : Value) (x2 : Nat) (x5 : Value) (H : AHeap) : Prop :=
  F34.L2 Post x1 x2 x5 0 H
def F34.B15.e (Post : Value → AHeap → Prop) : EP := fun env H => pif (Nat.beq (List.length env) 71) (asX (List.getD env 2 undef) (fun x2 => F34.B15 Post (List.getD env 1 undef) x2 (List.getD env 5 undef) H)) False
theorem F34.q15 (u : Nat → Value) (Post : Value → AHeap → Prop) (x1 : Value) (x2 : Nat) (x5 : Value) (H : AHeap) : aOps Try.prog T0 F34.o15 F34.o15 (mkEnv (upd (upd (upd u 1 x1) 2 (Value.pointer (some ⟨x2, 0, none⟩))) 5 x5) 71 0) H (F34.L2.e Post) = F34.B15 Post x1 x2 x5 H := by kernel_rfl
theorem F34.r15 (Post : Value → AHeap → Prop) : ∀ env H, F34.B15.e Post env H → aOps Try.prog T0 F34.o15 F34.o15 env H (F34.L2.e Post) := by
  intro env H h
  obtain ⟨hl, h⟩ := lenE h
  obtain ⟨x2, e2, h⟩ := asX_elim h
  exact use_ops hl (upd_step (upd_step (upd_step rfl rfl) e2) rfl) ((F34.q15 _ Post (List.getD env 1 undef) x2 (List.getD env 5 undef) H).mpr h)
noncomputable def F34.o16 : List Oper := opsIn (codeAt (bodyOf Try.f34) [.r, .l])
def F34.B16 (Post : Value → AHeap → Prop) (x1 : Value) (x2 : Nat) (H : AHeap) : Prop :=
  ldI .i64 H x2 0 (fun v1 => mkR H 1 4 [(Value.bool false)] v1 v1 (fun v3 H2 => F34.B15 Post x1 x2 v3 H2))
def F34.B16.e (Post : Value → AHeap → Prop) : EP := fun env H => pif (Nat.beq (List.length env) 71) (asX (List.getD env 2 undef) (fun x2 => F34.B16 Post (List.getD env 1 undef) x2 H)) False
theorem F34.q16 (u : Nat → Value) (Post : Value → AHeap → Prop) (x1 : Value) (x2 : Nat) (H : AHeap) : aOps Try.prog T0 F34.o16 F34.o16 (mkEnv (upd (upd u 1 x1) 2 (Value.pointer (some ⟨x2, 0, none⟩))) 71 0) H (F34.B15.e Post) = F34.B16 Post x1 x2 H := by kernel_rfl
theorem F34.r16 (Post : Value → AHeap → Prop) : ∀ env H, F34.B16.e Post env H → aOps Try.prog T0 F34.o16 F34.o16 env H (F34.B15.e Post) := by
  intro env H h
  obtain ⟨hl, h⟩ := lenE h
  obtain ⟨x2, e2, h⟩ := asX_elim h
  exact use_ops hl (upd_step (upd_step rfl rfl) e2) ((F34.q16 _ Post (List.getD env 1 undef) x2 H).mpr h)
noncomputable def F34.o17 : List Oper := opsIn (codeAt (bodyOf Try.f34) [.l])
def F34.B17 (Post : Value → AHeap → Prop) (x0a : Int) (x0b : Value) (x1 : Value) (H : AHeap) : Prop :=
  newK H [(Value.int .i64 x0a), x0b] 31 (fun b1 H2 => F34.B16 Post x1 b1 H2)
def F34.B17.e (Post : Value → AHeap → Prop) : EP := fun env H => pif (Nat.beq (List.length env) 71) (as_iv (List.getD env 0 undef) (fun x0a x0b => F34.B17 Post x0a x0b (List.getD env 1 undef) H)) False
theorem F34.q17 (u : Nat → Value) (Post : Value → AHeap → Prop) (x0a : Int) (x0b : Value) (x1 : Value) (H : AHeap) : aOps Try.prog T0 F34.o17 F34.o17 (mkEnv (upd (upd u 0 (Value.agg ⟨[(Value.int .i64 x0a), x0b]⟩)) 1 x1) 71 0) H (F34.B16.e Post) = F34.B17 Post x0a x0b x1 H := by kernel_rfl
theorem F34.r17 (Post : Value → AHeap → Prop) : ∀ env H, F34.B17.e Post env H → aOps Try.prog T0 F34.o17 F34.o17 env H (F34.B16.e Post) := by
  intro env H h
  obtain ⟨hl, h⟩ := lenE h
  obtain ⟨x0a, x0b, e0, h⟩ := as_iv_elim h
  exact use_ops hl (upd_step (upd_step rfl e0) rfl) ((F34.q17 _ Post x0a x0b (List.getD env 1 undef) H).mpr h)
noncomputable def F34.code : Code := (.seq (.region 0 ⟨F34.o17⟩ false) (.seq (.region 1 ⟨F34.o16⟩ false) (.seq (.seq (.region 2 ⟨F34.o15⟩ false) (.block 0 (.loop (.seq (.seq (.region 3 ⟨F34.o14⟩ false) (.cond (.tmp 15) .skip (.exit 0))) (.seq (.block 1 (.seq (.seq (.region 5 ⟨F34.o13⟩ true) (.cond (.tmp 43) (.seq (.region 6 ⟨F34.o12⟩ false) .ret) .skip)) (.seq (.region 7 ⟨F34.o11⟩ false) (.block 2 (.loop (.seq (.seq (.region 8 ⟨F34.o10⟩ false) (.cond (.tmp 45) .skip (.exit 2))) (.seq (.block 3 (.seq (.region 10 ⟨F34.o9⟩ true) (.seq (.seq (.region 11 ⟨F34.o8⟩ false) (.cond (.tmp 61) (.seq (.region 12 ⟨F34.o7⟩ false) .ret) .skip)) (.region 13 ⟨F34.o6⟩ false)))) (.region 9 ⟨F34.o5⟩ false)))))))) (.region 4 ⟨F34.o3⟩ false)))))) (.seq (.region 14 ⟨F34.o1⟩ false) .ret))))
theorem F34.body : Try.f34.body = some F34.code := by kernel_rfl
theorem F34.main (Post : Value → AHeap → Prop) : ∀ env H, F34.B17.e Post env H → AW Try.prog T0 F34.code env H (mkQ (F34.ret Post) (fun _ _ _ => False) (F34.ret Post)) :=
  (r_seq (r_region T0_ok (F34.r17 Post)) (r_seq (r_region T0_ok (F34.r16 Post)) (r_seq (r_seq (r_region T0_ok (F34.r15 Post)) (r_block (F34.l2 Post (fun N2 => (r_seq (r_seq (r_region T0_ok (F34.r14 Post N2)) (r_cond rfl r_skip (r_exit (fun _ _ h => h)))) (r_seq (r_block (r_seq (r_seq (r_draw T0_ok mixed [(0, false), (1, false), (2, false), (3, false), (4, false), (5, false), (6, false), (7, false), (8, false), (9, false), (10, false), (11, false), (12, false), (13, false), (14, false), (15, false), (16, false), (17, false), (18, false), (19, false), (20, false), (21, false), (22, false), (23, false), (24, false), (25, false)] (by kernel_rfl) (F34.r13 Post N2)) (r_cond rfl (r_seq (r_region T0_ok (F34.r12 Post N2)) r_ret) r_skip)) (r_seq (r_region T0_ok (F34.r11 Post N2)) (r_block (F34.l4 Post N2 (fun N4 => (r_seq (r_seq (r_region T0_ok (F34.r10 Post N2 N4)) (r_cond rfl r_skip (r_exit (fun _ _ h => h)))) (r_seq (r_block (r_seq (r_draw T0_ok mixed [(0, false), (1, false), (2, false), (3, false), (4, false), (5, false), (6, false), (7, false), (8, false), (9, false), (10, false)] (by kernel_rfl) (F34.r9 Post N2 N4)) (r_seq (r_seq (r_region T0_ok (F34.r8 Post N2 N4)) (r_cond rfl (r_seq (r_region T0_ok (F34.r7 Post N2 N4)) r_ret) r_skip)) (r_region T0_ok (F34.r6 Post N2 N4))))) (r_region T0_ok (F34.r5 Post N2 N4)))))))))) (r_region T0_ok (F34.r3 Post N2)))))))) (r_seq (r_region T0_ok (F34.r1 Post)) r_ret))))
theorem F34.ac (Post : Value → AHeap → Prop) (x0a : Int) (x0b : Value) (x1 : Value) (H : AHeap) (h : F34.B17 Post x0a x0b x1 H) : AC Try.prog T0 34 [(Value.agg ⟨[(Value.int .i64 x0a), x0b]⟩), x1] H Post :=
  r_fn T0_ok (c := F34.code) (n := 71) Try.func34 F34.body (by kernel_rfl) (F34.main Post) (lenM (by kernel_rfl) (as_iv_mk' (by kernel_rfl) (h)))

-- loop.example/g01329/impl.IsGraph
noncomputable def F35.ret (Post : Value → AHeap → Prop) : EP := retE T0 25 Try.f35 Post
noncomputable def F35.o1 : List Oper := opsIn (codeAt (bodyOf Try.f35) [.r, .l])
def F35.B1 (Post : Value → AHeap → Prop) (x1 : Nat) (H : AHeap) : Prop :=
  ldI .i64 H x1 0 (fun v1 => ld1 H x1 1 (fun v2 => AC Try.prog T0 48 [(Value.int .i64 v1), v2] H (fun v3 H4 => asB v3 (fun v5 => pif v5 (ld1 H4 x1 1 (fun v6 => AC Try.prog T0 49 [v6, (Value.func (.func 50) ⟨[]⟩ ⟨[]⟩)] H4 (fun v7 H8 => asB v7 (fun v9 => pif v9 (ld1 H8 x1 1 (fun v10 => AC Try.prog T0 51 [v10, (Value.func (.func 52) ⟨[]⟩ ⟨[]⟩)] H8 (fun v11 H12 => asB v11 (fun v13 => pif v13 (ldI .i64 H12 x1 0 (fun v14 => ld1 H12 x1 1 (fun v15 => AC Try.prog T0 53 [(Value.int .i64 v14), v15] H12 (fun v16 H17 => asB v16 (fun v18 => Post (Value.bool v18) H17))))) (Post (Value.bool false) H12))))) (Post (Value.bool false) H8))))) (Post (Value.bool false) H4)))))
def F35.B1.e (Post : Value → AHeap → Prop) : EP := fun env H => pif (Nat.beq (List.length env) 25) (asX (List.getD env 1 undef) (fun x1 => F35.B1 Post x1 H)) False
theorem F35.q1 (u : Nat → Value) (Post : Value → AHeap → Prop) (x1 : Nat) (H : AHeap) : aOps Try.prog T0 F35.o1 F35.o1 (mkEnv (upd u 1 (Value.pointer (some ⟨x1, 0, none⟩))) 25 0) H (F35.ret Post) = F35.B1 Post x1 H := by kernel_rfl
theorem F35.r1 (Post : Value → AHeap → Prop) : ∀ env H, F35.B1.e Post env H → aOps Try.prog T0 F35.o1 F35.o1 env H (F35.ret Post) := by
  intro env H h
  obtain ⟨hl, h⟩ := lenE h
  obtain ⟨x1, e1, h⟩ := asX_elim h
  exact use_ops hl (upd_step rfl e1) ((F35.q1 _ Post x1 H).mpr h)
noncomputable def F35.o2 : List Oper := opsIn (codeAt (bodyOf Try.f35) [.l])
def F35.B2 (Post : Value → AHeap → Prop) (x0a : Int) (x0b : Value) (H : AHeap) : Prop :=
  newK H [(Value.int .i64 x0a), x0b] 31 (fun b1 H2 => F35.B1 Post b1 H2)
def F35.B2.e (Post : Value → AHeap → Prop) : EP := fun env H => pif (Nat.beq (List.length env) 25) (as_iv (List.getD env 0 undef) (fun x0a x0b => F35.B2 Post x0a x0b H)) False
theorem F35.q2 (u : Nat → Value) (Post : Value → AHeap → Prop) (x0a : Int) (x0b : Value) (H : AHeap) : aOps Try.prog T0 F35.o2 F35.o2 (mkEnv (upd u 0 (Value.agg ⟨[(Value.int .i64 x0a), x0b]⟩)) 25 0) H (F35.B1.e Post) = F35.B2 Post x0a x0b H := by kernel_rfl
theorem F35.r2 (Post : Value → AHeap → Prop) : ∀ env H, F35.B2.e Post env H → aOps Try.prog T0 F35.o2 F35.o2 env H (F35.B1.e Post) := by
  intro env H h
  obtain ⟨hl, h⟩ := lenE h
  obtain ⟨x0a, x0b, e0, h⟩ := as_iv_elim h
  exact use_ops hl (upd_step rfl e0) ((F35.q2 _ Post x0a x0b H).mpr h)
noncomputable def F35.code : Code := (.seq (.region 0 ⟨F35.o2⟩ false) (.seq (.region 1 ⟨F35.o1⟩ false) .ret))
theorem F35.body : Try.f35.body = some F35.code := by kernel_rfl
theorem F35.main (Post : Value → AHeap → Prop) : ∀ env H, F35.B2.e Post env H → AW Try.prog T0 F35.code env H (mkQ (F35.ret Post) (fun _ _ _ => False) (F35.ret Post)) :=
  (r_seq (r_region T0_ok (F35.r2 Post)) (r_seq (r_region T0_ok (F35.r1 Post)) r_ret))
theorem F35.ac (Post : Value → AHeap → Prop) (x0a : Int) (x0b : Value) (H : AHeap) (h : F35.B2 Post x0a x0b H) : AC Try.prog T0 35 [(Value.agg ⟨[(Value.int .i64 x0a), x0b]⟩)] H Post :=
  r_fn T0_ok (c := F35.code) (n := 25) Try.func35 F35.body (by kernel_rfl) (F35.main Post) (lenM (by kernel_rfl) (as_iv_mk' (by kernel_rfl) (h)))

-- (loop.example/g01329/impl.Graph).isColouring
noncomputable def F36.ret (Post : Value → AHeap → Prop) : EP := retE T0 63 Try.f36 Post
noncomputable def F36.o1 : List Oper := opsIn (codeAt (bodyOf Try.f36) [.r, .r, .r, .r, .l])
def F36.B1 (Post : Value → AHeap → Prop) (H : AHeap) : Prop :=
  Post (Value.bool true) H
def F36.B1.e (Post : Value → AHeap → Prop) : EP := fun env H => pif (Nat.beq (List.length env) 63) (F36.B1 Post H) False
theorem F36.q1 (u : Nat → Value) (Post : Value → AHeap → Prop) (H : AHeap) : aOps Try.prog T0 F36.o1 F36.o1 (mkEnv u 63 0) H (F36.ret Post) = F36.B1 Post H := by kernel_rfl
theorem F36.r1 (Post : Value → AHeap → Prop) : ∀ env H, F36.B1.e Post env H → aOps Try.prog T0 F36.o1 F36.o1 env H (F36.ret Post) := by
  intro env H h
  obtain ⟨hl, h⟩ := lenE h
  exact use_ops hl rfl ((F36.q1 _ Post H).mpr h)
def F36.L2.ne (N : Value → Value → Value → Int → Int → AHeap → Prop) : EP := fun env H => pif (Nat.beq (List.length env) 63) (asI .i64 (List.getD env 31 undef) (fun x31 => asI .i64 (List.getD env 32 undef) (fun x32 => N (List.getD env 1 undef) (List.getD env 5 undef) (List.getD env 30 undef) x31 x32 H))) False
noncomputable def F36.o3 : List Oper := opsIn (codeAt (bodyOf Try.f36) [.r, .r, .r, .l, .r, .l, .l, .r, .r, .r])
def F36.B3 (Post : Value → AHeap → Prop) (N2 : Value → Value → Value → Int → Int → AHeap → Prop) (x1 : Value) (x5 : Value) (x30 : Value) (x31 : Int) (x32 : Int) (H : AHeap) : Prop :=
  N2 x1 x5 x30 x31 (IntKind.i64.wrap (x32 + 1)) H
def F36.B3.e (Post : Value → AHeap → Prop) (N2 : Value → Value → Value → Int → Int → AHeap → Prop) : EP := fun env H => pif (Nat.beq (List.length env) 63) (asI .i64 (List.getD env 31 undef) (fun x31 => asI .i64 (List.getD env 32 undef) (fun x32 => F36.B3 Post N2 (List.getD env 1 undef) (List.getD env 5 undef) (List.getD env 30 undef) x31 x32 H))) False
theorem F36.q3 (u : Nat → Value) (Post : Value → AHeap → Prop) (N2 : Value → Value → Value → Int → Int → AHeap → Prop) (x1 : Value) (x5 : Value) (x30 : Value) (x31 : Int) (x32 : Int) (H : AHeap) : aOps Try.prog T0 F36.o3 F36.o3 (mkEnv (upd (upd (upd (upd (upd u 1 x1) 5 x5) 30 x30) 31 (Value.int .i64 x31)) 32 (Value.int .i64 x32)) 63 0) H (F36.L2.ne N2) = F36.B3 Post N2 x1 x5 x30 x31 x32 H := by kernel_rfl
theorem F36.r3 (Post : Value → AHeap → Prop) (N2 : Value → Value → Value → Int → Int → AHeap → Prop) : ∀ env H, F36.B3.e Post N2 env H → aOps Try.prog T0 F36.o3 F36.o3 env H (F36.L2.ne N2) := by
  intro env H h
  obtain ⟨hl, h⟩ := lenE h
  obtain ⟨x31, e31, h⟩ := asI_elim h
  obtain ⟨x32, e32, h⟩ := asI_elim h
  exact use_ops hl (upd_step (upd_step (upd_step (upd_step (upd_step rfl rfl) rfl) rfl) e31) e32) ((F36.q3 _ Post N2 (List.getD env 1 undef) (List.getD env 5 undef) (List.getD env 30 undef) x31 x32 H).mpr h)
def F36.L4.ne (N : Value → Value → Int → Value → Int → Int → Int → Int → Int → AHeap → Prop) : EP := fun env H => pif (Nat.beq (List.length env) 63) (asI .i64 (List.getD env 6 undef) (fun x6 => asI .i64 (List.getD env 31 undef) (fun x31 => asI .i64 (List.getD env 32 undef) (fun x32 => as_ii (List.getD env 37 undef) (fun x37a x37b => asI .i64 (List.getD env 38 undef) (fun x38 => N (List.getD env 1 undef) (List.getD env 5 undef) x6 (List.getD env 30 undef) x31 x32 x37a x37b x38 H)))))) False
noncomputable def F36.o5 : List Oper := opsIn (codeAt (bodyOf Try.f36) [.r, .r, .r, .l, .r, .l, .l, .r, .r, .l, .l, .r, .r, .l, .l, .r, .r, .r])
def F36.B5 (Post : Value → AHeap → Prop) (N2 : Value → Value → Value → Int → Int → AHeap → Prop) (N4 : Value → Value → Int → Value → Int → Int → Int → Int → Int → AHeap → Prop) (x1 : Value) (x5 : Value) (x6 : Int) (x30 : Value) (x31 : Int) (x32 : Int) (x37a : Int) (x37b : Int) (x38 : Int) (H : AHeap) : Prop :=
  N4 x1 x5 x6 x30 x31 x32 x37a x37b (IntKind.i64.wrap (x38 + 1)) H
def F36.B5.e (Post : Value → AHeap → Prop) (N2 : Value → Value → Value → Int → Int → AHeap → Prop) (N4 : Value → Value → Int → Value → Int → Int → Int → Int → Int → AHeap → Prop) : EP := fun env H => pif (Nat.beq (List.length env) 63) (asI .i64 (List.getD env 6 undef) (fun x6 => asI .i64 (List.getD env 31 undef) (fun x31 => asI .i64 (List.getD env 32 undef) (fun x32 => as_ii (List.getD env 37 undef) (fun x37a x37b => asI .i64 (List.getD env 38 undef) (fun x38 => F36.B5 Post N2 N4 (List.getD env 1 undef) (List.getD env 5 undef) x6 (List.getD env 30 undef) x31 x32 x37a x37b x38 H)))))) False
theorem F36.q5 (u : Nat → Value) (Post : Value → AHeap → Prop) (N2 : Value → Value → Value → Int → Int → AHeap → Prop) (N4 : Value → Value → Int → Value → Int → Int → Int → Int → Int → AHeap → Prop) (x1 : Value) (x5 : Value) (x6 : Int) (x30 : Value) (x31 : Int) (x32 : Int) (x37a : Int) (x37b : Int) (x38 : Int) (H : AHeap) : aOps Try.prog T0 F36.o5 F36.o5 (mkEnv (upd (upd (upd (upd (upd (upd (upd (upd u 1 x1) 5 x5) 6 (Value.int .i64 x6)) 30 x30) 31 (Value.int .i64 x31)) 32 (Value.int .i64 x32)) 37 (Value.agg ⟨[(Value.int .i64 x37a), (Value.int .i64 x37b)]⟩)) 38 (Value.int .i64 x38)) 63 0) H (F36.L4.ne N4) = F36.B5 Post N2 N4 x1 x5 x6 x30 x31 x32 x37a x37b x38 H := by kernel_rfl
theorem F36.r5 (Post : Value → AHeap → Prop) (N2 : Value → Value → Value → Int → Int → AHeap → Prop) (N4 : Value → Value → Int → Value → Int → Int → Int → Int → Int → AHeap → Prop) : ∀ env H, F36.B5.e Post N2 N4 env H → aOps Try.prog T0 F36.o5 F36.o5 env H (F36.L4.ne N4) := by
  intro env H h
  obtain ⟨hl, h⟩ := lenE h
  obtain ⟨x6, e6, h⟩ := asI_elim h
  obtain ⟨x31, e31, h⟩ := asI_elim h
  obtain ⟨x32, e32, h⟩ := asI_elim h
  obtain ⟨x37a, x37b, e37, h⟩ := as_ii_elim h
  obtain ⟨x38, e38, h⟩ := asI_elim h
  exact use_ops hl (upd_step (upd_step (upd_step (upd_step (upd_step (upd_step (upd_step (upd_step rfl rfl) rfl) e6) rfl) e31) e32) e37) e38) ((F36.q5 _ Post N2 N4 (List.getD env 1 undef) (List.getD env 5 undef) x6 (List.getD env 30 undef) x31 x32 x37a x37b x38 H).mpr h)
noncomputable def F36.o6 : List Oper := opsIn (codeAt (bodyOf Try.f36) [.r, .r, .r, .l, .r, .l, .l, .r, .r, .l, .l, .r, .r, .l, .l, .r, .r, .l, .l, .r, .r])
def F36.B6 (Post : Value → AHeap → Prop) (N2 : Value → Value → Value → Int → Int → AHeap → Prop) (N4 : Value → Value → Int → Value → Int → Int → Int → Int → Int → AHeap → Prop) (x1 : Value) (x5 : Value) (x6 : Int) (x9 : Int) (x30 : Value) (x31 : Int) (x32 : Int) (x37a : Int) (x37b : Int) (x38 : Int) (H : AHeap) : Prop :=
  idxK x5 x9 1 (fun b1 o2 => ldI .u64 H b1 o2 (fun v3 => idxK x1 x6 1 (fun b4 o5 => ldI .i64 H b4 o5 (fun v6 => (0 ≤ v6) ∧ (idxK x5 x9 1 (fun b7 o8 => stK H b7 o8 [(Value.int .u64 (IntKind.u64.wrap (BitVec.ofInt 64 v3 ||| BitVec.ofInt 64 (IntKind.u64.wrap (1 * 2 ^ (min (Int.toNat v6) 64)))).toNat))] (fun H9 => F36.B5 Post N2 N4 x1 x5 x6 x30 x31 x32 x37a x37b x38 H9)))))))
def F36.B6.e (Post : Value → AHeap → Prop) (N2 : Value → Value → Value → Int → Int → AHeap → Prop) (N4 : Value → Value → Int → Value → Int → Int → Int → Int → Int → AHeap → Prop) : EP := fun env H => pif (Nat.beq (List.length env) 63) (asI .i64 (List.getD env 6 undef) (fun x6 => asI .i64 (List.getD env 9 undef) (fun x9 => asI .i64 (List.getD env 31 undef) (fun x31 => asI .i64 (List.getD env 32 undef) (fun x32 => as_ii (List.getD env 37 undef) (fun x37a x37b => asI .i64 (List.getD env 38 undef) (fun x38 => F36.B6 Post N2 N4 (List.getD env 1 undef) (List.getD env 5 undef) x6 x9 (List.getD env 30 undef) x31 x32 x37a x37b x38 H))))))) False
theorem F36.q6 (u : Nat → Value) (Post : Value → AHeap → Prop) (N2 : Value → Value → Value → Int → Int → AHeap → Prop) (N4 : Value → Value → Int → Value → Int → Int → Int → Int → Int → AHeap → Prop) (x1 : Value) (x5 : Value) (x6 : Int) (x9 : Int) (x30 : Value) (x31 : Int) (x32 : Int) (x37a : Int) (x37b : Int) (x38 : Int) (H : AHeap) : aOpsD Try.prog T0 F36.o6 (opsOf F36.o6 [(0, false), (1, false), (2, false), (3, false), (4, false), (5, false), (6, false), (7, false), (8, false), (9, false), (10, false), (11, false)]) (mkEnv (upd (upd (upd (upd (upd (upd (upd (upd (upd u 1 x1) 5 x5) 6 (Value.int .i64 x6)) 9 (Value.int .i64 x9)) 30 x30) 31 (Value.int .i64 x31)) 32 (Value.int .i64 x32)) 37 (Value.agg ⟨[(Value.int .i64 x37a), (Value.int .i64 x37b)]⟩)) 38 (Value.int .i64 x38)) 63 0) H (F36.B5.e Post N2 N4) = F36.B6 Post N2 N4 x1 x5 x6 x9 x30 x31 x32 x37a x37b x38 H := by kernel_rfl
theorem F36.r6 (Post : Value → AHeap → Prop) (N2 : Value → Value → Value → Int → Int → AHeap → Prop) (N4 : Value → Value → Int → Value → Int → Int → Int → Int → Int → AHeap → Prop) : ∀ env H, F36.B6.e Post N2 N4 env H → aOpsD Try.prog T0 F36.o6 (opsOf F36.o6 [(0, false), (1, false), (2, false), (3, false), (4, false), (5, false), (6, false), (7, false), (8, false), (9, false), (10, false), (11, false)]) env H (F36.B5.e Post N2 N4) := by
  intro env H h
  obtain ⟨hl, h⟩ := lenE h
  obtain ⟨x6, e6, h⟩ := asI_elim h
  obtain ⟨x9, e9, h⟩ := asI_elim h
  obtain ⟨x31, e31, h⟩ := asI_elim h
  obtain ⟨x32, e32, h⟩ := asI_elim h
  obtain ⟨x37a, x37b, e37, h⟩ := as_ii_elim h
  obtain ⟨x38, e38, h⟩ := asI_elim h
  exact use_opsD hl (upd_step (upd_step (upd_step (upd_step (upd_step (upd_step (upd_step (upd_step (upd_step rfl rfl) rfl) e6) e9) rfl) e31) e32) e37) e38) ((F36.q6 _ Post N2 N4 (List.getD env 1 undef) (List.getD env 5 undef) x6 x9 (List.getD env 30 undef) x31 x32 x37a x37b x38 H).mpr h)
noncomputable def F36.o7 : List Oper := opsIn (codeAt (bodyOf Try.f36) [.r, .r, .r, .l, .r, .l, .l, .r, .r, .l, .l, .r, .r, .l, .l, .r, .r, .l, .l, .r, .l, .r, .l, .l])
def F36.B7 (Post : Value → AHeap → Prop) (N2 : Value → Value → Value → Int → Int → AHeap → Prop) (N4 : Value → Value → Int → Value → Int → Int → Int → Int → Int → AHeap → Prop) (H : AHeap) : Prop :=
  Post (Value.bool false) H
def F36.B7.e (Post : Value → AHeap → Prop) (N2 : Value → Value → Value → Int → Int → AHeap → Prop) (N4 : Value → Value → Int → Value → Int → Int → Int → Int → Int → AHeap → Prop) : EP := fun env H => pif (Nat.beq (List.length env) 63) (F36.B7 Post N2 N4 H) False
theorem F36.q7 (u : Nat → Value) (Post : Value → AHeap → Prop) (N2 : Value → Value → Value → Int → Int → AHeap → Prop) (N4 : Value → Value → Int → Value → Int → Int → Int → Int → Int → AHeap → Prop) (H : AHeap) : aOps Try.prog T0 F36.o7 F36.o7 (mkEnv u 63 0) H (F36.ret Post) = F36.B7 Post N2 N4 H := by kernel_rfl
theorem F36.r7 (Post : Value → AHeap → Prop) (N2 : Value → Value → Value → Int → Int → AHeap → Prop) (N4 : Value → Value → Int → Value → Int → Int → Int → Int → Int → AHeap → Prop) : ∀ env H, F36.B7.e Post N2 N4 env H → aOps Try.prog T0 F36.o7 F36.o7 env H (F36.ret Post) := by
  intro env H h
  obtain ⟨hl, h⟩ := lenE h
  exact use_ops hl rfl ((F36.q7 _ Post N2 N4 H).mpr h)
noncomputable def F36.o8 : List Oper := opsIn (codeAt (bodyOf Try.f36) [.r, .r, .r, .l, .r, .l, .l, .r, .r, .l, .l, .r, .r, .l, .l, .r, .r, .l, .l, .r, .l, .l])
def F36.B8 (Post : Value → AHeap → Prop) (N2 : Value → Value → Value → Int → Int → AHeap → Prop) (N4 : Value → Value → Int → Value → Int → Int → Int → Int → Int → AHeap → Prop) (x1 : Value) (x5 : Value) (x6 : Int) (x9 : Int) (x30 : Value) (x31 : Int) (x32 : Int) (x37a : Int) (x37b : Int) (x38 : Int) (H : AHeap) : Prop :=
  idxK x5 x9 1 (fun b1 o2 => ldI .u64 H b1 o2 (fun v3 => idxK x1 x6 1 (fun b4 o5 => ldI .i64 H b4 o5 (fun v6 => AC Try.prog T0 41 [(Value.int .u64 v3), (Value.int .i64 v6)] H (fun v7 H8 => asB v7 (fun v9 => pif v9 (F36.B7 Post N2 N4 H8) (F36.B6 Post N2 N4 x1 x5 x6 x9 x30 x31 x32 x37a x37b x38 H8)))))))
def F36.B8.e (Post : Value → AHeap → Prop) (N2 : Value → Value → Value → Int → Int → AHeap → Prop) (N4 : Value → Value → Int → Value → Int → Int → Int → Int → Int → AHeap → Prop) : EP := fun env H => pif (Nat.beq (List.length env) 63) (asI .i64 (List.getD env 6 undef) (fun x6 => asI .i64 (List.getD env 9 undef) (fun x9 => asI .i64 (List.getD env 31 undef) (fun x31 => asI .i64 (List.getD env 32 undef) (fun x32 => as_ii (List.getD env 37 undef) (fun x37a x37b => asI .i64 (List.getD env 38 undef) (fun x38 => F36.B8 Post N2 N4 (List.getD env 1 undef) (List.getD env 5 undef) x6 x9 (List.getD env 30 undef) x31 x32 x37a x37b x38 H))))))) False
theorem F36.q8 (u : Nat → Value) (Post : Value → AHeap → Prop) (N2 : Value → Value → Value → Int → Int → AHeap → Prop) (N4 : Value → Value → Int → Value → Int → Int → Int → Int → Int → AHeap → Prop) (x1 : Value) (x5 : Value) (x6 : Int) (x9 : Int) (x30 : Value) (x31 : Int) (x32 : Int) (x37a : Int) (x37b : Int) (x38 : Int) (H : AHeap) : aOpsD Try.prog T0 F36.o8 (opsOf F36.o8 [(0, false), (1, false), (2, false), (3, false), (4, false), (5, false), (6, false), (7, false), (8, false)]) (mkEnv (upd (upd (upd (upd (upd (upd (upd (upd (upd u 1 x1) 5 x5) 6 (Value.int .i64 x6)) 9 (Value.int .i64 x9)) 30 x30) 31 (Value.int .i64 x31)) 32 (Value.int .i64 x32)) 37 (Value.agg ⟨[(Value.int .i64 x37a), (Value.int .i64 x37b)]⟩)) 38 (Value.int .i64 x38)) 63 0) H (fun env H => asB (aev env (.tmp 49)) (fun b => pif b ((F36.B7.e Post N2 N4) env H) ((F36.B6.e Post N2 N4) env H))) = F36.B8 Post N2 N4 x1 x5 x6 x9 x30 x31 x32 x37a x37b x38 H := by kernel_rfl
theorem F36.r8 (Post : Value → AHeap → Prop) (N2 : Value → Value → Value → Int → Int → AHeap → Prop) (N4 : Value → Value → Int → Value → Int → Int → Int → Int → Int → AHeap → Prop) : ∀ env H, F36.B8.e Post N2 N4 env H → aOpsD Try.prog T0 F36.o8 (opsOf F36.o8 [(0, false), (1, false), (2, false), (3, false), (4, false), (5, false), (6, false), (7, false), (8, false)]) env H (fun env H => asB (aev env (.tmp 49)) (fun b => pif b ((F36.B7.e Post N2 N4) env H) ((F36.B6.e Post N2 N4) env H))) := by
  intro env H h
  obtain ⟨hl, h⟩ := lenE h
  obtain ⟨x6, e6, h⟩ := asI_elim h
  obtain ⟨x9, e9, h⟩ := asI_elim h
  obtain ⟨x31, e31, h⟩ := asI_elim h
  obtain ⟨x32, e32, h⟩ := asI_elim h
  obtain ⟨x37a, x37b, e37, h⟩ := as_ii_elim h
  obtain ⟨x38, e38, h⟩ := asI_elim h
  exact use_opsD hl (upd_step (upd_step (upd_step (upd_step (upd_step (upd_step (upd_step (upd_step (upd_step rfl rfl) rfl) e6) e9) rfl) e31) e32) e37) e38) ((F36.q8 _ Post N2 N4 (List.getD env 1 undef) (List.getD env 5 undef) x6 x9 (List.getD env 30 undef) x31 x32 x37a x37b x38 H).mpr h)
noncomputable def F36.o9 : List Oper := opsIn (codeAt (bodyOf Try.f36) [.r, .r, .r, .l, .r, .l, .l, .r, .r, .l, .l, .r, .r, .l, .l, .r, .r, .l, .l, .l])
def F36.B9 (Post : Value → AHeap → Prop) (N2 : Value → Value → Value → Int → Int → AHeap → Prop) (N4 : Value → Value → Int → Value → Int → Int → Int → Int → Int → AHeap → Prop) (x1 : Value) (x5 : Value) (x6 : Int) (x30 : Value) (x31 : Int) (x32 : Int) (x37a : Int) (x37b : Int) (x38 : Int) (H : AHeap) : Prop :=
  bndK x38 2 (atK [(Value.int .i64 x37a), (Value.int .i64 x37b)] (Int.toNat x38 * 1) (fun v1 => asI .i64 v1 (fun v2 => F36.B8 Post N2 N4 x1 x5 x6 v2 x30 x31 x32 x37a x37b x38 H)))
def F36.B9.e (Post : Value → AHeap → Prop) (N2 : Value → Value → Value → Int → Int → AHeap → Prop) (N4 : Value → Value → Int → Value → Int → Int → Int → Int → Int → AHeap → Prop) : EP := fun env H => pif (Nat.beq (List.length env) 63) (asI .i64 (List.getD env 6 undef) (fun x6 => asI .i64 (List.getD env 31 undef) (fun x31 => asI .i64 (List.getD env 32 undef) (fun x32 => as_ii (List.getD env 37 undef) (fun x37a x37b => asI .i64 (List.getD env 38 undef) (fun x38 => F36.B9 Post N2 N4 (List.getD env 1 undef) (List.getD env 5 undef) x6 (List.getD env 30 undef) x31 x32 x37a x37b x38 H)))))) False
theorem F36.q9 (u : Nat → Value) (Post : Value → AHeap → Prop) (N2 : Value → Value → Value → Int → Int → AHeap → Prop) (N4 : Value → Value → Int → Value → Int → Int → Int → Int → Int → AHeap → Prop) (x1 : Value) (x5 : Value) (x6 : Int) (x30 : Value) (x31 : Int) (x32 : Int) (x37a : Int) (x37b : Int) (x38 : Int) (H : AHeap) : aOps Try.prog T0 F36.o9 F36.o9 (mkEnv (upd (upd (upd (upd (upd (upd (upd (upd u 1 x1) 5 x5) 6 (Value.int .i64 x6)) 30 x30) 31 (Value.int .i64 x31)) 32 (Value.int .i64 x32)) 37 (Value.agg ⟨[(Value.int .i64 x37a), (Value.int .i64 x37b)]⟩)) 38 (Value.int .i64 x38)) 63 0) H (F36.B8.e Post N2 N4) = F36.B9 Post N2 N4 x1 x5 x6 x30 x31 x32 x37a x37b x38 H := by kernel_rfl
theorem F36.r9 (Post : Value → AHeap → Prop) (N2 : Value → Value → Value → Int → Int → AHeap → Prop) (N4 : Value → Value → Int → Value → Int → Int → Int → Int → Int → AHeap → Prop) : ∀ env H, F36.B9.e Post N2 N4 env H → aOps Try.prog T0 F36.o9 F36.o9 env H (F36.B8.e Post N2 N4) := by
  intro env H h
  obtain ⟨hl, h⟩ := lenE h
  obtain ⟨x6, e6, h⟩ := asI_elim h
  obtain ⟨x31, e31, h⟩ := asI_elim h
  obtain ⟨x32, e32, h⟩ := asI_elim h
  obtain ⟨x37a, x37b, e37, h⟩ := as_ii_elim h
  obtain ⟨x38, e38, h⟩ := asI_elim h
  exact use_ops hl (upd_step (upd_step (upd_step (upd_step (upd_step (upd_step (upd_step (upd_step rfl rfl) rfl) e6) rfl) e31) e32) e37) e38) ((F36.q9 _ Post N2 N4 (List.getD env 1 undef) (List.getD env 5 undef) x6 (List.getD env 30 undef) x31 x32 x37a x37b x38 H).mpr h)
noncomputable def F36.o10 : List Oper := opsIn (codeAt (bodyOf Try.f36) [.r, .r, .r, .l, .r, .l, .l, .r, .r, .l, .l, .r, .r, .l, .l, .l])
def F36.B10 (Post : Value → AHeap → Prop) (N2 : Value → Value → Value → Int → Int → AHeap → Prop) (N4 : Value → Value → Int → Value → Int → Int → Int → Int → Int → AHeap → Prop) (x1 : Value) (x5 : Value) (x6 : Int) (x30 : Value) (x31 : Int) (x32 : Int) (x37a : Int) (x37b : Int) (x38 : Int) (H : AHeap) : Prop :=
  pif (decide ((x38 : Int) < 2)) (F36.B9 Post N2 N4 x1 x5 x6 x30 x31 x32 x37a x37b x38 H) (F36.B3 Post N2 x1 x5 x30 x31 x32 H)
def F36.B10.e (Post : Value → AHeap → Prop) (N2 : Value → Value → Value → Int → Int → AHeap → Prop) (N4 : Value → Value → Int → Value → Int → Int → Int → Int → Int → AHeap → Prop) : EP := fun env H => pif (Nat.beq (List.length env) 63) (asI .i64 (List.getD env 6 undef) (fun x6 => asI .i64 (List.getD env 31 undef) (fun x31 => asI .i64 (List.getD env 32 undef) (fun x32 => as_ii (List.getD env 37 undef) (fun x37a x37b => asI .i64 (List.getD env 38 undef) (fun x38 => F36.B10 Post N2 N4 (List.getD env 1 undef) (List.getD env 5 undef) x6 (List.getD env 30 undef) x31 x32 x37a x37b x38 H)))))) False
theorem F36.q10 (u : Nat → Value) (Post : Value → AHeap → Prop) (N2 : Value → Value → Value → Int → Int → AHeap → Prop) (N4 : Value → Value → Int → Value → Int → Int → Int → Int → Int → AHeap → Prop) (x1 : Value) (x5 : Value) (x6 : Int) (x30 : Value) (x31 : Int) (x32 : Int) (x37a : Int) (x37b : Int) (x38 : Int) (H : AHeap) : aOps Try.prog T0 F36.o10 F36.o10 (mkEnv (upd (upd (upd (upd (upd (upd (upd (upd u 1 x1) 5 x5) 6 (Value.int .i64 x6)) 30 x30) 31 (Value.int .i64 x31)) 32 (Value.int .i64 x32)) 37 (Value.agg ⟨[(Value.int .i64 x37a), (Value.int .i64 x37b)]⟩)) 38 (Value.int .i64 x38)) 63 0) H (fun env H => asB (aev env (.tmp 39)) (fun b => pif b ((F36.B9.e Post N2 N4) env H) ((F36.B3.e Post N2) env H))) = F36.B10 Post N2 N4 x1 x5 x6 x30 x31 x32 x37a x37b x38 H := by kernel_rfl
theorem F36.r10 (Post : Value → AHeap → Prop) (N2 : Value → Value → Value → Int → Int → AHeap → Prop) (N4 : Value → Value → Int → Value → Int → Int → Int → Int → Int → AHeap → Prop) : ∀ env H, F36.B10.e Post N2 N4 env H → aOps Try.prog T0 F36.o10 F36.o10 env H (fun env H => asB (aev env (.tmp 39)) (fun b => pif b ((F36.B9.e Post N2 N4) env H) ((F36.B3.e Post N2) env H))) := by
  intro env H h
  obtain ⟨hl, h⟩ := lenE h
  obtain ⟨x6, e6, h⟩ := asI_elim h
  obtain ⟨x31, e31, h⟩ := asI_elim h
  obtain ⟨x32, e32, h⟩ := asI_elim h
  obtain ⟨x37a, x37b, e37, h⟩ := as_ii_elim h
  obtain ⟨x38, e38, h⟩ := asI_elim h
  exact use_ops hl (upd_step (upd_step (upd_step (upd_step (upd_step (upd_step (upd_step (upd_step rfl rfl) rfl) e6) rfl) e31) e32) e37) e38) ((F36.q10 _ Post N2 N4 (List.getD env 1 undef) (List.getD env 5 undef) x6 (List.getD env 30 undef) x31 x32 x37a x37b x38 H).mpr h)
def F36.L4 (Post : Value → AHeap → Prop) (N2 : Value → Value → Value → Int → Int → AHeap → Prop) (x1 : Value) (x5 : Value) (x6 : Int) (x30 : Value) (x31 : Int) (x32 : Int) (x37a : Int) (x37b : Int) (x38 : Int) (H : AHeap) : Prop :=
  ∃ (I : Value → Value → Int → Value → Int → Int → Int → Int → Int → AHeap → Prop) (μ : Value → Value → Int → Value → Int → Int → Int → Int → Int → AHeap → Nat), I x1 x5 x6 x30 x31 x32 x37a x37b x38 H ∧ ∀ x1' x5' x6' x30' x31' x32' x37a' x37b' x38' H', I x1' x5' x6' x30' x31' x32' x37a' x37b' x38' H' → F36.B10 Post N2 (fun x1'' x5'' x6'' x30'' x31'' x32'' x37a'' x37b'' x38'' H'' => I x1'' x5'' x6'' x30'' x31'' x32'' x37a'' x37b'' x38'' H'' ∧ μ x1'' x5'' x6'' x30'' x31'' x32'' x37a'' x37b'' x38'' H'' < μ x1' x5' x6' x30' x31' x32' x37a' x37b' x38' H') x1' x5' x6' x30' x31' x32' x37a' x37b' x38' H'
def F36.L4.e (Post : Value → AHeap → Prop) (N2 : Value → Value → Value → Int → Int → AHeap → Prop) : EP := fun env H => pif (Nat.beq (List.length env) 63) (asI .i64 (List.getD env 6 undef) (fun x6 => asI .i64 (List.getD env 31 undef) (fun x31 => asI .i64 (List.getD env 32 undef) (fun x32 => as_ii (List.getD env 37 undef) (fun x37a x37b => asI .i64 (List.getD env 38 undef) (fun x38 => F36.L4 Post N2 (List.getD env 1 undef) (List.getD env 5 undef) x6 (List.getD env 30 undef) x31 x32 x37a x37b x38 H)))))) False
theorem F36.l4 (Post : Value → AHeap → Prop) (N2 : Value → Value → Value → Int → Int → AHeap → Prop) {c : Code} {K : EP} {X : Nat → EP}
    (hb : ∀ N4 : Value → Value → Int → Value → Int → Int → Int → Int → Int → AHeap → Prop, ∀ env H, (F36.B10.e Post N2 N4) env H → AW Try.prog T0 c env H (mkQ (F36.L4.ne N4) X (F36.ret Post))) :
    ∀ env H, F36.L4.e Post N2 env H → AW Try.prog T0 (.loop c) env H (mkQ K X (F36.ret Post)) := by
  intro env H h
  obtain ⟨hl, h⟩ := lenE h
  obtain ⟨x6, e6, h⟩ := asI_elim h
  obtain ⟨x31, e31, h⟩ := asI_elim h
  obtain ⟨x32, e32, h⟩ := asI_elim h
  obtain ⟨x37a, x37b, e37, h⟩ := as_ii_elim h
  obtain ⟨x38, e38, h⟩ := asI_elim h
  obtain ⟨I, μ, h0, hI⟩ := h
  refine r_loop (fun n env H => pif (Nat.beq (List.length env) 63) (asI .i64 (List.getD env 6 undef) (fun x6 => asI .i64 (List.getD env 31 undef) (fun x31 => asI .i64 (List.getD env 32 undef) (fun x32 => as_ii (List.getD env 37 undef) (fun x37a x37b => asI .i64 (List.getD env 38 undef) (fun x38 => (I (List.getD env 1 undef) (List.getD env 5 undef) x6 (List.getD env 30 undef) x31 x32 x37a x37b x38 H) ∧ (μ (List.getD env 1 undef) (List.getD env 5 undef) x6 (List.getD env 30 undef) x31 x32 x37a x37b x38 H = n))))))) False) ?_ env H ⟨μ (List.getD env 1 undef) (List.getD env 5 undef) x6 (List.getD env 30 undef) x31 x32 x37a x37b x38 H, lenM hl (asI_mk' e6 (asI_mk' e31 (asI_mk' e32 (as_ii_mk' e37 (asI_mk' e38 (⟨h0, rfl⟩))))))⟩
  intro n env' H' h
  obtain ⟨hl', h⟩ := lenE h
  obtain ⟨x6', e6', h⟩ := asI_elim h
  obtain ⟨x31', e31', h⟩ := asI_elim h
  obtain ⟨x32', e32', h⟩ := asI_elim h
  obtain ⟨x37a', x37b', e37', h⟩ := as_ii_elim h
  obtain ⟨x38', e38', h⟩ := asI_elim h
  obtain ⟨hi, hm⟩ := h
  refine r_imp (hb (fun x1'' x5'' x6'' x30'' x31'' x32'' x37a'' x37b'' x38'' H'' => I x1'' x5'' x6'' x30'' x31'' x32'' x37a'' x37b'' x38'' H'' ∧ μ x1'' x5'' x6'' x30'' x31'' x32'' x37a'' x37b'' x38'' H'' < n)) ?_ env' H' ?_
  · intro env H h
    obtain ⟨hl'', h⟩ := lenE h
    obtain ⟨x6'', e6'', h⟩ := asI_elim h
    obtain ⟨x31'', e31'', h⟩ := asI_elim h
    obtain ⟨x32'', e32'', h⟩ := asI_elim h
    obtain ⟨x37a'', x37b'', e37'', h⟩ := as_ii_elim h
    obtain ⟨x38'', e38'', h⟩ := asI_elim h
    obtain ⟨hi, hlt⟩ := h
    exact ⟨_, hlt, lenM hl'' (asI_mk' e6'' (asI_mk' e31'' (asI_mk' e32'' (as_ii_mk' e37'' (asI_mk' e38'' (⟨hi, rfl⟩))))))⟩
  · have h := hI (List.getD env' 1 undef) (List.getD env' 5 undef) x6' (List.getD env' 30 undef) x31' x32' x37a' x37b' x38' H' hi
    rw [hm] at h
    exact lenM hl' (asI_mk' e6' (asI_mk' e31' (asI_mk' e32' (as_ii_mk' e37' (asI_mk' e38' (h))))))
noncomputable def F36.o11 : List Oper := opsIn (codeAt (bodyOf Try.f36) [.r, .r, .r, .l, .r, .l, .l, .r, .r, .l, .l, .r, .l])
def F36.B11 (Post : Value → AHeap → Prop) (N2 : Value → Value → Value → Int → Int → AHeap → Prop) (x1 : Value) (x5 : Value) (x6 : Int) (x7 : Nat) (x30 : Value) (x31 : Int) (x32 : Int) (H : AHeap) : Prop :=
  ldI .i64 H x7 0 (fun v1 => ldI .i64 H x7 1 (fun v2 => F36.L4 Post N2 x1 x5 x6 x30 x31 x32 v1 v2 0 H))
def F36.B11.e (Post : Value → AHeap → Prop) (N2 : Value → Value → Value → Int → Int → AHeap → Prop) : EP := fun env H => pif (Nat.beq (List.length env) 63) (asI .i64 (List.getD env 6 undef) (fun x6 => asX (List.getD env 7 undef) (fun x7 => asI .i64 (List.getD env 31 undef) (fun x31 => asI .i64 (List.getD env 32 undef) (fun x32 => F36.B11 Post N2 (List.getD env 1 undef) (List.getD env 5 undef) x6 x7 (List.getD env 30 undef) x31 x32 H))))) False
theorem F36.q11 (u : Nat → Value) (Post : Value → AHeap → Prop) (N2 : Value → Value → Value → Int → Int → AHeap → Prop) (x1 : Value) (x5 : Value) (x6 : Int) (x7 : Nat) (x30 : Value) (x31 : Int) (x32 : Int) (H : AHeap) : aOps Try.prog T0 F36.o11 F36.o11 (mkEnv (upd (upd (upd (upd (upd (upd (upd u 1 x1) 5 x5) 6 (Value.int .i64 x6)) 7 (Value.pointer (some ⟨x7, 0, none⟩))) 30 x30) 31 (Value.int .i64 x31)) 32 (Value.int .i64 x32)) 63 0) H (F36.L4.e Post N2) = F36.B11 Post N2 x1 x5 x6 x7 x30 x31 x32 H := by kernel_rfl
theorem F36.r11 (Post : Value → AHeap → Prop) (N2 : Value → Value → Value → Int → Int → AHeap → Prop) : ∀ env H, F36.B11.e Post N2 env H → aOps Try.prog T0 F36.o11 F36.o11 env H (F36.L4.e Post N2) := by
  intro env H h
  obtain ⟨hl, h⟩ := lenE h
  obtain ⟨x6, e6, h⟩ := asI_elim h
  obtain ⟨x7, e7, h⟩ := asX_elim h
  obtain ⟨x31, e31, h⟩ := asI_elim h
  obtain ⟨x32, e32, h⟩ := asI_elim h
  exact use_ops hl (upd_step (upd_step (upd_step (upd_step (upd_step (upd_step (upd_step rfl rfl) rfl) e6) e7) rfl) e31) e32) ((F36.q11 _ Post N2 (List.getD env 1 undef) (List.getD env 5 undef) x6 x7 (List.getD env 30 undef) x31 x32 H).mpr h)
noncomputable def F36.o12 : List Oper := opsIn (codeAt (bodyOf Try.f36) [.r, .r, .r, .l, .r, .l, .l, .r, .r, .l, .l, .l])
def F36.B12 (Post : Value → AHeap → Prop) (N2 : Value → Value → Value → Int → Int → AHeap → Prop) (x1 : Value) (x5 : Value) (x30 : Value) (x31 : Int) (x32 : Int) (H : AHeap) : Prop :=
  idxK x30 x32 2 (fun b1 o2 => ldI .i64 H b1 o2 (fun v3 => ldI .i64 H b1 (o2 + 1) (fun v4 => newK H [(Value.int .i64 0), (Value.int .i64 0)] 55 (fun b5 H6 => stK H6 b5 0 [(Value.int .i64 v3), (Value.int .i64 v4)] (fun H7 => F36.B11 Post N2 x1 x5 x32 b5 x30 x31 x32 H7)))))
def F36.B12.e (Post : Value → AHeap → Prop) (N2 : Value → Value → Value → Int → Int → AHeap → Prop) : EP := fun env H => pif (Nat.beq (List.length env) 63) (asI .i64 (List.getD env 31 undef) (fun x31 => asI .i64 (List.getD env 32 undef) (fun x32 => F36.B12 Post N2 (List.getD env 1 undef) (List.getD env 5 undef) (List.getD env 30 undef) x31 x32 H))) False
theorem F36.q12 (u : Nat → Value) (Post : Value → AHeap → Prop) (N2 : Value → Value → Value → Int → Int → AHeap → Prop) (x1 : Value) (x5 : Value) (x30 : Value) (x31 : Int) (x32 : Int) (H : AHeap) : aOps Try.prog T0 F36.o12 F36.o12 (mkEnv (upd (upd (upd (upd (upd u 1 x1) 5 x5) 30 x30) 31 (Value.int .i64 x31)) 32 (Value.int .i64 x32)) 63 0) H (F36.B11.e Post N2) = F36.B12 Post N2 x1 x5 x30 x31 x32 H := by kernel_rfl
theorem F36.r12 (Post : Value → AHeap → Prop) (N2 : Value → Value → Value → Int → Int → AHeap → Prop) : ∀ env H, F36.B12.e Post N2 env H → aOps Try.prog T0 F36.o12 F36.o12 env H (F36.B11.e Post N2) := by
  intro env H h
  obtain ⟨hl, h⟩ := lenE h
  obtain ⟨x31, e31, h⟩ := asI_elim h
  obtain ⟨x32, e32, h⟩ := asI_elim h
  exact use_ops hl (upd_step (upd_step (upd_step (upd_step (upd_step rfl rfl) rfl) rfl) e31) e32) ((F36.q12 _ Post N2 (List.getD env 1 undef) (List.getD env 5 undef) (List.getD env 30 undef) x31 x32 H).mpr h)
noncomputable def F36.o13 : List Oper := opsIn (codeAt (bodyOf Try.f36) [.r, .r, .r, .l, .r, .l, .l, .l])
def F36.B13 (Post : Value → AHeap → Prop) (N2 : Value → Value → Value → Int → Int → AHeap → Prop) (x1 : Value) (x5 : Value) (x30 : Value) (x31 : Int) (x32 : Int) (H : AHeap) : Prop :=
  pif (decide ((x32 : Int) < x31)) (F36.B12 Post N2 x1 x5 x30 x31 x32 H) (F36.B1 Post H)
def F36.B13.e (Post : Value → AHeap → Prop) (N2 : Value → Value → Value → Int → Int → AHeap → Prop) : EP := fun env H => pif (Nat.beq (List.length env) 63) (asI .i64 (List.getD env 31 undef) (fun x31 => asI .i64 (List.getD env 32 undef) (fun x32 => F36.B13 Post N2 (List.getD env 1 undef) (List.getD env 5 undef) (List.getD env 30 undef) x31 x32 H))) False
theorem F36.q13 (u : Nat → Value) (Post : Value → AHeap → Prop) (N2 : Value → Value → Value → Int → Int → AHeap → Prop) (x1 : Value) (x5 : Value) (x30 : Value) (x31 : Int) (x32 : Int) (H : AHeap) : aOps Try.prog T0 F36.o13 F36.o13 (mkEnv (upd (upd (upd (upd (upd u 1 x1) 5 x5) 30 x30) 31 (Value.int .i64 x31)) 32 (Value.int .i64 x32)) 63 0) H (fun env H => asB (aev env (.tmp 33)) (fun b => pif b ((F36.B12.e Post N2) env H) ((F36.B1.e Post) env H))) = F36.B13 Post N2 x1 x5 x30 x31 x32 H := by kernel_rfl
theorem F36.r13 (Post : Value → AHeap → Prop) (N2 : Value → Value → Value → Int → Int → AHeap → Prop) : ∀ env H, F36.B13.e Post N2 env H → aOps Try.prog T0 F36.o13 F36.o13 env H (fun env H => asB (aev env (.tmp 33)) (fun b => pif b ((F36.B12.e Post N2) env H) ((F36.B1.e Post) env H))) := by
  intro env H h
  obtain ⟨hl, h⟩ := lenE h
  obtain ⟨x31, e31, h⟩ := asI_elim h
  obtain ⟨x32, e32, h⟩ := asI_elim h
  exact use_ops hl (upd_step (upd_step (upd_step (upd_step (upd_step rfl rfl) rfl) rfl) e31) e32) ((F36.q13 _ Post N2 (List.getD env 1 undef) (List.getD env 5 undef) (List.getD env 30 undef) x31 x32 H).mpr h)
def F36.L2 (Post : Value → AHeap → Prop) (x1 : Value) (x5 : Value) (x30 : Value) (x31 : Int) (x32 : Int) (H : AHeap) : Prop :=
  ∃ (I : Value → Value → Value → Int → Int → AHeap → Prop) (μ : Value → Value → Value → Int → Int → AHeap → Nat), I x1 x5 x30 x31 x32 H ∧ ∀ x1' x5' x30' x31' x32' H', I x1' x5' x30' x31' x32' H' → F36.B13 Post (fun x1'' x5'' x30'' x31'' x32'' H'' => I x1'' x5'' x30'' x31'' x32'' H'' ∧ μ x1'' x5'' x30'' x31'' x32'' H'' < μ x1' x5' x30' x31' x32' H') x1' x5' x30' x31' x32' H'
def F36.L2.e (Post : Value → AHeap → Prop) : EP := fun env H => pif (Nat.beq (List.length env) 63) (asI .i64 (List.getD env 31 undef) (fun x31 => asI .i64 (List.getD env 32 undef) (fun x32 => F36.L2 Post (List.getD env 1 undef) (List.getD env 5 undef) (List.getD env 30 undef) x31 x32 H))) False
theorem F36.l2 (Post : Value → AHeap → Prop) {c : Code} {K : EP} {X : Nat → EP}
    (hb : ∀ N2 : Value → Value → Value → Int → Int → AHeap → Prop, ∀ env H, (F36.B13.e Post N2) env H → AW Try.prog T0 c env H (mkQ (F36.L2.ne N2) X (F36.ret Post))) :
    ∀ env H, F36.L2.e Post env H → AW Try.prog T0 (.loop c) env H (mkQ K X (F36.ret Post)) := by
  intro env H h
  obtain ⟨hl, h⟩ := lenE h
  obtain ⟨x31, e31, h⟩ := asI_elim h
  obtain ⟨x32, e32, h⟩ := asI_elim h
  obtain ⟨I, μ, h0, hI⟩ := h
  refine r_loop (fun n env H => pif (Nat.beq (List.length env) 63) (asI .i64 (List.getD env 31 undef) (fun x31 => asI .i64 (List.getD env 32 undef) (fun x32 => (I (List.getD env 1 undef) (List.getD env 5 undef) (List.getD env 30 undef) x31 x32 H) ∧ (μ (List.getD env 1 undef) (List.getD env 5 undef) (List.getD env 30 undef) x31 x32 H = n)))) False) ?_ env H ⟨μ (List.getD env 1 undef) (List.getD env 5 undef) (List.getD env 30 undef) x31 x32 H, lenM hl (asI_mk' e31 (asI_mk' e32 (⟨h0, rfl⟩)))⟩
  intro n env' H' h
  obtain ⟨hl', h⟩ := lenE h
  obtain ⟨x31', e31', h⟩ := asI_elim h
  obtain ⟨x32', e32', h⟩ := asI_elim h
  obtain ⟨hi, hm⟩ := h
  refine r_imp (hb (fun x1'' x5'' x30'' x31'' x32'' H'' => I x1'' x5'' x30'' x31'' x32'' H'' ∧ μ x1'' x5'' x30'' x31'' x32'' H'' < n)) ?_ env' H' ?_
  · intro env H h
    obtain ⟨hl'', h⟩ := lenE h
    obtain ⟨x31'', e31'', h⟩ := asI_elim h
    obtain ⟨x32'', e32'', h⟩ := asI_elim h
    obtain ⟨hi, hlt⟩ := h
    exact ⟨_, hlt, lenM hl'' (asI_mk' e31'' (asI_mk' e32'' (⟨hi, rfl⟩)))⟩
  · have h := hI (List.getD env' 1 undef) (List.getD env' 5 undef) (List.getD env' 30 undef) x31' x32' H' hi
    rw [hm] at h
    exact lenM hl' (asI_mk' e31' (asI_mk' e32' (h)))
noncomputable def F36.o14 : List Oper := opsIn (codeAt (bodyOf Try.f36) [.r, .r, .r, .l, .l])
def F36.B14 (Post : Value → AHeap → Prop) (x1 : Value) (x2 : Nat) (x5 : Value) (H : AHeap) : Prop :=
  ld1 H x2 1 (fun v1 => lenK v1 (fun n2 => F36.L2 Post x1 x5 v1 (n2 : Int) 0 H))
def F36.B14.e (Post : Value → AHeap → Prop) : EP := fun env H => pif (Nat.beq (List.length env) 63) (asX (List.getD env 2 undef) (fun x2 => F36.B14 Post (List.getD env 1 undef) x2 (List.getD env 5 undef) H)) False
theorem F36.q14 (u : Nat → Value) (Post : Value → AHeap → Prop) (x1 : Value) (x2 : Nat) (x5 : Value) (H : AHeap) : aOps Try.prog T0 F36.o14 F36.o14 (mkEnv (upd (upd (upd u 1 x1) 2 (Value.pointer (some ⟨x2, 0, none⟩))) 5 x5) 63 0) H (F36.L2.e Post) = F36.B14 Post x1 x2 x5 H := by kernel_rfl
theorem F36.r14 (Post : Value → AHeap → Prop) : ∀ env H, F36.B14.e Post env H → aOps Try.prog T0 F36.o14 F36.o14 env H (F36.L2.e Post) := by
  intro env H h
  obtain ⟨hl, h⟩ := lenE h
  obtain ⟨x2, e2, h⟩ := asX_elim h
  exact use_ops hl (upd_step (upd_step (upd_step rfl rfl) e2) rfl) ((F36.q14 _ Post (List.getD env 1 undef) x2 (List.getD env 5 undef) H).mpr h)
noncomputable def F36.o15 : List Oper := opsIn (codeAt (bodyOf Try.f36) [.r, .r, .l])
def F36.B15 (Post : Value → AHeap → Prop) (x1 : Value) (x2 : Nat) (H : AHeap) : Prop :=
  ldI .i64 H x2 0 (fun v1 => mkR H 8 57 [(Value.int .u64 0)] v1 v1 (fun v3 H2 => F36.B14 Post x1 x2 v3 H2))
def F36.B15.e (Post : Value → AHeap → Prop) : EP := fun env H => pif (Nat.beq (List.length env) 63) (asX (List.getD env 2 undef) (fun x2 => F36.B15 Post (List.getD env 1 undef) x2 H)) False
theorem F36.q15 (u : Nat → Value) (Post : Value → AHeap → Prop) (x1 : Value) (x2 : Nat) (H : AHeap) : aOps Try.prog T0 F36.o15 F36.o15 (mkEnv (upd (upd u 1 x1) 2 (Value.pointer (some ⟨x2, 0, none⟩))) 63 0) H (F36.B14.e Post) = F36.B15 Post x1 x2 H := by kernel_rfl
theorem F36.r15 (Post : Value → AHeap → Prop) : ∀ env H, F36.B15.e Post env H → aOps Try.prog T0 F36.o15 F36.o15 env H (F36.B14.e Post) := by
  intro env H h
  obtain ⟨hl, h⟩ := lenE h
  obtain ⟨x2, e2, h⟩ := asX_elim h
  exact use_ops hl (upd_step (upd_step rfl rfl) e2) ((F36.q15 _ Post (List.getD env 1 undef) x2 H).mpr h)
noncomputable def F36.o16 : List Oper := opsIn (codeAt (bodyOf Try.f36) [.r, .l, .r, .l, .l])
def F36.B16 (Post : Value → AHeap → Prop) (H : AHeap) : Prop :=
  Post (Value.bool false) H
def F36.B16.e (Post : Value → AHeap → Prop) : EP := fun env H => pif (Nat.beq (List.length env) 63) (F36.B16 Post H) False
theorem F36.q16 (u : Nat → Value) (Post : Value → AHeap → Prop) (H : AHeap) : aOps Try.prog T0 F36.o16 F36.o16 (mkEnv u 63 0) H (F36.ret Post) = F36.B16 Post H := by kernel_rfl
theorem F36.r16 (Post : Value → AHeap → Prop) : ∀ env H, F36.B16.e Post env H → aOps Try.prog T0 F36.o16 F36.o16 env H (F36.ret Post) := by
  intro env H h
  obtain ⟨hl, h⟩ := lenE h
  exact use_ops hl rfl ((F36.q16 _ Post H).mpr h)
noncomputable def F36.o17 : List Oper := opsIn (codeAt (bodyOf Try.f36) [.r, .l, .l])
def F36.B17 (Post : Value → AHeap → Prop) (x1 : Value) (x2 : Nat) (H : AHeap) : Prop :=
  ldI .i64 H x2 0 (fun v1 => ld1 H x2 1 (fun v2 => AC Try.prog T0 35 [(Value.agg ⟨[(Value.int .i64 v1), v2]⟩)] H (fun v3 H4 => asB v3 (fun v5 => pif (!v5) (F36.B16 Post H4) (lenK x1 (fun n6 => ld1 H4 x2 1 (fun v7 => lenK v7 (fun n8 => pif (((n6 : Int) : Int) != (n8 : Int)) (F36.B16 Post H4) (AC Try.prog T0 54 [x1, (Value.func (.func 55) ⟨[]⟩ ⟨[]⟩)] H4 (fun v9 H10 => asB v9 (fun v11 => pif (!v11) (F36.B16 Post H10) (F36.B15 Post x1 x2 H10))))))))))))
def F36.B17.e (Post : Value → AHeap → Prop) : EP := fun env H => pif (Nat.beq (List.length env) 63) (asX (List.getD env 2 undef) (fun x2 => F36.B17 Post (List.getD env 1 undef) x2 H)) False
theorem F36.q17 (u : Nat → Value) (Post : Value → AHeap → Prop) (x1 : Value) (x2 : Nat) (H : AHeap) : aOps Try.prog T0 F36.o17 F36.o17 (mkEnv (upd (upd u 1 x1) 2 (Value.pointer (some ⟨x2, 0, none⟩))) 63 0) H (fun env H => asB (aev env (.tmp 25)) (fun b => pif b ((F36.B16.e Post) env H) ((F36.B15.e Post) env H))) = F36.B17 Post x1 x2 H := by kernel_rfl
theorem F36.r17 (Post : Value → AHeap → Prop) : ∀ env H, F36.B17.e Post env H → aOps Try.prog T0 F36.o17 F36.o17 env H (fun env H => asB (aev env (.tmp 25)) (fun b => pif b ((F36.B16.e Post) env H) ((F36.B15.e Post) env H))) := by
  intro env H h
  obtain ⟨hl, h⟩ := lenE h
  obtain ⟨x2, e2, h⟩ := asX_elim h
  exact use_ops hl (upd_step (upd_step rfl rfl) e2) ((F36.q17 _ Post (List.getD env 1 undef) x2 H).mpr h)
noncomputable def F36.o18 : List Oper := opsIn (codeAt (bodyOf Try.f36) [.l])
def F36.B18 (Post : Value → AHeap → Prop) (x0a : Int) (x0b : Value) (x1 : Value) (H : AHeap) : Prop :=
  newK H [(Value.int .i64 x0a), x0b] 31 (fun b1 H2 => F36.B17 Post x1 b1 H2)
def F36.B18.e (Post : Value → AHeap → Prop) : EP := fun env H => pif (Nat.beq (List.length env) 63) (as_iv (List.getD env 0 undef) (fun x0a x0b => F36.B18 Post x0a x0b (List.getD env 1 undef) H)) False
theorem F36.q18 (u : Nat → Value) (Post : Value → AHeap → Prop) (x0a : Int) (x0b : Value) (x1 : Value) (H : AHeap) : aOps Try.prog T0 F36.o18 F36.o18 (mkEnv (upd (upd u 0 (Value.agg ⟨[(Value.int .i64 x0a), x0b]⟩)) 1 x1) 63 0) H (F36.B17.e Post) = F36.B18 Post x0a x0b x1 H := by kernel_rfl
theorem F36.r18 (Post : Value → AHeap → Prop) : ∀ env H, F36.B18.e Post env H → aOps Try.prog T0 F36.o18 F36.o18 env H (F36.B17.e Post) := by
  intro env H h
  obtain ⟨hl, h⟩ := lenE h
  obtain ⟨x0a, x0b, e0, h⟩ := as_iv_elim h
  exact use_ops hl (upd_step (upd_step rfl e0) rfl) ((F36.q18 _ Post x0a x0b (List.getD env 1 undef) H).mpr h)
noncomputable def F36.code : Code := (.seq (.region 0 ⟨F36.o18⟩ false) (.seq (.seq (.region 1 ⟨F36.o17⟩ false) (.cond (.tmp 25) (.seq (.region 2 ⟨F36.o16⟩ false) .ret) .skip)) (.seq (.region 3 ⟨F36.o15⟩ false) (.seq (.seq (.region 4 ⟨F36.o14⟩ false) (.block 0 (.loop (.seq (.region 5 ⟨F36.o13⟩ false) (.seq (.cond (.tmp 33) .skip (.exit 0)) (.seq (.block 1 (.seq (.region 6 ⟨F36.o12⟩ false) (.seq (.region 7 ⟨F36.o11⟩ false) (.block 2 (.loop (.seq (.region 8 ⟨F36.o10⟩ false) (.seq (.cond (.tmp 39) .skip (.exit 2)) (.seq (.block 3 (.seq (.region 9 ⟨F36.o9⟩ false) (.seq (.seq (.region 10 ⟨F36.o8⟩ true) (.cond (.tmp 49) (.seq (.region 11 ⟨F36.o7⟩ false) .ret) .skip)) (.region 12 ⟨F36.o6⟩ true)))) (.region 13 ⟨F36.o5⟩ false))))))))) (.region 14 ⟨F36.o3⟩ false))))))) (.seq (.region 15 ⟨F36.o1⟩ false) .ret)))))
theorem F36.body : Try.f36.body = some F36.code := by kernel_rfl
theorem F36.main (Post : Value → AHeap → Prop) : ∀ env H, F36.B18.e Post env H → AW Try.prog T0 F36.code env H (mkQ (F36.ret Post) (fun _ _ _ => False) (F36.ret Post)) :=
  (r_seq (r_region T0_ok (F36.r18 Post)) (r_seq (r_seq (r_region T0_ok (F36.r17 Post)) (r_cond rfl (r_seq (r_region T0_ok (F36.r16 Post)) r_ret) r_skip)) (r_seq (r_region T0_ok (F36.r15 Post)) (r_seq (r_seq (r_region T0_ok (F36.r14 Post)) (r_block (F36.l2 Post (fun N2 => (r_seq (r_region T0_ok (F36.r13 Post N2)) (r_seq (r_cond rfl r_skip (r_exit (fun _ _ h => h))) (r_seq (r_block (r_seq (r_region T0_ok (F36.r12 Post N2)) (r_seq (r_region T0_ok (F36.r11 Post N2)) (r_block (F36.l4 Post N2 (fun N4 => (r_seq (r_region T0_ok (F36.r10 Post N2 N4)) (r_seq (r_cond rfl r_skip (r_exit (fun _ _ h => h))) (r_seq (r_block (r_seq (r_region T0_ok (F36.r9 Post N2 N4)) (r_seq (r_seq (r_draw T0_ok mixed [(0, false), (1, false), (2, false), (3, false), (4, false), (5, false), (6, false), (7, false), (8, false)] (by kernel_rfl) (F36.r8 Post N2 N4)) (r_cond rfl (r_seq (r_region T0_ok (F36.r7 Post N2 N4)) r_ret) r_skip)) (r_draw T0_ok mixed [(0, false), (1, false), (2, false), (3, false), (4, false), (5, false), (6, false), (7, false), (8, false), (9, false), (10, false), (11, false)] (by kernel_rfl) (F36.r6 Post N2 N4))))) (r_region T0_ok (F36.r5 Post N2 N4))))))))))) (r_region T0_ok (F36.r3 Post N2))))))))) (r_seq (r_region T0_ok (F36.r1 Post)) r_ret)))))
theorem F36.ac (Post : Value → AHeap → Prop) (x0a : Int) (x0b : Value) (x1 : Value) (H : AHeap) (h : F36.B18 Post x0a x0b x1 H) : AC Try.prog T0 36 [(Value.agg ⟨[(Value.int .i64 x0a), x0b]⟩), x1] H Post :=
  r_fn T0_ok (c := F36.code) (n := 63) Try.func36 F36.body (by kernel_rfl) (F36.main Post) (lenM (by kernel_rfl) (as_iv_mk' (by kernel_rfl) (h)))

end Go.Proofs
