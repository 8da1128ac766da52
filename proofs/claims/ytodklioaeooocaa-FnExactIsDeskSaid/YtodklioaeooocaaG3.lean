import Derived.Test.YtodklioaeooocaaS
set_option linter.unusedVariables false
set_option maxRecDepth 100000
namespace Go.Proofs
open Go.Abs
-- (loop.example/g01329/impl.Graph).isMatching
noncomputable def F37.ret (Post : Value → AHeap → Prop) : EP := retE T0 57 Try.f37 Post
noncomputable def F37.o1 : List Oper := opsIn (codeAt (bodyOf Try.f37) [.r, .r, .r, .r, .l])
def F37.B1 (Post : Value → AHeap → Prop) (x2 : Nat) (x5 : Int) (H : AHeap) : Prop :=
  ldI .i64 H x2 0 (fun v1 => (0 ≤ v1) ∧ (Post (Value.bool ((x5 : Int) == (IntKind.u64.wrap ((IntKind.u64.wrap (1 * 2 ^ (min (Int.toNat v1) 64))) - 1)))) H))
def F37.B1.e (Post : Value → AHeap → Prop) : EP := fun env H => pif (Nat.beq (List.length env) 57) (asX (List.getD env 2 undef) (fun x2 => asI .u64 (List.getD env 5 undef) (fun x5 => F37.B1 Post x2 x5 H))) False
theorem F37.q1 (u : Nat → Value) (Post : Value → AHeap → Prop) (x2 : Nat) (x5 : Int) (H : AHeap) : aOps Try.prog T0 F37.o1 F37.o1 (mkEnv (upd (upd u 2 (Value.pointer (some ⟨x2, 0, none⟩))) 5 (Value.int .u64 x5)) 57 0) H (F37.ret Post) = F37.B1 Post x2 x5 H := by kernel_rfl
theorem F37.r1 (Post : Value → AHeap → Prop) : ∀ env H, F37.B1.e Post env H → aOps Try.prog T0 F37.o1 F37.o1 env H (F37.ret Post) := by
  intro env H h
  obtain ⟨hl, h⟩ := lenE h
  obtain ⟨x2, e2, h⟩ := asX_elim h
  obtain ⟨x5, e5, h⟩ := asI_elim h
  exact use_ops hl (upd_step (upd_step rfl e2) e5) ((F37.q1 _ Post x2 x5 H).mpr h)
def F37.L2.ne (N : Nat → Int → Value → Int → Int → AHeap → Prop) : EP := fun env H => pif (Nat.beq (List.length env) 57) (asX (List.getD env 2 undef) (fun x2 => asI .u64 (List.getD env 5 undef) (fun x5 => asI .i64 (List.getD env 28 undef) (fun x28 => asI .i64 (List.getD env 29 undef) (fun x29 => N x2 x5 (List.getD env 27 undef) x28 x29 H))))) False
noncomputable def F37.o3 : List Oper := opsIn (codeAt (bodyOf Try.f37) [.r, .r, .r, .l, .r, .l, .l, .r, .r, .r])
def F37.B3 (Post : Value → AHeap → Prop) (N2 : Nat → Int → Value → Int → Int → AHeap → Prop) (x2 : Nat) (x5 : Int) (x27 : Value) (x28 : Int) (x29 : Int) (H : AHeap) : Prop :=
  N2 x2 x5 x27 x28 (IntKind.i64.wrap (x29 + 1)) H
def F37.B3.e (Post : Value → AHeap → Prop) (N2 : Nat → Int → Value → Int → Int → AHeap → Prop) : EP := fun env H => pif (Nat.beq (List.length env) 57) (asX (List.getD env 2 undef) (fun x2 => asI .u64 (List.getD env 5 undef) (fun x5 => asI .i64 (List.getD env 28 undef) (fun x28 => asI .i64 (List.getD env 29 undef) (fun x29 => F37.B3 Post N2 x2 x5 (List.getD env 27 undef) x28 x29 H))))) False
theorem F37.q3 (u : Nat → Value) (Post : Value → AHeap → Prop) (N2 : Nat → Int → Value → Int → Int → AHeap → Prop) (x2 : Nat) (x5 : Int) (x27 : Value) (x28 : Int) (x29 : Int) (H : AHeap) : aOps Try.prog T0 F37.o3 F37.o3 (mkEnv (upd (upd (upd (upd (upd u 2 (Value.pointer (some ⟨x2, 0, none⟩))) 5 (Value.int .u64 x5)) 27 x27) 28 (Value.int .i64 x28)) 29 (Value.int .i64 x29)) 57 0) H (F37.L2.ne N2) = F37.B3 Post N2 x2 x5 x27 x28 x29 H := by kernel_rfl
theorem F37.r3 (Post : Value → AHeap → Prop) (N2 : Nat → Int → Value → Int → Int → AHeap → Prop) : ∀ env H, F37.B3.e Post N2 env H → aOps Try.prog T0 F37.o3 F37.o3 env H (F37.L2.ne N2) := by
  intro env H h
  obtain ⟨hl, h⟩ := lenE h
  obtain ⟨x2, e2, h⟩ := asX_elim h
  obtain ⟨x5, e5, h⟩ := asI_elim h
  obtain ⟨x28, e28, h⟩ := asI_elim h
  obtain ⟨x29, e29, h⟩ := asI_elim h
  exact use_ops hl (upd_step (upd_step (upd_step (upd_step (upd_step rfl e2) e5) rfl) e28) e29) ((F37.q3 _ Post N2 x2 x5 (List.getD env 27 undef) x28 x29 H).mpr h)
noncomputable def F37.o4 : List Oper := opsIn (codeAt (bodyOf Try.f37) [.r, .r, .r, .l, .r, .l, .l, .r, .r, .l, .l, .r])
def F37.B4 (Post : Value → AHeap → Prop) (N2 : Nat → Int → Value → Int → Int → AHeap → Prop) (x2 : Nat) (x5 : Int) (x7 : Int) (x27 : Value) (x28 : Int) (x29 : Int) (H : AHeap) : Prop :=
  ld1 H x2 1 (fun v1 => idxK v1 x7 2 (fun b2 o3 => ldI .i64 H b2 o3 (fun v4 => (0 ≤ v4) ∧ (ld1 H x2 1 (fun v5 => idxK v5 x7 2 (fun b6 o7 => ldI .i64 H b6 (o7 + 1) (fun v8 => (0 ≤ v8) ∧ (F37.B3 Post N2 x2 (IntKind.u64.wrap (BitVec.ofInt 64 x5 ||| BitVec.ofInt 64 (IntKind.u64.wrap (BitVec.ofInt 64 (IntKind.u64.wrap (1 * 2 ^ (min (Int.toNat v4) 64))) ||| BitVec.ofInt 64 (IntKind.u64.wrap (1 * 2 ^ (min (Int.toNat v8) 64)))).toNat)).toNat) x27 x28 x29 H))))))))
def F37.B4.e (Post : Value → AHeap → Prop) (N2 : Nat → Int → Value → Int → Int → AHeap → Prop) : EP := fun env H => pif (Nat.beq (List.length env) 57) (asX (List.getD env 2 undef) (fun x2 => asI .u64 (List.getD env 5 undef) (fun x5 => asI .i64 (List.getD env 7 undef) (fun x7 => asI .i64 (List.getD env 28 undef) (fun x28 => asI .i64 (List.getD env 29 undef) (fun x29 => F37.B4 Post N2 x2 x5 x7 (List.getD env 27 undef) x28 x29 H)))))) False
theorem F37.q4 (u : Nat → Value) (Post : Value → AHeap → Prop) (N2 : Nat → Int → Value → Int → Int → AHeap → Prop) (x2 : Nat) (x5 : Int) (x7 : Int) (x27 : Value) (x28 : Int) (x29 : Int) (H : AHeap) : aOpsD Try.prog T0 F37.o4 (opsOf F37.o4 [(0, false), (1, false), (2, false), (3, false), (4, false), (5, false), (6, false), (7, false), (8, false), (9, false), (10, false), (11, false), (12, false), (13, false), (14, false), (15, false), (16, false), (17, false)]) (mkEnv (upd (upd (upd (upd (upd (upd u 2 (Value.pointer (some ⟨x2, 0, none⟩))) 5 (Value.int .u64 x5)) 7 (Value.int .i64 x7)) 27 x27) 28 (Value.int .i64 x28)) 29 (Value.int .i64 x29)) 57 0) H (F37.B3.e Post N2) = F37.B4 Post N2 x2 x5 x7 x27 x28 x29 H := by kernel_rfl
theorem F37.r4 (Post : Value → AHeap → Prop) (N2 : Nat → Int → Value → Int → Int → AHeap → Prop) : ∀ env H, F37.B4.e Post N2 env H → aOpsD Try.prog T0 F37.o4 (opsOf F37.o4 [(0, false), (1, false), (2, false), (3, false), (4, false), (5, false), (6, false), (7, false), (8, false), (9, false), (10, false), (11, false), (12, false), (13, false), (14, false), (15, false), (16, false), (17, false)]) env H (F37.B3.e Post N2) := by
  intro env H h
  obtain ⟨hl, h⟩ := lenE h
  obtain ⟨x2, e2, h⟩ := asX_elim h
  obtain ⟨x5, e5, h⟩ := asI_elim h
  obtain ⟨x7, e7, h⟩ := asI_elim h
  obtain ⟨x28, e28, h⟩ := asI_elim h
  obtain ⟨x29, e29, h⟩ := asI_elim h
  exact use_opsD hl (upd_step (upd_step (upd_step (upd_step (upd_step (upd_step rfl e2) e5) e7) rfl) e28) e29) ((F37.q4 _ Post N2 x2 x5 x7 (List.getD env 27 undef) x28 x29 H).mpr h)
noncomputable def F37.o5 : List Oper := opsIn (codeAt (bodyOf Try.f37) [.r, .r, .r, .l, .r, .l, .l, .r, .r, .l, .l, .l])
def F37.B5 (Post : Value → AHeap → Prop) (N2 : Nat → Int → Value → Int → Int → AHeap → Prop) (x2 : Nat) (x5 : Int) (x27 : Value) (x28 : Int) (x29 : Int) (H : AHeap) : Prop :=
  idxK x27 x29 1 (fun b1 o2 => ldI .i64 H b1 o2 (fun v3 => F37.B4 Post N2 x2 x5 v3 x27 x28 x29 H))
def F37.B5.e (Post : Value → AHeap → Prop) (N2 : Nat → Int → Value → Int → Int → AHeap → Prop) : EP := fun env H => pif (Nat.beq (List.length env) 57) (asX (List.getD env 2 undef) (fun x2 => asI .u64 (List.getD env 5 undef) (fun x5 => asI .i64 (List.getD env 28 undef) (fun x28 => asI .i64 (List.getD env 29 undef) (fun x29 => F37.B5 Post N2 x2 x5 (List.getD env 27 undef) x28 x29 H))))) False
theorem F37.q5 (u : Nat → Value) (Post : Value → AHeap → Prop) (N2 : Nat → Int → Value → Int → Int → AHeap → Prop) (x2 : Nat) (x5 : Int) (x27 : Value) (x28 : Int) (x29 : Int) (H : AHeap) : aOps Try.prog T0 F37.o5 F37.o5 (mkEnv (upd (upd (upd (upd (upd u 2 (Value.pointer (some ⟨x2, 0, none⟩))) 5 (Value.int .u64 x5)) 27 x27) 28 (Value.int .i64 x28)) 29 (Value.int .i64 x29)) 57 0) H (F37.B4.e Post N2) = F37.B5 Post N2 x2 x5 x27 x28 x29 H := by kernel_rfl
theorem F37.r5 (Post : Value → AHeap → Prop) (N2 : Nat → Int → Value → Int → Int → AHeap → Prop) : ∀ env H, F37.B5.e Post N2 env H → aOps Try.prog T0 F37.o5 F37.o5 env H (F37.B4.e Post N2) := by
  intro env H h
  obtain ⟨hl, h⟩ := lenE h
  obtain ⟨x2, e2, h⟩ := asX_elim h
  obtain ⟨x5, e5, h⟩ := asI_elim h
  obtain ⟨x28, e28, h⟩ := asI_elim h
  obtain ⟨x29, e29, h⟩ := asI_elim h
  exact use_ops hl (upd_step (upd_step (upd_step (upd_step (upd_step rfl e2) e5) rfl) e28) e29) ((F37.q5 _ Post N2 x2 x5 (List.getD env 27 undef) x28 x29 H).mpr h)
noncomputable def F37.o6 : List Oper := opsIn (codeAt (bodyOf Try.f37) [.r, .r, .r, .l, .r, .l, .l, .l])
def F37.B6 (Post : Value → AHeap → Prop) (N2 : Nat → Int → Value → Int → Int → AHeap → Prop) (x2 : Nat) (x5 : Int) (x27 : Value) (x28 : Int) (x29 : Int) (H : AHeap) : Prop :=
  pif (decide ((x29 : Int) < x28)) (F37.B5 Post N2 x2 x5 x27 x28 x29 H) (F37.B1 Post x2 x5 H)
def F37.B6.e (Post : Value → AHeap → Prop) (N2 : Nat → Int → Value → Int → Int → AHeap → Prop) : EP := fun env H => pif (Nat.beq (List.length env) 57) (asX (List.getD env 2 undef) (fun x2 => asI .u64 (List.getD env 5 undef) (fun x5 => asI .i64 (List.getD env 28 undef) (fun x28 => asI .i64 (List.getD env 29 undef) (fun x29 => F37.B6 Post N2 x2 x5 (List.getD env 27 undef) x28 x29 H))))) False
theorem F37.q6 (u : Nat → Value) (Post : Value → AHeap → Prop) (N2 : Nat → Int → Value → Int → Int → AHeap → Prop) (x2 : Nat) (x5 : Int) (x27 : Value) (x28 : Int) (x29 : Int) (H : AHeap) : aOps Try.prog T0 F37.o6 F37.o6 (mkEnv (upd (upd (upd (upd (upd u 2 (Value.pointer (some ⟨x2, 0, none⟩))) 5 (Value.int .u64 x5)) 27 x27) 28 (Value.int .i64 x28)) 29 (Value.int .i64 x29)) 57 0) H (fun env H => asB (aev env (.tmp 30)) (fun b => pif b ((F37.B5.e Post N2) env H) ((F37.B1.e Post) env H))) = F37.B6 Post N2 x2 x5 x27 x28 x29 H := by kernel_rfl
theorem F37.r6 (Post : Value → AHeap → Prop) (N2 : Nat → Int → Value → Int → Int → AHeap → Prop) : ∀ env H, F37.B6.e Post N2 env H → aOps Try.prog T0 F37.o6 F37.o6 env H (fun env H => asB (aev env (.tmp 30)) (fun b => pif b ((F37.B5.e Post N2) env H) ((F37.B1.e Post) env H))) := by
  intro env H h
  obtain ⟨hl, h⟩ := lenE h
  obtain ⟨x2, e2, h⟩ := asX_elim h
  obtain ⟨x5, e5, h⟩ := asI_elim h
  obtain ⟨x28, e28, h⟩ := asI_elim h
  obtain ⟨x29, e29, h⟩ := asI_elim h
  exact use_ops hl (upd_step (upd_step (upd_step (upd_step (upd_step rfl e2) e5) rfl) e28) e29) ((F37.q6 _ Post N2 x2 x5 (List.getD env 27 undef) x28 x29 H).mpr h)
def F37.L2 (Post : Value → AHeap → Prop) (x2 : Nat) (x5 : Int) (x27 : Value) (x28 : Int) (x29 : Int) (H : AHeap) : Prop :=
  ∃ (I : Nat → Int → Value → Int → Int → AHeap → Prop) (μ : Nat → Int → Value → Int → Int → AHeap → Nat), I x2 x5 x27 x28 x29 H ∧ ∀ x2' x5' x27' x28' x29' H', I x2' x5' x27' x28' x29' H' → F37.B6 Post (fun x2'' x5'' x27'' x28'' x29'' H'' => I x2'' x5'' x27'' x28'' x29'' H'' ∧ μ x2'' x5'' x27'' x28'' x29'' H'' < μ x2' x5' x27' x28' x29' H') x2' x5' x27' x28' x29' H'
def F37.L2.e (Post : Value → AHeap → Prop) : EP := fun env H => pif (Nat.beq (List.length env) 57) (asX (List.getD env 2 undef) (fun x2 => asI .u64 (List.getD env 5 undef) (fun x5 => asI .i64 (List.getD env 28 undef) (fun x28 => asI .i64 (List.getD env 29 undef) (fun x29 => F37.L2 Post x2 x5 (List.getD env 27 undef) x28 x29 H))))) False
theorem F37.l2 (Post : Value → AHeap → Prop) {c : Code} {K : EP} {X : Nat → EP}
    (hb : ∀ N2 : Nat → Int → Value → Int → Int → AHeap → Prop, ∀ env H, (F37.B6.e Post N2) env H → AW Try.prog T0 c env H (mkQ (F37.L2.ne N2) X (F37.ret Post))) :
    ∀ env H, F37.L2.e Post env H → AW Try.prog T0 (.loop c) env H (mkQ K X (F37.ret Post)) := by
  intro env H h
  obtain ⟨hl, h⟩ := lenE h
  obtain ⟨x2, e2, h⟩ := asX_elim h
  obtain ⟨x5, e5, h⟩ := asI_elim h
  obtain ⟨x28, e28, h⟩ := asI_elim h
  obtain ⟨x29, e29, h⟩ := asI_elim h
  obtain ⟨I, μ, h0, hI⟩ := h
  refine r_loop (fun n env H => pif (Nat.beq (List.length env) 57) (asX (List.getD env 2 undef) (fun x2 => asI .u64 (List.getD env 5 undef) (fun x5 => asI .i64 (List.getD env 28 undef) (fun x28 => asI .i64 (List.getD env 29 undef) (fun x29 => (I x2 x5 (List.getD env 27 undef) x28 x29 H) ∧ (μ x2 x5 (List.getD env 27 undef) x28 x29 H = n)))))) False) ?_ env H ⟨μ x2 x5 (List.getD env 27 undef) x28 x29 H, lenM hl (asX_mk' e2 (asI_mk' e5 (asI_mk' e28 (asI_mk' e29 (⟨h0, rfl⟩)))))⟩
  intro n env' H' h
  obtain ⟨hl', h⟩ := lenE h
  obtain ⟨x2', e2', h⟩ := asX_elim h
  obtain ⟨x5', e5', h⟩ := asI_elim h
  obtain ⟨x28', e28', h⟩ := asI_elim h
  obtain ⟨x29', e29', h⟩ := asI_elim h
  obtain ⟨hi, hm⟩ := h
  refine r_imp (hb (fun x2'' x5'' x27'' x28'' x29'' H'' => I x2'' x5'' x27'' x28'' x29'' H'' ∧ μ x2'' x5'' x27'' x28'' x29'' H'' < n)) ?_ env' H' ?_
  · intro env H h
    obtain ⟨hl'', h⟩ := lenE h
    obtain ⟨x2'', e2'', h⟩ := asX_elim h
    obtain ⟨x5'', e5'', h⟩ := asI_elim h
    obtain ⟨x28'', e28'', h⟩ := asI_elim h
    obtain ⟨x29'', e29'', h⟩ := asI_elim h
    obtain ⟨hi, hlt⟩ := h
    exact ⟨_, hlt, lenM hl'' (asX_mk' e2'' (asI_mk' e5'' (asI_mk' e28'' (asI_mk' e29'' (⟨hi, rfl⟩)))))⟩
  · have h := hI x2' x5' (List.getD env' 27 undef) x28' x29' H' hi
    rw [hm] at h
    exact lenM hl' (asX_mk' e2' (asI_mk' e5' (asI_mk' e28' (asI_mk' e29' (h)))))
noncomputable def F37.o7 : List Oper := opsIn (codeAt (bodyOf Try.f37) [.r, .r, .r, .l, .l])
def F37.B7 (Post : Value → AHeap → Prop) (x1 : Value) (x2 : Nat) (x5 : Int) (H : AHeap) : Prop :=
  lenK x1 (fun n1 => F37.L2 Post x2 x5 x1 (n1 : Int) 0 H)
def F37.B7.e (Post : Value → AHeap → Prop) : EP := fun env H => pif (Nat.beq (List.length env) 57) (asX (List.getD env 2 undef) (fun x2 => asI .u64 (List.getD env 5 undef) (fun x5 => F37.B7 Post (List.getD env 1 undef) x2 x5 H))) False
theorem F37.q7 (u : Nat → Value) (Post : Value → AHeap → Prop) (x1 : Value) (x2 : Nat) (x5 : Int) (H : AHeap) : aOps Try.prog T0 F37.o7 F37.o7 (mkEnv (upd (upd (upd u 1 x1) 2 (Value.pointer (some ⟨x2, 0, none⟩))) 5 (Value.int .u64 x5)) 57 0) H (F37.L2.e Post) = F37.B7 Post x1 x2 x5 H := by kernel_rfl
theorem F37.r7 (Post : Value → AHeap → Prop) : ∀ env H, F37.B7.e Post env H → aOps Try.prog T0 F37.o7 F37.o7 env H (F37.L2.e Post) := by
  intro env H h
  obtain ⟨hl, h⟩ := lenE h
  obtain ⟨x2, e2, h⟩ := asX_elim h
  obtain ⟨x5, e5, h⟩ := asI_elim h
  exact use_ops hl (upd_step (upd_step (upd_step rfl rfl) e2) e5) ((F37.q7 _ Post (List.getD env 1 undef) x2 x5 H).mpr h)
noncomputable def F37.o8 : List Oper := opsIn (codeAt (bodyOf Try.f37) [.r, .r, .l])
def F37.B8 (Post : Value → AHeap → Prop) (x1 : Value) (x2 : Nat) (H : AHeap) : Prop :=
  F37.B7 Post x1 x2 0 H
def F37.B8.e (Post : Value → AHeap → Prop) : EP := fun env H => pif (Nat.beq (List.length env) 57) (asX (List.getD env 2 undef) (fun x2 => F37.B8 Post (List.getD env 1 undef) x2 H)) False
theorem F37.q8 (u : Nat → Value) (Post : Value → AHeap → Prop) (x1 : Value) (x2 : Nat) (H : AHeap) : aOps Try.prog T0 F37.o8 F37.o8 (mkEnv (upd (upd u 1 x1) 2 (Value.pointer (some ⟨x2, 0, none⟩))) 57 0) H (F37.B7.e Post) = F37.B8 Post x1 x2 H := by kernel_rfl
theorem F37.r8 (Post : Value → AHeap → Prop) : ∀ env H, F37.B8.e Post env H → aOps Try.prog T0 F37.o8 F37.o8 env H (F37.B7.e Post) := by
  intro env H h
  obtain ⟨hl, h⟩ := lenE h
  obtain ⟨x2, e2, h⟩ := asX_elim h
  exact use_ops hl (upd_step (upd_step rfl rfl) e2) ((F37.q8 _ Post (List.getD env 1 undef) x2 H).mpr h)
noncomputable def F37.o9 : List Oper := opsIn (codeAt (bodyOf Try.f37) [.r, .l, .r, .l, .l])
def F37.B9 (Post : Value → AHeap → Prop) (H : AHeap) : Prop :=
  Post (Value.bool false) H
def F37.B9.e (Post : Value → AHeap → Prop) : EP := fun env H => pif (Nat.beq (List.length env) 57) (F37.B9 Post H) False
theorem F37.q9 (u : Nat → Value) (Post : Value → AHeap → Prop) (H : AHeap) : aOps Try.prog T0 F37.o9 F37.o9 (mkEnv u 57 0) H (F37.ret Post) = F37.B9 Post H := by kernel_rfl
theorem F37.r9 (Post : Value → AHeap → Prop) : ∀ env H, F37.B9.e Post env H → aOps Try.prog T0 F37.o9 F37.o9 env H (F37.ret Post) := by
  intro env H h
  obtain ⟨hl, h⟩ := lenE h
  exact use_ops hl rfl ((F37.q9 _ Post H).mpr h)
noncomputable def F37.o10 : List Oper := opsIn (codeAt (bodyOf Try.f37) [.r, .l, .l])
def F37.B10 (Post : Value → AHeap → Prop) (x1 : Value) (x2 : Nat) (H : AHeap) : Prop :=
  ldI .i64 H x2 0 (fun v1 => ld1 H x2 1 (fun v2 => AC Try.prog T0 35 [(Value.agg ⟨[(Value.int .i64 v1), v2]⟩)] H (fun v3 H4 => asB v3 (fun v5 => pif (!v5) (F37.B9 Post H4) (ld1 H4 x2 1 (fun v6 => AC Try.prog T0 26 [v6] H4 (fun v7 H8 => asI .i64 v7 (fun v9 => AC Try.prog T0 25 [x1, (Value.int .i64 v9)] H8 (fun v10 H11 => asB v10 (fun v12 => pif (!v12) (F37.B9 Post H11) (ldI .i64 H11 x2 0 (fun v13 => AC Try.prog T0 56 [x1] H11 (fun v14 H15 => asI .i64 v14 (fun v16 => (AHeap.le H11 H15) ∧ (pif ((v16 : Int) != (IntKind.i64.wrap (Int.tdiv v13 2))) (F37.B9 Post H15) (F37.B8 Post x1 x2 H15))))))))))))))))
def F37.B10.e (Post : Value → AHeap → Prop) : EP := fun env H => pif (Nat.beq (List.length env) 57) (asX (List.getD env 2 undef) (fun x2 => F37.B10 Post (List.getD env 1 undef) x2 H)) False
theorem F37.q10 (u : Nat → Value) (Post : Value → AHeap → Prop) (x1 : Value) (x2 : Nat) (H : AHeap) : aOpsD Try.prog T0 F37.o10 (opsOf F37.o10 [(0, false), (1, false), (2, false), (3, false), (4, false), (5, false), (6, false), (7, false), (8, false), (9, false), (10, false), (11, false), (12, false), (14, false), (15, false), (16, false), (13, true), (17, false), (18, false)]) (mkEnv (upd (upd u 1 x1) 2 (Value.pointer (some ⟨x2, 0, none⟩))) 57 0) H (fun env H => asB (aev env (.tmp 26)) (fun b => pif b ((F37.B9.e Post) env H) ((F37.B8.e Post) env H))) = F37.B10 Post x1 x2 H := by kernel_rfl
theorem F37.r10 (Post : Value → AHeap → Prop) : ∀ env H, F37.B10.e Post env H → aOpsD Try.prog T0 F37.o10 (opsOf F37.o10 [(0, false), (1, false), (2, false), (3, false), (4, false), (5, false), (6, false), (7, false), (8, false), (9, false), (10, false), (11, false), (12, false), (14, false), (15, false), (16, false), (13, true), (17, false), (18, false)]) env H (fun env H => asB (aev env (.tmp 26)) (fun b => pif b ((F37.B9.e Post) env H) ((F37.B8.e Post) env H))) := by
  intro env H h
  obtain ⟨hl, h⟩ := lenE h
  obtain ⟨x2, e2, h⟩ := asX_elim h
  exact use_opsD hl (upd_step (upd_step rfl rfl) e2) ((F37.q10 _ Post (List.getD env 1 undef) x2 H).mpr h)
noncomputable def F37.o11 : List Oper := opsIn (codeAt (bodyOf Try.f37) [.l])
def F37.B11 (Post : Value → AHeap → Prop) (x0a : Int) (x0b : Value) (x1 : Value) (H : AHeap) : Prop :=
  newK H [(Value.int .i64 x0a), x0b] 31 (fun b1 H2 => F37.B10 Post x1 b1 H2)
def F37.B11.e (Post : Value → AHeap → Prop) : EP := fun env H => pif (Nat.beq (List.length env) 57) (as_iv (List.getD env 0 undef) (fun x0a x0b => F37.B11 Post x0a x0b (List.getD env 1 undef) H)) False
theorem F37.q11 (u : Nat → Value) (Post : Value → AHeap → Prop) (x0a : Int) (x0b : Value) (x1 : Value) (H : AHeap) : aOps Try.prog T0 F37.o11 F37.o11 (mkEnv (upd (upd u 0 (Value.agg ⟨[(Value.int .i64 x0a), x0b]⟩)) 1 x1) 57 0) H (F37.B10.e Post) = F37.B11 Post x0a x0b x1 H := by kernel_rfl
theorem F37.r11 (Post : Value → AHeap → Prop) : ∀ env H, F37.B11.e Post env H → aOps Try.prog T0 F37.o11 F37.o11 env H (F37.B10.e Post) := by
  intro env H h
  obtain ⟨hl, h⟩ := lenE h
  obtain ⟨x0a, x0b, e0, h⟩ := as_iv_elim h
  exact use_ops hl (upd_step (upd_step rfl e0) rfl) ((F37.q11 _ Post x0a x0b (List.getD env 1 undef) H).mpr h)
noncomputable def F37.code : Code := (.seq (.region 0 ⟨F37.o11⟩ false) (.seq (.seq (.region 1 ⟨F37.o10⟩ true) (.cond (.tmp 26) (.seq (.region 2 ⟨F37.o9⟩ false) .ret) .skip)) (.seq (.region 3 ⟨F37.o8⟩ false) (.seq (.seq (.region 4 ⟨F37.o7⟩ false) (.block 0 (.loop (.seq (.region 5 ⟨F37.o6⟩ false) (.seq (.cond (.tmp 30) .skip (.exit 0)) (.seq (.block 1 (.seq (.region 6 ⟨F37.o5⟩ false) (.region 7 ⟨F37.o4⟩ true))) (.region 8 ⟨F37.o3⟩ false))))))) (.seq (.region 9 ⟨F37.o1⟩ false) .ret)))))
theorem F37.body : Try.f37.body = some F37.code := by kernel_rfl
theorem F37.main (Post : Value → AHeap → Prop) : ∀ env H, F37.B11.e Post env H → AW Try.prog T0 F37.code env H (mkQ (F37.ret Post) (fun _ _ _ => False) (F37.ret Post)) :=
  (r_seq (r_region T0_ok (F37.r11 Post)) (r_seq (r_seq (r_draw T0_ok mixed [(0, false), (1, false), (2, false), (3, false), (4, false), (5, false), (6, false), (7, false), (8, false), (9, false), (10, false), (11, false), (12, false), (14, false), (15, false), (16, false), (13, true), (17, false), (18, false)] (by kernel_rfl) (F37.r10 Post)) (r_cond rfl (r_seq (r_region T0_ok (F37.r9 Post)) r_ret) r_skip)) (r_seq (r_region T0_ok (F37.r8 Post)) (r_seq (r_seq (r_region T0_ok (F37.r7 Post)) (r_block (F37.l2 Post (fun N2 => (r_seq (r_region T0_ok (F37.r6 Post N2)) (r_seq (r_cond rfl r_skip (r_exit (fun _ _ h => h))) (r_seq (r_block (r_seq (r_region T0_ok (F37.r5 Post N2)) (r_draw T0_ok mixed [(0, false), (1, false), (2, false), (3, false), (4, false), (5, false), (6, false), (7, false), (8, false), (9, false), (10, false), (11, false), (12, false), (13, false), (14, false), (15, false), (16, false), (17, false)] (by kernel_rfl) (F37.r4 Post N2)))) (r_region T0_ok (F37.r3 Post N2))))))))) (r_seq (r_region T0_ok (F37.r1 Post)) r_ret)))))
theorem F37.ac (Post : Value → AHeap → Prop) (x0a : Int) (x0b : Value) (x1 : Value) (H : AHeap) (h : F37.B11 Post x0a x0b x1 H) : AC Try.prog T0 37 [(Value.agg ⟨[(Value.int .i64 x0a), x0b]⟩), x1] H Post :=
  r_fn T0_ok (c := F37.code) (n := 57) Try.func37 F37.body (by kernel_rfl) (F37.main Post) (lenM (by kernel_rfl) (as_iv_mk' (by kernel_rfl) (h)))

-- loop.example/g01329/spec.l03Set
noncomputable def F38.ret (Post : Value → AHeap → Prop) : EP := retE T0 36 Try.f38 Post
noncomputable def F38.o1 : List Oper := opsIn (codeAt (bodyOf Try.f38) [.r, .r, .l])
def F38.B1 (Post : Value → AHeap → Prop) (H : AHeap) : Prop :=
  Post (Value.int .i64 0) H
def F38.B1.e (Post : Value → AHeap → Prop) : EP := fun env H => pif (Nat.beq (List.length env) 36) (F38.B1 Post H) False
theorem F38.q1 (u : Nat → Value) (Post : Value → AHeap → Prop) (H : AHeap) : aOps Try.prog T0 F38.o1 F38.o1 (mkEnv u 36 0) H (F38.ret Post) = F38.B1 Post H := by kernel_rfl
theorem F38.r1 (Post : Value → AHeap → Prop) : ∀ env H, F38.B1.e Post env H → aOps Try.prog T0 F38.o1 F38.o1 env H (F38.ret Post) := by
  intro env H h
  obtain ⟨hl, h⟩ := lenE h
  exact use_ops hl rfl ((F38.q1 _ Post H).mpr h)
def F38.L2.ne (N : Value → Int → Int → AHeap → Prop) : EP := fun env H => pif (Nat.beq (List.length env) 36) (asI .i64 (List.getD env 1 undef) (fun x1 => asI .i64 (List.getD env 5 undef) (fun x5 => N (List.getD env 0 undef) x1 x5 H))) False
noncomputable def F38.o3 : List Oper := opsIn (codeAt (bodyOf Try.f38) [.r, .l, .r, .l, .l, .r, .r])
def F38.B3 (Post : Value → AHeap → Prop) (N2 : Value → Int → Int → AHeap → Prop) (x0 : Value) (x1 : Int) (x5 : Int) (H : AHeap) : Prop :=
  N2 x0 x1 (IntKind.i64.wrap (x5 + 1)) H
def F38.B3.e (Post : Value → AHeap → Prop) (N2 : Value → Int → Int → AHeap → Prop) : EP := fun env H => pif (Nat.beq (List.length env) 36) (asI .i64 (List.getD env 1 undef) (fun x1 => asI .i64 (List.getD env 5 undef) (fun x5 => F38.B3 Post N2 (List.getD env 0 undef) x1 x5 H))) False
theorem F38.q3 (u : Nat → Value) (Post : Value → AHeap → Prop) (N2 : Value → Int → Int → AHeap → Prop) (x0 : Value) (x1 : Int) (x5 : Int) (H : AHeap) : aOps Try.prog T0 F38.o3 F38.o3 (mkEnv (upd (upd (upd u 0 x0) 1 (Value.int .i64 x1)) 5 (Value.int .i64 x5)) 36 0) H (F38.L2.ne N2) = F38.B3 Post N2 x0 x1 x5 H := by kernel_rfl
theorem F38.r3 (Post : Value → AHeap → Prop) (N2 : Value → Int → Int → AHeap → Prop) : ∀ env H, F38.B3.e Post N2 env H → aOps Try.prog T0 F38.o3 F38.o3 env H (F38.L2.ne N2) := by
  intro env H h
  obtain ⟨hl, h⟩ := lenE h
  obtain ⟨x1, e1, h⟩ := asI_elim h
  obtain ⟨x5, e5, h⟩ := asI_elim h
  exact use_ops hl (upd_step (upd_step (upd_step rfl rfl) e1) e5) ((F38.q3 _ Post N2 (List.getD env 0 undef) x1 x5 H).mpr h)
noncomputable def F38.o4 : List Oper := opsIn (codeAt (bodyOf Try.f38) [.r, .l, .r, .l, .l, .r, .l, .l, .r, .l, .l])
def F38.B4 (Post : Value → AHeap → Prop) (N2 : Value → Int → Int → AHeap → Prop) (H : AHeap) : Prop :=
  Post (Value.int .i64 2) H
def F38.B4.e (Post : Value → AHeap → Prop) (N2 : Value → Int → Int → AHeap → Prop) : EP := fun env H => pif (Nat.beq (List.length env) 36) (F38.B4 Post N2 H) False
theorem F38.q4 (u : Nat → Value) (Post : Value → AHeap → Prop) (N2 : Value → Int → Int → AHeap → Prop) (H : AHeap) : aOps Try.prog T0 F38.o4 F38.o4 (mkEnv u 36 0) H (F38.ret Post) = F38.B4 Post N2 H := by kernel_rfl
theorem F38.r4 (Post : Value → AHeap → Prop) (N2 : Value → Int → Int → AHeap → Prop) : ∀ env H, F38.B4.e Post N2 env H → aOps Try.prog T0 F38.o4 F38.o4 env H (F38.ret Post) := by
  intro env H h
  obtain ⟨hl, h⟩ := lenE h
  exact use_ops hl rfl ((F38.q4 _ Post N2 H).mpr h)
noncomputable def F38.o5 : List Oper := opsIn (codeAt (bodyOf Try.f38) [.r, .l, .r, .l, .l, .r, .l, .l, .l])
def F38.B5 (Post : Value → AHeap → Prop) (N2 : Value → Int → Int → AHeap → Prop) (x0 : Value) (x1 : Int) (x5 : Int) (H : AHeap) : Prop :=
  idxK x0 x5 1 (fun b1 o2 => ldI .i64 H b1 o2 (fun v3 => AC Try.prog T0 46 [(Value.int .i64 v3), (Value.int .i64 0), (Value.int .i64 (IntKind.i64.wrap (x1 - 1)))] H (fun v4 H5 => asB v4 (fun v6 => pif (!v6) (F38.B4 Post N2 H5) (pif (decide ((x5 : Int) > 0)) (idxK x0 x5 1 (fun b7 o8 => ldI .i64 H5 b7 o8 (fun v9 => idxK x0 (IntKind.i64.wrap (x5 - 1)) 1 (fun b10 o11 => ldI .i64 H5 b10 o11 (fun v12 => pif (decide ((v9 : Int) ≤ v12)) (F38.B4 Post N2 H5) (F38.B3 Post N2 x0 x1 x5 H5)))))) (F38.B3 Post N2 x0 x1 x5 H5))))))
def F38.B5.e (Post : Value → AHeap → Prop) (N2 : Value → Int → Int → AHeap → Prop) : EP := fun env H => pif (Nat.beq (List.length env) 36) (asI .i64 (List.getD env 1 undef) (fun x1 => asI .i64 (List.getD env 5 undef) (fun x5 => F38.B5 Post N2 (List.getD env 0 undef) x1 x5 H))) False
theorem F38.q5 (u : Nat → Value) (Post : Value → AHeap → Prop) (N2 : Value → Int → Int → AHeap → Prop) (x0 : Value) (x1 : Int) (x5 : Int) (H : AHeap) : aOpsD Try.prog T0 F38.o5 (opsOf F38.o5 [(0, false), (1, false), (2, false), (3, false), (4, false), (5, false), (6, false), (7, false), (8, false), (9, false), (10, false), (11, false), (12, false), (13, false), (14, false), (15, false), (16, false), (17, false), (18, false), (19, false), (20, false), (21, false), (22, false), (23, false)]) (mkEnv (upd (upd (upd u 0 x0) 1 (Value.int .i64 x1)) 5 (Value.int .i64 x5)) 36 0) H (fun env H => asB (aev env (.tmp 35)) (fun b => pif b ((F38.B4.e Post N2) env H) ((F38.B3.e Post N2) env H))) = F38.B5 Post N2 x0 x1 x5 H := by kernel_rfl
theorem F38.r5 (Post : Value → AHeap → Prop) (N2 : Value → Int → Int → AHeap → Prop) : ∀ env H, F38.B5.e Post N2 env H → aOpsD Try.prog T0 F38.o5 (opsOf F38.o5 [(0, false), (1, false), (2, false), (3, false), (4, false), (5, false), (6, false), (7, false), (8, false), (9, false), (10, false), (11, false), (12, false), (13, false), (14, false), (15, false), (16, false), (17, false), (18, false), (19, false), (20, false), (21, false), (22, false), (23, false)]) env H (fun env H => asB (aev env (.tmp 35)) (fun b => pif b ((F38.B4.e Post N2) env H) ((F38.B3.e Post N2) env H))) := by
  intro env H h
  obtain ⟨hl, h⟩ := lenE h
  obtain ⟨x1, e1, h⟩ := asI_elim h
  obtain ⟨x5, e5, h⟩ := asI_elim h
  exact use_opsD hl (upd_step (upd_step (upd_step rfl rfl) e1) e5) ((F38.q5 _ Post N2 (List.getD env 0 undef) x1 x5 H).mpr h)
noncomputable def F38.o6 : List Oper := opsIn (codeAt (bodyOf Try.f38) [.r, .l, .r, .l, .l, .l, .l])
def F38.B6 (Post : Value → AHeap → Prop) (N2 : Value → Int → Int → AHeap → Prop) (x0 : Value) (x1 : Int) (x5 : Int) (H : AHeap) : Prop :=
  lenK x0 (fun n1 => pif (decide ((x5 : Int) < (n1 : Int))) (F38.B5 Post N2 x0 x1 x5 H) (F38.B1 Post H))
def F38.B6.e (Post : Value → AHeap → Prop) (N2 : Value → Int → Int → AHeap → Prop) : EP := fun env H => pif (Nat.beq (List.length env) 36) (asI .i64 (List.getD env 1 undef) (fun x1 => asI .i64 (List.getD env 5 undef) (fun x5 => F38.B6 Post N2 (List.getD env 0 undef) x1 x5 H))) False
theorem F38.q6 (u : Nat → Value) (Post : Value → AHeap → Prop) (N2 : Value → Int → Int → AHeap → Prop) (x0 : Value) (x1 : Int) (x5 : Int) (H : AHeap) : aOps Try.prog T0 F38.o6 F38.o6 (mkEnv (upd (upd (upd u 0 x0) 1 (Value.int .i64 x1)) 5 (Value.int .i64 x5)) 36 0) H (fun env H => asB (aev env (.tmp 9)) (fun b => pif b ((F38.B5.e Post N2) env H) ((F38.B1.e Post) env H))) = F38.B6 Post N2 x0 x1 x5 H := by kernel_rfl
theorem F38.r6 (Post : Value → AHeap → Prop) (N2 : Value → Int → Int → AHeap → Prop) : ∀ env H, F38.B6.e Post N2 env H → aOps Try.prog T0 F38.o6 F38.o6 env H (fun env H => asB (aev env (.tmp 9)) (fun b => pif b ((F38.B5.e Post N2) env H) ((F38.B1.e Post) env H))) := by
  intro env H h
  obtain ⟨hl, h⟩ := lenE h
  obtain ⟨x1, e1, h⟩ := asI_elim h
  obtain ⟨x5, e5, h⟩ := asI_elim h
  exact use_ops hl (upd_step (upd_step (upd_step rfl rfl) e1) e5) ((F38.q6 _ Post N2 (List.getD env 0 undef) x1 x5 H).mpr h)
def F38.L2 (Post : Value → AHeap → Prop) (x0 : Value) (x1 : Int) (x5 : Int) (H : AHeap) : Prop :=
  ∃ (I : Value → Int → Int → AHeap → Prop) (μ : Value → Int → Int → AHeap → Nat), I x0 x1 x5 H ∧ ∀ x0' x1' x5' H', I x0' x1' x5' H' → F38.B6 Post (fun x0'' x1'' x5'' H'' => I x0'' x1'' x5'' H'' ∧ μ x0'' x1'' x5'' H'' < μ x0' x1' x5' H') x0' x1' x5' H'
def F38.L2.e (Post : Value → AHeap → Prop) : EP := fun env H => pif (Nat.beq (List.length env) 36) (asI .i64 (List.getD env 1 undef) (fun x1 => asI .i64 (List.getD env 5 undef) (fun x5 => F38.L2 Post (List.getD env 0 undef) x1 x5 H))) False
theorem F38.l2 (Post : Value → AHeap → Prop) {c : Code} {K : EP} {X : Nat → EP}
    (hb : ∀ N2 : Value → Int → Int → AHeap → Prop, ∀ env H, (F38.B6.e Post N2) env H → AW Try.prog T0 c env H (mkQ (F38.L2.ne N2) X (F38.ret Post))) :
    ∀ env H, F38.L2.e Post env H → AW Try.prog T0 (.loop c) env H (mkQ K X (F38.ret Post)) := by
  intro env H h
  obtain ⟨hl, h⟩ := lenE h
  obtain ⟨x1, e1, h⟩ := asI_elim h
  obtain ⟨x5, e5, h⟩ := asI_elim h
  obtain ⟨I, μ, h0, hI⟩ := h
  refine r_loop (fun n env H => pif (Nat.beq (List.length env) 36) (asI .i64 (List.getD env 1 undef) (fun x1 => asI .i64 (List.getD env 5 undef) (fun x5 => (I (List.getD env 0 undef) x1 x5 H) ∧ (μ (List.getD env 0 undef) x1 x5 H = n)))) False) ?_ env H ⟨μ (List.getD env 0 undef) x1 x5 H, lenM hl (asI_mk' e1 (asI_mk' e5 (⟨h0, rfl⟩)))⟩
  intro n env' H' h
  obtain ⟨hl', h⟩ := lenE h
  obtain ⟨x1', e1', h⟩ := asI_elim h
  obtain ⟨x5', e5', h⟩ := asI_elim h
  obtain ⟨hi, hm⟩ := h
  refine r_imp (hb (fun x0'' x1'' x5'' H'' => I x0'' x1'' x5'' H'' ∧ μ x0'' x1'' x5'' H'' < n)) ?_ env' H' ?_
  · intro env H h
    obtain ⟨hl'', h⟩ := lenE h
    obtain ⟨x1'', e1'', h⟩ := asI_elim h
    obtain ⟨x5'', e5'', h⟩ := asI_elim h
    obtain ⟨hi, hlt⟩ := h
    exact ⟨_, hlt, lenM hl'' (asI_mk' e1'' (asI_mk' e5'' (⟨hi, rfl⟩)))⟩
  · have h := hI (List.getD env' 0 undef) x1' x5' H' hi
    rw [hm] at h
    exact lenM hl' (asI_mk' e1' (asI_mk' e5' (h)))
noncomputable def F38.o7 : List Oper := opsIn (codeAt (bodyOf Try.f38) [.r, .l, .l])
def F38.B7 (Post : Value → AHeap → Prop) (x0 : Value) (x1 : Int) (H : AHeap) : Prop :=
  F38.L2 Post x0 x1 0 H
def F38.B7.e (Post : Value → AHeap → Prop) : EP := fun env H => pif (Nat.beq (List.length env) 36) (asI .i64 (List.getD env 1 undef) (fun x1 => F38.B7 Post (List.getD env 0 undef) x1 H)) False
theorem F38.q7 (u : Nat → Value) (Post : Value → AHeap → Prop) (x0 : Value) (x1 : Int) (H : AHeap) : aOps Try.prog T0 F38.o7 F38.o7 (mkEnv (upd (upd u 0 x0) 1 (Value.int .i64 x1)) 36 0) H (F38.L2.e Post) = F38.B7 Post x0 x1 H := by kernel_rfl
theorem F38.r7 (Post : Value → AHeap → Prop) : ∀ env H, F38.B7.e Post env H → aOps Try.prog T0 F38.o7 F38.o7 env H (F38.L2.e Post) := by
  intro env H h
  obtain ⟨hl, h⟩ := lenE h
  obtain ⟨x1, e1, h⟩ := asI_elim h
  exact use_ops hl (upd_step (upd_step rfl rfl) e1) ((F38.q7 _ Post (List.getD env 0 undef) x1 H).mpr h)
noncomputable def F38.o8 : List Oper := opsIn (codeAt (bodyOf Try.f38) [.l])
def F38.B8 (Post : Value → AHeap → Prop) (x0 : Value) (x1 : Int) (H : AHeap) : Prop :=
  F38.B7 Post x0 x1 H
def F38.B8.e (Post : Value → AHeap → Prop) : EP := fun env H => pif (Nat.beq (List.length env) 36) (asI .i64 (List.getD env 1 undef) (fun x1 => F38.B8 Post (List.getD env 0 undef) x1 H)) False
theorem F38.q8 (u : Nat → Value) (Post : Value → AHeap → Prop) (x0 : Value) (x1 : Int) (H : AHeap) : aOps Try.prog T0 F38.o8 F38.o8 (mkEnv (upd (upd u 0 x0) 1 (Value.int .i64 x1)) 36 0) H (F38.B7.e Post) = F38.B8 Post x0 x1 H := by kernel_rfl
theorem F38.r8 (Post : Value → AHeap → Prop) : ∀ env H, F38.B8.e Post env H → aOps Try.prog T0 F38.o8 F38.o8 env H (F38.B7.e Post) := by
  intro env H h
  obtain ⟨hl, h⟩ := lenE h
  obtain ⟨x1, e1, h⟩ := asI_elim h
  exact use_ops hl (upd_step (upd_step rfl rfl) e1) ((F38.q8 _ Post (List.getD env 0 undef) x1 H).mpr h)
noncomputable def F38.code : Code := (.seq (.region 0 ⟨F38.o8⟩ false) (.seq (.seq (.region 1 ⟨F38.o7⟩ false) (.block 0 (.loop (.seq (.seq (.region 2 ⟨F38.o6⟩ false) (.cond (.tmp 9) .skip (.exit 0))) (.seq (.block 1 (.seq (.region 4 ⟨F38.o5⟩ true) (.cond (.tmp 35) (.seq (.region 5 ⟨F38.o4⟩ false) .ret) .skip))) (.region 3 ⟨F38.o3⟩ false)))))) (.seq (.region 6 ⟨F38.o1⟩ false) .ret)))
theorem F38.body : Try.f38.body = some F38.code := by kernel_rfl
theorem F38.main (Post : Value → AHeap → Prop) : ∀ env H, F38.B8.e Post env H → AW Try.prog T0 F38.code env H (mkQ (F38.ret Post) (fun _ _ _ => False) (F38.ret Post)) :=
  (r_seq (r_region T0_ok (F38.r8 Post)) (r_seq (r_seq (r_region T0_ok (F38.r7 Post)) (r_block (F38.l2 Post (fun N2 => (r_seq (r_seq (r_region T0_ok (F38.r6 Post N2)) (r_cond rfl r_skip (r_exit (fun _ _ h => h)))) (r_seq (r_block (r_seq (r_draw T0_ok mixed [(0, false), (1, false), (2, false), (3, false), (4, false), (5, false), (6, false), (7, false), (8, false), (9, false), (10, false), (11, false), (12, false), (13, false), (14, false), (15, false), (16, false), (17, false), (18, false), (19, false), (20, false), (21, false), (22, false), (23, false)] (by kernel_rfl) (F38.r5 Post N2)) (r_cond rfl (r_seq (r_region T0_ok (F38.r4 Post N2)) r_ret) r_skip))) (r_region T0_ok (F38.r3 Post N2)))))))) (r_seq (r_region T0_ok (F38.r1 Post)) r_ret)))
theorem F38.ac (Post : Value → AHeap → Prop) (x0 : Value) (x1 : Int) (H : AHeap) (h : F38.B8 Post x0 x1 H) : AC Try.prog T0 38 [x0, (Value.int .i64 x1)] H Post :=
  r_fn T0_ok (c := F38.code) (n := 36) Try.func38 F38.body (by kernel_rfl) (F38.main Post) (lenM (by kernel_rfl) (asI_mk' (by kernel_rfl) (h)))

-- loop.example/g01329/laws.toEdge
noncomputable def F39.ret (Post : Value → AHeap → Prop) : EP := retE T0 15 Try.f39 Post
noncomputable def F39.o1 : List Oper := opsIn (codeAt (bodyOf Try.f39) [.r, .r, .r, .l])
def F39.B1 (Post : Value → AHeap → Prop) (x2 : Nat) (x3 : Nat) (H : AHeap) : Prop :=
  ldI .i64 H x3 0 (fun v1 => ldI .i64 H x3 1 (fun v2 => stK H x2 0 [(Value.int .i64 v1), (Value.int .i64 v2)] (fun H3 => ldI .i64 H3 x2 0 (fun v4 => ldI .i64 H3 x2 1 (fun v5 => Post (Value.agg ⟨[(Value.int .i64 v4), (Value.int .i64 v5)]⟩) H3)))))
def F39.B1.e (Post : Value → AHeap → Prop) : EP := fun env H => pif (Nat.beq (List.length env) 15) (asX (List.getD env 2 undef) (fun x2 => asX (List.getD env 3 undef) (fun x3 => F39.B1 Post x2 x3 H))) False
theorem F39.q1 (u : Nat → Value) (Post : Value → AHeap → Prop) (x2 : Nat) (x3 : Nat) (H : AHeap) : aOps Try.prog T0 F39.o1 F39.o1 (mkEnv (upd (upd u 2 (Value.pointer (some ⟨x2, 0, none⟩))) 3 (Value.pointer (some ⟨x3, 0, none⟩))) 15 0) H (F39.ret Post) = F39.B1 Post x2 x3 H := by kernel_rfl
theorem F39.r1 (Post : Value → AHeap → Prop) : ∀ env H, F39.B1.e Post env H → aOps Try.prog T0 F39.o1 F39.o1 env H (F39.ret Post) := by
  intro env H h
  obtain ⟨hl, h⟩ := lenE h
  obtain ⟨x2, e2, h⟩ := asX_elim h
  obtain ⟨x3, e3, h⟩ := asX_elim h
  exact use_ops hl (upd_step (upd_step rfl e2) e3) ((F39.q1 _ Post x2 x3 H).mpr h)
def F39.L2.ne (N : Nat → Nat → Nat → Int → AHeap → Prop) : EP := fun env H => pif (Nat.beq (List.length env) 15) (asX (List.getD env 1 undef) (fun x1 => asX (List.getD env 2 undef) (fun x2 => asX (List.getD env 3 undef) (fun x3 => asI .i64 (List.getD env 4 undef) (fun x4 => N x1 x2 x3 x4 H))))) False
noncomputable def F39.o3 : List Oper := opsIn (codeAt (bodyOf Try.f39) [.r, .r, .l, .r, .l, .l, .r, .r])
def F39.B3 (Post : Value → AHeap → Prop) (N2 : Nat → Nat → Nat → Int → AHeap → Prop) (x1 : Nat) (x2 : Nat) (x3 : Nat) (x4 : Int) (H : AHeap) : Prop :=
  N2 x1 x2 x3 (IntKind.i64.wrap (x4 + 1)) H
def F39.B3.e (Post : Value → AHeap → Prop) (N2 : Nat → Nat → Nat → Int → AHeap → Prop) : EP := fun env H => pif (Nat.beq (List.length env) 15) (asX (List.getD env 1 undef) (fun x1 => asX (List.getD env 2 undef) (fun x2 => asX (List.getD env 3 undef) (fun x3 => asI .i64 (List.getD env 4 undef) (fun x4 => F39.B3 Post N2 x1 x2 x3 x4 H))))) False
theorem F39.q3 (u : Nat → Value) (Post : Value → AHeap → Prop) (N2 : Nat → Nat → Nat → Int → AHeap → Prop) (x1 : Nat) (x2 : Nat) (x3 : Nat) (x4 : Int) (H : AHeap) : aOps Try.prog T0 F39.o3 F39.o3 (mkEnv (upd (upd (upd (upd u 1 (Value.pointer (some ⟨x1, 0, none⟩))) 2 (Value.pointer (some ⟨x2, 0, none⟩))) 3 (Value.pointer (some ⟨x3, 0, none⟩))) 4 (Value.int .i64 x4)) 15 0) H (F39.L2.ne N2) = F39.B3 Post N2 x1 x2 x3 x4 H := by kernel_rfl
theorem F39.r3 (Post : Value → AHeap → Prop) (N2 : Nat → Nat → Nat → Int → AHeap → Prop) : ∀ env H, F39.B3.e Post N2 env H → aOps Try.prog T0 F39.o3 F39.o3 env H (F39.L2.ne N2) := by
  intro env H h
  obtain ⟨hl, h⟩ := lenE h
  obtain ⟨x1, e1, h⟩ := asX_elim h
  obtain ⟨x2, e2, h⟩ := asX_elim h
  obtain ⟨x3, e3, h⟩ := asX_elim h
  obtain ⟨x4, e4, h⟩ := asI_elim h
  exact use_ops hl (upd_step (upd_step (upd_step (upd_step rfl e1) e2) e3) e4) ((F39.q3 _ Post N2 x1 x2 x3 x4 H).mpr h)
noncomputable def F39.o4 : List Oper := opsIn (codeAt (bodyOf Try.f39) [.r, .r, .l, .r, .l, .l, .r, .l, .l])
def F39.B4 (Post : Value → AHeap → Prop) (N2 : Nat → Nat → Nat → Int → AHeap → Prop) (x1 : Nat) (x2 : Nat) (x3 : Nat) (x4 : Int) (H : AHeap) : Prop :=
  bndK x4 2 (ldI .i64 H x1 (0 + Int.toNat x4 * 1) (fun v1 => bndK x4 2 (stK H x3 (0 + Int.toNat x4 * 1) [(Value.int .i64 v1)] (fun H2 => F39.B3 Post N2 x1 x2 x3 x4 H2))))
def F39.B4.e (Post : Value → AHeap → Prop) (N2 : Nat → Nat → Nat → Int → AHeap → Prop) : EP := fun env H => pif (Nat.beq (List.length env) 15) (asX (List.getD env 1 undef) (fun x1 => asX (List.getD env 2 undef) (fun x2 => asX (List.getD env 3 undef) (fun x3 => asI .i64 (List.getD env 4 undef) (fun x4 => F39.B4 Post N2 x1 x2 x3 x4 H))))) False
theorem F39.q4 (u : Nat → Value) (Post : Value → AHeap → Prop) (N2 : Nat → Nat → Nat → Int → AHeap → Prop) (x1 : Nat) (x2 : Nat) (x3 : Nat) (x4 : Int) (H : AHeap) : aOps Try.prog T0 F39.o4 F39.o4 (mkEnv (upd (upd (upd (upd u 1 (Value.pointer (some ⟨x1, 0, none⟩))) 2 (Value.pointer (some ⟨x2, 0, none⟩))) 3 (Value.pointer (some ⟨x3, 0, none⟩))) 4 (Value.int .i64 x4)) 15 0) H (F39.B3.e Post N2) = F39.B4 Post N2 x1 x2 x3 x4 H := by kernel_rfl
theorem F39.r4 (Post : Value → AHeap → Prop) (N2 : Nat → Nat → Nat → Int → AHeap → Prop) : ∀ env H, F39.B4.e Post N2 env H → aOps Try.prog T0 F39.o4 F39.o4 env H (F39.B3.e Post N2) := by
  intro env H h
  obtain ⟨hl, h⟩ := lenE h
  obtain ⟨x1, e1, h⟩ := asX_elim h
  obtain ⟨x2, e2, h⟩ := asX_elim h
  obtain ⟨x3, e3, h⟩ := asX_elim h
  obtain ⟨x4, e4, h⟩ := asI_elim h
  exact use_ops hl (upd_step (upd_step (upd_step (upd_step rfl e1) e2) e3) e4) ((F39.q4 _ Post N2 x1 x2 x3 x4 H).mpr h)
noncomputable def F39.o5 : List Oper := opsIn (codeAt (bodyOf Try.f39) [.r, .r, .l, .r, .l, .l, .l, .l])
def F39.B5 (Post : Value → AHeap → Prop) (N2 : Nat → Nat → Nat → Int → AHeap → Prop) (x1 : Nat) (x2 : Nat) (x3 : Nat) (x4 : Int) (H : AHeap) : Prop :=
  pif (decide ((x4 : Int) < 2)) (F39.B4 Post N2 x1 x2 x3 x4 H) (F39.B1 Post x2 x3 H)
def F39.B5.e (Post : Value → AHeap → Prop) (N2 : Nat → Nat → Nat → Int → AHeap → Prop) : EP := fun env H => pif (Nat.beq (List.length env) 15) (asX (List.getD env 1 undef) (fun x1 => asX (List.getD env 2 undef) (fun x2 => asX (List.getD env 3 undef) (fun x3 => asI .i64 (List.getD env 4 undef) (fun x4 => F39.B5 Post N2 x1 x2 x3 x4 H))))) False
theorem F39.q5 (u : Nat → Value) (Post : Value → AHeap → Prop) (N2 : Nat → Nat → Nat → Int → AHeap → Prop) (x1 : Nat) (x2 : Nat) (x3 : Nat) (x4 : Int) (H : AHeap) : aOps Try.prog T0 F39.o5 F39.o5 (mkEnv (upd (upd (upd (upd u 1 (Value.pointer (some ⟨x1, 0, none⟩))) 2 (Value.pointer (some ⟨x2, 0, none⟩))) 3 (Value.pointer (some ⟨x3, 0, none⟩))) 4 (Value.int .i64 x4)) 15 0) H (fun env H => asB (aev env (.tmp 6)) (fun b => pif b ((F39.B4.e Post N2) env H) ((F39.B1.e Post) env H))) = F39.B5 Post N2 x1 x2 x3 x4 H := by kernel_rfl
theorem F39.r5 (Post : Value → AHeap → Prop) (N2 : Nat → Nat → Nat → Int → AHeap → Prop) : ∀ env H, F39.B5.e Post N2 env H → aOps Try.prog T0 F39.o5 F39.o5 env H (fun env H => asB (aev env (.tmp 6)) (fun b => pif b ((F39.B4.e Post N2) env H) ((F39.B1.e Post) env H))) := by
  intro env H h
  obtain ⟨hl, h⟩ := lenE h
  obtain ⟨x1, e1, h⟩ := asX_elim h
  obtain ⟨x2, e2, h⟩ := asX_elim h
  obtain ⟨x3, e3, h⟩ := asX_elim h
  obtain ⟨x4, e4, h⟩ := asI_elim h
  exact use_ops hl (upd_step (upd_step (upd_step (upd_step rfl e1) e2) e3) e4) ((F39.q5 _ Post N2 x1 x2 x3 x4 H).mpr h)
def F39.L2 (Post : Value → AHeap → Prop) (x1 : Nat) (x2 : Nat) (x3 : Nat) (x4 : Int) (H : AHeap) : Prop :=
  ∃ (I : Nat → Nat → Nat → Int → AHeap → Prop) (μ : Nat → Nat → Nat → Int → AHeap → Nat), I x1 x2 x3 x4 H ∧ ∀ x1' x2' x3' x4' H', I x1' x2' x3' x4' H' → F39.B5 Post (fun x1'' x2'' x3'' x4'' H'' => I x1'' x2'' x3'' x4'' H'' ∧ μ x1'' x2'' x3'' x4'' H'' < μ x1' x2' x3' x4' H') x1' x2' x3' x4' H'
def F39.L2.e (Post : Value → AHeap → Prop) : EP := fun env H => pif (Nat.beq (List.length env) 15) (asX (List.getD env 1 undef) (fun x1 => asX (List.getD env 2 undef) (fun x2 => asX (List.getD env 3 undef) (fun x3 => asI .i64 (List.getD env 4 undef) (fun x4 => F39.L2 Post x1 x2 x3 x4 H))))) False
theorem F39.l2 (Post : Value → AHeap → Prop) {c : Code} {K : EP} {X : Nat → EP}
    (hb : ∀ N2 : Nat → Nat → Nat → Int → AHeap → Prop, ∀ env H, (F39.B5.e Post N2) env H → AW Try.prog T0 c env H (mkQ (F39.L2.ne N2) X (F39.ret Post))) :
    ∀ env H, F39.L2.e Post env H → AW Try.prog T0 (.loop c) env H (mkQ K X (F39.ret Post)) := by
  intro env H h
  obtain ⟨hl, h⟩ := lenE h
  obtain ⟨x1, e1, h⟩ := asX_elim h
  obtain ⟨x2, e2, h⟩ := asX_elim h
  obtain ⟨x3, e3, h⟩ := asX_elim h
  obtain ⟨x4, e4, h⟩ := asI_elim h
  obtain ⟨I, μ, h0, hI⟩ := h
  refine r_loop (fun n env H => pif (Nat.beq (List.length env) 15) (asX (List.getD env 1 undef) (fun x1 => asX (List.getD env 2 undef) (fun x2 => asX (List.getD env 3 undef) (fun x3 => asI .i64 (List.getD env 4 undef) (fun x4 => (I x1 x2 x3 x4 H) ∧ (μ x1 x2 x3 x4 H = n)))))) False) ?_ env H ⟨μ x1 x2 x3 x4 H, lenM hl (asX_mk' e1 (asX_mk' e2 (asX_mk' e3 (asI_mk' e4 (⟨h0, rfl⟩)))))⟩
  intro n env' H' h
  obtain ⟨hl', h⟩ := lenE h
  obtain ⟨x1', e1', h⟩ := asX_elim h
  obtain ⟨x2', e2', h⟩ := asX_elim h
  obtain ⟨x3', e3', h⟩ := asX_elim h
  obtain ⟨x4', e4', h⟩ := asI_elim h
  obtain ⟨hi, hm⟩ := h
  refine r_imp (hb (fun x1'' x2'' x3'' x4'' H'' => I x1'' x2'' x3'' x4'' H'' ∧ μ x1'' x2'' x3'' x4'' H'' < n)) ?_ env' H' ?_
  · intro env H h
    obtain ⟨hl'', h⟩ := lenE h
    obtain ⟨x1'', e1'', h⟩ := asX_elim h
    obtain ⟨x2'', e2'', h⟩ := asX_elim h
    obtain ⟨x3'', e3'', h⟩ := asX_elim h
    obtain ⟨x4'', e4'', h⟩ := asI_elim h
    obtain ⟨hi, hlt⟩ := h
    exact ⟨_, hlt, lenM hl'' (asX_mk' e1'' (asX_mk' e2'' (asX_mk' e3'' (asI_mk' e4'' (⟨hi, rfl⟩)))))⟩
  · have h := hI x1' x2' x3' x4' H' hi
    rw [hm] at h
    exact lenM hl' (asX_mk' e1' (asX_mk' e2' (asX_mk' e3' (asI_mk' e4' (h)))))
noncomputable def F39.o6 : List Oper := opsIn (codeAt (bodyOf Try.f39) [.r, .r, .l, .l])
def F39.B6 (Post : Value → AHeap → Prop) (x1 : Nat) (x2 : Nat) (x3 : Nat) (H : AHeap) : Prop :=
  F39.L2 Post x1 x2 x3 0 H
def F39.B6.e (Post : Value → AHeap → Prop) : EP := fun env H => pif (Nat.beq (List.length env) 15) (asX (List.getD env 1 undef) (fun x1 => asX (List.getD env 2 undef) (fun x2 => asX (List.getD env 3 undef) (fun x3 => F39.B6 Post x1 x2 x3 H)))) False
theorem F39.q6 (u : Nat → Value) (Post : Value → AHeap → Prop) (x1 : Nat) (x2 : Nat) (x3 : Nat) (H : AHeap) : aOps Try.prog T0 F39.o6 F39.o6 (mkEnv (upd (upd (upd u 1 (Value.pointer (some ⟨x1, 0, none⟩))) 2 (Value.pointer (some ⟨x2, 0, none⟩))) 3 (Value.pointer (some ⟨x3, 0, none⟩))) 15 0) H (F39.L2.e Post) = F39.B6 Post x1 x2 x3 H := by kernel_rfl
theorem F39.r6 (Post : Value → AHeap → Prop) : ∀ env H, F39.B6.e Post env H → aOps Try.prog T0 F39.o6 F39.o6 env H (F39.L2.e Post) := by
  intro env H h
  obtain ⟨hl, h⟩ := lenE h
  obtain ⟨x1, e1, h⟩ := asX_elim h
  obtain ⟨x2, e2, h⟩ := asX_elim h
  obtain ⟨x3, e3, h⟩ := asX_elim h
  exact use_ops hl (upd_step (upd_step (upd_step rfl e1) e2) e3) ((F39.q6 _ Post x1 x2 x3 H).mpr h)
noncomputable def F39.o7 : List Oper := opsIn (codeAt (bodyOf Try.f39) [.r, .l])
def F39.B7 (Post : Value → AHeap → Prop) (x1 : Nat) (x2 : Nat) (H : AHeap) : Prop :=
  newK H [(Value.int .i64 0), (Value.int .i64 0)] 55 (fun b1 H2 => F39.B6 Post x1 x2 b1 H2)
def F39.B7.e (Post : Value → AHeap → Prop) : EP := fun env H => pif (Nat.beq (List.length env) 15) (asX (List.getD env 1 undef) (fun x1 => asX (List.getD env 2 undef) (fun x2 => F39.B7 Post x1 x2 H))) False
theorem F39.q7 (u : Nat → Value) (Post : Value → AHeap → Prop) (x1 : Nat) (x2 : Nat) (H : AHeap) : aOps Try.prog T0 F39.o7 F39.o7 (mkEnv (upd (upd u 1 (Value.pointer (some ⟨x1, 0, none⟩))) 2 (Value.pointer (some ⟨x2, 0, none⟩))) 15 0) H (F39.B6.e Post) = F39.B7 Post x1 x2 H := by kernel_rfl
theorem F39.r7 (Post : Value → AHeap → Prop) : ∀ env H, F39.B7.e Post env H → aOps Try.prog T0 F39.o7 F39.o7 env H (F39.B6.e Post) := by
  intro env H h
  obtain ⟨hl, h⟩ := lenE h
  obtain ⟨x1, e1, h⟩ := asX_elim h
  obtain ⟨x2, e2, h⟩ := asX_elim h
  exact use_ops hl (upd_step (upd_step rfl e1) e2) ((F39.q7 _ Post x1 x2 H).mpr h)
noncomputable def F39.o8 : List Oper := opsIn (codeAt (bodyOf Try.f39) [.l])
def F39.B8 (Post : Value → AHeap → Prop) (x0a : Int) (x0b : Int) (H : AHeap) : Prop :=
  newK H [(Value.int .i64 x0a), (Value.int .i64 x0b)] 54 (fun b1 H2 => newK H2 [(Value.int .i64 0), (Value.int .i64 0)] 55 (fun b3 H4 => F39.B7 Post b1 b3 H4))
def F39.B8.e (Post : Value → AHeap → Prop) : EP := fun env H => pif (Nat.beq (List.length env) 15) (as_ii (List.getD env 0 undef) (fun x0a x0b => F39.B8 Post x0a x0b H)) False
theorem F39.q8 (u : Nat → Value) (Post : Value → AHeap → Prop) (x0a : Int) (x0b : Int) (H : AHeap) : aOps Try.prog T0 F39.o8 F39.o8 (mkEnv (upd u 0 (Value.agg ⟨[(Value.int .i64 x0a), (Value.int .i64 x0b)]⟩)) 15 0) H (F39.B7.e Post) = F39.B8 Post x0a x0b H := by kernel_rfl
theorem F39.r8 (Post : Value → AHeap → Prop) : ∀ env H, F39.B8.e Post env H → aOps Try.prog T0 F39.o8 F39.o8 env H (F39.B7.e Post) := by
  intro env H h
  obtain ⟨hl, h⟩ := lenE h
  obtain ⟨x0a, x0b, e0, h⟩ := as_ii_elim h
  exact use_ops hl (upd_step rfl e0) ((F39.q8 _ Post x0a x0b H).mpr h)
noncomputable def F39.code : Code := (.seq (.region 0 ⟨F39.o8⟩ false) (.seq (.region 1 ⟨F39.o7⟩ false) (.seq (.seq (.region 2 ⟨F39.o6⟩ false) (.block 0 (.loop (.seq (.seq (.region 3 ⟨F39.o5⟩ false) (.cond (.tmp 6) .skip (.exit 0))) (.seq (.block 1 (.region 5 ⟨F39.o4⟩ false)) (.region 4 ⟨F39.o3⟩ false)))))) (.seq (.region 6 ⟨F39.o1⟩ false) .ret))))
theorem F39.body : Try.f39.body = some F39.code := by kernel_rfl
theorem F39.main (Post : Value → AHeap → Prop) : ∀ env H, F39.B8.e Post env H → AW Try.prog T0 F39.code env H (mkQ (F39.ret Post) (fun _ _ _ => False) (F39.ret Post)) :=
  (r_seq (r_region T0_ok (F39.r8 Post)) (r_seq (r_region T0_ok (F39.r7 Post)) (r_seq (r_seq (r_region T0_ok (F39.r6 Post)) (r_block (F39.l2 Post (fun N2 => (r_seq (r_seq (r_region T0_ok (F39.r5 Post N2)) (r_cond rfl r_skip (r_exit (fun _ _ h => h)))) (r_seq (r_block (r_region T0_ok (F39.r4 Post N2))) (r_region T0_ok (F39.r3 Post N2)))))))) (r_seq (r_region T0_ok (F39.r1 Post)) r_ret))))
theorem F39.ac (Post : Value → AHeap → Prop) (x0a : Int) (x0b : Int) (H : AHeap) (h : F39.B8 Post x0a x0b H) : AC Try.prog T0 39 [(Value.agg ⟨[(Value.int .i64 x0a), (Value.int .i64 x0b)]⟩)] H Post :=
  r_fn T0_ok (c := F39.code) (n := 15) Try.func39 F39.body (by kernel_rfl) (F39.main Post) (lenM (by kernel_rfl) (as_ii_mk' (by kernel_rfl) (h)))

-- loop.example/g01329/impl.within
noncomputable def F40.ret (Post : Value → AHeap → Prop) : EP := retE T0 15 Try.f40 Post
noncomputable def F40.o1 : List Oper := opsIn (codeAt (bodyOf Try.f40) [.r, .l])
def F40.B1 (Post : Value → AHeap → Prop) (x0 : Int) (x1 : Int) (x2 : Int) (H : AHeap) : Prop :=
  pif (decide ((x1 : Int) ≤ x0)) (Post (Value.bool (decide ((x0 : Int) ≤ x2))) H) (Post (Value.bool false) H)
def F40.B1.e (Post : Value → AHeap → Prop) : EP := fun env H => pif (Nat.beq (List.length env) 15) (asI .i64 (List.getD env 0 undef) (fun x0 => asI .i64 (List.getD env 1 undef) (fun x1 => asI .i64 (List.getD env 2 undef) (fun x2 => F40.B1 Post x0 x1 x2 H)))) False
theorem F40.q1 (u : Nat → Value) (Post : Value → AHeap → Prop) (x0 : Int) (x1 : Int) (x2 : Int) (H : AHeap) : aOps Try.prog T0 F40.o1 F40.o1 (mkEnv (upd (upd (upd u 0 (Value.int .i64 x0)) 1 (Value.int .i64 x1)) 2 (Value.int .i64 x2)) 15 0) H (F40.ret Post) = F40.B1 Post x0 x1 x2 H := by kernel_rfl
theorem F40.r1 (Post : Value → AHeap → Prop) : ∀ env H, F40.B1.e Post env H → aOps Try.prog T0 F40.o1 F40.o1 env H (F40.ret Post) := by
  intro env H h
  obtain ⟨hl, h⟩ := lenE h
  obtain ⟨x0, e0, h⟩ := asI_elim h
  obtain ⟨x1, e1, h⟩ := asI_elim h
  obtain ⟨x2, e2, h⟩ := asI_elim h
  exact use_ops hl (upd_step (upd_step (upd_step rfl e0) e1) e2) ((F40.q1 _ Post x0 x1 x2 H).mpr h)
noncomputable def F40.o2 : List Oper := opsIn (codeAt (bodyOf Try.f40) [.l])
def F40.B2 (Post : Value → AHeap → Prop) (x0 : Int) (x1 : Int) (x2 : Int) (H : AHeap) : Prop :=
  F40.B1 Post x0 x1 x2 H
def F40.B2.e (Post : Value → AHeap → Prop) : EP := fun env H => pif (Nat.beq (List.length env) 15) (asI .i64 (List.getD env 0 undef) (fun x0 => asI .i64 (List.getD env 1 undef) (fun x1 => asI .i64 (List.getD env 2 undef) (fun x2 => F40.B2 Post x0 x1 x2 H)))) False
theorem F40.q2 (u : Nat → Value) (Post : Value → AHeap → Prop) (x0 : Int) (x1 : Int) (x2 : Int) (H : AHeap) : aOps Try.prog T0 F40.o2 F40.o2 (mkEnv (upd (upd (upd u 0 (Value.int .i64 x0)) 1 (Value.int .i64 x1)) 2 (Value.int .i64 x2)) 15 0) H (F40.B1.e Post) = F40.B2 Post x0 x1 x2 H := by kernel_rfl
theorem F40.r2 (Post : Value → AHeap → Prop) : ∀ env H, F40.B2.e Post env H → aOps Try.prog T0 F40.o2 F40.o2 env H (F40.B1.e Post) := by
  intro env H h
  obtain ⟨hl, h⟩ := lenE h
  obtain ⟨x0, e0, h⟩ := asI_elim h
  obtain ⟨x1, e1, h⟩ := asI_elim h
  obtain ⟨x2, e2, h⟩ := asI_elim h
  exact use_ops hl (upd_step (upd_step (upd_step rfl e0) e1) e2) ((F40.q2 _ Post x0 x1 x2 H).mpr h)
noncomputable def F40.code : Code := (.seq (.region 0 ⟨F40.o2⟩ false) (.seq (.region 1 ⟨F40.o1⟩ false) .ret))
theorem F40.body : Try.f40.body = some F40.code := by kernel_rfl
theorem F40.main (Post : Value → AHeap → Prop) : ∀ env H, F40.B2.e Post env H → AW Try.prog T0 F40.code env H (mkQ (F40.ret Post) (fun _ _ _ => False) (F40.ret Post)) :=
  (r_seq (r_region T0_ok (F40.r2 Post)) (r_seq (r_region T0_ok (F40.r1 Post)) r_ret))
theorem F40.ac (Post : Value → AHeap → Prop) (x0 : Int) (x1 : Int) (x2 : Int) (H : AHeap) (h : F40.B2 Post x0 x1 x2 H) : AC Try.prog T0 40 [(Value.int .i64 x0), (Value.int .i64 x1), (Value.int .i64 x2)] H Post :=
  r_fn T0_ok (c := F40.code) (n := 15) Try.func40 F40.body (by kernel_rfl) (F40.main Post) (lenM (by kernel_rfl) (asI_mk' (by kernel_rfl) (asI_mk' (by kernel_rfl) (asI_mk' (by kernel_rfl) (h)))))

-- (loop.example/g01329/impl.set).has
noncomputable def F41.ret (Post : Value → AHeap → Prop) : EP := retE T0 10 Try.f41 Post
noncomputable def F41.o1 : List Oper := opsIn (codeAt (bodyOf Try.f41) [.r, .l])
def F41.B1 (Post : Value → AHeap → Prop) (x0 : Int) (x1 : Int) (H : AHeap) : Prop :=
  (0 ≤ x1) ∧ (Post (Value.bool ((IntKind.u64.wrap (BitVec.ofInt 64 (Int.fdiv x0 (2 ^ (min (Int.toNat x1) 64))) &&& BitVec.ofInt 64 1).toNat : Int) == 1)) H)
def F41.B1.e (Post : Value → AHeap → Prop) : EP := fun env H => pif (Nat.beq (List.length env) 10) (asI .u64 (List.getD env 0 undef) (fun x0 => asI .i64 (List.getD env 1 undef) (fun x1 => F41.B1 Post x0 x1 H))) False
theorem F41.q1 (u : Nat → Value) (Post : Value → AHeap → Prop) (x0 : Int) (x1 : Int) (H : AHeap) : aOps Try.prog T0 F41.o1 F41.o1 (mkEnv (upd (upd u 0 (Value.int .u64 x0)) 1 (Value.int .i64 x1)) 10 0) H (F41.ret Post) = F41.B1 Post x0 x1 H := by kernel_rfl
theorem F41.r1 (Post : Value → AHeap → Prop) : ∀ env H, F41.B1.e Post env H → aOps Try.prog T0 F41.o1 F41.o1 env H (F41.ret Post) := by
  intro env H h
  obtain ⟨hl, h⟩ := lenE h
  obtain ⟨x0, e0, h⟩ := asI_elim h
  obtain ⟨x1, e1, h⟩ := asI_elim h
  exact use_ops hl (upd_step (upd_step rfl e0) e1) ((F41.q1 _ Post x0 x1 H).mpr h)
noncomputable def F41.o2 : List Oper := opsIn (codeAt (bodyOf Try.f41) [.l])
def F41.B2 (Post : Value → AHeap → Prop) (x0 : Int) (x1 : Int) (H : AHeap) : Prop :=
  F41.B1 Post x0 x1 H
def F41.B2.e (Post : Value → AHeap → Prop) : EP := fun env H => pif (Nat.beq (List.length env) 10) (asI .u64 (List.getD env 0 undef) (fun x0 => asI .i64 (List.getD env 1 undef) (fun x1 => F41.B2 Post x0 x1 H))) False
theorem F41.q2 (u : Nat → Value) (Post : Value → AHeap → Prop) (x0 : Int) (x1 : Int) (H : AHeap) : aOps Try.prog T0 F41.o2 F41.o2 (mkEnv (upd (upd u 0 (Value.int .u64 x0)) 1 (Value.int .i64 x1)) 10 0) H (F41.B1.e Post) = F41.B2 Post x0 x1 H := by kernel_rfl
theorem F41.r2 (Post : Value → AHeap → Prop) : ∀ env H, F41.B2.e Post env H → aOps Try.prog T0 F41.o2 F41.o2 env H (F41.B1.e Post) := by
  intro env H h
  obtain ⟨hl, h⟩ := lenE h
  obtain ⟨x0, e0, h⟩ := asI_elim h
  obtain ⟨x1, e1, h⟩ := asI_elim h
  exact use_ops hl (upd_step (upd_step rfl e0) e1) ((F41.q2 _ Post x0 x1 H).mpr h)
noncomputable def F41.code : Code := (.seq (.region 0 ⟨F41.o2⟩ false) (.seq (.region 1 ⟨F41.o1⟩ false) .ret))
theorem F41.body : Try.f41.body = some F41.code := by kernel_rfl
theorem F41.main (Post : Value → AHeap → Prop) : ∀ env H, F41.B2.e Post env H → AW Try.prog T0 F41.code env H (mkQ (F41.ret Post) (fun _ _ _ => False) (F41.ret Post)) :=
  (r_seq (r_region T0_ok (F41.r2 Post)) (r_seq (r_region T0_ok (F41.r1 Post)) r_ret))
theorem F41.ac (Post : Value → AHeap → Prop) (x0 : Int) (x1 : Int) (H : AHeap) (h : F41.B2 Post x0 x1 H) : AC Try.prog T0 41 [(Value.int .u64 x0), (Value.int .i64 x1)] H Post :=
  r_fn T0_ok (c := F41.code) (n := 10) Try.func41 F41.body (by kernel_rfl) (F41.main Post) (lenM (by kernel_rfl) (asI_mk' (by kernel_rfl) (asI_mk' (by kernel_rfl) (h))))

-- loop.example/g01329/laws.eqEdge
noncomputable def F42.ret (Post : Value → AHeap → Prop) : EP := retE T0 17 Try.f42 Post
noncomputable def F42.o1 : List Oper := opsIn (codeAt (bodyOf Try.f42) [.r, .r, .l])
def F42.B1 (Post : Value → AHeap → Prop) (H : AHeap) : Prop :=
  Post (Value.bool true) H
def F42.B1.e (Post : Value → AHeap → Prop) : EP := fun env H => pif (Nat.beq (List.length env) 17) (F42.B1 Post H) False
theorem F42.q1 (u : Nat → Value) (Post : Value → AHeap → Prop) (H : AHeap) : aOps Try.prog T0 F42.o1 F42.o1 (mkEnv u 17 0) H (F42.ret Post) = F42.B1 Post H := by kernel_rfl
theorem F42.r1 (Post : Value → AHeap → Prop) : ∀ env H, F42.B1.e Post env H → aOps Try.prog T0 F42.o1 F42.o1 env H (F42.ret Post) := by
  intro env H h
  obtain ⟨hl, h⟩ := lenE h
  exact use_ops hl rfl ((F42.q1 _ Post H).mpr h)
def F42.L2.ne (N : Nat → Nat → Int → AHeap → Prop) : EP := fun env H => pif (Nat.beq (List.length env) 17) (asX (List.getD env 2 undef) (fun x2 => asX (List.getD env 3 undef) (fun x3 => asI .i64 (List.getD env 5 undef) (fun x5 => N x2 x3 x5 H)))) False
noncomputable def F42.o3 : List Oper := opsIn (codeAt (bodyOf Try.f42) [.r, .l, .r, .l, .l, .r, .r])
def F42.B3 (Post : Value → AHeap → Prop) (N2 : Nat → Nat → Int → AHeap → Prop) (x2 : Nat) (x3 : Nat) (x5 : Int) (H : AHeap) : Prop :=
  N2 x2 x3 (IntKind.i64.wrap (x5 + 1)) H
def F42.B3.e (Post : Value → AHeap → Prop) (N2 : Nat → Nat → Int → AHeap → Prop) : EP := fun env H => pif (Nat.beq (List.length env) 17) (asX (List.getD env 2 undef) (fun x2 => asX (List.getD env 3 undef) (fun x3 => asI .i64 (List.getD env 5 undef) (fun x5 => F42.B3 Post N2 x2 x3 x5 H)))) False
theorem F42.q3 (u : Nat → Value) (Post : Value → AHeap → Prop) (N2 : Nat → Nat → Int → AHeap → Prop) (x2 : Nat) (x3 : Nat) (x5 : Int) (H : AHeap) : aOps Try.prog T0 F42.o3 F42.o3 (mkEnv (upd (upd (upd u 2 (Value.pointer (some ⟨x2, 0, none⟩))) 3 (Value.pointer (some ⟨x3, 0, none⟩))) 5 (Value.int .i64 x5)) 17 0) H (F42.L2.ne N2) = F42.B3 Post N2 x2 x3 x5 H := by kernel_rfl
theorem F42.r3 (Post : Value → AHeap → Prop) (N2 : Nat → Nat → Int → AHeap → Prop) : ∀ env H, F42.B3.e Post N2 env H → aOps Try.prog T0 F42.o3 F42.o3 env H (F42.L2.ne N2) := by
  intro env H h
  obtain ⟨hl, h⟩ := lenE h
  obtain ⟨x2, e2, h⟩ := asX_elim h
  obtain ⟨x3, e3, h⟩ := asX_elim h
  obtain ⟨x5, e5, h⟩ := asI_elim h
  exact use_ops hl (upd_step (upd_step (upd_step rfl e2) e3) e5) ((F42.q3 _ Post N2 x2 x3 x5 H).mpr h)
noncomputable def F42.o4 : List Oper := opsIn (codeAt (bodyOf Try.f42) [.r, .l, .r, .l, .l, .r, .l, .l, .r, .l, .l])
def F42.B4 (Post : Value → AHeap → Prop) (N2 : Nat → Nat → Int → AHeap → Prop) (H : AHeap) : Prop :=
  Post (Value.bool false) H
def F42.B4.e (Post : Value → AHeap → Prop) (N2 : Nat → Nat → Int → AHeap → Prop) : EP := fun env H => pif (Nat.beq (List.length env) 17) (F42.B4 Post N2 H) False
theorem F42.q4 (u : Nat → Value) (Post : Value → AHeap → Prop) (N2 : Nat → Nat → Int → AHeap → Prop) (H : AHeap) : aOps Try.prog T0 F42.o4 F42.o4 (mkEnv u 17 0) H (F42.ret Post) = F42.B4 Post N2 H := by kernel_rfl
theorem F42.r4 (Post : Value → AHeap → Prop) (N2 : Nat → Nat → Int → AHeap → Prop) : ∀ env H, F42.B4.e Post N2 env H → aOps Try.prog T0 F42.o4 F42.o4 env H (F42.ret Post) := by
  intro env H h
  obtain ⟨hl, h⟩ := lenE h
  exact use_ops hl rfl ((F42.q4 _ Post N2 H).mpr h)
noncomputable def F42.o5 : List Oper := opsIn (codeAt (bodyOf Try.f42) [.r, .l, .r, .l, .l, .r, .l, .l, .l])
def F42.B5 (Post : Value → AHeap → Prop) (N2 : Nat → Nat → Int → AHeap → Prop) (x2 : Nat) (x3 : Nat) (x5 : Int) (H : AHeap) : Prop :=
  bndK x5 2 (ldI .i64 H x2 (0 + Int.toNat x5 * 1) (fun v1 => bndK x5 2 (ldI .i64 H x3 (0 + Int.toNat x5 * 1) (fun v2 => pif ((v1 : Int) != v2) (F42.B4 Post N2 H) (F42.B3 Post N2 x2 x3 x5 H)))))
def F42.B5.e (Post : Value → AHeap → Prop) (N2 : Nat → Nat → Int → AHeap → Prop) : EP := fun env H => pif (Nat.beq (List.length env) 17) (asX (List.getD env 2 undef) (fun x2 => asX (List.getD env 3 undef) (fun x3 => asI .i64 (List.getD env 5 undef) (fun x5 => F42.B5 Post N2 x2 x3 x5 H)))) False
theorem F42.q5 (u : Nat → Value) (Post : Value → AHeap → Prop) (N2 : Nat → Nat → Int → AHeap → Prop) (x2 : Nat) (x3 : Nat) (x5 : Int) (H : AHeap) : aOpsD Try.prog T0 F42.o5 (opsOf F42.o5 [(0, false), (1, false), (2, false), (3, false), (4, false), (5, false), (6, false)]) (mkEnv (upd (upd (upd u 2 (Value.pointer (some ⟨x2, 0, none⟩))) 3 (Value.pointer (some ⟨x3, 0, none⟩))) 5 (Value.int .i64 x5)) 17 0) H (fun env H => asB (aev env (.tmp 16)) (fun b => pif b ((F42.B4.e Post N2) env H) ((F42.B3.e Post N2) env H))) = F42.B5 Post N2 x2 x3 x5 H := by kernel_rfl
theorem F42.r5 (Post : Value → AHeap → Prop) (N2 : Nat → Nat → Int → AHeap → Prop) : ∀ env H, F42.B5.e Post N2 env H → aOpsD Try.prog T0 F42.o5 (opsOf F42.o5 [(0, false), (1, false), (2, false), (3, false), (4, false), (5, false), (6, false)]) env H (fun env H => asB (aev env (.tmp 16)) (fun b => pif b ((F42.B4.e Post N2) env H) ((F42.B3.e Post N2) env H))) := by
  intro env H h
  obtain ⟨hl, h⟩ := lenE h
  obtain ⟨x2, e2, h⟩ := asX_elim h
  obtain ⟨x3, e3, h⟩ := asX_elim h
  obtain ⟨x5, e5, h⟩ := asI_elim h
  exact use_opsD hl (upd_step (upd_step (upd_step rfl e2) e3) e5) ((F42.q5 _ Post N2 x2 x3 x5 H).mpr h)
noncomputable def F42.o6 : List Oper := opsIn (codeAt (bodyOf Try.f42) [.r, .l, .r, .l, .l, .l, .l])
def F42.B6 (Post : Value → AHeap → Prop) (N2 : Nat → Nat → Int → AHeap → Prop) (x2 : Nat) (x3 : Nat) (x5 : Int) (H : AHeap) : Prop :=
  pif (decide ((x5 : Int) < 2)) (F42.B5 Post N2 x2 x3 x5 H) (F42.B1 Post H)
def F42.B6.e (Post : Value → AHeap → Prop) (N2 : Nat → Nat → Int → AHeap → Prop) : EP := fun env H => pif (Nat.beq (List.length env) 17) (asX (List.getD env 2 undef) (fun x2 => asX (List.getD env 3 undef) (fun x3 => asI .i64 (List.getD env 5 undef) (fun x5 => F42.B6 Post N2 x2 x3 x5 H)))) False
theorem F42.q6 (u : Nat → Value) (Post : Value → AHeap → Prop) (N2 : Nat → Nat → Int → AHeap → Prop) (x2 : Nat) (x3 : Nat) (x5 : Int) (H : AHeap) : aOps Try.prog T0 F42.o6 F42.o6 (mkEnv (upd (upd (upd u 2 (Value.pointer (some ⟨x2, 0, none⟩))) 3 (Value.pointer (some ⟨x3, 0, none⟩))) 5 (Value.int .i64 x5)) 17 0) H (fun env H => asB (aev env (.tmp 7)) (fun b => pif b ((F42.B5.e Post N2) env H) ((F42.B1.e Post) env H))) = F42.B6 Post N2 x2 x3 x5 H := by kernel_rfl
theorem F42.r6 (Post : Value → AHeap → Prop) (N2 : Nat → Nat → Int → AHeap → Prop) : ∀ env H, F42.B6.e Post N2 env H → aOps Try.prog T0 F42.o6 F42.o6 env H (fun env H => asB (aev env (.tmp 7)) (fun b => pif b ((F42.B5.e Post N2) env H) ((F42.B1.e Post) env H))) := by
  intro env H h
  obtain ⟨hl, h⟩ := lenE h
  obtain ⟨x2, e2, h⟩ := asX_elim h
  obtain ⟨x3, e3, h⟩ := asX_elim h
  obtain ⟨x5, e5, h⟩ := asI_elim h
  exact use_ops hl (upd_step (upd_step (upd_step rfl e2) e3) e5) ((F42.q6 _ Post N2 x2 x3 x5 H).mpr h)
def F42.L2 (Post : Value → AHeap → Prop) (x2 : Nat) (x3 : Nat) (x5 : Int) (H : AHeap) : Prop :=
  ∃ (I : Nat → Nat → Int → AHeap → Prop) (μ : Nat → Nat → Int → AHeap → Nat), I x2 x3 x5 H ∧ ∀ x2' x3' x5' H', I x2' x3' x5' H' → F42.B6 Post (fun x2'' x3'' x5'' H'' => I x2'' x3'' x5'' H'' ∧ μ x2'' x3'' x5'' H'' < μ x2' x3' x5' H') x2' x3' x5' H'
def F42.L2.e (Post : Value → AHeap → Prop) : EP := fun env H => pif (Nat.beq (List.length env) 17) (asX (List.getD env 2 undef) (fun x2 => asX (List.getD env 3 undef) (fun x3 => asI .i64 (List.getD env 5 undef) (fun x5 => F42.L2 Post x2 x3 x5 H)))) False
theorem F42.l2 (Post : Value → AHeap → Prop) {c : Code} {K : EP} {X : Nat → EP}
    (hb : ∀ N2 : Nat → Nat → Int → AHeap → Prop, ∀ env H, (F42.B6.e Post N2) env H → AW Try.prog T0 c env H (mkQ (F42.L2.ne N2) X (F42.ret Post))) :
    ∀ env H, F42.L2.e Post env H → AW Try.prog T0 (.loop c) env H (mkQ K X (F42.ret Post)) := by
  intro env H h
  obtain ⟨hl, h⟩ := lenE h
  obtain ⟨x2, e2, h⟩ := asX_elim h
  obtain ⟨x3, e3, h⟩ := asX_elim h
  obtain ⟨x5, e5, h⟩ := asI_elim h
  obtain ⟨I, μ, h0, hI⟩ := h
  refine r_loop (fun n env H => pif (Nat.beq (List.length env) 17) (asX (List.getD env 2 undef) (fun x2 => asX (List.getD env 3 undef) (fun x3 => asI .i64 (List.getD env 5 undef) (fun x5 => (I x2 x3 x5 H) ∧ (μ x2 x3 x5 H = n))))) False) ?_ env H ⟨μ x2 x3 x5 H, lenM hl (asX_mk' e2 (asX_mk' e3 (asI_mk' e5 (⟨h0, rfl⟩))))⟩
  intro n env' H' h
  obtain ⟨hl', h⟩ := lenE h
  obtain ⟨x2', e2', h⟩ := asX_elim h
  obtain ⟨x3', e3', h⟩ := asX_elim h
  obtain ⟨x5', e5', h⟩ := asI_elim h
  obtain ⟨hi, hm⟩ := h
  refine r_imp (hb (fun x2'' x3'' x5'' H'' => I x2'' x3'' x5'' H'' ∧ μ x2'' x3'' x5'' H'' < n)) ?_ env' H' ?_
  · intro env H h
    obtain ⟨hl'', h⟩ := lenE h
    obtain ⟨x2'', e2'', h⟩ := asX_elim h
    obtain ⟨x3'', e3'', h⟩ := asX_elim h
    obtain ⟨x5'', e5'', h⟩ := asI_elim h
    obtain ⟨hi, hlt⟩ := h
    exact ⟨_, hlt, lenM hl'' (asX_mk' e2'' (asX_mk' e3'' (asI_mk' e5'' (⟨hi, rfl⟩))))⟩
  · have h := hI x2' x3' x5' H' hi
    rw [hm] at h
    exact lenM hl' (asX_mk' e2' (asX_mk' e3' (asI_mk' e5' (h))))
noncomputable def F42.o7 : List Oper := opsIn (codeAt (bodyOf Try.f42) [.r, .l, .l])
def F42.B7 (Post : Value → AHeap → Prop) (x2 : Nat) (x3 : Nat) (H : AHeap) : Prop :=
  F42.L2 Post x2 x3 0 H
def F42.B7.e (Post : Value → AHeap → Prop) : EP := fun env H => pif (Nat.beq (List.length env) 17) (asX (List.getD env 2 undef) (fun x2 => asX (List.getD env 3 undef) (fun x3 => F42.B7 Post x2 x3 H))) False
theorem F42.q7 (u : Nat → Value) (Post : Value → AHeap → Prop) (x2 : Nat) (x3 : Nat) (H : AHeap) : aOps Try.prog T0 F42.o7 F42.o7 (mkEnv (upd (upd u 2 (Value.pointer (some ⟨x2, 0, none⟩))) 3 (Value.pointer (some ⟨x3, 0, none⟩))) 17 0) H (F42.L2.e Post) = F42.B7 Post x2 x3 H := by kernel_rfl
theorem F42.r7 (Post : Value → AHeap → Prop) : ∀ env H, F42.B7.e Post env H → aOps Try.prog T0 F42.o7 F42.o7 env H (F42.L2.e Post) := by
  intro env H h
  obtain ⟨hl, h⟩ := lenE h
  obtain ⟨x2, e2, h⟩ := asX_elim h
  obtain ⟨x3, e3, h⟩ := asX_elim h
  exact use_ops hl (upd_step (upd_step rfl e2) e3) ((F42.q7 _ Post x2 x3 H).mpr h)
noncomputable def F42.o8 : List Oper := opsIn (codeAt (bodyOf Try.f42) [.l])
def F42.B8 (Post : Value → AHeap → Prop) (x0a : Int) (x0b : Int) (x1a : Int) (x1b : Int) (H : AHeap) : Prop :=
  newK H [(Value.int .i64 x0a), (Value.int .i64 x0b)] 55 (fun b1 H2 => newK H2 [(Value.int .i64 x1a), (Value.int .i64 x1b)] 55 (fun b3 H4 => F42.B7 Post b1 b3 H4))
def F42.B8.e (Post : Value → AHeap → Prop) : EP := fun env H => pif (Nat.beq (List.length env) 17) (as_ii (List.getD env 0 undef) (fun x0a x0b => as_ii (List.getD env 1 undef) (fun x1a x1b => F42.B8 Post x0a x0b x1a x1b H))) False
theorem F42.q8 (u : Nat → Value) (Post : Value → AHeap → Prop) (x0a : Int) (x0b : Int) (x1a : Int) (x1b : Int) (H : AHeap) : aOps Try.prog T0 F42.o8 F42.o8 (mkEnv (upd (upd u 0 (Value.agg ⟨[(Value.int .i64 x0a), (Value.int .i64 x0b)]⟩)) 1 (Value.agg ⟨[(Value.int .i64 x1a), (Value.int .i64 x1b)]⟩)) 17 0) H (F42.B7.e Post) = F42.B8 Post x0a x0b x1a x1b H := by kernel_rfl
theorem F42.r8 (Post : Value → AHeap → Prop) : ∀ env H, F42.B8.e Post env H → aOps Try.prog T0 F42.o8 F42.o8 env H (F42.B7.e Post) := by
  intro env H h
  obtain ⟨hl, h⟩ := lenE h
  obtain ⟨x0a, x0b, e0, h⟩ := as_ii_elim h
  obtain ⟨x1a, x1b, e1, h⟩ := as_ii_elim h
  exact use_ops hl (upd_step (upd_step rfl e0) e1) ((F42.q8 _ Post x0a x0b x1a x1b H).mpr h)
noncomputable def F42.code : Code := (.seq (.region 0 ⟨F42.o8⟩ false) (.seq (.seq (.region 1 ⟨F42.o7⟩ false) (.block 0 (.loop (.seq (.seq (.region 2 ⟨F42.o6⟩ false) (.cond (.tmp 7) .skip (.exit 0))) (.seq (.block 1 (.seq (.region 4 ⟨F42.o5⟩ true) (.cond (.tmp 16) (.seq (.region 5 ⟨F42.o4⟩ false) .ret) .skip))) (.region 3 ⟨F42.o3⟩ false)))))) (.seq (.region 6 ⟨F42.o1⟩ false) .ret)))
theorem F42.body : Try.f42.body = some F42.code := by kernel_rfl
theorem F42.main (Post : Value → AHeap → Prop) : ∀ env H, F42.B8.e Post env H → AW Try.prog T0 F42.code env H (mkQ (F42.ret Post) (fun _ _ _ => False) (F42.ret Post)) :=
  (r_seq (r_region T0_ok (F42.r8 Post)) (r_seq (r_seq (r_region T0_ok (F42.r7 Post)) (r_block (F42.l2 Post (fun N2 => (r_seq (r_seq (r_region T0_ok (F42.r6 Post N2)) (r_cond rfl r_skip (r_exit (fun _ _ h => h)))) (r_seq (r_block (r_seq (r_draw T0_ok mixed [(0, false), (1, false), (2, false), (3, false), (4, false), (5, false), (6, false)] (by kernel_rfl) (F42.r5 Post N2)) (r_cond rfl (r_seq (r_region T0_ok (F42.r4 Post N2)) r_ret) r_skip))) (r_region T0_ok (F42.r3 Post N2)))))))) (r_seq (r_region T0_ok (F42.r1 Post)) r_ret)))
theorem F42.ac (Post : Value → AHeap → Prop) (x0a : Int) (x0b : Int) (x1a : Int) (x1b : Int) (H : AHeap) (h : F42.B8 Post x0a x0b x1a x1b H) : AC Try.prog T0 42 [(Value.agg ⟨[(Value.int .i64 x0a), (Value.int .i64 x0b)]⟩), (Value.agg ⟨[(Value.int .i64 x1a), (Value.int .i64 x1b)]⟩)] H Post :=
  r_fn T0_ok (c := F42.code) (n := 17) Try.func42 F42.body (by kernel_rfl) (F42.main Post) (lenM (by kernel_rfl) (as_ii_mk' (by kernel_rfl) (as_ii_mk' (by kernel_rfl) (h))))

-- loop.example/g01329/spec.l01Ends
noncomputable def F43.ret (Post : Value → AHeap → Prop) : EP := retE T0 61 Try.f43 Post
noncomputable def F43.o1 : List Oper := opsIn (codeAt (bodyOf Try.f43) [.r, .r, .r, .l])
def F43.B1 (Post : Value → AHeap → Prop) (H : AHeap) : Prop :=
  Post (Value.int .i64 0) H
def F43.B1.e (Post : Value → AHeap → Prop) : EP := fun env H => pif (Nat.beq (List.length env) 61) (F43.B1 Post H) False
theorem F43.q1 (u : Nat → Value) (Post : Value → AHeap → Prop) (H : AHeap) : aOps Try.prog T0 F43.o1 F43.o1 (mkEnv u 61 0) H (F43.ret Post) = F43.B1 Post H := by kernel_rfl
theorem F43.r1 (Post : Value → AHeap → Prop) : ∀ env H, F43.B1.e Post env H → aOps Try.prog T0 F43.o1 F43.o1 env H (F43.ret Post) := by
  intro env H h
  obtain ⟨hl, h⟩ := lenE h
  exact use_ops hl rfl ((F43.q1 _ Post H).mpr h)
def F43.L2.ne (N : Int → Value → Int → AHeap → Prop) : EP := fun env H => pif (Nat.beq (List.length env) 61) (asI .i64 (List.getD env 0 undef) (fun x0 => asI .i64 (List.getD env 5 undef) (fun x5 => N x0 (List.getD env 1 undef) x5 H))) False
noncomputable def F43.o3 : List Oper := opsIn (codeAt (bodyOf Try.f43) [.r, .r, .l, .r, .l, .l, .r, .r])
def F43.B3 (Post : Value → AHeap → Prop) (N2 : Int → Value → Int → AHeap → Prop) (x0 : Int) (x1 : Value) (x5 : Int) (H : AHeap) : Prop :=
  N2 x0 x1 (IntKind.i64.wrap (x5 + 1)) H
def F43.B3.e (Post : Value → AHeap → Prop) (N2 : Int → Value → Int → AHeap → Prop) : EP := fun env H => pif (Nat.beq (List.length env) 61) (asI .i64 (List.getD env 0 undef) (fun x0 => asI .i64 (List.getD env 5 undef) (fun x5 => F43.B3 Post N2 x0 (List.getD env 1 undef) x5 H))) False
theorem F43.q3 (u : Nat → Value) (Post : Value → AHeap → Prop) (N2 : Int → Value → Int → AHeap → Prop) (x0 : Int) (x1 : Value) (x5 : Int) (H : AHeap) : aOps Try.prog T0 F43.o3 F43.o3 (mkEnv (upd (upd (upd u 0 (Value.int .i64 x0)) 1 x1) 5 (Value.int .i64 x5)) 61 0) H (F43.L2.ne N2) = F43.B3 Post N2 x0 x1 x5 H := by kernel_rfl
theorem F43.r3 (Post : Value → AHeap → Prop) (N2 : Int → Value → Int → AHeap → Prop) : ∀ env H, F43.B3.e Post N2 env H → aOps Try.prog T0 F43.o3 F43.o3 env H (F43.L2.ne N2) := by
  intro env H h
  obtain ⟨hl, h⟩ := lenE h
  obtain ⟨x0, e0, h⟩ := asI_elim h
  obtain ⟨x5, e5, h⟩ := asI_elim h
  exact use_ops hl (upd_step (upd_step (upd_step rfl e0) rfl) e5) ((F43.q3 _ Post N2 x0 (List.getD env 1 undef) x5 H).mpr h)
noncomputable def F43.o4 : List Oper := opsIn (codeAt (bodyOf Try.f43) [.r, .r, .l, .r, .l, .l, .r, .l, .l, .r, .l, .l])
def F43.B4 (Post : Value → AHeap → Prop) (N2 : Int → Value → Int → AHeap → Prop) (H : AHeap) : Prop :=
  Post (Value.int .i64 2) H
def F43.B4.e (Post : Value → AHeap → Prop) (N2 : Int → Value → Int → AHeap → Prop) : EP := fun env H => pif (Nat.beq (List.length env) 61) (F43.B4 Post N2 H) False
theorem F43.q4 (u : Nat → Value) (Post : Value → AHeap → Prop) (N2 : Int → Value → Int → AHeap → Prop) (H : AHeap) : aOps Try.prog T0 F43.o4 F43.o4 (mkEnv u 61 0) H (F43.ret Post) = F43.B4 Post N2 H := by kernel_rfl
theorem F43.r4 (Post : Value → AHeap → Prop) (N2 : Int → Value → Int → AHeap → Prop) : ∀ env H, F43.B4.e Post N2 env H → aOps Try.prog T0 F43.o4 F43.o4 env H (F43.ret Post) := by
  intro env H h
  obtain ⟨hl, h⟩ := lenE h
  exact use_ops hl rfl ((F43.q4 _ Post N2 H).mpr h)
noncomputable def F43.o5 : List Oper := opsIn (codeAt (bodyOf Try.f43) [.r, .r, .l, .r, .l, .l, .r, .l, .l, .l])
def F43.B5 (Post : Value → AHeap → Prop) (N2 : Int → Value → Int → AHeap → Prop) (x0 : Int) (x1 : Value) (x5 : Int) (H : AHeap) : Prop :=
  idxK x1 x5 2 (fun b1 o2 => ldI .i64 H b1 o2 (fun v3 => AC Try.prog T0 46 [(Value.int .i64 v3), (Value.int .i64 0), (Value.int .i64 (IntKind.i64.wrap (x0 - 1)))] H (fun v4 H5 => asB v4 (fun v6 => pif (!v6) (F43.B4 Post N2 H5) (idxK x1 x5 2 (fun b7 o8 => ldI .i64 H5 b7 (o8 + 1) (fun v9 => AC Try.prog T0 46 [(Value.int .i64 v9), (Value.int .i64 0), (Value.int .i64 (IntKind.i64.wrap (x0 - 1)))] H5 (fun v10 H11 => asB v10 (fun v12 => pif (!v12) (F43.B4 Post N2 H11) (idxK x1 x5 2 (fun b13 o14 => ldI .i64 H11 b13 o14 (fun v15 => idxK x1 x5 2 (fun b16 o17 => ldI .i64 H11 b16 (o17 + 1) (fun v18 => pif ((v15 : Int) == v18) (F43.B4 Post N2 H11) (F43.B3 Post N2 x0 x1 x5 H11)))))))))))))))
def F43.B5.e (Post : Value → AHeap → Prop) (N2 : Int → Value → Int → AHeap → Prop) : EP := fun env H => pif (Nat.beq (List.length env) 61) (asI .i64 (List.getD env 0 undef) (fun x0 => asI .i64 (List.getD env 5 undef) (fun x5 => F43.B5 Post N2 x0 (List.getD env 1 undef) x5 H))) False
theorem F43.q5 (u : Nat → Value) (Post : Value → AHeap → Prop) (N2 : Int → Value → Int → AHeap → Prop) (x0 : Int) (x1 : Value) (x5 : Int) (H : AHeap) : aOpsD Try.prog T0 F43.o5 (opsOf F43.o5 [(0, false), (1, false), (2, false), (3, false), (4, false), (5, false), (6, false), (7, false), (8, false), (9, false), (10, false), (11, false), (12, false), (13, false), (14, false), (15, false), (16, false), (17, false), (18, false), (19, false), (20, false), (21, false), (22, false), (23, false), (24, false), (25, false), (26, false), (27, false), (28, false), (29, false), (30, false), (31, false), (32, false)]) (mkEnv (upd (upd (upd u 0 (Value.int .i64 x0)) 1 x1) 5 (Value.int .i64 x5)) 61 0) H (fun env H => asB (aev env (.tmp 60)) (fun b => pif b ((F43.B4.e Post N2) env H) ((F43.B3.e Post N2) env H))) = F43.B5 Post N2 x0 x1 x5 H := by kernel_rfl
theorem F43.r5 (Post : Value → AHeap → Prop) (N2 : Int → Value → Int → AHeap → Prop) : ∀ env H, F43.B5.e Post N2 env H → aOpsD Try.prog T0 F43.o5 (opsOf F43.o5 [(0, false), (1, false), (2, false), (3, false), (4, false), (5, false), (6, false), (7, false), (8, false), (9, false), (10, false), (11, false), (12, false), (13, false), (14, false), (15, false), (16, false), (17, false), (18, false), (19, false), (20, false), (21, false), (22, false), (23, false), (24, false), (25, false), (26, false), (27, false), (28, false), (29, false), (30, false), (31, false), (32, false)]) env H (fun env H => asB (aev env (.tmp 60)) (fun b => pif b ((F43.B4.e Post N2) env H) ((F43.B3.e Post N2) env H))) := by
  intro env H h
  obtain ⟨hl, h⟩ := lenE h
  obtain ⟨x0, e0, h⟩ := asI_elim h
  obtain ⟨x5, e5, h⟩ := asI_elim h
  exact use_opsD hl (upd_step (upd_step (upd_step rfl e0) rfl) e5) ((F43.q5 _ Post N2 x0 (List.getD env 1 undef) x5 H).mpr h)
noncomputable def F43.o6 : List Oper := opsIn (codeAt (bodyOf Try.f43) [.r, .r, .l, .r, .l, .l, .l, .l])
def F43.B6 (Post : Value → AHeap → Prop) (N2 : Int → Value → Int → AHeap → Prop) (x0 : Int) (x1 : Value) (x5 : Int) (H : AHeap) : Prop :=
  lenK x1 (fun n1 => pif (decide ((x5 : Int) < (n1 : Int))) (F43.B5 Post N2 x0 x1 x5 H) (F43.B1 Post H))
def F43.B6.e (Post : Value → AHeap → Prop) (N2 : Int → Value → Int → AHeap → Prop) : EP := fun env H => pif (Nat.beq (List.length env) 61) (asI .i64 (List.getD env 0 undef) (fun x0 => asI .i64 (List.getD env 5 undef) (fun x5 => F43.B6 Post N2 x0 (List.getD env 1 undef) x5 H))) False
theorem F43.q6 (u : Nat → Value) (Post : Value → AHeap → Prop) (N2 : Int → Value → Int → AHeap → Prop) (x0 : Int) (x1 : Value) (x5 : Int) (H : AHeap) : aOps Try.prog T0 F43.o6 F43.o6 (mkEnv (upd (upd (upd u 0 (Value.int .i64 x0)) 1 x1) 5 (Value.int .i64 x5)) 61 0) H (fun env H => asB (aev env (.tmp 25)) (fun b => pif b ((F43.B5.e Post N2) env H) ((F43.B1.e Post) env H))) = F43.B6 Post N2 x0 x1 x5 H := by kernel_rfl
theorem F43.r6 (Post : Value → AHeap → Prop) (N2 : Int → Value → Int → AHeap → Prop) : ∀ env H, F43.B6.e Post N2 env H → aOps Try.prog T0 F43.o6 F43.o6 env H (fun env H => asB (aev env (.tmp 25)) (fun b => pif b ((F43.B5.e Post N2) env H) ((F43.B1.e Post) env H))) := by
  intro env H h
  obtain ⟨hl, h⟩ := lenE h
  obtain ⟨x0, e0, h⟩ := asI_elim h
  obtain ⟨x5, e5, h⟩ := asI_elim h
  exact use_ops hl (upd_step (upd_step (upd_step rfl e0) rfl) e5) ((F43.q6 _ Post N2 x0 (List.getD env 1 undef) x5 H).mpr h)
def F43.L2 (Post : Value → AHeap → Prop) (x0 : Int) (x1 : Value) (x5 : Int) (H : AHeap) : Prop :=
  ∃ (I : Int → Value → Int → AHeap → Prop) (μ : Int → Value → Int → AHeap → Nat), I x0 x1 x5 H ∧ ∀ x0' x1' x5' H', I x0' x1' x5' H' → F43.B6 Post (fun x0'' x1'' x5'' H'' => I x0'' x1'' x5'' H'' ∧ μ x0'' x1'' x5'' H'' < μ x0' x1' x5' H') x0' x1' x5' H'
def F43.L2.e (Post : Value → AHeap → Prop) : EP := fun env H => pif (Nat.beq (List.length env) 61) (asI .i64 (List.getD env 0 undef) (fun x0 => asI .i64 (List.getD env 5 undef) (fun x5 => F43.L2 Post x0 (List.getD env 1 undef) x5 H))) False
theorem F43.l2 (Post : Value → AHeap → Prop) {c : Code} {K : EP} {X : Nat → EP}
    (hb : ∀ N2 : Int → Value → Int → AHeap → Prop, ∀ env H, (F43.B6.e Post N2) env H → AW Try.prog T0 c env H (mkQ (F43.L2.ne N2) X (F43.ret Post))) :
    ∀ env H, F43.L2.e Post env H → AW Try.prog T0 (.loop c) env H (mkQ K X (F43.ret Post)) := by
  intro env H h
  obtain ⟨hl, h⟩ := lenE h
  obtain ⟨x0, e0, h⟩ := asI_elim h
  obtain ⟨x5, e5, h⟩ := asI_elim h
  obtain ⟨I, μ, h0, hI⟩ := h
  refine r_loop (fun n env H => pif (Nat.beq (List.length env) 61) (asI .i64 (List.getD env 0 undef) (fun x0 => asI .i64 (List.getD env 5 undef) (fun x5 => (I x0 (List.getD env 1 undef) x5 H) ∧ (μ x0 (List.getD env 1 undef) x5 H = n)))) False) ?_ env H ⟨μ x0 (List.getD env 1 undef) x5 H, lenM hl (asI_mk' e0 (asI_mk' e5 (⟨h0, rfl⟩)))⟩
  intro n env' H' h
  obtain ⟨hl', h⟩ := lenE h
  obtain ⟨x0', e0', h⟩ := asI_elim h
  obtain ⟨x5', e5', h⟩ := asI_elim h
  obtain ⟨hi, hm⟩ := h
  refine r_imp (hb (fun x0'' x1'' x5'' H'' => I x0'' x1'' x5'' H'' ∧ μ x0'' x1'' x5'' H'' < n)) ?_ env' H' ?_
  · intro env H h
    obtain ⟨hl'', h⟩ := lenE h
    obtain ⟨x0'', e0'', h⟩ := asI_elim h
    obtain ⟨x5'', e5'', h⟩ := asI_elim h
    obtain ⟨hi, hlt⟩ := h
    exact ⟨_, hlt, lenM hl'' (asI_mk' e0'' (asI_mk' e5'' (⟨hi, rfl⟩)))⟩
  · have h := hI x0' (List.getD env' 1 undef) x5' H' hi
    rw [hm] at h
    exact lenM hl' (asI_mk' e0' (asI_mk' e5' (h)))
noncomputable def F43.o7 : List Oper := opsIn (codeAt (bodyOf Try.f43) [.r, .r, .l, .l])
def F43.B7 (Post : Value → AHeap → Prop) (x0 : Int) (x1 : Value) (H : AHeap) : Prop :=
  F43.L2 Post x0 x1 0 H
def F43.B7.e (Post : Value → AHeap → Prop) : EP := fun env H => pif (Nat.beq (List.length env) 61) (asI .i64 (List.getD env 0 undef) (fun x0 => F43.B7 Post x0 (List.getD env 1 undef) H)) False
theorem F43.q7 (u : Nat → Value) (Post : Value → AHeap → Prop) (x0 : Int) (x1 : Value) (H : AHeap) : aOps Try.prog T0 F43.o7 F43.o7 (mkEnv (upd (upd u 0 (Value.int .i64 x0)) 1 x1) 61 0) H (F43.L2.e Post) = F43.B7 Post x0 x1 H := by kernel_rfl
theorem F43.r7 (Post : Value → AHeap → Prop) : ∀ env H, F43.B7.e Post env H → aOps Try.prog T0 F43.o7 F43.o7 env H (F43.L2.e Post) := by
  intro env H h
  obtain ⟨hl, h⟩ := lenE h
  obtain ⟨x0, e0, h⟩ := asI_elim h
  exact use_ops hl (upd_step (upd_step rfl e0) rfl) ((F43.q7 _ Post x0 (List.getD env 1 undef) H).mpr h)
noncomputable def F43.o8 : List Oper := opsIn (codeAt (bodyOf Try.f43) [.r, .l, .r, .l, .l])
def F43.B8 (Post : Value → AHeap → Prop) (H : AHeap) : Prop :=
  Post (Value.int .i64 2) H
def F43.B8.e (Post : Value → AHeap → Prop) : EP := fun env H => pif (Nat.beq (List.length env) 61) (F43.B8 Post H) False
theorem F43.q8 (u : Nat → Value) (Post : Value → AHeap → Prop) (H : AHeap) : aOps Try.prog T0 F43.o8 F43.o8 (mkEnv u 61 0) H (F43.ret Post) = F43.B8 Post H := by kernel_rfl
theorem F43.r8 (Post : Value → AHeap → Prop) : ∀ env H, F43.B8.e Post env H → aOps Try.prog T0 F43.o8 F43.o8 env H (F43.ret Post) := by
  intro env H h
  obtain ⟨hl, h⟩ := lenE h
  exact use_ops hl rfl ((F43.q8 _ Post H).mpr h)
noncomputable def F43.o9 : List Oper := opsIn (codeAt (bodyOf Try.f43) [.r, .l, .l])
def F43.B9 (Post : Value → AHeap → Prop) (x0 : Int) (x1 : Value) (H : AHeap) : Prop :=
  AC Try.prog T0 46 [(Value.int .i64 x0), (Value.int .i64 2), (Value.int .i64 20)] H (fun v1 H2 => asB v1 (fun v3 => pif (!v3) (F43.B8 Post H2) (pif ((Int.tmod x0 2 : Int) != 0) (F43.B8 Post H2) (lenK x1 (fun n4 => pif (((n4 : Int) : Int) != (IntKind.i64.wrap (Int.tdiv (IntKind.i64.wrap (3 * x0)) 2))) (F43.B8 Post H2) (F43.B7 Post x0 x1 H2))))))
def F43.B9.e (Post : Value → AHeap → Prop) : EP := fun env H => pif (Nat.beq (List.length env) 61) (asI .i64 (List.getD env 0 undef) (fun x0 => F43.B9 Post x0 (List.getD env 1 undef) H)) False
theorem F43.q9 (u : Nat → Value) (Post : Value → AHeap → Prop) (x0 : Int) (x1 : Value) (H : AHeap) : aOps Try.prog T0 F43.o9 F43.o9 (mkEnv (upd (upd u 0 (Value.int .i64 x0)) 1 x1) 61 0) H (fun env H => asB (aev env (.tmp 21)) (fun b => pif b ((F43.B8.e Post) env H) ((F43.B7.e Post) env H))) = F43.B9 Post x0 x1 H := by kernel_rfl
theorem F43.r9 (Post : Value → AHeap → Prop) : ∀ env H, F43.B9.e Post env H → aOps Try.prog T0 F43.o9 F43.o9 env H (fun env H => asB (aev env (.tmp 21)) (fun b => pif b ((F43.B8.e Post) env H) ((F43.B7.e Post) env H))) := by
  intro env H h
  obtain ⟨hl, h⟩ := lenE h
  obtain ⟨x0, e0, h⟩ := asI_elim h
  exact use_ops hl (upd_step (upd_step rfl e0) rfl) ((F43.q9 _ Post x0 (List.getD env 1 undef) H).mpr h)
noncomputable def F43.o10 : List Oper := opsIn (codeAt (bodyOf Try.f43) [.l])
def F43.B10 (Post : Value → AHeap → Prop) (x0 : Int) (x1 : Value) (H : AHeap) : Prop :=
  F43.B9 Post x0 x1 H
def F43.B10.e (Post : Value → AHeap → Prop) : EP := fun env H => pif (Nat.beq (List.length env) 61) (asI .i64 (List.getD env 0 undef) (fun x0 => F43.B10 Post x0 (List.getD env 1 undef) H)) False
theorem F43.q10 (u : Nat → Value) (Post : Value → AHeap → Prop) (x0 : Int) (x1 : Value) (H : AHeap) : aOps Try.prog T0 F43.o10 F43.o10 (mkEnv (upd (upd u 0 (Value.int .i64 x0)) 1 x1) 61 0) H (F43.B9.e Post) = F43.B10 Post x0 x1 H := by kernel_rfl
theorem F43.r10 (Post : Value → AHeap → Prop) : ∀ env H, F43.B10.e Post env H → aOps Try.prog T0 F43.o10 F43.o10 env H (F43.B9.e Post) := by
  intro env H h
  obtain ⟨hl, h⟩ := lenE h
  obtain ⟨x0, e0, h⟩ := asI_elim h
  exact use_ops hl (upd_step (upd_step rfl e0) rfl) ((F43.q10 _ Post x0 (List.getD env 1 undef) H).mpr h)
noncomputable def F43.code : Code := (.seq (.region 0 ⟨F43.o10⟩ false) (.seq (.seq (.region 1 ⟨F43.o9⟩ false) (.cond (.tmp 21) (.seq (.region 2 ⟨F43.o8⟩ false) .ret) .skip)) (.seq (.seq (.region 3 ⟨F43.o7⟩ false) (.block 0 (.loop (.seq (.seq (.region 4 ⟨F43.o6⟩ false) (.cond (.tmp 25) .skip (.exit 0))) (.seq (.block 1 (.seq (.region 6 ⟨F43.o5⟩ true) (.cond (.tmp 60) (.seq (.region 7 ⟨F43.o4⟩ false) .ret) .skip))) (.region 5 ⟨F43.o3⟩ false)))))) (.seq (.region 8 ⟨F43.o1⟩ false) .ret))))
theorem F43.body : Try.f43.body = some F43.code := by kernel_rfl
theorem F43.main (Post : Value → AHeap → Prop) : ∀ env H, F43.B10.e Post env H → AW Try.prog T0 F43.code env H (mkQ (F43.ret Post) (fun _ _ _ => False) (F43.ret Post)) :=
  (r_seq (r_region T0_ok (F43.r10 Post)) (r_seq (r_seq (r_region T0_ok (F43.r9 Post)) (r_cond rfl (r_seq (r_region T0_ok (F43.r8 Post)) r_ret) r_skip)) (r_seq (r_seq (r_region T0_ok (F43.r7 Post)) (r_block (F43.l2 Post (fun N2 => (r_seq (r_seq (r_region T0_ok (F43.r6 Post N2)) (r_cond rfl r_skip (r_exit (fun _ _ h => h)))) (r_seq (r_block (r_seq (r_draw T0_ok mixed [(0, false), (1, false), (2, false), (3, false), (4, false), (5, false), (6, false), (7, false), (8, false), (9, false), (10, false), (11, false), (12, false), (13, false), (14, false), (15, false), (16, false), (17, false), (18, false), (19, false), (20, false), (21, false), (22, false), (23, false), (24, false), (25, false), (26, false), (27, false), (28, false), (29, false), (30, false), (31, false), (32, false)] (by kernel_rfl) (F43.r5 Post N2)) (r_cond rfl (r_seq (r_region T0_ok (F43.r4 Post N2)) r_ret) r_skip))) (r_region T0_ok (F43.r3 Post N2)))))))) (r_seq (r_region T0_ok (F43.r1 Post)) r_ret))))
theorem F43.ac (Post : Value → AHeap → Prop) (x0 : Int) (x1 : Value) (H : AHeap) (h : F43.B10 Post x0 x1 H) : AC Try.prog T0 43 [(Value.int .i64 x0), x1] H Post :=
  r_fn T0_ok (c := F43.code) (n := 61) Try.func43 F43.body (by kernel_rfl) (F43.main Post) (lenM (by kernel_rfl) (asI_mk' (by kernel_rfl) (h)))

-- loop.example/g01329/spec.l01Cubic
noncomputable def F44.ret (Post : Value → AHeap → Prop) : EP := retE T0 46 Try.f44 Post
noncomputable def F44.o1 : List Oper := opsIn (codeAt (bodyOf Try.f44) [.r, .r, .r, .r, .l])
def F44.B1 (Post : Value → AHeap → Prop) (H : AHeap) : Prop :=
  Post (Value.bool true) H
def F44.B1.e (Post : Value → AHeap → Prop) : EP := fun env H => pif (Nat.beq (List.length env) 46) (F44.B1 Post H) False
theorem F44.q1 (u : Nat → Value) (Post : Value → AHeap → Prop) (H : AHeap) : aOps Try.prog T0 F44.o1 F44.o1 (mkEnv u 46 0) H (F44.ret Post) = F44.B1 Post H := by kernel_rfl
theorem F44.r1 (Post : Value → AHeap → Prop) : ∀ env H, F44.B1.e Post env H → aOps Try.prog T0 F44.o1 F44.o1 env H (F44.ret Post) := by
  intro env H h
  obtain ⟨hl, h⟩ := lenE h
  exact use_ops hl rfl ((F44.q1 _ Post H).mpr h)
def F44.L2.ne (N : Int → Value → Int → AHeap → Prop) : EP := fun env H => pif (Nat.beq (List.length env) 46) (asI .i64 (List.getD env 0 undef) (fun x0 => asI .i64 (List.getD env 7 undef) (fun x7 => N x0 (List.getD env 5 undef) x7 H))) False
noncomputable def F44.o3 : List Oper := opsIn (codeAt (bodyOf Try.f44) [.r, .r, .r, .l, .r, .l, .l, .r, .r])
def F44.B3 (Post : Value → AHeap → Prop) (N2 : Int → Value → Int → AHeap → Prop) (x0 : Int) (x5 : Value) (x7 : Int) (H : AHeap) : Prop :=
  N2 x0 x5 (IntKind.i64.wrap (x7 + 1)) H
def F44.B3.e (Post : Value → AHeap → Prop) (N2 : Int → Value → Int → AHeap → Prop) : EP := fun env H => pif (Nat.beq (List.length env) 46) (asI .i64 (List.getD env 0 undef) (fun x0 => asI .i64 (List.getD env 7 undef) (fun x7 => F44.B3 Post N2 x0 (List.getD env 5 undef) x7 H))) False
theorem F44.q3 (u : Nat → Value) (Post : Value → AHeap → Prop) (N2 : Int → Value → Int → AHeap → Prop) (x0 : Int) (x5 : Value) (x7 : Int) (H : AHeap) : aOps Try.prog T0 F44.o3 F44.o3 (mkEnv (upd (upd (upd u 0 (Value.int .i64 x0)) 5 x5) 7 (Value.int .i64 x7)) 46 0) H (F44.L2.ne N2) = F44.B3 Post N2 x0 x5 x7 H := by kernel_rfl
theorem F44.r3 (Post : Value → AHeap → Prop) (N2 : Int → Value → Int → AHeap → Prop) : ∀ env H, F44.B3.e Post N2 env H → aOps Try.prog T0 F44.o3 F44.o3 env H (F44.L2.ne N2) := by
  intro env H h
  obtain ⟨hl, h⟩ := lenE h
  obtain ⟨x0, e0, h⟩ := asI_elim h
  obtain ⟨x7, e7, h⟩ := asI_elim h
  exact use_ops hl (upd_step (upd_step (upd_step rfl e0) rfl) e7) ((F44.q3 _ Post N2 x0 (List.getD env 5 undef) x7 H).mpr h)
noncomputable def F44.o4 : List Oper := opsIn (codeAt (bodyOf Try.f44) [.r, .r, .r, .l, .r, .l, .l, .r, .l, .l, .r, .l, .l])
def F44.B4 (Post : Value → AHeap → Prop) (N2 : Int → Value → Int → AHeap → Prop) (H : AHeap) : Prop :=
  Post (Value.bool false) H
def F44.B4.e (Post : Value → AHeap → Prop) (N2 : Int → Value → Int → AHeap → Prop) : EP := fun env H => pif (Nat.beq (List.length env) 46) (F44.B4 Post N2 H) False
theorem F44.q4 (u : Nat → Value) (Post : Value → AHeap → Prop) (N2 : Int → Value → Int → AHeap → Prop) (H : AHeap) : aOps Try.prog T0 F44.o4 F44.o4 (mkEnv u 46 0) H (F44.ret Post) = F44.B4 Post N2 H := by kernel_rfl
theorem F44.r4 (Post : Value → AHeap → Prop) (N2 : Int → Value → Int → AHeap → Prop) : ∀ env H, F44.B4.e Post N2 env H → aOps Try.prog T0 F44.o4 F44.o4 env H (F44.ret Post) := by
  intro env H h
  obtain ⟨hl, h⟩ := lenE h
  exact use_ops hl rfl ((F44.q4 _ Post N2 H).mpr h)
noncomputable def F44.o5 : List Oper := opsIn (codeAt (bodyOf Try.f44) [.r, .r, .r, .l, .r, .l, .l, .r, .l, .l, .l])
def F44.B5 (Post : Value → AHeap → Prop) (N2 : Int → Value → Int → AHeap → Prop) (x0 : Int) (x5 : Value) (x7 : Int) (H : AHeap) : Prop :=
  idxK x5 x7 1 (fun b1 o2 => ldI .i64 H b1 o2 (fun v3 => pif ((v3 : Int) != 3) (F44.B4 Post N2 H) (F44.B3 Post N2 x0 x5 x7 H)))
def F44.B5.e (Post : Value → AHeap → Prop) (N2 : Int → Value → Int → AHeap → Prop) : EP := fun env H => pif (Nat.beq (List.length env) 46) (asI .i64 (List.getD env 0 undef) (fun x0 => asI .i64 (List.getD env 7 undef) (fun x7 => F44.B5 Post N2 x0 (List.getD env 5 undef) x7 H))) False
theorem F44.q5 (u : Nat → Value) (Post : Value → AHeap → Prop) (N2 : Int → Value → Int → AHeap → Prop) (x0 : Int) (x5 : Value) (x7 : Int) (H : AHeap) : aOps Try.prog T0 F44.o5 F44.o5 (mkEnv (upd (upd (upd u 0 (Value.int .i64 x0)) 5 x5) 7 (Value.int .i64 x7)) 46 0) H (fun env H => asB (aev env (.tmp 45)) (fun b => pif b ((F44.B4.e Post N2) env H) ((F44.B3.e Post N2) env H))) = F44.B5 Post N2 x0 x5 x7 H := by kernel_rfl
theorem F44.r5 (Post : Value → AHeap → Prop) (N2 : Int → Value → Int → AHeap → Prop) : ∀ env H, F44.B5.e Post N2 env H → aOps Try.prog T0 F44.o5 F44.o5 env H (fun env H => asB (aev env (.tmp 45)) (fun b => pif b ((F44.B4.e Post N2) env H) ((F44.B3.e Post N2) env H))) := by
  intro env H h
  obtain ⟨hl, h⟩ := lenE h
  obtain ⟨x0, e0, h⟩ := asI_elim h
  obtain ⟨x7, e7, h⟩ := asI_elim h
  exact use_ops hl (upd_step (upd_step (upd_step rfl e0) rfl) e7) ((F44.q5 _ Post N2 x0 (List.getD env 5 undef) x7 H).mpr h)
noncomputable def F44.o6 : List Oper := opsIn (codeAt (bodyOf Try.f44) [.r, .r, .r, .l, .r, .l, .l, .l, .l])
def F44.B6 (Post : Value → AHeap → Prop) (N2 : Int → Value → Int → AHeap → Prop) (x0 : Int) (x5 : Value) (x7 : Int) (H : AHeap) : Prop :=
  pif (decide ((x7 : Int) < x0)) (F44.B5 Post N2 x0 x5 x7 H) (F44.B1 Post H)
def F44.B6.e (Post : Value → AHeap → Prop) (N2 : Int → Value → Int → AHeap → Prop) : EP := fun env H => pif (Nat.beq (List.length env) 46) (asI .i64 (List.getD env 0 undef) (fun x0 => asI .i64 (List.getD env 7 undef) (fun x7 => F44.B6 Post N2 x0 (List.getD env 5 undef) x7 H))) False
theorem F44.q6 (u : Nat → Value) (Post : Value → AHeap → Prop) (N2 : Int → Value → Int → AHeap → Prop) (x0 : Int) (x5 : Value) (x7 : Int) (H : AHeap) : aOps Try.prog T0 F44.o6 F44.o6 (mkEnv (upd (upd (upd u 0 (Value.int .i64 x0)) 5 x5) 7 (Value.int .i64 x7)) 46 0) H (fun env H => asB (aev env (.tmp 38)) (fun b => pif b ((F44.B5.e Post N2) env H) ((F44.B1.e Post) env H))) = F44.B6 Post N2 x0 x5 x7 H := by kernel_rfl
theorem F44.r6 (Post : Value → AHeap → Prop) (N2 : Int → Value → Int → AHeap → Prop) : ∀ env H, F44.B6.e Post N2 env H → aOps Try.prog T0 F44.o6 F44.o6 env H (fun env H => asB (aev env (.tmp 38)) (fun b => pif b ((F44.B5.e Post N2) env H) ((F44.B1.e Post) env H))) := by
  intro env H h
  obtain ⟨hl, h⟩ := lenE h
  obtain ⟨x0, e0, h⟩ := asI_elim h
  obtain ⟨x7, e7, h⟩ := asI_elim h
  exact use_ops hl (upd_step (upd_step (upd_step rfl e0) rfl) e7) ((F44.q6 _ Post N2 x0 (List.getD env 5 undef) x7 H).mpr h)
def F44.L2 (Post : Value → AHeap → Prop) (x0 : Int) (x5 : Value) (x7 : Int) (H : AHeap) : Prop :=
  ∃ (I : Int → Value → Int → AHeap → Prop) (μ : Int → Value → Int → AHeap → Nat), I x0 x5 x7 H ∧ ∀ x0' x5' x7' H', I x0' x5' x7' H' → F44.B6 Post (fun x0'' x5'' x7'' H'' => I x0'' x5'' x7'' H'' ∧ μ x0'' x5'' x7'' H'' < μ x0' x5' x7' H') x0' x5' x7' H'
def F44.L2.e (Post : Value → AHeap → Prop) : EP := fun env H => pif (Nat.beq (List.length env) 46) (asI .i64 (List.getD env 0 undef) (fun x0 => asI .i64 (List.getD env 7 undef) (fun x7 => F44.L2 Post x0 (List.getD env 5 undef) x7 H))) False
theorem F44.l2 (Post : Value → AHeap → Prop) {c : Code} {K : EP} {X : Nat → EP}
    (hb : ∀ N2 : Int → Value → Int → AHeap → Prop, ∀ env H, (F44.B6.e Post N2) env H → AW Try.prog T0 c env H (mkQ (F44.L2.ne N2) X (F44.ret Post))) :
    ∀ env H, F44.L2.e Post env H → AW Try.prog T0 (.loop c) env H (mkQ K X (F44.ret Post)) := by
  intro env H h
  obtain ⟨hl, h⟩ := lenE h
  obtain ⟨x0, e0, h⟩ := asI_elim h
  obtain ⟨x7, e7, h⟩ := asI_elim h
  obtain ⟨I, μ, h0, hI⟩ := h
  refine r_loop (fun n env H => pif (Nat.beq (List.length env) 46) (asI .i64 (List.getD env 0 undef) (fun x0 => asI .i64 (List.getD env 7 undef) (fun x7 => (I x0 (List.getD env 5 undef) x7 H) ∧ (μ x0 (List.getD env 5 undef) x7 H = n)))) False) ?_ env H ⟨μ x0 (List.getD env 5 undef) x7 H, lenM hl (asI_mk' e0 (asI_mk' e7 (⟨h0, rfl⟩)))⟩
  intro n env' H' h
  obtain ⟨hl', h⟩ := lenE h
  obtain ⟨x0', e0', h⟩ := asI_elim h
  obtain ⟨x7', e7', h⟩ := asI_elim h
  obtain ⟨hi, hm⟩ := h
  refine r_imp (hb (fun x0'' x5'' x7'' H'' => I x0'' x5'' x7'' H'' ∧ μ x0'' x5'' x7'' H'' < n)) ?_ env' H' ?_
  · intro env H h
    obtain ⟨hl'', h⟩ := lenE h
    obtain ⟨x0'', e0'', h⟩ := asI_elim h
    obtain ⟨x7'', e7'', h⟩ := asI_elim h
    obtain ⟨hi, hlt⟩ := h
    exact ⟨_, hlt, lenM hl'' (asI_mk' e0'' (asI_mk' e7'' (⟨hi, rfl⟩)))⟩
  · have h := hI x0' (List.getD env' 5 undef) x7' H' hi
    rw [hm] at h
    exact lenM hl' (asI_mk' e0' (asI_mk' e7' (h)))
noncomputable def F44.o7 : List Oper := opsIn (codeAt (bodyOf Try.f44) [.r, .r, .r, .l, .l])
def F44.B7 (Post : Value → AHeap → Prop) (x0 : Int) (x5 : Value) (H : AHeap) : Prop :=
  F44.L2 Post x0 x5 0 H
def F44.B7.e (Post : Value → AHeap → Prop) : EP := fun env H => pif (Nat.beq (List.length env) 46) (asI .i64 (List.getD env 0 undef) (fun x0 => F44.B7 Post x0 (List.getD env 5 undef) H)) False
theorem F44.q7 (u : Nat → Value) (Post : Value → AHeap → Prop) (x0 : Int) (x5 : Value) (H : AHeap) : aOps Try.prog T0 F44.o7 F44.o7 (mkEnv (upd (upd u 0 (Value.int .i64 x0)) 5 x5) 46 0) H (F44.L2.e Post) = F44.B7 Post x0 x5 H := by kernel_rfl
theorem F44.r7 (Post : Value → AHeap → Prop) : ∀ env H, F44.B7.e Post env H → aOps Try.prog T0 F44.o7 F44.o7 env H (F44.L2.e Post) := by
  intro env H h
  obtain ⟨hl, h⟩ := lenE h
  obtain ⟨x0, e0, h⟩ := asI_elim h
  exact use_ops hl (upd_step (upd_step rfl e0) rfl) ((F44.q7 _ Post x0 (List.getD env 5 undef) H).mpr h)
def F44.L8.ne (N : Int → Value → Value → Int → AHeap → Prop) : EP := fun env H => pif (Nat.beq (List.length env) 46) (asI .i64 (List.getD env 0 undef) (fun x0 => asI .i64 (List.getD env 6 undef) (fun x6 => N x0 (List.getD env 1 undef) (List.getD env 5 undef) x6 H))) False
noncomputable def F44.o9 : List Oper := opsIn (codeAt (bodyOf Try.f44) [.r, .r, .l, .r, .l, .l, .r, .r])
def F44.B9 (Post : Value → AHeap → Prop) (N8 : Int → Value → Value → Int → AHeap → Prop) (x0 : Int) (x1 : Value) (x5 : Value) (x6 : Int) (H : AHeap) : Prop :=
  N8 x0 x1 x5 (IntKind.i64.wrap (x6 + 1)) H
def F44.B9.e (Post : Value → AHeap → Prop) (N8 : Int → Value → Value → Int → AHeap → Prop) : EP := fun env H => pif (Nat.beq (List.length env) 46) (asI .i64 (List.getD env 0 undef) (fun x0 => asI .i64 (List.getD env 6 undef) (fun x6 => F44.B9 Post N8 x0 (List.getD env 1 undef) (List.getD env 5 undef) x6 H))) False
theorem F44.q9 (u : Nat → Value) (Post : Value → AHeap → Prop) (N8 : Int → Value → Value → Int → AHeap → Prop) (x0 : Int) (x1 : Value) (x5 : Value) (x6 : Int) (H : AHeap) : aOps Try.prog T0 F44.o9 F44.o9 (mkEnv (upd (upd (upd (upd u 0 (Value.int .i64 x0)) 1 x1) 5 x5) 6 (Value.int .i64 x6)) 46 0) H (F44.L8.ne N8) = F44.B9 Post N8 x0 x1 x5 x6 H := by kernel_rfl
theorem F44.r9 (Post : Value → AHeap → Prop) (N8 : Int → Value → Value → Int → AHeap → Prop) : ∀ env H, F44.B9.e Post N8 env H → aOps Try.prog T0 F44.o9 F44.o9 env H (F44.L8.ne N8) := by
  intro env H h
  obtain ⟨hl, h⟩ := lenE h
  obtain ⟨x0, e0, h⟩ := asI_elim h
  obtain ⟨x6, e6, h⟩ := asI_elim h
  exact use_ops hl (upd_step (upd_step (upd_step (upd_step rfl e0) rfl) rfl) e6) ((F44.q9 _ Post N8 x0 (List.getD env 1 undef) (List.getD env 5 undef) x6 H).mpr h)
noncomputable def F44.o10 : List Oper := opsIn (codeAt (bodyOf Try.f44) [.r, .r, .l, .r, .l, .l, .r, .l, .l, .r])
def F44.B10 (Post : Value → AHeap → Prop) (N8 : Int → Value → Value → Int → AHeap → Prop) (x0 : Int) (x1 : Value) (x5 : Value) (x6 : Int) (H : AHeap) : Prop :=
  idxK x1 x6 2 (fun b1 o2 => ldI .i64 H b1 (o2 + 1) (fun v3 => idxK x5 v3 1 (fun b4 o5 => ldI .i64 H b4 o5 (fun v6 => idxK x5 v3 1 (fun b7 o8 => stK H b7 o8 [(Value.int .i64 (IntKind.i64.wrap (v6 + 1)))] (fun H9 => F44.B9 Post N8 x0 x1 x5 x6 H9))))))
def F44.B10.e (Post : Value → AHeap → Prop) (N8 : Int → Value → Value → Int → AHeap → Prop) : EP := fun env H => pif (Nat.beq (List.length env) 46) (asI .i64 (List.getD env 0 undef) (fun x0 => asI .i64 (List.getD env 6 undef) (fun x6 => F44.B10 Post N8 x0 (List.getD env 1 undef) (List.getD env 5 undef) x6 H))) False
theorem F44.q10 (u : Nat → Value) (Post : Value → AHeap → Prop) (N8 : Int → Value → Value → Int → AHeap → Prop) (x0 : Int) (x1 : Value) (x5 : Value) (x6 : Int) (H : AHeap) : aOps Try.prog T0 F44.o10 F44.o10 (mkEnv (upd (upd (upd (upd u 0 (Value.int .i64 x0)) 1 x1) 5 x5) 6 (Value.int .i64 x6)) 46 0) H (F44.B9.e Post N8) = F44.B10 Post N8 x0 x1 x5 x6 H := by kernel_rfl
theorem F44.r10 (Post : Value → AHeap → Prop) (N8 : Int → Value → Value → Int → AHeap → Prop) : ∀ env H, F44.B10.e Post N8 env H → aOps Try.prog T0 F44.o10 F44.o10 env H (F44.B9.e Post N8) := by
  intro env H h
  obtain ⟨hl, h⟩ := lenE h
  obtain ⟨x0, e0, h⟩ := asI_elim h
  obtain ⟨x6, e6, h⟩ := asI_elim h
  exact use_ops hl (upd_step (upd_step (upd_step (upd_step rfl e0) rfl) rfl) e6) ((F44.q10 _ Post N8 x0 (List.getD env 1 undef) (List.getD env 5 undef) x6 H).mpr h)
noncomputable def F44.o11 : List Oper := opsIn (codeAt (bodyOf Try.f44) [.r, .r, .l, .r, .l, .l, .r, .l, .l, .l])
def F44.B11 (Post : Value → AHeap → Prop) (N8 : Int → Value → Value → Int → AHeap → Prop) (x0 : Int) (x1 : Value) (x5 : Value) (x6 : Int) (H : AHeap) : Prop :=
  idxK x1 x6 2 (fun b1 o2 => ldI .i64 H b1 o2 (fun v3 => idxK x5 v3 1 (fun b4 o5 => ldI .i64 H b4 o5 (fun v6 => idxK x5 v3 1 (fun b7 o8 => stK H b7 o8 [(Value.int .i64 (IntKind.i64.wrap (v6 + 1)))] (fun H9 => F44.B10 Post N8 x0 x1 x5 x6 H9))))))
def F44.B11.e (Post : Value → AHeap → Prop) (N8 : Int → Value → Value → Int → AHeap → Prop) : EP := fun env H => pif (Nat.beq (List.length env) 46) (asI .i64 (List.getD env 0 undef) (fun x0 => asI .i64 (List.getD env 6 undef) (fun x6 => F44.B11 Post N8 x0 (List.getD env 1 undef) (List.getD env 5 undef) x6 H))) False
theorem F44.q11 (u : Nat → Value) (Post : Value → AHeap → Prop) (N8 : Int → Value → Value → Int → AHeap → Prop) (x0 : Int) (x1 : Value) (x5 : Value) (x6 : Int) (H : AHeap) : aOps Try.prog T0 F44.o11 F44.o11 (mkEnv (upd (upd (upd (upd u 0 (Value.int .i64 x0)) 1 x1) 5 x5) 6 (Value.int .i64 x6)) 46 0) H (F44.B10.e Post N8) = F44.B11 Post N8 x0 x1 x5 x6 H := by kernel_rfl
theorem F44.r11 (Post : Value → AHeap → Prop) (N8 : Int → Value → Value → Int → AHeap → Prop) : ∀ env H, F44.B11.e Post N8 env H → aOps Try.prog T0 F44.o11 F44.o11 env H (F44.B10.e Post N8) := by
  intro env H h
  obtain ⟨hl, h⟩ := lenE h
  obtain ⟨x0, e0, h⟩ := asI_elim h
  obtain ⟨x6, e6, h⟩ := asI_elim h
  exact use_ops hl (upd_step (upd_step (upd_step (upd_step rfl e0) rfl) rfl) e6) ((F44.q11 _ Post N8 x0 (List.getD env 1 undef) (List.getD env 5 undef) x6 H).mpr h)
noncomputable def F44.o12 : List Oper := opsIn (codeAt (bodyOf Try.f44) [.r, .r, .l, .r, .l, .l, .l, .l])
def F44.B12 (Post : Value → AHeap → Prop) (N8 : Int → Value → Value → Int → AHeap → Prop) (x0 : Int) (x1 : Value) (x5 : Value) (x6 : Int) (H : AHeap) : Prop :=
  lenK x1 (fun n1 => pif (decide ((x6 : Int) < (n1 : Int))) (F44.B11 Post N8 x0 x1 x5 x6 H) (F44.B7 Post x0 x5 H))
def F44.B12.e (Post : Value → AHeap → Prop) (N8 : Int → Value → Value → Int → AHeap → Prop) : EP := fun env H => pif (Nat.beq (List.length env) 46) (asI .i64 (List.getD env 0 undef) (fun x0 => asI .i64 (List.getD env 6 undef) (fun x6 => F44.B12 Post N8 x0 (List.getD env 1 undef) (List.getD env 5 undef) x6 H))) False
theorem F44.q12 (u : Nat → Value) (Post : Value → AHeap → Prop) (N8 : Int → Value → Value → Int → AHeap → Prop) (x0 : Int) (x1 : Value) (x5 : Value) (x6 : Int) (H : AHeap) : aOps Try.prog T0 F44.o12 F44.o12 (mkEnv (upd (upd (upd (upd u 0 (Value.int .i64 x0)) 1 x1) 5 x5) 6 (Value.int .i64 x6)) 46 0) H (fun env H => asB (aev env (.tmp 13)) (fun b => pif b ((F44.B11.e Post N8) env H) ((F44.B7.e Post) env H))) = F44.B12 Post N8 x0 x1 x5 x6 H := by kernel_rfl
theorem F44.r12 (Post : Value → AHeap → Prop) (N8 : Int → Value → Value → Int → AHeap → Prop) : ∀ env H, F44.B12.e Post N8 env H → aOps Try.prog T0 F44.o12 F44.o12 env H (fun env H => asB (aev env (.tmp 13)) (fun b => pif b ((F44.B11.e Post N8) env H) ((F44.B7.e Post) env H))) := by
  intro env H h
  obtain ⟨hl, h⟩ := lenE h
  obtain ⟨x0, e0, h⟩ := asI_elim h
  obtain ⟨x6, e6, h⟩ := asI_elim h
  exact use_ops hl (upd_step (upd_step (upd_step (upd_step rfl e0) rfl) rfl) e6) ((F44.q12 _ Post N8 x0 (List.getD env 1 undef) (List.getD env 5 undef) x6 H).mpr h)
def F44.L8 (Post : Value → AHeap → Prop) (x0 : Int) (x1 : Value) (x5 : Value) (x6 : Int) (H : AHeap) : Prop :=
  ∃ (I : Int → Value → Value → Int → AHeap → Prop) (μ : Int → Value → Value → Int → AHeap → Nat), I x0 x1 x5 x6 H ∧ ∀ x0' x1' x5' x6' H', I x0' x1' x5' x6' H' → F44.B12 Post (fun x0'' x1'' x5'' x6'' H'' => I x0'' x1'' x5'' x6'' H'' ∧ μ x0'' x1'' x5'' x6'' H'' < μ x0' x1' x5' x6' H') x0' x1' x5' x6' H'
def F44.L8.e (Post : Value → AHeap → Prop) : EP := fun env H => pif (Nat.beq (List.length env) 46) (asI .i64 (List.getD env 0 undef) (fun x0 => asI .i64 (List.getD env 6 undef) (fun x6 => F44.L8 Post x0 (List.getD env 1 undef) (List.getD env 5 undef) x6 H))) False
theorem F44.l8 (Post : Value → AHeap → Prop) {c : Code} {K : EP} {X : Nat → EP}
    (hb : ∀ N8 : Int → Value → Value → Int → AHeap → Prop, ∀ env H, (F44.B12.e Post N8) env H → AW Try.prog T0 c env H (mkQ (F44.L8.ne N8) X (F44.ret Post))) :
    ∀ env H, F44.L8.e Post env H → AW Try.prog T0 (.loop c) env H (mkQ K X (F44.ret Post)) := by
  intro env H h
  obtain ⟨hl, h⟩ := lenE h
  obtain ⟨x0, e0, h⟩ := asI_elim h
  obtain ⟨x6, e6, h⟩ := asI_elim h
  obtain ⟨I, μ, h0, hI⟩ := h
  refine r_loop (fun n env H => pif (Nat.beq (List.length env) 46) (asI .i64 (List.getD env 0 undef) (fun x0 => asI .i64 (List.getD env 6 undef) (fun x6 => (I x0 (List.getD env 1 undef) (List.getD env 5 undef) x6 H) ∧ (μ x0 (List.getD env 1 undef) (List.getD env 5 undef) x6 H = n)))) False) ?_ env H ⟨μ x0 (List.getD env 1 undef) (List.getD env 5 undef) x6 H, lenM hl (asI_mk' e0 (asI_mk' e6 (⟨h0, rfl⟩)))⟩
  intro n env' H' h
  obtain ⟨hl', h⟩ := lenE h
  obtain ⟨x0', e0', h⟩ := asI_elim h
  obtain ⟨x6', e6', h⟩ := asI_elim h
  obtain ⟨hi, hm⟩ := h
  refine r_imp (hb (fun x0'' x1'' x5'' x6'' H'' => I x0'' x1'' x5'' x6'' H'' ∧ μ x0'' x1'' x5'' x6'' H'' < n)) ?_ env' H' ?_
  · intro env H h
    obtain ⟨hl'', h⟩ := lenE h
    obtain ⟨x0'', e0'', h⟩ := asI_elim h
    obtain ⟨x6'', e6'', h⟩ := asI_elim h
    obtain ⟨hi, hlt⟩ := h
    exact ⟨_, hlt, lenM hl'' (asI_mk' e0'' (asI_mk' e6'' (⟨hi, rfl⟩)))⟩
  · have h := hI x0' (List.getD env' 1 undef) (List.getD env' 5 undef) x6' H' hi
    rw [hm] at h
    exact lenM hl' (asI_mk' e0' (asI_mk' e6' (h)))
noncomputable def F44.o13 : List Oper := opsIn (codeAt (bodyOf Try.f44) [.r, .r, .l, .l])
def F44.B13 (Post : Value → AHeap → Prop) (x0 : Int) (x1 : Value) (x5 : Value) (H : AHeap) : Prop :=
  F44.L8 Post x0 x1 x5 0 H
def F44.B13.e (Post : Value → AHeap → Prop) : EP := fun env H => pif (Nat.beq (List.length env) 46) (asI .i64 (List.getD env 0 undef) (fun x0 => F44.B13 Post x0 (List.getD env 1 undef) (List.getD env 5 undef) H)) False
theorem F44.q13 (u : Nat → Value) (Post : Value → AHeap → Prop) (x0 : Int) (x1 : Value) (x5 : Value) (H : AHeap) : aOps Try.prog T0 F44.o13 F44.o13 (mkEnv (upd (upd (upd u 0 (Value.int .i64 x0)) 1 x1) 5 x5) 46 0) H (F44.L8.e Post) = F44.B13 Post x0 x1 x5 H := by kernel_rfl
theorem F44.r13 (Post : Value → AHeap → Prop) : ∀ env H, F44.B13.e Post env H → aOps Try.prog T0 F44.o13 F44.o13 env H (F44.L8.e Post) := by
  intro env H h
  obtain ⟨hl, h⟩ := lenE h
  obtain ⟨x0, e0, h⟩ := asI_elim h
  exact use_ops hl (upd_step (upd_step (upd_step rfl e0) rfl) rfl) ((F44.q13 _ Post x0 (List.getD env 1 undef) (List.getD env 5 undef) H).mpr h)
noncomputable def F44.o14 : List Oper := opsIn (codeAt (bodyOf Try.f44) [.r, .l])
def F44.B14 (Post : Value → AHeap → Prop) (x0 : Int) (x1 : Value) (H : AHeap) : Prop :=
  mkR H 8 2 [(Value.int .i64 0)] x0 x0 (fun v2 H1 => F44.B13 Post x0 x1 v2 H1)
def F44.B14.e (Post : Value → AHeap → Prop) : EP := fun env H => pif (Nat.beq (List.length env) 46) (asI .i64 (List.getD env 0 undef) (fun x0 => F44.B14 Post x0 (List.getD env 1 undef) H)) False
theorem F44.q14 (u : Nat → Value) (Post : Value → AHeap → Prop) (x0 : Int) (x1 : Value) (H : AHeap) : aOps Try.prog T0 F44.o14 F44.o14 (mkEnv (upd (upd u 0 (Value.int .i64 x0)) 1 x1) 46 0) H (F44.B13.e Post) = F44.B14 Post x0 x1 H := by kernel_rfl
theorem F44.r14 (Post : Value → AHeap → Prop) : ∀ env H, F44.B14.e Post env H → aOps Try.prog T0 F44.o14 F44.o14 env H (F44.B13.e Post) := by
  intro env H h
  obtain ⟨hl, h⟩ := lenE h
  obtain ⟨x0, e0, h⟩ := asI_elim h
  exact use_ops hl (upd_step (upd_step rfl e0) rfl) ((F44.q14 _ Post x0 (List.getD env 1 undef) H).mpr h)
noncomputable def F44.o15 : List Oper := opsIn (codeAt (bodyOf Try.f44) [.l])
def F44.B15 (Post : Value → AHeap → Prop) (x0 : Int) (x1 : Value) (H : AHeap) : Prop :=
  F44.B14 Post x0 x1 H
def F44.B15.e (Post : Value → AHeap → Prop) : EP := fun env H => pif (Nat.beq (List.length env) 46) (asI .i64 (List.getD env 0 undef) (fun x0 => F44.B15 Post x0 (List.getD env 1 undef) H)) False
theorem F44.q15 (u : Nat → Value) (Post : Value → AHeap → Prop) (x0 : Int) (x1 : Value) (H : AHeap) : aOps Try.prog T0 F44.o15 F44.o15 (mkEnv (upd (upd u 0 (Value.int .i64 x0)) 1 x1) 46 0) H (F44.B14.e Post) = F44.B15 Post x0 x1 H := by kernel_rfl
theorem F44.r15 (Post : Value → AHeap → Prop) : ∀ env H, F44.B15.e Post env H → aOps Try.prog T0 F44.o15 F44.o15 env H (F44.B14.e Post) := by
  intro env H h
  obtain ⟨hl, h⟩ := lenE h
  obtain ⟨x0, e0, h⟩ := asI_elim h
  exact use_ops hl (upd_step (upd_step rfl e0) rfl) ((F44.q15 _ Post x0 (List.getD env 1 undef) H).mpr h)
noncomputable def F44.code : Code := (.seq (.region 0 ⟨F44.o15⟩ false) (.seq (.region 1 ⟨F44.o14⟩ false) (.seq (.seq (.region 2 ⟨F44.o13⟩ false) (.block 0 (.loop (.seq (.seq (.region 3 ⟨F44.o12⟩ false) (.cond (.tmp 13) .skip (.exit 0))) (.seq (.block 1 (.seq (.region 5 ⟨F44.o11⟩ false) (.region 6 ⟨F44.o10⟩ false))) (.region 4 ⟨F44.o9⟩ false)))))) (.seq (.seq (.region 7 ⟨F44.o7⟩ false) (.block 2 (.loop (.seq (.seq (.region 8 ⟨F44.o6⟩ false) (.cond (.tmp 38) .skip (.exit 2))) (.seq (.block 3 (.seq (.region 10 ⟨F44.o5⟩ false) (.cond (.tmp 45) (.seq (.region 11 ⟨F44.o4⟩ false) .ret) .skip))) (.region 9 ⟨F44.o3⟩ false)))))) (.seq (.region 12 ⟨F44.o1⟩ false) .ret)))))
theorem F44.body : Try.f44.body = some F44.code := by kernel_rfl
theorem F44.main (Post : Value → AHeap → Prop) : ∀ env H, F44.B15.e Post env H → AW Try.prog T0 F44.code env H (mkQ (F44.ret Post) (fun _ _ _ => False) (F44.ret Post)) :=
  (r_seq (r_region T0_ok (F44.r15 Post)) (r_seq (r_region T0_ok (F44.r14 Post)) (r_seq (r_seq (r_region T0_ok (F44.r13 Post)) (r_block (F44.l8 Post (fun N8 => (r_seq (r_seq (r_region T0_ok (F44.r12 Post N8)) (r_cond rfl r_skip (r_exit (fun _ _ h => h)))) (r_seq (r_block (r_seq (r_region T0_ok (F44.r11 Post N8)) (r_region T0_ok (F44.r10 Post N8)))) (r_region T0_ok (F44.r9 Post N8)))))))) (r_seq (r_seq (r_region T0_ok (F44.r7 Post)) (r_block (F44.l2 Post (fun N2 => (r_seq (r_seq (r_region T0_ok (F44.r6 Post N2)) (r_cond rfl r_skip (r_exit (fun _ _ h => h)))) (r_seq (r_block (r_seq (r_region T0_ok (F44.r5 Post N2)) (r_cond rfl (r_seq (r_region T0_ok (F44.r4 Post N2)) r_ret) r_skip))) (r_region T0_ok (F44.r3 Post N2)))))))) (r_seq (r_region T0_ok (F44.r1 Post)) r_ret)))))
theorem F44.ac (Post : Value → AHeap → Prop) (x0 : Int) (x1 : Value) (H : AHeap) (h : F44.B15 Post x0 x1 H) : AC Try.prog T0 44 [(Value.int .i64 x0), x1] H Post :=
  r_fn T0_ok (c := F44.code) (n := 46) Try.func44 F44.body (by kernel_rfl) (F44.main Post) (lenM (by kernel_rfl) (asI_mk' (by kernel_rfl) (h)))

-- loop.example/g01329/spec.l01Before
noncomputable def F45.ret (Post : Value → AHeap → Prop) : EP := retE T0 24 Try.f45 Post
noncomputable def F45.o1 : List Oper := opsIn (codeAt (bodyOf Try.f45) [.r, .l])
def F45.B1 (Post : Value → AHeap → Prop) (x2 : Nat) (x3 : Nat) (H : AHeap) : Prop :=
  ldI .i64 H x2 0 (fun v1 => ldI .i64 H x3 0 (fun v2 => pif (decide ((v1 : Int) < v2)) (Post (Value.bool true) H) (ldI .i64 H x2 0 (fun v3 => ldI .i64 H x3 0 (fun v4 => pif ((v3 : Int) == v4) (ldI .i64 H x2 1 (fun v5 => ldI .i64 H x3 1 (fun v6 => Post (Value.bool (decide ((v5 : Int) < v6))) H))) (Post (Value.bool false) H))))))
def F45.B1.e (Post : Value → AHeap → Prop) : EP := fun env H => pif (Nat.beq (List.length env) 24) (asX (List.getD env 2 undef) (fun x2 => asX (List.getD env 3 undef) (fun x3 => F45.B1 Post x2 x3 H))) False
theorem F45.q1 (u : Nat → Value) (Post : Value → AHeap → Prop) (x2 : Nat) (x3 : Nat) (H : AHeap) : aOps Try.prog T0 F45.o1 F45.o1 (mkEnv (upd (upd u 2 (Value.pointer (some ⟨x2, 0, none⟩))) 3 (Value.pointer (some ⟨x3, 0, none⟩))) 24 0) H (F45.ret Post) = F45.B1 Post x2 x3 H := by kernel_rfl
theorem F45.r1 (Post : Value → AHeap → Prop) : ∀ env H, F45.B1.e Post env H → aOps Try.prog T0 F45.o1 F45.o1 env H (F45.ret Post) := by
  intro env H h
  obtain ⟨hl, h⟩ := lenE h
  obtain ⟨x2, e2, h⟩ := asX_elim h
  obtain ⟨x3, e3, h⟩ := asX_elim h
  exact use_ops hl (upd_step (upd_step rfl e2) e3) ((F45.q1 _ Post x2 x3 H).mpr h)
noncomputable def F45.o2 : List Oper := opsIn (codeAt (bodyOf Try.f45) [.l])
def F45.B2 (Post : Value → AHeap → Prop) (x0a : Int) (x0b : Int) (x1a : Int) (x1b : Int) (H : AHeap) : Prop :=
  newK H [(Value.int .i64 x0a), (Value.int .i64 x0b)] 55 (fun b1 H2 => newK H2 [(Value.int .i64 x1a), (Value.int .i64 x1b)] 55 (fun b3 H4 => F45.B1 Post b1 b3 H4))
def F45.B2.e (Post : Value → AHeap → Prop) : EP := fun env H => pif (Nat.beq (List.length env) 24) (as_ii (List.getD env 0 undef) (fun x0a x0b => as_ii (List.getD env 1 undef) (fun x1a x1b => F45.B2 Post x0a x0b x1a x1b H))) False
theorem F45.q2 (u : Nat → Value) (Post : Value → AHeap → Prop) (x0a : Int) (x0b : Int) (x1a : Int) (x1b : Int) (H : AHeap) : aOps Try.prog T0 F45.o2 F45.o2 (mkEnv (upd (upd u 0 (Value.agg ⟨[(Value.int .i64 x0a), (Value.int .i64 x0b)]⟩)) 1 (Value.agg ⟨[(Value.int .i64 x1a), (Value.int .i64 x1b)]⟩)) 24 0) H (F45.B1.e Post) = F45.B2 Post x0a x0b x1a x1b H := by kernel_rfl
theorem F45.r2 (Post : Value → AHeap → Prop) : ∀ env H, F45.B2.e Post env H → aOps Try.prog T0 F45.o2 F45.o2 env H (F45.B1.e Post) := by
  intro env H h
  obtain ⟨hl, h⟩ := lenE h
  obtain ⟨x0a, x0b, e0, h⟩ := as_ii_elim h
  obtain ⟨x1a, x1b, e1, h⟩ := as_ii_elim h
  exact use_ops hl (upd_step (upd_step rfl e0) e1) ((F45.q2 _ Post x0a x0b x1a x1b H).mpr h)
noncomputable def F45.code : Code := (.seq (.region 0 ⟨F45.o2⟩ false) (.seq (.region 1 ⟨F45.o1⟩ false) .ret))
theorem F45.body : Try.f45.body = some F45.code := by kernel_rfl
theorem F45.main (Post : Value → AHeap → Prop) : ∀ env H, F45.B2.e Post env H → AW Try.prog T0 F45.code env H (mkQ (F45.ret Post) (fun _ _ _ => False) (F45.ret Post)) :=
  (r_seq (r_region T0_ok (F45.r2 Post)) (r_seq (r_region T0_ok (F45.r1 Post)) r_ret))
theorem F45.ac (Post : Value → AHeap → Prop) (x0a : Int) (x0b : Int) (x1a : Int) (x1b : Int) (H : AHeap) (h : F45.B2 Post x0a x0b x1a x1b H) : AC Try.prog T0 45 [(Value.agg ⟨[(Value.int .i64 x0a), (Value.int .i64 x0b)]⟩), (Value.agg ⟨[(Value.int .i64 x1a), (Value.int .i64 x1b)]⟩)] H Post :=
  r_fn T0_ok (c := F45.code) (n := 24) Try.func45 F45.body (by kernel_rfl) (F45.main Post) (lenM (by kernel_rfl) (as_ii_mk' (by kernel_rfl) (as_ii_mk' (by kernel_rfl) (h))))

-- loop.example/g01329/spec.l01In
noncomputable def F46.ret (Post : Value → AHeap → Prop) : EP := retE T0 15 Try.f46 Post
noncomputable def F46.o1 : List Oper := opsIn (codeAt (bodyOf Try.f46) [.r, .l])
def F46.B1 (Post : Value → AHeap → Prop) (x0 : Int) (x1 : Int) (x2 : Int) (H : AHeap) : Prop :=
  pif (decide ((x0 : Int) ≥ x1)) (Post (Value.bool (decide ((x0 : Int) ≤ x2))) H) (Post (Value.bool false) H)
def F46.B1.e (Post : Value → AHeap → Prop) : EP := fun env H => pif (Nat.beq (List.length env) 15) (asI .i64 (List.getD env 0 undef) (fun x0 => asI .i64 (List.getD env 1 undef) (fun x1 => asI .i64 (List.getD env 2 undef) (fun x2 => F46.B1 Post x0 x1 x2 H)))) False
theorem F46.q1 (u : Nat → Value) (Post : Value → AHeap → Prop) (x0 : Int) (x1 : Int) (x2 : Int) (H : AHeap) : aOps Try.prog T0 F46.o1 F46.o1 (mkEnv (upd (upd (upd u 0 (Value.int .i64 x0)) 1 (Value.int .i64 x1)) 2 (Value.int .i64 x2)) 15 0) H (F46.ret Post) = F46.B1 Post x0 x1 x2 H := by kernel_rfl
theorem F46.r1 (Post : Value → AHeap → Prop) : ∀ env H, F46.B1.e Post env H → aOps Try.prog T0 F46.o1 F46.o1 env H (F46.ret Post) := by
  intro env H h
  obtain ⟨hl, h⟩ := lenE h
  obtain ⟨x0, e0, h⟩ := asI_elim h
  obtain ⟨x1, e1, h⟩ := asI_elim h
  obtain ⟨x2, e2, h⟩ := asI_elim h
  exact use_ops hl (upd_step (upd_step (upd_step rfl e0) e1) e2) ((F46.q1 _ Post x0 x1 x2 H).mpr h)
noncomputable def F46.o2 : List Oper := opsIn (codeAt (bodyOf Try.f46) [.l])
def F46.B2 (Post : Value → AHeap → Prop) (x0 : Int) (x1 : Int) (x2 : Int) (H : AHeap) : Prop :=
  F46.B1 Post x0 x1 x2 H
def F46.B2.e (Post : Value → AHeap → Prop) : EP := fun env H => pif (Nat.beq (List.length env) 15) (asI .i64 (List.getD env 0 undef) (fun x0 => asI .i64 (List.getD env 1 undef) (fun x1 => asI .i64 (List.getD env 2 undef) (fun x2 => F46.B2 Post x0 x1 x2 H)))) False
theorem F46.q2 (u : Nat → Value) (Post : Value → AHeap → Prop) (x0 : Int) (x1 : Int) (x2 : Int) (H : AHeap) : aOps Try.prog T0 F46.o2 F46.o2 (mkEnv (upd (upd (upd u 0 (Value.int .i64 x0)) 1 (Value.int .i64 x1)) 2 (Value.int .i64 x2)) 15 0) H (F46.B1.e Post) = F46.B2 Post x0 x1 x2 H := by kernel_rfl
theorem F46.r2 (Post : Value → AHeap → Prop) : ∀ env H, F46.B2.e Post env H → aOps Try.prog T0 F46.o2 F46.o2 env H (F46.B1.e Post) := by
  intro env H h
  obtain ⟨hl, h⟩ := lenE h
  obtain ⟨x0, e0, h⟩ := asI_elim h
  obtain ⟨x1, e1, h⟩ := asI_elim h
  obtain ⟨x2, e2, h⟩ := asI_elim h
  exact use_ops hl (upd_step (upd_step (upd_step rfl e0) e1) e2) ((F46.q2 _ Post x0 x1 x2 H).mpr h)
noncomputable def F46.code : Code := (.seq (.region 0 ⟨F46.o2⟩ false) (.seq (.region 1 ⟨F46.o1⟩ false) .ret))
theorem F46.body : Try.f46.body = some F46.code := by kernel_rfl
theorem F46.main (Post : Value → AHeap → Prop) : ∀ env H, F46.B2.e Post env H → AW Try.prog T0 F46.code env H (mkQ (F46.ret Post) (fun _ _ _ => False) (F46.ret Post)) :=
  (r_seq (r_region T0_ok (F46.r2 Post)) (r_seq (r_region T0_ok (F46.r1 Post)) r_ret))
theorem F46.ac (Post : Value → AHeap → Prop) (x0 : Int) (x1 : Int) (x2 : Int) (H : AHeap) (h : F46.B2 Post x0 x1 x2 H) : AC Try.prog T0 46 [(Value.int .i64 x0), (Value.int .i64 x1), (Value.int .i64 x2)] H Post :=
  r_fn T0_ok (c := F46.code) (n := 15) Try.func46 F46.body (by kernel_rfl) (F46.main Post) (lenM (by kernel_rfl) (asI_mk' (by kernel_rfl) (asI_mk' (by kernel_rfl) (asI_mk' (by kernel_rfl) (h)))))

-- loop.example/g01329/spec.l02Fits
noncomputable def F47.ret (Post : Value → AHeap → Prop) : EP := retE T0 46 Try.f47 Post
noncomputable def F47.o1 : List Oper := opsIn (codeAt (bodyOf Try.f47) [.r, .r, .l])
def F47.B1 (Post : Value → AHeap → Prop) (H : AHeap) : Prop :=
  Post (Value.bool true) H
def F47.B1.e (Post : Value → AHeap → Prop) : EP := fun env H => pif (Nat.beq (List.length env) 46) (F47.B1 Post H) False
theorem F47.q1 (u : Nat → Value) (Post : Value → AHeap → Prop) (H : AHeap) : aOps Try.prog T0 F47.o1 F47.o1 (mkEnv u 46 0) H (F47.ret Post) = F47.B1 Post H := by kernel_rfl
theorem F47.r1 (Post : Value → AHeap → Prop) : ∀ env H, F47.B1.e Post env H → aOps Try.prog T0 F47.o1 F47.o1 env H (F47.ret Post) := by
  intro env H h
  obtain ⟨hl, h⟩ := lenE h
  exact use_ops hl rfl ((F47.q1 _ Post H).mpr h)
def F47.L2.ne (N : Value → Int → Int → Nat → Int → AHeap → Prop) : EP := fun env H => pif (Nat.beq (List.length env) 46) (asI .i64 (List.getD env 2 undef) (fun x2 => asI .i64 (List.getD env 3 undef) (fun x3 => asX (List.getD env 4 undef) (fun x4 => asI .i64 (List.getD env 9 undef) (fun x9 => N (List.getD env 1 undef) x2 x3 x4 x9 H))))) False
noncomputable def F47.o3 : List Oper := opsIn (codeAt (bodyOf Try.f47) [.r, .l, .r, .l, .l, .r, .r])
def F47.B3 (Post : Value → AHeap → Prop) (N2 : Value → Int → Int → Nat → Int → AHeap → Prop) (x1 : Value) (x2 : Int) (x3 : Int) (x4 : Nat) (x9 : Int) (H : AHeap) : Prop :=
  N2 x1 x2 x3 x4 (IntKind.i64.wrap (x9 + 1)) H
def F47.B3.e (Post : Value → AHeap → Prop) (N2 : Value → Int → Int → Nat → Int → AHeap → Prop) : EP := fun env H => pif (Nat.beq (List.length env) 46) (asI .i64 (List.getD env 2 undef) (fun x2 => asI .i64 (List.getD env 3 undef) (fun x3 => asX (List.getD env 4 undef) (fun x4 => asI .i64 (List.getD env 9 undef) (fun x9 => F47.B3 Post N2 (List.getD env 1 undef) x2 x3 x4 x9 H))))) False
theorem F47.q3 (u : Nat → Value) (Post : Value → AHeap → Prop) (N2 : Value → Int → Int → Nat → Int → AHeap → Prop) (x1 : Value) (x2 : Int) (x3 : Int) (x4 : Nat) (x9 : Int) (H : AHeap) : aOps Try.prog T0 F47.o3 F47.o3 (mkEnv (upd (upd (upd (upd (upd u 1 x1) 2 (Value.int .i64 x2)) 3 (Value.int .i64 x3)) 4 (Value.pointer (some ⟨x4, 0, none⟩))) 9 (Value.int .i64 x9)) 46 0) H (F47.L2.ne N2) = F47.B3 Post N2 x1 x2 x3 x4 x9 H := by kernel_rfl
theorem F47.r3 (Post : Value → AHeap → Prop) (N2 : Value → Int → Int → Nat → Int → AHeap → Prop) : ∀ env H, F47.B3.e Post N2 env H → aOps Try.prog T0 F47.o3 F47.o3 env H (F47.L2.ne N2) := by
  intro env H h
  obtain ⟨hl, h⟩ := lenE h
  obtain ⟨x2, e2, h⟩ := asI_elim h
  obtain ⟨x3, e3, h⟩ := asI_elim h
  obtain ⟨x4, e4, h⟩ := asX_elim h
  obtain ⟨x9, e9, h⟩ := asI_elim h
  exact use_ops hl (upd_step (upd_step (upd_step (upd_step (upd_step rfl rfl) e2) e3) e4) e9) ((F47.q3 _ Post N2 (List.getD env 1 undef) x2 x3 x4 x9 H).mpr h)
def F47.L4.ne (N : Value → Int → Int → Nat → Int → Value → Int → AHeap → Prop) : EP := fun env H => pif (Nat.beq (List.length env) 46) (asI .i64 (List.getD env 2 undef) (fun x2 => asI .i64 (List.getD env 3 undef) (fun x3 => asX (List.getD env 4 undef) (fun x4 => asI .i64 (List.getD env 9 undef) (fun x9 => asI .i64 (List.getD env 11 undef) (fun x11 => N (List.getD env 1 undef) x2 x3 x4 x9 (List.getD env 10 undef) x11 H)))))) False
noncomputable def F47.o5 : List Oper := opsIn (codeAt (bodyOf Try.f47) [.r, .l, .r, .l, .l, .r, .l, .l, .r, .r, .l, .l, .r, .r])
def F47.B5 (Post : Value → AHeap → Prop) (N2 : Value → Int → Int → Nat → Int → AHeap → Prop) (N4 : Value → Int → Int → Nat → Int → Value → Int → AHeap → Prop) (x1 : Value) (x2 : Int) (x3 : Int) (x4 : Nat) (x9 : Int) (x10 : Value) (x11 : Int) (H : AHeap) : Prop :=
  N4 x1 x2 x3 x4 x9 x10 (IntKind.i64.wrap (x11 + 1)) H
def F47.B5.e (Post : Value → AHeap → Prop) (N2 : Value → Int → Int → Nat → Int → AHeap → Prop) (N4 : Value → Int → Int → Nat → Int → Value → Int → AHeap → Prop) : EP := fun env H => pif (Nat.beq (List.length env) 46) (asI .i64 (List.getD env 2 undef) (fun x2 => asI .i64 (List.getD env 3 undef) (fun x3 => asX (List.getD env 4 undef) (fun x4 => asI .i64 (List.getD env 9 undef) (fun x9 => asI .i64 (List.getD env 11 undef) (fun x11 => F47.B5 Post N2 N4 (List.getD env 1 undef) x2 x3 x4 x9 (List.getD env 10 undef) x11 H)))))) False
theorem F47.q5 (u : Nat → Value) (Post : Value → AHeap → Prop) (N2 : Value → Int → Int → Nat → Int → AHeap → Prop) (N4 : Value → Int → Int → Nat → Int → Value → Int → AHeap → Prop) (x1 : Value) (x2 : Int) (x3 : Int) (x4 : Nat) (x9 : Int) (x10 : Value) (x11 : Int) (H : AHeap) : aOps Try.prog T0 F47.o5 F47.o5 (mkEnv (upd (upd (upd (upd (upd (upd (upd u 1 x1) 2 (Value.int .i64 x2)) 3 (Value.int .i64 x3)) 4 (Value.pointer (some ⟨x4, 0, none⟩))) 9 (Value.int .i64 x9)) 10 x10) 11 (Value.int .i64 x11)) 46 0) H (F47.L4.ne N4) = F47.B5 Post N2 N4 x1 x2 x3 x4 x9 x10 x11 H := by kernel_rfl
theorem F47.r5 (Post : Value → AHeap → Prop) (N2 : Value → Int → Int → Nat → Int → AHeap → Prop) (N4 : Value → Int → Int → Nat → Int → Value → Int → AHeap → Prop) : ∀ env H, F47.B5.e Post N2 N4 env H → aOps Try.prog T0 F47.o5 F47.o5 env H (F47.L4.ne N4) := by
  intro env H h
  obtain ⟨hl, h⟩ := lenE h
  obtain ⟨x2, e2, h⟩ := asI_elim h
  obtain ⟨x3, e3, h⟩ := asI_elim h
  obtain ⟨x4, e4, h⟩ := asX_elim h
  obtain ⟨x9, e9, h⟩ := asI_elim h
  obtain ⟨x11, e11, h⟩ := asI_elim h
  exact use_ops hl (upd_step (upd_step (upd_step (upd_step (upd_step (upd_step (upd_step rfl rfl) e2) e3) e4) e9) rfl) e11) ((F47.q5 _ Post N2 N4 (List.getD env 1 undef) x2 x3 x4 x9 (List.getD env 10 undef) x11 H).mpr h)
noncomputable def F47.o6 : List Oper := opsIn (codeAt (bodyOf Try.f47) [.r, .l, .r, .l, .l, .r, .l, .l, .r, .r, .l, .l, .r, .l, .l, .r, .l, .l])
def F47.B6 (Post : Value → AHeap → Prop) (N2 : Value → Int → Int → Nat → Int → AHeap → Prop) (N4 : Value → Int → Int → Nat → Int → Value → Int → AHeap → Prop) (H : AHeap) : Prop :=
  Post (Value.bool false) H
def F47.B6.e (Post : Value → AHeap → Prop) (N2 : Value → Int → Int → Nat → Int → AHeap → Prop) (N4 : Value → Int → Int → Nat → Int → Value → Int → AHeap → Prop) : EP := fun env H => pif (Nat.beq (List.length env) 46) (F47.B6 Post N2 N4 H) False
theorem F47.q6 (u : Nat → Value) (Post : Value → AHeap → Prop) (N2 : Value → Int → Int → Nat → Int → AHeap → Prop) (N4 : Value → Int → Int → Nat → Int → Value → Int → AHeap → Prop) (H : AHeap) : aOps Try.prog T0 F47.o6 F47.o6 (mkEnv u 46 0) H (F47.ret Post) = F47.B6 Post N2 N4 H := by kernel_rfl
theorem F47.r6 (Post : Value → AHeap → Prop) (N2 : Value → Int → Int → Nat → Int → AHeap → Prop) (N4 : Value → Int → Int → Nat → Int → Value → Int → AHeap → Prop) : ∀ env H, F47.B6.e Post N2 N4 env H → aOps Try.prog T0 F47.o6 F47.o6 env H (F47.ret Post) := by
  intro env H h
  obtain ⟨hl, h⟩ := lenE h
  exact use_ops hl rfl ((F47.q6 _ Post N2 N4 H).mpr h)
noncomputable def F47.o7 : List Oper := opsIn (codeAt (bodyOf Try.f47) [.r, .l, .r, .l, .l, .r, .l, .l, .r, .r, .l, .l, .r, .l, .l, .l])
def F47.B7 (Post : Value → AHeap → Prop) (N2 : Value → Int → Int → Nat → Int → AHeap → Prop) (N4 : Value → Int → Int → Nat → Int → Value → Int → AHeap → Prop) (x1 : Value) (x2 : Int) (x3 : Int) (x4 : Nat) (x9 : Int) (x10 : Value) (x11 : Int) (H : AHeap) : Prop :=
  idxK x10 x11 1 (fun b1 o2 => ldI .i64 H b1 o2 (fun v3 => pif (decide ((v3 : Int) < x2)) (idxK x10 x11 1 (fun b4 o5 => ldI .i64 H b4 o5 (fun v6 => idxK x1 v6 1 (fun b7 o8 => ldI .i64 H b7 o8 (fun v9 => pif ((v9 : Int) == x3) (F47.B6 Post N2 N4 H) (F47.B5 Post N2 N4 x1 x2 x3 x4 x9 x10 x11 H)))))) (F47.B5 Post N2 N4 x1 x2 x3 x4 x9 x10 x11 H)))
def F47.B7.e (Post : Value → AHeap → Prop) (N2 : Value → Int → Int → Nat → Int → AHeap → Prop) (N4 : Value → Int → Int → Nat → Int → Value → Int → AHeap → Prop) : EP := fun env H => pif (Nat.beq (List.length env) 46) (asI .i64 (List.getD env 2 undef) (fun x2 => asI .i64 (List.getD env 3 undef) (fun x3 => asX (List.getD env 4 undef) (fun x4 => asI .i64 (List.getD env 9 undef) (fun x9 => asI .i64 (List.getD env 11 undef) (fun x11 => F47.B7 Post N2 N4 (List.getD env 1 undef) x2 x3 x4 x9 (List.getD env 10 undef) x11 H)))))) False
theorem F47.q7 (u : Nat → Value) (Post : Value → AHeap → Prop) (N2 : Value → Int → Int → Nat → Int → AHeap → Prop) (N4 : Value → Int → Int → Nat → Int → Value → Int → AHeap → Prop) (x1 : Value) (x2 : Int) (x3 : Int) (x4 : Nat) (x9 : Int) (x10 : Value) (x11 : Int) (H : AHeap) : aOps Try.prog T0 F47.o7 F47.o7 (mkEnv (upd (upd (upd (upd (upd (upd (upd u 1 x1) 2 (Value.int .i64 x2)) 3 (Value.int .i64 x3)) 4 (Value.pointer (some ⟨x4, 0, none⟩))) 9 (Value.int .i64 x9)) 10 x10) 11 (Value.int .i64 x11)) 46 0) H (fun env H => asB (aev env (.tmp 45)) (fun b => pif b ((F47.B6.e Post N2 N4) env H) ((F47.B5.e Post N2 N4) env H))) = F47.B7 Post N2 N4 x1 x2 x3 x4 x9 x10 x11 H := by kernel_rfl
theorem F47.r7 (Post : Value → AHeap → Prop) (N2 : Value → Int → Int → Nat → Int → AHeap → Prop) (N4 : Value → Int → Int → Nat → Int → Value → Int → AHeap → Prop) : ∀ env H, F47.B7.e Post N2 N4 env H → aOps Try.prog T0 F47.o7 F47.o7 env H (fun env H => asB (aev env (.tmp 45)) (fun b => pif b ((F47.B6.e Post N2 N4) env H) ((F47.B5.e Post N2 N4) env H))) := by
  intro env H h
  obtain ⟨hl, h⟩ := lenE h
  obtain ⟨x2, e2, h⟩ := asI_elim h
  obtain ⟨x3, e3, h⟩ := asI_elim h
  obtain ⟨x4, e4, h⟩ := asX_elim h
  obtain ⟨x9, e9, h⟩ := asI_elim h
  obtain ⟨x11, e11, h⟩ := asI_elim h
  exact use_ops hl (upd_step (upd_step (upd_step (upd_step (upd_step (upd_step (upd_step rfl rfl) e2) e3) e4) e9) rfl) e11) ((F47.q7 _ Post N2 N4 (List.getD env 1 undef) x2 x3 x4 x9 (List.getD env 10 undef) x11 H).mpr h)
noncomputable def F47.o8 : List Oper := opsIn (codeAt (bodyOf Try.f47) [.r, .l, .r, .l, .l, .r, .l, .l, .r, .r, .l, .l, .l, .l])
def F47.B8 (Post : Value → AHeap → Prop) (N2 : Value → Int → Int → Nat → Int → AHeap → Prop) (N4 : Value → Int → Int → Nat → Int → Value → Int → AHeap → Prop) (x1 : Value) (x2 : Int) (x3 : Int) (x4 : Nat) (x9 : Int) (x10 : Value) (x11 : Int) (H : AHeap) : Prop :=
  pif (decide ((x11 : Int) < 3)) (F47.B7 Post N2 N4 x1 x2 x3 x4 x9 x10 x11 H) (F47.B3 Post N2 x1 x2 x3 x4 x9 H)
def F47.B8.e (Post : Value → AHeap → Prop) (N2 : Value → Int → Int → Nat → Int → AHeap → Prop) (N4 : Value → Int → Int → Nat → Int → Value → Int → AHeap → Prop) : EP := fun env H => pif (Nat.beq (List.length env) 46) (asI .i64 (List.getD env 2 undef) (fun x2 => asI .i64 (List.getD env 3 undef) (fun x3 => asX (List.getD env 4 undef) (fun x4 => asI .i64 (List.getD env 9 undef) (fun x9 => asI .i64 (List.getD env 11 undef) (fun x11 => F47.B8 Post N2 N4 (List.getD env 1 undef) x2 x3 x4 x9 (List.getD env 10 undef) x11 H)))))) False
theorem F47.q8 (u : Nat → Value) (Post : Value → AHeap → Prop) (N2 : Value → Int → Int → Nat → Int → AHeap → Prop) (N4 : Value → Int → Int → Nat → Int → Value → Int → AHeap → Prop) (x1 : Value) (x2 : Int) (x3 : Int) (x4 : Nat) (x9 : Int) (x10 : Value) (x11 : Int) (H : AHeap) : aOps Try.prog T0 F47.o8 F47.o8 (mkEnv (upd (upd (upd (upd (upd (upd (upd u 1 x1) 2 (Value.int .i64 x2)) 3 (Value.int .i64 x3)) 4 (Value.pointer (some ⟨x4, 0, none⟩))) 9 (Value.int .i64 x9)) 10 x10) 11 (Value.int .i64 x11)) 46 0) H (fun env H => asB (aev env (.tmp 26)) (fun b => pif b ((F47.B7.e Post N2 N4) env H) ((F47.B3.e Post N2) env H))) = F47.B8 Post N2 N4 x1 x2 x3 x4 x9 x10 x11 H := by kernel_rfl
theorem F47.r8 (Post : Value → AHeap → Prop) (N2 : Value → Int → Int → Nat → Int → AHeap → Prop) (N4 : Value → Int → Int → Nat → Int → Value → Int → AHeap → Prop) : ∀ env H, F47.B8.e Post N2 N4 env H → aOps Try.prog T0 F47.o8 F47.o8 env H (fun env H => asB (aev env (.tmp 26)) (fun b => pif b ((F47.B7.e Post N2 N4) env H) ((F47.B3.e Post N2) env H))) := by
  intro env H h
  obtain ⟨hl, h⟩ := lenE h
  obtain ⟨x2, e2, h⟩ := asI_elim h
  obtain ⟨x3, e3, h⟩ := asI_elim h
  obtain ⟨x4, e4, h⟩ := asX_elim h
  obtain ⟨x9, e9, h⟩ := asI_elim h
  obtain ⟨x11, e11, h⟩ := asI_elim h
  exact use_ops hl (upd_step (upd_step (upd_step (upd_step (upd_step (upd_step (upd_step rfl rfl) e2) e3) e4) e9) rfl) e11) ((F47.q8 _ Post N2 N4 (List.getD env 1 undef) x2 x3 x4 x9 (List.getD env 10 undef) x11 H).mpr h)
def F47.L4 (Post : Value → AHeap → Prop) (N2 : Value → Int → Int → Nat → Int → AHeap → Prop) (x1 : Value) (x2 : Int) (x3 : Int) (x4 : Nat) (x9 : Int) (x10 : Value) (x11 : Int) (H : AHeap) : Prop :=
  ∃ (I : Value → Int → Int → Nat → Int → Value → Int → AHeap → Prop) (μ : Value → Int → Int → Nat → Int → Value → Int → AHeap → Nat), I x1 x2 x3 x4 x9 x10 x11 H ∧ ∀ x1' x2' x3' x4' x9' x10' x11' H', I x1' x2' x3' x4' x9' x10' x11' H' → F47.B8 Post N2 (fun x1'' x2'' x3'' x4'' x9'' x10'' x11'' H'' => I x1'' x2'' x3'' x4'' x9'' x10'' x11'' H'' ∧ μ x1'' x2'' x3'' x4'' x9'' x10'' x11'' H'' < μ x1' x2' x3' x4' x9' x10' x11' H') x1' x2' x3' x4' x9' x10' x11' H'
def F47.L4.e (Post : Value → AHeap → Prop) (N2 : Value → Int → Int → Nat → Int → AHeap → Prop) : EP := fun env H => pif (Nat.beq (List.length env) 46) (asI .i64 (List.getD env 2 undef) (fun x2 => asI .i64 (List.getD env 3 undef) (fun x3 => asX (List.getD env 4 undef) (fun x4 => asI .i64 (List.getD env 9 undef) (fun x9 => asI .i64 (List.getD env 11 undef) (fun x11 => F47.L4 Post N2 (List.getD env 1 undef) x2 x3 x4 x9 (List.getD env 10 undef) x11 H)))))) False
theorem F47.l4 (Post : Value → AHeap → Prop) (N2 : Value → Int → Int → Nat → Int → AHeap → Prop) {c : Code} {K : EP} {X : Nat → EP}
    (hb : ∀ N4 : Value → Int → Int → Nat → Int → Value → Int → AHeap → Prop, ∀ env H, (F47.B8.e Post N2 N4) env H → AW Try.prog T0 c env H (mkQ (F47.L4.ne N4) X (F47.ret Post))) :
    ∀ env H, F47.L4.e Post N2 env H → AW Try.prog T0 (.loop c) env H (mkQ K X (F47.ret Post)) := by
  intro env H h
  obtain ⟨hl, h⟩ := lenE h
  obtain ⟨x2, e2, h⟩ := asI_elim h
  obtain ⟨x3, e3, h⟩ := asI_elim h
  obtain ⟨x4, e4, h⟩ := asX_elim h
  obtain ⟨x9, e9, h⟩ := asI_elim h
  obtain ⟨x11, e11, h⟩ := asI_elim h
  obtain ⟨I, μ, h0, hI⟩ := h
  refine r_loop (fun n env H => pif (Nat.beq (List.length env) 46) (asI .i64 (List.getD env 2 undef) (fun x2 => asI .i64 (List.getD env 3 undef) (fun x3 => asX (List.getD env 4 undef) (fun x4 => asI .i64 (List.getD env 9 undef) (fun x9 => asI .i64 (List.getD env 11 undef) (fun x11 => (I (List.getD env 1 undef) x2 x3 x4 x9 (List.getD env 10 undef) x11 H) ∧ (μ (List.getD env 1 undef) x2 x3 x4 x9 (List.getD env 10 undef) x11 H = n))))))) False) ?_ env H ⟨μ (List.getD env 1 undef) x2 x3 x4 x9 (List.getD env 10 undef) x11 H, lenM hl (asI_mk' e2 (asI_mk' e3 (asX_mk' e4 (asI_mk' e9 (asI_mk' e11 (⟨h0, rfl⟩))))))⟩
  intro n env' H' h
  obtain ⟨hl', h⟩ := lenE h
  obtain ⟨x2', e2', h⟩ := asI_elim h
  obtain ⟨x3', e3', h⟩ := asI_elim h
  obtain ⟨x4', e4', h⟩ := asX_elim h
  obtain ⟨x9', e9', h⟩ := asI_elim h
  obtain ⟨x11', e11', h⟩ := asI_elim h
  obtain ⟨hi, hm⟩ := h
  refine r_imp (hb (fun x1'' x2'' x3'' x4'' x9'' x10'' x11'' H'' => I x1'' x2'' x3'' x4'' x9'' x10'' x11'' H'' ∧ μ x1'' x2'' x3'' x4'' x9'' x10'' x11'' H'' < n)) ?_ env' H' ?_
  · intro env H h
    obtain ⟨hl'', h⟩ := lenE h
    obtain ⟨x2'', e2'', h⟩ := asI_elim h
    obtain ⟨x3'', e3'', h⟩ := asI_elim h
    obtain ⟨x4'', e4'', h⟩ := asX_elim h
    obtain ⟨x9'', e9'', h⟩ := asI_elim h
    obtain ⟨x11'', e11'', h⟩ := asI_elim h
    obtain ⟨hi, hlt⟩ := h
    exact ⟨_, hlt, lenM hl'' (asI_mk' e2'' (asI_mk' e3'' (asX_mk' e4'' (asI_mk' e9'' (asI_mk' e11'' (⟨hi, rfl⟩))))))⟩
  · have h := hI (List.getD env' 1 undef) x2' x3' x4' x9' (List.getD env' 10 undef) x11' H' hi
    rw [hm] at h
    exact lenM hl' (asI_mk' e2' (asI_mk' e3' (asX_mk' e4' (asI_mk' e9' (asI_mk' e11' (h))))))
noncomputable def F47.o9 : List Oper := opsIn (codeAt (bodyOf Try.f47) [.r, .l, .r, .l, .l, .r, .l, .l, .r, .l])
def F47.B9 (Post : Value → AHeap → Prop) (N2 : Value → Int → Int → Nat → Int → AHeap → Prop) (x1 : Value) (x2 : Int) (x3 : Int) (x4 : Nat) (x9 : Int) (x10 : Value) (H : AHeap) : Prop :=
  F47.L4 Post N2 x1 x2 x3 x4 x9 x10 0 H
def F47.B9.e (Post : Value → AHeap → Prop) (N2 : Value → Int → Int → Nat → Int → AHeap → Prop) : EP := fun env H => pif (Nat.beq (List.length env) 46) (asI .i64 (List.getD env 2 undef) (fun x2 => asI .i64 (List.getD env 3 undef) (fun x3 => asX (List.getD env 4 undef) (fun x4 => asI .i64 (List.getD env 9 undef) (fun x9 => F47.B9 Post N2 (List.getD env 1 undef) x2 x3 x4 x9 (List.getD env 10 undef) H))))) False
theorem F47.q9 (u : Nat → Value) (Post : Value → AHeap → Prop) (N2 : Value → Int → Int → Nat → Int → AHeap → Prop) (x1 : Value) (x2 : Int) (x3 : Int) (x4 : Nat) (x9 : Int) (x10 : Value) (H : AHeap) : aOps Try.prog T0 F47.o9 F47.o9 (mkEnv (upd (upd (upd (upd (upd (upd u 1 x1) 2 (Value.int .i64 x2)) 3 (Value.int .i64 x3)) 4 (Value.pointer (some ⟨x4, 0, none⟩))) 9 (Value.int .i64 x9)) 10 x10) 46 0) H (F47.L4.e Post N2) = F47.B9 Post N2 x1 x2 x3 x4 x9 x10 H := by kernel_rfl
theorem F47.r9 (Post : Value → AHeap → Prop) (N2 : Value → Int → Int → Nat → Int → AHeap → Prop) : ∀ env H, F47.B9.e Post N2 env H → aOps Try.prog T0 F47.o9 F47.o9 env H (F47.L4.e Post N2) := by
  intro env H h
  obtain ⟨hl, h⟩ := lenE h
  obtain ⟨x2, e2, h⟩ := asI_elim h
  obtain ⟨x3, e3, h⟩ := asI_elim h
  obtain ⟨x4, e4, h⟩ := asX_elim h
  obtain ⟨x9, e9, h⟩ := asI_elim h
  exact use_ops hl (upd_step (upd_step (upd_step (upd_step (upd_step (upd_step rfl rfl) e2) e3) e4) e9) rfl) ((F47.q9 _ Post N2 (List.getD env 1 undef) x2 x3 x4 x9 (List.getD env 10 undef) H).mpr h)
noncomputable def F47.o10 : List Oper := opsIn (codeAt (bodyOf Try.f47) [.r, .l, .r, .l, .l, .r, .l, .l, .l])
def F47.B10 (Post : Value → AHeap → Prop) (N2 : Value → Int → Int → Nat → Int → AHeap → Prop) (x1 : Value) (x2 : Int) (x3 : Int) (x4 : Nat) (x9 : Int) (H : AHeap) : Prop :=
  ldI .i64 H x4 0 (fun v1 => ld1 H x4 1 (fun v2 => ld1 H x4 1 (fun v3 => idxK v3 x2 2 (fun b4 o5 => bndK x9 2 (ldI .i64 H b4 (o5 + Int.toNat x9 * 1) (fun v6 => AC Try.prog T0 57 [(Value.agg ⟨[(Value.int .i64 v1), v2]⟩), (Value.int .i64 v6)] H (fun v7 H8 => F47.B9 Post N2 x1 x2 x3 x4 x9 v7 H8)))))))
def F47.B10.e (Post : Value → AHeap → Prop) (N2 : Value → Int → Int → Nat → Int → AHeap → Prop) : EP := fun env H => pif (Nat.beq (List.length env) 46) (asI .i64 (List.getD env 2 undef) (fun x2 => asI .i64 (List.getD env 3 undef) (fun x3 => asX (List.getD env 4 undef) (fun x4 => asI .i64 (List.getD env 9 undef) (fun x9 => F47.B10 Post N2 (List.getD env 1 undef) x2 x3 x4 x9 H))))) False
theorem F47.q10 (u : Nat → Value) (Post : Value → AHeap → Prop) (N2 : Value → Int → Int → Nat → Int → AHeap → Prop) (x1 : Value) (x2 : Int) (x3 : Int) (x4 : Nat) (x9 : Int) (H : AHeap) : aOpsD Try.prog T0 F47.o10 (opsOf F47.o10 [(0, false), (1, false), (2, false), (3, false), (4, false), (5, false), (6, false), (7, false), (8, false), (9, false)]) (mkEnv (upd (upd (upd (upd (upd u 1 x1) 2 (Value.int .i64 x2)) 3 (Value.int .i64 x3)) 4 (Value.pointer (some ⟨x4, 0, none⟩))) 9 (Value.int .i64 x9)) 46 0) H (F47.B9.e Post N2) = F47.B10 Post N2 x1 x2 x3 x4 x9 H := by kernel_rfl
theorem F47.r10 (Post : Value → AHeap → Prop) (N2 : Value → Int → Int → Nat → Int → AHeap → Prop) : ∀ env H, F47.B10.e Post N2 env H → aOpsD Try.prog T0 F47.o10 (opsOf F47.o10 [(0, false), (1, false), (2, false), (3, false), (4, false), (5, false), (6, false), (7, false), (8, false), (9, false)]) env H (F47.B9.e Post N2) := by
  intro env H h
  obtain ⟨hl, h⟩ := lenE h
  obtain ⟨x2, e2, h⟩ := asI_elim h
  obtain ⟨x3, e3, h⟩ := asI_elim h
  obtain ⟨x4, e4, h⟩ := asX_elim h
  obtain ⟨x9, e9, h⟩ := asI_elim h
  exact use_opsD hl (upd_step (upd_step (upd_step (upd_step (upd_step rfl rfl) e2) e3) e4) e9) ((F47.q10 _ Post N2 (List.getD env 1 undef) x2 x3 x4 x9 H).mpr h)
noncomputable def F47.o11 : List Oper := opsIn (codeAt (bodyOf Try.f47) [.r, .l, .r, .l, .l, .l, .l])
def F47.B11 (Post : Value → AHeap → Prop) (N2 : Value → Int → Int → Nat → Int → AHeap → Prop) (x1 : Value) (x2 : Int) (x3 : Int) (x4 : Nat) (x9 : Int) (H : AHeap) : Prop :=
  pif (decide ((x9 : Int) < 2)) (F47.B10 Post N2 x1 x2 x3 x4 x9 H) (F47.B1 Post H)
def F47.B11.e (Post : Value → AHeap → Prop) (N2 : Value → Int → Int → Nat → Int → AHeap → Prop) : EP := fun env H => pif (Nat.beq (List.length env) 46) (asI .i64 (List.getD env 2 undef) (fun x2 => asI .i64 (List.getD env 3 undef) (fun x3 => asX (List.getD env 4 undef) (fun x4 => asI .i64 (List.getD env 9 undef) (fun x9 => F47.B11 Post N2 (List.getD env 1 undef) x2 x3 x4 x9 H))))) False
theorem F47.q11 (u : Nat → Value) (Post : Value → AHeap → Prop) (N2 : Value → Int → Int → Nat → Int → AHeap → Prop) (x1 : Value) (x2 : Int) (x3 : Int) (x4 : Nat) (x9 : Int) (H : AHeap) : aOps Try.prog T0 F47.o11 F47.o11 (mkEnv (upd (upd (upd (upd (upd u 1 x1) 2 (Value.int .i64 x2)) 3 (Value.int .i64 x3)) 4 (Value.pointer (some ⟨x4, 0, none⟩))) 9 (Value.int .i64 x9)) 46 0) H (fun env H => asB (aev env (.tmp 13)) (fun b => pif b ((F47.B10.e Post N2) env H) ((F47.B1.e Post) env H))) = F47.B11 Post N2 x1 x2 x3 x4 x9 H := by kernel_rfl
theorem F47.r11 (Post : Value → AHeap → Prop) (N2 : Value → Int → Int → Nat → Int → AHeap → Prop) : ∀ env H, F47.B11.e Post N2 env H → aOps Try.prog T0 F47.o11 F47.o11 env H (fun env H => asB (aev env (.tmp 13)) (fun b => pif b ((F47.B10.e Post N2) env H) ((F47.B1.e Post) env H))) := by
  intro env H h
  obtain ⟨hl, h⟩ := lenE h
  obtain ⟨x2, e2, h⟩ := asI_elim h
  obtain ⟨x3, e3, h⟩ := asI_elim h
  obtain ⟨x4, e4, h⟩ := asX_elim h
  obtain ⟨x9, e9, h⟩ := asI_elim h
  exact use_ops hl (upd_step (upd_step (upd_step (upd_step (upd_step rfl rfl) e2) e3) e4) e9) ((F47.q11 _ Post N2 (List.getD env 1 undef) x2 x3 x4 x9 H).mpr h)
def F47.L2 (Post : Value → AHeap → Prop) (x1 : Value) (x2 : Int) (x3 : Int) (x4 : Nat) (x9 : Int) (H : AHeap) : Prop :=
  ∃ (I : Value → Int → Int → Nat → Int → AHeap → Prop) (μ : Value → Int → Int → Nat → Int → AHeap → Nat), I x1 x2 x3 x4 x9 H ∧ ∀ x1' x2' x3' x4' x9' H', I x1' x2' x3' x4' x9' H' → F47.B11 Post (fun x1'' x2'' x3'' x4'' x9'' H'' => I x1'' x2'' x3'' x4'' x9'' H'' ∧ μ x1'' x2'' x3'' x4'' x9'' H'' < μ x1' x2' x3' x4' x9' H') x1' x2' x3' x4' x9' H'
def F47.L2.e (Post : Value → AHeap → Prop) : EP := fun env H => pif (Nat.beq (List.length env) 46) (asI .i64 (List.getD env 2 undef) (fun x2 => asI .i64 (List.getD env 3 undef) (fun x3 => asX (List.getD env 4 undef) (fun x4 => asI .i64 (List.getD env 9 undef) (fun x9 => F47.L2 Post (List.getD env 1 undef) x2 x3 x4 x9 H))))) False
theorem F47.l2 (Post : Value → AHeap → Prop) {c : Code} {K : EP} {X : Nat → EP}
    (hb : ∀ N2 : Value → Int → Int → Nat → Int → AHeap → Prop, ∀ env H, (F47.B11.e Post N2) env H → AW Try.prog T0 c env H (mkQ (F47.L2.ne N2) X (F47.ret Post))) :
    ∀ env H, F47.L2.e Post env H → AW Try.prog T0 (.loop c) env H (mkQ K X (F47.ret Post)) := by
  intro env H h
  obtain ⟨hl, h⟩ := lenE h
  obtain ⟨x2, e2, h⟩ := asI_elim h
  obtain ⟨x3, e3, h⟩ := asI_elim h
  obtain ⟨x4, e4, h⟩ := asX_elim h
  obtain ⟨x9, e9, h⟩ := asI_elim h
  obtain ⟨I, μ, h0, hI⟩ := h
  refine r_loop (fun n env H => pif (Nat.beq (List.length env) 46) (asI .i64 (List.getD env 2 undef) (fun x2 => asI .i64 (List.getD env 3 undef) (fun x3 => asX (List.getD env 4 undef) (fun x4 => asI .i64 (List.getD env 9 undef) (fun x9 => (I (List.getD env 1 undef) x2 x3 x4 x9 H) ∧ (μ (List.getD env 1 undef) x2 x3 x4 x9 H = n)))))) False) ?_ env H ⟨μ (List.getD env 1 undef) x2 x3 x4 x9 H, lenM hl (asI_mk' e2 (asI_mk' e3 (asX_mk' e4 (asI_mk' e9 (⟨h0, rfl⟩)))))⟩
  intro n env' H' h
  obtain ⟨hl', h⟩ := lenE h
  obtain ⟨x2', e2', h⟩ := asI_elim h
  obtain ⟨x3', e3', h⟩ := asI_elim h
  obtain ⟨x4', e4', h⟩ := asX_elim h
  obtain ⟨x9', e9', h⟩ := asI_elim h
  obtain ⟨hi, hm⟩ := h
  refine r_imp (hb (fun x1'' x2'' x3'' x4'' x9'' H'' => I x1'' x2'' x3'' x4'' x9'' H'' ∧ μ x1'' x2'' x3'' x4'' x9'' H'' < n)) ?_ env' H' ?_
  · intro env H h
    obtain ⟨hl'', h⟩ := lenE h
    obtain ⟨x2'', e2'', h⟩ := asI_elim h
    obtain ⟨x3'', e3'', h⟩ := asI_elim h
    obtain ⟨x4'', e4'', h⟩ := asX_elim h
    obtain ⟨x9'', e9'', h⟩ := asI_elim h
    obtain ⟨hi, hlt⟩ := h
    exact ⟨_, hlt, lenM hl'' (asI_mk' e2'' (asI_mk' e3'' (asX_mk' e4'' (asI_mk' e9'' (⟨hi, rfl⟩)))))⟩
  · have h := hI (List.getD env' 1 undef) x2' x3' x4' x9' H' hi
    rw [hm] at h
    exact lenM hl' (asI_mk' e2' (asI_mk' e3' (asX_mk' e4' (asI_mk' e9' (h)))))
noncomputable def F47.o12 : List Oper := opsIn (codeAt (bodyOf Try.f47) [.r, .l, .l])
def F47.B12 (Post : Value → AHeap → Prop) (x1 : Value) (x2 : Int) (x3 : Int) (x4 : Nat) (H : AHeap) : Prop :=
  F47.L2 Post x1 x2 x3 x4 0 H
def F47.B12.e (Post : Value → AHeap → Prop) : EP := fun env H => pif (Nat.beq (List.length env) 46) (asI .i64 (List.getD env 2 undef) (fun x2 => asI .i64 (List.getD env 3 undef) (fun x3 => asX (List.getD env 4 undef) (fun x4 => F47.B12 Post (List.getD env 1 undef) x2 x3 x4 H)))) False
theorem F47.q12 (u : Nat → Value) (Post : Value → AHeap → Prop) (x1 : Value) (x2 : Int) (x3 : Int) (x4 : Nat) (H : AHeap) : aOps Try.prog T0 F47.o12 F47.o12 (mkEnv (upd (upd (upd (upd u 1 x1) 2 (Value.int .i64 x2)) 3 (Value.int .i64 x3)) 4 (Value.pointer (some ⟨x4, 0, none⟩))) 46 0) H (F47.L2.e Post) = F47.B12 Post x1 x2 x3 x4 H := by kernel_rfl
theorem F47.r12 (Post : Value → AHeap → Prop) : ∀ env H, F47.B12.e Post env H → aOps Try.prog T0 F47.o12 F47.o12 env H (F47.L2.e Post) := by
  intro env H h
  obtain ⟨hl, h⟩ := lenE h
  obtain ⟨x2, e2, h⟩ := asI_elim h
  obtain ⟨x3, e3, h⟩ := asI_elim h
  obtain ⟨x4, e4, h⟩ := asX_elim h
  exact use_ops hl (upd_step (upd_step (upd_step (upd_step rfl rfl) e2) e3) e4) ((F47.q12 _ Post (List.getD env 1 undef) x2 x3 x4 H).mpr h)
noncomputable def F47.o13 : List Oper := opsIn (codeAt (bodyOf Try.f47) [.l])
def F47.B13 (Post : Value → AHeap → Prop) (x0a : Int) (x0b : Value) (x1 : Value) (x2 : Int) (x3 : Int) (H : AHeap) : Prop :=
  newK H [(Value.int .i64 x0a), x0b] 31 (fun b1 H2 => F47.B12 Post x1 x2 x3 b1 H2)
def F47.B13.e (Post : Value → AHeap → Prop) : EP := fun env H => pif (Nat.beq (List.length env) 46) (as_iv (List.getD env 0 undef) (fun x0a x0b => asI .i64 (List.getD env 2 undef) (fun x2 => asI .i64 (List.getD env 3 undef) (fun x3 => F47.B13 Post x0a x0b (List.getD env 1 undef) x2 x3 H)))) False
theorem F47.q13 (u : Nat → Value) (Post : Value → AHeap → Prop) (x0a : Int) (x0b : Value) (x1 : Value) (x2 : Int) (x3 : Int) (H : AHeap) : aOps Try.prog T0 F47.o13 F47.o13 (mkEnv (upd (upd (upd (upd u 0 (Value.agg ⟨[(Value.int .i64 x0a), x0b]⟩)) 1 x1) 2 (Value.int .i64 x2)) 3 (Value.int .i64 x3)) 46 0) H (F47.B12.e Post) = F47.B13 Post x0a x0b x1 x2 x3 H := by kernel_rfl
theorem F47.r13 (Post : Value → AHeap → Prop) : ∀ env H, F47.B13.e Post env H → aOps Try.prog T0 F47.o13 F47.o13 env H (F47.B12.e Post) := by
  intro env H h
  obtain ⟨hl, h⟩ := lenE h
  obtain ⟨x0a, x0b, e0, h⟩ := as_iv_elim h
  obtain ⟨x2, e2, h⟩ := asI_elim h
  obtain ⟨x3, e3, h⟩ := asI_elim h
  exact use_ops hl (upd_step (upd_step (upd_step (upd_step rfl e0) rfl) e2) e3) ((F47.q13 _ Post x0a x0b (List.getD env 1 undef) x2 x3 H).mpr h)
noncomputable def F47.code : Code := (.seq (.region 0 ⟨F47.o13⟩ false) (.seq (.seq (.region 1 ⟨F47.o12⟩ false) (.block 0 (.loop (.seq (.seq (.region 2 ⟨F47.o11⟩ false) (.cond (.tmp 13) .skip (.exit 0))) (.seq (.block 1 (.seq (.region 4 ⟨F47.o10⟩ true) (.seq (.region 5 ⟨F47.o9⟩ false) (.block 2 (.loop (.seq (.seq (.region 6 ⟨F47.o8⟩ false) (.cond (.tmp 26) .skip (.exit 2))) (.seq (.block 3 (.seq (.region 8 ⟨F47.o7⟩ false) (.cond (.tmp 45) (.seq (.region 9 ⟨F47.o6⟩ false) .ret) .skip))) (.region 7 ⟨F47.o5⟩ false)))))))) (.region 3 ⟨F47.o3⟩ false)))))) (.seq (.region 10 ⟨F47.o1⟩ false) .ret)))
theorem F47.body : Try.f47.body = some F47.code := by kernel_rfl
theorem F47.main (Post : Value → AHeap → Prop) : ∀ env H, F47.B13.e Post env H → AW Try.prog T0 F47.code env H (mkQ (F47.ret Post) (fun _ _ _ => False) (F47.ret Post)) :=
  (r_seq (r_region T0_ok (F47.r13 Post)) (r_seq (r_seq (r_region T0_ok (F47.r12 Post)) (r_block (F47.l2 Post (fun N2 => (r_seq (r_seq (r_region T0_ok (F47.r11 Post N2)) (r_cond rfl r_skip (r_exit (fun _ _ h => h)))) (r_seq (r_block (r_seq (r_draw T0_ok mixed [(0, false), (1, false), (2, false), (3, false), (4, false), (5, false), (6, false), (7, false), (8, false), (9, false)] (by kernel_rfl) (F47.r10 Post N2)) (r_seq (r_region T0_ok (F47.r9 Post N2)) (r_block (F47.l4 Post N2 (fun N4 => (r_seq (r_seq (r_region T0_ok (F47.r8 Post N2 N4)) (r_cond rfl r_skip (r_exit (fun _ _ h => h)))) (r_seq (r_block (r_seq (r_region T0_ok (F47.r7 Post N2 N4)) (r_cond rfl (r_seq (r_region T0_ok (F47.r6 Post N2 N4)) r_ret) r_skip))) (r_region T0_ok (F47.r5 Post N2 N4)))))))))) (r_region T0_ok (F47.r3 Post N2)))))))) (r_seq (r_region T0_ok (F47.r1 Post)) r_ret)))
theorem F47.ac (Post : Value → AHeap → Prop) (x0a : Int) (x0b : Value) (x1 : Value) (x2 : Int) (x3 : Int) (H : AHeap) (h : F47.B13 Post x0a x0b x1 x2 x3 H) : AC Try.prog T0 47 [(Value.agg ⟨[(Value.int .i64 x0a), x0b]⟩), x1, (Value.int .i64 x2), (Value.int .i64 x3)] H Post :=
  r_fn T0_ok (c := F47.code) (n := 46) Try.func47 F47.body (by kernel_rfl) (F47.main Post) (lenM (by kernel_rfl) (as_iv_mk' (by kernel_rfl) (asI_mk' (by kernel_rfl) (asI_mk' (by kernel_rfl) (h)))))

-- loop.example/g01329/impl.areEdges
noncomputable def F48.ret (Post : Value → AHeap → Prop) : EP := retE T0 20 Try.f48 Post
noncomputable def F48.o1 : List Oper := opsIn (codeAt (bodyOf Try.f48) [.r, .l])
def F48.B1 (Post : Value → AHeap → Prop) (x1 : Value) (x2 : Nat) (H : AHeap) : Prop :=
  ldI .i64 H x2 0 (fun v1 => AC Try.prog T0 58 [(Value.int .i64 v1)] H (fun v2 H3 => asB v2 (fun v4 => pif v4 (ldI .i64 H3 x2 0 (fun v5 => AC Try.prog T0 26 [x1] H3 (fun v6 H7 => asI .i64 v6 (fun v8 => (AHeap.le H3 H7) ∧ (pif ((v8 : Int) == (IntKind.i64.wrap (Int.tdiv (IntKind.i64.wrap (3 * v5)) 2))) (AC Try.prog T0 49 [x1, (Value.func (.func 59) ⟨[]⟩ ⟨[(Value.pointer (some ⟨x2, 0, none⟩))]⟩)] H7 (fun v9 H10 => asB v9 (fun v11 => Post (Value.bool v11) H10))) (Post (Value.bool false) H7)))))) (Post (Value.bool false) H3))))
def F48.B1.e (Post : Value → AHeap → Prop) : EP := fun env H => pif (Nat.beq (List.length env) 20) (asX (List.getD env 2 undef) (fun x2 => F48.B1 Post (List.getD env 1 undef) x2 H)) False
theorem F48.q1 (u : Nat → Value) (Post : Value → AHeap → Prop) (x1 : Value) (x2 : Nat) (H : AHeap) : aOpsD Try.prog T0 F48.o1 (opsOf F48.o1 [(0, false), (1, false), (2, false), (3, false), (5, false), (6, false), (7, false), (4, true), (8, false), (9, false), (10, false), (11, false), (12, false), (13, false), (14, false), (15, false)]) (mkEnv (upd (upd u 1 x1) 2 (Value.pointer (some ⟨x2, 0, none⟩))) 20 0) H (F48.ret Post) = F48.B1 Post x1 x2 H := by kernel_rfl
theorem F48.r1 (Post : Value → AHeap → Prop) : ∀ env H, F48.B1.e Post env H → aOpsD Try.prog T0 F48.o1 (opsOf F48.o1 [(0, false), (1, false), (2, false), (3, false), (5, false), (6, false), (7, false), (4, true), (8, false), (9, false), (10, false), (11, false), (12, false), (13, false), (14, false), (15, false)]) env H (F48.ret Post) := by
  intro env H h
  obtain ⟨hl, h⟩ := lenE h
  obtain ⟨x2, e2, h⟩ := asX_elim h
  exact use_opsD hl (upd_step (upd_step rfl rfl) e2) ((F48.q1 _ Post (List.getD env 1 undef) x2 H).mpr h)
noncomputable def F48.o2 : List Oper := opsIn (codeAt (bodyOf Try.f48) [.l])
def F48.B2 (Post : Value → AHeap → Prop) (x0 : Int) (x1 : Value) (H : AHeap) : Prop :=
  newK H [(Value.int .i64 x0)] 2 (fun b1 H2 => F48.B1 Post x1 b1 H2)
def F48.B2.e (Post : Value → AHeap → Prop) : EP := fun env H => pif (Nat.beq (List.length env) 20) (asI .i64 (List.getD env 0 undef) (fun x0 => F48.B2 Post x0 (List.getD env 1 undef) H)) False
theorem F48.q2 (u : Nat → Value) (Post : Value → AHeap → Prop) (x0 : Int) (x1 : Value) (H : AHeap) : aOps Try.prog T0 F48.o2 F48.o2 (mkEnv (upd (upd u 0 (Value.int .i64 x0)) 1 x1) 20 0) H (F48.B1.e Post) = F48.B2 Post x0 x1 H := by kernel_rfl
theorem F48.r2 (Post : Value → AHeap → Prop) : ∀ env H, F48.B2.e Post env H → aOps Try.prog T0 F48.o2 F48.o2 env H (F48.B1.e Post) := by
  intro env H h
  obtain ⟨hl, h⟩ := lenE h
  obtain ⟨x0, e0, h⟩ := asI_elim h
  exact use_ops hl (upd_step (upd_step rfl e0) rfl) ((F48.q2 _ Post x0 (List.getD env 1 undef) H).mpr h)
noncomputable def F48.code : Code := (.seq (.region 0 ⟨F48.o2⟩ false) (.seq (.region 1 ⟨F48.o1⟩ true) .ret))
theorem F48.body : Try.f48.body = some F48.code := by kernel_rfl
theorem F48.main (Post : Value → AHeap → Prop) : ∀ env H, F48.B2.e Post env H → AW Try.prog T0 F48.code env H (mkQ (F48.ret Post) (fun _ _ _ => False) (F48.ret Post)) :=
  (r_seq (r_region T0_ok (F48.r2 Post)) (r_seq (r_draw T0_ok mixed [(0, false), (1, false), (2, false), (3, false), (5, false), (6, false), (7, false), (4, true), (8, false), (9, false), (10, false), (11, false), (12, false), (13, false), (14, false), (15, false)] (by kernel_rfl) (F48.r1 Post)) r_ret))
theorem F48.ac (Post : Value → AHeap → Prop) (x0 : Int) (x1 : Value) (H : AHeap) (h : F48.B2 Post x0 x1 H) : AC Try.prog T0 48 [(Value.int .i64 x0), x1] H Post :=
  r_fn T0_ok (c := F48.code) (n := 20) Try.func48 F48.body (by kernel_rfl) (F48.main Post) (lenM (by kernel_rfl) (asI_mk' (by kernel_rfl) (h)))

-- loop.example/g01329/impl.areAll[loop.example/g01329/impl.Edge]
noncomputable def F49.ret (Post : Value → AHeap → Prop) : EP := retE T0 9 Try.f49 Post
noncomputable def F49.o1 : List Oper := opsIn (codeAt (bodyOf Try.f49) [.r, .l])
def F49.B1 (Post : Value → AHeap → Prop) (x0 : Value) (x3 : Nat) (H : AHeap) : Prop :=
  AC Try.prog T0 60 [x0, (Value.func (.func 61) ⟨[]⟩ ⟨[(Value.pointer (some ⟨x3, 0, none⟩))]⟩)] H (fun v1 H2 => asB v1 (fun v3 => Post (Value.bool (!v3)) H2))
def F49.B1.e (Post : Value → AHeap → Prop) : EP := fun env H => pif (Nat.beq (List.length env) 9) (asX (List.getD env 3 undef) (fun x3 => F49.B1 Post (List.getD env 0 undef) x3 H)) False
theorem F49.q1 (u : Nat → Value) (Post : Value → AHeap → Prop) (x0 : Value) (x3 : Nat) (H : AHeap) : aOps Try.prog T0 F49.o1 F49.o1 (mkEnv (upd (upd u 0 x0) 3 (Value.pointer (some ⟨x3, 0, none⟩))) 9 0) H (F49.ret Post) = F49.B1 Post x0 x3 H := by kernel_rfl
theorem F49.r1 (Post : Value → AHeap → Prop) : ∀ env H, F49.B1.e Post env H → aOps Try.prog T0 F49.o1 F49.o1 env H (F49.ret Post) := by
  intro env H h
  obtain ⟨hl, h⟩ := lenE h
  obtain ⟨x3, e3, h⟩ := asX_elim h
  exact use_ops hl (upd_step (upd_step rfl rfl) e3) ((F49.q1 _ Post (List.getD env 0 undef) x3 H).mpr h)
noncomputable def F49.o2 : List Oper := opsIn (codeAt (bodyOf Try.f49) [.l])
def F49.B2 (Post : Value → AHeap → Prop) (x0 : Value) (x1 : Value) (H : AHeap) : Prop :=
  pif (Value.oneCell' x1) (newK H [x1] 75 (fun b1 H2 => F49.B1 Post x0 b1 H2)) False
def F49.B2.e (Post : Value → AHeap → Prop) : EP := fun env H => pif (Nat.beq (List.length env) 9) (F49.B2 Post (List.getD env 0 undef) (List.getD env 1 undef) H) False
theorem F49.q2 (u : Nat → Value) (Post : Value → AHeap → Prop) (x0 : Value) (x1 : Value) (H : AHeap) : aOps Try.prog T0 F49.o2 F49.o2 (mkEnv (upd (upd u 0 x0) 1 x1) 9 0) H (F49.B1.e Post) = F49.B2 Post x0 x1 H := by kernel_rfl
theorem F49.r2 (Post : Value → AHeap → Prop) : ∀ env H, F49.B2.e Post env H → aOps Try.prog T0 F49.o2 F49.o2 env H (F49.B1.e Post) := by
  intro env H h
  obtain ⟨hl, h⟩ := lenE h
  exact use_ops hl (upd_step (upd_step rfl rfl) rfl) ((F49.q2 _ Post (List.getD env 0 undef) (List.getD env 1 undef) H).mpr h)
noncomputable def F49.code : Code := (.seq (.region 0 ⟨F49.o2⟩ false) (.seq (.region 1 ⟨F49.o1⟩ false) .ret))
theorem F49.body : Try.f49.body = some F49.code := by kernel_rfl
theorem F49.main (Post : Value → AHeap → Prop) : ∀ env H, F49.B2.e Post env H → AW Try.prog T0 F49.code env H (mkQ (F49.ret Post) (fun _ _ _ => False) (F49.ret Post)) :=
  (r_seq (r_region T0_ok (F49.r2 Post)) (r_seq (r_region T0_ok (F49.r1 Post)) r_ret))
theorem F49.ac (Post : Value → AHeap → Prop) (x0 : Value) (x1 : Value) (H : AHeap) (h : F49.B2 Post x0 x1 H) : AC Try.prog T0 49 [x0, x1] H Post :=
  r_fn T0_ok (c := F49.code) (n := 9) Try.func49 F49.body (by kernel_rfl) (F49.main Post) (lenM (by kernel_rfl) (h))

-- loop.example/g01329/impl.IsGraph$1
noncomputable def F50.ret (Post : Value → AHeap → Prop) : EP := retE T0 8 Try.f50 Post
noncomputable def F50.o1 : List Oper := opsIn (codeAt (bodyOf Try.f50) [.r, .l])
def F50.B1 (Post : Value → AHeap → Prop) (x1 : Nat) (H : AHeap) : Prop :=
  ldI .i64 H x1 0 (fun v1 => ldI .i64 H x1 1 (fun v2 => Post (Value.bool (decide ((v1 : Int) < v2))) H))
def F50.B1.e (Post : Value → AHeap → Prop) : EP := fun env H => pif (Nat.beq (List.length env) 8) (asX (List.getD env 1 undef) (fun x1 => F50.B1 Post x1 H)) False
theorem F50.q1 (u : Nat → Value) (Post : Value → AHeap → Prop) (x1 : Nat) (H : AHeap) : aOps Try.prog T0 F50.o1 F50.o1 (mkEnv (upd u 1 (Value.pointer (some ⟨x1, 0, none⟩))) 8 0) H (F50.ret Post) = F50.B1 Post x1 H := by kernel_rfl
theorem F50.r1 (Post : Value → AHeap → Prop) : ∀ env H, F50.B1.e Post env H → aOps Try.prog T0 F50.o1 F50.o1 env H (F50.ret Post) := by
  intro env H h
  obtain ⟨hl, h⟩ := lenE h
  obtain ⟨x1, e1, h⟩ := asX_elim h
  exact use_ops hl (upd_step rfl e1) ((F50.q1 _ Post x1 H).mpr h)
noncomputable def F50.o2 : List Oper := opsIn (codeAt (bodyOf Try.f50) [.l])
def F50.B2 (Post : Value → AHeap → Prop) (x0a : Int) (x0b : Int) (H : AHeap) : Prop :=
  newK H [(Value.int .i64 x0a), (Value.int .i64 x0b)] 55 (fun b1 H2 => F50.B1 Post b1 H2)
def F50.B2.e (Post : Value → AHeap → Prop) : EP := fun env H => pif (Nat.beq (List.length env) 8) (as_ii (List.getD env 0 undef) (fun x0a x0b => F50.B2 Post x0a x0b H)) False
theorem F50.q2 (u : Nat → Value) (Post : Value → AHeap → Prop) (x0a : Int) (x0b : Int) (H : AHeap) : aOps Try.prog T0 F50.o2 F50.o2 (mkEnv (upd u 0 (Value.agg ⟨[(Value.int .i64 x0a), (Value.int .i64 x0b)]⟩)) 8 0) H (F50.B1.e Post) = F50.B2 Post x0a x0b H := by kernel_rfl
theorem F50.r2 (Post : Value → AHeap → Prop) : ∀ env H, F50.B2.e Post env H → aOps Try.prog T0 F50.o2 F50.o2 env H (F50.B1.e Post) := by
  intro env H h
  obtain ⟨hl, h⟩ := lenE h
  obtain ⟨x0a, x0b, e0, h⟩ := as_ii_elim h
  exact use_ops hl (upd_step rfl e0) ((F50.q2 _ Post x0a x0b H).mpr h)
noncomputable def F50.code : Code := (.seq (.region 0 ⟨F50.o2⟩ false) (.seq (.region 1 ⟨F50.o1⟩ false) .ret))
theorem F50.body : Try.f50.body = some F50.code := by kernel_rfl
theorem F50.main (Post : Value → AHeap → Prop) : ∀ env H, F50.B2.e Post env H → AW Try.prog T0 F50.code env H (mkQ (F50.ret Post) (fun _ _ _ => False) (F50.ret Post)) :=
  (r_seq (r_region T0_ok (F50.r2 Post)) (r_seq (r_region T0_ok (F50.r1 Post)) r_ret))
theorem F50.ac (Post : Value → AHeap → Prop) (x0a : Int) (x0b : Int) (H : AHeap) (h : F50.B2 Post x0a x0b H) : AC Try.prog T0 50 [(Value.agg ⟨[(Value.int .i64 x0a), (Value.int .i64 x0b)]⟩)] H Post :=
  r_fn T0_ok (c := F50.code) (n := 8) Try.func50 F50.body (by kernel_rfl) (F50.main Post) (lenM (by kernel_rfl) (as_ii_mk' (by kernel_rfl) (h)))

-- slices.IsSortedFunc[[]loop.example/g01329/impl.Edge,loop.example/g01329/impl.Edge]
noncomputable def F51.ret (Post : Value → AHeap → Prop) : EP := retE T0 25 Try.f51 Post
noncomputable def F51.o1 : List Oper := opsIn (codeAt (bodyOf Try.f51) [.r, .r, .l])
def F51.B1 (Post : Value → AHeap → Prop) (H : AHeap) : Prop :=
  Post (Value.bool true) H
def F51.B1.e (Post : Value → AHeap → Prop) : EP := fun env H => pif (Nat.beq (List.length env) 25) (F51.B1 Post H) False
theorem F51.q1 (u : Nat → Value) (Post : Value → AHeap → Prop) (H : AHeap) : aOps Try.prog T0 F51.o1 F51.o1 (mkEnv u 25 0) H (F51.ret Post) = F51.B1 Post H := by kernel_rfl
theorem F51.r1 (Post : Value → AHeap → Prop) : ∀ env H, F51.B1.e Post env H → aOps Try.prog T0 F51.o1 F51.o1 env H (F51.ret Post) := by
  intro env H h
  obtain ⟨hl, h⟩ := lenE h
  exact use_ops hl rfl ((F51.q1 _ Post H).mpr h)
def F51.L2.ne (N : Value → Value → Int → AHeap → Prop) : EP := fun env H => pif (Nat.beq (List.length env) 25) (asI .i64 (List.getD env 5 undef) (fun x5 => N (List.getD env 0 undef) (List.getD env 1 undef) x5 H)) False
noncomputable def F51.o3 : List Oper := opsIn (codeAt (bodyOf Try.f51) [.r, .l, .r, .l, .l, .r, .r])
def F51.B3 (Post : Value → AHeap → Prop) (N2 : Value → Value → Int → AHeap → Prop) (x0 : Value) (x1 : Value) (x5 : Int) (H : AHeap) : Prop :=
  N2 x0 x1 (IntKind.i64.wrap (x5 - 1)) H
def F51.B3.e (Post : Value → AHeap → Prop) (N2 : Value → Value → Int → AHeap → Prop) : EP := fun env H => pif (Nat.beq (List.length env) 25) (asI .i64 (List.getD env 5 undef) (fun x5 => F51.B3 Post N2 (List.getD env 0 undef) (List.getD env 1 undef) x5 H)) False
theorem F51.q3 (u : Nat → Value) (Post : Value → AHeap → Prop) (N2 : Value → Value → Int → AHeap → Prop) (x0 : Value) (x1 : Value) (x5 : Int) (H : AHeap) : aOps Try.prog T0 F51.o3 F51.o3 (mkEnv (upd (upd (upd u 0 x0) 1 x1) 5 (Value.int .i64 x5)) 25 0) H (F51.L2.ne N2) = F51.B3 Post N2 x0 x1 x5 H := by kernel_rfl
theorem F51.r3 (Post : Value → AHeap → Prop) (N2 : Value → Value → Int → AHeap → Prop) : ∀ env H, F51.B3.e Post N2 env H → aOps Try.prog T0 F51.o3 F51.o3 env H (F51.L2.ne N2) := by
  intro env H h
  obtain ⟨hl, h⟩ := lenE h
  obtain ⟨x5, e5, h⟩ := asI_elim h
  exact use_ops hl (upd_step (upd_step (upd_step rfl rfl) rfl) e5) ((F51.q3 _ Post N2 (List.getD env 0 undef) (List.getD env 1 undef) x5 H).mpr h)
noncomputable def F51.o4 : List Oper := opsIn (codeAt (bodyOf Try.f51) [.r, .l, .r, .l, .l, .r, .l, .l, .r, .l, .l])
def F51.B4 (Post : Value → AHeap → Prop) (N2 : Value → Value → Int → AHeap → Prop) (H : AHeap) : Prop :=
  Post (Value.bool false) H
def F51.B4.e (Post : Value → AHeap → Prop) (N2 : Value → Value → Int → AHeap → Prop) : EP := fun env H => pif (Nat.beq (List.length env) 25) (F51.B4 Post N2 H) False
theorem F51.q4 (u : Nat → Value) (Post : Value → AHeap → Prop) (N2 : Value → Value → Int → AHeap → Prop) (H : AHeap) : aOps Try.prog T0 F51.o4 F51.o4 (mkEnv u 25 0) H (F51.ret Post) = F51.B4 Post N2 H := by kernel_rfl
theorem F51.r4 (Post : Value → AHeap → Prop) (N2 : Value → Value → Int → AHeap → Prop) : ∀ env H, F51.B4.e Post N2 env H → aOps Try.prog T0 F51.o4 F51.o4 env H (F51.ret Post) := by
  intro env H h
  obtain ⟨hl, h⟩ := lenE h
  exact use_ops hl rfl ((F51.q4 _ Post N2 H).mpr h)
noncomputable def F51.o5 : List Oper := opsIn (codeAt (bodyOf Try.f51) [.r, .l, .r, .l, .l, .r, .l, .l, .l])
def F51.B5 (Post : Value → AHeap → Prop) (N2 : Value → Value → Int → AHeap → Prop) (x0 : Value) (x1 : Value) (x5 : Int) (H : AHeap) : Prop :=
  idxK x0 x5 2 (fun b1 o2 => ldI .i64 H b1 o2 (fun v3 => ldI .i64 H b1 (o2 + 1) (fun v4 => idxK x0 (IntKind.i64.wrap (x5 - 1)) 2 (fun b5 o6 => ldI .i64 H b5 o6 (fun v7 => ldI .i64 H b5 (o6 + 1) (fun v8 => callV Try.prog T0 x1 [(Value.agg ⟨[(Value.int .i64 v3), (Value.int .i64 v4)]⟩), (Value.agg ⟨[(Value.int .i64 v7), (Value.int .i64 v8)]⟩)] H (fun v9 H10 => asI .i64 v9 (fun v11 => pif (decide ((v11 : Int) < 0)) (F51.B4 Post N2 H10) (F51.B3 Post N2 x0 x1 x5 H10)))))))))
def F51.B5.e (Post : Value → AHeap → Prop) (N2 : Value → Value → Int → AHeap → Prop) : EP := fun env H => pif (Nat.beq (List.length env) 25) (asI .i64 (List.getD env 5 undef) (fun x5 => F51.B5 Post N2 (List.getD env 0 undef) (List.getD env 1 undef) x5 H)) False
theorem F51.q5 (u : Nat → Value) (Post : Value → AHeap → Prop) (N2 : Value → Value → Int → AHeap → Prop) (x0 : Value) (x1 : Value) (x5 : Int) (H : AHeap) : aOpsD Try.prog T0 F51.o5 (opsOf F51.o5 [(0, false), (1, false), (2, false), (3, false), (4, false), (5, false), (6, false), (7, false), (8, false), (9, false), (10, false), (11, false)]) (mkEnv (upd (upd (upd u 0 x0) 1 x1) 5 (Value.int .i64 x5)) 25 0) H (fun env H => asB (aev env (.tmp 24)) (fun b => pif b ((F51.B4.e Post N2) env H) ((F51.B3.e Post N2) env H))) = F51.B5 Post N2 x0 x1 x5 H := by kernel_rfl
theorem F51.r5 (Post : Value → AHeap → Prop) (N2 : Value → Value → Int → AHeap → Prop) : ∀ env H, F51.B5.e Post N2 env H → aOpsD Try.prog T0 F51.o5 (opsOf F51.o5 [(0, false), (1, false), (2, false), (3, false), (4, false), (5, false), (6, false), (7, false), (8, false), (9, false), (10, false), (11, false)]) env H (fun env H => asB (aev env (.tmp 24)) (fun b => pif b ((F51.B4.e Post N2) env H) ((F51.B3.e Post N2) env H))) := by
  intro env H h
  obtain ⟨hl, h⟩ := lenE h
  obtain ⟨x5, e5, h⟩ := asI_elim h
  exact use_opsD hl (upd_step (upd_step (upd_step rfl rfl) rfl) e5) ((F51.q5 _ Post N2 (List.getD env 0 undef) (List.getD env 1 undef) x5 H).mpr h)
noncomputable def F51.o6 : List Oper := opsIn (codeAt (bodyOf Try.f51) [.r, .l, .r, .l, .l, .l, .l])
def F51.B6 (Post : Value → AHeap → Prop) (N2 : Value → Value → Int → AHeap → Prop) (x0 : Value) (x1 : Value) (x5 : Int) (H : AHeap) : Prop :=
  pif (decide ((x5 : Int) > 0)) (F51.B5 Post N2 x0 x1 x5 H) (F51.B1 Post H)
def F51.B6.e (Post : Value → AHeap → Prop) (N2 : Value → Value → Int → AHeap → Prop) : EP := fun env H => pif (Nat.beq (List.length env) 25) (asI .i64 (List.getD env 5 undef) (fun x5 => F51.B6 Post N2 (List.getD env 0 undef) (List.getD env 1 undef) x5 H)) False
theorem F51.q6 (u : Nat → Value) (Post : Value → AHeap → Prop) (N2 : Value → Value → Int → AHeap → Prop) (x0 : Value) (x1 : Value) (x5 : Int) (H : AHeap) : aOps Try.prog T0 F51.o6 F51.o6 (mkEnv (upd (upd (upd u 0 x0) 1 x1) 5 (Value.int .i64 x5)) 25 0) H (fun env H => asB (aev env (.tmp 10)) (fun b => pif b ((F51.B5.e Post N2) env H) ((F51.B1.e Post) env H))) = F51.B6 Post N2 x0 x1 x5 H := by kernel_rfl
theorem F51.r6 (Post : Value → AHeap → Prop) (N2 : Value → Value → Int → AHeap → Prop) : ∀ env H, F51.B6.e Post N2 env H → aOps Try.prog T0 F51.o6 F51.o6 env H (fun env H => asB (aev env (.tmp 10)) (fun b => pif b ((F51.B5.e Post N2) env H) ((F51.B1.e Post) env H))) := by
  intro env H h
  obtain ⟨hl, h⟩ := lenE h
  obtain ⟨x5, e5, h⟩ := asI_elim h
  exact use_ops hl (upd_step (upd_step (upd_step rfl rfl) rfl) e5) ((F51.q6 _ Post N2 (List.getD env 0 undef) (List.getD env 1 undef) x5 H).mpr h)
def F51.L2 (Post : Value → AHeap → Prop) (x0 : Value) (x1 : Value) (x5 : Int) (H : AHeap) : Prop :=
  ∃ (I : Value → Value → Int → AHeap → Prop) (μ : Value → Value → Int → AHeap → Nat), I x0 x1 x5 H ∧ ∀ x0' x1' x5' H', I x0' x1' x5' H' → F51.B6 Post (fun x0'' x1'' x5'' H'' => I x0'' x1'' x5'' H'' ∧ μ x0'' x1'' x5'' H'' < μ x0' x1' x5' H') x0' x1' x5' H'
def F51.L2.e (Post : Value → AHeap → Prop) : EP := fun env H => pif (Nat.beq (List.length env) 25) (asI .i64 (List.getD env 5 undef) (fun x5 => F51.L2 Post (List.getD env 0 undef) (List.getD env 1 undef) x5 H)) False
theorem F51.l2 (Post : Value → AHeap → Prop) {c : Code} {K : EP} {X : Nat → EP}
    (hb : ∀ N2 : Value → Value → Int → AHeap → Prop, ∀ env H, (F51.B6.e Post N2) env H → AW Try.prog T0 c env H (mkQ (F51.L2.ne N2) X (F51.ret Post))) :
    ∀ env H, F51.L2.e Post env H → AW Try.prog T0 (.loop c) env H (mkQ K X (F51.ret Post)) := by
  intro env H h
  obtain ⟨hl, h⟩ := lenE h
  obtain ⟨x5, e5, h⟩ := asI_elim h
  obtain ⟨I, μ, h0, hI⟩ := h
  refine r_loop (fun n env H => pif (Nat.beq (List.length env) 25) (asI .i64 (List.getD env 5 undef) (fun x5 => (I (List.getD env 0 undef) (List.getD env 1 undef) x5 H) ∧ (μ (List.getD env 0 undef) (List.getD env 1 undef) x5 H = n))) False) ?_ env H ⟨μ (List.getD env 0 undef) (List.getD env 1 undef) x5 H, lenM hl (asI_mk' e5 (⟨h0, rfl⟩))⟩
  intro n env' H' h
  obtain ⟨hl', h⟩ := lenE h
  obtain ⟨x5', e5', h⟩ := asI_elim h
  obtain ⟨hi, hm⟩ := h
  refine r_imp (hb (fun x0'' x1'' x5'' H'' => I x0'' x1'' x5'' H'' ∧ μ x0'' x1'' x5'' H'' < n)) ?_ env' H' ?_
  · intro env H h
    obtain ⟨hl'', h⟩ := lenE h
    obtain ⟨x5'', e5'', h⟩ := asI_elim h
    obtain ⟨hi, hlt⟩ := h
    exact ⟨_, hlt, lenM hl'' (asI_mk' e5'' (⟨hi, rfl⟩))⟩
  · have h := hI (List.getD env' 0 undef) (List.getD env' 1 undef) x5' H' hi
    rw [hm] at h
    exact lenM hl' (asI_mk' e5' (h))
noncomputable def F51.o7 : List Oper := opsIn (codeAt (bodyOf Try.f51) [.r, .l, .l])
def F51.B7 (Post : Value → AHeap → Prop) (x0 : Value) (x1 : Value) (H : AHeap) : Prop :=
  lenK x0 (fun n1 => F51.L2 Post x0 x1 (IntKind.i64.wrap ((n1 : Int) - 1)) H)
def F51.B7.e (Post : Value → AHeap → Prop) : EP := fun env H => pif (Nat.beq (List.length env) 25) (F51.B7 Post (List.getD env 0 undef) (List.getD env 1 undef) H) False
theorem F51.q7 (u : Nat → Value) (Post : Value → AHeap → Prop) (x0 : Value) (x1 : Value) (H : AHeap) : aOps Try.prog T0 F51.o7 F51.o7 (mkEnv (upd (upd u 0 x0) 1 x1) 25 0) H (F51.L2.e Post) = F51.B7 Post x0 x1 H := by kernel_rfl
theorem F51.r7 (Post : Value → AHeap → Prop) : ∀ env H, F51.B7.e Post env H → aOps Try.prog T0 F51.o7 F51.o7 env H (F51.L2.e Post) := by
  intro env H h
  obtain ⟨hl, h⟩ := lenE h
  exact use_ops hl (upd_step (upd_step rfl rfl) rfl) ((F51.q7 _ Post (List.getD env 0 undef) (List.getD env 1 undef) H).mpr h)
noncomputable def F51.o8 : List Oper := opsIn (codeAt (bodyOf Try.f51) [.l])
def F51.B8 (Post : Value → AHeap → Prop) (x0 : Value) (x1 : Value) (H : AHeap) : Prop :=
  F51.B7 Post x0 x1 H
def F51.B8.e (Post : Value → AHeap → Prop) : EP := fun env H => pif (Nat.beq (List.length env) 25) (F51.B8 Post (List.getD env 0 undef) (List.getD env 1 undef) H) False
theorem F51.q8 (u : Nat → Value) (Post : Value → AHeap → Prop) (x0 : Value) (x1 : Value) (H : AHeap) : aOps Try.prog T0 F51.o8 F51.o8 (mkEnv (upd (upd u 0 x0) 1 x1) 25 0) H (F51.B7.e Post) = F51.B8 Post x0 x1 H := by kernel_rfl
theorem F51.r8 (Post : Value → AHeap → Prop) : ∀ env H, F51.B8.e Post env H → aOps Try.prog T0 F51.o8 F51.o8 env H (F51.B7.e Post) := by
  intro env H h
  obtain ⟨hl, h⟩ := lenE h
  exact use_ops hl (upd_step (upd_step rfl rfl) rfl) ((F51.q8 _ Post (List.getD env 0 undef) (List.getD env 1 undef) H).mpr h)
noncomputable def F51.code : Code := (.seq (.region 0 ⟨F51.o8⟩ false) (.seq (.seq (.region 1 ⟨F51.o7⟩ false) (.block 0 (.loop (.seq (.seq (.region 2 ⟨F51.o6⟩ false) (.cond (.tmp 10) .skip (.exit 0))) (.seq (.block 1 (.seq (.region 4 ⟨F51.o5⟩ true) (.cond (.tmp 24) (.seq (.region 5 ⟨F51.o4⟩ false) .ret) .skip))) (.region 3 ⟨F51.o3⟩ false)))))) (.seq (.region 6 ⟨F51.o1⟩ false) .ret)))
theorem F51.body : Try.f51.body = some F51.code := by kernel_rfl
theorem F51.main (Post : Value → AHeap → Prop) : ∀ env H, F51.B8.e Post env H → AW Try.prog T0 F51.code env H (mkQ (F51.ret Post) (fun _ _ _ => False) (F51.ret Post)) :=
  (r_seq (r_region T0_ok (F51.r8 Post)) (r_seq (r_seq (r_region T0_ok (F51.r7 Post)) (r_block (F51.l2 Post (fun N2 => (r_seq (r_seq (r_region T0_ok (F51.r6 Post N2)) (r_cond rfl r_skip (r_exit (fun _ _ h => h)))) (r_seq (r_block (r_seq (r_draw T0_ok mixed [(0, false), (1, false), (2, false), (3, false), (4, false), (5, false), (6, false), (7, false), (8, false), (9, false), (10, false), (11, false)] (by kernel_rfl) (F51.r5 Post N2)) (r_cond rfl (r_seq (r_region T0_ok (F51.r4 Post N2)) r_ret) r_skip))) (r_region T0_ok (F51.r3 Post N2)))))))) (r_seq (r_region T0_ok (F51.r1 Post)) r_ret)))
theorem F51.ac (Post : Value → AHeap → Prop) (x0 : Value) (x1 : Value) (H : AHeap) (h : F51.B8 Post x0 x1 H) : AC Try.prog T0 51 [x0, x1] H Post :=
  r_fn T0_ok (c := F51.code) (n := 25) Try.func51 F51.body (by kernel_rfl) (F51.main Post) (lenM (by kernel_rfl) (h))

-- loop.example/g01329/impl.compareEdges
noncomputable def F52.ret (Post : Value → AHeap → Prop) : EP := retE T0 8 Try.f52 Post
noncomputable def F52.o1 : List Oper := opsIn (codeAt (bodyOf Try.f52) [.r, .l])
def F52.B1 (Post : Value → AHeap → Prop) (x2 : Nat) (x3 : Nat) (H : AHeap) : Prop :=
  AC Try.prog T0 62 [(Value.slice (some ⟨x2, 0, none⟩) 2 (2 + 1)), (Value.slice (some ⟨x3, 0, none⟩) 2 (2 + 1))] H (fun v1 H2 => asI .i64 v1 (fun v3 => Post (Value.int .i64 v3) H2))
def F52.B1.e (Post : Value → AHeap → Prop) : EP := fun env H => pif (Nat.beq (List.length env) 8) (asX (List.getD env 2 undef) (fun x2 => asX (List.getD env 3 undef) (fun x3 => F52.B1 Post x2 x3 H))) False
theorem F52.q1 (u : Nat → Value) (Post : Value → AHeap → Prop) (x2 : Nat) (x3 : Nat) (H : AHeap) : aOpsD Try.prog T0 F52.o1 (opsOf F52.o1 [(0, false), (1, false), (2, false), (3, false)]) (mkEnv (upd (upd u 2 (Value.pointer (some ⟨x2, 0, none⟩))) 3 (Value.pointer (some ⟨x3, 0, none⟩))) 8 0) H (F52.ret Post) = F52.B1 Post x2 x3 H := by kernel_rfl
theorem F52.r1 (Post : Value → AHeap → Prop) : ∀ env H, F52.B1.e Post env H → aOpsD Try.prog T0 F52.o1 (opsOf F52.o1 [(0, false), (1, false), (2, false), (3, false)]) env H (F52.ret Post) := by
  intro env H h
  obtain ⟨hl, h⟩ := lenE h
  obtain ⟨x2, e2, h⟩ := asX_elim h
  obtain ⟨x3, e3, h⟩ := asX_elim h
  exact use_opsD hl (upd_step (upd_step rfl e2) e3) ((F52.q1 _ Post x2 x3 H).mpr h)
noncomputable def F52.o2 : List Oper := opsIn (codeAt (bodyOf Try.f52) [.l])
def F52.B2 (Post : Value → AHeap → Prop) (x0a : Int) (x0b : Int) (x1a : Int) (x1b : Int) (H : AHeap) : Prop :=
  newK H [(Value.int .i64 x0a), (Value.int .i64 x0b)] 55 (fun b1 H2 => newK H2 [(Value.int .i64 x1a), (Value.int .i64 x1b)] 55 (fun b3 H4 => F52.B1 Post b1 b3 H4))
def F52.B2.e (Post : Value → AHeap → Prop) : EP := fun env H => pif (Nat.beq (List.length env) 8) (as_ii (List.getD env 0 undef) (fun x0a x0b => as_ii (List.getD env 1 undef) (fun x1a x1b => F52.B2 Post x0a x0b x1a x1b H))) False
theorem F52.q2 (u : Nat → Value) (Post : Value → AHeap → Prop) (x0a : Int) (x0b : Int) (x1a : Int) (x1b : Int) (H : AHeap) : aOps Try.prog T0 F52.o2 F52.o2 (mkEnv (upd (upd u 0 (Value.agg ⟨[(Value.int .i64 x0a), (Value.int .i64 x0b)]⟩)) 1 (Value.agg ⟨[(Value.int .i64 x1a), (Value.int .i64 x1b)]⟩)) 8 0) H (F52.B1.e Post) = F52.B2 Post x0a x0b x1a x1b H := by kernel_rfl
theorem F52.r2 (Post : Value → AHeap → Prop) : ∀ env H, F52.B2.e Post env H → aOps Try.prog T0 F52.o2 F52.o2 env H (F52.B1.e Post) := by
  intro env H h
  obtain ⟨hl, h⟩ := lenE h
  obtain ⟨x0a, x0b, e0, h⟩ := as_ii_elim h
  obtain ⟨x1a, x1b, e1, h⟩ := as_ii_elim h
  exact use_ops hl (upd_step (upd_step rfl e0) e1) ((F52.q2 _ Post x0a x0b x1a x1b H).mpr h)
noncomputable def F52.code : Code := (.seq (.region 0 ⟨F52.o2⟩ false) (.seq (.region 1 ⟨F52.o1⟩ true) .ret))
theorem F52.body : Try.f52.body = some F52.code := by kernel_rfl
theorem F52.main (Post : Value → AHeap → Prop) : ∀ env H, F52.B2.e Post env H → AW Try.prog T0 F52.code env H (mkQ (F52.ret Post) (fun _ _ _ => False) (F52.ret Post)) :=
  (r_seq (r_region T0_ok (F52.r2 Post)) (r_seq (r_draw T0_ok mixed [(0, false), (1, false), (2, false), (3, false)] (by kernel_rfl) (F52.r1 Post)) r_ret))
theorem F52.ac (Post : Value → AHeap → Prop) (x0a : Int) (x0b : Int) (x1a : Int) (x1b : Int) (H : AHeap) (h : F52.B2 Post x0a x0b x1a x1b H) : AC Try.prog T0 52 [(Value.agg ⟨[(Value.int .i64 x0a), (Value.int .i64 x0b)]⟩), (Value.agg ⟨[(Value.int .i64 x1a), (Value.int .i64 x1b)]⟩)] H Post :=
  r_fn T0_ok (c := F52.code) (n := 8) Try.func52 F52.body (by kernel_rfl) (F52.main Post) (lenM (by kernel_rfl) (as_ii_mk' (by kernel_rfl) (as_ii_mk' (by kernel_rfl) (h))))

-- loop.example/g01329/impl.isCubic
noncomputable def F53.ret (Post : Value → AHeap → Prop) : EP := retE T0 33 Try.f53 Post
noncomputable def F53.o1 : List Oper := opsIn (codeAt (bodyOf Try.f53) [.r, .r, .r, .l])
def F53.B1 (Post : Value → AHeap → Prop) (x5 : Value) (H : AHeap) : Prop :=
  AC Try.prog T0 63 [x5, (Value.func (.func 64) ⟨[]⟩ ⟨[]⟩)] H (fun v1 H2 => asB v1 (fun v3 => Post (Value.bool v3) H2))
def F53.B1.e (Post : Value → AHeap → Prop) : EP := fun env H => pif (Nat.beq (List.length env) 33) (F53.B1 Post (List.getD env 5 undef) H) False
theorem F53.q1 (u : Nat → Value) (Post : Value → AHeap → Prop) (x5 : Value) (H : AHeap) : aOps Try.prog T0 F53.o1 F53.o1 (mkEnv (upd u 5 x5) 33 0) H (F53.ret Post) = F53.B1 Post x5 H := by kernel_rfl
theorem F53.r1 (Post : Value → AHeap → Prop) : ∀ env H, F53.B1.e Post env H → aOps Try.prog T0 F53.o1 F53.o1 env H (F53.ret Post) := by
  intro env H h
  obtain ⟨hl, h⟩ := lenE h
  exact use_ops hl (upd_step rfl rfl) ((F53.q1 _ Post (List.getD env 5 undef) H).mpr h)
def F53.L2.ne (N : Value → Value → Int → Int → AHeap → Prop) : EP := fun env H => pif (Nat.beq (List.length env) 33) (asI .i64 (List.getD env 11 undef) (fun x11 => asI .i64 (List.getD env 12 undef) (fun x12 => N (List.getD env 5 undef) (List.getD env 10 undef) x11 x12 H))) False
noncomputable def F53.o3 : List Oper := opsIn (codeAt (bodyOf Try.f53) [.r, .r, .l, .r, .l, .l, .r, .r, .r])
def F53.B3 (Post : Value → AHeap → Prop) (N2 : Value → Value → Int → Int → AHeap → Prop) (x5 : Value) (x10 : Value) (x11 : Int) (x12 : Int) (H : AHeap) : Prop :=
  N2 x5 x10 x11 (IntKind.i64.wrap (x12 + 1)) H
def F53.B3.e (Post : Value → AHeap → Prop) (N2 : Value → Value → Int → Int → AHeap → Prop) : EP := fun env H => pif (Nat.beq (List.length env) 33) (asI .i64 (List.getD env 11 undef) (fun x11 => asI .i64 (List.getD env 12 undef) (fun x12 => F53.B3 Post N2 (List.getD env 5 undef) (List.getD env 10 undef) x11 x12 H))) False
theorem F53.q3 (u : Nat → Value) (Post : Value → AHeap → Prop) (N2 : Value → Value → Int → Int → AHeap → Prop) (x5 : Value) (x10 : Value) (x11 : Int) (x12 : Int) (H : AHeap) : aOps Try.prog T0 F53.o3 F53.o3 (mkEnv (upd (upd (upd (upd u 5 x5) 10 x10) 11 (Value.int .i64 x11)) 12 (Value.int .i64 x12)) 33 0) H (F53.L2.ne N2) = F53.B3 Post N2 x5 x10 x11 x12 H := by kernel_rfl
theorem F53.r3 (Post : Value → AHeap → Prop) (N2 : Value → Value → Int → Int → AHeap → Prop) : ∀ env H, F53.B3.e Post N2 env H → aOps Try.prog T0 F53.o3 F53.o3 env H (F53.L2.ne N2) := by
  intro env H h
  obtain ⟨hl, h⟩ := lenE h
  obtain ⟨x11, e11, h⟩ := asI_elim h
  obtain ⟨x12, e12, h⟩ := asI_elim h
  exact use_ops hl (upd_step (upd_step (upd_step (upd_step rfl rfl) rfl) e11) e12) ((F53.q3 _ Post N2 (List.getD env 5 undef) (List.getD env 10 undef) x11 x12 H).mpr h)
noncomputable def F53.o4 : List Oper := opsIn (codeAt (bodyOf Try.f53) [.r, .r, .l, .r, .l, .l, .r, .r, .l, .l, .r, .r])
def F53.B4 (Post : Value → AHeap → Prop) (N2 : Value → Value → Int → Int → AHeap → Prop) (x5 : Value) (x7 : Nat) (x10 : Value) (x11 : Int) (x12 : Int) (H : AHeap) : Prop :=
  ldI .i64 H x7 1 (fun v1 => idxK x5 v1 1 (fun b2 o3 => ldI .i64 H b2 o3 (fun v4 => idxK x5 v1 1 (fun b5 o6 => stK H b5 o6 [(Value.int .i64 (IntKind.i64.wrap (v4 + 1)))] (fun H7 => F53.B3 Post N2 x5 x10 x11 x12 H7)))))
def F53.B4.e (Post : Value → AHeap → Prop) (N2 : Value → Value → Int → Int → AHeap → Prop) : EP := fun env H => pif (Nat.beq (List.length env) 33) (asX (List.getD env 7 undef) (fun x7 => asI .i64 (List.getD env 11 undef) (fun x11 => asI .i64 (List.getD env 12 undef) (fun x12 => F53.B4 Post N2 (List.getD env 5 undef) x7 (List.getD env 10 undef) x11 x12 H)))) False
theorem F53.q4 (u : Nat → Value) (Post : Value → AHeap → Prop) (N2 : Value → Value → Int → Int → AHeap → Prop) (x5 : Value) (x7 : Nat) (x10 : Value) (x11 : Int) (x12 : Int) (H : AHeap) : aOps Try.prog T0 F53.o4 F53.o4 (mkEnv (upd (upd (upd (upd (upd u 5 x5) 7 (Value.pointer (some ⟨x7, 0, none⟩))) 10 x10) 11 (Value.int .i64 x11)) 12 (Value.int .i64 x12)) 33 0) H (F53.B3.e Post N2) = F53.B4 Post N2 x5 x7 x10 x11 x12 H := by kernel_rfl
theorem F53.r4 (Post : Value → AHeap → Prop) (N2 : Value → Value → Int → Int → AHeap → Prop) : ∀ env H, F53.B4.e Post N2 env H → aOps Try.prog T0 F53.o4 F53.o4 env H (F53.B3.e Post N2) := by
  intro env H h
  obtain ⟨hl, h⟩ := lenE h
  obtain ⟨x7, e7, h⟩ := asX_elim h
  obtain ⟨x11, e11, h⟩ := asI_elim h
  obtain ⟨x12, e12, h⟩ := asI_elim h
  exact use_ops hl (upd_step (upd_step (upd_step (upd_step (upd_step rfl rfl) e7) rfl) e11) e12) ((F53.q4 _ Post N2 (List.getD env 5 undef) x7 (List.getD env 10 undef) x11 x12 H).mpr h)
noncomputable def F53.o5 : List Oper := opsIn (codeAt (bodyOf Try.f53) [.r, .r, .l, .r, .l, .l, .r, .r, .l, .l, .r, .l])
def F53.B5 (Post : Value → AHeap → Prop) (N2 : Value → Value → Int → Int → AHeap → Prop) (x5 : Value) (x7 : Nat) (x10 : Value) (x11 : Int) (x12 : Int) (H : AHeap) : Prop :=
  ldI .i64 H x7 0 (fun v1 => idxK x5 v1 1 (fun b2 o3 => ldI .i64 H b2 o3 (fun v4 => idxK x5 v1 1 (fun b5 o6 => stK H b5 o6 [(Value.int .i64 (IntKind.i64.wrap (v4 + 1)))] (fun H7 => F53.B4 Post N2 x5 x7 x10 x11 x12 H7)))))
def F53.B5.e (Post : Value → AHeap → Prop) (N2 : Value → Value → Int → Int → AHeap → Prop) : EP := fun env H => pif (Nat.beq (List.length env) 33) (asX (List.getD env 7 undef) (fun x7 => asI .i64 (List.getD env 11 undef) (fun x11 => asI .i64 (List.getD env 12 undef) (fun x12 => F53.B5 Post N2 (List.getD env 5 undef) x7 (List.getD env 10 undef) x11 x12 H)))) False
theorem F53.q5 (u : Nat → Value) (Post : Value → AHeap → Prop) (N2 : Value → Value → Int → Int → AHeap → Prop) (x5 : Value) (x7 : Nat) (x10 : Value) (x11 : Int) (x12 : Int) (H : AHeap) : aOps Try.prog T0 F53.o5 F53.o5 (mkEnv (upd (upd (upd (upd (upd u 5 x5) 7 (Value.pointer (some ⟨x7, 0, none⟩))) 10 x10) 11 (Value.int .i64 x11)) 12 (Value.int .i64 x12)) 33 0) H (F53.B4.e Post N2) = F53.B5 Post N2 x5 x7 x10 x11 x12 H := by kernel_rfl
theorem F53.r5 (Post : Value → AHeap → Prop) (N2 : Value → Value → Int → Int → AHeap → Prop) : ∀ env H, F53.B5.e Post N2 env H → aOps Try.prog T0 F53.o5 F53.o5 env H (F53.B4.e Post N2) := by
  intro env H h
  obtain ⟨hl, h⟩ := lenE h
  obtain ⟨x7, e7, h⟩ := asX_elim h
  obtain ⟨x11, e11, h⟩ := asI_elim h
  obtain ⟨x12, e12, h⟩ := asI_elim h
  exact use_ops hl (upd_step (upd_step (upd_step (upd_step (upd_step rfl rfl) e7) rfl) e11) e12) ((F53.q5 _ Post N2 (List.getD env 5 undef) x7 (List.getD env 10 undef) x11 x12 H).mpr h)
noncomputable def F53.o6 : List Oper := opsIn (codeAt (bodyOf Try.f53) [.r, .r, .l, .r, .l, .l, .r, .r, .l, .l, .l])
def F53.B6 (Post : Value → AHeap → Prop) (N2 : Value → Value → Int → Int → AHeap → Prop) (x5 : Value) (x10 : Value) (x11 : Int) (x12 : Int) (H : AHeap) : Prop :=
  idxK x10 x12 2 (fun b1 o2 => ldI .i64 H b1 o2 (fun v3 => ldI .i64 H b1 (o2 + 1) (fun v4 => newK H [(Value.int .i64 0), (Value.int .i64 0)] 55 (fun b5 H6 => stK H6 b5 0 [(Value.int .i64 v3), (Value.int .i64 v4)] (fun H7 => F53.B5 Post N2 x5 b5 x10 x11 x12 H7)))))
def F53.B6.e (Post : Value → AHeap → Prop) (N2 : Value → Value → Int → Int → AHeap → Prop) : EP := fun env H => pif (Nat.beq (List.length env) 33) (asI .i64 (List.getD env 11 undef) (fun x11 => asI .i64 (List.getD env 12 undef) (fun x12 => F53.B6 Post N2 (List.getD env 5 undef) (List.getD env 10 undef) x11 x12 H))) False
theorem F53.q6 (u : Nat → Value) (Post : Value → AHeap → Prop) (N2 : Value → Value → Int → Int → AHeap → Prop) (x5 : Value) (x10 : Value) (x11 : Int) (x12 : Int) (H : AHeap) : aOps Try.prog T0 F53.o6 F53.o6 (mkEnv (upd (upd (upd (upd u 5 x5) 10 x10) 11 (Value.int .i64 x11)) 12 (Value.int .i64 x12)) 33 0) H (F53.B5.e Post N2) = F53.B6 Post N2 x5 x10 x11 x12 H := by kernel_rfl
theorem F53.r6 (Post : Value → AHeap → Prop) (N2 : Value → Value → Int → Int → AHeap → Prop) : ∀ env H, F53.B6.e Post N2 env H → aOps Try.prog T0 F53.o6 F53.o6 env H (F53.B5.e Post N2) := by
  intro env H h
  obtain ⟨hl, h⟩ := lenE h
  obtain ⟨x11, e11, h⟩ := asI_elim h
  obtain ⟨x12, e12, h⟩ := asI_elim h
  exact use_ops hl (upd_step (upd_step (upd_step (upd_step rfl rfl) rfl) e11) e12) ((F53.q6 _ Post N2 (List.getD env 5 undef) (List.getD env 10 undef) x11 x12 H).mpr h)
noncomputable def F53.o7 : List Oper := opsIn (codeAt (bodyOf Try.f53) [.r, .r, .l, .r, .l, .l, .l])
def F53.B7 (Post : Value → AHeap → Prop) (N2 : Value → Value → Int → Int → AHeap → Prop) (x5 : Value) (x10 : Value) (x11 : Int) (x12 : Int) (H : AHeap) : Prop :=
  pif (decide ((x12 : Int) < x11)) (F53.B6 Post N2 x5 x10 x11 x12 H) (F53.B1 Post x5 H)
def F53.B7.e (Post : Value → AHeap → Prop) (N2 : Value → Value → Int → Int → AHeap → Prop) : EP := fun env H => pif (Nat.beq (List.length env) 33) (asI .i64 (List.getD env 11 undef) (fun x11 => asI .i64 (List.getD env 12 undef) (fun x12 => F53.B7 Post N2 (List.getD env 5 undef) (List.getD env 10 undef) x11 x12 H))) False
theorem F53.q7 (u : Nat → Value) (Post : Value → AHeap → Prop) (N2 : Value → Value → Int → Int → AHeap → Prop) (x5 : Value) (x10 : Value) (x11 : Int) (x12 : Int) (H : AHeap) : aOps Try.prog T0 F53.o7 F53.o7 (mkEnv (upd (upd (upd (upd u 5 x5) 10 x10) 11 (Value.int .i64 x11)) 12 (Value.int .i64 x12)) 33 0) H (fun env H => asB (aev env (.tmp 13)) (fun b => pif b ((F53.B6.e Post N2) env H) ((F53.B1.e Post) env H))) = F53.B7 Post N2 x5 x10 x11 x12 H := by kernel_rfl
theorem F53.r7 (Post : Value → AHeap → Prop) (N2 : Value → Value → Int → Int → AHeap → Prop) : ∀ env H, F53.B7.e Post N2 env H → aOps Try.prog T0 F53.o7 F53.o7 env H (fun env H => asB (aev env (.tmp 13)) (fun b => pif b ((F53.B6.e Post N2) env H) ((F53.B1.e Post) env H))) := by
  intro env H h
  obtain ⟨hl, h⟩ := lenE h
  obtain ⟨x11, e11, h⟩ := asI_elim h
  obtain ⟨x12, e12, h⟩ := asI_elim h
  exact use_ops hl (upd_step (upd_step (upd_step (upd_step rfl rfl) rfl) e11) e12) ((F53.q7 _ Post N2 (List.getD env 5 undef) (List.getD env 10 undef) x11 x12 H).mpr h)
def F53.L2 (Post : Value → AHeap → Prop) (x5 : Value) (x10 : Value) (x11 : Int) (x12 : Int) (H : AHeap) : Prop :=
  ∃ (I : Value → Value → Int → Int → AHeap → Prop) (μ : Value → Value → Int → Int → AHeap → Nat), I x5 x10 x11 x12 H ∧ ∀ x5' x10' x11' x12' H', I x5' x10' x11' x12' H' → F53.B7 Post (fun x5'' x10'' x11'' x12'' H'' => I x5'' x10'' x11'' x12'' H'' ∧ μ x5'' x10'' x11'' x12'' H'' < μ x5' x10' x11' x12' H') x5' x10' x11' x12' H'
def F53.L2.e (Post : Value → AHeap → Prop) : EP := fun env H => pif (Nat.beq (List.length env) 33) (asI .i64 (List.getD env 11 undef) (fun x11 => asI .i64 (List.getD env 12 undef) (fun x12 => F53.L2 Post (List.getD env 5 undef) (List.getD env 10 undef) x11 x12 H))) False
theorem F53.l2 (Post : Value → AHeap → Prop) {c : Code} {K : EP} {X : Nat → EP}
    (hb : ∀ N2 : Value → Value → Int → Int → AHeap → Prop, ∀ env H, (F53.B7.e Post N2) env H → AW Try.prog T0 c env H (mkQ (F53.L2.ne N2) X (F53.ret Post))) :
    ∀ env H, F53.L2.e Post env H → AW Try.prog T0 (.loop c) env H (mkQ K X (F53.ret Post)) := by
  intro env H h
  obtain ⟨hl, h⟩ := lenE h
  obtain ⟨x11, e11, h⟩ := asI_elim h
  obtain ⟨x12, e12, h⟩ := asI_elim h
  obtain ⟨I, μ, h0, hI⟩ := h
  refine r_loop (fun n env H => pif (Nat.beq (List.length env) 33) (asI .i64 (List.getD env 11 undef) (fun x11 => asI .i64 (List.getD env 12 undef) (fun x12 => (I (List.getD env 5 undef) (List.getD env 10 undef) x11 x12 H) ∧ (μ (List.getD env 5 undef) (List.getD env 10 undef) x11 x12 H = n)))) False) ?_ env H ⟨μ (List.getD env 5 undef) (List.getD env 10 undef) x11 x12 H, lenM hl (asI_mk' e11 (asI_mk' e12 (⟨h0, rfl⟩)))⟩
  intro n env' H' h
  obtain ⟨hl', h⟩ := lenE h
  obtain ⟨x11', e11', h⟩ := asI_elim h
  obtain ⟨x12', e12', h⟩ := asI_elim h
  obtain ⟨hi, hm⟩ := h
  refine r_imp (hb (fun x5'' x10'' x11'' x12'' H'' => I x5'' x10'' x11'' x12'' H'' ∧ μ x5'' x10'' x11'' x12'' H'' < n)) ?_ env' H' ?_
  · intro env H h
    obtain ⟨hl'', h⟩ := lenE h
    obtain ⟨x11'', e11'', h⟩ := asI_elim h
    obtain ⟨x12'', e12'', h⟩ := asI_elim h
    obtain ⟨hi, hlt⟩ := h
    exact ⟨_, hlt, lenM hl'' (asI_mk' e11'' (asI_mk' e12'' (⟨hi, rfl⟩)))⟩
  · have h := hI (List.getD env' 5 undef) (List.getD env' 10 undef) x11' x12' H' hi
    rw [hm] at h
    exact lenM hl' (asI_mk' e11' (asI_mk' e12' (h)))
noncomputable def F53.o8 : List Oper := opsIn (codeAt (bodyOf Try.f53) [.r, .r, .l, .l])
def F53.B8 (Post : Value → AHeap → Prop) (x1 : Value) (x5 : Value) (H : AHeap) : Prop :=
  lenK x1 (fun n1 => F53.L2 Post x5 x1 (n1 : Int) 0 H)
def F53.B8.e (Post : Value → AHeap → Prop) : EP := fun env H => pif (Nat.beq (List.length env) 33) (F53.B8 Post (List.getD env 1 undef) (List.getD env 5 undef) H) False
theorem F53.q8 (u : Nat → Value) (Post : Value → AHeap → Prop) (x1 : Value) (x5 : Value) (H : AHeap) : aOps Try.prog T0 F53.o8 F53.o8 (mkEnv (upd (upd u 1 x1) 5 x5) 33 0) H (F53.L2.e Post) = F53.B8 Post x1 x5 H := by kernel_rfl
theorem F53.r8 (Post : Value → AHeap → Prop) : ∀ env H, F53.B8.e Post env H → aOps Try.prog T0 F53.o8 F53.o8 env H (F53.L2.e Post) := by
  intro env H h
  obtain ⟨hl, h⟩ := lenE h
  exact use_ops hl (upd_step (upd_step rfl rfl) rfl) ((F53.q8 _ Post (List.getD env 1 undef) (List.getD env 5 undef) H).mpr h)
noncomputable def F53.o9 : List Oper := opsIn (codeAt (bodyOf Try.f53) [.r, .l])
def F53.B9 (Post : Value → AHeap → Prop) (x0 : Int) (x1 : Value) (H : AHeap) : Prop :=
  mkR H 8 3 [(Value.int .i64 0)] x0 x0 (fun v2 H1 => F53.B8 Post x1 v2 H1)
def F53.B9.e (Post : Value → AHeap → Prop) : EP := fun env H => pif (Nat.beq (List.length env) 33) (asI .i64 (List.getD env 0 undef) (fun x0 => F53.B9 Post x0 (List.getD env 1 undef) H)) False
theorem F53.q9 (u : Nat → Value) (Post : Value → AHeap → Prop) (x0 : Int) (x1 : Value) (H : AHeap) : aOps Try.prog T0 F53.o9 F53.o9 (mkEnv (upd (upd u 0 (Value.int .i64 x0)) 1 x1) 33 0) H (F53.B8.e Post) = F53.B9 Post x0 x1 H := by kernel_rfl
theorem F53.r9 (Post : Value → AHeap → Prop) : ∀ env H, F53.B9.e Post env H → aOps Try.prog T0 F53.o9 F53.o9 env H (F53.B8.e Post) := by
  intro env H h
  obtain ⟨hl, h⟩ := lenE h
  obtain ⟨x0, e0, h⟩ := asI_elim h
  exact use_ops hl (upd_step (upd_step rfl e0) rfl) ((F53.q9 _ Post x0 (List.getD env 1 undef) H).mpr h)
noncomputable def F53.o10 : List Oper := opsIn (codeAt (bodyOf Try.f53) [.l])
def F53.B10 (Post : Value → AHeap → Prop) (x0 : Int) (x1 : Value) (H : AHeap) : Prop :=
  F53.B9 Post x0 x1 H
def F53.B10.e (Post : Value → AHeap → Prop) : EP := fun env H => pif (Nat.beq (List.length env) 33) (asI .i64 (List.getD env 0 undef) (fun x0 => F53.B10 Post x0 (List.getD env 1 undef) H)) False
theorem F53.q10 (u : Nat → Value) (Post : Value → AHeap → Prop) (x0 : Int) (x1 : Value) (H : AHeap) : aOps Try.prog T0 F53.o10 F53.o10 (mkEnv (upd (upd u 0 (Value.int .i64 x0)) 1 x1) 33 0) H (F53.B9.e Post) = F53.B10 Post x0 x1 H := by kernel_rfl
theorem F53.r10 (Post : Value → AHeap → Prop) : ∀ env H, F53.B10.e Post env H → aOps Try.prog T0 F53.o10 F53.o10 env H (F53.B9.e Post) := by
  intro env H h
  obtain ⟨hl, h⟩ := lenE h
  obtain ⟨x0, e0, h⟩ := asI_elim h
  exact use_ops hl (upd_step (upd_step rfl e0) rfl) ((F53.q10 _ Post x0 (List.getD env 1 undef) H).mpr h)
noncomputable def F53.code : Code := (.seq (.region 0 ⟨F53.o10⟩ false) (.seq (.region 1 ⟨F53.o9⟩ false) (.seq (.seq (.region 2 ⟨F53.o8⟩ false) (.block 0 (.loop (.seq (.region 3 ⟨F53.o7⟩ false) (.seq (.cond (.tmp 13) .skip (.exit 0)) (.seq (.block 1 (.seq (.region 4 ⟨F53.o6⟩ false) (.seq (.region 5 ⟨F53.o5⟩ false) (.region 6 ⟨F53.o4⟩ false)))) (.region 7 ⟨F53.o3⟩ false))))))) (.seq (.region 8 ⟨F53.o1⟩ false) .ret))))
theorem F53.body : Try.f53.body = some F53.code := by kernel_rfl
theorem F53.main (Post : Value → AHeap → Prop) : ∀ env H, F53.B10.e Post env H → AW Try.prog T0 F53.code env H (mkQ (F53.ret Post) (fun _ _ _ => False) (F53.ret Post)) :=
  (r_seq (r_region T0_ok (F53.r10 Post)) (r_seq (r_region T0_ok (F53.r9 Post)) (r_seq (r_seq (r_region T0_ok (F53.r8 Post)) (r_block (F53.l2 Post (fun N2 => (r_seq (r_region T0_ok (F53.r7 Post N2)) (r_seq (r_cond rfl r_skip (r_exit (fun _ _ h => h))) (r_seq (r_block (r_seq (r_region T0_ok (F53.r6 Post N2)) (r_seq (r_region T0_ok (F53.r5 Post N2)) (r_region T0_ok (F53.r4 Post N2))))) (r_region T0_ok (F53.r3 Post N2))))))))) (r_seq (r_region T0_ok (F53.r1 Post)) r_ret))))
theorem F53.ac (Post : Value → AHeap → Prop) (x0 : Int) (x1 : Value) (H : AHeap) (h : F53.B10 Post x0 x1 H) : AC Try.prog T0 53 [(Value.int .i64 x0), x1] H Post :=
  r_fn T0_ok (c := F53.code) (n := 33) Try.func53 F53.body (by kernel_rfl) (F53.main Post) (lenM (by kernel_rfl) (asI_mk' (by kernel_rfl) (h)))

-- loop.example/g01329/impl.areAll[int64]
noncomputable def F54.ret (Post : Value → AHeap → Prop) : EP := retE T0 9 Try.f54 Post
noncomputable def F54.o1 : List Oper := opsIn (codeAt (bodyOf Try.f54) [.r, .l])
def F54.B1 (Post : Value → AHeap → Prop) (x0 : Value) (x3 : Nat) (H : AHeap) : Prop :=
  AC Try.prog T0 65 [x0, (Value.func (.func 66) ⟨[]⟩ ⟨[(Value.pointer (some ⟨x3, 0, none⟩))]⟩)] H (fun v1 H2 => asB v1 (fun v3 => Post (Value.bool (!v3)) H2))
def F54.B1.e (Post : Value → AHeap → Prop) : EP := fun env H => pif (Nat.beq (List.length env) 9) (asX (List.getD env 3 undef) (fun x3 => F54.B1 Post (List.getD env 0 undef) x3 H)) False
theorem F54.q1 (u : Nat → Value) (Post : Value → AHeap → Prop) (x0 : Value) (x3 : Nat) (H : AHeap) : aOps Try.prog T0 F54.o1 F54.o1 (mkEnv (upd (upd u 0 x0) 3 (Value.pointer (some ⟨x3, 0, none⟩))) 9 0) H (F54.ret Post) = F54.B1 Post x0 x3 H := by kernel_rfl
theorem F54.r1 (Post : Value → AHeap → Prop) : ∀ env H, F54.B1.e Post env H → aOps Try.prog T0 F54.o1 F54.o1 env H (F54.ret Post) := by
  intro env H h
  obtain ⟨hl, h⟩ := lenE h
  obtain ⟨x3, e3, h⟩ := asX_elim h
  exact use_ops hl (upd_step (upd_step rfl rfl) e3) ((F54.q1 _ Post (List.getD env 0 undef) x3 H).mpr h)
noncomputable def F54.o2 : List Oper := opsIn (codeAt (bodyOf Try.f54) [.l])
def F54.B2 (Post : Value → AHeap → Prop) (x0 : Value) (x1 : Value) (H : AHeap) : Prop :=
  pif (Value.oneCell' x1) (newK H [x1] 68 (fun b1 H2 => F54.B1 Post x0 b1 H2)) False
def F54.B2.e (Post : Value → AHeap → Prop) : EP := fun env H => pif (Nat.beq (List.length env) 9) (F54.B2 Post (List.getD env 0 undef) (List.getD env 1 undef) H) False
theorem F54.q2 (u : Nat → Value) (Post : Value → AHeap → Prop) (x0 : Value) (x1 : Value) (H : AHeap) : aOps Try.prog T0 F54.o2 F54.o2 (mkEnv (upd (upd u 0 x0) 1 x1) 9 0) H (F54.B1.e Post) = F54.B2 Post x0 x1 H := by kernel_rfl
theorem F54.r2 (Post : Value → AHeap → Prop) : ∀ env H, F54.B2.e Post env H → aOps Try.prog T0 F54.o2 F54.o2 env H (F54.B1.e Post) := by
  intro env H h
  obtain ⟨hl, h⟩ := lenE h
  exact use_ops hl (upd_step (upd_step rfl rfl) rfl) ((F54.q2 _ Post (List.getD env 0 undef) (List.getD env 1 undef) H).mpr h)
noncomputable def F54.code : Code := (.seq (.region 0 ⟨F54.o2⟩ false) (.seq (.region 1 ⟨F54.o1⟩ false) .ret))
theorem F54.body : Try.f54.body = some F54.code := by kernel_rfl
theorem F54.main (Post : Value → AHeap → Prop) : ∀ env H, F54.B2.e Post env H → AW Try.prog T0 F54.code env H (mkQ (F54.ret Post) (fun _ _ _ => False) (F54.ret Post)) :=
  (r_seq (r_region T0_ok (F54.r2 Post)) (r_seq (r_region T0_ok (F54.r1 Post)) r_ret))
theorem F54.ac (Post : Value → AHeap → Prop) (x0 : Value) (x1 : Value) (H : AHeap) (h : F54.B2 Post x0 x1 H) : AC Try.prog T0 54 [x0, x1] H Post :=
  r_fn T0_ok (c := F54.code) (n := 9) Try.func54 F54.body (by kernel_rfl) (F54.main Post) (lenM (by kernel_rfl) (h))

-- loop.example/g01329/impl.isColour
noncomputable def F55.ret (Post : Value → AHeap → Prop) : EP := retE T0 5 Try.f55 Post
noncomputable def F55.o1 : List Oper := opsIn (codeAt (bodyOf Try.f55) [.r, .l])
def F55.B1 (Post : Value → AHeap → Prop) (x0 : Int) (H : AHeap) : Prop :=
  AC Try.prog T0 40 [(Value.int .i64 x0), (Value.int .i64 0), (Value.int .i64 2)] H (fun v1 H2 => asB v1 (fun v3 => Post (Value.bool v3) H2))
def F55.B1.e (Post : Value → AHeap → Prop) : EP := fun env H => pif (Nat.beq (List.length env) 5) (asI .i64 (List.getD env 0 undef) (fun x0 => F55.B1 Post x0 H)) False
theorem F55.q1 (u : Nat → Value) (Post : Value → AHeap → Prop) (x0 : Int) (H : AHeap) : aOps Try.prog T0 F55.o1 F55.o1 (mkEnv (upd u 0 (Value.int .i64 x0)) 5 0) H (F55.ret Post) = F55.B1 Post x0 H := by kernel_rfl
theorem F55.r1 (Post : Value → AHeap → Prop) : ∀ env H, F55.B1.e Post env H → aOps Try.prog T0 F55.o1 F55.o1 env H (F55.ret Post) := by
  intro env H h
  obtain ⟨hl, h⟩ := lenE h
  obtain ⟨x0, e0, h⟩ := asI_elim h
  exact use_ops hl (upd_step rfl e0) ((F55.q1 _ Post x0 H).mpr h)
noncomputable def F55.o2 : List Oper := opsIn (codeAt (bodyOf Try.f55) [.l])
def F55.B2 (Post : Value → AHeap → Prop) (x0 : Int) (H : AHeap) : Prop :=
  F55.B1 Post x0 H
def F55.B2.e (Post : Value → AHeap → Prop) : EP := fun env H => pif (Nat.beq (List.length env) 5) (asI .i64 (List.getD env 0 undef) (fun x0 => F55.B2 Post x0 H)) False
theorem F55.q2 (u : Nat → Value) (Post : Value → AHeap → Prop) (x0 : Int) (H : AHeap) : aOps Try.prog T0 F55.o2 F55.o2 (mkEnv (upd u 0 (Value.int .i64 x0)) 5 0) H (F55.B1.e Post) = F55.B2 Post x0 H := by kernel_rfl
theorem F55.r2 (Post : Value → AHeap → Prop) : ∀ env H, F55.B2.e Post env H → aOps Try.prog T0 F55.o2 F55.o2 env H (F55.B1.e Post) := by
  intro env H h
  obtain ⟨hl, h⟩ := lenE h
  obtain ⟨x0, e0, h⟩ := asI_elim h
  exact use_ops hl (upd_step rfl e0) ((F55.q2 _ Post x0 H).mpr h)
noncomputable def F55.code : Code := (.seq (.region 0 ⟨F55.o2⟩ false) (.seq (.region 1 ⟨F55.o1⟩ false) .ret))
theorem F55.body : Try.f55.body = some F55.code := by kernel_rfl
theorem F55.main (Post : Value → AHeap → Prop) : ∀ env H, F55.B2.e Post env H → AW Try.prog T0 F55.code env H (mkQ (F55.ret Post) (fun _ _ _ => False) (F55.ret Post)) :=
  (r_seq (r_region T0_ok (F55.r2 Post)) (r_seq (r_region T0_ok (F55.r1 Post)) r_ret))
theorem F55.ac (Post : Value → AHeap → Prop) (x0 : Int) (H : AHeap) (h : F55.B2 Post x0 H) : AC Try.prog T0 55 [(Value.int .i64 x0)] H Post :=
  r_fn T0_ok (c := F55.code) (n := 5) Try.func55 F55.body (by kernel_rfl) (F55.main Post) (lenM (by kernel_rfl) (asI_mk' (by kernel_rfl) (h)))

-- loop.example/g01329/impl.length[int64]
noncomputable def F56.ret (Post : Value → AHeap → Prop) : EP := retE T0 5 Try.f56 Post
noncomputable def F56.o1 : List Oper := opsIn (codeAt (bodyOf Try.f56) [.r, .l])
def F56.B1 (Post : Value → AHeap → Prop) (x0 : Value) (H : AHeap) : Prop :=
  lenK x0 (fun n1 => Post (Value.int .i64 (n1 : Int)) H)
def F56.B1.e (Post : Value → AHeap → Prop) : EP := fun env H => pif (Nat.beq (List.length env) 5) (F56.B1 Post (List.getD env 0 undef) H) False
theorem F56.q1 (u : Nat → Value) (Post : Value → AHeap → Prop) (x0 : Value) (H : AHeap) : aOps Try.prog T0 F56.o1 F56.o1 (mkEnv (upd u 0 x0) 5 0) H (F56.ret Post) = F56.B1 Post x0 H := by kernel_rfl
theorem F56.r1 (Post : Value → AHeap → Prop) : ∀ env H, F56.B1.e Post env H → aOps Try.prog T0 F56.o1 F56.o1 env H (F56.ret Post) := by
  intro env H h
  obtain ⟨hl, h⟩ := lenE h
  exact use_ops hl (upd_step rfl rfl) ((F56.q1 _ Post (List.getD env 0 undef) H).mpr h)
noncomputable def F56.o2 : List Oper := opsIn (codeAt (bodyOf Try.f56) [.l])
def F56.B2 (Post : Value → AHeap → Prop) (x0 : Value) (H : AHeap) : Prop :=
  F56.B1 Post x0 H
def F56.B2.e (Post : Value → AHeap → Prop) : EP := fun env H => pif (Nat.beq (List.length env) 5) (F56.B2 Post (List.getD env 0 undef) H) False
theorem F56.q2 (u : Nat → Value) (Post : Value → AHeap → Prop) (x0 : Value) (H : AHeap) : aOps Try.prog T0 F56.o2 F56.o2 (mkEnv (upd u 0 x0) 5 0) H (F56.B1.e Post) = F56.B2 Post x0 H := by kernel_rfl
theorem F56.r2 (Post : Value → AHeap → Prop) : ∀ env H, F56.B2.e Post env H → aOps Try.prog T0 F56.o2 F56.o2 env H (F56.B1.e Post) := by
  intro env H h
  obtain ⟨hl, h⟩ := lenE h
  exact use_ops hl (upd_step rfl rfl) ((F56.q2 _ Post (List.getD env 0 undef) H).mpr h)
noncomputable def F56.code : Code := (.seq (.region 0 ⟨F56.o2⟩ false) (.seq (.region 1 ⟨F56.o1⟩ false) .ret))
theorem F56.body : Try.f56.body = some F56.code := by kernel_rfl
theorem F56.main (Post : Value → AHeap → Prop) : ∀ env H, F56.B2.e Post env H → AW Try.prog T0 F56.code env H (mkQ (F56.ret Post) (fun _ _ _ => False) (F56.ret Post)) :=
  (r_seq (r_region T0_ok (F56.r2 Post)) (r_seq (r_region T0_ok (F56.r1 Post)) r_ret))
theorem F56.ac (Post : Value → AHeap → Prop) (x0 : Value) (H : AHeap) (h : F56.B2 Post x0 H) : AC Try.prog T0 56 [x0] H Post :=
  r_fn T0_ok (c := F56.code) (n := 5) Try.func56 F56.body (by kernel_rfl) (F56.main Post) (lenM (by kernel_rfl) (h))

-- loop.example/g01329/spec.l01At
noncomputable def F57.ret (Post : Value → AHeap → Prop) : EP := retE T0 38 Try.f57 Post
noncomputable def F57.o1 : List Oper := opsIn (codeAt (bodyOf Try.f57) [.r, .r, .r, .l])
def F57.B1 (Post : Value → AHeap → Prop) (x5 : Value) (H : AHeap) : Prop :=
  Post x5 H
def F57.B1.e (Post : Value → AHeap → Prop) : EP := fun env H => pif (Nat.beq (List.length env) 38) (F57.B1 Post (List.getD env 5 undef) H) False
theorem F57.q1 (u : Nat → Value) (Post : Value → AHeap → Prop) (x5 : Value) (H : AHeap) : aOps Try.prog T0 F57.o1 F57.o1 (mkEnv (upd u 5 x5) 38 0) H (F57.ret Post) = F57.B1 Post x5 H := by kernel_rfl
theorem F57.r1 (Post : Value → AHeap → Prop) : ∀ env H, F57.B1.e Post env H → aOps Try.prog T0 F57.o1 F57.o1 env H (F57.ret Post) := by
  intro env H h
  obtain ⟨hl, h⟩ := lenE h
  exact use_ops hl (upd_step rfl rfl) ((F57.q1 _ Post (List.getD env 5 undef) H).mpr h)
def F57.L2.ne (N : Int → Nat → Value → Int → AHeap → Prop) : EP := fun env H => pif (Nat.beq (List.length env) 38) (asI .i64 (List.getD env 1 undef) (fun x1 => asX (List.getD env 2 undef) (fun x2 => asI .i64 (List.getD env 6 undef) (fun x6 => N x1 x2 (List.getD env 5 undef) x6 H)))) False
noncomputable def F57.o3 : List Oper := opsIn (codeAt (bodyOf Try.f57) [.r, .r, .l, .r, .l, .l, .r, .r])
def F57.B3 (Post : Value → AHeap → Prop) (N2 : Int → Nat → Value → Int → AHeap → Prop) (x1 : Int) (x2 : Nat) (x5 : Value) (x6 : Int) (H : AHeap) : Prop :=
  N2 x1 x2 x5 (IntKind.i64.wrap (x6 + 1)) H
def F57.B3.e (Post : Value → AHeap → Prop) (N2 : Int → Nat → Value → Int → AHeap → Prop) : EP := fun env H => pif (Nat.beq (List.length env) 38) (asI .i64 (List.getD env 1 undef) (fun x1 => asX (List.getD env 2 undef) (fun x2 => asI .i64 (List.getD env 6 undef) (fun x6 => F57.B3 Post N2 x1 x2 (List.getD env 5 undef) x6 H)))) False
theorem F57.q3 (u : Nat → Value) (Post : Value → AHeap → Prop) (N2 : Int → Nat → Value → Int → AHeap → Prop) (x1 : Int) (x2 : Nat) (x5 : Value) (x6 : Int) (H : AHeap) : aOps Try.prog T0 F57.o3 F57.o3 (mkEnv (upd (upd (upd (upd u 1 (Value.int .i64 x1)) 2 (Value.pointer (some ⟨x2, 0, none⟩))) 5 x5) 6 (Value.int .i64 x6)) 38 0) H (F57.L2.ne N2) = F57.B3 Post N2 x1 x2 x5 x6 H := by kernel_rfl
theorem F57.r3 (Post : Value → AHeap → Prop) (N2 : Int → Nat → Value → Int → AHeap → Prop) : ∀ env H, F57.B3.e Post N2 env H → aOps Try.prog T0 F57.o3 F57.o3 env H (F57.L2.ne N2) := by
  intro env H h
  obtain ⟨hl, h⟩ := lenE h
  obtain ⟨x1, e1, h⟩ := asI_elim h
  obtain ⟨x2, e2, h⟩ := asX_elim h
  obtain ⟨x6, e6, h⟩ := asI_elim h
  exact use_ops hl (upd_step (upd_step (upd_step (upd_step rfl e1) e2) rfl) e6) ((F57.q3 _ Post N2 x1 x2 (List.getD env 5 undef) x6 H).mpr h)
noncomputable def F57.o4 : List Oper := opsIn (codeAt (bodyOf Try.f57) [.r, .r, .l, .r, .l, .l, .r, .l, .l, .r, .l])
def F57.B4 (Post : Value → AHeap → Prop) (N2 : Int → Nat → Value → Int → AHeap → Prop) (x1 : Int) (x2 : Nat) (x5 : Value) (x6 : Int) (H : AHeap) : Prop :=
  newK H [(Value.int .i64 x6)] 2 (fun b1 H2 => apK T0 2 H2 x5 (Value.slice (some ⟨b1, 0, none⟩) 1 (1 + 1)) (fun v3 H4 => F57.B3 Post N2 x1 x2 v3 x6 H4))
def F57.B4.e (Post : Value → AHeap → Prop) (N2 : Int → Nat → Value → Int → AHeap → Prop) : EP := fun env H => pif (Nat.beq (List.length env) 38) (asI .i64 (List.getD env 1 undef) (fun x1 => asX (List.getD env 2 undef) (fun x2 => asI .i64 (List.getD env 6 undef) (fun x6 => F57.B4 Post N2 x1 x2 (List.getD env 5 undef) x6 H)))) False
theorem F57.q4 (u : Nat → Value) (Post : Value → AHeap → Prop) (N2 : Int → Nat → Value → Int → AHeap → Prop) (x1 : Int) (x2 : Nat) (x5 : Value) (x6 : Int) (H : AHeap) : aOps Try.prog T0 F57.o4 F57.o4 (mkEnv (upd (upd (upd (upd u 1 (Value.int .i64 x1)) 2 (Value.pointer (some ⟨x2, 0, none⟩))) 5 x5) 6 (Value.int .i64 x6)) 38 0) H (F57.B3.e Post N2) = F57.B4 Post N2 x1 x2 x5 x6 H := by kernel_rfl
theorem F57.r4 (Post : Value → AHeap → Prop) (N2 : Int → Nat → Value → Int → AHeap → Prop) : ∀ env H, F57.B4.e Post N2 env H → aOps Try.prog T0 F57.o4 F57.o4 env H (F57.B3.e Post N2) := by
  intro env H h
  obtain ⟨hl, h⟩ := lenE h
  obtain ⟨x1, e1, h⟩ := asI_elim h
  obtain ⟨x2, e2, h⟩ := asX_elim h
  obtain ⟨x6, e6, h⟩ := asI_elim h
  exact use_ops hl (upd_step (upd_step (upd_step (upd_step rfl e1) e2) rfl) e6) ((F57.q4 _ Post N2 x1 x2 (List.getD env 5 undef) x6 H).mpr h)
noncomputable def F57.o5 : List Oper := opsIn (codeAt (bodyOf Try.f57) [.r, .r, .l, .r, .l, .l, .r, .l, .l, .l])
def F57.B5 (Post : Value → AHeap → Prop) (N2 : Int → Nat → Value → Int → AHeap → Prop) (x1 : Int) (x2 : Nat) (x5 : Value) (x6 : Int) (H : AHeap) : Prop :=
  ld1 H x2 1 (fun v1 => idxK v1 x6 2 (fun b2 o3 => ldI .i64 H b2 o3 (fun v4 => pif ((v4 : Int) == x1) (F57.B4 Post N2 x1 x2 x5 x6 H) (ld1 H x2 1 (fun v5 => idxK v5 x6 2 (fun b6 o7 => ldI .i64 H b6 (o7 + 1) (fun v8 => pif ((v8 : Int) == x1) (F57.B4 Post N2 x1 x2 x5 x6 H) (F57.B3 Post N2 x1 x2 x5 x6 H))))))))
def F57.B5.e (Post : Value → AHeap → Prop) (N2 : Int → Nat → Value → Int → AHeap → Prop) : EP := fun env H => pif (Nat.beq (List.length env) 38) (asI .i64 (List.getD env 1 undef) (fun x1 => asX (List.getD env 2 undef) (fun x2 => asI .i64 (List.getD env 6 undef) (fun x6 => F57.B5 Post N2 x1 x2 (List.getD env 5 undef) x6 H)))) False
theorem F57.q5 (u : Nat → Value) (Post : Value → AHeap → Prop) (N2 : Int → Nat → Value → Int → AHeap → Prop) (x1 : Int) (x2 : Nat) (x5 : Value) (x6 : Int) (H : AHeap) : aOps Try.prog T0 F57.o5 F57.o5 (mkEnv (upd (upd (upd (upd u 1 (Value.int .i64 x1)) 2 (Value.pointer (some ⟨x2, 0, none⟩))) 5 x5) 6 (Value.int .i64 x6)) 38 0) H (fun env H => asB (aev env (.tmp 32)) (fun b => pif b ((F57.B4.e Post N2) env H) ((F57.B3.e Post N2) env H))) = F57.B5 Post N2 x1 x2 x5 x6 H := by kernel_rfl
theorem F57.r5 (Post : Value → AHeap → Prop) (N2 : Int → Nat → Value → Int → AHeap → Prop) : ∀ env H, F57.B5.e Post N2 env H → aOps Try.prog T0 F57.o5 F57.o5 env H (fun env H => asB (aev env (.tmp 32)) (fun b => pif b ((F57.B4.e Post N2) env H) ((F57.B3.e Post N2) env H))) := by
  intro env H h
  obtain ⟨hl, h⟩ := lenE h
  obtain ⟨x1, e1, h⟩ := asI_elim h
  obtain ⟨x2, e2, h⟩ := asX_elim h
  obtain ⟨x6, e6, h⟩ := asI_elim h
  exact use_ops hl (upd_step (upd_step (upd_step (upd_step rfl e1) e2) rfl) e6) ((F57.q5 _ Post N2 x1 x2 (List.getD env 5 undef) x6 H).mpr h)
noncomputable def F57.o6 : List Oper := opsIn (codeAt (bodyOf Try.f57) [.r, .r, .l, .r, .l, .l, .l, .l])
def F57.B6 (Post : Value → AHeap → Prop) (N2 : Int → Nat → Value → Int → AHeap → Prop) (x1 : Int) (x2 : Nat) (x5 : Value) (x6 : Int) (H : AHeap) : Prop :=
  ld1 H x2 1 (fun v1 => lenK v1 (fun n2 => pif (decide ((x6 : Int) < (n2 : Int))) (F57.B5 Post N2 x1 x2 x5 x6 H) (F57.B1 Post x5 H)))
def F57.B6.e (Post : Value → AHeap → Prop) (N2 : Int → Nat → Value → Int → AHeap → Prop) : EP := fun env H => pif (Nat.beq (List.length env) 38) (asI .i64 (List.getD env 1 undef) (fun x1 => asX (List.getD env 2 undef) (fun x2 => asI .i64 (List.getD env 6 undef) (fun x6 => F57.B6 Post N2 x1 x2 (List.getD env 5 undef) x6 H)))) False
theorem F57.q6 (u : Nat → Value) (Post : Value → AHeap → Prop) (N2 : Int → Nat → Value → Int → AHeap → Prop) (x1 : Int) (x2 : Nat) (x5 : Value) (x6 : Int) (H : AHeap) : aOps Try.prog T0 F57.o6 F57.o6 (mkEnv (upd (upd (upd (upd u 1 (Value.int .i64 x1)) 2 (Value.pointer (some ⟨x2, 0, none⟩))) 5 x5) 6 (Value.int .i64 x6)) 38 0) H (fun env H => asB (aev env (.tmp 12)) (fun b => pif b ((F57.B5.e Post N2) env H) ((F57.B1.e Post) env H))) = F57.B6 Post N2 x1 x2 x5 x6 H := by kernel_rfl
theorem F57.r6 (Post : Value → AHeap → Prop) (N2 : Int → Nat → Value → Int → AHeap → Prop) : ∀ env H, F57.B6.e Post N2 env H → aOps Try.prog T0 F57.o6 F57.o6 env H (fun env H => asB (aev env (.tmp 12)) (fun b => pif b ((F57.B5.e Post N2) env H) ((F57.B1.e Post) env H))) := by
  intro env H h
  obtain ⟨hl, h⟩ := lenE h
  obtain ⟨x1, e1, h⟩ := asI_elim h
  obtain ⟨x2, e2, h⟩ := asX_elim h
  obtain ⟨x6, e6, h⟩ := asI_elim h
  exact use_ops hl (upd_step (upd_step (upd_step (upd_step rfl e1) e2) rfl) e6) ((F57.q6 _ Post N2 x1 x2 (List.getD env 5 undef) x6 H).mpr h)
def F57.L2 (Post : Value → AHeap → Prop) (x1 : Int) (x2 : Nat) (x5 : Value) (x6 : Int) (H : AHeap) : Prop :=
  ∃ (I : Int → Nat → Value → Int → AHeap → Prop) (μ : Int → Nat → Value → Int → AHeap → Nat), I x1 x2 x5 x6 H ∧ ∀ x1' x2' x5' x6' H', I x1' x2' x5' x6' H' → F57.B6 Post (fun x1'' x2'' x5'' x6'' H'' => I x1'' x2'' x5'' x6'' H'' ∧ μ x1'' x2'' x5'' x6'' H'' < μ x1' x2' x5' x6' H') x1' x2' x5' x6' H'
def F57.L2.e (Post : Value → AHeap → Prop) : EP := fun env H => pif (Nat.beq (List.length env) 38) (asI .i64 (List.getD env 1 undef) (fun x1 => asX (List.getD env 2 undef) (fun x2 => asI .i64 (List.getD env 6 undef) (fun x6 => F57.L2 Post x1 x2 (List.getD env 5 undef) x6 H)))) False
theorem F57.l2 (Post : Value → AHeap → Prop) {c : Code} {K : EP} {X : Nat → EP}
    (hb : ∀ N2 : Int → Nat → Value → Int → AHeap → Prop, ∀ env H, (F57.B6.e Post N2) env H → AW Try.prog T0 c env H (mkQ (F57.L2.ne N2) X (F57.ret Post))) :
    ∀ env H, F57.L2.e Post env H → AW Try.prog T0 (.loop c) env H (mkQ K X (F57.ret Post)) := by
  intro env H h
  obtain ⟨hl, h⟩ := lenE h
  obtain ⟨x1, e1, h⟩ := asI_elim h
  obtain ⟨x2, e2, h⟩ := asX_elim h
  obtain ⟨x6, e6, h⟩ := asI_elim h
  obtain ⟨I, μ, h0, hI⟩ := h
  refine r_loop (fun n env H => pif (Nat.beq (List.length env) 38) (asI .i64 (List.getD env 1 undef) (fun x1 => asX (List.getD env 2 undef) (fun x2 => asI .i64 (List.getD env 6 undef) (fun x6 => (I x1 x2 (List.getD env 5 undef) x6 H) ∧ (μ x1 x2 (List.getD env 5 undef) x6 H = n))))) False) ?_ env H ⟨μ x1 x2 (List.getD env 5 undef) x6 H, lenM hl (asI_mk' e1 (asX_mk' e2 (asI_mk' e6 (⟨h0, rfl⟩))))⟩
  intro n env' H' h
  obtain ⟨hl', h⟩ := lenE h
  obtain ⟨x1', e1', h⟩ := asI_elim h
  obtain ⟨x2', e2', h⟩ := asX_elim h
  obtain ⟨x6', e6', h⟩ := asI_elim h
  obtain ⟨hi, hm⟩ := h
  refine r_imp (hb (fun x1'' x2'' x5'' x6'' H'' => I x1'' x2'' x5'' x6'' H'' ∧ μ x1'' x2'' x5'' x6'' H'' < n)) ?_ env' H' ?_
  · intro env H h
    obtain ⟨hl'', h⟩ := lenE h
    obtain ⟨x1'', e1'', h⟩ := asI_elim h
    obtain ⟨x2'', e2'', h⟩ := asX_elim h
    obtain ⟨x6'', e6'', h⟩ := asI_elim h
    obtain ⟨hi, hlt⟩ := h
    exact ⟨_, hlt, lenM hl'' (asI_mk' e1'' (asX_mk' e2'' (asI_mk' e6'' (⟨hi, rfl⟩))))⟩
  · have h := hI x1' x2' (List.getD env' 5 undef) x6' H' hi
    rw [hm] at h
    exact lenM hl' (asI_mk' e1' (asX_mk' e2' (asI_mk' e6' (h))))
noncomputable def F57.o7 : List Oper := opsIn (codeAt (bodyOf Try.f57) [.r, .r, .l, .l])
def F57.B7 (Post : Value → AHeap → Prop) (x1 : Int) (x2 : Nat) (x5 : Value) (H : AHeap) : Prop :=
  F57.L2 Post x1 x2 x5 0 H
def F57.B7.e (Post : Value → AHeap → Prop) : EP := fun env H => pif (Nat.beq (List.length env) 38) (asI .i64 (List.getD env 1 undef) (fun x1 => asX (List.getD env 2 undef) (fun x2 => F57.B7 Post x1 x2 (List.getD env 5 undef) H))) False
theorem F57.q7 (u : Nat → Value) (Post : Value → AHeap → Prop) (x1 : Int) (x2 : Nat) (x5 : Value) (H : AHeap) : aOps Try.prog T0 F57.o7 F57.o7 (mkEnv (upd (upd (upd u 1 (Value.int .i64 x1)) 2 (Value.pointer (some ⟨x2, 0, none⟩))) 5 x5) 38 0) H (F57.L2.e Post) = F57.B7 Post x1 x2 x5 H := by kernel_rfl
theorem F57.r7 (Post : Value → AHeap → Prop) : ∀ env H, F57.B7.e Post env H → aOps Try.prog T0 F57.o7 F57.o7 env H (F57.L2.e Post) := by
  intro env H h
  obtain ⟨hl, h⟩ := lenE h
  obtain ⟨x1, e1, h⟩ := asI_elim h
  obtain ⟨x2, e2, h⟩ := asX_elim h
  exact use_ops hl (upd_step (upd_step (upd_step rfl e1) e2) rfl) ((F57.q7 _ Post x1 x2 (List.getD env 5 undef) H).mpr h)
noncomputable def F57.o8 : List Oper := opsIn (codeAt (bodyOf Try.f57) [.r, .l])
def F57.B8 (Post : Value → AHeap → Prop) (x1 : Int) (x2 : Nat) (H : AHeap) : Prop :=
  newK H [] 2 (fun b1 H2 => F57.B7 Post x1 x2 (Value.slice (some ⟨b1, 0, none⟩) 0 (0 + 1)) H2)
def F57.B8.e (Post : Value → AHeap → Prop) : EP := fun env H => pif (Nat.beq (List.length env) 38) (asI .i64 (List.getD env 1 undef) (fun x1 => asX (List.getD env 2 undef) (fun x2 => F57.B8 Post x1 x2 H))) False
theorem F57.q8 (u : Nat → Value) (Post : Value → AHeap → Prop) (x1 : Int) (x2 : Nat) (H : AHeap) : aOps Try.prog T0 F57.o8 F57.o8 (mkEnv (upd (upd u 1 (Value.int .i64 x1)) 2 (Value.pointer (some ⟨x2, 0, none⟩))) 38 0) H (F57.B7.e Post) = F57.B8 Post x1 x2 H := by kernel_rfl
theorem F57.r8 (Post : Value → AHeap → Prop) : ∀ env H, F57.B8.e Post env H → aOps Try.prog T0 F57.o8 F57.o8 env H (F57.B7.e Post) := by
  intro env H h
  obtain ⟨hl, h⟩ := lenE h
  obtain ⟨x1, e1, h⟩ := asI_elim h
  obtain ⟨x2, e2, h⟩ := asX_elim h
  exact use_ops hl (upd_step (upd_step rfl e1) e2) ((F57.q8 _ Post x1 x2 H).mpr h)
noncomputable def F57.o9 : List Oper := opsIn (codeAt (bodyOf Try.f57) [.l])
def F57.B9 (Post : Value → AHeap → Prop) (x0a : Int) (x0b : Value) (x1 : Int) (H : AHeap) : Prop :=
  newK H [(Value.int .i64 x0a), x0b] 31 (fun b1 H2 => F57.B8 Post x1 b1 H2)
def F57.B9.e (Post : Value → AHeap → Prop) : EP := fun env H => pif (Nat.beq (List.length env) 38) (as_iv (List.getD env 0 undef) (fun x0a x0b => asI .i64 (List.getD env 1 undef) (fun x1 => F57.B9 Post x0a x0b x1 H))) False
theorem F57.q9 (u : Nat → Value) (Post : Value → AHeap → Prop) (x0a : Int) (x0b : Value) (x1 : Int) (H : AHeap) : aOps Try.prog T0 F57.o9 F57.o9 (mkEnv (upd (upd u 0 (Value.agg ⟨[(Value.int .i64 x0a), x0b]⟩)) 1 (Value.int .i64 x1)) 38 0) H (F57.B8.e Post) = F57.B9 Post x0a x0b x1 H := by kernel_rfl
theorem F57.r9 (Post : Value → AHeap → Prop) : ∀ env H, F57.B9.e Post env H → aOps Try.prog T0 F57.o9 F57.o9 env H (F57.B8.e Post) := by
  intro env H h
  obtain ⟨hl, h⟩ := lenE h
  obtain ⟨x0a, x0b, e0, h⟩ := as_iv_elim h
  obtain ⟨x1, e1, h⟩ := asI_elim h
  exact use_ops hl (upd_step (upd_step rfl e0) e1) ((F57.q9 _ Post x0a x0b x1 H).mpr h)
noncomputable def F57.code : Code := (.seq (.region 0 ⟨F57.o9⟩ false) (.seq (.region 1 ⟨F57.o8⟩ false) (.seq (.seq (.region 2 ⟨F57.o7⟩ false) (.block 0 (.loop (.seq (.seq (.region 3 ⟨F57.o6⟩ false) (.cond (.tmp 12) .skip (.exit 0))) (.seq (.block 1 (.seq (.region 5 ⟨F57.o5⟩ false) (.cond (.tmp 32) (.region 6 ⟨F57.o4⟩ false) .skip))) (.region 4 ⟨F57.o3⟩ false)))))) (.seq (.region 7 ⟨F57.o1⟩ false) .ret))))
theorem F57.body : Try.f57.body = some F57.code := by kernel_rfl
theorem F57.main (Post : Value → AHeap → Prop) : ∀ env H, F57.B9.e Post env H → AW Try.prog T0 F57.code env H (mkQ (F57.ret Post) (fun _ _ _ => False) (F57.ret Post)) :=
  (r_seq (r_region T0_ok (F57.r9 Post)) (r_seq (r_region T0_ok (F57.r8 Post)) (r_seq (r_seq (r_region T0_ok (F57.r7 Post)) (r_block (F57.l2 Post (fun N2 => (r_seq (r_seq (r_region T0_ok (F57.r6 Post N2)) (r_cond rfl r_skip (r_exit (fun _ _ h => h)))) (r_seq (r_block (r_seq (r_region T0_ok (F57.r5 Post N2)) (r_cond rfl (r_region T0_ok (F57.r4 Post N2)) r_skip))) (r_region T0_ok (F57.r3 Post N2)))))))) (r_seq (r_region T0_ok (F57.r1 Post)) r_ret))))
theorem F57.ac (Post : Value → AHeap → Prop) (x0a : Int) (x0b : Value) (x1 : Int) (H : AHeap) (h : F57.B9 Post x0a x0b x1 H) : AC Try.prog T0 57 [(Value.agg ⟨[(Value.int .i64 x0a), x0b]⟩), (Value.int .i64 x1)] H Post :=
  r_fn T0_ok (c := F57.code) (n := 38) Try.func57 F57.body (by kernel_rfl) (F57.main Post) (lenM (by kernel_rfl) (as_iv_mk' (by kernel_rfl) (asI_mk' (by kernel_rfl) (h))))

-- loop.example/g01329/impl.isSize
noncomputable def F58.ret (Post : Value → AHeap → Prop) : EP := retE T0 10 Try.f58 Post
noncomputable def F58.o1 : List Oper := opsIn (codeAt (bodyOf Try.f58) [.r, .l])
def F58.B1 (Post : Value → AHeap → Prop) (x0 : Int) (H : AHeap) : Prop :=
  AC Try.prog T0 40 [(Value.int .i64 x0), (Value.int .i64 2), (Value.int .i64 20)] H (fun v1 H2 => asB v1 (fun v3 => pif v3 (Post (Value.bool ((Int.tmod x0 2 : Int) == 0)) H2) (Post (Value.bool false) H2)))
def F58.B1.e (Post : Value → AHeap → Prop) : EP := fun env H => pif (Nat.beq (List.length env) 10) (asI .i64 (List.getD env 0 undef) (fun x0 => F58.B1 Post x0 H)) False
theorem F58.q1 (u : Nat → Value) (Post : Value → AHeap → Prop) (x0 : Int) (H : AHeap) : aOps Try.prog T0 F58.o1 F58.o1 (mkEnv (upd u 0 (Value.int .i64 x0)) 10 0) H (F58.ret Post) = F58.B1 Post x0 H := by kernel_rfl
theorem F58.r1 (Post : Value → AHeap → Prop) : ∀ env H, F58.B1.e Post env H → aOps Try.prog T0 F58.o1 F58.o1 env H (F58.ret Post) := by
  intro env H h
  obtain ⟨hl, h⟩ := lenE h
  obtain ⟨x0, e0, h⟩ := asI_elim h
  exact use_ops hl (upd_step rfl e0) ((F58.q1 _ Post x0 H).mpr h)
noncomputable def F58.o2 : List Oper := opsIn (codeAt (bodyOf Try.f58) [.l])
def F58.B2 (Post : Value → AHeap → Prop) (x0 : Int) (H : AHeap) : Prop :=
  F58.B1 Post x0 H
def F58.B2.e (Post : Value → AHeap → Prop) : EP := fun env H => pif (Nat.beq (List.length env) 10) (asI .i64 (List.getD env 0 undef) (fun x0 => F58.B2 Post x0 H)) False
theorem F58.q2 (u : Nat → Value) (Post : Value → AHeap → Prop) (x0 : Int) (H : AHeap) : aOps Try.prog T0 F58.o2 F58.o2 (mkEnv (upd u 0 (Value.int .i64 x0)) 10 0) H (F58.B1.e Post) = F58.B2 Post x0 H := by kernel_rfl
theorem F58.r2 (Post : Value → AHeap → Prop) : ∀ env H, F58.B2.e Post env H → aOps Try.prog T0 F58.o2 F58.o2 env H (F58.B1.e Post) := by
  intro env H h
  obtain ⟨hl, h⟩ := lenE h
  obtain ⟨x0, e0, h⟩ := asI_elim h
  exact use_ops hl (upd_step rfl e0) ((F58.q2 _ Post x0 H).mpr h)
noncomputable def F58.code : Code := (.seq (.region 0 ⟨F58.o2⟩ false) (.seq (.region 1 ⟨F58.o1⟩ false) .ret))
theorem F58.body : Try.f58.body = some F58.code := by kernel_rfl
theorem F58.main (Post : Value → AHeap → Prop) : ∀ env H, F58.B2.e Post env H → AW Try.prog T0 F58.code env H (mkQ (F58.ret Post) (fun _ _ _ => False) (F58.ret Post)) :=
  (r_seq (r_region T0_ok (F58.r2 Post)) (r_seq (r_region T0_ok (F58.r1 Post)) r_ret))
theorem F58.ac (Post : Value → AHeap → Prop) (x0 : Int) (H : AHeap) (h : F58.B2 Post x0 H) : AC Try.prog T0 58 [(Value.int .i64 x0)] H Post :=
  r_fn T0_ok (c := F58.code) (n := 10) Try.func58 F58.body (by kernel_rfl) (F58.main Post) (lenM (by kernel_rfl) (asI_mk' (by kernel_rfl) (h)))

-- loop.example/g01329/impl.areEdges$1
noncomputable def F59.ret (Post : Value → AHeap → Prop) : EP := retE T0 23 Try.f59 Post
noncomputable def F59.o1 : List Oper := opsIn (codeAt (bodyOf Try.f59) [.r, .l])
def F59.B1 (Post : Value → AHeap → Prop) (x1 : Value) (x2 : Nat) (H : AHeap) : Prop :=
  ldI .i64 H x2 0 (fun v1 => asP x1 (fun b2 o3 => ldI .i64 H b2 o3 (fun v4 => AC Try.prog T0 40 [(Value.int .i64 v1), (Value.int .i64 0), (Value.int .i64 (IntKind.i64.wrap (v4 - 1)))] H (fun v5 H6 => asB v5 (fun v7 => pif v7 (ldI .i64 H6 x2 1 (fun v8 => asP x1 (fun b9 o10 => ldI .i64 H6 b9 o10 (fun v11 => AC Try.prog T0 40 [(Value.int .i64 v8), (Value.int .i64 0), (Value.int .i64 (IntKind.i64.wrap (v11 - 1)))] H6 (fun v12 H13 => asB v12 (fun v14 => pif v14 (ldI .i64 H13 x2 0 (fun v15 => ldI .i64 H13 x2 1 (fun v16 => Post (Value.bool ((v15 : Int) != v16)) H13))) (Post (Value.bool false) H13))))))) (Post (Value.bool false) H6))))))
def F59.B1.e (Post : Value → AHeap → Prop) : EP := fun env H => pif (Nat.beq (List.length env) 23) (asX (List.getD env 2 undef) (fun x2 => F59.B1 Post (List.getD env 1 undef) x2 H)) False
theorem F59.q1 (u : Nat → Value) (Post : Value → AHeap → Prop) (x1 : Value) (x2 : Nat) (H : AHeap) : aOps Try.prog T0 F59.o1 F59.o1 (mkEnv (upd (upd u 1 x1) 2 (Value.pointer (some ⟨x2, 0, none⟩))) 23 0) H (F59.ret Post) = F59.B1 Post x1 x2 H := by kernel_rfl
theorem F59.r1 (Post : Value → AHeap → Prop) : ∀ env H, F59.B1.e Post env H → aOps Try.prog T0 F59.o1 F59.o1 env H (F59.ret Post) := by
  intro env H h
  obtain ⟨hl, h⟩ := lenE h
  obtain ⟨x2, e2, h⟩ := asX_elim h
  exact use_ops hl (upd_step (upd_step rfl rfl) e2) ((F59.q1 _ Post (List.getD env 1 undef) x2 H).mpr h)
noncomputable def F59.o2 : List Oper := opsIn (codeAt (bodyOf Try.f59) [.l])
def F59.B2 (Post : Value → AHeap → Prop) (x0a : Int) (x0b : Int) (x1 : Value) (H : AHeap) : Prop :=
  newK H [(Value.int .i64 x0a), (Value.int .i64 x0b)] 55 (fun b1 H2 => F59.B1 Post x1 b1 H2)
def F59.B2.e (Post : Value → AHeap → Prop) : EP := fun env H => pif (Nat.beq (List.length env) 23) (as_ii (List.getD env 0 undef) (fun x0a x0b => F59.B2 Post x0a x0b (List.getD env 1 undef) H)) False
theorem F59.q2 (u : Nat → Value) (Post : Value → AHeap → Prop) (x0a : Int) (x0b : Int) (x1 : Value) (H : AHeap) : aOps Try.prog T0 F59.o2 F59.o2 (mkEnv (upd (upd u 0 (Value.agg ⟨[(Value.int .i64 x0a), (Value.int .i64 x0b)]⟩)) 1 x1) 23 0) H (F59.B1.e Post) = F59.B2 Post x0a x0b x1 H := by kernel_rfl
theorem F59.r2 (Post : Value → AHeap → Prop) : ∀ env H, F59.B2.e Post env H → aOps Try.prog T0 F59.o2 F59.o2 env H (F59.B1.e Post) := by
  intro env H h
  obtain ⟨hl, h⟩ := lenE h
  obtain ⟨x0a, x0b, e0, h⟩ := as_ii_elim h
  exact use_ops hl (upd_step (upd_step rfl e0) rfl) ((F59.q2 _ Post x0a x0b (List.getD env 1 undef) H).mpr h)
noncomputable def F59.code : Code := (.seq (.region 0 ⟨F59.o2⟩ false) (.seq (.region 1 ⟨F59.o1⟩ false) .ret))
theorem F59.body : Try.f59.body = some F59.code := by kernel_rfl
theorem F59.main (Post : Value → AHeap → Prop) : ∀ env H, F59.B2.e Post env H → AW Try.prog T0 F59.code env H (mkQ (F59.ret Post) (fun _ _ _ => False) (F59.ret Post)) :=
  (r_seq (r_region T0_ok (F59.r2 Post)) (r_seq (r_region T0_ok (F59.r1 Post)) r_ret))
theorem F59.ac (Post : Value → AHeap → Prop) (x0a : Int) (x0b : Int) (x1 : Value) (H : AHeap) (h : F59.B2 Post x0a x0b x1 H) : AC Try.prog T0 59 [(Value.agg ⟨[(Value.int .i64 x0a), (Value.int .i64 x0b)]⟩), x1] H Post :=
  r_fn T0_ok (c := F59.code) (n := 23) Try.func59 F59.body (by kernel_rfl) (F59.main Post) (lenM (by kernel_rfl) (as_ii_mk' (by kernel_rfl) (h)))

-- slices.ContainsFunc[[]loop.example/g01329/impl.Edge,loop.example/g01329/impl.Edge]
noncomputable def F60.ret (Post : Value → AHeap → Prop) : EP := retE T0 9 Try.f60 Post
noncomputable def F60.o1 : List Oper := opsIn (codeAt (bodyOf Try.f60) [.r, .l])
def F60.B1 (Post : Value → AHeap → Prop) (x0 : Value) (x1 : Value) (H : AHeap) : Prop :=
  AC Try.prog T0 67 [x0, x1] H (fun v1 H2 => asI .i64 v1 (fun v3 => Post (Value.bool (decide ((v3 : Int) ≥ 0))) H2))
def F60.B1.e (Post : Value → AHeap → Prop) : EP := fun env H => pif (Nat.beq (List.length env) 9) (F60.B1 Post (List.getD env 0 undef) (List.getD env 1 undef) H) False
theorem F60.q1 (u : Nat → Value) (Post : Value → AHeap → Prop) (x0 : Value) (x1 : Value) (H : AHeap) : aOps Try.prog T0 F60.o1 F60.o1 (mkEnv (upd (upd u 0 x0) 1 x1) 9 0) H (F60.ret Post) = F60.B1 Post x0 x1 H := by kernel_rfl
theorem F60.r1 (Post : Value → AHeap → Prop) : ∀ env H, F60.B1.e Post env H → aOps Try.prog T0 F60.o1 F60.o1 env H (F60.ret Post) := by
  intro env H h
  obtain ⟨hl, h⟩ := lenE h
  exact use_ops hl (upd_step (upd_step rfl rfl) rfl) ((F60.q1 _ Post (List.getD env 0 undef) (List.getD env 1 undef) H).mpr h)
noncomputable def F60.o2 : List Oper := opsIn (codeAt (bodyOf Try.f60) [.l])
def F60.B2 (Post : Value → AHeap → Prop) (x0 : Value) (x1 : Value) (H : AHeap) : Prop :=
  F60.B1 Post x0 x1 H
def F60.B2.e (Post : Value → AHeap → Prop) : EP := fun env H => pif (Nat.beq (List.length env) 9) (F60.B2 Post (List.getD env 0 undef) (List.getD env 1 undef) H) False
theorem F60.q2 (u : Nat → Value) (Post : Value → AHeap → Prop) (x0 : Value) (x1 : Value) (H : AHeap) : aOps Try.prog T0 F60.o2 F60.o2 (mkEnv (upd (upd u 0 x0) 1 x1) 9 0) H (F60.B1.e Post) = F60.B2 Post x0 x1 H := by kernel_rfl
theorem F60.r2 (Post : Value → AHeap → Prop) : ∀ env H, F60.B2.e Post env H → aOps Try.prog T0 F60.o2 F60.o2 env H (F60.B1.e Post) := by
  intro env H h
  obtain ⟨hl, h⟩ := lenE h
  exact use_ops hl (upd_step (upd_step rfl rfl) rfl) ((F60.q2 _ Post (List.getD env 0 undef) (List.getD env 1 undef) H).mpr h)
noncomputable def F60.code : Code := (.seq (.region 0 ⟨F60.o2⟩ false) (.seq (.region 1 ⟨F60.o1⟩ false) .ret))
theorem F60.body : Try.f60.body = some F60.code := by kernel_rfl
theorem F60.main (Post : Value → AHeap → Prop) : ∀ env H, F60.B2.e Post env H → AW Try.prog T0 F60.code env H (mkQ (F60.ret Post) (fun _ _ _ => False) (F60.ret Post)) :=
  (r_seq (r_region T0_ok (F60.r2 Post)) (r_seq (r_region T0_ok (F60.r1 Post)) r_ret))
theorem F60.ac (Post : Value → AHeap → Prop) (x0 : Value) (x1 : Value) (H : AHeap) (h : F60.B2 Post x0 x1 H) : AC Try.prog T0 60 [x0, x1] H Post :=
  r_fn T0_ok (c := F60.code) (n := 9) Try.func60 F60.body (by kernel_rfl) (F60.main Post) (lenM (by kernel_rfl) (h))

-- loop.example/g01329/impl.areAll[loop.example/g01329/impl.Edge]$1
noncomputable def F61.ret (Post : Value → AHeap → Prop) : EP := retE T0 8 Try.f61 Post
noncomputable def F61.o1 : List Oper := opsIn (codeAt (bodyOf Try.f61) [.r, .l])
def F61.B1 (Post : Value → AHeap → Prop) (x1 : Value) (x2 : Nat) (H : AHeap) : Prop :=
  asP x1 (fun b1 o2 => ld1 H b1 o2 (fun v3 => ldI .i64 H x2 0 (fun v4 => ldI .i64 H x2 1 (fun v5 => callV Try.prog T0 v3 [(Value.agg ⟨[(Value.int .i64 v4), (Value.int .i64 v5)]⟩)] H (fun v6 H7 => asB v6 (fun v8 => Post (Value.bool (!v8)) H7))))))
def F61.B1.e (Post : Value → AHeap → Prop) : EP := fun env H => pif (Nat.beq (List.length env) 8) (asX (List.getD env 2 undef) (fun x2 => F61.B1 Post (List.getD env 1 undef) x2 H)) False
theorem F61.q1 (u : Nat → Value) (Post : Value → AHeap → Prop) (x1 : Value) (x2 : Nat) (H : AHeap) : aOps Try.prog T0 F61.o1 F61.o1 (mkEnv (upd (upd u 1 x1) 2 (Value.pointer (some ⟨x2, 0, none⟩))) 8 0) H (F61.ret Post) = F61.B1 Post x1 x2 H := by kernel_rfl
theorem F61.r1 (Post : Value → AHeap → Prop) : ∀ env H, F61.B1.e Post env H → aOps Try.prog T0 F61.o1 F61.o1 env H (F61.ret Post) := by
  intro env H h
  obtain ⟨hl, h⟩ := lenE h
  obtain ⟨x2, e2, h⟩ := asX_elim h
  exact use_ops hl (upd_step (upd_step rfl rfl) e2) ((F61.q1 _ Post (List.getD env 1 undef) x2 H).mpr h)
noncomputable def F61.o2 : List Oper := opsIn (codeAt (bodyOf Try.f61) [.l])
def F61.B2 (Post : Value → AHeap → Prop) (x0a : Int) (x0b : Int) (x1 : Value) (H : AHeap) : Prop :=
  newK H [(Value.int .i64 x0a), (Value.int .i64 x0b)] 55 (fun b1 H2 => F61.B1 Post x1 b1 H2)
def F61.B2.e (Post : Value → AHeap → Prop) : EP := fun env H => pif (Nat.beq (List.length env) 8) (as_ii (List.getD env 0 undef) (fun x0a x0b => F61.B2 Post x0a x0b (List.getD env 1 undef) H)) False
theorem F61.q2 (u : Nat → Value) (Post : Value → AHeap → Prop) (x0a : Int) (x0b : Int) (x1 : Value) (H : AHeap) : aOps Try.prog T0 F61.o2 F61.o2 (mkEnv (upd (upd u 0 (Value.agg ⟨[(Value.int .i64 x0a), (Value.int .i64 x0b)]⟩)) 1 x1) 8 0) H (F61.B1.e Post) = F61.B2 Post x0a x0b x1 H := by kernel_rfl
theorem F61.r2 (Post : Value → AHeap → Prop) : ∀ env H, F61.B2.e Post env H → aOps Try.prog T0 F61.o2 F61.o2 env H (F61.B1.e Post) := by
  intro env H h
  obtain ⟨hl, h⟩ := lenE h
  obtain ⟨x0a, x0b, e0, h⟩ := as_ii_elim h
  exact use_ops hl (upd_step (upd_step rfl e0) rfl) ((F61.q2 _ Post x0a x0b (List.getD env 1 undef) H).mpr h)
noncomputable def F61.code : Code := (.seq (.region 0 ⟨F61.o2⟩ false) (.seq (.region 1 ⟨F61.o1⟩ false) .ret))
theorem F61.body : Try.f61.body = some F61.code := by kernel_rfl
theorem F61.main (Post : Value → AHeap → Prop) : ∀ env H, F61.B2.e Post env H → AW Try.prog T0 F61.code env H (mkQ (F61.ret Post) (fun _ _ _ => False) (F61.ret Post)) :=
  (r_seq (r_region T0_ok (F61.r2 Post)) (r_seq (r_region T0_ok (F61.r1 Post)) r_ret))
theorem F61.ac (Post : Value → AHeap → Prop) (x0a : Int) (x0b : Int) (x1 : Value) (H : AHeap) (h : F61.B2 Post x0a x0b x1 H) : AC Try.prog T0 61 [(Value.agg ⟨[(Value.int .i64 x0a), (Value.int .i64 x0b)]⟩), x1] H Post :=
  r_fn T0_ok (c := F61.code) (n := 8) Try.func61 F61.body (by kernel_rfl) (F61.main Post) (lenM (by kernel_rfl) (as_ii_mk' (by kernel_rfl) (h)))

end Go.Proofs
