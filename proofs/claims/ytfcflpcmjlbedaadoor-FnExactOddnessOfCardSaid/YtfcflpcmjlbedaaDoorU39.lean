/- Contracts: all matchings, the reference's way. -/
import Derived.Test.YtfcflpcmjlbedaaDoorU12b
import Derived.Test.YtfcflpcmjlbedaaDoorU8
import Derived.Test.YtfcflpcmjlbedaaDoorU13
import Derived.Test.YtfcflpcmjlbedaaDoorK3
import Derived.Test.YtfcflpcmjlbedaaDoorU38
set_option linter.unusedVariables false
set_option linter.unusedSimpArgs false
set_option maxRecDepth 100000
namespace Go.Proofs
open Go.Abs

variable {H G : AHeap} {v u f : Value} {l m c D : List Int} {es fs : List (Int × Int)} {K : Value → AHeap → Prop} {A A' : Nat → Prop} {B : Nat} {ls ms : List (List Int)}

theorem l01Other_ok {n e x : Int} (h : Edges H v es) (h0 : 0 ≤ e) (h1 : e < es.length) (b1 : 0 ≤ (es.getD e.toNat (0, 0)).1 ∧ (es.getD e.toNat (0, 0)).1 ≤ 1000000) (b2 : 0 ≤ (es.getD e.toNat (0, 0)).2 ∧ (es.getD e.toNat (0, 0)).2 ≤ 1000000) (b3 : 0 ≤ x ∧ x ≤ 1000000)
    (k : ∀ G, H.le G → K (.int .i64 ((es.getD e.toNat (0, 0)).1 + (es.getD e.toNat (0, 0)).2 - x)) G) : AC Tryd.prog T0 66 [.agg ⟨[.int .i64 n, v]⟩, .int .i64 e, .int .i64 x] H K := by
  apply F66.ac
  unfold F66.B2
  refine newK_f (all_iv (edges_one' h)) fun H1 l1 _ o1 => ?_
  unfold F66.B1
  obtain ⟨bb, oo, hk, c1, c2⟩ := (h.le l1).idx h0 h1
  refine ld1_own o1 rfl (hk _ (ldI_mk c1 (ld1_own o1 rfl (hk _ (ldI_mk c2 ?_)))))
  rw [wrap_id (x := _ + _) (by omega) (by omega), wrap_id (by omega) (by omega)]
  exact k _ l1
theorem i64_or {s t : Nat} (h : s < 2 ^ 62) (g : t < 2 ^ 62) : IntKind.i64.wrap ((BitVec.ofInt 64 (s : Int) ||| BitVec.ofInt 64 (t : Int)).toNat : Int) = ((s ||| t : Nat) : Int) := by
  have hst : s ||| t < 2 ^ 62 := Nat.or_lt_two_pow h g
  rw [bv_nat, bv_nat, BitVec.toNat_or, BitVec.toNat_ofNat, BitVec.toNat_ofNat, Nat.mod_eq_of_lt (by omega), Nat.mod_eq_of_lt (by omega), wrap_id (by omega) (by omega)]
theorem i64_shl {j : Nat} (h : j < 62) : IntKind.i64.wrap (1 * 2 ^ (min j 64)) = ((2 ^ j : Nat) : Int) := by
  rw [Int.one_mul, show min j 64 = j by omega]
  have : (2 : Nat) ^ j < 2 ^ 62 := Nat.pow_lt_pow_right (by decide) h
  rw [show (2 : Int) ^ j = ((2 ^ j : Nat) : Int) by simp]
  generalize 2 ^ j = p at this
  exact wrap_id (by omega) (by omega)
theorem i64_bit {s j : Nat} (h : s < 2 ^ 64) : IntKind.i64.wrap ((BitVec.ofInt 64 (Int.fdiv (s : Int) (2 ^ (min j 64))) &&& BitVec.ofInt 64 1).toNat : Int) = if s.testBit j then 1 else 0 := by
  have hb := has_bit h (i := (j : Int)) (by omega)
  rw [Int.toNat_natCast] at hb
  obtain ⟨x, hx⟩ : ∃ x, x = (BitVec.ofInt 64 (Int.fdiv (s : Int) (2 ^ (min j 64))) &&& BitVec.ofInt 64 1).toNat := ⟨_, rfl⟩
  rw [← hx] at hb ⊢
  have hle : x ≤ 1 := by
    rw [hx, BitVec.toNat_and]
    exact Nat.le_trans Nat.and_le_right (by decide)
  rw [u64_nat (by omega)] at hb
  rw [wrap_id (by omega) (by omega), ← hb]
  have : x = 0 ∨ x = 1 := by omega
  rcases this with e | e <;> simp [e]
theorem u64_tn {j : Nat} (h : j < 2 ^ 62) : Int.toNat (IntKind.u64.wrap ((j : Nat) : Int)) = j := by rw [u64_nat (by omega), Int.toNat_natCast]

theorem l04List_ok {n : Int} (hg : IsG n es) {M : Nat} {H0 : AHeap} (he : Edges H0 v es) : ∀ (k s : Nat) (pre : List Int) (H : AHeap) (K : Value → AHeap → Prop) (u out : Value) (outs : List (List Int)), H0.le H → M ≤ H.length → s < 2 ^ n.toNat → left s n.toNat ≤ 2 * k → pre.length + k ≤ 1000 → outs.length + 3 ^ k ≤ 1000000 → Sl 0 H u 2 1 (LI pre) → RowsF (fun b => M ≤ b) H.length H out outs → (∀ b, bk out = some b → H0.length ≤ b) → (∀ b, bk u = some b → bk out ≠ some b) →
    (∀ v' G, Oth out H G → (∀ b, bk v' = some b → bk out = some b ∨ H.length ≤ b) → H.length ≤ G.length → RowsF (fun b => M ≤ b) G.length G v' (outs ++ (matL es n.toNat k s).map (pre ++ ·)) → K v' G) →
    AC Tryd.prog T0 48 [.agg ⟨[.int .i64 n, v]⟩, u, .int .i64 (s : Nat), out] H K := by
  have n0 := hg.ed.lo; have n1 := hg.ed.hi
  have h30 : es.length ≤ 30 := by have := hg.ed.len; omega
  have hn64 : 2 ^ n.toNat ≤ 2 ^ 20 := Nat.pow_le_pow_right (by decide) (by omega)
  have p20 : 2 ^ 20 < 2 ^ 62 := by decide
  -- the search for the least vertex that is left
  have search : ∀ (s : Nat) (H : AHeap) (K : Value → AHeap → Prop) (u out : Value) (a : Nat) (t : TypeId), s < 2 ^ n.toNat → Own H a t [.int .i64 n, v] →
      F48.B11 K u (s : Nat) out a ((fv s n.toNat : Nat) : Int) H → F48.B15 K u (s : Nat) out a H := by
    intro s H K u out a t hs o1 hB
    unfold F48.B15 F48.L12
    refine ⟨fun x1 x2 x3 x4 x9 G => u = x1 ∧ ((s : Nat) : Int) = x2 ∧ out = x3 ∧ a = x4 ∧ H = G ∧ ∃ i : Nat, x9 = i ∧ i ≤ n.toNat ∧ ∀ j, j < i → s.testBit j = true, fun _ _ _ _ x9 _ => n.toNat - x9.toNat, ⟨rfl, rfl, rfl, rfl, rfl, 0, rfl, by omega, fun j hj => absurd hj (by omega)⟩, ?_⟩
    rintro x1 x2 x3 x4 x9 G ⟨rfl, rfl, rfl, rfl, rfl, i, rfl, hi, hlow⟩
    unfold F48.B14
    refine ldI_own o1 rfl (pif_cases (fun hb => ?_) fun hb => ?_)
    · have hin : i < n.toNat := by have := of_decide_eq_true hb; omega
      refine ⟨by rw [u64_nat (by omega)]; omega, ?_⟩
      rw [u64_tn (by omega), i64_bit (by omega)]
      refine pif_cases (fun hb => ?_) fun hb => ?_
      · have hbit : s.testBit i = true := by
          cases hx : s.testBit i with
          | true => rfl
          | false => rw [hx] at hb; simp at hb
        unfold F48.B13
        rw [wrap_id (by omega) (by omega)]
        refine ⟨⟨rfl, rfl, rfl, rfl, rfl, i + 1, by omega, by omega, fun j hj => ?_⟩, by show n.toNat - ((i : Int) + 1).toNat < n.toNat - (i : Int).toNat; omega⟩
        by_cases e : j = i
        · subst e; exact hbit
        · exact hlow j (by omega)
      · have hbit : s.testBit i = false := by
          cases hx : s.testBit i with
          | false => rfl
          | true => rw [hx] at hb; simp at hb
        rw [← fv_eq (n := n.toNat) hi hlow fun _ => hbit]; exact hB
    · have hin : i = n.toNat := by have := of_decide_eq_false hb; omega
      rw [← fv_eq (n := n.toNat) hi hlow fun h => by omega]; exact hB
  have full : ∀ (k s : Nat) (pre : List Int) (H : AHeap) (K : Value → AHeap → Prop) (u out : Value) (outs : List (List Int)) (a : Nat) (t : TypeId), H0.le H → M ≤ H.length → fv s n.toNat = n.toNat → Own H a t [.int .i64 n, v] → pre.length ≤ 1000 → outs.length + 3 ^ k ≤ 1000000 → Sl 0 H u 2 1 (LI pre) → RowsF (fun b => M ≤ b) H.length H out outs →
      (∀ v' G, Oth out H G → (∀ b, bk v' = some b → bk out = some b ∨ H.length ≤ b) → H.length ≤ G.length → RowsF (fun b => M ≤ b) G.length G v' (outs ++ (matL es n.toNat k s).map (pre ++ ·)) → K v' G) → F48.B11 K u (s : Nat) out a ((fv s n.toNat : Nat) : Int) H := by
    intro k s pre H K u out outs a t h0 hM hfu o1 hpl hol hu hR kk
    rw [matL_end hfu] at kk
    have p3 : 0 < 3 ^ k := Nat.pow_pos (by decide)
    unfold F48.B11
    refine ldI_own o1 rfl (pif_t (by rw [hfu]; simp; omega) ?_)
    unfold F48.B10
    refine l01Own_ok hu.ints (by omega) fun w G lG fw => ?_
    have hGl := lG.1
    refine ((hR.le lG).mono (fun _ h => h) (Nat.le_refl _)).push hGl (fun b hb => by omega) fw (by omega) fun v' G2 ot nb hlen hR2 => ?_
    refine kk v' G2 (fun b o hb ho => ot b o hb (lG.2 _ _ ho)) (fun b hb => .inr (by have := nb b hb; omega)) (by omega) ?_
    simpa using hR2
  intro k
  induction k with
  | zero =>
    intro s pre H K u out outs h0 hM hs hl hpl hol hu hR hout hub kk
    have hfu : fv s n.toNat = n.toNat := by
      have := fv_le s n.toNat
      rcases Nat.lt_or_ge (fv s n.toNat) n.toNat with h | h
      · have := left_pos h (fv_at h); omega
      · omega
    apply F48.ac
    unfold F48.B16
    refine newK_f (all_iv (edges_one' (he.le h0))) fun H1 l1 n1' o1 => ?_
    have hl1 := l1.1
    refine search s H1 K u out _ _ hs o1 (full 0 s pre H1 K u out outs _ _ (AHeap.le_trans h0 l1) (by omega) hfu o1 (by omega) hol (hu.le l1) ((hR.le l1).mono (fun _ h => h) hl1) fun v' G ot nb hlen hR' => ?_)
    exact kk v' G (fun b o hb ho => ot b o hb (l1.2 _ _ ho)) (fun b hb => (nb b hb).imp id fun h => by omega) (by omega) hR'
  | succ k ih =>
    intro s pre H K u out outs h0 hM hs hl hpl hol hu hR hout hub kk
    apply F48.ac
    unfold F48.B16
    refine newK_f (all_iv (edges_one' (he.le h0))) fun H1 l1 n1' o1 => ?_
    have hl1 := l1.1
    refine search s H1 K u out _ _ hs o1 ?_
    by_cases hfu : fv s n.toNat = n.toNat
    · refine full (k + 1) s pre H1 K u out outs _ _ (AHeap.le_trans h0 l1) (by omega) hfu o1 (by omega) hol (hu.le l1) ((hR.le l1).mono (fun _ h => h) hl1) fun v' G ot nb hlen hR' => ?_
      exact kk v' G (fun b o hb ho => ot b o hb (l1.2 _ _ ho)) (fun b hb => (nb b hb).imp id fun h => by omega) (by omega) hR'
    have hlt : fv s n.toNat < n.toNat := by have := fv_le s n.toNat; omega
    obtain ⟨w, hw⟩ : ∃ w, w = fv s n.toNat := ⟨_, rfl⟩
    have hwn : w < n.toNat := by omega
    have hwb : s.testBit w = false := by rw [hw]; exact fv_at hlt
    rw [← hw]
    unfold F48.B11
    refine ldI_own o1 rfl (pif_f (by rw [beq_eq_false_iff_ne]; omega) ?_)
    unfold F48.B9
    have h01 := AHeap.le_trans h0 l1
    refine ldI_own o1 rfl (ld1_own o1 rfl (l01At_ok (he.le h01) (by omega) fun a H2 l2 f2 => ?_))
    have h3 := hg.three (v := (w : Int)) (by omega) (by omega)
    have l12 := AHeap.le_trans l1 l2
    have hl2 := l2.1
    have hto : matL es n.toNat (k + 1) s = matTo es n.toNat k s 3 := by rw [matL_to hlt, ← hw, h3]
    rw [hto] at kk
    have hbo : ∀ b, bk out = some b → b < H.length := fun b hb => by
      obtain ⟨vs, _, _, q3, _⟩ := hR
      exact (q3 b hb).2
    have mlen : ∀ t, (matTo es n.toNat k s t).length ≤ t * 3 ^ k := by
      intro t
      have := flatMap_len (c := 3 ^ k) ((atL es (fv s n.toNat : Int)).take t) (f := fun e => if s.testBit (othN es e (fv s n.toNat)) then [] else (matL es n.toNat k (s ||| 2 ^ fv s n.toNat ||| 2 ^ othN es e (fv s n.toNat))).map (e :: ·)) fun e _ => by
        split
        · simp
        · rw [List.length_map]; exact matL_length hg k _
      unfold matTo
      refine Nat.le_trans this (Nat.mul_le_mul_right _ ?_)
      rw [List.length_take]; omega
    unfold F48.B8 F48.L2
    refine ⟨fun x1 x2 x3 x4 x9 x10 x11 G => u = x1 ∧ ((s : Nat) : Int) = x2 ∧ H.length = x4 ∧ ((w : Nat) : Int) = x9 ∧ a = x10 ∧ Oth out H2 G ∧ H2.length ≤ G.length ∧ (∀ b, bk x3 = some b → bk out = some b ∨ H2.length ≤ b) ∧ ∃ t : Nat, x11 = t ∧ t ≤ 3 ∧ RowsF (fun b => M ≤ b) G.length G x3 (outs ++ (matTo es n.toNat k s t).map (pre ++ ·)),
      fun _ _ _ _ _ _ x11 _ => 3 - x11.toNat, ⟨rfl, rfl, rfl, rfl, rfl, fun _ _ _ h => h, Nat.le_refl _, fun b hb => .inl hb, 0, rfl, by omega, ?_⟩, ?_⟩
    · have : (matTo es n.toNat k s 0).map (pre ++ ·) = [] := by simp [matTo]
      rw [this, List.append_nil]
      exact (hR.le l12).mono (fun _ h => h) (by omega)
    rintro x1 x2 x3 x4 x9 x10 x11 G ⟨rfl, rfl, rfl, rfl, rfl, hO, hlG, hb3, t, rfl, ht, hR3⟩
    have old : ∀ (b : Nat) (o : AObj), b ≥ H.length → H2[b]? = some (some o) → G[b]? = some (some o) := fun b o hb ho => hO b o (fun h => by have := hbo b h; omega) ho
    have oG : Own G H.length _ [.int .i64 n, v] := old _ _ (Nat.le_refl _) (o1.le l2)
    have h0G : H0.le G := by
      have h02 := AHeap.le_trans h0 l12
      refine ⟨Nat.le_trans h02.1 hlG, fun b o ho => hO b o (fun h => ?_) (h02.2 b o ho)⟩
      have := hout b h; have := lt_of_get ho; omega
    have uG : Sl 0 G u 2 1 (LI pre) := (hu.le l12).oth hO hub
    have aG : Sl 0 G a 2 1 (LI (atL es (w : Int))) := (f2.less (Nat.zero_le _)).sl.oth hO fun b hb h => by have := (f2.bk_lt hb).1; have := hbo b h; omega
    unfold F48.B7
    refine pif_cases (fun hb => ?_) fun hb => ?_
    · have ht3 : t < 3 := by have := of_decide_eq_true hb; omega
      obtain ⟨i, hi1, hi2, hi3⟩ := at_get (es := es) (w := (w : Int)) (t := t) (by omega)
      obtain ⟨d1, d2, d3, d4, d5⟩ := hg.ed.ends es[i] (List.getElem_mem hi2)
      rw [← getD_of (d := (0, 0)) hi2] at d1 d2 d3 d4 d5
      obtain ⟨y, hy⟩ : ∃ y : Nat, (es.getD i (0, 0)).1 + (es.getD i (0, 0)).2 - (w : Int) = y := ⟨((es.getD i (0, 0)).1 + (es.getD i (0, 0)).2 - (w : Int)).toNat, by rcases on_oth hi3 with e | e <;> omega⟩
      have hyn : y < n.toNat := by rcases on_oth hi3 with e | e <;> omega
      have hyo : othN es (i : Int) w = y := by unfold othN; rw [Int.toNat_natCast]; omega
      have hyw : y ≠ w := by
        unfold on at hi3
        simp only [Bool.or_eq_true, beq_iff_eq] at hi3
        omega
      have hsucc := matTo_succ (es := es) (n := n.toNat) (k := k) (s := s) (t := t) (by rw [← hw]; omega)
      rw [← hw, hi1, hyo] at hsucc
      obtain ⟨ab, ao, hak, ac⟩ := aG.ints.idx (i := (t : Int)) (by omega) (by omega)
      rw [Int.toNat_natCast, hi1] at ac
      unfold F48.B6
      refine ldI_own oG rfl (ld1_own oG rfl (hak _ (ldI_mk ac (l01Other_ok (e := (i : Int)) (he.le h0G) (by omega) (by omega) (by rw [Int.toNat_natCast]; omega) (by rw [Int.toNat_natCast]; omega) (by omega) fun G2 l3 => asI_mk ?_))))
      rw [Int.toNat_natCast, hy]
      have hG2 := l3.1
      have O2 : Oth out H2 G2 := fun b o hb ho => l3.2 _ _ (hO b o hb ho)
      have R2 : RowsF (fun b => M ≤ b) G2.length G2 x3 (outs ++ (matTo es n.toNat k s t).map (pre ++ ·)) := (hR3.le l3).mono (fun _ h => h) hG2
      have o2G := oG.le l3
      have ac2 := AHeap.cell_le l3 ac
      unfold F48.B5
      refine ⟨by rw [u64_nat (by omega)]; omega, ?_⟩
      rw [u64_tn (by omega), i64_bit (by omega)]
      refine pif_cases (fun hb => ?_) fun hb => ?_
      · have hyb : s.testBit y = false := by
          cases hx : s.testBit y with
          | false => rfl
          | true => rw [hx] at hb; simp at hb
        rw [if_neg (by rw [hyb]; decide)] at hsucc
        have pw : 2 ^ w < 2 ^ n.toNat := Nat.pow_lt_pow_right (by decide) hwn
        have py : 2 ^ y < 2 ^ n.toNat := Nat.pow_lt_pow_right (by decide) hyn
        have hs' : s ||| 2 ^ w ||| 2 ^ y < 2 ^ n.toNat := Nat.or_lt_two_pow (Nat.or_lt_two_pow hs pw) py
        have hmap : ((matL es n.toNat k (s ||| 2 ^ w ||| 2 ^ y)).map ((i : Int) :: ·)).map (pre ++ ·) = (matL es n.toNat k (s ||| 2 ^ w ||| 2 ^ y)).map ((pre ++ [(i : Int)]) ++ ·) := by
          rw [List.map_map]; exact List.map_congr_left fun l _ => by simp
        have hsm : (matTo es n.toNat k s (t + 1)).map (pre ++ ·) = (matTo es n.toNat k s t).map (pre ++ ·) ++ (matL es n.toNat k (s ||| 2 ^ w ||| 2 ^ y)).map ((pre ++ [(i : Int)]) ++ ·) := by
          rw [hsucc, List.map_append, hmap]
        have hml := mlen t
        have hml3 : 3 ^ (k + 1) = 3 * 3 ^ k := by rw [Nat.pow_succ, Nat.mul_comm]
        have emet : IntKind.i64.wrap ((BitVec.ofInt 64 (IntKind.i64.wrap ((BitVec.ofInt 64 ((s : Nat) : Int) ||| BitVec.ofInt 64 (IntKind.i64.wrap (1 * 2 ^ (min (Int.toNat (IntKind.u64.wrap ((w : Nat) : Int))) 64)))).toNat : Int)) ||| BitVec.ofInt 64 (IntKind.i64.wrap (1 * 2 ^ (min (Int.toNat (IntKind.u64.wrap ((y : Nat) : Int))) 64)))).toNat : Int) = ((s ||| 2 ^ w ||| 2 ^ y : Nat) : Int) := by
          rw [u64_tn (by omega), u64_tn (by omega), i64_shl (by omega), i64_shl (by omega), i64_or (by omega) (by omega), i64_or (by have := Nat.or_lt_two_pow hs pw; omega) (by omega)]
        have hle3 : (t + 1) * 3 ^ k ≤ 3 * 3 ^ k := Nat.mul_le_mul_right _ (by omega)
        rw [Nat.add_mul, Nat.one_mul] at hle3
        have h0G2 := AHeap.le_trans h0G l3
        have uG2 := uG.le l3
        have bx3 : ∀ b, bk x3 = some b → b < G2.length := fun b hb => by
          obtain ⟨vs, _, _, q3, _⟩ := R2
          exact (q3 b hb).2
        have fin : ∀ (K'' : Value → AHeap → Prop), (∀ v18 H19, Oth out H2 H19 → H2.length ≤ H19.length → (∀ b, bk v18 = some b → bk out = some b ∨ H2.length ≤ b) → RowsF (fun b => M ≤ b) H19.length H19 v18 (outs ++ (matTo es n.toNat k s (t + 1)).map (pre ++ ·)) → K'' v18 H19) →
            ∀ v'' H'', Keep G2.length G2 H'' → Fresh G2.length H'' v'' 2 1 (LI (pre ++ [(i : Int)])) → AC Tryd.prog T0 48 [.agg ⟨[.int .i64 n, v]⟩, v'', .int .i64 ((s ||| 2 ^ w ||| 2 ^ y : Nat) : Int), x3] H'' K'' := by
          intro K'' hK v'' H'' k5 f5
          have k5l := k5.len
          refine ih _ (pre ++ [(i : Int)]) H'' K'' v'' x3 (outs ++ (matTo es n.toNat k s t).map (pre ++ ·)) (k5.le h0G2 h0G2.1) (by omega) hs' (by have := left_two hwn hyn hwb hyb (fun e => hyw e.symm); omega) ?_ (by rw [List.length_append, List.length_map]; omega) (f5.less (Nat.zero_le _)).sl ((R2.keep k5).mono (fun _ h => h) k5l) (fun b hb => ?_) (fun b hb h => by have := (f5.bk_lt hb).1; have := bx3 b h; omega) fun v18 H19 ot nb hlen hR19 => ?_
          · rw [List.length_append, List.length_singleton]; omega
          · rcases hb3 b hb with h | h
            · exact hout b h
            · have := h0.1; omega
          · refine hK v18 H19 (fun b o hb ho => ot b o (fun h => ?_) (k5.old b o (by have := lt_of_get ho; omega) (O2 b o hb ho))) (by omega) (fun b hb => ?_) ?_
            · rcases hb3 b h with h' | h'
              · exact hb h'
              · have := lt_of_get ho; omega
            · rcases nb b hb with h | h
              · exact hb3 b h
              · exact .inr (by omega)
            · rw [hsm, ← List.append_assoc]; exact hR19
        unfold F48.B4
        refine ldI_own o2G rfl (ld1_own o2G rfl (hak _ (ldI_mk ac2 ⟨by rw [u64_nat (by omega)]; omega, by rw [u64_nat (by omega)]; omega, ?_⟩)))
        rw [emet]
        have last : ∀ v18 H19, Oth out H2 H19 → H2.length ≤ H19.length → (∀ b, bk v18 = some b → bk out = some b ∨ H2.length ≤ b) → RowsF (fun b => M ≤ b) H19.length H19 v18 (outs ++ (matTo es n.toNat k s (t + 1)).map (pre ++ ·)) → (u = u ∧ ((s : Nat) : Int) = s ∧ H.length = H.length ∧ ((w : Nat) : Int) = w ∧ a = a ∧ Oth out H2 H19 ∧ H2.length ≤ H19.length ∧ (∀ b, bk v18 = some b → bk out = some b ∨ H2.length ≤ b) ∧ ∃ t' : Nat, (t : Int) + 1 = t' ∧ t' ≤ 3 ∧ RowsF (fun b => M ≤ b) H19.length H19 v18 (outs ++ (matTo es n.toNat k s t').map (pre ++ ·))) ∧ 3 - ((t : Int) + 1).toNat < 3 - (t : Int).toNat :=
          fun v18 H19 q1 q2 q3 q4 => ⟨⟨rfl, rfl, rfl, rfl, rfl, q1, q2, q3, t + 1, by omega, by omega, q4⟩, by omega⟩
        refine ⟨l01Own_ok uG2.ints (by omega) fun v6 G3 l4 f6 => ⟨ldI_own (o2G.le l4) rfl (ld1_own (o2G.le l4) rfl ⟨rfl, rfl⟩), ldI_mk (AHeap.cell_le l4 ac2) ⟨rfl, rfl⟩, ?_⟩, newK_f rfl fun G3 l4 n4 o4 => l01Own_ok (uG2.le l4).ints (by omega) fun v6 G4 l5 f6 => ⟨ldI_own ((o2G.le l4).le l5) rfl (ld1_own ((o2G.le l4).le l5) rfl ⟨rfl, rfl⟩), ldI_mk (AHeap.cell_le l5 (AHeap.cell_le l4 ac2)) ⟨rfl, rfl⟩, ?_⟩⟩
        · refine f6.sl.pushN E_int (by decide) l4.1 (n := 1) (ys := [.int .i64 i]) rfl rfl (by simp; omega) (by simp) fun v14 G5 k5 ot5 nb5 f5 => ?_
          have o5 := k5.own (o2G.le l4) o2G.lt
          refine ⟨ldI_own o5 rfl (ld1_own o5 rfl ⟨rfl, rfl⟩), fin _ (fun v18 H19 q1 q2 q3 q4 => ?_) v14 G5 ((Keep.of_le l4).trans k5) (by simpa using f5)⟩
          unfold F48.B3
          rw [wrap_id (by omega) (by omega)]
          exact last v18 H19 q1 q2 q3 q4
        · refine f6.sl.app (ys := [.int .i64 i]) (n := 1) E_int (by decide) l5.1 (cellsAt_row (o4.le l5) rfl) (by simp; omega) (fun h => by cases h) fun v14 G5 k5 ot5 nb5 f5 => ?_
          have l4l := l4.1
          have o5 := k5.own ((o2G.le l4).le l5) (by have := o2G.lt; omega)
          refine ⟨ldI_own o5 rfl (ld1_own o5 rfl ⟨rfl, rfl⟩), fin _ (fun v18 H19 q1 q2 q3 q4 => ?_) v14 G5 ((Keep.of_le (AHeap.le_trans l4 l5)).trans (k5.less l4l)) (by simpa using f5.less l4l)⟩
          unfold F48.B3
          rw [wrap_id (by omega) (by omega)]
          exact last v18 H19 q1 q2 q3 q4
      · have hyb : s.testBit y = true := by
          cases hx : s.testBit y with
          | true => rfl
          | false => rw [hx] at hb; simp at hb
        rw [if_pos hyb, List.append_nil] at hsucc
        unfold F48.B3
        rw [wrap_id (by omega) (by omega)]
        exact ⟨⟨rfl, rfl, rfl, rfl, rfl, O2, by omega, hb3, t + 1, by omega, by omega, by rw [hsucc]; exact R2⟩, by simp; omega⟩
    · have ht3 : t = 3 := by have := of_decide_eq_false hb; omega
      subst ht3
      unfold F48.B1
      refine kk x3 G (fun b o hb ho => hO b o hb (l12.2 _ _ ho)) (fun b hb => (hb3 b hb).imp id fun h => by omega) (by omega) hR3
theorem mats_length {n : Int} (hg : IsG n es) : (mats n es).length ≤ 59049 := matL_length hg 10 0
theorem l04All_ok {n : Int} (hg : IsG n es) (he : Edges H v es) (k : ∀ v' G, H.le G → RowsF (fun b => H.length ≤ b) G.length G v' (mats n es) → K v' G) : AC Tryd.prog T0 27 [.agg ⟨[.int .i64 n, v]⟩] H K := by
  have n0 := hg.ed.lo; have n1 := hg.ed.hi
  apply F27.ac
  unfold F27.B2
  refine newK_f (all_iv (edges_one' he)) fun H1 l1 n1' o1 => ?_
  unfold F27.B1
  refine ldI_own o1 rfl (ld1_own o1 rfl (newK_f rfl fun H2 l2 n2 o2 => newK_f rfl fun H3 l3 n3 o3 => ?_))
  have l13 := AHeap.le_trans (AHeap.le_trans l1 l2) l3
  have b1 := l1.1; have b2 := l2.1; have b3 := l3.1
  refine l04List_ok hg (M := H.length) he 10 0 [] H3 K _ _ [] l13 (by omega) (Nat.two_pow_pos _) (by have := left_le 0 n.toNat; omega) (by simp) (by simp) (Fresh.sl (.inr ⟨_, 0, Nat.zero_le _, rfl, o2.le l3, rfl⟩)) (.nil1 o3 (by omega) (by omega)) (fun b hb => ?_) (fun b hb h => ?_) fun v' G ot nb hlen hR => ?_
  · have : some H2.length = some b := hb
    have := Option.some.inj this; omega
  · have e1 : some H1.length = some b := hb
    have e2 : some H2.length = some b := h
    have := Option.some.inj e1; have := Option.some.inj e2; omega
  · refine k v' G ⟨by omega, fun b o ho => ot b o (fun h => ?_) (l13.2 _ _ ho)⟩ ?_
    · have e2 : some H2.length = some b := h
      have := Option.some.inj e2
      have := lt_of_get ho; omega
    · have e : ([] : List (List Int)) ++ (matL es n.toNat 10 0).map ([] ++ ·) = mats n es := by simp [mats]
      rw [e] at hR; exact hR
end Go.Proofs
