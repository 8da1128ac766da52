/- Contracts: a function called with all sets of so many numbers. -/
import Derived.Test.YtfcflpcmjlbedabU6
import Derived.Test.YtfcflpcmjlbedabU12
import Derived.Test.YtfcflpcmjlbedabM9
set_option linter.unusedVariables false
set_option linter.unusedSimpArgs false
set_option maxRecDepth 100000
namespace Go.Proofs
open Go.Abs

variable {H G : AHeap}

abbrev ptrV (b : Nat) : Value := .pointer (some ⟨b, 0, none⟩)
abbrev growV (a b c : Nat) : Value := .func (.func 127) ⟨[]⟩ ⟨[ptrV a, ptrV b, ptrV c]⟩

theorem grow_ok {m : Nat} (hm : m ≤ 62) {doV : Value} {c3 c4 c5 : Nat} {t3 t4 t5 : TypeId} {J : List (List Int) → AHeap → Prop} {q : List Int → Bool} {T : List (List Int)} {N : Nat}
    (h3 : ∀ done G, J done G → Own G c3 t3 [doV]) (h4 : ∀ done G, J done G → Own G c4 t4 [.int .i64 (m : Nat)]) (h5 : ∀ done G, J done G → Own G c5 t5 [growV c3 c4 c5])
    (hdo : ∀ done l G, J done G → l ∈ T → done.length < N → ∀ K : Value → AHeap → Prop, (∀ G', J (done ++ [l]) G' → K (.bool (q l)) G') → callV Try.prog T0 doV [.int .u64 (setN l : Nat)] G K) :
    ∀ (left f : Nat) (pre : List Int) (done : List (List Int)) (G : AHeap) (K : Value → AHeap → Prop), left ≤ 64 → f ≤ m → (∀ x ∈ pre, 0 ≤ x ∧ x < 64) → (∀ l ∈ cmb m left f, pre ++ l ∈ T) → done.length + (cmb m left f).length ≤ N → J done G →
      (∀ G', J (done ++ upTo q ((cmb m left f).map (pre ++ ·))) G' → K (.bool (((cmb m left f).map (pre ++ ·)).any q)) G') →
      AC Try.prog T0 127 [.int .u64 (setN pre : Nat), .int .i64 (f : Nat), .int .i64 (left : Nat), ptrV c3, ptrV c4, ptrV c5] G K
  | 0, f, pre, done, G, K, _, hf, hpre, hT, hN, hJ, k => by
    apply F127.ac
    unfold F127.B10 F127.B9
    refine pif_t rfl ?_
    unfold F127.B8
    have hp : pre ∈ T := by have := hT [] (by simp [cmb_zero]); simpa using this
    refine asP_mk (ld1_own (h3 _ _ hJ) rfl (hdo done pre G hJ hp (by simp [cmb_zero] at hN; omega) _ fun G' hG' => asB_mk ?_))
    have k := k G'
    rw [cmb_zero] at k
    have e1 : upTo q ([[]].map (pre ++ ·)) = [pre] := by simp [upTo]
    have e2 : ([[]].map (pre ++ ·)).any q = q pre := by simp
    rw [e1, e2] at k
    exact k hG'
  | left + 1, f, pre, done, G, K, hl, hf, hpre, hT, hN, hJ, k => by
    apply F127.ac
    unfold F127.B10 F127.B9
    refine pif_f (by simp; omega) ?_
    unfold F127.B7 F127.L2
    refine ⟨fun x0 x2 x4 x5 x10 G => ((setN pre : Nat) : Int) = x0 ∧ ((left + 1 : Nat) : Int) = x2 ∧ ptrV c4 = x4 ∧ ptrV c5 = x5 ∧ ∃ i : Nat, x10 = i ∧ f ≤ i ∧ i ≤ m ∧ ((cmbTo m left f i).map (pre ++ ·)).any q = false ∧ J (done ++ (cmbTo m left f i).map (pre ++ ·)) G,
      fun _ _ _ _ x10 _ => m + 1 - x10.toNat, ⟨rfl, rfl, rfl, rfl, f, rfl, Nat.le_refl _, hf, ?_, ?_⟩, ?_⟩
    · rw [cmbTo_start (Nat.le_refl _)]; rfl
    · rw [cmbTo_start (Nat.le_refl _)]; simpa using hJ
    rintro x0 x2 x4 x5 x10 G ⟨rfl, rfl, rfl, rfl, i, rfl, hfi, him, hno, hJ⟩
    unfold F127.B6
    refine asP_mk (ldI_own (h4 _ _ hJ) rfl ?_)
    rw [wrap_id (by omega) (by omega)]
    refine pif_cases (fun hb => ?_) fun hb => ?_
    · have hil : i + left + 1 ≤ m := by have := of_decide_eq_true hb; omega
      have p64 : 2 ^ i < 2 ^ 64 := Nat.pow_lt_pow_right (by decide) (by omega)
      unfold F127.B5
      refine asP_mk (ld1_own (h5 _ _ hJ) rfl ⟨by omega, callV_mk ?_⟩)
      rw [one_shl (by omega) (by omega), Int.toNat_natCast, bits_or (setN_lt fun x hx => (hpre x hx).2) p64, ← setN_snoc, wrap_id (by omega) (by omega), wrap_id (by omega) (by omega), show ((i : Nat) : Int) + 1 = ((i + 1 : Nat) : Int) by omega, show (((left + 1 : Nat) : Nat) : Int) - 1 = ((left : Nat) : Int) by omega]
      have hmap : ((cmb m left (i + 1)).map ((i : Int) :: ·)).map (pre ++ ·) = (cmb m left (i + 1)).map ((pre ++ [(i : Int)]) ++ ·) := by
        rw [List.map_map]; exact List.map_congr_left fun l _ => by simp
      have hsucc : (cmbTo m left f (i + 1)).map (pre ++ ·) = (cmbTo m left f i).map (pre ++ ·) ++ (cmb m left (i + 1)).map ((pre ++ [(i : Int)]) ++ ·) := by
        rw [cmbTo_succ hfi, List.map_append, hmap]
      have hall : ∃ rest, (cmb m (left + 1) f).map (pre ++ ·) = (cmbTo m left f (i + 1)).map (pre ++ ·) ++ rest := by
        have key : ∀ d, i + 1 + d ≤ m → ∃ rest, (cmbTo m left f (i + 1 + d)).map (pre ++ ·) = (cmbTo m left f (i + 1)).map (pre ++ ·) ++ rest := by
          intro d
          induction d with
          | zero => intro _; exact ⟨[], by simp⟩
          | succ d ih =>
            intro hd
            obtain ⟨r, hr⟩ := ih (by omega)
            rw [← Nat.add_assoc, cmbTo_succ (by omega), List.map_append, hr, List.append_assoc]
            exact ⟨_, rfl⟩
        have := key (m - (i + 1)) (by omega)
        rwa [show i + 1 + (m - (i + 1)) = m by omega] at this
      refine grow_ok hm h3 h4 h5 hdo left (i + 1) (pre ++ [(i : Int)]) _ G _ (by omega) (by omega) (fun x hx => ?_) (fun l hl' => ?_) ?_ hJ fun G' hG' => asB_mk ?_
      · rcases List.mem_append.1 hx with hx | hx
        · exact hpre x hx
        · rw [List.mem_singleton] at hx; omega
      · have : (i : Int) :: l ∈ cmb m (left + 1) f := by
          rw [cmb_succ, cmbTo, List.mem_flatMap]
          exact ⟨i, by rw [List.mem_filter, List.mem_range]; exact ⟨by omega, by simpa using hfi⟩, List.mem_map.2 ⟨l, hl', rfl⟩⟩
        have := hT _ this
        simpa using this
      · obtain ⟨rest, hr⟩ := hall
        have := congrArg List.length hr
        rw [hsucc] at this
        simp only [List.length_append, List.length_map] at this ⊢
        omega
      · refine pif_cases (fun hq => ?_) fun hq => ?_
        · unfold F127.B4
          have k := k G'
          obtain ⟨rest, hr⟩ := hall
          have hany : ((cmbTo m left f (i + 1)).map (pre ++ ·)).any q = true := by rw [hsucc, List.any_append, hq]; simp
          rw [hr, List.any_append, hany, Bool.true_or, upTo_stop hany, hsucc, upTo_app hno, ← List.append_assoc] at k
          exact k hG'
        · unfold F127.B3
          rw [wrap_id (by omega) (by omega)]
          refine ⟨⟨rfl, rfl, rfl, rfl, i + 1, by omega, by omega, by omega, ?_, ?_⟩, by simp; omega⟩
          · rw [hsucc, List.any_append, hno, hq]; rfl
          · rw [upTo_all hq] at hG'
            rw [hsucc, ← List.append_assoc]; exact hG'
    · have hil : m < i + left + 1 := by have := of_decide_eq_false hb; omega
      unfold F127.B1
      have k := k G
      rw [cmb_succ, cmbTo_end him hfi hil, hno, upTo_all hno] at k
      exact k hJ

theorem choose_ok {m n : Nat} (hm : m ≤ 62) (hn : n ≤ 64) {doV : Value} (hd : doV.oneCell' = true) {J : AHeap → List (List Int) → AHeap → Prop} {q : List Int → Bool} {K : Value → AHeap → Prop}
    (h0 : ∀ B, H.le B → B.length = H.length + 3 → J B [] B) (hb : ∀ B done G, J B done G → ∀ b o, H.length ≤ b → B[b]? = some (some o) → G[b]? = some (some o))
    (hdo : ∀ B done l G, H.le B → B.length = H.length + 3 → J B done G → l ∈ cmb m n 0 → done.length < (cmb m n 0).length → ∀ K : Value → AHeap → Prop, (∀ G', J B (done ++ [l]) G' → K (.bool (q l)) G') → callV Try.prog T0 doV [.int .u64 (setN l : Nat)] G K)
    (k : ∀ B G, H.le B → B.length = H.length + 3 → J B (upTo q (cmb m n 0)) G → K (.bool ((cmb m n 0).any q)) G) :
    AC Try.prog T0 84 [.int .i64 (m : Nat), .int .i64 (n : Nat), doV] H K := by
  apply F84.ac
  unfold F84.B4
  refine newK_f rfl fun H1 l1 n1 o1 => pif_t hd (newK_f (by simpa using hd) fun H2 l2 n2 o2 => ?_)
  unfold F84.B3
  refine newK_f rfl fun H3 l3 n3 o3 => ?_
  unfold F84.B2
  refine stK_f o3 (by simp) (by simp [Value.oneCell']) rfl fun H4 b4 o4 => ?_
  have l34 : H2.le H4 := b4.le l3 (Nat.le_refl _)
  have l4 := AHeap.le_trans (AHeap.le_trans l1 l2) l34
  have o14 := o1.le (AHeap.le_trans l2 l34)
  have o24 := o2.le l34
  have hl4 : H4.length = H.length + 3 := by rw [b4.len]; omega
  unfold F84.B1
  refine ld1_own o4 rfl (callV_mk ?_)
  refine grow_ok hm (t3 := _) (t4 := _) (t5 := _) (J := J H4) (q := q) (T := cmb m n 0) (N := (cmb m n 0).length) (doV := doV) (fun done G hJ => hb _ _ _ hJ _ _ (by omega) o24) (fun done G hJ => hb _ _ _ hJ _ _ (by omega) o14) (fun done G hJ => hb _ _ _ hJ _ _ (by omega) o4) (fun done l G hJ hl hn K hK => hdo H4 done l G l4 hl4 hJ hl hn K hK) n 0 [] [] H4 _ hn (by omega) (fun x hx => by cases hx) (fun l hl => by simpa using hl) (by simp) (h0 H4 l4 hl4) fun G hG => asB_mk ?_
  have e : (cmb m n 0).map ([] ++ ·) = cmb m n 0 := by simp
  rw [e] at hG ⊢
  exact k H4 G l4 hl4 (by simpa using hG)
end Go.Proofs
