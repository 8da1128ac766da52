/- Contracts and plain mathematics for a law, merged. -/
import Derived.StringKeys
import Derived.Test.YtkmjiikgkhhciaaGreatX29Q1
set_option linter.unusedVariables false
set_option linter.unusedSimpArgs false
set_option maxRecDepth 100000
namespace Go.Proofs
open Go.Abs

variable {H G : AHeap} {v u f w : Value} {l m c : List Int} {es fs : List (Int × Int)} {K : Value → AHeap → Prop} {ls L : List (List Int)} {bm : Nat}

theorem exTo_get {e : Nat} {b : Int} {k i : Nat} (hi : i < k) : (exTo es c e b k).getD i 0 = exAt es c e b i := by
 unfold exTo; rw [getD_of (by simpa using hi)]; simp
theorem exTo_isC {e : Nat} {b : Int} (h : IsC es c) (he : e < es.length) (hb : 0 ≤ b ∧ b ≤ 2) (hne : b ≠ c.getD e 0) : IsC es (exTo es c e b es.length) := by
 have hpe : chP c e b e = true := by unfold chP; simp
 have hin : ∀ {i : Nat}, rchB (eAdj es (chP c e b)) e i = true → c.getD i 0 = c.getD e 0 ∨ c.getD i 0 = b := fun hi => by
  have := (eRch_in (rchB_iff.1 hi) ⟨he, hpe⟩).2
  unfold chP at this
  simpa using this
 have hr := h.get
 refine ⟨exTo_length _ _ _ _ _, fun x hx => ?_, fun j hj i hij hs => ?_⟩
 ·obtain ⟨i, hi, rfl⟩ := List.getElem_of_mem hx
  rw [exTo_length] at hi
  rw [← getD_of (d := 0) (by rw [exTo_length]; exact hi), exTo_get hi]
  have h1 := hr i; have h2 := hr e
  unfold exAt
  split
  ·rename_i hc
   rcases hin hc with q | q <;> rw [q] <;> omega
  ·exact h1
 ·rw [exTo_get (by omega), exTo_get hj]
  have hcol := h.col j hj i hij hs
  unfold exAt
  by_cases h1 : rchB (eAdj es (chP c e b)) e i = true <;> by_cases h2 : rchB (eAdj es (chP c e b)) e j = true
  ·rw [if_pos h1, if_pos h2]; omega
  ·rw [if_pos h1, if_neg h2]
   have hn : ¬ (c.getD j 0 = c.getD e 0 ∨ c.getD j 0 = b) := fun hc => h2 (rchB_iff.2 (.step (rchB_iff.1 h1) ⟨hj, by unfold chP; simpa using hc, hs⟩))
   rcases hin h1 with q | q <;> rw [q] <;> omega
  ·rw [if_neg h1, if_pos h2]
   have hn : ¬ (c.getD i 0 = c.getD e 0 ∨ c.getD i 0 = b) := fun hc => h1 (rchB_iff.2 (.step (rchB_iff.1 h2) ⟨by omega, by unfold chP; simpa using hc, share_symm hs⟩))
   rcases hin h2 with q | q <;> rw [q] <;> omega
  ·rw [if_neg h1, if_neg h2]; exact hcol

noncomputable def crStep (es : List (Int × Int)) (i e b : Nat) (L : List (List Int)) : List (List Int) :=
 if (b : Int) = (L.getD i []).getD e 0 then L else if exTo es (L.getD i []) e b es.length ∈ L then L else L ++ [exTo es (L.getD i []) e b es.length]
noncomputable def crB (es : List (Int × Int)) (i e : Nat) (L : List (List Int)) : Nat → List (List Int)
 | 0 => L
 | b + 1 => crStep es i e b (crB es i e L b)
noncomputable def crV (es : List (Int × Int)) (i : Nat) (L : List (List Int)) : Nat → List (List Int)
 | 0 => L
 | e + 1 => crB es i e (crV es i L e) 3
noncomputable def crRun (es : List (Int × Int)) : Nat → Nat → List (List Int) → Option Nat
 | 0, _, _ => none
 | f + 1, i, L => if i < L.length then (if (crV es i L es.length).length > 300 then none else crRun es f (i + 1) (crV es i L es.length)) else some L.length
theorem crStep_pre (i e b : Nat) (L : List (List Int)) : ∃ M, crStep es i e b L = L ++ M := by
 unfold crStep
 split
 ·exact ⟨[], by simp⟩
 ·split
  ·exact ⟨[], by simp⟩
  ·exact ⟨_, rfl⟩
theorem crB_pre (i e : Nat) (L : List (List Int)) : ∀ t, ∃ M, crB es i e L t = L ++ M
 | 0 => ⟨[], by simp [crB]⟩
 | t + 1 => by
  obtain ⟨M, h⟩ := crB_pre i e L t
  obtain ⟨M', h'⟩ := crStep_pre (es := es) i e t (crB es i e L t)
  exact ⟨M ++ M', by rw [crB, h', h, List.append_assoc]⟩
theorem crB_up (i e : Nat) (L : List (List Int)) (t : Nat) : ∀ s, ∃ M, crB es i e L (t + s) = crB es i e L t ++ M
 | 0 => ⟨[], by simp⟩
 | s + 1 => by
  obtain ⟨M, h⟩ := crB_up i e L t s
  obtain ⟨M', h'⟩ := crStep_pre (es := es) i e (t + s) (crB es i e L (t + s))
  exact ⟨M ++ M', by rw [← Nat.add_assoc, crB, h', h, List.append_assoc]⟩
theorem crV_up (i : Nat) (L : List (List Int)) (t : Nat) : ∀ s, ∃ M, crV es i L (t + s) = crV es i L t ++ M
 | 0 => ⟨[], by simp⟩
 | s + 1 => by
  obtain ⟨M, h⟩ := crV_up i L t s
  obtain ⟨M', h'⟩ := crB_pre (es := es) i (t + s) (crV es i L (t + s)) 3
  exact ⟨M ++ M', by rw [← Nat.add_assoc, crV, h', h, List.append_assoc]⟩
theorem crV_le (i : Nat) (L : List (List Int)) {e : Nat} (he : e ≤ es.length) : (crV es i L e).length ≤ (crV es i L es.length).length := by
 obtain ⟨M, h⟩ := crV_up (es := es) i L e (es.length - e)
 rw [show e + (es.length - e) = es.length by omega] at h
 rw [h]; simp
theorem crB_le (i : Nat) (L : List (List Int)) {e t : Nat} (he : e < es.length) (ht : t ≤ 3) : (crB es i e (crV es i L e) t).length ≤ (crV es i L es.length).length := by
 refine Nat.le_trans ?_ (crV_le i L (e := e + 1) (by omega))
 obtain ⟨M, h⟩ := crB_up (es := es) i e (crV es i L e) t (3 - t)
 rw [show t + (3 - t) = 3 by omega] at h
 rw [crV, h]; simp
def AllCol (es : List (Int × Int)) (L : List (List Int)) : Prop := ∀ l ∈ L, IsC es l
theorem AllCol.at {i : Nat} (h : AllCol es L) (hi : i < L.length) : IsC es (L.getD i []) := h _ (by rw [getD_of hi]; exact List.getElem_mem hi)
theorem crStep_all {i e b : Nat} (h : AllCol es L) (hi : i < L.length) (he : e < es.length) (hb : b ≤ 2) : AllCol es (crStep es i e b L) := by
 unfold crStep
 split
 ·exact h
 ·rename_i hne
  split
  ·exact h
  ·intro l hl
   rcases List.mem_append.1 hl with hl | hl
   ·exact h l hl
   ·rw [List.mem_singleton.1 hl]; exact exTo_isC (h.at hi) he (by omega) hne
theorem pre_get {i : Nat} {M : List (List Int)} (hi : i < L.length) : (L ++ M).getD i [] = L.getD i [] := by
 simp [List.getD, List.getElem?_append_left hi]

theorem bytesOf_data : ∀ (ns : List Int) (r : ByteArray), (ns.foldl (fun r n => r.push (UInt8.ofNat n.toNat)) r).data.toList = r.data.toList ++ ns.map fun n => UInt8.ofNat n.toNat
 | [], r => by simp
 | n :: ns, r => by
  rw [List.foldl_cons, bytesOf_data ns]
  simp [ByteArray.push]
theorem bytesOf_inj (hl : ∀ x ∈ l, 0 ≤ x ∧ x < 256) (hm : ∀ x ∈ m, 0 ≤ x ∧ x < 256) (h : bytesOf l = bytesOf m) : l = m := by
 have e : l.map (fun n => UInt8.ofNat n.toNat) = m.map (fun n => UInt8.ofNat n.toNat) := by
  have h1 := bytesOf_data l ByteArray.empty
  have h2 := bytesOf_data m ByteArray.empty
  unfold bytesOf at h
  rw [h, h2] at h1
  simpa using h1.symm
 have hlen : l.length = m.length := by have := congrArg List.length e; simpa using this
 apply List.ext_getElem hlen
 intro i h1 h2
 have h3 := hl _ (List.getElem_mem h1)
 have h4 := hm _ (List.getElem_mem h2)
 have e2 : (l.map fun n => UInt8.ofNat n.toNat)[i]'(by simpa using h1) = (m.map fun n => UInt8.ofNat n.toNat)[i]'(by simpa using h2) := by simp [e]
 rw [List.getElem_map, List.getElem_map] at e2
 have e3 := congrArg UInt8.toNat e2
 simp at e3
 omega
theorem bytesOf_size (ns : List Int) : (bytesOf ns).size = ns.length := by
 show (bytesOf ns).data.size = _
 rw [← Array.length_toList]
 unfold bytesOf
 rw [bytesOf_data]
 simp

noncomputable def tiByte : TI := (T0 5).getD ⟨.bool, 0, 0, undef⟩
theorem E_byte : Elem T0 5 1 := ⟨tiByte, by kernel_rfl, by kernel_rfl, of_decide_eq_true (by kernel_rfl), by kernel_rfl⟩
theorem u8_wrap {x : Int} (h : 0 ≤ x ∧ x < 256) : IntKind.u8.wrap x = x := by simp [IntKind.wrap, IntKind.bits, IntKind.signed]; omega
theorem sl_cells {m0 : Nat} {t : TypeId} {z n : Nat} {cs : List Value} (h : Sl m0 H v t z cs) (hz : 0 < z) (hn : cs.length = n * z) : cellsAt H v z n cs := by
 rcases h with ⟨rfl, h1⟩ | ⟨b, n', pre, post, _, rfl, h3, h4⟩
 ·have : n = 0 := by
   rcases Nat.eq_zero_or_pos n with h | h
   ·exact h
   ·have := Nat.mul_pos h hz; simp at hn; omega
  subst this
  rcases h1 with rfl | ⟨a, rfl⟩
  ·exact ⟨by simp, _, _, rfl, .inl rfl⟩
  ·exact ⟨by simp, _, _, rfl, .inl rfl⟩
 ·obtain rfl : n' = n := Nat.eq_of_mul_eq_mul_right hz (h4.symm.trans hn)
  refine ⟨hn, _, _, rfl, .inr ⟨b, _, rfl, fun i u hu => ?_⟩⟩
  rw [Own.cell h3]
  have := lt_of_get hu
  rw [List.append_assoc, List.getElem?_append_right (by omega), Nat.add_sub_cancel_left, List.getElem?_append_left this]; exact hu
theorem key_ok (h : Ints H v l) (hl : l.length ≤ 1000000) (hr : ∀ x ∈ l, 0 ≤ x ∧ x < 256) (k : ∀ G, H.le G → K (.string (bytesOf l)) G) : AC Tryz.prog T0 137 [v] H K := by
 apply F137.ac
 unfold F137.B9 F137.B8 F137.B7
 refine h.len ?_
 unfold F137.L2
 refine ⟨fun x3 x6 x7 x8 G => v = x6 ∧ (l.length : Int) = x7 ∧ H.le G ∧ ∃ i : Nat, x8 = i ∧ i ≤ l.length ∧ Sl H.length G x3 5 1 ((l.take i).map (Value.int .u8)), fun _ _ _ x8 _ => l.length - x8.toNat, ⟨rfl, rfl, AHeap.le_refl _, 0, rfl, by omega, .nil⟩, ?_⟩
 rintro x3 x6 x7 x8 G ⟨rfl, rfl, lG, i, rfl, hi, s3⟩
 unfold F137.B6
 refine pif_cases (fun hb => ?_) fun hb => ?_
 ·have hil : i < l.length := by have := of_decide_eq_true hb; omega
  unfold F137.B5
  refine (h.le lG).rd (by omega) (by omega) ?_
  rw [Int.toNat_natCast, getD_of hil]
  unfold F137.B4
  rw [u8_wrap (hr _ (List.getElem_mem hil))]
  refine s3.pushN E_byte (by decide) lG.1 (n := 1) (ys := [.int .u8 l[i]]) rfl rfl (by simp; omega) (by simp) fun v' G2 k2 _ _ f2 => ?_
  unfold F137.B3
  rw [wrap_id (by omega) (by omega)]
  refine ⟨⟨rfl, rfl, k2.le lG (Nat.le_refl _), i + 1, by omega, by omega, ?_⟩, by show l.length - ((i : Int) + 1).toNat < l.length - (i : Int).toNat; omega⟩
  rw [List.take_succ_eq_append_getElem hil, List.map_append]; exact f2.sl
 ·have hil : i = l.length := by have := of_decide_eq_false hb; omega
  subst hil
  rw [List.take_length] at s3
  unfold F137.B1
  exact ⟨l, sl_cells s3 (by decide) (by simp), k G lG⟩

def StrM (G : AHeap) (b : Nat) (D : List ByteArray) : Prop := ∃ es cl, G[b]? = some (some (.map es cl)) ∧ es.toList.map MapEntry.key = D.map Value.string ∧ (∀ e ∈ es.toList, e.val = .bool true) ∧ ∀ d ∈ D, d.size ≤ maxLen
theorem strLaw : WideMaps.KeyLaw Tryz.prog 9 := WideMaps.string_law (by kernel_rfl)
theorem keyOf_str {s : ByteArray} (hs : s.size ≤ maxLen) : ∃ l, keyOf Tryz.prog 9 (.string s) = some l := ⟨_, WideMaps.keyOf_string_mk (by kernel_rfl) hs⟩
theorem StrM.le {b : Nat} {D : List ByteArray} (h : StrM H b D) (hl : H.le G) : StrM G b D := by
 obtain ⟨es, cl, h1, h2⟩ := h
 exact ⟨es, cl, hl.2 _ _ h1, h2⟩
theorem StrM.oth {b : Nat} {D : List ByteArray} (h : StrM H b D) (ho : Oth v H G) (hb : bk v ≠ some b) : StrM G b D := by
 obtain ⟨es, cl, h1, h2⟩ := h
 exact ⟨es, cl, ho _ _ hb h1, h2⟩
theorem StrM.lt {b : Nat} {D : List ByteArray} (h : StrM H b D) : b < H.length := by obtain ⟨es, cl, h1, _⟩ := h; exact lt_of_get h1
theorem newM_str {K : Nat → AHeap → Prop} (k : ∀ G, H.le G → G.length = H.length + 1 → StrM G H.length [] → K H.length G) : newM H K :=
 k _ (AHeap.le_append _ _) (by simp) ⟨#[], 0, by simp, rfl, fun e he => by simp at he, fun d hd => by cases hd⟩
theorem mup_str {b : Nat} {D : List ByteArray} {d : ByteArray} {K : AHeap → Prop} (h : StrM H b D) (hd : d.size ≤ maxLen) (hn : d ∉ D)
    (k : ∀ G, But b H G → StrM G b (D ++ [d]) → K G) : mupK Tryz.prog 9 H (.map (some b)) (.string d) (.bool true) K := by
  obtain ⟨es, cl, h1, h2, h3, h4⟩ := h
  have hlt := lt_of_get h1
  have hkeys : ∀ e ∈ es.toList, ∃ a ∈ D, e.key = .string a := fun e he => by
    have : e.key ∈ es.toList.map MapEntry.key := List.mem_map.2 ⟨e, he, rfl⟩
    rw [h2] at this
    obtain ⟨a, ha, hk⟩ := List.mem_map.1 this
    exact ⟨a, ha, hk.symm⟩
  have but : ∀ o, But b H (H.set b o) := fun o => ⟨by simp, fun c hc => List.getElem?_set_ne (by omega)⟩
  refine ⟨b, es, cl, rfl, h1, strLaw, rfl, keyOf_str hd, fun e he => ?_, rfl, fun _ => ?_, fun j e hj he => ?_⟩
  · obtain ⟨a, ha, hk⟩ := hkeys e he
    rw [hk]; exact keyOf_str (h4 a ha)
  · refine k _ (but _) ⟨_, _, List.getElem?_set_self hlt, ?_, fun e he => ?_, fun a ha => ?_⟩
    · rw [Array.toList_push, List.map_append, List.map_append, h2]; rfl
    · rw [Array.toList_push] at he
      rcases List.mem_append.1 he with he | he
      · exact h3 e he
      · rw [List.mem_singleton.1 he]
    · rcases List.mem_append.1 ha with ha | ha
      · exact h4 a ha
      · rw [List.mem_singleton.1 ha]; exact hd
  · have : e ∈ es.toList := Array.mem_toList_iff.2 (Array.mem_of_getElem? hj)
    obtain ⟨a, ha, hk⟩ := hkeys e this
    rw [he] at hk
    cases hk
    exact absurd ha hn
theorem lup_str {b : Nat} {D : List ByteArray} {d : ByteArray} {K : Value → Prop} (h : StrM H b D) (hd : d.size ≤ maxLen) (k : ∀ q : Bool, (q = true ↔ d ∈ D) → K (.bool q)) : lupK Tryz.prog 9 H (.map (some b)) (.string d) (.bool false) false K := by
 obtain ⟨es, cl, h1, h2, h3, h4⟩ := h
 have hkeys : ∀ e ∈ es.toList, ∃ a ∈ D, e.key = .string a := fun e he => by
  have : e.key ∈ es.toList.map MapEntry.key := List.mem_map.2 ⟨e, he, rfl⟩
  rw [h2] at this
  obtain ⟨a, ha, hk⟩ := List.mem_map.1 this
  exact ⟨a, ha, hk.symm⟩
 refine ⟨b, es, cl, rfl, h1, strLaw, rfl, keyOf_str hd, fun e he => ?_, rfl, fun hn => ?_, fun j e hj he => ?_⟩
 ·obtain ⟨a, ha, hk⟩ := hkeys e he
  rw [hk]; exact keyOf_str (h4 a ha)
 ·refine k false ⟨(fun h => by cases h), fun hm => ?_⟩
  have : Value.string d ∈ es.toList.map MapEntry.key := by rw [h2]; exact List.mem_map.2 ⟨d, hm, rfl⟩
  obtain ⟨e, he, hk⟩ := List.mem_map.1 this
  exact absurd hk (hn e he)
 ·have hm : e ∈ es.toList := Array.mem_toList_iff.2 (Array.mem_of_getElem? hj)
  have hv := h3 e hm
  obtain ⟨a, ha, hk⟩ := hkeys e hm
  rw [he] at hk
  cases hk
  rw [hv]
  exact ⟨rfl, k true ⟨fun _ => ha, fun _ => rfl⟩⟩
theorem mlen_str {b : Nat} {D : List ByteArray} {K : Nat → Prop} (h : StrM H b D) (k : K D.length) : mlenK H (.map (some b)) K := by
 obtain ⟨es, cl, h1, h2, _⟩ := h
 refine ⟨es, cl, h1, ?_⟩
 have := congrArg List.length h2
 rw [List.length_map, List.length_map, Array.length_toList] at this
 rw [this]; exact k

def bq : Value → Option Nat
 | .slice (some a) _ _ => some a.block
 | _ => none
theorem _root_.Go.Abs.Ints.move (h : Ints H v l) (k : ∀ b o, bq v = some b → H[b]? = some (some o) → G[b]? = some (some o)) : Ints G v l := by
 rcases h with h | ⟨⟨b, o, sp⟩, c, rfl, h2⟩
 ·exact .inl h
 ·refine .inr ⟨_, c, rfl, h2.imp id ?_⟩
  rintro ⟨h3, h4⟩
  refine ⟨h3, fun i x hx => ?_⟩
  have h5 := h4 i x hx
  unfold AHeap.cell at h5 ⊢
  cases hb : H[b]? with
  | none => rw [hb] at h5; cases h5
  | some o' =>
   cases o' with
   | none => rw [hb] at h5; cases h5
   | some o' => rw [k b o' rfl hb]; rw [hb] at h5; exact h5
theorem _root_.Go.Abs.Ints.bq_lt (h : Ints H v l) (hl : 0 < l.length) {b : Nat} (hb : bq v = some b) : b < H.length := by
 rcases h with ⟨rfl, rfl⟩ | ⟨⟨b', o, sp⟩, c, rfl, h2⟩
 ·simp at hl
 ·cases hb
  rcases h2 with rfl | ⟨_, h4⟩
  ·simp at hl
  ·have h5 := h4 0 l[0] (by simp)
   unfold AHeap.cell at h5
   cases hb : H[b']? with
   | none => rw [hb] at h5; cases h5
   | some o' => exact lt_of_get hb
def Iw (bm : Nat) (v : Value) (H : AHeap) (w : Value) (l : List Int) : Prop := Ints H w l ∧ ∀ b, bq w = some b → b < H.length ∧ b ≠ bm ∧ bk v ≠ some b
theorem Iw.le (h : Iw bm v H w l) (hl : H.le G) : Iw bm v G w l := ⟨h.1.le hl, fun b hb => ⟨Nat.lt_of_lt_of_le (h.2 b hb).1 hl.1, (h.2 b hb).2⟩⟩
theorem Iw.but (h : Iw bm v H w l) (hb : But bm H G) : Iw bm v G w l :=
 ⟨h.1.move fun b o hbw ho => by rw [hb.same b (h.2 b hbw).2.1]; exact ho, fun b hbw => ⟨by rw [hb.len]; exact (h.2 b hbw).1, (h.2 b hbw).2⟩⟩
theorem Iw.oth {v' : Value} (h : Iw bm v H w l) (ho : Oth v H G) (hl : H.length ≤ G.length) (hn : ∀ b, bk v' = some b → H.length ≤ b) : Iw bm v' G w l :=
 ⟨h.1.move fun b o hbw hbo => ho b o (h.2 b hbw).2.2 hbo, fun b hbw => by
  have := h.2 b hbw
  exact ⟨by omega, this.2.1, fun hv => by have := hn b hv; omega⟩⟩
def QR (bm : Nat) (H : AHeap) (v : Value) (ls : List (List Int)) : Prop :=
 ∃ vs : List Value, Sl 0 H v 28 1 vs ∧ vs.length = ls.length ∧ bk v ≠ some bm ∧ ∀ i, i < ls.length → ∃ w, vs[i]? = some w ∧ Iw bm v H w (ls.getD i [])
theorem QR.le (h : QR bm H v ls) (hl : H.le G) : QR bm G v ls := by
 obtain ⟨vs, h1, h2, h3, h4⟩ := h
 exact ⟨vs, h1.le hl, h2, h3, fun i hi => by obtain ⟨w, g1, g2⟩ := h4 i hi; exact ⟨w, g1, g2.le hl⟩⟩
theorem sl_but2 {m0 b : Nat} {t : TypeId} {z : Nat} {cs : List Value} (h : Sl m0 H v t z cs) (hb : But b H G) (hv : bk v ≠ some b) : Sl m0 G v t z cs := by
 rcases h with h | ⟨b', n, pre, post, h1, rfl, h3, h4⟩
 ·exact .inl h
 ·exact .inr ⟨b', n, pre, post, h1, rfl, hb.own h3 (fun e => hv (by rw [e]; rfl)), h4⟩
theorem QR.but (h : QR bm H v ls) (hb : But bm H G) : QR bm G v ls := by
 obtain ⟨vs, h1, h2, h3, h4⟩ := h
 exact ⟨vs, sl_but2 h1 hb h3, h2, h3, fun i hi => by obtain ⟨w, g1, g2⟩ := h4 i hi; exact ⟨w, g1, g2.but hb⟩⟩
theorem QR.len (h : QR bm H v ls) {K : Nat → Prop} (k : K ls.length) : lenK v K := by
 obtain ⟨vs, h1, h2, _⟩ := h
 exact h1.len (by decide) (n := ls.length) (by omega) k
theorem QR.row (h : QR bm H v ls) {i : Nat} (hi : i < ls.length) {K : Value → Prop} (k : ∀ w, Iw bm v H w (ls.getD i []) → K w) : idxK v i 1 (fun b o => ld1 H b o K) := by
 obtain ⟨vs, h1, h2, h3, h4⟩ := h
 obtain ⟨w, g1, g2⟩ := h4 i hi
 exact Sl_rd h1 (by omega) (by omega) (by rw [Int.toNat_natCast]; exact g1) (k w g2)
theorem QR.push (h : QR bm H v ls) (hw : Iw bm v H w l) (hm : bm < H.length) (hs : ls.length < 4294967296) (k : ∀ v' G, Oth v H G → H.length ≤ G.length → (∀ b, bk v' = some b → H.length ≤ b) → QR bm G v' (ls ++ [l]) → K v' G) :
    pif w.oneCell' (newK H [w] 28 (fun b1 H2 => apK T0 28 H2 v (.slice (some ⟨b1, 0, none⟩) 1 (1 + 1)) K)) False := by
  have hw1 : w.oneCell' = true := ints_one hw.1
  refine pif_t hw1 ?_
  obtain ⟨vs, h1, h2, h3, h4⟩ := h
  refine h1.pushN E_row (by decide) (Nat.zero_le _) (n := 1) (ys := [w]) rfl (by simpa using hw1) (by simp; omega) (by simp) fun v' G k1 ot nb f' => k v' G ot k1.len nb ?_
  refine ⟨vs ++ [w], f'.sl, by simp [h2], fun hv => by have := nb bm hv; omega, fun i hi => ?_⟩
  by_cases e : i < ls.length
  · obtain ⟨w', g1, g2⟩ := h4 i e
    refine ⟨w', by rw [List.getElem?_append_left (by omega)]; exact g1, ?_⟩
    rw [pre_get e]
    exact g2.oth ot k1.len nb
  · have : i = ls.length := by simp at hi; omega
    subst this
    refine ⟨w, by rw [← h2]; simp, ?_⟩
    rw [show (ls ++ [l]).getD ls.length [] = l by simp [List.getD]]
    exact hw.oth ot k1.len nb
theorem QR.tail (h : QR bm H v ls) (h0 : 0 < ls.length) {K : Value → Prop} (k : ∀ v', QR bm H v' (ls.drop 1) → K v') : sliceK H 28 v (some (.int .i64 1)) none 1 K := by
 obtain ⟨vs, h1, h2, h3, h4⟩ := h
 rcases h1 with ⟨rfl, _⟩ | ⟨b, n, pre, post, hb, rfl, ho, hn⟩
 ·simp at h2; omega
 ·obtain rfl : n = vs.length := by omega
  refine ⟨⟨_, _, ho, by simp⟩, by decide, by omega, by simp, ?_⟩
  have hmin : min 1 vs.length = 1 := Nat.min_eq_left (by omega)
  refine k _ ⟨vs.drop 1, .inr ⟨b, vs.length - 1, pre ++ vs.take 1, post, hb, ?_, ?_, by simp⟩, by simp [h2], h3, fun i hi => ?_⟩
  ·rw [List.length_append, List.length_take, hmin]; rfl
  ·rw [List.append_assoc pre, List.take_append_drop]; exact ho
  ·rw [List.length_drop] at hi
   obtain ⟨w, g1, g2⟩ := h4 (i + 1) (by omega)
   refine ⟨w, by rw [List.getElem?_drop, Nat.add_comm]; exact g1, ?_⟩
   have e : (ls.drop 1).getD i [] = ls.getD (i + 1) [] := by simp [List.getD, List.getElem?_drop, Nat.add_comm]
   rw [e]; exact g2
theorem QR.one {b : Nat} (ho : Own H b 28 [w]) (hb : b ≠ bm) (hw : Ints H w l) (hwb : ∀ b', bq w = some b' → b' < H.length ∧ b' ≠ bm ∧ b' ≠ b) : QR bm H (.slice (some ⟨b, 0, none⟩) 1 (1 + 1)) [l] := by
 refine ⟨[w], .inr ⟨b, 1, [], [], Nat.zero_le _, rfl, by simpa using ho, rfl⟩, rfl, fun h => by cases h; exact hb rfl, fun i hi => ?_⟩
 have : i = 0 := by simpa using hi
 subst this
 refine ⟨w, rfl, hw, fun q h => ⟨(hwb q h).1, (hwb q h).2.1, fun hv => (hwb q h).2.2 (Option.some.inj hv).symm⟩⟩

theorem l02Same_ok (h : Ints H v l) (g : Ints H u m) (hl : l.length ≤ 1000000) (hm : l.length = m.length) (k : K (.bool (decide (l = m))) H) : AC Tryz.prog T0 139 [v, u] H K := by
 apply F139.ac
 unfold F139.B8 F139.B7 F139.L2
 refine ⟨fun x0 x1 x5 G => v = x0 ∧ u = x1 ∧ H = G ∧ ∃ i : Nat, x5 = i ∧ i ≤ l.length ∧ ∀ j, j < i → l.getD j 0 = m.getD j 0, fun _ _ x5 _ => l.length - x5.toNat, ⟨rfl, rfl, rfl, 0, rfl, by omega, fun j hj => by omega⟩, ?_⟩
 rintro x0 x1 x5 G ⟨rfl, rfl, rfl, i, rfl, hi, hp⟩
 unfold F139.B6
 refine h.len (pif_cases (fun hb => ?_) fun hb => ?_)
 ·have hil : i < l.length := by have := of_decide_eq_true hb; omega
  unfold F139.B5
  refine h.rd (by omega) (by omega) (g.rd (by omega) (by omega) ?_)
  rw [Int.toNat_natCast]
  refine pif_cases (fun hs => ?_) fun hs => ?_
  ·unfold F139.B4
   rw [decide_eq_false (fun e : l = m => bne_iff_ne.1 hs (by rw [e]))] at k; exact k
  ·unfold F139.B3
   rw [wrap_id (by omega) (by omega)]
   refine ⟨⟨rfl, rfl, rfl, i + 1, by omega, by omega, fun j hj => ?_⟩, by show l.length - ((i : Int) + 1).toNat < l.length - (i : Int).toNat; omega⟩
   by_cases e : j = i
   ·subst e; exact bne_eq_false_iff_eq.1 hs
   ·exact hp j (by omega)
 ·have hil : i = l.length := by have := of_decide_eq_false hb; omega
  subst hil
  unfold F139.B1
  have e : l = m := List.ext_getElem hm fun j h1 h2 => by have := hp j h1; rw [getD_of h1, getD_of h2] at this; exact this
  rw [decide_eq_true e] at k; exact k
end Go.Proofs
namespace Go.Proofs
open Go.Abs

variable {H G : AHeap} {v u f w : Value} {l m c : List Int} {es fs : List (Int × Int)} {K : Value → AHeap → Prop} {ls L : List (List Int)} {bm : Nat}

theorem oth_le {H0 : AHeap} (ho : Oth v H G) (hl : H.length ≤ G.length) (h0 : H0.le H) (hn : ∀ b, bk v = some b → H0.length ≤ b) : H0.le G :=
 ⟨Nat.le_trans h0.1 hl, fun b o hb => ho b o (fun hv => by have := hn b hv; have := lt_of_get hb; omega) (h0.2 b o hb)⟩
theorem fresh_iw {m0 : Nat} (h : Fresh m0 H w 2 1 (LI l)) (hl : 0 < l.length) (h1 : bm < m0) (h2 : ∀ b, bk v = some b → b < m0) : Iw bm v H w l := by
 refine ⟨h.ints, fun b hb => ?_⟩
 rcases h with ⟨h0, _⟩ | ⟨b', n, hb', rfl, h3, h4⟩
 ·have := congrArg List.length h0; simp at this; subst this; simp at hl
 ·obtain rfl : b' = b := Option.some.inj hb
  exact ⟨lt_of_get h3, by omega, fun hv => by have := h2 _ hv; omega⟩
noncomputable def crOut (es : List (Int × Int)) (c : List Int) : Option Nat := crRun es 302 0 [c]
noncomputable def crCode (n : Int) (es : List (Int × Int)) (c : List Int) : Int := if IsG n es then (if IsC es c then (match crOut es c with | some _ => 0 | none => 3) else 2) else 1
noncomputable def crVal (n : Int) (es : List (Int × Int)) (c : List Int) : Int := if IsG n es then (if IsC es c then (match crOut es c with | some k => (k : Int) | none => 0) else 0) else 0
structure CrI (es : List (Int × Int)) (c : List Int) (i : Nat) (L : List (List Int)) : Prop where
 hi : i ≤ L.length
 few : L.length ≤ 300
 all : AllCol es L
 run : crOut es c = crRun es (302 - i) i L
theorem CrI.over {i : Nat} (h : CrI es c i L) (hi : i < L.length) (hx : (crV es i L es.length).length > 300) : crOut es c = none := by
 have := h.few
 rw [h.run, show 302 - i = (301 - i) + 1 by omega, crRun, if_pos hi, if_pos hx]
theorem CrI.done {i : Nat} (h : CrI es c i L) (hi : ¬ i < L.length) : crOut es c = some L.length := by
 have := h.few; have := h.hi
 rw [h.run, show 302 - i = (301 - i) + 1 by omega, crRun, if_neg hi]
theorem crB_all {i e : Nat} (hi : i < L.length) (he : e < es.length) (h : AllCol es L) : ∀ t, t ≤ 3 → AllCol es (crB es i e L t)
 | 0, _ => h
 | t + 1, ht => by
  obtain ⟨M, hM⟩ := crB_pre (es := es) i e L t
  exact crStep_all (crB_all hi he h t (by omega)) (by rw [hM]; simp; omega) he (by omega)
theorem crV_all {i : Nat} (hi : i < L.length) (h : AllCol es L) : ∀ e, e ≤ es.length → AllCol es (crV es i L e)
 | 0, _ => h
 | e + 1, he => by
  obtain ⟨M, hM⟩ := crV_up (es := es) i L 0 e
  rw [Nat.zero_add] at hM
  exact crB_all (by rw [hM]; show i < (L ++ M).length; simp; omega) (by omega) (crV_all hi h e (by omega)) 3 (Nat.le_refl _)
theorem CrI.next {i : Nat} (h : CrI es c i L) (hi : i < L.length) (hx : ¬ (crV es i L es.length).length > 300) : CrI es c (i + 1) (crV es i L es.length) := by
 have h0 := h.few
 obtain ⟨M, hM⟩ := crV_up (es := es) i L 0 es.length
 rw [Nat.zero_add] at hM
 refine ⟨by rw [hM]; show i + 1 ≤ (L ++ M).length; simp; omega, by omega, crV_all hi h.all _ (Nat.le_refl _), ?_⟩
 rw [h.run, show 302 - i = (301 - i) + 1 by omega, crRun, if_pos hi, if_neg hx, show 302 - (i + 1) = 301 - i by omega]
theorem crBV_pre (i e t : Nat) (L : List (List Int)) : ∃ M, crB es i e (crV es i L e) t = L ++ M := by
 obtain ⟨M, hM⟩ := crV_up (es := es) i L 0 e
 rw [Nat.zero_add] at hM
 obtain ⟨M', hM'⟩ := crB_pre (es := es) i e (crV es i L e) t
 exact ⟨M ++ M', by rw [hM', hM]; show (L ++ M) ++ M' = _; rw [List.append_assoc]⟩
theorem crV_pre (i e : Nat) (L : List (List Int)) : ∃ M, crV es i L e = L ++ M := by
 obtain ⟨M, hM⟩ := crV_up (es := es) i L 0 e
 rw [Nat.zero_add] at hM
 exact ⟨M, hM⟩

theorem specReach_ok {n : Int} (h : Edges H v es) (hl : es.length ≤ 1048576) (hc : Ints H u c) (hcl : c.length ≤ 1048576)
    (k : ∀ G, H.le G → K (.tuple ⟨[.int .i64 (crVal n es c), .int .i64 (crCode n es c)]⟩) G) : AC Tryz.prog T0 58 [.agg ⟨[.int .i64 n, v]⟩, u] H K := by
  apply F58.ac
  unfold F58.B29
  refine newK_f (all_iv (edges_one' h)) fun H1 l1 _ o1 => ?_
  unfold F58.B28
  refine ldI_own o1 rfl (ld1_own o1 rfl (pif_t (ints_one hc) (newK_f (by simpa using ints_one hc) fun H2 l2 n2 o2 => l02Code_ok (h.le (AHeap.le_trans l1 l2)) hl (hc.le (AHeap.le_trans l1 l2)) hcl o2 fun H3 l3 => asI_mk ?_)))
  have l03 := AHeap.le_trans (AHeap.le_trans l1 l2) l3
  have o3 := (o1.le l2).le l3
  have hb3 := o3.lt
  unfold F58.B27
  by_cases hok : IsG n es ∧ IsC es c
  rotate_left
  · have hne : (if IsG n es then (if IsC es c then 0 else 2) else 1 : Int) = crCode n es c ∧ crCode n es c ≠ 0 ∧ crVal n es c = 0 := by
      unfold crCode crVal
      by_cases hg : IsG n es
      · have hm : ¬ IsC es c := fun hm => hok ⟨hg, hm⟩
        simp only [if_pos hg, if_neg hm]; exact ⟨trivial, by decide, trivial⟩
      · simp only [if_neg hg]; exact ⟨trivial, by decide, trivial⟩
    have k := k H3 l03
    rw [hne.1]
    rw [hne.2.2] at k
    refine pif_t (bne_iff_ne.2 hne.2.1) ?_
    unfold F58.B26
    exact k
  obtain ⟨hg, hC⟩ := hok
  rw [if_pos hg, if_pos hC]
  refine pif_f rfl ?_
  have n0 := hg.ed.lo; have n1 := hg.ed.hi
  have h30 : es.length ≤ 30 := by have := hg.ed.len; omega
  have h1e : 0 < es.length := by have := hg.ed.len; omega
  have hlen : ∀ {l : List Int}, IsC es l → l.length = es.length := fun h => h.len
  have kN : ∀ G, H.le G → crOut es c = none → K (.tuple ⟨[.int .i64 0, .int .i64 3]⟩) G := fun G hG e => by
    have k := k G hG
    unfold crVal crCode at k
    simp only [if_pos hg, if_pos hC, e] at k; exact k
  have kS : ∀ G (q : Nat), H.le G → crOut es c = some q → K (.tuple ⟨[.int .i64 (q : Int), .int .i64 0]⟩) G := fun G q hG e => by
    have k := k G hG
    unfold crVal crCode at k
    simp only [if_pos hg, if_pos hC, e] at k; exact k
  unfold F58.B25
  refine l01Own_ok (hc.le l03) (by omega) fun w0 H4 l4 f4 => pif_t (ints_one f4.ints) (newK_f (by simpa using ints_one f4.ints) fun H5 l5 n5 o5 => ?_)
  have i4 : Iw H.length (.slice none 0 0) H4 w0 c := fresh_iw f4 (by rw [hlen hC]; exact h1e) hb3 (fun b hb => by cases hb)
  have hq : QR H.length H5 (.slice (some ⟨H4.length, 0, none⟩) 1 (1 + 1)) [c] := by
    refine QR.one o5 (by have := l4.1; omega) (f4.ints.le l5) fun b hb => ?_
    have := (i4.2 b hb).1
    exact ⟨by omega, (i4.2 b hb).2.1, by omega⟩
  unfold F58.B24 F58.L2
  refine ⟨fun x1 x2 x7 x8 G => u = x1 ∧ H.length = x2 ∧ H3.le G ∧ (∀ b, bk x7 = some b → H3.length ≤ b) ∧ ∃ (i : Nat) (L : List (List Int)), x8 = i ∧ CrI es c i L ∧ QR H.length G x7 L,
    fun _ _ _ x8 _ => 301 - x8.toNat, ⟨rfl, rfl, AHeap.le_trans l4 l5, (fun b hb => by cases hb; exact l4.1), 0, [c], rfl, ⟨by simp, by simp, fun l hl => by rw [List.mem_singleton.1 hl]; exact hC, rfl⟩, hq⟩, ?_⟩
  clear hq i4 o5 n5 l5 f4 l4
  rintro x1 x2 x7 x8 G ⟨rfl, rfl, lG, hb7, i, L, rfl, hI, hQ⟩
  have hiL := hI.hi; have hfew := hI.few
  unfold F58.B23
  refine hQ.len (pif_cases (fun hb => ?_) fun hb => ?_)
  rotate_left
  · unfold F58.B1
    exact hQ.len (kS G _ (AHeap.le_trans l03 lG) (hI.done (by have := of_decide_eq_false hb; omega)))
  have hil : i < L.length := by have := of_decide_eq_true hb; omega
  unfold F58.B22 F58.L4
  refine ⟨fun x1 x2 x7 x8 x9 G => u = x1 ∧ H.length = x2 ∧ (i : Int) = x8 ∧ H3.le G ∧ (∀ b, bk x7 = some b → H3.length ≤ b) ∧ ∃ e : Nat, x9 = e ∧ e ≤ es.length ∧ (crV es i L e).length ≤ 300 ∧ QR H.length G x7 (crV es i L e),
    fun _ _ _ _ x9 _ => es.length - x9.toNat, ⟨rfl, rfl, rfl, lG, hb7, 0, rfl, by omega, hfew, hQ⟩, ?_⟩
  clear lG hb7 hQ hb
  rintro x1 x2 x7 x8 x9 G ⟨rfl, rfl, rfl, lG, hb7, e, rfl, he, hle, hQ⟩
  unfold F58.B21
  refine (hc.le (AHeap.le_trans l03 lG)).len (pif_cases (fun hb => ?_) fun hb => ?_)
  rotate_left
  · have hee : e = es.length := by have := of_decide_eq_false hb; rw [hlen hC] at this; omega
    subst hee
    unfold F58.B3
    rw [wrap_id (by omega) (by omega)]
    exact ⟨⟨rfl, rfl, lG, hb7, i + 1, _, by omega, hI.next hil (by omega), hQ⟩, by show 301 - ((i : Int) + 1).toNat < 301 - (i : Int).toNat; omega⟩
  have hel : e < es.length := by have := of_decide_eq_true hb; rw [hlen hC] at this; omega
  unfold F58.B20 F58.L6
  refine ⟨fun x1 x2 x7 x8 x9 x10 G => u = x1 ∧ H.length = x2 ∧ (i : Int) = x8 ∧ (e : Int) = x9 ∧ H3.le G ∧ (∀ b, bk x7 = some b → H3.length ≤ b) ∧ ∃ b : Nat, x10 = b ∧ b ≤ 3 ∧ (crB es i e (crV es i L e) b).length ≤ 300 ∧ QR H.length G x7 (crB es i e (crV es i L e) b),
    fun _ _ _ _ _ x10 _ => 3 - x10.toNat, ⟨rfl, rfl, rfl, rfl, lG, hb7, 0, rfl, by omega, hle, hQ⟩, ?_⟩
  clear lG hb7 hQ hle hb
  rintro x1 x2 x7 x8 x9 x10 G ⟨rfl, rfl, rfl, rfl, lG, hb7, b, rfl, hb3', hle, hQ⟩
  unfold F58.B19
  refine pif_cases (fun hb => ?_) fun hb => ?_
  rotate_left
  · have hbe : b = 3 := by have := of_decide_eq_false hb; omega
    subst hbe
    unfold F58.B5
    rw [wrap_id (by omega) (by omega)]
    exact ⟨⟨rfl, rfl, rfl, lG, hb7, e + 1, by omega, by omega, hle, hQ⟩, by show es.length - ((e : Int) + 1).toNat < es.length - (e : Int).toNat; omega⟩
  have hbl : b < 3 := by have := of_decide_eq_true hb; omega
  obtain ⟨X, hX⟩ : ∃ X, X = crB es i e (crV es i L e) b := ⟨_, rfl⟩
  obtain ⟨M, hM⟩ := crBV_pre (es := es) i e b L
  rw [← hX] at hQ hle hM
  have hXi : X.getD i [] = L.getD i [] := by rw [hM]; exact pre_get hil
  have hiX : i < X.length := by rw [hM]; simp; omega
  have hXall : AllCol es X := by
    rw [hX]
    obtain ⟨M', hM'⟩ := crV_pre (es := es) i e L
    exact crB_all (by rw [hM']; simp; omega) hel (crV_all hil hI.all _ (by omega)) _ (by omega)
  have hci := hXall.at hiX
  have hstep : crB es i e (crV es i L e) (b + 1) = crStep es i e b X := by rw [hX]; rfl
  have next : ∀ x7 G, H3.le G → (∀ b, bk x7 = some b → H3.length ≤ b) → (crStep es i e b X).length ≤ 300 → QR H.length G x7 (crStep es i e b X) → (u = u ∧ H.length = H.length ∧ (i : Int) = i ∧ (e : Int) = e ∧ H3.le G ∧ (∀ b, bk x7 = some b → H3.length ≤ b) ∧ ∃ b' : Nat, ((b : Int) + 1) = b' ∧ b' ≤ 3 ∧ (crB es i e (crV es i L e) b').length ≤ 300 ∧ QR H.length G x7 (crB es i e (crV es i L e) b')) ∧ 3 - ((b : Int) + 1).toNat < 3 - (b : Int).toNat :=
    fun x7 G h1 h2 h3 h4 => ⟨⟨rfl, rfl, rfl, rfl, h1, h2, b + 1, by omega, by omega, by rw [hstep]; exact h3, by rw [hstep]; exact h4⟩, by omega⟩
  have l0G := AHeap.le_trans l03 lG
  unfold F58.B18
  refine hQ.row hiX fun wi hwi => hwi.1.rd (by omega) (by rw [hlen hci]; omega) ?_
  rw [Int.toNat_natCast]
  refine pif_cases (fun hs => ?_) fun hs => ?_
  · unfold F58.B7
    rw [wrap_id (by omega) (by omega)]
    have hs := beq_iff_eq.1 hs
    have e1 : crStep es i e b X = X := by unfold crStep; rw [if_pos hs.symm]
    exact next _ G lG hb7 (by rw [e1]; exact hle) (by rw [e1]; exact hQ)
  have hs := beq_eq_false_iff_ne.1 hs
  obtain ⟨nx, hnx⟩ : ∃ nx, nx = exTo es (X.getD i []) e b es.length := ⟨_, rfl⟩
  have hnC : IsC es nx := by rw [hnx]; exact exTo_isC hci hel (by omega) fun h => hs h.symm
  unfold F58.B17
  have oG := o3.le lG
  refine ldI_own oG rfl (ld1_own oG rfl (hQ.row hiX fun wi hwi => l02Exchange_ok (h.le l0G) hg hwi.1 hci hel (by omega) fun wn G1 l1' f1 => ?_))
  rw [← hnx] at f1
  have lG1 := AHeap.le_trans lG l1'
  have hQ1 := hQ.le l1'
  have hbk : ∀ b, bk x7 = some b → b < G.length := fun b hb => by
    obtain ⟨vs, h1, _⟩ := hQ
    exact (h1.lt hb).2
  have hwn : Iw H.length x7 G1 wn nx := fresh_iw f1 (by rw [hlen hnC]; exact h1e) (by have := lG.1; omega) hbk
  have check : ∀ (N2 : Value → Nat → Value → Int → AHeap → Prop) (N4 : Value → Nat → Value → Int → Int → AHeap → Prop) (N6 : Value → Nat → Value → Int → Int → Int → AHeap → Prop) x7 G2, (∀ x7 G, H3.le G → (∀ b, bk x7 = some b → H3.length ≤ b) → (crStep es i e b X).length ≤ 300 → QR H.length G x7 (crStep es i e b X) → N6 u H.length x7 i e ((b : Int) + 1) G) → H3.le G2 → (∀ b, bk x7 = some b → H3.length ≤ b) → QR H.length G2 x7 (crStep es i e b X) → F58.B9 K N2 N4 N6 u H.length x7 i e b G2 := by
    intro N2 N4 N6 x7 G2 hN h1 h2 h3
    unfold F58.B9
    refine h3.len (pif_cases (fun hb => ?_) fun hb => ?_)
    · unfold F58.B8
      refine kN G2 (AHeap.le_trans l03 h1) (hI.over hil ?_)
      have := of_decide_eq_true hb
      have h4 := crB_le (es := es) i L hel (t := b + 1) (by omega)
      rw [hstep] at h4
      omega
    · unfold F58.B7
      rw [wrap_id (by omega) (by omega)]
      exact hN x7 G2 h1 h2 (by have := of_decide_eq_false hb; omega) h3
  unfold F58.B16 F58.L12
  refine ⟨fun x1 x2 x7' x8 x9 x10 x11 x12 x13 G' => u = x1 ∧ H.length = x2 ∧ x7 = x7' ∧ (i : Int) = x8 ∧ (e : Int) = x9 ∧ (b : Int) = x10 ∧ wn = x11 ∧ G1 = G' ∧ ∃ q : Nat, x13 = q ∧ q ≤ X.length ∧ (x12 = true ↔ nx ∈ X.take q),
    fun _ _ _ _ _ _ _ _ x13 _ => X.length - x13.toNat, ⟨rfl, rfl, rfl, rfl, rfl, rfl, rfl, rfl, 0, rfl, by omega, by simp⟩, ?_⟩
  rintro x1 x2 x7' x8 x9 x10 x11 x12 x13 G' ⟨rfl, rfl, rfl, rfl, rfl, rfl, rfl, rfl, q, rfl, hq, hk12⟩
  have fin : (x12 = true ↔ nx ∈ X) → F58.B11 K (fun x1 x2 x7 x8 G => (u = x1 ∧ H.length = x2 ∧ H3.le G ∧ (∀ b, bk x7 = some b → H3.length ≤ b) ∧ ∃ (i : Nat) (L : List (List Int)), x8 = i ∧ CrI es c i L ∧ QR H.length G x7 L) ∧ 301 - x8.toNat < 301 - (i : Int).toNat)
      (fun x1 x2 x7 x8 x9 G => (u = x1 ∧ H.length = x2 ∧ (i : Int) = x8 ∧ H3.le G ∧ (∀ b, bk x7 = some b → H3.length ≤ b) ∧ ∃ e : Nat, x9 = e ∧ e ≤ es.length ∧ (crV es i L e).length ≤ 300 ∧ QR H.length G x7 (crV es i L e)) ∧ es.length - x9.toNat < es.length - (e : Int).toNat)
      (fun x1 x2 x7 x8 x9 x10 G => (u = x1 ∧ H.length = x2 ∧ (i : Int) = x8 ∧ (e : Int) = x9 ∧ H3.le G ∧ (∀ b, bk x7 = some b → H3.length ≤ b) ∧ ∃ b : Nat, x10 = b ∧ b ≤ 3 ∧ (crB es i e (crV es i L e) b).length ≤ 300 ∧ QR H.length G x7 (crB es i e (crV es i L e) b)) ∧ 3 - x10.toNat < 3 - (b : Int).toNat) u H.length x7 i e b wn x12 G1 := by
    intro hk12
    unfold F58.B11
    refine pif_cases (fun hx => ?_) fun hx => ?_
    · have hni : nx ∉ X := fun hm => by rw [hk12.2 hm] at hx; cases hx
      have e1 : crStep es i e b X = X ++ [nx] := by unfold crStep; rw [if_neg fun h => hs h.symm, ← hnx, if_neg hni]
      unfold F58.B10
      refine hQ1.push hwn (by have := lG1.1; omega) (by omega) fun v' G2 ot len2 nb hQ2 => ?_
      exact check _ _ _ v' G2 next (oth_le ot len2 lG1 hb7) (fun b hb => by have := nb b hb; have := lG1.1; omega) (by rw [e1]; exact hQ2)
    · have hni : nx ∈ X := hk12.1 (by simpa using hx)
      have e1 : crStep es i e b X = X := by unfold crStep; rw [if_neg fun h => hs h.symm, ← hnx, if_pos hni]
      exact check _ _ _ x7 G1 next lG1 hb7 (by rw [e1]; exact hQ1)
  unfold F58.B15
  refine hQ1.len (pif_cases (fun hb => ?_) fun hb => ?_)
  · have hql : q < X.length := by have := of_decide_eq_true hb; omega
    refine pif_cases (fun hx => ?_) fun hx => ?_
    · have hcq := hXall.at hql
      unfold F58.B14
      refine hQ1.row hql fun wq hwq => l02Same_ok hwq.1 hwn.1 (by rw [hlen hcq]; omega) (by rw [hlen hcq, hlen hnC]) (asB_mk ?_)
      unfold F58.B13
      rw [wrap_id (by omega) (by omega)]
      refine ⟨⟨rfl, rfl, rfl, rfl, rfl, rfl, rfl, rfl, q + 1, by omega, by omega, ?_⟩, by show X.length - ((q : Int) + 1).toNat < X.length - (q : Int).toNat; omega⟩
      have hn : nx ∉ X.take q := fun hm => by rw [hk12.2 hm] at hx; cases hx
      rw [List.take_succ_eq_append_getElem hql, List.mem_append, List.mem_singleton, decide_eq_true_iff, getD_of hql]
      exact ⟨fun h => .inr h.symm, fun h => h.elim (fun h => absurd h hn) fun h => h.symm⟩
    · have hx : x12 = true := by simpa using hx
      refine fin ⟨fun _ => List.mem_of_mem_take (hk12.1 hx), fun _ => hx⟩
  · have hqe : q = X.length := by have := of_decide_eq_false hb; omega
    subst hqe
    rw [List.take_length] at hk12
    exact fin hk12

def mapN (G : AHeap) (v : Value) : Nat :=
 match v with
 | .map (some b) => match G[b]? with
  | some (some (.map es _)) => es.size
  | _ => 0
 | _ => 0
theorem StrM.num {b : Nat} {D : List ByteArray} (h : StrM H b D) : mapN H (.map (some b)) = D.length := by
 obtain ⟨es, cl, h1, h2, _⟩ := h
 have := congrArg List.length h2
 rw [List.length_map, List.length_map, Array.length_toList] at this
 simp only [mapN, h1]; exact this
theorem QR.lenV (h : QR bm H v ls) : lenV v = ls.length := by
 obtain ⟨vs, h1, h2, _⟩ := h
 rw [← h2]; exact Sl_lenV h1
theorem crStep_len (i e b : Nat) (L : List (List Int)) : (crStep es i e b L).length ≤ L.length + 1 := by
 unfold crStep
 split
 ·omega
 ·split
  ·omega
  ·simp
theorem crB_len (i e : Nat) (L : List (List Int)) : ∀ t, (crB es i e L t).length ≤ L.length + t
 | 0 => Nat.le_refl _
 | t + 1 => by
  have := crB_len i e L t
  have := crStep_len (es := es) i e t (crB es i e L t)
  rw [crB]; omega
theorem crV_len (i : Nat) (L : List (List Int)) : ∀ e, (crV es i L e).length ≤ L.length + 3 * e
 | 0 => Nat.le_refl _
 | e + 1 => by
  have := crV_len i L e
  have := crB_len (es := es) i e (crV es i L e) 3
  rw [crV]; omega
theorem QR.tail2 (h : QR bm H v ls) (h0 : 0 < ls.length) {K : Value → Prop} (k : ∀ v', QR bm H v' (ls.drop 1) → bk v' = bk v → K v') : sliceK H 28 v (some (.int .i64 1)) none 1 K := by
 have hb : ∃ b, ∃ o n, v = .slice (some ⟨b, o, none⟩) n (n + 1) := by
  obtain ⟨vs, h1, h2, _⟩ := h
  rcases h1 with ⟨rfl, _⟩ | ⟨b, n, pre, post, hb, rfl, _⟩
  ·simp at h2; omega
  ·exact ⟨_, _, _, rfl⟩
 obtain ⟨b, o, n, rfl⟩ := hb
 have := h.tail h0 (K := fun v' => bk v' = bk (.slice (some ⟨b, o, none⟩) n (n + 1)) → K v') fun v' q e => k v' q e
 unfold sliceK at this ⊢
 obtain ⟨g1, g2⟩ := this
 exact ⟨g1, g2.1, g2.2.1, g2.2.2.1, g2.2.2.2 rfl⟩

theorem implReach_ok {n : Int} (h : Edges H v es) (hl : es.length ≤ 1048576) (hc : Ints H u c) (hcl : c.length ≤ 1048576)
    (k : ∀ G, H.le G → K (.tuple ⟨[.int .i64 (crVal n es c), .int .i64 (crCode n es c)]⟩) G) : AC Tryz.prog T0 57 [.agg ⟨[.int .i64 n, v]⟩, u] H K := by
  apply F57.ac
  unfold F57.B28
  refine newK_f (all_iv (edges_one' h)) fun H1 l1 _ o1 => ?_
  unfold F57.B27
  refine ldI_own o1 rfl (ld1_own o1 rfl (ldI_own o1 rfl (ld1_own o1 rfl (isColouring_any (h.le l1) hl (hc.le l1) hcl fun H2 l2 => asB_mk ⟨l2, graphCode_ok (h.le (AHeap.le_trans l1 l2)) hl fun H3 l3 => asI_mk ?_⟩))))
  have l03 := AHeap.le_trans (AHeap.le_trans l1 l2) l3
  have o3 := (o1.le l2).le l3
  have hb3 := o3.lt
  unfold F57.B26
  by_cases hok : IsG n es ∧ IsC es c
  rotate_left
  · have hne : (if IsG n es then (if decide (IsG n es ∧ IsC es c) then 0 else 2) else 1 : Int) = crCode n es c ∧ crCode n es c ≠ 0 ∧ crVal n es c = 0 := by
      unfold crCode crVal
      rw [decide_eq_false hok]
      by_cases hg : IsG n es
      · have hm : ¬ IsC es c := fun hm => hok ⟨hg, hm⟩
        simp only [if_pos hg, if_neg hm]; exact ⟨rfl, by decide, trivial⟩
      · simp only [if_neg hg]; exact ⟨trivial, by decide, trivial⟩
    have k := k H3 l03
    rw [hne.1]
    rw [hne.2.2] at k
    refine pif_t (bne_iff_ne.2 hne.2.1) ?_
    unfold F57.B25
    exact k
  rw [decide_eq_true hok]
  obtain ⟨hg, hC⟩ := hok
  rw [if_pos hg]
  refine pif_f rfl ?_
  have n0 := hg.ed.lo; have n1 := hg.ed.hi
  have h30 : es.length ≤ 30 := by have := hg.ed.len; omega
  have h1e : 0 < es.length := by have := hg.ed.len; omega
  have hlen : ∀ {l : List Int}, IsC es l → l.length = es.length := fun h => h.len
  have kN : ∀ G, H.le G → crOut es c = none → K (.tuple ⟨[.int .i64 0, .int .i64 3]⟩) G := fun G hG e => by
    have k := k G hG
    unfold crVal crCode at k
    simp only [if_pos hg, if_pos hC, e] at k; exact k
  have kS : ∀ G (q : Nat), H.le G → crOut es c = some q → K (.tuple ⟨[.int .i64 (q : Int), .int .i64 0]⟩) G := fun G q hG e => by
    have k := k G hG
    unfold crVal crCode at k
    simp only [if_pos hg, if_pos hC, e] at k; exact k
  have hby : ∀ {l : List Int}, IsC es l → ∀ x ∈ l, 0 ≤ x ∧ x < 256 := fun h x hx => by have := h.rng x hx; omega
  have hsz : ∀ {l : List Int}, IsC es l → (bytesOf l).size ≤ maxLen := fun h => by rw [bytesOf_size, hlen h]; unfold maxLen; omega
  unfold F57.B24
  refine newM_str fun H4 l4 n4 m4 => key_ok (hc.le (AHeap.le_trans l03 l4)) (by rw [hlen hC]; omega) (hby hC) fun H5 l5 => asS_mk (mup_str (m4.le l5) (hsz hC) (by simp) fun H6 b6 m6 => ?_)
  obtain ⟨bm, hbm⟩ : ∃ bm, bm = H3.length := ⟨_, rfl⟩
  rw [← hbm] at b6 m6 ⊢
  have l36 : H3.le H6 := b6.le (AHeap.le_trans l4 l5) (by omega)
  have l06 := AHeap.le_trans l03 l36
  unfold F57.B23
  refine pif_t (ints_one hc) (newK_f (by simpa using ints_one hc) fun H7 l7 n7 o7 => ?_)
  have hq : QR bm H7 (.slice (some ⟨H6.length, 0, none⟩) 1 (1 + 1)) [c] := by
    have hc6 := hc.le l03
    have := l36.1
    have := m6.lt
    refine QR.one o7 (by omega) (hc6.le (AHeap.le_trans l36 l7)) fun b hb => ?_
    have := hc6.bq_lt (by rw [hlen hC]; exact h1e) hb
    exact ⟨by omega, by omega, by omega⟩
  have m7 : StrM H7 bm ([c].map bytesOf) := m6.le l7
  unfold F57.L2
  refine ⟨fun x2 x7 x8 G => H.length = x2 ∧ .map (some bm) = x7 ∧ H3.le G ∧ (∀ b, bk x8 = some b → H3.length ≤ b) ∧ ∃ (i : Nat) (L : List (List Int)), CrI es c i L ∧ QR bm G x8 (L.drop i) ∧ StrM G bm (L.map bytesOf),
    fun _ x7 x8 G => 301 + lenV x8 - mapN G x7, ⟨rfl, rfl, AHeap.le_trans l36 l7, (fun b hb => by cases hb; exact l36.1), 0, [c], ⟨by simp, by simp, fun l hl => by rw [List.mem_singleton.1 hl]; exact hC, rfl⟩, hq, m7⟩, ?_⟩
  clear hq m7 o7 n7 l7 l06 m6 b6 l5 m4 n4 l4
  rintro x2 x7 x8o Go ⟨rfl, rfl, lG, hb8, i, L, hI, hQ, hM⟩
  have hiL := hI.hi; have hfew := hI.few
  have hmeas : 301 + lenV x8o - mapN Go (.map (some bm)) = 301 - i := by
    rw [hQ.lenV, hM.num, List.length_drop, List.length_map]; omega
  have l0G := AHeap.le_trans l03 lG
  have oG := o3.le lG
  unfold F57.B22
  refine hQ.len (pif_cases (fun hb => ?_) fun hb => ?_)
  rotate_left
  · unfold F57.B1
    refine mlen_str hM ?_
    rw [List.length_map]
    exact kS Go _ l0G (hI.done (by have := of_decide_eq_false hb; rw [List.length_drop] at this; omega))
  have hil : i < L.length := by have := of_decide_eq_true hb; rw [List.length_drop] at this; omega
  unfold F57.B21
  refine hQ.row (i := 0) (by rw [List.length_drop]; omega) fun w9 hw9 => ?_
  have e9 : (L.drop i).getD 0 [] = L.getD i [] := by simp [List.getD]
  rw [e9] at hw9
  have hci := hI.all.at hil
  unfold F57.B20
  refine ld1_own oG rfl (lengthE_ok (h.le l0G) (asI_mk ?_))
  unfold F57.L6
  refine ⟨fun x2 x7 x8 x9 x37 x38 G => H.length = x2 ∧ .map (some bm) = x7 ∧ w9 = x9 ∧ (es.length : Int) = x37 ∧ H3.le G ∧ (∀ b, bk x8 = some b → H3.length ≤ b) ∧ Iw bm x8 G w9 (L.getD i []) ∧ ∃ e : Nat, x38 = e ∧ e ≤ es.length ∧ QR bm G x8 ((crV es i L e).drop i) ∧ StrM G bm ((crV es i L e).map bytesOf),
    fun _ _ _ _ _ x38 _ => es.length - x38.toNat, ⟨rfl, rfl, rfl, rfl, lG, hb8, hw9, 0, rfl, by omega, hQ, hM⟩, ?_⟩
  clear lG hb8 hw9 hQ hM oG l0G hb
  rintro x2 x7 x8 x9 x37 x38 G ⟨rfl, rfl, rfl, rfl, lG, hb8, hw9, e, rfl, he, hQ, hM⟩
  have hN : (crV es i L e).length ≤ 1000 := by have := crV_len (es := es) i L e; omega
  obtain ⟨M0, hM0⟩ := crV_pre (es := es) i e L
  have hpre : i < (crV es i L e).length := by rw [hM0]; simp; omega
  unfold F57.B19
  refine pif_cases (fun hb => ?_) fun hb => ?_
  rotate_left
  · have hee : e = es.length := by have := of_decide_eq_false hb; omega
    subst hee
    unfold F57.B5
    refine mlen_str hM ?_
    rw [List.length_map]
    refine pif_cases (fun hb => ?_) fun hb => ?_
    · unfold F57.B4
      exact kN G (AHeap.le_trans l03 lG) (hI.over hil (by have := of_decide_eq_true hb; omega))
    · have hx : ¬ (crV es i L es.length).length > 300 := by have := of_decide_eq_false hb; omega
      unfold F57.B3
      refine hQ.tail2 (by rw [List.length_drop]; omega) fun v' hQ' hv' => ?_
      rw [List.drop_drop] at hQ'
      refine ⟨⟨rfl, rfl, lG, fun b hb => hb8 b (by rw [← hv']; exact hb), i + 1, _, hI.next hil hx, hQ', hM⟩, ?_⟩
      show 301 + lenV v' - mapN G (.map (some bm)) < 301 + lenV x8o - mapN Go (.map (some bm))
      rw [hmeas, hQ'.lenV, hM.num, List.length_drop, List.length_map]; omega
  have hel : e < es.length := by have := of_decide_eq_true hb; omega
  unfold F57.B18 F57.B17 F57.L8
  refine ⟨fun x2 x7 x8 x9 x10 x37 x38 x41 G => H.length = x2 ∧ .map (some bm) = x7 ∧ w9 = x9 ∧ (e : Int) = x10 ∧ (es.length : Int) = x37 ∧ (e : Int) = x38 ∧ H3.le G ∧ (∀ b, bk x8 = some b → H3.length ≤ b) ∧ Iw bm x8 G w9 (L.getD i []) ∧ ∃ b : Nat, x41 = b ∧ b ≤ 3 ∧ QR bm G x8 ((crB es i e (crV es i L e) b).drop i) ∧ StrM G bm ((crB es i e (crV es i L e) b).map bytesOf),
    fun _ _ _ _ _ _ _ x41 _ => 3 - x41.toNat, ⟨rfl, rfl, rfl, rfl, rfl, rfl, lG, hb8, hw9, 0, rfl, by omega, hQ, hM⟩, ?_⟩
  clear lG hb8 hw9 hQ hM hb
  rintro x2 x7 x8 x9 x10 x37 x38 x41 G ⟨rfl, rfl, rfl, rfl, rfl, rfl, lG, hb8, hw9, b, rfl, hb3', hQ, hM⟩
  unfold F57.B16
  refine pif_cases (fun hb => ?_) fun hb => ?_
  rotate_left
  · have hbe : b = 3 := by have := of_decide_eq_false hb; omega
    subst hbe
    unfold F57.B7
    rw [wrap_id (by omega) (by omega)]
    exact ⟨⟨rfl, rfl, rfl, rfl, lG, hb8, hw9, e + 1, by omega, by omega, hQ, hM⟩, by show es.length - ((e : Int) + 1).toNat < es.length - (e : Int).toNat; omega⟩
  have hbl : b < 3 := by have := of_decide_eq_true hb; omega
  obtain ⟨X, hX⟩ : ∃ X, X = crB es i e (crV es i L e) b := ⟨_, rfl⟩
  have hXN : X.length ≤ 1010 := by rw [hX]; have := crB_len (es := es) i e (crV es i L e) b; omega
  obtain ⟨M, hM'⟩ := crBV_pre (es := es) i e b L
  rw [← hX] at hQ hM hM'
  have hXi : X.getD i [] = L.getD i [] := by rw [hM']; exact pre_get hil
  have hiX : i < X.length := by rw [hM']; simp; omega
  have hXall : AllCol es X := by rw [hX]; exact crB_all hpre hel (crV_all hil hI.all _ (by omega)) _ (by omega)
  have hstep : crB es i e (crV es i L e) (b + 1) = crStep es i e b X := by rw [hX]; rfl
  have l0G := AHeap.le_trans l03 lG
  have oG := o3.le lG
  have next : ∀ x8 G, H3.le G → (∀ b, bk x8 = some b → H3.length ≤ b) → Iw bm x8 G w9 (L.getD i []) → QR bm G x8 ((crStep es i e b X).drop i) → StrM G bm ((crStep es i e b X).map bytesOf) → (H.length = H.length ∧ .map (some bm) = (.map (some bm) : Value) ∧ w9 = w9 ∧ (e : Int) = e ∧ (es.length : Int) = es.length ∧ (e : Int) = e ∧ H3.le G ∧ (∀ b, bk x8 = some b → H3.length ≤ b) ∧ Iw bm x8 G w9 (L.getD i []) ∧ ∃ b' : Nat, ((b : Int) + 1) = b' ∧ b' ≤ 3 ∧ QR bm G x8 ((crB es i e (crV es i L e) b').drop i) ∧ StrM G bm ((crB es i e (crV es i L e) b').map bytesOf)) ∧ 3 - ((b : Int) + 1).toNat < 3 - (b : Int).toNat :=
    fun x8 G h1 h2 h3 h4 h5 => ⟨⟨rfl, rfl, rfl, rfl, rfl, rfl, h1, h2, h3, b + 1, by omega, by omega, by rw [hstep]; exact h4, by rw [hstep]; exact h5⟩, by omega⟩
  unfold F57.B15 F57.B14
  refine hw9.1.rd (by omega) (by rw [hlen hci]; omega) ?_
  rw [Int.toNat_natCast]
  refine pif_cases (fun hs => ?_) fun hs => ?_
  · have hs := beq_iff_eq.1 hs
    have e1 : crStep es i e b X = X := by unfold crStep; rw [hXi, if_pos hs]
    unfold F57.B9
    rw [wrap_id (by omega) (by omega)]
    exact next _ G lG hb8 hw9 (by rw [e1]; exact hQ) (by rw [e1]; exact hM)
  have hs := beq_eq_false_iff_ne.1 hs
  obtain ⟨nx, hnx⟩ : ∃ nx, nx = exTo es (L.getD i []) e b es.length := ⟨_, rfl⟩
  have hnC : IsC es nx := by rw [hnx]; exact exTo_isC hci hel (by omega) hs
  have hmem : bytesOf nx ∈ X.map bytesOf ↔ nx ∈ X := by
    rw [List.mem_map]
    constructor
    · rintro ⟨l, hl, hh⟩
      rw [← bytesOf_inj (hby (hXall l hl)) (hby hnC) hh]; exact hl
    · exact fun hm => ⟨nx, hm, rfl⟩
  unfold F57.B13
  refine ldI_own oG rfl (ld1_own oG rfl (exchanged_ok (h.le l0G) hg hw9.1 hci hel (by omega) fun wn G1 l1' f1 => ?_))
  rw [← hnx] at f1
  have hbk : ∀ b, bk x8 = some b → b < G.length := fun b hb => by
    obtain ⟨vs, h1, _⟩ := hQ
    exact (h1.lt hb).2
  have hwn : Iw bm x8 G1 wn nx := fresh_iw f1 (by rw [hlen hnC]; exact h1e) (by have := hM.lt; omega) hbk
  unfold F57.B12
  refine key_ok f1.ints (by rw [hlen hnC]; omega) (hby hnC) fun G2 l2' => asS_mk ?_
  have l02 := AHeap.le_trans l1' l2'
  have hM2 := hM.le l02
  have hQ2 := hQ.le l02
  have hw2 := hw9.le l02
  have hwn2 := hwn.le l2'
  have lG2 := AHeap.le_trans lG l02
  refine lup_str hM2 (hsz hnC) fun q hq => asB_mk (pif_cases (fun hx => ?_) fun hx => ?_)
  · have hni : nx ∉ X := fun hm => by rw [hq.2 (hmem.2 hm)] at hx; cases hx
    have e1 : crStep es i e b X = X ++ [nx] := by unfold crStep; rw [hXi, if_neg hs, ← hnx, if_neg hni]
    unfold F57.B11
    refine key_ok hwn2.1 (by rw [hlen hnC]; omega) (hby hnC) fun G3 l3' => asS_mk (mup_str (hM2.le l3') (hsz hnC) (fun hm => hni (hmem.1 hm)) fun G4 b4 m4 => ?_)
    have lG4 : H3.le G4 := b4.le (AHeap.le_trans lG2 l3') (by omega)
    have hQ4 := (hQ2.le l3').but b4
    have hw4 := (hw2.le l3').but b4
    have hwn4 := (hwn2.le l3').but b4
    have hbm8 : bk x8 ≠ some bm := by obtain ⟨vs, _, _, g3, _⟩ := hQ; exact g3
    unfold F57.B10
    refine hQ4.push hwn4 m4.lt (by rw [List.length_drop]; omega) fun v' G5 ot len5 nb hQ5 => ?_
    unfold F57.B9
    rw [wrap_id (by omega) (by omega)]
    refine next v' G5 (oth_le ot len5 lG4 hb8) (fun b hb => by have := nb b hb; have := lG4.1; omega) (hw4.oth ot len5 nb) ?_ ?_
    · rw [e1, List.drop_append_of_le_length (by omega)]; exact hQ5
    · rw [e1, List.map_append]; exact m4.oth ot hbm8
  · have hni : nx ∈ X := hmem.1 (hq.1 (by simpa using hx))
    have e1 : crStep es i e b X = X := by unfold crStep; rw [hXi, if_neg hs, ← hnx, if_pos hni]
    unfold F57.B9
    rw [wrap_id (by omega) (by omega)]
    exact next _ G2 lG2 hb8 hw2 (by rw [e1]; exact hQ2) (by rw [e1]; exact hM2)
end Go.Proofs
namespace Go.Proofs
open Go.Abs

section
variable {n : Int} {es : List (Int × Int)}
end
end Go.Proofs
namespace Go.Proofs
open Go.Abs

section
variable {es : List (Int × Int)} {p : Nat → Bool} {l C : List Int} {n : Int}

theorem asc_nodup {l : List Int} (h : Asc l) : l.Nodup := by
 unfold Asc at h
 exact h.imp fun h => by intro e; omega
theorem filtB_nodup (S : Nat → Bool) (k : Nat) : (filtB S k).Nodup := asc_nodup (filtB_asc S k)
variable {e u0 now w v : Nat} {E : Nat → Prop}
end
end Go.Proofs
namespace Go.Proofs
open Go.Abs

variable {es : List (Int × Int)} {p q : Nat → Bool} {n : Int} {w : Int}

def cn (f : Nat → Bool) : Nat → Nat
 | 0 => 0
 | k + 1 => cn f k + if f k then 1 else 0
theorem cn_filt (f : Nat → Bool) : ∀ k, (filtB f k).length = cn f k
 | 0 => rfl
 | k + 1 => by rw [filtB_succ, List.length_append, cn_filt f k, cn]; split <;> rfl
theorem cn_congr {f g : Nat → Bool} : ∀ {k}, (∀ i, i < k → f i = g i) → cn f k = cn g k
 | 0, _ => rfl
 | k + 1, h => by rw [cn, cn, cn_congr fun i hi => h i (by omega), h k (by omega)]
theorem cn_le {f g : Nat → Bool} : ∀ {k}, (∀ i, i < k → f i = true → g i = true) → cn f k ≤ cn g k
 | 0, _ => Nat.le_refl _
 | k + 1, h => by
  have := cn_le (k := k) fun i hi => h i (by omega)
  have := h k (by omega)
  rw [cn, cn]
  cases hf : f k <;> cases hg : g k <;> simp_all
  omega
theorem cn_pos {f : Nat → Bool} {i : Nat} (hf : f i = true) : ∀ {k}, i < k → 0 < cn f k
 | k + 1, h => by
  rw [cn]
  by_cases e : i = k
  ·subst e; rw [hf]; simp
  ·have := cn_pos hf (k := k) (by omega); omega
theorem cn_some {f : Nat → Bool} : ∀ {k}, 0 < cn f k → ∃ i, i < k ∧ f i = true
 | 0, h => by simp [cn] at h
 | k + 1, h => by
  rw [cn] at h
  cases hf : f k with
  | true => exact ⟨k, by omega, hf⟩
  | false =>
   rw [hf] at h
   obtain ⟨i, h1, h2⟩ := cn_some (k := k) (by simpa using h)
   exact ⟨i, by omega, h2⟩
theorem cn_add {f g : Nat → Bool} : ∀ {k}, (∀ i, i < k → ¬ (f i = true ∧ g i = true)) → cn (fun j => f j || g j) k = cn f k + cn g k
 | 0, _ => rfl
 | k + 1, h => by
  have := cn_add (k := k) fun i hi => h i (by omega)
  have := h k (by omega)
  rw [cn, cn, cn]
  cases hf : f k <;> cases hg : g k <;> simp_all <;> omega

theorem degB_cn (p : Nat → Bool) (w : Int) : degB es p w = cn (fun j => on (es.getD j (0, 0)) w && p j) es.length := cn_filt _ _
theorem deg_le (h : ∀ j, j < es.length → p j = true → q j = true) : degB es p w ≤ degB es q w := by
 rw [degB_cn, degB_cn]
 exact cn_le fun j hj hp => by simp only [Bool.and_eq_true] at hp ⊢; exact ⟨hp.1, h j hj hp.2⟩
theorem deg_some (h : 0 < degB es p w) : ∃ i, i < es.length ∧ p i = true ∧ on (es.getD i (0, 0)) w = true := by
 rw [degB_cn] at h
 obtain ⟨i, h1, h2⟩ := cn_some h
 simp only [Bool.and_eq_true] at h2
 exact ⟨i, h1, h2.2, h2.1⟩

def sm (f : Nat → Nat) : Nat → Nat
 | 0 => 0
 | k + 1 => sm f k + f k
theorem sm_congr {f g : Nat → Nat} : ∀ {k}, (∀ i, i < k → f i = g i) → sm f k = sm g k
 | 0, _ => rfl
 | k + 1, h => by rw [sm, sm, sm_congr fun i hi => h i (by omega), h k (by omega)]
theorem sm_add (f g : Nat → Nat) : ∀ k, sm (fun i => f i + g i) k = sm f k + sm g k
 | 0 => rfl
 | k + 1 => by rw [sm, sm, sm, sm_add f g k]; omega
theorem sm_zero : ∀ k, sm (fun _ => 0) k = 0
 | 0 => rfl
 | k + 1 => by rw [sm, sm_zero k]
theorem sm_if (f : Nat → Bool) : ∀ k, sm (fun i => if f i then 1 else 0) k = cn f k
 | 0 => rfl
 | k + 1 => by rw [sm, cn, sm_if f k]
theorem sm_swap (f : Nat → Nat → Nat) (m : Nat) : ∀ k, sm (fun i => sm (fun j => f i j) m) k = sm (fun j => sm (fun i => f i j) k) m
 | 0 => by simp only [sm]; exact (sm_zero m).symm
 | k + 1 => by rw [sm, sm_swap f m k, ← sm_add]; exact sm_congr fun i _ => by rw [sm]
theorem sm_one {a : Nat} {c : Nat} : ∀ {k}, a < k → sm (fun i => if i = a then c else 0) k = c
 | k + 1, h => by
  rw [sm]
  by_cases e : a = k
  ·subst e
   rw [sm_congr (g := fun _ => 0) fun i hi => if_neg (by omega), sm_zero]; simp
  ·rw [sm_one (k := k) (by omega), if_neg (by omega), Nat.add_zero]

structure EndsIn (n : Int) (es : List (Int × Int)) : Prop where
 get : ∀ j, j < es.length → ∃ a b : Nat, es.getD j (0, 0) = ((a : Int), (b : Int)) ∧ a ≠ b ∧ (a : Int) < n ∧ (b : Int) < n
theorem IsG.endsIn (h : IsG n es) : EndsIn n es := ⟨fun j hj => by
 have hm : es.getD j (0, 0) ∈ es := by rw [getD_of hj]; exact List.getElem_mem _
 obtain ⟨h1, h2, h3, h4, h5⟩ := h.ed.ends _ hm
 refine ⟨(es.getD j (0, 0)).1.toNat, (es.getD j (0, 0)).2.toNat, ?_, by omega, by omega, by omega⟩
 rw [Int.toNat_of_nonneg h1, Int.toNat_of_nonneg h3]⟩

theorem hands (he : EndsIn n es) (A : Nat → Bool) (p : Nat → Bool) :
    sm (fun w => if A w then degB es p w else 0) n.toNat = sm (fun j => if p j then (if A (es.getD j (0, 0)).1.toNat then 1 else 0) + (if A (es.getD j (0, 0)).2.toNat then 1 else 0) else 0) es.length := by
  have e1 : ∀ w, (if A w then degB es p w else 0) = sm (fun j => if A w && (on (es.getD j (0, 0)) w && p j) then 1 else 0) es.length := fun w => by
    cases hA : A w with
    | false => simp [sm_zero]
    | true => rw [sm_if]; simp only [Bool.true_and, if_true]; rw [degB_cn]
  rw [sm_congr fun w _ => e1 w, sm_swap]
  refine sm_congr fun j hj => ?_
  obtain ⟨a, b, hab, hne, ha, hb⟩ := he.get j hj
  rw [hab]
  cases hp : p j with
  | false => simp [sm_zero]
  | true =>
    simp only [if_true, Int.toNat_natCast, Bool.and_true]
    rw [← sm_one (a := a) (c := if A a then 1 else 0) (k := n.toNat) (by omega), ← sm_one (a := b) (c := if A b then 1 else 0) (k := n.toNat) (by omega), ← sm_add]
    refine sm_congr fun w hw => ?_
    unfold on
    by_cases h1 : w = a
    · subst h1
      simp [hne]
    · by_cases h2 : w = b
      · subst h2
        simp [hne, h1]
      · have g1 : ¬ (a : Int) = w := by omega
        have g2 : ¬ (b : Int) = w := by omega
        simp [h1, h2, g1, g2]

end Go.Proofs
namespace Go.Proofs
open Go.Abs

variable {es fs gs : List (Int × Int)} {l : List Int} {n : Int}

end Go.Proofs
namespace Go.Proofs
open Go.Abs

variable {es fs : List (Int × Int)} {l : List Int} {n : Int}

def leavB (es : List (Int × Int)) (l : List Int) (i : Nat) : Bool := bitB l (es.getD i (0, 0)).1.toNat != bitB l (es.getD i (0, 0)).2.toNat
def leavL (es : List (Int × Int)) (l : List Int) : List Int := filtB (leavB es l) es.length
theorem sm_mod {f g : Nat → Nat} : ∀ {k}, (∀ i, i < k → f i % 2 = g i % 2) → sm f k % 2 = sm g k % 2
 | 0, _ => rfl
 | k + 1, h => by
  have h1 := sm_mod (k := k) fun i hi => h i (by omega)
  have h2 := h k (by omega)
  rw [sm, sm]; omega
theorem sm_mul (c : Nat) (f : Nat → Nat) : ∀ k, sm (fun i => c * f i) k = c * sm f k
 | 0 => rfl
 | k + 1 => by rw [sm, sm, sm_mul c f k, Nat.mul_add]
end Go.Proofs
namespace Go.Proofs
open Go.Abs

variable {l m c : List Int} {es fs : List (Int × Int)} {ls L : List (List Int)} {n : Int}

theorem filtB_and (f p : Nat → Bool) : ∀ k, filtB (fun j => f j && p j) k = (filtB f k).filter fun i => p i.toNat
 | 0 => rfl
 | k + 1 => by
  rw [filtB_succ, filtB_succ, List.filter_append, filtB_and f p k]
  cases hf : f k <;> cases hp : p k <;> simp [hp]
theorem list3 {α : Type} {l : List α} (h : l.length = 3) : ∃ a b c, l = [a, b, c] := by
 match l, h with
 | [a, b, c], _ => exact ⟨a, b, c, rfl⟩
theorem col_deg (hg : IsG n es) (hc : IsC es c) {w : Nat} (hw : (w : Int) < n) {x : Int} (hx : 0 ≤ x ∧ x ≤ 2) : degB es (fun j => c.getD j 0 == x) w = 1 := by
 have h3 := hg.three (v := (w : Int)) (by omega) hw
 have ha : Asc (atL es (w : Int)) := filtB_asc _ _
 obtain ⟨i, j, k, e⟩ := list3 h3
 have hd : degB es (fun j => c.getD j 0 == x) w = ((atL es (w : Int)).filter fun i => c.getD i.toNat 0 == x).length := by
  unfold degB
  rw [filtB_and]; rfl
 rw [hd, e]
 rw [e] at ha
 unfold Asc at ha
 simp only [List.pairwise_cons, List.mem_cons, List.not_mem_nil, or_false, forall_eq_or_imp, forall_eq] at ha
 have mem : ∀ y ∈ atL es (w : Int), ∃ q : Nat, y = q ∧ q < es.length ∧ on (es.getD q (0, 0)) w = true := fun y hy => mem_atL.1 hy
 obtain ⟨i', hi, hi2, hi3⟩ := mem i (by rw [e]; simp)
 obtain ⟨j', hj, hj2, hj3⟩ := mem j (by rw [e]; simp)
 obtain ⟨k', hk, hk2, hk3⟩ := mem k (by rw [e]; simp)
 have c1 := hc.col j' hj2 i' (by omega) ⟨w, hi3, hj3⟩
 have c2 := hc.col k' hk2 i' (by omega) ⟨w, hi3, hk3⟩
 have c3 := hc.col k' hk2 j' (by omega) ⟨w, hj3, hk3⟩
 have r1 := hc.get i'
 have r2 := hc.get j'
 have r3 := hc.get k'
 subst hi; subst hj; subst hk
 have : (c.getD i' 0 = x ∧ c.getD j' 0 ≠ x ∧ c.getD k' 0 ≠ x) ∨ (c.getD i' 0 ≠ x ∧ c.getD j' 0 = x ∧ c.getD k' 0 ≠ x) ∨ (c.getD i' 0 ≠ x ∧ c.getD j' 0 ≠ x ∧ c.getD k' 0 = x) := by omega
 rcases this with ⟨a1, a2, a3⟩ | ⟨a1, a2, a3⟩ | ⟨a1, a2, a3⟩
 ·simp only [List.filter_cons, List.filter_nil, Int.toNat_natCast, beq_iff_eq.2 a1, beq_eq_false_iff_ne.2 a2, beq_eq_false_iff_ne.2 a3]; rfl
 ·simp only [List.filter_cons, List.filter_nil, Int.toNat_natCast, beq_eq_false_iff_ne.2 a1, beq_iff_eq.2 a2, beq_eq_false_iff_ne.2 a3]; rfl
 ·simp only [List.filter_cons, List.filter_nil, Int.toNat_natCast, beq_eq_false_iff_ne.2 a1, beq_eq_false_iff_ne.2 a2, beq_iff_eq.2 a3]; rfl
theorem col_some (hg : IsG n es) (hc : IsC es c) {w : Nat} (hw : (w : Int) < n) {x : Int} (hx : 0 ≤ x ∧ x ≤ 2) : ∃ i, i < es.length ∧ c.getD i 0 = x ∧ on (es.getD i (0, 0)) w = true := by
 have h := col_deg hg hc hw hx
 obtain ⟨i, h1, h2, h3⟩ := deg_some (p := fun j => c.getD j 0 == x) (w := (w : Int)) (Nat.lt_of_lt_of_eq Nat.zero_lt_one h.symm)
 exact ⟨i, h1, beq_iff_eq.1 h2, h3⟩
theorem cut_parity (hg : IsG n es) (hc : IsC es c) (hs : IsS l n) {x : Int} (hx : 0 ≤ x ∧ x ≤ 2) : ((cn (fun j => leavB es l j && c.getD j 0 == x) es.length : Int) - (l.length : Int)) % 2 = 0 := by
 have n0 := hg.ed.lo
 obtain ⟨N, hN⟩ : ∃ N : Nat, n = N := ⟨n.toNat, by omega⟩
 subst hN
 have h := hands hg.endsIn (bitB l) (fun j => c.getD j 0 == x)
 have e1 : sm (fun w => if bitB l w then degB es (fun j => c.getD j 0 == x) w else 0) ((N : Nat) : Int).toNat = l.length := by
  rw [Int.toNat_natCast]
  have : ∀ w, w < N → (if bitB l w then degB es (fun j => c.getD j 0 == x) w else 0) = (if bitB l w then 1 else 0) := fun w hw => by
   cases hb : bitB l w with
   | false => rfl
   | true => simp only [if_true]; exact col_deg hg hc (by omega) hx
  rw [sm_congr this, sm_if, ← cn_filt, ← hs.filt]
 have e2 : sm (fun j => if c.getD j 0 == x then (if bitB l (es.getD j (0, 0)).1.toNat then 1 else 0) + (if bitB l (es.getD j (0, 0)).2.toNat then 1 else 0) else 0) es.length % 2 = (cn (fun j => leavB es l j && c.getD j 0 == x) es.length) % 2 := by
  rw [← sm_if]
  refine sm_mod fun j _ => ?_
  unfold leavB
  cases c.getD j 0 == x <;> cases bitB l (es.getD j (0, 0)).1.toNat <;> cases bitB l (es.getD j (0, 0)).2.toNat <;> simp
 have e3 : l.length % 2 = cn (fun j => leavB es l j && c.getD j 0 == x) es.length % 2 := (congrArg (· % 2) (e1.symm.trans h)).trans e2
 omega

noncomputable def chB (es : List (Int × Int)) (c : List Int) (e : Nat) (b : Int) (j : Nat) : Bool := rchB (eAdj es (chP c e b)) e j
theorem chB_in {e : Nat} {b : Int} (he : e < es.length) {j : Nat} (h : chB es c e b j = true) : j < es.length ∧ (c.getD j 0 = c.getD e 0 ∨ c.getD j 0 = b) := by
 have h0 : chP c e b e = true := by unfold chP; simp
 have := eRch_in (rchB_iff.1 h) ⟨he, h0⟩
 refine ⟨this.1, ?_⟩
 have h2 := this.2
 unfold chP at h2
 simpa using h2
theorem chain_even (hg : IsG n es) (hc : IsC es c) {e : Nat} {b : Int} (he : e < es.length) (hb : 0 ≤ b ∧ b ≤ 2) (hne : b ≠ c.getD e 0) : cn (chB es c e b) es.length % 2 = 0 := by
 have n0 := hg.ed.lo
 obtain ⟨a, ha⟩ : ∃ a, a = c.getD e 0 := ⟨_, rfl⟩
 have ra : 0 ≤ a ∧ a ≤ 2 := by rw [ha]; exact hc.get e
 have half : ∀ x, (x = a ∨ x = b) → 2 * cn (fun j => chB es c e b j && c.getD j 0 == x) es.length = cn (fun w => @decide (∃ j, j < es.length ∧ chB es c e b j = true ∧ on (es.getD j (0, 0)) w = true) (Classical.propDecidable _)) n.toNat := by
  intro x hx
  have rx : 0 ≤ x ∧ x ≤ 2 := by rcases hx with rfl | rfl <;> assumption
  have h := hands hg.endsIn (fun w => @decide (∃ j, j < es.length ∧ chB es c e b j = true ∧ on (es.getD j (0, 0)) w = true) (Classical.propDecidable _)) (fun j => chB es c e b j && c.getD j 0 == x)
  have e1 : ∀ w, w < n.toNat → (if @decide (∃ j, j < es.length ∧ chB es c e b j = true ∧ on (es.getD j (0, 0)) w = true) (Classical.propDecidable _) then degB es (fun j => chB es c e b j && c.getD j 0 == x) w else 0) = if @decide (∃ j, j < es.length ∧ chB es c e b j = true ∧ on (es.getD j (0, 0)) w = true) (Classical.propDecidable _) then 1 else 0 := by
   intro w hw
   by_cases hA : ∃ j, j < es.length ∧ chB es c e b j = true ∧ on (es.getD j (0, 0)) w = true
   ·rw [if_pos (by simpa using hA), if_pos (by simpa using hA)]
    obtain ⟨j, j1, j2, j3⟩ := hA
    rw [← col_deg hg hc (w := w) (by omega) rx]
    refine Nat.le_antisymm (deg_le fun q _ hq => ?_) ?_
    ·rw [Bool.and_eq_true] at hq; exact hq.2
    ·rw [degB_cn, degB_cn]
     refine cn_le fun q hq h => ?_
     rw [Bool.and_eq_true] at h ⊢
     refine ⟨h.1, ?_⟩
     rw [Bool.and_eq_true]
     refine ⟨?_, h.2⟩
     have hqx := beq_iff_eq.1 h.2
     refine rchB_iff.2 (.step (rchB_iff.1 j2) ⟨hq, ?_, w, j3, h.1⟩)
     unfold chP
     rcases hx with rfl | rfl
     ·rw [hqx, ← ha]; simp
     ·rw [hqx]; simp
   ·rw [if_neg (by simpa using hA), if_neg (by simpa using hA)]
  have e2 : ∀ j, j < es.length → (if (chB es c e b j && c.getD j 0 == x) = true then (if @decide (∃ q, q < es.length ∧ chB es c e b q = true ∧ on (es.getD q (0, 0)) ((es.getD j (0, 0)).1.toNat : Nat) = true) (Classical.propDecidable _) then 1 else 0) + (if @decide (∃ q, q < es.length ∧ chB es c e b q = true ∧ on (es.getD q (0, 0)) ((es.getD j (0, 0)).2.toNat : Nat) = true) (Classical.propDecidable _) then 1 else 0) else 0) = 2 * (if (chB es c e b j && c.getD j 0 == x) = true then 1 else 0) := by
   intro j hj
   obtain ⟨p, q, hpq, _⟩ := hg.endsIn.get j hj
   by_cases hjc : (chB es c e b j && c.getD j 0 == x) = true
   ·rw [if_pos hjc, if_pos hjc]
    have h1 := (Bool.and_eq_true _ _ ▸ hjc).1
    have o1 : ∃ q, q < es.length ∧ chB es c e b q = true ∧ on (es.getD q (0, 0)) ((es.getD j (0, 0)).1.toNat : Nat) = true := ⟨j, hj, h1, by rw [hpq]; simp [on]⟩
    have o2 : ∃ q, q < es.length ∧ chB es c e b q = true ∧ on (es.getD q (0, 0)) ((es.getD j (0, 0)).2.toNat : Nat) = true := ⟨j, hj, h1, by rw [hpq]; simp [on]⟩
    rw [if_pos (by simpa using o1), if_pos (by simpa using o2)]
   ·rw [if_neg hjc, if_neg hjc]
  have h1 := (sm_congr e1).symm.trans (h.trans (sm_congr e2))
  rw [sm_mul, sm_if, sm_if] at h1
  exact h1.symm
 have ha2 := half a (.inl rfl)
 have hb2 := half b (.inr rfl)
 have hsum : cn (chB es c e b) es.length = cn (fun j => chB es c e b j && c.getD j 0 == a) es.length + cn (fun j => chB es c e b j && c.getD j 0 == b) es.length := by
  rw [← cn_add fun j _ => ?_]
  ·refine cn_congr fun j hj => ?_
   rw [Bool.eq_iff_iff, Bool.or_eq_true, Bool.and_eq_true, Bool.and_eq_true, beq_iff_eq, beq_iff_eq]
   constructor
   ·intro h
    rcases (chB_in he h).2 with q | q
    ·exact .inl ⟨h, by rw [q, ha]⟩
    ·exact .inr ⟨h, q⟩
   ·rintro (h | h) <;> exact h.1
  ·rw [Bool.and_eq_true, Bool.and_eq_true, beq_iff_eq, beq_iff_eq]
   rintro ⟨h1, h2⟩
   exact hne (by rw [← h2.2, h1.2, ha])
 omega
theorem ext_getD {l m : List Int} (h : l.length = m.length) (hg : ∀ i, i < l.length → l.getD i 0 = m.getD i 0) : l = m := by
 refine List.ext_getElem h fun i h1 h2 => ?_
 have := hg i h1
 rwa [getD_of h1, getD_of h2] at this
theorem ex_back (hc : IsC es c) {e : Nat} {b : Int} (he : e < es.length) (hb : 0 ≤ b ∧ b ≤ 2) (hne : b ≠ c.getD e 0) : exTo es (exTo es c e b es.length) e (c.getD e 0) es.length = c := by
 have h0 : chP c e b e = true := by unfold chP; simp
 have hee : rchB (eAdj es (chP c e b)) e e = true := rchB_iff.2 .refl
 have hce : (exTo es c e b es.length).getD e 0 = b := by rw [exTo_get he]; unfold exAt; rw [if_pos hee]; omega
 have hP : ∀ j, j < es.length → chP (exTo es c e b es.length) e (c.getD e 0) j = chP c e b j := fun j hj => by
  unfold chP
  rw [hce, exTo_get hj]
  unfold exAt
  split
  ·rename_i hr
   have := (chB_in (es := es) (c := c) he hr).2
   rw [Bool.eq_iff_iff]
   simp only [Bool.or_eq_true, beq_iff_eq]
   omega
  ·rw [Bool.eq_iff_iff]
   simp only [Bool.or_eq_true, beq_iff_eq]
   omega
 have hA : ∀ i j, eAdj es (chP (exTo es c e b es.length) e (c.getD e 0)) i j ↔ eAdj es (chP c e b) i j := fun i j => by
  unfold eAdj
  constructor
  ·rintro ⟨h1, h2, h3⟩; exact ⟨h1, by rw [← hP j h1]; exact h2, h3⟩
  ·rintro ⟨h1, h2, h3⟩; exact ⟨h1, by rw [hP j h1]; exact h2, h3⟩
 have hR : ∀ j, rchB (eAdj es (chP (exTo es c e b es.length) e (c.getD e 0))) e j = rchB (eAdj es (chP c e b)) e j := fun j => by
  rw [Bool.eq_iff_iff, rchB_iff, rchB_iff]
  exact ⟨fun h => h.mono fun x y => (hA x y).1, fun h => h.mono fun x y => (hA x y).2⟩
 refine ext_getD (by rw [exTo_length, hc.len]) fun i hi => ?_
 rw [exTo_length] at hi
 rw [exTo_get hi]
 unfold exAt
 rw [hR, hce, exTo_get hi]
 unfold exAt
 split
 ·omega
 ·rfl
end Go.Proofs
namespace Go.Proofs
open Go.Abs

section
variable {es : List (Int × Int)} {p : Nat → Bool} {n : Int} {e now v q : Nat}
end
end Go.Proofs
namespace Go.Proofs
open Go.Abs

section
variable {es : List (Int × Int)} {p : Nat → Bool} {n : Int} {l : List Int}
end
theorem nodup_subG {α : Type} [BEq α] [LawfulBEq α] {l m : List α} (h : l.Nodup) (hs : ∀ x ∈ l, x ∈ m) : l.length ≤ m.length := by
 induction l generalizing m with
 | nil => simp
 | cons a l ih =>
  rw [List.nodup_cons] at h
  have ha := hs a (by simp)
  have := ih (m := m.erase a) h.2 fun x hx => by
   rw [List.mem_erase_of_ne (by rintro rfl; exact h.1 hx)]; exact hs x (by simp [hx])
  rw [List.length_erase_of_mem ha] at this
  have := List.length_pos_of_mem ha
  simp; omega
end Go.Proofs
namespace Go.Proofs
open Go.Abs

variable {l m c : List Int} {es fs : List (Int × Int)} {ls L : List (List Int)} {n : Int}

def ClosedAt (es : List (Int × Int)) (L : List (List Int)) (l : List Int) : Prop := ∀ e b : Nat, e < es.length → b < 3 → (b : Int) ≠ l.getD e 0 → exTo es l e b es.length ∈ L
theorem crStep_nodup {i e b : Nat} (h : L.Nodup) : (crStep es i e b L).Nodup := by
 unfold crStep
 split
 ·exact h
 ·split
  ·exact h
  ·rename_i hn
   rw [List.nodup_append]
   exact ⟨h, by simp, fun x hx y hy => by rw [List.mem_singleton] at hy; subst hy; exact fun e => hn (e ▸ hx)⟩
theorem crB_nodup {i e : Nat} (h : L.Nodup) : ∀ t, (crB es i e L t).Nodup
 | 0 => h
 | t + 1 => crStep_nodup (crB_nodup h t)
theorem crV_nodup {i : Nat} (h : L.Nodup) : ∀ e, (crV es i L e).Nodup
 | 0 => h
 | e + 1 => crB_nodup (crV_nodup h e) 3
theorem crStep_has {i e b : Nat} (hne : (b : Int) ≠ (L.getD i []).getD e 0) : exTo es (L.getD i []) e b es.length ∈ crStep es i e b L := by
 unfold crStep
 rw [if_neg hne]
 split
 ·assumption
 ·simp
theorem crB_has {i e : Nat} (hi : i < L.length) : ∀ t b : Nat, b < t → (b : Int) ≠ (L.getD i []).getD e 0 → exTo es (L.getD i []) e b es.length ∈ crB es i e L t
 | t + 1, b, hb, hne => by
  obtain ⟨M, hM⟩ := crB_pre (es := es) i e L t
  have hg : (crB es i e L t).getD i [] = L.getD i [] := by rw [hM]; exact pre_get hi
  by_cases e' : b = t
  ·subst e'
   have := crStep_has (es := es) (L := crB es i e L b) (i := i) (e := e) (b := b) (by rw [hg]; exact hne)
   rw [hg] at this; exact this
  ·have h1 := crB_has (e := e) hi t b (by omega) hne
   obtain ⟨M', hM'⟩ := crStep_pre (es := es) i e t (crB es i e L t)
   rw [crB, hM']
   exact List.mem_append.2 (.inl h1)
theorem crV_has {i : Nat} (hi : i < L.length) : ∀ k e b : Nat, e < k → b < 3 → (b : Int) ≠ (L.getD i []).getD e 0 → exTo es (L.getD i []) e b es.length ∈ crV es i L k
 | k + 1, e, b, he, hb, hne => by
  obtain ⟨M, hM⟩ := crV_pre (es := es) i k L
  have hg : (crV es i L k).getD i [] = L.getD i [] := by rw [hM]; exact pre_get hi
  by_cases e' : e = k
  ·subst e'
   have := crB_has (es := es) (L := crV es i L e) (i := i) (e := e) (by rw [hM]; simp; omega) 3 b hb (by rw [hg]; exact hne)
   rw [hg] at this; exact this
  ·have h1 := crV_has hi k e b (by omega) hb hne
   obtain ⟨M', hM'⟩ := crB_pre (es := es) i k (crV es i L k) 3
   rw [crV, hM']
   exact List.mem_append.2 (.inl h1)
theorem crRun_closed : ∀ (f i : Nat) (L : List (List Int)) (k : Nat), L.Nodup → AllCol es L → (∀ i', i' < i → i' < L.length → ClosedAt es L (L.getD i' [])) → crRun es f i L = some k → ∃ M, (L ++ M).length = k ∧ (L ++ M).Nodup ∧ AllCol es (L ++ M) ∧ ∀ l ∈ L ++ M, ClosedAt es (L ++ M) l
 | 0, i, L, k, _, _, _, h => by cases h
 | f + 1, i, L, k, hn, hall, hcl, h => by
  rw [crRun] at h
  by_cases hi : i < L.length
  ·rw [if_pos hi] at h
   by_cases hx : (crV es i L es.length).length > 300
   ·rw [if_pos hx] at h; cases h
   ·rw [if_neg hx] at h
    obtain ⟨M, hM⟩ := crV_pre (es := es) i es.length L
    have hn2 := crV_nodup (es := es) (i := i) hn es.length
    have hall2 := crV_all hi hall es.length (Nat.le_refl _)
    have hcl2 : ∀ i', i' < i + 1 → i' < (crV es i L es.length).length → ClosedAt es (crV es i L es.length) ((crV es i L es.length).getD i' []) := by
     intro i' h1 h2 e b he hb hne
     have hiL : i' < L.length := by omega
     have hg : (crV es i L es.length).getD i' [] = L.getD i' [] := by rw [hM]; exact pre_get hiL
     rw [hg] at hne ⊢
     by_cases e' : i' = i
     ·subst e'
      exact crV_has hi es.length e b he hb hne
     ·have := hcl i' (by omega) hiL e b he hb hne
      rw [hM]
      exact List.mem_append.2 (.inl this)
    obtain ⟨M2, g1, g2, g3, g4⟩ := crRun_closed f (i + 1) _ k hn2 hall2 hcl2 h
    rw [hM, List.append_assoc] at g1 g2 g3 g4
    exact ⟨M ++ M2, g1, g2, g3, g4⟩
  ·rw [if_neg hi] at h
   have h := Option.some.inj h
   refine ⟨[], by simpa using h, by simpa using hn, by simpa using hall, fun l hl => ?_⟩
   rw [List.append_nil] at hl ⊢
   obtain ⟨j, hj, rfl⟩ := List.getElem_of_mem hl
   have := hcl j (by omega) hj
   rwa [getD_of hj] at this
def swC (a b : Int) (l : List Int) : List Int := l.map fun x => if x = a then b else if x = b then a else x
theorem swC_getD (a b : Int) (l : List Int) {i : Nat} (h : i < l.length) : (swC a b l).getD i 0 = if l.getD i 0 = a then b else if l.getD i 0 = b then a else l.getD i 0 := by
 unfold swC
 rw [getD_of (by simpa using h), getD_of h, List.getElem_map]
theorem swC_swC {a b : Int} (l : List Int) : swC a b (swC a b l) = l := by
 unfold swC
 rw [List.map_map]
 conv => rhs; rw [← List.map_id l]
 refine List.map_congr_left fun x _ => ?_
 simp only [Function.comp, id]
 by_cases h1 : x = a
 ·by_cases h2 : a = b
  ·subst h1; subst h2; simp
  ·subst h1; rw [if_pos rfl]; rw [if_neg (fun e => h2 e.symm), if_pos rfl]
 ·rw [if_neg h1]
  by_cases h2 : x = b
  ·rw [if_pos h2, if_pos rfl, h2]
  ·rw [if_neg h2, if_neg h1, if_neg h2]
noncomputable def metU (es : List (Int × Int)) (p : Nat → Bool) (k j : Nat) : Bool := @decide (∃ i, i < k ∧ i < es.length ∧ p i = true ∧ Rch (eAdj es p) i j) (Classical.propDecidable _)
theorem metU_iff {p : Nat → Bool} {k j : Nat} : metU es p k j = true ↔ ∃ i, i < k ∧ i < es.length ∧ p i = true ∧ Rch (eAdj es p) i j := by unfold metU; simp
noncomputable def flipU (es : List (Int × Int)) (l : List Int) (a b : Int) (k : Nat) : List Int := (List.range es.length).map fun j => if metU es (fun j => l.getD j 0 == a || l.getD j 0 == b) k j then a + b - l.getD j 0 else l.getD j 0
theorem flipU_len (l : List Int) (a b : Int) (k : Nat) : (flipU es l a b k).length = es.length := by simp [flipU]
theorem flipU_get (l : List Int) (a b : Int) (k : Nat) {j : Nat} (h : j < es.length) : (flipU es l a b k).getD j 0 = if metU es (fun j => l.getD j 0 == a || l.getD j 0 == b) k j then a + b - l.getD j 0 else l.getD j 0 := by
 unfold flipU; rw [getD_of (by simpa using h)]; simp
theorem swC_mem (hL : ∀ l ∈ L, ClosedAt es L l) (hall : AllCol es L) {a b : Int} (ha : 0 ≤ a ∧ a ≤ 2) (hb : 0 ≤ b ∧ b ≤ 2) (hl : l ∈ L) : swC a b l ∈ L := by
 have hc := hall l hl
 obtain ⟨p, hp⟩ : ∃ p : Nat → Bool, p = fun j => l.getD j 0 == a || l.getD j 0 == b := ⟨_, rfl⟩
 have pin : ∀ {j}, p j = true ↔ l.getD j 0 = a ∨ l.getD j 0 = b := fun {j} => by rw [hp]; simp
 have metin : ∀ {k j}, metU es p k j = true → j < es.length ∧ p j = true := fun {k j} h => by
  obtain ⟨i, h1, h2, h3, h4⟩ := metU_iff.1 h
  exact eRch_in h4 ⟨h2, h3⟩
 have fl : ∀ k j, j < es.length → (flipU es l a b k).getD j 0 = if metU es p k j then a + b - l.getD j 0 else l.getD j 0 := fun k j hj => by rw [flipU_get l a b k hj, hp]
 have step : ∀ k, k ≤ es.length → flipU es l a b k ∈ L := by
  intro k
  induction k with
  | zero =>
   intro _
   have : flipU es l a b 0 = l := by
    refine ext_getD (by rw [flipU_len, hc.len]) fun j hj => ?_
    rw [flipU_len] at hj
    rw [fl 0 j hj, if_neg]
    intro h
    obtain ⟨i, h1, _⟩ := metU_iff.1 h
    omega
   rw [this]; exact hl
  | succ k ih =>
   intro hk
   have hm := ih (by omega)
   by_cases hpk : p k = true ∧ metU es p k k = false
   ·obtain ⟨hpk, hmk⟩ := hpk
    have hck := hall _ hm
    have hfk : (flipU es l a b k).getD k 0 = l.getD k 0 := by rw [fl k k (by omega), hmk]; rfl
    by_cases hab : a = b
    ·-- nothing to exchange
     have : flipU es l a b (k + 1) = flipU es l a b k := by
      refine ext_getD (by rw [flipU_len, flipU_len]) fun j hj => ?_
      rw [flipU_len] at hj
      rw [fl _ j hj, fl _ j hj]
      have same : ∀ q, metU es p q j = true → a + b - l.getD j 0 = l.getD j 0 := fun q h => by
       rcases pin.1 (metin h).2 with e | e <;> omega
      split <;> split <;> first | rfl | (rename_i h1 h2; first | exact same _ h1 | exact (same _ h1).symm | exact (same _ h2).symm)
     rw [this]; exact hm
    obtain ⟨b', hb'⟩ : ∃ b' : Nat, (b' : Int) = a + b - l.getD k 0 := ⟨(a + b - l.getD k 0).toNat, by rcases pin.1 hpk with e | e <;> omega⟩
    have hb3 : b' < 3 := by rcases pin.1 hpk with e | e <;> omega
    have hne : (b' : Int) ≠ (flipU es l a b k).getD k 0 := by rw [hfk]; rcases pin.1 hpk with e | e <;> omega
    have hex := hL _ hm k b' (by omega) hb3 hne
    have hP : ∀ j, j < es.length → chP (flipU es l a b k) k (b' : Int) j = p j := fun j hj => by
     unfold chP
     rw [hfk, fl k j hj, Bool.eq_iff_iff, pin]
     simp only [Bool.or_eq_true, beq_iff_eq]
     split
     ·rename_i h
      have := pin.1 (metin h).2
      rcases pin.1 hpk with e | e <;> omega
     ·rcases pin.1 hpk with e | e <;> omega
    have hA : ∀ i j, eAdj es (chP (flipU es l a b k) k (b' : Int)) i j ↔ eAdj es p i j := fun i j => by
     unfold eAdj
     constructor
     ·rintro ⟨h1, h2, h3⟩; exact ⟨h1, by rw [← hP j h1]; exact h2, h3⟩
     ·rintro ⟨h1, h2, h3⟩; exact ⟨h1, by rw [hP j h1]; exact h2, h3⟩
    have hR : ∀ j, rchB (eAdj es (chP (flipU es l a b k) k (b' : Int))) k j = true ↔ Rch (eAdj es p) k j := fun j => by
     rw [rchB_iff]
     exact ⟨fun h => h.mono fun x y => (hA x y).1, fun h => h.mono fun x y => (hA x y).2⟩
    have : flipU es l a b (k + 1) = exTo es (flipU es l a b k) k (b' : Int) es.length := by
     refine ext_getD (by rw [flipU_len, exTo_length]) fun j hj => ?_
     rw [flipU_len] at hj
     rw [fl _ j hj, exTo_get hj]
     unfold exAt
     rw [hfk, fl k j hj]
     by_cases hr : Rch (eAdj es p) k j
     ·rw [if_pos ((hR j).2 hr), if_pos (metU_iff.2 ⟨k, by omega, by omega, hpk, hr⟩)]
      have hn : metU es p k j = false := by
       cases hx : metU es p k j with
       | false => rfl
       | true =>
        obtain ⟨i, h1, h2, h3, h4⟩ := metU_iff.1 hx
        have : metU es p k k = true := metU_iff.2 ⟨i, h1, h2, h3, h4.trans (eRch_symm hr ⟨by omega, hpk⟩)⟩
        rw [hmk] at this; cases this
      rw [hn]
      simp only [Bool.false_eq_true, if_false]
      omega
     ·rw [if_neg fun h => hr ((hR j).1 h)]
      have : metU es p (k + 1) j = metU es p k j := by
       rw [Bool.eq_iff_iff, metU_iff, metU_iff]
       constructor
       ·rintro ⟨i, h1, h2, h3, h4⟩
        by_cases e : i = k
        ·subst e; exact absurd h4 hr
        ·exact ⟨i, by omega, h2, h3, h4⟩
       ·rintro ⟨i, h1, h2⟩; exact ⟨i, by omega, h2⟩
      rw [this]
    rw [this]; exact hex
   ·have : flipU es l a b (k + 1) = flipU es l a b k := by
     refine ext_getD (by rw [flipU_len, flipU_len]) fun j hj => ?_
     rw [flipU_len] at hj
     rw [fl _ j hj, fl _ j hj]
     have : metU es p (k + 1) j = metU es p k j := by
      rw [Bool.eq_iff_iff, metU_iff, metU_iff]
      constructor
      ·rintro ⟨i, h1, h2, h3, h4⟩
       by_cases e : i = k
       ·subst e
        have hmk : metU es p i i = true := by
         cases hx : metU es p i i with
         | true => rfl
         | false => exact absurd ⟨h3, hx⟩ hpk
        obtain ⟨i', g1, g2, g3, g4⟩ := metU_iff.1 hmk
        exact ⟨i', g1, g2, g3, g4.trans h4⟩
       ·exact ⟨i, by omega, h2, h3, h4⟩
      ·rintro ⟨i, h1, h2⟩; exact ⟨i, by omega, h2⟩
     rw [this]
    rw [this]; exact hm
 have : swC a b l = flipU es l a b es.length := by
  refine ext_getD (by rw [flipU_len]; unfold swC; rw [List.length_map, hc.len]) fun j hj => ?_
  have hjl : j < l.length := by unfold swC at hj; simpa using hj
  have hje : j < es.length := by rw [← hc.len]; exact hjl
  rw [swC_getD a b l hjl, fl _ j hje]
  by_cases hpj : p j = true
  ·rw [if_pos (metU_iff.2 ⟨j, hje, hje, hpj, .refl⟩)]
   rcases pin.1 hpj with e | e
   ·rw [if_pos e]; omega
   ·by_cases e2 : l.getD j 0 = a
    ·rw [if_pos e2]; omega
    ·rw [if_neg e2, if_pos e]; omega
  ·have h1 : ¬ (l.getD j 0 = a ∨ l.getD j 0 = b) := fun h => hpj (pin.2 h)
   rw [if_neg fun h => h1 (.inl h), if_neg fun h => h1 (.inr h), if_neg fun h => hpj (metin h).2]
 rw [this]; exact step _ (Nat.le_refl _)
def clsN (L : List (List Int)) (e0 e1 : Nat) (x y : Int) : Nat := (L.filter fun l => l.getD e0 0 == x && l.getD e1 0 == y).length
theorem cls_swap (hn : L.Nodup) (hL : ∀ l ∈ L, ClosedAt es L l) (hall : AllCol es L) {a b : Int} (ha : 0 ≤ a ∧ a ≤ 2) (hb : 0 ≤ b ∧ b ≤ 2) {e0 e1 : Nat} (h0 : e0 < es.length) (h1 : e1 < es.length) (x y : Int) :
    clsN L e0 e1 x y ≤ clsN L e0 e1 (if x = a then b else if x = b then a else x) (if y = a then b else if y = b then a else y) := by
  unfold clsN
  have hm : ((L.filter fun l => l.getD e0 0 == x && l.getD e1 0 == y).map (swC a b)).Nodup := by
    unfold List.Nodup
    rw [List.pairwise_map]
    exact (hn.filter _).imp fun h e => h (by have := congrArg (swC a b) e; rwa [swC_swC, swC_swC] at this)
  rw [← List.length_map (f := swC a b)]
  refine nodup_subG hm fun z hz => ?_
  obtain ⟨l, hl, rfl⟩ := List.mem_map.1 hz
  obtain ⟨g1, g2⟩ := List.mem_filter.1 hl
  rw [Bool.and_eq_true, beq_iff_eq, beq_iff_eq] at g2
  have hlen := (hall l g1).len
  refine List.mem_filter.2 ⟨swC_mem hL hall ha hb g1, ?_⟩
  rw [swC_getD a b l (by omega), swC_getD a b l (by omega), g2.1, g2.2]
  simp
theorem cls_sum {e0 e1 : Nat} : ∀ (L : List (List Int)), (∀ l ∈ L, (0 ≤ l.getD e0 0 ∧ l.getD e0 0 ≤ 2) ∧ (0 ≤ l.getD e1 0 ∧ l.getD e1 0 ≤ 2) ∧ l.getD e0 0 ≠ l.getD e1 0) →
    L.length = clsN L e0 e1 0 1 + clsN L e0 e1 0 2 + clsN L e0 e1 1 0 + clsN L e0 e1 1 2 + clsN L e0 e1 2 0 + clsN L e0 e1 2 1
  | [], _ => rfl
  | l :: L, h => by
    have ih := cls_sum L fun l hl => h l (by simp [hl])
    obtain ⟨r0, r1, hne⟩ := h l (by simp)
    have one : ∀ x y, clsN (l :: L) e0 e1 x y = clsN L e0 e1 x y + if l.getD e0 0 = x ∧ l.getD e1 0 = y then 1 else 0 := fun x y => by
      unfold clsN
      rw [List.filter_cons]
      by_cases hxy : l.getD e0 0 = x ∧ l.getD e1 0 = y
      · rw [if_pos hxy, if_pos (by rw [hxy.1, hxy.2]; simp)]; simp
      · rw [if_neg hxy, if_neg (by rw [Bool.and_eq_true, beq_iff_eq, beq_iff_eq]; exact hxy)]; rfl
    rw [List.length_cons, one, one, one, one, one, one, ih]
    obtain ⟨p, hp⟩ : ∃ p, p = l.getD e0 0 := ⟨_, rfl⟩
    obtain ⟨q, hq⟩ : ∃ q, q = l.getD e1 0 := ⟨_, rfl⟩
    rw [← hp] at r0 hne ⊢
    rw [← hq] at r1 hne ⊢
    have : (p = 0 ∧ q = 1) ∨ (p = 0 ∧ q = 2) ∨ (p = 1 ∧ q = 0) ∨ (p = 1 ∧ q = 2) ∨ (p = 2 ∧ q = 0) ∨ (p = 2 ∧ q = 1) := by omega
    rcases this with ⟨rfl, rfl⟩ | ⟨rfl, rfl⟩ | ⟨rfl, rfl⟩ | ⟨rfl, rfl⟩ | ⟨rfl, rfl⟩ | ⟨rfl, rfl⟩ <;> simp <;> omega
theorem reach_six (hg : IsG n es) (hn : L.Nodup) (hL : ∀ l ∈ L, ClosedAt es L l) (hall : AllCol es L) : L.length % 6 = 0 := by
 have n0 := hg.ed.lo
 have h3 := hg.three (v := 0) (by omega) (by omega)
 obtain ⟨i, j, k, e⟩ := list3 h3
 have ha : Asc (atL es 0) := filtB_asc _ _
 rw [e] at ha
 unfold Asc at ha
 simp only [List.pairwise_cons, List.mem_cons, List.not_mem_nil, or_false, forall_eq_or_imp, forall_eq] at ha
 obtain ⟨e0, hi, hi2, hi3⟩ := mem_atL.1 (show i ∈ atL es 0 by rw [e]; simp)
 obtain ⟨e1, hj, hj2, hj3⟩ := mem_atL.1 (show j ∈ atL es 0 by rw [e]; simp)
 have sum := cls_sum (e0 := e0) (e1 := e1) L fun l hl => by
  have hc := hall l hl
  exact ⟨hc.get e0, hc.get e1, hc.col e1 hj2 e0 (by omega) ⟨0, hi3, hj3⟩⟩
 have sw : ∀ (a b : Int), 0 ≤ a ∧ a ≤ 2 → 0 ≤ b ∧ b ≤ 2 → ∀ x y, _ := fun a b ha hb x y => cls_swap hn hL hall ha hb hi2 hj2 (e0 := e0) (e1 := e1) x y
 have s1 := sw 0 1 (by decide) (by decide) 0 1; have s1' := sw 0 1 (by decide) (by decide) 1 0
 have s2 := sw 0 2 (by decide) (by decide) 0 1; have s2' := sw 0 2 (by decide) (by decide) 2 1
 have s3 := sw 1 2 (by decide) (by decide) 0 1; have s3' := sw 1 2 (by decide) (by decide) 0 2
 have s4 := sw 1 2 (by decide) (by decide) 1 0; have s4' := sw 1 2 (by decide) (by decide) 2 0
 have s5 := sw 0 2 (by decide) (by decide) 1 0; have s5' := sw 0 2 (by decide) (by decide) 1 2
 simp only [show (0 : Int) ≠ 1 by decide, show (1 : Int) ≠ 0 by decide, show (0 : Int) ≠ 2 by decide, show (2 : Int) ≠ 0 by decide, show (1 : Int) ≠ 2 by decide, show (2 : Int) ≠ 1 by decide, if_true, if_false] at s1 s1' s2 s2' s3 s3' s4 s4' s5 s5'
 omega
theorem crOut_list (hg : IsG n es) (hc : IsC es c) {k : Nat} (h : crOut es c = some k) : k % 6 = 0 ∧ ∃ L : List (List Int), L.length = k ∧ L.Nodup ∧ AllCol es L := by
 have hall : AllCol es [c] := fun l hl => by rw [List.mem_singleton.1 hl]; exact hc
 obtain ⟨M, h1, h2, h3, h4⟩ := crRun_closed 302 0 [c] k (by simp) hall (fun i' h => absurd h (by omega)) h
 exact ⟨by rw [← h1]; exact reach_six hg h2 h4 h3, _, h1, h2, h3⟩
end Go.Proofs
namespace Go.Proofs
open Go.Abs

variable {H : AHeap} {v u f : Value} {l m c : List Int} {es fs : List (Int × Int)} {K : Value → AHeap → Prop}

end Go.Proofs
namespace Go.Proofs
open Go.Abs

variable {H : AHeap} {v u f : Value} {l m c : List Int} {es fs : List (Int × Int)} {K : Value → AHeap → Prop}

end Go.Proofs
namespace Go.Proofs
open Go.Abs

variable {es fs gs : List (Int × Int)} {l D : List Int} {n : Int} {p : Nat → Bool}

noncomputable def leadL (fs : List (Int × Int)) (n : Nat) : List Nat := (List.range n).filter (vLeadB fs)
theorem leadL_length (fs : List (Int × Int)) (n : Nat) : (leadL fs n).length = (sidesL fs n).length := by
 unfold leadL sidesL sidesTo; rw [List.length_map]
theorem leadL_get {n j : Nat} (hj : j < (leadL fs n).length) : (sidesL fs n).getD j [] = sideL fs n (leadL fs n)[j] ∧ (leadL fs n)[j] < n ∧ vLeadB fs (leadL fs n)[j] = true := by
 have hm := List.getElem_mem hj
 have hm2 : (leadL fs n)[j] ∈ (List.range n).filter (vLeadB fs) := hm
 rw [List.mem_filter, List.mem_range] at hm2
 refine ⟨?_, hm2.1, hm2.2⟩
 unfold sidesL sidesTo
 have hj' : j < (((List.range n).filter (vLeadB fs)).map (sideL fs n)).length := by rw [List.length_map]; exact hj
 rw [List.getD, List.getElem?_eq_getElem hj', Option.getD_some, List.getElem_map]; rfl
end Go.Proofs
namespace Go.Proofs
open Go.Abs

variable {l m c : List Int} {es fs : List (Int × Int)} {ls L : List (List Int)} {n : Int}

theorem ptL_len : ∀ (E c : List Int), (∀ x ∈ E, 0 ≤ x) → (ptL es E c).length ≤ 3 ^ E.length
 | [], c, _ => by simp [ptL]
 | i :: E, c, h => by
  have ih := fun d => ptL_len E d fun x hx => h x (by simp [hx])
  obtain ⟨j, rfl⟩ : ∃ j : Nat, i = j := ⟨i.toNat, by have := h i (by simp); omega⟩
  rw [List.length_cons, Nat.pow_succ]
  by_cases hc : c.getD j 0 = -1
  ·rw [ptL_cons hc]
   have key : ∀ t, (ptTo es E j c t).length ≤ t * 3 ^ E.length := by
    intro t
    induction t with
    | zero => simp [ptTo]
    | succ t iht =>
     rw [ptTo_succ, List.length_append, Nat.add_mul, Nat.one_mul]
     have h1 := ih (c.set j (t : Int))
     have h2 : (if clashB es c j (t : Int) then [] else ptL es E (c.set j (t : Int))).length ≤ 3 ^ E.length := by
      split
      ·exact Nat.zero_le _
      ·exact h1
     exact Nat.add_le_add iht h2
   have := key 3
   rw [Nat.mul_comm]; exact this
  ·rw [ptL_skip hc]
   exact Nat.le_trans (ih c) (Nat.le_mul_of_pos_right _ (by decide))
theorem mem_ptL {c : List Int} (hcl : c.length = es.length) : ∀ (E d : List Int), d.length = es.length → E.Nodup → (∀ i ∈ E, 0 ≤ i ∧ i < es.length ∧ d.getD i.toNat 0 = -1 ∧ 0 ≤ c.getD i.toNat 0 ∧ c.getD i.toNat 0 ≤ 2) → (∀ j : Nat, j < es.length → (j : Int) ∉ E → d.getD j 0 = c.getD j 0) →
    (∀ i j : Nat, i < es.length → j < es.length → i ≠ j → share (es.getD i (0, 0)) (es.getD j (0, 0)) → 0 ≤ c.getD i 0 → c.getD i 0 ≠ c.getD j 0) → c ∈ ptL es E d
  | [], d, hd, _, _, ho, _ => by
    rw [ptL, List.mem_singleton]
    exact List.ext_getElem (by omega) fun i h1 h2 => by
      have := ho i (by omega) (by simp)
      rw [getD_of h2, getD_of h1] at this
      exact this.symm
  | i :: E, d, hd, hn, hE, ho, hs => by
    obtain ⟨h1, h2, h3, h4, h5⟩ := hE i (by simp)
    obtain ⟨j, rfl⟩ : ∃ j : Nat, i = j := ⟨i.toNat, by omega⟩
    rw [Int.toNat_natCast] at h3 h4 h5
    rw [List.nodup_cons] at hn
    rw [ptL_cons h3]
    obtain ⟨x, hx⟩ : ∃ x : Nat, c.getD j 0 = x := ⟨(c.getD j 0).toNat, by omega⟩
    unfold ptTo
    rw [List.mem_flatMap]
    refine ⟨x, List.mem_range.2 (by omega), ?_⟩
    have hcl' : clashB es d j (x : Int) = false := by
      cases hb : clashB es d j (x : Int) with
      | false => rfl
      | true =>
        obtain ⟨q, q1, q2, q3⟩ := clashB_iff.1 hb
        have hqj : q ≠ j := fun e => by subst e; omega
        have hqE : (q : Int) ∉ ((j : Int) :: E) := fun hm => by
          have := (hE (q : Int) hm).2.2.1
          rw [Int.toNat_natCast] at this; omega
        have hqc := ho q (by omega) hqE
        have := hs j q (by omega) (by omega) (fun e => hqj e.symm) (share_symm q3) h4
        omega
    rw [hcl']
    simp only [Bool.false_eq_true, if_false]
    refine mem_ptL hcl E (d.set j (x : Int)) (by simpa using hd) hn.2 (fun i hi => ?_) (fun q hq hqE => ?_) hs
    · obtain ⟨g1, g2, g3, g4, g5⟩ := hE i (by simp [hi])
      refine ⟨g1, g2, ?_, g4, g5⟩
      have : j ≠ i.toNat := fun e => by
        have : i = (j : Int) := by omega
        subst this; exact hn.1 hi
      rw [getD_set_ne this]; exact g3
    · by_cases e : j = q
      · subst e; rw [getD_set_self (by omega)]; exact hx.symm
      · rw [getD_set_ne e]
        refine ho q hq fun hm => ?_
        rcases List.mem_cons.1 hm with h | h
        · omega
        · exact hqE h
noncomputable def partB (es : List (Int × Int)) (v i : Nat) : Bool := rchB (vAdj es) v (es.getD i (0, 0)).1.toNat
noncomputable def partE (es : List (Int × Int)) (v : Nat) : List Int := filtB (partB es v) es.length
noncomputable def partL (es : List (Int × Int)) (n : Nat) : List (List Int) := (leadL es n).map (partE es)
noncomputable def blank (es : List (Int × Int)) : List Int := List.replicate es.length (-1)
noncomputable def partN (es : List (Int × Int)) (E : List Int) : Nat := (ptL es E (blank es)).length
def mulN : List Nat → Nat
 | [] => 1
 | x :: l => x * mulN l
theorem mulN_snoc (x : Nat) : ∀ l, mulN (l ++ [x]) = mulN l * x
 | [] => by simp [mulN]
 | y :: l => by rw [List.cons_append, mulN, mulN, mulN_snoc x l, Nat.mul_assoc]
noncomputable def colTo (es : List (Int × Int)) (n k : Nat) : Nat := mulN (((partL es n).take k).map (partN es))
noncomputable def colN (es : List (Int × Int)) (n : Nat) : Nat := mulN ((partL es n).map (partN es))
theorem colTo_succ {n k : Nat} (h : k < (partL es n).length) : colTo es n (k + 1) = colTo es n k * partN es ((partL es n).getD k []) := by
 unfold colTo
 rw [List.take_succ_eq_append_getElem h, List.map_append, ← getD_of (d := []) h]
 exact mulN_snoc _ _
theorem colTo_all (n : Nat) : colTo es n (partL es n).length = colN es n := by
 unfold colTo colN; rw [List.take_length]
theorem partL_length (n : Nat) : (partL es n).length = (sidesL es n).length := by
 unfold partL; rw [List.length_map, leadL_length]
theorem partL_get {n k : Nat} (h : k < (leadL es n).length) : (partL es n).getD k [] = partE es (leadL es n)[k] := by
 unfold partL
 rw [getD_of (by rw [List.length_map]; exact h), List.getElem_map]
theorem partE_nodup (v : Nat) : (partE es v).Nodup := filtB_nodup _ _
theorem partE_rng {v : Nat} {x : Int} (h : x ∈ partE es v) : 0 ≤ x ∧ x < es.length := by
 obtain ⟨j, rfl, hj, _⟩ := mem_filtB.1 h; omega
theorem mulN_pow {b : Nat} (hb : 0 < b) {f : List Int → Nat} : ∀ (l : List (List Int)), (∀ E ∈ l, f E ≤ b ^ E.length) → mulN (l.map f) ≤ b ^ (l.map List.length).sum
 | [], _ => by simp [mulN]
 | E :: l, h => by
  rw [List.map_cons, mulN, List.map_cons, List.sum_cons, Nat.pow_add]
  exact Nat.mul_le_mul (h E (by simp)) (mulN_pow hb l fun x hx => h x (by simp [hx]))
theorem part_tot (hg : IsG n es) : ((partL es n.toNat).map List.length).sum = es.length := by
 have hto : ∀ k, (((List.range k).filter (vLeadB es)).map fun v => (partE es v).length).sum = sm (fun v => if vLeadB es v then (partE es v).length else 0) k := by
  intro k
  induction k with
  | zero => rfl
  | succ k ih =>
   rw [List.range_succ, List.filter_append, List.map_append, List.sum_append, ih, sm]
   cases hl : vLeadB es k <;> simp [hl]
 have e0 : ((partL es n.toNat).map List.length).sum = sm (fun v => if vLeadB es v then (partE es v).length else 0) n.toNat := by
  rw [← hto]
  unfold partL leadL
  rw [List.map_map]; rfl
 rw [e0]
 have e1 : ∀ v, v < n.toNat → (if vLeadB es v then (partE es v).length else 0) = sm (fun w => if vLeadB es v && partB es v w then 1 else 0) es.length := fun v _ => by
  cases hl : vLeadB es v with
  | false => simp [sm_zero]
  | true =>
   simp only [if_true, Bool.true_and]
   rw [sm_if]
   unfold partE
   exact cn_filt _ _
 rw [sm_congr e1, sm_swap]
 have e2 : ∀ w, w < es.length → sm (fun v => if vLeadB es v && partB es v w then 1 else 0) n.toNat = 1 := fun w hw => by
  obtain ⟨p, q, hpq, _, hp, hq⟩ := hg.endsIn.get w hw
  obtain ⟨a, a1, a2, a3⟩ := lead_exists (fs := es) p
  refine Eq.trans (sm_congr fun v _ => ?_) (sm_one (a := a) (c := 1) (k := n.toNat) (by omega))
  unfold partB
  rw [hpq, Int.toNat_natCast]
  by_cases hv : v = a
  ·subst hv; rw [a2, rchB_iff.2 a3]; simp
  ·rw [if_neg hv, if_neg]
   rw [Bool.and_eq_true, rchB_iff]
   rintro ⟨h1, h2⟩
   exact hv (lead_eq h1 a2 (h2.trans (a3.symm vAdj_symm)))
 rw [sm_congr e2]
 have e3 : ∀ k, sm (fun _ => 1) k = k := fun k => by
  induction k with
  | zero => rfl
  | succ k ih => rw [sm, ih]
 exact e3 _
theorem sum_take (l : List Nat) (k : Nat) : (l.take k).sum ≤ l.sum := by
 conv => rhs; rw [← List.take_append_drop k l]
 rw [List.sum_append]; omega
theorem colTo_le (hg : IsG n es) (k : Nat) : colTo es n.toNat k ≤ 3 ^ 30 := by
 have h30 : es.length ≤ 30 := by have := hg.ed.len; have := hg.ed.hi; omega
 have h1 := mulN_pow (b := 3) (by decide) (f := partN es) ((partL es n.toNat).take k) fun E hE => by
  have hE := List.mem_of_mem_take hE
  unfold partL at hE
  obtain ⟨v, _, rfl⟩ := List.mem_map.1 hE
  exact ptL_len _ _ fun x hx => (partE_rng hx).1
 refine Nat.le_trans h1 (Nat.pow_le_pow_right (by decide) ?_)
 rw [List.map_take]
 exact Nat.le_trans (sum_take _ _) (by rw [part_tot hg]; exact h30)
def restr (E c : List Int) : List Int := (List.range c.length).map fun j : Nat => if (j : Int) ∈ E then c.getD j 0 else -1
theorem restr_get (E c : List Int) {j : Nat} (h : j < c.length) : (restr E c).getD j 0 = if (j : Int) ∈ E then c.getD j 0 else -1 := by
 unfold restr; rw [getD_of (by simpa using h)]; simp
theorem restr_mem (hc : IsC es c) {v : Nat} : restr (partE es v) c ∈ ptL es (partE es v) (blank es) := by
 have hl : (restr (partE es v) c).length = es.length := by unfold restr; rw [List.length_map, List.length_range, hc.len]
 have hcl := hc.len
 refine mem_ptL hl _ _ (by unfold blank; simp) (partE_nodup v) (fun i hi => ?_) (fun j hj hn => ?_) (fun i j hi hj hij hs h0 => ?_)
 ·obtain ⟨r1, r2⟩ := partE_rng hi
  obtain ⟨q, rfl⟩ : ∃ q : Nat, i = q := ⟨i.toNat, by omega⟩
  rw [Int.toNat_natCast, restr_get _ _ (by omega), if_pos hi]
  have := hc.get q
  refine ⟨r1, r2, ?_, this.1, this.2⟩
  unfold blank
  simp [List.getD, show q < es.length by omega]
 ·rw [restr_get _ _ (by omega), if_neg hn]
  unfold blank
  simp [List.getD, hj]
 ·rw [restr_get _ _ (by omega)] at h0 ⊢
  rw [restr_get _ _ (by omega)]
  have hr := hc.get j
  have hi' := hc.get i
  have hne : c.getD i 0 ≠ c.getD j 0 := by
   rcases Nat.lt_or_gt_of_ne hij with h | h
   ·exact hc.col j hj i h hs
   ·exact fun e => hc.col i hi j h (share_symm hs) e.symm
  split at h0
  ·rw [if_pos (by assumption)]
   split
   ·exact hne
   ·omega
  ·omega
def prodL : List (List (List Int)) → List (List (List Int))
 | [] => [[]]
 | S :: Ss => S.flatMap fun s => (prodL Ss).map (s :: ·)
theorem prodL_len : ∀ Ss : List (List (List Int)), (prodL Ss).length = mulN (Ss.map List.length)
 | [] => rfl
 | S :: Ss => by
  rw [prodL, List.map_cons, mulN, ← prodL_len Ss]
  induction S with
  | nil => simp
  | cons s S ih => rw [List.flatMap_cons, List.length_append, ih, List.length_map, List.length_cons, Nat.add_mul, Nat.one_mul, Nat.add_comm]
theorem prodL_mem {g : List Int → List Int} : ∀ (Es : List (List Int)), (∀ E ∈ Es, g E ∈ ptL es E (blank es)) → Es.map g ∈ prodL (Es.map fun E => ptL es E (blank es))
 | [], _ => by simp [prodL]
 | E :: Es, h => by
  rw [List.map_cons, List.map_cons, prodL, List.mem_flatMap]
  exact ⟨g E, h E (by simp), List.mem_map.2 ⟨_, prodL_mem Es fun x hx => h x (by simp [hx]), rfl⟩⟩
theorem col_le (hg : IsG n es) (hn : L.Nodup) (hall : ∀ l ∈ L, IsC es l) : L.length ≤ colN es n.toNat := by
 have hinj : ∀ p ∈ L, ∀ q ∈ L, (partL es n.toNat).map (fun E => restr E p) = (partL es n.toNat).map (fun E => restr E q) → p = q := by
  intro p hp q hq e
  have lp := (hall p hp).len
  have lq := (hall q hq).len
  refine List.ext_getElem (by omega) fun j h1 h2 => ?_
  obtain ⟨a, b, hab, _, ha, _⟩ := hg.endsIn.get j (by omega)
  obtain ⟨v, v1, v2, v3⟩ := lead_exists (fs := es) a
  have hv : v ∈ leadL es n.toNat := by
   unfold leadL; rw [List.mem_filter, List.mem_range]; exact ⟨by omega, v2⟩
  have hm : partE es v ∈ partL es n.toNat := List.mem_map.2 ⟨v, hv, rfl⟩
  have hjm : (j : Int) ∈ partE es v := mem_filtB.2 ⟨j, rfl, by omega, by unfold partB; rw [hab, Int.toNat_natCast]; exact rchB_iff.2 v3⟩
  have := List.map_inj_left.1 e _ hm
  have := congrArg (fun z => z.getD j 0) this
  rwa [restr_get _ _ h1, restr_get _ _ h2, if_pos hjm, if_pos hjm, getD_of h1, getD_of h2] at this
 have hm : (L.map fun p => (partL es n.toNat).map fun E => restr E p).Nodup := by
  unfold List.Nodup at hn ⊢
  rw [List.pairwise_map]
  exact hn.imp_of_mem fun {a b} ha hb h e => h (hinj a ha b hb e)
 have h1 : (L.map fun p => (partL es n.toNat).map fun E => restr E p).length ≤ (prodL ((partL es n.toNat).map fun E => ptL es E (blank es))).length := by
  refine nodup_subG hm fun z hz => ?_
  obtain ⟨p, hp, rfl⟩ := List.mem_map.1 hz
  refine prodL_mem (g := fun E => restr E p) _ fun E hE => ?_
  unfold partL at hE
  obtain ⟨v, _, rfl⟩ := List.mem_map.1 hE
  exact restr_mem (hall p hp)
 rw [List.length_map, prodL_len, List.map_map] at h1
 exact h1
end Go.Proofs
namespace Go.Proofs
open Go.Abs

variable {H : AHeap} {u : Value} {fs : List (Int × Int)} {K : Value → AHeap → Prop}

end Go.Proofs
namespace Go.Proofs
open Go.Abs

variable {H G : AHeap} {v u f : Value} {l m c D : List Int} {es fs : List (Int × Int)} {K : Value → AHeap → Prop} {A A' : Nat → Prop} {B : Nat} {ls ms : List (List Int)}

theorem other_ok {e : Int × Int} {x : Int} (h1 : 0 ≤ e.1 ∧ e.1 ≤ 1000000) (h2 : 0 ≤ e.2 ∧ e.2 ≤ 1000000) (h3 : 0 ≤ x ∧ x ≤ 1000000) (k : ∀ G, H.le G → K (.int .i64 (e.1 + e.2 - x)) G) : AC Tryz.prog T0 193 [ve e, .int .i64 x] H K := by
 apply F193.ac
 unfold F193.B2
 refine newK_f rfl fun H1 l1 n1 o1 => ?_
 unfold F193.B1
 have k := k _ l1
 refine ldI_own o1 rfl (ldI_own o1 rfl ?_)
 rw [wrap_id (x := e.1 + e.2) (by omega) (by omega), wrap_id (by omega) (by omega)]
 exact k

theorem on_oth {e : Int × Int} {x : Int} (h : on e x = true) : e.1 + e.2 - x = e.1 ∨ e.1 + e.2 - x = e.2 := by
 unfold on at h
 simp only [Bool.or_eq_true, beq_iff_eq] at h
 omega
end Go.Proofs
namespace Go.Proofs
open Go.Abs

variable {H G : AHeap} {v u f : Value} {l m c D : List Int} {es fs : List (Int × Int)} {K : Value → AHeap → Prop}

def farB (D : List Int) (w : Nat) : Bool := decide (w < D.length ∧ 0 ≤ D.getD w 0)
theorem farB_lt {w : Nat} (h : farB D w = true) : w < D.length := (of_decide_eq_true h).1
theorem farB_iff {w : Nat} (h : w < D.length) : farB D w = true ↔ 0 ≤ D.getD w 0 := by unfold farB; rw [decide_eq_true_iff]; exact ⟨fun h => h.2, fun h' => ⟨h, h'⟩⟩
theorem farB_set {y : Nat} {d : Int} (h : y < D.length) (hd : 0 ≤ d) : farB (D.set y d) = insB (farB D) y := by
 funext j
 unfold farB insB
 rw [List.length_set]
 by_cases e : y = j
 ·subst e; rw [getD_set_self h]; simp [h, hd]
 ·rw [getD_set_ne e]; simp [e]
structure FarOk (n : Nat) (D : List Int) : Prop where
 len : D.length = n
 rng : ∀ w, w < n → -1 ≤ D.getD w 0 ∧ D.getD w 0 + unseen (farB D) n ≤ 21
theorem FarOk.set {n x y : Nat} (h : FarOk n D) (hx : farB D x = true) (hy : y < n) (hf : farB D y = false) : FarOk n (D.set y (D.getD x 0 + 1)) := by
 have hl := h.len
 have hxl := farB_lt hx
 have hx0 := (farB_iff hxl).1 hx
 have hu := unseen_ins (S := farB D) hy hf
 refine ⟨by simp [hl], fun w hw => ?_⟩
 rw [farB_set (by omega) (by omega)]
 by_cases e : y = w
 ·subst e
  rw [getD_set_self (by omega)]
  have := h.rng x (by omega)
  omega
 ·rw [getD_set_ne e]
  have := h.rng w hw
  omega
structure InV (adj : Nat → Nat → Prop) (a x n M : Nat) (D' : Nat → Prop) (S : Nat → Bool) (R : List Nat) : Prop where
 ex : Ex adj a S (x :: R)
 bnd : ∀ y, S y = true → y < n
 mu : 2 * unseen S n + (R.length + 1) ≤ M
 past : ∀ j, D' j → S j = true
section
variable {adj : Nat → Nat → Prop} {a x n M : Nat} {D' D2 : Nat → Prop} {S : Nat → Bool} {R : List Nat}
theorem InV.more (h : InV adj a x n M D' S R) (hd : ∀ j, D2 j → D' j ∨ S j = true) : InV adj a x n M D2 S R :=
 ⟨h.ex, h.bnd, h.mu, fun j hj => (hd j hj).elim (h.past j) id⟩
theorem InV.push {y : Nat} (h : InV adj a x n M D' S R) (hy : adj x y) (hyn : y < n) (hn : S y = false) (hd : ∀ j, D2 j → D' j ∨ j = y) : InV adj a x n M D2 (insB S y) (R ++ [y]) := by
 have hx : S x = true := h.ex.q x (by simp)
 refine ⟨h.ex.push hx hy, fun z hz => ?_, ?_, fun j hj => ?_⟩
 ·by_cases e' : z = y
  ·rw [e']; exact hyn
  ·exact h.bnd z (insB_ne hz e')
 ·have := unseen_ins (n := n) hyn hn
  have := h.mu
  simp; omega
 ·rcases hd j hj with hj | rfl
  ·exact insB_of (h.past j hj)
  ·exact insB_self _ _
theorem InV.pop (h : InV adj a x n M D' S R) (hd : ∀ j, adj x j → D' j) : Ex adj a S R ∧ 2 * unseen S n + R.length < M :=
 ⟨h.ex.pop fun y hy => h.past y (hd y hy), by have := h.mu; omega⟩
end
def PastV (es : List (Int × Int)) (p : Nat → Bool) (x t : Nat) (j : Nat) : Prop := ∃ t', t' < t ∧ t' < (atL es x).length ∧ p ((atL es x).getD t' 0).toNat = false ∧ (j : Int) = (es.getD ((atL es x).getD t' 0).toNat (0, 0)).1 + (es.getD ((atL es x).getD t' 0).toNat (0, 0)).2 - x
theorem PastV.step {p : Nat → Bool} {x t j i : Nat} (h : PastV es p x (t + 1) j) (hi : (atL es x).getD t 0 = i) : PastV es p x t j ∨ (p i = false ∧ (j : Int) = (es.getD i (0, 0)).1 + (es.getD i (0, 0)).2 - x) := by
 obtain ⟨t', h1, h2, h3, h4⟩ := h
 by_cases e : t' = t
 ·subst e; rw [hi, Int.toNat_natCast] at h3 h4; exact .inr ⟨h3, h4⟩
 ·exact .inl ⟨t', by omega, h2, h3, h4⟩
theorem PastV.fin {p : Nat → Bool} {x j : Nat} (h : vAdj (restL es p) x j) : PastV es p x (atL es x).length j := by
 have : ∃ i, i < es.length ∧ p i = false ∧ on (es.getD i (0, 0)) x = true ∧ (j : Int) = (es.getD i (0, 0)).1 + (es.getD i (0, 0)).2 - x := by
  rcases h with h | h
  ·obtain ⟨i, h1, h2, h3⟩ := mem_restL.1 h
   exact ⟨i, h1, h2, by rw [← h3]; unfold on; simp, by rw [← h3]; simp only; omega⟩
  ·obtain ⟨i, h1, h2, h3⟩ := mem_restL.1 h
   exact ⟨i, h1, h2, by rw [← h3]; unfold on; simp, by rw [← h3]; simp only; omega⟩
 obtain ⟨i, h1, h2, h3, h4⟩ := this
 have hm : (i : Int) ∈ atL es x := mem_atL.2 ⟨i, rfl, h1, h3⟩
 obtain ⟨t, ht, hte⟩ := List.getElem_of_mem hm
 have e : (atL es x).getD t 0 = i := by rw [getD_of ht, hte]
 exact ⟨t, ht, ht, by rw [e]; exact h2, by rw [e]; exact h4⟩
theorem adj_of {p : Nat → Bool} {x y i : Nat} (h1 : i < es.length) (h2 : p i = false) (h3 : on (es.getD i (0, 0)) x = true) (h4 : (y : Int) = (es.getD i (0, 0)).1 + (es.getD i (0, 0)).2 - x) : vAdj (restL es p) x y := by
 unfold on at h3
 simp only [Bool.or_eq_true, beq_iff_eq] at h3
 rcases h3 with h | h
 ·refine .inl (mem_restL.2 ⟨i, h1, h2, ?_⟩)
  rw [← h, show (y : Int) = (es.getD i (0, 0)).2 by omega]
 ·refine .inr (mem_restL.2 ⟨i, h1, h2, ?_⟩)
  rw [← h, show (y : Int) = (es.getD i (0, 0)).1 by omega]

def FarQ (n m0 b0 : Nat) (X : (Nat → Bool) → List Nat → Prop) (x7 q : Value) (G : AHeap) : Prop := x7 = .slice (some ⟨b0, 0, none⟩) n (n + 1) ∧ ∃ (D : List Int) (Q : List Nat), Own G b0 2 (LI D) ∧ FarOk n D ∧ X (farB D) Q ∧ Sl m0 G q 2 1 (LI (NI Q))
def rowFar (G : AHeap) (b : Nat) : Nat → Bool :=
 match G[b]? with
 | some (some (.row cs _ _)) => farB (cs.map fun | .int _ x => x | _ => 0)
 | _ => fun _ => false
theorem rowFar_own {b : Nat} {t : TypeId} (h : Own G b t (LI D)) : rowFar G b = farB D := by
 unfold rowFar; rw [h]; simp only [LI, List.map_map]
 congr 1
 conv => rhs; rw [← List.map_id D]
 rfl

theorem distances_ok {n : Int} {a s : Nat} (h : Edges H v es) (hg : IsG n es) (hs : s < 2 ^ 64) (ha : a < n.toNat)
    (k : ∀ b0 D G, H.le G → H.length ≤ b0 → Own G b0 2 (LI D) → D.length = n.toNat → (∀ w, w < n.toNat → (0 ≤ D.getD w 0 ↔ Rch (vAdj (restL es fun j => s.testBit j)) a w)) → K (.slice (some ⟨b0, 0, none⟩) n.toNat (n.toNat + 1)) G) :
    AC Tryz.prog T0 155 [.agg ⟨[.int .i64 n, v]⟩, .int .i64 (a : Nat), .int .u64 (s : Nat)] H K := by
  have n0 := hg.ed.lo; have n1 := hg.ed.hi
  have h30 : es.length ≤ 30 := by have := hg.ed.len; omega
  apply F155.ac
  unfold F155.B17
  refine newK_f (all_iv (edges_one' h)) fun H1 l1 _ o1 => ?_
  unfold F155.B16
  refine newK_f rfl fun H2 l2 _ o2 => ldI_own (o1.le l2) rfl (repeat_ok (t := -1) (by simpa using o2) (by omega) (by omega) fun H3 l3 o3 => ?_)
  have l13 := AHeap.le_trans l2 l3
  obtain ⟨b0, hb0⟩ : ∃ b0, b0 = H2.length := ⟨_, rfl⟩
  have hb0l : H1.length ≤ b0 := by rw [hb0]; exact l2.1
  rw [← hb0] at o3
  rw [← hb0]
  clear o2 hb0
  unfold F155.B15
  refine own_idx (by omega) (by omega) (stK_1 o3 (by simp; omega) rfl fun H4 b4 o4 => ?_)
  rw [Int.toNat_natCast, show LI (List.replicate n.toNat (-1)) = (List.replicate n.toNat (-1)).map (Value.int .i64) from rfl, ← List.map_set] at o4
  have o4 : Own H4 b0 2 (LI ((List.replicate n.toNat (-1)).set a 0)) := o4
  have hb03 : b0 < H4.length := o4.lt
  have l14 : H1.le H4 := b4.le l13 hb0l
  unfold F155.B14
  refine newK_f rfl fun H5 l5 _ o5 => ?_
  obtain ⟨p, hp⟩ : ∃ p : Nat → Bool, p = fun j => s.testBit j := ⟨_, rfl⟩
  rw [← hp] at k
  have D0 : ∀ w, w < n.toNat → ((List.replicate n.toNat (-1)).set a (0 : Int)).getD w 0 = if a = w then 0 else -1 := by
    intro w hw
    by_cases e : a = w
    · subst e; rw [if_pos rfl]; exact getD_set_self (by simp; omega)
    · rw [if_neg e, getD_set_ne e]; simp [List.getD, hw]
  have F0 : ∀ w, farB ((List.replicate n.toNat (-1)).set a (0 : Int)) w = true ↔ w = a := by
    intro w
    by_cases hw : w < n.toNat
    · rw [farB_iff (by simp; omega), D0 w hw]
      by_cases e : a = w
      · subst e; simp
      · rw [if_neg e]; exact ⟨fun h => absurd h (by decide), fun h => absurd h.symm e⟩
    · exact ⟨fun h => absurd (farB_lt h) (by simp; omega), fun h => by omega⟩
  unfold F155.L2
  refine ⟨fun x2 x3 x7 x8 G => ((s : Nat) : Int) = x2 ∧ H.length = x3 ∧ H1.le G ∧ H4.length ≤ G.length ∧ FarQ n.toNat H4.length b0 (fun S Q => Ex (vAdj (restL es p)) a S Q ∧ (∀ y, S y = true → y < n.toNat) ∧ 2 * unseen S n.toNat + Q.length ≤ 41) x7 x8 G,
    fun _ _ _ x8 G => 2 * unseen (rowFar G b0) n.toNat + lenV x8, ⟨rfl, rfl, AHeap.le_trans l14 l5, l5.1, rfl, _, [a], o4.le l5, ⟨by simp, fun w hw => ?_⟩, ⟨.init F0, fun y hy => ?_, ?_⟩, Fresh.sl (.inr ⟨_, 1, Nat.le_refl _, rfl, o5, rfl⟩)⟩, ?_⟩
  · rw [D0 w hw]
    have := unseen_le (farB ((List.replicate n.toNat (-1)).set a (0 : Int))) n.toNat
    split <;> omega
  · rw [(F0 y).1 hy]; exact ha
  · have := unseen_le (farB ((List.replicate n.toNat (-1)).set a (0 : Int))) n.toNat
    simp; omega
  clear o5 l5 D0 F0 o4 o3 b4
  rintro x2 x3 x7 x8 G ⟨rfl, rfl, hG, hM4, rfl, D, Q, oD, hD, ⟨hE, hB, hU⟩, hQ⟩
  have oG := o1.le hG
  unfold F155.B13
  refine hQ.len (by decide) (n := Q.length) (by simp) (pif_cases (fun hb => ?_) fun hb => ?_)
  · have hpos : 0 < Q.length := by have := of_decide_eq_true hb; omega
    cases Q with
    | nil => simp at hpos
    | cons x Q =>
    have hxl : x < n.toNat := hB x (hE.q x (by simp))
    have hmu : 2 * unseen (rowFar G b0) n.toNat + lenV x8 = 2 * unseen (farB D) n.toNat + (Q.length + 1) := by
      rw [Sl_lenV hQ, rowFar_own oD]; simp
    have hU : 2 * unseen (farB D) n.toNat + (Q.length + 1) ≤ 41 := hU
    obtain ⟨M, hM⟩ : ∃ M, M = 2 * unseen (farB D) n.toNat + (Q.length + 1) := ⟨_, rfl⟩
    unfold F155.B12
    refine ldI_own oG rfl (ld1_own oG rfl (hQ.ints.rd (by decide) (by simp) ?_))
    rw [show (NI (x :: Q)).getD (0 : Int).toNat 0 = (x : Int) from rfl]
    have lG := AHeap.le_trans l1 hG
    refine at_ok (h.le lG) (by omega) fun w G2 hG2 hF => ?_
    have h3 := hg.three (v := (x : Int)) (by omega) (by omega)
    refine hF.len (by decide) (n := 3) (by rw [List.length_map, h3]) ?_
    have lG2 := AHeap.le_trans hG hG2
    have hbG : b0 < G.length := oD.lt
    unfold F155.L4
    refine ⟨fun x2 x3 x7 x8 x30 x31 x32 G => ((s : Nat) : Int) = x2 ∧ H.length = x3 ∧ w = x30 ∧ 3 = x31 ∧ H1.le G ∧ H4.length ≤ G.length ∧ Sl H4.length G w 2 1 (LI (atL es x)) ∧ (∀ b, bk w = some b → bk x8 ≠ some b) ∧
        ∃ t : Nat, x32 = t ∧ t ≤ 3 ∧ FarQ n.toNat H4.length b0 (fun S Q' => ∃ R, Q' = x :: R ∧ InV (vAdj (restL es p)) a x n.toNat M (PastV es p x t) S R) x7 x8 G,
      fun _ _ _ _ _ _ x32 _ => 3 - x32.toNat, ⟨rfl, rfl, rfl, rfl, lG2, Nat.le_trans hM4 hG2.1, hF.less hM4, (fun b hb hb' => by have := (hF.lt hb).1; have := (hQ.lt hb').2; omega), 0, rfl, by omega, rfl, D, x :: Q, oD.le hG2, hD, ⟨Q, rfl, hE, hB, by omega, fun j ⟨t', h, _⟩ => absurd h (by omega)⟩, hQ.le hG2⟩, ?_⟩
    clear hQ hE hB hF hG2 lG2 oG lG hG hM4 hbG oD hD
    rintro x2 x3 x7 x8' x30 x31 x32 G3 ⟨rfl, rfl, rfl, rfl, hG, hM4, hW, hA, t, rfl, ht, rfl, D3, _, oD, hD, ⟨R, rfl, hX⟩, hQ⟩
    have lG := AHeap.le_trans l1 hG
    have oG := o1.le hG
    unfold F155.B11
    refine pif_cases (fun hb => ?_) fun hb => ?_
    · have ht3 : t < 3 := by have := of_decide_eq_true hb; omega
      obtain ⟨i, hi1, hi2, hi3⟩ := at_get (es := es) (w := (x : Int)) (t := t) (by omega)
      obtain ⟨d1, d2, d3, d4, d5⟩ := hg.ed.ends es[i] (List.getElem_mem hi2)
      rw [← getD_of (d := (0, 0)) hi2] at d1 d2 d3 d4 d5
      obtain ⟨y, hy⟩ : ∃ y : Nat, (es.getD i (0, 0)).1 + (es.getD i (0, 0)).2 - (x : Int) = y := ⟨((es.getD i (0, 0)).1 + (es.getD i (0, 0)).2 - (x : Int)).toNat, by rcases on_oth hi3 with e | e <;> omega⟩
      have hyn : y < n.toNat := by rcases on_oth hi3 with e | e <;> omega
      have hstep : ∀ j, PastV es p x (t + 1) j → PastV es p x t j ∨ (p i = false ∧ j = y) := fun j hj => (PastV.step hj hi1).imp id fun ⟨h1, h2⟩ => ⟨h1, by omega⟩
      unfold F155.B10
      refine hW.ints.rd (by omega) (by omega) ?_
      simp only [Int.toNat_natCast, hi1]
      unfold F155.B9
      obtain ⟨bb, oo, hk, c1, c2⟩ := (h.le lG).idx (show (0 : Int) ≤ i by omega) (by omega)
      simp only [Int.toNat_natCast] at c1 c2
      refine ld1_own oG rfl (hk _ (ldI_mk c1 (ldI_mk c2 (hQ.ints.rd (by decide) (by simp) ?_))))
      rw [show (NI (x :: R)).getD (0 : Int).toNat 0 = (x : Int) from rfl]
      refine other_ok (e := es.getD i (0, 0)) (by omega) (by omega) (by omega) fun G4 l4 => asI_mk ?_
      rw [hy]
      have hG := AHeap.le_trans hG l4
      have hM4 := Nat.le_trans hM4 l4.1
      have hW := hW.le l4
      have oD := oD.le l4
      have hQ := hQ.le l4
      have oi := own_ints (c := n.toNat + 1) oD
      rw [hD.len] at oi
      have hyl : y < D3.length := by rw [hD.len]; exact hyn
      have hxl3 : x < D3.length := by rw [hD.len]; exact hxl
      have pi' : p i = s.testBit i := by rw [hp]
      unfold F155.B8
      refine oi.rd (by omega) (by omega) (pif_cases (fun hb => ?_) fun hb => ?_)
      · have hn : farB D3 y = false := by
          have := of_decide_eq_true hb
          rw [Int.toNat_natCast] at this
          cases hf : farB D3 y with
          | false => rfl
          | true => have := (farB_iff hyl).1 hf; omega
        refine has_ok hs (by omega) (asB_mk ?_)
        rw [Int.toNat_natCast, ← pi']
        refine pif_cases (fun hb => ?_) fun hb => ?_
        · have hpi : p i = false := by simpa using hb
          have hx3 : farB D3 x = true := hX.ex.q x (by simp)
          have hx0 := (farB_iff hxl3).1 hx3
          have hr := (hD.rng x hxl).2
          unfold F155.B7
          refine hQ.ints.rd (by decide) (by simp) ?_
          rw [show (NI (x :: R)).getD (0 : Int).toNat 0 = (x : Int) from rfl]
          refine oi.rd (by omega) (by omega) (own_idx (by omega) (by omega) (stK_1 oD (by simp; omega) rfl fun G5 b5 o5 => ?_))
          rw [Int.toNat_natCast, Int.toNat_natCast, wrap_id (by omega) (by omega)] at o5
          have o5 : Own G5 b0 2 (LI (D3.set y (D3.getD x 0 + 1))) := by rw [← List.map_set] at o5; exact o5
          have hD5 := hD.set hx3 hyn hn
          have hG5 := b5.le hG hb0l
          have hQ5 := hQ.but b5 hb03
          have hW5 := hW.but b5 hb03
          unfold F155.B6
          refine hQ5.pushN E_int (by decide) (by rw [b5.len]; exact hM4) (n := 1) (ys := [.int .i64 y]) rfl rfl (by have := hX.mu; simp; omega) (by simp) fun v' G6 k6 ot6 nb6 f6 => ?_
          unfold F155.B5
          rw [wrap_id (by omega) (by omega)]
          refine ⟨⟨rfl, rfl, rfl, rfl, k6.le hG5 (by omega), by have := k6.len; have := b5.len; omega, hW5.oth ot6 hA, (fun b hb hb' => by have := (hW5.lt hb).2; have := nb6 b hb'; omega), t + 1, by omega, by omega, rfl, _, x :: (R ++ [y]), k6.own o5 hb03, hD5, ⟨R ++ [y], rfl, ?_⟩, by simpa using f6.sl⟩, by simp; omega⟩
          rw [farB_set hyl (by omega)]
          exact hX.push (adj_of hi2 hpi hi3 hy.symm) hyn hn fun j hj => (hstep j hj).imp id fun h => h.2
        · have hpi : p i = true := by simpa using hb
          unfold F155.B5
          rw [wrap_id (by omega) (by omega)]
          refine ⟨⟨rfl, rfl, rfl, rfl, hG, hM4, hW, hA, t + 1, by omega, by omega, rfl, D3, x :: R, oD, hD, ⟨R, rfl, hX.more fun j hj => ?_⟩, hQ⟩, by simp; omega⟩
          rcases hstep j hj with h | ⟨h, rfl⟩
          · exact .inl h
          · rw [hpi] at h; cases h
      · have hn : farB D3 y = true := by
          have := of_decide_eq_false hb
          rw [Int.toNat_natCast] at this
          exact (farB_iff hyl).2 (by omega)
        unfold F155.B5
        rw [wrap_id (by omega) (by omega)]
        refine ⟨⟨rfl, rfl, rfl, rfl, hG, hM4, hW, hA, t + 1, by omega, by omega, rfl, D3, x :: R, oD, hD, ⟨R, rfl, hX.more fun j hj => ?_⟩, hQ⟩, by simp; omega⟩
        rcases hstep j hj with h | ⟨h, rfl⟩
        · exact .inl h
        · exact .inr hn
    · have ht3 : t = 3 := by have := of_decide_eq_false hb; omega
      subst ht3
      unfold F155.B3
      obtain ⟨hE, hlt⟩ := hX.pop fun j hj => by rw [← h3]; exact PastV.fin hj
      refine hQ.drop (i := 1) (n := R.length + 1) (by simp) (by decide) (by omega) (by omega) fun v' hv' => ?_
      have hv' : Sl H4.length G3 v' 2 1 (LI (NI R)) := by simpa using hv'
      refine ⟨⟨rfl, rfl, hG, hM4, rfl, D3, R, oD, hD, ⟨hE, hX.bnd, by omega⟩, hv'⟩, ?_⟩
      show 2 * unseen (rowFar G3 b0) n.toNat + lenV v' < 2 * unseen (rowFar G b0) n.toNat + lenV x8
      rw [hmu, Sl_lenV hv', rowFar_own oD]
      simpa [hM] using hlt
  · have hz : Q = [] := by
      have := of_decide_eq_false hb
      cases Q with
      | nil => rfl
      | cons x Q => simp at this
    subst hz
    unfold F155.B1
    refine k b0 D G (AHeap.le_trans l1 hG) (by have := l1.1; omega) oD hD.len fun w hw => ?_
    rw [← farB_iff (by have := hD.len; omega)]
    exact hE.fin w
end Go.Proofs
namespace Go.Proofs
open Go.Abs

variable {H G : AHeap} {v u f : Value} {l m c : List Int} {es fs : List (Int × Int)} {K : Value → AHeap → Prop} {A : Nat → Prop} {B : Nat} {ls : List (List Int)}

end Go.Proofs
namespace Go.Proofs
open Go.Abs

variable {H G : AHeap} {v u f : Value} {l m c D : List Int} {es fs : List (Int × Int)} {K : Value → AHeap → Prop}

theorem sides_ok {n : Int} {s : Nat} (h : Edges H v es) (hg : IsG n es) (hs : s < 2 ^ 64)
    (k : ∀ v' G, H.le G → RowsF (fun b => H.length ≤ b) G.length G v' (sidesL (restL es fun j => s.testBit j) n.toNat) → K v' G) :
    AC Tryz.prog T0 103 [.agg ⟨[.int .i64 n, v]⟩, .int .u64 (s : Nat)] H K := by
  have n0 := hg.ed.lo; have n1 := hg.ed.hi
  apply F103.ac
  unfold F103.B20
  refine newK_f (all_iv (edges_one' h)) fun H1 l1 _ o1 => ?_
  unfold F103.B19 F103.B18 F103.B17
  refine ldI_own o1 rfl ?_
  obtain ⟨fs, hfs⟩ : ∃ fs, fs = restL es fun j => s.testBit j := ⟨_, rfl⟩
  rw [← hfs] at k
  unfold F103.L2
  refine ⟨fun x1 x2 x5 x6 x12 x13 G => ((s : Nat) : Int) = x1 ∧ H.length = x2 ∧ n = x12 ∧ H1.le G ∧ ∃ i : Nat, x13 = i ∧ i ≤ n.toNat ∧ RowsF (fun b => H1.length ≤ b) G.length G x5 (sidesTo fs n.toNat i) ∧
      ∃ z : Nat, x6 = ((z : Nat) : Int) ∧ z < 2 ^ 64 ∧ ∀ w, z.testBit w = true ↔ w < n.toNat ∧ ∃ a, a < i ∧ Rch (vAdj fs) a w,
    fun _ _ _ _ _ x13 _ => n.toNat - x13.toNat, ⟨rfl, rfl, rfl, AHeap.le_refl _, 0, rfl, by omega, .nil, 0, rfl, by decide, fun w => ?_⟩, ?_⟩
  · simp
  rintro x1 x2 x5 x6 x12 x13 G ⟨rfl, rfl, rfl, hG, i, rfl, hi, hR, z, rfl, hz, hzb⟩
  have lG := AHeap.le_trans l1 hG
  have oG := o1.le hG
  unfold F103.B16
  refine pif_cases (fun hb => ?_) fun hb => ?_
  · have hin : i < n.toNat := by have := of_decide_eq_true hb; omega
    have hzi : z.testBit i = !vLeadB fs i := by
      rw [Bool.eq_iff_iff, hzb, Bool.not_eq_true', ← Bool.not_eq_true, vLeadB_iff]
      constructor
      · rintro ⟨_, a, h1, h2⟩ h; exact h a h1 h2
      · intro h
        refine ⟨hin, Classical.byContradiction fun h' => h fun b hb hr => h' ⟨b, hb, hr⟩⟩
    unfold F103.B15 F103.B14
    refine has_ok hz (by omega) (asB_mk ?_)
    rw [Int.toNat_natCast, hzi]
    refine pif_cases (fun hb => ?_) fun hb => ?_
    · have hl : vLeadB fs i = false := by simpa using hb
      unfold F103.B3
      rw [wrap_id (by omega) (by omega)]
      refine ⟨⟨rfl, rfl, rfl, hG, i + 1, by omega, by omega, ?_, z, rfl, hz, fun w => ?_⟩, by simp; omega⟩
      · rw [sidesTo_succ, hl]; simpa using hR
      · rw [hzb]
        refine and_congr_right fun _ => ⟨fun ⟨a, h1, h2⟩ => ⟨a, by omega, h2⟩, fun ⟨a, h1, h2⟩ => ?_⟩
        by_cases e : a = i
        · subst e
          have := (hzb a).1 (by rw [hzi, hl]; rfl)
          obtain ⟨_, b, g1, g2⟩ := this
          exact ⟨b, g1, g2.trans h2⟩
        · exact ⟨a, by omega, h2⟩
    · have hl : vLeadB fs i = true := by simpa using hb
      unfold F103.B13 F103.B12
      refine ldI_own oG rfl (ld1_own oG rfl (distances_ok (h.le lG) hg hs hin fun b0 D G2 l2 hb0 oD hD hfar => ?_))
      rw [← hfs] at hfar
      refine lenK_of ?_
      have hG2 := AHeap.le_trans hG l2
      have hb2 := oD.lt
      have hG2' := hG2.1
      unfold F103.L5
      refine ⟨fun x1 x2 x5' x6 x8 x12 x13 x22 x23 x24 G' => ((s : Nat) : Int) = x1 ∧ H.length = x2 ∧ x5 = x5' ∧ n = x12 ∧ ((i : Nat) : Int) = x13 ∧ .slice (some ⟨b0, 0, none⟩) n.toNat (n.toNat + 1) = x22 ∧ (n.toNat : Int) = x23 ∧ H1.le G' ∧ G2.length ≤ G'.length ∧ Own G' b0 2 (LI D) ∧ RowsF (fun b => H1.length ≤ b) G2.length G' x5 (sidesTo fs n.toNat i) ∧
          ∃ t : Nat, x24 = t ∧ t ≤ n.toNat ∧ Fresh G2.length G' x8 2 1 (LI (filtB (rchB (vAdj fs) i) t)) ∧ ∃ z' : Nat, x6 = ((z' : Nat) : Int) ∧ z' < 2 ^ 64 ∧ ∀ w, z'.testBit w = true ↔ z.testBit w = true ∨ w < t ∧ Rch (vAdj fs) i w,
        fun _ _ _ _ _ _ _ _ _ x24 _ => n.toNat - x24.toNat, ⟨rfl, rfl, rfl, rfl, rfl, rfl, rfl, hG2, Nat.le_refl _, oD, (hR.le l2).mono (fun _ h => h) l2.1, 0, rfl, by omega, .inl ⟨rfl, .inl rfl⟩, z, rfl, hz, fun w => by simp⟩, ?_⟩
      clear oD hR lG oG hG2 hG
      rintro x1 x2 x5' x6 x8 x12 x13 x22 x23 x24 G3 ⟨rfl, rfl, rfl, rfl, rfl, rfl, rfl, hG, hGl, oD, hR, t, rfl, ht, hF, z', rfl, hz', hzb'⟩
      unfold F103.B11
      refine pif_cases (fun hb => ?_) fun hb => ?_
      · have htn : t < n.toNat := by have := of_decide_eq_true hb; omega
        have hft := hfar t htn
        have hfl := filtB_length (rchB (vAdj fs) i) t
        unfold F103.B10
        have oi := own_ints (c := n.toNat + 1) oD
        rw [hD] at oi
        refine oi.rd (by omega) (by omega) ?_
        rw [Int.toNat_natCast]
        unfold F103.B9
        refine pif_cases (fun hb => ?_) fun hb => ?_
        · have hr : Rch (vAdj fs) i t := hft.1 (of_decide_eq_true hb)
          unfold F103.B8
          refine hF.sl.pushN E_int (by decide) hGl (n := 1) (ys := [.int .i64 t]) rfl rfl (by simp; omega) (by simp) fun v' G4 k4 ot4 nb4 f4 => ?_
          unfold F103.B7
          refine ⟨by omega, ?_⟩
          have p64 : 2 ^ t < 2 ^ 64 := Nat.pow_lt_pow_right (by decide) (by omega)
          rw [one_shl (by omega) (by omega), Int.toNat_natCast, bits_or hz' p64]
          unfold F103.B6
          rw [wrap_id (by omega) (by omega)]
          refine ⟨⟨rfl, rfl, rfl, rfl, rfl, rfl, rfl, k4.le hG (by have := hG2'; omega), by have := k4.len; omega, k4.own oD hb2, hR.keep k4, t + 1, by omega, by omega, ?_, z' ||| 2 ^ t, rfl, or_lt hz' p64, fun w => ?_⟩, by simp; omega⟩
          · rw [filtB_succ, rchB_iff.2 hr]; simpa using f4
          · rw [Nat.testBit_or, Nat.testBit_two_pow, Bool.or_eq_true, hzb', decide_eq_true_iff]
            constructor
            · rintro ((h | h) | rfl)
              · exact .inl h
              · exact .inr ⟨by omega, h.2⟩
              · exact .inr ⟨by omega, hr⟩
            · rintro (h | ⟨h1, h2⟩)
              · exact .inl (.inl h)
              · by_cases e : t = w
                · exact .inr e
                · exact .inl (.inr ⟨by omega, h2⟩)
        · have hr : ¬ Rch (vAdj fs) i t := fun h => of_decide_eq_false hb (hft.2 h)
          unfold F103.B6
          rw [wrap_id (by omega) (by omega)]
          refine ⟨⟨rfl, rfl, rfl, rfl, rfl, rfl, rfl, hG, hGl, oD, hR, t + 1, by omega, by omega, ?_, z', rfl, hz', fun w => ?_⟩, by simp; omega⟩
          · rw [filtB_succ, Bool.eq_false_iff.2 fun h => hr (rchB_iff.1 h)]; simpa using hF
          · rw [hzb']
            refine or_congr Iff.rfl ⟨fun ⟨h1, h2⟩ => ⟨by omega, h2⟩, fun ⟨h1, h2⟩ => ⟨?_, h2⟩⟩
            by_cases e : t = w
            · subst e; exact absurd h2 hr
            · omega
      · have htn : t = n.toNat := by have := of_decide_eq_false hb; omega
        subst htn
        have hsl := sidesTo_length fs n.toNat i
        unfold F103.B4
        refine hR.push hGl (fun b hb => by have := hG2'; omega) hF (by omega) fun v' G4 ot nb hlen hR4 => ?_
        unfold F103.B3
        rw [wrap_id (by omega) (by omega)]
        refine ⟨⟨rfl, rfl, rfl, ?_, i + 1, by omega, by omega, ?_, z', rfl, hz', fun w => ?_⟩, by simp; omega⟩
        · refine ⟨by have := hG.1; omega, fun b o ho => ot b o (fun hv => ?_) (hG.2 _ _ ho)⟩
          obtain ⟨vs, _, _, q3, _⟩ := hR
          have := (q3 b hv).1
          have := lt_of_get ho
          omega
        · rw [sidesTo_succ, hl]; exact hR4
        · rw [hzb', hzb]
          constructor
          · rintro (⟨h1, a, h2, h3⟩ | ⟨h1, h2⟩)
            · exact ⟨h1, a, by omega, h3⟩
            · exact ⟨h1, i, by omega, h2⟩
          · rintro ⟨h1, a, h2, h3⟩
            by_cases e : a = i
            · subst e; exact .inr ⟨h1, h3⟩
            · exact .inl ⟨h1, a, by omega, h3⟩
  · have hin : i = n.toNat := by have := of_decide_eq_false hb; omega
    subst hin
    unfold F103.B1
    exact k _ _ lG (hR.mono (fun b hb => by have := l1.1; omega) (Nat.le_refl _))
end Go.Proofs
namespace Go.Proofs
open Go.Abs

variable {H G : AHeap} {v u f : Value} {l m c D : List Int} {es fs : List (Int × Int)} {K : Value → AHeap → Prop} {A : Nat → Prop} {B : Nat} {ls : List (List Int)}

end Go.Proofs
namespace Go.Proofs
open Go.Abs

variable {H G : AHeap} {v u f : Value} {l m c D : List Int} {es fs : List (Int × Int)} {K : Value → AHeap → Prop}

end Go.Proofs
namespace Go.Proofs
open Go.Abs

variable {H G : AHeap} {v u f : Value} {l m c D : List Int} {es fs : List (Int × Int)} {K : Value → AHeap → Prop} {A A' : Nat → Prop} {B : Nat} {ls ms : List (List Int)}

end Go.Proofs
namespace Go.Proofs
open Go.Abs

variable {H G : AHeap} {v u f : Value} {l m c D : List Int} {es fs : List (Int × Int)} {K : Value → AHeap → Prop} {A A' : Nat → Prop} {B : Nat} {ls ms : List (List Int)}

end Go.Proofs
namespace Go.Proofs
open Go.Abs

variable {H G : AHeap}

end Go.Proofs
namespace Go.Proofs
open Go.Abs

variable {H G : AHeap} {v u f : Value} {l m c D : List Int} {es fs : List (Int × Int)} {K : Value → AHeap → Prop} {A : Nat → Prop} {B : Nat} {ls : List (List Int)}

end Go.Proofs
namespace Go.Proofs
open Go.Abs

variable {H G : AHeap} {v u f : Value} {l m c D : List Int} {es fs : List (Int × Int)} {K : Value → AHeap → Prop} {n : Int}

theorem isG_ends (hg : IsG n es) : ∀ e ∈ es, 0 ≤ e.1 ∧ e.1 < n ∧ 0 ≤ e.2 ∧ e.2 < n := fun e he => by have := hg.ed.ends e he; omega
theorem sidesN_le (fs : List (Int × Int)) (n : Nat) : (sidesL fs n).length ≤ n := sidesTo_length fs n n
end Go.Proofs
namespace Go.Proofs
open Go.Abs

variable {H G : AHeap} {v u f : Value} {l m c D : List Int} {es fs : List (Int × Int)} {K : Value → AHeap → Prop} {n : Int}

structure CntR (V : List Int) (N : Nat) (f : Nat → Nat) : Prop where
 len : V.length = N
 at_ : ∀ w, w < N → V.getD w 0 = (f w : Nat)
theorem CntR.bnd {V : List Int} {N B : Nat} {f : Nat → Nat} (h : CntR V N f) (hf : ∀ w, f w ≤ B) : ∀ c ∈ V, 0 ≤ c ∧ c ≤ B := fun c hc => by
 obtain ⟨i, hi, rfl⟩ := List.getElem_of_mem hc
 have := h.at_ i (by rw [← h.len]; exact hi)
 rw [getD_of hi] at this
 have := hf i
 omega
theorem CntR.zero (N : Nat) : CntR (List.replicate N 0) N fun _ => 0 := ⟨List.length_replicate, fun w hw => by simp [List.getD, hw]⟩
theorem CntR.bump {V : List Int} {N x : Nat} {f g : Nat → Nat} (h : CntR V N f) (hx : x < N) (hg : ∀ w, g w = f w + if (x : Int) = w then 1 else 0) : CntR (bump1 V (x : Int)) N g :=
 ⟨by rw [bump1_length]; exact h.len, fun w hw => by rw [bump1_get V (x : Int) (by rw [h.len]; exact hw) (by omega), h.at_ w hw, hg w]; split <;> omega⟩
theorem CntR.congr {V : List Int} {N : Nat} {f g : Nat → Nat} (h : CntR V N f) (hg : ∀ w, w < N → f w = g w) : CntR V N g := ⟨h.len, fun w hw => by rw [h.at_ w hw, hg w hw]⟩
theorem bump_row {b N : Nat} {V : List Int} {e : TypeId} {x : Int} {K : AHeap → Prop} (ho : Own H b e (LI V)) (hl : V.length = N) (h0 : 0 ≤ x) (h1 : x < N) (hb : ∀ c ∈ V, 0 ≤ c ∧ c ≤ 1000000000000) (k : ∀ G, But b H G → Own G b e (LI (bump1 V x)) → K G) :
    idxK (.slice (some ⟨b, 0, none⟩) N (N + 1)) x 1 (fun b2 o3 => ldI .i64 H b2 o3 (fun v4 => idxK (.slice (some ⟨b, 0, none⟩) N (N + 1)) x 1 (fun b5 o6 => stK H b5 o6 [(Value.int .i64 (IntKind.i64.wrap (v4 + 1)))] K))) := by
  subst hl
  exact bump_at ho h0 h1 hb k
theorem cn_bound (f : Nat → Bool) : ∀ k, cn f k ≤ k
 | 0 => Nat.le_refl _
 | k + 1 => by have := cn_bound f k; rw [cn]; split <;> omega
end Go.Proofs
namespace Go.Proofs
open Go.Abs

variable {H G : AHeap} {v u f : Value} {l m c D : List Int} {es fs : List (Int × Int)} {K : Value → AHeap → Prop} {n : Int}

theorem side_bit {N v j : Nat} (hj : j < N) : (setN (sideL fs N v)).testBit j = rchB (vAdj fs) v j := by
  rw [setN_bit fun x hx => by obtain ⟨y, rfl, _⟩ := mem_sideL.1 hx; omega]
  rw [Bool.eq_iff_iff, decide_eq_true_iff, mem_sideL, rchB_iff]
  exact ⟨fun ⟨y, e, _, h⟩ => by obtain rfl : j = y := by omega
                                exact h, fun h => ⟨j, rfl, hj, h⟩⟩
end Go.Proofs
namespace Go.Proofs
open Go.Abs

variable {H G : AHeap} {v u f : Value} {l m c : List Int} {es fs : List (Int × Int)} {K : Value → AHeap → Prop} {A : Nat → Prop} {B : Nat} {ls : List (List Int)}

end Go.Proofs
namespace Go.Proofs
open Go.Abs

variable {H G : AHeap} {v u f : Value} {l m c : List Int} {es fs : List (Int × Int)} {K : Value → AHeap → Prop} {A : Nat → Prop} {B : Nat} {ls : List (List Int)}

end Go.Proofs
namespace Go.Proofs
open Go.Abs

variable {H G : AHeap} {v u f : Value} {l m c : List Int} {es fs : List (Int × Int)} {K : Value → AHeap → Prop}

end Go.Proofs
namespace Go.Proofs
open Go.Abs

variable {H G : AHeap} {v u f : Value} {l m c D : List Int} {es fs : List (Int × Int)} {K : Value → AHeap → Prop} {n : Int}

theorem leav_le (es : List (Int × Int)) (l : List Int) : (leavL es l).length ≤ es.length := filtB_length _ _
theorem leaving_ok (h : Edges H v es) (hg : IsG n es) (hS : IsS l n) (k : ∀ v' G, H.le G → Fresh H.length G v' 2 1 (LI (leavL es l)) → K v' G) :
    AC Tryz.prog T0 99 [.agg ⟨[.int .i64 n, v]⟩, .int .u64 (setN l : Nat)] H K := by
  have n0 := hg.ed.lo; have n1 := hg.ed.hi
  have h30 : es.length ≤ 30 := by have := hg.ed.len; omega
  have hs64 : setN l < 2 ^ 64 := setN_lt fun x hx => by have := hS.range x hx; omega
  apply F99.ac
  unfold F99.B10
  refine newK_f (all_iv (edges_one' h)) fun H1 l1 n1' o1 => ?_
  unfold F99.B9 F99.B8
  refine ld1_own o1 rfl ((h.le l1).len ?_)
  unfold F99.L2
  refine ⟨fun x1 x5 x9 x10 x11 G => ((setN l : Nat) : Int) = x1 ∧ v = x9 ∧ (es.length : Int) = x10 ∧ H1.le G ∧ ∃ i : Nat, x11 = i ∧ i ≤ es.length ∧ Fresh H1.length G x5 2 1 (LI (filtB (leavB es l) i)), fun _ _ _ _ x11 _ => es.length - x11.toNat, ⟨rfl, rfl, rfl, AHeap.le_refl _, 0, rfl, by omega, .inl ⟨rfl, .inl rfl⟩⟩, ?_⟩
  rintro x1 x5 x9 x10 x11 G ⟨rfl, rfl, rfl, lG, i, rfl, hi, hF⟩
  have l0G := AHeap.le_trans l1 lG
  unfold F99.B7
  refine pif_cases (fun hb => ?_) fun hb => ?_
  · have hlt : i < es.length := by have := of_decide_eq_true hb; omega
    have hm : es.getD i (0, 0) ∈ es := by rw [getD_of hlt]; exact List.getElem_mem _
    have hr := isG_ends hg _ hm
    obtain ⟨bb, oo, hk, q1, q2⟩ := (h.le l0G).idx (show (0 : Int) ≤ i by omega) (by omega)
    simp only [Int.toNat_natCast] at q1 q2
    unfold F99.B6
    refine hk _ (ldI_mk q1 (ldI_mk q2 (newK_f rfl fun G2 l2' n2 o2' => stK_f (new := [.int .i64 (es.getD i (0, 0)).1, .int .i64 (es.getD i (0, 0)).2]) o2' (by simp) (by simp [Value.oneCell']) rfl fun G3 b3 o3 => ?_)))
    have l3 : G.le G3 := b3.le l2' (Nat.le_refl _)
    have lG3 := AHeap.le_trans lG l3
    have hF3 := hF.le l3
    have hfl := filtB_length (leavB es l) i
    unfold F99.B5
    refine ldI_own o3 rfl (ldI_own o3 rfl (has_ok hs64 hr.1 (asB_mk ⟨AHeap.le_refl _, has_ok hs64 hr.2.2.1 (asB_mk ?_)⟩)))
    refine pif_cases (fun hc => ?_) fun hc => ?_
    · have hc : leavB es l i = true := by unfold leavB bitB bne; exact hc
      unfold F99.B4
      refine hF3.sl.pushN E_int (by decide) lG3.1 (n := 1) (ys := [.int .i64 (i : Int)]) rfl rfl (by simp; omega) (by simp) fun v3 G4 k4 _ _ f4 => ?_
      unfold F99.B3
      rw [wrap_id (by omega) (by omega)]
      refine ⟨⟨rfl, rfl, rfl, k4.le lG3 (Nat.le_refl _), i + 1, by omega, by omega, ?_⟩, by simp; omega⟩
      rw [filtB_succ, hc]; simpa using f4
    · have hc : leavB es l i = false := by unfold leavB bitB bne; exact hc
      unfold F99.B3
      rw [wrap_id (by omega) (by omega)]
      refine ⟨⟨rfl, rfl, rfl, lG3, i + 1, by omega, by omega, ?_⟩, by simp; omega⟩
      rw [filtB_succ, hc]; simpa using hF3
  · have hie : i = es.length := by have := of_decide_eq_false hb; omega
    subst hie
    unfold F99.B1
    exact k x5 G l0G (hF.less l1.1)

end Go.Proofs
namespace Go.Proofs
open Go.Abs

variable {H G G' : AHeap} {v u f w : Value} {l m c D : List Int} {es fs : List (Int × Int)} {K : Value → AHeap → Prop} {n : Int} {out : List (List Int)}

def onlyTo (es : List (Int × Int)) (e : Nat) : Nat → Int
 | 0 => -1
 | t + 1 => if (atL es 0).getD t 0 = (e : Int) then t else onlyTo es e t
noncomputable def okB (es : List (Int × Int)) (c : List Int) (x : Nat) : Bool := (decide (onlyTo es c.length 3 < 0) || decide (onlyTo es c.length 3 = (x : Int))) && !clashB es c c.length (x : Int)
noncomputable def nrmL (es : List (Int × Int)) : Nat → List Int → List (List Int)
 | 0, c => [c]
 | r + 1, c => (List.range 3).flatMap fun x : Nat => if okB es c x then nrmL es r (c ++ [(x : Int)]) else []
noncomputable def nrmTo (es : List (Int × Int)) (r : Nat) (c : List Int) (t : Nat) : List (List Int) := (List.range t).flatMap fun x : Nat => if okB es c x then nrmL es r (c ++ [(x : Int)]) else []
theorem nrmTo_succ (r : Nat) (c : List Int) (t : Nat) : nrmTo es r c (t + 1) = nrmTo es r c t ++ if okB es c t then nrmL es r (c ++ [(t : Int)]) else [] := by
 unfold nrmTo; rw [List.range_succ, List.flatMap_append]; simp
theorem nrmL_succ (r : Nat) (c : List Int) : nrmL es (r + 1) c = nrmTo es r c 3 := rfl
theorem nrmTo_pre (r : Nat) (c : List Int) {t s : Nat} (h : t ≤ s) : ∃ R, nrmTo es r c s = nrmTo es r c t ++ R := by
 obtain ⟨d, rfl⟩ : ∃ d, s = t + d := ⟨s - t, by omega⟩
 clear h
 induction d with
 | zero => exact ⟨[], by simp⟩
 | succ d ih =>
  obtain ⟨R, hR⟩ := ih
  exact ⟨_, by rw [← Nat.add_assoc, nrmTo_succ, hR, List.append_assoc]⟩
theorem fitsC {x : Int} : decide (Fits es (c ++ [x]) c.length x) = !clashB es c c.length x := by
 rw [Bool.eq_iff_iff, decide_eq_true_iff, Bool.not_eq_true', ← Bool.not_eq_true, clashB_iff]
 unfold Fits
 have hg : ∀ j, j < c.length → (c ++ [x]).getD j 0 = c.getD j 0 := fun j hj => by simp [List.getD, List.getElem?_append, hj]
 constructor
 ·rintro h ⟨j, h1, h2, h3⟩
  exact h j h1 h3 (by rw [hg j h1]; exact h2)
 ·intro h j h1 h3 h2
  rw [hg j h1] at h2
  exact h ⟨j, h1, h2, h3⟩
structure PreC (es : List (Int × Int)) (c : List Int) : Prop where
 rng : ∀ x ∈ c, 0 ≤ x ∧ x ≤ 2
 col : ColTo es c c.length
theorem PreC.snoc {x : Nat} (h : PreC es c) (hx : x < 3) (hcl : clashB es c c.length (x : Int) = false) : PreC es (c ++ [(x : Int)]) := by
 refine ⟨fun y hy => ?_, fun j hj i hij hs => ?_⟩
 ·rcases List.mem_append.1 hy with hy | hy
  ·exact h.rng y hy
  ·rw [List.mem_singleton.1 hy]; omega
 ·rw [List.length_append, List.length_singleton] at hj
  have gi : (c ++ [(x : Int)]).getD i 0 = c.getD i 0 := by simp [List.getD, List.getElem?_append_left (show i < c.length by omega)]
  rw [gi]
  by_cases e : j = c.length
  ·subst e
   have : (c ++ [(x : Int)]).getD c.length 0 = x := by simp [List.getD]
   rw [this]
   intro he
   have : clashB es c c.length (x : Int) = true := clashB_iff.2 ⟨i, hij, he, hs⟩
   rw [hcl] at this; cases this
  ·have : (c ++ [(x : Int)]).getD j 0 = c.getD j 0 := by simp [List.getD, List.getElem?_append_left (show j < c.length by omega)]
   rw [this]
   exact h.col j (by omega) i hij hs
theorem nrmL_isC : ∀ (r : Nat) (c : List Int), PreC es c → c.length + r = es.length → ∀ l ∈ nrmL es r c, IsC es l
 | 0, c, h, hl, l, hm => by
  rw [nrmL, List.mem_singleton] at hm; subst hm
  have hl : l.length = es.length := by simpa using hl
  exact ⟨hl, h.rng, by rw [← hl]; exact h.col⟩
 | r + 1, c, h, hl, l, hm => by
  rw [nrmL, List.mem_flatMap] at hm
  obtain ⟨x, hx, hm⟩ := hm
  by_cases ho : okB es c x = true
  ·rw [if_pos ho] at hm
   unfold okB at ho
   rw [Bool.and_eq_true, Bool.not_eq_true'] at ho
   exact nrmL_isC r _ (h.snoc (List.mem_range.1 hx) ho.2) (by simp; omega) l hm
  ·rw [if_neg ho] at hm; cases hm
structure OthL (w : Value) (H G : AHeap) (v' : Value) : Prop where
 len : H.length ≤ G.length
 oth : Oth w H G
 nb : ∀ b, bk v' = some b → bk w = some b ∨ H.length ≤ b
theorem OthL.of_le (h : H.le G) : OthL w H G w := ⟨h.1, fun b o _ ho => h.2 b o ho, fun b hb => .inl hb⟩
theorem OthL.trans {v' v2 : Value} (h : OthL w H G v') (k : OthL v' G G' v2) : OthL w H G' v2 := by
 refine ⟨Nat.le_trans h.len k.len, fun b o hb ho => k.oth b o (fun e => ?_) (h.oth b o hb ho), fun b hb => ?_⟩
 ·rcases h.nb b e with q | q
  ·exact hb q
  ·have := lt_of_get ho; omega
 ·rcases k.nb b hb with q | q
  ·exact h.nb b q
  ·exact .inr (Nat.le_trans h.len q)
theorem own_push {x : Int} {R : AHeap → Prop} {Q : Value → AHeap → Prop} (hu : Ints H u c) (hl : c.length ≤ 1000) (hR : ∀ G, H.le G → R G) (k : ∀ v' G, H.le G → Fresh H.length G v' 2 1 (LI (c ++ [x])) → Q v' G) :
    (AC Tryz.prog T0 138 [u] H (fun v3 H4 => R H4 ∧ newK H4 [.int .i64 x] 2 (fun b8 H9 => apK T0 2 H9 v3 (.slice (some ⟨b8, 0, none⟩) 1 (1 + 1)) (fun v10 H11 => R H11 ∧ Q v10 H11)))) ∧
    (newK H [.int .i64 x] 2 (fun b17 H18 => AC Tryz.prog T0 138 [u] H18 (fun v19 H20 => R H20 ∧ apK T0 2 H20 v19 (.slice (some ⟨b17, 0, none⟩) 1 (1 + 1)) (fun v24 H25 => R H25 ∧ Q v24 H25)))) := by
  refine ⟨l01Own_ok hu (by omega) fun v3 H4 l4 f4 => ⟨hR H4 l4, ?_⟩, newK_f rfl fun H2 l2 n2 o2 => l01Own_ok (hu.le l2) (by omega) fun v3 H4 l4 f4 => ⟨hR H4 (AHeap.le_trans l2 l4), ?_⟩⟩
  · refine f4.sl.pushN E_int (by decide) l4.1 (n := 1) (ys := [.int .i64 x]) rfl rfl (by simp; omega) (by simp) fun v10 H11 k11 _ _ f11 => ?_
    have l11 := k11.le l4 (Nat.le_refl _)
    exact ⟨hR H11 l11, k v10 H11 l11 (by simpa using f11)⟩
  · have hcs : cellsAt H4 (.slice (some ⟨H.length, 0, none⟩) 1 (1 + 1)) 1 1 [.int .i64 x] := cellsAt_row (o2.le l4) rfl
    refine f4.sl.app E_int (by decide) l4.1 hcs (by simp; omega) (fun h => by cases h) fun v10 H11 k11 _ _ f11 => ?_
    have l11 := k11.le (AHeap.le_trans l2 l4) l2.1
    exact ⟨hR H11 l11, k v10 H11 l11 (by simpa using f11.less l2.1)⟩
theorem take_more {α : Type} {A R : List α} {k : Nat} (h : k ≤ A.length) : (A ++ R).take k = A.take k := by
 rw [List.take_append_of_le_length h]
theorem l02List_ok {Hb : AHeap} {B0 mo : Nat} (hg : IsG n es) (hmo : mo ≤ 1000) (he : Edges Hb v es) (hB : Hb.length ≤ B0) : ∀ (r : Nat) (c : List Int) (H : AHeap) (K : Value → AHeap → Prop) (u w : Value) (out : List (List Int)), c.length + r = es.length → Hb.le H → Fresh 0 H u 2 1 (LI c) → (∀ b, bk u = some b → bk w ≠ some b) →
    RowsF (fun b => B0 ≤ b) H.length H w out → B0 ≤ H.length → out.length ≤ mo →
    (∀ v' G, OthL w H G v' → RowsF (fun b => B0 ≤ b) G.length G v' ((out ++ nrmL es r c).take (mo + 1)) → K v' G) →
    AC Tryz.prog T0 211 [.agg ⟨[.int .i64 n, v]⟩, u, w, .int .i64 (mo : Nat)] H K := by
  have n0 := hg.ed.lo; have n1 := hg.ed.hi
  have h30 : es.length ≤ 30 := by have := hg.ed.len; omega
  intro r
  induction r with
  | zero =>
    intro c H K u w out hcr hH hu hne hR hB0 hol k
    have hcl : c.length = es.length := by simpa using hcr
    apply F211.ac
    unfold F211.B18
    refine newK_f (all_iv (edges_one' (he.le hH))) fun H1 l1 n1' o1 => ?_
    have hE1 := (he.le hH).le l1
    unfold F211.B17
    refine (hu.le l1).ints.len ?_
    unfold F211.B16
    refine (hu.le l1).ints.len (ld1_own o1 rfl (hE1.len (pif_t (by rw [beq_iff_eq]; omega) ?_)))
    unfold F211.B15
    refine l01Own_ok (hu.le l1).ints (by omega) fun v1 H2 l2 f2 => ?_
    have l12 := AHeap.le_trans l1 l2
    refine ((hR.le l12).mono (fun _ h => h) l1.1).push l2.1 (fun b hb => by have := l1.1; omega) f2 (by omega) fun v' G ot nb hlen hR4 => ?_
    have o1L : OthL w H H2 w := .of_le l12
    have o2L : OthL w H2 G v' := ⟨hlen, ot, fun b hb => .inr (nb b hb)⟩
    refine k v' G (o1L.trans o2L) ?_
    rw [nrmL, List.take_of_length_le (by simp; omega)]
    exact hR4
  | succ r ih =>
    intro c H K u w out hcr hH hu hne hR hB0 hol k
    have hcl : c.length < es.length := by omega
    have hwb : ∀ b, bk w = some b → B0 ≤ b ∧ b < H.length := fun b hb => by
      obtain ⟨vs, _, _, q3, _⟩ := hR
      exact q3 b hb
    apply F211.ac
    unfold F211.B18
    refine newK_f (all_iv (edges_one' (he.le hH))) fun H1 l1 n1' o1 => ?_
    have hE1 := (he.le hH).le l1
    unfold F211.B17
    refine (hu.le l1).ints.len ?_
    unfold F211.B16
    refine (hu.le l1).ints.len (ld1_own o1 rfl (hE1.len (pif_f (by rw [beq_eq_false_iff_ne]; omega) ?_)))
    unfold F211.B14
    refine ldI_own o1 rfl (ld1_own o1 rfl (l01At_ok hE1 (by omega) fun x10 H2 l2 f2 => ?_))
    have l12 := AHeap.le_trans l1 l2
    have o12 := o1.le l2
    have h3 := hg.three (v := 0) (by omega) (by omega)
    have hl1 := l1.1
    have hlt1 := o1.lt
    unfold F211.B13 F211.L8
    refine ⟨fun x1 x2 x3 x4 x9 y10 x11 x12 G => u = x1 ∧ w = x2 ∧ ((mo : Nat) : Int) = x3 ∧ H.length = x4 ∧ (c.length : Int) = x9 ∧ x10 = y10 ∧ H2 = G ∧ ∃ t : Nat, x12 = t ∧ t ≤ 3 ∧ x11 = onlyTo es c.length t, fun _ _ _ _ _ _ _ x12 _ => 3 - x12.toNat, ⟨rfl, rfl, rfl, rfl, rfl, rfl, rfl, 0, rfl, by omega, rfl⟩, ?_⟩
    rintro x1 x2 x3 x4 x9 y10 x11 x12 G ⟨rfl, rfl, rfl, rfl, rfl, rfl, rfl, t, rfl, ht, rfl⟩
    unfold F211.B12
    refine pif_cases (fun hb => ?_) fun hb => ?_
    · have ht3 : t < 3 := by have := of_decide_eq_true hb; omega
      unfold F211.B11
      refine f2.ints.rd (by omega) (by omega) ?_
      rw [Int.toNat_natCast]
      refine pif_cases (fun hc => ?_) fun hc => ?_
      · have e : onlyTo es c.length (t + 1) = t := by rw [onlyTo, if_pos (beq_iff_eq.1 hc)]
        unfold F211.B10 F211.B9
        rw [wrap_id (by omega) (by omega)]
        exact ⟨⟨rfl, rfl, rfl, rfl, rfl, rfl, rfl, t + 1, by omega, by omega, e.symm⟩, by simp; omega⟩
      · have e : onlyTo es c.length (t + 1) = onlyTo es c.length t := by rw [onlyTo, if_neg fun h => by rw [h] at hc; simp at hc]
        unfold F211.B9
        rw [wrap_id (by omega) (by omega)]
        exact ⟨⟨rfl, rfl, rfl, rfl, rfl, rfl, rfl, t + 1, by omega, by omega, e.symm⟩, by simp; omega⟩
    have hte : t = 3 := by have := of_decide_eq_false hb; omega
    subst hte
    clear hb ht
    unfold F211.B7 F211.L2
    refine ⟨fun x1 x2 x3 x4 x9 x11 x13 G => u = x1 ∧ ((mo : Nat) : Int) = x3 ∧ H.length = x4 ∧ (c.length : Int) = x9 ∧ onlyTo es c.length 3 = x11 ∧ OthL w H2 G x2 ∧ ∃ t : Nat, x13 = t ∧ t ≤ 3 ∧ RowsF (fun b => B0 ≤ b) G.length G x2 ((out ++ nrmTo es r c t).take (mo + 1)), fun _ _ _ _ _ _ x13 _ => 3 - x13.toNat,
      ⟨rfl, rfl, rfl, rfl, rfl, .of_le (AHeap.le_refl _), 0, rfl, by omega, ?_⟩, ?_⟩
    · have e0 : nrmTo es r c 0 = [] := rfl
      rw [e0, List.append_nil, List.take_of_length_le (by omega)]
      exact (hR.le l12).mono (fun _ h => h) l12.1
    rintro x1 x2 x3 x4 x9 x11 x13 G ⟨rfl, rfl, rfl, rfl, rfl, ol, t, rfl, ht, hX⟩
    have o4 : Own G H.length 26 [.int .i64 n, v] := ol.oth _ _ (fun e => by have := (hwb _ e).2; omega) o12
    have huG : Fresh 0 G u 2 1 (LI c) := fresh_oth (hu.le l12) fun b o hb ho => ol.oth b o (hne b hb) ho
    have hbG : Hb.le G := ⟨by have := hH.1; have := l12.1; have := ol.len; omega, fun b o ho => ol.oth b o (fun e => by have := (hwb _ e).1; have := lt_of_get ho; omega) (l12.2 _ _ (hH.2 _ _ ho))⟩
    have hGl := ol.len
    have hl12 := l12.1
    unfold F211.B6
    have stop : ((out ++ nrmTo es r c t).take (mo + 1)) = ((out ++ nrmL es (r + 1) c).take (mo + 1)) → F211.B1 K x2 G := fun e => by
      unfold F211.B1
      rw [e] at hX
      exact k x2 G ((OthL.of_le l12).trans ol) hX
    refine pif_cases (fun hb => hX.len (pif_cases (fun hc => ?_) fun hc => ?_)) fun hb => ?_
    · have ht3 : t < 3 := by have := of_decide_eq_true hb; omega
      have hlen : (out ++ nrmTo es r c t).length ≤ mo := by
        have := of_decide_eq_true hc
        rw [List.length_take] at this; omega
      have hsame : (out ++ nrmTo es r c t).take (mo + 1) = out ++ nrmTo es r c t := List.take_of_length_le (by omega)
      rw [hsame] at hX
      have hsucc := nrmTo_succ (es := es) r c t
      have skip : ∀ G5, G.le G5 → okB es c t = false → F211.B3 K (fun z1 z2 z3 z4 z9 z11 z13 G' => (u = z1 ∧ ((mo : Nat) : Int) = z3 ∧ H.length = z4 ∧ (c.length : Int) = z9 ∧ onlyTo es c.length 3 = z11 ∧ OthL w H2 G' z2 ∧ ∃ t : Nat, z13 = t ∧ t ≤ 3 ∧ RowsF (fun b => B0 ≤ b) G'.length G' z2 ((out ++ nrmTo es r c t).take (mo + 1))) ∧ 3 - z13.toNat < 3 - ((t : Nat) : Int).toNat)
          u x2 (mo : Nat) H.length (c.length : Nat) (onlyTo es c.length 3) (t : Nat) G5 := by
        intro G5 l5 hno
        unfold F211.B3
        rw [wrap_id (by omega) (by omega)]
        rw [hno] at hsucc
        simp only [Bool.false_eq_true, if_false, List.append_nil] at hsucc
        refine ⟨⟨rfl, rfl, rfl, rfl, rfl, ol.trans ⟨l5.1, fun b o _ ho => l5.2 b o ho, fun b hb => .inl hb⟩, t + 1, by omega, by omega, ?_⟩, by simp; omega⟩
        rw [hsucc, hsame]
        exact (hX.le l5).mono (fun _ h => h) l5.1
      have rd4 : ∀ G5, G.le G5 → ldI .i64 G5 H.length 0 (fun v6 => ld1 G5 H.length 1 (fun v7 => ((Value.agg ⟨[(Value.int .i64 v6), v7]⟩) = (Value.agg ⟨[(Value.int .i64 n), v]⟩)) ∧ (G5 = G5))) := fun G5 l5 => ldI_own (o4.le l5) rfl (ld1_own (o4.le l5) rfl ⟨rfl, rfl⟩)
      unfold F211.B5
      refine pif_cases (fun h1 => pif_cases (fun h2 => ?_) fun h2 => ?_) fun h1 => ?_
      · have hno : okB es c t = false := by
          have := of_decide_eq_true h1
          have := bne_iff_ne.1 h2
          unfold okB
          rw [decide_eq_false (by omega), decide_eq_false (by omega)]; rfl
        exact ⟨skip G (AHeap.le_refl _) hno, skip G (AHeap.le_refl _) hno⟩
      all_goals
        have hon : onlyTo es c.length 3 < 0 ∨ onlyTo es c.length 3 = (t : Int) := by
          first
          | exact .inr (bne_eq_false_iff_eq.1 h2).symm
          | exact .inl (by have := of_decide_eq_false h1; omega)
        have hok : okB es c t = !clashB es c c.length (t : Int) := by
          unfold okB
          rcases hon with e | e
          · rw [decide_eq_true e]; simp
          · rw [decide_eq_true e]; simp
        refine ldI_own o4 rfl (ld1_own o4 rfl (own_push (x := (t : Int)) (R := fun G5 => ldI .i64 G5 H.length 0 (fun v6 => ld1 G5 H.length 1 (fun v7 => ((Value.agg ⟨[(Value.int .i64 v6), v7]⟩) = (Value.agg ⟨[(Value.int .i64 n), v]⟩)) ∧ (G5 = G5)))) huG.ints (by omega) rd4 fun v10 H11 l11 f11 => ?_))
        refine l02Fits2_ok ((he.le hbG).le l11) (by omega) hg f11.ints (by simp) hcl fun H15 l15 => asB_mk ?_
        rw [fitsC, ← hok]
        have l115 := AHeap.le_trans l11 l15
        refine pif_cases (fun hk => skip H15 l115 (by rwa [Bool.not_eq_true'] at hk)) fun hk => ?_
        have hkt : okB es c t = true := by rwa [Bool.not_eq_false'] at hk
        rw [hkt] at hsucc
        simp only [if_true] at hsucc
        have o415 := o4.le l115
        unfold F211.B4
        refine ldI_own o415 rfl (ld1_own o415 rfl (own_push (x := (t : Int)) (R := fun G5 => ldI .i64 G5 H.length 0 (fun v6 => ld1 G5 H.length 1 (fun v7 => ((Value.agg ⟨[(Value.int .i64 v6), v7]⟩) = (Value.agg ⟨[(Value.int .i64 n), v]⟩)) ∧ (G5 = G5)))) (huG.le l115).ints (by omega) (fun G5 l5 => rd4 G5 (AHeap.le_trans l115 l5)) fun v11 H12 l12' f12 => ?_))
        have lG12 := AHeap.le_trans l115 l12'
        refine ih (c ++ [(t : Int)]) H12 _ v11 x2 (out ++ nrmTo es r c t) (by simp; omega) (AHeap.le_trans hbG lG12) (f12.less (Nat.zero_le _)) (fun b hb hb' => ?_) ((hX.le lG12).mono (fun _ h => h) lG12.1) (by have := lG12.1; omega) hlen fun v' G5 ol5 hX5 => ?_
        · have h9 := (f12.bk_lt hb).1
          obtain ⟨vs, _, _, q3, _⟩ := hX
          have := (q3 b hb').2
          have := l115.1
          omega
        · unfold F211.B3
          rw [wrap_id (by omega) (by omega)]
          refine ⟨⟨rfl, rfl, rfl, rfl, rfl, (ol.trans ⟨lG12.1, fun b o _ ho => lG12.2 b o ho, fun b hb => .inl hb⟩).trans ol5, t + 1, by omega, by omega, ?_⟩, by simp; omega⟩
          rw [hsucc, ← List.append_assoc]
          exact hX5
    · have hge : mo + 1 ≤ (out ++ nrmTo es r c t).length := by
        have := of_decide_eq_false hc
        rw [List.length_take] at this; omega
      obtain ⟨R, hRr⟩ := nrmTo_pre (es := es) r c ht
      refine stop ?_
      rw [nrmL_succ, hRr, ← List.append_assoc, take_more hge]
    · have ht3 : t = 3 := by have := of_decide_eq_false hb; omega
      subst ht3
      exact stop (by rw [nrmL_succ])
theorem l02Normal_ok {mo : Nat} (h : Edges H v es) (hg : IsG n es) (hmo : mo ≤ 1000) (k : ∀ v' G, H.le G → RowsF (fun b => H.length ≤ b) G.length G v' ((nrmL es es.length []).take (mo + 1)) → K v' G) :
    AC Tryz.prog T0 177 [.agg ⟨[.int .i64 n, v]⟩, .int .i64 (mo : Nat)] H K := by
  apply F177.ac
  unfold F177.B2
  refine newK_f (all_iv (edges_one' h)) fun H1 l1 n1' o1 => ?_
  unfold F177.B1
  refine ldI_own o1 rfl (ld1_own o1 rfl (newK_f rfl fun H2 l2 n2 o2 => newK_f rfl fun H3 l3 n3 o3 => ?_))
  have l13 := AHeap.le_trans l1 (AHeap.le_trans l2 l3)
  have h1 := l1.1; have h2 := l2.1
  refine l02List_ok (Hb := H) (B0 := H.length) hg hmo h (Nat.le_refl _) es.length [] H3 _ _ _ [] (by simp) l13 (.inr ⟨_, 0, Nat.zero_le _, rfl, o2.le l3, rfl⟩) (fun b hb hb' => ?_) (.nil1 o3 (by omega) o3.lt) l13.1 (Nat.zero_le _) fun v' G ol hR => ?_
  · have e1 : H1.length = b := Option.some.inj hb
    have e2 : H2.length = b := Option.some.inj hb'
    omega
  · rw [List.nil_append] at hR
    refine k v' G ⟨Nat.le_trans l13.1 ol.len, fun b o ho => ol.oth b o (fun e => ?_) (l13.2 _ _ ho)⟩ hR
    have : H2.length = b := Option.some.inj e
    have := lt_of_get ho
    omega
end Go.Proofs
namespace Go.Proofs

section
variable {α : Type} {d : α} {L L' L'' : List α} {a b a' b' i j k : Nat}
structure Cmp (c : α → α → Int) : Prop where
 tr : ∀ x y z, ¬ c y x < 0 → ¬ c z y < 0 → ¬ c z x < 0
 asy : ∀ x y, c x y < 0 → ¬ c y x < 0
abbrev LeC (c : α → α → Int) (x y : α) : Prop := ¬ c y x < 0
variable {c : α → α → Int}
theorem Cmp.lt (h : Cmp c) {x y : α} (hx : c x y < 0) : LeC c x y := h.asy _ _ hx
end
section
variable {α : Type} {le : α → α → Prop}
theorem sorted_same (anti : ∀ a b, le a b → le b a → a = b) : ∀ {A B : List α}, A.Pairwise le → B.Pairwise le → A.Perm B → A = B
 | [], B, _, _, h => (List.nil_perm.1 h).symm ▸ rfl
 | a :: A, [], _, _, h => absurd h.length_eq (by simp)
 | a :: A, b :: B, hA, hB, h => by
  obtain ⟨a1, a2⟩ := List.pairwise_cons.1 hA
  obtain ⟨b1, b2⟩ := List.pairwise_cons.1 hB
  have hab : a = b := by
   apply Classical.byContradiction
   intro hne
   have h1 : a ∈ B := by
    rcases List.mem_cons.1 (h.mem_iff.1 (List.mem_cons_self (a := a) (l := A))) with h | h
    ·exact absurd h hne
    ·exact h
   have h2 : b ∈ A := by
    rcases List.mem_cons.1 (h.mem_iff.2 (List.mem_cons_self (a := b) (l := B))) with h | h
    ·exact absurd h.symm hne
    ·exact h
   exact hne (anti _ _ (a1 _ h2) (b1 _ h1))
  subst hab
  rw [sorted_same anti a2 b2 (List.Perm.cons_inv h)]
end
end Go.Proofs
namespace Go.Proofs
open Go.Abs

variable {H G : AHeap} {K : Value → AHeap → Prop}

end Go.Proofs
namespace Go.Proofs
open Go.Abs

variable {B H G G' : AHeap} {b N : Nat} {L S M : List Nat} {R : List Value} {cmp : Value} {c : Nat → Nat → Int} {dom : Nat → Prop} {K : Value → AHeap → Prop}

theorem wr {x : Int} {i : Nat} (h : x = i) (hi : i ≤ 1000000000000) : IntKind.i64.wrap x = (i : Int) := by rw [h]; exact wrap_id (by omega) (by omega)
structure Kb (b : Nat) (H G : AHeap) : Prop where
 len : H.length ≤ G.length
 old : ∀ q o, q ≠ b → H[q]? = some (some o) → G[q]? = some (some o)
theorem Kb.refl : Kb b H H := ⟨Nat.le_refl _, fun _ _ _ h => h⟩
theorem Kb.trans (h : Kb b H G) (k : Kb b G G') : Kb b H G' := ⟨Nat.le_trans h.len k.len, fun q o hq ho => k.old q o hq (h.old q o hq ho)⟩
theorem Kb.of_le (h : H.le G) : Kb b H G := ⟨h.1, fun q o _ ho => h.2 q o ho⟩
theorem _root_.Go.Abs.But.kb (h : But b H G) : Kb b H G := ⟨Nat.le_of_eq h.len.symm, fun q o hq ho => by rw [h.same q hq]; exact ho⟩
end Go.Proofs
namespace Go.Proofs
open Go.Abs

variable {B H G G' : AHeap} {b N : Nat} {L S M : List Nat} {R : List Value} {cmp : Value} {c : Nat → Nat → Int} {dom : Nat → Prop} {K : Value → AHeap → Prop}

theorem nilP_mk {b o : Nat} {K : Value → Prop} (h : K (.pointer (some ⟨b, o, none⟩))) : nilK (.pointer (some ⟨b, o, none⟩)) K := h
end Go.Proofs
namespace Go.Abs
section
variable {T : TT} {H : AHeap} {n : Nat} {t : TypeId} {cs : List Value}
def isU8 (o : Option TI) : Bool := match o with | some ⟨.int .u8, _, _, _⟩ => true | _ => false
theorem AT_u8 (h : isU8 (T t) = true) (a : AT T H n t cs) : ∃ x, cs = [.int .u8 x] ∧ 0 ≤ x ∧ x ≤ 255 := by
 cases n with
 | zero => exact a.elim
 | succ n =>
  unfold AT at a
  split at a
  ·rename_i ti hti
   rw [hti] at h
   obtain ⟨d, _, _, _⟩ := ti
   cases d <;> first | (simp [isU8] at h; done) | skip
   rename_i k
   cases k <;> first | (simp [isU8] at h; done) | skip
   obtain ⟨x, rfl, hx⟩ := a
   have := Go.bounds_u8 hx
   exact ⟨x, rfl, this.1, this.2⟩
  ·exact a.elim
theorem chunks_u8 {e : TypeId} (he : isU8 (T e) = true) (hz : sz T e = 1) : ∀ (len : Nat) (xs : List Value), Chunked T (AT T H n) (List.replicate len e) xs → ∃ l : List Int, l.length = len ∧ xs = l.map (Value.int .u8) ∧ ∀ x ∈ l, 0 ≤ x ∧ x ≤ 255
 | 0, xs, h => ⟨[], rfl, h, by simp⟩
 | len + 1, xs, h => by
  rw [List.replicate_succ] at h
  obtain ⟨h1, h2, h3⟩ := h
  rw [hz] at h1 h2 h3
  obtain ⟨x, hx, hr⟩ := AT_u8 he h2
  obtain ⟨l, hl, he, hb⟩ := chunks_u8 he hz len _ h3
  refine ⟨x :: l, by simp [hl], ?_, ?_⟩
  ·cases xs with
   | nil => simp at h1
   | cons y ys => simp at hx he ⊢; exact ⟨hx, he⟩
  ·intro y hy
   rcases List.mem_cons.1 hy with rfl | hy
   ·exact hr
   ·exact hb y hy
end
end Go.Abs
namespace Go.Proofs
open Go.Abs

variable {H G Hb : AHeap} {v u f w : Value} {l m : List Int} {K : Value → AHeap → Prop} {bs : Nat}

def Byts (H : AHeap) (v : Value) (l : List Int) : Prop := (∀ x ∈ l, 0 ≤ x ∧ x ≤ 255) ∧ ((v = .slice none 0 0 ∧ l = []) ∨ ∃ a c, v = .slice (some a) l.length c ∧ (l = [] ∨ (a.spot = none ∧ ∀ (i : Nat) x, l[i]? = some x → H.cell a.block (a.off + i) = some (.int .u8 x))))
theorem av_bytes (h : AV T0 H 22 v) : ∃ l, Byts H v l ∧ l.length ≤ 9223372036854775807 := by
 obtain ⟨n, cs, a, rfl⟩ := AV_flat h (by kernel_rfl)
 rcases AT_slice (e := 5) (by kernel_rfl) a with rfl | rfl | ⟨m, b, len, xs, rfl, h2, h3, h4⟩
 ·exact ⟨[], ⟨by simp, .inl ⟨rfl, rfl⟩⟩, by decide⟩
 ·exact ⟨[], ⟨by simp, .inr ⟨_, _, rfl, .inl rfl⟩⟩, by decide⟩
 ·obtain ⟨l, rfl, rfl, hb⟩ := chunks_u8 (by kernel_rfl) (by kernel_rfl) len xs h4
  exact ⟨l, ⟨hb, .inr ⟨_, _, rfl, .inr ⟨rfl, fun i x hx => by rw [cell_own h3]; simp [hx]⟩⟩⟩, by simpa [maxLen] using h2⟩
theorem Byts.le (h : Byts H v l) (hl : H.le G) : Byts G v l := by
 refine ⟨h.1, ?_⟩
 rcases h.2 with h | ⟨a, c, h1, h2 | ⟨h2, h3⟩⟩
 ·exact .inl h
 ·exact .inr ⟨a, c, h1, .inl h2⟩
 ·exact .inr ⟨a, c, h1, .inr ⟨h2, fun i x hx => AHeap.cell_le hl (h3 i x hx)⟩⟩
theorem Byts.one (h : Byts H v l) : v.oneCell' = true := by
 rcases h.2 with ⟨rfl, _⟩ | ⟨a, c, rfl, _⟩ <;> rfl
theorem Byts.len (h : Byts H v l) {K : Nat → Prop} (k : K l.length) : lenK v K := by
 rcases h.2 with ⟨rfl, rfl⟩ | ⟨a, c, rfl, _⟩
 ·exact k
 ·exact k
theorem Byts.rd (h : Byts H v l) {i : Int} (h0 : 0 ≤ i) (h1 : i < l.length) {K : Int → Prop} (k : ∀ x, 0 ≤ x → x ≤ 255 → K x) : idxK v i 1 (fun b o => ldI .u8 H b o K) := by
 rcases h.2 with ⟨rfl, rfl⟩ | ⟨a, c, rfl, h2 | ⟨h2, h3⟩⟩
 ·simp at h1; omega
 ·subst h2; simp at h1; omega
 ·obtain ⟨b, o, sp⟩ := a
  simp only at h2 h3
  subst h2
  have hi : i.toNat < l.length := by omega
  have hx := h3 i.toNat l[i.toNat] (List.getElem?_eq_getElem hi)
  have hr := h.1 l[i.toNat] (List.getElem_mem hi)
  exact ⟨h0, h1, ldI_mk (by rw [Nat.mul_one]; exact hx) (k _ hr.1 hr.2)⟩
def Src (Hb : AHeap) (bs : Nat) (G : AHeap) : Prop := Hb.le G ∧ Hb.length ≤ bs ∧ ∃ cv l a h, Byts Hb cv l ∧ l.length ≤ 4096 ∧ Own G bs 131 [cv, .int .i64 a, .int .u64 h] ∧ 0 ≤ a ∧ a ≤ l.length
theorem Src.le (h : Src Hb bs H) (hl : H.le G) : Src Hb bs G := by
 obtain ⟨h1, h2, cv, l, a, x, h3, h4, h5, h6, h7⟩ := h
 exact ⟨AHeap.le_trans h1 hl, h2, cv, l, a, x, h3, h4, h5.le hl, h6, h7⟩
theorem Src.put {a' h' : Int} (hs : Hb.le H) (h2 : Hb.length ≤ bs) {cv : Value} (hb : Byts Hb cv l) (h4 : l.length ≤ 4096) (b2 : But bs H G) (o2 : Own G bs 131 [cv, .int .i64 a', .int .u64 h']) (h6 : 0 ≤ a') (h7 : a' ≤ l.length) : Src Hb bs G :=
 ⟨b2.le hs h2, h2, cv, l, a', h', hb, h4, o2, h6, h7⟩
theorem l01Next_ok {n : Int} (hs : Src Hb bs H) (k : ∀ r G, Kb bs H G → Src Hb bs G → 0 ≤ r → (1 ≤ n → r < n) → (n < 1 → r = 0) → K (.int .i64 r) G) : AC Tryz.prog T0 66 [.pointer (some ⟨bs, 0, none⟩), .int .i64 n] H K := by
 obtain ⟨h1, h2, cv, l, a, x, hB, h4, ho, h6, h7⟩ := id hs
 apply F66.ac
 unfold F66.B9 F66.B8
 refine pif_cases (fun hb => ?_) fun hb => ?_
 ·have := of_decide_eq_true hb
  unfold F66.B7
  exact k 0 H .refl hs (by omega) (fun h => by omega) fun _ => rfl
 have hn : 1 ≤ n := by have := of_decide_eq_false hb; omega
 have hn0 : n ≠ 0 := by omega
 unfold F66.B6
 refine nilP_mk (asP_mk (ldI_own ho rfl (nilP_mk (asP_mk (stK_1 ho (by simp) rfl fun G1 b1 o1 => ?_)))))
 obtain ⟨h', hh'⟩ : ∃ h', h' = IntKind.u64.wrap (IntKind.u64.wrap (x * 6364136223846793005) + 1442695040888963407) := ⟨_, rfl⟩
 rw [← hh'] at o1
 have o1 : Own G1 bs 131 [cv, .int .i64 a, .int .u64 h'] := o1
 have s1 : Src Hb bs G1 := Src.put h1 h2 hB h4 b1 o1 h6 h7
 have hBG := hB.le s1.1
 unfold F66.B5
 refine nilP_mk (asP_mk (ldI_own o1 rfl ⟨by decide, ?_⟩))
 have hx : ∃ y : Nat, y < 2 ^ 24 ∧ IntKind.i64.wrap (IntKind.u64.wrap (BitVec.ofInt 64 (Int.fdiv h' (2 ^ (min (Int.toNat 33) 64))) &&& BitVec.ofInt 64 16777215).toNat) = (y : Int) := by
  have hlt : (BitVec.ofInt 64 (Int.fdiv h' (2 ^ (min (Int.toNat 33) 64))) &&& BitVec.ofInt 64 16777215).toNat < 2 ^ 24 := by
   rw [BitVec.toNat_and]
   exact Nat.lt_of_le_of_lt Nat.and_le_right (by decide)
  refine ⟨_, hlt, ?_⟩
  rw [u64_nat (by omega), wrap_id (by omega) (by omega)]
 obtain ⟨y, hy, hyx⟩ := hx
 have fin : ∀ (x5 : Int) G2, 0 ≤ x5 → Kb bs H G2 → Src Hb bs G2 → F66.B1 K n x5 G2 := fun x5 G2 h0 kb s2 => by
  unfold F66.B1
  refine pif_t (by simpa using hn0) ?_
  refine k _ G2 kb s2 ?_ (fun _ => ?_) fun h => by omega
  ·exact Int.tmod_nonneg _ h0
  ·exact Int.tmod_lt_of_pos _ (by omega)
 unfold F66.B4
 refine nilP_mk (asP_mk (ldI_own o1 rfl (nilP_mk (asP_mk (ld1_own o1 rfl (hBG.len (pif_cases (fun hc => ?_) fun hc => ?_)))))))
 ·have hal : a < l.length := of_decide_eq_true hc
  unfold F66.B3
  refine nilP_mk (asP_mk (ld1_own o1 rfl (nilP_mk (asP_mk (ldI_own o1 rfl (hBG.rd h6 hal fun z z0 z1 => ?_))))))
  unfold F66.B2
  refine nilP_mk (asP_mk (ldI_own o1 rfl (nilP_mk (asP_mk (stK_1 o1 (by simp) rfl fun G2 b2 o2 => ?_)))))
  rw [wrap_id (x := a + 1) (by omega) (by omega)] at o2
  refine fin _ G2 ?_ (b1.kb.trans b2.kb) (Src.put s1.1 h2 hB h4 b2 o2 (by omega) (by omega))
  show 0 ≤ IntKind.i64.wrap (IntKind.i64.wrap _ + IntKind.i64.wrap z)
  rw [hyx, wrap_id (x := z) (by omega) (by omega), wrap_id (by omega) (by omega)]; omega
 ·refine fin _ G1 ?_ b1.kb s1
  rw [hyx]; omega
theorem l01Pick_ok (hs : Src Hb bs H) (hl : Ints H w l) (h0 : 0 < l.length) (hll : l.length ≤ 1000000) (hw : ∀ x ∈ l, -4611686018427387904 ≤ x ∧ x ≤ 4611686018427387904) (hdis : ∀ G, Kb bs H G → Ints G w l) (k : ∀ r G, Kb bs H G → Src Hb bs G → r ∈ l → K (.int .i64 r) G) : AC Tryz.prog T0 83 [.pointer (some ⟨bs, 0, none⟩), w] H K := by
 apply F83.ac
 unfold F83.B2 F83.B1
 refine hl.len (l01Next_ok hs fun r G kb s2 r0 r1 _ => asI_mk ((hdis G kb).rd r0 (r1 (by omega)) ?_))
 have hr := r1 (by omega)
 refine k _ G kb s2 ?_
 rw [getD_of (by omega)]; exact List.getElem_mem _
end Go.Proofs
namespace Go.Proofs
open Go.Abs

variable {H G : AHeap} {K : Value → AHeap → Prop}

end Go.Proofs
namespace Go.Proofs
open Go.Abs

variable {H G : AHeap}

end Go.Proofs
namespace Go.Proofs
open Go.Abs

variable {H G : AHeap} {v u f : Value} {l m c D : List Int} {es fs : List (Int × Int)} {K : Value → AHeap → Prop} {A A' : Nat → Prop} {B : Nat} {ls ms : List (List Int)}

end Go.Proofs
namespace Go.Proofs
open Go.Abs

variable {H G : AHeap} {v u f : Value} {l m c D : List Int} {es fs : List (Int × Int)} {K : Value → AHeap → Prop} {A A' : Nat → Prop} {B : Nat} {ls ms : List (List Int)}

end Go.Proofs
namespace Go.Proofs
open Go.Abs

variable {H G : AHeap} {v u f : Value} {l m c D : List Int} {es fs : List (Int × Int)} {K : Value → AHeap → Prop} {A A' : Nat → Prop} {B : Nat} {ls ms : List (List Int)}

end Go.Proofs
namespace Go.Proofs
open Go.Abs

variable {H G : AHeap} {v u f : Value} {l m c D : List Int} {es fs : List (Int × Int)} {K : Value → AHeap → Prop} {A A' : Nat → Prop} {B : Nat} {ls ms cs : List (List Int)}

section
variable {p p' : Nat → Bool}
end
end Go.Proofs
namespace Go.Proofs
open Go.Abs

variable {H G : AHeap} {v u f : Value} {l m c D : List Int} {es fs : List (Int × Int)} {K : Value → AHeap → Prop} {A A' : Nat → Prop} {B : Nat} {ls ms : List (List Int)}

end Go.Proofs
namespace Go.Proofs
open Go.Abs

variable {H G : AHeap} {v u f : Value} {l m c D : List Int} {es fs : List (Int × Int)} {K : Value → AHeap → Prop} {p : Nat → Bool} {e : Nat}

end Go.Proofs
namespace Go.Proofs
open Go.Abs

variable {H G : AHeap} {v u f : Value} {l m c D : List Int} {es fs : List (Int × Int)} {K : Value → AHeap → Prop} {A A' : Nat → Prop} {B : Nat} {ls ms cs : List (List Int)}

end Go.Proofs
namespace Go.Proofs
open Go.Abs

variable {H G : AHeap} {v u f : Value} {l m c D S : List Int} {es fs : List (Int × Int)} {K : Value → AHeap → Prop} {cs : List (List Int)}

end Go.Proofs
namespace Go.Proofs
open Go.Abs

variable {H G : AHeap} {v u f : Value} {l m c D : List Int} {es fs : List (Int × Int)} {K : Value → AHeap → Prop} {cs : List (List Int)}

end Go.Proofs
namespace Go.Proofs
open Go.Abs

variable {H G : AHeap} {v u f : Value} {l m c D S : List Int} {es fs : List (Int × Int)} {K : Value → AHeap → Prop} {cs : List (List Int)}

theorem cut_hi {b i : Nat} {K : Value → Prop} (o : Own H b 2 (LI S)) (hi : i ≤ S.length) (k : ∀ v', Ints H v' (S.take i) → K v') : sliceK H 2 (.slice (some ⟨b, 0, none⟩) S.length (S.length + 1)) none (some (.int .i64 (i : Int))) 1 K := by
 refine ⟨⟨_, _, o, by simp⟩, by simp, by simp, by simp; omega, ?_⟩
 refine k _ (.inr ⟨_, _, by simp [Nat.min_eq_left hi]; exact ⟨rfl, rfl⟩, .inr ⟨rfl, fun q x hx => ?_⟩⟩)
 rw [cell_own o]
 have := List.getElem?_eq_some_iff.1 hx
 obtain ⟨hq, he⟩ := this
 rw [List.length_take] at hq
 rw [List.getElem_take] at he
 show (LI S)[0 + 0 * 1 + q]? = _
 rw [show 0 + 0 * 1 + q = q by omega, LI_get, List.getElem?_eq_getElem (by omega), he]; rfl
end Go.Proofs
namespace Go.Proofs
open Go.Abs

variable {H G Hb : AHeap} {v u f w : Value} {l m : List Int} {K : Value → AHeap → Prop} {bs : Nat}

theorem l01From_ok (hB : Byts H v l) (hl : l.length ≤ 4096) (k : ∀ G, H.le G → Src H H.length G → K (.pointer (some ⟨H.length, 0, none⟩)) G) : AC Tryz.prog T0 65 [v] H K := by
 apply F65.ac
 unfold F65.B8 F65.B7
 refine hB.len (pif_t hB.one (newK_f (by simp [hB.one]; exact ⟨rfl, rfl⟩) fun H1 l1 n1 o1 => ?_))
 unfold F65.B6 F65.L2
 refine ⟨fun x0 x3 x4 G => v = x0 ∧ .pointer (some ⟨H.length, 0, none⟩) = x3 ∧ ∃ i : Nat, x4 = i ∧ i ≤ l.length ∧ Src H H.length G, fun _ _ x4 _ => l.length - x4.toNat, ⟨rfl, rfl, 0, rfl, by omega, l1, Nat.le_refl _, v, l, 0, _, hB, hl, o1, by omega, by omega⟩, ?_⟩
 rintro x0 x3 x4 G ⟨rfl, rfl, i, rfl, hi, hs⟩
 obtain ⟨h1, h2, cv, l', a, x, hB', h4, ho, h6, h7⟩ := id hs
 have fin : F65.B1 K (.pointer (some ⟨H.length, 0, none⟩)) G := by
  unfold F65.B1
  exact k G h1 hs
 unfold F65.B5
 refine (hB.le h1).len (pif_cases (fun hb => pif_cases (fun hc => ?_) fun _ => fin) fun _ => fin)
 have hlt : i < l.length := by have := of_decide_eq_true hb; omega
 unfold F65.B4
 refine nilP_mk (asP_mk (ldI_own ho rfl ((hB.le h1).rd (by omega) (by omega) fun z z0 z1 => nilP_mk (asP_mk (stK_1 ho (by simp) rfl fun G2 b2 o2 => ?_)))))
 unfold F65.B3
 rw [wrap_id (by omega) (by omega)]
 exact ⟨⟨rfl, rfl, i + 1, by omega, by omega, Src.put h1 h2 hB' h4 b2 o2 h6 h7⟩, by simp; omega⟩
theorem Src.lt (h : Src Hb bs H) : bs < H.length := by
 obtain ⟨_, _, cv, l, a, x, _, _, ho, _⟩ := h
 exact ho.lt
theorem sl_lo {b N r : Nat} {cs : List Value} {K : Value → Prop} (o : Own G b 2 cs) (hl : N ≤ cs.length) (hr : r ≤ N) (k : K (.slice (some ⟨b, r, none⟩) (N - r) (N - r + 1))) : sliceK G 2 (.slice (some ⟨b, 0, none⟩) N (N + 1)) (some (.int .i64 (r : Nat))) none 1 K :=
 ⟨⟨_, _, o, by simpa using hl⟩, by simp, by simp; omega, by simp, by simpa using k⟩
theorem l01DrawOrder_ok {n : Int} (hs : Src Hb bs H) (h1 : n ≤ 1000) (k : ∀ v' D G, Kb bs H G → Src Hb bs G → Fresh H.length G v' 2 1 (LI D) → D.length = n.toNat → (∀ x ∈ D, 0 ≤ x ∧ x < n) → K v' G) :
    AC Tryz.prog T0 70 [.pointer (some ⟨bs, 0, none⟩), .int .i64 n] H K := by
  have hbs := hs.lt
  apply F70.ac
  unfold F70.B9 F70.B8
  refine newK_f rfl fun H1 l1 n1 o1 => ?_
  unfold F70.B7 F70.L2
  refine ⟨fun x0 x1 x5 x6 G => .pointer (some ⟨bs, 0, none⟩) = x0 ∧ n = x1 ∧ Kb bs H G ∧ Src Hb bs G ∧ ∃ (i b : Nat) (D : List Int), x6 = i ∧ i ≤ n.toNat ∧ H.length ≤ b ∧ x5 = .slice (some ⟨b, 0, none⟩) i (i + 1) ∧ D.length = i ∧ Own G b 2 (LI D) ∧ ∀ x ∈ D, 0 ≤ x ∧ x < n, fun _ _ _ x6 _ => n.toNat - x6.toNat,
    ⟨rfl, rfl, .of_le l1, hs.le l1, 0, H.length, [], rfl, by omega, Nat.le_refl _, rfl, rfl, o1, by simp⟩, ?_⟩
  rintro x0 x1 x5 x6 G ⟨rfl, rfl, kb, s, i, b, D, rfl, hi, hb, rfl, hD, ho, hr⟩
  unfold F70.B6
  refine pif_cases (fun hc => ?_) fun hc => ?_
  · have hlt : i < n.toNat := by have := of_decide_eq_true hc; omega
    unfold F70.B5
    rw [wrap_id (by omega) (by omega)]
    refine l01Next_ok s fun r G1 k1 s1 r0 r1 _ => asI_mk ?_
    obtain ⟨r, rfl⟩ : ∃ r' : Nat, r = r' := ⟨r.toNat, by omega⟩
    have hri : r ≤ i := by have := r1 (by omega); omega
    have o1 : Own G1 b 2 (LI D) := k1.old b _ (by omega) ho
    have kb1 := kb.trans k1
    have lo : ∀ {G' : AHeap} {K : Value → Prop}, Own G' b 2 (LI D) → K (.slice (some ⟨b, r, none⟩) (i - r) (i - r + 1)) → sliceK G' 2 (.slice (some ⟨b, 0, none⟩) i (i + 1)) (some (.int .i64 (r : Nat))) none 1 K := fun o k => sl_lo o (by simp [hD]) hri k
    have hi1 : sliceK G1 2 (.slice (some ⟨b, 0, none⟩) i (i + 1)) none (some (.int .i64 (r : Nat))) 1 (fun v1 => Ints G1 v1 (D.take r)) := by
      have := cut_hi (K := fun v' => Ints G1 v' (D.take r)) (i := r) o1 (by omega) fun v' hv' => hv'
      rwa [hD] at this
    have fin : ∀ v12 G13, G1.le G13 → Fresh H.length G13 v12 2 1 (LI (D.take r ++ [(i : Int)] ++ D.drop r)) → F70.B3 K (fun z0 z1 z5 z6 G' => (.pointer (some ⟨bs, 0, none⟩) = z0 ∧ n = z1 ∧ Kb bs H G' ∧ Src Hb bs G' ∧ ∃ (i b : Nat) (D : List Int), z6 = i ∧ i ≤ n.toNat ∧ H.length ≤ b ∧ z5 = .slice (some ⟨b, 0, none⟩) i (i + 1) ∧ D.length = i ∧ Own G' b 2 (LI D) ∧ ∀ x ∈ D, 0 ≤ x ∧ x < n) ∧ n.toNat - z6.toNat < n.toNat - (i : Int).toNat) (.pointer (some ⟨bs, 0, none⟩)) n v12 i G13 := by
      intro v12 G13 l13 f13
      unfold F70.B3
      rw [wrap_id (by omega) (by omega)]
      have hlen : (D.take r ++ [(i : Int)] ++ D.drop r).length = i + 1 := by simp; omega
      rcases f13 with ⟨h0, _⟩ | ⟨b', c, hb', rfl, o', hc'⟩
      · have := congrArg List.length h0
        rw [List.length_map, hlen, List.length_nil] at this; omega
      · have hcc : c = i + 1 := by rw [List.length_map, hlen] at hc'; omega
        subst hcc
        refine ⟨⟨rfl, rfl, kb1.trans (.of_le l13), s1.le l13, i + 1, b', _, by omega, by omega, hb', rfl, hlen, o', fun x hx => ?_⟩, by simp; omega⟩
        rcases List.mem_append.1 hx with hx | hx
        · rcases List.mem_append.1 hx with hx | hx
          · exact hr x (List.mem_of_mem_take hx)
          · rw [List.mem_singleton.1 hx]; omega
        · exact hr x (List.mem_of_mem_drop hx)
    have cells : ∀ {G' : AHeap}, Own G' b 2 (LI D) → cellsAt G' (.slice (some ⟨b, r, none⟩) (i - r) (i - r + 1)) 1 (i - r) (LI (D.drop r)) := fun {G'} o => by
      refine ⟨by simp [hD], _, _, rfl, .inr ⟨b, r, rfl, fun q x hx => ?_⟩⟩
      rw [cell_own o]
      rw [List.getElem?_map, List.getElem?_drop] at hx
      rw [List.getElem?_map]; exact hx
    have hG1 : H.length ≤ G1.length := kb1.len
    have last : ∀ v9 G10 m0, G1.le G10 → G1.length ≤ m0 → m0 ≤ G10.length → Fresh m0 G10 v9 2 1 (LI (D.take r ++ [(i : Int)])) → apK T0 2 G10 v9 (.slice (some ⟨b, r, none⟩) (i - r) (i - r + 1)) (fun v12 H13 => F70.B3 K (fun z0 z1 z5 z6 G' => (.pointer (some ⟨bs, 0, none⟩) = z0 ∧ n = z1 ∧ Kb bs H G' ∧ Src Hb bs G' ∧ ∃ (i b : Nat) (D : List Int), z6 = i ∧ i ≤ n.toNat ∧ H.length ≤ b ∧ z5 = .slice (some ⟨b, 0, none⟩) i (i + 1) ∧ D.length = i ∧ Own G' b 2 (LI D) ∧ ∀ x ∈ D, 0 ≤ x ∧ x < n) ∧ n.toNat - z6.toNat < n.toNat - (i : Int).toNat) (.pointer (some ⟨bs, 0, none⟩)) n v12 i H13) := by
      intro v9 G10 m0 l10 hm1 hm' f10
      have hm : H.length ≤ m0 := Nat.le_trans hG1 hm1
      refine f10.sl.app E_int (by decide) hm' (cells (o1.le l10)) (by simp; omega) (fun h0 => ?_) fun v12 G13 k13 _ _ f13 => ?_
      · have hd : D.drop r = [] := List.map_eq_nil_iff.1 h0
        refine fin v9 G10 l10 ?_
        rw [hd, List.append_nil]
        exact f10.less hm
      · refine fin v12 G13 (k13.le l10 hm1) ?_
        have := f13.less hm
        simpa using this
    unfold F70.B4
    obtain ⟨a1, a2, a3, a4, a5⟩ := hi1
    refine ⟨a1, a2, a3, a4, lo o1 ⟨l01Own_ok a5 (by rw [List.length_take]; omega) fun v3 G4 l4 f4 => ⟨lo (o1.le l4) ⟨rfl, rfl⟩, ?_⟩, newK_f rfl fun G15 l15 n15 o15 => l01Own_ok (a5.le l15) (by rw [List.length_take]; omega) fun v16 G17 l17 f17 => ⟨lo (o1.le (AHeap.le_trans l15 l17)) ⟨rfl, rfl⟩, ?_⟩⟩⟩
    · refine f4.sl.pushN E_int (by decide) l4.1 (n := 1) (ys := [.int .i64 (i : Nat)]) rfl rfl (by simp; omega) (by simp) fun v9 G10 k10 _ _ f10 => ?_
      have l10 := k10.le l4 (Nat.le_refl _)
      exact ⟨lo (o1.le l10) ⟨rfl, rfl⟩, last v9 G10 G1.length l10 (Nat.le_refl _) l10.1 (by simpa using f10)⟩
    · have hcs : cellsAt G17 (.slice (some ⟨G1.length, 0, none⟩) 1 (1 + 1)) 1 1 [.int .i64 (i : Nat)] := cellsAt_row (o15.le l17) rfl
      refine f17.sl.app E_int (by decide) l17.1 hcs (by simp; omega) (fun h => by cases h) fun v20 G21 k21 _ _ f21 => ?_
      have l21 := AHeap.le_trans l15 (k21.le l17 (Nat.le_refl _))
      exact ⟨lo (o1.le l21) ⟨rfl, rfl⟩, last v20 G21 G15.length l21 l15.1 (k21.le l17 (Nat.le_refl _)).1 (by simpa using f21)⟩
  · have hie : i = n.toNat := by have := of_decide_eq_false hc; omega
    subst hie
    unfold F70.B1
    exact k _ D G kb s (.inr ⟨b, n.toNat, hb, rfl, ho, by simp [hD]⟩) hD hr
end Go.Proofs
namespace Go.Proofs
open Go.Abs

variable {B H G G' : AHeap} {b N : Nat} {L S M : List (Int × Int)} {cmp : Value} {c : (Int × Int) → (Int × Int) → Int} {dom : (Int × Int) → Prop} {K : Value → AHeap → Prop}

end Go.Proofs
namespace Go.Proofs
open Go.Abs

variable {B H G G' : AHeap} {b N : Nat} {L S M : List (Int × Int)} {cmp : Value} {c : (Int × Int) → (Int × Int) → Int} {dom : (Int × Int) → Prop} {K : Value → AHeap → Prop}

end Go.Proofs
namespace Go.Proofs
open Go.Abs

variable {B H G G' : AHeap} {b N : Nat} {L S M : List (Int × Int)} {cmp : Value} {c : (Int × Int) → (Int × Int) → Int} {dom : (Int × Int) → Prop} {K : Value → AHeap → Prop}

end Go.Proofs
namespace Go.Proofs
open Go.Abs

variable {B H G G' : AHeap} {b N : Nat} {L S M : List (Int × Int)} {cmp : Value} {c : (Int × Int) → (Int × Int) → Int} {dom : (Int × Int) → Prop} {K : Value → AHeap → Prop}

end Go.Proofs
namespace Go.Proofs
open Go.Abs

variable {H G : AHeap} {v u f w : Value} {es fs S : List (Int × Int)} {K : Value → AHeap → Prop}

section
variable {α : Type} {d : α} {c : α → α → Int} {S : List α} {j : Nat} {x : α}
theorem insG_sorted (hc : Cmp c) (hS : S.Pairwise (LeC c)) (hj : j ≤ S.length) (h1 : ∀ q, j ≤ q → q < S.length → c x (S.getD q d) < 0) (h2 : j = 0 ∨ ¬ c x (S.getD (j - 1) d) < 0) : (S.take j ++ ([x] ++ S.drop j)).Pairwise (LeC c) := by
 have hS' := hS
 rw [← List.take_append_drop j S, List.pairwise_append] at hS'
 obtain ⟨p1, p2, p3⟩ := hS'
 rw [List.pairwise_append]
 refine ⟨p1, ?_, fun a ha b hb => ?_⟩
 ·rw [List.singleton_append, List.pairwise_cons]
  refine ⟨fun b hb => ?_, p2⟩
  obtain ⟨i, hi, rfl⟩ := List.getElem_of_mem hb
  rw [List.length_drop] at hi
  have := h1 (j + i) (by omega) (by omega)
  rw [getD_of (by omega)] at this
  rw [List.getElem_drop]; exact hc.lt this
 ·rw [List.singleton_append, List.mem_cons] at hb
  rcases hb with rfl | hb
  ·obtain ⟨i, hi, rfl⟩ := List.getElem_of_mem ha
   rw [List.length_take] at hi
   rw [List.getElem_take]
   rcases h2 with h2 | h2
   ·omega
   ·rw [getD_of (by omega)] at h2
    by_cases e : i = j - 1
    ·subst e; exact h2
    ·exact hc.tr _ _ _ ((List.pairwise_iff_getElem.1 hS) i (j - 1) (by omega) (by omega) (by omega)) h2
  ·exact p3 a ha b hb
theorem insG_perm : (S.take j ++ ([x] ++ S.drop j)).Perm (S ++ [x]) := by
 have h1 : (S.take j ++ ([x] ++ S.drop j)).Perm (S.take j ++ (S.drop j ++ [x])) := List.Perm.append_left _ List.perm_append_comm
 have e : S.take j ++ (S.drop j ++ [x]) = S ++ [x] := by rw [← List.append_assoc, List.take_append_drop]
 rw [← e]; exact h1
end
theorem cmpE_ord : Cmp cmpE := ⟨fun x y z h1 h2 => by
    rw [cmpE_neg] at *; unfold ltE at *; omega, fun x y h => by rw [cmpE_neg] at *; unfold ltE at *; omega⟩
def nrmE (e : Int × Int) : Int × Int := (if e.2 < e.1 then e.2 else e.1, if e.2 > e.1 then e.2 else e.1)
noncomputable def srtE (l : List (Int × Int)) : List (Int × Int) := l.mergeSort fun a b => decide (LeC cmpE a b)
theorem srtE_perm (l : List (Int × Int)) : (srtE l).Perm l := List.mergeSort_perm _ _
theorem srtE_eq {l : List (Int × Int)} (h1 : S.Pairwise (LeC cmpE)) (h2 : S.Perm l) : S = srtE l := by
 refine sorted_same (le := LeC cmpE) (fun a b h1 h2 => ?_) h1 ?_ (h2.trans (srtE_perm l).symm)
 ·have e1 : ¬ ltE b a := fun h => h1 ((cmpE_neg _ _).2 h)
  have e2 : ¬ ltE a b := fun h => h2 ((cmpE_neg _ _).2 h)
  unfold ltE at e1 e2
  exact Prod.ext (by omega) (by omega)
 ·have := List.pairwise_mergeSort (le := fun a b => decide (LeC cmpE a b)) (fun a b c h1 h2 => by
   rw [decide_eq_true_iff] at *; exact cmpE_ord.tr _ _ _ h1 h2) (fun a b => by
   by_cases h : cmpE a b < 0
   ·rw [Bool.or_eq_true]; left; exact decide_eq_true (cmpE_ord.lt h)
   ·rw [Bool.or_eq_true]; right; exact decide_eq_true h) l
  exact this.imp fun h => of_decide_eq_true h
theorem srtE_length (l : List (Int × Int)) : (srtE l).length = l.length := (srtE_perm l).length_eq

theorem fresh_neE {m0 : Nat} (h : Fresh m0 H v 78 2 (LE es)) (hl : 0 < es.length) : ∃ b, m0 ≤ b ∧ v = .slice (some ⟨b, 0, none⟩) es.length (es.length + 1) ∧ Own H b 78 (LE es) := by
 rcases h with ⟨h0, _⟩ | ⟨b, n, hb, rfl, h3, h4⟩
 ·have := congrArg List.length h0; rw [LE_length, List.length_nil] at this; omega
 ·rw [LE_length] at h4
  have hn : n = es.length := by omega
  subst hn
  exact ⟨b, hb, rfl, h3⟩
theorem own_idx2 {b n : Nat} {x : Int} {K : Nat → Nat → Prop} (h0 : 0 ≤ x) (h1 : x < n) (k : K b (x.toNat * 2)) : idxK (.slice (some ⟨b, 0, none⟩) n (n + 1)) x 2 K := ⟨h0, h1, by simpa using k⟩
theorem own_edge {b n j : Nat} {K : Int → Int → Prop} (o : Own H b 78 (LE S)) (hn : S.length = n) (hj : j < n) (k : K (S.getD j (0, 0)).1 (S.getD j (0, 0)).2) : idxK (.slice (some ⟨b, 0, none⟩) n (n + 1)) (j : Int) 2 (fun b o => ldI .i64 H b o fun p => ldI .i64 H b (o + 1) fun q => K p q) := by
 obtain ⟨g1, g2⟩ := LE_get S j (S.getD j (0, 0)) (by rw [getD_of (by omega)]; exact List.getElem?_eq_getElem (by omega))
 refine own_idx2 (by omega) (by omega) ?_
 rw [Int.toNat_natCast]
 exact ldI_own o g1 (ldI_own o g2 k)
theorem set_edge {b n j : Nat} {x : Int × Int} {K : AHeap → Prop} (o : Own H b 78 (LE S)) (hn : S.length = n) (hj : j < n) (k : ∀ G, But b H G → Own G b 78 (LE (S.set j x)) → K G) :
    idxK (.slice (some ⟨b, 0, none⟩) n (n + 1)) (j : Int) 2 (fun b o => stK H b o [.int .i64 x.1, .int .i64 x.2] K) := by
  have LL := LE_length S
  refine own_idx2 (by omega) (by omega) (stK_f (new := LE (S.set j x)) o (by rw [LL, Int.toNat_natCast]; show j * 2 + 2 ≤ _; omega) (by simp [Value.oneCell']) (by rw [Int.toNat_natCast]; exact LE_set S x (by omega)) k)

theorem l01Sort_ok (h : Edges H v es) (hl : es.length ≤ 1048576) (k : ∀ v' G, H.le G → Fresh H.length G v' 78 2 (LE (srtE (es.map nrmE))) → K v' G) : AC Tryz.prog T0 182 [v] H K := by
 apply F182.ac
 unfold F182.B14 F182.B13
 refine newK_f rfl fun H1 l1 n1 o1 => ?_
 unfold F182.B12 F182.L2
 refine ⟨fun x0 x3 x4 G => v = x0 ∧ H.le G ∧ ∃ (i bo : Nat) (S : List (Int × Int)), x4 = i ∧ i ≤ es.length ∧ H.length ≤ bo ∧ x3 = .slice (some ⟨bo, 0, none⟩) S.length (S.length + 1) ∧ Own G bo 78 (LE S) ∧ S.Pairwise (LeC cmpE) ∧ S.Perm ((es.take i).map nrmE),
  fun _ _ x4 _ => es.length - x4.toNat, ⟨rfl, l1, 0, H.length, [], rfl, by omega, Nat.le_refl _, rfl, o1, List.Pairwise.nil, by simp⟩, ?_⟩
 rintro x0 x3 x4 G ⟨rfl, lG, i, bo, S, rfl, hi, hbo, rfl, oS, sS, pS⟩
 have hSl : S.length = i := by have := pS.length_eq; rw [List.length_map, List.length_take] at this; omega
 unfold F182.B11
 refine (h.le lG).len (pif_cases (fun hb => ?_) fun hb => ?_)
 rotate_left
 ·have hil : i = es.length := by have := of_decide_eq_false hb; omega
  subst hil
  rw [List.take_length] at pS
  unfold F182.B1
  refine k _ G lG (.inr ⟨bo, S.length, hbo, rfl, ?_, ?_⟩)
  ·rw [← srtE_eq sS pS]; exact oS
  ·rw [← srtE_eq sS pS, LE_length]
 have hil : i < es.length := by have := of_decide_eq_true hb; omega
 obtain ⟨eb, eo, hk, c1, c2⟩ := (h.le lG).idx (show (0 : Int) ≤ i by omega) (by omega)
 simp only [Int.toNat_natCast] at c1 c2
 obtain ⟨e, he⟩ : ∃ e, e = nrmE (es.getD i (0, 0)) := ⟨_, rfl⟩
 have hbl := oS.lt
 unfold F182.B10
 refine hk _ (ldI_mk c1 (hk _ (ldI_mk c2 (hk _ (ldI_mk c1 (hk _ (ldI_mk c2 (lenK_of (newK_f rfl fun G1 l1' n1' o1' => stK_f (new := [.int .i64 e.1, .int .i64 e.2]) o1' (by simp) (by simp [Value.oneCell']) (by rw [he]; rfl) fun G2 b2 o2 => ?_)))))))))
 have l2 : G.le G2 := b2.le l1' (Nat.le_refl _)
 have lG2 := AHeap.le_trans lG l2
 have oS2 := oS.le l2
 unfold F182.B9
 refine ldI_own o2 rfl (ldI_own o2 rfl ?_)
 refine Sl.pushN (m := H.length) E_edge (by decide) (Fresh.sl (.inr ⟨bo, S.length, hbo, rfl, oS2, LE_length S⟩)) lG2.1 (n := 1) (ys := [.int .i64 e.1, .int .i64 e.2]) rfl rfl (by rw [LE_length]; simp; omega) (by simp) fun v' G3 k3 ot3 nb3 f3 => ?_
 have f3 : Fresh H.length G3 v' 78 2 (LE (S ++ [e])) := by rw [LE_append]; exact f3
 obtain ⟨b3, hb3, rfl, o3⟩ := fresh_neE f3 (by simp)
 have hn3 : G2.length ≤ b3 := nb3 b3 rfl
 have lG3 : H.le G3 := k3.le lG2 (Nat.le_refl _)
 have ox3 : Own G3 G.length 78 [.int .i64 e.1, .int .i64 e.2] := ot3 _ _ (fun hv => by cases hv; omega) o2
 have hlen3 : (S ++ [e]).length = S.length + 1 := by simp
 rw [hlen3]
 unfold F182.L5
 refine ⟨fun x0 x3 x4 x5 x6 G' => v = x0 ∧ .slice (some ⟨b3, 0, none⟩) (S.length + 1) (S.length + 1 + 1) = x3 ∧ (i : Int) = x4 ∧ G.length = x5 ∧ H.le G' ∧ Own G' G.length 78 [.int .i64 e.1, .int .i64 e.2] ∧ ∃ (j : Nat) (g : Int × Int), x6 = j ∧ j ≤ S.length ∧ Own G' b3 78 (LE (S.take j ++ ([g] ++ S.drop j))) ∧ ∀ q, j ≤ q → q < S.length → cmpE e (S.getD q (0, 0)) < 0,
  fun _ _ _ _ x6 _ => x6.toNat, ⟨rfl, rfl, rfl, rfl, lG3, ox3, S.length, e, rfl, Nat.le_refl _, by rw [List.take_length, List.drop_length, List.append_nil]; exact o3, fun q h1 h2 => by omega⟩, ?_⟩
 clear ox3 o3 f3 ot3 nb3 lG3 k3
 rintro x0 x3 x4 x5 x6 G' ⟨rfl, rfl, rfl, rfl, lG', oe, j, g, rfl, hj, oj, hgt⟩
 have hbG : G.length < b3 := by have := b2.len; omega
 obtain ⟨T, hT⟩ : ∃ T, T = S.take j ++ ([g] ++ S.drop j) := ⟨_, rfl⟩
 have hTl : T.length = S.length + 1 := by rw [hT]; simp [Nat.min_eq_left hj]; omega
 have hTj : ∀ x, T.set j x = S.take j ++ ([x] ++ S.drop j) := fun x => by
  rw [hT, List.set_append_right _ _ (by simp; omega)]
  simp [Nat.min_eq_left hj]
 rw [← hT] at oj
 have next : (j = 0 ∨ ¬ cmpE e (S.getD (j - 1) (0, 0)) < 0) → ∀ G', H.le G' → Own G' b3 78 (LE T) → Own G' G.length 78 [.int .i64 e.1, .int .i64 e.2] → F182.B4 K (fun z0 z3 z4 G'' => (v = z0 ∧ H.le G'' ∧ ∃ (i bo : Nat) (S : List (Int × Int)), z4 = i ∧ i ≤ es.length ∧ H.length ≤ bo ∧ z3 = .slice (some ⟨bo, 0, none⟩) S.length (S.length + 1) ∧ Own G'' bo 78 (LE S) ∧ S.Pairwise (LeC cmpE) ∧ S.Perm ((es.take i).map nrmE)) ∧ es.length - z4.toNat < es.length - (i : Int).toNat) v (.slice (some ⟨b3, 0, none⟩) (S.length + 1) (S.length + 1 + 1)) i G.length j G' := by
  intro hst G' lG' oj oe
  unfold F182.B4
  refine ldI_own oe rfl (ldI_own oe rfl (set_edge (x := e) oj hTl (by omega) fun G5 b5 o5 => ?_))
  rw [hTj] at o5
  unfold F182.B3
  rw [wrap_id (by omega) (by omega)]
  have hlen : (S.take j ++ ([e] ++ S.drop j)).length = S.length + 1 := by simp [Nat.min_eq_left hj]; omega
  refine ⟨⟨rfl, b5.le lG' hb3, i + 1, b3, _, by omega, by omega, hb3, by rw [hlen], o5, insG_sorted (d := (0, 0)) cmpE_ord sS hj hgt hst, insG_perm.trans ?_⟩, by omega⟩
  rw [List.take_succ_eq_append_getElem hil, List.map_append, List.map_singleton, he, getD_of hil]
  exact pS.append_right _
 unfold F182.B8
 refine pif_cases (fun hb => ?_) fun hb => next (.inl (by have := of_decide_eq_false hb; omega)) G' lG' oj oe
 have hj0 : 0 < j := by have := of_decide_eq_true hb; omega
 have hT1 : T.getD (j - 1) (0, 0) = S.getD (j - 1) (0, 0) := by
  rw [hT]
  simp [List.getD, List.getElem?_append_left (show j - 1 < (S.take j).length by simp; omega), List.getElem?_take_of_lt (show j - 1 < j by omega)]
 have w1 : IntKind.i64.wrap ((j : Int) - 1) = ((j - 1 : Nat) : Int) := wr (by omega) (by omega)
 rw [w1]
 refine ldI_own oe rfl (ldI_own oe rfl (own_edge (j := j - 1) oj hTl (by omega) ?_))
 rw [hT1]
 refine l01Before_ok (a := e) (b := S.getD (j - 1) (0, 0)) fun G5 l5 => asB_mk (pif_cases (fun hq => ?_) fun hq => ?_)
 ·have hlt := (cmpE_neg _ _).2 (of_decide_eq_true hq)
  have oj5 := oj.le l5
  unfold F182.B7
  rw [w1]
  refine own_edge (j := j - 1) oj5 hTl (by omega) ?_
  rw [hT1]
  refine set_edge (x := S.getD (j - 1) (0, 0)) oj5 hTl (by omega) fun G6 b6 o6 => ?_
  rw [hTj] at o6
  unfold F182.B6
  rw [w1]
  refine ⟨⟨rfl, rfl, rfl, rfl, b6.le (AHeap.le_trans lG' l5) hb3, b6.own (oe.le l5) (by omega), j - 1, S.getD (j - 1) (0, 0), rfl, by omega, ?_, fun q h1 h2 => ?_⟩, ?_⟩
  ·have e1 : S.take (j - 1) ++ ([S.getD (j - 1) (0, 0)] ++ S.drop (j - 1)) = S.take j ++ ([S.getD (j - 1) (0, 0)] ++ S.drop j) := by
    obtain ⟨j', rfl⟩ : ∃ j', j = j' + 1 := ⟨j - 1, by omega⟩
    rw [Nat.add_sub_cancel, getD_of (show j' < S.length by omega), List.drop_eq_getElem_cons (show j' < S.length by omega), List.take_succ_eq_append_getElem (show j' < S.length by omega), List.append_assoc]
    rfl
   rw [e1]; exact o6
  ·by_cases e2 : q = j - 1
   ·subst e2; exact hlt
   ·exact hgt q (by omega) h2
  ·show ((j - 1 : Nat) : Int).toNat < ((j : Nat) : Int).toNat
   omega
 ·exact next (.inr fun hc => of_decide_eq_false hq ((cmpE_neg _ _).1 hc)) G5 (AHeap.le_trans lG' l5) (oj.le l5) (oe.le l5)
theorem fresh_one {m0 : Nat} (h : Fresh m0 H v 78 2 (LE es)) : v.oneCell' = true := edges_one' h.edges
theorem l01Made_ok {n : Int} (h : Edges H v es) (hl : es.length ≤ 1048576) (k : ∀ v' G, H.le G → Fresh H.length G v' 78 2 (LE (srtE (es.map nrmE))) → K (.agg ⟨[.int .i64 n, v']⟩) G) : AC Tryz.prog T0 141 [.int .i64 n, v] H K := by
 apply F141.ac
 unfold F141.B2
 refine newK_f rfl fun H1 l1 n1 o1 => ?_
 unfold F141.B1
 refine l01Sort_ok (h.le l1) hl fun v' G l2 f2 => pif_t (fresh_one f2) (stK_f (new := [.int .i64 n, v']) (o1.le l2) (by simp) (mem_iv (fresh_one f2)) rfl fun G3 b3 o3 => ldI_own o3 rfl (ld1_own o3 rfl ?_))
 have hl1 := l1.1
 exact k v' G3 (b3.le (AHeap.le_trans l1 l2) (Nat.le_refl _)) ((f2.but b3 (by omega)).less hl1)

end Go.Proofs
namespace Go.Proofs
open Go.Abs

variable {H G : AHeap} {v u f w : Value} {es fs S : List (Int × Int)} {l : List Int} {K : Value → AHeap → Prop}

theorem push_edge {m0 : Nat} {x : Int × Int} (hF : Fresh m0 H v 78 2 (LE es)) (hm : m0 ≤ H.length) (hs : es.length < 1000000)
    (k : ∀ v' G, Keep m0 H G → Oth v H G → (∀ b, bk v' = some b → H.length ≤ b) → Fresh m0 G v' 78 2 (LE (es ++ [x])) → K v' G) :
    newK H [.int .i64 x.1, .int .i64 x.2] 78 (fun b1 H2 => apK T0 78 H2 v (.slice (some ⟨b1, 0, none⟩) 1 (1 + 1)) K) := by
  refine hF.sl.pushN E_edge (by decide) hm (n := 1) (ys := [.int .i64 x.1, .int .i64 x.2]) rfl rfl (by rw [LE_length]; simp; omega) (by simp) fun v' G k1 ot nb f => k v' G k1 ot nb ?_
  rw [LE_append]; exact f
theorem edges_cells (h : Edges H v es) : cellsAt H v 2 es.length (LE es) := by
 rcases h with ⟨rfl, rfl⟩ | ⟨a, c, rfl, h⟩
 ·exact ⟨rfl, none, 0, rfl, .inl rfl⟩
 ·refine ⟨LE_length es, some a, c, rfl, ?_⟩
  rcases h with rfl | ⟨h1, h2⟩
  ·exact .inl rfl
  ·refine .inr ⟨a.block, a.off, by cases a; simp at h1; subst h1; rfl, fun i x hx => ?_⟩
   have hi := lt_of_get hx
   rw [LE_length] at hi
   obtain ⟨g1, g2⟩ := h2 (i / 2) (es.getD (i / 2) (0, 0)) (by rw [getD_of (by omega)]; exact List.getElem?_eq_getElem (by omega))
   obtain ⟨q1, q2⟩ := LE_get es (i / 2) (es.getD (i / 2) (0, 0)) (by rw [getD_of (by omega)]; exact List.getElem?_eq_getElem (by omega))
   rcases (by omega : i = i / 2 * 2 ∨ i = i / 2 * 2 + 1) with e | e
   ·rw [e, q1] at hx
    rw [e]; cases hx; exact g1
   ·rw [e, q2] at hx
    rw [e]; cases hx; exact g2
theorem app_edges {m0 : Nat} (hs : Sl m0 H v 78 2 (LE es)) (hm : m0 ≤ H.length) (h : Edges H u fs) (h0 : 0 < fs.length) (hl : es.length + fs.length ≤ 1000000) (k : ∀ v' G, Keep m0 H G → Oth v H G → Fresh m0 G v' 78 2 (LE (es ++ fs)) → K v' G) : apK T0 78 H v u K := by
 refine hs.app E_edge (by decide) hm (edges_cells h) (by rw [LE_length, LE_length]; omega) (fun e => ?_) fun v' G k1 ot nb f => k v' G k1 ot (by rw [LE_append]; exact f)
 have := congrArg List.length e; rw [LE_length, List.length_nil] at this; omega
end Go.Proofs
namespace Go.Proofs
open Go.Abs

variable {H G : AHeap} {v u f w : Value} {es fs S : List (Int × Int)} {l : List Int} {K : Value → AHeap → Prop}

def k4A : List (Int × Int) := [(0, 1), (0, 2), (0, 3), (1, 2), (1, 3), (2, 3)]
end Go.Proofs
namespace Go.Proofs
open Go.Abs

variable {H G Hb : AHeap} {v u f w : Value} {l m : List Int} {es : List (Int × Int)} {K : Value → AHeap → Prop} {bs : Nat} {n : Int}

def EdR (n : Int) (es : List (Int × Int)) : Prop := ∀ e ∈ es, 0 ≤ e.1 ∧ e.1 < n ∧ 0 ≤ e.2 ∧ e.2 < n
structure Gd (n : Int) (es : List (Int × Int)) : Prop where
 pos : 0 < es.length
 len : es.length ≤ 1000
 rng : EdR n es
theorem EdR.made (h : EdR n es) : EdR n (srtE (es.map nrmE)) := fun e he => by
 obtain ⟨a, ha, rfl⟩ := List.mem_map.1 ((srtE_perm _).mem_iff.1 he)
 have := h a ha
 unfold nrmE
 simp only
 split <;> split <;> omega
theorem Gd.made (h : Gd n es) : Gd n (srtE (es.map nrmE)) := ⟨by rw [srtE_length, List.length_map]; exact h.pos, by rw [srtE_length, List.length_map]; exact h.len, h.rng.made⟩
theorem EdR.snoc (h : EdR n es) {a b : Int} (ha : 0 ≤ a ∧ a < n) (hb : 0 ≤ b ∧ b < n) : EdR n (es ++ [(a, b)]) := fun e he => by
 rcases List.mem_append.1 he with he | he
 ·exact h e he
 ·rw [List.mem_singleton.1 he]; exact ⟨ha.1, ha.2, hb.1, hb.2⟩
theorem l01DrawOf_ok (hs : Src Hb bs H) (h2 : 2 ≤ n) (hn : n ≤ 100) (he : n % 2 = 0) (k : ∀ v' es G, Kb bs H G → Src Hb bs G → Fresh H.length G v' 78 2 (LE es) → Gd n es → K (.agg ⟨[.int .i64 n, v']⟩) G) :
    AC Tryz.prog T0 150 [.pointer (some ⟨bs, 0, none⟩), .int .i64 n] H K := by
  have hbs := hs.lt
  have nilR : EdR n [] := fun e he => absurd he (by simp)
  apply F150.ac
  unfold F150.B24
  refine newK_f rfl fun H1 l1 n1 o1 => ?_
  unfold F150.B23 F150.L10
  refine ⟨fun x0 x1 x4 x5 G => .pointer (some ⟨bs, 0, none⟩) = x0 ∧ n = x1 ∧ H.length = x4 ∧ Kb bs H G ∧ Src Hb bs G ∧ Own G H.length 26 [.int .i64 0, .slice none 0 0] ∧ ∃ i : Nat, x5 = i ∧ i ≤ 20, fun _ _ _ x5 _ => 20 - x5.toNat, ⟨rfl, rfl, rfl, .of_le l1, hs.le l1, o1, 0, rfl, by omega⟩, ?_⟩
  rintro x0 x1 x4 x5 G ⟨rfl, rfl, rfl, kb, s, ob, i, rfl, hi⟩
  have hHG := kb.len
  have fin : ∀ v' es G', Kb bs H G' → Src Hb bs G' → Own G' H.length 26 [.int .i64 0, .slice none 0 0] → Fresh H.length G' v' 78 2 (LE es) → Gd n es → (∀ b, bk v' = some b → b ≠ H.length) → stK G' H.length 0 [.int .i64 n, v'] (fun H7 => ldI .i64 H7 H.length 0 (fun v8 => ld1 H7 H.length 1 (fun v9 => K (.agg ⟨[.int .i64 v8, v9]⟩) H7))) := by
    intro v' es G' kb' s' ob' f' g' hne
    refine stK_f (new := [.int .i64 n, v']) ob' (by simp) (mem_iv (fresh_one f')) rfl fun G5 b5 o5 => ldI_own o5 rfl (ld1_own o5 rfl ?_)
    have hsb : Src Hb bs G5 := by
      obtain ⟨h1, h2, cv, l, a, x, h3, h4, h5, h6, h7⟩ := s'
      have hlt := h1.1
      exact ⟨b5.le h1 (by omega), h2, cv, l, a, x, h3, h4, b5.own h5 (by omega), h6, h7⟩
    refine k v' es G5 ⟨by rw [b5.len]; exact kb'.len, fun q o hq ho => ?_⟩ hsb (fresh_oth f' fun b o hb ho => by rw [b5.same b (hne b hb)]; exact ho) g'
    have := lt_of_get ho
    rw [b5.same q (by omega)]; exact kb'.old q o hq ho
  have made : ∀ v' es G', Kb bs H G' → Src Hb bs G' → Own G' H.length 26 [.int .i64 0, .slice none 0 0] → Edges G' v' es → Gd n es → AC Tryz.prog T0 141 [.int .i64 n, v'] G' (fun v1 H2 => agg2 v1 (fun v3 v4 => asI .i64 v3 (fun v5 => stK H2 H.length 0 [.int .i64 v5, v4] (fun H7 => ldI .i64 H7 H.length 0 (fun v8 => ld1 H7 H.length 1 (fun v9 => K (.agg ⟨[.int .i64 v8, v9]⟩) H7)))))) := by
    intro v' es G' kb' s' ob' h' g'
    have hlt := ob'.lt
    refine l01Made_ok h' (by have := g'.len; omega) fun v2 G2 l2 f2 => agg2_mk (asI_mk ?_)
    exact fin v2 _ G2 (kb'.trans (.of_le l2)) (s'.le l2) (ob'.le l2) (f2.less kb'.len) g'.made fun b hb => by have := (f2.bk_lt hb).1; omega
  have hd2 : IntKind.i64.wrap (Int.tdiv n 2) = n / 2 := by rw [Int.tdiv_eq_ediv_of_nonneg (by omega), wrap_id (by omega) (by omega)]
  unfold F150.B22
  refine pif_cases (fun hb => ?_) fun hb => ?_
  rotate_left
  · unfold F150.B9
    refine newK_f rfl fun G1 g1 m1 p1 => ?_
    have hlt := ob.lt
    unfold F150.B8 F150.L2
    refine ⟨fun x1 x4 x12 x13 G' => n = x1 ∧ H.length = x4 ∧ G.le G' ∧ ∃ (j : Nat) (es : List (Int × Int)), x13 = j ∧ (j : Int) ≤ n ∧ Fresh G.length G' x12 78 2 (LE es) ∧ EdR n es ∧ j ≤ es.length ∧ es.length ≤ 2 * j, fun _ _ _ x13 _ => (n - x13).toNat, ⟨rfl, rfl, g1, 0, [], rfl, by omega, .inr ⟨_, 0, Nat.le_refl _, rfl, p1, rfl⟩, nilR, by simp, by simp⟩, ?_⟩
    rintro x1 x4 x12 x13 G' ⟨rfl, rfl, lG, j, es, rfl, hj, hF, hE, hl1, hl2⟩
    have next : ∀ v3 G4 es', G.le G4 → Fresh G.length G4 v3 78 2 (LE es') → EdR n es' → j + 1 ≤ es'.length → es'.length ≤ 2 * (j + 1) → (j : Int) < n → F150.B3 K (fun y1 y4 y12 y13 G' => (n = y1 ∧ H.length = y4 ∧ G.le G' ∧ ∃ (j : Nat) (es : List (Int × Int)), y13 = j ∧ (j : Int) ≤ n ∧ Fresh G.length G' y12 78 2 (LE es) ∧ EdR n es ∧ j ≤ es.length ∧ es.length ≤ 2 * j) ∧ (n - y13).toNat < (n - (j : Int)).toNat) n H.length v3 j G4 := by
      intro v3 G4 es' l4 f4 e4 h3 h4 h5
      unfold F150.B3
      rw [wrap_id (by omega) (by omega)]
      exact ⟨⟨rfl, rfl, l4, j + 1, es', by omega, by omega, f4, e4, h3, h4⟩, by omega⟩
    unfold F150.B7
    refine pif_cases (fun hc => ?_) fun hc => ?_
    · have hlt := of_decide_eq_true hc
      unfold F150.B6
      rw [wrap_id (by omega) (by omega)]
      have t0 : 0 ≤ Int.tmod ((j : Int) + 1) n := Int.tmod_nonneg _ (by omega)
      have t1 : Int.tmod ((j : Int) + 1) n < n := Int.tmod_lt_of_pos _ (by omega)
      have hE1 := hE.snoc (a := j) (b := Int.tmod ((j : Int) + 1) n) ⟨by omega, hlt⟩ ⟨t0, t1⟩
      refine pif_t (by simp; omega) (push_edge (x := ((j : Int), Int.tmod ((j : Int) + 1) n)) hF lG.1 (by omega) fun v3 G4 k4 _ _ f4 => ?_)
      have l4 := k4.le lG (Nat.le_refl _)
      unfold F150.B5
      rw [hd2]
      refine pif_cases (fun hq => ?_) fun hq => next v3 G4 _ l4 f4 hE1 (by simp; omega) (by simp; omega) hlt
      have hq := of_decide_eq_true hq
      unfold F150.B4
      rw [hd2, wrap_id (by omega) (by omega)]
      refine push_edge (x := ((j : Int), (j : Int) + n / 2)) f4 l4.1 (by simp; omega) fun v5 G6 k6 _ _ f6 => ?_
      exact next v5 G6 _ (k6.le l4 (Nat.le_refl _)) f6 (hE1.snoc ⟨by omega, by omega⟩ ⟨by omega, by omega⟩) (by simp; omega) (by simp; omega) hlt
    · have hge := of_decide_eq_false hc
      unfold F150.B1
      exact made x12 es G' (kb.trans (.of_le lG)) (s.le lG) (ob.le lG) hF.edges ⟨by omega, by omega, hE⟩
  · have hi20 := of_decide_eq_true hb
    unfold F150.B21
    rw [wrap_id (by omega) (by omega)]
    refine l01DrawOrder_ok s (by omega) fun v1 D G1 k1 s1 f1 hDl hDr => newK_f rfl fun G2 l2 n2 o2 => ?_
    have ob1 : Own G1 H.length 26 [.int .i64 0, .slice none 0 0] := k1.old _ _ (by omega) ob
    have kb2 := (kb.trans k1).trans (.of_le l2)
    have s2 := s1.le l2
    have hDi : ∀ G', G1.le G' → Ints G' v1 D := fun G' l => f1.ints.le l
    unfold F150.B20 F150.L14
    refine ⟨fun x0 x1 x4 x5 x6 x7 x8 x9 G' => .pointer (some ⟨bs, 0, none⟩) = x0 ∧ n = x1 ∧ H.length = x4 ∧ (i : Int) = x5 ∧ v1 = x6 ∧ G1.le G' ∧ ∃ (j : Nat) (es : List (Int × Int)), x9 = 2 * (j : Int) ∧ 2 * (j : Int) ≤ 3 * n ∧ Fresh G1.length G' x7 78 2 (LE es) ∧ EdR n es ∧ es.length = j, fun _ _ _ _ _ _ _ x9 _ => (3 * n - x9).toNat, ⟨rfl, rfl, rfl, rfl, rfl, l2, 0, [], rfl, by omega, .inr ⟨_, 0, Nat.le_refl _, rfl, o2, rfl⟩, nilR, rfl⟩, ?_⟩
    rintro x0 x1 x4 x5 x6 x7 x8 x9 G' ⟨rfl, rfl, rfl, rfl, rfl, lG, j, es, rfl, hj, hF, hE, hel⟩
    have hDG := hDi G' lG
    unfold F150.B19
    refine hDG.len (pif_cases (fun hc => ?_) fun hc => ?_)
    · have hlt : 2 * (j : Int) < 3 * n := by have := of_decide_eq_true hc; omega
      have r1 := hDr (D.getD (2 * (j : Int)).toNat 0) (by rw [getD_of (by omega)]; exact List.getElem_mem _)
      have r2 := hDr (D.getD (2 * (j : Int) + 1).toNat 0) (by rw [getD_of (by omega)]; exact List.getElem_mem _)
      have q1 : IntKind.i64.wrap (Int.tdiv (D.getD (2 * (j : Int)).toNat 0) 3) = D.getD (2 * (j : Int)).toNat 0 / 3 := by rw [Int.tdiv_eq_ediv_of_nonneg (by omega), wrap_id (by omega) (by omega)]
      have q2 : IntKind.i64.wrap (Int.tdiv (D.getD (2 * (j : Int) + 1).toNat 0) 3) = D.getD (2 * (j : Int) + 1).toNat 0 / 3 := by rw [Int.tdiv_eq_ediv_of_nonneg (by omega), wrap_id (by omega) (by omega)]
      unfold F150.B18
      rw [wrap_id (by omega) (by omega)]
      refine hDG.rd (by omega) (by omega) (hDG.rd (by omega) (by omega) ?_)
      rw [q1, q2]
      unfold F150.B17
      refine push_edge (x := (D.getD (2 * (j : Int)).toNat 0 / 3, D.getD (2 * (j : Int) + 1).toNat 0 / 3)) hF lG.1 (by omega) fun v3 G4 k4 _ _ f4 => ?_
      have l4 := k4.le lG (Nat.le_refl _)
      unfold F150.B16
      refine pif_cases (fun _ => ?_) fun _ => ?_
      all_goals
        unfold F150.B15
        rw [wrap_id (by omega) (by omega)]
        exact ⟨⟨rfl, rfl, rfl, rfl, rfl, l4, j + 1, _, by omega, by omega, f4, hE.snoc ⟨by omega, by omega⟩ ⟨by omega, by omega⟩, by simp [hel]⟩, by show (3 * n - (2 * (j : Int) + 2)).toNat < (3 * n - 2 * (j : Int)).toNat; omega⟩
    · have hge := of_decide_eq_false hc
      unfold F150.B13
      refine pif_cases (fun hq => ?_) fun hq => ?_
      · unfold F150.B12
        exact made x7 es G' ((kb.trans k1).trans (.of_le lG)) (s1.le lG) (ob1.le lG) hF.edges ⟨by omega, by omega, hE⟩
      · unfold F150.B11
        rw [wrap_id (by omega) (by omega)]
        exact ⟨⟨rfl, rfl, rfl, (kb.trans k1).trans (.of_le lG), s1.le lG, ob1.le lG, i + 1, by omega, by omega⟩, by show 20 - ((i : Int) + 1).toNat < 20 - (i : Int).toNat; omega⟩
end Go.Proofs
namespace Go.Proofs
open Go.Abs

variable {H G Hb : AHeap} {v u f w : Value} {l m D : List Int} {es : List (Int × Int)} {K : Value → AHeap → Prop} {bs : Nat} {n : Int}

def renE (D : List Int) (es : List (Int × Int)) : List (Int × Int) := es.map fun e => (D.getD e.1.toNat 0, D.getD e.2.toNat 0)
theorem renE_rng (hD : D.length = n.toNat) (hr : ∀ x ∈ D, 0 ≤ x ∧ x < n) (h : EdR n es) : EdR n (renE D es) := fun e he => by
 obtain ⟨a, ha, rfl⟩ := List.mem_map.1 he
 have h1 := h a ha
 have m1 : D.getD a.1.toNat 0 ∈ D := by rw [getD_of (by omega)]; exact List.getElem_mem _
 have m2 : D.getD a.2.toNat 0 ∈ D := by rw [getD_of (by omega)]; exact List.getElem_mem _
 have h2 := hr _ m1
 have h3 := hr _ m2
 exact ⟨h2.1, h2.2, h3.1, h3.2⟩
theorem l01Renamed_ok (h : Edges H v es) (hg : Gd n es) (hi : Ints H u D) (hD : D.length = n.toNat) (hr : ∀ x ∈ D, 0 ≤ x ∧ x < n) (k : ∀ v' es' G, H.le G → Fresh H.length G v' 78 2 (LE es') → Gd n es' → K (.agg ⟨[.int .i64 n, v']⟩) G) :
    AC Tryz.prog T0 69 [.agg ⟨[.int .i64 n, v]⟩, u] H K := by
  have hlen := hg.len
  apply F69.ac
  unfold F69.B8
  refine newK_f (all_iv (edges_one' h)) fun H1 l1 n1 o1 => newK_f rfl fun H2 l2 n2 o2 => ?_
  have l02 := AHeap.le_trans l1 l2
  have o12 := o1.le l2
  unfold F69.B7
  refine newK_f rfl fun H3 l3 n3 o3 => ?_
  unfold F69.B6 F69.L2
  refine ⟨fun x1 x2 x4 x5 x6 G => u = x1 ∧ H.length = x2 ∧ H1.length = x4 ∧ H2.le G ∧ ∃ i : Nat, x6 = i ∧ i ≤ es.length ∧ Fresh H2.length G x5 78 2 (LE (renE D (es.take i))), fun _ _ _ _ x6 _ => es.length - x6.toNat, ⟨rfl, rfl, rfl, l3, 0, rfl, by omega, .inr ⟨_, 0, Nat.le_refl _, rfl, o3, rfl⟩⟩, ?_⟩
  rintro x1 x2 x4 x5 x6 G ⟨rfl, rfl, rfl, lG, i, rfl, hil, hF⟩
  have l0G := AHeap.le_trans l02 lG
  unfold F69.B5
  refine ld1_own (o12.le lG) rfl ((h.le l0G).len (pif_cases (fun hb => ?_) fun hb => ?_))
  · have hlt : i < es.length := by have := of_decide_eq_true hb; omega
    have hm : es.getD i (0, 0) ∈ es := by rw [getD_of hlt]; exact List.getElem_mem _
    have hrg := hg.rng _ hm
    obtain ⟨bb, oo, hk, c1, c2⟩ := (h.le l0G).idx (show (0 : Int) ≤ i by omega) (by omega)
    simp only [Int.toNat_natCast] at c1 c2
    unfold F69.B4
    refine ld1_own (o12.le lG) rfl (hk _ (ldI_mk c1 ((hi.le l0G).rd (by omega) (by omega) (ld1_own (o12.le lG) rfl (hk _ (ldI_mk c2 ((hi.le l0G).rd (by omega) (by omega) ?_)))))))
    refine push_edge (x := (D.getD (es.getD i (0, 0)).1.toNat 0, D.getD (es.getD i (0, 0)).2.toNat 0)) hF lG.1 (by simp [renE]; omega) fun v3 G4 k4 _ _ f4 => ?_
    unfold F69.B3
    rw [wrap_id (by omega) (by omega)]
    refine ⟨⟨rfl, rfl, rfl, k4.le lG (Nat.le_refl _), i + 1, by omega, by omega, ?_⟩, by simp; omega⟩
    have e : renE D (es.take (i + 1)) = renE D (es.take i) ++ [(D.getD (es.getD i (0, 0)).1.toNat 0, D.getD (es.getD i (0, 0)).2.toNat 0)] := by
      unfold renE
      rw [List.take_succ_eq_append_getElem hlt, List.map_append, ← getD_of (d := (0, 0)) hlt]; rfl
    rw [e]; exact f4
  · have hie : i = es.length := by have := of_decide_eq_false hb; omega
    subst hie
    rw [List.take_length] at hF
    have hG' : Gd n (renE D es) := ⟨by unfold renE; rw [List.length_map]; exact hg.pos, by unfold renE; rw [List.length_map]; exact hg.len, renE_rng hD hr hg.rng⟩
    unfold F69.B1
    refine ldI_own (o12.le lG) rfl (l01Made_ok hF.edges (by have := hG'.len; omega) fun v2 G2 g2 f2 => agg2_mk (asI_mk ?_))
    have l2G := AHeap.le_trans lG g2
    have hb1 := o2.lt
    refine stK_f (new := [.int .i64 n, v2]) (o2.le l2G) (by simp) (mem_iv (fresh_one f2)) rfl fun G5 b5 o5 => ldI_own o5 rfl (ld1_own o5 rfl ?_)
    have hGl := lG.1
    have h0l := l1.1
    exact k v2 _ G5 (b5.le (AHeap.le_trans l02 l2G) h0l) (((f2.but b5 (by omega)).less (by omega))) hG'.made
end Go.Proofs
namespace Go.Proofs
open Go.Abs

variable {H G Hb : AHeap} {v u f w : Value} {l m D : List Int} {es : List (Int × Int)} {K : Value → AHeap → Prop} {bs : Nat} {n : Int}

theorem l01Cycle_ok {m0 c : Nat} (hF : Fresh m0 H v 78 2 (LE es)) (hm : m0 ≤ H.length) (oc : Own H c 2 (LI D)) (hc : bk v ≠ some c) (hr : EdR n es) (hD : ∀ x ∈ D, 0 ≤ x ∧ x < n) (hl : es.length + D.length ≤ 1000)
    (k : ∀ v' es' G, Keep m0 H G → Fresh m0 G v' 78 2 (LE es') → EdR n es' → es'.length = es.length + D.length → (∀ b, bk v' = some b → bk v = some b ∨ H.length ≤ b) → K v' G) :
    AC Tryz.prog T0 142 [v, .slice (some ⟨c, 0, none⟩) D.length (D.length + 1)] H K := by
  have hcl := oc.lt
  apply F142.ac
  unfold F142.B7 F142.B6 F142.L2
  refine ⟨fun x0 x1 x5 G => .slice (some ⟨c, 0, none⟩) D.length (D.length + 1) = x1 ∧ Keep m0 H G ∧ Own G c 2 (LI D) ∧ (∀ b, bk x0 = some b → bk v = some b ∨ H.length ≤ b) ∧ ∃ (i : Nat) (es' : List (Int × Int)), x5 = i ∧ i ≤ D.length ∧ Fresh m0 G x0 78 2 (LE es') ∧ EdR n es' ∧ es'.length = es.length + i, fun _ _ x5 _ => D.length - x5.toNat, ⟨rfl, ⟨Nat.le_refl _, fun _ _ _ h => h⟩, oc, fun b hb => .inl hb, 0, es, rfl, by omega, hF, hr, rfl⟩, ?_⟩
  rintro x0 x1 x5 G ⟨rfl, kp, oG, hbk, i, es', rfl, hi, hFG, hrG, hlG⟩
  have hkl := kp.len
  have hiG : Ints G (.slice (some ⟨c, 0, none⟩) D.length (D.length + 1)) D := own_ints oG
  unfold F142.B5
  refine lenK_of (pif_cases (fun hb => ?_) fun hb => ?_)
  · have hlt : i < D.length := by have := of_decide_eq_true hb; omega
    have t0 : 0 ≤ Int.tmod ((i : Int) + 1) (D.length : Int) := Int.tmod_nonneg _ (by omega)
    have t1 : Int.tmod ((i : Int) + 1) (D.length : Int) < D.length := Int.tmod_lt_of_pos _ (by omega)
    have r1 := hD (D.getD (i : Int).toNat 0) (by rw [getD_of (by omega)]; exact List.getElem_mem _)
    have t2 : (Int.tmod ((i : Int) + 1) (D.length : Int)).toNat < D.length := (Int.toNat_lt t0).2 t1
    have r2 := hD (D.getD (Int.tmod ((i : Int) + 1) (D.length : Int)).toNat 0) (by rw [getD_of t2]; exact List.getElem_mem _)
    unfold F142.B4
    rw [wrap_id (by omega) (by omega)]
    have d0 : ((D.length : Nat) : Int) ≠ 0 := by omega
    refine hiG.rd (by omega) (by omega) (lenK_of (pif_t (by simpa using d0) (hiG.rd t0 t1 ?_)))
    refine push_edge (x := (D.getD (i : Int).toNat 0, D.getD (Int.tmod ((i : Int) + 1) (D.length : Int)).toNat 0)) hFG (Nat.le_trans hm hkl) (by rw [hlG]; exact Nat.lt_of_le_of_lt (show es.length + i ≤ 1000 by omega) (by decide)) fun v3 G4 k4 ot nb f4 => ?_
    unfold F142.B3
    rw [wrap_id (by omega) (by omega)]
    refine ⟨⟨rfl, ⟨by have := k4.len; omega, fun b o hb ho => k4.old b o hb (kp.old b o hb ho)⟩, ot c _ (fun h => ?_) oG, fun b hb => .inr (by have := nb b hb; omega), i + 1, _, by omega, by omega, f4, hrG.snoc r1 r2, by simp; omega⟩, by simp; omega⟩
    rcases hbk c h with h | h
    · exact hc h
    · omega
  · have hie : i = D.length := by have := of_decide_eq_false hb; omega
    subst hie
    unfold F142.B1
    exact k x0 es' G kp hFG hrG hlG hbk
end Go.Proofs
