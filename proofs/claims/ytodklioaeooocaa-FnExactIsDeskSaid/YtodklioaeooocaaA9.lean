/- Stores and appends. -/
import Derived.Test.YtodklioaeooocaaA8
set_option linter.unusedVariables false
set_option linter.unusedSimpArgs false
namespace Go.Abs
open Go.RowKit
section
variable {P : Program} {T : TT} {G : Nat} {w0 w : World} {ρ : Loc} {H : AHeap} {env : Env} {a : Act}

def putBlk (w : World) (b : Nat) (C : Array Value) (e : TypeId) : World := { w with heap := w.heap.setIfInBounds b (.cells C e (0, 0)) }
theorem putBlk_get {b : Nat} {o : Obj} (h : w.heap[b]? = some o) (C : Array Value) (e : TypeId) : (putBlk w b C e).heap[b]? = some (.cells C e (0, 0)) := by
  simp [putBlk, lt_of_getA h]
theorem putBlk_putBlk (b : Nat) (C C2 : Array Value) (e : TypeId) : putBlk (putBlk w b C e) b C2 e = putBlk w b C2 e := by
  simp [putBlk]
theorem putBlk_self {b : Nat} {C : Array Value} {e : TypeId} (h : w.heap[b]? = some (.cells C e (0, 0))) : putBlk w b C e = w := by
  obtain ⟨hlt, h'⟩ := Array.getElem?_eq_some_iff.1 h
  have : w.heap.setIfInBounds b (.cells C e (0, 0)) = w.heap := by
    apply Array.ext
    · simp
    · intro i h1 h2
      by_cases hi : i = b
      · subst hi; simp [h']
      · rw [Array.getElem_setIfInBounds_ne]; omega
  simp [putBlk, this]
theorem setCell_putBlk {b : Nat} {C : Array Value} {e : TypeId} (h : w.heap[b]? = some (.cells C e (0, 0))) (o : Nat) (v : Value) : w.setCell ⟨b, o, none⟩ v = putBlk w b (C.setIfInBounds o v) e := by
  obtain ⟨hlt, h'⟩ := Array.getElem?_eq_some_iff.1 h
  simp only [World.setCell, putBlk, World.mk.injEq, and_true, true_and]
  apply Array.ext
  · simp
  · intro i h1 h2
    by_cases hi : i = b
    · subst hi; simp [Array.getElem_modify, h']
    · rw [Array.getElem_setIfInBounds_ne _ (by omega), Array.getElem_modify, if_neg (by omega)]

theorem run_storeCells {b : Nat} {e : TypeId} : ∀ (vs : List Value) (w : World) (C : Array Value) (c : Addr) (o i : Nat), c = ⟨b, o, none⟩ → w.heap[b]? = some (.cells C e (0, 0)) → (vs = [] ∨ o + i + vs.length ≤ C.size) → (∀ v ∈ vs, v.oneCell' = true) →
    ∃ C' : Array Value, C'.size = C.size ∧ C'.toList = C.toList.take (o + i) ++ vs ++ C.toList.drop (o + i + vs.length) ∧ (storeCells c vs i).run P w = .ok () (putBlk w b C' e)
  | [], w, C, c, o, i, hc, hw, hl, h1 => ⟨C, rfl, by simp, by simp [storeCells, putBlk_self hw]⟩
  | v :: vs, w, C, c, o, i, hc, hw, hl, h1 => by
    have hadd : c.add i = ⟨b, o + i, none⟩ := by subst hc; rw [Addr.add_eq _ rfl]
    have hl := hl.resolve_left (by simp)
    simp only [List.length_cons] at hl
    have hcell : ∃ u, w.cell? ⟨b, o + i, none⟩ = some u := ⟨C[o + i]'(by omega), by simp [World.cell?, hw, Array.getElem?_eq_getElem (show o + i < C.size by omega)]⟩
    obtain ⟨u, hu⟩ := hcell
    have hfr : w.frozen? ⟨b, o + i, none⟩ = false := by simp [World.frozen?, hw]
    obtain ⟨C', g1, g2, g3⟩ := run_storeCells vs (putBlk w b (C.setIfInBounds (o + i) v) e) (C.setIfInBounds (o + i) v) c o (i + 1) hc (putBlk_get hw _ _) (.inr (by simp; omega)) (fun x hx => h1 x (by simp [hx]))
    refine ⟨C', by simpa using g1, ?_, ?_⟩
    · rw [g2]
      have hb : o + i < C.toList.length := by simp; omega
      simp only [Array.toList_setIfInBounds, List.length_cons]
      rw [show o + (i + 1) = o + i + 1 by omega, show o + i + 1 + vs.length = o + i + (vs.length + 1) by omega]
      rw [List.take_add_one, List.getElem?_set_self (by simpa using hb), List.take_set_of_le (by omega), List.drop_set_of_lt (by omega)]
      simp
    · simp only [storeCells, Sem.run_bind, hadd, run_store P w _ v _ (h1 v (by simp)), hu, hfr, Result.andThen_ok]
      rw [if_neg (by simp), Result.andThen_ok, setCell_putBlk hw, g3, putBlk_putBlk]

theorem splice_get {α : Type} (old cs : List α) (o i : Nat) (h : cs = [] ∨ o + cs.length ≤ old.length) :
    (old.take o ++ cs ++ old.drop (o + cs.length))[i]? = if i < o then old[i]? else if i < o + cs.length then cs[i - o]? else old[i]? := by
  rcases h with rfl | h
  · simp
    intros; omega
  · by_cases h1 : i < o
    · rw [if_pos h1, List.append_assoc, List.getElem?_append_left (by simp; omega), List.getElem?_take_of_lt h1]
    · rw [if_neg h1]
      by_cases h2 : i < o + cs.length
      · rw [if_pos h2, List.getElem?_append_left (by simp; omega), List.getElem?_append_right (by simp; omega)]
        congr 1; simp; omega
      · rw [if_neg h2, List.getElem?_append_right (by simp; omega), List.getElem?_drop]
        congr 1; simp; omega

theorem stK_elim {b o : Nat} {cs : List Value} {K : AHeap → Prop} (h : stK H b o cs K) : ∃ old e, H[b]? = some (some (.row old e true)) ∧ o + cs.length ≤ old.length ∧ (∀ v ∈ cs, v.oneCell' = true) ∧
    K (H.set b (some (.row (old.take o ++ cs ++ old.drop (o + cs.length)) e true))) := by
  unfold stK at h; split at h
  · exact ⟨_, _, by assumption, h⟩
  · exact h.elim

theorem VRs.one {xs ys : List Value} (h : VRs ρ xs ys) (h1 : ∀ v ∈ xs, v.oneCell' = true) : ∀ v ∈ ys, v.oneCell' = true := by
  intro v hv
  obtain ⟨i, hi, rfl⟩ := List.getElem_of_mem hv
  have hl := h.length
  obtain ⟨v', e, r⟩ := h.get i xs[i] (by simp [hl, hi])
  simp [hi] at e
  rw [← e] at r
  rw [r.one]
  exact h1 _ (by simp)

theorem store_turns (hT : TT.ok P T) (R : Rel T G w0 ρ H w) {t : TypeId} {ti : TI} (ht : T t = some ti) {v v' p p' : Value} (hv : VR ρ v v') (hp : VR ρ p p') {K : AHeap → Prop}
    (h : cellsOf ti.zero v fun cs => pif (decide (cs.length = ti.size)) (asP p fun b o => stK H b o cs K) False) :
    ∃ H' w', K H' ∧ Rel T G w0 ρ H' w' ∧ (Instr.storeAt t p' v').run P w = .ok () w' := by
  have h := cellsOf_elim h
  rcases pif_true h with ⟨hl, h⟩ | ⟨_, h⟩
  · have hl := of_decide_eq_true hl
    obtain ⟨b, o, rfl, h⟩ := asP_elim h
    obtain ⟨old, e, hb, hlen, hone, hk⟩ := stK_elim h
    obtain ⟨r, hr, rfl⟩ := hp.ptr_inv
    obtain ⟨r1, C, e', fr, g1, g2, g3, g4, g5, g6⟩ := R.row b old e true hb
    rw [hr] at g1
    obtain rfl := Option.some.inj g1
    obtain ⟨rfl, rfl, g8⟩ := g5 rfl
    have hvs := hv.cells
    have hvl := hvs.length
    have hsz : v'.cells.toList = [] ∨ r.sh + o + 0 + v'.cells.toList.length ≤ C.size := by
      rcases Nat.eq_zero_or_pos old.length with h0 | h0
      · left
        exact List.length_eq_zero_iff.1 (by omega)
      · obtain ⟨_, v', hv', _⟩ := g4 (old.length - 1) old[old.length - 1] (List.getElem?_eq_getElem _)
        have := lt_of_getA hv'
        right; omega
    obtain ⟨C', k1, k2, k3⟩ := run_storeCells (P := P) v'.cells.toList w C ⟨r.blk, r.sh + o, none⟩ (r.sh + o) 0 rfl g2 hsz (hvs.one hone)
    refine ⟨_, putBlk w r.blk C' e', hk, ?_, ?_⟩
    · refine R.turn (b := b) (b' := b) (sh' := r.sh) (cs' := old.take o ++ v.cells.toList ++ old.drop (o + v.cells.toList.length)) hb hr C' k1 g2 rfl ρ (Loc.le_refl ρ) ?_ (by simp) (fun x s hs => by have := R.dom x s hs; simpa using this) (by simpa using hr) ?_
      · intro x o' hx
        by_cases hxb : x = b
        · subst hxb
          rw [List.getElem?_set_self (lt_of_get hb)] at hx
          exact .inl ⟨rfl, (Option.some.inj (Option.some.inj hx)).symm⟩
        · rw [List.getElem?_set_ne (by omega)] at hx
          exact .inr ⟨hxb, hxb, hx, rfl⟩
      · intro i u hu
        rw [splice_get _ _ _ _ (.inr hlen)] at hu
        have hC := splice_get C.toList v'.cells.toList (r.sh + o) (r.sh + i) (by simpa using hsz)
        simp only [Nat.add_zero] at k2
        rw [← k2] at hC
        simp only [Array.getElem?_toList, ← hvl] at hC
        rw [hC]
        by_cases h1 : i < o
        · rw [if_pos h1] at hu
          rw [if_pos (by omega)]
          exact g4 i u hu
        · rw [if_neg h1] at hu
          rw [if_neg (by omega)]
          by_cases h2 : i < o + v.cells.toList.length
          · rw [if_pos h2] at hu
            rw [if_pos (by omega)]
            obtain ⟨u', q2, q3⟩ := hvs.get _ u hu
            refine ⟨hone u (List.mem_of_getElem? hu), u', ?_, q3⟩
            rw [show r.sh + i - (r.sh + o) = i - o by omega]; simpa using q2
          · rw [if_neg h2] at hu
            rw [if_neg (by omega)]
            exact g4 i u hu
    · simp only [Instr.storeAt, Instr.sureAddr, Sem.run_bind, Sem.run_pure, Result.andThen_ok, storeVar, run_sizeOf hT ht]
      rw [if_neg (by simp at hvl; simp at hl; simp; omega)]
      simp only [pure_bind, k3]
  · exact h.elim

theorem growBy_le (n : Nat) : ∀ (k c : Nat), Builtin.growBy n k c + 768 ≤ 2 ^ k * (c + 768)
  | 0, c => by simp [Builtin.growBy]
  | k + 1, c => by
    unfold Builtin.growBy
    split
    · have : 1 ≤ 2 ^ (k + 1) := Nat.one_le_two_pow
      calc c + 768 = 1 * (c + 768) := by omega
        _ ≤ 2 ^ (k + 1) * (c + 768) := Nat.mul_le_mul_right _ this
    · have h := growBy_le n k (c + (c + 768) / 4)
      have h2 : c + (c + 768) / 4 + 768 ≤ 2 * (c + 768) := by omega
      calc _ ≤ 2 ^ k * (c + (c + 768) / 4 + 768) := h
        _ ≤ 2 ^ k * (2 * (c + 768)) := Nat.mul_le_mul_left _ h2
        _ = 2 ^ (k + 1) * (c + 768) := by rw [Nat.pow_succ, Nat.mul_assoc]
theorem nextslicecap_le {need cap : Nat} (h : need ≤ 4294967296) (h2 : cap < need) : Builtin.nextslicecap need cap ≤ 68719489024 := by
  unfold Builtin.nextslicecap
  split
  · omega
  · split
    · omega
    · have := growBy_le need 4 cap
      omega

theorem ownAt_vals (R : Rel T G w0 ρ H w) {e : TypeId} {ti : TI} (he : T e = some ti) {s s' : Value} {n : Nat} {ss : List Value} {H' : AHeap} (h : ownAt H e s ti.size n ss H') (hs : VR ρ s s') :
    ∃ y cap', s' = .slice y n cap' ∧ n ≤ cap' ∧ ss.length = n * ti.size ∧ (∀ v ∈ ss, v.oneCell' = true) ∧
      (cap' = 0 ∧ n = 0 ∧ ss = [] ∧ H' = H ∨
       (∃ b o cs r, H[b]? = some (some (.row cs e true)) ∧ ρ b = some r ∧ H' = H.set b none ∧ y = some ⟨r.blk, r.sh + o, none⟩ ∧ o + n * ti.size ≤ cs.length ∧ ss = (cs.drop o).take (n * ti.size) ∧ (cap' = n ∨ r.sh + o + cap' * r.sz ≤ r.N)) ∨
       cap' = 0 ∧ n = 0 ∧ ss = [] ∧ ∃ b, H' = H.set b none) := by
  rcases h with ⟨rfl, rfl, rfl, rfl⟩ | ⟨x, rfl, rfl, rfl, rfl⟩ | ⟨b, o, c, cs, rfl, hb, hle, rfl, rfl⟩
  · exact ⟨none, 0, hs.scalar_inv rfl, Nat.le_refl _, by simp, by simp, .inl ⟨rfl, rfl, rfl, rfl⟩⟩
  · obtain ⟨y, c', rfl, h1, h2, _⟩ := hs.slice_inv
    have := h2 rfl
    subst this
    exact ⟨some y, 0, rfl, Nat.le_refl _, by simp, by simp, .inl ⟨rfl, rfl, rfl, rfl⟩⟩
  · obtain ⟨y, c', rfl, h1, h2, h3⟩ := hs.slice_inv
    have hone : ∀ v ∈ (cs.drop o).take (n * ti.size), v.oneCell' = true := by
      intro v hv
      obtain ⟨r, C, e', fr, _, _, _, g4, _⟩ := R.row b cs e true hb
      have hv' := List.mem_of_mem_drop (List.mem_of_mem_take hv)
      obtain ⟨i, hi, rfl⟩ := List.getElem_of_mem hv'
      exact (g4 i _ (List.getElem?_eq_getElem hi)).1
    refine ⟨some y, c', rfl, h1, by simp; omega, hone, ?_⟩
    rcases h3 with ⟨rfl, rfl⟩ | ⟨r, hr, _, hy, hcap⟩
    · exact .inr (.inr ⟨rfl, rfl, by simp, b, rfl⟩)
    · exact .inr (.inl ⟨b, o, cs, r, hb, hr, rfl, by rw [hy], hle, rfl, hcap⟩)

theorem run_loadCellsFrom_cells : ∀ (l : List Value) (w : World) (c : Addr) (i : Nat) (acc : Array Value), (∀ (j : Nat) v, l[j]? = some v → w.cell? (c.add (i + j)) = some v) →
    (loadCellsFrom c i l.length acc).run P w = .ok (acc ++ l.toArray) w
  | [], w, c, i, acc, h => by simp [loadCellsFrom]
  | v :: l, w, c, i, acc, h => by
    have h0 := h 0 v (by simp)
    simp only [Nat.add_zero] at h0
    simp only [List.length_cons, loadCellsFrom, Sem.run_bind, run_load, h0, Result.andThen_ok]
    rw [run_loadCellsFrom_cells l w c (i + 1) (acc.push v) (fun j u hu => by
      have := h (j + 1) u (by simpa using hu); rw [← this]; congr 2; omega)]
    simp
theorem run_loadCells_cells {l : List Value} {c : Addr} (h : ∀ (j : Nat) v, l[j]? = some v → w.cell? (c.add j) = some v) : (loadCells c l.length).run P w = .ok l.toArray w := by
  have := run_loadCellsFrom_cells (P := P) l w c 0 #[] (by simpa using h)
  simpa [loadCells] using this
theorem cells_rel (R : Rel T G w0 ρ H w) {b : Nat} {r : Blk} (hr : ρ b = some r) : ∀ (l : List Value) (o : Nat), (∀ (j : Nat) v, l[j]? = some v → H.cell b (o + j) = some v) →
    ∃ l', VRs ρ l l' ∧ ∀ (j : Nat) v, l'[j]? = some v → w.cell? ⟨r.blk, r.sh + o + j, none⟩ = some v
  | [], o, h => ⟨[], .nil, by simp⟩
  | v :: l, o, h => by
    obtain ⟨_, r', v', hr', hv, hvr⟩ := R.cell (h 0 v (by simp))
    rw [hr] at hr'
    obtain rfl := Option.some.inj hr'
    obtain ⟨l', g1, g2⟩ := cells_rel R hr l (o + 1) (fun j u hu => by have := h (j + 1) u (by simpa using hu); rw [← this]; congr 1; omega)
    refine ⟨v' :: l', .cons _ _ _ _ hvr g1, fun j u hu => ?_⟩
    cases j with
    | zero => simp at hu; subst hu; simpa using hv
    | succ j => simp at hu; have := g2 j u hu; rw [← this]; congr 2; omega
theorem cell_heap {w2 : World} (h : w2.heap = w.heap) (c : Addr) : w2.cell? c = w.cell? c := by simp [World.cell?, h]

theorem cellsAt_vals (R : Rel T G w0 ρ H w) {x x' : Value} {sz m : Nat} {xs : List Value} (h : cellsAt H x sz m xs) (hx : VR ρ x x') :
    ∃ y c', x' = .slice y m c' ∧ xs.length = m * sz ∧ ((m = 0 ∧ xs = []) ∨ ∃ c xs', y = some c ∧ VRs ρ xs xs' ∧ (∀ v ∈ xs, v.oneCell' = true) ∧ ∀ w2 : World, w2.heap = w.heap → (loadCells c (m * sz)).run P w2 = .ok xs'.toArray w2) := by
  obtain ⟨hl, a, c, rfl, h⟩ := h
  cases hx with
  | scalar _ hs =>
    cases a with
    | some a => simp [Abs.scalar] at hs
    | none =>
      refine ⟨none, c, rfl, hl, ?_⟩
      rcases h with rfl | ⟨b, o, h, _⟩
      · exact .inl ⟨rfl, List.length_eq_zero_iff.1 (by simpa using hl)⟩
      · cases h
  | slice a' c2 _ _ cap' hs =>
    refine ⟨some c2, cap', rfl, hl, ?_⟩
    rcases h with rfl | ⟨b, o, h, hcell⟩
    · exact .inl ⟨rfl, List.length_eq_zero_iff.1 (by simpa using hl)⟩
    · obtain rfl := Option.some.inj h
      obtain ⟨h1, h2, h3⟩ := hs
      rcases h3 with ⟨rfl, _⟩ | ⟨r, hr, _, hy, _⟩
      · exact .inl ⟨rfl, List.length_eq_zero_iff.1 (by simpa using hl)⟩
      · obtain ⟨l', g1, g2⟩ := cells_rel R hr xs o hcell
        refine .inr ⟨c2, l', rfl, g1, ?_, ?_⟩
        · intro v hv
          obtain ⟨i, hi, rfl⟩ := List.getElem_of_mem hv
          exact (R.cell (hcell i _ (List.getElem?_eq_getElem hi))).1
        · intro w2 hw2
          rw [← hl, g1.length]
          apply run_loadCells_cells
          intro j v hv
          rw [cell_heap hw2, hy, Addr.add_eq _ rfl]
          exact g2 j v hv

/-- The model's append, once what it takes is known. -/
theorem run_append_room (hT : TT.ok P T) {t t2 e : TypeId} {i i2 ti : TI} (hi : T t = some i) (hd : i.desc = .slice e) (hi2 : T t2 = some i2) (hd2 : ∀ k, i2.desc ≠ .int k) (he : T e = some ti) (ty : TypeId)
    {y : Option Addr} {n c m c2 : Nat} {x : Option Addr} {xs : Array Value} (hroom : n + m ≤ c) (hload : (Builtin.firstCells ti.size m (.slice x m c2)).run P w = .ok xs w) :
    (Builtin.append_ #[t, t2] ty #[.slice y n c, .slice x m c2]).run P w =
      match y with
      | some a => ((storeCells (a.add (n * ti.size)) xs.toList).run P w).andThen fun _ w' => .ok (.slice y (n + m) c) w'
      | none => .ok (.slice y (n + m) c) w := by
  have hu := run_underlying (w := w) hT hi
  have hu2 := run_underlying (w := w) hT hi2
  have hs := run_sizeOf (w := w) hT he
  have hz : (i2.desc matches .int _) = false := by
    cases h : i2.desc <;> first | rfl | exact absurd h (hd2 _)
  unfold Builtin.append_
  simp only [List.getElem?_toArray, List.getElem?_cons_zero, List.getElem?_cons_succ, Sem.run_bind, hu, hd, Result.andThen_ok, hs, hu2, Sem.run_pure]
  simp only [Bool.false_eq_true, if_false, Builtin.lenOf, Sem.run_bind, Sem.run_pure, Result.andThen_ok, Bool.not_false, if_true]
  rw [if_pos hroom]
  simp only [Sem.run_bind, hload, Result.andThen_ok]
  cases y with
  | none => simp
  | some a => simp

theorem run_append_grow (hT : TT.ok P T) {t t2 e : TypeId} {i i2 ti : TI} (hi : T t = some i) (hd : i.desc = .slice e) (hi2 : T t2 = some i2) (hd2 : ∀ k, i2.desc ≠ .int k) (he : T e = some ti) (ty : TypeId)
    {y : Option Addr} {n c m c2 : Nat} {x : Option Addr} {ss xs : Array Value} (hroom : ¬ n + m ≤ c) (hneed : n + m ≤ 4294967296) (hby : ti.bytes ≤ 1024)
    (hold : ∀ w2 : World, w2.heap = w.heap → (Builtin.firstCells ti.size n (.slice y n c)).run P w2 = .ok ss w2) (hload : ∀ w2 : World, w2.heap = w.heap → (Builtin.firstCells ti.size m (.slice x m c2)).run P w2 = .ok xs w2) :
    ∃ (newCap : Nat) (rest : Array Value) (d : Nat), n + m ≤ newCap ∧ rest.size = (newCap - (n + m)) * ti.zero.cells.size ∧ (Builtin.append_ #[t, t2] ty #[.slice y n c, .slice x m c2]).run P w =
      .ok (.slice (some ⟨w.heap.size, 0, none⟩) (n + m) newCap) { { w with drawn := d } with heap := w.heap.push (.cells (ss ++ xs ++ rest) e) } := by
  have hu := fun w2 : World => run_underlying (w := w2) hT hi
  have hu2 := fun w2 : World => run_underlying (w := w2) hT hi2
  have hs := fun w2 : World => run_sizeOf (w := w2) hT he
  have hzr := fun w2 : World => run_zeroValue (w := w2) hT he
  obtain ⟨j, hj1, hj2, hj3, hj4⟩ := run_typeInfo (w := w) hT he
  have hty : ∀ w2 : World, (typeInfo e).run P w2 = .ok j w2 := by
    intro w2
    obtain ⟨_, j', g1, _⟩ := hT e ti he
    simp only [typeInfo, Sem.run_bind, run_program, Result.andThen_ok, g1, Sem.run_pure] at hj1 ⊢
    simp only [Result.ok.injEq, and_true] at hj1
    rw [hj1]
  have hz : (i2.desc matches .int _) = false := by
    cases h : i2.desc <;> first | rfl | exact absurd h (hd2 _)
  have hcap : ¬ Builtin.nextslicecap (n + m) c * j.bytes > 2 ^ 48 := by
    have h1 := nextslicecap_le hneed (show c < n + m by omega)
    have h2 : Builtin.nextslicecap (n + m) c * j.bytes ≤ 68719489024 * 1024 := Nat.mul_le_mul h1 (by omega)
    omega
  refine ⟨(Question.appendCap (n + m) c e).cut (w.tape w.drawn (.appendCap (n + m) c e)), Builtin.zeroCells ti.zero.cells ((Question.appendCap (n + m) c e).cut (w.tape w.drawn (.appendCap (n + m) c e)) - (n + m)), w.drawn + 1, ?_, ?_, ?_⟩
  · simp [Question.cut]
  · simp [Builtin.zeroCells]
  · unfold Builtin.append_
    simp only [List.getElem?_toArray, List.getElem?_cons_zero, List.getElem?_cons_succ, Sem.run_bind, hu, hd, Result.andThen_ok, hs, hu2, Sem.run_pure]
    simp only [Bool.false_eq_true, if_false, Builtin.lenOf, Sem.run_bind, Sem.run_pure, Result.andThen_ok, Bool.not_false, if_true, false_or]
    rw [if_neg hroom]
    have h64 : ¬ (((n + m : Nat) : Int) > IntKind.i64.max ∧ j.bytes = 0) := by
      simp [IntKind.max, IntKind.bits, IntKind.signed]; omega
    simp only [Sem.run_bind, hty, Result.andThen_ok, pure_bind]
    rw [if_neg h64]
    simp only [Result.andThen_ok, Sem.run_bind, hty, if_neg hcap, Sem.run_pure, run_choose, Question.forced, Bool.false_eq_true, if_false, run_askRoom, hzr]
    simp [newRow, hzr]
    rw [hold w.drew rfl]
    simp only [Result.andThen_ok]
    rw [hload w.drew rfl]
    simp
    rfl

theorem append_turns (hT : TT.ok P T) (R : Rel T G w0 ρ H w) {t t2 e : TypeId} {i i2 ti : TI} (hi : T t = some i) (hd : i.desc = .slice e) (hi2 : T t2 = some i2) (hd2 : ∀ k, i2.desc ≠ .int k) (he : T e = some ti) (ty : TypeId)
    {s s' x x' : Value} (hs : VR ρ s s') (hx : VR ρ x x') {K : Value → AHeap → Prop} (h : apK T e H s x K) : Turns P T G w0 ρ w (Builtin.append_ #[t, t2] ty #[s', x']) K := by
  unfold apK at h
  simp only [he] at h
  obtain ⟨m, xs, hxs, h⟩ := h
  obtain ⟨xa, c2, rfl, hxl, hxv⟩ := cellsAt_vals (P := P) R hxs hx
  rcases h with ⟨rfl, hsl, hk⟩ | ⟨hm, n, ss, H', hown, hnm, hby, hfine, hsz, hk⟩
  · have hload : (Builtin.firstCells ti.size 0 (.slice xa 0 c2)).run P w = .ok #[] w := by
      cases xa <;> simp [Builtin.firstCells, loadCells, loadCellsFrom]
    rcases hsl with ⟨sa, n, c, rfl⟩ | rfl
    · obtain ⟨y, c', rfl, h1, h2, h3⟩ := hs.slice_inv
      refine ⟨_, _, ρ, H, w, hk, Loc.le_refl _, hs, R, ?_⟩
      rw [run_append_room (w := w) hT hi hd hi2 hd2 he ty (by omega) hload]
      simp [storeCells]
    · rw [hs.scalar_inv rfl]
      refine ⟨_, _, ρ, H, w, hk, Loc.le_refl _, .scalar _ rfl, R, ?_⟩
      rw [run_append_room (w := w) hT hi hd hi2 hd2 he ty (by omega) hload]
  · rcases hxv with ⟨rfl, _⟩ | ⟨xc, xs', rfl, hvx, hox, hlx⟩
    · omega
    obtain ⟨y, c', rfl, hle, hssl, hos, hcase⟩ := ownAt_vals R he hown hs
    have hload : ∀ w2 : World, w2.heap = w.heap → (Builtin.firstCells ti.size m (.slice (some xc) m c2)).run P w2 = .ok xs'.toArray w2 := by
      intro w2 hw2
      simpa [Builtin.firstCells] using hlx w2 hw2
    have hxl' := hvx.length
    -- the row in new memory
    have grown : ∀ (ss' : List Value), VRs ρ ss ss' → ss'.length = n * ti.size → ¬ n + m ≤ c' → (∀ w2 : World, w2.heap = w.heap → (Builtin.firstCells ti.size n (.slice y n c')).run P w2 = .ok ss'.toArray w2) → (∃ b, H' = H.set b none) ∨ H' = H →
        Turns P T G w0 ρ w (Builtin.append_ #[t, t2] ty #[.slice y n c', .slice (some xc) m c2]) K := by
      intro ss' hvs hsl' hroom hold hH'
      obtain ⟨newCap, rest, d, g1, g2, g3⟩ := run_append_grow (w := w) hT hi hd hi2 hd2 he ty hroom hnm hby hold hload
      have R' : Rel T G w0 ρ H' { w with drawn := d } := by
        rcases hH' with ⟨b, rfl⟩ | rfl
        · exact (R.kill b).drew d
        · exact R.drew d
      have hlen : H'.length = H.length := by
        rcases hH' with ⟨b, rfl⟩ | rfl
        · simp
        · rfl
      have R2 := R'.new (ss'.toArray ++ xs'.toArray ++ rest) e he (hvs.append hvx) (by
        intro v hv
        rcases List.mem_append.1 hv with hv | hv
        · exact hos v hv
        · exact hox v hv) (by
        intro j v' hj
        have : (ss'.toArray ++ xs'.toArray ++ rest) = (ss' ++ xs' ++ rest.toList).toArray := by simp
        rw [this, List.getElem?_toArray, List.getElem?_append_left (lt_of_get hj)]; exact hj)
      refine ⟨_, .slice (some ⟨w.heap.size, 0, none⟩) (n + m) newCap, _, _, _, hk, R'.le_upd _, ?_, R2, g3⟩
      have hloc : H'.length = H.length := hlen
      refine .slice _ _ _ _ _ ⟨g1, by omega, .inr ⟨⟨w.heap.size, 0, (ss'.toArray ++ xs'.toArray ++ rest).size, ti.size⟩, ?_, rfl, by simp, .inr ?_⟩⟩
      · show Loc.upd ρ H'.length _ H.length = _
        rw [hloc]; exact Loc.upd_same _ _ _
      · have hz : ti.zero.cells.size = ti.size := by
          rcases fine_agg hfine with ⟨zs, hz, hs, _⟩ | ⟨h1, h2, hs, _⟩
          · rw [hz]; simpa [Value.cells] using hs
          · rw [hs]
            cases hzz : ti.zero <;> first | rfl | exact absurd hzz (h1 _)
        simp only [Array.size_append, List.size_toArray, g2, hz, hsl', ← hxl', hxl]
        rw [← Nat.add_mul, ← Nat.add_mul]
        simp only [Nat.zero_add]
        exact Nat.mul_le_mul_right _ (by omega)
    rcases hcase with ⟨rfl, rfl, rfl, rfl⟩ | ⟨b, o, cs, r, hb, hr, rfl, rfl, hocs, rfl, hcap⟩ | ⟨rfl, rfl, rfl, b, rfl⟩
    · exact grown [] .nil (by simp) (by omega) (fun w2 _ => by cases y <;> simp [Builtin.firstCells, loadCells, loadCellsFrom]) (.inr rfl)
    · obtain ⟨r1, C, e', fr, g1, g2, g3, g4, g5, tj, g6, g7⟩ := R.row b cs e true hb
      rw [hr] at g1
      obtain rfl := Option.some.inj g1
      obtain ⟨rfl, rfl, g8⟩ := g5 rfl
      rw [he] at g6
      obtain rfl := Option.some.inj g6
      obtain ⟨ss', hvs, hcell⟩ := cells_rel R hr ((cs.drop o).take (n * ti.size)) o (by
        intro j v hj
        have hjl := lt_of_get hj
        simp at hjl
        rw [List.getElem?_take_of_lt (by omega), List.getElem?_drop] at hj
        simpa [AHeap.cell, hb] using hj)
      have hsl' := hvs.length
      rw [hssl] at hsl'
      by_cases hroom : n + m ≤ c'
      · have hlim : r.sh + o + c' * ti.size ≤ C.size := by
          rcases hcap with hcap | hcap
          · omega
          · rw [g3, ← g7]; exact hcap
        have hmul : (n + m) * ti.size ≤ c' * ti.size := Nat.mul_le_mul_right _ hroom
        rw [Nat.add_mul] at hmul
        obtain ⟨C', k1, k2, k3⟩ := run_storeCells (P := P) xs' w C ⟨r.blk, r.sh + o + n * ti.size, none⟩ (r.sh + o + n * ti.size) 0 rfl g2 (.inr (by rw [← hxl', hxl]; omega)) (hvx.one hox)
        have hH : (H.set b none).length = H.length := by simp
        refine ⟨_, .slice (some ⟨r.blk, r.sh + o, none⟩) (n + m) c', ρ.upd H.length { r with sh := r.sh + o }, _, putBlk w r.blk C' e', hk, R.le_upd _, ?_, ?_, ?_⟩
        · refine .slice _ _ _ _ _ ⟨hroom, by omega, .inr ⟨_, Loc.upd_same _ _ _, rfl, by simp, .inr ?_⟩⟩
          simp only [Nat.add_zero]
          rw [g7, ← g3]; exact hlim
        · refine R.turn (b := b) (b' := H.length) (sh' := r.sh + o) (cs' := (cs.drop o).take (n * ti.size) ++ xs) hb hr C' k1 g2 rfl _ (R.le_upd _) ?_ (by simp) ?_ (Loc.upd_same _ _ _) ?_
          · intro y q hy
            by_cases hyl : y = H.length
            · subst hyl
              rw [List.getElem?_append_right (by simp)] at hy
              simp at hy
              exact .inl ⟨rfl, by rw [← hy]⟩
            · have hyl2 := lt_of_get hy
              simp at hyl2
              rw [List.getElem?_append_left (by simp; omega)] at hy
              by_cases hyb : y = b
              · subst hyb
                rw [List.getElem?_set_self (lt_of_get hb)] at hy
                cases hy
              · rw [List.getElem?_set_ne (by omega)] at hy
                exact .inr ⟨hyl, hyb, hy, Loc.upd_ne _ _ hyl⟩
          · intro y q hy
            by_cases hyl : y = H.length
            · subst hyl
              rw [Loc.upd_same] at hy
              obtain rfl := Option.some.inj hy
              exact ⟨by simp, (R.dom _ _ hr).2⟩
            · rw [Loc.upd_ne _ _ hyl] at hy
              have := R.dom _ _ hy
              exact ⟨by simp; omega, this.2⟩
          · intro j v hj
            have hC := splice_get C.toList xs' (r.sh + o + n * ti.size) (r.sh + o + j) (.inr (by rw [← hxl', hxl]; simp; omega))
            simp only [Nat.add_zero] at k2
            rw [← k2] at hC
            simp only [Array.getElem?_toList] at hC
            by_cases hj1 : j < n * ti.size
            · rw [List.getElem?_append_left (by omega)] at hj
              obtain ⟨v', q1, q2⟩ := hvs.get j v hj
              refine ⟨hos v (List.mem_of_getElem? hj), v', ?_, q2.mono (R.le_upd _)⟩
              rw [hC, if_pos (by omega)]
              have := hcell j v' q1
              simpa [World.cell?, g2] using this
            · rw [List.getElem?_append_right (by omega)] at hj
              obtain ⟨v', q1, q2⟩ := hvx.get _ v hj
              refine ⟨hox v (List.mem_of_getElem? hj), v', ?_, q2.mono (R.le_upd _)⟩
              have hjx := lt_of_get hj
              rw [hC, if_neg (by omega), if_pos (by omega)]
              rw [← q1, hssl]; congr 1; omega
        · rw [run_append_room (w := w) hT hi hd hi2 hd2 he ty hroom (hload w rfl)]
          simp only [Addr.add_eq, List.toList_toArray, k3, Result.andThen_ok]
      · refine grown ss' hvs (by omega) hroom (fun w2 hw2 => ?_) (.inl ⟨b, rfl⟩)
        have hl2 : n * ti.size = ss'.length := by omega
        simp only [Builtin.firstCells, hl2]
        apply run_loadCells_cells
        intro j v hv
        rw [cell_heap hw2, Addr.add_eq _ rfl]
        exact hcell j v hv
    · exact grown [] .nil (by simp) (by omega) (fun w2 _ => by cases y <;> simp [Builtin.firstCells, loadCells, loadCellsFrom]) (.inl ⟨b, rfl⟩)
end
end Go.Abs
