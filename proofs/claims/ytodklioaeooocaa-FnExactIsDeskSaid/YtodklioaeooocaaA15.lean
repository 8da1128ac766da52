/- A region whose order is drawn: every order comes to what the one walk says. -/
import Derived.Test.YtodklioaeooocaaA14
set_option linter.unusedVariables false
set_option linter.unusedSimpArgs false
namespace Go.Abs
open Go.RowKit
section
variable {P : Program} {T : TT} {w0 w : World} {ρ : Loc} {H : AHeap} {env : Env} {a : Act} {l : List Oper} {K : Env → AHeap → Prop}

def opsOf (l : List Oper) (todo : List (Nat × Bool)) : List (Oper × Bool) := todo.map fun x => (opAt l x.1, x.2)

theorem SInv.reckon (tl : Told l) {listed : Array Bool} {done rest : List Nat} {pend : List Pend} {x : Nat} {v : Value} (S : SInv P T l w0 listed done (x :: rest) pend env H ρ a w)
    (hp : ∀ p ∈ predsOf (opAt l x), p ∈ done) (he : isEff (opAt l x) = false) (hpf : PF P T l (opAt l x) env v H) :
    SInv P T l w0 listed (done ++ [x]) rest (pend ++ [⟨x, env, v⟩]) (Env.put env (opAt l x).dst v) H ρ a w := by
  have hx : x < l.length := S.lt x (.inr (by simp))
  have hxd : x ∉ done := fun h => S.apart x h (by simp)
  have hne : ∀ p ∈ pend, p.i ≠ x := fun p hp e => hxd (e ▸ S.pin p hp)
  have hnd := List.nodup_cons.1 S.ndT
  refine ⟨?_, ?_, ?_, hnd.2, ?_, S.size, ?_, S.down, ?_, ?_, S.defers, ?_, S.rel, ?_, ?_, ?_, ?_, ?_, ?_⟩
  · intro i hi
    rcases S.all i hi with h | h
    · exact .inl (by simp [h])
    · rcases List.mem_cons.1 h with rfl | h
      · exact .inl (by simp)
      · exact .inr h
  · intro i hi
    rcases List.mem_append.1 hi with h | h
    · exact fun k => S.apart i h (by simp [k])
    · simp at h; subst h; exact hnd.1
  · intro i hi
    rcases hi with h | h
    · rcases List.mem_append.1 h with h | h
      · exact S.lt i (.inl h)
      · simp at h; subst h; exact hx
    · exact S.lt i (.inr (by simp [h]))
  · rw [List.map_append, List.nodup_append]
    refine ⟨S.ndP, by simp, ?_⟩
    intro i hi j hj
    simp at hj
    obtain ⟨p, hp, rfl⟩ := List.mem_map.1 hi
    rw [hj]; exact hne p hp
  · intro i hi
    rw [S.exec i hi]
    constructor
    · rintro ⟨h1, h2⟩
      refine ⟨by simp [h1], fun p hp => ?_⟩
      rcases List.mem_append.1 hp with h | h
      · exact h2 p h
      · simp at h; subst h; rintro rfl; exact hxd h1
    · rintro ⟨h1, h2⟩
      have hxi : x ≠ i := h2 ⟨x, env, v⟩ (by simp)
      rcases List.mem_append.1 h1 with h | h
      · exact ⟨h, fun p hp => h2 p (by simp [hp])⟩
      · simp at h; exact absurd h.symm hxi
  · intro j hj p hpj
    rcases List.mem_append.1 hj with h | h
    · simp [S.downD j h p hpj]
    · simp at h; subst h; simp [hp p hpj]
  · rw [put_len]; exact S.len
  · intro t ht
    have h1 : (opAt l x).dst ≠ some t := ht ⟨x, env, v⟩ (by simp)
    have h2 := S.fit t fun p hp => ht p (by simp [hp])
    unfold FitAt at h2 ⊢
    rw [getD_eq (put_get_ne env v h1)]; exact h2
  · intro p hp
    rcases List.mem_append.1 hp with h | h
    · simp [S.pin p h]
    · simp at h; subst h; simp
  · intro p hp
    rcases List.mem_append.1 hp with h | h
    · exact S.peff p h
    · simp at h; subst h; exact he
  · intro p hp t ht hlt
    rw [put_len] at hlt
    rcases List.mem_append.1 hp with h | h
    · have := (tl.tmps p.i x t (S.lt _ (.inl (S.pin p h))) hx (hne p h) ht).1
      rw [put_get_ne env v this]
      exact S.pval p h t ht hlt
    · simp at h; subst h
      simp only [] at ht ⊢
      rw [ht]; exact put_get_same env v hlt
  · intro p hp
    rw [put_len]
    rcases List.mem_append.1 hp with h | h
    · exact S.plen p h
    · simp at h; subst h; rfl
  · intro p hp
    rcases List.mem_append.1 hp with h | h
    · exact S.pf p h
    · simp at h; subst h; exact hpf
  · intro p hp t ht
    rcases List.mem_append.1 hp with h | h
    · rcases S.pops p h t ht with ⟨k, k'⟩ | ⟨q, k1, k2, k3, k4, k5⟩
      · refine .inl ⟨k, fun r hr hri hd => ?_⟩
        rcases List.mem_append.1 hr with hr | hr
        · exact k' r hr hri hd
        · simp at hr; subst hr
          cases hb : bef (masks l []) x p.i with
          | false => rfl
          | true => exact absurd (bef_closed (· ∈ done) l S.downD (S.pin p h) hb) hxd
      · exact .inr ⟨q, by simp [k1], k2, k3, k4, fun hh => k5 (by rwa [put_len] at hh)⟩
    · simp at h; subst h
      simp only [] at ht ⊢
      by_cases hq : ∃ q ∈ pend, (opAt l q.i).dst = some t
      · obtain ⟨q, k1, k2⟩ := hq
        refine .inr ⟨q, by simp [k1], hne q k1, k2, ?_, fun hh => S.pval q k1 t k2 (by rwa [put_len] at hh)⟩
        rcases (tl.tmps q.i x t (S.lt _ (.inl (S.pin q k1))) hx (hne q k1) k2).2 ht with k | k
        · exact k
        · exact absurd (bef_closed (· ∈ done) l S.downD (S.pin q k1) k) hxd
      · refine .inl ⟨S.fit t fun p hp e => hq ⟨p, hp, e⟩, fun r hr hri hd => ?_⟩
        rcases List.mem_append.1 hr with hr | hr
        · exact absurd ⟨r, hr, hd⟩ hq
        · simp at hr; subst hr; exact absurd rfl hri

theorem eager (tl : Told l) {listed : Array Bool} : ∀ (todo : List (Nat × Bool)) (done : List Nat) (pend : List Pend) (env : Env), SInv P T l w0 listed done (todo.map (·.1)) pend env H ρ a w →
    chk l (masks l []) done todo = true → aOpsD P T l (opsOf l todo) env H K →
    ∃ done' todo' pend' env', SInv P T l w0 listed done' (todo'.map (·.1)) pend' env' H ρ a w ∧ chk l (masks l []) done' todo' = true ∧ aOpsD P T l (opsOf l todo') env' H K ∧
      (∀ x n r, todo' = (x, n) :: r → isEff (opAt l x) = true) ∧ todo'.length + pend'.length = todo.length + pend.length
  | [], done, pend, env, S, hc, h => ⟨done, [], pend, env, S, hc, h, by simp, rfl⟩
  | (x, need) :: rest, done, pend, env, S, hc, h => by
    cases he : isEff (opAt l x) with
    | true => exact ⟨done, (x, need) :: rest, pend, env, S, hc, h, fun y n r e => by simp at e; rw [← e.1.1]; exact he, rfl⟩
    | false =>
      obtain ⟨h1, h2, h3, h4, h5⟩ := chk_cons hc
      have hneed := h4 he
      subst hneed
      simp only [opsOf, List.map_cons, aOpsD] at h
      rcases pif_true h with ⟨hok, h⟩ | ⟨_, h⟩
      · have hok' : ∀ y ∈ (opAt l x).op.operands, operandOK P.globals.size y = true := fun y hy => List.all_eq_true.1 hok y (by simpa using hy)
        obtain ⟨b, hb, hg⟩ := guardK_one h
        have step : ∃ v, PF P T l (opAt l x) env v H ∧ aOpsD P T l (opsOf l rest) (Env.put env (opAt l x).dst v) H K := by
          rcases pif_true hb with ⟨rfl, hb⟩ | ⟨rfl, hb⟩
          · obtain ⟨v, k1, k2⟩ := aOp_one he (AHeap.le_refl H) hb
            exact ⟨v, ⟨hok', hg _ ⟨rfl, k2⟩⟩, k1⟩
          · exact ⟨undef, ⟨hok', hg _ ⟨rfl, rfl⟩⟩, hb⟩
        obtain ⟨v, hpf, hk⟩ := step
        obtain ⟨d', t', p', e', g1, g2, g3, g4, g5⟩ := eager tl rest (done ++ [x]) (pend ++ [⟨x, env, v⟩]) _ (S.reckon tl h1 he hpf) h5 hk
        exact ⟨d', t', p', e', g1, g2, g3, g4, by simp at g5 ⊢; omega⟩
      · exact h.elim

theorem mem_ready {listed : Array Bool} {i : Nat} (hs : listed.size = l.length) (h : i ∈ Region.ready .any ⟨l⟩ listed) : i < l.length ∧ listed[i]? ≠ some true ∧ ∀ p ∈ predsOf (opAt l i), listed[p]? = some true := by
  unfold Region.ready at h
  simp only [List.size_toArray, List.mem_filter, List.mem_range, Bool.and_eq_true, Bool.not_eq_true', List.getElem?_toArray] at h
  obtain ⟨h1, h2, h3⟩ := h
  refine ⟨h1, ?_, ?_⟩
  · intro e
    simp [Array.getD_eq_getD_getElem?, e] at h2
  · intro p hp
    have ho : l[i]? = some (opAt l i) := by simp [opAt, List.getD, h1]
    rw [ho] at h3
    simp only [Option.map_some, Option.getD_some, Array.all_eq_true_iff_forall_mem] at h3
    unfold predsOf at hp
    simp only [List.mem_map, List.mem_filter] at hp
    obtain ⟨e, ⟨he, hb⟩, rfl⟩ := hp
    have := h3 e (by simpa using he)
    rw [hb] at this
    simp [Array.getD_eq_getD_getElem?] at this
    cases hl : listed[e.on]? with
    | none => rw [hl] at this; simp at this
    | some b => rw [hl] at this; simpa using this
theorem ready_mem {listed : Array Bool} {i : Nat} (hs : listed.size = l.length) (h1 : i < l.length) (h2 : listed[i]? ≠ some true) (h3 : ∀ p ∈ predsOf (opAt l i), listed[p]? = some true) : i ∈ Region.ready .any ⟨l⟩ listed := by
  unfold Region.ready
  simp only [List.size_toArray, List.mem_filter, List.mem_range, Bool.and_eq_true, Bool.not_eq_true', List.getElem?_toArray]
  have ho : l[i]? = some (opAt l i) := by simp [opAt, List.getD, h1]
  refine ⟨h1, ?_, ?_⟩
  · rw [Array.getD_eq_getD_getElem?]
    have hlt : i < listed.size := by omega
    rw [Array.getElem?_eq_getElem hlt] at h2 ⊢
    simpa using h2
  · rw [ho]
    simp only [Option.map_some, Option.getD_some, Array.all_eq_true_iff_forall_mem]
    intro e he
    cases hb : Region.binds .any e with
    | false => simp
    | true =>
      have := h3 e.on (by unfold predsOf; exact List.mem_map.2 ⟨e, List.mem_filter.2 ⟨by simpa using he, hb⟩, rfl⟩)
      simp [Array.getD_eq_getD_getElem?, this]

/-- Everything is listed where nothing is ready. -/
theorem none_ready (tl : Told l) {listed : Array Bool} (hs : listed.size = l.length) (h : Region.ready .any ⟨l⟩ listed = []) : ∀ i, i < l.length → listed[i]? = some true := by
  intro i
  induction i using Nat.strongRecOn with
  | _ i ih =>
    intro hi
    by_cases hl : listed[i]? = some true
    · exact hl
    · have := ready_mem hs hi hl fun p hp => ih p (tl.preds i p hp) (by have := tl.preds i p hp; omega)
      rw [h] at this; cases this

theorem listed_set {listed : Array Bool} {i j : Nat} (hi : i < listed.size) : (listed.setIfInBounds i true)[j]? = some true ↔ j = i ∨ listed[j]? = some true := by
  by_cases h : j = i
  · subst h; simp [hi]
  · rw [Array.getElem?_setIfInBounds_ne (by omega)]; simp [h]

/-- One of those that were reckoned is carried out. -/
theorem SInv.carry (tl : Told l) {listed : Array Bool} {done todo : List Nat} {pend : List Pend} (S : SInv P T l w0 listed done todo pend env H ρ a w) {p : Pend} (hp : p ∈ pend) (hready : ∀ q ∈ predsOf (opAt l p.i), listed[q]? = some true)
    {ρ' : Loc} {v' : Value} {w' : World} (hle : ρ.le ρ') (hv : VR ρ' p.v v') (R' : Rel T P.globals.size w0 ρ' H w') :
    SInv P T l w0 (listed.setIfInBounds p.i true) done todo (pend.filter (·.i != p.i)) env H ρ' (a.put (opAt l p.i).dst v') w' := by
  have hpi : p.i < l.length := S.lt _ (.inl (S.pin p hp))
  have hsz : p.i < listed.size := by rw [S.size]; exact hpi
  have mem : ∀ {q : Pend}, q ∈ pend.filter (·.i != p.i) ↔ q ∈ pend ∧ q.i ≠ p.i := by intro q; simp
  refine ⟨S.all, S.apart, S.lt, S.ndT, ?_, by simpa using S.size, ?_, ?_, S.downD, ?_, ?_, ?_, R', ?_, ?_, ?_, ?_, ?_, ?_⟩
  · exact (List.Sublist.map _ (List.filter_sublist)).nodup S.ndP
  · intro i hi
    rw [listed_set hsz, S.exec i hi]
    constructor
    · rintro (rfl | ⟨h1, h2⟩)
      · exact ⟨S.pin p hp, fun q hq => (mem.1 hq).2⟩
      · exact ⟨h1, fun q hq => h2 q (mem.1 hq).1⟩
    · rintro ⟨h1, h2⟩
      by_cases h : i = p.i
      · exact .inl h
      · exact .inr ⟨h1, fun q hq e => h2 q (mem.2 ⟨hq, fun e2 => h (e ▸ e2)⟩) e⟩
  · intro j hj q hq
    rw [listed_set hsz] at hj ⊢
    rcases hj with rfl | hj
    · exact .inr (hready q hq)
    · exact .inr (S.down j hj q hq)
  · rw [put_size]; exact S.len
  · rw [put_defers']; exact S.defers
  · intro t ht
    by_cases hd : (opAt l p.i).dst = some t
    · rw [hd]
      exact FitAt.put_same S.len hv fun hlt => S.pval p hp t hd hlt
    · exact FitAt.act_ne ((S.fit t fun q hq e => ht q (mem.2 ⟨hq, fun e2 => hd (e2 ▸ e)⟩) e).mono hle) hd
  · intro q hq; exact S.pin q (mem.1 hq).1
  · intro q hq; exact S.peff q (mem.1 hq).1
  · intro q hq; exact S.pval q (mem.1 hq).1
  · intro q hq; exact S.plen q (mem.1 hq).1
  · intro q hq; exact S.pf q (mem.1 hq).1
  · intro q hq t ht
    obtain ⟨hq1, hq2⟩ := mem.1 hq
    have hqi : q.i < l.length := S.lt _ (.inl (S.pin q hq1))
    have notlisted : ∀ r ∈ pend, listed[r.i]? ≠ some true := fun r hr e => ((S.exec _ (S.lt _ (.inl (S.pin r hr)))).1 e).2 r hr rfl
    by_cases hd : (opAt l p.i).dst = some t
    · -- its value now lies in its temporary
      have hbef : bef (masks l []) p.i q.i = true := by
        rcases (tl.tmps p.i q.i t hpi hqi (fun e => hq2 e.symm) hd).2 ht with k | k
        · exact k
        · exact absurd (bef_closed (fun j => listed[j]? = some true ∨ j = p.i) l (by
            intro j hj r hr
            rcases hj with hj | rfl
            · exact .inl (S.down j hj r hr)
            · exact .inl (hready r hr)) (.inr rfl) k) (by rintro (e | e); exact notlisted q hq1 e; exact hq2 e)
      rcases S.pops q hq1 t ht with ⟨k, k'⟩ | ⟨r, k1, k2, k3, k4, k5⟩
      · have := k' p hp (fun e => hq2 e.symm) hd
        rw [hbef] at this; cases this
      · have hr : r.i = p.i := by
          by_cases e : r.i = p.i
          · exact e
          · exact absurd hd (tl.tmps r.i p.i t (S.lt _ (.inl (S.pin r k1))) hpi e k3).1
        have : r = p := nodup_inj S.ndP k1 hp hr
        subst this
        left
        refine ⟨?_, fun s hs hsi hds => ?_⟩
        rotate_left
        · have e1 : s.i = r.i := by
            by_cases e : s.i = r.i
            · exact e
            · exact absurd hd (tl.tmps s.i r.i t (S.lt _ (.inl (S.pin s (mem.1 hs).1))) hpi e hds).1
          exact absurd e1 (mem.1 hs).2
        rw [hd]
        refine FitAt.put_same (env := q.E) ?_ hv fun hlt => ?_
        · rw [S.plen q hq1]; exact S.len
        · exact k5 (by rw [← S.plen q hq1]; exact hlt)
    · rcases S.pops q hq1 t ht with ⟨k, k'⟩ | ⟨r, k1, k2, k3, k4, k5⟩
      · exact .inl ⟨FitAt.act_ne (k.mono hle) hd, fun r hr => k' r (mem.1 hr).1⟩
      · exact .inr ⟨r, mem.2 ⟨k1, fun e => hd (e ▸ k3)⟩, k2, k3, k4, k5⟩

/-- The next one that turns the heap is carried out. -/
theorem SInv.turn (tl : Told l) {listed : Array Bool} {done rest : List Nat} {pend : List Pend} {x : Nat} (S : SInv P T l w0 listed done (x :: rest) pend env H ρ a w) (hready : ∀ q ∈ predsOf (opAt l x), listed[q]? = some true)
    {ρ' : Loc} {v v' : Value} {H' : AHeap} {w' : World} (hle : ρ.le ρ') (hv : VR ρ' v v') (R' : Rel T P.globals.size w0 ρ' H' w') (hH : ∀ p ∈ pend, H.le H' ∨ heapRd (opAt l p.i) = false) :
    SInv P T l w0 (listed.setIfInBounds x true) (done ++ [x]) rest pend (Env.put env (opAt l x).dst v) H' ρ' (a.put (opAt l x).dst v') w' := by
  have hx : x < l.length := S.lt x (.inr (by simp))
  have hxd : x ∉ done := fun h => S.apart x h (by simp)
  have hne : ∀ p ∈ pend, p.i ≠ x := fun p hp e => hxd (e ▸ S.pin p hp)
  have hnd := List.nodup_cons.1 S.ndT
  have hsz : x < listed.size := by rw [S.size]; exact hx
  have notlisted : ∀ r ∈ pend, listed[r.i]? ≠ some true := fun r hr e => ((S.exec _ (S.lt _ (.inl (S.pin r hr)))).1 e).2 r hr rfl
  have closed : ∀ {i j : Nat}, bef (masks l []) i j = true → (listed[j]? = some true ∨ j = x) → (listed[i]? = some true ∨ i = x) := fun hb hj =>
    bef_closed (fun j => listed[j]? = some true ∨ j = x) l (by
      intro j hj r hr
      rcases hj with hj | rfl
      · exact .inl (S.down j hj r hr)
      · exact .inl (hready r hr)) hj hb
  refine ⟨?_, ?_, ?_, hnd.2, S.ndP, by simpa using S.size, ?_, ?_, ?_, ?_, ?_, ?_, R', ?_, S.peff, ?_, ?_, ?_, ?_⟩
  · intro i hi
    rcases S.all i hi with h | h
    · exact .inl (by simp [h])
    · rcases List.mem_cons.1 h with rfl | h
      · exact .inl (by simp)
      · exact .inr h
  · intro i hi
    rcases List.mem_append.1 hi with h | h
    · exact fun k => S.apart i h (by simp [k])
    · simp at h; subst h; exact hnd.1
  · intro i hi
    rcases hi with h | h
    · rcases List.mem_append.1 h with h | h
      · exact S.lt i (.inl h)
      · simp at h; subst h; exact hx
    · exact S.lt i (.inr (by simp [h]))
  · intro i hi
    rw [listed_set hsz, S.exec i hi]
    constructor
    · rintro (rfl | ⟨h1, h2⟩)
      · exact ⟨by simp, hne⟩
      · exact ⟨by simp [h1], h2⟩
    · rintro ⟨h1, h2⟩
      rcases List.mem_append.1 h1 with h | h
      · exact .inr ⟨h, h2⟩
      · simp at h; exact .inl h
  · intro j hj q hq
    rw [listed_set hsz] at hj ⊢
    rcases hj with rfl | hj
    · exact .inr (hready q hq)
    · exact .inr (S.down j hj q hq)
  · intro j hj p hpj
    rcases List.mem_append.1 hj with h | h
    · simp [S.downD j h p hpj]
    · simp at h; subst h
      have := hready p hpj
      have hp := tl.preds j p hpj
      simp [((S.exec p (by omega)).1 this).1]
  · rw [put_len, put_size]; exact S.len
  · rw [put_defers']; exact S.defers
  · intro t ht
    by_cases hd : (opAt l x).dst = some t
    · rw [hd]
      refine FitAt.put_same (by rw [put_len]; exact S.len) hv fun hlt => ?_
      rw [put_len] at hlt
      exact put_get_same env v hlt
    · exact FitAt.put_ne ((S.fit t ht).mono hle) hd
  · intro p hp
    simp [S.pin p hp]
  · intro p hp t ht hlt
    rw [put_len] at hlt
    have := (tl.tmps p.i x t (S.lt _ (.inl (S.pin p hp))) hx (hne p hp) ht).1
    rw [put_get_ne env v this]
    exact S.pval p hp t ht hlt
  · intro p hp
    rw [put_len]; exact S.plen p hp
  · intro p hp
    exact (S.pf p hp).le (S.peff p hp) (hH p hp)
  · intro p hp t ht
    have hpl := S.lt _ (.inl (S.pin p hp))
    have hd : (opAt l x).dst ≠ some t := by
      intro hd
      rcases (tl.tmps x p.i t hx hpl (fun e => hne p hp e.symm) hd).2 ht with k | k
      · exact hxd (bef_closed (· ∈ done) l S.downD (S.pin p hp) k)
      · rcases closed k (.inr rfl) with e | e
        · exact notlisted p hp e
        · exact hne p hp e
    rcases S.pops p hp t ht with ⟨k, k'⟩ | ⟨r, k1, k2, k3, k4, k5⟩
    · exact .inl ⟨FitAt.act_ne (k.mono hle) hd, k'⟩
    · exact .inr ⟨r, k1, k2, k3, k4, fun h => k5 (by rwa [put_len] at h)⟩

theorem sim (hT : TT.ok P T) (tl : Told l) {Q : Exit → Act → World → Prop} {ρ0 : Loc}
    (hq : ∀ env' H' ρ' a' w', K env' H' → ρ0.le ρ' → EnvR ρ' env' a' → Rel T P.globals.size w0 ρ' H' w' → Q .normal a' w') :
    ∀ (fuel : Nat) (listed : Array Bool) (done : List Nat) (todo : List (Nat × Bool)) (pend : List Pend) (env : Env) (H : AHeap) (ρ : Loc) (a : Act) (w : World),
      SInv P T l w0 listed done (todo.map (·.1)) pend env H ρ a w → ρ0.le ρ → chk l (masks l []) done todo = true → aOpsD P T l (opsOf l todo) env H K →
      (∀ x n r, todo = (x, n) :: r → isEff (opAt l x) = true) → fuel = todo.length + pend.length → wpAny P .any ⟨l⟩ Q fuel listed a w := by
  intro fuel
  induction fuel with
  | zero =>
    intro listed done todo pend env H ρ a w S hle hc h he hf
    have h1 : todo = [] := List.length_eq_zero_iff.1 (by omega)
    have h2 : pend = [] := List.length_eq_zero_iff.1 (by omega)
    subst h1; subst h2
    have hall : ∀ i, i < l.length → listed[i]? = some true := fun i hi => (S.exec i hi).2 ⟨by rcases S.all i hi with h | h; exact h; simp at h, by simp⟩
    refine ⟨?_, hq env H ρ a w h hle ⟨?_, S.defers⟩ S.rel⟩
    · cases hr : Region.ready .any ⟨l⟩ listed with
      | nil => rfl
      | cons i r =>
        have := mem_ready S.size (i := i) (by rw [hr]; simp)
        exact absurd (hall i this.1) this.2.1
    · refine VRs.of_get (by simpa using S.len) fun t v hv => ?_
      obtain ⟨v', g1, g2⟩ := FitAt.get S.len (S.fit t (by simp)) hv
      exact ⟨v', by simpa using g1, g2⟩
  | succ fuel ih =>
    intro listed done todo pend env H ρ a w S hle hc h he hf
    refine ⟨?_, ?_⟩
    · intro hr
      have hall := none_ready tl S.size hr
      exfalso
      rcases pend with _ | ⟨p, pend⟩
      · rcases todo with _ | ⟨x, todo⟩
        · simp at hf
        · have hx := S.lt x.1 (.inr (by simp))
          have := ((S.exec x.1 hx).1 (hall _ hx)).1
          exact S.apart _ this (by simp)
      · have hx := S.lt p.i (.inl (S.pin p (by simp)))
        exact ((S.exec p.i hx).1 (hall _ hx)).2 p (by simp) rfl
    · intro i hi
      obtain ⟨hil, hnl, hpr⟩ := mem_ready S.size hi
      have hsz : i < listed.size := by rw [S.size]; exact hil
      have ho : (⟨l⟩ : Array Oper)[i]? = some (opAt l i) := by simp [opAt, List.getD, hil]
      unfold wpOp
      simp only [ho]
      by_cases hid : i ∈ done
      · -- one that was reckoned
        have : ∃ p ∈ pend, p.i = i := by
          by_cases hc : ∃ p ∈ pend, p.i = i
          · exact hc
          · exact absurd ((S.exec i hil).2 ⟨hid, fun p hp e => hc ⟨p, hp, e⟩⟩) hnl
        obtain ⟨p, hp, rfl⟩ := this
        have notlisted : ∀ r ∈ pend, listed[r.i]? ≠ some true := fun r hr e => ((S.exec _ (S.lt _ (.inl (S.pin r hr)))).1 e).2 r hr rfl
        have hfit : ∀ t ∈ looks l (opAt l p.i), FitAt ρ p.E a t := by
          intro t ht
          rcases S.pops p hp t ht with ⟨k, _⟩ | ⟨r, k1, k2, k3, k4, k5⟩
          · exact k
          · exact absurd (bef_closed (fun j => listed[j]? = some true ∨ j = p.i) l (by
              intro j hj r hr
              rcases hj with hj | rfl
              · exact .inl (S.down j hj r hr)
              · exact .inl (hpr r hr)) (.inr rfl) k4) (by rintro (e | e); exact notlisted r k1 e; exact k2 e)
        obtain ⟨hok, hpf⟩ := S.pf p hp
        have hgt : ∀ t, guardTmp l (opAt l p.i) = some t → FitAt ρ p.E a t := fun t ht => hfit t (by simp [looks, ht])
        obtain ⟨b, ⟨_, hb⟩, hw⟩ := guardK_sound (by rw [S.plen p hp]; exact S.len) hgt hpf
        have hlen : fuel = todo.length + (pend.filter (·.i != p.i)).length := by
          have : (pend.filter (·.i != p.i)).length + 1 = pend.length := filter_len (i := 0) S.ndP hp
          omega
        rcases pif_true hb with ⟨rfl, hb⟩ | ⟨rfl, hb⟩
        · rw [if_pos hw]
          left
          refine aOp_sound hT S.rel (vals_of_looks S.rel.glob hok hfit) hb ?_
          rintro v v' ρ' H' w' ⟨rfl, rfl⟩ hle' hv R'
          exact ih _ done todo _ env H' ρ' _ w' (S.carry tl hp hpr hle' hv R') (Loc.le_trans hle hle') hc h he hlen
        · rw [if_neg (by simp [hw])]
          exact ih _ done todo _ env H ρ _ w (S.carry tl hp hpr (Loc.le_refl _) (by rw [hb]; exact VR.undef _) S.rel) hle hc h he hlen
      · -- the next one that turns the heap
        rcases todo with _ | ⟨⟨x, need⟩, rest⟩
        · rcases S.all i hil with k | k
          · exact absurd k hid
          · simp at k
        · have hex := he x need rest rfl
          obtain ⟨c1, c2, c3, c4, c5⟩ := chk_cons hc
          have hix : i = x := by
            rcases S.all i hil with k | k
            · exact absurd k hid
            · simp only [List.map_cons, List.mem_cons] at k
              rcases k with k | k
              · exact k
              · obtain ⟨y, hy, rfl⟩ := List.mem_map.1 k
                obtain ⟨q, hq1, hq2⟩ := c2 hex y hy
                have hq3 := hpr q hq1
                have hq4 := tl.preds y.1 q hq1
                exact absurd ((S.exec q (by omega)).1 hq3).1 hq2
          subst hix
          have notlisted : ∀ r ∈ pend, listed[r.i]? ≠ some true := fun r hr e => ((S.exec _ (S.lt _ (.inl (S.pin r hr)))).1 e).2 r hr rfl
          have hne : ∀ p ∈ pend, p.i ≠ i := fun p hp e => hid (e ▸ S.pin p hp)
          have closed : ∀ {p : Pend}, p ∈ pend → bef (masks l []) p.i i = true → False := fun {p} hp hb => by
            have := bef_closed (fun j => listed[j]? = some true ∨ j = i) l (by
              intro j hj r hr
              rcases hj with hj | rfl
              · exact .inl (S.down j hj r hr)
              · exact .inl (hpr r hr)) (.inr rfl) hb
            rcases this with e | e
            · exact notlisted p hp e
            · exact hne p hp e
          have hfit : ∀ t ∈ looks l (opAt l i), FitAt ρ env a t := by
            intro t ht
            refine S.fit t fun p hp hd => ?_
            rcases (tl.tmps p.i i t (S.lt _ (.inl (S.pin p hp))) hil (hne p hp) hd).2 ht with k | k
            · exact closed hp k
            · exact hid (bef_closed (· ∈ done) l S.downD (S.pin p hp) k)
          simp only [opsOf, List.map_cons, aOpsD] at h
          rcases pif_true h with ⟨hok, h⟩ | ⟨_, h⟩
          · have hok' : ∀ y ∈ (opAt l i).op.operands, operandOK P.globals.size y = true := fun y hy => List.all_eq_true.1 hok y (by simpa using hy)
            obtain ⟨b, hb, hw⟩ := guardK_sound S.len (fun t ht => hfit t (by simp [looks, ht])) h
            have next : ∀ {ρ' : Loc} {v v' : Value} {H' : AHeap} {w' : World}, ρ.le ρ' → VR ρ' v v' → Rel T P.globals.size w0 ρ' H' w' → (∀ p ∈ pend, H.le H' ∨ heapRd (opAt l p.i) = false) → aOpsD P T l (opsOf l rest) (Env.put env (opAt l i).dst v) H' K →
                wpAny P .any ⟨l⟩ Q fuel (listed.setIfInBounds i true) (a.put (opAt l i).dst v') w' := by
              intro ρ' v v' H' w' hle' hv R' hH hk
              obtain ⟨d', t', p', e', g1, g2, g3, g4, g5⟩ := eager tl rest (done ++ [i]) pend _ (S.turn tl hpr hle' hv R' hH) c5 hk
              exact ih _ d' t' p' e' H' ρ' _ w' g1 (Loc.le_trans hle hle') g2 g3 g4 (by simp at hf; omega)
            rcases pif_true hb with ⟨rfl, hb⟩ | ⟨rfl, hb⟩
            · rw [if_pos hw]
              left
              -- what is asked of the heap
              have hb' : aOp P T (opAt l i) (aev env) H fun v H' => (∀ p ∈ pend, H.le H' ∨ heapRd (opAt l p.i) = false) ∧ aOpsD P T l (opsOf l rest) (Env.put env (opAt l i).dst v) H' K := by
                rcases c3 hex with rfl | k | k
                · exact aOp_mono hex hb fun v H' hk => ⟨fun _ _ => .inl hk.1, hk.2⟩
                · refine aOp_mono hex (aOp_auto k hb) fun v H' hk => ⟨fun _ _ => .inl hk.1, ?_⟩
                  cases need with
                  | false => exact hk.2
                  | true => exact hk.2.2
                · refine aOp_mono hex hb fun v H' hk => ⟨fun p hp => .inr ?_, ?_⟩
                  · rcases k p.i (S.pin p hp) with k | k
                    · exact k
                    · exact (closed hp k).elim
                  · cases need with
                    | false => exact hk
                    | true => exact hk.2
              refine aOp_sound hT S.rel (vals_of_looks S.rel.glob hok' hfit) hb' ?_
              rintro v v' ρ' H' w' ⟨hH, hk⟩ hle' hv R'
              exact next hle' hv R' hH hk
            · rw [if_neg (by simp [hw])]
              exact next (Loc.le_refl _) (VR.undef _) S.rel (fun _ _ => .inl (AHeap.le_refl _)) hb
          · exact h.elim
end
end Go.Abs
