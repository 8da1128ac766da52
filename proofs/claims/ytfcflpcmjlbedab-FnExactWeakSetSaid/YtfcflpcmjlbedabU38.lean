/- Contracts: a function called with all matchings, in order. -/
import Derived.Test.YtfcflpcmjlbedabU37
import Derived.Test.YtfcflpcmjlbedabU6
set_option linter.unusedVariables false
set_option linter.unusedSimpArgs false
set_option maxRecDepth 100000
namespace Go.Proofs
open Go.Abs

variable {H G : AHeap}

/-- What is nobody's own lives on; what becomes somebody's own is new. -/
structure Fr (P : Nat → Prop) (G : AHeap) (P' : Nat → Prop) (G' : AHeap) : Prop where
  len : G.length ≤ G'.length
  own : ∀ b, P' b → P b ∨ G.length ≤ b
  old : ∀ (b : Nat) (o : AObj), ¬ P b → G[b]? = some (some o) → G'[b]? = some (some o)
theorem Fr.le {P : Nat → Prop} {G G' : AHeap} (h : G.le G') : Fr P G P G' := ⟨h.1, fun b hb => .inl hb, fun b o _ ho => h.2 b o ho⟩
theorem Fr.refl {P : Nat → Prop} {G : AHeap} : Fr P G P G := Fr.le (AHeap.le_refl _)
theorem Fr.trans {P P1 P2 : Nat → Prop} {G G1 G2 : AHeap} (h : Fr P G P1 G1) (k : Fr P1 G1 P2 G2) : Fr P G P2 G2 := by
  refine ⟨Nat.le_trans h.len k.len, fun b hb => ?_, fun b o hn ho => k.old b o (fun h1 => ?_) (h.old b o hn ho)⟩
  · rcases k.own b hb with h1 | h1
    · exact h.own b h1
    · exact .inr (Nat.le_trans h.len h1)
  · rcases h.own b h1 with h2 | h2
    · exact hn h2
    · have := lt_of_get ho; omega
theorem Fr.base {P P' : Nat → Prop} {H0 G G' : AHeap} (h : Fr P G P' G') (h0 : H0.le G) (hp : ∀ b, P b → H0.length ≤ b) : H0.le G' ∧ ∀ b, P' b → H0.length ≤ b := by
  refine ⟨⟨Nat.le_trans h0.1 h.len, fun b o ho => h.old b o (fun hb => ?_) (h0.2 b o ho)⟩, fun b hb => ?_⟩
  · have := hp b hb; have := lt_of_get ho; omega
  · rcases h.own b hb with h1 | h1
    · exact hp b h1
    · exact Nat.le_trans h0.1 h1
theorem Fr.sl {P P' : Nat → Prop} {G G' : AHeap} {m : Nat} {v : Value} {t : TypeId} {z : Nat} {cs : List Value} (h : Fr P G P' G') (hs : Sl m G v t z cs) (hn : ∀ b, bk v = some b → ¬ P b) : Sl m G' v t z cs := by
  rcases hs with hs | ⟨b, n, pre, post, h1, rfl, h3, h4⟩
  · exact .inl hs
  · exact .inr ⟨b, n, pre, post, h1, rfl, h.old b _ (hn b rfl) h3, h4⟩

end Go.Proofs
