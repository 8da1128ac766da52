/- Contracts of the laws' helpers that write. -/
import Derived.Test.YtfcflpcmjlbedaaDoorU1
set_option linter.unusedVariables false
set_option linter.unusedSimpArgs false
set_option maxRecDepth 100000
namespace Go.Proofs
open Go.Abs

variable {H : AHeap} {v u : Value} {l m : List Int} {es fs : List (Int × Int)} {K : Value → AHeap → Prop}

/-- All but a slice's own block stays. -/
structure Mod (v : Value) (H G : AHeap) : Prop where
  len : H.length ≤ G.length
  same : ∀ c o, H[c]? = some (some o) → (∀ n, v ≠ .slice (some ⟨c, 0, none⟩) n (n + 1)) → G[c]? = some (some o)
theorem Mod.refl : Mod v H H := ⟨Nat.le_refl _, fun _ _ h _ => h⟩
theorem _root_.Go.Abs.Fresh.lt {f : Nat} {e : TypeId} {z : Nat} {cs : List Value} (h : Fresh f H v e z cs) {b n : Nat} (e : v = .slice (some ⟨b, 0, none⟩) n (n + 1)) : f ≤ b ∧ b < H.length := by
  subst e
  rcases h with ⟨_, h | ⟨a, h⟩⟩ | ⟨b', n', h1, h2, h3, _⟩
  · cases h
  · cases h
  · cases h2; exact ⟨h1, lt_of_get h3⟩
theorem Mod.le {B G : AHeap} {f : Nat} {e : TypeId} {z : Nat} {cs : List Value} (hm : Mod v H G) (hf : Fresh f H v e z cs) (hb : B.length ≤ f) (hl : B.le H) : B.le G :=
  ⟨Nat.le_trans hl.1 hm.len, fun c o hc => hm.same c o (hl.2 _ _ hc) fun n hn => by have := (hf.lt hn).1; have := lt_of_get hc; omega⟩
/-- What is newer than what turned stays. -/
theorem Mod.keep {G : AHeap} {m : Nat} {e' : TypeId} {z' : Nat} {cs' : List Value} {g : Value} (hm : Mod v H G) (hf : ∀ b n, v = .slice (some ⟨b, 0, none⟩) n (n + 1) → b < m) (hg : Fresh m H g e' z' cs') : Fresh m G g e' z' cs' := by
  rcases hg with hg | ⟨b, n, h1, h2, h3, h4⟩
  · exact .inl hg
  · exact .inr ⟨b, n, h1, h2, hm.same _ _ h3 fun n hn => by have := hf _ _ hn; omega, h4⟩
theorem _root_.Go.Abs.But.trans {b : Nat} {G G' : AHeap} (h : But b H G) (k : But b G G') : But b H G' := ⟨k.len.trans h.len, fun c hc => (k.same c hc).trans (h.same c hc)⟩
theorem _root_.Go.Abs.But.refl {b : Nat} : But b H H := ⟨rfl, fun _ _ => rfl⟩

end Go.Proofs
