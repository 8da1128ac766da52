/- Contracts of the laws' helpers over lists of lists. -/
import Derived.Test.YtfcflpcmjlbedaaDoorK2
import Derived.Test.YtfcflpcmjlbedaaDoorU2
set_option linter.unusedVariables false
set_option linter.unusedSimpArgs false
set_option maxRecDepth 100000
namespace Go.Proofs
open Go.Abs

variable {H G : AHeap} {v u f : Value} {l m c : List Int} {es fs : List (Int × Int)} {K : Value → AHeap → Prop} {A A' : Nat → Prop} {B B' : Nat} {ls ms : List (List Int)}

/-- All but rows of a kind lives on. -/
structure ModA (A : Nat → Prop) (H G : AHeap) : Prop where
  len : H.length ≤ G.length
  same : ∀ (c : Nat) (o : AObj), ¬ A c → H[c]? = some (some o) → G[c]? = some (some o)
theorem ModA.refl : ModA A H H := ⟨Nat.le_refl _, fun _ _ _ h => h⟩
theorem ModA.trans {G' : AHeap} (h : ModA A H G) (k : ModA A G G') : ModA A H G' := ⟨Nat.le_trans h.len k.len, fun c o hc ho => k.same c o hc (h.same c o hc ho)⟩
theorem ModA.le {X : AHeap} (h : ModA A H G) (hb : ∀ b, A b → X.length ≤ b) (hl : X.le H) : X.le G :=
  ⟨Nat.le_trans hl.1 h.len, fun c o hc => h.same c o (fun ha => by have := hb c ha; have := lt_of_get hc; omega) (hl.2 _ _ hc)⟩
end Go.Proofs
