/- Contracts: how many parts. -/
import Derived.Test.YtfcflpcmjlbedabU27
import Derived.Test.YtfcflpcmjlbedabU16
set_option linter.unusedVariables false
set_option linter.unusedSimpArgs false
set_option maxRecDepth 100000
namespace Go.Proofs
open Go.Abs

variable {H : AHeap} {u : Value} {fs : List (Int × Int)} {K : Value → AHeap → Prop}

/-- How many of the first n name themselves. -/
def selfs (D : List Int) : Nat → Nat
  | 0 => 0
  | n + 1 => selfs D n + if D.getD n 0 = (n : Int) then 1 else 0
theorem selfs_le (D : List Int) : ∀ n, selfs D n ≤ n
  | 0 => Nat.le_refl _
  | n + 1 => by have := selfs_le D n; unfold selfs; split <;> omega
theorem l01Parts_ok {n : Int} (h : Edges H u fs) (hl : fs.length ≤ 1048576) (h0 : 0 < n) (h1 : n ≤ 20) (hf : ∀ e ∈ fs, 0 ≤ e.1 ∧ e.1 < n ∧ 0 ≤ e.2 ∧ e.2 < n)
    (k : ∀ D G, H.le G → D.length = n.toNat → Leads n.toNat fs D → K (.int .i64 (selfs D n.toNat)) G) :
    AC Try.prog T0 126 [.int .i64 n, u] H K := by
  apply F126.ac
  unfold F126.B9 F126.B8
  refine l01Leaders_ok h hl h0 h1 hf fun b0 D G1 l1 o1 _ hD => ?_
  have hlen : D.length = n.toNat := hD.led.1
  unfold F126.B7 F126.L2
  refine ⟨fun x0 x5 x6 x7 G => x0 = n ∧ x5 = .slice (some ⟨b0, 0, none⟩) n.toNat (n.toNat + 1) ∧ G1 = G ∧ ∃ i : Nat, x7 = i ∧ i ≤ n.toNat ∧ x6 = selfs D i, fun _ _ _ x7 _ => n.toNat - x7.toNat, ⟨rfl, rfl, rfl, 0, rfl, by omega, rfl⟩, ?_⟩
  rintro x0 x5 x6 x7 G ⟨rfl, rfl, rfl, i, rfl, hi, rfl⟩
  unfold F126.B6
  have hs := selfs_le D i
  by_cases hlt : i < x0.toNat
  · refine pif_t (by simp; omega) ?_
    unfold F126.B5
    have hg : (LI D)[(i : Int).toNat]? = some (.int .i64 (D.getD i 0)) := by
      simp only [Int.toNat_natCast, LI, List.getElem?_map, List.getD, List.getElem?_eq_getElem (show i < D.length by omega)]; rfl
    refine own_idx (by omega) (by omega) (ldI_own o1 hg ?_)
    by_cases he : D.getD i 0 = (i : Int)
    · refine pif_t (by simpa using he) ?_
      unfold F126.B4 F126.B3
      rw [wrap_id (by omega) (by omega), wrap_id (by omega) (by omega)]
      refine ⟨⟨rfl, rfl, rfl, i + 1, by omega, by omega, ?_⟩, by show x0.toNat - (((i : Nat) : Int) + 1).toNat < x0.toNat - ((i : Nat) : Int).toNat; omega⟩
      show ((selfs D i : Nat) : Int) + 1 = ((selfs D i + (if D.getD i 0 = (i : Int) then 1 else 0) : Nat) : Int); rw [if_pos he]; omega
    · refine pif_f (by simpa using he) ?_
      unfold F126.B3
      rw [wrap_id (by omega) (by omega)]
      refine ⟨⟨rfl, rfl, rfl, i + 1, by omega, by omega, ?_⟩, by show x0.toNat - (((i : Nat) : Int) + 1).toNat < x0.toNat - ((i : Nat) : Int).toNat; omega⟩
      show ((selfs D i : Nat) : Int) = ((selfs D i + (if D.getD i 0 = (i : Int) then 1 else 0) : Nat) : Int); rw [if_neg he]; omega
  · refine pif_f (by simp; omega) ?_
    unfold F126.B1
    obtain rfl : i = x0.toNat := by omega
    exact k D _ l1 hlen hD
end Go.Proofs
