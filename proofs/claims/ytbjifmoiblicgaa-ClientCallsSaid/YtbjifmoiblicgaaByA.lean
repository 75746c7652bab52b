/- Numbers as bytes. -/
import Derived.Test.YtbjifmoiblicgaaAb22
import Derived.Test.YtbjifmoiblicgaaCodeA
set_option linter.unusedVariables false
set_option linter.unusedSimpArgs false
namespace Go.Proofs.Ytbjifmoiblicgaa.Ab
open Go

/-- A number's bytes. -/
def putU (v : Nat) : List Nat := if h : 128 ≤ v then (v % 128 + 128) :: putU (v / 128) else [v]
termination_by v
decreasing_by omega
theorem putU_length (v : Nat) (h : v < 2 ^ 64) : (putU v).length ≤ 10 := by
  have go : ∀ k v, v < 128 ^ (k + 1) → (putU v).length ≤ k + 1 := by
    intro k
    induction k with
    | zero => intro v hv; rw [putU, dif_neg (by omega)]; simp
    | succ k ih =>
      intro v hv
      rw [putU]
      split
      · have : v / 128 < 128 ^ (k + 1) := Nat.div_lt_of_lt_mul (by rw [Nat.pow_succ] at hv; omega)
        have := ih _ this
        simp; omega
      · simp
  exact go 9 v (by have : (2 : Nat) ^ 64 ≤ 128 ^ 10 := by decide
                   omega)
theorem putU_lt (v : Nat) : ∀ b ∈ putU v, b < 256 := by
  intro b hb
  rw [putU] at hb
  split at hb
  · rcases List.mem_cons.1 hb with rfl | hb
    · omega
    · exact putU_lt (v / 128) b hb
  · simp at hb; omega
termination_by v
decreasing_by omega
end Go.Proofs.Ytbjifmoiblicgaa.Ab
