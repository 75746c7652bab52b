/- Arithmetic: rules for simp. -/
import Derived.Test.YtcjlgmknclifmaaDoorAb21
set_option linter.unusedVariables false
set_option linter.unusedSimpArgs false
namespace Go.Proofs.YtcjlgmknclifmaaDoor.Ab
open Go

theorem wrap_u {k : IntKind} (hk : k.signed = false) (x : Int) : k.wrap x = x % (2 ^ k.bits) := by
  simp only [IntKind.wrap, hk, Bool.false_and, Bool.false_eq_true, if_false]
@[simp] theorem wrapU8 (x : Int) : IntKind.u8.wrap x = x % 256 := wrap_u rfl x
@[simp] theorem wrapU16 (x : Int) : IntKind.u16.wrap x = x % 65536 := wrap_u rfl x
@[simp] theorem wrapU32 (x : Int) : IntKind.u32.wrap x = x % 4294967296 := wrap_u rfl x
@[simp] theorem wrapU64 (x : Int) : IntKind.u64.wrap x = x % 18446744073709551616 := wrap_u rfl x
@[simp] theorem lit_le (n x : Nat) : ((no_index (OfNat.ofNat n) : Int) ≤ (x : Int)) = ((OfNat.ofNat n : Nat) ≤ x) := propext (Int.ofNat_le (m := OfNat.ofNat n) (n := x))
@[simp] theorem le_lit (n x : Nat) : ((x : Int) ≤ (no_index (OfNat.ofNat n) : Int)) = (x ≤ (OfNat.ofNat n : Nat)) := propext (Int.ofNat_le (m := x) (n := OfNat.ofNat n))
@[simp] theorem lit_lt (n x : Nat) : ((no_index (OfNat.ofNat n) : Int) < (x : Int)) = ((OfNat.ofNat n : Nat) < x) := propext (Int.ofNat_lt (n := OfNat.ofNat n) (m := x))
@[simp] theorem lt_lit (n x : Nat) : ((x : Int) < (no_index (OfNat.ofNat n) : Int)) = (x < (OfNat.ofNat n : Nat)) := propext (Int.ofNat_lt (n := x) (m := OfNat.ofNat n))
@[simp] theorem eq_lit (n x : Nat) : ((x : Int) = (no_index (OfNat.ofNat n) : Int)) = (x = (OfNat.ofNat n : Nat)) := propext (Int.ofNat_inj (m := x) (n := OfNat.ofNat n))
@[simp] theorem lit_eq (n x : Nat) : ((no_index (OfNat.ofNat n) : Int) = (x : Int)) = ((OfNat.ofNat n : Nat) = x) := propext (Int.ofNat_inj (m := OfNat.ofNat n) (n := x))
theorem shr_int (k : IntKind) (x y : Int) (h : 0 ≤ y) : shiftI .shr k x y = some (.int k (x / 2 ^ min y.toNat k.bits)) := by
  unfold shiftI
  rw [if_neg (by omega)]
  simp only [Option.some.injEq, AVal.int.injEq, true_and]
  exact Int.fdiv_eq_ediv_of_nonneg _ (Int.le_of_lt (Int.pow_pos (by decide)))
theorem shl_int (k : IntKind) (x y : Int) (h : 0 ≤ y) : shiftI .shl k x y = some (.int k (k.wrap (x * 2 ^ min y.toNat k.bits))) := by
  unfold shiftI
  rw [if_neg (by omega)]
@[simp] theorem shr_lit (k : IntKind) (x : Int) (n : Nat) : shiftI .shr k x (no_index (OfNat.ofNat n) : Int) = some (.int k (x / 2 ^ min (OfNat.ofNat n) k.bits)) := shr_int k x (OfNat.ofNat n : Int) (Int.natCast_nonneg n)
@[simp] theorem shr_var (k : IntKind) (x : Int) (n : Nat) : shiftI .shr k x (n : Int) = some (.int k (x / 2 ^ min n k.bits)) := shr_int k x n (Int.natCast_nonneg n)
@[simp] theorem shl_lit (k : IntKind) (x : Int) (n : Nat) : shiftI .shl k x (no_index (OfNat.ofNat n) : Int) = some (.int k (k.wrap (x * 2 ^ min (OfNat.ofNat n) k.bits))) := shl_int k x (OfNat.ofNat n : Int) (Int.natCast_nonneg n)
@[simp] theorem shl_var (k : IntKind) (x : Int) (n : Nat) : shiftI .shl k x (n : Int) = some (.int k (k.wrap (x * 2 ^ min n k.bits))) := shl_int k x n (Int.natCast_nonneg n)
@[simp] theorem shr_zero (k : IntKind) (x : Int) : shiftI .shr k x 0 = some (.int k x) := (shr_int k x 0 (by decide)).trans (by simp)
@[simp] theorem bits8 : IntKind.u8.bits = 8 := rfl
@[simp] theorem bits16 : IntKind.u16.bits = 16 := rfl
@[simp] theorem bits32 : IntKind.u32.bits = 32 := rfl
@[simp] theorem bits64 : IntKind.u64.bits = 64 := rfl
@[simp] theorem bitsi64 : IntKind.i64.bits = 64 := rfl
theorem tmod_pos {x y : Int} (h : 0 ≤ x) : x.tmod y = x % y := Int.tmod_eq_emod_of_nonneg h
theorem tdiv_pos {x y : Int} (h : 0 ≤ x) : x.tdiv y = x / y := Int.tdiv_eq_ediv_of_nonneg h
@[simp] theorem tmod_cast (x : Nat) (y : Int) : (x : Int).tmod y = x % y := tmod_pos (by omega)
/-- Both as numbers: what they have in common. -/
theorem toNat_ofInt_emod (n : Nat) (x : Int) (m : Nat) (h : m ∣ 2 ^ n) : (BitVec.ofInt n x).toNat % m = (x % m).toNat := by
  rw [BitVec.toNat_ofInt]
  have h2 : ((x % (2 ^ n : Nat)).toNat : Int) = x % (2 ^ n : Nat) := Int.toNat_of_nonneg (Int.emod_nonneg _ (by have := Nat.two_pow_pos n; omega))
  have h3 : (((x % (2 ^ n : Nat)).toNat % m : Nat) : Int) = x % m := by
    rw [Int.natCast_emod, h2]
    exact Int.emod_emod_of_dvd x (by exact_mod_cast h)
  omega
/-- The low digits. -/
theorem andI_low (k : IntKind) (x : Int) (m : Nat) (hm : m + 1 ≤ k.bits) : andI k x ((2 ^ m - 1 : Nat) : Int) = x % ((2 ^ m : Nat) : Int) := by
  have hb : 2 ^ m < 2 ^ k.bits := Nat.pow_lt_pow_right (by decide) hm
  have hb2 : 2 ^ m ≤ 2 ^ (k.bits - 1) := Nat.pow_le_pow_right (by decide) (by omega)
  have hp : 0 < 2 ^ m := Nat.two_pow_pos m
  unfold andI
  rw [BitVec.toNat_and]
  have e1 : (BitVec.ofInt k.bits ((2 ^ m - 1 : Nat) : Int)).toNat = 2 ^ m - 1 := by
    rw [BitVec.toNat_ofInt, Int.emod_eq_of_lt (by omega) (by exact_mod_cast (by omega : 2 ^ m - 1 < 2 ^ k.bits))]
    exact Int.toNat_natCast _
  rw [e1, Nat.and_two_pow_sub_one_eq_mod, toNat_ofInt_emod _ _ _ (Nat.pow_dvd_pow 2 (by omega))]
  have hnn : 0 ≤ x % ((2 ^ m : Nat) : Int) := Int.emod_nonneg _ (by omega)
  have hlt : x % ((2 ^ m : Nat) : Int) < ((2 ^ m : Nat) : Int) := Int.emod_lt_of_pos _ (by omega)
  rw [Int.toNat_of_nonneg hnn]
  generalize x % ((2 ^ m : Nat) : Int) = y at *
  have h1 : y < ((2 ^ k.bits : Nat) : Int) := by omega
  have h2 : ¬ (y ≥ ((2 ^ (k.bits - 1) : Nat) : Int)) := by omega
  simp only [IntKind.wrap]
  have p1 : ((2 : Int) ^ k.bits) = ((2 ^ k.bits : Nat) : Int) := by simp
  have p2 : ((2 : Int) ^ (k.bits - 1)) = ((2 ^ (k.bits - 1) : Nat) : Int) := by simp
  rw [p1, p2, Int.emod_eq_of_lt hnn h1]
  simp [h2]
  intro _ h3; exfalso; apply h2; simpa using h3
@[simp] theorem andI_1 (k : IntKind) (x : Int) : andI k x 1 = x % 2 := andI_low k x 1 (by cases k <;> decide)
@[simp] theorem andI_15 (k : IntKind) (x : Int) : andI k x 15 = x % 16 := andI_low k x 4 (by cases k <;> decide)
@[simp] theorem andI_127 (k : IntKind) (x : Int) : andI k x 127 = x % 128 := by
  cases k with
  | i8 =>
    exact andI_low .i8 x 7 (by decide)
  | _ => exact andI_low _ x 7 (by decide)
theorem or_128 (x : Nat) (h : x < 128) : x ||| 128 = x + 128 := by
  have h3 := Nat.two_pow_add_eq_or_of_lt (i := 7) (b := x) h 1
  rw [Nat.or_comm, show (2 ^ 7 * 1) = 128 from rfl] at h3
  omega
theorem or_128_256 (x : Nat) (h : x < 256) : x ||| 128 = x % 128 + 128 := by
  by_cases h1 : x < 128
  · rw [or_128 x h1, Nat.mod_eq_of_lt h1]
  · have h2 : x = x % 128 ||| 128 := by rw [or_128 _ (Nat.mod_lt _ (by decide))]; omega
    calc x ||| 128 = (x % 128 ||| 128) ||| 128 := by rw [← h2]
      _ = x % 128 ||| 128 := by rw [Nat.or_assoc, Nat.or_self]
      _ = x % 128 + 128 := or_128 _ (Nat.mod_lt _ (by decide))
theorem toNat_ofInt_small {n : Nat} {x : Int} (h0 : 0 ≤ x) (h : x < 2 ^ n) : (BitVec.ofInt n x).toNat = x.toNat := by
  rw [BitVec.toNat_ofInt, Int.emod_eq_of_lt h0 (by simpa using h)]
theorem orI_128 {k : IntKind} {x : Int} (hk : k = .u8 ∨ k = .u64) (h0 : 0 ≤ x) (h : x < 256) : orI k x 128 = x % 128 + 128 := by
  have g : ∀ n, 8 ≤ n → (BitVec.ofInt n x ||| BitVec.ofInt n 128).toNat = x.toNat % 128 + 128 := fun n hn => by
    have hn2 : 2 ^ 8 ≤ 2 ^ n := Nat.pow_le_pow_right (by decide) hn
    have hn3 : (2 : Int) ^ 8 ≤ 2 ^ n := by exact_mod_cast hn2
    rw [BitVec.toNat_or, toNat_ofInt_small h0 (by omega), toNat_ofInt_small (by decide) (by omega)]
    exact or_128_256 _ (by omega)
  unfold orI
  rcases hk with rfl | rfl
  · rw [bits8, g 8 (by decide)]; simp; omega
  · rw [bits64, g 64 (by decide)]; simp; omega
def andO : Option Bool → Option Bool → Option Bool
  | some a, some b => some (a && b)
  | _, _ => none
@[simp] theorem andO_some (a b : Bool) : andO (some a) (some b) = some (a && b) := (rfl)
@[simp] theorem eqAll_step (k : EqK) (ks : List EqK) (x y : AVal) (xs ys : List AVal) : eqAll (k :: ks) (x :: xs) (y :: ys) = andO (eq1 k x y) (eqAll ks xs ys) := by
  simp only [eqAll]
  cases eq1 k x y <;> cases eqAll ks xs ys <;> rfl
@[simp] theorem one_add' (n : Nat) : 1 + n = n + 1 := Nat.add_comm 1 n
attribute [simp] List.take_of_length_le
attribute [simp] wrap_i64
end Go.Proofs.YtcjlgmknclifmaaDoor.Ab
