/- Numbers of bytes: plain facts. -/
import Derived.Test.YtbjifmoiblicgaaByD
set_option linter.unusedVariables false
set_option linter.unusedSimpArgs false
namespace Go.Proofs.Ytbjifmoiblicgaa.Ab
open Go

/-- A number in groups of seven digits, the least ahead. -/
def val : List Nat → Nat
  | [] => 0
  | b :: l => b % 128 + 128 * val l
def endU (l : List Nat) : Option Nat := l.findIdx? fun b => decide (b < 128)
def getU (l : List Nat) : Option (Nat × Nat) :=
  match endU l with
  | none => none
  | some e => if e < 10 ∧ putU (val (l.take (e + 1)) % 18446744073709551616) = l.take (e + 1) then some (val (l.take (e + 1)) % 18446744073709551616, e + 1) else none
theorem val_lt : ∀ l : List Nat, val l < 128 ^ l.length
  | [] => by simp [val]
  | b :: l => by
    have := val_lt l
    simp only [val, List.length_cons, Nat.pow_succ]
    omega
theorem val_append (l l' : List Nat) : val (l ++ l') = val l + 128 ^ l.length * val l' := by
  induction l with
  | nil => simp [val]
  | cons b l ih => simp only [List.cons_append, val, ih, List.length_cons, Nat.pow_succ, Nat.mul_add]; rw [Nat.mul_comm (128 ^ l.length) 128, Nat.mul_assoc]; omega
theorem val_take (l : List Nat) (i : Nat) (hi : i < l.length) : val (l.take (i + 1)) = val (l.take i) + 128 ^ i * (l[i] % 128) := by
  rw [List.take_succ_eq_append_getElem hi, val_append]
  simp [val, Nat.min_eq_left (Nat.le_of_lt hi)]
theorem val_putU (x : Nat) : val (putU x) = x := by
  rw [putU]
  split
  · simp only [val]; rw [val_putU (x / 128)]; omega
  · simp [val]; omega
termination_by x
decreasing_by omega
/-- All but the last go on; the last ends. -/
def Runs : List Nat → Prop
  | [] => False
  | [b] => b < 128
  | b :: l => 128 ≤ b ∧ b < 256 ∧ Runs l
theorem putU_val : ∀ (l : List Nat), Runs l → (l.length = 1 ∨ l.getLast? ≠ some 0) → putU (val l) = l ∧ (l.getLast? ≠ some 0 → 0 < val l)
  | [], h, _ => h.elim
  | [b], h, _ => by
    simp only [Runs] at h
    simp only [val]
    have : b % 128 + 128 * 0 = b := by omega
    rw [this, putU, dif_neg (by omega)]
    simp; omega
  | b :: c :: l, h, hz => by
    obtain ⟨h1, h2, h3⟩ := h
    have hl : (c :: l).getLast? ≠ some 0 := by
      rcases hz with hz | hz
      · simp at hz
      · simpa using hz
    obtain ⟨k1, k2⟩ := putU_val (c :: l) h3 (.inr hl)
    have k3 := k2 hl
    have e : val (b :: c :: l) = b % 128 + 128 * val (c :: l) := rfl
    rw [e, putU, dif_pos (by omega)]
    have e1 : (b % 128 + 128 * val (c :: l)) % 128 + 128 = b := by omega
    have e2 : (b % 128 + 128 * val (c :: l)) / 128 = val (c :: l) := by omega
    rw [e1, e2, k1]
    exact ⟨rfl, fun _ => by omega⟩
theorem putU_last (x : Nat) : (putU x).length = 1 ∨ (putU x).getLast? ≠ some 0 := by
  rw [putU]
  split
  · right
    rw [List.getLast?_cons_of_ne_nil (putU_ne _)]
    rcases putU_last (x / 128) with h | h
    · rename_i hx
      by_cases hlt : x / 128 < 128
      · rw [putU, dif_neg (by omega)]; simp; omega
      · rw [putU, dif_pos (by omega)] at h; simp at h; exact absurd h (putU_ne _)
    · exact h
  · left; rfl
termination_by x
decreasing_by omega
theorem endU_some {l : List Nat} {e : Nat} (h : endU l = some e) (hl : ∀ b ∈ l, b < 256) : ∃ he : e < l.length, l[e] < 128 ∧ (∀ i (hi : i < e), 128 ≤ l[i]) ∧ Runs (l.take (e + 1)) := by
  unfold endU at h
  rw [List.findIdx?_eq_some_iff_getElem] at h
  obtain ⟨he, h1, h2⟩ := h
  have h1 : l[e] < 128 := by simpa using h1
  have h2 : ∀ i (hi : i < e), 128 ≤ l[i] := fun i hi => by have := h2 i hi; simpa using this
  refine ⟨he, h1, h2, ?_⟩
  have go : ∀ (e : Nat) (l : List Nat) (he : e < l.length), (∀ b ∈ l, b < 256) → l[e] < 128 → (∀ i (hi : i < e), 128 ≤ l[i]'(by omega)) → Runs (l.take (e + 1)) := by
    intro e
    induction e with
    | zero =>
      intro l he hl g1 g2
      cases l with
      | nil => simp at he
      | cons b l => simpa [Runs] using g1
    | succ e ih =>
      intro l he hl g1 g2
      cases l with
      | nil => simp at he
      | cons b l =>
        have g3 := g2 0 (by omega)
        have g4 := ih l (by simpa using he) (fun b hb => hl b (by simp [hb])) (by simpa using g1) (fun i hi => by have := g2 (i + 1) (by omega); simpa using this)
        have : ∃ c r, l.take (e + 1) = c :: r := by
          cases l with
          | nil => simp at he
          | cons c l => exact ⟨c, l.take e, by simp⟩
        obtain ⟨c, r, hc⟩ := this
        rw [List.take_succ_cons, hc]
        rw [hc] at g4
        exact ⟨by simpa using g3, hl b (by simp), g4⟩
  exact go e l he hl h1 h2
theorem last_take {l : List Nat} {e : Nat} (he : e < l.length) : (l.take (e + 1)).getLast? = some l[e] := by
  rw [List.take_succ_eq_append_getElem he, List.getLast?_concat]
/-- When the number's bytes are those at hand. -/
theorem putU_iff {l : List Nat} {e : Nat} (h : endU l = some e) (hl : ∀ b ∈ l, b < 256) (h10 : e < 10) (he : e < l.length) :
    putU (val (l.take (e + 1)) % 18446744073709551616) = l.take (e + 1) ↔ ¬ (0 < e ∧ l[e] = 0) ∧ ¬ (e = 9 ∧ 2 ≤ l[e]) := by
  obtain ⟨_, h1, h2, h3⟩ := endU_some h hl
  have hlen : (l.take (e + 1)).length = e + 1 := by simp; omega
  have hvt := val_take l e he
  have hvl := val_lt (l.take e)
  have hlen2 : (l.take e).length = e := by simp; omega
  rw [hlen2] at hvl
  have hp9 : e ≤ 8 → 128 ^ e ≤ 128 ^ 8 := fun h => Nat.pow_le_pow_right (by decide) h
  have hval : ¬ (e = 9 ∧ 2 ≤ l[e]) → val (l.take (e + 1)) < 18446744073709551616 := by
    intro hn
    by_cases h9 : e = 9
    · subst h9
      have : l[9] < 2 := by omega
      have : l[9] % 128 ≤ 1 := by omega
      have h128 : (128 : Nat) ^ 9 = 9223372036854775808 := by decide
      rw [h128] at hvt hvl
      have : 9223372036854775808 * (l[9] % 128) ≤ 9223372036854775808 * 1 := Nat.mul_le_mul_left _ this
      omega
    · have h8 := hp9 (by omega)
      have h128 : (128 : Nat) ^ 8 = 72057594037927936 := by decide
      rw [h128] at h8
      have : 128 ^ e * (l[e] % 128) ≤ 72057594037927936 * 127 := Nat.mul_le_mul h8 (by omega)
      omega
  have hbig : e = 9 ∧ 2 ≤ l[e] → 18446744073709551616 ≤ val (l.take (e + 1)) := by
    rintro ⟨h9, h2'⟩
    subst h9
    have h128 : (128 : Nat) ^ 9 = 9223372036854775808 := by decide
    rw [h128] at hvt
    have : 9223372036854775808 * 2 ≤ 9223372036854775808 * (l[9] % 128) := Nat.mul_le_mul_left _ (by omega)
    omega
  have hlast : l[e] ≠ 0 → (l.take (e + 1)).getLast? ≠ some 0 := fun hn h0 => by rw [last_take he] at h0; simp at h0; exact hn h0
  constructor
  · intro hp
    have hv := val_putU (val (l.take (e + 1)) % 18446744073709551616)
    rw [hp] at hv
    have hlt : val (l.take (e + 1)) < 18446744073709551616 := by rw [hv]; exact Nat.mod_lt _ (by decide)
    refine ⟨fun ⟨h0, hz⟩ => ?_, fun hb => ?_⟩
    · rcases putU_last (val (l.take (e + 1)) % 18446744073709551616) with h | h
      · rw [hp, hlen] at h; omega
      · rw [hp, last_take he, hz] at h; exact h rfl
    · have := hbig hb; omega
  · rintro ⟨n1, n2⟩
    rw [Nat.mod_eq_of_lt (hval n2)]
    refine (putU_val _ h3 ?_).1
    rw [hlen]
    by_cases h0 : e = 0
    · left; omega
    · right; exact hlast fun hz => n1 ⟨by omega, hz⟩
theorem orI_nat (x y : Nat) (hx : x < 18446744073709551616) (hy : y < 18446744073709551616) : orI .u64 (x : Int) (y : Int) = ((x ||| y : Nat) : Int) := by
  unfold orI
  rw [BitVec.toNat_or, toNat_ofInt_small (by omega) (by simp; omega), toNat_ofInt_small (by omega) (by simp; omega)]
  simp only [wrapU64, Int.toNat_natCast]
  have : x ||| y < 2 ^ 64 := Nat.or_lt_two_pow (by omega) (by omega)
  omega
/-- One byte more. -/
theorem or_step (l : List Nat) (i : Nat) (hi : i < l.length) (h9 : i < 10) :
    orI .u64 ((val (l.take i) % 18446744073709551616 : Nat) : Int) (((l[i] % 128 * 2 ^ (7 * i)) % 18446744073709551616 : Nat) : Int) = ((val (l.take (i + 1)) % 18446744073709551616 : Nat) : Int) := by
  rw [orI_nat _ _ (Nat.mod_lt _ (by decide)) (Nat.mod_lt _ (by decide))]
  have hvl := val_lt (l.take i)
  have hlen2 : (l.take i).length = i := by simp; omega
  rw [hlen2, show (128 : Nat) = 2 ^ 7 from rfl, ← Nat.pow_mul] at hvl
  have h64 : 2 ^ (7 * i) ≤ 2 ^ 63 := Nat.pow_le_pow_right (by decide) (by omega)
  rw [Nat.mod_eq_of_lt (a := val (l.take i)) (by omega)]
  have hdvd : (l[i] % 128 * 2 ^ (7 * i)) % 18446744073709551616 = 2 ^ (7 * i) * (l[i] % 128 % 2 ^ (64 - 7 * i)) := by
    have e : (18446744073709551616 : Nat) = 2 ^ (7 * i) * 2 ^ (64 - 7 * i) := by rw [← Nat.pow_add, show 7 * i + (64 - 7 * i) = 64 from by omega]
    rw [Nat.mul_comm, e, Nat.mul_mod_mul_left]
  rw [hdvd, Nat.or_comm, ← Nat.two_pow_add_eq_or_of_lt hvl, ← hdvd, val_take l i hi, show (128 : Nat) = 2 ^ 7 from rfl, ← Nat.pow_mul]
  have hvl2 : val (l.take i) < 2 ^ 64 := by omega
  rw [Nat.mul_comm (2 ^ (7 * i)) (l[i] % 2 ^ 7)]
  have h128 : (2 : Nat) ^ 7 = 128 := rfl
  rw [h128]
  -- the sum does not run over: the high part is a multiple of the low part's bound
  have hs : (l[i] % 128 * 2 ^ (7 * i)) % 18446744073709551616 + val (l.take i) < 18446744073709551616 := by
    rw [hdvd]
    have hq : l[i] % 128 % 2 ^ (64 - 7 * i) + 1 ≤ 2 ^ (64 - 7 * i) := Nat.mod_lt _ (Nat.two_pow_pos _)
    have := Nat.mul_le_mul_left (2 ^ (7 * i)) hq
    rw [Nat.mul_add, Nat.mul_one, ← Nat.pow_add, show 7 * i + (64 - 7 * i) = 64 from by omega] at this
    omega
  rw [Int.ofNat_inj]
  generalize l[i] % 128 * 2 ^ (7 * i) = y at *
  omega
def len8 (b : Nat) : Nat := if b = 0 then 0 else Nat.log2 b + 1
theorem andNot_128 (b : Nat) (h : b < 256) : andNotI .u8 (b : Int) 128 = (b : Int) % 128 := by
  have : ∀ b : Fin 256, andNotI .u8 ((b : Nat) : Int) 128 = ((b : Nat) : Int) % 128 := by decide +kernel
  exact this ⟨b, h⟩
theorem len8_bound (b : Nat) (h : b < 128) : len8 b ≤ 7 ∧ (len8 b ≤ 1 ↔ b < 2) := by
  have : ∀ b : Fin 128, len8 b ≤ 7 ∧ (len8 b ≤ 1 ↔ (b : Nat) < 2) := by decide +kernel
  exact this ⟨b, h⟩
end Go.Proofs.Ytbjifmoiblicgaa.Ab
