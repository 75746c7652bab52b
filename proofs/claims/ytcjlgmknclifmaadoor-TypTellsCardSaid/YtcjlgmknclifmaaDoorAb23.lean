/- What comes in: bytes, numbers without a sign. -/
import Derived.Test.YtcjlgmknclifmaaDoorAb18
import Derived.Test.YtcjlgmknclifmaaDoorAb22
set_option linter.unusedVariables false
set_option linter.unusedSimpArgs false
namespace Go.Proofs.YtcjlgmknclifmaaDoor.Ab
open Go Go.ChangeShapes Go.WideShapes Go.ChangeAt Go.RowKit

theorem u8_of {n : Int} (h : IntKind.u8.min ≤ n ∧ n ≤ IntKind.u8.max) : 0 ≤ n ∧ n ≤ 255 := by simpa [IntKind.min, IntKind.max, IntKind.signed, IntKind.bits] using h
theorem u64_of {n : Int} (h : IntKind.u64.min ≤ n ∧ n ≤ IntKind.u64.max) : 0 ≤ n ∧ n ≤ 18446744073709551615 := by simpa [IntKind.min, IntKind.max, IntKind.signed, IntKind.bits] using h
theorem i64_of {n : Int} (h : IntKind.i64.min ≤ n ∧ n ≤ IntKind.i64.max) : -9223372036854775808 ≤ n ∧ n ≤ 9223372036854775807 := by simpa [IntKind.min, IntKind.max, IntKind.signed, IntKind.bits] using h
/-- The same, told otherwise, where what is known helps. -/
theorem Opens.as' {P : Program} {t : TypeId} {α β : Type} {V : α → List AVal} {I : α → Prop} {V' : β → List AVal} {I' : β → Prop} (h : Opens P t α V I) (f : α → β) (hv : ∀ a, I a → V' (f a) = V a) (hi : ∀ a, I a → I' (f a)) : Opens P t β V' I' := by
  intro H enc W n cs x hx
  obtain ⟨a, ia, va⟩ := h H enc W n cs x hx
  exact ⟨f a, hi a ia, by rw [hv a ia]; exact va⟩
theorem Opens.u8 {P : Program} {t : TypeId} (ht : P.underlying t = some (.int .u8)) : Opens P t Nat (fun n => [.int .u8 n]) (fun n => n < 256) :=
  (Opens.int ht).as' Int.toNat (fun a h => by have := u8_of h; simp only [List.cons.injEq, AVal.int.injEq, true_and, and_true]; omega) fun a h => by have := u8_of h; omega
theorem Opens.u64 {P : Program} {t : TypeId} (ht : P.underlying t = some (.int .u64)) : Opens P t Nat (fun n => [.int .u64 n]) (fun n => n < 18446744073709551616) :=
  (Opens.int ht).as' Int.toNat (fun a h => by have := u64_of h; simp only [List.cons.injEq, AVal.int.injEq, true_and, and_true]; omega) fun a h => by have := u64_of h; omega
theorem Opens.i64 {P : Program} {t : TypeId} (ht : P.underlying t = some (.int .i64)) : Opens P t Int (fun n => [.int .i64 n]) (fun n => -9223372036854775808 ≤ n ∧ n ≤ 9223372036854775807) :=
  (Opens.int ht).as id (fun _ => rfl) fun a h => i64_of h
theorem Opens.bytes {P : Program} {t e : TypeId} (ht : P.underlying t = some (.slice e)) (hk : P.cellsOf e = 1) (he : P.underlying e = some (.int .u8)) : Opens P t (List Nat) (fun l => [.vec 1 false (bVs l)]) (fun l => ∀ b ∈ l, b < 256) :=
  (Opens.slice1 (E := fun n : Nat => .int .u8 n) ht hk (Opens.u8 he) (fun _ => rfl)).as id (fun _ => rfl) fun a h => h
end Go.Proofs.YtcjlgmknclifmaaDoor.Ab
