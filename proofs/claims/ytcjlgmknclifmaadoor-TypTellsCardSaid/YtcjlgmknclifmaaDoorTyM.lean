/- Numbers shown: what the shelf says of Itoa; the reference's digits. -/
import Derived.Test.YtcjlgmknclifmaaDoorTyL
import Derived.Test.YtcjlgmknclifmaaDoorItoa
set_option linter.unusedVariables false
set_option linter.unusedSimpArgs false
namespace Go.Proofs.YtcjlgmknclifmaaDoor.Ab
open Go

/-- New blocks of no account. -/
theorem Rel.grown {h : AHeap} {m : Map} {F : Nat → Prop} {w w' : World} (r : Rel h m F w) (hp : ∀ b, b < w.heap.size → w'.heap[b]? = w.heap[b]?) (hs : w.heap.size ≤ w'.heap.size) (h1 : w'.os = w.os) (h2 : w'.tape = w.tape) (h3 : w'.output = w.output) :
    Rel h m F w' ∧ Ext m F w m F w' := by
  have e : Ext m F w m F w' := ⟨fun _ _ h => h, fun _ h => h, fun b hb => hp b (r.flt b hb), fun b n ⟨C, t, fr, g1, g2⟩ => ⟨C, t, fr, by rw [hp b (Array.getElem?_eq_some_iff.1 g1).1]; exact g1, g2⟩, hs, h1, h2, h3⟩
  exact ⟨⟨fun id o hi => let ⟨b, off, g1, g2, g3⟩ := r.live id o hi; ⟨b, off, g1, g2, g3.ext e (hp b g3.lt)⟩, r.inj, r.old, fun b hb => Nat.lt_of_lt_of_le (r.flt b hb) hs, r.tab.ext e⟩, e⟩
/-- A number as a text. -/
def dec (n : Int) : ByteArray := ⟨(Lib.itoa n).toArray⟩
theorem decDigits_size (n : Nat) : n < 10 ^ 20 → (Lib.decDigits n).length ≤ 20 := by
  have go : ∀ (k n : Nat), 1 ≤ k → n < 10 ^ k → (Lib.decDigits n).length ≤ k := by
    intro k
    induction k with
    | zero => intro n h; omega
    | succ k ih =>
      intro n _ hn
      rw [Lib.decDigits]
      by_cases h : n < 10
      · simp [h]
      · simp only [h, dite_false, List.length_append, List.length_cons, List.length_nil]
        have hk : 1 ≤ k := by
          rcases Nat.eq_zero_or_pos k with rfl | hp
          · omega
          · exact hp
        have := ih (n / 10) hk (by rw [Nat.pow_succ] at hn; omega)
        omega
  exact go 20 n (by decide)
theorem dec_nat (n : Nat) : dec n = ⟨(Lib.decDigits n).toArray⟩ := by
  unfold dec Lib.itoa
  rw [if_neg (by omega)]; simp
theorem dec_size (n : Nat) (h : n ≤ 9223372036854775807) : (dec n).size ≤ 20 := by
  rw [dec_nat]
  have := decDigits_size n (by omega)
  simpa [ByteArray.size] using this
theorem fn33_ok (n : Nat) (hn : n ≤ 9223372036854775807) (h : AHeap) : Returns Tryd.prog 33 [.int .i64 n] h (.str (dec n)) h := by
  refine ⟨isBody_of fn33, fun m F w us R hu => ?_⟩
  have hus : us = [.int .i64 n] := by
    simp only [VRels, VRel] at hu
    obtain ⟨u, us', rfl, rfl, rfl⟩ := hu
    rfl
  subst hus
  refine (Any.strconv_Itoa Tryd.laysItoa n (by omega) (by omega) w R.tab.2).mono fun e w' hp => ?_
  obtain ⟨rfl, k, os, rfl⟩ := hp
  have key := R.grown (w' := Sort.grow (w.drewN k) os) (fun b hb => by
    show (w.heap ++ os)[b]? = w.heap[b]?
    rw [Array.getElem?_append, if_pos hb]) (by show w.heap.size ≤ (w.heap ++ os).size; simp) rfl rfl rfl
  refine ⟨.str (dec n), h, m, F, Nat.le_refl _, ⟨rfl, rfl⟩, key.1, ?_, key.2⟩
  simp only [VRel]
  exact ⟨rfl, by have := dec_size n hn; simp only [huge]; show (dec n).size ≤ _; omega⟩
/-- A number's last digit. -/
def dg (n : Nat) : ByteArray := ⟨#[UInt8.ofNat (48 + n % 10)]⟩
theorem dg_size (n : Nat) : (dg n).size = 1 := rfl
theorem dec_step (n : Nat) (h : 10 ≤ n) : dec n = dec ((n : Int) / 10) ++ dg n := by
  have e : (n : Int) / 10 = (n / 10 : Nat) := by omega
  rw [e, dec_nat, dec_nat, Lib.decDigits]
  simp only [Nat.not_lt.2 h, dite_false]
  apply ByteArray.ext
  simp [dg]
theorem dec_one (n : Nat) (h : n < 10) : dec n = dg n := by
  rw [dec_nat, Lib.decDigits]
  simp [h, Nat.mod_eq_of_lt h, dg]
theorem fn34_ok : ∀ (n : Nat), n ≤ 9223372036854775807 → ∀ (h : AHeap), Returns Tryd.prog 34 [.int .i64 n] h (.str (dec n)) h := by
  intro n
  induction n using Nat.strongRecOn with
  | _ n ih =>
    intro hn h
    refine Returns.val fn34 (by simp) fun h1 h2 => ⟨by have := dec_size n hn; simp only [AVal.ok, huge]; omega, ?_⟩
    have w1 : IntKind.i64.wrap (48 + (n : Int) % 10) = 48 + (n : Int) % 10 := wrap_i64 (by omega) (by omega)
    have w2 : (48 + (n : Int) % 10) % 256 = 48 + (n : Int) % 10 := by omega
    have hB : b2sV (h.alloc (.cells 5 [.int .u8 (48 + (n : Int) % 10)])) (.sl 1 h.next 0 1 (some 1)) = some (.str (dg n)) := by
      have hI : IsB (h.alloc (.cells 5 [.int .u8 (48 + (n : Int) % 10)])) (.sl 1 h.next 0 1 (some 1)) [48 + n % 10] := IsB.whole 5 (by simp) rfl
      exact hI.b2s (fun b hb => by simp at hb; omega)
    by_cases hc : n < 10
    · have hc' : ¬ (10 : Int) ≤ n := by omega
      simp [code34, w1, w2, hB, hc', dec_one n hc]
      repeat' (first | exact Sub.refl _ | refine Sub.put_both ?_ | refine Sub.alloc h1 ?_ | refine Sub.put h1 ?_ (by simp) | refine Sub.drop h1 ?_ (by simp))
    · have hc' : (10 : Int) ≤ n := by omega
      have hz := dec_size (n / 10) (by omega)
      have hd : ((n / 10 : Nat) : Int) = (n : Int) / 10 := by omega
      have hi := ih (n / 10) (by omega) (by omega)
      rw [hd] at hi hz
      have w3 : IntKind.i64.wrap ((n : Int) / 10) = (n : Int) / 10 := wrap_i64 (by omega) (by omega)
      have hb : (dec ((n : Int) / 10)).size + 1 ≤ big := by simp only [big]; omega
      simp [code34, w1, w2, w3, hB, hc']
      refine (hi _).to ?_
      simp [strop, dg_size, hb, dec_step n (by omega)]
      repeat' (first | exact Sub.refl _ | refine Sub.put_both ?_ | refine Sub.alloc h1 ?_ | refine Sub.put h1 ?_ (by simp) | refine Sub.drop h1 ?_ (by simp))
end Go.Proofs.YtcjlgmknclifmaaDoor.Ab
