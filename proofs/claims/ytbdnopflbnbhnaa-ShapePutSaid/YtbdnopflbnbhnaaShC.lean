/- Words; long graphs; what is known. -/
import Derived.Test.YtbdnopflbnbhnaaShB
set_option linter.unusedVariables false
set_option linter.unusedSimpArgs false
namespace Go.Proofs.Ytbdnopflbnbhnaa.Ab
open Go

theorem Returns.exact {P : Program} {f : FuncId} {n : Nat} {ac : ACode} {rs : List RVar} (hf : fnCode P f = some (n, ac, rs)) {args : List AVal} {h h' : AHeap} {r : AVal} (hl : args.length ≤ n)
    (hk : HOk h → AVal.oks h.next args → Ev P ac (retK rs fun v hx => v = r ∧ hx = h') ⟨argsFrom 0 args, h⟩) : Returns P f args h r h' :=
  ACalls.facts (isBody_of hf) fun h1 h2 => acalls_of hf hl (hk h1 h2)

def longB (b : Block) : Bool := decide (100 < b.str.size) || decide (10 < b.kids.length)
def longG (g : Graph) : Bool := (g.blocks.take 100).any longB || decide (80 < g.blocks.length)
theorem fn7_ok (g : Graph) (h : AHeap) : Returns Try.prog 7 [graphV g] h (.bool (longG g)) h := by
  refine Returns.pure fn7 (by simp) fun h1 h2 => ⟨by simp [AVal.ok], ?_⟩
  simp [AVal.oks, AVal.ok, huge] at h2
  simp [code7]
  refine Ev.count (fun i => upd (upd (upd noEnv 1 (.ptr h.next 0)) 2 (.bool false)) 3 (.int .i64 i)) (min g.blocks.length 100) (fun i => ∀ j b, j < i → g.blocks[j]? = some b → longB b = false) (fun _ => ⟨by simp, ?_⟩) ?_
  · repeat' (first | exact TidyR_none _ _ | (refine TidyR_upd (by simp [AVal.ok, AVal.oks, huge, h2]) ?_))
  intro i hi I hok
  by_cases hlt : i < g.blocks.length ∧ i < 100
  case neg =>
    have hl : longG g = decide (80 < g.blocks.length) := by
      have : (g.blocks.take 100).any longB = false := by
        rw [List.any_eq_false]
        intro b hb
        obtain ⟨j, hj⟩ := List.getElem?_of_mem hb
        rw [List.getElem?_take] at hj
        split at hj
        · rename_i hj2
          have hj3 := (List.getElem?_eq_some_iff.1 hj).1
          simp [I j b (by omega) hj]
        · cases hj
      simp [longG, this]
    by_cases h3 : i < g.blocks.length
    · have h4 : ¬ (i : Int) < 100 := by omega
      have h5 : (80 : Int) < (g.blocks.length : Int) := by omega
      have h6 : 80 < g.blocks.length := by omega
      simp [h3, h4, h5, h6, hl, Sub.alloc h1]
    · have h7 : (decide ((80 : Int) < (g.blocks.length : Int))) = decide (80 < g.blocks.length) := by rw [decide_eq_decide]; omega
      simp [h3, hl, h7, Sub.alloc h1]
  obtain ⟨hlt, h100⟩ := hlt
  have h101 : (i : Int) < 100 := by omega
  have hw : IntKind.i64.wrap (↑i + 1) = ↑i + 1 := wrap_i64 (by omega) (by omega)
  have hyes : longB g.blocks[i] = true → longG g = true := fun e => by
    have : (g.blocks.take 100).any longB = true := by
      rw [List.any_eq_true]
      exact ⟨g.blocks[i], List.mem_iff_getElem?.2 ⟨i, by rw [List.getElem?_take, if_pos h100, List.getElem?_eq_getElem hlt]⟩, e⟩
    simp [longG, this]
  have hno : longB g.blocks[i] = false → ∀ j b, j < i + 1 → g.blocks[j]? = some b → longB b = false := fun e j b hj hb => by
    by_cases hji : j = i
    · subst hji; rw [List.getElem?_eq_getElem hlt] at hb; cases hb; exact e
    · exact I j b (by omega) hb
  by_cases c1 : (100 : Int) < g.blocks[i].str.size
  · have := hyes (by simp [longB]; left; omega)
    simp [hlt, h101, c1, this, Sub.alloc h1]
  by_cases c2 : (10 : Int) < g.blocks[i].kids.length
  · have := hyes (by simp [longB]; right; omega)
    simp [hlt, h101, c1, c2, this, Sub.alloc h1]
  have := hno (by simp [longB]; omega)
  simp [hlt, h101, c1, c2, hw]
  intro _
  refine ⟨fun j b hj hb => this j b hj hb, by omega, ?_⟩
  repeat' (first | exact TidyR_none _ _ | (refine TidyR_upd (by simp [AVal.ok, AVal.oks, huge, h2]) ?_))

/-! ### words -/
theorem wrap_cong {x y : Int} (h : x % 18446744073709551616 = y % 18446744073709551616) : IntKind.i64.wrap x = IntKind.i64.wrap y := by
  simp [IntKind.wrap, IntKind.signed, IntKind.bits, Int.bmod_eq_emod, h]
theorem wrap_cases (x : Int) : IntKind.i64.wrap x % 18446744073709551616 = x % 18446744073709551616 ∧ -9223372036854775808 ≤ IntKind.i64.wrap x ∧ IntKind.i64.wrap x ≤ 9223372036854775807 := by
  simp only [IntKind.wrap, IntKind.signed, IntKind.bits]
  by_cases h : x % 2 ^ 64 ≥ 2 ^ (64 - 1)
  · simp only [h, decide_true, Bool.and_self, if_true]; omega
  · simp only [h, decide_false, Bool.and_false, Bool.false_eq_true, if_false]; omega
theorem fn36_ok (w : Int) (h : AHeap) : Returns Try.prog 36 [.int .i64 w] h (.bool (decide (w % 2 = 1))) h := by
  refine Returns.pure fn36 (by simp) fun h1 h2 => ⟨by simp [AVal.ok], ?_⟩
  have e : IntKind.i64.wrap ((BitVec.ofInt 64 w &&& 1#64).toNat : Int) = w % 2 := by
    rw [BitVec.toNat_and, BitVec.toNat_ofInt]
    simp only [BitVec.toNat_ofNat]
    rw [show (1 % 2 ^ 64) = 1 from rfl, Nat.and_one_is_mod]
    rw [wrap_i64 (by omega) (by omega)]
    omega
  simp [code36, IntKind.bits]
  exact ⟨fun q => e.symm.trans q, fun q => e.trans q⟩
theorem fn35_ok (w : Int) (h : AHeap) : Returns Try.prog 35 [.int .i64 w] h (.int .i64 (w / 2)) h := by
  refine Returns.pure fn35 (by simp) fun h1 h2 => ⟨by simp [AVal.ok], ?_⟩
  simp [code35, shiftI, IntKind.bits]
  exact Int.fdiv_eq_ediv_of_nonneg _ (by decide)
theorem or_one (x : Int) (hx : x % 2 = 0) : IntKind.i64.wrap ((BitVec.ofInt 64 x ||| 1#64).toNat : Int) = IntKind.i64.wrap (x + 1) := by
  rw [BitVec.toNat_or, BitVec.toNat_ofInt]
  simp only [BitVec.toNat_ofNat]
  have h2 : (x % (2 ^ 64 : Nat)).toNat = 2 ^ 1 * ((x % (2 ^ 64 : Nat)).toNat / 2) := by omega
  have h3 := Nat.two_pow_add_eq_or_of_lt (i := 1) (b := 1) (by decide) ((x % (2 ^ 64 : Nat)).toNat / 2)
  rw [← h2] at h3
  rw [show (1 % 2 ^ 64) = 1 from rfl, ← h3]
  apply wrap_cong
  omega
theorem fn33_ok (n : Int) (h : AHeap) : Returns Try.prog 33 [.int .i64 n] h (.int .i64 (IntKind.i64.wrap (2 * n + 1))) h := by
  refine Returns.pure fn33 (by simp) fun h1 h2 => ⟨by simp [AVal.ok], ?_⟩
  simp [code33, shiftI, IntKind.bits]
  have := wrap_cases (n * 2)
  refine (or_one _ ?_).trans (wrap_cong ?_) <;> omega
theorem fn11_ok (n : Int) (h : AHeap) (h0 : 0 ≤ n) (h1 : n ≤ 20000) : Returns Try.prog 11 [.int .i64 n] h (.ptr (h.next + 1) 0) ((h.alloc (.map [])).alloc (.cells 68 [.int .i64 n, .int .i64 0, .map h.next])) := by
  refine Returns.exact fn11 (by simp) fun _ _ => ?_
  have e1 : ¬ n < 0 := by omega
  have e2 : ¬ 20000 < n := by omega
  simp [code11, e1, e2]
theorem fn51_imm (p : AVal) (w : Int) (h : AHeap) (hw : w % 2 = 1) : Returns Try.prog 51 [p, .int .i64 w] h (.agg [.bool true, .int .i64 (w / 2)]) h := by
  refine Returns.pure fn51 (by simp) fun h1 h2 => ⟨by simp [AVal.ok, AVal.oks], ?_⟩
  simp [code51]
  refine (fn36_ok w _).to ?_
  simp [hw]
  refine (fn35_ok w _).to ?_
  simp
  repeat' (first | exact Sub.refl _ | refine Sub.alloc h1 ?_ | refine Sub.put h1 ?_ (by simp))
theorem fn22_imm (p o : Nat) (w : Int) (h : AHeap) (hw : w % 2 = 1) : Returns Try.prog 22 [.ptr p o, .int .i64 w] h (.tup [.agg [.bool true, .int .i64 (w / 2), .nils], .int .i64 0]) h := by
  refine Returns.pure fn22 (by simp) fun h1 h2 => ⟨by simp [AVal.ok, AVal.oks], ?_⟩
  simp [code22]
  refine (fn51_imm _ w _ hw).to ?_
  simp
  repeat' (first | exact Sub.refl _ | refine Sub.alloc h1 ?_ | refine Sub.put h1 ?_ (by simp))
theorem ref_eq' (a b : Bool) (m n : Int) : eqAll [.bool, .int] [.bool a, .int .i64 m] [.bool b, .int .i64 n] = some ((a == b) && decide (m = n)) := by
  rw [eqAll_cons (eq1_bool _ _) (eqAll_cons (eq1_int _ _ _) eqAll_nil)]
  simp
theorem fn10_ok (h : AHeap) : Returns Try.prog 10 [] h (.bool true) h := by
  refine Returns.pure fn10 (by simp) fun h1 h2 => ⟨by simp [AVal.ok], ?_⟩
  simp [code10]
  refine (fn11_ok 9 h (by decide) (by decide)).to ?_
  simp
  refine (fn33_ok 3 _).to ?_
  have hw : IntKind.i64.wrap 7 = 7 := by decide
  simp [hw]
  refine (fn22_imm _ _ 7 _ (by decide)).to ?_
  simp [ref_eq']
  repeat' (first | exact Sub.refl _ | refine Sub.alloc h1 ?_ | refine Sub.put h1 ?_ (by simp))
theorem fn3_ok (a b : Graph) (h : AHeap) : Returns Try.prog 3 [graphV a, graphV b] h (.bool true) h := by
  refine Returns.pure fn3 (by simp) fun h1 h2 => ⟨by simp [AVal.ok], ?_⟩
  simp [code3]
  refine (fn7_ok a _).to ?_
  cases c1 : longG a
  case true => simp [c1, Sub.alloc h1]
  simp [c1]
  refine (fn7_ok b _).to ?_
  cases c2 : longG b
  case true => simp [c2, Sub.alloc h1]
  simp [c2]
  refine (fn8_ok a b _).to ?_
  simp
  refine (fn9_ok a b _).to ?_
  simp
  refine (fn8_ok a a _).to ?_
  simp
  refine (fn10_ok _).to ?_
  simp [Sub.alloc h1]
end Go.Proofs.Ytbdnopflbnbhnaa.Ab
