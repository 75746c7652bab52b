/- What is known of a list of pairs. -/
import Derived.Test.YtcjlgmknclifmaaDoorTyH
set_option linter.unusedVariables false
set_option linter.unusedSimpArgs false
namespace Go.Proofs.YtcjlgmknclifmaaDoor.Ab
open Go

/-- A type made of kids that lie in memory, which is never written again. -/
theorem fn23_ty (op : ByteArray) (ts : List Ty) (v : AVal) (h : AHeap) (k : Nat) {Q : AVal → AHeap → Prop} (hle : Le (newZ k) h v (.vec 3 false (ts.map tyV))) (hq : Q (.agg [.str op, .int .i64 0, .vec 3 false (ts.map tyV)]) (h.below k)) : ACalls Tryd.prog 23 [.str op, v] h Q :=
  ACalls.frz k (.cons (.refl _) (.cons hle .nil)) ((fn23_ok op _ _ rfl rfl).to hq)
/-- A row of types in a block, by value. -/
theorem Le.tys {k id n : Nat} {c : Option Nat} {h : AHeap} (ts : List Ty) {cs : List AVal} (hk : k ≤ id) (ho : h.f id = some (.cells 24 cs)) (hcs : cs = tyCs ts) (hn : ts.length = n) : Le (newZ k) h (.sl 3 id 0 n c) (.vec 3 false (ts.map tyV)) := by
  subst hn
  rw [← tyVs_agg]
  exact .frzs (ts.map tyC) (by simpa using hk) ho (by decide) (fun y hy => by simp at hy; obtain ⟨t, _, rfl⟩ := hy; rfl) (by simp) (by rw [hcs]; simp) (by rw [List.drop_zero, hcs]; exact tyCs_take ts)
def pairT (a b : Ty) : Ty := .mk sPair 0 [a, b]
def listT (a : Ty) : Ty := .mk sList 0 [a]
def intT : Ty := .mk sInt 0 []
def knownT : Ty := listT (pairT intT (varT 3))
theorem known_isT : isT knownT = true := by decide +kernel
theorem known_sent : sent knownT = false := by decide +kernel
theorem known_norm : norm knownT = listT (pairT intT (varT 0)) := by kernel_rfl
theorem known_size : sz knownT = 4 := by decide +kernel
theorem known_show : showT (fun _ => ⟨#[48]⟩) (listT (pairT intT (varT 0))) = ⟨#[40, 105, 110, 116, 32, 42, 32, 39, 48, 41, 32, 108, 105, 115, 116]⟩ := by decide +kernel
theorem fn11_ok (h : AHeap) : Returns Tryd.prog 11 [] h (.bool true) h := by
  refine Returns.val fn11 (by simp) fun h1 h2 => ⟨by simp [AVal.ok], ?_⟩
  simp [code11]
  refine fn23_ty sInt [] .nils h h.next (.nils _ _) ?_
  simp
  refine (fn22_ok 3 _).to ?_
  rw [tyV_eq]
  simp [varT]
  refine fn23_ty sPair [intT, varT 3] _ _ h.next (Le.tys _ (by simp) (by simp; rfl) (by simp [tyCs, tyC, intT, varT]) rfl) ?_
  simp
  refine fn23_ty sList [pairT intT (varT 3)] _ _ h.next (Le.tys _ (by simp) (by simp; rfl) (by simp [tyCs, tyC, intT, varT, pairT]) rfl) ?_
  have c10 := fn10_ok knownT
  have c16 := fn16_ok knownT
  have c20 := fn20_ok knownT
  have c18 := fn18_ok (fun _ => ⟨#[48]⟩) (norm knownT)
  rw [known_norm] at c18 c16
  rw [known_show] at c18
  rw [known_isT] at c10
  rw [known_sent] at c20
  rw [tyV_eq] at c10 c16 c20
  simp
  refine (c10 _).to ?_
  simp
  refine (c16 _ (by rw [known_size]; omega)).to ?_
  simp
  refine (c18 _ (by decide +kernel) (by decide +kernel) ?_).to ?_
  · simp only [listT, pairT, intT, varT, allN, allNs]
    exact ⟨fun e => absurd e (by decide), ⟨fun e => absurd e (by decide), ⟨fun e => absurd e (by decide), trivial⟩, ⟨fun _ => ⟨by decide, fn33_0⟩, trivial⟩, trivial⟩, trivial⟩
  simp
  refine (c20 _).to ?_
  simp
  repeat' (first | exact Sub.refl _ | refine Sub.alloc h1 ?_ | refine Sub.below h1 ?_ (by simp))
theorem Le.tysL {k id n : Nat} {c : Option Nat} {h : AHeap} (ts : List Ty) {cs : List AVal} (hk : k ≤ id) (ho : h.f id = some (.cells 24 cs)) (hcs : Les (newZ k) h cs (tyCs ts)) (hn : ts.length = n) : Le (newZ k) h (.sl 3 id 0 n c) (.vec 3 false (ts.map tyV)) := by
  subst hn
  have hl := hcs.length
  rw [tyCs_length] at hl
  rw [← tyVs_agg]
  refine .frzN (by simpa using hk) ho (by decide) (by omega) (by simp) (fun y hy => by simp at hy; obtain ⟨t, _, rfl⟩ := hy; rfl) ?_
  rw [List.drop_zero, List.take_of_length_le (by omega)]
  exact hcs
theorem fn10_frz (t : Ty) (v : AVal) (h : AHeap) (k : Nat) {Q : AVal → AHeap → Prop} (hle : Le (newZ k) h v (tyV t)) (hq : Q (.bool (isT t)) (h.below k)) : ACalls Tryd.prog 10 [v] h Q :=
  ACalls.frz k (.cons hle .nil) ((fn10_ok t _).to hq)
theorem Le.ty0 {k : Nat} {h : AHeap} (op : ByteArray) (n : Int) : Le (newZ k) h (.agg [.str op, .int .i64 n, .nils]) (tyV (.mk op n [])) := by
  rw [tyV_mk]; exact .agg (.cons (.refl _) (.cons (.refl _) (.cons (.nils _ _) .nil)))
theorem Le.tyK {k : Nat} {h : AHeap} (op : ByteArray) (n : Int) (ts : List Ty) {v : AVal} (hv : Le (newZ k) h v (.vec 3 false (ts.map tyV))) : Le (newZ k) h (.agg [.str op, .int .i64 n, v]) (tyV (.mk op n ts)) := by
  rw [tyV_mk]; exact .agg (.cons (.refl _) (.cons (.refl _) (.cons hv .nil)))

/-! ### what is no type -/
theorem fn5_ok (way : Int) (h : AHeap) : Returns Tryd.prog 5 [.int .i64 way] h (.bool true) h := by
  refine Returns.val fn5 (by simp) fun h1 h2 => ⟨by simp [AVal.ok], ?_⟩
  by_cases c1 : way < 0
  · simp [code5, c1]
    repeat' (first | exact Sub.refl _ | refine Sub.alloc h1 ?_ | refine Sub.below h1 ?_ (by simp))
  by_cases c2 : 9 ≤ way
  · simp [code5, c1, c2]
    repeat' (first | exact Sub.refl _ | refine Sub.alloc h1 ?_ | refine Sub.below h1 ?_ (by simp))
  have h9 : way = 0 ∨ way = 1 ∨ way = 2 ∨ way = 3 ∨ way = 4 ∨ way = 5 ∨ way = 6 ∨ way = 7 ∨ way = 8 := by omega
  have v40 := tyV_eq (varT 1099511627776)
  have i40 : isT (varT 1099511627776) = true := by decide +kernel
  have c40 := fn10_ok (varT 1099511627776)
  rw [i40, v40] at c40
  have iInt : isT (.mk sInt 0 []) = true := by decide +kernel
  rcases h9 with rfl | rfl | rfl | rfl | rfl | rfl | rfl | rfl | rfl
  · have hi : isT (.mk ⟨#[]⟩ 0 []) = false := by decide +kernel
    simp [code5]
    refine fn10_frz (.mk ⟨#[]⟩ 0 []) _ _ (h.next + 1) (Le.ty0 _ _) ?_
    simp [hi]
    refine fn10_frz (.mk sInt 0 []) _ _ (h.next + 1) (Le.ty0 _ _) ?_
    simp [iInt]
    refine (fn22_ok _ _).to ?_
    rw [v40]
    simp
    refine (c40 _).to ?_
    simp
    refine (fn11_ok _).to ?_
    simp
    repeat' (first | exact Sub.refl _ | refine Sub.alloc h1 ?_ | refine Sub.below h1 ?_ (by simp))
  · have hi : isT (.mk sList 0 []) = false := by decide +kernel
    simp [code5]
    refine fn10_frz (.mk sList 0 []) _ _ (h.next + 1) (Le.ty0 _ _) ?_
    simp [hi]
    refine fn10_frz (.mk sInt 0 []) _ _ (h.next + 1) (Le.ty0 _ _) ?_
    simp [iInt]
    refine (fn22_ok _ _).to ?_
    rw [v40]
    simp
    refine (c40 _).to ?_
    simp
    refine (fn11_ok _).to ?_
    simp
    repeat' (first | exact Sub.refl _ | refine Sub.alloc h1 ?_ | refine Sub.below h1 ?_ (by simp))
  · have hi : isT (.mk sInt 1 []) = false := by decide +kernel
    simp [code5]
    refine fn10_frz (.mk sInt 1 []) _ _ (h.next + 1) (Le.ty0 _ _) ?_
    simp [hi]
    refine fn10_frz (.mk sInt 0 []) _ _ (h.next + 1) (Le.ty0 _ _) ?_
    simp [iInt]
    refine (fn22_ok _ _).to ?_
    rw [v40]
    simp
    refine (c40 _).to ?_
    simp
    refine (fn11_ok _).to ?_
    simp
    repeat' (first | exact Sub.refl _ | refine Sub.alloc h1 ?_ | refine Sub.below h1 ?_ (by simp))
  · have hi : isT (.mk sVar (-1) []) = false := by decide +kernel
    simp [code5]
    refine fn10_frz (.mk sVar (-1) []) _ _ (h.next + 1) (Le.ty0 _ _) ?_
    simp [hi]
    refine fn10_frz (.mk sInt 0 []) _ _ (h.next + 1) (Le.ty0 _ _) ?_
    simp [iInt]
    refine (fn22_ok _ _).to ?_
    rw [v40]
    simp
    refine (c40 _).to ?_
    simp
    refine (fn11_ok _).to ?_
    simp
    repeat' (first | exact Sub.refl _ | refine Sub.alloc h1 ?_ | refine Sub.below h1 ?_ (by simp))
  · have hi : isT (.mk sPair 0 [intT]) = false := by decide +kernel
    simp [code5]
    refine fn10_frz (.mk sPair 0 [intT]) _ _ (h.next + 1) (Le.tyK _ _ [intT] (Le.tysL _ (by simp) (by simp; rfl) (by simp [tyCs, tyC, intT]) rfl)) ?_
    simp [hi]
    refine fn10_frz (.mk sInt 0 []) _ _ (h.next + 1) (Le.ty0 _ _) ?_
    simp [iInt]
    refine (fn22_ok _ _).to ?_
    rw [v40]
    simp
    refine (c40 _).to ?_
    simp
    refine (fn11_ok _).to ?_
    simp
    repeat' (first | exact Sub.refl _ | refine Sub.alloc h1 ?_ | refine Sub.below h1 ?_ (by simp))
  · have hi : isT (.mk sFun 0 [intT, intT, intT]) = false := by decide +kernel
    simp [code5]
    refine fn10_frz (.mk sFun 0 [intT, intT, intT]) _ _ (h.next + 1) (Le.tyK _ _ [intT, intT, intT] (Le.tysL _ (by simp) (by simp; rfl) (by simp [tyCs, tyC, intT]) rfl)) ?_
    simp [hi]
    refine fn10_frz (.mk sInt 0 []) _ _ (h.next + 1) (Le.ty0 _ _) ?_
    simp [iInt]
    refine (fn22_ok _ _).to ?_
    rw [v40]
    simp
    refine (c40 _).to ?_
    simp
    refine (fn11_ok _).to ?_
    simp
    repeat' (first | exact Sub.refl _ | refine Sub.alloc h1 ?_ | refine Sub.below h1 ?_ (by simp))
  · have hi : isT (.mk sRef 2 [intT]) = false := by decide +kernel
    simp [code5]
    refine fn10_frz (.mk sRef 2 [intT]) _ _ (h.next + 1) (Le.tyK _ _ [intT] (Le.tysL _ (by simp) (by simp; rfl) (by simp [tyCs, tyC, intT]) rfl)) ?_
    simp [hi]
    refine fn10_frz (.mk sInt 0 []) _ _ (h.next + 1) (Le.ty0 _ _) ?_
    simp [iInt]
    refine (fn22_ok _ _).to ?_
    rw [v40]
    simp
    refine (c40 _).to ?_
    simp
    refine (fn11_ok _).to ?_
    simp
    repeat' (first | exact Sub.refl _ | refine Sub.alloc h1 ?_ | refine Sub.below h1 ?_ (by simp))
  · have hi : isT (.mk sList 0 [.mk ⟨#[115, 101, 116]⟩ 0 []]) = false := by decide +kernel
    simp [code5]
    refine fn10_frz (.mk sList 0 [.mk ⟨#[115, 101, 116]⟩ 0 []]) _ _ (h.next + 1) (Le.tyK _ _ [.mk ⟨#[115, 101, 116]⟩ 0 []] (Le.tysL _ (by simp) (by simp; rfl) (by simp [tyCs, tyC, intT]) rfl)) ?_
    simp [hi]
    refine fn10_frz (.mk sInt 0 []) _ _ (h.next + 1) (Le.ty0 _ _) ?_
    simp [iInt]
    refine (fn22_ok _ _).to ?_
    rw [v40]
    simp
    refine (c40 _).to ?_
    simp
    refine (fn11_ok _).to ?_
    simp
    repeat' (first | exact Sub.refl _ | refine Sub.alloc h1 ?_ | refine Sub.below h1 ?_ (by simp))
  · have hi : isT (.mk sCell 0 [intT]) = false := by decide +kernel
    simp [code5]
    refine fn10_frz (.mk sCell 0 [intT]) _ _ (h.next + 1) (Le.tyK _ _ [intT] (Le.tysL _ (by simp) (by simp; rfl) (by simp [tyCs, tyC, intT]) rfl)) ?_
    simp [hi]
    refine fn10_frz (.mk sInt 0 []) _ _ (h.next + 1) (Le.ty0 _ _) ?_
    simp [iInt]
    refine (fn22_ok _ _).to ?_
    rw [v40]
    simp
    refine (c40 _).to ?_
    simp
    refine (fn11_ok _).to ?_
    simp
    repeat' (first | exact Sub.refl _ | refine Sub.alloc h1 ?_ | refine Sub.below h1 ?_ (by simp))
end Go.Proofs.YtcjlgmknclifmaaDoor.Ab
