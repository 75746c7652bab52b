/- Two types have one text just if they are one: the text is read back. -/
import Derived.Test.YtcjlgmknclifmaaDoorTyM
set_option linter.unusedVariables false
set_option linter.unusedSimpArgs false
namespace Go.Proofs.YtcjlgmknclifmaaDoor.Ab
open Go

/-- A text's bytes. -/
def bl (s : ByteArray) : List UInt8 := s.data.toList
theorem bl_append (a b : ByteArray) : bl (a ++ b) = bl a ++ bl b := by simp [bl]
theorem bl_inj {a b : ByteArray} (h : bl a = bl b) : a = b := by
  apply ByteArray.ext
  exact Array.toList_inj.1 h
def isDig (c : UInt8) : Bool := decide (48 ≤ c ∧ c ≤ 57)
def valOf (l : List UInt8) : Int := l.foldl (fun a c => a * 10 + ((c.toNat : Int) - 48)) 0
theorem dig_props (m : Nat) (h : m < 10) : isDig (UInt8.ofNat (48 + m)) = true ∧ ((UInt8.ofNat (48 + m)).toNat : Int) - 48 = m := by
  have key : ∀ m : Fin 10, isDig (UInt8.ofNat (48 + (m : Nat))) = true ∧ ((UInt8.ofNat (48 + (m : Nat))).toNat : Int) - 48 = (m : Nat) := by decide
  exact key ⟨m, h⟩
theorem digits_props : ∀ (n : Nat), (∀ c ∈ Lib.decDigits n, isDig c = true) ∧ valOf (Lib.decDigits n) = n := by
  intro n
  induction n using Nat.strongRecOn with
  | _ n ih =>
    rw [Lib.decDigits]
    by_cases h : n < 10
    · have := dig_props n h
      simp only [h, dite_true]
      refine ⟨by simpa using this.1, ?_⟩
      simp only [valOf, List.foldl_cons, List.foldl_nil]
      rw [this.2]; omega
    · have hi := ih (n / 10) (by omega)
      have := dig_props (n % 10) (by omega)
      simp only [h, dite_false]
      refine ⟨fun c hc => ?_, ?_⟩
      · rcases List.mem_append.1 hc with hc | hc
        · exact hi.1 c hc
        · simp only [List.mem_singleton] at hc; subst hc; exact this.1
      · unfold valOf at hi ⊢
        rw [List.foldl_append, hi.2]
        simp only [List.foldl_cons, List.foldl_nil]
        rw [this.2]; omega
/-- What stands behind a type: its kinds' names. -/
def sufs : Ty → List UInt8 → Ty × List UInt8
  | t, 32 :: 108 :: 105 :: 115 :: 116 :: r => sufs (.mk sList 0 [t]) r
  | t, 32 :: 114 :: 101 :: 102 :: r => sufs (.mk sRef 0 [t]) r
  | t, r => (t, r)
def base (rec : List UInt8 → Option (Ty × List UInt8)) (l : List UInt8) : Option (Ty × List UInt8) :=
  match l with
  | 40 :: r =>
    match rec r with
    | some (a, 32 :: 42 :: 32 :: r1) => match rec r1 with | some (b, 41 :: r2) => some (.mk sPair 0 [a, b], r2) | _ => none
    | some (a, 32 :: 45 :: 62 :: 32 :: r1) => match rec r1 with | some (b, 41 :: r2) => some (.mk sFun 0 [a, b], r2) | _ => none
    | _ => none
  | 39 :: r => some (.mk sVar (valOf (r.takeWhile isDig)) [], r.dropWhile isDig)
  | 105 :: 110 :: 116 :: r => some (.mk sInt 0 [], r)
  | 98 :: 111 :: 111 :: 108 :: r => some (.mk sBool 0 [], r)
  | 117 :: 110 :: 105 :: 116 :: r => some (.mk sUnit 0 [], r)
  | 115 :: 116 :: 114 :: 105 :: 110 :: 103 :: r => some (.mk sString 0 [], r)
  | 99 :: 101 :: 108 :: 108 :: r => some (.mk sCell 0 [], r)
  | _ => none
def parse : Nat → List UInt8 → Option (Ty × List UInt8)
  | 0, _ => none
  | n + 1, l => (base (parse n) l).map fun p => sufs p.1 p.2
def noDig : List UInt8 → Prop
  | [] => True
  | c :: _ => isDig c = false
theorem takeW (l x : List UInt8) (h : ∀ c ∈ l, isDig c = true) (hx : noDig x) : (l ++ x).takeWhile isDig = l ∧ (l ++ x).dropWhile isDig = x := by
  rw [List.takeWhile_append_of_pos h, List.dropWhile_append_of_pos h]
  cases x with
  | nil => simp
  | cons c x => simp only [noDig] at hx; simp [hx]
theorem parse_show (t : Ty) : good t = true → ∀ (n : Nat) (x : List UInt8), sz t ≤ n → noDig x → parse n (bl (showT dec t) ++ x) = some (sufs t x) := by
  refine Ty.ind (motive := fun t => good t = true → ∀ (n : Nat) (x : List UInt8), sz t ≤ n → noDig x → parse n (bl (showT dec t) ++ x) = some (sufs t x)) (fun op n ks ih => ?_) t
  intro hg fuel x hf hx
  obtain ⟨g1, g2, g3, g4⟩ := good_ops hg
  simp only [sz] at hf
  obtain ⟨f, rfl⟩ : ∃ f, fuel = f + 1 := ⟨fuel - 1, by omega⟩
  rcases g4 with ⟨rfl, g4⟩ | ⟨a, rfl, g4⟩ | ⟨a, b, rfl, g4⟩
  · rcases g4 with rfl | rfl | rfl | rfl | rfl | rfl
    rotate_right
    · obtain ⟨k, rfl⟩ : ∃ k : Nat, n = k := ⟨n.toNat, by omega⟩
      have hd := digits_props k
      have ht := takeW (Lib.decDigits k) x hd.1 hx
      have e : bl (showT dec (.mk sVar k [])) ++ x = 39 :: (Lib.decDigits k ++ x) := by simp [showT, showN, bl, dec_nat]
      rw [e]
      simp only [parse, base, ht.1, ht.2, hd.2, Option.map_some]
    all_goals
      have hn : n = 0 := by rcases g3 with h | h; exact absurd h (by decide); exact h
      subst hn
      rfl
  · have hn : n = 0 := by
      rcases g3 with h | h
      · subst h; rcases g4 with h | h <;> exact absurd h (by decide)
      · exact h
    subst hn
    simp only [szs] at hf
    have hi := ih a (by simp) (g1 a (by simp)) (f + 1)
    rcases g4 with rfl | rfl
    · have e : bl (showT dec (.mk sList 0 [a])) ++ x = bl (showT dec a) ++ (32 :: 108 :: 105 :: 115 :: 116 :: x) := by simp [showT, shows, showN, bl]
      rw [e, hi _ (by omega) (by simp [noDig, isDig])]
      rw [sufs]
    · have e : bl (showT dec (.mk sRef 0 [a])) ++ x = bl (showT dec a) ++ (32 :: 114 :: 101 :: 102 :: x) := by simp [showT, shows, showN, bl]
      rw [e, hi _ (by omega) (by simp [noDig, isDig])]
      rw [sufs]
  · have hn : n = 0 := by
      rcases g3 with h | h
      · subst h; rcases g4 with h | h <;> exact absurd h (by decide)
      · exact h
    subst hn
    simp only [szs] at hf
    have hi := ih a (by simp) (g1 a (by simp)) f
    have hj := ih b (by simp) (g1 b (by simp)) f
    rcases g4 with rfl | rfl
    · have e : bl (showT dec (.mk sPair 0 [a, b])) ++ x = 40 :: (bl (showT dec a) ++ (32 :: 42 :: 32 :: (bl (showT dec b) ++ (41 :: x)))) := by simp [showT, shows, showN, bl]
      rw [e]
      have s1 : ∀ r, sufs a (32 :: 42 :: r) = (a, 32 :: 42 :: r) := fun r => by simp [sufs]
      have s2 : ∀ r, sufs b (41 :: r) = (b, 41 :: r) := fun r => by simp [sufs]
      simp only [parse, base]
      rw [hi _ (by omega) (by simp [noDig, isDig]), s1]
      simp only
      rw [hj _ (by omega) (by simp [noDig, isDig]), s2]
      simp
    · have e : bl (showT dec (.mk sFun 0 [a, b])) ++ x = 40 :: (bl (showT dec a) ++ (32 :: 45 :: 62 :: 32 :: (bl (showT dec b) ++ (41 :: x)))) := by simp [showT, shows, showN, bl]
      rw [e]
      have s1 : ∀ r, sufs a (32 :: 45 :: r) = (a, 32 :: 45 :: r) := fun r => by simp [sufs]
      have s2 : ∀ r, sufs b (41 :: r) = (b, 41 :: r) := fun r => by simp [sufs]
      simp only [parse, base]
      rw [hi _ (by omega) (by simp [noDig, isDig]), s1]
      simp only
      rw [hj _ (by omega) (by simp [noDig, isDig]), s2]
      simp
theorem show_inj {a b : Ty} (ha : good a = true) (hb : good b = true) (h : showT dec a = showT dec b) : a = b := by
  have h1 := parse_show a ha (sz a + sz b) [] (by omega) trivial
  have h2 := parse_show b hb (sz a + sz b) [] (by omega) trivial
  rw [h, h2] at h1
  have n1 : ∀ t, sufs t [] = (t, []) := fun t => by simp [sufs]
  rw [n1, n1] at h1
  simpa using h1.symm
end Go.Proofs.YtcjlgmknclifmaaDoor.Ab
