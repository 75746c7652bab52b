/- Types shown. -/
import Derived.Test.YtcjlgmknclifmaaDoorTyG
set_option linter.unusedVariables false
set_option linter.unusedSimpArgs false
namespace Go.Proofs.YtcjlgmknclifmaaDoor.Ab
open Go

def showN (op d : ByteArray) (ss : List ByteArray) : ByteArray :=
  if op = sList ∨ op = sRef then ss.headD ⟨#[]⟩ ++ ⟨#[32]⟩ ++ op
  else if op = sPair then ⟨#[40]⟩ ++ ss.headD ⟨#[]⟩ ++ ⟨#[32, 42, 32]⟩ ++ ss.tail.headD ⟨#[]⟩ ++ ⟨#[41]⟩
  else if op = sFun then ⟨#[40]⟩ ++ ss.headD ⟨#[]⟩ ++ ⟨#[32, 45, 62, 32]⟩ ++ ss.tail.headD ⟨#[]⟩ ++ ⟨#[41]⟩
  else if op = sVar then ⟨#[39]⟩ ++ d
  else op
mutual
/-- A type as a text; f is how numbers are shown. -/
def showT (f : Int → ByteArray) : Ty → ByteArray
  | .mk op n ks => showN op (f n) (shows f ks)
def shows (f : Int → ByteArray) : List Ty → List ByteArray
  | [] => []
  | k :: ks => showT f k :: shows f ks
end
mutual
/-- All var numbers are such. -/
def allN (p : Int → Prop) : Ty → Prop
  | .mk op n ks => (op = sVar → p n) ∧ allNs p ks
def allNs (p : Int → Prop) : List Ty → Prop
  | [] => True
  | k :: ks => allN p k ∧ allNs p ks
end
theorem allNs_mem {p : Int → Prop} : ∀ {ks : List Ty}, allNs p ks ↔ ∀ k ∈ ks, allN p k
  | [] => by simp [allNs]
  | k :: ks => by simp [allNs, allNs_mem (ks := ks)]
theorem allN.mono {p q : Int → Prop} (h : ∀ n, p n → q n) (t : Ty) : allN p t → allN q t := by
  refine Ty.ind (motive := fun t => allN p t → allN q t) (fun op n ks ih => ?_) t
  intro ha
  simp only [allN, allNs_mem] at ha ⊢
  exact ⟨fun e => h n (ha.1 e), fun k hk => ih k hk (ha.2 k hk)⟩
/-- What ops there are. -/
theorem good_ops {op : ByteArray} {n : Int} {ks : List Ty} (h : good (.mk op n ks) = true) :
    (∀ k ∈ ks, good k = true) ∧ 0 ≤ n ∧ (op = sVar ∨ n = 0) ∧ ((ks = [] ∧ (op = sInt ∨ op = sBool ∨ op = sUnit ∨ op = sString ∨ op = sCell ∨ op = sVar)) ∨ (∃ a, ks = [a] ∧ (op = sList ∨ op = sRef)) ∨ ∃ a b, ks = [a, b] ∧ (op = sPair ∨ op = sFun)) := by
  rw [good_mk] at h
  simp only [nodeOk, Bool.and_eq_true, decide_eq_true_eq, Bool.or_eq_true, List.all_eq_true] at h
  obtain ⟨⟨⟨h1, h2⟩, h3⟩, h4⟩ := h
  refine ⟨h4, h2, h3, ?_⟩
  have e0 : (ks.length : Int) = 0 → ks = [] := fun e => List.length_eq_zero_iff.1 (by omega)
  have e1 : (ks.length : Int) = 1 → ∃ a, ks = [a] := fun e => List.length_eq_one_iff.1 (by omega)
  have e2 : (ks.length : Int) = 2 → ∃ a b, ks = [a, b] := fun e => by
    match ks, e with
    | [a, b], _ => exact ⟨a, b, rfl⟩
    | [], e => simp at e
    | [a], e => simp at e
    | a :: b :: c :: r, e => simp at e; omega
  unfold kidsN at h1
  by_cases c : op = sInt
  · rw [if_pos c] at h1; exact .inl ⟨e0 h1, by simp [c]⟩
  rw [if_neg c] at h1; clear c
  by_cases c : op = sBool
  · rw [if_pos c] at h1; exact .inl ⟨e0 h1, by simp [c]⟩
  rw [if_neg c] at h1; clear c
  by_cases c : op = sUnit
  · rw [if_pos c] at h1; exact .inl ⟨e0 h1, by simp [c]⟩
  rw [if_neg c] at h1; clear c
  by_cases c : op = sString
  · rw [if_pos c] at h1; exact .inl ⟨e0 h1, by simp [c]⟩
  rw [if_neg c] at h1; clear c
  by_cases c : op = sCell
  · rw [if_pos c] at h1; exact .inl ⟨e0 h1, by simp [c]⟩
  rw [if_neg c] at h1; clear c
  by_cases c : op = sVar
  · rw [if_pos c] at h1; exact .inl ⟨e0 h1, by simp [c]⟩
  rw [if_neg c] at h1; clear c
  by_cases c : op = sList
  · rw [if_pos c] at h1; obtain ⟨a, ha⟩ := e1 h1; exact .inr (.inl ⟨a, ha, .inl c⟩)
  rw [if_neg c] at h1; clear c
  by_cases c : op = sRef
  · rw [if_pos c] at h1; obtain ⟨a, ha⟩ := e1 h1; exact .inr (.inl ⟨a, ha, .inr c⟩)
  rw [if_neg c] at h1; clear c
  by_cases c : op = sPair
  · rw [if_pos c] at h1; obtain ⟨a, b, ha⟩ := e2 h1; exact .inr (.inr ⟨a, b, ha, .inl c⟩)
  rw [if_neg c] at h1; clear c
  by_cases c : op = sFun
  · rw [if_pos c] at h1; obtain ⟨a, b, ha⟩ := e2 h1; exact .inr (.inr ⟨a, b, ha, .inr c⟩)
  rw [if_neg c] at h1
  omega
theorem showT_size (f : Int → ByteArray) (t : Ty) : good t = true → allN (fun n => (f n).size ≤ 20) t → (showT f t).size ≤ 30 * sz t := by
  refine Ty.ind (motive := fun t => good t = true → allN (fun n => (f n).size ≤ 20) t → (showT f t).size ≤ 30 * sz t) (fun op n ks ih => ?_) t
  intro hg ha
  obtain ⟨g1, g2, g3, g4⟩ := good_ops hg
  simp only [allN, allNs_mem] at ha
  rcases g4 with ⟨rfl, g4⟩ | ⟨a, rfl, g4⟩ | ⟨a, b, rfl, g4⟩
  · rcases g4 with rfl | rfl | rfl | rfl | rfl | rfl <;> simp [showT, showN, sz, szs]
    all_goals first | decide | skip
    have := ha.1 rfl
    have : (⟨#[39]⟩ : ByteArray).size = 1 := rfl
    omega
  · have h1 := ih a (by simp) (g1 a (by simp)) (ha.2 a (by simp))
    have z1 : (⟨#[32]⟩ : ByteArray).size = 1 := rfl
    have z2 : (⟨#[108, 105, 115, 116]⟩ : ByteArray).size = 4 := rfl
    have z3 : (⟨#[114, 101, 102]⟩ : ByteArray).size = 3 := rfl
    rcases g4 with rfl | rfl <;> simp [showT, shows, showN, sz, szs, ByteArray.size_append, z1, z2, z3] <;> omega
  · have h1 := ih a (by simp) (g1 a (by simp)) (ha.2 a (by simp))
    have h2 := ih b (by simp) (g1 b (by simp)) (ha.2 b (by simp))
    have z1 : (⟨#[40]⟩ : ByteArray).size = 1 := rfl
    have z2 : (⟨#[32, 42, 32]⟩ : ByteArray).size = 3 := rfl
    have z3 : (⟨#[32, 45, 62, 32]⟩ : ByteArray).size = 4 := rfl
    have z4 : (⟨#[41]⟩ : ByteArray).size = 1 := rfl
    rcases g4 with rfl | rfl <;> simp [showT, shows, showN, sz, szs, ByteArray.size_append, z1, z2, z3, z4] <;> omega
theorem fn18_ok (f : Int → ByteArray) (t : Ty) : ∀ (h : AHeap), sz t ≤ 100000 → good t = true → allN (fun n => (f n).size ≤ 20 ∧ ∀ h, Returns Tryd.prog 33 [.int .i64 n] h (.str (f n)) h) t → Returns Tryd.prog 18 [tyV t] h (.str (showT f t)) h := by
  refine Ty.ind (motive := fun t => ∀ (h : AHeap), sz t ≤ 100000 → good t = true → allN (fun n => (f n).size ≤ 20 ∧ ∀ h, Returns Tryd.prog 33 [.int .i64 n] h (.str (f n)) h) t → Returns Tryd.prog 18 [tyV t] h (.str (showT f t)) h) (fun op n ks ih => ?_) t
  intro h hs hg ha
  have hsize : ∀ t, sz t ≤ 100000 → good t = true → allN (fun n => (f n).size ≤ 20 ∧ ∀ h, Returns Tryd.prog 33 [.int .i64 n] h (.str (f n)) h) t → (showT f t).size ≤ 3000000 := fun t h1 h2 h3 => by
    have := showT_size f t h2 (allN.mono (fun n hn => hn.1) t h3)
    omega
  have hr := hsize _ hs hg ha
  refine Returns.val fn18 (by simp) fun h1 h2 => ⟨by simp [AVal.ok, huge]; omega, ?_⟩
  obtain ⟨g1, g2, g3, g4⟩ := good_ops hg
  simp only [allN, allNs_mem] at ha
  simp only [sz] at hs
  have big0 : ∀ n : Nat, n ≤ 10000000 → n ≤ big := fun n hn => by simp only [big]; omega
  rcases g4 with ⟨rfl, g4⟩ | ⟨a, rfl, g4⟩ | ⟨a, b, rfl, g4⟩
  · rcases g4 with rfl | rfl | rfl | rfl | rfl | rfl
    rotate_right
    · have hn := ha.1 rfl
      have z : (⟨#[39]⟩ : ByteArray).size = 1 := rfl
      simp [code18, tyV_mk]
      refine (hn.2 _).to ?_
      simp [strop, z, showT, showN]
      refine ⟨big0 _ (by omega), ?_⟩
      repeat' (first | exact Sub.refl _ | refine Sub.put_both ?_ | refine Sub.alloc h1 ?_ | refine Sub.put h1 ?_ (by simp) | refine Sub.drop h1 ?_ (by simp))
    all_goals
      simp [code18, tyV_mk, showT, showN]
      repeat' (first | exact Sub.refl _ | refine Sub.put_both ?_ | refine Sub.alloc h1 ?_ | refine Sub.put h1 ?_ (by simp) | refine Sub.drop h1 ?_ (by simp))
  · have hc := ih a (by simp)
    have hz := hsize a (by simp [szs] at hs; omega) (g1 a (by simp)) (ha.2 a (by simp))
    rw [tyV_eq] at hc
    have z : (⟨#[32]⟩ : ByteArray).size = 1 := rfl
    have z1 : (⟨#[108, 105, 115, 116]⟩ : ByteArray).size = 4 := rfl
    have z2 : (⟨#[114, 101, 102]⟩ : ByteArray).size = 3 := rfl
    rcases g4 with rfl | rfl
    all_goals
      simp [code18, tyV_mk]
      refine (hc _ (by simp [szs] at hs; omega) (g1 a (by simp)) (ha.2 a (by simp))).to ?_
      simp [strop, z, z1, z2, ByteArray.size_append, showT, shows, showN]
      refine ⟨big0 _ (by omega), big0 _ (by omega), ?_⟩
      repeat' (first | exact Sub.refl _ | refine Sub.put_both ?_ | refine Sub.alloc h1 ?_ | refine Sub.put h1 ?_ (by simp) | refine Sub.drop h1 ?_ (by simp))
  · have hc := ih a (by simp)
    have hz := hsize a (by simp [szs] at hs; omega) (g1 a (by simp)) (ha.2 a (by simp))
    rw [tyV_eq] at hc
    have hd := ih b (by simp)
    have hz' := hsize b (by simp [szs] at hs; omega) (g1 b (by simp)) (ha.2 b (by simp))
    rw [tyV_eq] at hd
    have z1 : (⟨#[40]⟩ : ByteArray).size = 1 := rfl
    have z2 : (⟨#[32, 42, 32]⟩ : ByteArray).size = 3 := rfl
    have z3 : (⟨#[32, 45, 62, 32]⟩ : ByteArray).size = 4 := rfl
    have z4 : (⟨#[41]⟩ : ByteArray).size = 1 := rfl
    rcases g4 with rfl | rfl
    all_goals
      simp [code18, tyV_mk]
      refine (hc _ (by simp [szs] at hs; omega) (g1 a (by simp)) (ha.2 a (by simp))).to ?_
      simp [strop, z1, z2, z3, z4, ByteArray.size_append]
      refine ⟨big0 _ (by omega), big0 _ (by omega), ?_⟩
      refine (hd _ (by simp [szs] at hs; omega) (g1 b (by simp)) (ha.2 b (by simp))).to ?_
      simp [strop, z1, z2, z3, z4, ByteArray.size_append, showT, shows, showN]
      refine ⟨big0 _ (by omega), big0 _ (by omega), ?_⟩
      repeat' (first | exact Sub.refl _ | refine Sub.put_both ?_ | refine Sub.alloc h1 ?_ | refine Sub.put h1 ?_ (by simp) | refine Sub.drop h1 ?_ (by simp))
end Go.Proofs.YtcjlgmknclifmaaDoor.Ab
