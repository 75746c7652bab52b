/- Types of the small ML: how they are told, their kids' numbers, sizes. -/
import Derived.Test.YtcjlgmknclifmaaDoorCodeA
import Derived.Test.YtcjlgmknclifmaaDoorAb22
set_option linter.unusedVariables false
set_option linter.unusedSimpArgs false
namespace Go.Proofs.YtcjlgmknclifmaaDoor.Ab
open Go

inductive Ty where
  | mk (op : ByteArray) (n : Int) (kids : List Ty)
def Ty.op : Ty → ByteArray | .mk op _ _ => op
def Ty.n : Ty → Int | .mk _ n _ => n
def Ty.kids : Ty → List Ty | .mk _ _ ks => ks
@[simp] theorem Ty.op_mk (op : ByteArray) (n : Int) (ks : List Ty) : (Ty.mk op n ks).op = op := rfl
@[simp] theorem Ty.n_mk (op : ByteArray) (n : Int) (ks : List Ty) : (Ty.mk op n ks).n = n := rfl
@[simp] theorem Ty.kids_mk (op : ByteArray) (n : Int) (ks : List Ty) : (Ty.mk op n ks).kids = ks := rfl
theorem Ty.ind {motive : Ty → Prop} (h : ∀ op n ks, (∀ k ∈ ks, motive k) → motive (.mk op n ks)) (t : Ty) : motive t :=
  Ty.rec (motive_1 := motive) (motive_2 := fun ks => ∀ k ∈ ks, motive k) (fun op n ks ih => h op n ks ih) (fun k hk => by simp at hk) (fun k ks h1 h2 x hx => by
    rcases List.mem_cons.1 hx with rfl | hx
    · exact h1
    · exact h2 x hx) t
mutual
def tyV : Ty → AVal
  | .mk op n ks => .agg [.str op, .int .i64 n, .vec 3 false (tyVs ks)]
def tyVs : List Ty → List AVal
  | [] => []
  | k :: ks => tyV k :: tyVs ks
end
theorem tyVs_map : ∀ (ks : List Ty), tyVs ks = ks.map tyV
  | [] => by simp [tyVs]
  | k :: ks => by simp [tyVs, tyVs_map ks]
theorem tyV_mk (op : ByteArray) (n : Int) (ks : List Ty) : tyV (.mk op n ks) = .agg [.str op, .int .i64 n, .vec 3 false (ks.map tyV)] := by simp [tyV, tyVs_map]
theorem tyV_eq (t : Ty) : tyV t = .agg [.str t.op, .int .i64 t.n, .vec 3 false (t.kids.map tyV)] := by cases t; exact tyV_mk _ _ _
/-- A type that lies somewhere, read. -/
@[simp] theorem loadV_ty (h : AHeap) (t : Ty) : loadV h (some 3) (.ref (tyV t)) = some (.agg [.str t.op, .int .i64 t.n, .vec 3 false (t.kids.map tyV)]) := by rw [tyV_eq]; simp
/-- A type's rows of kids are no longer than rows may be. -/
def TyOk (t : Ty) : Prop := (tyV t).ok 0
@[simp] theorem tyV_ok (k : Nat) (t : Ty) : (tyV t).ok k ↔ TyOk t := by
  unfold TyOk
  refine Ty.ind (motive := fun t => (tyV t).ok k ↔ (tyV t).ok 0) (fun op n ks ih => ?_) t
  simp only [tyV_mk, AVal.ok, AVal.oks, oks_iff, List.mem_map, forall_exists_index, and_imp, forall_apply_eq_imp_iff₂, true_and, and_true]
  exact and_congr Iff.rfl (and_congr Iff.rfl ⟨fun h a ha => (ih a ha).1 (h a ha), fun h a ha => (ih a ha).2 (h a ha)⟩)
@[simp] theorem tys_ok (k : Nat) (ks : List Ty) : AVal.oks k (ks.map tyV) ↔ ∀ t ∈ ks, TyOk t := by
  simp only [oks_iff, List.mem_map, forall_exists_index, and_imp, forall_apply_eq_imp_iff₂, tyV_ok]
theorem TyOk_mk (op : ByteArray) (n : Int) (ks : List Ty) : TyOk (.mk op n ks) ↔ op.size ≤ huge ∧ ks.length ≤ huge ∧ ∀ t ∈ ks, TyOk t := by
  have := tyV_ok 0 (.mk op n ks)
  rw [← this, tyV_mk]
  simp only [AVal.ok, AVal.oks, tys_ok, List.length_map, true_and, and_true]
theorem TyOk_eq (t : Ty) : TyOk t ↔ t.op.size ≤ huge ∧ t.kids.length ≤ huge ∧ ∀ k ∈ t.kids, TyOk k := by cases t; exact TyOk_mk _ _ _

abbrev sInt : ByteArray := ⟨#[105, 110, 116]⟩
abbrev sBool : ByteArray := ⟨#[98, 111, 111, 108]⟩
abbrev sUnit : ByteArray := ⟨#[117, 110, 105, 116]⟩
abbrev sString : ByteArray := ⟨#[115, 116, 114, 105, 110, 103]⟩
abbrev sCell : ByteArray := ⟨#[99, 101, 108, 108]⟩
abbrev sVar : ByteArray := ⟨#[118, 97, 114]⟩
abbrev sList : ByteArray := ⟨#[108, 105, 115, 116]⟩
abbrev sRef : ByteArray := ⟨#[114, 101, 102]⟩
abbrev sPair : ByteArray := ⟨#[112, 97, 105, 114]⟩
abbrev sFun : ByteArray := ⟨#[102, 117, 110]⟩
def kidsN (op : ByteArray) : Int :=
  if op = sInt then 0 else if op = sBool then 0 else if op = sUnit then 0 else if op = sString then 0 else if op = sCell then 0 else if op = sVar then 0
  else if op = sList then 1 else if op = sRef then 1 else if op = sPair then 2 else if op = sFun then 2 else -1
theorem fn39_ok (op : ByteArray) (h : AHeap) : Returns Tryd.prog 39 [.str op] h (.int .i64 (kidsN op)) h := by
  refine Returns.val fn39 (by simp) fun h1 h2 => ⟨by simp [AVal.ok], ?_⟩
  by_cases c0 : op = sInt
  · subst c0; simp [code39, kidsN]
  by_cases c1 : op = sBool
  · subst c1; simp [code39, kidsN]
  by_cases c2 : op = sUnit
  · subst c2; simp [code39, kidsN]
  by_cases c3 : op = sString
  · subst c3; simp [code39, kidsN]
  by_cases c4 : op = sCell
  · subst c4; simp [code39, kidsN]
  by_cases c5 : op = sVar
  · subst c5; simp [code39, kidsN]
  by_cases c6 : op = sList
  · subst c6; simp [code39, kidsN]
  by_cases c7 : op = sRef
  · subst c7; simp [code39, kidsN]
  by_cases c8 : op = sPair
  · subst c8; simp [code39, kidsN]
  by_cases c9 : op = sFun
  · subst c9; simp [code39, kidsN]
  simp [code39, kidsN, c0, c1, c2, c3, c4, c5, c6, c7, c8, c9]
theorem fn38_ok (op : ByteArray) (h : AHeap) : Returns Tryd.prog 38 [.str op] h (.int .i64 (kidsN op)) h := by
  refine Returns.val fn38 (by simp) fun h1 h2 => ⟨by simp [AVal.ok], ?_⟩
  by_cases c0 : op = sInt
  · subst c0; simp [code38, kidsN]
  by_cases c1 : op = sBool
  · subst c1; simp [code38, kidsN]
  by_cases c2 : op = sUnit
  · subst c2; simp [code38, kidsN]
  by_cases c3 : op = sString
  · subst c3; simp [code38, kidsN]
  by_cases c4 : op = sCell
  · subst c4; simp [code38, kidsN]
  by_cases c5 : op = sVar
  · subst c5; simp [code38, kidsN]
  by_cases c6 : op = sList
  · subst c6; simp [code38, kidsN]
  by_cases c7 : op = sRef
  · subst c7; simp [code38, kidsN]
  by_cases c8 : op = sPair
  · subst c8; simp [code38, kidsN]
  by_cases c9 : op = sFun
  · subst c9; simp [code38, kidsN]
  simp [code38, kidsN, c0, c1, c2, c3, c4, c5, c6, c7, c8, c9]
end Go.Proofs.YtcjlgmknclifmaaDoor.Ab
