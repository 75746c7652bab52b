/- How the abstract code is stepped through: rules for simp. Printed by mk16.py. -/
import Derived.Test.YtcjlgmknclifmaaDoorAb15
set_option linter.unusedVariables false
set_option linter.unusedSimpArgs false
namespace Go.Proofs.YtcjlgmknclifmaaDoor.Ab
open Go

/-! ### steps: what comes next is never applied ahead of time -/
def stepK (o : Option AVal) (s : St) (d : Option Nat) (K : St → Prop) : Prop := match o with | some v => K ⟨putd s.ρ d v, s.h⟩ | none => False
@[simp] theorem stepK_some (v : AVal) (s : St) (d : Option Nat) (K : St → Prop) : stepK (some v) s d K = K ⟨putd s.ρ d v, s.h⟩ := (rfl)
@[simp] theorem stepK_none (s : St) (d : Option Nat) (K : St → Prop) : stepK none s d K = False := (rfl)
@[simp] theorem stepK_ite (c : Prop) [Decidable c] (o : Option AVal) (s : St) (d : Option Nat) (K : St → Prop) : stepK (if c then o else none) s d K = (c ∧ stepK o s d K) := by by_cases h : c <;> simp [h]
def stepL (o : Option (List AVal)) (K : List AVal → Prop) : Prop := match o with | some v => K v | none => False
@[simp] theorem stepL_some (v : List AVal) (K : List AVal → Prop) : stepL (some v) K = K v := (rfl)
@[simp] theorem stepL_none (K : List AVal → Prop) : stepL none K = False := (rfl)
@[simp] theorem stepL_ite (c : Prop) [Decidable c] (o : Option (List AVal)) (K : List AVal → Prop) : stepL (if c then o else none) K = (c ∧ stepL o K) := by by_cases h : c <;> simp [h]
def stepC (o : Option (Prop × AVal × AHeap)) (s : St) (d : Option Nat) (K : St → Prop) : Prop := match o with | some (c, v, h) => c ∧ K ⟨putd s.ρ d v, h⟩ | none => False
@[simp] theorem stepC_some (c : Prop) (v : AVal) (h : AHeap) (s : St) (d : Option Nat) (K : St → Prop) : stepC (some (c, v, h)) s d K = (c ∧ K ⟨putd s.ρ d v, h⟩) := (rfl)
@[simp] theorem stepC_none (s : St) (d : Option Nat) (K : St → Prop) : stepC none s d K = False := (rfl)
@[simp] theorem stepC_ite (c : Prop) [Decidable c] (o : Option (Prop × AVal × AHeap)) (s : St) (d : Option Nat) (K : St → Prop) : stepC (if c then o else none) s d K = (c ∧ stepC o s d K) := by by_cases h : c <;> simp [h]
/-- A slice of new cells. -/
def newS (s : St) (ty : TypeId) (e len : Nat) (d : Option Nat) (K : St → Prop) (cs : List AVal) : Prop := K ⟨putd s.ρ d (.sl e s.h.next 0 len (some len)), s.h.alloc (.cells ty cs)⟩
@[simp] theorem newS_eq (s : St) (ty : TypeId) (e len : Nat) (d : Option Nat) (K : St → Prop) (cs : List AVal) : newS s ty e len d K cs = K ⟨putd s.ρ d (.sl e s.h.next 0 len (some len)), s.h.alloc (.cells ty cs)⟩ := (rfl)
def afterK (ρ : Nat → AVal) (d : Option Nat) (K : St → Prop) (v : AVal) (h : AHeap) : Prop := K ⟨putd ρ d v, h⟩
@[simp] theorem afterK_eq (ρ : Nat → AVal) (d : Option Nat) (K : St → Prop) (v : AVal) (h : AHeap) : afterK ρ d K v h = K ⟨putd ρ d v, h⟩ := (rfl)
def retQ (o : Option AVal) (h : AHeap) (Q : AVal → AHeap → Prop) : Prop := match o with | some v => Q v h | none => False
@[simp] theorem retQ_some (v : AVal) (h : AHeap) (Q : AVal → AHeap → Prop) : retQ (some v) h Q = Q v h := (rfl)
@[simp] theorem retQ_none (h : AHeap) (Q : AVal → AHeap → Prop) : retQ none h Q = False := (rfl)
@[simp] theorem retQ_ite (c : Prop) [Decidable c] (o : Option AVal) (h : AHeap) (Q : AVal → AHeap → Prop) : retQ (if c then o else none) h Q = (c ∧ retQ o h Q) := by by_cases hc : c <;> simp [hc]

/-! ### temporaries -/
def noEnv : Nat → AVal := fun _ => .junk
@[simp] theorem noEnv_at (t : Nat) : noEnv t = .junk := (rfl)
@[simp] theorem upd_at (ρ : Nat → AVal) (d : Nat) (v : AVal) (t : Nat) : upd ρ d v t = if t = d then v else ρ t := (rfl)
@[simp] theorem putd_some (ρ : Nat → AVal) (d : Nat) (v : AVal) : putd ρ (some d) v = upd ρ d v := (rfl)
@[simp] theorem putd_none (ρ : Nat → AVal) (v : AVal) : putd ρ none v = ρ := (rfl)
@[simp] theorem ev_tmp (ρ : Nat → AVal) (t : Nat) : ev ρ (.tmp t) = ρ t := (rfl)
@[simp] theorem ev_con (ρ : Nat → AVal) (v : AVal) : ev ρ (.con v) = v := (rfl)
@[simp] theorem argsFrom_nil (k : Nat) : argsFrom k [] = noEnv := (rfl)
@[simp] theorem argsFrom_cons (k : Nat) (a : AVal) (r : List AVal) : argsFrom k (a :: r) = upd (argsFrom (k + 1) r) k a := (rfl)

/-! ### two ways -/
def Br2 (b : Bool) (A B : St → Prop) (s : St) : Prop := Br b (A s) (B s)
@[simp] theorem Br2_true (A B : St → Prop) (s : St) : Br2 true A B s = A s := Br_true _ _
@[simp] theorem Br2_false (A B : St → Prop) (s : St) : Br2 false A B s = B s := Br_false _ _
theorem Br2.mk {b : Bool} {A B : St → Prop} {s : St} (h1 : b = true → A s) (h2 : b = false → B s) : Br2 b A B s := ⟨h1, h2⟩
def brV (v : AVal) (A B : St → Prop) (s : St) : Prop := match v with | .bool b => Br b (A s) (B s) | .anyb => A s ∧ B s | _ => False
@[simp] theorem brV_any (A B : St → Prop) (s : St) : brV .anyb A B s = (A s ∧ B s) := (rfl)
@[simp] theorem brV_bool (b : Bool) (A B : St → Prop) (s : St) : brV (.bool b) A B s = Br2 b A B s := (rfl)
def skipK (d : Option Nat) (K : St → Prop) (s : St) : Prop := K ⟨putd s.ρ d (.tup []), s.h⟩
@[simp] theorem skipK_eq (d : Option Nat) (K : St → Prop) (s : St) : skipK d K s = K ⟨putd s.ρ d (.tup []), s.h⟩ := (rfl)
/-- Under a guard: first, if it is as wanted. -/
def grdK (w : Bool) (v : AVal) (A B : St → Prop) (s : St) : Prop := match guardV v w with | some b => Br b (A s) (B s) | none => False
@[simp] theorem grdK_over (w : Bool) (A B : St → Prop) (s : St) : grdK w (.tup []) A B s = B s := by simp [grdK, guardV, Br_false]
@[simp] theorem grdK_true (b : Bool) (A B : St → Prop) (s : St) : grdK true (.bool b) A B s = Br2 b A B s := by simp [grdK, guardV, Br2]
@[simp] theorem grdK_false (b : Bool) (A B : St → Prop) (s : St) : grdK false (.bool b) A B s = Br2 b B A s := by cases b <;> simp [grdK, guardV, Br2, Br_true, Br_false]
@[simp] theorem Br2_not (b : Bool) (A B : St → Prop) (s : St) : Br2 (!b) A B s = Br2 b B A s := by cases b <;> simp

/-! ### values -/
def pickV (c a b : AVal) : Option AVal := match c with | .bool t => some (if t then a else b) | _ => none
@[simp] theorem pickV_bool (t : Bool) (a b : AVal) : pickV (.bool t) a b = some (if t then a else b) := (rfl)
def nilcV (x : AVal) : Option AVal := match x with | .ptr id o => some (.ptr id o) | .ref v => some (.ref v) | .clo f cs => some (.clo f cs) | _ => none
@[simp] theorem nilcV_ptr (id o : Nat) : nilcV (.ptr id o) = some (.ptr id o) := (rfl)
@[simp] theorem nilcV_ref (v : AVal) : nilcV (.ref v) = some (.ref v) := (rfl)
@[simp] theorem nilcV_clo (f : FuncId) (cs : List AVal) : nilcV (.clo f cs) = some (.clo f cs) := (rfl)
def eqsV (neg : Bool) (ks : List EqK) (x y : AVal) : Option AVal := match x, y with | .agg xs, .agg ys => (eqAll ks xs ys).map fun b => .bool (if neg then !b else b) | _, _ => none
@[simp] theorem eqsV_agg (neg : Bool) (ks : List EqK) (xs ys : List AVal) : eqsV neg ks (.agg xs) (.agg ys) = (eqAll ks xs ys).map fun b => .bool (if neg then !b else b) := (rfl)
def convV (k : IntKind) (x : AVal) : Option AVal := match x with | .int _ n => some (.int k (k.wrap n)) | _ => none
@[simp] theorem convV_int (k k' : IntKind) (n : Int) : convV k (.int k' n) = some (.int k (k.wrap n)) := (rfl)
def convsV (x : AVal) : Option AVal := match x with | .str s => some (.str s) | _ => none
@[simp] theorem convsV_str (s : ByteArray) : convsV (.str s) = some (.str s) := (rfl)
def asrtV (t : TypeId) (ok : Bool) (zero x : AVal) : Option AVal :=
  match x with
  | .iface t' v => if t' = t then some (if ok then .tup [v, .bool true] else v) else if ok then some (.tup [zero, .bool false]) else none
  | .nili => if ok then some (.tup [zero, .bool false]) else none
  | _ => none
@[simp] theorem asrtV_iface (t t' : TypeId) (ok : Bool) (zero v : AVal) : asrtV t ok zero (.iface t' v) = if t' = t then some (if ok then .tup [v, .bool true] else v) else if ok then some (.tup [zero, .bool false]) else none := (rfl)
def extractV (i : Nat) (x : AVal) : Option AVal := match x with | .tup vs => vs[i]? | _ => none
@[simp] theorem extractV_tup (i : Nat) (vs : List AVal) : extractV i (.tup vs) = vs[i]? := (rfl)
def ridV (x : AVal) : Option Nat := match x with | .ptr id _ => some id | _ => none
@[simp] theorem ridV_ptr (id o : Nat) : ridV (.ptr id o) = some id := (rfl)
@[simp] theorem ridV_ref (v : AVal) : ridV (.ref v) = none := (rfl)
def ridS (x : AVal) : Option Nat := match x with | .sl _ id _ _ _ => some id | _ => none
@[simp] theorem ridS_sl (e id o l : Nat) (c : Option Nat) : ridS (.sl e id o l c) = some id := (rfl)
@[simp] theorem ridS_nils : ridS .nils = none := (rfl)
@[simp] theorem ridS_vec (e : Nat) (b : Bool) (xs : List AVal) : ridS (.vec e b xs) = none := (rfl)
def ridM (x : AVal) : Option Nat := match x with | .map id => some id | _ => none
@[simp] theorem ridM_map (id : Nat) : ridM (.map id) = some id := (rfl)
@[simp] theorem ridM_nilm : ridM .nilm = none := (rfl)
@[simp] theorem ridM_nils : ridM .nils = none := (rfl)
@[simp] theorem ridM_str (s : ByteArray) : ridM (.str s) = none := (rfl)
@[simp] theorem ridM_vec (e : Nat) (b : Bool) (xs : List AVal) : ridM (.vec e b xs) = none := (rfl)
@[simp] theorem ridM_sl (e id o l : Nat) (c : Option Nat) : ridM (.sl e id o l c) = none := (rfl)

@[simp] theorem aval_move {ρ : Nat → AVal} {h : AHeap} {x} : aval (.move x) ρ h = some (ev ρ x) := by first | exact (rfl) | (simp only [aval]; rfl)
@[simp] theorem aval_pick {ρ : Nat → AVal} {h : AHeap} {c a b} : aval (.pick c a b) ρ h = pickV (ev ρ c) (ev ρ a) (ev ρ b) := by first | exact (rfl) | (simp only [aval]; rfl)
@[simp] theorem aval_load {ρ : Nat → AVal} {h : AHeap} {n x} : aval (.load n x) ρ h = loadV h n (ev ρ x) := by first | exact (rfl) | (simp only [aval]; rfl)
@[simp] theorem aval_nilc {ρ : Nat → AVal} {h : AHeap} {x} : aval (.nilc x) ρ h = nilcV (ev ρ x) := by first | exact (rfl) | (simp only [aval]; rfl)
@[simp] theorem aval_bin {ρ : Nat → AVal} {h : AHeap} {op x y} : aval (.bin op x y) ρ h = binop op (ev ρ x) (ev ρ y) := by first | exact (rfl) | (simp only [aval]; rfl)
@[simp] theorem aval_eqv {ρ : Nat → AVal} {h : AHeap} {neg k x y} : aval (.eqv neg k x y) ρ h = eqvV neg k (ev ρ x) (ev ρ y) := by first | exact (rfl) | (simp only [aval]; rfl)
@[simp] theorem aval_eqs {ρ : Nat → AVal} {h : AHeap} {neg ks x y} : aval (.eqs neg ks x y) ρ h = eqsV neg ks (ev ρ x) (ev ρ y) := by first | exact (rfl) | (simp only [aval]; rfl)
@[simp] theorem aval_un {ρ : Nat → AVal} {h : AHeap} {op x} : aval (.un op x) ρ h = unop op (ev ρ x) := by first | exact (rfl) | (simp only [aval]; rfl)
@[simp] theorem aval_conv {ρ : Nat → AVal} {h : AHeap} {k x} : aval (.conv k x) ρ h = convV k (ev ρ x) := by first | exact (rfl) | (simp only [aval]; rfl)
@[simp] theorem aval_convs {ρ : Nat → AVal} {h : AHeap} {x} : aval (.convs x) ρ h = convsV (ev ρ x) := by first | exact (rfl) | (simp only [aval]; rfl)
@[simp] theorem aval_b2s {ρ : Nat → AVal} {h : AHeap} {x} : aval (.b2s x) ρ h = b2sV h (ev ρ x) := by first | exact (rfl) | (simp only [aval]; rfl)
@[simp] theorem aval_mkfunc {ρ : Nat → AVal} {h : AHeap} {f cap} : aval (.mkfunc f cap) ρ h = some (.clo f (cap.map (ev ρ))) := by first | exact (rfl) | (simp only [aval]; rfl)
@[simp] theorem aval_mkiface {ρ : Nat → AVal} {h : AHeap} {t x} : aval (.mkiface t x) ρ h = some (.iface t (ev ρ x)) := by first | exact (rfl) | (simp only [aval]; rfl)
@[simp] theorem aval_asrt {ρ : Nat → AVal} {h : AHeap} {t ok zero x} : aval (.asrt t ok zero x) ρ h = asrtV t ok zero (ev ρ x) := by first | exact (rfl) | (simp only [aval]; rfl)
@[simp] theorem aval_field {ρ : Nat → AVal} {h : AHeap} {off n x} : aval (.field off n x) ρ h = fieldV off n (ev ρ x) := by first | exact (rfl) | (simp only [aval]; rfl)
@[simp] theorem aval_faddr {ρ : Nat → AVal} {h : AHeap} {off n x} : aval (.faddr off n x) ρ h = faddrV off n (ev ρ x) := by first | exact (rfl) | (simp only [aval]; rfl)
@[simp] theorem aval_iaddr {ρ : Nat → AVal} {h : AHeap} {e x i} : aval (.iaddr e x i) ρ h = iaddrV e (ev ρ x) (ev ρ i) := by first | exact (rfl) | (simp only [aval]; rfl)
@[simp] theorem aval_index {ρ : Nat → AVal} {h : AHeap} {x i} : aval (.index x i) ρ h = indexV (ev ρ x) (ev ρ i) := by first | exact (rfl) | (simp only [aval]; rfl)
@[simp] theorem aval_slice {ρ : Nat → AVal} {h : AHeap} {e x lo hi mx} : aval (.slice e x lo hi mx) ρ h = sliceV e (ev ρ x) (lo.map (ev ρ)) (hi.map (ev ρ)) (mx.map (ev ρ)) := by first | exact (rfl) | (simp only [aval]; rfl)
@[simp] theorem aval_sliceS {ρ : Nat → AVal} {h : AHeap} {x lo hi} : aval (.sliceS x lo hi) ρ h = sliceSV (ev ρ x) (lo.map (ev ρ)) (hi.map (ev ρ)) := by first | exact (rfl) | (simp only [aval]; rfl)
@[simp] theorem aval_extract {ρ : Nat → AVal} {h : AHeap} {i x} : aval (.extract i x) ρ h = extractV i (ev ρ x) := by first | exact (rfl) | (simp only [aval]; rfl)
@[simp] theorem aval_len {ρ : Nat → AVal} {h : AHeap} {k x} : aval (.len k x) ρ h = lenV h k (ev ρ x) := by first | exact (rfl) | (simp only [aval]; rfl)
@[simp] theorem aval_lookup {ρ : Nat → AVal} {h : AHeap} {st ok zero x k} : aval (.lookup st ok zero x k) ρ h = lookupV h st ok zero (ev ρ x) (ev ρ k) := by first | exact (rfl) | (simp only [aval]; rfl)
@[simp] theorem aval_build {ρ : Nat → AVal} {h : AHeap} {zero parts} : aval (.build zero parts) ρ h = (fillV zero (parts.map fun p => (p.1, p.2.1, ev ρ p.2.2))).map .agg := by first | exact (rfl) | (simp only [aval]; rfl)
@[simp] theorem aval_minmax {ρ : Nat → AVal} {h : AHeap} {mx xs} : aval (.minmax mx xs) ρ h = minmaxV mx (xs.map (ev ρ)) := by first | exact (rfl) | (simp only [aval]; rfl)
@[simp] theorem rid_move {ρ : Nat → AVal} {x} : rid (.move x) ρ = none := (rfl)
@[simp] theorem rid_pick {ρ : Nat → AVal} {c a b} : rid (.pick c a b) ρ = none := (rfl)
@[simp] theorem rid_load {ρ : Nat → AVal} {n x} : rid (.load n x) ρ = ridV (ev ρ x) := (rfl)
@[simp] theorem rid_nilc {ρ : Nat → AVal} {x} : rid (.nilc x) ρ = none := (rfl)
@[simp] theorem rid_bin {ρ : Nat → AVal} {op x y} : rid (.bin op x y) ρ = none := (rfl)
@[simp] theorem rid_eqv {ρ : Nat → AVal} {neg k x y} : rid (.eqv neg k x y) ρ = none := (rfl)
@[simp] theorem rid_eqs {ρ : Nat → AVal} {neg ks x y} : rid (.eqs neg ks x y) ρ = none := (rfl)
@[simp] theorem rid_un {ρ : Nat → AVal} {op x} : rid (.un op x) ρ = none := (rfl)
@[simp] theorem rid_conv {ρ : Nat → AVal} {k x} : rid (.conv k x) ρ = none := (rfl)
@[simp] theorem rid_convs {ρ : Nat → AVal} {x} : rid (.convs x) ρ = none := (rfl)
@[simp] theorem rid_b2s {ρ : Nat → AVal} {x} : rid (.b2s x) ρ = ridS (ev ρ x) := (rfl)
@[simp] theorem rid_mkfunc {ρ : Nat → AVal} {f cap} : rid (.mkfunc f cap) ρ = none := (rfl)
@[simp] theorem rid_mkiface {ρ : Nat → AVal} {t x} : rid (.mkiface t x) ρ = none := (rfl)
@[simp] theorem rid_asrt {ρ : Nat → AVal} {t ok zero x} : rid (.asrt t ok zero x) ρ = none := (rfl)
@[simp] theorem rid_field {ρ : Nat → AVal} {off n x} : rid (.field off n x) ρ = none := (rfl)
@[simp] theorem rid_faddr {ρ : Nat → AVal} {off n x} : rid (.faddr off n x) ρ = none := (rfl)
@[simp] theorem rid_iaddr {ρ : Nat → AVal} {e x i} : rid (.iaddr e x i) ρ = none := (rfl)
@[simp] theorem rid_index {ρ : Nat → AVal} {x i} : rid (.index x i) ρ = none := (rfl)
@[simp] theorem rid_slice {ρ : Nat → AVal} {e x lo hi mx} : rid (.slice e x lo hi mx) ρ = none := (rfl)
@[simp] theorem rid_sliceS {ρ : Nat → AVal} {x lo hi} : rid (.sliceS x lo hi) ρ = none := (rfl)
@[simp] theorem rid_extract {ρ : Nat → AVal} {i x} : rid (.extract i x) ρ = none := (rfl)
@[simp] theorem rid_len {ρ : Nat → AVal} {k x} : rid (.len k x) ρ = ridM (ev ρ x) := (rfl)
@[simp] theorem rid_lookup {ρ : Nat → AVal} {st ok zero x k} : rid (.lookup st ok zero x k) ρ = ridM (ev ρ x) := (rfl)
@[simp] theorem rid_build {ρ : Nat → AVal} {zero parts} : rid (.build zero parts) ρ = none := (rfl)
@[simp] theorem rid_minmax {ρ : Nat → AVal} {mx xs} : rid (.minmax mx xs) ρ = none := (rfl)
theorem aexec_stay {P : Program} {op : AOp} {d : Option Nat} {K : St → Prop} {s : St} (h : op.stay = true) (h1 : ∀ f args, op ≠ .call f args) (h2 : ∀ x args, op ≠ .callv x args) : aexec P op d K s = stepK (aval op s.ρ s.h) s d K := by
  cases op <;> first | rfl | (simp [AOp.stay] at h) | skip
@[simp] theorem aexec_move {P : Program} {d : Option Nat} {K : St → Prop} {s : St} {x} : aexec P (.move x) d K s = stepK (aval (.move x) s.ρ s.h) s d K := (rfl)
@[simp] theorem aexec_pick {P : Program} {d : Option Nat} {K : St → Prop} {s : St} {c a b} : aexec P (.pick c a b) d K s = stepK (aval (.pick c a b) s.ρ s.h) s d K := (rfl)
@[simp] theorem aexec_load {P : Program} {d : Option Nat} {K : St → Prop} {s : St} {n x} : aexec P (.load n x) d K s = stepK (aval (.load n x) s.ρ s.h) s d K := (rfl)
@[simp] theorem aexec_nilc {P : Program} {d : Option Nat} {K : St → Prop} {s : St} {x} : aexec P (.nilc x) d K s = stepK (aval (.nilc x) s.ρ s.h) s d K := (rfl)
@[simp] theorem aexec_bin {P : Program} {d : Option Nat} {K : St → Prop} {s : St} {op x y} : aexec P (.bin op x y) d K s = stepK (aval (.bin op x y) s.ρ s.h) s d K := (rfl)
@[simp] theorem aexec_eqv {P : Program} {d : Option Nat} {K : St → Prop} {s : St} {neg k x y} : aexec P (.eqv neg k x y) d K s = stepK (aval (.eqv neg k x y) s.ρ s.h) s d K := (rfl)
@[simp] theorem aexec_eqs {P : Program} {d : Option Nat} {K : St → Prop} {s : St} {neg ks x y} : aexec P (.eqs neg ks x y) d K s = stepK (aval (.eqs neg ks x y) s.ρ s.h) s d K := (rfl)
@[simp] theorem aexec_un {P : Program} {d : Option Nat} {K : St → Prop} {s : St} {op x} : aexec P (.un op x) d K s = stepK (aval (.un op x) s.ρ s.h) s d K := (rfl)
@[simp] theorem aexec_conv {P : Program} {d : Option Nat} {K : St → Prop} {s : St} {k x} : aexec P (.conv k x) d K s = stepK (aval (.conv k x) s.ρ s.h) s d K := (rfl)
@[simp] theorem aexec_convs {P : Program} {d : Option Nat} {K : St → Prop} {s : St} {x} : aexec P (.convs x) d K s = stepK (aval (.convs x) s.ρ s.h) s d K := (rfl)
@[simp] theorem aexec_b2s {P : Program} {d : Option Nat} {K : St → Prop} {s : St} {x} : aexec P (.b2s x) d K s = stepK (aval (.b2s x) s.ρ s.h) s d K := (rfl)
@[simp] theorem aexec_mkfunc {P : Program} {d : Option Nat} {K : St → Prop} {s : St} {f cap} : aexec P (.mkfunc f cap) d K s = stepK (aval (.mkfunc f cap) s.ρ s.h) s d K := (rfl)
@[simp] theorem aexec_mkiface {P : Program} {d : Option Nat} {K : St → Prop} {s : St} {t x} : aexec P (.mkiface t x) d K s = stepK (aval (.mkiface t x) s.ρ s.h) s d K := (rfl)
@[simp] theorem aexec_asrt {P : Program} {d : Option Nat} {K : St → Prop} {s : St} {t ok zero x} : aexec P (.asrt t ok zero x) d K s = stepK (aval (.asrt t ok zero x) s.ρ s.h) s d K := (rfl)
@[simp] theorem aexec_field {P : Program} {d : Option Nat} {K : St → Prop} {s : St} {off n x} : aexec P (.field off n x) d K s = stepK (aval (.field off n x) s.ρ s.h) s d K := (rfl)
@[simp] theorem aexec_faddr {P : Program} {d : Option Nat} {K : St → Prop} {s : St} {off n x} : aexec P (.faddr off n x) d K s = stepK (aval (.faddr off n x) s.ρ s.h) s d K := (rfl)
@[simp] theorem aexec_iaddr {P : Program} {d : Option Nat} {K : St → Prop} {s : St} {e x i} : aexec P (.iaddr e x i) d K s = stepK (aval (.iaddr e x i) s.ρ s.h) s d K := (rfl)
@[simp] theorem aexec_index {P : Program} {d : Option Nat} {K : St → Prop} {s : St} {x i} : aexec P (.index x i) d K s = stepK (aval (.index x i) s.ρ s.h) s d K := (rfl)
@[simp] theorem aexec_slice {P : Program} {d : Option Nat} {K : St → Prop} {s : St} {e x lo hi mx} : aexec P (.slice e x lo hi mx) d K s = stepK (aval (.slice e x lo hi mx) s.ρ s.h) s d K := (rfl)
@[simp] theorem aexec_sliceS {P : Program} {d : Option Nat} {K : St → Prop} {s : St} {x lo hi} : aexec P (.sliceS x lo hi) d K s = stepK (aval (.sliceS x lo hi) s.ρ s.h) s d K := (rfl)
@[simp] theorem aexec_extract {P : Program} {d : Option Nat} {K : St → Prop} {s : St} {i x} : aexec P (.extract i x) d K s = stepK (aval (.extract i x) s.ρ s.h) s d K := (rfl)
@[simp] theorem aexec_len {P : Program} {d : Option Nat} {K : St → Prop} {s : St} {k x} : aexec P (.len k x) d K s = stepK (aval (.len k x) s.ρ s.h) s d K := (rfl)
@[simp] theorem aexec_lookup {P : Program} {d : Option Nat} {K : St → Prop} {s : St} {st ok zero x k} : aexec P (.lookup st ok zero x k) d K s = stepK (aval (.lookup st ok zero x k) s.ρ s.h) s d K := (rfl)
@[simp] theorem aexec_build {P : Program} {d : Option Nat} {K : St → Prop} {s : St} {zero parts} : aexec P (.build zero parts) d K s = stepK (aval (.build zero parts) s.ρ s.h) s d K := (rfl)
@[simp] theorem aexec_minmax {P : Program} {d : Option Nat} {K : St → Prop} {s : St} {mx xs} : aexec P (.minmax mx xs) d K s = stepK (aval (.minmax mx xs) s.ρ s.h) s d K := (rfl)
@[simp] theorem aexec_alloc {P : Program} {d : Option Nat} {K : St → Prop} {s : St} {ty zero} : aexec P (.alloc ty zero) d K s = (K ⟨putd s.ρ d (.ptr s.h.next 0), s.h.alloc (.cells ty zero)⟩) := by
  simp only [aexec, AOp.stay, achg, Bool.false_eq_true, if_false, true_and]
@[simp] theorem aexec_box {P : Program} {d : Option Nat} {K : St → Prop} {s : St} {ty n x} : aexec P (.box ty n x) d K s = (((ev s.ρ x).cells.length = n ∧ ones (ev s.ρ x).cells = true) ∧ K ⟨putd s.ρ d (.ptr s.h.next 0), s.h.alloc (.cells ty (ev s.ρ x).cells)⟩) := by
  simp only [aexec, AOp.stay, achg, Bool.false_eq_true, if_false]
  by_cases hc : (ev s.ρ x).cells.length = n ∧ ones (ev s.ρ x).cells = true
  · rw [if_pos hc]; simp [hc]
  · rw [if_neg hc]; simp only [hc, false_and]
@[simp] theorem aexec_bslice {P : Program} {d : Option Nat} {K : St → Prop} {s : St} {ty e len zero parts} : aexec P (.bslice ty e len zero parts) d K s = (stepL (fillV zero (parts.map fun p => (p.1, p.2.1, ev s.ρ p.2.2))) (newS s ty e len d K)) := by
  simp only [aexec, AOp.stay, achg, Bool.false_eq_true, if_false]
  cases fillV zero (parts.map fun p => (p.1, p.2.1, ev s.ρ p.2.2)) <;> simp
@[simp] theorem aexec_mkmap {P : Program} {d : Option Nat} {K : St → Prop} {s : St}  : aexec P (.mkmap ) d K s = (K ⟨putd s.ρ d (.map s.h.next), s.h.alloc (.map [])⟩) := by
  simp only [aexec, AOp.stay, achg, Bool.false_eq_true, if_false, true_and]

/-! #### store, append, make, map update, bytes of a string -/
def storeV (h : AHeap) (n : Nat) (x y : AVal) : Option (Prop × AVal × AHeap) :=
  match x with
  | .ptr id off =>
    match h.f id with
    | some (.cells ty cs) =>
      if y.cells.length = n ∧ off + n ≤ cs.length ∧ ones y.cells = true then
        some (True, .tup [], h.put id (.cells ty (cs.take off ++ y.cells ++ cs.drop (off + n)))) else none
    | _ => none
  | _ => none
def storeO (o : Option AObj) (h : AHeap) (n id off : Nat) (y : AVal) : Option (Prop × AVal × AHeap) :=
  match o with
  | some (.cells ty cs) =>
    if y.cells.length = n ∧ off + n ≤ cs.length ∧ ones y.cells = true then
      some (True, .tup [], h.put id (.cells ty (cs.take off ++ y.cells ++ cs.drop (off + n)))) else none
  | _ => none
@[simp] theorem storeV_ptr (h : AHeap) (n id off : Nat) (y : AVal) : storeV h n (.ptr id off) y = storeO (h.f id) h n id off y := by
  simp only [storeV, storeO]
@[simp] theorem storeO_cells (ty : TypeId) (cs : List AVal) (h : AHeap) (n id off : Nat) (y : AVal) : storeO (some (.cells ty cs)) h n id off y = if y.cells.length = n ∧ off + n ≤ cs.length ∧ ones y.cells = true then
      some (True, .tup [], h.put id (.cells ty (cs.take off ++ y.cells ++ cs.drop (off + n)))) else none := (rfl)
@[congr] theorem storeO_congr {o o' : Option AObj} {h : AHeap} {n id off : Nat} {y : AVal} (e : o = o') : storeO o h n id off y = storeO o' h n id off y := by rw [e]
@[simp] theorem aexec_store {P : Program} {d : Option Nat} {K : St → Prop} {s : St} {n x y} : aexec P (.store n x y) d K s = stepC (storeV s.h n (ev s.ρ x) (ev s.ρ y)) s d K := (rfl)
def appV (h : AHeap) (ty e bytes : Nat) (x y : AVal) : Option (Prop × AVal × AHeap) := achg (.append ty e bytes (.con x) (.con y)) noEnv h
@[simp] theorem aexec_append {P : Program} {d : Option Nat} {K : St → Prop} {s : St} {ty e bytes x y} : aexec P (.append ty e bytes x y) d K s = stepC (appV s.h ty e bytes (ev s.ρ x) (ev s.ρ y)) s d K := (rfl)
def mksV (h : AHeap) (ty e bytes : Nat) (zero : List AVal) (l c : AVal) : Option (Prop × AVal × AHeap) :=
  match l, c with
  | .int _ l, .int _ c => some (0 ≤ l ∧ l ≤ c ∧ c * bytes ≤ big ∧ c ≤ big, .sl e h.next 0 l.toNat (some c.toNat), h.alloc (.cells ty (List.replicate c.toNat zero).flatten))
  | _, _ => none
@[simp] theorem mksV_int (h : AHeap) (ty e bytes : Nat) (zero : List AVal) (k k' : IntKind) (l c : Int) : mksV h ty e bytes zero (.int k l) (.int k' c) = some (0 ≤ l ∧ l ≤ c ∧ c * bytes ≤ big ∧ c ≤ big, .sl e h.next 0 l.toNat (some c.toNat), h.alloc (.cells ty (List.replicate c.toNat zero).flatten)) := (rfl)
@[simp] theorem aexec_mkslice {P : Program} {d : Option Nat} {K : St → Prop} {s : St} {ty e bytes zero l c} : aexec P (.mkslice ty e bytes zero l c) d K s = stepC (mksV s.h ty e bytes zero (ev s.ρ l) (ev s.ρ c)) s d K := (rfl)
def mapV (h : AHeap) (st : Bool) (m k v : AVal) : Option (Prop × AVal × AHeap) := achg (.mapupd st (.con m) (.con k) (.con v)) noEnv h
@[simp] theorem aexec_mapupd {P : Program} {d : Option Nat} {K : St → Prop} {s : St} {st m k v} : aexec P (.mapupd st m k v) d K s = stepC (mapV s.h st (ev s.ρ m) (ev s.ρ k) (ev s.ρ v)) s d K := (rfl)
def s2bV (h : AHeap) (ty : TypeId) (x : AVal) : Option (Prop × AVal × AHeap) :=
  match x with
  | .str s => some (s.size ≤ big, .sl 1 h.next 0 s.size none, h.alloc (.cells ty (s.data.toList.map fun b : UInt8 => AVal.int .u8 b.toNat)))
  | _ => none
@[simp] theorem s2bV_str (h : AHeap) (ty : TypeId) (s : ByteArray) : s2bV h ty (.str s) = some (s.size ≤ big, .sl 1 h.next 0 s.size none, h.alloc (.cells ty (s.data.toList.map fun b : UInt8 => AVal.int .u8 b.toNat))) := (rfl)
@[simp] theorem aexec_s2b {P : Program} {d : Option Nat} {K : St → Prop} {s : St} {ty x} : aexec P (.s2b ty x) d K s = stepC (s2bV s.h ty (ev s.ρ x)) s d K := (rfl)
def markO (o : Option AObj) (h : AHeap) (e id off len : Nat) (cap : Option Nat) : Option (Prop × AVal × AHeap) := match o with | some (.cells _ _) => some (0 < len, .sl e id off len cap, h) | _ => none
@[simp] theorem markO_cells (ty : TypeId) (cs : List AVal) (h : AHeap) (e id off len : Nat) (cap : Option Nat) : markO (some (.cells ty cs)) h e id off len cap = some (0 < len, .sl e id off len cap, h) := (rfl)
def markV (h : AHeap) (x : AVal) : Option (Prop × AVal × AHeap) := match x with | .sl e id off len cap => markO (h.f id) h e id off len cap | _ => none
@[simp] theorem markV_sl (h : AHeap) (e id off len : Nat) (cap : Option Nat) : markV h (.sl e id off len cap) = markO (h.f id) h e id off len cap := (rfl)
@[simp] theorem aexec_mark {P : Program} {d : Option Nat} {K : St → Prop} {s : St} {x} : aexec P (.mark x) d K s = stepC (markV s.h (ev s.ρ x)) s d K := (rfl)
@[simp] theorem aexec_bad {P : Program} {d : Option Nat} {K : St → Prop} {s : St} : aexec P .bad d K s = False := by simp only [aexec, AOp.stay, if_true, aval]
@[simp] theorem aval_bad {ρ : Nat → AVal} {h : AHeap} : aval .bad ρ h = none := (rfl)
/-! #### calls -/
@[simp] theorem aexec_call {P : Program} {d : Option Nat} {K : St → Prop} {s : St} {f args} : aexec P (.call f args) d K s = ACalls P f (args.map (ev s.ρ)) s.h (afterK s.ρ d K) := (rfl)
def cloK (P : Program) (x : AVal) (args : List AVal) (h : AHeap) (K : AVal → AHeap → Prop) : Prop := match x with | .clo f cs => ACalls P f (args ++ cs) h K | _ => False
@[simp] theorem cloK_clo (P : Program) (f : FuncId) (cs args : List AVal) (h : AHeap) (K : AVal → AHeap → Prop) : cloK P (.clo f cs) args h K = ACalls P f (args ++ cs) h K := (rfl)
@[simp] theorem aexec_callv {P : Program} {d : Option Nat} {K : St → Prop} {s : St} {x args} : aexec P (.callv x args) d K s = cloK P (ev s.ρ x) (args.map (ev s.ρ)) s.h (afterK s.ρ d K) := (rfl)

/-! ### lists of operations -/
@[simp] theorem aop1_free {P : Program} {op : AOp} {d : Option Nat} {K : St → Prop} {s : St} : aop1 P ⟨d, op, none⟩ K s = aexec P op d K s := (rfl)
@[simp] theorem aop1_guard {P : Program} {op : AOp} {d : Option Nat} {g : Nat} {w : Bool} {K : St → Prop} {s : St} : aop1 P ⟨d, op, some (g, w)⟩ K s = grdK w (s.ρ g) (aexec P op d K) (skipK d K) s := (rfl)
@[simp] theorem aops_nil {P : Program} {K : St → Prop} {s : St} : aops P [] K s = K s := (rfl)
@[simp] theorem aops_cons {P : Program} {o : AOper} {l : List AOper} {K : St → Prop} {s : St} : aops P (o :: l) K s = aop1 P o (aops P l K) s := (rfl)
@[simp] theorem Held_nil (h : AHeap) : Held [] h = True := by simp [Held]
@[simp] theorem Held_cons (p : Nat × AObj) (R : List (Nat × AObj)) (h : AHeap) : Held (p :: R) h = (h.f p.1 = some p.2 ∧ Held R h) := by simp [Held]
def heldK (ns : Bool) (R : List (Nat × AObj)) (K : St → Prop) (s : St) : Prop := (ns = true → Held R s.h) ∧ K s
@[simp] theorem heldK_true (R : List (Nat × AObj)) (K : St → Prop) (s : St) : heldK true R K s = (Held R s.h ∧ K s) := by simp [heldK]
@[simp] theorem heldK_false (R : List (Nat × AObj)) (K : St → Prop) (s : St) : heldK false R K s = K s := by simp [heldK]
@[simp] theorem logR_none (R : List (Nat × AObj)) (h : AHeap) : logR R h none = R := (rfl)
def logO (R : List (Nat × AObj)) (id : Nat) : Option AObj → List (Nat × AObj) | some o => (id, o) :: R | none => R
@[simp] theorem logO_some (R : List (Nat × AObj)) (id : Nat) (o : AObj) : logO R id (some o) = (id, o) :: R := (rfl)
@[simp] theorem logR_some (R : List (Nat × AObj)) (h : AHeap) (id : Nat) : logR R h (some id) = logO R id (h.f id) := by simp only [logR, logO]; cases h.f id <;> rfl
@[simp] theorem adraw_nil {P : Program} {R : List (Nat × AObj)} {K : St → Prop} {s : St} : adraw P .nil R K s = K s := (rfl)
@[simp] theorem adraw_take {P : Program} {op : AOp} {d : Option Nat} {l : Pl} {R : List (Nat × AObj)} {K : St → Prop} {s : St} : adraw P (.take ⟨d, op, none⟩ l) R K s = stepK (aval op s.ρ s.h) s d (adraw P l (logR R s.h (rid op s.ρ)) K) := (rfl)
@[simp] theorem adraw_take_guard {P : Program} {op : AOp} {d : Option Nat} {g : Nat} {w : Bool} {l : Pl} {R : List (Nat × AObj)} {K : St → Prop} {s : St} : adraw P (.take ⟨d, op, some (g, w)⟩ l) R K s = grdK w (s.ρ g) (adraw P (.take ⟨d, op, none⟩ l) R K) (skipK d (adraw P l R K)) s := (rfl)
@[simp] theorem adraw_only {P : Program} {o : AOper} {ns : Bool} {l : Pl} {R : List (Nat × AObj)} {K : St → Prop} {s : St} : adraw P (.only o ns l) R K s = aop1 P o (heldK ns R (adraw P l R K)) s := (rfl)
@[simp] theorem adraw_both {P : Program} {o p : AOper} {ns : Bool} {l : Pl} {R : List (Nat × AObj)} {K : St → Prop} {s : St} : adraw P (.both o p ns l) R K s = (aop1 P o (heldK ns R (aop1 P p (heldK ns R (adraw P l R K)))) s ∧
    aop1 P p (heldK ns R (aop1 P o (heldK ns R (adraw P l R K)))) s) := (rfl)
@[simp] theorem adraw_alt {P : Program} {o : AOper} {ns : Bool} {l l' : Pl} {R : List (Nat × AObj)} {K : St → Prop} {s : St} : adraw P (.alt o ns l l') R K s = (aop1 P o (heldK ns R (adraw P l R K)) s ∧ adraw P l' R K s) := (rfl)

/-! ### statements -/
@[simp] theorem Ev_skip {P : Program} {N : Nat} {Q : AExit → St → Prop} {s : St} : Ev P N .skip Q s = Q .normal s := (rfl)
@[simp] theorem Ev_ops {P : Program} {N : Nat} {l : List AOper} {Q : AExit → St → Prop} {s : St} : Ev P N (.ops l) Q s = aops P l (Q .normal) s := (rfl)
@[simp] theorem Ev_draw {P : Program} {N : Nat} {l : Pl} {Q : AExit → St → Prop} {s : St} : Ev P N (.draw l) Q s = adraw P l [] (Q .normal) s := (rfl)
@[simp] theorem Ev_seq {P : Program} {N : Nat} {a b : ACode} {Q : AExit → St → Prop} {s : St} : Ev P N (.seq a b) Q s = Ev P N a (thenK (Ev P N b Q) Q) s := (rfl)
@[simp] theorem Ev_cond {P : Program} {N : Nat} {c : Opd} {a b : ACode} {Q : AExit → St → Prop} {s : St} : Ev P N (.cond c a b) Q s = brV (ev s.ρ c) (Ev P N a Q) (Ev P N b Q) s := (rfl)
@[simp] theorem Ev_block {P : Program} {N : Nat} {id : Nat} {c : ACode} {Q : AExit → St → Prop} {s : St} : Ev P N (.block id c) Q s = Ev P N c (blockK id Q) s := (rfl)
@[simp] theorem Ev_exit {P : Program} {N : Nat} {id : Nat} {Q : AExit → St → Prop} {s : St} : Ev P N (.exit id) Q s = Q (.exit id) s := (rfl)
@[simp] theorem Ev_bad {P : Program} {N : Nat} {Q : AExit → St → Prop} {s : St} : Ev P N .bad Q s = False := (rfl)
@[simp] theorem Ev_ret {P : Program} {N : Nat} {Q : AExit → St → Prop} {s : St} : Ev P N .ret Q s = Q .ret s := (rfl)
@[simp] theorem thenK_normal {K : St → Prop} {Q : AExit → St → Prop} {s : St} : thenK K Q .normal s = K s := (rfl)
@[simp] theorem thenK_exit {K : St → Prop} {Q : AExit → St → Prop} {i : Nat} {s : St} : thenK K Q (.exit i) s = Q (.exit i) s := (rfl)
@[simp] theorem thenK_ret {K : St → Prop} {Q : AExit → St → Prop} {s : St} : thenK K Q .ret s = Q .ret s := (rfl)
@[simp] theorem blockK_normal {Q : AExit → St → Prop} {id : Nat} {s : St} : blockK id Q .normal s = Q .normal s := (rfl)
@[simp] theorem blockK_ret {Q : AExit → St → Prop} {id : Nat} {s : St} : blockK id Q .ret s = Q .ret s := (rfl)
@[simp] theorem blockK_exit {Q : AExit → St → Prop} {id i : Nat} {s : St} : blockK id Q (.exit i) s = if i = id then Q .normal s else Q (.exit i) s := (rfl)
@[simp] theorem retK_ret {rs : List RVar} {Q : AVal → AHeap → Prop} {s : St} : retK rs Q .ret s = retQ (retV rs s) s.h Q := by simp only [retK, retQ]; cases retV rs s <;> rfl
@[simp] theorem retK_normal {rs : List RVar} {Q : AVal → AHeap → Prop} {s : St} : retK rs Q .normal s = retQ (retV rs s) s.h Q := by simp only [retK, retQ]; cases retV rs s <;> rfl
@[simp] theorem retV_nil {s : St} : retV [] s = some (.tup []) := (rfl)
@[simp] theorem retV_tmp {s : St} {t : Nat} : retV [.tmp t] s = some (s.ρ t) := (rfl)
@[simp] theorem retV_tmp2 {s : St} {t u : Nat} : retV [.tmp t, .tmp u] s = some (.tup [s.ρ t, s.ρ u]) := (rfl)
@[simp] theorem retV_tmp3 {s : St} {t u v : Nat} : retV [.tmp t, .tmp u, .tmp v] s = some (.tup [s.ρ t, s.ρ u, s.ρ v]) := (rfl)
@[simp] theorem retV_cell {s : St} {a : Nat} {n : Option Nat} : retV [.cell a n] s = loadV s.h n (s.ρ a) := by simp only [retV, retVs]; cases loadV s.h n (s.ρ a) <;> rfl
@[simp] theorem retV_cell_tmp {s : St} {a t : Nat} {n : Option Nat} : retV [.cell a n, .tmp t] s = (loadV s.h n (s.ρ a)).map fun v => .tup [v, s.ρ t] := by simp only [retV, retVs]; cases loadV s.h n (s.ρ a) <;> rfl

/-! ### memory -/
attribute [simp] Nat.add_assoc
@[simp] theorem alloc_next (h : AHeap) (o : AObj) : (h.alloc o).next = h.next + 1 := (rfl)
@[simp] theorem alloc_at (h : AHeap) (o : AObj) (i : Nat) : (h.alloc o).f i = if i = h.next then some o else h.f i := (rfl)
@[simp] theorem put_next (h : AHeap) (o : AObj) (i : Nat) : (h.put i o).next = h.next := (rfl)
@[simp] theorem put_at (h : AHeap) (o : AObj) (j i : Nat) : (h.put j o).f i = if i = j then some o else h.f i := (rfl)
@[simp] theorem drop_next (h : AHeap) (i : Nat) : (h.drop i).next = h.next := (rfl)
@[simp] theorem drop_at (h : AHeap) (j i : Nat) : (h.drop j).f i = if i = j then none else h.f i := (rfl)
def loadO (o : Option AObj) (n : Option Nat) (off : Nat) : Option AVal :=
  match o with
  | some (.cells _ cs) =>
    match n with
    | none => cs[off]?
    | some n => if off + n ≤ cs.length then some (.agg ((cs.drop off).take n)) else none
  | _ => none
@[simp] theorem loadV_ptr (h : AHeap) (n : Option Nat) (id off : Nat) : loadV h n (.ptr id off) = loadO (h.f id) n off := (rfl)
@[simp] theorem loadO_one (ty : TypeId) (cs : List AVal) (off : Nat) : loadO (some (.cells ty cs)) none off = cs[off]? := (rfl)
@[simp] theorem loadO_many (ty : TypeId) (cs : List AVal) (off n : Nat) : loadO (some (.cells ty cs)) (some n) off = if off + n ≤ cs.length then some (.agg ((cs.drop off).take n)) else none := (rfl)
@[simp] theorem loadV_ref_agg (h : AHeap) (n : Nat) (cs : List AVal) : loadV h (some n) (.ref (.agg cs)) = if cs.length = n ∧ ones cs = true then some (.agg cs) else none := (rfl)
@[simp] theorem loadV_ref_one (h : AHeap) (v : AVal) : loadV h none (.ref v) = if v.one then some v else none := by simp only [loadV]
@[simp] theorem faddrV_ptr (off id o : Nat) (n : Option Nat) : faddrV off n (.ptr id o) = some (.ptr id (o + off)) := (rfl)
@[simp] theorem faddrV_ref_one (off : Nat) (cs : List AVal) : faddrV off none (.ref (.agg cs)) = if ones cs = true then cs[off]?.map .ref else none := (rfl)
@[simp] theorem faddrV_ref_many (off n : Nat) (cs : List AVal) : faddrV off (some n) (.ref (.agg cs)) = if ones cs = true then if off + n ≤ cs.length then some (.ref (.agg ((cs.drop off).take n))) else none else none := (rfl)
@[simp] theorem fieldV_one (off : Nat) (cs : List AVal) : fieldV off none (.agg cs) = cs[off]? := (rfl)
@[simp] theorem fieldV_many (off n : Nat) (cs : List AVal) : fieldV off (some n) (.agg cs) = if off + n ≤ cs.length then some (.agg ((cs.drop off).take n)) else none := (rfl)
@[simp] theorem iaddrV_vec (e : Nat) (b : Bool) (xs : List AVal) (k : IntKind) (i : Nat) : iaddrV e (.vec e b xs) (.int k i) = xs[i]?.map .ref := by simp [iaddrV]
@[simp] theorem iaddrV_sl (e id off len : Nat) (c : Option Nat) (k : IntKind) (i : Nat) : iaddrV e (.sl e id off len c) (.int k i) = if i < len then some (.ptr id (off + i * e)) else none := by
  simp only [iaddrV, if_true, Int.toNat_natCast]
  by_cases h : i < len
  · rw [if_pos ⟨by omega, by omega⟩, if_pos h]
  · rw [if_neg (by omega), if_neg h]
@[simp] theorem indexV_str (s : ByteArray) (k : IntKind) (i : Nat) : indexV (.str s) (.int k i) = s[i]?.map (fun b => .int .u8 b.toNat) := by simp [indexV]
@[simp] theorem cells_agg (cs : List AVal) : (AVal.agg cs).cells = cs := (rfl)
@[simp] theorem cells_int (k : IntKind) (n : Int) : (AVal.int k n).cells = [.int k n] := (rfl)
@[simp] theorem cells_bool (b : Bool) : (AVal.bool b).cells = [.bool b] := (rfl)
@[simp] theorem cells_str (s : ByteArray) : (AVal.str s).cells = [.str s] := (rfl)
@[simp] theorem cells_ptr (id o : Nat) : (AVal.ptr id o).cells = [.ptr id o] := (rfl)
@[simp] theorem cells_nilp : AVal.nilp.cells = [.nilp] := (rfl)
@[simp] theorem cells_ref (v : AVal) : (AVal.ref v).cells = [.ref v] := (rfl)
@[simp] theorem cells_nils : AVal.nils.cells = [.nils] := (rfl)
@[simp] theorem cells_vec (e : Nat) (b : Bool) (xs : List AVal) : (AVal.vec e b xs).cells = [.vec e b xs] := (rfl)
@[simp] theorem cells_sl (e id o l : Nat) (c : Option Nat) : (AVal.sl e id o l c).cells = [.sl e id o l c] := (rfl)
@[simp] theorem cells_map (id : Nat) : (AVal.map id).cells = [.map id] := (rfl)
@[simp] theorem cells_nilm : AVal.nilm.cells = [.nilm] := (rfl)
@[simp] theorem cells_clo (f : FuncId) (cs : List AVal) : (AVal.clo f cs).cells = [.clo f cs] := (rfl)
@[simp] theorem cells_nilf : AVal.nilf.cells = [.nilf] := (rfl)
@[simp] theorem cells_iface (t : TypeId) (v : AVal) : (AVal.iface t v).cells = [.iface t v] := (rfl)
@[simp] theorem cells_nili : AVal.nili.cells = [.nili] := (rfl)
@[simp] theorem ones_nil : ones [] = true := (rfl)
@[simp] theorem ones_cons (x : AVal) (l : List AVal) : ones (x :: l) = (x.one && ones l) := by simp [ones]
@[simp] theorem ones_append (l l' : List AVal) : ones (l ++ l') = (ones l && ones l') := by simp [ones]
attribute [simp] AVal.one
@[simp] theorem lenV_str (h : AHeap) (s : ByteArray) : lenV h .str (.str s) = some (.int .i64 s.size) := (rfl)
@[simp] theorem lenV_nils (h : AHeap) : lenV h .slice .nils = some (.int .i64 (0 : Nat)) := (rfl)
@[simp] theorem lenV_vec (h : AHeap) (e : Nat) (b : Bool) (xs : List AVal) : lenV h .slice (.vec e b xs) = some (.int .i64 xs.length) := (rfl)
@[simp] theorem lenV_sl (h : AHeap) (e id o l : Nat) (c : Option Nat) : lenV h .slice (.sl e id o l c) = some (.int .i64 l) := (rfl)
@[simp] theorem lenV_nilm (h : AHeap) : lenV h .map .nilm = some (.int .i64 0) := (rfl)
def lookO (o : Option AObj) (st ok : Bool) (zero k : AVal) : Option AVal :=
  match o with
  | some (.map es) => (findK st k es).map fun r => if ok then .tup [r.getD zero, .bool r.isSome] else r.getD zero
  | _ => none
@[simp] theorem lookupV_map (h : AHeap) (st ok : Bool) (zero k : AVal) (id : Nat) : lookupV h st ok zero (.map id) k = lookO (h.f id) st ok zero k := (rfl)
@[simp] theorem lookupV_nilm (h : AHeap) (st ok : Bool) (zero k : AVal) : lookupV h st ok zero .nilm k = some (if ok then .tup [zero, .bool false] else zero) := (rfl)
@[simp] theorem lookO_map (es : List (AVal × AVal)) (st ok : Bool) (zero k : AVal) : lookO (some (.map es)) st ok zero k = (findK st k es).map fun r => if ok then .tup [r.getD zero, .bool r.isSome] else r.getD zero := (rfl)
def mapO (o : Option AObj) (h : AHeap) (st : Bool) (id : Nat) (k v : AVal) : Option (Prop × AVal × AHeap) :=
  match o with
  | some (.map es) => (putK st k v es).map fun es' => (True, .tup [], h.put id (.map es'))
  | _ => none
@[simp] theorem mapV_map (h : AHeap) (st : Bool) (id : Nat) (k v : AVal) : mapV h st (.map id) k v = mapO (h.f id) h st id k v := (rfl)
@[simp] theorem mapO_map (es : List (AVal × AVal)) (h : AHeap) (st : Bool) (id : Nat) (k v : AVal) : mapO (some (.map es)) h st id k v = (putK st k v es).map fun es' => (True, .tup [], h.put id (.map es')) := (rfl)
@[congr] theorem mapO_congr {o o' : Option AObj} {h : AHeap} {st : Bool} {id : Nat} {k v : AVal} (e : o = o') : mapO o h st id k v = mapO o' h st id k v := by rw [e]

/-! ### arithmetic -/
@[simp] theorem binop_int (op : BinOp) (k : IntKind) (x y : Int) (h : (op == .shl || op == .shr) = false) : binop op (.int k x) (.int k y) = arith op k x y := by
  have : ¬ (op = .shl ∨ op = .shr) := by cases op <;> simp at h ⊢
  simp [binop, this]
@[simp] theorem binop_shl (k k' : IntKind) (x y : Int) : binop .shl (.int k x) (.int k' y) = shiftI .shl k x y := by simp [binop]
@[simp] theorem binop_shr (k k' : IntKind) (x y : Int) : binop .shr (.int k x) (.int k' y) = shiftI .shr k x y := by simp [binop]
@[simp] theorem binop_str (op : BinOp) (x y : ByteArray) : binop op (.str x) (.str y) = strop op x y := (rfl)
@[simp] theorem arith_add (k : IntKind) (x y : Int) : arith .add k x y = some (.int k (k.wrap (x + y))) := (rfl)
@[simp] theorem arith_sub (k : IntKind) (x y : Int) : arith .sub k x y = some (.int k (k.wrap (x - y))) := (rfl)
@[simp] theorem arith_mul (k : IntKind) (x y : Int) : arith .mul k x y = some (.int k (k.wrap (x * y))) := (rfl)
@[simp] theorem arith_quo (k : IntKind) (x y : Int) : arith .quo k x y = if y = 0 then none else some (.int k (k.wrap (x.tdiv y))) := (rfl)
@[simp] theorem arith_rem (k : IntKind) (x y : Int) : arith .rem k x y = if y = 0 then none else some (.int k (x.tmod y)) := (rfl)
def andI (k : IntKind) (x y : Int) : Int := k.wrap (BitVec.ofInt k.bits x &&& BitVec.ofInt k.bits y).toNat
@[simp] theorem arith_and (k : IntKind) (x y : Int) : arith .and k x y = some (.int k (andI k x y)) := (rfl)
def andNotI (k : IntKind) (x y : Int) : Int := k.wrap (BitVec.ofInt k.bits x &&& ~~~ BitVec.ofInt k.bits y).toNat
@[simp] theorem arith_andNot (k : IntKind) (x y : Int) : arith .andNot k x y = some (.int k (andNotI k x y)) := (rfl)
def orI (k : IntKind) (x y : Int) : Int := k.wrap (BitVec.ofInt k.bits x ||| BitVec.ofInt k.bits y).toNat
@[simp] theorem arith_or (k : IntKind) (x y : Int) : arith .or k x y = some (.int k (orI k x y)) := (rfl)
def xorI (k : IntKind) (x y : Int) : Int := k.wrap (BitVec.ofInt k.bits x ^^^ BitVec.ofInt k.bits y).toNat
@[simp] theorem arith_xor (k : IntKind) (x y : Int) : arith .xor k x y = some (.int k (xorI k x y)) := (rfl)
theorem int_beq (x y : Int) : (x == y) = decide (x = y) := by rw [Bool.eq_iff_iff]; simp
@[simp] theorem arith_eql (k : IntKind) (x y : Int) : arith .eql k x y = some (.bool (decide (x = y))) := by simp [arith, int_beq]
@[simp] theorem arith_neq (k : IntKind) (x y : Int) : arith .neq k x y = some (.bool (decide (x ≠ y))) := by simp [arith, bne, int_beq]
@[simp] theorem arith_lss (k : IntKind) (x y : Int) : arith .lss k x y = some (.bool (decide (x < y))) := (rfl)
@[simp] theorem arith_leq (k : IntKind) (x y : Int) : arith .leq k x y = some (.bool (decide (x ≤ y))) := (rfl)
@[simp] theorem arith_gtr (k : IntKind) (x y : Int) : arith .gtr k x y = some (.bool (decide (y < x))) := (rfl)
@[simp] theorem arith_geq (k : IntKind) (x y : Int) : arith .geq k x y = some (.bool (decide (y ≤ x))) := (rfl)
@[simp] theorem strop_eql (x y : ByteArray) : strop .eql x y = some (.bool (decide (x = y))) := by
  simp only [strop, Option.some.injEq, AVal.bool.injEq]
  rw [Bool.eq_iff_iff]
  simp only [beq_iff_eq, decide_eq_true_eq]
  exact ⟨fun h => by cases x; cases y; simpa [ByteArray.toList_eq] using h, fun h => by rw [h]⟩
@[simp] theorem strop_neq (x y : ByteArray) : strop .neq x y = some (.bool (decide (x ≠ y))) := by
  have := strop_eql x y
  simp only [strop, Option.some.injEq, AVal.bool.injEq] at this ⊢
  rw [this]; simp
@[simp] theorem unop_not (b : Bool) : unop .not (.bool b) = some (.bool (!b)) := (rfl)
@[simp] theorem unop_neg (k : IntKind) (n : Int) : unop .neg (.int k n) = some (.int k (k.wrap (0 - n))) := (rfl)
@[simp] theorem cast_eq' (m n : Nat) : ((m : Int) = (n : Int)) = (m = n) := by rw [eq_iff_iff]; omega
@[simp] theorem cast_lt' (m n : Nat) : ((m : Int) < (n : Int)) = (m < n) := by rw [eq_iff_iff]; omega
@[simp] theorem cast_le' (m n : Nat) : ((m : Int) ≤ (n : Int)) = (m ≤ n) := by rw [eq_iff_iff]; omega
theorem wrap_i64 {x : Int} (h1 : -9223372036854775808 ≤ x) (h2 : x ≤ 9223372036854775807) : IntKind.i64.wrap x = x := by
  simp [IntKind.wrap, IntKind.signed, IntKind.bits, Int.bmod_eq_emod]; omega
@[simp] theorem eqvV_empty (neg : Bool) (e : Nat) (b : Bool) : eqvV neg .slice (.vec e b []) .nils = some .anyb := (rfl)
@[simp] theorem eqvV_vec (neg : Bool) (e : Nat) (b : Bool) (x : AVal) (xs : List AVal) : eqvV neg .slice (.vec e b (x :: xs)) .nils = some (.bool neg) := by cases neg <;> rfl
@[simp] theorem eqvV_sl (neg : Bool) (e id o l : Nat) (c : Option Nat) : eqvV neg .slice (.sl e id o l c) .nils = some (.bool neg) := by cases neg <;> rfl
@[simp] theorem eqvV_nils (neg : Bool) : eqvV neg .slice .nils .nils = some (.bool !neg) := by cases neg <;> rfl
@[simp] theorem eqvV_nilp (neg : Bool) : eqvV neg .ptr .nilp .nilp = some (.bool !neg) := by cases neg <;> rfl
@[simp] theorem eqvV_ptr (neg : Bool) (id o : Nat) : eqvV neg .ptr (.ptr id o) .nilp = some (.bool neg) := by cases neg <;> rfl
@[simp] theorem eqvV_ref (neg : Bool) (v : AVal) : eqvV neg .ptr (.ref v) .nilp = some (.bool neg) := by cases neg <;> rfl
@[simp] theorem eqvV_nilm (neg : Bool) : eqvV neg .map .nilm .nilm = some (.bool !neg) := by cases neg <;> rfl
@[simp] theorem eqvV_map (neg : Bool) (id : Nat) : eqvV neg .map (.map id) .nilm = some (.bool neg) := by cases neg <;> rfl
@[simp] theorem eqvV_nilf (neg : Bool) : eqvV neg .func .nilf .nilf = some (.bool !neg) := by cases neg <;> rfl
@[simp] theorem eqvV_clo (neg : Bool) (f : FuncId) (cs : List AVal) : eqvV neg .func (.clo f cs) .nilf = some (.bool neg) := by cases neg <;> rfl
@[simp] theorem eqvV_bool (neg a b : Bool) : eqvV neg .bool (.bool a) (.bool b) = some (.bool (if neg then !(a == b) else a == b)) := (rfl)
@[simp] theorem eq1_bool (a b : Bool) : eq1 .bool (.bool a) (.bool b) = some (a == b) := (rfl)
@[simp] theorem eq1_int (k : IntKind) (a b : Int) : eq1 .int (.int k a) (.int k b) = some (decide (a = b)) := by simp [eq1, int_beq]
@[simp] theorem eq1_str (a b : ByteArray) : eq1 .str (.str a) (.str b) = some (decide (a = b)) := by
  have := strop_eql a b
  simpa [strop, eq1] using this
@[simp] theorem eqAll_nil : eqAll [] [] [] = some true := (rfl)
theorem eqAll_cons {k : EqK} {ks : List EqK} {x y : AVal} {xs ys : List AVal} {a b : Bool} (h1 : eq1 k x y = some a) (h2 : eqAll ks xs ys = some b) : eqAll (k :: ks) (x :: xs) (y :: ys) = some (a && b) := by simp [eqAll, h1, h2]
@[simp] theorem fillV_nil (cells : List AVal) : fillV cells [] = some cells := (rfl)
@[simp] theorem fillV_cons (cells : List AVal) (off n : Nat) (v : AVal) (r : List (Nat × Nat × AVal)) : fillV cells ((off, n, v) :: r) = if v.cells.length = n ∧ off + n ≤ cells.length ∧ ones v.cells = true then fillV (cells.take off ++ v.cells ++ cells.drop (off + n)) r else none := (rfl)
end Go.Proofs.YtcjlgmknclifmaaDoor.Ab
