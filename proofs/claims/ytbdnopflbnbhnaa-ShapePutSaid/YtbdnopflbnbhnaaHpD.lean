/- Strings in the program's heaps of words, read back. -/
import Derived.Test.YtbdnopflbnbhnaaHpC
set_option linter.unusedVariables false
set_option linter.unusedSimpArgs false
namespace Go.Proofs.Ytbdnopflbnbhnaa.Ab
open Go

/-- A word that is a byte. -/
def okW (x : Int) : Prop := x % 2 = 1 ∧ 0 ≤ x / 2 ∧ x / 2 < 256
instance (x : Int) : Decidable (okW x) := by unfold okW; exact inferInstance
def byteW (x : Int) : UInt8 := UInt8.ofNat (x / 2).toNat
def textW (fs : List Int) : ByteArray := ⟨(fs.map byteW).toArray⟩
def fldW (fs : List Int) (k : Nat) : Int := fs.getD k 0
@[simp] theorem size_mt : (ByteArray.mk #[]).size = 0 := rfl
theorem bytesOf_W (fs : List Int) : bytesOf (fs.map fun x => AVal.int .u8 (x / 2)) = some (fs.map byteW) := by
  induction fs with
  | nil => rfl
  | cons x fs ih => simp only [List.map_cons, bytesOf, ih, Option.map_some]; rfl
theorem wrap_u8 {x : Int} (h1 : 0 ≤ x) (h2 : x < 256) : IntKind.u8.wrap x = x := by
  simp only [IntKind.wrap, IntKind.signed, IntKind.bits, Bool.false_and, Bool.false_eq_true, if_false]
  omega
theorem b2s_sl {h : AHeap} {id n : Nat} {c : Option Nat} {ty : TypeId} {cs : List AVal} {bs : List UInt8} (hb : h.f id = some (.cells ty cs)) (hl : cs.length = n) (ho : bytesOf cs = some bs) : b2sV h (.sl 1 id 0 n c) = some (.str ⟨bs.toArray⟩) := by
  simp [b2sV, hb, hl]
  subst hl
  simp [ho]

theorem fn13_ok {h : AHeap} {p mid : Nat} {size used : Int} {es : List Ent} (R : Rep h p mid size used es) (w : Int) (hsz : ∀ e ∈ es, e.fs.length ≤ 1000000) :
    Returns Try.prog 13 [.ptr p 0, .int .i64 w] h (match getE es w with | some e => if e.tag = 1 ∧ ∀ x ∈ e.fs, okW x then .tup [.str (textW e.fs), .bool true] else .tup [.str ⟨#[]⟩, .bool false] | none => .tup [.str ⟨#[]⟩, .bool false]) h := by
  refine Returns.pure fn13 (by simp) fun h1 h2 => ⟨?_, ?_⟩
  · cases hg : getE es w with
    | none => simp [AVal.ok, AVal.oks]
    | some e =>
      have := hsz e (getE_mem hg).1
      simp only
      split <;> simp [AVal.ok, AVal.oks, textW, ByteArray.size, huge]
      omega
  simp [code13]
  refine (fn15_ok R w).to ?_
  cases hg : getE es w with
  | none => simp
  | some e =>
    have hes := hsz e (getE_mem hg).1
    by_cases ht : e.tag = 1
    case neg => simp [ht]
    simp [ht]
    refine (fn25_ok R w).to ?_
    have e1 : (e.fs.length : Int) ≤ 140737488355328 := by omega
    simp [hg, big, e1]
    have hk := h1
    have hp := (h1 _ _ R.top).1
    have hsub : ∀ o, Sub h (h.alloc o) := fun o => Sub.alloc h1 (Sub.refl _)
    have hc : ∀ i, AObj.ok (h.next + 1) (.cells 5 ((List.range i).map (fun k => AVal.int .u8 (fldW e.fs k / 2)) ++ List.replicate (e.fs.length - i) (.int .u8 0))) := by
      intro i
      simp only [AObj.ok, oks_iff, List.mem_append, List.mem_map, List.mem_replicate]
      rintro x (⟨k, _, rfl⟩ | ⟨_, rfl⟩) <;> simp [AVal.ok]
    refine Ev.countH (fun i => upd (upd (upd (upd (upd (upd (upd noEnv 0 (.ptr p 0)) 1 (.int .i64 w)) 4 (.str ⟨#[]⟩)) 5 (.bool false)) 6 (.sl 1 h.next 0 e.fs.length (some e.fs.length))) 20 (.int .i64 e.fs.length)) 21 (.int .i64 i))
      (fun i => h.alloc (.cells 5 ((List.range i).map (fun k => AVal.int .u8 (fldW e.fs k / 2)) ++ List.replicate (e.fs.length - i) (.int .u8 0)))) e.fs.length (fun i => ∀ j, j < i → okW (fldW e.fs j)) (fun _ => rfl) (fun _ => ⟨by simp, ?_⟩) ?_
    · refine Tidy.mk (by simp) (hk.alloc (by simpa using hc 0)) ?_
      repeat' (first | exact TidyR_none _ _ | (refine TidyR_upd (by simp [AVal.ok, huge, big, ByteArray.size]; try omega) ?_))
    intro i hi I hok
    by_cases hlt : i < e.fs.length
    case neg =>
      have hie : i = e.fs.length := by omega
      have hall : ∀ x ∈ e.fs, okW x := by
        intro x hx
        obtain ⟨j, hj⟩ := List.getElem?_of_mem hx
        have hjl := (List.getElem?_eq_some_iff.1 hj).1
        have := I j (by omega)
        simp only [fldW, List.getD_eq_getElem?_getD, hj, Option.getD_some] at this
        exact this
      have hmap : (List.range i).map (fun k => AVal.int .u8 (fldW e.fs k / 2)) = e.fs.map fun x => AVal.int .u8 (x / 2) := by
        rw [hie]
        refine List.ext_getElem (by simp) fun n h3 h4 => ?_
        simp only [List.length_map, List.length_range] at h3
        simp [h3, fldW]
      have hb2 := b2s_sl (h := h.alloc (.cells 5 (e.fs.map fun x => AVal.int .u8 (x / 2)))) (id := h.next) (n := e.fs.length) (c := some e.fs.length) (ty := 5) (cs := e.fs.map fun x => AVal.int .u8 (x / 2)) (by simp) (by simp) (bytesOf_W _)
      subst hie
      simp [hmap, hb2, hsub, textW]
      exact hall
    have hx : e.fs[i]? = some e.fs[i] := List.getElem?_eq_getElem hlt
    have hxd : fldW e.fs i = e.fs[i] := by simp [fldW, hlt]
    have hw : IntKind.i64.wrap (↑i + 1) = ↑i + 1 := wrap_i64 (by omega) (by omega)
    have hno : ¬ okW e.fs[i] → ¬ ∀ x ∈ e.fs, okW x := fun k k2 => k (k2 _ (List.getElem_mem hlt))
    simp [hlt]
    refine (fn27_ok (R.sub (hsub _)) w i).to ?_
    simp [hg, hx]
    refine (fn35_ok _ _).to ?_
    simp
    refine (fn36_ok _ _).to ?_
    by_cases c1 : e.fs[i] % 2 = 1
    case neg =>
      have := hno (fun k => c1 k.1)
      simp [c1, this, hsub]
    by_cases c2 : e.fs[i] / 2 < 0
    · have := hno (fun k => by have := k.2.1; omega)
      simp [c1, c2, this, hsub]
    by_cases c3 : 256 ≤ e.fs[i] / 2
    · have := hno (fun k => by have := k.2.2; omega)
      simp [c1, c2, c3, this, hsub]
    simp [c1, c2, c3]
    refine (fn35_ok _ _).to ?_
    have hw8 : IntKind.u8.wrap (e.fs[i] / 2) = e.fs[i] / 2 := wrap_u8 (by omega) (by omega)
    have hl1 : i + 1 ≤ i + (e.fs.length - i) := by omega
    have := fill_step' (fun k => AVal.int .u8 (fldW e.fs k / 2)) (.int .u8 0) e.fs.length i hlt
    simp only [hxd] at this
    simp [hlt, hw, hw8, hl1]
    intro _
    refine ⟨fun j hj => ?_, ?_⟩
    · by_cases hji : j = i
      · subst hji; rw [hxd]; exact ⟨c1, by omega, by omega⟩
      · exact I j (by omega)
    · rw [this]
      refine Tidy.mk (by simp) (hk.alloc (by simpa using hc (i + 1))) ?_
      repeat' (first | exact TidyR_none _ _ | (refine TidyR_upd (by simp [AVal.ok, huge, big, ByteArray.size]; try omega) ?_))
end Go.Proofs.Ytbdnopflbnbhnaa.Ab
