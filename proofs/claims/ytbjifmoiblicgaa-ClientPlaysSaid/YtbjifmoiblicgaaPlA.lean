/- Of every script each answer, what is pending. -/
import Derived.Test.YtbjifmoiblicgaaClD
set_option linter.unusedVariables false
set_option linter.unusedSimpArgs false
namespace Go.Proofs.Ytbjifmoiblicgaa.Ab
open Go

structure Act where
  kind : Int
  call : Cl
  err : Nat
  b : List Nat
@[simp] def actV (a : Act) : AVal := .agg [.int .i64 a.kind, .int .i64 a.call.epoch, .int .i64 a.call.seq, .int .u8 a.err, .vec 1 false (bVs a.b)]
def Act.has (a : Act) : Prop := a.err < 256 ∧ ∀ x ∈ a.b, x < 256
def two (h : AHeap) (s : CS) : AHeap := (h.alloc (cliO 55 s)).alloc (cliO 45 s)
theorem two_ok {h : AHeap} {s : CS} (hk : HOk h) (hs : s.ok) : HOk (two h s) := (hk.alloc (cliO_ok hs)).alloc (cliO_ok hs)
theorem oks_acts (n : Nat) (l : List Act) (h : AVal.oks n (l.map actV)) : ∀ a ∈ l, a.b.length ≤ huge := by
  intro a ha
  have := oks_iff.1 h _ (List.mem_map.2 ⟨a, ha, rfl⟩)
  simp [AVal.ok, AVal.oks] at this
  exact this
theorem rp_lt {s : CS} {b : List Nat} (hl : ∀ x ∈ b, x < 256) : ∀ x ∈ ((takeR s b).getD noRp).bytes, x < 256 := by
  unfold takeR
  cases h : ans b with
  | none => simp [noRp]
  | some r =>
    have := (ans_ok h hl).1
    simp only
    split
    · simpa using this
    · simp [noRp]
theorem fn5_ok (m : Nat) (l : List Act) (h : AHeap) (hm : m < 18446744073709551616) (hl : ∀ a ∈ l, a.has) : Returns Try.prog 5 [.int .u64 m, .vec 5 false (l.map actV)] h (.bool true) h := by
  refine Returns.val fn5 (by simp) fun h1 h2 => ⟨by simp [AVal.ok], ?_⟩
  by_cases c1 : 100 < l.length
  · simp [code5, c1]
  have hlo0 : AVal.oks h.next (l.map actV) := by simp only [AVal.oks, AVal.ok] at h2; exact h2.2.1.2
  have hal := oks_acts _ _ hlo0
  have hlo : ∀ n, AVal.oks n (l.map actV) := fun n => by
    rw [oks_iff]
    intro x hx
    obtain ⟨a, ha, rfl⟩ := List.mem_map.1 hx
    simp [AVal.ok, AVal.oks, hal a ha]
  simp [code5, c1]
  refine (fn7_ok m h).to ?_
  simp
  refine Ev.over (ι := Nat × CS) (fun p => p.1 ≤ l.length ∧ p.2.ok)
    (fun p => ⟨upd (upd (upd (upd noEnv 1 (.vec 5 false (l.map actV))) 5 (.ptr h.next 0)) 6 (.ptr (h.next + 1) 0)) 7 (.int .i64 (p.1 : Int)), two h p.2⟩) (fun p => l.length - p.1) (fun _ _ => ⟨(0, s0 m), ⟨by omega, s0_ok hm⟩, ?_⟩) ?_
  · have hk := two_ok h1 (s0_ok hm)
    refine Tidy.chg (by simp [two]) hk ?_ ?_
    · intro id o ho
      simp only [two, alloc_at, alloc_next] at ho
      split at ho
      · rename_i he
        subst he
        cases ho
        refine ⟨.cells 45 [.int .u64 m, .int .i64 0, .int .i64 0, .bool false, .nils, .int .i64 0], by simp, ?_⟩
        simp [OLe, cliO, s0]
      · split at ho
        · rename_i h3 h4
          cases ho
          exact ⟨_, by simp [h3, h4]; rfl, ole_refl _⟩
        · rename_i h3 h4
          exact ⟨o, by simp [h3, h4]; exact ho, ole_refl _⟩
    · repeat' (first | exact TidyV_none _ _ _ _ | (refine TidyV_upd (by simp [AVal.ok, AVal.oks, huge, big, two, hlo] <;> omega) ?_))
  rintro ⟨i, s⟩ ⟨hi, hs⟩ hsok
  simp only at hi hs
  have hk := two_ok h1 hs
  by_cases hlt : i < l.length
  case neg =>
    simp [hlt]
    refine (fn12_ok _).to ?_
    simp [two]
    repeat' (first | exact Sub.refl _ | refine Sub.put_both ?_ | refine Sub.alloc h1 ?_ | refine Sub.put h1 ?_ (by simp) | refine Sub.drop h1 ?_ (by simp))
  have ha := hl l[i] (List.getElem_mem hlt)
  have hal := hal l[i] (List.getElem_mem hlt)
  have hw1 : IntKind.i64.wrap ((i : Int) + 1) = i + 1 := wrap_i64 (by omega) (by omega)
  simp [hlt]
  generalize l[i] = a at *
  by_cases c2 : 100 < a.b.length
  · simp [c2, two]
    repeat' (first | exact Sub.refl _ | refine Sub.put_both ?_ | refine Sub.alloc h1 ?_ | refine Sub.put h1 ?_ (by simp) | refine Sub.drop h1 ?_ (by simp))
  simp [c2]
  by_cases k1 : a.kind = 1
  case pos =>
    have hSok := callS_ok hs ha.2
    have hrl : ∀ r, callR s a.b = some r → ∀ x ∈ r, x < 256 := fun r hr => (callR_lt ha.2 hr).1
    have hbs : ∀ h, b2sV h (.vec 1 false (bVs ((callR s a.b).getD []))) = some (.str (bytesS ((callR s a.b).getD []))) := fun h => by
      refine (IsB.vec (h := h) false _).b2s ?_
      cases hr : callR s a.b with
      | none => simp
      | some r => exact hrl r hr
    by_cases hb0 : a.b = []
    · simp [k1, two, hb0]
      refine (fn8_ok s [] _ h.next _ (by simp) hs (by simp) (IsB.whole 5 (by simp) (by simp)) (by simp)).to ?_
      simp
      refine (fn14_ok s [] _ (h.next + 1) _ (by simp) hs (by simp) (.vec false []) (by simp)).to ?_
      rw [hb0] at hbs hSok
      simp [hbs]
      refine (fn13_ok (callS s []) h.next _ (by simp)).to ?_
      simp [pendV]
      refine (fn20_ok (callS s []) (h.next + 1) _ (by simp)).to ?_
      simp [pendV, hw1]
      intro _
      refine ⟨i + 1, (callS s []), ⟨by omega, hSok⟩, by omega, ?_⟩
      have hk' := two_ok h1 hSok
      refine Tidy.chg (by simp [two]) hk' (Chg.of_sub ?_) ?_
      · simp only [two] at hk' ⊢
        repeat' (first | exact Sub.refl _ | refine Sub.put_both ?_ | refine Sub.alloc hk' ?_ | refine Sub.put hk' ?_ (by simp) | refine Sub.drop hk' ?_ (by simp))
      · repeat' (first | exact TidyV_none _ _ _ _ | (refine TidyV_upd (by simp [AVal.ok, AVal.oks, huge, big, two, hlo] <;> omega) ?_))
    · have hbl : a.b.length ≤ big := by simp only [big]; omega
      simp [k1, two, hb0, hbl]
      refine (fn8_ok s a.b _ h.next _ (by simp) hs ha.2 (IsB.whole 5 (by simp) (by simp)) (by omega)).to ?_
      simp
      refine (fn14_ok s a.b _ (h.next + 1) _ (by simp) hs ha.2 (.vec false _) (by omega)).to ?_
      simp [hbs]
      refine (fn13_ok (callS s a.b) h.next _ (by simp)).to ?_
      simp [pendV]
      refine (fn20_ok (callS s a.b) (h.next + 1) _ (by simp)).to ?_
      simp [pendV, hw1]
      intro _
      refine ⟨i + 1, (callS s a.b), ⟨by omega, hSok⟩, by omega, ?_⟩
      have hk' := two_ok h1 hSok
      refine Tidy.chg (by simp [two]) hk' (Chg.of_sub ?_) ?_
      · simp only [two] at hk' ⊢
        repeat' (first | exact Sub.refl _ | refine Sub.put_both ?_ | refine Sub.alloc hk' ?_ | refine Sub.put hk' ?_ (by simp) | refine Sub.drop hk' ?_ (by simp))
      · repeat' (first | exact TidyV_none _ _ _ _ | (refine TidyV_upd (by simp [AVal.ok, AVal.oks, huge, big, two, hlo] <;> omega) ?_))
  by_cases k2 : a.kind = 2
  case pos =>
    have hSok := tickS_ok hs
    have hbs : ∀ h, b2sV h (.vec 1 false (bVs ((tickR s).getD []))) = some (.str (bytesS ((tickR s).getD []))) := fun h => by
      refine (IsB.vec (h := h) false _).b2s ?_
      unfold tickR
      split
      · split
        · exact hs.2.1
        · simp
      · simp
    simp [k2, two]
    refine (fn9_ok s h.next _ (by simp) hs).to ?_
    simp
    refine (fn15_ok s (h.next + 1) _ (by simp) hs).to ?_
    simp [hbs]
    refine (fn13_ok (tickS s) h.next _ (by simp)).to ?_
    simp [pendV]
    refine (fn20_ok (tickS s) (h.next + 1) _ (by simp)).to ?_
    simp [pendV, hw1]
    intro _
    refine ⟨i + 1, (tickS s), ⟨by omega, hSok⟩, by omega, ?_⟩
    have hk' := two_ok h1 hSok
    refine Tidy.chg (by simp [two]) hk' (Chg.of_sub ?_) ?_
    · simp only [two] at hk' ⊢
      repeat' (first | exact Sub.refl _ | refine Sub.put_both ?_ | refine Sub.alloc hk' ?_ | refine Sub.put hk' ?_ (by simp) | refine Sub.drop hk' ?_ (by simp))
    · repeat' (first | exact TidyV_none _ _ _ _ | (refine TidyV_upd (by simp [AVal.ok, AVal.oks, huge, big, two, hlo] <;> omega) ?_))
  by_cases k4 : a.kind = 4
  case pos =>
    have hSok := restartS_ok hs
    simp [k4, two]
    refine (fn16_ok s h.next _ (by simp) hs).to ?_
    simp
    refine (fn17_ok s (h.next + 1) _ (by simp) hs).to ?_
    simp
    refine (fn13_ok (restartS s) h.next _ (by simp)).to ?_
    simp [pendV]
    refine (fn20_ok (restartS s) (h.next + 1) _ (by simp)).to ?_
    simp [pendV, hw1]
    intro _
    refine ⟨i + 1, (restartS s), ⟨by omega, hSok⟩, by omega, ?_⟩
    have hk' := two_ok h1 hSok
    refine Tidy.chg (by simp [two]) hk' (Chg.of_sub ?_) ?_
    · simp only [two] at hk' ⊢
      repeat' (first | exact Sub.refl _ | refine Sub.put_both ?_ | refine Sub.alloc hk' ?_ | refine Sub.put hk' ?_ (by simp) | refine Sub.drop hk' ?_ (by simp))
    · repeat' (first | exact TidyV_none _ _ _ _ | (refine TidyV_upd (by simp [AVal.ok, AVal.oks, huge, big, two, hlo] <;> omega) ?_))
  by_cases k3 : a.kind = 3
  case neg =>
    by_cases hb0 : a.b = []
    · simp [k1, k2, k3, k4, two, hb0]
      have hrp := rp_lt (s := s) (b := []) (by simp)
      have hSok := takeS_ok (b := []) hs
      refine (fn11_ok s [] _ h.next _ (by simp) hs (by simp) (IsB.whole 5 (by simp) (by simp))).to ?_
      simp [ansV]
      refine (fn18_ok s [] false (h.next + 1) _ (by simp) hs (by simp)).to ?_
      simp [ansV]
      refine (fn19_ok ((takeR s []).getD noRp) ((takeR s []).getD noRp) _ hrp hrp).to ?_
      simp
      refine (fn13_ok (takeS s []) h.next _ (by simp)).to ?_
      simp [pendV]
      refine (fn20_ok (takeS s []) (h.next + 1) _ (by simp)).to ?_
      simp [pendV, hw1]
      intro _
      refine ⟨i + 1, (takeS s []), ⟨by omega, hSok⟩, by omega, ?_⟩
      have hk' := two_ok h1 hSok
      refine Tidy.chg (by simp [two]) hk' (Chg.of_sub ?_) ?_
      · simp only [two] at hk' ⊢
        repeat' (first | exact Sub.refl _ | refine Sub.put_both ?_ | refine Sub.alloc hk' ?_ | refine Sub.put hk' ?_ (by simp) | refine Sub.drop hk' ?_ (by simp))
      · repeat' (first | exact TidyV_none _ _ _ _ | (refine TidyV_upd (by simp [AVal.ok, AVal.oks, huge, big, two, hlo] <;> omega) ?_))
    · have hbl : a.b.length ≤ big := by simp only [big]; omega
      simp [k1, k2, k3, k4, two, hb0, hbl]
      have hrp := rp_lt (s := s) ha.2
      have hSok := takeS_ok (b := a.b) hs
      refine (fn11_ok s a.b _ h.next _ (by simp) hs ha.2 (IsB.whole 5 (by simp) (by simp))).to ?_
      simp [ansV]
      refine (fn18_ok s a.b false (h.next + 1) _ (by simp) hs ha.2).to ?_
      simp [ansV]
      refine (fn19_ok ((takeR s a.b).getD noRp) ((takeR s a.b).getD noRp) _ hrp hrp).to ?_
      simp
      refine (fn13_ok (takeS s a.b) h.next _ (by simp)).to ?_
      simp [pendV]
      refine (fn20_ok (takeS s a.b) (h.next + 1) _ (by simp)).to ?_
      simp [pendV, hw1]
      intro _
      refine ⟨i + 1, (takeS s a.b), ⟨by omega, hSok⟩, by omega, ?_⟩
      have hk' := two_ok h1 hSok
      refine Tidy.chg (by simp [two]) hk' (Chg.of_sub ?_) ?_
      · simp only [two] at hk' ⊢
        repeat' (first | exact Sub.refl _ | refine Sub.put_both ?_ | refine Sub.alloc hk' ?_ | refine Sub.put hk' ?_ (by simp) | refine Sub.drop hk' ?_ (by simp))
      · repeat' (first | exact TidyV_none _ _ _ _ | (refine TidyV_upd (by simp [AVal.ok, AVal.oks, huge, big, two, hlo] <;> omega) ?_))
  have n1 : ¬ (3 : Int) = 1 := by decide
  obtain ⟨E, hE, hE2⟩ : ∃ E : Nat, a.call.epoch % 128 % 256 = E ∧ E < 128 := ⟨(a.call.epoch % 128).toNat, by omega, by omega⟩
  obtain ⟨S, hS, hS2⟩ : ∃ S : Nat, a.call.seq % 128 % 256 = S ∧ S < 128 := ⟨(a.call.seq % 128).toNat, by omega, by omega⟩
  have hb3 : ∀ x ∈ [E, S, a.err % 16] ++ a.b, x < 256 := by
    intro x hx
    rcases List.mem_append.1 hx with hx | hx
    · simp at hx; omega
    · exact ha.2 x hx
  obtain ⟨w, hw⟩ := putF_some (k := 2) (l := [E, S, a.err % 16] ++ a.b) (by simp; omega)
  have hwl := putF_lt (k := 2) (by decide) hb3 hw
  have hwlen : w.length ≤ 4015 := by have := putF_len 2 ([E, S, a.err % 16] ++ a.b); rw [hw] at this; simpa using this
  have hwb : w.length ≤ big := by simp only [big]; omega
  have hwz := putF_size 2 ([E, S, a.err % 16] ++ a.b) (by simp; omega)
  rw [hw] at hwz
  have hw0 : w ≠ [] := by intro h0; rw [h0] at hwz; simp at hwz
  by_cases hb0 : a.b = []
  · simp [k3, two, hb0, hE, hS]
    refine (fn10_ok 2 ([E, S, a.err % 16] ++ a.b) _ _ (by decide) hb3 (IsB.whole 5 (by simp [hb0]) (by simp [hb0]))).to ?_
    rw [hw]
    simp [hw0, hwb]
    have hrp := rp_lt (s := s) hwl
    have hSok := takeS_ok (b := w) hs
    refine (fn11_ok s w _ h.next _ (by simp) hs hwl (IsB.whole 5 (by simp) (by simp))).to ?_
    simp [ansV]
    refine (fn18_ok s w false (h.next + 1) _ (by simp) hs hwl).to ?_
    simp [ansV]
    refine (fn19_ok ((takeR s w).getD noRp) ((takeR s w).getD noRp) _ hrp hrp).to ?_
    simp
    refine (fn13_ok (takeS s w) h.next _ (by simp)).to ?_
    simp [pendV]
    refine (fn20_ok (takeS s w) (h.next + 1) _ (by simp)).to ?_
    simp [pendV, hw1]
    intro _
    refine ⟨i + 1, (takeS s w), ⟨by omega, hSok⟩, by omega, ?_⟩
    have hk' := two_ok h1 hSok
    refine Tidy.chg (by simp [two]) hk' (Chg.of_sub ?_) ?_
    · simp only [two] at hk' ⊢
      repeat' (first | exact Sub.refl _ | refine Sub.put_both ?_ | refine Sub.alloc hk' ?_ | refine Sub.put hk' ?_ (by simp) | refine Sub.drop hk' ?_ (by simp))
    · repeat' (first | exact TidyV_none _ _ _ _ | (refine TidyV_upd (by simp [AVal.ok, AVal.oks, huge, big, two, hlo] <;> omega) ?_))
  · have hbl : a.b.length + 3 ≤ big := by simp only [big]; omega
    have hbl2 : 3 + a.b.length ≤ big := by simp only [big]; omega
    have hn3 : ¬ (3 + a.b.length ≤ 3) := by have := List.length_pos_iff.2 hb0; omega
    simp [k3, two, hb0, hE, hS, hbl, hbl2, hn3]
    refine (fn10_ok 2 ([E, S, a.err % 16] ++ a.b) _ _ (by decide) hb3 (IsB.whole 5 (by simp) (by simp <;> omega))).to ?_
    rw [hw]
    simp [hw0, hwb]
    have hrp := rp_lt (s := s) hwl
    have hSok := takeS_ok (b := w) hs
    refine (fn11_ok s w _ h.next _ (by simp) hs hwl (IsB.whole 5 (by simp) (by simp))).to ?_
    simp [ansV]
    refine (fn18_ok s w false (h.next + 1) _ (by simp) hs hwl).to ?_
    simp [ansV]
    refine (fn19_ok ((takeR s w).getD noRp) ((takeR s w).getD noRp) _ hrp hrp).to ?_
    simp
    refine (fn13_ok (takeS s w) h.next _ (by simp)).to ?_
    simp [pendV]
    refine (fn20_ok (takeS s w) (h.next + 1) _ (by simp)).to ?_
    simp [pendV, hw1]
    intro _
    refine ⟨i + 1, (takeS s w), ⟨by omega, hSok⟩, by omega, ?_⟩
    have hk' := two_ok h1 hSok
    refine Tidy.chg (by simp [two]) hk' (Chg.of_sub ?_) ?_
    · simp only [two] at hk' ⊢
      repeat' (first | exact Sub.refl _ | refine Sub.put_both ?_ | refine Sub.alloc hk' ?_ | refine Sub.put hk' ?_ (by simp) | refine Sub.drop hk' ?_ (by simp))
    · repeat' (first | exact TidyV_none _ _ _ _ | (refine TidyV_upd (by simp [AVal.ok, AVal.oks, huge, big, two, hlo] <;> omega) ?_))
end Go.Proofs.Ytbjifmoiblicgaa.Ab
