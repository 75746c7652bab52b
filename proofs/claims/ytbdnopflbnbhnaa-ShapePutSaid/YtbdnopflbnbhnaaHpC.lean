/- Strings in the program's heaps of words. -/
import Derived.Test.YtbdnopflbnbhnaaHpB
set_option linter.unusedVariables false
set_option linter.unusedSimpArgs false
namespace Go.Proofs.Ytbdnopflbnbhnaa.Ab
open Go

theorem Rep.sub {h h' : AHeap} {p mid : Nat} {size used : Int} {es : List Ent} (R : Rep h p mid size used es) (hs : Sub h h') : Rep h' p mid size used es :=
  ⟨hs.2 _ _ R.top, hs.2 _ _ R.mp, fun e he => by
    have k := R.ents e he
    refine ⟨hs.2 _ _ k.1, ?_⟩
    have k2 := k.2
    cases hx : e.s with
    | none => rw [hx] at k2; exact k2
    | some x => rw [hx] at k2; exact hs.2 _ _ k2⟩
theorem FrameBut.of_sub {p mid : Nat} {h h' h'' : AHeap} (hs : Sub h h') (hf : FrameBut p mid h' h'') : FrameBut p mid h h'' :=
  ⟨Nat.le_trans hs.1 hf.1, fun id o k1 k2 k3 => hf.2 id o k1 k2 (hs.2 id o k3)⟩
def byteI (s : ByteArray) (k : Nat) : Int := (s[k]?.map fun b => (b.toNat : Int)).getD 0
theorem byteI_at {s : ByteArray} {k : Nat} (h : k < s.size) : s[k]? = some s[k] ∧ byteI s k = (s[k].toNat : Int) ∧ 0 ≤ byteI s k ∧ byteI s k < 256 := by
  have h1 : s[k]? = some s[k] := getElem?_pos s k h
  have h2 : byteI s k = (s[k].toNat : Int) := by simp [byteI, h1]
  have := s[k].toNat_lt
  exact ⟨h1, h2, by omega, by omega⟩
def strW (s : ByteArray) : List Int := (List.range s.size).map fun k => 2 * byteI s k + 1
@[simp] theorem strW_length (s : ByteArray) : (strW s).length = s.size := by simp [strW]

/-- The loop of Put fills a slice with the string's words. -/
theorem put_loop {s : ByteArray} {h : AHeap} {p : Nat} {Q : AExit → St → Prop} {ρ : Nat → AVal} (hsz : s.size ≤ 1000000) (hp : p < h.next) (hk : HOk h) (r0 : ρ 0 = .ptr p 0) (r1 : ρ 1 = .str s) (r4 : ρ 4 = .int .i64 0) (r5 : ρ 5 = .bool false) (r6 : ρ 6 = .sl 1 h.next 0 s.size (some s.size)) (r12 : ρ 12 = .int .i64 s.size) (r13 : ρ 13 = .int .i64 0)
    (hq : ∀ σ, σ 0 = .ptr p 0 → σ 6 = .sl 1 h.next 0 s.size (some s.size) → σ 4 = .int .i64 0 → σ 5 = .bool false → Q (.exit 0) ⟨σ, h.alloc (.cells 32 ((strW s).map wV))⟩) :
    Ev Try.prog (.loop (.seq (.ops [⟨(some 14), (.bin .lss (.tmp 13) (.tmp 12)), none⟩])
 (.seq (.cond (.tmp 14)
 .skip
 (.exit 0))
 (.seq (.block 1 (.seq (.ops [⟨(some 15), (.move (.tmp 13)), none⟩,
  ⟨(some 7), (.move (.tmp 15)), none⟩])
 (.ops [⟨(some 16), (.move (.tmp 6)), none⟩,
  ⟨(some 17), (.move (.tmp 7)), none⟩,
  ⟨(some 18), (.move (.tmp 1)), none⟩,
  ⟨(some 19), (.move (.tmp 7)), none⟩,
  ⟨(some 20), (.index (.tmp 18) (.tmp 19)), none⟩,
  ⟨(some 21), (.conv .i64 (.tmp 20)), none⟩,
  ⟨(some 22), (.call 33 [(.tmp 21)]), none⟩,
  ⟨(some 23), (.iaddr 1 (.tmp 16) (.tmp 17)), none⟩,
  ⟨none, (.store 1 (.tmp 23) (.tmp 22)), none⟩])))
 (.ops [⟨(some 24), (.bin .add (.tmp 13) (.con (.int .i64 1))), none⟩,
  ⟨(some 13), (.move (.tmp 24)), none⟩]))))) Q ⟨ρ, h.alloc (.cells 32 (List.replicate s.size (.int .i64 0)))⟩ := by
  have hc : ∀ i, AObj.ok (h.next + 1) (.cells 32 ((List.range i).map (fun k => wV (2 * byteI s k + 1)) ++ List.replicate (s.size - i) (wV 0))) := by
    intro i
    simp only [AObj.ok, oks_iff, List.mem_append, List.mem_map, List.mem_replicate]
    rintro x (⟨k, _, rfl⟩ | ⟨_, rfl⟩) <;> simp [AVal.ok]
  have hbig : s.size ≤ 140737488355328 := by omega
  refine Ev.countH (fun i => upd (upd (upd (upd (upd (upd (upd noEnv 0 (.ptr p 0)) 1 (.str s)) 4 (.int .i64 0)) 5 (.bool false)) 6 (.sl 1 h.next 0 s.size (some s.size))) 12 (.int .i64 s.size)) 13 (.int .i64 i))
    (fun i => h.alloc (.cells 32 ((List.range i).map (fun k => wV (2 * byteI s k + 1)) ++ List.replicate (s.size - i) (wV 0)))) s.size (fun _ => True) (fun _ => rfl) (fun _ => ⟨trivial, ?_⟩) ?_
  · refine Tidy.mk (by simp) (hk.alloc (by simpa using hc 0)) ?_
    repeat' (first | exact TidyR_none _ _ | (refine TidyR_upd (by simp [AVal.ok, huge, big, r0, r1, r4, r5, r6, r12, r13]; try omega) ?_))
  intro i hi _ hok
  by_cases hlt : i < s.size
  case neg =>
    have : i = s.size := by omega
    subst this
    simp
    simpa [strW, Function.comp_def] using hq _ (by simp) (by simp) (by simp) (by simp)
  obtain ⟨b1, b2, b3, b4⟩ := byteI_at hlt
  have hw : IntKind.i64.wrap (↑i + 1) = ↑i + 1 := wrap_i64 (by omega) (by omega)
  have hw2 : IntKind.i64.wrap (s[i].toNat : Int) = byteI s i := by rw [← b2]; exact wrap_i64 (by omega) (by omega)
  have hw3 : IntKind.i64.wrap (2 * byteI s i + 1) = 2 * byteI s i + 1 := wrap_i64 (by omega) (by omega)
  simp [hlt, b1, hw2]
  refine (fn33_ok (byteI s i) _).to ?_
  have hl1 : i + 1 ≤ i + (s.size - i) := by omega
  have := fill_step' (fun k => wV (2 * byteI s k + 1)) (wV 0) s.size i hlt
  simp only [wV] at this
  simp [hlt, hw, hw3, hl1, this]
  intro _
  refine Tidy.mk (by simp) (hk.alloc (by simpa using hc (i + 1))) ?_
  repeat' (first | exact TidyR_none _ _ | (refine TidyR_upd (by simp [AVal.ok, huge, big]; try omega) ?_))
theorem strW_ok (s : ByteArray) (n : Nat) : AVal.oks n ((strW s).map wV) := by rw [oks_iff]; simp [AVal.ok]
theorem fn12_ok {h : AHeap} {p mid : Nat} {size used : Int} {es : List Ent} (R : Rep h p mid size used es) (O : RepOk size used es) {s : ByteArray} (hs : s.size ≤ 1000000) (hfit : 1 + s.size ≤ size - used) :
    ACalls Try.prog 12 [.ptr p 0, .str s] h fun v h' => v = .tup [.int .i64 (2 * used), .bool true] ∧ FrameBut p mid h h' ∧ ∃ b x, Rep h' p mid size (used + 1 + s.size) (es ++ [⟨2 * used, 1, strW s, b, x⟩]) := by
  refine ACalls.facts (isBody_of fn12) fun h1 h2 => acalls_of fn12 (by simp) ?_
  have e1 : (s.size : Int) * 8 ≤ 140737488355328 := by omega
  have e2 : (s.size : Int) ≤ 140737488355328 := by omega
  simp [code12, big, e1, e2]
  refine put_loop hs (h1 _ _ R.top).1 h1 (by simp) (by simp) (by simp) (by simp) (by simp) (by simp) (by simp) fun σ r0 r6 r4 r5 => ?_
  simp [r0, r6, r4, r5]
  have hsub : Sub h (h.alloc (.cells 32 ((strW s).map wV))) := Sub.alloc h1 (Sub.refl _)
  refine (fn34_ok (fs := strW s) (R.sub hsub) O ⟨h.next, some s.size, by simp, by simp⟩ (by simpa using hs) (by decide) (by decide) (by simpa using hfit)).mono fun v h' hn ⟨k1, k2, k3⟩ => ?_
  subst k1
  simp at k3
  simp
  exact ⟨FrameBut.of_sub hsub k2, k3⟩
theorem fn12_no {h : AHeap} {p mid : Nat} {size used : Int} {es : List Ent} (R : Rep h p mid size used es) (O : RepOk size used es) {s : ByteArray} (hs : s.size ≤ 1000000) (hfit : size - used < 1 + s.size) :
    Returns Try.prog 12 [.ptr p 0, .str s] h (.tup [.int .i64 0, .bool false]) h := by
  refine Returns.pure fn12 (by simp) fun h1 h2 => ⟨by simp [AVal.ok, AVal.oks], ?_⟩
  have e1 : (s.size : Int) * 8 ≤ 140737488355328 := by omega
  have e2 : (s.size : Int) ≤ 140737488355328 := by omega
  simp [code12, big, e1, e2]
  refine put_loop hs (h1 _ _ R.top).1 h1 (by simp) (by simp) (by simp) (by simp) (by simp) (by simp) (by simp) fun σ r0 r6 r4 r5 => ?_
  simp [r0, r6, r4, r5]
  have hsub : Sub h (h.alloc (.cells 32 ((strW s).map wV))) := Sub.alloc h1 (Sub.refl _)
  refine (fn34_no (fs := strW s) (R.sub hsub) O ⟨h.next, some s.size, by simp, by simp⟩ (by simpa using hs) (.inr (.inr (by simpa using hfit)))).to ?_
  simpa using hsub
end Go.Proofs.Ytbdnopflbnbhnaa.Ab
