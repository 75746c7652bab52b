/- A statement whose order is open: one order stands for all. -/
import Derived.Test.YtcjlgmknclifmaaDoorAb12
set_option linter.unusedVariables false
set_option linter.unusedSimpArgs false
namespace Go.Proofs.YtcjlgmknclifmaaDoor.Ab
open Go

theorem ev_congr {ρ ρ' : Nat → AVal} {l : List Opd} (h : ∀ t ∈ tmpsOf l, ρ t = ρ' t) {x : Opd} (hx : x ∈ l) : ev ρ x = ev ρ' x := by
  cases x with
  | con v => rfl
  | tmp t => exact h t (List.mem_filterMap.2 ⟨.tmp t, hx, rfl⟩)
theorem map_ev_congr {ρ ρ' : Nat → AVal} {l : List Opd} (h : ∀ t ∈ tmpsOf l, ρ t = ρ' t) {l' : List Opd} (hl : ∀ x ∈ l', x ∈ l) : l'.map (ev ρ) = l'.map (ev ρ') :=
  List.map_congr_left fun x hx => ev_congr h (hl x hx)
theorem opt_ev_congr {ρ ρ' : Nat → AVal} {l : List Opd} (h : ∀ t ∈ tmpsOf l, ρ t = ρ' t) {o : Option Opd} (hl : ∀ x ∈ o.toList, x ∈ l) : o.map (ev ρ) = o.map (ev ρ') := by
  cases o with
  | none => rfl
  | some x => simp only [Option.map_some]; rw [ev_congr h (hl x (by simp))]
theorem parts_ev_congr {ρ ρ' : Nat → AVal} {ps : List (Nat × Nat × Opd)} (h : ∀ t ∈ tmpsOf (ps.map fun p => p.2.2), ρ t = ρ' t) : (ps.map fun p => (p.1, p.2.1, ev ρ p.2.2)) = (ps.map fun p => (p.1, p.2.1, ev ρ' p.2.2)) :=
  List.map_congr_left fun p hp => by rw [ev_congr h (List.mem_map.2 ⟨p, hp, rfl⟩)]

theorem aval_congr {op : AOp} {ρ ρ' : Nat → AVal} {h : AHeap} (hc : ∀ t ∈ tmpsOf op.opds, ρ t = ρ' t) : aval op ρ h = aval op ρ' h ∧ rid op ρ = rid op ρ' ∧ achg op ρ h = achg op ρ' h := by
  cases op <;> simp only [AOp.opds] at hc <;> simp only [aval, rid, achg]
  case mkfunc f l => rw [map_ev_congr hc (fun x hx => hx)]; simp
  case minmax mx l => rw [map_ev_congr hc (fun x hx => hx)]; simp
  case slice e x lo hi mx =>
    rw [ev_congr hc (x := x) (by simp), opt_ev_congr hc (o := lo) (fun x hx => by simp at hx ⊢; simp [hx]), opt_ev_congr hc (o := hi) (fun x hx => by simp at hx ⊢; simp [hx]), opt_ev_congr hc (o := mx) (fun x hx => by simp at hx ⊢; simp [hx])]
    simp
  case sliceS x lo hi =>
    rw [ev_congr hc (x := x) (by simp), opt_ev_congr hc (o := lo) (fun x hx => by simp at hx ⊢; simp [hx]), opt_ev_congr hc (o := hi) (fun x hx => by simp at hx ⊢; simp [hx])]
    simp
  case build z ps => rw [parts_ev_congr hc]; simp
  case bslice ty e len z ps => rw [parts_ev_congr hc]; simp
  case call f l => simp
  case callv x l => simp
  case alloc ty z => simp
  case mkmap => simp
  case bad => simp
  case move x => rw [ev_congr hc (x := x) (by simp)]; simp
  case load n x => rw [ev_congr hc (x := x) (by simp)]; simp
  case nilc x => rw [ev_congr hc (x := x) (by simp)]; simp
  case un op x => rw [ev_congr hc (x := x) (by simp)]; simp
  case conv k x => rw [ev_congr hc (x := x) (by simp)]; simp
  case convs x => rw [ev_congr hc (x := x) (by simp)]; simp
  case b2s x => rw [ev_congr hc (x := x) (by simp)]; simp
  case mkiface t x => rw [ev_congr hc (x := x) (by simp)]; simp
  case asrt t ok z x => rw [ev_congr hc (x := x) (by simp)]; simp
  case field o n x => rw [ev_congr hc (x := x) (by simp)]; simp
  case faddr o n x => rw [ev_congr hc (x := x) (by simp)]; simp
  case extract i x => rw [ev_congr hc (x := x) (by simp)]; simp
  case len k x => rw [ev_congr hc (x := x) (by simp)]; simp
  case box t n x => rw [ev_congr hc (x := x) (by simp)]; simp
  case s2b t x => rw [ev_congr hc (x := x) (by simp)]; simp
  case mark x => rw [ev_congr hc (x := x) (by simp)]; simp
  case pick c a b => rw [ev_congr hc (x := c) (by simp), ev_congr hc (x := a) (by simp), ev_congr hc (x := b) (by simp)]; simp
  case mapupd st a b c => rw [ev_congr hc (x := c) (by simp), ev_congr hc (x := a) (by simp), ev_congr hc (x := b) (by simp)]; simp
  all_goals
    rename_i x y
    rw [ev_congr hc (x := x) (by simp), ev_congr hc (x := y) (by simp)]; simp

/-- What an operation does to the heap. -/
def Moves (op : AOp) (h h' : AHeap) : Prop := (op.stay = true → h' = h) ∧ (op.makes = true → ∃ o, h' = h.alloc o)
theorem aexec_congr' {P : Program} {op : AOp} {d : Option Nat} {K : St → Prop} {ρ ρ' : Nat → AVal} {h : AHeap} (hc : ∀ t ∈ tmpsOf op.opds, ρ t = ρ' t) (hk : aexec P op d K ⟨ρ, h⟩) :
    aexec P op d (fun s' => ∃ v, s'.ρ = putd ρ' d v ∧ Moves op h s'.h ∧ K ⟨putd ρ d v, s'.h⟩) ⟨ρ', h⟩ := by
  have hh := aval_congr (h := h) hc
  have mk : ∀ {c : Prop} {v : AVal} {h' : AHeap}, achg op ρ' h = some (c, v, h') → op.stay = false → Moves op h h' := by
    intro c v h' he hs
    refine ⟨fun e => (by rw [hs] at e; cases e), fun hm => ?_⟩
    cases op <;> simp only [AOp.makes, reduceCtorEq, Bool.false_eq_true] at hm <;> simp only [achg] at he
    case alloc => simp only [Option.some.injEq, Prod.mk.injEq] at he; exact ⟨_, he.2.2.symm⟩
    case box => split at he <;> simp only [Option.some.injEq, Prod.mk.injEq, reduceCtorEq] at he; exact ⟨_, he.2.2.symm⟩
    case bslice => split at he <;> simp only [Option.some.injEq, Prod.mk.injEq, reduceCtorEq] at he; exact ⟨_, he.2.2.symm⟩
    case mkslice => split at he <;> simp only [Option.some.injEq, Prod.mk.injEq, reduceCtorEq] at he; exact ⟨_, he.2.2.symm⟩
    case mkmap => simp only [Option.some.injEq, Prod.mk.injEq] at he; exact ⟨_, he.2.2.symm⟩
    case s2b => split at he <;> simp only [Option.some.injEq, Prod.mk.injEq, reduceCtorEq] at he; exact ⟨_, he.2.2.symm⟩
  have mv : ∀ h', (op.stay = false ∧ op.makes = false) → Moves op h h' := fun h' hs => ⟨fun e => (by rw [hs.1] at e; cases e), fun e => (by rw [hs.2] at e; cases e)⟩
  have ms : op.stay = true → Moves op h h := fun hs => ⟨fun _ => rfl, fun hm => (by cases op <;> simp [AOp.stay, AOp.makes] at hs hm)⟩
  cases op <;> simp only [aexec, AOp.stay, if_true, Bool.false_eq_true, if_false, hh.1, hh.2.2] at hk ⊢
  case call f l =>
    simp only [AOp.opds] at hc
    rw [← map_ev_congr hc (fun x hx => hx)]
    exact ⟨hk.1, fun m F w us r1 r2 => (hk.2 m F w us r1 r2).mono fun e w' hp => by
      cases e <;> first | exact hp.elim | skip
      obtain ⟨v, h', m', F', q1, q2, q3⟩ := hp
      exact ⟨v, h', m', F', q1, ⟨v, rfl, mv _ ⟨rfl, rfl⟩, q2⟩, q3⟩⟩
  case callv x l =>
    simp only [AOp.opds] at hc
    rw [← map_ev_congr hc (l' := l) (fun x hx => by simp [hx]), ← ev_congr hc (x := x) (by simp)]
    split at hk
    · exact ⟨hk.1, fun m F w us r1 r2 => (hk.2 m F w us r1 r2).mono fun e w' hp => by
        cases e <;> first | exact hp.elim | skip
        obtain ⟨v, h', m', F', q1, q2, q3⟩ := hp
        exact ⟨v, h', m', F', q1, ⟨v, rfl, mv _ ⟨rfl, rfl⟩, q2⟩, q3⟩⟩
    · exact hk
  all_goals
    split at hk
    · first
        | exact ⟨_, rfl, ms rfl, hk⟩
        | exact ⟨hk.1, _, rfl, mk (by assumption) rfl, hk.2⟩
    · exact hk.elim

def AOper.guardOk (o : AOper) (ρ : Nat → AVal) : Option Bool :=
  match o.guard with
  | none => some true
  | some (g, want) => guardV (ρ g) want

theorem aop1_eq {P : Program} {o : AOper} {K : St → Prop} {s : St} : aop1 P o K s ↔ ∃ b, o.guardOk s.ρ = some b ∧ (b = true → aexec P o.op o.dst K s) ∧ (b = false → K ⟨putd s.ρ o.dst (.tup []), s.h⟩) := by
  obtain ⟨dst, op, guard⟩ := o
  cases guard with
  | none => simp [aop1, AOper.guardOk]
  | some gw =>
    obtain ⟨g, want⟩ := gw
    cases hg : guardV (s.ρ g) want
    case some b =>
      simp only [aop1, AOper.guardOk, hg, Option.some.injEq, Br]
      constructor
      · intro h; exact ⟨_, rfl, h.1, h.2⟩
      · rintro ⟨b', rfl, h⟩; exact h
    all_goals simp [aop1, AOper.guardOk, hg]

theorem guard_congr {o : AOper} {ρ ρ' : Nat → AVal} (h : ∀ t ∈ o.looks, ρ t = ρ' t) : o.guardOk ρ = o.guardOk ρ' := by
  unfold AOper.guardOk
  cases hg : o.guard with
  | none => rfl
  | some gw =>
    obtain ⟨g, want⟩ := gw
    simp only
    rw [h g (by simp [AOper.looks, hg])]

theorem putd_comm {ρ : Nat → AVal} {x y : Option Nat} {u v : AVal} (h : ∀ d, x = some d → y ≠ some d) : putd (putd ρ x u) y v = putd (putd ρ y v) x u := by
  cases x with
  | none => rfl
  | some d =>
    cases y with
    | none => rfl
    | some e =>
      have hne : d ≠ e := fun he => h d rfl (by rw [he])
      funext t
      simp only [putd, upd]
      by_cases h1 : t = d <;> by_cases h2 : t = e <;> simp [h1, h2, hne] <;> (intro he; exact absurd he (by first | exact hne | exact Ne.symm hne))

theorem putd_looks {ρ : Nat → AVal} {x : Option Nat} {v : AVal} {l : List Nat} (h : ∀ d, x = some d → d ∉ l) : ∀ t ∈ l, putd ρ x v t = ρ t := by
  intro t ht
  cases x with
  | none => rfl
  | some d =>
    simp only [putd, upd]
    rw [if_neg (fun e => h d rfl (by rw [← e]; exact ht))]

theorem apart_spec {x y : AOper} (h : x.apart y = true) : (∀ d, x.dst = some d → d ∉ y.looks) ∧ (∀ d, x.dst = some d → y.dst ≠ some d) ∧ (∀ d, y.dst = some d → d ∉ x.looks) := by
  refine ⟨fun d hd => ?_, fun d hd => ?_, fun d hd => ?_⟩ <;> simp [AOper.apart, hd] at h
  · exact h.1.1
  · exact h.1.2
  · exact h.2

theorem looks_opds {o : AOper} : ∀ t ∈ tmpsOf o.op.opds, t ∈ o.looks := fun t ht => by simp [AOper.looks, ht]

/-- One operation apart from another: the other's value may lie there already. -/
theorem aop1_put {P : Program} {oi oj : AOper} (hap : oi.apart oj = true) {K : St → Prop} {ρ : Nat → AVal} {h : AHeap} {v : AVal} (hk : aop1 P oj K ⟨putd ρ oi.dst v, h⟩) :
    aop1 P oj (fun s' => (∃ u, s'.ρ = putd ρ oj.dst u) ∧ ((Moves oj.op h s'.h) ∨ s'.h = h) ∧ K ⟨putd s'.ρ oi.dst v, s'.h⟩) ⟨ρ, h⟩ := by
  obtain ⟨h1, h2, h3⟩ := apart_spec hap
  rw [aop1_eq] at hk ⊢
  obtain ⟨b, g1, g2, g3⟩ := hk
  have hl : ∀ t ∈ oj.looks, putd ρ oi.dst v t = ρ t := putd_looks h1
  refine ⟨b, by rw [← guard_congr hl]; exact g1, fun hb => ?_, fun hb => ?_⟩
  · have := aexec_congr' (ρ' := ρ) (fun t ht => hl t (looks_opds t ht)) (g2 hb)
    have mono : ∀ {K1 K2 : St → Prop}, (∀ s, K1 s → K2 s) → aexec P oj.op oj.dst K1 ⟨ρ, h⟩ → aexec P oj.op oj.dst K2 ⟨ρ, h⟩ := by
      intro K1 K2 h12 hk
      have := aexec_congr' (ρ' := ρ) (fun t _ => rfl) hk
      revert hk
      generalize oj.op = op
      intro hk
      cases op <;> simp only [aexec, AOp.stay, if_true, Bool.false_eq_true, if_false] at hk ⊢
      case call f l =>
        exact ⟨hk.1, fun m F w us r1 r2 => (hk.2 m F w us r1 r2).mono fun e w' hp => by
          cases e <;> first | exact hp.elim | skip
          obtain ⟨v, h', m', F', q1, q2, q3⟩ := hp
          exact ⟨v, h', m', F', q1, h12 _ q2, q3⟩⟩
      case callv x l =>
        split at hk
        · exact ⟨hk.1, fun m F w us r1 r2 => (hk.2 m F w us r1 r2).mono fun e w' hp => by
            cases e <;> first | exact hp.elim | skip
            obtain ⟨v, h', m', F', q1, q2, q3⟩ := hp
            exact ⟨v, h', m', F', q1, h12 _ q2, q3⟩⟩
        · exact hk
      all_goals
        split at hk
        · first
            | exact h12 _ hk
            | exact ⟨hk.1, h12 _ hk.2⟩
        · exact hk.elim
    refine mono (fun s hs => ?_) this
    obtain ⟨u, e1, e2, e3⟩ := hs
    refine ⟨⟨u, e1⟩, .inl e2, ?_⟩
    rw [e1, putd_comm (fun d hd hd' => h2 d hd' hd)]
    exact e3
  · refine ⟨⟨.tup [], rfl⟩, .inr rfl, ?_⟩
    rw [putd_comm (fun d hd hd' => h2 d hd' hd)]
    exact g3 hb

/-! ### whatever order is picked -/
def WF (h : AHeap) : Prop := ∀ id o, h.f id = some o → id < h.next
theorem Rel.wf {h : AHeap} {m : Map} {F : Nat → Prop} {w : World} (r : Rel h m F w) : WF h := fun _ _ hi => r.lt_next hi

section
variable (P : Program) (l : List AOper) (ops : Array Oper)
def aopI (i : Nat) (K : St → Prop) (s : St) : Prop :=
  match l[i]? with
  | some o => aop1 P o K s
  | none => K s
def nsI (i : Nat) : Bool :=
  match l[i]? with
  | some o => !o.op.stay && needS l ops i o
  | none => false
def TAny : Nat → Array Bool → List (Nat × AObj) → (St → Prop) → St → Prop
  | 0, listed, _, K, s => Region.ready .any ops listed = [] ∧ K s
  | fuel + 1, listed, R, K, s => WF s.h → (Region.ready .any ops listed = [] → K s) ∧
      ∀ i ∈ Region.ready .any ops listed, aopI P l i (fun s' => (nsI l ops i = true → Held R s'.h) ∧ TAny fuel (listed.setIfInBounds i true) R K s') s
end

theorem aop1_mono {P : Program} {o : AOper} {K1 K2 : St → Prop} (h12 : ∀ s, K1 s → K2 s) {s : St} (hk : aop1 P o K1 s) : aop1 P o K2 s := by
  have := aop1_put (oi := ⟨none, .mkmap, none⟩) (oj := o) (v := .junk) (by simp [AOper.apart]; cases o.dst <;> simp [AOper.looks, tmpsOf, AOp.opds]) (P := P) (K := K1) (ρ := s.ρ) (h := s.h) (by simpa [putd] using hk)
  rw [aop1_eq] at hk ⊢
  obtain ⟨b, g1, g2, g3⟩ := hk
  refine ⟨b, g1, fun hb => ?_, fun hb => h12 _ (g3 hb)⟩
  have hk := g2 hb
  revert hk
  generalize o.op = op
  intro hk
  cases op <;> simp only [aexec, AOp.stay, if_true, Bool.false_eq_true, if_false] at hk ⊢
  case call f l =>
    exact ⟨hk.1, fun m F w us r1 r2 => (hk.2 m F w us r1 r2).mono fun e w' hp => by
      cases e <;> first | exact hp.elim | skip
      obtain ⟨v, h', m', F', q1, q2, q3⟩ := hp
      exact ⟨v, h', m', F', q1, h12 _ q2, q3⟩⟩
  case callv x l =>
    split at hk
    · exact ⟨hk.1, fun m F w us r1 r2 => (hk.2 m F w us r1 r2).mono fun e w' hp => by
        cases e <;> first | exact hp.elim | skip
        obtain ⟨v, h', m', F', q1, q2, q3⟩ := hp
        exact ⟨v, h', m', F', q1, h12 _ q2, q3⟩⟩
    · exact hk
  all_goals
    split at hk
    · first
        | exact h12 _ hk
        | exact ⟨hk.1, h12 _ hk.2⟩
    · exact hk.elim
theorem aopI_mono {P : Program} {l : List AOper} {i : Nat} {K1 K2 : St → Prop} (h12 : ∀ s, K1 s → K2 s) {s : St} (hk : aopI P l i K1 s) : aopI P l i K2 s := by
  unfold aopI at *
  split
  · rename_i o ho; rw [ho] at hk; exact aop1_mono h12 hk
  · rename_i ho; rw [ho] at hk; exact h12 _ hk

/-- The value of an operation that leaves memory alone (or is passed over). -/
def stayVal (o : AOper) (s : St) : Option AVal :=
  match o.guardOk s.ρ with
  | some true => aval o.op s.ρ s.h
  | some false => some (.tup [])
  | none => none
def logOf (o : AOper) (R : List (Nat × AObj)) (s : St) : List (Nat × AObj) :=
  match o.guardOk s.ρ with
  | some true => logR R s.h (rid o.op s.ρ)
  | _ => R

theorem stayVal_run {P : Program} {o : AOper} {K : St → Prop} {s : St} {v : AVal} (hs : o.op.stay = true) (hv : stayVal o s = some v) (hk : K ⟨putd s.ρ o.dst v, s.h⟩) : aop1 P o K s := by
  rw [aop1_eq]
  unfold stayVal at hv
  split at hv
  · rename_i hg
    refine ⟨true, hg, fun _ => ?_, fun h => by cases h⟩
    have key : ∀ op : AOp, op.stay = true → aval op s.ρ s.h = some v → aexec P op o.dst K s := by
      intro op hs hv
      cases op <;> simp only [AOp.stay, Bool.false_eq_true, reduceCtorEq] at hs <;> simp only [aexec, AOp.stay, if_true, hv] <;> exact hk
    exact key _ hs hv
  · rename_i hg
    cases hv
    exact ⟨false, hg, fun h => (by cases h), fun _ => hk⟩
  · cases hv

theorem slCells_heap {h h' : AHeap} {x : AVal} {cs : List AVal} (hv : slCells h x = some cs) (hr : ∀ e id o n c, x = .sl e id o n c → ∀ o, h.f id = some o → h'.f id = some o) : slCells h' x = some cs := by
  cases x <;> simp only [slCells, reduceCtorEq] at hv ⊢ <;> try exact hv
  rename_i e id off n c
  cases hf : h.f id with
  | none => rw [hf] at hv; simp at hv
  | some o => rw [hf] at hv; rw [hr e id off n c rfl o hf]; exact hv

theorem aval_heap {op : AOp} {ρ : Nat → AVal} {h h' : AHeap} {v : AVal} (hv : aval op ρ h = some v) (hr : ∀ id, rid op ρ = some id → ∀ o, h.f id = some o → h'.f id = some o) : aval op ρ h' = some v := by
  cases op <;> simp only [aval, reduceCtorEq] at hv ⊢ <;> try exact hv
  case load n x =>
    unfold loadV at hv ⊢
    cases he : ev ρ x <;> rw [he] at hv <;> simp only [reduceCtorEq] at hv ⊢ <;> try exact hv
    rename_i id off
    cases hf : h.f id with
    | none => rw [hf] at hv; simp at hv
    | some o => rw [hf] at hv; rw [hr id (by simp [rid, he]) o hf]; exact hv
  case b2s x =>
    unfold b2sV at hv ⊢
    cases hc : slCells h (ev ρ x) with
    | none => rw [hc] at hv; simp at hv
    | some cs =>
      rw [hc] at hv
      rw [slCells_heap hc (fun e id o n c he => hr id (by simp [rid, he]))]
      exact hv
  case len k x =>
    unfold lenV at hv ⊢
    cases k <;> cases he : ev ρ x <;> rw [he] at hv <;> simp only [reduceCtorEq] at hv ⊢ <;> try exact hv
    rename_i id
    cases hf : h.f id with
    | none => rw [hf] at hv; simp at hv
    | some o => rw [hf] at hv; rw [hr id (by simp [rid, he]) o hf]; exact hv
  case lookup st ok z x k =>
    unfold lookupV at hv ⊢
    cases he : ev ρ x <;> rw [he] at hv <;> simp only [reduceCtorEq] at hv ⊢ <;> try exact hv
    rename_i id
    cases hf : h.f id with
    | none => rw [hf] at hv; simp at hv
    | some o => rw [hf] at hv; rw [hr id (by simp [rid, he]) o hf]; exact hv
  all_goals (simp [aval] at hv)

theorem rid_reads {op : AOp} {ρ : Nat → AVal} {id : Nat} (h : rid op ρ = some id) : op.reads = true := by
  cases op <;> simp only [rid, reduceCtorEq] at h <;> rfl

section
variable {P : Program} {l : List AOper} {ops : Array Oper}

theorem TAny_less : ∀ (fuel : Nat) (listed : Array Bool) (R R' : List (Nat × AObj)) (K : St → Prop) (s : St), (∀ p ∈ R, p ∈ R') → TAny P l ops fuel listed R' K s → TAny P l ops fuel listed R K s
  | 0, _, _, _, _, _, _, h => h
  | fuel + 1, listed, R, R', K, s, hs, h => fun wf => ⟨(h wf).1, fun i hi => aopI_mono (fun s' h' => ⟨fun hn p hp => h'.1 hn p (hs p hp), TAny_less fuel _ R R' K s' hs h'.2⟩) ((h wf).2 i hi)⟩

theorem stayVal_keep {oi oj : AOper} (hap : oi.apart oj = true) {ρ : Nat → AVal} {h h' : AHeap} {u v : AVal} (hv : stayVal oi ⟨ρ, h⟩ = some v) (hr : ∀ id, oi.guardOk ρ = some true → rid oi.op ρ = some id → ∀ o, h.f id = some o → h'.f id = some o) :
    stayVal oi ⟨putd ρ oj.dst u, h'⟩ = some v ∧ oi.guardOk (putd ρ oj.dst u) = oi.guardOk ρ ∧ rid oi.op (putd ρ oj.dst u) = rid oi.op ρ := by
  obtain ⟨_, _, h3⟩ := apart_spec hap
  have hl : ∀ t ∈ oi.looks, putd ρ oj.dst u t = ρ t := putd_looks h3
  have hg := guard_congr (o := oi) hl
  have hc := aval_congr (op := oi.op) (h := h') (fun t ht => hl t (looks_opds t ht))
  refine ⟨?_, hg, hc.2.1⟩
  unfold stayVal at hv ⊢
  simp only at hv ⊢
  rw [hg]
  split at hv
  · rename_i hgt
    rw [hc.1]
    exact aval_heap hv (fun id hi o ho => hr id hgt hi o ho)
  · exact hv
  · cases hv

/-- An operation that leaves memory alone may be taken first. -/
theorem TAny_first {i : Nat} {oi : AOper} {v : AVal} (hi : l[i]? = some oi) (hst : oi.op.stay = true) (hlo : l.length = ops.size) :
    ∀ (fuel : Nat) (listed : Array Bool) (R : List (Nat × AObj)) (K : St → Prop) (s : St),
      (∀ (j : Nat) (oj : AOper) (cj : Oper), l[j]? = some oj → ops[j]? = some cj → j ≠ i → listed.getD j true = false → (∀ e ∈ cj.after, Region.binds .any e = true → e.on ≠ i) → oi.apart oj = true) →
      i ∈ Region.ready .any ops listed → stayVal oi s = some v →
      TAny P l ops fuel (listed.setIfInBounds i true) (logOf oi R s) K ⟨putd s.ρ oi.dst v, s.h⟩ → TAny P l ops (fuel + 1) listed R K s := by
  intro fuel
  induction fuel with
  | zero =>
    intro listed R K s _ hr hv H
    refine fun wf => ⟨fun h => (by rw [h] at hr; cases hr), fun j hj => ?_⟩
    by_cases hji : j = i
    · subst hji
      unfold aopI
      rw [hi]
      exact stayVal_run hst hv ⟨fun hn => (by simp [nsI, hi, hst] at hn), H⟩
    · have := ready_mono hj hji
      rw [H.1] at this
      cases this
  | succ fuel ih =>
    intro listed R K s hfree hr hv H
    refine fun wf => ⟨fun h => (by rw [h] at hr; cases hr), fun j hj => ?_⟩
    have hsub : ∀ p ∈ R, p ∈ logOf oi R s := by
      intro p hp
      unfold logOf
      split
      · unfold logR
        split
        · exact hp
        · split
          · exact List.mem_cons_of_mem _ hp
          · exact hp
      · exact hp
    by_cases hji : j = i
    · subst hji
      unfold aopI
      rw [hi]
      exact stayVal_run hst hv ⟨fun hn => (by simp [nsI, hi, hst] at hn), TAny_less _ _ _ _ _ _ hsub H⟩
    · obtain ⟨hjun, cj, hcj, hall⟩ := mem_ready.1 hj
      have hnot : ∀ e ∈ cj.after, Region.binds .any e = true → e.on ≠ i := fun e he hb heq => by
        have h1 := hall e he hb
        have h0 := (mem_ready.1 hr).1
        rw [heq] at h1
        rcases Nat.lt_or_ge i listed.size with h' | h'
        · simp [h'] at h0 h1; rw [h0] at h1; cases h1
        · simp [Array.getElem?_eq_none h'] at h1
      have hjlt : j < l.length := by rw [hlo]; exact (Array.getElem?_eq_some_iff.1 hcj).1
      have hj' : l[j]? = some l[j] := List.getElem?_eq_getElem hjlt
      have hap := hfree j l[j] cj hj' hcj hji hjun hnot
      have h1 := (H wf).2 j (ready_mono hj hji)
      unfold aopI at h1 ⊢
      rw [hj'] at h1 ⊢
      refine aop1_mono (fun s' hs' => ?_) (aop1_put hap h1)
      obtain ⟨⟨u, hu⟩, hmv, hns, hT⟩ := hs'
      -- what was read stands
      have hkeep : ∀ id, oi.guardOk s.ρ = some true → rid oi.op s.ρ = some id → ∀ o, s.h.f id = some o → s'.h.f id = some o := by
        intro id hg hid o ho
        rcases hmv with hmv | hmv
        · by_cases hs1 : l[j].op.stay = true
          · rw [hmv.1 hs1]; exact ho
          · by_cases hs2 : l[j].op.makes = true
            · obtain ⟨o', e'⟩ := hmv.2 hs2
              rw [e', alloc_f, if_neg (by have := wf id o ho; omega)]
              exact ho
            · have hn : nsI l ops j = true := by
                simp only [nsI, hj', needS, Bool.and_eq_true, Bool.not_eq_true']
                refine ⟨by simpa using hs1, by simpa using hs2, ?_⟩
                rw [Bool.eq_false_iff]
                intro hall'
                rw [List.all_eq_true] at hall'
                have hil : i < l.length := (List.getElem?_eq_some_iff.1 hi).1
                have := hall' i (List.mem_range.2 hil)
                simp only [hi, Option.map_some, Option.getD_some, rid_reads hid, Bool.not_true, Bool.or_false, hcj] at this
                simp only [Bool.or_eq_true, beq_iff_eq] at this
                rcases this with this | this
                · exact hji this.symm
                · rw [Array.any_eq_true'] at this
                  obtain ⟨e, he, hb⟩ := this
                  simp only [Bool.and_eq_true, beq_iff_eq] at hb
                  exact hnot e he hb.1 hb.2
              have := hns hn (id, o) (by
                unfold logOf
                rw [hg]
                simp only [logR, hid, ho]
                simp)
              exact this
        · rw [hmv]; exact ho
      have hk := stayVal_keep (oi := oi) (oj := l[j]) hap (h' := s'.h) (u := u) hv hkeep
      have hse : (⟨putd s.ρ l[j].dst u, s'.h⟩ : St) = s' := by rw [← hu]
      rw [hse] at hk
      refine ⟨fun hn p hp => hns hn p (hsub p hp), ih (listed.setIfInBounds j true) R K s' ?_ (ready_mono hr (Ne.symm hji)) hk.1 ?_⟩
      · intro k ok ck hk1 hk2 hki hun hno
        refine hfree k ok ck hk1 hk2 hki ?_ hno
        by_cases hjk : j = k
        · subst hjk; exact hjun
        · rw [getD_set_ne true hjk] at hun; exact hun
      · rw [Array.setIfInBounds_comm _ _ hji]
        refine TAny_less _ _ _ _ _ _ (fun p hp => ?_) hT
        -- the logs are one
        unfold logOf at hp ⊢
        rw [hu] at hp
        rw [hk.2.1] at hp
        split at hp
        · rename_i hg
          rw [hk.2.2] at hp
          unfold logR at hp ⊢
          split at hp
          · rename_i hid; (try rw [hid]); exact hp
          · rename_i id hid
            (try rw [hid])
            (try simp only)
            cases hf : s.h.f id with
            | none =>
              exfalso
              -- the value was read
              have : ∀ (op : AOp), rid op s.ρ = some id → aval op s.ρ s.h = none := by
                intro op hop
                cases op <;> simp only [rid, reduceCtorEq] at hop
                case load n x => cases he : ev s.ρ x <;> rw [he] at hop <;> simp only [reduceCtorEq, Option.some.injEq] at hop; subst hop; simp [aval, he, loadV, hf]
                case b2s x => cases he : ev s.ρ x <;> rw [he] at hop <;> simp only [reduceCtorEq, Option.some.injEq] at hop; subst hop; simp [aval, he, b2sV, slCells, hf]
                case len k x => cases he : ev s.ρ x <;> rw [he] at hop <;> simp only [reduceCtorEq, Option.some.injEq] at hop; subst hop; cases k <;> simp [aval, he, lenV, hf, slLen]
                case lookup st ok z x k => cases he : ev s.ρ x <;> rw [he] at hop <;> simp only [reduceCtorEq, Option.some.injEq] at hop; subst hop; simp [aval, he, lookupV, hf]
              have h2 := this oi.op hid
              unfold stayVal at hv
              rw [hg, h2] at hv
              cases hv
            | some o =>
              rw [hkeep id hg hid o hf] at hp
              exact hp
        · exact hp
end
end Go.Proofs.YtcjlgmknclifmaaDoor.Ab
