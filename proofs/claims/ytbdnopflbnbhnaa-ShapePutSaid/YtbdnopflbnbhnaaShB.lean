/- Graphs by value: the document's Same. -/
import Derived.Test.YtbdnopflbnbhnaaShA
set_option linter.unusedVariables false
set_option linter.unusedSimpArgs false
namespace Go.Proofs.Ytbdnopflbnbhnaa.Ab
open Go

theorem fn9_ok (a b : Graph) (h : AHeap) : Returns Try.prog 9 [graphV a, graphV b] h (.bool (decide (a = b))) h := by
  refine Returns.pure fn9 (by simp) fun h1 h2 => ⟨by simp [AVal.ok], ?_⟩
  have e : (a = b) = (a.root = b.root ∧ a.blocks = b.blocks) := by cases a; cases b; simp
  simp [AVal.oks, AVal.ok, huge] at h2
  simp [code9]
  refine (fn32_ok a.root b.root _).to ?_
  by_cases c1 : a.root = b.root
  case neg => simp [c1, e, Sub.alloc h1]
  by_cases hl : a.blocks.length = b.blocks.length
  case neg =>
    have : a ≠ b := fun e => hl (by rw [e])
    simp [hl, this, c1, Sub.alloc h1]
  simp [c1, hl]
  refine Ev.count (fun i => upd (upd (upd (upd noEnv 2 (.ptr h.next 0)) 3 (.ptr (h.next + 1) 0)) 4 (.bool false)) 5 (.int .i64 i)) b.blocks.length (fun i => ∀ j, j < i → a.blocks[j]? = b.blocks[j]?) (fun _ => ⟨by simp, ?_⟩) ?_
  · repeat' (first | exact TidyR_none _ _ | (refine TidyR_upd (by simp [AVal.ok, AVal.oks, huge, h2]) ?_))
  intro i hi I hok
  replace hok := hok.1
  simp only at hok
  by_cases hlt : i < b.blocks.length
  case neg =>
    have hab : a.blocks = b.blocks := by
      refine List.ext_getElem? fun j => ?_
      by_cases hj : j < i
      · exact I j hj
      · rw [List.getElem?_eq_none (by omega), List.getElem?_eq_none (by omega)]
    simp [hlt, hab, e, c1]
    repeat' (first | exact Sub.refl _ | refine Sub.alloc h1 ?_ | refine Sub.put h1 ?_ (by simp))
  have hla : i < a.blocks.length := by omega
  have hw : IntKind.i64.wrap (↑i + 1) = ↑i + 1 := wrap_i64 (by omega) (by omega)
  have bEq : ∀ x y : Block, (x = y) = (x.tag = y.tag ∧ x.str = y.str ∧ x.kids = y.kids) := fun x y => by cases x; cases y; simp
  by_cases d1 : a.blocks[i].tag = b.blocks[i].tag
  case neg =>
    have hne : a ≠ b := fun e => d1 (by subst e; rfl)
    simp [hlt, hla, d1, hne]
    refine ⟨?_, ?_⟩ <;> repeat' (first | exact Sub.refl _ | refine Sub.alloc h1 ?_ | refine Sub.put h1 ?_ (by simp))
  by_cases d2 : a.blocks[i].str = b.blocks[i].str
  case neg =>
    have hne : a ≠ b := fun e => d2 (by subst e; rfl)
    simp [hlt, hla, d1, d2, hne]
    refine ⟨?_, ?_⟩ <;> repeat' (first | exact Sub.refl _ | refine Sub.alloc h1 ?_ | refine Sub.put h1 ?_ (by simp))
  by_cases d3 : a.blocks[i].kids.length = b.blocks[i].kids.length
  case neg =>
    have hne : a ≠ b := fun e => d3 (by subst e; rfl)
    simp [hlt, hla, d1, d2, d3, hne]
    refine ⟨?_, ?_⟩ <;> repeat' (first | exact Sub.refl _ | refine Sub.alloc h1 ?_ | refine Sub.put h1 ?_ (by simp))
  have hkb : b.blocks[i].kids.length ≤ huge := by
    have := oks_iff.1 h2.2.2 (blockV b.blocks[i]) (List.mem_map.2 ⟨_, List.getElem_mem hlt, rfl⟩)
    simp [AVal.ok, AVal.oks] at this
    exact this.2.1
  simp only [huge] at hkb
  simp [hlt, hla, d1, d2, d3]
  refine ⟨?_, ?_⟩
  · refine Ev.count (fun k => upd (upd (upd (upd (upd (upd (upd noEnv 2 (.ptr h.next 0)) 3 (.ptr (h.next + 1) 0)) 4 (.bool false)) 5 (.int .i64 i)) 6 (.ptr (h.next + 2) 0)) 7 (.ptr (h.next + 3) 0)) 8 (.int .i64 k)) b.blocks[i].kids.length (fun k => ∀ j, j < k → a.blocks[i].kids[j]? = b.blocks[i].kids[j]?) (fun _ => ⟨by simp, ?_⟩) ?_
    · repeat' (first | exact TidyR_none _ _ | (refine TidyR_upd (by simp [AVal.ok, AVal.oks, huge, h2]) ?_))
    intro k hk IK hok2
    by_cases hkt : k < b.blocks[i].kids.length
    case neg =>
      have hab : a.blocks[i].kids = b.blocks[i].kids := by
        refine List.ext_getElem? fun j => ?_
        by_cases hj : j < k
        · exact IK j hj
        · rw [List.getElem?_eq_none (by omega), List.getElem?_eq_none (by omega)]
      simp [hkt, hw, d3]
      intro _
      refine ⟨fun j hj => ?_, ?_, ?_⟩
      · by_cases hji : j = i
        · subst hji; simp only [List.getElem?_eq_getElem hla, List.getElem?_eq_getElem hlt, Option.some.injEq, bEq]; exact ⟨d1, d2, hab⟩
        · exact I j (by omega)
      · repeat' (first | exact Sub.refl _ | refine Sub.alloc hok ?_ | refine Sub.put hok ?_ (by simp))
      · repeat' (first | exact TidyR_none _ _ | (refine TidyR_upd (by simp [AVal.ok, AVal.oks, huge, h2]) ?_))
    have hka : k < a.blocks[i].kids.length := by omega
    have hwk : IntKind.i64.wrap (↑k + 1) = ↑k + 1 := wrap_i64 (by omega) (by omega)
    simp [hkt, hka, d3]
    refine (fn32_ok a.blocks[i].kids[k] b.blocks[i].kids[k] _).to ?_
    by_cases he : a.blocks[i].kids[k] = b.blocks[i].kids[k]
    · simp [he, hwk]
      intro _
      refine ⟨fun j hj => ?_, ?_⟩
      · by_cases hji : j = k
        · subst hji; simp [hka, hkt, he]
        · exact IK j (by omega)
      · repeat' (first | exact TidyR_none _ _ | (refine TidyR_upd (by simp [AVal.ok, AVal.oks, huge, h2]) ?_))
    · have : a ≠ b := fun e => he (by subst e; rfl)
      simp [he, this]
      repeat' (first | exact Sub.refl _ | refine Sub.alloc h1 ?_ | refine Sub.put h1 ?_ (by simp))
  · refine Ev.count (fun k => upd (upd (upd (upd (upd (upd (upd noEnv 2 (.ptr h.next 0)) 3 (.ptr (h.next + 1) 0)) 4 (.bool false)) 5 (.int .i64 i)) 6 (.ptr (h.next + 3) 0)) 7 (.ptr (h.next + 2) 0)) 8 (.int .i64 k)) b.blocks[i].kids.length (fun k => ∀ j, j < k → a.blocks[i].kids[j]? = b.blocks[i].kids[j]?) (fun _ => ⟨by simp, ?_⟩) ?_
    · repeat' (first | exact TidyR_none _ _ | (refine TidyR_upd (by simp [AVal.ok, AVal.oks, huge, h2]) ?_))
    intro k hk IK hok2
    by_cases hkt : k < b.blocks[i].kids.length
    case neg =>
      have hab : a.blocks[i].kids = b.blocks[i].kids := by
        refine List.ext_getElem? fun j => ?_
        by_cases hj : j < k
        · exact IK j hj
        · rw [List.getElem?_eq_none (by omega), List.getElem?_eq_none (by omega)]
      simp [hkt, hw, d3]
      intro _
      refine ⟨fun j hj => ?_, ?_, ?_⟩
      · by_cases hji : j = i
        · subst hji; simp only [List.getElem?_eq_getElem hla, List.getElem?_eq_getElem hlt, Option.some.injEq, bEq]; exact ⟨d1, d2, hab⟩
        · exact I j (by omega)
      · repeat' (first | exact Sub.refl _ | refine Sub.alloc hok ?_ | refine Sub.put hok ?_ (by simp))
      · repeat' (first | exact TidyR_none _ _ | (refine TidyR_upd (by simp [AVal.ok, AVal.oks, huge, h2]) ?_))
    have hka : k < a.blocks[i].kids.length := by omega
    have hwk : IntKind.i64.wrap (↑k + 1) = ↑k + 1 := wrap_i64 (by omega) (by omega)
    simp [hkt, hka, d3]
    refine (fn32_ok a.blocks[i].kids[k] b.blocks[i].kids[k] _).to ?_
    by_cases he : a.blocks[i].kids[k] = b.blocks[i].kids[k]
    · simp [he, hwk]
      intro _
      refine ⟨fun j hj => ?_, ?_⟩
      · by_cases hji : j = k
        · subst hji; simp [hka, hkt, he]
        · exact IK j (by omega)
      · repeat' (first | exact TidyR_none _ _ | (refine TidyR_upd (by simp [AVal.ok, AVal.oks, huge, h2]) ?_))
    · have : a ≠ b := fun e => he (by subst e; rfl)
      simp [he, this]
      repeat' (first | exact Sub.refl _ | refine Sub.alloc h1 ?_ | refine Sub.put h1 ?_ (by simp))
end Go.Proofs.Ytbdnopflbnbhnaa.Ab
