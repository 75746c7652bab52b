/- The model's code as abstract code. -/
import Derived.Test.YtcjlgmknclifmaaDoorAb3
set_option linter.unusedVariables false
set_option linter.unusedSimpArgs false
namespace Go.Proofs.YtcjlgmknclifmaaDoor.Ab
open Go

def rOper (P : Program) (n : Nat) (ops : Array Oper) (o : Oper) : Option AOper :=
  if o.dst.all (· < n) then
    match o.guard with
    | none => some ⟨o.dst, (resolveOp P o).getD .bad, none⟩
    | some (j, want) => match (ops[j]?).bind (·.dst) with | some t => some ⟨o.dst, (resolveOp P o).getD .bad, some (t, want)⟩ | none => none
  else none
def rOpers (P : Program) (n : Nat) (ops : Array Oper) : List Oper → Option (List AOper)
  | [] => some []
  | o :: r => match rOper P n ops o, rOpers P n ops r with | some x, some xs => some (x :: xs) | _, _ => none

def AOp.reads : AOp → Bool
  | .load .. | .b2s .. | .len .. | .lookup .. => true
  | _ => false
/-- It only makes a new block. -/
def AOp.makes : AOp → Bool
  | .alloc .. | .box .. | .bslice .. | .mkslice .. | .mkmap | .s2b .. => true
  | _ => false
/-- Must what was read ahead of it stand behind it? -/
def needS (l : List AOper) (ops : Array Oper) (j : Nat) (ao : AOper) : Bool :=
  !ao.op.makes && !(List.range l.length).all fun i => i == j || !((l[i]?).map (·.op.reads)).getD false || ((ops[j]?).map fun o => o.after.any fun e => Region.binds .any e && e.on == i).getD false

def AOp.opds : AOp → List Opd
  | .move x | .load _ x | .nilc x | .un _ x | .conv _ x | .convs x | .b2s x | .mkiface _ x | .asrt _ _ _ x | .field _ _ x | .faddr _ _ x | .extract _ x | .len _ x | .box _ _ x | .s2b _ x | .mark x => [x]
  | .pick c a b => [c, a, b]
  | .bin _ x y | .eqv _ _ x y | .eqs _ _ x y | .iaddr _ x y | .index x y | .lookup _ _ _ x y | .mkslice _ _ _ _ x y | .store _ x y | .append _ _ _ x y => [x, y]
  | .mkfunc _ l | .minmax _ l | .call _ l => l
  | .slice _ x lo hi mx => x :: (lo.toList ++ hi.toList ++ mx.toList)
  | .sliceS x lo hi => x :: (lo.toList ++ hi.toList)
  | .build _ ps | .bslice _ _ _ _ ps => ps.map fun p => p.2.2
  | .mapupd _ m k v => [m, k, v]
  | .callv x l => x :: l
  | .alloc .. | .mkmap | .bad => []
def tmpsOf (l : List Opd) : List Nat := l.filterMap fun | .tmp t => some t | _ => none
def AOper.looks (o : AOper) : List Nat := tmpsOf o.op.opds ++ (match o.guard with | some (g, _) => [g] | none => [])
def AOper.apart (x y : AOper) : Bool :=
  (match x.dst with | some d => !y.looks.contains d && y.dst != some d | none => true) && (match y.dst with | some d => !x.looks.contains d | none => true)
def afree (l : List AOper) (ops : Array Oper) (listed : Array Bool) (i : Nat) : Bool :=
  match l[i]? with
  | none => false
  | some oi => (List.range l.length).all fun j => j == i || listed.getD j true || match l[j]?, ops[j]? with
      | some oj, some cj => cj.after.any (fun e => Region.binds .any e && e.on == i) || oi.apart oj
      | _, _ => true

/-- One of several first. -/
def alts (l : List AOper) (ops : Array Oper) (rec : Nat → Option Pl) : List Nat → Option Pl
  | [] => none
  | [i] => match l[i]?, rec i with | some o, some p => some (.only o (needS l ops i o) p) | _, _ => none
  | i :: r => match l[i]?, rec i, alts l ops rec r with | some o, some p, some q => some (.alt o (needS l ops i o) p q) | _, _, _ => none
def plan (l : List AOper) (ops : Array Oper) : Nat → Array Bool → Option Pl
  | 0, listed => if (Region.ready .any ops listed).isEmpty then some .nil else none
  | fuel + 1, listed =>
    match (Region.ready .any ops listed) with
    | [] => some .nil
    | rs =>
      match rs.find? fun i => ((l[i]?).map (·.op.stay)).getD false && afree l ops listed i with
      | some i => match l[i]?, plan l ops fuel (listed.setIfInBounds i true) with | some o, some p => some (.take o p) | _, _ => none
      | none =>
        match rs with
        | [i, j] =>
          if i = j ∨ fuel = 0 then none else
          match l[i]?, l[j]? with
          | some o, some q =>
            if (Region.ready .any ops (listed.setIfInBounds i true)) = [j] ∧ (Region.ready .any ops (listed.setIfInBounds j true)) = [i] then
              match plan l ops (fuel - 1) ((listed.setIfInBounds i true).setIfInBounds j true) with
              | some p => some (.both o q (needS l ops i o || needS l ops j q) p)
              | none => none
            else alts l ops (fun i => plan l ops fuel (listed.setIfInBounds i true)) [i, j]
          | _, _ => none
        | rs => if rs.length ≤ 4 then alts l ops (fun i => plan l ops fuel (listed.setIfInBounds i true)) rs else none

def resolveCode (P : Program) (n : Nat) : Code → Option ACode
  | .skip => some .skip
  | .region _ ops false => (rOpers P n ops ops.toList).map .ops
  | .region _ ops true =>
    if P.follows .mixedOrders ∧ Region.noSelect ops then
      match rOpers P n ops ops.toList with
      | some l => some (((plan l ops ops.size (Array.replicate ops.size false)).map .draw).getD .bad)
      | none => none
    else none
  | .seq a b => match resolveCode P n a, resolveCode P n b with | some x, some y => some (.seq x y) | _, _ => none
  | .cond c a b => match rOpd c, resolveCode P n a, resolveCode P n b with | some c, some x, some y => some (.cond c x y) | _, _, _ => none
  | .block id c => (resolveCode P n c).map (.block id)
  | .loop c => (resolveCode P n c).map .loop
  | .exit id => some (.exit id)
  | .ret => some .ret
  | _ => some .bad
end Go.Proofs.YtcjlgmknclifmaaDoor.Ab
