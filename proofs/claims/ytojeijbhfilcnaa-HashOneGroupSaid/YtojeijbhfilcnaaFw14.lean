/- The frame of the abstract walk, part 14: regions that draw their order. -/
import Derived.Test.YtojeijbhfilcnaaFw13
set_option linter.unusedVariables false
set_option linter.unusedSimpArgs false
namespace Go.Fw
open Go.RowKit

variable {κ : KM} {F : FM} {B : Nat} {w0 w : World} {H : AH} {P : Program} {T : TT}

/-- The temporaries that an operation looks at. -/
def looks (all : Array Oper) (o : Oper) : List Nat :=
  (o.op.operands.toList.filterMap fun | .tmp t => some t | _ => none) ++ (match o.guard with | some (g, _) => ((all[g]?).bind (·.dst)).toList | none => [])

/-- Which operations come ahead of each (through others, too): bit masks. -/
def aheadOf (all : Array Oper) : List Nat :=
  all.toList.foldl (init := []) fun acc o => acc ++ [o.after.toList.foldl (fun s e => cond (Region.binds .any e) (s ||| 2 ^ e.on ||| acc.getD e.on 0) s) 0]

/-- Whoever writes a temporary that another looks at, or writes, is ordered against it. -/
def orderOk (all : Array Oper) : Bool :=
  let ah := aheadOf all
  let n := all.size
  (List.range n).all fun i => match (all[i]?).bind (·.dst) with
    | none => (match all[i]? with | some o => o.after.toList.all (fun e => !(Region.binds .any e) || Nat.blt e.on i) | none => true)
    | some t => (List.range n).all fun j => match all[j]? with
      | none => true
      | some o => o.after.toList.all (fun e => !(Region.binds .any e) || Nat.blt e.on j) && ((i == j) || !((looks all o).contains t || o.dst == some t) || cond (Nat.blt i j) ((ah.getD j 0).testBit i) ((ah.getD i 0).testBit j))

structure Ordered (all : Array Oper) : Prop where
  ok : orderOk all = true

/-- Each operation leaves the abstract heap as it was, and has one value. -/
def drawS (N : Nat) (P : Program) (T : TT) (all : Array Oper) : List Oper → (St → AH → Prop) → St → AH → Prop
  | [], K, s, H => K s H
  | o :: rest, K, s, H =>
    when (dstOk N o.dst) (guardA all s.e o.guard fun b =>
      cond b (∃ v, stepA P T o.op s.e H (fun v' H' => v' = v ∧ H' = H) ∧ drawS N P T all rest K (putS s o.dst v) H) (drawS N P T all rest K (putS s o.dst .junk) H))

/-- 'opsS', for the walk: every value laid open; one rule for each step. -/
structure OpsA (N : Nat) (P : Program) (T : TT) (all : Array Oper) (l : List Oper) (K : St → AH → Prop) (s : St) (H : AH) : Prop where
  out : opsS N P T all l K s H

def opsB (N : Nat) (P : Program) (T : TT) (all : Array Oper) (o : Oper) (rest : List Oper) (K : St → AH → Prop) (e : Env) (d : List Nat) (H : AH) : Prop :=
  match o.dst with
  | none => guardA all e o.guard fun b => cond b (stepA P T o.op e H fun _ H' => OpsA N P T all rest K ⟨e, d⟩ H') (OpsA N P T all rest K ⟨e, d⟩ H)
  | some t => when (Nat.blt t N) (guardA all e o.guard fun b =>
      cond b (stepA P T o.op e H fun v H' => force v fun v => OpsA N P T all rest K ⟨upd e t v, d⟩ H') (OpsA N P T all rest K ⟨upd e t .junk, d⟩ H))

theorem OpsA.eq (N : Nat) (P : Program) (T : TT) (all : Array Oper) (l : List Oper) (K : St → AH → Prop) (s : St) (H : AH) : OpsA N P T all l K s H = opsS N P T all l K s H := propext ⟨OpsA.out, OpsA.mk⟩

theorem OpsA.nil {N : Nat} {P : Program} {T : TT} {all : Array Oper} {K : St → AH → Prop} {s : St} {H : AH} (h : K s H) : OpsA N P T all [] K s H := ⟨h⟩
theorem OpsA.cons {N : Nat} {P : Program} {T : TT} {all : Array Oper} {o : Oper} {rest : List Oper} {K : St → AH → Prop} {e : Env} {d : List Nat} {H : AH} (h : opsB N P T all o rest K e d H) : OpsA N P T all (o :: rest) K ⟨e, d⟩ H := by
  refine ⟨?_⟩
  unfold opsB at h
  unfold opsS
  cases hd : o.dst with
  | none => rw [hd] at h; simpa only [dstOk, putS, putA, when, cond_true, OpsA.eq] using h
  | some t => rw [hd] at h; simpa only [dstOk, putS, putA, OpsA.eq, force_eq] using h

structure DrawA (N : Nat) (P : Program) (T : TT) (all : Array Oper) (l : List Oper) (K : St → AH → Prop) (s : St) (H : AH) : Prop where
  out : drawS N P T all l K s H

def drawB (N : Nat) (P : Program) (T : TT) (all : Array Oper) (o : Oper) (rest : List Oper) (K : St → AH → Prop) (e : Env) (d : List Nat) (H : AH) : Prop :=
  match o.dst with
  | none => guardA all e o.guard fun b => cond b (∃ v, stepA P T o.op e H (fun v' H' => v' = v ∧ H' = H) ∧ DrawA N P T all rest K ⟨e, d⟩ H) (DrawA N P T all rest K ⟨e, d⟩ H)
  | some t => when (Nat.blt t N) (guardA all e o.guard fun b =>
      cond b (∃ v, stepA P T o.op e H (fun v' H' => v' = v ∧ H' = H) ∧ force v fun v => DrawA N P T all rest K ⟨upd e t v, d⟩ H) (DrawA N P T all rest K ⟨upd e t .junk, d⟩ H))

theorem DrawA.eq (N : Nat) (P : Program) (T : TT) (all : Array Oper) (l : List Oper) (K : St → AH → Prop) (s : St) (H : AH) : DrawA N P T all l K s H = drawS N P T all l K s H := propext ⟨DrawA.out, DrawA.mk⟩

theorem DrawA.nil {N : Nat} {P : Program} {T : TT} {all : Array Oper} {K : St → AH → Prop} {s : St} {H : AH} (h : K s H) : DrawA N P T all [] K s H := ⟨h⟩
theorem DrawA.cons {N : Nat} {P : Program} {T : TT} {all : Array Oper} {o : Oper} {rest : List Oper} {K : St → AH → Prop} {e : Env} {d : List Nat} {H : AH} (h : drawB N P T all o rest K e d H) : DrawA N P T all (o :: rest) K ⟨e, d⟩ H := by
  refine ⟨?_⟩
  unfold drawB at h
  unfold drawS
  cases hd : o.dst with
  | none => rw [hd] at h; simpa only [dstOk, putS, putA, when, cond_true, DrawA.eq] using h
  | some t => rw [hd] at h; simpa only [dstOk, putS, putA, DrawA.eq, force_eq] using h

end Go.Fw
