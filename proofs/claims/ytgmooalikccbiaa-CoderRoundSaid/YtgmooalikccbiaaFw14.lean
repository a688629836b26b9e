/- The frame of the abstract walk, part 14: regions that draw their order. -/
import Derived.Test.YtgmooalikccbiaaFw13
set_option linter.unusedVariables false
set_option linter.unusedSimpArgs false
namespace Go.Fw
open Go.RowKit

variable {κ : KM} {F : FM} {B : Nat} {w0 w : World} {H : AH} {P : Program} {T : TT}

/-- The temporaries that an operation looks at. -/
def looks (all : Array Oper) (o : Oper) : List Nat :=
  (o.op.operands.toList.filterMap fun | .tmp t => some t | _ => none) ++ (match o.guard with | some (g, _) => ((all[g]?).bind (·.dst)).toList | none => [])

/-- Which operations come ahead of each (through others, too): bit masks. -/
def aheadOf (all : Array Oper) : List Nat :=
  all.toList.foldl (init := []) fun acc o => acc ++ [o.after.toList.foldl (fun s e => cond (Region.binds .any e) (s ||| 2 ^ e.on ||| acc.getD e.on 0) s) 0]

/-- Whoever writes a temporary that another looks at, or writes, is ordered against it. -/
def orderOk (all : Array Oper) : Bool :=
  let ah := aheadOf all
  let n := all.size
  (List.range n).all fun i => match (all[i]?).bind (·.dst) with
    | none => (match all[i]? with | some o => o.after.toList.all (fun e => !(Region.binds .any e) || Nat.blt e.on i) | none => true)
    | some t => (List.range n).all fun j => match all[j]? with
      | none => true
      | some o => o.after.toList.all (fun e => !(Region.binds .any e) || Nat.blt e.on j) && ((i == j) || !((looks all o).contains t || o.dst == some t) || cond (Nat.blt i j) ((ah.getD j 0).testBit i) ((ah.getD i 0).testBit j))

structure Ordered (all : Array Oper) : Prop where
  ok : orderOk all = true

/-- One value. -/
def Det (F : (AV → Prop) → Prop) : Prop := ∀ K, F K → ∃ v, F (fun v' => v' = v) ∧ K v

theorem det_one (v : AV) : Det fun K => K v := fun K h => ⟨v, rfl, h⟩
theorem det_all (k : IntKind) (x : Int) : Det fun K => ∀ c, c = x → K (.int k c) := fun K h => ⟨_, by rintro c rfl; rfl, h _ rfl⟩
theorem det_ifA (p : Prop) : Det (ifA p) := fun K h => by
  by_cases hp : p
  · exact ⟨.bool true, ⟨fun _ => rfl, fun hn => absurd hp hn⟩, h.l hp⟩
  · exact ⟨.bool false, ⟨fun hn => absurd hn hp, fun _ => rfl⟩, h.r hp⟩
theorem det_false : Det fun _ => False := fun K h => h.elim
theorem det_and {F : (AV → Prop) → Prop} (p : Prop) (h : Det F) : Det fun K => p ∧ F K := fun K ⟨hp, hF⟩ => by
  obtain ⟨v, h1, h2⟩ := h K hF
  exact ⟨v, ⟨hp, h1⟩, h2⟩
theorem det_when {F : (AV → Prop) → Prop} (b : Bool) (h : Det F) : Det fun K => when b (F K) := by
  cases b
  · exact det_false
  · exact h
theorem det_ex {α : Type} {F : α → (AV → Prop) → Prop} (h : ∀ x, Det (F x)) : Det fun K => ∃ x, F x K := fun K ⟨x, hF⟩ => by
  obtain ⟨v, h1, h2⟩ := h x K hF
  exact ⟨v, ⟨x, h1⟩, h2⟩
theorem det_cond {F G : (AV → Prop) → Prop} (b : Bool) (h : Det F) (k : Det G) : Det fun K => cond b (F K) (G K) := by
  cases b
  · exact k
  · exact h
theorem det_or {F G : (AV → Prop) → Prop} (h : Det F) (k : Det G) : Det fun K => F K ∨ G K := fun K hK => by
  rcases hK with hK | hK
  · obtain ⟨v, h1, h2⟩ := h K hK; exact ⟨v, .inl h1, h2⟩
  · obtain ⟨v, h1, h2⟩ := k K hK; exact ⟨v, .inr h1, h2⟩

theorem det_binI (op : BinOp) (k : IntKind) (x y : Int) : Det (binI op k x y) := by
  cases op
  all_goals first
    | exact det_false
    | exact det_all k _
    | exact det_and _ (det_all k _)
    | exact det_ifA _

theorem det_shiftA (op : BinOp) (k : IntKind) (x y : Int) : Det (shiftA op k x y) := by
  cases op
  all_goals first
    | exact det_false
    | exact det_and _ (det_all k _)

theorem det_neqA (op : BinOp) (p : Prop) : Det (neqA op p) := by
  cases op
  all_goals first
    | exact det_false
    | exact det_ifA _

theorem det_binA (op : BinOp) (d : Option TD) (x y : AV) : Det (binA op d x y) := by
  cases x <;> cases y
  case str.str a b =>
    cases op
    all_goals first
      | exact det_false
      | exact det_and _ (det_one _)
      | exact det_ifA _
  case int.int k a k' b => exact det_cond _ (det_shiftA _ _ _ _) (det_when _ (det_binI _ _ _ _))
  all_goals first
    | exact det_false
    | exact det_when _ (det_neqA _ _)

theorem det_loadA (tr : TR) (a : AV) (H : AH) : Det (loadA tr a H) := by
  cases a
  case cp cells => exact det_cond _ (det_and _ (det_one _)) (det_when _ (det_ex fun x => det_and _ (det_one _)))
  case ptr r v off => exact det_ex fun cells => det_and _ (det_cond _ (det_and _ (det_one _)) (det_when _ (det_ex fun x => det_and _ (det_one _))))
  all_goals exact det_false

theorem det_fieldAddrA (fs : List (Nat × Nat × Bool)) (a : AV) (f : Nat) : Det (fieldAddrA fs a f) := by
  unfold fieldAddrA
  split
  · exact det_one _
  · exact det_and _ (det_one _)
  · exact det_false

theorem det_indexAddrA (d : TD) (x i : AV) : Det (indexAddrA d x i) := by
  unfold indexAddrA
  split
  · exact det_and _ (det_and _ (det_and _ (det_one _)))
  · exact det_when _ (det_and _ (det_and _ (det_one _)))
  · exact det_and _ (det_and _ (det_one _))
  · exact det_and _ (det_and _ (det_and _ (det_one _)))
  · exact det_false

theorem det_indexA (d : TD) (x i : AV) : Det (indexA d x i) := by
  unfold indexA
  split
  · exact det_and _ (det_and _ (det_one _))
  · exact det_and _ (det_and _ (det_and _ (det_when _ (det_one _))))
  · exact det_false

theorem det_sliceA (d : TD) (x : AV) (lo hi mx : Option Int) : Det (sliceA d x lo hi mx) := by
  cases d <;> cases x <;> try exact det_false
  · cases mx <;> cases lo <;> cases hi <;> first | exact det_false | exact det_one _ | exact det_and _ (det_and _ (det_one _)) | exact det_and _ (det_and _ (det_and _ (det_one _))) | exact det_cond _ (det_one _) (det_and _ (det_and _ (det_and _ (det_one _))))
  · cases mx <;> cases lo <;> cases hi <;> first | exact det_false | exact det_one _ | exact det_and _ (det_one _) | exact det_and _ (det_and _ (det_one _)) | exact det_and _ (det_and _ (det_and _ (det_one _))) | exact det_cond _ (det_one _) (det_and _ (det_and _ (det_and _ (det_one _))))
  · refine det_and _ ?_
    cases mx <;> cases lo <;> cases hi <;> first | exact det_false | exact det_one _ | exact det_and _ (det_one _) | exact det_and _ (det_and _ (det_one _)) | exact det_and _ (det_and _ (det_and _ (det_one _))) | exact det_cond _ (det_one _) (det_and _ (det_and _ (det_and _ (det_one _))))
  · refine det_when _ ?_
    cases mx <;> cases lo <;> cases hi <;> first | exact det_false | exact det_one _ | exact det_and _ (det_one _) | exact det_and _ (det_and _ (det_one _)) | exact det_and _ (det_and _ (det_and _ (det_one _))) | exact det_cond _ (det_one _) (det_and _ (det_and _ (det_and _ (det_one _))))

/-- 'Det', for what speaks of the heap, too. -/
def DetH (H : AH) (F : (AV → AH → Prop) → Prop) : Prop := ∀ K, F K → ∃ v, F (fun v' H' => v' = v ∧ H' = H) ∧ K v H
theorem Det.h {F : (AV → Prop) → Prop} (h : Det F) (H : AH) : DetH H fun K => F fun v => K v H := fun K hK => by
  obtain ⟨v, h1, h2⟩ := h _ hK
  exact ⟨v, by simpa using h1, h2⟩
theorem deth_false (H : AH) : DetH H fun _ => False := fun K h => h.elim

theorem det_forceL (cells : List AV) : Det fun K => (forceL cells fun cells => K (.agg cells)) ∨ K (.agg cells) :=
  det_or (by simp only [forceL_eq]; exact det_one _) (det_one _)

theorem det_lenA (d : Option TD) (x : AV) : Det fun K => lenA d x fun n => K (.int .i64 n) := by
  unfold lenA
  split
  · exact det_one _
  · exact det_one _
  · exact det_one _
  · exact det_one _
  · exact det_false

theorem det_cellsA (esz : Nat) (x : AV) (H : AH) : Det fun K => cellsA esz x H fun _ cells => ∃ bs, cells = u8s bs ∧ K (.str bs) := by
  unfold cellsA
  split
  · exact det_ex fun bs => det_and _ (det_one _)
  · exact det_and _ (det_ex fun bs => det_and _ (det_one _))
  · exact det_when _ (det_ex fun cells => det_and _ (det_and _ (det_ex fun bs => det_and _ (det_one _))))
  · exact det_false

/-- Operations that may change memory (calls of functions excepted: these must leave it as it is). -/
def isEff : Op → Bool
  | .store .. => true
  | .call c => (match c.callee with | .builtin .append => true | .builtin .copy => true | _ => false)
  | _ => false
def isPureT : TD → Bool
  | .int _ => true
  | _ => false
/-- Operations that do not look at memory. -/
def isPure (T : TT) : Op → Bool
  | .move _ => true
  | .assign _ => true
  | .pick .. => true
  | .nilCheck _ => true
  | .binOp _ _ _ y _ => !isNilS y
  | .unOp .. => true
  | .convert _ d _ => (match T.get d with | some dr => isPureT dr.d | none => false)
  | .fieldAddr .. => true
  | .field .. => true
  | .indexAddr .. => true
  | .index .. => true
  | .extract .. => true
  | .call c => (match c.callee with | .builtin .len => true | _ => false)
  | _ => false

theorem pure_of {F : (AV → Prop) → Prop} (hF : Det F) {v : AV} {H H2 : AH} (h : F (fun v' => v' = v ∧ H = H2)) : H2 = H ∧ (AH → F (fun v' => v' = v ∧ True)) := by
  obtain ⟨u, h1, rfl, rfl⟩ := hF _ h
  exact ⟨rfl, fun G => by simpa using h1⟩

theorem opA_pure {o : Op} {e : Env} {v : AV} {H H2 : AH} (hp : isPure T o = true) (h : opA T o e H (fun v' H' => v' = v ∧ H' = H2)) : H2 = H ∧ ∀ G, opA T o e G (fun v' H' => v' = v ∧ H' = G) := by
  cases o <;> try (cases hp; done)
  case move x =>
    simp only [opA] at h ⊢
    exact pure_of (F := fun K => K _) (det_one _) h
  case assign x =>
    simp only [opA] at h ⊢
    exact pure_of (F := fun K => K _) (det_one _) h
  case pick c a b =>
    simp only [opA] at h ⊢
    cases hc : ev e c <;> simp only [hc] at h ⊢ <;> exact pure_of (F := fun K => K _) (det_one _) h
  case nilCheck x =>
    simp only [opA] at h ⊢
    cases hx : ev e x <;> simp only [hx] at h ⊢ <;> first | exact pure_of (F := fun K => K _) (det_one _) h | skip
    rename_i f p c
    cases f <;> first | exact h.elim | skip
    exact pure_of (F := fun K => K _) (det_one _) h
  case binOp op t x y r =>
    simp only [isPure, Bool.not_eq_true'] at hp
    simp only [opA, hp, cond_false] at h ⊢
    exact pure_of (det_binA _ _ _ _) h
  case unOp op t x =>
    simp only [opA] at h ⊢
    cases op <;> cases hx : ev e x <;> simp only [hx] at h ⊢ <;> first | exact pure_of (F := fun K => ∀ c, c = _ → K (.int _ c)) (det_all _ _) h | exact pure_of (F := fun K => K _) (det_one _) h
  case convert s d x =>
    simp only [isPure] at hp
    simp only [opA] at h ⊢
    cases hs : T.get s with
    | none => simp only [hs] at h
    | some sr =>
      cases hd : T.get d with
      | none => simp only [hs, hd] at h
      | some dr =>
        simp only [hs, hd] at h hp ⊢
        obtain ⟨dd, n, ag, z⟩ := dr
        cases dd <;> try (cases hp; done)
        obtain ⟨sd, n', ag', z'⟩ := sr
        cases sd <;> cases hx : ev e x <;> simp only [hx, convA] at h ⊢
        exact pure_of (det_all _ _) h
  case fieldAddr t x f =>
    simp only [opA] at h ⊢
    cases hg : T.get t with
    | none => simp only [hg] at h
    | some r =>
      obtain ⟨d, n, ag, z⟩ := r
      cases d <;> simp only [hg] at h ⊢
      exact pure_of (det_fieldAddrA _ _ _) h
  case field t x f =>
    simp only [opA] at h ⊢
    cases hg : T.get t with
    | none => simp only [hg] at h
    | some r =>
      obtain ⟨d, n, ag, z⟩ := r
      cases d <;> cases hx : ev e x <;> simp only [hg, hx] at h ⊢
      rename_i fs cells
      cases hf : fs[f]? with
      | none => simp only [hf] at h
      | some p =>
        simp only [hf] at h ⊢
        exact pure_of (det_when _ (det_and _ (det_one _))) h
  case indexAddr t x i =>
    simp only [opA] at h ⊢
    cases hg : T.get t with
    | none => simp only [hg] at h
    | some r =>
      simp only [hg] at h ⊢
      exact pure_of (det_indexAddrA _ _ _) h
  case index t x i =>
    simp only [opA] at h ⊢
    cases hg : T.get t with
    | none => simp only [hg] at h
    | some r =>
      simp only [hg] at h ⊢
      exact pure_of (det_indexA _ _ _) h
  case extract t i =>
    simp only [opA] at h ⊢
    cases hx : ev e t <;> simp only [hx] at h ⊢
    rename_i vs
    cases hv : vs[i]? with
    | none => simp only [hv] at h
    | some v =>
      simp only [hv] at h ⊢
      exact pure_of (F := fun K => K _) (det_one _) h
  case call c =>
    simp only [isPure] at hp
    simp only [opA] at h ⊢
    cases hc : c.callee with
    | builtin b =>
      simp only [hc] at h hp ⊢
      cases b <;> try (cases hp; done)
      cases ha : c.argTypes.toList with
      | nil => simp only [ha, builtinA] at h
      | cons t ts =>
        cases hl : c.args.toList.map (ev e) with
        | nil => simp only [ha, hl, builtinA] at h
        | cons x xs =>
          cases ts <;> cases xs <;> simp only [ha, hl, builtinA] at h ⊢
          exact pure_of (det_lenA _ _) h
    | value f => rw [hc] at hp; cases hp
    | invoke r m => rw [hc] at hp; cases hp

theorem pure_eff {o : Op} (h : isEff o = true) : isPure T o = false := by
  cases o <;> try (cases h; done)
  · rfl
  · rename_i c
    simp only [isEff, isPure] at h ⊢
    cases hc : c.callee with
    | builtin b => rw [hc] at h; cases b <;> first | rfl | (cases h; done)
    | value f => rfl
    | invoke r m => rfl

/-- Is the temporary marked? -/
def inM : List Nat → Option Nat → Bool
  | _, none => false
  | [], some _ => false
  | x :: l, some t => cond (Nat.beq x t) true (inM l (some t))
/-- Marks, by the temporaries: calls that may change memory, and operations that do not look at it. -/
abbrev Mk := List Nat × List Nat
def isEffM (M : Mk) (o : Oper) : Bool := isEff o.op || inM M.1 o.dst
def isPureM (T : TT) (M : Mk) (o : Oper) : Bool := !isEffM M o && (isPure T o.op || inM M.2 o.dst)
theorem pure_effM {M : Mk} {o : Oper} (h : isEffM M o = true) : isPureM T M o = false := by simp [isPureM, h]

/-- What changes memory is ordered against all that looks at it. -/
def effOk (T : TT) (M : Mk) (all : Array Oper) : Bool :=
  let ah := aheadOf all
  let e := fun i => match all[i]? with | some o => isEffM M o | none => false
  let p := fun i => match all[i]? with | some o => isPureM T M o | none => false
  (List.range all.size).all fun j => (List.range j).all fun i => !(e i || e j) || (p i || p j || (ah.getD j 0).testBit i)

/-- Each operation has one value and leaves one abstract heap: the one that was, unless it may change memory. -/
def drawS (N : Nat) (P : Program) (T : TT) (M : Mk) (all : Array Oper) : List Oper → (St → AH → Prop) → St → AH → Prop
  | [], K, s, H => K s H
  | o :: rest, K, s, H =>
    when (dstOk N o.dst) (guardA all s.e o.guard fun b =>
      cond b (∃ v H2, stepA P T o.op s.e H (fun v' H' => v' = v ∧ H' = H2) ∧ (isEffM M o = false → H2 = H) ∧ (inM M.2 o.dst = true → ∀ G, stepA P T o.op s.e G (fun v' H' => v' = v ∧ H' = G)) ∧ drawS N P T M all rest K (putS s o.dst v) H2) (drawS N P T M all rest K (putS s o.dst (.tup [])) H))

/-- 'opsS', for the walk: every value laid open; one rule for each step. -/
structure OpsA (N : Nat) (P : Program) (T : TT) (all : Array Oper) (l : List Oper) (K : St → AH → Prop) (s : St) (H : AH) : Prop where
  out : opsS N P T all l K s H

def opsB (N : Nat) (P : Program) (T : TT) (all : Array Oper) (o : Oper) (rest : List Oper) (K : St → AH → Prop) (e : Env) (d : List Nat) (H : AH) : Prop :=
  match o.dst with
  | none => guardA all e o.guard fun b => cond b (stepA P T o.op e H fun _ H' => OpsA N P T all rest K ⟨e, d⟩ H') (OpsA N P T all rest K ⟨e, d⟩ H)
  | some t => when (Nat.blt t N) (guardA all e o.guard fun b =>
      cond b (stepA P T o.op e H fun v H' => force v fun v => OpsA N P T all rest K ⟨upd e t v, d⟩ H') (OpsA N P T all rest K ⟨upd e t (.tup []), d⟩ H))

theorem OpsA.eq (N : Nat) (P : Program) (T : TT) (all : Array Oper) (l : List Oper) (K : St → AH → Prop) (s : St) (H : AH) : OpsA N P T all l K s H = opsS N P T all l K s H := propext ⟨OpsA.out, OpsA.mk⟩

theorem OpsA.nil {N : Nat} {P : Program} {T : TT} {all : Array Oper} {K : St → AH → Prop} {s : St} {H : AH} (h : K s H) : OpsA N P T all [] K s H := ⟨h⟩
theorem OpsA.cons {N : Nat} {P : Program} {T : TT} {all : Array Oper} {o : Oper} {rest : List Oper} {K : St → AH → Prop} {e : Env} {d : List Nat} {H : AH} (h : opsB N P T all o rest K e d H) : OpsA N P T all (o :: rest) K ⟨e, d⟩ H := by
  refine ⟨?_⟩
  unfold opsB at h
  unfold opsS
  cases hd : o.dst with
  | none => rw [hd] at h; simpa only [dstOk, putS, putA, when, cond_true, OpsA.eq] using h
  | some t => rw [hd] at h; simpa only [dstOk, putS, putA, OpsA.eq, force_eq] using h

structure DrawA (N : Nat) (P : Program) (T : TT) (M : Mk) (all : Array Oper) (l : List Oper) (K : St → AH → Prop) (s : St) (H : AH) : Prop where
  out : drawS N P T M all l K s H

def drawB (N : Nat) (P : Program) (T : TT) (M : Mk) (all : Array Oper) (o : Oper) (rest : List Oper) (K : St → AH → Prop) (e : Env) (d : List Nat) (H : AH) : Prop :=
  match o.dst with
  | none => guardA all e o.guard fun b => cond b (∃ v H2, stepA P T o.op e H (fun v' H' => v' = v ∧ H' = H2) ∧ (isEffM M o = false → H2 = H) ∧ (inM M.2 o.dst = true → ∀ G, stepA P T o.op e G (fun v' H' => v' = v ∧ H' = G)) ∧ DrawA N P T M all rest K ⟨e, d⟩ H2) (DrawA N P T M all rest K ⟨e, d⟩ H)
  | some t => when (Nat.blt t N) (guardA all e o.guard fun b =>
      cond b (∃ v H2, stepA P T o.op e H (fun v' H' => v' = v ∧ H' = H2) ∧ (isEffM M o = false → H2 = H) ∧ (inM M.2 o.dst = true → ∀ G, stepA P T o.op e G (fun v' H' => v' = v ∧ H' = G)) ∧ force v fun v => DrawA N P T M all rest K ⟨upd e t v, d⟩ H2) (DrawA N P T M all rest K ⟨upd e t (.tup []), d⟩ H))

theorem DrawA.eq (N : Nat) (P : Program) (T : TT) (M : Mk) (all : Array Oper) (l : List Oper) (K : St → AH → Prop) (s : St) (H : AH) : DrawA N P T M all l K s H = drawS N P T M all l K s H := propext ⟨DrawA.out, DrawA.mk⟩

theorem DrawA.nil {N : Nat} {P : Program} {T : TT} {M : Mk} {all : Array Oper} {K : St → AH → Prop} {s : St} {H : AH} (h : K s H) : DrawA N P T M all [] K s H := ⟨h⟩
theorem DrawA.cons {N : Nat} {P : Program} {T : TT} {M : Mk} {all : Array Oper} {o : Oper} {rest : List Oper} {K : St → AH → Prop} {e : Env} {d : List Nat} {H : AH} (h : drawB N P T M all o rest K e d H) : DrawA N P T M all (o :: rest) K ⟨e, d⟩ H := by
  refine ⟨?_⟩
  unfold drawB at h
  unfold drawS
  cases hd : o.dst with
  | none => rw [hd] at h; simpa only [dstOk, putS, putA, when, cond_true, DrawA.eq] using h
  | some t => rw [hd] at h; simpa only [dstOk, putS, putA, DrawA.eq, force_eq] using h

end Go.Fw
