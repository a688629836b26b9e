/- The frame of the abstract walk, part 21: regions whose order is drawn, walked as the others. -/
import Derived.Test.YtojeijbhfilcnaaFw20
set_option linter.unusedVariables false
set_option linter.unusedSimpArgs false
namespace Go.Fw
open Go.RowKit

variable {H : AH} {P : Program} {T : TT}

/-- One value. -/
def Det (F : (AV → Prop) → Prop) : Prop := ∀ K, F K → ∃ v, F (fun v' => v' = v) ∧ K v

theorem det_one (v : AV) : Det fun K => K v := fun K h => ⟨v, rfl, h⟩
theorem det_all (k : IntKind) (x : Int) : Det fun K => ∀ c, c = x → K (.int k c) := fun K h => ⟨_, by rintro c rfl; rfl, h _ rfl⟩
theorem det_ifA (p : Prop) : Det (ifA p) := fun K h => by
  by_cases hp : p
  · exact ⟨.bool true, ⟨fun _ => rfl, fun hn => absurd hp hn⟩, h.l hp⟩
  · exact ⟨.bool false, ⟨fun hn => absurd hn hp, fun _ => rfl⟩, h.r hp⟩
theorem det_false : Det fun _ => False := fun K h => h.elim
theorem det_and {F : (AV → Prop) → Prop} (p : Prop) (h : Det F) : Det fun K => p ∧ F K := fun K ⟨hp, hF⟩ => by
  obtain ⟨v, h1, h2⟩ := h K hF
  exact ⟨v, ⟨hp, h1⟩, h2⟩
theorem det_when {F : (AV → Prop) → Prop} (b : Bool) (h : Det F) : Det fun K => when b (F K) := by
  cases b
  · exact det_false
  · exact h
theorem det_ex {α : Type} {F : α → (AV → Prop) → Prop} (h : ∀ x, Det (F x)) : Det fun K => ∃ x, F x K := fun K ⟨x, hF⟩ => by
  obtain ⟨v, h1, h2⟩ := h x K hF
  exact ⟨v, ⟨x, h1⟩, h2⟩
theorem det_cond {F G : (AV → Prop) → Prop} (b : Bool) (h : Det F) (k : Det G) : Det fun K => cond b (F K) (G K) := by
  cases b
  · exact k
  · exact h
theorem det_or {F G : (AV → Prop) → Prop} (h : Det F) (k : Det G) : Det fun K => F K ∨ G K := fun K hK => by
  rcases hK with hK | hK
  · obtain ⟨v, h1, h2⟩ := h K hK; exact ⟨v, .inl h1, h2⟩
  · obtain ⟨v, h1, h2⟩ := k K hK; exact ⟨v, .inr h1, h2⟩

theorem det_binI (op : BinOp) (k : IntKind) (x y : Int) : Det (binI op k x y) := by
  cases op
  all_goals first
    | exact det_false
    | exact det_all k _
    | exact det_and _ (det_all k _)
    | exact det_ifA _

theorem det_shiftA (op : BinOp) (k : IntKind) (x y : Int) : Det (shiftA op k x y) := by
  cases op
  all_goals first
    | exact det_false
    | exact det_and _ (det_all k _)

theorem det_neqA (op : BinOp) (p : Prop) : Det (neqA op p) := by
  cases op
  all_goals first
    | exact det_false
    | exact det_ifA _

theorem det_binA (op : BinOp) (d : Option TD) (x y : AV) : Det (binA op d x y) := by
  cases x <;> cases y
  case str.str a b =>
    cases op
    all_goals first
      | exact det_false
      | exact det_and _ (det_one _)
      | exact det_ifA _
  case int.int k a k' b => exact det_cond _ (det_shiftA _ _ _ _) (det_when _ (det_binI _ _ _ _))
  all_goals first
    | exact det_false
    | exact det_when _ (det_neqA _ _)

theorem det_loadA (tr : TR) (a : AV) (H : AH) : Det (loadA tr a H) := by
  cases a
  case cp cells => exact det_cond _ (det_and _ (det_one _)) (det_when _ (det_ex fun x => det_and _ (det_one _)))
  case ptr r v off => exact det_ex fun cells => det_and _ (det_cond _ (det_and _ (det_one _)) (det_when _ (det_ex fun x => det_and _ (det_one _))))
  all_goals exact det_false

theorem det_fieldAddrA (fs : List (Nat × Nat × Bool)) (a : AV) (f : Nat) : Det (fieldAddrA fs a f) := by
  unfold fieldAddrA
  split
  · exact det_one _
  · exact det_and _ (det_one _)
  · exact det_false

theorem det_indexAddrA (d : TD) (x i : AV) : Det (indexAddrA d x i) := by
  unfold indexAddrA
  split
  · exact det_and _ (det_and _ (det_and _ (det_one _)))
  · exact det_when _ (det_and _ (det_and _ (det_one _)))
  · exact det_and _ (det_and _ (det_one _))
  · exact det_and _ (det_and _ (det_and _ (det_one _)))
  · exact det_false

theorem det_indexA (d : TD) (x i : AV) : Det (indexA d x i) := by
  unfold indexA
  split
  · exact det_and _ (det_and _ (det_one _))
  · exact det_and _ (det_and _ (det_and _ (det_when _ (det_one _))))
  · exact det_false

theorem det_sliceA (d : TD) (x : AV) (lo hi mx : Option Int) : Det (sliceA d x lo hi mx) := by
  cases d <;> cases x <;> try exact det_false
  · cases mx <;> cases lo <;> cases hi <;> first | exact det_false | exact det_one _ | exact det_and _ (det_and _ (det_one _)) | exact det_and _ (det_and _ (det_and _ (det_one _)))
  · cases mx <;> cases lo <;> cases hi <;> first | exact det_false | exact det_one _ | exact det_and _ (det_one _) | exact det_and _ (det_and _ (det_one _)) | exact det_and _ (det_and _ (det_and _ (det_one _)))
  · refine det_and _ ?_
    cases mx <;> cases lo <;> cases hi <;> first | exact det_false | exact det_one _ | exact det_and _ (det_one _) | exact det_and _ (det_and _ (det_one _)) | exact det_and _ (det_and _ (det_and _ (det_one _)))
  · refine det_when _ ?_
    cases mx <;> cases lo <;> cases hi <;> first | exact det_false | exact det_one _ | exact det_and _ (det_one _) | exact det_and _ (det_and _ (det_one _)) | exact det_and _ (det_and _ (det_and _ (det_one _)))

def isDetB : Builtin → Bool
  | .len => true
  | _ => false
def isDetT : TD → Bool
  | .int _ => true
  | .str => true
  | _ => false
/-- Operations that leave the heap as it was and have one value. -/
def isDet (T : TT) : Op → Bool
  | .move _ => true
  | .assign _ => true
  | .pick .. => true
  | .load .. => true
  | .nilCheck _ => true
  | .binOp .. => true
  | .unOp .. => true
  | .convert _ d _ => (match T.get d with | some dr => isDetT dr.d | none => false)
  | .slice .. => true
  | .fieldAddr .. => true
  | .field .. => true
  | .indexAddr .. => true
  | .index .. => true
  | .extract .. => true
  | .build .. => true
  | .call c => (match c.callee with | .builtin b => isDetB b | _ => false)
  | _ => false

/-- 'Det', for what speaks of the heap, too. -/
def DetH (H : AH) (F : (AV → AH → Prop) → Prop) : Prop := ∀ K, F K → ∃ v, F (fun v' H' => v' = v ∧ H' = H) ∧ K v H
theorem Det.h {F : (AV → Prop) → Prop} (h : Det F) (H : AH) : DetH H fun K => F fun v => K v H := fun K hK => by
  obtain ⟨v, h1, h2⟩ := h _ hK
  exact ⟨v, by simpa using h1, h2⟩
theorem deth_false (H : AH) : DetH H fun _ => False := fun K h => h.elim

theorem det_forceL (cells : List AV) : Det fun K => (forceL cells fun cells => K (.agg cells)) ∨ K (.agg cells) :=
  det_or (by simp only [forceL_eq]; exact det_one _) (det_one _)

theorem det_lenA (d : Option TD) (x : AV) : Det fun K => lenA d x fun n => K (.int .i64 n) := by
  unfold lenA
  split
  · exact det_one _
  · exact det_one _
  · exact det_one _
  · exact det_one _
  · exact det_false

theorem det_cellsA (esz : Nat) (x : AV) (H : AH) : Det fun K => cellsA esz x H fun _ cells => ∃ bs, cells = u8s bs ∧ K (.str bs) := by
  unfold cellsA
  split
  · exact det_ex fun bs => det_and _ (det_one _)
  · exact det_and _ (det_ex fun bs => det_and _ (det_one _))
  · exact det_when _ (det_ex fun cells => det_and _ (det_and _ (det_ex fun bs => det_and _ (det_one _))))
  · exact det_false

theorem opA_det {o : Op} {e : Env} {K : AV → AH → Prop} (hd : isDet T o = true) (h : opA T o e H K) : ∃ v, opA T o e H (fun v' H' => v' = v ∧ H' = H) ∧ K v H := by
  have key : DetH H (opA T o e H) → ∃ v, opA T o e H (fun v' H' => v' = v ∧ H' = H) ∧ K v H := fun k => k K h
  apply key
  clear key h
  cases o <;> try (cases hd; done)
  case move x => exact (det_one _).h H
  case assign x => exact (det_one _).h H
  case pick c a b =>
    unfold opA
    simp only
    split
    · exact (det_one _).h H
    · exact deth_false H
  case load t a =>
    unfold opA
    simp only
    split
    · exact (det_loadA _ _ _).h H
    · exact deth_false H
  case nilCheck x =>
    unfold opA
    simp only
    split
    · exact (det_one _).h H
    · exact (det_one _).h H
    · exact (det_one _).h H
    · exact deth_false H
  case binOp op t x y r => exact (det_binA _ _ _ _).h H
  case unOp op t x =>
    unfold opA
    simp only
    split
    · exact (det_all _ _).h H
    · exact (det_all _ _).h H
    · exact (det_one _).h H
    · exact deth_false H
  case convert s d x =>
    simp only [isDet] at hd
    unfold opA
    simp only
    split
    · rename_i sr dr hs hdd
      rw [hdd] at hd
      simp only at hd
      unfold convA
      split
      · exact (det_all _ _).h H
      · exact (det_one _).h H
      · rename_i h0 h1 h2; rw [h0] at hd; cases hd
      · exact (det_when _ (det_cellsA _ _ _)).h H
      · exact deth_false H
    · exact deth_false H
  case slice t x lo hi mx =>
    unfold opA
    simp only
    split
    · exact (det_sliceA _ _ _ _ _).h H
    · exact deth_false H
  case fieldAddr t x f =>
    unfold opA
    simp only
    split
    · exact (det_fieldAddrA _ _ _).h H
    · exact deth_false H
  case field t x f =>
    unfold opA
    simp only
    split
    · split
      · exact (det_when _ (det_and _ (det_one _))).h H
      · exact deth_false H
    · exact deth_false H
  case indexAddr t x i =>
    unfold opA
    simp only
    split
    · exact (det_indexAddrA _ _ _).h H
    · exact deth_false H
  case index t x i =>
    unfold opA
    simp only
    split
    · exact (det_indexA _ _ _).h H
    · exact deth_false H
  case extract t i =>
    unfold opA
    simp only
    split
    · split
      · exact (det_one _).h H
      · exact deth_false H
    · exact deth_false H
  case build t parts =>
    unfold opA
    simp only
    split
    · split
      · exact (det_forceL _).h H
      · exact deth_false H
    · split
      · exact (det_forceL _).h H
      · exact deth_false H
    · exact deth_false H
  case call c =>
    simp only [isDet] at hd
    unfold opA
    simp only
    split
    · rename_i b hb
      rw [hb] at hd
      cases b <;> try (cases hd; done)
      unfold builtinA
      split
      · exact (det_lenA _ _).h H
      all_goals first
        | exact deth_false H
        | contradiction
    · exact deth_false H

theorem stepA_opA {o : Op} {e : Env} {K : AV → AH → Prop} (hd : isDet T o = true) (h : opA T o e H K) : stepA P T o e H K := by
  cases o
  case call c =>
    unfold stepA
    simp only
    split
    · rename_i f hf; simp only [isDet, hf] at hd; cases hd
    · exact h
  all_goals exact h

def drawD (N : Nat) (P : Program) (T : TT) (all : Array Oper) (o : Oper) (rest : List Oper) (K : St → AH → Prop) (e : Env) (d : List Nat) (H : AH) : Prop :=
  match o.dst with
  | none => guardA all e o.guard fun b => cond b (∃ v, stepA P T o.op e H (fun v' H' => v' = v ∧ H' = H) ∧ DrawA N P T all rest K ⟨e, d⟩ H) (DrawA N P T all rest K ⟨e, d⟩ H)
  | some t => when (Nat.blt t N) (guardA all e o.guard fun b =>
      cond b (cond (isDet T o.op) (opA T o.op e H fun v _ => force v fun v => DrawA N P T all rest K ⟨upd e t v, d⟩ H) (∃ v, stepA P T o.op e H (fun v' H' => v' = v ∧ H' = H) ∧ force v fun v => DrawA N P T all rest K ⟨upd e t v, d⟩ H)) (DrawA N P T all rest K ⟨upd e t .junk, d⟩ H))

theorem guardA_mono {all : Array Oper} {e : Env} {g : Option (Nat × Bool)} {F G : Bool → Prop} (h : ∀ b, F b → G b) : guardA all e g F → guardA all e g G := by
  intro hF
  match g with
  | none => exact h _ hF
  | some (j, want) =>
    unfold guardA at hF ⊢
    simp only at hF ⊢
    split at hF
    · rename_i t ht
      split at hF
      · exact h _ hF
      · exact hF.elim
    · exact hF.elim

theorem DrawA.consD {N : Nat} {all : Array Oper} {o : Oper} {rest : List Oper} {K : St → AH → Prop} {e : Env} {d : List Nat} (h : drawD N P T all o rest K e d H) : DrawA N P T all (o :: rest) K ⟨e, d⟩ H := by
  refine DrawA.cons ?_
  unfold drawD at h
  unfold drawB
  split
  · rename_i hd; rw [hd] at h; exact h
  · rename_i t hd
    rw [hd] at h
    obtain ⟨h1, h2⟩ := when_iff.1 h
    refine when_iff.2 ⟨h1, guardA_mono (fun b hb => ?_) h2⟩
    cases b with
    | false => exact hb
    | true =>
      simp only [cond_true] at hb ⊢
      cases hD : isDet T o.op with
      | false => rw [hD] at hb; exact hb
      | true =>
        rw [hD] at hb
        obtain ⟨v, h3, h4⟩ := opA_det (K := fun v _ => force v fun v => DrawA N P T all rest K ⟨upd e t v, d⟩ H) hD hb
        exact ⟨v, stepA_opA hD h3, h4⟩
end Go.Fw
