/- The frame of the abstract walk, part 21: regions whose order is drawn, walked as the others. -/
import Derived.Test.YtgmooalikccbiaaFw20
set_option linter.unusedVariables false
set_option linter.unusedSimpArgs false
namespace Go.Fw
open Go.RowKit

variable {H : AH} {P : Program} {T : TT}

def isDetB : Builtin → Bool
  | .len => true
  | _ => false
def isDetT : TD → Bool
  | .int _ => true
  | .str => true
  | _ => false
/-- Operations that leave the heap as it was and have one value. -/
def isDet (T : TT) : Op → Bool
  | .move _ => true
  | .assign _ => true
  | .pick .. => true
  | .load .. => true
  | .nilCheck _ => true
  | .binOp _ _ _ y _ => !isNilS y
  | .unOp .. => true
  | .convert _ d _ => (match T.get d with | some dr => isDetT dr.d | none => false)
  | .slice .. => true
  | .fieldAddr .. => true
  | .field .. => true
  | .indexAddr .. => true
  | .index .. => true
  | .extract .. => true
  | .build .. => true
  | .call c => (match c.callee with | .builtin b => isDetB b | _ => false)
  | _ => false

theorem opA_det {o : Op} {e : Env} {K : AV → AH → Prop} (hd : isDet T o = true) (h : opA T o e H K) : ∃ v, opA T o e H (fun v' H' => v' = v ∧ H' = H) ∧ K v H := by
  have key : DetH H (opA T o e H) → ∃ v, opA T o e H (fun v' H' => v' = v ∧ H' = H) ∧ K v H := fun k => k K h
  apply key
  clear key h
  cases o <;> try (cases hd; done)
  case move x => exact (det_one _).h H
  case assign x => exact (det_one _).h H
  case pick c a b =>
    unfold opA
    simp only
    split
    · exact (det_one _).h H
    · exact deth_false H
  case load t a =>
    unfold opA
    simp only
    split
    · exact (det_loadA _ _ _).h H
    · exact deth_false H
  case nilCheck x =>
    unfold opA
    simp only
    split
    · exact (det_one _).h H
    · exact (det_one _).h H
    · exact (det_one _).h H
    · exact deth_false H
  case binOp op t x y r =>
    simp only [isDet, Bool.not_eq_true'] at hd
    unfold opA
    simp only [hd]
    exact (det_binA _ _ _ _).h H
  case unOp op t x =>
    unfold opA
    simp only
    split
    · exact (det_all _ _).h H
    · exact (det_all _ _).h H
    · exact (det_one _).h H
    · exact deth_false H
  case convert s d x =>
    simp only [isDet] at hd
    unfold opA
    simp only
    split
    · rename_i sr dr hs hdd
      rw [hdd] at hd
      simp only at hd
      unfold convA
      split
      · exact (det_all _ _).h H
      · exact (det_one _).h H
      · rename_i h0 h1 h2; rw [h0] at hd; cases hd
      · exact (det_when _ (det_cellsA _ _ _)).h H
      · exact deth_false H
    · exact deth_false H
  case slice t x lo hi mx =>
    unfold opA
    simp only
    split
    · exact (det_sliceA _ _ _ _ _).h H
    · exact deth_false H
  case fieldAddr t x f =>
    unfold opA
    simp only
    split
    · exact (det_fieldAddrA _ _ _).h H
    · exact deth_false H
  case field t x f =>
    unfold opA
    simp only
    split
    · split
      · exact (det_when _ (det_and _ (det_one _))).h H
      · exact deth_false H
    · exact deth_false H
  case indexAddr t x i =>
    unfold opA
    simp only
    split
    · exact (det_indexAddrA _ _ _).h H
    · exact deth_false H
  case index t x i =>
    unfold opA
    simp only
    split
    · exact (det_indexA _ _ _).h H
    · exact deth_false H
  case extract t i =>
    unfold opA
    simp only
    split
    · split
      · exact (det_one _).h H
      · exact deth_false H
    · exact deth_false H
  case build t parts =>
    unfold opA
    simp only
    split
    · split
      · exact (det_forceL _).h H
      · exact deth_false H
    · split
      · exact (det_forceL _).h H
      · exact deth_false H
    · exact deth_false H
  case call c =>
    simp only [isDet] at hd
    unfold opA
    simp only
    split
    · rename_i b hb
      rw [hb] at hd
      cases b <;> try (cases hd; done)
      unfold builtinA
      split
      · exact (det_lenA _ _).h H
      all_goals first
        | exact deth_false H
        | contradiction
    · exact deth_false H

theorem stepA_opA {o : Op} {e : Env} {K : AV → AH → Prop} (hd : isDet T o = true) (h : opA T o e H K) : stepA P T o e H K := by
  cases o
  case call c =>
    unfold stepA
    simp only
    split
    · rename_i f hf; simp only [isDet, hf] at hd; cases hd
    · exact h
  all_goals exact h

/-- One value and one heap. -/
def Det2 (F : (AV → AH → Prop) → Prop) : Prop := ∀ K, F K → ∃ v H2, F (fun v' H' => v' = v ∧ H' = H2) ∧ K v H2
theorem det2_one (v : AV) (H : AH) : Det2 fun K => K v H := fun K h => ⟨v, H, ⟨rfl, rfl⟩, h⟩
theorem det2_false : Det2 fun _ => False := fun K h => h.elim
theorem det2_and {F : (AV → AH → Prop) → Prop} (p : Prop) (h : Det2 F) : Det2 fun K => p ∧ F K := fun K ⟨hp, hF⟩ => by
  obtain ⟨v, H2, h1, h2⟩ := h K hF
  exact ⟨v, H2, ⟨hp, h1⟩, h2⟩
theorem det2_when {F : (AV → AH → Prop) → Prop} (b : Bool) (h : Det2 F) : Det2 fun K => when b (F K) := by
  cases b
  · exact det2_false
  · exact h
theorem det2_ex {α : Type} {F : α → (AV → AH → Prop) → Prop} (h : ∀ x, Det2 (F x)) : Det2 fun K => ∃ x, F x K := fun K ⟨x, hF⟩ => by
  obtain ⟨v, H2, h1, h2⟩ := h x K hF
  exact ⟨v, H2, ⟨x, h1⟩, h2⟩

def isSlA : List AV → Bool
  | .sl .. :: _ => true
  | _ => false
/-- Operations that change memory, and have one value and one heap. -/
def isDetE (e : Env) : Op → Bool
  | .store .. => true
  | .call c => (match c.callee with | .builtin .append => isSlA (c.args.toList.map (ev e)) | _ => false)
  | _ => false

theorem det2_cellsA {esz : Nat} {x : AV} {F : Nat → List AV → (AV → AH → Prop) → Prop} (h : ∀ n l, Det2 (F n l)) : Det2 fun K => cellsA esz x H fun n l => F n l K := by
  unfold cellsA
  split
  · exact h _ _
  · exact det2_and _ (h _ _)
  · exact det2_when _ (det2_ex fun cells => det2_and _ (det2_and _ (h _ _)))
  · exact det2_false
theorem det2_srcA {esz : Nat} {x : AV} {F : Nat → List AV → (AV → AH → Prop) → Prop} (h : ∀ n l, Det2 (F n l)) : Det2 fun K => srcA esz x H fun n l => F n l K := by
  unfold srcA
  split
  · exact det2_when _ (h _ _)
  · exact det2_cellsA h

theorem opA_detE {o : Op} {e : Env} {K : AV → AH → Prop} (hd : isDetE e o = true) (h : opA T o e H K) : ∃ v H2, opA T o e H (fun v' H' => v' = v ∧ H' = H2) ∧ K v H2 := by
  have key : Det2 (opA T o e H) → ∃ v H2, opA T o e H (fun v' H' => v' = v ∧ H' = H2) ∧ K v H2 := fun k => k K h
  apply key
  clear key h
  cases o <;> try (cases hd; done)
  case store t x y =>
    unfold opA
    simp only
    split
    · unfold storeA
      split
      · refine det2_ex fun cells => det2_and _ (det2_and _ ?_)
        split
        · exact det2_and _ (det2_and _ (det2_one _ _))
        · exact det2_false
      · exact det2_false
    · exact det2_false
  case call c =>
    simp only [isDetE] at hd
    unfold opA
    simp only
    cases hc : c.callee with
    | builtin b =>
      simp only [hc] at hd ⊢
      cases b <;> try (cases hd; done)
      unfold builtinA
      split
      all_goals first
        | exact det2_false
        | contradiction
        | skip
      rename_i s x _ _ hl
      rw [hl] at hd
      split
      all_goals first
        | exact det2_false
        | skip
      all_goals
        unfold appendA
        refine det2_srcA fun n new => det2_and _ ?_
        cases s <;> first
          | exact det2_false
          | (cases hd; done)
          | exact det2_when _ (det2_ex fun cells => det2_and _ (det2_and _ (det2_and _ (det2_one _ _))))
    | value f => rw [hc] at hd; cases hd
    | invoke r m => rw [hc] at hd; cases hd

theorem isDetE_eff {e : Env} {o : Op} (h : isDetE e o = true) : isEff o = true := by
  cases o <;> try (cases h; done)
  · rfl
  · rename_i c
    simp only [isDetE] at h
    simp only [isEff]
    cases hc : c.callee with
    | builtin b => rw [hc] at h; cases b <;> first | rfl | (cases h; done)
    | value f => rw [hc] at h; cases h
    | invoke r m => rw [hc] at h; cases h

theorem stepA_opE {o : Op} {e : Env} {K : AV → AH → Prop} (hd : isDetE e o = true) (h : opA T o e H K) : stepA P T o e H K := by
  cases o
  case call c =>
    unfold stepA
    simp only
    split
    · rename_i f hf; simp only [isDetE, hf] at hd; cases hd
    · exact h
  all_goals exact h

/-- A slice written out, as a constant. -/
def bsA (T : TT) (e : Env) (t : TypeId) (len : Nat) (parts : Array (Nat × Operand)) (K : AV → Prop) : Prop :=
  match T.get t with
  | some ⟨.slice _ esz _ ez, _, _, _⟩ =>
    (match fillA (fun i => some (i * esz, esz)) ((List.replicate len ez).flatten) (parts.toList.map fun p => (p.1, ev e p.2)) with
     | some cells => when (Nat.ble (len * esz) 16777216) (forceL cells fun cells => K (.cs cells len))
     | none => False)
  | _ => False
theorem bsA_ok {e : Env} {t : TypeId} {len : Nat} {parts : Array (Nat × Operand)} {K : AV → Prop} (h : bsA T e t len parts K) : ∃ v, stepA P T (.buildSlice t len parts) e H (fun v' H' => v' = v ∧ H' = H) ∧ K v := by
  unfold bsA at h
  show ∃ v, opA T (.buildSlice t len parts) e H (fun v' H' => v' = v ∧ H' = H) ∧ K v
  simp only [opA]
  split at h
  · rename_i esz _ ez _ _ _ hg
    split at h
    · rename_i cells hf
      obtain ⟨h1, h2⟩ := when_iff.1 h
      rw [forceL_eq] at h2
      refine ⟨.cs cells len, ?_, h2⟩
      simp only [hg, hf]
      refine when_iff.2 ⟨h1, .inl ?_⟩
      rw [forceL_eq]; simp
    · exact h.elim
  · exact h.elim
def drawO (P : Program) (T : TT) (o : Op) (e : Env) (H : AH) (K : AV → Prop) : Prop :=
  match o with
  | .buildSlice t len parts => bsA T e t len parts K
  | o => ∃ v, stepA P T o e H (fun v' H' => v' = v ∧ H' = H) ∧ K v
theorem drawO_ok {o : Op} {e : Env} {K : AV → Prop} (h : drawO P T o e H K) : ∃ v, stepA P T o e H (fun v' H' => v' = v ∧ H' = H) ∧ K v := by
  unfold drawO at h
  split at h
  · exact bsA_ok h
  · exact h

/-- A value that does not hang on memory. -/
def loadC (tr : TR) (a : AV) (K : AV → Prop) : Prop :=
  match a with
  | .cp cells => cond tr.agg (tr.size ≤ cells.length ∧ K (.agg (cells.take tr.size))) (when (Nat.beq tr.size 1) (∃ x, cells[0]? = some x ∧ K x))
  | _ => False
def pureO (P : Program) (T : TT) (o : Op) (e : Env) (K : AV → Prop) : Prop :=
  match o with
  | .load t a => (match T.get t with | some tr => loadC tr (ev e a) K | none => False)
  | o => ∃ v, (∀ G, stepA P T o e G (fun v' H' => v' = v ∧ H' = G)) ∧ K v
theorem det_loadC (tr : TR) (a : AV) : Det (loadC tr a) := by
  unfold loadC
  split
  · exact det_cond _ (det_and _ (det_one _)) (det_when _ (det_ex fun x => det_and _ (det_one _)))
  · exact det_false
theorem loadC_ok {tr : TR} {a : AV} {K : AV → Prop} (h : loadC tr a K) : loadA tr a H K := by
  unfold loadC at h
  split at h
  · exact h
  · exact h.elim
theorem pureO_ok {o : Op} {e : Env} {K : AV → Prop} (h : pureO P T o e K) : ∃ v, (∀ G, stepA P T o e G (fun v' H' => v' = v ∧ H' = G)) ∧ K v := by
  unfold pureO at h
  split at h
  · rename_i t a
    split at h
    · rename_i tr hg
      obtain ⟨v, h1, h2⟩ := det_loadC _ _ _ h
      refine ⟨v, fun G => ?_, h2⟩
      show opA T (.load t a) e G (fun v' H' => v' = v ∧ H' = G)
      simp only [opA, hg]
      simpa using loadC_ok (H := G) h1
    · exact h.elim
  · exact h

def drawD (N : Nat) (P : Program) (T : TT) (M : Mk) (all : Array Oper) (o : Oper) (rest : List Oper) (K : St → AH → Prop) (e : Env) (d : List Nat) (H : AH) : Prop :=
  match o.dst with
  | none => guardA all e o.guard fun b => cond b (cond (isDetE e o.op) (opA T o.op e H fun _ H' => DrawA N P T M all rest K ⟨e, d⟩ H') (∃ v, stepA P T o.op e H (fun v' H' => v' = v ∧ H' = H) ∧ DrawA N P T M all rest K ⟨e, d⟩ H)) (DrawA N P T M all rest K ⟨e, d⟩ H)
  | some t => when (Nat.blt t N) (guardA all e o.guard fun b =>
      cond b (cond (inM M.2 o.dst) (pureO P T o.op e fun v => force v fun v => DrawA N P T M all rest K ⟨upd e t v, d⟩ H)
        (cond (inM M.1 o.dst) (∃ v H2, stepA P T o.op e H (fun v' H' => v' = v ∧ H' = H2) ∧ force v fun v => DrawA N P T M all rest K ⟨upd e t v, d⟩ H2)
        (cond (isDet T o.op) (opA T o.op e H fun v _ => force v fun v => DrawA N P T M all rest K ⟨upd e t v, d⟩ H)
        (cond (isDetE e o.op) (opA T o.op e H fun v H' => force v fun v => DrawA N P T M all rest K ⟨upd e t v, d⟩ H')
          (drawO P T o.op e H fun v => force v fun v => DrawA N P T M all rest K ⟨upd e t v, d⟩ H))))) (DrawA N P T M all rest K ⟨upd e t (.tup []), d⟩ H))

theorem guardA_mono {all : Array Oper} {e : Env} {g : Option (Nat × Bool)} {F G : Bool → Prop} (h : ∀ b, F b → G b) : guardA all e g F → guardA all e g G := by
  intro hF
  match g with
  | none => exact h _ hF
  | some (j, want) =>
    unfold guardA at hF ⊢
    simp only at hF ⊢
    split at hF
    · rename_i t ht
      split at hF
      · exact h _ hF
      · exact h _ hF
      · exact hF.elim
    · exact hF.elim

theorem inM_none (l : List Nat) : inM l none = false := by cases l <;> rfl
theorem DrawA.consD {N : Nat} {M : Mk} {all : Array Oper} {o : Oper} {rest : List Oper} {K : St → AH → Prop} {e : Env} {d : List Nat} (h : drawD N P T M all o rest K e d H) : DrawA N P T M all (o :: rest) K ⟨e, d⟩ H := by
  refine DrawA.cons ?_
  unfold drawD at h
  unfold drawB
  split
  · rename_i hd
    rw [hd] at h
    refine guardA_mono (fun b hb => ?_) h
    cases b with
    | false => exact hb
    | true =>
      simp only [cond_true] at hb ⊢
      have hm : inM M.2 o.dst = true → ∀ {p : Prop}, p := fun h => by rw [hd, inM_none] at h; cases h
      cases hE : isDetE e o.op with
      | true =>
        rw [hE] at hb
        obtain ⟨v, H2, h1, h2⟩ := opA_detE (K := fun _ H' => DrawA N P T M all rest K ⟨e, d⟩ H') hE hb
        refine ⟨v, H2, stepA_opE hE h1, ?_, fun h => hm h, h2⟩
        intro h; unfold isEffM at h; rw [isDetE_eff hE] at h; cases h
      | false =>
        rw [hE] at hb
        obtain ⟨v, h1, h2⟩ := hb
        exact ⟨v, H, h1, fun _ => rfl, fun h => hm h, h2⟩
  · rename_i t hd
    rw [hd] at h
    obtain ⟨h1, h2⟩ := when_iff.1 h
    refine when_iff.2 ⟨h1, guardA_mono (fun b hb => ?_) h2⟩
    cases b with
    | false => exact hb
    | true =>
      simp only [cond_true] at hb ⊢
      cases hM : inM M.2 (some t) with
      | true =>
        rw [hM] at hb
        obtain ⟨v, h3, h4⟩ := pureO_ok hb
        exact ⟨v, H, h3 H, fun _ => rfl, fun _ => h3, h4⟩
      | false =>
      rw [hM] at hb
      simp only [cond_false] at hb
      have hm : inM M.2 o.dst = true → ∀ {p : Prop}, p := fun h => by rw [hd, hM] at h; cases h
      cases hN : inM M.1 (some t) with
      | true =>
        rw [hN] at hb
        obtain ⟨v, H2, h3, h4⟩ := hb
        refine ⟨v, H2, h3, fun h => ?_, fun h => hm h, h4⟩
        unfold isEffM at h; rw [hd, hN, Bool.or_true] at h; cases h
      | false =>
      rw [hN] at hb
      simp only [cond_false] at hb
      cases hD : isDet T o.op with
      | true =>
        rw [hD] at hb
        obtain ⟨v, h3, h4⟩ := opA_det (K := fun v _ => force v fun v => DrawA N P T M all rest K ⟨upd e t v, d⟩ H) hD hb
        exact ⟨v, H, stepA_opA hD h3, fun _ => rfl, fun h => hm h, h4⟩
      | false =>
        rw [hD] at hb
        cases hE : isDetE e o.op with
        | true =>
          rw [hE] at hb
          obtain ⟨v, H2, h3, h4⟩ := opA_detE (K := fun v H' => force v fun v => DrawA N P T M all rest K ⟨upd e t v, d⟩ H') hE hb
          refine ⟨v, H2, stepA_opE hE h3, ?_, fun h => hm h, h4⟩
          intro h; unfold isEffM at h; rw [isDetE_eff hE] at h; cases h
        | false =>
          rw [hE] at hb
          obtain ⟨v, h3, h4⟩ := drawO_ok (H := H) hb
          exact ⟨v, H, h3, fun _ => rfl, fun h => hm h, h4⟩
end Go.Fw
