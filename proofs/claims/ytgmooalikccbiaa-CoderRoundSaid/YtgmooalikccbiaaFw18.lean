/- The frame of the abstract walk, part 18: whatever the order (the end). -/
import Derived.Test.YtgmooalikccbiaaFw17
set_option linter.unusedVariables false
set_option linter.unusedSimpArgs false
namespace Go.Fw
open Go.RowKit

variable {κ : KM} {F : FM} {B : Nat} {w0 w : World} {H : AH} {P : Program} {T : TT}

theorem blt_of {i j : Nat} (h : i < j) : Nat.blt i j = true := by simpa [Nat.blt_eq] using h
theorem lt_of_blt {i j : Nat} (h : Nat.blt i j = true) : i < j := by simpa [Nat.blt_eq] using h

theorem map_ev {e e' : Env} {xs : Array Operand} (h : ∀ x, x ∈ xs → ev e x = ev e' x) : xs.toList.map (ev e) = xs.toList.map (ev e') := List.map_congr_left fun x hx => h x (by simpa using hx)

theorem map_parts {e e' : Env} {ps : Array (Nat × Operand)} (h : ∀ x, x ∈ (ps.toList.map (·.2)).toArray → ev e x = ev e' x) : (ps.toList.map fun p => (p.1, ev e p.2)) = ps.toList.map fun p => (p.1, ev e' p.2) :=
  List.map_congr_left fun p hp => by rw [h p.2 (by simp only [List.mem_toArray, List.mem_map]; exact ⟨p, hp, rfl⟩)]

theorem optOf_congr {e e' : Env} {x : Option Operand} (h : ∀ y, x = some y → ev e y = ev e' y) : optOf e x = optOf e' x := by
  cases x with
  | none => rfl
  | some y => simp only [optOf, h y rfl]

theorem stepA_congr {o : Op} {e e' : Env} {K : AV → AH → Prop} (h : ∀ x, x ∈ o.operands → ev e x = ev e' x) : stepA P T o e H K = stepA P T o e' H K := by
  cases o with
  | call c =>
    have ha := map_ev (e := e) (e' := e') (xs := c.args) (fun x hx => h x (by simp only [Op.operands, Call.operands]; exact Array.mem_append_right _ hx))
    unfold stepA
    simp only
    cases hc : c.callee with
    | value f =>
      have hf := h f (by simp [Op.operands, Call.operands, hc])
      simp only [ha, hf]
    | builtin b => simp only [opA, hc, ha]
    | invoke r m => simp only [opA, hc]
  | move x => simp only [stepA, opA, h x (by simp [Op.operands])]
  | assign x => simp only [stepA, opA, h x (by simp [Op.operands])]
  | pick c a b => simp only [stepA, opA, h c (by simp [Op.operands]), h a (by simp [Op.operands]), h b (by simp [Op.operands])]
  | alloc t => rfl
  | box t x => simp only [stepA, opA, h x (by simp [Op.operands])]
  | build t ps => simp only [stepA, opA, map_parts (e := e) (e' := e') (ps := ps) h]
  | buildSlice t n ps => simp only [stepA, opA, map_parts (e := e) (e' := e') (ps := ps) h]
  | load t x => simp only [stepA, opA, h x (by simp [Op.operands])]
  | store t x y => simp only [stepA, opA, h x (by simp [Op.operands]), h y (by simp [Op.operands])]
  | nilCheck x => simp only [stepA, opA, h x (by simp [Op.operands])]
  | binOp op t x y u => simp only [stepA, opA, h x (by simp [Op.operands]), h y (by simp [Op.operands])]
  | unOp op t x => simp only [stepA, opA, h x (by simp [Op.operands])]
  | convert s d x => simp only [stepA, opA, h x (by simp [Op.operands])]
  | makeFunc f p c => simp only [stepA, opA, map_ev (e := e) (e' := e') (xs := p) (fun x hx => h x (by simp only [Op.operands]; exact Array.mem_append_left _ hx)), map_ev (e := e) (e' := e') (xs := c) (fun x hx => h x (by simp only [Op.operands]; exact Array.mem_append_right _ hx))]
  | makeSlice t x y => simp only [stepA, opA, h x (by simp [Op.operands]), h y (by simp [Op.operands])]
  | slice t x lo hi mx =>
    have h1 : optOf e lo = optOf e' lo := optOf_congr fun y hy => h y (by simp [Op.operands, hy])
    have h2 : optOf e hi = optOf e' hi := optOf_congr fun y hy => h y (by simp [Op.operands, hy])
    have h3 : optOf e mx = optOf e' mx := optOf_congr fun y hy => h y (by simp [Op.operands, hy])
    simp only [stepA, opA, h x (by simp [Op.operands]), h1, h2, h3]
  | fieldAddr t x f => simp only [stepA, opA, h x (by simp [Op.operands])]
  | field t x f => simp only [stepA, opA, h x (by simp [Op.operands])]
  | indexAddr t x i => simp only [stepA, opA, h x (by simp [Op.operands]), h i (by simp [Op.operands])]
  | index t x i => simp only [stepA, opA, h x (by simp [Op.operands]), h i (by simp [Op.operands])]
  | extract x i => simp only [stepA, opA, h x (by simp [Op.operands])]
  | _ => rfl

theorem guardA_elim {all : Array Oper} {e : Env} {g : Option (Nat × Bool)} {K : Bool → Prop} (h : guardA all e g K) : ∃ b, K b ∧ ∀ (e' : Env), (∀ j want d, g = some (j, want) → (all[j]?).bind (·.dst) = some d → e' d = e d) → ∀ K' : Bool → Prop, K' b → guardA all e' g K' := by
  unfold guardA at h
  split at h
  · exact ⟨true, h, fun e' _ K' hk => hk⟩
  · rename_i j want
    split at h
    · rename_i d hd
      split at h
      · rename_i b hb
        refine ⟨b == want, h, fun e' he K' hk => ?_⟩
        unfold guardA
        simp only [hd, he j want d rfl hd, hb]
        exact hk
      · rename_i hb
        refine ⟨false, h, fun e' he K' hk => ?_⟩
        unfold guardA
        simp only [hd, he j want d rfl hd, hb]
        exact hk
      · exact h.elim
    · exact h.elim

/-- What a chain of operations, each of one value, comes to. -/
def Chain (N : Nat) (P : Program) (T : TT) (M : Mk) (all : Array Oper) (K : St → AH → Prop) : List Oper → List (AV × AH) → St → AH → Prop
  | [], [], s, H => K s H
  | o :: l, v :: vs, s, H => (dstOk N o.dst = true ∧ guardA all s.e o.guard fun b => cond b (stepA P T o.op s.e H (fun v' H' => v' = v.1 ∧ H' = v.2) ∧ (isEffM M o = false → v.2 = H) ∧ (inM M.2 o.dst = true → ∀ G, stepA P T o.op s.e G (fun v' H' => v' = v.1 ∧ H' = G))) (v.1 = .tup [] ∧ v.2 = H)) ∧ Chain N P T M all K l vs (putS s o.dst v.1) v.2
  | _, _, _, _ => False

theorem chain_of {N : Nat} {M : Mk} {all : Array Oper} {K : St → AH → Prop} : ∀ (l : List Oper) (s : St) (H : AH), drawS N P T M all l K s H → ∃ vs, Chain N P T M all K l vs s H
  | [], s, H, h => ⟨[], h⟩
  | o :: l, s, H, h => by
    obtain ⟨hd, h⟩ := when_iff.1 h
    obtain ⟨b, hb, hg⟩ := guardA_elim h
    have hg := hg s.e (fun _ _ _ _ _ => rfl)
    cases b with
    | true =>
      obtain ⟨v, H2, h1, h3, h4, h2⟩ := hb
      obtain ⟨vs, hc⟩ := chain_of l _ _ h2
      exact ⟨(v, H2) :: vs, ⟨hd, hg (fun b => cond b (stepA P T o.op s.e H (fun v' H' => v' = v ∧ H' = H2) ∧ (isEffM M o = false → H2 = H) ∧ (inM M.2 o.dst = true → ∀ G, stepA P T o.op s.e G (fun v' H' => v' = v ∧ H' = G))) (v = .tup [] ∧ H2 = H)) ⟨h1, h3, h4⟩⟩, hc⟩
    | false =>
      obtain ⟨vs, hc⟩ := chain_of l _ _ hb
      exact ⟨(.tup [], H) :: vs, ⟨hd, hg (fun b => cond b (stepA P T o.op s.e H (fun v' H' => v' = .tup [] ∧ H' = H) ∧ (isEffM M o = false → H = H) ∧ (inM M.2 o.dst = true → ∀ G, stepA P T o.op s.e G (fun v' H' => v' = .tup [] ∧ H' = G))) (AV.tup [] = .tup [] ∧ H = H)) ⟨rfl, rfl⟩⟩, hc⟩

def dstF (l : List Oper) (k : Nat) : Option Nat := (l[k]?).bind (·.dst)
def valF (vs : List AV) (k : Nat) : AV := vs.getD k .junk
/-- The heap ahead of operation k. -/
def hpF : AH → List AH → Nat → AH
  | H, _, 0 => H
  | H, [], _ + 1 => H
  | _, h :: hs, k + 1 => hpF h hs k

theorem lookE_cons (o : Oper) (l : List Oper) (v : AV) (vs : List AV) (e : Env) : ∀ k, lookE (dstF (o :: l)) (valF (v :: vs)) e (fun _ => true) (k + 1) = lookE (dstF l) (valF vs) (putA e o.dst v) (fun _ => true) k
  | 0 => by simp [lookE, dstF, valF]
  | k + 1 => by
    have ih := lookE_cons o l v vs e k
    simp only [lookE, cond_true] at ih ⊢
    rw [ih]
    simp [dstF, valF]

theorem hpF_zero (H : AH) (hs : List AH) : hpF H hs 0 = H := by cases hs <;> rfl
theorem hpF_cons (H h : AH) (hs : List AH) (k : Nat) : hpF H (h :: hs) (k + 1) = hpF h hs k := rfl

theorem chain_spec {N : Nat} {M : Mk} {all : Array Oper} {K : St → AH → Prop} : ∀ (l : List Oper) (vs : List (AV × AH)) (s : St) (H : AH), Chain N P T M all K l vs s H → vs.length = l.length ∧
    (∀ j o, l[j]? = some o → dstOk N o.dst = true ∧ guardA all (lookE (dstF l) (valF (vs.map (·.1))) s.e (fun _ => true) j) o.guard fun b =>
      cond b (stepA P T o.op (lookE (dstF l) (valF (vs.map (·.1))) s.e (fun _ => true) j) (hpF H (vs.map (·.2)) j) (fun v' H' => v' = valF (vs.map (·.1)) j ∧ H' = hpF H (vs.map (·.2)) (j + 1)) ∧ (isEffM M o = false → hpF H (vs.map (·.2)) (j + 1) = hpF H (vs.map (·.2)) j) ∧ (inM M.2 o.dst = true → ∀ G, stepA P T o.op (lookE (dstF l) (valF (vs.map (·.1))) s.e (fun _ => true) j) G (fun v' H' => v' = valF (vs.map (·.1)) j ∧ H' = G)))
        (valF (vs.map (·.1)) j = .tup [] ∧ hpF H (vs.map (·.2)) (j + 1) = hpF H (vs.map (·.2)) j)) ∧
    K ⟨lookE (dstF l) (valF (vs.map (·.1))) s.e (fun _ => true) l.length, s.d⟩ (hpF H (vs.map (·.2)) l.length)
  | [], [], s, H, h => ⟨rfl, fun j o h => by simp at h, h⟩
  | [], _ :: _, s, H, h => h.elim
  | _ :: _, [], s, H, h => h.elim
  | o :: l, (v, h2) :: vs, s, H, h => by
    obtain ⟨h1, h2'⟩ := h
    obtain ⟨hl, ih1, ih2⟩ := chain_spec l vs _ _ h2'
    refine ⟨by simp [hl], fun j o' hj => ?_, ?_⟩
    · cases j with
      | zero =>
        simp at hj; subst hj
        simp only [List.map_cons, hpF_cons, hpF_zero]
        exact h1
      | succ j =>
        have := ih1 j o' (by simpa using hj)
        simp only [List.map_cons]
        rw [lookE_cons, hpF_cons, hpF_cons]
        simpa [valF, putS] using this
    · simp only [List.map_cons]
      rw [List.length_cons, lookE_cons, hpF_cons]; exact ih2

theorem orderOk_low {all : Array Oper} (h : orderOk all = true) : ∀ j o, all[j]? = some o → ∀ e ∈ o.after.toList, Region.binds .any e = true → e.on < j := by
  intro j o ho e he hb
  have hj : j < all.size := (Array.getElem?_eq_some_iff.1 ho).1
  unfold orderOk at h
  have hj' := List.all_eq_true.1 h j (by simpa using hj)
  cases hd : (all[j]?).bind (·.dst) with
  | none =>
    rw [hd] at hj'
    simp only [ho] at hj'
    have := List.all_eq_true.1 hj' e he
    simpa [hb, Nat.blt_eq] using this
  | some t =>
    rw [hd] at hj'
    have := List.all_eq_true.1 hj' j (by simpa using hj)
    simp only [ho, Bool.and_eq_true] at this
    have := List.all_eq_true.1 this.1 e he
    simpa [hb, Nat.blt_eq] using this

theorem orderOk_spec {all : Array Oper} (h : orderOk all = true) {i j t : Nat} {o : Oper} (hi : (all[i]?).bind (·.dst) = some t) (ho : all[j]? = some o) (hl : t ∈ looks all o ∨ o.dst = some t) (hne : i ≠ j) :
    (i < j → ((aheadOf all).getD j 0).testBit i = true) ∧ (j < i → ((aheadOf all).getD i 0).testBit j = true) := by
  have hj : j < all.size := (Array.getElem?_eq_some_iff.1 ho).1
  have hil : i < all.size := by
    cases hx : all[i]? with
    | none => rw [hx] at hi; simp at hi
    | some x => exact (Array.getElem?_eq_some_iff.1 hx).1
  unfold orderOk at h
  have h1 := List.all_eq_true.1 h i (by simpa using hil)
  rw [hi] at h1
  have h2 := List.all_eq_true.1 h1 j (by simpa using hj)
  simp only [ho, Bool.and_eq_true, Bool.or_eq_true, beq_iff_eq, Bool.not_eq_true'] at h2
  have h3 : ((looks all o).contains t || o.dst == some t) = true := by
    rcases hl with h | h
    · simp [h]
    · simp [h]
  rcases h2.2 with (h4 | h4) | h4
  · exact absurd h4 hne
  · rw [h3] at h4; cases h4
  · refine ⟨fun hlt => ?_, fun hlt => ?_⟩
    · rw [blt_of hlt] at h4; exact h4
    · have : Nat.blt i j = false := by cases hb : Nat.blt i j with
        | false => rfl
        | true => have := lt_of_blt hb; omega
      rw [this] at h4; exact h4

/-- The set of what has been carried out. -/
def doneP (listed : Array Bool) (n : Nat) : Nat → Bool := fun k => Nat.blt k n && listed.getD k false

theorem wpAnyIn_mono {G : Fence} {n : Nat} {md : Region.Mode} {all : Array Oper} {Q Q' : Exit → Act → World → Prop} (hq : ∀ e a w, Q e a w → Q' e a w) : ∀ (fuel : Nat) (listed : Array Bool) (a : Act) (w : World), wpAnyIn G n P md all Q fuel listed a w → wpAnyIn G n P md all Q' fuel listed a w
  | 0, _, _, _, h => ⟨h.1, hq _ _ _ h.2⟩
  | fuel + 1, listed, a, w, h => by
    refine ⟨fun hr => hq _ _ _ (h.1 hr), fun i hi => ?_⟩
    have := h.2 i hi
    unfold wpOpIn at this ⊢
    split
    · rename_i ho; rw [ho] at this; exact wpAnyIn_mono hq fuel _ _ _ this
    · rename_i o ho
      rw [ho] at this
      simp only at this
      split
      · rename_i hw; rw [if_pos hw] at this; exact operWpIn_mono (fun a w => wpAnyIn_mono hq fuel _ a w) hq this
      · rename_i hw; rw [if_neg hw] at this; exact ⟨this.1, wpAnyIn_mono hq fuel _ _ _ this.2⟩

def effF (M : Mk) (ops : Array Oper) : Nat → Bool := fun i => match ops[i]? with | some o => isEffM M o | none => false
/-- The heap, of what has been carried out. -/
def lookH (H : AH) (hs : List AH) (eff D : Nat → Bool) : Nat → AH
  | 0 => H
  | k + 1 => cond (D k && eff k) (hpF H hs (k + 1)) (lookH H hs eff D k)

theorem lookH_up {H : AH} {hs : List AH} {eff D : Nat → Bool} {i : Nat} : ∀ n, i ≤ n → (∀ j, i ≤ j → j < n → eff j = true → D j = false) → lookH H hs eff D n = lookH H hs eff D i
  | 0, hi, _ => by have : i = 0 := by omega
                   rw [this]
  | n + 1, hi, h => by
    by_cases e : i = n + 1
    · rw [e]
    · have : (D n && eff n) = false := by
        cases he : eff n with
        | false => simp
        | true => rw [h n (by omega) (by omega) he]; rfl
      simp only [lookH, this, cond_false]
      exact lookH_up n (by omega) (fun j h1 h2 => h j h1 (by omega))

theorem lookH_lo {H : AH} {hs : List AH} {eff D : Nat → Bool} : ∀ i, (∀ j, j < i → eff j = true → D j = true) → (∀ j, j < i → eff j = false → hpF H hs (j + 1) = hpF H hs j) → lookH H hs eff D i = hpF H hs i
  | 0, _, _ => by cases hs <;> rfl
  | i + 1, h1, h2 => by
    simp only [lookH]
    cases he : eff i with
    | true => rw [h1 i (by omega) he]; rfl
    | false =>
      rw [h2 i (by omega) he, Bool.and_false]
      exact lookH_lo i (fun j hj => h1 j (by omega)) (fun j hj => h2 j (by omega))

theorem lookH_same {H : AH} {hs : List AH} {eff D D' : Nat → Bool} (h : ∀ k, eff k = true → D' k = D k) : ∀ n, lookH H hs eff D' n = lookH H hs eff D n
  | 0 => rfl
  | n + 1 => by
    simp only [lookH]
    cases he : eff n with
    | true => rw [h n he, lookH_same h n]
    | false => simp only [Bool.and_false, cond_false]; exact lookH_same h n

theorem stepA_pure {o : Op} {e : Env} {K : AV → AH → Prop} (hp : isPure T o = true) : stepA P T o e H K = opA T o e H K := by
  cases o <;> try rfl
  rename_i c
  simp only [isPure] at hp
  unfold stepA
  simp only
  cases hc : c.callee with
  | builtin b => rfl
  | value f => rw [hc] at hp; cases hp
  | invoke r m => rfl

theorem effOk_spec {M : Mk} {ops : Array Oper} (h : effOk T M ops = true) {i j : Nat} {oi oj : Oper} (hi : ops[i]? = some oi) (hj : ops[j]? = some oj) (hlt : i < j) (he : isEffM M oi = true ∨ isEffM M oj = true) (hpi : isPureM T M oi = false) (hpj : isPureM T M oj = false) :
    ((aheadOf ops).getD j 0).testBit i = true := by
  have hjl : j < ops.size := (Array.getElem?_eq_some_iff.1 hj).1
  unfold effOk at h
  have h1 := List.all_eq_true.1 h j (by simpa using hjl)
  have h2 := List.all_eq_true.1 h1 i (by simpa using hlt)
  simp only [hi, hj, hpi, hpj, Bool.false_or, Bool.or_eq_true, Bool.not_eq_true', Bool.or_eq_false_iff] at h2
  rcases h2 with h2 | h2
  · rcases he with he | he
    · rw [h2.1] at he; cases he
    · rw [h2.2] at he; cases he
  · exact h2

theorem any_ok (hT : T.ok P = true) (ro : Option Nat) {N : Nat} {M : Mk} {ws : Nat → Bool} {ops : Array Oper} {K R : St → AH → Prop} {X : Nat → St → AH → Prop} {s : St} {vs : List (AV × AH)} (hord : orderOk ops = true) (heff : effOk T M ops = true) (hws : ∀ t, t ∈ dstsOf ops.toList → ws t = true)
    (hch : Chain N P T M ops K ops.toList vs s H) : ∀ (fuel : Nat) (listed : Array Bool) (κ : KM) (F : FM) (w : World) (a : Act), listed.size = ops.size → (∀ j, doneP listed ops.size j = true → Waited ops (doneP listed ops.size) j) →
      ((List.range ops.size).filter fun k => !doneP listed ops.size k).length = fuel → Inv κ F B w0 (lookH H (vs.map (·.2)) (effF M ops) (doneP listed ops.size) ops.size) w →
      ER κ F N ⟨lookE (dstF ops.toList) (valF (vs.map (·.1))) s.e (doneP listed ops.size) ops.size, s.d⟩ a → wpAnyIn (fence ro) 0 P .any ops (QOk κ F B w0 N ws s K R X) fuel listed a w := by
  obtain ⟨_, hstep, hend⟩ := chain_spec ops.toList vs s H hch
  generalize vs.map (·.1) = VS at *
  generalize vs.map (·.2) = HS at *
  have hne : ∀ j, j < ops.size → effF M ops j = false → hpF H HS (j + 1) = hpF H HS j := by
    intro j hj he
    have ho : ops.toList[j]? = some ops[j] := by simp [hj]
    obtain ⟨_, hg⟩ := hstep j ops[j] ho
    obtain ⟨b, hb, _⟩ := guardA_elim hg
    have he' : isEffM M (ops[j]) = false := by
      unfold effF at he; simpa [hj] using he
    cases b with
    | true => exact hb.2.1 he'
    | false => exact hb.2
  have hlow := orderOk_low hord
  have hdst : ∀ k, dstF ops.toList k = (ops[k]?).bind (·.dst) := fun k => by simp [dstF]
  have hagree : ∀ p : Nat → Bool, Agree ws s ⟨lookE (dstF ops.toList) (valF VS) s.e p ops.size, s.d⟩ := by
    intro p t ht
    show lookE _ _ _ p ops.size t = s.e t
    have : ∀ n, lookE (dstF ops.toList) (valF VS) s.e p n t = s.e t := by
      intro n
      induction n with
      | zero => rfl
      | succ n ih =>
        simp only [lookE]
        cases p n with
        | false => exact ih
        | true =>
          have hne : dstF ops.toList n ≠ some t := by
            intro e
            have : t ∈ dstsOf ops.toList := by
              simp only [dstF] at e
              cases hx : ops.toList[n]? with
              | none => rw [hx] at e; simp at e
              | some o =>
                rw [hx] at e
                simp at e
                exact List.mem_filterMap.2 ⟨o, List.mem_of_getElem? hx, e⟩
            rw [hws t this] at ht; cases ht
          simp only [cond_true, putA_ne _ _ _ hne, ih]
    exact this _
  have ready : ∀ (listed : Array Bool), listed.size = ops.size → ∀ i, i ∈ Region.ready .any ops listed → i < ops.size ∧ doneP listed ops.size i = false ∧ Waited ops (doneP listed ops.size) i := by
    intro listed hsz i hi
    simp only [Region.ready, List.mem_filter, List.mem_range, Bool.and_eq_true, Bool.not_eq_true'] at hi
    obtain ⟨hi, hl, ha⟩ := hi
    have hdone : doneP listed ops.size i = false := by
      have e : listed.getD i false = listed.getD i true := by simp [Array.getD_eq_getD_getElem?, show i < listed.size by omega]
      simp [doneP, e, hl]
    refine ⟨hi, hdone, fun o ho e he hb => ?_⟩
    rw [ho] at ha
    simp only [Option.map_some, Option.getD_some] at ha
    have := Array.all_eq_true'.1 ha e (by simpa using he)
    simp only [hb, Bool.not_true, Bool.false_or] at this
    have hlt := hlow i o ho e he hb
    simp [doneP, this, blt_of (show e.on < ops.size by omega)]
  intro fuel
  induction fuel with
  | zero =>
    intro listed κ F w a hsz hcl hcount I hE
    have hall : ∀ k, k < ops.size → doneP listed ops.size k = true := by
      intro k hk
      cases hd : doneP listed ops.size k with
      | true => rfl
      | false =>
        have : k ∈ (List.range ops.size).filter fun k => !doneP listed ops.size k := by simp [hk, hd]
        rw [List.length_eq_zero_iff.1 hcount] at this
        cases this
    refine ⟨?_, ?_⟩
    · cases hr : Region.ready .any ops listed with
      | nil => rfl
      | cons i r =>
        obtain ⟨h1, h2, _⟩ := ready listed hsz i (by rw [hr]; simp)
        rw [hall i h1] at h2; cases h2
    · have heq : lookE (dstF ops.toList) (valF VS) s.e (doneP listed ops.size) ops.size = lookE (dstF ops.toList) (valF VS) s.e (fun _ => true) ops.size := by
        funext t; exact lookE_congr _ (fun k hk _ => hall k hk)
      have hH : lookH H HS (effF M ops) (doneP listed ops.size) ops.size = hpF H HS ops.size := lookH_lo _ (fun j hj _ => hall j hj) hne
      refine ⟨_, _, κ, F, KLe.refl _, FLe.refl _, I, hE, hagree _, ?_⟩
      rw [heq, hH]
      simpa using hend
  | succ fuel ih =>
    intro listed κ F w a hsz hcl hcount I hE
    refine ⟨fun hr => ?_, fun i hi => ?_⟩
    · -- somebody is ready
      exfalso
      obtain ⟨k, hk⟩ : ∃ k, k ∈ (List.range ops.size).filter fun k => !doneP listed ops.size k := by
        cases hx : (List.range ops.size).filter fun k => !doneP listed ops.size k with
        | nil => rw [hx] at hcount; simp at hcount
        | cons k _ => exact ⟨k, by simp⟩
      have key : ∀ k, k < ops.size → doneP listed ops.size k = false → False := by
        intro k
        induction k using Nat.strongRecOn with
        | _ k ih2 =>
          intro hk hd
          have : k ∈ Region.ready .any ops listed := by
            simp only [Region.ready, List.mem_filter, List.mem_range, Bool.and_eq_true, Bool.not_eq_true']
            refine ⟨hk, ?_, ?_⟩
            · simp only [doneP, blt_of hk, Bool.true_and] at hd
              have e : listed.getD k false = listed.getD k true := by simp [Array.getD_eq_getD_getElem?, show k < listed.size by omega]
              rw [← e]; exact hd
            · have ho : ops[k]? = some ops[k] := by simp [hk]
              rw [ho]
              simp only [Option.map_some, Option.getD_some]
              refine Array.all_eq_true'.2 fun e he => ?_
              cases hb : Region.binds .any e with
              | false => rfl
              | true =>
                have hlt := hlow k _ ho e (by simpa using he) hb
                cases hd' : doneP listed ops.size e.on with
                | false => exact (ih2 e.on hlt (by omega) hd').elim
                | true => simp only [doneP, Bool.and_eq_true] at hd'; simp [hd'.2]
          rw [hr] at this; cases this
      simp only [List.mem_filter, List.mem_range, Bool.not_eq_true'] at hk
      exact key k hk.1 hk.2
    · obtain ⟨hil, hdi, hwi⟩ := ready listed hsz i hi
      have ho : ops[i]? = some ops[i] := by simp [hil]
      obtain ⟨o, rfl⟩ : ∃ o, o = ops[i] := ⟨_, rfl⟩
      obtain ⟨hdst0, hg⟩ := hstep i ops[i] (by simp [hil])
      have hahead := ahead_done hlow hcl i hil hwi
      -- what the operation looks at stands there
      have sees : ∀ t, t ∈ looks ops ops[i] → lookE (dstF ops.toList) (valF VS) s.e (doneP listed ops.size) ops.size t = lookE (dstF ops.toList) (valF VS) s.e (fun _ => true) i t := by
        intro t ht
        refine lookE_lt ops.size (by omega) (fun k hk hkd => ?_)
        rw [hdst] at hkd
        by_cases hki : k = i
        · subst hki; constructor
          · intro h; rw [hdi] at h; cases h
          · intro h; omega
        · obtain ⟨h1, h2⟩ := orderOk_spec hord hkd ho (.inl ht) hki
          constructor
          · intro hp
            rcases Nat.lt_or_ge k i with hlt | hge
            · exact hlt
            · have := ahead_done hlow hcl k hk (hcl k hp) i (h2 (by omega))
              rw [hdi] at this; cases this
          · intro hlt; exact hahead k (h1 hlt)
      have hev : ∀ x, x ∈ (ops[i]).op.operands → ev (lookE (dstF ops.toList) (valF VS) s.e (fun _ => true) i) x = ev (lookE (dstF ops.toList) (valF VS) s.e (doneP listed ops.size) ops.size) x := by
        intro x hx
        cases x with
        | tmp t => exact (sees t (List.mem_append_left _ (List.mem_filterMap.2 ⟨.tmp t, by simpa using hx, rfl⟩))).symm
        | _ => rfl
      obtain ⟨b, hb, hgo⟩ := guardA_elim hg
      have hg2 := hgo (lookE (dstF ops.toList) (valF VS) s.e (doneP listed ops.size) ops.size) (fun j want d hgd hd => sees d (by
        refine List.mem_append_right _ ?_
        rw [hgd]; simp [hd]))
      have hwt := wanted_of hE (hg2 (fun b' => b' = b) rfl)
      have hlset : ∀ k, doneP (listed.setIfInBounds i true) ops.size k = (doneP listed ops.size k || Nat.beq k i) := by
        intro k
        simp only [doneP, Array.getD_eq_getD_getElem?, Array.getElem?_setIfInBounds]
        by_cases hki : i = k
        · subst hki; simp [show i < listed.size by omega, blt_of hil, Nat.beq_refl]
        · have : Nat.beq k i = false := by cases hb : Nat.beq k i with
            | false => rfl
            | true => exact absurd (Nat.eq_of_beq_eq_true hb).symm hki
          simp [hki, this]
      have hlsetf : doneP (listed.setIfInBounds i true) ops.size = fun k => doneP listed ops.size k || Nat.beq k i := funext hlset
      have hput : lookE (dstF ops.toList) (valF VS) s.e (doneP (listed.setIfInBounds i true) ops.size) ops.size = putA (lookE (dstF ops.toList) (valF VS) s.e (doneP listed ops.size) ops.size) (dstF ops.toList i) (valF VS i) := by
        rw [hlsetf]
        refine lookE_put hdi ops.size hil (fun k hk hki hkd hnn hp => ?_)
        rcases Nat.lt_or_ge k i with hlt | hge
        · exact hlt
        · exfalso
          cases hdn : dstF ops.toList i with
          | none => exact hnn hdn
          | some t =>
            rw [hdn] at hkd
            have hoi : (ops[i]).dst = some t := by rw [hdst, ho] at hdn; simpa using hdn
            obtain ⟨_, h2⟩ := orderOk_spec hord (by rw [← hdst]; exact hkd) ho (.inr hoi) hki
            have := ahead_done hlow hcl k hk (hcl k hp) i (h2 (by omega))
            rw [hdi] at this; cases this
      have hcl' : ∀ j, doneP (listed.setIfInBounds i true) ops.size j = true → Waited ops (doneP (listed.setIfInBounds i true) ops.size) j := by
        intro j hj o' ho' e he hbe
        rw [hlset] at hj ⊢
        rw [Bool.or_eq_true] at hj
        rcases hj with h | h
        · rw [hcl j h o' ho' e he hbe]; rfl
        · obtain rfl := Nat.eq_of_beq_eq_true h
          rw [hwi o' ho' e he hbe]; rfl
      have hcount' : ((List.range ops.size).filter fun k => !doneP (listed.setIfInBounds i true) ops.size k).length = fuel := by
        have key : ∀ (l : List Nat), l.Nodup → i ∈ l → (l.filter fun k => !doneP listed ops.size k).length = (l.filter fun k => !doneP (listed.setIfInBounds i true) ops.size k).length + 1 := by
          intro l
          induction l with
          | nil => intro _ h; cases h
          | cons k l ih =>
            intro hnd hm
            obtain ⟨hk, hnd⟩ := List.nodup_cons.1 hnd
            by_cases hki : k = i
            · subst hki
              have hrest : (l.filter fun k' => !doneP listed ops.size k') = l.filter fun k' => !doneP (listed.setIfInBounds k true) ops.size k' := by
                refine List.filter_congr fun k' hk' => ?_
                rw [hlset]
                have : Nat.beq k' k = false := by cases hb : Nat.beq k' k with
                  | false => rfl
                  | true => exact absurd (Nat.eq_of_beq_eq_true hb ▸ hk') hk
                simp [this]
              rw [List.filter_cons, List.filter_cons, hlset, hdi, Nat.beq_refl, hrest]
              simp
            · have hm' : i ∈ l := by rcases List.mem_cons.1 hm with h | h; · exact absurd h.symm hki
                                     · exact h
              have hb : Nat.beq k i = false := by cases hb : Nat.beq k i with
                | false => rfl
                | true => exact absurd (Nat.eq_of_beq_eq_true hb) hki
              have := ih hnd hm'
              rw [List.filter_cons, List.filter_cons, hlset, hb, Bool.or_false]
              cases doneP listed ops.size k <;> simp [this]
        have := key (List.range ops.size) List.nodup_range (by simpa using hil)
        omega
      have hdi' : dstF ops.toList i = (ops[i]).dst := by rw [hdst, ho]; rfl
      have hD' : ∀ k, k ≠ i → doneP (listed.setIfInBounds i true) ops.size k = doneP listed ops.size k := by
        intro k hk
        rw [hlset]
        have : Nat.beq k i = false := by cases hb : Nat.beq k i with
          | false => rfl
          | true => exact absurd (Nat.eq_of_beq_eq_true hb) hk
        rw [this, Bool.or_false]
      have heffi : effF M ops i = isEffM M (ops[i]) := by unfold effF; rw [ho]
      have hD1 : doneP (listed.setIfInBounds i true) ops.size i = true := by rw [hlset, Nat.beq_refl, Bool.or_true]
      -- the heap, where it matters
      have hcur : isPureM T M (ops[i]) = false → lookH H HS (effF M ops) (doneP listed ops.size) ops.size = hpF H HS i ∧ lookH H HS (effF M ops) (doneP (listed.setIfInBounds i true) ops.size) ops.size = hpF H HS (i + 1) := by
        intro hp
        have up : ∀ j, i < j → j < ops.size → effF M ops j = true → doneP listed ops.size j = false := by
          intro j hj hjn hej
          have hoj : ops[j]? = some ops[j] := by simp [hjn]
          have hej' : isEffM M (ops[j]) = true := by unfold effF at hej; rw [hoj] at hej; exact hej
          have hbit := effOk_spec heff ho hoj hj (.inr hej') hp (pure_effM hej')
          cases hd : doneP listed ops.size j with
          | false => rfl
          | true =>
            have := ahead_done hlow hcl j hjn (hcl j hd) i hbit
            rw [hdi] at this; cases this
        have lo : ∀ j, j < i → effF M ops j = true → doneP listed ops.size j = true := by
          intro j hj hej
          have hoj : ops[j]? = some (ops[j]'(by omega)) := by simp [show j < ops.size by omega]
          have hej' : isEffM M (ops[j]'(by omega)) = true := by unfold effF at hej; rw [hoj] at hej; exact hej
          exact hahead j (effOk_spec heff hoj ho hj (.inl hej') (pure_effM hej') hp)
        refine ⟨?_, ?_⟩
        · refine (lookH_up (i := i) ops.size (by omega) (fun j h1 h2 h3 => ?_)).trans (lookH_lo i lo (fun j hj => hne j (by omega)))
          by_cases e : j = i
          · rw [e]; exact hdi
          · exact up j (by omega) h2 h3
        · refine (lookH_up (i := i + 1) ops.size (by omega) (fun j h1 h2 h3 => ?_)).trans (lookH_lo (i + 1) (fun j hj hej => ?_) (fun j hj => hne j (by omega)))
          · rw [hD' j (by omega)]; exact up j (by omega) h2 h3
          · by_cases e : j = i
            · rw [e]; exact hD1
            · rw [hD' j e]; exact lo j (by omega) hej
      have hpure : isPureM T M (ops[i]) = true → lookH H HS (effF M ops) (doneP (listed.setIfInBounds i true) ops.size) ops.size = lookH H HS (effF M ops) (doneP listed ops.size) ops.size := by
        intro hp
        refine lookH_same (fun k hk => hD' k (fun e => ?_)) _
        rw [e, heffi] at hk
        rw [pure_effM hk] at hp; cases hp
      unfold wpOpIn
      rw [ho]
      simp only
      cases b with
      | true =>
        rw [if_pos hwt]
        obtain ⟨hb, hbe, hbm⟩ := hb
        have hst : ∃ G2, G2 = lookH H HS (effF M ops) (doneP (listed.setIfInBounds i true) ops.size) ops.size ∧ stepA P T (ops[i]).op (lookE (dstF ops.toList) (valF VS) s.e (doneP listed ops.size) ops.size) (lookH H HS (effF M ops) (doneP listed ops.size) ops.size) fun v' H' => v' = valF VS i ∧ H' = G2 := by
          refine ⟨_, rfl, ?_⟩
          rw [← stepA_congr hev]
          cases hp : isPureM T M (ops[i]) with
          | false =>
            obtain ⟨h1, h2⟩ := hcur hp
            rw [h1, h2]; exact hb
          | true =>
            rw [hpure hp]
            obtain ⟨-, hp2⟩ := Bool.and_eq_true_iff.1 hp
            rcases Bool.or_eq_true_iff.1 hp2 with hp2 | hp2
            · rw [stepA_pure hp2] at hb ⊢
              exact (opA_pure hp2 hb).2 _
            · exact hbm hp2 _
        obtain ⟨G2, hG2, hst⟩ := hst
        refine stepA_ok hT ro I hE.e hst ?_
        rintro v w' ⟨y, H', κ', F', hk, hf, I', hv, rfl, rfl⟩
        have hE' := (hE.mono hk hf).put hdst0 hv
        have := ih (listed.setIfInBounds i true) κ' F' w' _ (by simp [hsz]) hcl' hcount' (by rw [← hG2]; exact I') (by rw [hput, hdi']; exact hE')
        exact wpAnyIn_mono (fun e a w hq => QOk.from hk hf (Agree.refl _ _) hq) _ _ _ _ this
      | false =>
        rw [if_neg (by rw [hwt]; simp)]
        refine ⟨fun _ _ => trivial, ?_⟩
        obtain ⟨hv, hsame⟩ := hb
        have hE' := hE.put hdst0 VR.undef
        have hI : Inv κ F B w0 (lookH H HS (effF M ops) (doneP (listed.setIfInBounds i true) ops.size) ops.size) w := by
          cases hp : isPureM T M (ops[i]) with
          | false =>
            obtain ⟨h1, h2⟩ := hcur hp
            rw [h2, hsame, ← h1]; exact I
          | true => rw [hpure hp]; exact I
        exact ih (listed.setIfInBounds i true) κ F w _ (by simp [hsz]) hcl' hcount' hI (by rw [hput, hdi', hv]; exact hE')


theorem drawOk_of (hT : T.ok P = true) (hm : P.follows .mixedOrders = true) (N : Nat) : DrawOk P T N := by
  intro M ro ws id ops K R X s H hws hord h
  refine ⟨fun κ F B w0 w a I hE => wpIn_region_any hm ?_⟩
  obtain ⟨vs, hch⟩ := chain_of _ _ _ h
  rw [Bool.and_eq_true] at hord
  have hz : ∀ k, doneP (Array.replicate ops.size false) ops.size k = false := by
    intro k
    simp only [doneP, Array.getD_eq_getD_getElem?]
    by_cases hk : k < ops.size
    · simp [hk]
    · simp [hk]
  refine any_ok hT ro hord.1 hord.2 hws hch ops.size _ κ F _ a (by simp) (fun j hj => by rw [hz] at hj; cases hj) ?_ ?_ ?_
  · have : ((List.range ops.size).filter fun k => !doneP (Array.replicate ops.size false) ops.size k) = List.range ops.size := List.filter_eq_self.2 fun k _ => by simp [hz]
    rw [this]; simp
  · have : ∀ n, lookH H (vs.map (·.2)) (effF M ops) (doneP (Array.replicate ops.size false) ops.size) n = H := by
      intro n
      induction n with
      | zero => rfl
      | succ n ih => simp only [lookH, hz, Bool.false_and, cond_false, ih]
    rw [this]; exact I.drew
  · have : ∀ n, lookE (dstF ops.toList) (valF (vs.map (·.1))) s.e (doneP (Array.replicate ops.size false) ops.size) n = s.e := by
      intro n
      induction n with
      | zero => rfl
      | succ n ih => simp only [lookE, hz, cond_false, ih]
    rw [this]; exact hE

end Go.Fw
