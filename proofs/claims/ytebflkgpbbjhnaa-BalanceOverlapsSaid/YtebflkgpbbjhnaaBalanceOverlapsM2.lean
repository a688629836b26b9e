/- For the law BalanceOverlaps, part 2 of 6: the frame of the walk, the walks of the functions, the plain law, the row. No conditions. -/
import Derived.Test.YtebflkgpbbjhnaaBalanceOverlapsM1
import Derived.OpenShut
import Derived.RangeFuncRecord
/- The frame of the abstract walk, part 18: whatever the order (the end). -/
set_option linter.unusedVariables false
set_option linter.unusedSimpArgs false
namespace Go.Fw
open Go.RowKit

variable {κ : KM} {F : FM} {B : Nat} {w0 w : World} {H : AH} {P : Program} {T : TT}

theorem blt_of {i j : Nat} (h : i < j) : Nat.blt i j = true := by simpa [Nat.blt_eq] using h
theorem lt_of_blt {i j : Nat} (h : Nat.blt i j = true) : i < j := by simpa [Nat.blt_eq] using h

theorem map_ev {e e' : Env} {xs : Array Operand} (h : ∀ x, x ∈ xs → ev e x = ev e' x) : xs.toList.map (ev e) = xs.toList.map (ev e') := List.map_congr_left fun x hx => h x (by simpa using hx)

theorem map_parts {e e' : Env} {ps : Array (Nat × Operand)} (h : ∀ x, x ∈ (ps.toList.map (·.2)).toArray → ev e x = ev e' x) : (ps.toList.map fun p => (p.1, ev e p.2)) = ps.toList.map fun p => (p.1, ev e' p.2) :=
  List.map_congr_left fun p hp => by rw [h p.2 (by simp only [List.mem_toArray, List.mem_map]; exact ⟨p, hp, rfl⟩)]

theorem optOf_congr {e e' : Env} {x : Option Operand} (h : ∀ y, x = some y → ev e y = ev e' y) : optOf e x = optOf e' x := by
  cases x with
  | none => rfl
  | some y => simp only [optOf, h y rfl]

theorem stepA_congr {o : Op} {e e' : Env} {K : AV → AH → Prop} (h : ∀ x, x ∈ o.operands → ev e x = ev e' x) : stepA P T o e H K = stepA P T o e' H K := by
  cases o with
  | call c =>
    have ha := map_ev (e := e) (e' := e') (xs := c.args) (fun x hx => h x (by simp only [Op.operands, Call.operands]; exact Array.mem_append_right _ hx))
    unfold stepA
    simp only
    cases hc : c.callee with
    | value f =>
      have hf := h f (by simp [Op.operands, Call.operands, hc])
      simp only [ha, hf]
    | builtin b => simp only [opA, hc, ha]
    | invoke r m => simp only [opA, hc]
  | move x => simp only [stepA, opA, h x (by simp [Op.operands])]
  | assign x => simp only [stepA, opA, h x (by simp [Op.operands])]
  | pick c a b => simp only [stepA, opA, h c (by simp [Op.operands]), h a (by simp [Op.operands]), h b (by simp [Op.operands])]
  | alloc t => rfl
  | box t x => simp only [stepA, opA, h x (by simp [Op.operands])]
  | build t ps => simp only [stepA, opA, map_parts (e := e) (e' := e') (ps := ps) h]
  | buildSlice t n ps => simp only [stepA, opA, map_parts (e := e) (e' := e') (ps := ps) h]
  | load t x => simp only [stepA, opA, h x (by simp [Op.operands])]
  | store t x y => simp only [stepA, opA, h x (by simp [Op.operands]), h y (by simp [Op.operands])]
  | nilCheck x => simp only [stepA, opA, h x (by simp [Op.operands])]
  | binOp op t x y u => simp only [stepA, opA, h x (by simp [Op.operands]), h y (by simp [Op.operands])]
  | unOp op t x => simp only [stepA, opA, h x (by simp [Op.operands])]
  | convert s d x => simp only [stepA, opA, h x (by simp [Op.operands])]
  | makeFunc f p c => simp only [stepA, opA, map_ev (e := e) (e' := e') (xs := p) (fun x hx => h x (by simp only [Op.operands]; exact Array.mem_append_left _ hx)), map_ev (e := e) (e' := e') (xs := c) (fun x hx => h x (by simp only [Op.operands]; exact Array.mem_append_right _ hx))]
  | makeSlice t x y => simp only [stepA, opA, h x (by simp [Op.operands]), h y (by simp [Op.operands])]
  | slice t x lo hi mx =>
    have h1 : optOf e lo = optOf e' lo := optOf_congr fun y hy => h y (by simp [Op.operands, hy])
    have h2 : optOf e hi = optOf e' hi := optOf_congr fun y hy => h y (by simp [Op.operands, hy])
    have h3 : optOf e mx = optOf e' mx := optOf_congr fun y hy => h y (by simp [Op.operands, hy])
    simp only [stepA, opA, h x (by simp [Op.operands]), h1, h2, h3]
  | fieldAddr t x f => simp only [stepA, opA, h x (by simp [Op.operands])]
  | field t x f => simp only [stepA, opA, h x (by simp [Op.operands])]
  | indexAddr t x i => simp only [stepA, opA, h x (by simp [Op.operands]), h i (by simp [Op.operands])]
  | index t x i => simp only [stepA, opA, h x (by simp [Op.operands]), h i (by simp [Op.operands])]
  | extract x i => simp only [stepA, opA, h x (by simp [Op.operands])]
  | _ => rfl

theorem guardA_elim {all : Array Oper} {e : Env} {g : Option (Nat × Bool)} {K : Bool → Prop} (h : guardA all e g K) : ∃ b, K b ∧ ∀ (e' : Env), (∀ j want d, g = some (j, want) → (all[j]?).bind (·.dst) = some d → e' d = e d) → ∀ K' : Bool → Prop, K' b → guardA all e' g K' := by
  unfold guardA at h
  split at h
  · exact ⟨true, h, fun e' _ K' hk => hk⟩
  · rename_i j want
    split at h
    · rename_i d hd
      split at h
      · rename_i b hb
        refine ⟨b == want, h, fun e' he K' hk => ?_⟩
        unfold guardA
        simp only [hd, he j want d rfl hd, hb]
        exact hk
      · rename_i hb
        refine ⟨false, h, fun e' he K' hk => ?_⟩
        unfold guardA
        simp only [hd, he j want d rfl hd, hb]
        exact hk
      · exact h.elim
    · exact h.elim

/-- What a chain of operations, each of one value, comes to. -/
def Chain (N : Nat) (P : Program) (T : TT) (M : Mk) (all : Array Oper) (K : St → AH → Prop) : List Oper → List (AV × AH) → St → AH → Prop
  | [], [], s, H => K s H
  | o :: l, v :: vs, s, H => (dstOk N o.dst = true ∧ guardA all s.e o.guard fun b => cond b (stepA P T o.op s.e H (fun v' H' => v' = v.1 ∧ H' = v.2) ∧ (isEffM M o = false → v.2 = H) ∧ (inM M.2 o.dst = true → ∀ G, stepA P T o.op s.e G (fun v' H' => v' = v.1 ∧ H' = G))) (v.1 = .tup [] ∧ v.2 = H)) ∧ Chain N P T M all K l vs (putS s o.dst v.1) v.2
  | _, _, _, _ => False

theorem chain_of {N : Nat} {M : Mk} {all : Array Oper} {K : St → AH → Prop} : ∀ (l : List Oper) (s : St) (H : AH), drawS N P T M all l K s H → ∃ vs, Chain N P T M all K l vs s H
  | [], s, H, h => ⟨[], h⟩
  | o :: l, s, H, h => by
    obtain ⟨hd, h⟩ := when_iff.1 h
    obtain ⟨b, hb, hg⟩ := guardA_elim h
    have hg := hg s.e (fun _ _ _ _ _ => rfl)
    cases b with
    | true =>
      obtain ⟨v, H2, h1, h3, h4, h2⟩ := hb
      obtain ⟨vs, hc⟩ := chain_of l _ _ h2
      exact ⟨(v, H2) :: vs, ⟨hd, hg (fun b => cond b (stepA P T o.op s.e H (fun v' H' => v' = v ∧ H' = H2) ∧ (isEffM M o = false → H2 = H) ∧ (inM M.2 o.dst = true → ∀ G, stepA P T o.op s.e G (fun v' H' => v' = v ∧ H' = G))) (v = .tup [] ∧ H2 = H)) ⟨h1, h3, h4⟩⟩, hc⟩
    | false =>
      obtain ⟨vs, hc⟩ := chain_of l _ _ hb
      exact ⟨(.tup [], H) :: vs, ⟨hd, hg (fun b => cond b (stepA P T o.op s.e H (fun v' H' => v' = .tup [] ∧ H' = H) ∧ (isEffM M o = false → H = H) ∧ (inM M.2 o.dst = true → ∀ G, stepA P T o.op s.e G (fun v' H' => v' = .tup [] ∧ H' = G))) (AV.tup [] = .tup [] ∧ H = H)) ⟨rfl, rfl⟩⟩, hc⟩

def dstF (l : List Oper) (k : Nat) : Option Nat := (l[k]?).bind (·.dst)
def valF (vs : List AV) (k : Nat) : AV := vs.getD k .junk
/-- The heap ahead of operation k. -/
def hpF : AH → List AH → Nat → AH
  | H, _, 0 => H
  | H, [], _ + 1 => H
  | _, h :: hs, k + 1 => hpF h hs k

theorem lookE_cons (o : Oper) (l : List Oper) (v : AV) (vs : List AV) (e : Env) : ∀ k, lookE (dstF (o :: l)) (valF (v :: vs)) e (fun _ => true) (k + 1) = lookE (dstF l) (valF vs) (putA e o.dst v) (fun _ => true) k
  | 0 => by simp [lookE, dstF, valF]
  | k + 1 => by
    have ih := lookE_cons o l v vs e k
    simp only [lookE, cond_true] at ih ⊢
    rw [ih]
    simp [dstF, valF]

theorem hpF_zero (H : AH) (hs : List AH) : hpF H hs 0 = H := by cases hs <;> rfl
theorem hpF_cons (H h : AH) (hs : List AH) (k : Nat) : hpF H (h :: hs) (k + 1) = hpF h hs k := rfl

theorem chain_spec {N : Nat} {M : Mk} {all : Array Oper} {K : St → AH → Prop} : ∀ (l : List Oper) (vs : List (AV × AH)) (s : St) (H : AH), Chain N P T M all K l vs s H → vs.length = l.length ∧
    (∀ j o, l[j]? = some o → dstOk N o.dst = true ∧ guardA all (lookE (dstF l) (valF (vs.map (·.1))) s.e (fun _ => true) j) o.guard fun b =>
      cond b (stepA P T o.op (lookE (dstF l) (valF (vs.map (·.1))) s.e (fun _ => true) j) (hpF H (vs.map (·.2)) j) (fun v' H' => v' = valF (vs.map (·.1)) j ∧ H' = hpF H (vs.map (·.2)) (j + 1)) ∧ (isEffM M o = false → hpF H (vs.map (·.2)) (j + 1) = hpF H (vs.map (·.2)) j) ∧ (inM M.2 o.dst = true → ∀ G, stepA P T o.op (lookE (dstF l) (valF (vs.map (·.1))) s.e (fun _ => true) j) G (fun v' H' => v' = valF (vs.map (·.1)) j ∧ H' = G)))
        (valF (vs.map (·.1)) j = .tup [] ∧ hpF H (vs.map (·.2)) (j + 1) = hpF H (vs.map (·.2)) j)) ∧
    K ⟨lookE (dstF l) (valF (vs.map (·.1))) s.e (fun _ => true) l.length, s.d⟩ (hpF H (vs.map (·.2)) l.length)
  | [], [], s, H, h => ⟨rfl, fun j o h => by simp at h, h⟩
  | [], _ :: _, s, H, h => h.elim
  | _ :: _, [], s, H, h => h.elim
  | o :: l, (v, h2) :: vs, s, H, h => by
    obtain ⟨h1, h2'⟩ := h
    obtain ⟨hl, ih1, ih2⟩ := chain_spec l vs _ _ h2'
    refine ⟨by simp [hl], fun j o' hj => ?_, ?_⟩
    · cases j with
      | zero =>
        simp at hj; subst hj
        simp only [List.map_cons, hpF_cons, hpF_zero]
        exact h1
      | succ j =>
        have := ih1 j o' (by simpa using hj)
        simp only [List.map_cons]
        rw [lookE_cons, hpF_cons, hpF_cons]
        simpa [valF, putS] using this
    · simp only [List.map_cons]
      rw [List.length_cons, lookE_cons, hpF_cons]; exact ih2

theorem orderOk_low {all : Array Oper} (h : orderOk all = true) : ∀ j o, all[j]? = some o → ∀ e ∈ o.after.toList, Region.binds .any e = true → e.on < j := by
  intro j o ho e he hb
  have hj : j < all.size := (Array.getElem?_eq_some_iff.1 ho).1
  unfold orderOk at h
  have hj' := List.all_eq_true.1 h j (by simpa using hj)
  cases hd : (all[j]?).bind (·.dst) with
  | none =>
    rw [hd] at hj'
    simp only [ho] at hj'
    have := List.all_eq_true.1 hj' e he
    simpa [hb, Nat.blt_eq] using this
  | some t =>
    rw [hd] at hj'
    have := List.all_eq_true.1 hj' j (by simpa using hj)
    simp only [ho, Bool.and_eq_true] at this
    have := List.all_eq_true.1 this.1 e he
    simpa [hb, Nat.blt_eq] using this

theorem orderOk_spec {all : Array Oper} (h : orderOk all = true) {i j t : Nat} {o : Oper} (hi : (all[i]?).bind (·.dst) = some t) (ho : all[j]? = some o) (hl : t ∈ looks all o ∨ o.dst = some t) (hne : i ≠ j) :
    (i < j → ((aheadOf all).getD j 0).testBit i = true) ∧ (j < i → ((aheadOf all).getD i 0).testBit j = true) := by
  have hj : j < all.size := (Array.getElem?_eq_some_iff.1 ho).1
  have hil : i < all.size := by
    cases hx : all[i]? with
    | none => rw [hx] at hi; simp at hi
    | some x => exact (Array.getElem?_eq_some_iff.1 hx).1
  unfold orderOk at h
  have h1 := List.all_eq_true.1 h i (by simpa using hil)
  rw [hi] at h1
  have h2 := List.all_eq_true.1 h1 j (by simpa using hj)
  simp only [ho, Bool.and_eq_true, Bool.or_eq_true, beq_iff_eq, Bool.not_eq_true'] at h2
  have h3 : ((looks all o).contains t || o.dst == some t) = true := by
    rcases hl with h | h
    · simp [h]
    · simp [h]
  rcases h2.2 with (h4 | h4) | h4
  · exact absurd h4 hne
  · rw [h3] at h4; cases h4
  · refine ⟨fun hlt => ?_, fun hlt => ?_⟩
    · rw [blt_of hlt] at h4; exact h4
    · have : Nat.blt i j = false := by cases hb : Nat.blt i j with
        | false => rfl
        | true => have := lt_of_blt hb; omega
      rw [this] at h4; exact h4

/-- The set of what has been carried out. -/
def doneP (listed : Array Bool) (n : Nat) : Nat → Bool := fun k => Nat.blt k n && listed.getD k false

theorem wpAnyIn_mono {G : Fence} {n : Nat} {md : Region.Mode} {all : Array Oper} {Q Q' : Exit → Act → World → Prop} (hq : ∀ e a w, Q e a w → Q' e a w) : ∀ (fuel : Nat) (listed : Array Bool) (a : Act) (w : World), wpAnyIn G n P md all Q fuel listed a w → wpAnyIn G n P md all Q' fuel listed a w
  | 0, _, _, _, h => ⟨h.1, hq _ _ _ h.2⟩
  | fuel + 1, listed, a, w, h => by
    refine ⟨fun hr => hq _ _ _ (h.1 hr), fun i hi => ?_⟩
    have := h.2 i hi
    unfold wpOpIn at this ⊢
    split
    · rename_i ho; rw [ho] at this; exact wpAnyIn_mono hq fuel _ _ _ this
    · rename_i o ho
      rw [ho] at this
      simp only at this
      split
      · rename_i hw; rw [if_pos hw] at this; exact operWpIn_mono (fun a w => wpAnyIn_mono hq fuel _ a w) hq this
      · rename_i hw; rw [if_neg hw] at this; exact ⟨this.1, wpAnyIn_mono hq fuel _ _ _ this.2⟩

def effF (M : Mk) (ops : Array Oper) : Nat → Bool := fun i => match ops[i]? with | some o => isEffM M o | none => false
/-- The heap, of what has been carried out. -/
def lookH (H : AH) (hs : List AH) (eff D : Nat → Bool) : Nat → AH
  | 0 => H
  | k + 1 => cond (D k && eff k) (hpF H hs (k + 1)) (lookH H hs eff D k)

theorem lookH_up {H : AH} {hs : List AH} {eff D : Nat → Bool} {i : Nat} : ∀ n, i ≤ n → (∀ j, i ≤ j → j < n → eff j = true → D j = false) → lookH H hs eff D n = lookH H hs eff D i
  | 0, hi, _ => by have : i = 0 := by omega
                   rw [this]
  | n + 1, hi, h => by
    by_cases e : i = n + 1
    · rw [e]
    · have : (D n && eff n) = false := by
        cases he : eff n with
        | false => simp
        | true => rw [h n (by omega) (by omega) he]; rfl
      simp only [lookH, this, cond_false]
      exact lookH_up n (by omega) (fun j h1 h2 => h j h1 (by omega))

theorem lookH_lo {H : AH} {hs : List AH} {eff D : Nat → Bool} : ∀ i, (∀ j, j < i → eff j = true → D j = true) → (∀ j, j < i → eff j = false → hpF H hs (j + 1) = hpF H hs j) → lookH H hs eff D i = hpF H hs i
  | 0, _, _ => by cases hs <;> rfl
  | i + 1, h1, h2 => by
    simp only [lookH]
    cases he : eff i with
    | true => rw [h1 i (by omega) he]; rfl
    | false =>
      rw [h2 i (by omega) he, Bool.and_false]
      exact lookH_lo i (fun j hj => h1 j (by omega)) (fun j hj => h2 j (by omega))

theorem lookH_same {H : AH} {hs : List AH} {eff D D' : Nat → Bool} (h : ∀ k, eff k = true → D' k = D k) : ∀ n, lookH H hs eff D' n = lookH H hs eff D n
  | 0 => rfl
  | n + 1 => by
    simp only [lookH]
    cases he : eff n with
    | true => rw [h n he, lookH_same h n]
    | false => simp only [Bool.and_false, cond_false]; exact lookH_same h n

theorem stepA_pure {o : Op} {e : Env} {K : AV → AH → Prop} (hp : isPure T o = true) : stepA P T o e H K = opA T o e H K := by
  cases o <;> try rfl
  rename_i c
  simp only [isPure] at hp
  unfold stepA
  simp only
  cases hc : c.callee with
  | builtin b => rfl
  | value f => rw [hc] at hp; cases hp
  | invoke r m => rfl

theorem effOk_spec {M : Mk} {ops : Array Oper} (h : effOk T M ops = true) {i j : Nat} {oi oj : Oper} (hi : ops[i]? = some oi) (hj : ops[j]? = some oj) (hlt : i < j) (he : isEffM M oi = true ∨ isEffM M oj = true) (hpi : isPureM T M oi = false) (hpj : isPureM T M oj = false) :
    ((aheadOf ops).getD j 0).testBit i = true := by
  have hjl : j < ops.size := (Array.getElem?_eq_some_iff.1 hj).1
  unfold effOk at h
  have h1 := List.all_eq_true.1 h j (by simpa using hjl)
  have h2 := List.all_eq_true.1 h1 i (by simpa using hlt)
  simp only [hi, hj, hpi, hpj, Bool.false_or, Bool.or_eq_true, Bool.not_eq_true', Bool.or_eq_false_iff] at h2
  rcases h2 with h2 | h2
  · rcases he with he | he
    · rw [h2.1] at he; cases he
    · rw [h2.2] at he; cases he
  · exact h2

theorem any_ok (hT : T.ok P = true) (ro : Option Nat) {N : Nat} {M : Mk} {ws : Nat → Bool} {ops : Array Oper} {K R : St → AH → Prop} {X : Nat → St → AH → Prop} {s : St} {vs : List (AV × AH)} (hord : orderOk ops = true) (heff : effOk T M ops = true) (hws : ∀ t, t ∈ dstsOf ops.toList → ws t = true)
    (hch : Chain N P T M ops K ops.toList vs s H) : ∀ (fuel : Nat) (listed : Array Bool) (κ : KM) (F : FM) (w : World) (a : Act), listed.size = ops.size → (∀ j, doneP listed ops.size j = true → Waited ops (doneP listed ops.size) j) →
      ((List.range ops.size).filter fun k => !doneP listed ops.size k).length = fuel → Inv κ F B w0 (lookH H (vs.map (·.2)) (effF M ops) (doneP listed ops.size) ops.size) w →
      ER κ F N ⟨lookE (dstF ops.toList) (valF (vs.map (·.1))) s.e (doneP listed ops.size) ops.size, s.d⟩ a → wpAnyIn (fence ro) 0 P .any ops (QOk κ F B w0 N ws s K R X) fuel listed a w := by
  obtain ⟨_, hstep, hend⟩ := chain_spec ops.toList vs s H hch
  generalize vs.map (·.1) = VS at *
  generalize vs.map (·.2) = HS at *
  have hne : ∀ j, j < ops.size → effF M ops j = false → hpF H HS (j + 1) = hpF H HS j := by
    intro j hj he
    have ho : ops.toList[j]? = some ops[j] := by simp [hj]
    obtain ⟨_, hg⟩ := hstep j ops[j] ho
    obtain ⟨b, hb, _⟩ := guardA_elim hg
    have he' : isEffM M (ops[j]) = false := by
      unfold effF at he; simpa [hj] using he
    cases b with
    | true => exact hb.2.1 he'
    | false => exact hb.2
  have hlow := orderOk_low hord
  have hdst : ∀ k, dstF ops.toList k = (ops[k]?).bind (·.dst) := fun k => by simp [dstF]
  have hagree : ∀ p : Nat → Bool, Agree ws s ⟨lookE (dstF ops.toList) (valF VS) s.e p ops.size, s.d⟩ := by
    intro p t ht
    show lookE _ _ _ p ops.size t = s.e t
    have : ∀ n, lookE (dstF ops.toList) (valF VS) s.e p n t = s.e t := by
      intro n
      induction n with
      | zero => rfl
      | succ n ih =>
        simp only [lookE]
        cases p n with
        | false => exact ih
        | true =>
          have hne : dstF ops.toList n ≠ some t := by
            intro e
            have : t ∈ dstsOf ops.toList := by
              simp only [dstF] at e
              cases hx : ops.toList[n]? with
              | none => rw [hx] at e; simp at e
              | some o =>
                rw [hx] at e
                simp at e
                exact List.mem_filterMap.2 ⟨o, List.mem_of_getElem? hx, e⟩
            rw [hws t this] at ht; cases ht
          simp only [cond_true, putA_ne _ _ _ hne, ih]
    exact this _
  have ready : ∀ (listed : Array Bool), listed.size = ops.size → ∀ i, i ∈ Region.ready .any ops listed → i < ops.size ∧ doneP listed ops.size i = false ∧ Waited ops (doneP listed ops.size) i := by
    intro listed hsz i hi
    simp only [Region.ready, List.mem_filter, List.mem_range, Bool.and_eq_true, Bool.not_eq_true'] at hi
    obtain ⟨hi, hl, ha⟩ := hi
    have hdone : doneP listed ops.size i = false := by
      have e : listed.getD i false = listed.getD i true := by simp [Array.getD_eq_getD_getElem?, show i < listed.size by omega]
      simp [doneP, e, hl]
    refine ⟨hi, hdone, fun o ho e he hb => ?_⟩
    rw [ho] at ha
    simp only [Option.map_some, Option.getD_some] at ha
    have := Array.all_eq_true'.1 ha e (by simpa using he)
    simp only [hb, Bool.not_true, Bool.false_or] at this
    have hlt := hlow i o ho e he hb
    simp [doneP, this, blt_of (show e.on < ops.size by omega)]
  intro fuel
  induction fuel with
  | zero =>
    intro listed κ F w a hsz hcl hcount I hE
    have hall : ∀ k, k < ops.size → doneP listed ops.size k = true := by
      intro k hk
      cases hd : doneP listed ops.size k with
      | true => rfl
      | false =>
        have : k ∈ (List.range ops.size).filter fun k => !doneP listed ops.size k := by simp [hk, hd]
        rw [List.length_eq_zero_iff.1 hcount] at this
        cases this
    refine ⟨?_, ?_⟩
    · cases hr : Region.ready .any ops listed with
      | nil => rfl
      | cons i r =>
        obtain ⟨h1, h2, _⟩ := ready listed hsz i (by rw [hr]; simp)
        rw [hall i h1] at h2; cases h2
    · have heq : lookE (dstF ops.toList) (valF VS) s.e (doneP listed ops.size) ops.size = lookE (dstF ops.toList) (valF VS) s.e (fun _ => true) ops.size := by
        funext t; exact lookE_congr _ (fun k hk _ => hall k hk)
      have hH : lookH H HS (effF M ops) (doneP listed ops.size) ops.size = hpF H HS ops.size := lookH_lo _ (fun j hj _ => hall j hj) hne
      refine ⟨_, _, κ, F, KLe.refl _, FLe.refl _, I, hE, hagree _, ?_⟩
      rw [heq, hH]
      simpa using hend
  | succ fuel ih =>
    intro listed κ F w a hsz hcl hcount I hE
    refine ⟨fun hr => ?_, fun i hi => ?_⟩
    · -- somebody is ready
      exfalso
      obtain ⟨k, hk⟩ : ∃ k, k ∈ (List.range ops.size).filter fun k => !doneP listed ops.size k := by
        cases hx : (List.range ops.size).filter fun k => !doneP listed ops.size k with
        | nil => rw [hx] at hcount; simp at hcount
        | cons k _ => exact ⟨k, by simp⟩
      have key : ∀ k, k < ops.size → doneP listed ops.size k = false → False := by
        intro k
        induction k using Nat.strongRecOn with
        | _ k ih2 =>
          intro hk hd
          have : k ∈ Region.ready .any ops listed := by
            simp only [Region.ready, List.mem_filter, List.mem_range, Bool.and_eq_true, Bool.not_eq_true']
            refine ⟨hk, ?_, ?_⟩
            · simp only [doneP, blt_of hk, Bool.true_and] at hd
              have e : listed.getD k false = listed.getD k true := by simp [Array.getD_eq_getD_getElem?, show k < listed.size by omega]
              rw [← e]; exact hd
            · have ho : ops[k]? = some ops[k] := by simp [hk]
              rw [ho]
              simp only [Option.map_some, Option.getD_some]
              refine Array.all_eq_true'.2 fun e he => ?_
              cases hb : Region.binds .any e with
              | false => rfl
              | true =>
                have hlt := hlow k _ ho e (by simpa using he) hb
                cases hd' : doneP listed ops.size e.on with
                | false => exact (ih2 e.on hlt (by omega) hd').elim
                | true => simp only [doneP, Bool.and_eq_true] at hd'; simp [hd'.2]
          rw [hr] at this; cases this
      simp only [List.mem_filter, List.mem_range, Bool.not_eq_true'] at hk
      exact key k hk.1 hk.2
    · obtain ⟨hil, hdi, hwi⟩ := ready listed hsz i hi
      have ho : ops[i]? = some ops[i] := by simp [hil]
      obtain ⟨o, rfl⟩ : ∃ o, o = ops[i] := ⟨_, rfl⟩
      obtain ⟨hdst0, hg⟩ := hstep i ops[i] (by simp [hil])
      have hahead := ahead_done hlow hcl i hil hwi
      -- what the operation looks at stands there
      have sees : ∀ t, t ∈ looks ops ops[i] → lookE (dstF ops.toList) (valF VS) s.e (doneP listed ops.size) ops.size t = lookE (dstF ops.toList) (valF VS) s.e (fun _ => true) i t := by
        intro t ht
        refine lookE_lt ops.size (by omega) (fun k hk hkd => ?_)
        rw [hdst] at hkd
        by_cases hki : k = i
        · subst hki; constructor
          · intro h; rw [hdi] at h; cases h
          · intro h; omega
        · obtain ⟨h1, h2⟩ := orderOk_spec hord hkd ho (.inl ht) hki
          constructor
          · intro hp
            rcases Nat.lt_or_ge k i with hlt | hge
            · exact hlt
            · have := ahead_done hlow hcl k hk (hcl k hp) i (h2 (by omega))
              rw [hdi] at this; cases this
          · intro hlt; exact hahead k (h1 hlt)
      have hev : ∀ x, x ∈ (ops[i]).op.operands → ev (lookE (dstF ops.toList) (valF VS) s.e (fun _ => true) i) x = ev (lookE (dstF ops.toList) (valF VS) s.e (doneP listed ops.size) ops.size) x := by
        intro x hx
        cases x with
        | tmp t => exact (sees t (List.mem_append_left _ (List.mem_filterMap.2 ⟨.tmp t, by simpa using hx, rfl⟩))).symm
        | _ => rfl
      obtain ⟨b, hb, hgo⟩ := guardA_elim hg
      have hg2 := hgo (lookE (dstF ops.toList) (valF VS) s.e (doneP listed ops.size) ops.size) (fun j want d hgd hd => sees d (by
        refine List.mem_append_right _ ?_
        rw [hgd]; simp [hd]))
      have hwt := wanted_of hE (hg2 (fun b' => b' = b) rfl)
      have hlset : ∀ k, doneP (listed.setIfInBounds i true) ops.size k = (doneP listed ops.size k || Nat.beq k i) := by
        intro k
        simp only [doneP, Array.getD_eq_getD_getElem?, Array.getElem?_setIfInBounds]
        by_cases hki : i = k
        · subst hki; simp [show i < listed.size by omega, blt_of hil, Nat.beq_refl]
        · have : Nat.beq k i = false := by cases hb : Nat.beq k i with
            | false => rfl
            | true => exact absurd (Nat.eq_of_beq_eq_true hb).symm hki
          simp [hki, this]
      have hlsetf : doneP (listed.setIfInBounds i true) ops.size = fun k => doneP listed ops.size k || Nat.beq k i := funext hlset
      have hput : lookE (dstF ops.toList) (valF VS) s.e (doneP (listed.setIfInBounds i true) ops.size) ops.size = putA (lookE (dstF ops.toList) (valF VS) s.e (doneP listed ops.size) ops.size) (dstF ops.toList i) (valF VS i) := by
        rw [hlsetf]
        refine lookE_put hdi ops.size hil (fun k hk hki hkd hnn hp => ?_)
        rcases Nat.lt_or_ge k i with hlt | hge
        · exact hlt
        · exfalso
          cases hdn : dstF ops.toList i with
          | none => exact hnn hdn
          | some t =>
            rw [hdn] at hkd
            have hoi : (ops[i]).dst = some t := by rw [hdst, ho] at hdn; simpa using hdn
            obtain ⟨_, h2⟩ := orderOk_spec hord (by rw [← hdst]; exact hkd) ho (.inr hoi) hki
            have := ahead_done hlow hcl k hk (hcl k hp) i (h2 (by omega))
            rw [hdi] at this; cases this
      have hcl' : ∀ j, doneP (listed.setIfInBounds i true) ops.size j = true → Waited ops (doneP (listed.setIfInBounds i true) ops.size) j := by
        intro j hj o' ho' e he hbe
        rw [hlset] at hj ⊢
        rw [Bool.or_eq_true] at hj
        rcases hj with h | h
        · rw [hcl j h o' ho' e he hbe]; rfl
        · obtain rfl := Nat.eq_of_beq_eq_true h
          rw [hwi o' ho' e he hbe]; rfl
      have hcount' : ((List.range ops.size).filter fun k => !doneP (listed.setIfInBounds i true) ops.size k).length = fuel := by
        have key : ∀ (l : List Nat), l.Nodup → i ∈ l → (l.filter fun k => !doneP listed ops.size k).length = (l.filter fun k => !doneP (listed.setIfInBounds i true) ops.size k).length + 1 := by
          intro l
          induction l with
          | nil => intro _ h; cases h
          | cons k l ih =>
            intro hnd hm
            obtain ⟨hk, hnd⟩ := List.nodup_cons.1 hnd
            by_cases hki : k = i
            · subst hki
              have hrest : (l.filter fun k' => !doneP listed ops.size k') = l.filter fun k' => !doneP (listed.setIfInBounds k true) ops.size k' := by
                refine List.filter_congr fun k' hk' => ?_
                rw [hlset]
                have : Nat.beq k' k = false := by cases hb : Nat.beq k' k with
                  | false => rfl
                  | true => exact absurd (Nat.eq_of_beq_eq_true hb ▸ hk') hk
                simp [this]
              rw [List.filter_cons, List.filter_cons, hlset, hdi, Nat.beq_refl, hrest]
              simp
            · have hm' : i ∈ l := by rcases List.mem_cons.1 hm with h | h; · exact absurd h.symm hki
                                     · exact h
              have hb : Nat.beq k i = false := by cases hb : Nat.beq k i with
                | false => rfl
                | true => exact absurd (Nat.eq_of_beq_eq_true hb) hki
              have := ih hnd hm'
              rw [List.filter_cons, List.filter_cons, hlset, hb, Bool.or_false]
              cases doneP listed ops.size k <;> simp [this]
        have := key (List.range ops.size) List.nodup_range (by simpa using hil)
        omega
      have hdi' : dstF ops.toList i = (ops[i]).dst := by rw [hdst, ho]; rfl
      have hD' : ∀ k, k ≠ i → doneP (listed.setIfInBounds i true) ops.size k = doneP listed ops.size k := by
        intro k hk
        rw [hlset]
        have : Nat.beq k i = false := by cases hb : Nat.beq k i with
          | false => rfl
          | true => exact absurd (Nat.eq_of_beq_eq_true hb) hk
        rw [this, Bool.or_false]
      have heffi : effF M ops i = isEffM M (ops[i]) := by unfold effF; rw [ho]
      have hD1 : doneP (listed.setIfInBounds i true) ops.size i = true := by rw [hlset, Nat.beq_refl, Bool.or_true]
      -- the heap, where it matters
      have hcur : isPureM T M (ops[i]) = false → lookH H HS (effF M ops) (doneP listed ops.size) ops.size = hpF H HS i ∧ lookH H HS (effF M ops) (doneP (listed.setIfInBounds i true) ops.size) ops.size = hpF H HS (i + 1) := by
        intro hp
        have up : ∀ j, i < j → j < ops.size → effF M ops j = true → doneP listed ops.size j = false := by
          intro j hj hjn hej
          have hoj : ops[j]? = some ops[j] := by simp [hjn]
          have hej' : isEffM M (ops[j]) = true := by unfold effF at hej; rw [hoj] at hej; exact hej
          have hbit := effOk_spec heff ho hoj hj (.inr hej') hp (pure_effM hej')
          cases hd : doneP listed ops.size j with
          | false => rfl
          | true =>
            have := ahead_done hlow hcl j hjn (hcl j hd) i hbit
            rw [hdi] at this; cases this
        have lo : ∀ j, j < i → effF M ops j = true → doneP listed ops.size j = true := by
          intro j hj hej
          have hoj : ops[j]? = some (ops[j]'(by omega)) := by simp [show j < ops.size by omega]
          have hej' : isEffM M (ops[j]'(by omega)) = true := by unfold effF at hej; rw [hoj] at hej; exact hej
          exact hahead j (effOk_spec heff hoj ho hj (.inl hej') (pure_effM hej') hp)
        refine ⟨?_, ?_⟩
        · refine (lookH_up (i := i) ops.size (by omega) (fun j h1 h2 h3 => ?_)).trans (lookH_lo i lo (fun j hj => hne j (by omega)))
          by_cases e : j = i
          · rw [e]; exact hdi
          · exact up j (by omega) h2 h3
        · refine (lookH_up (i := i + 1) ops.size (by omega) (fun j h1 h2 h3 => ?_)).trans (lookH_lo (i + 1) (fun j hj hej => ?_) (fun j hj => hne j (by omega)))
          · rw [hD' j (by omega)]; exact up j (by omega) h2 h3
          · by_cases e : j = i
            · rw [e]; exact hD1
            · rw [hD' j e]; exact lo j (by omega) hej
      have hpure : isPureM T M (ops[i]) = true → lookH H HS (effF M ops) (doneP (listed.setIfInBounds i true) ops.size) ops.size = lookH H HS (effF M ops) (doneP listed ops.size) ops.size := by
        intro hp
        refine lookH_same (fun k hk => hD' k (fun e => ?_)) _
        rw [e, heffi] at hk
        rw [pure_effM hk] at hp; cases hp
      unfold wpOpIn
      rw [ho]
      simp only
      cases b with
      | true =>
        rw [if_pos hwt]
        obtain ⟨hb, hbe, hbm⟩ := hb
        have hst : ∃ G2, G2 = lookH H HS (effF M ops) (doneP (listed.setIfInBounds i true) ops.size) ops.size ∧ stepA P T (ops[i]).op (lookE (dstF ops.toList) (valF VS) s.e (doneP listed ops.size) ops.size) (lookH H HS (effF M ops) (doneP listed ops.size) ops.size) fun v' H' => v' = valF VS i ∧ H' = G2 := by
          refine ⟨_, rfl, ?_⟩
          rw [← stepA_congr hev]
          cases hp : isPureM T M (ops[i]) with
          | false =>
            obtain ⟨h1, h2⟩ := hcur hp
            rw [h1, h2]; exact hb
          | true =>
            rw [hpure hp]
            obtain ⟨-, hp2⟩ := Bool.and_eq_true_iff.1 hp
            rcases Bool.or_eq_true_iff.1 hp2 with hp2 | hp2
            · rw [stepA_pure hp2] at hb ⊢
              exact (opA_pure hp2 hb).2 _
            · exact hbm hp2 _
        obtain ⟨G2, hG2, hst⟩ := hst
        refine stepA_ok hT ro I hE.e hst ?_
        rintro v w' ⟨y, H', κ', F', hk, hf, I', hv, rfl, rfl⟩
        have hE' := (hE.mono hk hf).put hdst0 hv
        have := ih (listed.setIfInBounds i true) κ' F' w' _ (by simp [hsz]) hcl' hcount' (by rw [← hG2]; exact I') (by rw [hput, hdi']; exact hE')
        exact wpAnyIn_mono (fun e a w hq => QOk.from hk hf (Agree.refl _ _) hq) _ _ _ _ this
      | false =>
        rw [if_neg (by rw [hwt]; simp)]
        refine ⟨fun _ _ => trivial, ?_⟩
        obtain ⟨hv, hsame⟩ := hb
        have hE' := hE.put hdst0 VR.undef
        have hI : Inv κ F B w0 (lookH H HS (effF M ops) (doneP (listed.setIfInBounds i true) ops.size) ops.size) w := by
          cases hp : isPureM T M (ops[i]) with
          | false =>
            obtain ⟨h1, h2⟩ := hcur hp
            rw [h2, hsame, ← h1]; exact I
          | true => rw [hpure hp]; exact I
        exact ih (listed.setIfInBounds i true) κ F w _ (by simp [hsz]) hcl' hcount' hI (by rw [hput, hdi', hv]; exact hE')


theorem drawOk_of (hT : T.ok P = true) (hm : P.follows .mixedOrders = true) (N : Nat) : DrawOk P T N := by
  intro M ro ws id ops K R X s H hws hord h
  refine ⟨fun κ F B w0 w a I hE => wpIn_region_any hm ?_⟩
  obtain ⟨vs, hch⟩ := chain_of _ _ _ h
  rw [Bool.and_eq_true] at hord
  have hz : ∀ k, doneP (Array.replicate ops.size false) ops.size k = false := by
    intro k
    simp only [doneP, Array.getD_eq_getD_getElem?]
    by_cases hk : k < ops.size
    · simp [hk]
    · simp [hk]
  refine any_ok hT ro hord.1 hord.2 hws hch ops.size _ κ F _ a (by simp) (fun j hj => by rw [hz] at hj; cases hj) ?_ ?_ ?_
  · have : ((List.range ops.size).filter fun k => !doneP (Array.replicate ops.size false) ops.size k) = List.range ops.size := List.filter_eq_self.2 fun k _ => by simp [hz]
    rw [this]; simp
  · have : ∀ n, lookH H (vs.map (·.2)) (effF M ops) (doneP (Array.replicate ops.size false) ops.size) n = H := by
      intro n
      induction n with
      | zero => rfl
      | succ n ih => simp only [lookH, hz, Bool.false_and, cond_false, ih]
    rw [this]; exact I.drew
  · have : ∀ n, lookE (dstF ops.toList) (valF (vs.map (·.1))) s.e (doneP (Array.replicate ops.size false) ops.size) n = s.e := by
      intro n
      induction n with
      | zero => rfl
      | succ n ih => simp only [lookE, hz, cond_false, ih]
    rw [this]; exact hE

end Go.Fw
/- The frame of the abstract walk, part 19: from a law's contract to its row. -/
set_option linter.unusedVariables false
set_option linter.unusedSimpArgs false
namespace Go.Fw
open Go.RowKit

/-- All that lies in memory when a law begins is constant. -/
def startF (W : World) : FM := fun b => match W.heap[b]? with | some (.cells arr _ _) => some arr | _ => none

theorem start_inv (W : World) : Inv (fun _ _ => none) (startF W) W.heap.size W (fun _ => none) W := by
  refine ⟨Below.refl _ _, Nat.le_refl _, fun b arr h => ?_, ⟨0, (fun r v i h => by cases h)⟩, (fun r o h => by cases h), (fun r r' o o' i i' b h => by cases h)⟩
  unfold startF at h
  split at h
  · rename_i arr' e fr hh; cases h; exact ⟨e, fr, hh⟩
  · cases h

/-- A slice of whole numbers, as the row's argument opens. -/
def IsRow (k : IntKind) (w : World) (a : Option Addr) (len cap : Nat) (zs : List Int) : Prop :=
  (a = none ∧ len = 0 ∧ cap = 0 ∧ zs = []) ∨
  ∃ x, a = some x ∧ len ≤ cap ∧ cap ≤ maxLen ∧ zs.length = cap ∧ (∀ i, i < zs.length → w.cell? (x.add i) = some (.int k (zs.getD i 0))) ∧ ∀ n ∈ zs, (Lit.int k n).wf = true

theorem start_row {k : IntKind} {W : World} {a : Option Addr} {len cap : Nat} {zs : List Int} (h : IsRow k W a len cap zs) :
    VR (fun _ _ => none) (startF W) (.cs (iS k (zs.take len)) len) (.slice a len cap) ∧ (zs.take len).length = len ∧ len ≤ maxLen ∧ ∀ n ∈ zs.take len, (Lit.int k n).wf = true := by
  rcases h with ⟨rfl, rfl, rfl, rfl⟩ | ⟨x, rfl, hlc, hcap, hz, hcell, hwf⟩
  · exact ⟨.cs0 _ _, rfl, Nat.zero_le _, fun n hn => by simp at hn⟩
  · refine ⟨?_, by simp; omega, by omega, fun n hn => hwf n (List.mem_of_mem_take hn)⟩
    by_cases h0 : len = 0
    · subst h0; simp [iS]; exact .cs0 _ _
    · have h1 := hcell 0 (by omega)
      have e0 : x.add 0 = x := by simp [Addr.add]
      rw [e0] at h1
      obtain ⟨b, off, spot⟩ := x
      unfold World.cell? at h1
      simp only at h1
      cases hb : W.heap[b]? with
      | none => rw [hb] at h1; cases h1
      | some o =>
        cases o with
        | cells arr e fr =>
          rw [hb] at h1
          cases spot with
          | some s => simp at h1
          | none =>
            have hF : startF W b = some arr := by simp [startF, hb]
            have hc : ∀ i, i < cap → arr[off + i]? = some (.int k (zs.getD i 0)) := by
              intro i hi
              have := hcell i (by omega)
              rw [Addr.add_mk] at this
              simpa [World.cell?, hb] using this
            have hlast : off + (len - 1) < arr.size := by
              have := hc (len - 1) (by omega)
              exact (Array.getElem?_eq_some_iff.1 this).1
            refine .cs hF (by simp; omega) hlc fun i hi => ?_
            have hi' : i < len := by simp at hi; omega
            have := hc i (by omega)
            rw [Array.getD_eq_getD_getElem?, this]
            simp [iS]
            have : (zs[i]?.getD 0) = zs[i]'(by omega) := by simp [show i < zs.length by omega]
            rw [this]
            exact .int _ _
        | _ => rw [hb] at h1; cases h1

/-- A law's contract, as the row wants it. -/
theorem law_calls {P : Program} {g : FuncId} {args : List AV} {cargs : Array Value} {W : World} (h : ACall P g args (fun _ => none) fun y _ => y = .bool true) (hA : VRs (fun _ _ => none) (startF W) args cargs) :
    Calls P g cargs W fun e w' => e = .returned (.bool true) ∧ Below W.heap.size W w' := by
  refine (h.run _ _ _ W W cargs (start_inv W) hA).mono ?_
  rintro e w' ⟨v, rfl, y, H', κ', F', _, _, hI, hv, rfl⟩
  cases hv
  exact ⟨rfl, hI.below⟩

end Go.Fw
/- The frame of the abstract walk, part 20: a range over a function. -/
set_option linter.unusedVariables false
set_option linter.unusedSimpArgs false
namespace Go.Fw
open Go.RowKit

variable {κ : KM} {F : FM} {B : Nat} {w0 w : World} {H : AH} {P : Program} {T : TT}

theorem CPost.from {κ1 : KM} {F1 : FM} {K : AV → AH → Prop} {e : Ending} {w' : World} (hk : KLe κ κ1) (hf : FLe F F1) (h : CPost κ1 F1 B w0 K e w') : CPost κ F B w0 K e w' := by
  obtain ⟨v, he, y, H', κ', F', h1, h2, h3⟩ := h
  exact ⟨v, he, y, H', κ', F', hk.trans h1, hf.trans h2, h3⟩

theorem AYield.mono {l : Nat} {args : List AV} {K K' : AV → AH → Prop} (h : AYield P l args H K) (hk : ∀ y H', K y H' → K' y H') : AYield P l args H K' :=
  ⟨fun κ F B w0 w cargs hI hA => by
    obtain ⟨fn, tmps, assign, body, hy, hR⟩ := h.run κ F B w0 w cargs hI hA
    exact ⟨fn, tmps, assign, body, hy, RoundIn.mono hR fun e w' ⟨v, he, hl⟩ => ⟨v, he, hl.mono hk⟩⟩⟩

/-- What a call has laid besides is let go. -/
theorem ACall.back {g : FuncId} {args : List AV} {v : AV} (h : ACall P g args H fun y H' => y = v ∧ HLe H H') : ACall P g args H fun y H' => y = v ∧ H' = H :=
  ⟨h.ent, fun κ F B w0 w cargs hI hA => (h.run κ F B w0 w cargs hI hA).mono fun e w' ⟨x, he, y, H', κ', F', h1, h2, h3, h4, h5, h6⟩ => ⟨x, he, y, H, κ', F', h1, h2, h3.less h6.le, h4, h5, rfl⟩⟩

theorem HLe.del {H H' : AH} (r : Nat) (h : HLe H H') (hr : H r = none) : HLe H (H'.del r) := by
  refine ⟨fun s x hs => ?_⟩
  by_cases e : s = r
  · rw [e, hr] at hs; cases hs
  · rw [AH.del_ne _ e]; exact h.le s x hs
theorem HLe.set_of {H H' : AH} (r : Nat) (o : AO) (h : HLe H H') (hr : H r = none) : HLe H (H'.set r o) := by
  refine ⟨fun s x hs => ?_⟩
  by_cases e : s = r
  · rw [e, hr] at hs; cases hs
  · rw [AH.set_ne _ _ e]; exact h.le s x hs

theorem AH.ne_none {H : AH} {r s : Nat} {o : AO} (h : H r = none) (k : H s = some o) : s ≠ r := fun e => by rw [e, h] at k; cases k
theorem AH.none_ne {H : AH} {r s : Nat} {o : AO} (h : H r = none) (k : H s = some o) : r ≠ s := fun e => by rw [← e, h] at k; cases k
theorem AH.none_set {H : AH} {r s : Nat} {o : AO} (h : (H.set s o) r = none) : r ≠ s ∧ H r = none := by
  have hn : r ≠ s := fun e => by rw [e, AH.set_same] at h; cases h
  exact ⟨hn, by rw [AH.set_ne _ _ hn] at h; exact h⟩
theorem AH.none_iff {H : AH} {r s : Nat} {o : AO} : (H.set s o) r = none ↔ r ≠ s ∧ H r = none :=
  ⟨AH.none_set, fun h => by rw [AH.set_ne _ _ h.1]; exact h.2⟩
theorem AH.get_ne {H : AH} {r s : Nat} {o : AO} {x : Option AO} (hn : s ≠ r) (h : H s = x) : (H.set r o) s = x := by rw [AH.set_ne _ _ hn]; exact h
theorem AH.getd_ne {H : AH} {r s : Nat} {x : Option AO} (hn : s ≠ r) (h : H s = x) : (H.del r) s = x := by rw [AH.del_ne _ hn]; exact h

theorem HLe.none {H H' : AH} {x : Nat} (h : HLe H H') (k : H' x = none) : H x = none := by
  cases hH : H x with
  | none => rfl
  | some o => rw [h.le x o hH] at k; cases k
/-- A nil slice is a constant one without elements. -/
theorem ACall.nils {g : FuncId} {pre post : List AV} {K : AV → AH → Prop} (h : ACall P g (pre ++ .cs [] 0 :: post) H K) : ACall P g (pre ++ .nils :: post) H K := by
  refine ⟨h.ent, fun κ F B w0 w cargs hI hA => h.run κ F B w0 w cargs hI ⟨by simpa using hA.1, fun i hi => ?_⟩⟩
  have := hA.2 i (by simpa using hi)
  by_cases h1 : i < pre.length
  · rw [List.getElem_append_left h1] at this ⊢; exact this
  · by_cases h2 : i = pre.length
    · subst h2
      rw [List.getElem_append_right (Nat.le_refl _)] at this ⊢
      simp only [Nat.sub_self, List.getElem_cons_zero] at this ⊢
      generalize cargs.getD pre.length undef = x at this
      cases this with
      | nils a => exact .cs0 _ _
    · obtain ⟨j, hj⟩ : ∃ j, i - pre.length = j + 1 := ⟨i - pre.length - 1, by omega⟩
      rw [List.getElem_append_right (by omega)] at this ⊢
      simp only [hj, List.getElem_cons_succ] at this ⊢
      exact this

/-- A row that nobody writes any more, told as a constant. -/
theorem Inv.cool (I : Inv κ F B w0 H w) {r v es n : Nat} {lim : Option Nat} {cells : List AV} {x : Value} (hv : VR κ F (.sl r v es 0 n lim) x) (hH : H r = some (.row cells v)) (hlen : cells.length = n * es) :
    ∃ F', FLe F F' ∧ Inv κ F' B w0 (H.del r) w ∧ VR κ F' (.cs cells n) x := by
  obtain ⟨i2, adr, c, rfl, hi2, _, hlc, _, _, hadr, lo, _, hlo, hlim⟩ := VR.slOf I hv hH
  obtain ⟨i, hi, hrow, _⟩ := I.objs _ _ hH
  have hi' : κ r v = some i := hi
  rw [hi'] at hi2; cases hi2
  cases hb : i2.blk with
  | none =>
    have hc0 : cells = [] ∧ i2.cap = 0 := by simpa only [RowOk, hb] using hrow
    have hc : c = 0 := by
      cases lim with
      | none => have : c = i2.cap - lo := hlim; omega
      | some m => have := hlim.1; have := hlim.2; omega
    have hn : n = 0 := by omega
    subst hn
    refine ⟨F, FLe.refl _, I.drop r, ?_⟩
    rw [hc0.1]; exact .cs0 _ _
  | some b =>
    obtain ⟨arr, hsz, hlen', hcv, hFle, I'⟩ := I.freeze hH hi' hb
    refine ⟨_, hFle, I', ?_⟩
    rcases hadr with hc | ⟨b', hb', rfl⟩
    · have hn : n = 0 := by omega
      subst hn
      have : cells = [] := by apply List.eq_nil_of_length_eq_zero; simpa using hlen
      rw [this]; exact .cs0 _ _
    · rw [hb] at hb'; cases hb'
      exact .cs (arr := arr) (by simp) (by omega) hlc (fun j hj => by
        have := (hcv j hj).mono (KLe.refl _) hFle
        simpa using this)

/-- A fresh slice that a call hands back, told as a constant. -/
theorem ACall.cold {g : FuncId} {args : List AV} {es n : Nat} {cells : List AV} (hlen : cells.length = n * es)
    (h : ACall P g args H fun y H' => ∃ r, H r = none ∧ ∃ v, y = .sl r v es 0 n none ∧ H' = H.set r (.row cells v)) : ACall P g args H fun y H' => y = .cs cells n ∧ H' = H := by
  refine ⟨h.ent, fun κ F B w0 w cargs hI hA => (h.run κ F B w0 w cargs hI hA).mono ?_⟩
  rintro e w' ⟨x, he, y, H', κ', F', h1, h2, h3, h4, r, hr, v, rfl, rfl⟩
  obtain ⟨F'', hF, I, hv⟩ := h3.cool h4 (AH.set_same _ _ _) hlen
  rw [AH.del_set _ _ _ hr] at I
  exact ⟨x, he, _, H, κ', F'', h1, h2.trans hF, I, hv, rfl, rfl⟩

end Go.Fw
/- The frame of the abstract walk, part 21: regions whose order is drawn, walked as the others. -/
set_option linter.unusedVariables false
set_option linter.unusedSimpArgs false
namespace Go.Fw
open Go.RowKit

variable {H : AH} {P : Program} {T : TT}

def isDetB : Builtin → Bool
  | .len => true
  | _ => false
def isDetT : TD → Bool
  | .int _ => true
  | .str => true
  | _ => false
/-- Operations that leave the heap as it was and have one value. -/
def isDet (T : TT) : Op → Bool
  | .move _ => true
  | .assign _ => true
  | .pick .. => true
  | .load .. => true
  | .nilCheck _ => true
  | .binOp _ _ _ y _ => !isNilS y
  | .unOp .. => true
  | .convert _ d _ => (match T.get d with | some dr => isDetT dr.d | none => false)
  | .slice .. => true
  | .fieldAddr .. => true
  | .field .. => true
  | .indexAddr .. => true
  | .index .. => true
  | .extract .. => true
  | .build .. => true
  | .makeFunc .. => true
  | .call c => (match c.callee with | .builtin b => isDetB b | _ => false)
  | _ => false

theorem opA_det {o : Op} {e : Env} {K : AV → AH → Prop} (hd : isDet T o = true) (h : opA T o e H K) : ∃ v, opA T o e H (fun v' H' => v' = v ∧ H' = H) ∧ K v H := by
  have key : DetH H (opA T o e H) → ∃ v, opA T o e H (fun v' H' => v' = v ∧ H' = H) ∧ K v H := fun k => k K h
  apply key
  clear key h
  cases o <;> try (cases hd; done)
  case move x => exact (det_one _).h H
  case assign x => exact (det_one _).h H
  case makeFunc f a c => exact (det_one _).h H
  case pick c a b =>
    unfold opA
    simp only
    split
    · exact (det_one _).h H
    · exact deth_false H
  case load t a =>
    unfold opA
    simp only
    split
    · exact (det_loadA _ _ _).h H
    · exact deth_false H
  case nilCheck x =>
    unfold opA
    simp only
    split
    · exact (det_one _).h H
    · exact (det_one _).h H
    · exact (det_one _).h H
    · exact deth_false H
  case binOp op t x y r =>
    simp only [isDet, Bool.not_eq_true'] at hd
    unfold opA
    simp only [hd]
    exact (det_binA _ _ _ _).h H
  case unOp op t x =>
    unfold opA
    simp only
    split
    · exact (det_all _ _).h H
    · exact (det_all _ _).h H
    · exact (det_one _).h H
    · exact deth_false H
  case convert s d x =>
    simp only [isDet] at hd
    unfold opA
    simp only
    split
    · rename_i sr dr hs hdd
      rw [hdd] at hd
      simp only at hd
      unfold convA
      split
      · exact (det_all _ _).h H
      · exact (det_one _).h H
      · rename_i h0 h1 h2; rw [h0] at hd; cases hd
      · exact (det_when _ (det_cellsA _ _ _)).h H
      · exact deth_false H
    · exact deth_false H
  case slice t x lo hi mx =>
    unfold opA
    simp only
    split
    · exact (det_sliceA _ _ _ _ _).h H
    · exact deth_false H
  case fieldAddr t x f =>
    unfold opA
    simp only
    split
    · exact (det_fieldAddrA _ _ _).h H
    · exact deth_false H
  case field t x f =>
    unfold opA
    simp only
    split
    · split
      · exact (det_when _ (det_and _ (det_one _))).h H
      · exact deth_false H
    · exact deth_false H
  case indexAddr t x i =>
    unfold opA
    simp only
    split
    · exact (det_indexAddrA _ _ _).h H
    · exact deth_false H
  case index t x i =>
    unfold opA
    simp only
    split
    · exact (det_indexA _ _ _).h H
    · exact deth_false H
  case extract t i =>
    unfold opA
    simp only
    split
    · split
      · exact (det_one _).h H
      · exact deth_false H
    · exact deth_false H
  case build t parts =>
    unfold opA
    simp only
    split
    · split
      · exact (det_forceL _).h H
      · exact deth_false H
    · split
      · exact (det_forceL _).h H
      · exact deth_false H
    · exact deth_false H
  case call c =>
    simp only [isDet] at hd
    unfold opA
    simp only
    split
    · rename_i b hb
      rw [hb] at hd
      cases b <;> try (cases hd; done)
      unfold builtinA
      split
      · exact (det_lenA _ _).h H
      all_goals first
        | exact deth_false H
        | contradiction
    · exact deth_false H

theorem stepA_opA {o : Op} {e : Env} {K : AV → AH → Prop} (hd : isDet T o = true) (h : opA T o e H K) : stepA P T o e H K := by
  cases o
  case call c =>
    unfold stepA
    simp only
    split
    · rename_i f hf; simp only [isDet, hf] at hd; cases hd
    · exact h
  all_goals exact h

/-- One value and one heap. -/
def Det2 (F : (AV → AH → Prop) → Prop) : Prop := ∀ K, F K → ∃ v H2, F (fun v' H' => v' = v ∧ H' = H2) ∧ K v H2
theorem det2_one (v : AV) (H : AH) : Det2 fun K => K v H := fun K h => ⟨v, H, ⟨rfl, rfl⟩, h⟩
theorem det2_false : Det2 fun _ => False := fun K h => h.elim
theorem det2_and {F : (AV → AH → Prop) → Prop} (p : Prop) (h : Det2 F) : Det2 fun K => p ∧ F K := fun K ⟨hp, hF⟩ => by
  obtain ⟨v, H2, h1, h2⟩ := h K hF
  exact ⟨v, H2, ⟨hp, h1⟩, h2⟩
theorem det2_when {F : (AV → AH → Prop) → Prop} (b : Bool) (h : Det2 F) : Det2 fun K => when b (F K) := by
  cases b
  · exact det2_false
  · exact h
theorem det2_ex {α : Type} {F : α → (AV → AH → Prop) → Prop} (h : ∀ x, Det2 (F x)) : Det2 fun K => ∃ x, F x K := fun K ⟨x, hF⟩ => by
  obtain ⟨v, H2, h1, h2⟩ := h x K hF
  exact ⟨v, H2, ⟨x, h1⟩, h2⟩

def isSlA : List AV → Bool
  | .sl .. :: _ => true
  | _ => false
/-- Operations that change memory, and have one value and one heap. -/
def isDetE (e : Env) : Op → Bool
  | .store .. => true
  | .call c => (match c.callee with | .builtin .append => isSlA (c.args.toList.map (ev e)) | _ => false)
  | _ => false

theorem det2_cellsA {esz : Nat} {x : AV} {F : Nat → List AV → (AV → AH → Prop) → Prop} (h : ∀ n l, Det2 (F n l)) : Det2 fun K => cellsA esz x H fun n l => F n l K := by
  unfold cellsA
  split
  · exact h _ _
  · exact det2_and _ (h _ _)
  · exact det2_when _ (det2_ex fun cells => det2_and _ (det2_and _ (h _ _)))
  · exact det2_false
theorem det2_srcA {esz : Nat} {x : AV} {F : Nat → List AV → (AV → AH → Prop) → Prop} (h : ∀ n l, Det2 (F n l)) : Det2 fun K => srcA esz x H fun n l => F n l K := by
  unfold srcA
  split
  · exact det2_when _ (h _ _)
  · exact det2_cellsA h

theorem opA_detE {o : Op} {e : Env} {K : AV → AH → Prop} (hd : isDetE e o = true) (h : opA T o e H K) : ∃ v H2, opA T o e H (fun v' H' => v' = v ∧ H' = H2) ∧ K v H2 := by
  have key : Det2 (opA T o e H) → ∃ v H2, opA T o e H (fun v' H' => v' = v ∧ H' = H2) ∧ K v H2 := fun k => k K h
  apply key
  clear key h
  cases o <;> try (cases hd; done)
  case store t x y =>
    unfold opA
    simp only
    split
    · unfold storeA
      split
      · refine det2_ex fun cells => det2_and _ (det2_and _ ?_)
        split
        · exact det2_and _ (det2_and _ (det2_one _ _))
        · exact det2_false
      · exact det2_false
    · exact det2_false
  case call c =>
    simp only [isDetE] at hd
    unfold opA
    simp only
    cases hc : c.callee with
    | builtin b =>
      simp only [hc] at hd ⊢
      cases b <;> try (cases hd; done)
      unfold builtinA
      split
      all_goals first
        | exact det2_false
        | contradiction
        | skip
      rename_i s x _ _ hl
      rw [hl] at hd
      split
      all_goals first
        | exact det2_false
        | skip
      all_goals first
        | (unfold appendZ; cases s <;> first | (cases hd; done) | exact det2_false)
        | skip
      all_goals
        unfold appendA
        refine det2_srcA fun n new => det2_and _ ?_
        cases s <;> first
          | exact det2_false
          | (cases hd; done)
          | exact det2_when _ (det2_ex fun cells => det2_and _ (det2_and _ (det2_and _ (det2_one _ _))))
    | value f => rw [hc] at hd; cases hd
    | invoke r m => rw [hc] at hd; cases hd

theorem isDetE_eff {e : Env} {o : Op} (h : isDetE e o = true) : isEff o = true := by
  cases o <;> try (cases h; done)
  · rfl
  · rename_i c
    simp only [isDetE] at h
    simp only [isEff]
    cases hc : c.callee with
    | builtin b => rw [hc] at h; cases b <;> first | rfl | (cases h; done)
    | value f => rw [hc] at h; cases h
    | invoke r m => rw [hc] at h; cases h

theorem stepA_opE {o : Op} {e : Env} {K : AV → AH → Prop} (hd : isDetE e o = true) (h : opA T o e H K) : stepA P T o e H K := by
  cases o
  case call c =>
    unfold stepA
    simp only
    split
    · rename_i f hf; simp only [isDetE, hf] at hd; cases hd
    · exact h
  all_goals exact h

/-- A slice written out, as a constant. -/
def bsA (T : TT) (e : Env) (t : TypeId) (len : Nat) (parts : Array (Nat × Operand)) (K : AV → Prop) : Prop :=
  match T.get t with
  | some ⟨.slice _ esz _ ez, _, _, _⟩ =>
    (match fillA (fun i => some (i * esz, esz)) ((List.replicate len ez).flatten) (parts.toList.map fun p => (p.1, ev e p.2)) with
     | some cells => when (Nat.ble (len * esz) 16777216) (forceL cells fun cells => K (.cs cells len))
     | none => False)
  | _ => False
theorem bsA_ok {e : Env} {t : TypeId} {len : Nat} {parts : Array (Nat × Operand)} {K : AV → Prop} (h : bsA T e t len parts K) : ∃ v, stepA P T (.buildSlice t len parts) e H (fun v' H' => v' = v ∧ H' = H) ∧ K v := by
  unfold bsA at h
  show ∃ v, opA T (.buildSlice t len parts) e H (fun v' H' => v' = v ∧ H' = H) ∧ K v
  simp only [opA]
  split at h
  · rename_i esz _ ez _ _ _ hg
    split at h
    · rename_i cells hf
      obtain ⟨h1, h2⟩ := when_iff.1 h
      rw [forceL_eq] at h2
      refine ⟨.cs cells len, ?_, h2⟩
      simp only [hg, hf]
      refine when_iff.2 ⟨h1, .inl ?_⟩
      rw [forceL_eq]; simp
    · exact h.elim
  · exact h.elim
def drawO (P : Program) (T : TT) (o : Op) (e : Env) (H : AH) (K : AV → Prop) : Prop :=
  match o with
  | .buildSlice t len parts => bsA T e t len parts K
  | o => ∃ v, stepA P T o e H (fun v' H' => v' = v ∧ H' = H) ∧ K v
theorem drawO_ok {o : Op} {e : Env} {K : AV → Prop} (h : drawO P T o e H K) : ∃ v, stepA P T o e H (fun v' H' => v' = v ∧ H' = H) ∧ K v := by
  unfold drawO at h
  split at h
  · exact bsA_ok h
  · exact h

/-- A value that does not hang on memory. -/
def loadC (tr : TR) (a : AV) (K : AV → Prop) : Prop :=
  match a with
  | .cp cells => cond tr.agg (tr.size ≤ cells.length ∧ K (.agg (cells.take tr.size))) (when (Nat.beq tr.size 1) (∃ x, cells[0]? = some x ∧ K x))
  | _ => False
def pureO (P : Program) (T : TT) (o : Op) (e : Env) (K : AV → Prop) : Prop :=
  match o with
  | .load t a => (match T.get t with | some tr => loadC tr (ev e a) K | none => False)
  | o => ∃ v, (∀ G, stepA P T o e G (fun v' H' => v' = v ∧ H' = G)) ∧ K v
theorem det_loadC (tr : TR) (a : AV) : Det (loadC tr a) := by
  unfold loadC
  split
  · exact det_cond _ (det_and _ (det_one _)) (det_when _ (det_ex fun x => det_and _ (det_one _)))
  · exact det_false
theorem loadC_ok {tr : TR} {a : AV} {K : AV → Prop} (h : loadC tr a K) : loadA tr a H K := by
  unfold loadC at h
  split at h
  · exact h
  · exact h.elim
theorem pureO_ok {o : Op} {e : Env} {K : AV → Prop} (h : pureO P T o e K) : ∃ v, (∀ G, stepA P T o e G (fun v' H' => v' = v ∧ H' = G)) ∧ K v := by
  unfold pureO at h
  split at h
  · rename_i t a
    split at h
    · rename_i tr hg
      obtain ⟨v, h1, h2⟩ := det_loadC _ _ _ h
      refine ⟨v, fun G => ?_, h2⟩
      show opA T (.load t a) e G (fun v' H' => v' = v ∧ H' = G)
      simp only [opA, hg]
      simpa using loadC_ok (H := G) h1
    · exact h.elim
  · exact h

def drawD (N : Nat) (P : Program) (T : TT) (M : Mk) (all : Array Oper) (o : Oper) (rest : List Oper) (K : St → AH → Prop) (e : Env) (d : List Nat) (H : AH) : Prop :=
  match o.dst with
  | none => guardA all e o.guard fun b => cond b (cond (isDetE e o.op) (opA T o.op e H fun _ H' => DrawA N P T M all rest K ⟨e, d⟩ H') (∃ v, stepA P T o.op e H (fun v' H' => v' = v ∧ H' = H) ∧ DrawA N P T M all rest K ⟨e, d⟩ H)) (DrawA N P T M all rest K ⟨e, d⟩ H)
  | some t => when (Nat.blt t N) (guardA all e o.guard fun b =>
      cond b (cond (inM M.2 o.dst) (pureO P T o.op e fun v => force v fun v => DrawA N P T M all rest K ⟨upd e t v, d⟩ H)
        (cond (inM M.1 o.dst) (∃ v H2, stepA P T o.op e H (fun v' H' => v' = v ∧ H' = H2) ∧ force v fun v => DrawA N P T M all rest K ⟨upd e t v, d⟩ H2)
        (cond (isDet T o.op) (opA T o.op e H fun v _ => force v fun v => DrawA N P T M all rest K ⟨upd e t v, d⟩ H)
        (cond (isDetE e o.op) (opA T o.op e H fun v H' => force v fun v => DrawA N P T M all rest K ⟨upd e t v, d⟩ H')
          (drawO P T o.op e H fun v => force v fun v => DrawA N P T M all rest K ⟨upd e t v, d⟩ H))))) (DrawA N P T M all rest K ⟨upd e t (.tup []), d⟩ H))

theorem guardA_mono {all : Array Oper} {e : Env} {g : Option (Nat × Bool)} {F G : Bool → Prop} (h : ∀ b, F b → G b) : guardA all e g F → guardA all e g G := by
  intro hF
  match g with
  | none => exact h _ hF
  | some (j, want) =>
    unfold guardA at hF ⊢
    simp only at hF ⊢
    split at hF
    · rename_i t ht
      split at hF
      · exact h _ hF
      · exact h _ hF
      · exact hF.elim
    · exact hF.elim

theorem inM_none (l : List Nat) : inM l none = false := by cases l <;> rfl
theorem DrawA.consD {N : Nat} {M : Mk} {all : Array Oper} {o : Oper} {rest : List Oper} {K : St → AH → Prop} {e : Env} {d : List Nat} (h : drawD N P T M all o rest K e d H) : DrawA N P T M all (o :: rest) K ⟨e, d⟩ H := by
  refine DrawA.cons ?_
  unfold drawD at h
  unfold drawB
  split
  · rename_i hd
    rw [hd] at h
    refine guardA_mono (fun b hb => ?_) h
    cases b with
    | false => exact hb
    | true =>
      simp only [cond_true] at hb ⊢
      have hm : inM M.2 o.dst = true → ∀ {p : Prop}, p := fun h => by rw [hd, inM_none] at h; cases h
      cases hE : isDetE e o.op with
      | true =>
        rw [hE] at hb
        obtain ⟨v, H2, h1, h2⟩ := opA_detE (K := fun _ H' => DrawA N P T M all rest K ⟨e, d⟩ H') hE hb
        refine ⟨v, H2, stepA_opE hE h1, ?_, fun h => hm h, h2⟩
        intro h; unfold isEffM at h; rw [isDetE_eff hE] at h; cases h
      | false =>
        rw [hE] at hb
        obtain ⟨v, h1, h2⟩ := hb
        exact ⟨v, H, h1, fun _ => rfl, fun h => hm h, h2⟩
  · rename_i t hd
    rw [hd] at h
    obtain ⟨h1, h2⟩ := when_iff.1 h
    refine when_iff.2 ⟨h1, guardA_mono (fun b hb => ?_) h2⟩
    cases b with
    | false => exact hb
    | true =>
      simp only [cond_true] at hb ⊢
      cases hM : inM M.2 (some t) with
      | true =>
        rw [hM] at hb
        obtain ⟨v, h3, h4⟩ := pureO_ok hb
        exact ⟨v, H, h3 H, fun _ => rfl, fun _ => h3, h4⟩
      | false =>
      rw [hM] at hb
      simp only [cond_false] at hb
      have hm : inM M.2 o.dst = true → ∀ {p : Prop}, p := fun h => by rw [hd, hM] at h; cases h
      cases hN : inM M.1 (some t) with
      | true =>
        rw [hN] at hb
        obtain ⟨v, H2, h3, h4⟩ := hb
        refine ⟨v, H2, h3, fun h => ?_, fun h => hm h, h4⟩
        unfold isEffM at h; rw [hd, hN, Bool.or_true] at h; cases h
      | false =>
      rw [hN] at hb
      simp only [cond_false] at hb
      cases hD : isDet T o.op with
      | true =>
        rw [hD] at hb
        obtain ⟨v, h3, h4⟩ := opA_det (K := fun v _ => force v fun v => DrawA N P T M all rest K ⟨upd e t v, d⟩ H) hD hb
        exact ⟨v, H, stepA_opA hD h3, fun _ => rfl, fun h => hm h, h4⟩
      | false =>
        rw [hD] at hb
        cases hE : isDetE e o.op with
        | true =>
          rw [hE] at hb
          obtain ⟨v, H2, h3, h4⟩ := opA_detE (K := fun v H' => force v fun v => DrawA N P T M all rest K ⟨upd e t v, d⟩ H') hE hb
          refine ⟨v, H2, stepA_opE hE h3, ?_, fun h => hm h, h4⟩
          intro h; unfold isEffM at h; rw [isDetE_eff hE] at h; cases h
        | false =>
          rw [hE] at hb
          obtain ⟨v, h3, h4⟩ := drawO_ok (H := H) hb
          exact ⟨v, H, h3, fun _ => rfl, fun h => hm h, h4⟩
end Go.Fw
/- The frame of the abstract walk, part 22: cells of rows told anew. -/
set_option linter.unusedVariables false
set_option linter.unusedSimpArgs false
namespace Go.Fw
open Go.RowKit

variable {κ : KM} {F : FM} {B : Nat} {w0 w : World} {H : AH} {P : Program} {T : TT}

/-- A row's cells are told anew, each a way that it may be told. -/
theorem Inv.rowTo (I : Inv κ F B w0 H w) {p u : Nat} {cells cells' : List AV} (hp : H p = some (.row cells u)) (hl : cells'.length = cells.length)
    (h : ∀ j (hj : j < cells.length) (hj' : j < cells'.length) x, VR κ F cells[j] x → VR κ F cells'[j] x) : Inv κ F B w0 (H.set p (.row cells' u)) w := by
  refine ⟨I.below, I.base, I.fz, I.names, fun s o hs => ?_, fun s s' o1 o2 i1 i2 c h1 h2 hne hk1 hk2 hb1 => ?_⟩
  · by_cases e : s = p
    · subst e
      rw [AH.set_same] at hs; cases hs
      obtain ⟨i, hi, hrow, hn⟩ := I.objs _ _ hp
      refine ⟨i, hi, ?_, hn⟩
      cases hb : i.blk with
      | none =>
        simp only [RowOk, hb] at hrow ⊢
        refine ⟨?_, hrow.2⟩
        apply List.eq_nil_of_length_eq_zero
        rw [hl, hrow.1]; rfl
      | some b =>
        simp only [RowOk, hb] at hrow ⊢
        obtain ⟨hB, hFb, arr, e, fr, hh, hlo, hsz, hlen, hc⟩ := hrow
        exact ⟨hB, hFb, arr, e, fr, hh, hlo, hsz, by omega, fun j hj => h j (by omega) hj _ (hc j (by omega))⟩
    · rw [AH.set_ne _ _ e] at hs; exact I.objs _ _ hs
  · have old : ∀ t ot, H.set p (.row cells' u) t = some ot → ∃ ot', H t = some ot' ∧ ot'.ver = ot.ver := by
      intro t ot h
      by_cases e : t = p
      · subst e; rw [AH.set_same] at h; cases h; exact ⟨_, hp, rfl⟩
      · rw [AH.set_ne _ _ e] at h; exact ⟨ot, h, rfl⟩
    obtain ⟨o1', h1', e1⟩ := old _ _ h1
    obtain ⟨o2', h2', e2⟩ := old _ _ h2
    exact I.apart _ _ _ _ _ _ _ h1' h2' hne (by rw [e1]; exact hk1) (by rw [e2]; exact hk2) hb1

theorem VR.slF {F2 : FM} {r v es off len : Nat} {lim : Option Nat} {x : Value} (h : VR κ F2 (.sl r v es off len lim) x) : VR κ F (.sl r v es off len lim) x := by
  cases h with
  | sl h hoff hlo hc hlen ha => exact .sl h hoff hlo hc hlen ha

/-- A row that nobody writes any more: all slices that lead to it may be told as constants. -/
theorem Inv.coolAll (I : Inv κ F B w0 H w) {r v : Nat} {cells : List AV} (hH : H r = some (.row cells v)) :
    ∃ F', FLe F F' ∧ Inv κ F' B w0 (H.del r) w ∧ ∀ F2 x es n lim, cells.length = n * es → VR κ F2 (.sl r v es 0 n lim) x → VR κ F' (.cs cells n) x := by
  obtain ⟨i, hi, hrow, hn0⟩ := I.objs _ _ hH
  have hi' : κ r v = some i := hi
  cases hb : i.blk with
  | none =>
    have hc0 : cells = [] ∧ i.cap = 0 := by simpa only [RowOk, hb] using hrow
    refine ⟨F, FLe.refl _, I.drop r, fun F2 x es n lim hlen hv => ?_⟩
    have hv := VR.slF (F := F) hv
    obtain ⟨i2, adr, c, rfl, hi2, _, hlc, _, _, hadr, lo, _, hlo, hlim⟩ := VR.slOf I hv hH
    rw [hi'] at hi2; cases hi2
    have hc : c = 0 := by
      cases lim with
      | none => have : c = i.cap - lo := hlim; omega
      | some m => have := hlim.1; have := hlim.2; omega
    have hn : n = 0 := by omega
    subst hn
    rw [hc0.1]; exact .cs0 _ _
  | some b =>
    obtain ⟨arr, hsz, hlen', hcv, hFle, I'⟩ := I.freeze hH hi' hb
    refine ⟨_, hFle, I', fun F2 x es n lim hlen hv => ?_⟩
    have hv := VR.slF (F := F) hv
    obtain ⟨i2, adr, c, rfl, hi2, _, hlc, _, _, hadr, lo, _, hlo, hlim⟩ := VR.slOf I hv hH
    rw [hi'] at hi2; cases hi2
    rcases hadr with hc | ⟨b', hb', rfl⟩
    · have hn : n = 0 := by omega
      subst hn
      have : cells = [] := by apply List.eq_nil_of_length_eq_zero; simpa using hlen
      rw [this]; exact .cs0 _ _
    · rw [hb] at hb'; cases hb'
      exact .cs (arr := arr) (by simp) (by omega) hlc (fun j hj => by
        have := (hcv j hj).mono (KLe.refl _) hFle
        simpa using this)

/-- What is known is told anew, beside the code. -/
theorem AWp_ghost {N : Nat} {ro : Option Nat} {ws : Nat → Bool} {c : Code} {K R : St → AH → Prop} {X : Nat → St → AH → Prop} {s : St} {H : AH} (H' : AH)
    (hg : ∀ κ F B w0 w, Inv κ F B w0 H w → ∃ κ' F', KLe κ κ' ∧ FLe F F' ∧ Inv κ' F' B w0 H' w) (h : AWp N P ro ws c K R X s H') : AWp N P ro ws c K R X s H := by
  refine ⟨fun κ F B w0 w a I hE => ?_⟩
  obtain ⟨κ', F', hk, hF, I'⟩ := hg κ F B w0 w I
  exact wpIn_mono (h.out κ' F' B w0 w a I' (hE.mono hk hF)) (fun e a w hq => QOk.from hk hF (Agree.refl _ _) hq)

/-- One cell of a row: a slice of a row that nobody writes any more. -/
theorem AWp_freezeC {N : Nat} {ro : Option Nat} {ws : Nat → Bool} {c : Code} {K R : St → AH → Prop} {X : Nat → St → AH → Prop} {s : St} {H : AH} {p u r v es n : Nat} {lim : Option Nat} (pre post : List AV) {cells : List AV} (hpr : p ≠ r)
    (hp : H p = some (.row (pre ++ .sl r v es 0 n lim :: post) u)) (hr : H r = some (.row cells v)) (hlen : cells.length = n * es)
    (h : AWp N P ro ws c K R X s ((H.del r).set p (.row (pre ++ .cs cells n :: post) u))) : AWp N P ro ws c K R X s H := by
  refine AWp_ghost _ (fun κ F B w0 w I => ?_) h
  obtain ⟨F', hF, I', hall⟩ := I.coolAll hr
  refine ⟨κ, F', KLe.refl _, hF, I'.rowTo (cells := pre ++ .sl r v es 0 n lim :: post) (by rw [AH.del_ne _ hpr]; exact hp) (by simp) fun j hj hj' x hx => ?_⟩
  by_cases h1 : j < pre.length
  · rw [List.getElem_append_left h1] at hx ⊢; exact hx
  · by_cases h2 : j = pre.length
    · subst h2
      rw [List.getElem_append_right (Nat.le_refl _)] at hx ⊢
      simp only [Nat.sub_self, List.getElem_cons_zero] at hx ⊢
      exact hall _ _ _ _ _ hlen hx
    · obtain ⟨k, hk⟩ : ∃ k, j - pre.length = k + 1 := ⟨j - pre.length - 1, by omega⟩
      rw [List.getElem_append_right (by omega)] at hx ⊢
      simp only [hk, List.getElem_cons_succ] at hx ⊢
      exact hx

/-- One cell of a row: a nil slice, told as a row without elements. -/
theorem AWp_nilC {N : Nat} {ro : Option Nat} {ws : Nat → Bool} {c : Code} {K R : St → AH → Prop} {X : Nat → St → AH → Prop} {s : St} {H : AH} {p u : Nat} (es : Nat) (pre post : List AV)
    (hp : H p = some (.row (pre ++ .nils :: post) u))
    (h : ∀ r, H r = none → r ≠ p → AWp N P ro ws c K R X s ((H.set r (.row [] 0)).set p (.row (pre ++ .sl r 0 es 0 0 none :: post) u))) : AWp N P ro ws c K R X s H := by
  refine ⟨fun κ F B w0 w a I hE => ?_⟩
  obtain ⟨r, hr, hkr⟩ := I.fresh
  have hrp : r ≠ p := fun e => by rw [e, hp] at hr; cases hr
  obtain ⟨hle, I'⟩ := I.ghost es hr hkr
  have I2 := I'.rowTo (cells := pre ++ .nils :: post) (cells' := pre ++ .sl r 0 es 0 0 none :: post) (by rw [AH.set_ne _ _ (Ne.symm hrp)]; exact hp) (by simp) fun j hj hj' x hx => by
    by_cases h1 : j < pre.length
    · rw [List.getElem_append_left h1] at hx ⊢; exact hx
    · by_cases h2 : j = pre.length
      · subst h2
        rw [List.getElem_append_right (Nat.le_refl _)] at hx ⊢
        simp only [Nat.sub_self, List.getElem_cons_zero] at hx ⊢
        cases hx with
        | nils adr => exact .sl (KM.put_same ..) (lo := 0) (by simp) (by simp) (show _ = _ by simp) (by simp) (Or.inl rfl)
      · obtain ⟨k, hk⟩ : ∃ k, j - pre.length = k + 1 := ⟨j - pre.length - 1, by omega⟩
        rw [List.getElem_append_right (by omega)] at hx ⊢
        simp only [hk, List.getElem_cons_succ] at hx ⊢
        exact hx
  exact wpIn_mono ((h r hr hrp).out _ F B w0 w a I2 (hE.mono hle (FLe.refl _))) (fun e a w hq => QOk.from hle (FLe.refl _) (Agree.refl _ _) hq)
end Go.Fw
/- The frame of the abstract walk, part 23: calls that hand back nil or a fresh slice; heaps. -/
set_option linter.unusedVariables false
set_option linter.unusedSimpArgs false
namespace Go.Fw
open Go.RowKit

variable {κ : KM} {F : FM} {B : Nat} {w0 w : World} {H : AH} {P : Program} {T : TT}

theorem ACall.warmN {g : FuncId} {args : List AV} {es n : Nat} {cells : List AV} (hlen : cells.length = n * es)
    (h : ACall P g args H fun y H' => (y = .nils ∧ n = 0 ∧ H' = H) ∨ ∃ r, H r = none ∧ ∃ v, y = .sl r v es 0 n none ∧ H' = H.set r (.row cells v)) :
    ACall P g args H fun y H' => ∃ r, H r = none ∧ ∃ v, y = .sl r v es 0 n none ∧ H' = H.set r (.row cells v) := by
  refine ⟨h.ent, fun κ F B w0 w cargs hI hA => (h.run κ F B w0 w cargs hI hA).mono ?_⟩
  rintro e w' ⟨x, he, y, H', κ', F', h1, h2, h3, h4, hK⟩
  rcases hK with ⟨rfl, rfl, rfl⟩ | ⟨r, hr, v, rfl, rfl⟩
  · have : cells = [] := by apply List.eq_nil_of_length_eq_zero; simpa using hlen
    subst this
    obtain ⟨r, hr, hkr⟩ := h3.fresh
    obtain ⟨hle, I'⟩ := h3.ghost es hr hkr
    refine ⟨x, he, .sl r 0 es 0 0 none, _, _, F', h1.trans hle, h2, I', ?_, r, hr, 0, rfl, rfl⟩
    cases h4 with
    | nils a => exact .sl (KM.put_same ..) (lo := 0) (by simp) (by simp) (show _ = _ by simp) (by simp) (Or.inl rfl)
  · exact ⟨x, he, _, _, κ', F', h1, h2, h3, h4, r, hr, v, rfl, rfl⟩

/-- A call whose value and heap are known. -/
theorem ACall.to {g : FuncId} {args : List AV} {v : AV} {H2 : AH} {K : AV → AH → Prop} (h : ACall P g args H fun y H' => y = v ∧ H' = H2) (k : K v H2) : ACall P g args H K :=
  h.mono fun y H' ⟨e1, e2⟩ => by rw [e1, e2]; exact k

theorem HLe.of_eq {a b : AH} (h : a = b) : HLe a b := h ▸ HLe.refl _
theorem AH.set_id {H : AH} {p : Nat} {o : AO} (h : H p = some o) : H.set p o = H := by
  funext s; simp only [AH.set]; split
  · rename_i e; rw [e, h]
  · rfl
theorem AH.set_back (H : AH) {p r : Nat} (h : p ≠ r) (a b a' : AO) : ((H.set p a).set r b).set p a' = (H.set p a').set r b := by
  rw [AH.set_comm _ _ _ (Ne.symm h), AH.set_set]
end Go.Fw
/- The frame of the abstract walk, part 24: less is told of what a call leaves. -/
set_option linter.unusedVariables false
set_option linter.unusedSimpArgs false
namespace Go.Fw
open Go.RowKit

variable {κ : KM} {F : FM} {B : Nat} {w0 w : World} {H : AH} {P : Program} {T : TT}

/-- Whatever the one stands for, the other does. -/
def AVle (a b : AV) : Prop := ∀ κ F x, VR κ F a x → VR κ F b x
theorem AVle.refl (a : AV) : AVle a a := fun _ _ _ h => h
theorem AVle.nils : AVle .nils (.cs [] 0) := fun _ _ _ h => by cases h with | nils a => exact .cs0 _ _
def AVles (l m : List AV) : Prop := m.length = l.length ∧ ∀ i (hi : i < l.length) (hj : i < m.length), AVle l[i] m[i]
theorem AVles.nil : AVles [] [] := ⟨rfl, fun i hi => by simp at hi⟩
theorem AVles.cons {a b : AV} {l m : List AV} (h : AVle a b) (k : AVles l m) : AVles (a :: l) (b :: m) :=
  ⟨by simp [k.1], fun i hi hj => by
    cases i with
    | zero => exact h
    | succ i => exact k.2 i (by simpa using hi) (by simpa using hj)⟩
theorem AVles.refl (l : List AV) : AVles l l := ⟨rfl, fun _ _ _ => AVle.refl _⟩
theorem AVles.append {a b l m : List AV} (h : AVles a b) (k : AVles l m) : AVles (a ++ l) (b ++ m) := by
  refine ⟨by simp [h.1, k.1], fun i hi hj => ?_⟩
  by_cases hlt : i < a.length
  · rw [List.getElem_append_left hlt, List.getElem_append_left (by rw [h.1]; exact hlt)]; exact h.2 i _ _
  · have e : (a ++ l)[i] = l[i - a.length]'(by simp at hi; omega) := List.getElem_append_right (by omega)
    have e2 : (b ++ m)[i] = m[i - a.length]'(by simp at hj; have := h.1; omega) := by
      rw [List.getElem_append_right (by rw [h.1]; omega)]; congr 1; rw [h.1]
    rw [e, e2]; exact k.2 _ _ _
theorem AVle.agg {l m : List AV} (h : AVles l m) : AVle (.agg l) (.agg m) := fun κ F x hx => by
  cases hx with
  | agg hA hi => exact .agg (by rw [hA, h.1]) fun i hj => h.2 i (by rw [← h.1]; exact hj) hj _ _ _ (hi i (by rw [← h.1]; exact hj))
theorem AVle.tup {l m : List AV} (h : AVles l m) : AVle (.tup l) (.tup m) := fun κ F x hx => by
  cases hx with
  | tup hA hi => exact .tup (by rw [hA, h.1]) fun i hj => h.2 i (by rw [← h.1]; exact hj) hj _ _ _ (hi i (by rw [← h.1]; exact hj))
theorem AVle.cs {l m : List AV} {n : Nat} (h : AVles l m) : AVle (.cs l n) (.cs m n) := fun κ F x hx => by
  cases hx with
  | cs0 a c =>
    have : m = [] := by apply List.eq_nil_of_length_eq_zero; rw [h.1]; rfl
    rw [this]; exact .cs0 _ _
  | cs hF hle hc hi => exact .cs hF (by rw [h.1]; exact hle) hc fun i hj => h.2 i (by rw [← h.1]; exact hj) hj _ _ _ (hi i (by rw [← h.1]; exact hj))

theorem ACall.told {g : FuncId} {args : List AV} {K : AV → AH → Prop} (h : ACall P g args H fun y H' => ∃ y' H2, AVle y y' ∧ HLe H2 H' ∧ K y' H2) : ACall P g args H K := by
  refine ⟨h.ent, fun κ F B w0 w cargs hI hA => (h.run κ F B w0 w cargs hI hA).mono ?_⟩
  rintro e w' ⟨x, he, y, H', κ', F', h1, h2, h3, h4, y', H2, h5, h6, h7⟩
  exact ⟨x, he, y', H2, κ', F', h1, h2, h3.less h6.le, h5 _ _ _ h4, h7⟩

/-- Arguments may be told of more. -/
theorem ACall.args {g : FuncId} {args args' : List AV} {K : AV → AH → Prop} (h : AVles args args') (k : ACall P g args' H K) : ACall P g args H K :=
  ⟨k.ent, fun κ F B w0 w cargs hI hA => k.run κ F B w0 w cargs hI ⟨by rw [hA.1, h.1], fun i hi => h.2 i (by rw [← h.1]; exact hi) hi _ _ _ (hA.2 i (by rw [← h.1]; exact hi))⟩⟩

/-- A row's cells are told anew, at a mark in the walk. -/
theorem AWp_rowTo {N : Nat} {ro : Option Nat} {ws : Nat → Bool} {c : Code} {K R : St → AH → Prop} {X : Nat → St → AH → Prop} {s : St} {H : AH} {p u : Nat} {cells : List AV} (cells' : List AV)
    (hp : H p = some (.row cells u)) (hl : AVles cells cells') (h : AWp N P ro ws c K R X s (H.set p (.row cells' u))) : AWp N P ro ws c K R X s H :=
  AWp_ghost _ (fun κ F B w0 w I => ⟨κ, F, KLe.refl _, FLe.refl _, I.rowTo hp hl.1 fun j hj hj' x hx => hl.2 j hj hj' _ _ _ hx⟩) h
end Go.Fw
/- The frame of the abstract walk, part 25: the temporaries forgotten, but for those that are named. -/
set_option linter.unusedVariables false
set_option linter.unusedSimpArgs false
namespace Go.Fw
open Go.RowKit

variable {κ : KM} {F : FM} {B : Nat} {w0 w : World} {H : AH} {P : Program} {T : TT}

/-- A proof that is told later, out of the walk's sight. -/
structure Kept (p : Prop) : Prop where
  out : p

def envOf (named : List (Nat × AV)) : Env := fun t =>
  match lookupA named t with
  | some v => v
  | none => .junk

/-- What is named stays, all else is forgotten: ways that part may so meet again. -/
theorem AWp_cut {N : Nat} {ro : Option Nat} {ws : Nat → Bool} {c : Code} {K R : St → AH → Prop} {X : Nat → St → AH → Prop} {s : St} {H H2 : AH} (named : List (Nat × AV))
    (hn : agrees s.e named) (hws : ∀ t, ws t = true) (hH : HLe H2 H) (h : AWp N P ro ws c K R X ⟨envOf named, s.d⟩ H2) : AWp N P ro ws c K R X s H := by
  refine ⟨fun κ F B w0 w a I hE => ?_⟩
  have hle : SLe s ⟨envOf named, s.d⟩ := by
    refine ⟨rfl, fun t => ?_⟩
    simp only [envOf]
    cases hl : lookupA named t with
    | some v => right; exact (agrees_lookup hn hl).symm
    | none => left; rfl
  have hag : Agree ws s ⟨envOf named, s.d⟩ := fun t ht => by rw [hws t] at ht; cases ht
  refine wpIn_mono (h.out κ F B w0 w a (I.less hH.le) (hE.less hle)) ?_
  intro e a'' w'' hq
  exact QOk.from (KLe.refl _) (FLe.refl _) hag hq
end Go.Fw
/- The frame of the abstract walk, part 26: drawn regions in which rows are made: each row in its own order, the rows among themselves in any. -/
set_option linter.unusedVariables false
set_option linter.unusedSimpArgs false
namespace Go.Fw
open Go.RowKit

variable {κ : KM} {F : FM} {B : Nat} {w0 w : World} {H : AH} {P : Program} {T : TT}

/-- A row takes the name of an empty one. -/
theorem Inv.rename (I : Inv κ F B w0 H w) {r v q u : Nat} {cells : List AV} {i : Inc} (hr : H r = some (.row cells v)) (hi : κ r v = some i) (hq : H q = some (.row [] u)) (hne : q ≠ r) :
    KLe κ (κ.put q (u + 1) i) ∧ Inv (κ.put q (u + 1) i) F B w0 ((H.del r).set q (.row cells (u + 1))) w := by
  obtain ⟨i', hi', hrow, hn⟩ := I.objs _ _ hr
  rw [hi] at hi'; cases hi'
  obtain ⟨j', hj', _, hnq⟩ := I.objs _ _ hq
  have hle := KM.put_le (i := i) (hnq (u + 1) (by omega))
  have hqn : ((H.del r).del q) q = none := AH.del_same _ _
  have := ((I.drop r).drop q).put (r := q) (i := i) (o := .row cells (u + 1)) hqn (fun k hk => hnq k (by have hk : u + 1 ≤ k := hk; omega))
    (fun b hb s os j hs hj hjb => by
      by_cases e : s = q
      · subst e; rw [AH.del_same] at hs; cases hs
      · rw [AH.del_ne _ e] at hs
        by_cases e2 : s = r
        · subst e2; rw [AH.del_same] at hs; cases hs
        · rw [AH.del_ne _ e2] at hs
          exact I.apart _ _ _ _ _ _ _ hr hs (fun x => e2 x.symm) hi hj hb hjb)
    ⟨i, KM.put_same .., (by
      unfold RowOk at hrow ⊢
      cases hb : i.blk with
      | none => rw [hb] at hrow; exact hrow
      | some b =>
        rw [hb] at hrow
        obtain ⟨h1, h2, arr, e, fr, h3, h4, h5, h6, h7⟩ := hrow
        exact ⟨h1, h2, arr, e, fr, h3, h4, h5, h6, fun j hj => (h7 j hj).mono hle (FLe.refl _)⟩),
     fun k hk => by have hk : u + 1 < k := hk; simp only [KM.put, AO.ver]; rw [if_neg (by omega)]; exact hnq k (by omega)⟩
  rw [show ((H.del r).del q).set q (.row cells (u + 1)) = (H.del r).set q (.row cells (u + 1)) from by funext s; simp only [AH.set, AH.del]; split <;> rfl] at this
  exact this

theorem VR.rename {κ κ' : KM} {r v q u es n : Nat} {x : Value} {i : Inc} (hi : κ r v = some i) (hq : κ' q u = some i) (h : VR κ F (.sl r v es 0 n none) x) : VR κ' F (.sl q u es 0 n none) x := by
  cases h with
  | sl h hoff hlo hc hlen ha =>
    rw [hi] at h; cases h
    exact .sl hq hoff hlo hc hlen ha

/-- What makes a row. -/
def Makes (P : Program) (T : TT) (o : Op) (e : Env) (G : AH) (cells : List AV) (n es : Nat) : Prop :=
  stepA P T o e G (fun v' H' => ∃ r, G r = none ∧ v' = .sl r 0 es 0 n none ∧ H' = G.set r (.row cells 0))
/-- Memory stays; a row that is made is not written later. -/
def LStep0 (P : Program) (T : TT) (o : Op) (e : Env) (G : AH) (v : AV) : Prop :=
  stepA P T o e G (fun v' H' => v' = v ∧ H' = G) ∨ ∃ cells n es, v = .cs cells n ∧ cells.length = n * es ∧ Makes P T o e G cells n es
/-- One row changes. -/
def LStep1 (P : Program) (T : TT) (o : Op) (e : Env) (G : AH) (q : Nat) (v : AV) (o' : AO) : Prop :=
  stepA P T o e G (fun v' H' => v' = v ∧ H' = G.set q o') ∨ ∃ cells n es, v = .sl q 1 es 0 n none ∧ o' = .row cells 1 ∧ G q = some (.row [] 0) ∧ Makes P T o e G cells n es

/-- What an operation leaves, told anew. -/
theorem Left.cold {x : Value} {w' : World} {cells : List AV} {n es : Nat} (hlen : cells.length = n * es) (h : Left κ F B w0 (fun v' H' => ∃ r, H r = none ∧ v' = .sl r 0 es 0 n none ∧ H' = H.set r (.row cells 0)) x w') :
    Left κ F B w0 (fun v' H' => v' = .cs cells n ∧ H' = H) x w' := by
  obtain ⟨y, H', κ', F', h1, h2, I, hv, r, hr, rfl, rfl⟩ := h
  obtain ⟨F'', hF, I', hv'⟩ := I.cool hv (AH.set_same _ _ _) hlen
  rw [AH.del_set _ _ _ hr] at I'
  exact ⟨_, H, κ', F'', h1, h2.trans hF, I', hv', rfl, rfl⟩
theorem Left.named {x : Value} {w' : World} {cells : List AV} {n es q : Nat} (hq : H q = some (.row [] 0)) (h : Left κ F B w0 (fun v' H' => ∃ r, H r = none ∧ v' = .sl r 0 es 0 n none ∧ H' = H.set r (.row cells 0)) x w') :
    Left κ F B w0 (fun v' H' => v' = .sl q 1 es 0 n none ∧ H' = H.set q (.row cells 1)) x w' := by
  obtain ⟨y, H', κ', F', h1, h2, I, hv, r, hr, rfl, rfl⟩ := h
  have hne : q ≠ r := fun e => by rw [e, hr] at hq; cases hq
  obtain ⟨i, hi, _⟩ := I.objs _ _ (AH.set_same H r (.row cells 0))
  obtain ⟨hle, I'⟩ := I.rename (q := q) (u := 0) (AH.set_same H r (.row cells 0)) hi (by rw [AH.set_ne _ _ hne]; exact hq) hne
  rw [AH.del_set _ _ _ hr] at I'
  exact ⟨_, _, _, F', h1.trans hle, h2, I', VR.rename hi (KM.put_same ..) hv, rfl, rfl⟩

def cOf (cl : List (Nat × Nat)) : Option Nat → Option Nat
  | none => none
  | some t => match cl with
    | [] => none
    | (u, c) :: rest => cond (Nat.beq u t) (some c) (cOf rest (some t))

def drawLS (N : Nat) (P : Program) (T : TT) (cl : List (Nat × Nat)) (nm : Nat → Nat) : List Oper → (St → AH → Prop) → St → AH → Prop
  | [], K, s, H => K s H
  | o :: rest, K, s, H => dstOk N o.dst = true ∧ o.guard = none ∧ match cOf cl o.dst with
    | none => ∃ v, (∀ G, LStep0 P T o.op s.e G v) ∧ drawLS N P T cl nm rest K (putS s o.dst v) H
    | some c => ∃ ob v o', H (nm c) = some ob ∧ (∀ G, G (nm c) = some ob → LStep1 P T o.op s.e G (nm c) v o') ∧ drawLS N P T cl nm rest K (putS s o.dst v) (H.set (nm c) o')

def setO (H : AH) : Option (Nat × AO) → AH
  | none => H
  | some (q, o) => H.set q o
def lookG (inf : Nat → Option (Nat × AO)) (H : AH) (p : Nat → Bool) : Nat → AH
  | 0 => H
  | k + 1 => cond (p k) (setO (lookG inf H p k) (inf k)) (lookG inf H p k)

theorem lookG_at {inf : Nat → Option (Nat × AO)} {H : AH} {p p' : Nat → Bool} {q : Nat} : ∀ n, (∀ k o, k < n → inf k = some (q, o) → p k = p' k) → lookG inf H p n q = lookG inf H p' n q
  | 0, _ => rfl
  | n + 1, h => by
    have ih := lookG_at n (fun k o hk => h k o (by omega)) (inf := inf) (H := H)
    simp only [lookG]
    cases hi : inf n with
    | none => cases p n <;> cases p' n <;> exact ih
    | some x =>
      obtain ⟨q', o⟩ := x
      by_cases e : q' = q
      · subst e
        rw [h n o (by omega) hi]
        cases p' n with
        | true => simp only [cond_true, setO, AH.set_same]
        | false => exact ih
      · have e' : q ≠ q' := fun x => e x.symm
        cases p n <;> cases p' n <;> simp only [cond_true, cond_false, setO, AH.set_ne _ _ e', ih]

theorem lookG_up {inf : Nat → Option (Nat × AO)} {H : AH} {p : Nat → Bool} {q i : Nat} : ∀ n, i ≤ n → (∀ k o, i ≤ k → k < n → inf k = some (q, o) → p k = false) → lookG inf H p n q = lookG inf H p i q
  | 0, hi, _ => by have : i = 0 := by omega
                   rw [this]
  | n + 1, hi, h => by
    by_cases e : i = n + 1
    · rw [e]
    · have ih := lookG_up n (by omega) (fun k o h1 h2 => h k o h1 (by omega)) (inf := inf) (H := H)
      simp only [lookG]
      cases hp : p n with
      | false => exact ih
      | true =>
        cases hi' : inf n with
        | none => exact ih
        | some x =>
          obtain ⟨q', o⟩ := x
          by_cases e2 : q' = q
          · subst e2; rw [h n o (by omega) (by omega) hi'] at hp; cases hp
          · simp only [cond_true, setO, AH.set_ne _ _ (fun x => e2 x.symm)]; exact ih

/-- One more is carried out. -/
theorem lookG_put {inf : Nat → Option (Nat × AO)} {H : AH} {p : Nat → Bool} {j : Nat} (hpj : p j = false) : ∀ n, j < n → (∀ k q o o', j < k → k < n → inf j = some (q, o) → inf k = some (q, o') → p k = false) →
    lookG inf H (fun k => p k || Nat.beq k j) n = setO (lookG inf H p n) (inf j)
  | 0, hj, _ => by omega
  | n + 1, hj, h => by
    funext t
    have off : ∀ m, m ≤ j → lookG inf H (fun k => p k || Nat.beq k j) m = lookG inf H p m := by
      intro m hm
      funext u
      refine lookG_at m (fun k o hk _ => ?_)
      have : Nat.beq k j = false := by cases hb : Nat.beq k j with
        | false => rfl
        | true => have := Nat.eq_of_beq_eq_true hb; omega
      simp [this]
    by_cases hjn : j = n
    · subst hjn
      simp only [lookG, hpj, Bool.false_or, Nat.beq_refl, cond_true, cond_false]
      rw [off j (Nat.le_refl _)]
    · have ih := lookG_put hpj n (by omega) (fun k q o o' h1 h2 => h k q o o' h1 (by omega)) (inf := inf) (H := H)
      have hb : Nat.beq n j = false := by cases hb : Nat.beq n j with
        | false => rfl
        | true => have := Nat.eq_of_beq_eq_true hb; omega
      simp only [lookG, hb, Bool.or_false]
      cases hp : p n with
      | false => simp only [cond_false]; rw [ih]
      | true =>
        simp only [cond_true]
        rw [ih]
        cases hij : inf j with
        | none => rfl
        | some x =>
          obtain ⟨q, o⟩ := x
          cases hin : inf n with
          | none => rfl
          | some y =>
            obtain ⟨q', o'⟩ := y
            have hne : q ≠ q' := fun e => by
              subst e
              rw [h n q o o' (by omega) (by omega) hij hin] at hp; cases hp
            simp only [setO]
            rw [AH.set_comm _ _ _ hne]
end Go.Fw
/- The frame of the abstract walk, part 28: drawn regions that make rows, walked. -/
set_option linter.unusedVariables false
set_option linter.unusedSimpArgs false
namespace Go.Fw
open Go.RowKit

variable {κ : KM} {F : FM} {B : Nat} {w0 w : World} {H : AH} {P : Program} {T : TT}

structure DrawL (N : Nat) (P : Program) (T : TT) (cl : List (Nat × Nat)) (nm : Nat → Nat) (l : List Oper) (K : St → AH → Prop) (s : St) (H : AH) : Prop where
  out : drawLS N P T cl nm l K s H

/-- An operation that does not hang on memory; rows that it makes are not written later. -/
def pureL (P : Program) (T : TT) (o : Op) (e : Env) (K : AV → Prop) : Prop :=
  match o with
  | .load t a => (match T.get t with | some tr => loadC tr (ev e a) K | none => False)
  | .buildSlice t len parts => cond (Nat.beq len 0) (bsA T e t len parts fun _ => K .nils) (bsA T e t len parts K)
  | .makeSlice t l c =>
    (match T.get t, ev e l, ev e c with
     | some ⟨.slice _ esz eb ez, _, _, _⟩, .int _ l, .int _ c => 0 ≤ l ∧ l ≤ c ∧ c * eb ≤ 140737488355328 ∧ ((List.replicate l.toNat ez).flatten).length = l.toNat * esz ∧ K (.cs ((List.replicate l.toNat ez).flatten) l.toNat)
     | _, _, _ => False)
  | .slice t x lo hi mx =>
    (match ev e x with
     | .cs cells n => opA T (.slice t x lo hi mx) e (fun _ => none) fun v _ => K v
     | _ => False)
  | .call c => (match c.callee with
     | .value _ => ∃ v, (∀ G, stepA P T (.call c) e G (fun v' H' => v' = v ∧ H' = G)) ∧ K v
     | .builtin .min => ∃ v, (∀ G, stepA P T (.call c) e G (fun v' H' => v' = v ∧ H' = G)) ∧ K v
     | .builtin .max => ∃ v, (∀ G, stepA P T (.call c) e G (fun v' H' => v' = v ∧ H' = G)) ∧ K v
     | _ => when (isPure T (.call c) && isDet T (.call c)) (opA T (.call c) e (fun _ => none) fun v _ => K v))
  | .build t parts => ∃ v, (∀ G, stepA P T (.build t parts) e G (fun v' H' => v' = v ∧ H' = G)) ∧ K v
  | o => when (isPure T o && isDet T o) (opA T o e (fun _ => none) fun v _ => K v)

theorem pure_all {o : Op} {e : Env} {K : AV → Prop} (h : when (isPure T o && isDet T o) (opA T o e (fun _ => none) fun v _ => K v)) : ∃ v, (∀ G, LStep0 P T o e G v) ∧ K v := by
  obtain ⟨h1, h2⟩ := when_iff.1 h
  rw [Bool.and_eq_true] at h1
  obtain ⟨v, h3, h4⟩ := opA_det (H := fun _ => none) (K := fun v _ => K v) h1.2 h2
  obtain ⟨_, h5⟩ := opA_pure h1.1 h3
  refine ⟨v, fun G => .inl ?_, h4⟩
  rw [stepA_pure h1.1]
  exact h5 G

theorem bsA_get {e : Env} {t : TypeId} {len : Nat} {parts : Array (Nat × Operand)} {K : AV → Prop} (h : bsA T e t len parts K) : ∃ esz eb ez n ag z a, T.get t = some ⟨.slice a esz eb ez, n, ag, z⟩ ∧ ∃ cells, fillA (fun i => some (i * esz, esz)) ((List.replicate len ez).flatten) (parts.toList.map fun p => (p.1, ev e p.2)) = some cells ∧ Nat.ble (len * esz) 16777216 = true ∧ K (.cs cells len) := by
  unfold bsA at h
  split at h
  · rename_i a esz eb ez n ag z hg
    split at h
    · rename_i cells hf
      obtain ⟨h1, h2⟩ := when_iff.1 h
      rw [forceL_eq] at h2
      exact ⟨esz, eb, ez, n, ag, z, a, hg, cells, hf, h1, h2⟩
    · exact h.elim
  · exact h.elim

theorem pureL_ok {o : Op} {e : Env} {K : AV → Prop} (h : pureL P T o e K) : ∃ v, (∀ G, LStep0 P T o e G v) ∧ K v := by
  unfold pureL at h
  split at h
  · rename_i t a
    split at h
    · rename_i tr hg
      obtain ⟨v, h1, h2⟩ := det_loadC _ _ _ h
      refine ⟨v, fun G => .inl ?_, h2⟩
      show opA T (.load t a) e G (fun v' H' => v' = v ∧ H' = G)
      simp only [opA, hg]
      simpa using loadC_ok (H := G) h1
    · exact h.elim
  · rename_i t len parts
    cases hb : Nat.beq len 0 with
    | true =>
      rw [hb] at h
      simp only [cond_true] at h
      obtain ⟨esz, eb, ez, n, ag, z, a, hg, cells, hf, h1, h2⟩ := bsA_get (K := fun _ => K .nils) h
      refine ⟨.nils, fun G => .inl ?_, h2⟩
      show opA T (.buildSlice t len parts) e G (fun v' H' => v' = .nils ∧ H' = G)
      simp only [opA, hg, hf]
      exact when_iff.2 ⟨h1, .inr (.inr ⟨Nat.eq_of_beq_eq_true hb, by simp⟩)⟩
    | false =>
      rw [hb] at h
      simp only [cond_false] at h
      obtain ⟨esz, eb, ez, n, ag, z, a, hg, cells, hf, h1, h2⟩ := bsA_get h
      refine ⟨.cs cells len, fun G => .inl ?_, h2⟩
      show opA T (.buildSlice t len parts) e G (fun v' H' => v' = .cs cells len ∧ H' = G)
      simp only [opA, hg, hf]
      refine when_iff.2 ⟨h1, .inl ?_⟩
      rw [forceL_eq]
      simp
  · rename_i t ol oc
    split at h
    · rename_i a esz eb ez n ag z k1 l k2 c hg hl hc
      obtain ⟨h1, h2, h3, h4, h5⟩ := h
      refine ⟨_, fun G => .inr ⟨_, _, esz, rfl, h4, ?_⟩, h5⟩
      unfold Makes stepA
      simp only [opA, hg, hl, hc]
      exact ⟨h1, h2, h3, fun r hr => ⟨r, hr, rfl, rfl⟩⟩
    · exact h.elim
  · rename_i t x lo hi mx
    split at h
    · rename_i cells n hx
      have hd : isDet T (.slice t x lo hi mx) = true := rfl
      obtain ⟨v, h3, h4⟩ := opA_det (H := fun _ => none) (K := fun v _ => K v) hd h
      refine ⟨v, fun G => .inl ?_, h4⟩
      show opA T (.slice t x lo hi mx) e G (fun v' H' => v' = v ∧ H' = G)
      simp only [opA] at h3 ⊢
      split at h3
      · rename_i d lo' hi' mx' hg h5 h6 h7
        exact h3
      · exact h3.elim
    · exact h.elim
  · rename_i c
    split at h
    · rename_i f hf
      obtain ⟨v, h1, h2⟩ := h
      exact ⟨v, fun G => .inl (h1 G), h2⟩
    · obtain ⟨v, h1, h2⟩ := h
      exact ⟨v, fun G => .inl (h1 G), h2⟩
    · obtain ⟨v, h1, h2⟩ := h
      exact ⟨v, fun G => .inl (h1 G), h2⟩
    · exact pure_all h
  · obtain ⟨v, h1, h2⟩ := h
    exact ⟨v, fun G => .inl (h1 G), h2⟩
  · exact pure_all h

/-- An append to a row of this region's. -/
def appendL (esz eb : Nat) (s x : AV) (q : Nat) (ob : AO) (K : AV → AO → Prop) : Prop :=
  match x with
  | .cs new n => new.length = n * esz ∧ new.all one = true ∧
    match s with
    | .nils => ob = .row [] 0 ∧ n * eb ≤ 140737488355328 ∧ K (.sl q 1 esz 0 n none) (.row new 1)
    | .sl r v es off len lim => r = q ∧ when (Nat.beq es esz && Nat.beq off 0 && lim.isNone) (∃ cells, ob = .row cells v ∧ cells.length = len * esz ∧ (2 * (len + n)) * eb ≤ 140737488355328 ∧ K (.sl q (v + 1) esz 0 (len + n) none) (.row (cells ++ new) (v + 1)))
    | _ => False
  | _ => False
def appL (T : TT) (q : Nat) (ob : AO) (o : Op) (e : Env) (K : AV → AO → Prop) : Prop :=
  match o with
  | .call c => (match c.callee with
    | .builtin .append => (match c.argTypes.toList, c.args.toList.map (ev e) with
      | [t, u], [s, x] => (match T.get t, T.get u with
        | some ⟨.slice _ esz eb _, _, _, _⟩, some ⟨.slice .., _, _, _⟩ => appendL esz eb s x q ob K
        | _, _ => False)
      | _, _ => False)
    | _ => False)
  | _ => False

theorem appL_ok {q : Nat} {ob : AO} {o : Op} {e : Env} {K : AV → AO → Prop} (h : appL T q ob o e K) : ∃ v o', (∀ G, G q = some ob → LStep1 P T o e G q v o') ∧ K v o' := by
  unfold appL at h
  split at h
  · rename_i c
    split at h
    · rename_i hc
      split at h
      · rename_i t u s x hts has
        split at h
        · rename_i a esz eb ez n0 ag z a2 esz2 eb2 ez2 n02 ag2 z2 hg hg2
          unfold appendL at h
          cases x with
          | cs new n =>
            obtain ⟨h1, h2, h⟩ := h
            have step : ∀ (G : AH) (KK : AV → AH → Prop), appendA esz eb s (.cs new n) G KK → stepA P T (.call c) e G KK := fun G KK hk => by
              unfold stepA
              simp only [hc]
              show opA T (.call c) e G KK
              simp only [opA, hc, hts, has, builtinA, hg, hg2]
              exact hk
            cases s with
            | nils =>
              obtain ⟨h3, h4, h5⟩ := h
              refine ⟨_, _, fun G hG => .inr ⟨new, n, esz, rfl, rfl, by rw [hG, h3], ?_⟩, h5⟩
              refine step G _ ?_
              exact ⟨h1, h2, h4, fun r hr => ⟨r, hr, rfl, rfl⟩⟩
            | sl r v es off len lim =>
              obtain ⟨rfl, h⟩ := h
              obtain ⟨hw, cells, h3, h4, h5, h6⟩ := when_iff.1 h
              refine ⟨_, _, fun G hG => .inl ?_, h6⟩
              refine step G _ ?_
              exact ⟨h1, h2, when_iff.2 ⟨hw, cells, by rw [hG, h3], h4, h5, rfl, rfl⟩⟩
            | _ => exact h.elim
          | _ => exact h.elim
        · exact h.elim
      · exact h.elim
    · exact h.elim
  · exact h.elim

def drawLD (N : Nat) (P : Program) (T : TT) (cl : List (Nat × Nat)) (nm : Nat → Nat) (o : Oper) (rest : List Oper) (K : St → AH → Prop) (e : Env) (d : List Nat) (H : AH) : Prop :=
  match o.dst with
  | none => False
  | some t => when (Nat.blt t N && o.guard.isNone) (match cOf cl (some t) with
    | none => pureL P T o.op e fun v => force v fun v => DrawL N P T cl nm rest K ⟨upd e t v, d⟩ H
    | some c => ∃ ob, H (nm c) = some ob ∧ appL T (nm c) ob o.op e fun v o' => force v fun v => DrawL N P T cl nm rest K ⟨upd e t v, d⟩ (H.set (nm c) o'))

theorem DrawL.nil {N : Nat} {cl : List (Nat × Nat)} {nm : Nat → Nat} {K : St → AH → Prop} {s : St} (h : K s H) : DrawL N P T cl nm [] K s H := ⟨h⟩
theorem DrawL.consD {N : Nat} {cl : List (Nat × Nat)} {nm : Nat → Nat} {o : Oper} {rest : List Oper} {K : St → AH → Prop} {e : Env} {d : List Nat} (h : drawLD N P T cl nm o rest K e d H) : DrawL N P T cl nm (o :: rest) K ⟨e, d⟩ H := by
  refine ⟨?_⟩
  unfold drawLD at h
  unfold drawLS
  split at h
  · exact h.elim
  · rename_i t hd
    obtain ⟨h1, h2⟩ := when_iff.1 h
    rw [Bool.and_eq_true] at h1
    refine ⟨by rw [hd]; exact h1.1, by simpa using h1.2, ?_⟩
    rw [hd]
    split at h2
    · rename_i hc
      rw [hc]
      obtain ⟨v, h3, h4⟩ := pureL_ok h2
      rw [force_eq] at h4
      exact ⟨v, h3, h4.out⟩
    · rename_i c hc
      rw [hc]
      obtain ⟨ob, h3, h4⟩ := h2
      obtain ⟨v, o', h5, h6⟩ := appL_ok (P := P) h4
      rw [force_eq] at h6
      exact ⟨ob, v, o', h3, h5, h6.out⟩

/-- An empty row, for later. -/
theorem AWp_spare {N : Nat} {ro : Option Nat} {ws : Nat → Bool} {c : Code} {K R : St → AH → Prop} {X : Nat → St → AH → Prop} {s : St} (h : ∀ r, H r = none → AWp N P ro ws c K R X s (H.set r (.row [] 0))) : AWp N P ro ws c K R X s H := by
  refine ⟨fun κ F B w0 w a I hE => ?_⟩
  obtain ⟨r, hr, hkr⟩ := I.fresh
  obtain ⟨hle, I'⟩ := I.ghost 1 hr hkr
  refine wpIn_mono ((h r hr).out _ F B w0 w a I' (hE.mono hle (FLe.refl _))) ?_
  intro e a'' w'' hq
  exact QOk.from hle (FLe.refl _) (Agree.refl _ _) hq
end Go.Fw
/- The frame of the abstract walk, part 29: drawn regions with calls that change memory beside loads that these leave as they were. -/
set_option linter.unusedVariables false
set_option linter.unusedSimpArgs false
namespace Go.Fw
open Go.RowKit

variable {κ : KM} {F : FM} {B : Nat} {w0 w : World} {H : AH} {P : Program} {T : TT}

/-- An operation that changes memory and is no marked call. -/
def isE2 (M : Mk) (o : Oper) : Bool := isEff o.op
/-- A marked call. -/
def isE1 (M : Mk) (o : Oper) : Bool := !isEff o.op && inM M.1 o.dst
def isPP (T : TT) (M : Mk) (o : Oper) : Bool := !isEffM M o && isPure T o.op
def isM2 (T : TT) (M : Mk) (o : Oper) : Bool := !isEffM M o && !isPure T o.op && inM M.2 o.dst
def nextS (M : Mk) (o : Oper) (S : AH → Prop) : AH → Prop := cond (isE2 M o) (fun _ => True) S
def drawSF (N : Nat) (P : Program) (T : TT) (M : Mk) (all : Array Oper) : (AH → Prop) → List Oper → (St → AH → Prop) → St → AH → Prop
  | _, [], K, s, H => K s H
  | S, o :: rest, K, s, H =>
    when (dstOk N o.dst) (guardA all s.e o.guard fun b =>
      cond b (∃ v H2, stepA P T o.op s.e H (fun v' H' => v' = v ∧ H' = H2) ∧ (isEffM M o = false → H2 = H) ∧ (isE1 M o = true → S H2) ∧ (isM2 T M o = true → ∀ G, S G → stepA P T o.op s.e G (fun v' H' => v' = v ∧ H' = G)) ∧ drawSF N P T M all (nextS M o S) rest K (putS s o.dst v) H2) (drawSF N P T M all (nextS M o S) rest K (putS s o.dst (.tup [])) H))

theorem effM_of {M : Mk} {o : Oper} : isEffM M o = true ↔ isE2 M o = true ∨ isE1 M o = true := by
  unfold isEffM isE2 isE1
  cases isEff o.op <;> simp
theorem m2_eff {M : Mk} {o : Oper} (h : isM2 T M o = true) : isEffM M o = false ∧ isPP T M o = false ∧ isE1 M o = false := by
  unfold isM2 at h
  simp only [Bool.and_eq_true, Bool.not_eq_true'] at h
  refine ⟨h.1.1, ?_, ?_⟩
  · unfold isPP; rw [h.1.2, Bool.and_false]
  · unfold isE1 isEffM at *
    have := h.1.1
    simp only [Bool.or_eq_false_iff] at this
    rw [this.2, Bool.and_false]
/-- 'drawSF', for the walk. -/
structure DrawF (N : Nat) (P : Program) (T : TT) (M : Mk) (all : Array Oper) (S : AH → Prop) (l : List Oper) (K : St → AH → Prop) (s : St) (H : AH) : Prop where
  out : drawSF N P T M all S l K s H

def drawFD (N : Nat) (P : Program) (T : TT) (M : Mk) (all : Array Oper) (S : AH → Prop) (o : Oper) (rest : List Oper) (K : St → AH → Prop) (e : Env) (d : List Nat) (H : AH) : Prop :=
  match o.dst with
  | none => guardA all e o.guard fun b => cond b (cond (isDetE e o.op) (opA T o.op e H fun _ H' => DrawF N P T M all (nextS M o S) rest K ⟨e, d⟩ H') False) (DrawF N P T M all (nextS M o S) rest K ⟨e, d⟩ H)
  | some t => when (Nat.blt t N) (guardA all e o.guard fun b =>
      cond b (cond (isM2 T M o) (∃ v, stepA P T o.op e H (fun v' H' => v' = v ∧ H' = H) ∧ (∀ G, S G → stepA P T o.op e G (fun v' H' => v' = v ∧ H' = G)) ∧ force v fun v => DrawF N P T M all (nextS M o S) rest K ⟨upd e t v, d⟩ H)
        (cond (isE1 M o) (∃ v H2, stepA P T o.op e H (fun v' H' => v' = v ∧ H' = H2) ∧ S H2 ∧ force v fun v => DrawF N P T M all (nextS M o S) rest K ⟨upd e t v, d⟩ H2)
        (cond (isDet T o.op) (opA T o.op e H fun v _ => force v fun v => DrawF N P T M all (nextS M o S) rest K ⟨upd e t v, d⟩ H)
        (cond (isDetE e o.op) (opA T o.op e H fun v H' => force v fun v => DrawF N P T M all (nextS M o S) rest K ⟨upd e t v, d⟩ H')
          (drawO P T o.op e H fun v => force v fun v => DrawF N P T M all (nextS M o S) rest K ⟨upd e t v, d⟩ H))))) (DrawF N P T M all (nextS M o S) rest K ⟨upd e t (.tup []), d⟩ H))

theorem DrawF.nil {N : Nat} {M : Mk} {all : Array Oper} {S : AH → Prop} {K : St → AH → Prop} {s : St} (h : K s H) : DrawF N P T M all S [] K s H := ⟨h⟩
theorem DrawF.eq (N : Nat) (P : Program) (T : TT) (M : Mk) (all : Array Oper) (S : AH → Prop) (l : List Oper) (K : St → AH → Prop) (s : St) (H : AH) : DrawF N P T M all S l K s H = drawSF N P T M all S l K s H := propext ⟨DrawF.out, DrawF.mk⟩
theorem isE1_none {M : Mk} {o : Oper} (h : o.dst = none) : isE1 M o = false := by unfold isE1; rw [h, inM_none, Bool.and_false]
theorem isM2_none {M : Mk} {o : Oper} (h : o.dst = none) : isM2 T M o = false := by unfold isM2; rw [h, inM_none, Bool.and_false]
theorem DrawF.consD {N : Nat} {M : Mk} {all : Array Oper} {S : AH → Prop} {o : Oper} {rest : List Oper} {K : St → AH → Prop} {e : Env} {d : List Nat} (h : drawFD N P T M all S o rest K e d H) : DrawF N P T M all S (o :: rest) K ⟨e, d⟩ H := by
  refine ⟨?_⟩
  unfold drawFD at h
  unfold drawSF
  split at h
  · rename_i hd
    rw [hd]
    refine when_iff.2 ⟨rfl, guardA_mono (fun b hb => ?_) h⟩
    simp only [putS, putA]
    cases b with
    | false => exact hb.out
    | true =>
      simp only [cond_true] at hb ⊢
      cases hE : isDetE e o.op with
      | true =>
        rw [hE] at hb
        obtain ⟨v, H2, h1, h2⟩ := opA_detE (K := fun _ H' => DrawF N P T M all (nextS M o S) rest K ⟨e, d⟩ H') hE hb
        refine ⟨v, H2, stepA_opE hE h1, ?_, fun h => ?_, fun h => ?_, h2.out⟩
        · intro h; unfold isEffM at h; rw [isDetE_eff hE] at h; cases h
        · rw [isE1_none hd] at h; cases h
        · rw [isM2_none hd] at h; cases h
      | false =>
        rw [hE] at hb
        exact hb.elim
  · rename_i t hd
    obtain ⟨h1, h2⟩ := when_iff.1 h
    rw [hd]
    refine when_iff.2 ⟨h1, guardA_mono (fun b hb => ?_) h2⟩
    cases b with
    | false => exact hb.out
    | true =>
      simp only [cond_true, force_eq] at hb ⊢
      simp only [putS, putA]
      cases hM : isM2 T M o with
      | true =>
        rw [hM] at hb
        obtain ⟨v, h3, h4, h5⟩ := hb
        exact ⟨v, H, h3, fun _ => rfl, fun h => (by rw [(m2_eff hM).2.2] at h; cases h), fun _ => h4, h5.out⟩
      | false =>
      rw [hM] at hb
      simp only [cond_false] at hb
      cases hN : isE1 M o with
      | true =>
        rw [hN] at hb
        obtain ⟨v, H2, h3, h4, h5⟩ := hb
        exact ⟨v, H2, h3, fun h => (by rw [effM_of.2 (.inr hN)] at h; cases h), fun _ => h4, fun h => Bool.noConfusion h, h5.out⟩
      | false =>
      rw [hN] at hb
      simp only [cond_false] at hb
      cases hD : isDet T o.op with
      | true =>
        rw [hD] at hb
        obtain ⟨v, h3, h4⟩ := opA_det (K := fun v _ => DrawF N P T M all (nextS M o S) rest K ⟨upd e t v, d⟩ H) hD hb
        exact ⟨v, H, stepA_opA hD h3, fun _ => rfl, fun h => Bool.noConfusion h, fun h => Bool.noConfusion h, h4.out⟩
      | false =>
        rw [hD] at hb
        cases hE : isDetE e o.op with
        | true =>
          rw [hE] at hb
          obtain ⟨v, H2, h3, h4⟩ := opA_detE (K := fun v H' => DrawF N P T M all (nextS M o S) rest K ⟨upd e t v, d⟩ H') hE hb
          refine ⟨v, H2, stepA_opE hE h3, ?_, fun h => Bool.noConfusion h, fun h => Bool.noConfusion h, h4.out⟩
          intro h; unfold isEffM at h; rw [isDetE_eff hE] at h; cases h
        | false =>
          rw [hE] at hb
          obtain ⟨v, h3, h4⟩ := drawO_ok (H := H) hb
          exact ⟨v, H, h3, fun _ => rfl, fun h => Bool.noConfusion h, fun h => Bool.noConfusion h, h4.out⟩

end Go.Fw
/- The frame of the abstract walk, part 30: scopes through which the run goes without a jump; labels. -/
set_option linter.unusedVariables false
set_option linter.unusedSimpArgs false
namespace Go.Fw
open Go.RowKit

theorem stepR_scope {P : Program} {b : Frame} {a : Act} {k : List Item} {cs : List Frame} {w : World} {c : Code} : step P (lone (b.atR a (.code (.scope c) :: k)) cs w) = .next (lone (b.atR a (.code c :: .inScope c :: k)) cs w) :=
  step_lone_go (by simp [stepG, stepG.exec, Frame.atR])
theorem stepR_inScope {P : Program} {b : Frame} {a : Act} {k : List Item} {cs : List Frame} {w : World} {c : Code} : step P (lone (b.atR a (.inScope c :: k)) cs w) = .next (lone (b.atR a k) cs w) :=
  step_lone_go (by simp [stepG, stepG.exec, Frame.atR])

theorem wpIn_scope {F : Fence} {n : Nat} {P : Program} {Q : Exit → Act → World → Prop} {a : Act} {w : World} {c : Code} (hg : ∀ l a w, ¬ Q (.goto l) a w) (h : c.wpIn F n P Q a w) : (Code.scope c).wpIn F n P Q a w := by
  intro b k cs hro hb hr
  have h0 : (lone (b.atR a (.code (.scope c) :: k)) cs w).fenced P F := fenced_calm hb hr rfl
  obtain ⟨e, a₁, w₁, hq, harr⟩ := h b (.inScope c :: k) cs hro hb hr
  cases e with
  | normal => exact ⟨.normal, a₁, w₁, hq, .head h0 stepR_scope (StepsIn.trans harr (.one (fenced_calm hb hr rfl) stepR_inScope))⟩
  | exit id =>
    have hx : exitTo id (.inScope c :: k) = exitTo id k := by simp [exitTo]
    exact ⟨.exit id, a₁, w₁, hq, fun k' hk => .head h0 stepR_scope (harr.1 k' (by rw [hx]; exact hk)),
      fun hr' hk => let ⟨k₁, h1, h2⟩ := harr.2 hr' (by rw [hx]; exact hk); ⟨k₁, h1, .head h0 stepR_scope h2⟩⟩
  | goto l => exact absurd hq (hg l _ _)
  | ret => exact ⟨_, a₁, w₁, hq, .of_steps (.one h0 stepR_scope) harr⟩
  | panic ch => exact ⟨_, a₁, w₁, hq, .of_steps (.one h0 stepR_scope) harr⟩
  | outgrown => exact ⟨_, a₁, w₁, hq, .of_steps (.one h0 stepR_scope) harr⟩

section rules
variable {P : Program} {T : TT} {N : Nat} {ro : Option Nat} {ws : Nat → Bool} {K R : St → AH → Prop} {X : Nat → St → AH → Prop} {s : St} {H : AH}
theorem AWq.label {l : Nat} (h : K s H) : AWq N P T ro ws (.label l) K R X s H := ⟨fun _ _ _ => ⟨fun κ F B w0 w a I hE => wpIn_label ⟨s, H, κ, F, KLe.refl _, FLe.refl _, I, hE, Agree.refl _ _, h⟩⟩⟩
theorem AWq.scope {c : Code} (h : AWq N P T ro ws c K R X s H) : AWq N P T ro ws (.scope c) K R X s H :=
  ⟨fun hT hdraw hw => ⟨fun κ F B w0 w a I hE => wpIn_scope (fun l a w hq => hq.elim) ((h.out hT hdraw hw).out κ F B w0 w a I hE)⟩⟩
end rules
theorem Kept_split {T G : Prop} (main : Kept T → G) (tl : T) : G := main ⟨tl⟩
theorem AWp_cutd {P : Program} {N : Nat} {ro : Option Nat} {ws : Nat → Bool} {c : Code} {K R : St → AH → Prop} {X : Nat → St → AH → Prop} {s : St} {H H2 : AH} (named : List (Nat × AV)) (hd : s.d = [])
    (hn : agrees s.e named) (hws : ∀ t, ws t = true) (hH : HLe H2 H) (h : AWp N P ro ws c K R X ⟨envOf named, []⟩ H2) : AWp N P ro ws c K R X s H :=
  AWp_cut named hn hws hH (by rw [hd]; exact h)
end Go.Fw
/- The frame of the abstract walk, part 31: drawn regions in which rows are made and cells are taken and written, beside loads from other rows. -/
set_option linter.unusedVariables false
set_option linter.unusedSimpArgs false
namespace Go.Fw
open Go.RowKit

variable {κ : KM} {F : FM} {B : Nat} {w0 w : World} {H : AH} {P : Program} {T : TT}

/-- An operation's class: its result's, or that of the cell to which it writes. -/
def cK (cl : List (Nat × Nat)) (o : Oper) : Option Nat :=
  match o.dst with
  | some t => cOf cl (some t)
  | none => match o.op with
    | .store _ (.tmp a) _ => cOf cl (some a)
    | _ => none
theorem cOf_in {cl : List (Nat × Nat)} {d : Option Nat} {c : Nat} : cOf cl d = some c → c ∈ cl.map (·.2) := by
  cases d with
  | none => intro h; cases cl <;> simp [cOf] at h
  | some t =>
    induction cl with
    | nil => intro h; simp [cOf] at h
    | cons y l ih =>
      obtain ⟨u, c'⟩ := y
      intro h
      simp only [cOf] at h
      cases hb : Nat.beq u t with
      | true => rw [hb] at h; simp only [cond_true, Option.some.injEq] at h; subst h; simp
      | false => rw [hb] at h; simp only [cond_false] at h; exact List.mem_cons_of_mem _ (ih h)
theorem cK_in {cl : List (Nat × Nat)} {o : Oper} {c : Nat} (h : cK cl o = some c) : c ∈ cl.map (·.2) := by
  unfold cK at h
  split at h
  · exact cOf_in h
  · split at h
    · exact cOf_in h
    · cases h
/-- Alike but for the rows of the classes. -/
def OutK (cl : List (Nat × Nat)) (nm : Nat → Nat) (G H : AH) : Prop := ∀ q, (∀ c, c ∈ cl.map (·.2) → nm c ≠ q) → G q = H q
theorem OutK.refl {cl : List (Nat × Nat)} {nm : Nat → Nat} : OutK cl nm H H := fun _ _ => rfl
theorem OutK.set {cl : List (Nat × Nat)} {nm : Nat → Nat} {G : AH} {c : Nat} {o : AO} (hc : c ∈ cl.map (·.2)) (h : OutK cl nm G H) : OutK cl nm G (H.set (nm c) o) :=
  fun q hq => (h q hq).trans (AH.set_ne _ _ (fun e => hq c hc e.symm)).symm
theorem OutK.set' {cl : List (Nat × Nat)} {nm : Nat → Nat} {G : AH} {c : Nat} {o : AO} (hc : c ∈ cl.map (·.2)) (h : OutK cl nm G H) : OutK cl nm (G.set (nm c) o) H :=
  fun q hq => (AH.set_ne _ _ (fun e => hq c hc e.symm)).trans (h q hq)

theorem VR.renameP {κ κ' : KM} {r v q u off : Nat} {x : Value} {i : Inc} (hi : κ r v = some i) (hq : κ' q u = some i) (h : VR κ F (.ptr r v off) x) : VR κ' F (.ptr q u off) x := by
  cases h with
  | ptr h => rw [hi] at h; cases h; exact .ptr hq
/-- What takes a cell. -/
def TakesP (P : Program) (T : TT) (o : Op) (e : Env) (G : AH) (cells : List AV) : Prop :=
  stepA P T o e G (fun v' H' => ∃ r, G r = none ∧ v' = .ptr r 0 0 ∧ H' = G.set r (.row cells 0))
/-- One row changes. -/
def LStepK (P : Program) (T : TT) (o : Op) (e : Env) (G : AH) (q : Nat) (v : AV) (o' : AO) : Prop :=
  LStep1 P T o e G q v o' ∨ ∃ cells, v = .ptr q 1 0 ∧ o' = .row cells 1 ∧ G q = some (.row [] 0) ∧ TakesP P T o e G cells
theorem Left.namedP {x : Value} {w' : World} {cells : List AV} {q : Nat} (hq : H q = some (.row [] 0)) (h : Left κ F B w0 (fun v' H' => ∃ r, H r = none ∧ v' = .ptr r 0 0 ∧ H' = H.set r (.row cells 0)) x w') :
    Left κ F B w0 (fun v' H' => v' = .ptr q 1 0 ∧ H' = H.set q (.row cells 1)) x w' := by
  obtain ⟨y, H', κ', F', h1, h2, I, hv, r, hr, rfl, rfl⟩ := h
  have hne : q ≠ r := fun e => by rw [e, hr] at hq; cases hq
  obtain ⟨i, hi, _⟩ := I.objs _ _ (AH.set_same H r (.row cells 0))
  obtain ⟨hle, I'⟩ := I.rename (q := q) (u := 0) (AH.set_same H r (.row cells 0)) hi (by rw [AH.set_ne _ _ hne]; exact hq) hne
  rw [AH.del_set _ _ _ hr] at I'
  exact ⟨_, _, _, F', h1.trans hle, h2, I', VR.renameP hi (KM.put_same ..) hv, rfl, rfl⟩

/-- Those of one class are ordered. -/
def ordK (all : Array Oper) (cl : List (Nat × Nat)) : Bool :=
  let ah := aheadOf all
  (List.range all.size).all fun j => (List.range j).all fun i =>
    match (all[i]?).bind (cK cl), (all[j]?).bind (cK cl) with
    | some a, some b => !(Nat.beq a b) || (ah.getD j 0).testBit i
    | _, _ => true

theorem ordK_spec {all : Array Oper} {cl : List (Nat × Nat)} (h : ordK all cl = true) {i j c : Nat} (hlt : i < j) (hj : j < all.size) (h1 : (all[i]?).bind (cK cl) = some c) (h2 : (all[j]?).bind (cK cl) = some c) :
    ((aheadOf all).getD j 0).testBit i = true := by
  unfold ordK at h
  have a1 := List.all_eq_true.1 h j (by simpa using hj)
  have a2 := List.all_eq_true.1 a1 i (by simpa using hlt)
  simp only [h1, h2] at a2
  have : Nat.beq c c = true := Nat.beq_refl c
  simpa [this] using a2

def drawKS (N : Nat) (P : Program) (T : TT) (cl : List (Nat × Nat)) (nm : Nat → Nat) : List Oper → (St → AH → Prop) → St → AH → Prop
  | [], K, s, H => K s H
  | o :: rest, K, s, H => dstOk N o.dst = true ∧ o.guard = none ∧ match cK cl o with
    | none => ∃ v, (∀ G, OutK cl nm G H → LStep0 P T o.op s.e G v) ∧ drawKS N P T cl nm rest K (putS s o.dst v) H
    | some c => ∃ ob v o', H (nm c) = some ob ∧ (∀ G, OutK cl nm G H → G (nm c) = some ob → LStepK P T o.op s.e G (nm c) v o') ∧ drawKS N P T cl nm rest K (putS s o.dst v) (H.set (nm c) o')

def infK (cl : List (Nat × Nat)) (nm : Nat → Nat) (l : List Oper) (obs : List AO) (k : Nat) : Option (Nat × AO) :=
  ((l[k]?).bind (cK cl)).map fun c => (nm c, obs.getD k (.row [] 0))

theorem lookK_cons (cl : List (Nat × Nat)) (nm : Nat → Nat) (o : Oper) (l : List Oper) (x : AO) (xs : List AO) (H : AH) : ∀ k, lookG (infK cl nm (o :: l) (x :: xs)) H (fun _ => true) (k + 1) = lookG (infK cl nm l xs) (setO H (infK cl nm (o :: l) (x :: xs) 0)) (fun _ => true) k
  | 0 => rfl
  | k + 1 => by
    have ih := lookK_cons cl nm o l x xs H k
    have e : infK cl nm (o :: l) (x :: xs) (k + 1) = infK cl nm l xs k := by simp [infK]
    show setO (lookG (infK cl nm (o :: l) (x :: xs)) H (fun _ => true) (k + 1)) (infK cl nm (o :: l) (x :: xs) (k + 1)) = setO (lookG (infK cl nm l xs) _ (fun _ => true) k) (infK cl nm l xs k)
    rw [ih, e]

theorem chainK {N : Nat} {cl : List (Nat × Nat)} {nm : Nat → Nat} {K : St → AH → Prop} : ∀ (l : List Oper) (s : St) (H : AH), drawKS N P T cl nm l K s H → ∃ (vs : List AV) (obs : List AO),
    (∀ j o, l[j]? = some o → dstOk N o.dst = true ∧ o.guard = none ∧ match cK cl o with
      | none => ∀ G, OutK cl nm G H → LStep0 P T o.op (lookE (dstF l) (valF vs) s.e (fun _ => true) j) G (valF vs j)
      | some c => ∃ ob, lookG (infK cl nm l obs) H (fun _ => true) j (nm c) = some ob ∧ ∀ G, OutK cl nm G H → G (nm c) = some ob → LStepK P T o.op (lookE (dstF l) (valF vs) s.e (fun _ => true) j) G (nm c) (valF vs j) (obs.getD j (.row [] 0))) ∧
    K ⟨lookE (dstF l) (valF vs) s.e (fun _ => true) l.length, s.d⟩ (lookG (infK cl nm l obs) H (fun _ => true) l.length)
  | [], s, H, h => ⟨[], [], fun j o hj => by simp at hj, h⟩
  | o :: l, s, H, ⟨h1, h2, h3⟩ => by
    have build : ∀ (v : AV) (x : AO) (H2 : AH), (∀ G, OutK cl nm G H → OutK cl nm G H2) → (∀ obs : List AO, setO H (infK cl nm (o :: l) (x :: obs) 0) = H2) → drawKS N P T cl nm l K (putS s o.dst v) H2 →
        (match cK cl o with
          | none => ∀ G, OutK cl nm G H → LStep0 P T o.op s.e G v
          | some c => ∃ ob, H (nm c) = some ob ∧ ∀ G, OutK cl nm G H → G (nm c) = some ob → LStepK P T o.op s.e G (nm c) v x) →
        ∃ (vs : List AV) (obs : List AO), (∀ j o', (o :: l)[j]? = some o' → dstOk N o'.dst = true ∧ o'.guard = none ∧ match cK cl o' with
          | none => ∀ G, OutK cl nm G H → LStep0 P T o'.op (lookE (dstF (o :: l)) (valF vs) s.e (fun _ => true) j) G (valF vs j)
          | some c => ∃ ob, lookG (infK cl nm (o :: l) obs) H (fun _ => true) j (nm c) = some ob ∧ ∀ G, OutK cl nm G H → G (nm c) = some ob → LStepK P T o'.op (lookE (dstF (o :: l)) (valF vs) s.e (fun _ => true) j) G (nm c) (valF vs j) (obs.getD j (.row [] 0))) ∧
        K ⟨lookE (dstF (o :: l)) (valF vs) s.e (fun _ => true) (o :: l).length, s.d⟩ (lookG (infK cl nm (o :: l) obs) H (fun _ => true) (o :: l).length) := by
      intro v x H2 hout hH2 hr h0
      obtain ⟨vs, obs, ih1, ih2⟩ := chainK l _ _ hr
      refine ⟨v :: vs, x :: obs, fun j o' hj => ?_, ?_⟩
      · cases j with
        | zero =>
          simp at hj; subst hj
          exact ⟨h1, h2, h0⟩
        | succ j =>
          have := ih1 j o' (by simpa using hj)
          rw [lookE_cons, lookK_cons, hH2 obs]
          refine ⟨this.1, this.2.1, ?_⟩
          have t2 := this.2.2
          cases hc : cK cl o' with
          | none => rw [hc] at t2; exact fun G hG => by simpa [valF, putS] using t2 G (hout G hG)
          | some c => rw [hc] at t2; obtain ⟨ob, t3, t4⟩ := t2; exact ⟨ob, t3, fun G hG hq => by simpa [valF, putS] using t4 G (hout G hG) hq⟩
      · rw [List.length_cons, lookE_cons, lookK_cons, hH2 obs]
        exact ih2
    cases hc : cK cl o with
    | none =>
      rw [hc] at h3 build
      obtain ⟨v, h3, h4⟩ := h3
      exact build v (.row [] 0) H (fun _ h => h) (fun obs => by simp [infK, hc, setO]) h4 h3
    | some c =>
      rw [hc] at h3 build
      obtain ⟨ob, v, o', h3, h4, h5⟩ := h3
      exact build v o' (H.set (nm c) o') (fun _ h => h.set (cK_in hc)) (fun obs => by simp [infK, hc, setO]) h5 ⟨ob, h3, h4⟩

theorem anyK_ok (hT : T.ok P = true) (ro : Option Nat) {N : Nat} {ws : Nat → Bool} {ops : Array Oper} {cl : List (Nat × Nat)} {nm : Nat → Nat} {K R : St → AH → Prop} {X : Nat → St → AH → Prop} {s : St} {vs : List AV} {obs : List AO} (hord : orderOk ops = true) (hcls : ordK ops cl = true)
    (hnm : ∀ c c', c ∈ cl.map (·.2) → c' ∈ cl.map (·.2) → nm c = nm c' → c = c') (hws : ∀ t, t ∈ dstsOf ops.toList → ws t = true)
    (hstep : ∀ j o, ops.toList[j]? = some o → dstOk N o.dst = true ∧ o.guard = none ∧ match cK cl o with
      | none => ∀ G, OutK cl nm G H → LStep0 P T o.op (lookE (dstF ops.toList) (valF vs) s.e (fun _ => true) j) G (valF vs j)
      | some c => ∃ ob, lookG (infK cl nm ops.toList obs) H (fun _ => true) j (nm c) = some ob ∧ ∀ G, OutK cl nm G H → G (nm c) = some ob → LStepK P T o.op (lookE (dstF ops.toList) (valF vs) s.e (fun _ => true) j) G (nm c) (valF vs j) (obs.getD j (.row [] 0)))
    (hend : K ⟨lookE (dstF ops.toList) (valF vs) s.e (fun _ => true) ops.toList.length, s.d⟩ (lookG (infK cl nm ops.toList obs) H (fun _ => true) ops.toList.length)) :
    ∀ (fuel : Nat) (listed : Array Bool) (κ : KM) (F : FM) (w : World) (a : Act), listed.size = ops.size → (∀ j, doneP listed ops.size j = true → Waited ops (doneP listed ops.size) j) →
      ((List.range ops.size).filter fun k => !doneP listed ops.size k).length = fuel → Inv κ F B w0 (lookG (infK cl nm ops.toList obs) H (doneP listed ops.size) ops.size) w →
      ER κ F N ⟨lookE (dstF ops.toList) (valF vs) s.e (doneP listed ops.size) ops.size, s.d⟩ a → wpAnyIn (fence ro) 0 P .any ops (QOk κ F B w0 N ws s K R X) fuel listed a w := by
  have hinf : ∀ k q o, infK cl nm ops.toList obs k = some (q, o) → ∃ c, k < ops.size ∧ (ops[k]?).bind (cK cl) = some c ∧ q = nm c ∧ c ∈ cl.map (·.2) := by
    intro k q o h
    unfold infK at h
    rw [Array.getElem?_toList] at h
    cases hx : (ops[k]?).bind (cK cl) with
    | none => rw [hx] at h; simp at h
    | some c =>
      rw [hx] at h
      simp at h
      refine ⟨c, ?_, rfl, h.1.symm, ?_⟩
      · cases hk : ops[k]? with
        | none => rw [hk] at hx; simp at hx
        | some x => exact (Array.getElem?_eq_some_iff.1 hk).1
      · cases hk : ops[k]? with
        | none => rw [hk] at hx; simp at hx
        | some x =>
          rw [hk] at hx
          simp only [Option.bind_some] at hx
          exact cK_in hx
  have hsame : ∀ k k' q o o', infK cl nm ops.toList obs k = some (q, o) → infK cl nm ops.toList obs k' = some (q, o') → k < k' → ((aheadOf ops).getD k' 0).testBit k = true := by
    intro k k' q o o' h1 h2 hlt
    obtain ⟨c, hk, hc, e1, hm⟩ := hinf _ _ _ h1
    obtain ⟨c', hk', hc', e2, hm'⟩ := hinf _ _ _ h2
    have : c = c' := hnm c c' hm hm' (e1.symm.trans e2)
    subst this
    exact ordK_spec hcls hlt hk' hc hc'
  have hout : ∀ (p : Nat → Bool) n, OutK cl nm (lookG (infK cl nm ops.toList obs) H p n) H := by
    intro p n
    induction n with
    | zero => exact .refl
    | succ n ih =>
      simp only [lookG]
      cases p n with
      | false => exact ih
      | true =>
        simp only [cond_true]
        cases hi : infK cl nm ops.toList obs n with
        | none => exact ih
        | some x =>
          obtain ⟨q, o⟩ := x
          obtain ⟨c, _, _, e, hm⟩ := hinf _ _ _ hi
          subst e
          exact ih.set' hm
  have hlow := orderOk_low hord
  have hdst : ∀ k, dstF ops.toList k = (ops[k]?).bind (·.dst) := fun k => by simp [dstF]
  have hagree : ∀ p : Nat → Bool, Agree ws s ⟨lookE (dstF ops.toList) (valF vs) s.e p ops.size, s.d⟩ := by
    intro p t ht
    show lookE _ _ _ p ops.size t = s.e t
    have : ∀ n, lookE (dstF ops.toList) (valF vs) s.e p n t = s.e t := by
      intro n
      induction n with
      | zero => rfl
      | succ n ih =>
        simp only [lookE]
        cases p n with
        | false => exact ih
        | true =>
          have hne : dstF ops.toList n ≠ some t := by
            intro e
            have : t ∈ dstsOf ops.toList := by
              simp only [dstF] at e
              cases hx : ops.toList[n]? with
              | none => rw [hx] at e; simp at e
              | some o =>
                rw [hx] at e
                simp at e
                exact List.mem_filterMap.2 ⟨o, List.mem_of_getElem? hx, e⟩
            rw [hws t this] at ht; cases ht
          simp only [cond_true, putA_ne _ _ _ hne, ih]
    exact this _
  have ready : ∀ (listed : Array Bool), listed.size = ops.size → ∀ i, i ∈ Region.ready .any ops listed → i < ops.size ∧ doneP listed ops.size i = false ∧ Waited ops (doneP listed ops.size) i := by
    intro listed hsz i hi
    simp only [Region.ready, List.mem_filter, List.mem_range, Bool.and_eq_true, Bool.not_eq_true'] at hi
    obtain ⟨hi, hl, ha⟩ := hi
    have hdone : doneP listed ops.size i = false := by
      have e : listed.getD i false = listed.getD i true := by simp [Array.getD_eq_getD_getElem?, show i < listed.size by omega]
      simp [doneP, e, hl]
    refine ⟨hi, hdone, fun o ho e he hb => ?_⟩
    rw [ho] at ha
    simp only [Option.map_some, Option.getD_some] at ha
    have := Array.all_eq_true'.1 ha e (by simpa using he)
    simp only [hb, Bool.not_true, Bool.false_or] at this
    have hlt := hlow i o ho e he hb
    simp [doneP, this, blt_of (show e.on < ops.size by omega)]
  intro fuel
  induction fuel with
  | zero =>
    intro listed κ F w a hsz hcl hcount I hE
    have hall : ∀ k, k < ops.size → doneP listed ops.size k = true := by
      intro k hk
      cases hd : doneP listed ops.size k with
      | true => rfl
      | false =>
        have : k ∈ (List.range ops.size).filter fun k => !doneP listed ops.size k := by simp [hk, hd]
        rw [List.length_eq_zero_iff.1 hcount] at this
        cases this
    refine ⟨?_, ?_⟩
    · cases hr : Region.ready .any ops listed with
      | nil => rfl
      | cons i r =>
        obtain ⟨h1, h2, _⟩ := ready listed hsz i (by rw [hr]; simp)
        rw [hall i h1] at h2; cases h2
    · have heq : lookE (dstF ops.toList) (valF vs) s.e (doneP listed ops.size) ops.size = lookE (dstF ops.toList) (valF vs) s.e (fun _ => true) ops.size := by
        funext t; exact lookE_congr _ (fun k hk _ => hall k hk)
      have hH : lookG (infK cl nm ops.toList obs) H (doneP listed ops.size) ops.size = lookG (infK cl nm ops.toList obs) H (fun _ => true) ops.size := by
        funext q; exact lookG_at _ (fun k o hk _ => hall k hk)
      refine ⟨_, _, κ, F, KLe.refl _, FLe.refl _, I, hE, hagree _, ?_⟩
      rw [heq, hH]
      simpa using hend
  | succ fuel ih =>
    intro listed κ F w a hsz hcl hcount I hE
    refine ⟨fun hr => ?_, fun i hi => ?_⟩
    · -- somebody is ready
      exfalso
      obtain ⟨k, hk⟩ : ∃ k, k ∈ (List.range ops.size).filter fun k => !doneP listed ops.size k := by
        cases hx : (List.range ops.size).filter fun k => !doneP listed ops.size k with
        | nil => rw [hx] at hcount; simp at hcount
        | cons k _ => exact ⟨k, by simp⟩
      have key : ∀ k, k < ops.size → doneP listed ops.size k = false → False := by
        intro k
        induction k using Nat.strongRecOn with
        | _ k ih2 =>
          intro hk hd
          have : k ∈ Region.ready .any ops listed := by
            simp only [Region.ready, List.mem_filter, List.mem_range, Bool.and_eq_true, Bool.not_eq_true']
            refine ⟨hk, ?_, ?_⟩
            · simp only [doneP, blt_of hk, Bool.true_and] at hd
              have e : listed.getD k false = listed.getD k true := by simp [Array.getD_eq_getD_getElem?, show k < listed.size by omega]
              rw [← e]; exact hd
            · have ho : ops[k]? = some ops[k] := by simp [hk]
              rw [ho]
              simp only [Option.map_some, Option.getD_some]
              refine Array.all_eq_true'.2 fun e he => ?_
              cases hb : Region.binds .any e with
              | false => rfl
              | true =>
                have hlt := hlow k _ ho e (by simpa using he) hb
                cases hd' : doneP listed ops.size e.on with
                | false => exact (ih2 e.on hlt (by omega) hd').elim
                | true => simp only [doneP, Bool.and_eq_true] at hd'; simp [hd'.2]
          rw [hr] at this; cases this
      simp only [List.mem_filter, List.mem_range, Bool.not_eq_true'] at hk
      exact key k hk.1 hk.2
    · obtain ⟨hil, hdi, hwi⟩ := ready listed hsz i hi
      have ho : ops[i]? = some ops[i] := by simp [hil]
      obtain ⟨o, rfl⟩ : ∃ o, o = ops[i] := ⟨_, rfl⟩
      obtain ⟨hdst0, hgd, hg⟩ := hstep i ops[i] (by simp [hil])
      have hahead := ahead_done hlow hcl i hil hwi
      -- what the operation looks at stands there
      have sees : ∀ t, t ∈ looks ops ops[i] → lookE (dstF ops.toList) (valF vs) s.e (doneP listed ops.size) ops.size t = lookE (dstF ops.toList) (valF vs) s.e (fun _ => true) i t := by
        intro t ht
        refine lookE_lt ops.size (by omega) (fun k hk hkd => ?_)
        rw [hdst] at hkd
        by_cases hki : k = i
        · subst hki; constructor
          · intro h; rw [hdi] at h; cases h
          · intro h; omega
        · obtain ⟨h1, h2⟩ := orderOk_spec hord hkd ho (.inl ht) hki
          constructor
          · intro hp
            rcases Nat.lt_or_ge k i with hlt | hge
            · exact hlt
            · have := ahead_done hlow hcl k hk (hcl k hp) i (h2 (by omega))
              rw [hdi] at this; cases this
          · intro hlt; exact hahead k (h1 hlt)
      have hev : ∀ x, x ∈ (ops[i]).op.operands → ev (lookE (dstF ops.toList) (valF vs) s.e (fun _ => true) i) x = ev (lookE (dstF ops.toList) (valF vs) s.e (doneP listed ops.size) ops.size) x := by
        intro x hx
        cases x with
        | tmp t => exact (sees t (List.mem_append_left _ (List.mem_filterMap.2 ⟨.tmp t, by simpa using hx, rfl⟩))).symm
        | _ => rfl
      have hwt : Region.wanted ops[i] (yielded ops a.tmps) = true := wanted_of (K := fun b => b = true) hE (by rw [hgd]; rfl)
      have hlset : ∀ k, doneP (listed.setIfInBounds i true) ops.size k = (doneP listed ops.size k || Nat.beq k i) := by
        intro k
        simp only [doneP, Array.getD_eq_getD_getElem?, Array.getElem?_setIfInBounds]
        by_cases hki : i = k
        · subst hki; simp [show i < listed.size by omega, blt_of hil, Nat.beq_refl]
        · have : Nat.beq k i = false := by cases hb : Nat.beq k i with
            | false => rfl
            | true => exact absurd (Nat.eq_of_beq_eq_true hb).symm hki
          simp [hki, this]
      have hlsetf : doneP (listed.setIfInBounds i true) ops.size = fun k => doneP listed ops.size k || Nat.beq k i := funext hlset
      have hput : lookE (dstF ops.toList) (valF vs) s.e (doneP (listed.setIfInBounds i true) ops.size) ops.size = putA (lookE (dstF ops.toList) (valF vs) s.e (doneP listed ops.size) ops.size) (dstF ops.toList i) (valF vs i) := by
        rw [hlsetf]
        refine lookE_put hdi ops.size hil (fun k hk hki hkd hnn hp => ?_)
        rcases Nat.lt_or_ge k i with hlt | hge
        · exact hlt
        · exfalso
          cases hdn : dstF ops.toList i with
          | none => exact hnn hdn
          | some t =>
            rw [hdn] at hkd
            have hoi : (ops[i]).dst = some t := by rw [hdst, ho] at hdn; simpa using hdn
            obtain ⟨_, h2⟩ := orderOk_spec hord (by rw [← hdst]; exact hkd) ho (.inr hoi) hki
            have := ahead_done hlow hcl k hk (hcl k hp) i (h2 (by omega))
            rw [hdi] at this; cases this
      have hcl' : ∀ j, doneP (listed.setIfInBounds i true) ops.size j = true → Waited ops (doneP (listed.setIfInBounds i true) ops.size) j := by
        intro j hj o' ho' e he hbe
        rw [hlset] at hj ⊢
        rw [Bool.or_eq_true] at hj
        rcases hj with h | h
        · rw [hcl j h o' ho' e he hbe]; rfl
        · obtain rfl := Nat.eq_of_beq_eq_true h
          rw [hwi o' ho' e he hbe]; rfl
      have hcount' : ((List.range ops.size).filter fun k => !doneP (listed.setIfInBounds i true) ops.size k).length = fuel := by
        have key : ∀ (l : List Nat), l.Nodup → i ∈ l → (l.filter fun k => !doneP listed ops.size k).length = (l.filter fun k => !doneP (listed.setIfInBounds i true) ops.size k).length + 1 := by
          intro l
          induction l with
          | nil => intro _ h; cases h
          | cons k l ih =>
            intro hnd hm
            obtain ⟨hk, hnd⟩ := List.nodup_cons.1 hnd
            by_cases hki : k = i
            · subst hki
              have hrest : (l.filter fun k' => !doneP listed ops.size k') = l.filter fun k' => !doneP (listed.setIfInBounds k true) ops.size k' := by
                refine List.filter_congr fun k' hk' => ?_
                rw [hlset]
                have : Nat.beq k' k = false := by cases hb : Nat.beq k' k with
                  | false => rfl
                  | true => exact absurd (Nat.eq_of_beq_eq_true hb ▸ hk') hk
                simp [this]
              rw [List.filter_cons, List.filter_cons, hlset, hdi, Nat.beq_refl, hrest]
              simp
            · have hm' : i ∈ l := by rcases List.mem_cons.1 hm with h | h; · exact absurd h.symm hki
                                     · exact h
              have hb : Nat.beq k i = false := by cases hb : Nat.beq k i with
                | false => rfl
                | true => exact absurd (Nat.eq_of_beq_eq_true hb) hki
              have := ih hnd hm'
              rw [List.filter_cons, List.filter_cons, hlset, hb, Bool.or_false]
              cases doneP listed ops.size k <;> simp [this]
        have := key (List.range ops.size) List.nodup_range (by simpa using hil)
        omega
      have hdi' : dstF ops.toList i = (ops[i]).dst := by rw [hdst, ho]; rfl
      have hG : lookG (infK cl nm ops.toList obs) H (doneP (listed.setIfInBounds i true) ops.size) ops.size = setO (lookG (infK cl nm ops.toList obs) H (doneP listed ops.size) ops.size) (infK cl nm ops.toList obs i) := by
        rw [hlsetf]
        refine lookG_put hdi ops.size hil (fun k q o o' h1 h2 h3 h4 => ?_)
        cases hd : doneP listed ops.size k with
        | false => rfl
        | true =>
          have := ahead_done hlow hcl k h2 (hcl k hd) i (hsame _ _ _ _ _ h3 h4 h1)
          rw [hdi] at this; cases this
      unfold wpOpIn
      rw [ho]
      simp only
      rw [if_pos hwt]
      have go : ∀ v w', Left κ F B w0 (fun v' H' => v' = valF vs i ∧ H' = lookG (infK cl nm ops.toList obs) H (doneP (listed.setIfInBounds i true) ops.size) ops.size) v w' →
          wpAnyIn (fence ro) 0 P .any ops (QOk κ F B w0 N ws s K R X) fuel (listed.setIfInBounds i true) (a.put (ops[i]).dst v) w' := by
        rintro v w' ⟨y, H', κ', F', hk, hf, I', hv, rfl, rfl⟩
        have hE' := (hE.mono hk hf).put hdst0 hv
        have := ih (listed.setIfInBounds i true) κ' F' w' _ (by simp [hsz]) hcl' hcount' I' (by rw [hput, hdi']; exact hE')
        exact wpAnyIn_mono (fun e a w hq => QOk.from hk hf (Agree.refl _ _) hq) _ _ _ _ this
      have hinfi : infK cl nm ops.toList obs i = (cK cl ops[i]).map fun c => (nm c, obs.getD i (.row [] 0)) := by simp [infK, hil]
      rw [hG, hinfi] at go
      have hcong := fun (G : AH) (KK : AV → AH → Prop) => stepA_congr (P := P) (T := T) (H := G) (K := KK) hev
      cases hc : cK cl ops[i] with
      | none =>
        rw [hc] at hg go
        simp only [Option.map_none, setO] at go
        rcases hg (lookG (infK cl nm ops.toList obs) H (doneP listed ops.size) ops.size) (hout _ _) with h | ⟨cells, n, es, hv, hlen, h⟩
        · rw [hcong] at h
          exact stepA_ok hT ro I hE.e h go
        · unfold Makes at h
          rw [hcong] at h
          refine stepA_ok hT ro I hE.e h fun v w' hL => go v w' ?_
          rw [hv]
          exact Left.cold hlen hL
      | some c =>
        rw [hc] at hg go
        simp only [Option.map_some, setO] at go
        obtain ⟨ob, h1, h2⟩ := hg
        have hat : lookG (infK cl nm ops.toList obs) H (doneP listed ops.size) ops.size (nm c) = some ob := by
          rw [← h1]
          have hii : infK cl nm ops.toList obs i = some (nm c, obs.getD i (.row [] 0)) := by rw [hinfi, hc]; rfl
          refine (lookG_up (i := i) ops.size (by omega) (fun k o h3 h4 h5 => ?_)).trans (lookG_at i (fun k o h3 h5 => ?_))
          · by_cases e : k = i
            · rw [e]; exact hdi
            · cases hd : doneP listed ops.size k with
              | false => rfl
              | true =>
                have := ahead_done hlow hcl k h4 (hcl k hd) i (hsame _ _ _ _ _ hii h5 (by omega))
                rw [hdi] at this; cases this
          · exact hahead k (hsame _ _ _ _ _ h5 hii h3)
        rcases h2 _ (hout _ _) hat with (h | ⟨cells, n, es, hv, ho', hq, h⟩) | ⟨cells, hv, ho', hq, h⟩
        · rw [hcong] at h
          exact stepA_ok hT ro I hE.e h go
        · unfold Makes at h
          rw [hcong] at h
          refine stepA_ok hT ro I hE.e h fun v w' hL => go v w' ?_
          rw [hv, ho']
          exact Left.named hq hL
        · unfold TakesP at h
          rw [hcong] at h
          refine stepA_ok hT ro I hE.e h fun v w' hL => go v w' ?_
          rw [hv, ho']
          exact Left.namedP hq hL

theorem AWp_drawK (hT : T.ok P = true) (hm : P.follows .mixedOrders = true) {N : Nat} {ro : Option Nat} {ws : Nat → Bool} {id : Nat} {ops : Array Oper} {K R : St → AH → Prop} {X : Nat → St → AH → Prop} {s : St} (cl : List (Nat × Nat)) (nm : Nat → Nat)
    (hnm : ∀ c c', c ∈ cl.map (·.2) → c' ∈ cl.map (·.2) → nm c = nm c' → c = c') (hws : (writes (.region id ops true)).all ws = true) (hord : (orderOk ops && ordK ops cl) = true) (h : drawKS N P T cl nm ops.toList K s H) :
    AWp N P ro ws (.region id ops true) K R X s H := by
  refine ⟨fun κ F B w0 w a I hE => wpIn_region_any hm ?_⟩
  obtain ⟨vs, obs, hstep, hend⟩ := chainK _ _ _ h
  rw [Bool.and_eq_true] at hord
  have hz : ∀ k, doneP (Array.replicate ops.size false) ops.size k = false := by
    intro k
    simp only [doneP, Array.getD_eq_getD_getElem?]
    by_cases hk : k < ops.size
    · simp [hk]
    · simp [hk]
  refine anyK_ok hT ro hord.1 hord.2 hnm (all_mem hws) hstep hend ops.size _ κ F _ a (by simp) (fun j hj => by rw [hz] at hj; cases hj) ?_ ?_ ?_
  · have : ((List.range ops.size).filter fun k => !doneP (Array.replicate ops.size false) ops.size k) = List.range ops.size := List.filter_eq_self.2 fun k _ => by simp [hz]
    rw [this]; simp
  · have : ∀ n, lookG (infK cl nm ops.toList obs) H (doneP (Array.replicate ops.size false) ops.size) n = H := by
      intro n
      induction n with
      | zero => rfl
      | succ n ih => simp only [lookG, hz, cond_false, ih]
    rw [this]; exact I.drew
  · have : ∀ n, lookE (dstF ops.toList) (valF vs) s.e (doneP (Array.replicate ops.size false) ops.size) n = s.e := by
      intro n
      induction n with
      | zero => rfl
      | succ n ih => simp only [lookE, hz, cond_false, ih]
    rw [this]; exact hE

structure DrawK (N : Nat) (P : Program) (T : TT) (cl : List (Nat × Nat)) (nm : Nat → Nat) (l : List Oper) (K : St → AH → Prop) (s : St) (H : AH) : Prop where
  out : drawKS N P T cl nm l K s H

/-- The name stands for no class. -/
def offR (nm : Nat → Nat) (r : Nat) : List (Nat × Nat) → Prop
  | [] => True
  | p :: l => nm p.2 ≠ r ∧ offR nm r l
theorem offR_iff {nm : Nat → Nat} {r : Nat} : ∀ {l : List (Nat × Nat)}, offR nm r l → ∀ c, c ∈ l.map (·.2) → nm c ≠ r
  | [], _, c, hc => by cases hc
  | p :: l, ⟨h1, h2⟩, c, hc => by
    rcases List.mem_cons.1 hc with rfl | hc
    · exact h1
    · exact offR_iff h2 c hc

/-- Off the classes: no memory, or a load from a row of no class. -/
def offK (P : Program) (T : TT) (cl : List (Nat × Nat)) (nm : Nat → Nat) (o : Op) (e : Env) (H : AH) (K : AV → Prop) : Prop :=
  match o with
  | .load t a =>
    (match T.get t with
     | some tr => (match ev e a with
       | .ptr r v off => offR nm r cl ∧ loadA tr (.ptr r v off) H K
       | b => loadC tr b K)
     | none => False)
  | o => pureL P T o e K

theorem loadA_det {tr : TR} {r v off : Nat} {K : AV → Prop} (h : loadA tr (.ptr r v off) H K) : ∃ x, K x ∧ ∀ G : AH, G r = H r → loadA tr (.ptr r v off) G (fun y => y = x) := by
  unfold loadA at h
  simp only at h
  obtain ⟨cells, hH, h⟩ := h
  cases hag : tr.agg with
  | true =>
    rw [hag] at h
    obtain ⟨h1, h2⟩ := h
    refine ⟨_, h2, fun G hG => ?_⟩
    unfold loadA
    simp only
    refine ⟨cells, hG.trans hH, ?_⟩
    rw [hag]
    exact ⟨h1, rfl⟩
  | false =>
    rw [hag] at h
    obtain ⟨h1, x, h2, h3⟩ := when_iff.1 h
    refine ⟨x, h3, fun G hG => ?_⟩
    unfold loadA
    simp only
    refine ⟨cells, hG.trans hH, ?_⟩
    rw [hag]
    exact when_iff.2 ⟨h1, x, h2, rfl⟩

theorem offK_ok {cl : List (Nat × Nat)} {nm : Nat → Nat} {o : Op} {e : Env} {K : AV → Prop} (h : offK P T cl nm o e H K) : ∃ v, (∀ G, OutK cl nm G H → LStep0 P T o e G v) ∧ K v := by
  unfold offK at h
  split at h
  · rename_i t a
    split at h
    · rename_i tr hg
      split at h
      · rename_i r v off ha
        obtain ⟨h1, h2⟩ := h
        obtain ⟨x, h3, h4⟩ := loadA_det h2
        refine ⟨x, fun G hG => .inl ?_, h3⟩
        have := h4 G (hG r (offR_iff h1))
        show opA T (.load t a) e G (fun v' H' => v' = x ∧ H' = G)
        simp only [opA, hg, ha]
        simpa using this
      · obtain ⟨v, h1, h2⟩ := det_loadC _ _ _ h
        refine ⟨v, fun G _ => .inl ?_, h2⟩
        show opA T (.load t a) e G (fun v' H' => v' = v ∧ H' = G)
        simp only [opA, hg]
        simpa using loadC_ok (H := G) h1
    · exact h.elim
  · obtain ⟨v, h1, h2⟩ := pureL_ok h
    exact ⟨v, fun G _ => h1 G, h2⟩

/-- On a class. -/
def onK (T : TT) (q : Nat) (ob : AO) (o : Op) (e : Env) (K : AV → AO → Prop) : Prop :=
  match o with
  | .alloc t => (match T.get t with | some tr => ob = .row [] 0 ∧ K (.ptr q 1 0) (.row tr.zero 1) | none => False)
  | .store t a x =>
    (match T.get t, ev e a, cellsOf (ev e x) with
     | some tr, .ptr r v off, some l => r = q ∧ ∃ cells, ob = .row cells v ∧ off + tr.size ≤ cells.length ∧ l.length = tr.size ∧ l.all one = true ∧ K .junk (.row (wrA cells off l) v)
     | _, _, _ => False)
  | .load t a =>
    (match T.get t, ev e a with
     | some tr, .ptr r v off => r = q ∧ loadA tr (.ptr r v off) (fun _ => some ob) fun x => K x ob
     | _, _ => False)
  | .fieldAddr t x f => when (isPure T (.fieldAddr t x f) && isDet T (.fieldAddr t x f)) (opA T (.fieldAddr t x f) e (fun _ => none) fun v _ => K v ob)
  | .indexAddr t x i => when (isPure T (.indexAddr t x i) && isDet T (.indexAddr t x i)) (opA T (.indexAddr t x i) e (fun _ => none) fun v _ => K v ob)
  | o => appL T q ob o e K
/-- A step without memory, beside a row. -/
theorem pure_on {q : Nat} {ob : AO} {o : Op} {e : Env} {K : AV → AO → Prop} (h : when (isPure T o && isDet T o) (opA T o e (fun _ => none) fun v _ => K v ob)) : ∃ v o', (∀ G, G q = some ob → LStepK P T o e G q v o') ∧ K v o' := by
  obtain ⟨h1, h2⟩ := when_iff.1 h
  rw [Bool.and_eq_true] at h1
  obtain ⟨v, h3, h4⟩ := opA_det (H := fun _ => none) (K := fun v _ => K v ob) h1.2 h2
  obtain ⟨_, h5⟩ := opA_pure h1.1 h3
  refine ⟨v, ob, fun G hG => .inl (.inl ?_), h4⟩
  rw [stepA_pure h1.1, AH.set_id hG]
  exact h5 G

theorem onK_ok {q : Nat} {ob : AO} {o : Op} {e : Env} {K : AV → AO → Prop} (h : onK T q ob o e K) : ∃ v o', (∀ G, G q = some ob → LStepK P T o e G q v o') ∧ K v o' := by
  unfold onK at h
  split at h
  · rename_i t
    split at h
    · rename_i tr hg
      obtain ⟨h1, h2⟩ := h
      refine ⟨_, _, fun G hG => .inr ⟨tr.zero, rfl, rfl, by rw [hG, h1], ?_⟩, h2⟩
      show opA T (.alloc t) e G (fun v' H' => ∃ r, G r = none ∧ v' = .ptr r 0 0 ∧ H' = G.set r (.row tr.zero 0))
      simp only [opA, hg]
      exact fun r hr => ⟨r, hr, rfl, rfl⟩
    · exact h.elim
  · rename_i t a x
    split at h
    · rename_i tr r v off l hg ha hx
      obtain ⟨rfl, cells, h1, h2, h3, h4, h5⟩ := h
      refine ⟨_, _, fun G hG => .inl (.inl ?_), h5⟩
      show opA T (.store t a x) e G (fun v' H' => v' = AV.junk ∧ H' = G.set r (AO.row (wrA cells off l) v))
      simp only [opA, hg, ha]
      unfold storeA
      simp only [hx]
      exact ⟨cells, by rw [hG, h1], h2, h3, h4, by simp⟩
    · exact h.elim
  · rename_i t a
    split at h
    · rename_i tr r v off hg ha
      obtain ⟨rfl, h2⟩ := h
      obtain ⟨x, h3, h4⟩ := loadA_det h2
      refine ⟨x, ob, fun G hG => .inl (.inl ?_), h3⟩
      show opA T (.load t a) e G (fun v' H' => v' = x ∧ H' = G.set r ob)
      simp only [opA, hg, ha]
      rw [AH.set_id hG]
      simpa using h4 G hG
    · exact h.elim
  · exact pure_on h
  · exact pure_on h
  · obtain ⟨v, o', h1, h2⟩ := appL_ok (P := P) h
    exact ⟨v, o', fun G hG => .inl (h1 G hG), h2⟩

def drawKD (N : Nat) (P : Program) (T : TT) (cl : List (Nat × Nat)) (nm : Nat → Nat) (o : Oper) (rest : List Oper) (K : St → AH → Prop) (e : Env) (d : List Nat) (H : AH) : Prop :=
  when (dstOk N o.dst && o.guard.isNone) (match cK cl o with
    | none => offK P T cl nm o.op e H fun v => force v fun v => DrawK N P T cl nm rest K ⟨putA e o.dst v, d⟩ H
    | some c => ∃ ob, H (nm c) = some ob ∧ onK T (nm c) ob o.op e fun v o' => force v fun v => DrawK N P T cl nm rest K ⟨putA e o.dst v, d⟩ (H.set (nm c) o'))

theorem DrawK.nil {N : Nat} {cl : List (Nat × Nat)} {nm : Nat → Nat} {K : St → AH → Prop} {s : St} (h : K s H) : DrawK N P T cl nm [] K s H := ⟨h⟩
theorem DrawK.consD {N : Nat} {cl : List (Nat × Nat)} {nm : Nat → Nat} {o : Oper} {rest : List Oper} {K : St → AH → Prop} {e : Env} {d : List Nat} (h : drawKD N P T cl nm o rest K e d H) : DrawK N P T cl nm (o :: rest) K ⟨e, d⟩ H := by
  refine ⟨?_⟩
  unfold drawKD at h
  unfold drawKS
  obtain ⟨h1, h2⟩ := when_iff.1 h
  rw [Bool.and_eq_true] at h1
  refine ⟨h1.1, by simpa using h1.2, ?_⟩
  split at h2
  · rename_i hc
    obtain ⟨v, h3, h4⟩ := offK_ok h2
    rw [force_eq] at h4
    exact ⟨v, h3, h4.out⟩
  · rename_i c hc
    obtain ⟨ob, h3, h4⟩ := h2
    obtain ⟨v, o', h5, h6⟩ := onK_ok (P := P) h4
    rw [force_eq] at h6
    exact ⟨ob, v, o', h3, fun G _ hG => h5 G hG, h6.out⟩

theorem AWq.drawK (hm : P.follows .mixedOrders = true) {N : Nat} {ro : Option Nat} {ws : Nat → Bool} {id : Nat} {ops : Array Oper} {K R : St → AH → Prop} {X : Nat → St → AH → Prop} {s : St} (cl : List (Nat × Nat)) (nm : Nat → Nat)
    (hnm : ∀ c c', c ∈ cl.map (·.2) → c' ∈ cl.map (·.2) → nm c = nm c' → c = c') (hord : (orderOk ops && ordK ops cl) = true) (h : DrawK N P T cl nm ops.toList K s H) :
    AWq N P T ro ws (.region id ops true) K R X s H :=
  ⟨fun hT hdraw hw => AWp_drawK hT hm cl nm hnm (List.all_eq_true.2 hw) hord h.out⟩
end Go.Fw
/- The frame of the abstract walk, part 32: a cell that nobody writes any more is told as a constant. -/
set_option linter.unusedVariables false
set_option linter.unusedSimpArgs false
namespace Go.Fw
open Go.RowKit

variable {κ : KM} {F : FM} {B : Nat} {w0 w : World} {H : AH} {P : Program} {T : TT}

theorem wrA_all {z x : List AV} (h : z.length = x.length) : wrA z 0 x = x := by
  unfold wrA; rw [Nat.zero_add, List.drop_of_length_le (by omega)]; simp
theorem AVles.of_eq {a b : List AV} (h : a = b) : AVles a b := h ▸ AVles.refl _

/-- A row that nobody writes any more: all pointers to it may be told as constants. -/
theorem Inv.coolP (I : Inv κ F B w0 H w) {r v : Nat} {cells : List AV} (hH : H r = some (.row cells v)) :
    ∃ F', FLe F F' ∧ Inv κ F' B w0 (H.del r) w ∧ ∀ F2 x, VR κ F2 (.ptr r v 0) x → VR κ F' (.cp cells) x := by
  obtain ⟨i, hi, hrow, hn0⟩ := I.objs _ _ hH
  have hi' : κ r v = some i := hi
  cases hb : i.blk with
  | none =>
    refine ⟨F, FLe.refl _, I.drop r, fun F2 x hv => ?_⟩
    cases hv with
    | ptr h => rw [hi'] at h; cases h; cases hb
  | some b =>
    obtain ⟨arr, hsz, hlen', hcv, hFle, I'⟩ := I.freeze hH hi' hb
    refine ⟨_, hFle, I', fun F2 x hv => ?_⟩
    cases hv with
    | ptr h =>
      rw [hi'] at h; cases h; cases hb
      refine .cp (arr := arr) (by simp) (by omega) (fun j hj => ?_)
      have := (hcv j hj).mono (KLe.refl _) hFle
      simpa using this

theorem AWp_freezeP {N : Nat} {ro : Option Nat} {ws : Nat → Bool} {c : Code} {K R : St → AH → Prop} {X : Nat → St → AH → Prop} {s : St} {H : AH} (t : Nat) {r v : Nat} {cells : List AV} (hts : ws t = true)
    (he : s.e t = .ptr r v 0) (hH : H r = some (.row cells v)) (h : AWp N P ro ws c K R X ⟨retold [t] (.cp cells) s.e, s.d⟩ (H.del r)) : AWp N P ro ws c K R X s H := by
  refine ⟨fun κ F B w0 w a I hE => ?_⟩
  obtain ⟨F', hF, I', hall⟩ := I.coolP hH
  have hag : Agree ws s ⟨retold [t] (.cp cells) s.e, s.d⟩ := by
    intro u hu
    simp only [retold]
    cases hm : memA [t] u with
    | false => rfl
    | true =>
      have : u = t := by have := (memA_iff _ _).1 hm; simpa using this
      rw [this, hts] at hu; cases hu
  have hE' : ER κ F' N ⟨retold [t] (.cp cells) s.e, s.d⟩ a := by
    refine ⟨fun u => ?_, hE.size, hE.d⟩
    simp only [retold]
    cases hm : memA [t] u with
    | false => exact (hE.e u).mono (KLe.refl _) hF
    | true =>
      have hut : u = t := by have := (memA_iff _ _).1 hm; simpa using this
      have hx := hE.e u
      rw [hut, he] at hx
      rw [hut]
      exact hall _ _ hx
  exact wpIn_mono (h.out κ F' B w0 w a I' hE') (fun e a w hq => QOk.from (KLe.refl _) hF hag hq)
/-- A struct that is copied into a cell of its own. -/
theorem AWp_seg {N : Nat} {ro : Option Nat} {ws : Nat → Bool} {c : Code} {K R : St → AH → Prop} {X : Nat → St → AH → Prop} {s : St} {G : AH} {p u : Nat} {o : AO} {z x : List AV} (y : List AV)
    (hx : x = y) (hl : z.length = y.length) (h : AWp N P ro ws c K R X s (G.set p (.row y u))) : AWp N P ro ws c K R X s ((G.set p o).set p (.row (wrA z 0 x) u)) := by
  rw [AH.set_set, hx, wrA_all hl]; exact h
/-- The same, where nobody writes to it. -/
theorem AWp_segP {N : Nat} {ro : Option Nat} {ws : Nat → Bool} {c : Code} {K R : St → AH → Prop} {X : Nat → St → AH → Prop} {s : St} {G : AH} {p u : Nat} {o : AO} {z x : List AV} (t : Nat) (y : List AV)
    (hts : ws t = true) (he : s.e t = .ptr p u 0) (hG : G p = none) (hx : x = y) (hl : z.length = y.length) (h : AWp N P ro ws c K R X ⟨retold [t] (.cp y) s.e, s.d⟩ G) : AWp N P ro ws c K R X s ((G.set p o).set p (.row (wrA z 0 x) u)) := by
  refine AWp_seg y hx hl (AWp_freezeP t hts he (AH.set_same _ _ _) ?_)
  rw [AH.del_set _ _ _ hG]; exact h
/-- A row of the heap written anew. -/
theorem HLe.push {G H : AH} {r : Nat} {o o' : AO} (h : HLe (G.set r o) H) : HLe (G.set r o') (H.set r o') := by
  refine ⟨fun s x hs => ?_⟩
  by_cases e : s = r
  · rw [e, AH.set_same] at hs ⊢; exact hs
  · rw [AH.set_ne _ _ e] at hs ⊢
    exact h.le s x (by rw [AH.set_ne _ _ e]; exact hs)
end Go.Fw
