/- The frame of the abstract walk, part 29: drawn regions with calls that change memory beside loads that these leave as they were. -/
import Derived.Test.YtgmooalikccbiaaFw28
set_option linter.unusedVariables false
set_option linter.unusedSimpArgs false
namespace Go.Fw
open Go.RowKit

variable {κ : KM} {F : FM} {B : Nat} {w0 w : World} {H : AH} {P : Program} {T : TT}

/-- An operation that changes memory and is no marked call. -/
def isE2 (M : Mk) (o : Oper) : Bool := isEff o.op
/-- A marked call. -/
def isE1 (M : Mk) (o : Oper) : Bool := !isEff o.op && inM M.1 o.dst
def isPP (T : TT) (M : Mk) (o : Oper) : Bool := !isEffM M o && isPure T o.op
def isM2 (T : TT) (M : Mk) (o : Oper) : Bool := !isEffM M o && !isPure T o.op && inM M.2 o.dst
def nextS (M : Mk) (o : Oper) (S : AH → Prop) : AH → Prop := cond (isE2 M o) (fun _ => True) S
theorem nextS_iff {M : Mk} {o : Oper} {S : AH → Prop} {G : AH} : nextS M o S G ↔ (isE2 M o = false → S G) := by
  unfold nextS
  cases isE2 M o <;> simp

/-- What changes memory is ordered against all that looks at it, but for marked calls against marked loads. -/
def effOkF (T : TT) (M : Mk) (all : Array Oper) : Bool :=
  let ah := aheadOf all
  let e := fun i => match all[i]? with | some o => isEffM M o | none => false
  let e1 := fun i => match all[i]? with | some o => isE1 M o | none => false
  let p := fun i => match all[i]? with | some o => isPP T M o | none => false
  let m := fun i => match all[i]? with | some o => isM2 T M o | none => false
  (List.range all.size).all fun j => (List.range j).all fun i => !(e i || e j) || (p i || p j || (m i && e1 j) || (e1 i && m j) || (ah.getD j 0).testBit i)

def drawSF (N : Nat) (P : Program) (T : TT) (M : Mk) (all : Array Oper) : (AH → Prop) → List Oper → (St → AH → Prop) → St → AH → Prop
  | _, [], K, s, H => K s H
  | S, o :: rest, K, s, H =>
    when (dstOk N o.dst) (guardA all s.e o.guard fun b =>
      cond b (∃ v H2, stepA P T o.op s.e H (fun v' H' => v' = v ∧ H' = H2) ∧ (isEffM M o = false → H2 = H) ∧ (isE1 M o = true → S H2) ∧ (isM2 T M o = true → ∀ G, S G → stepA P T o.op s.e G (fun v' H' => v' = v ∧ H' = G)) ∧ drawSF N P T M all (nextS M o S) rest K (putS s o.dst v) H2) (drawSF N P T M all (nextS M o S) rest K (putS s o.dst (.tup [])) H))

def ChainF (N : Nat) (P : Program) (T : TT) (M : Mk) (all : Array Oper) (K : St → AH → Prop) : (AH → Prop) → List Oper → List (AV × AH) → St → AH → Prop
  | _, [], [], s, H => K s H
  | S, o :: l, v :: vs, s, H => (dstOk N o.dst = true ∧ guardA all s.e o.guard fun b => cond b (stepA P T o.op s.e H (fun v' H' => v' = v.1 ∧ H' = v.2) ∧ (isEffM M o = false → v.2 = H) ∧ (isE1 M o = true → S v.2) ∧ (isM2 T M o = true → ∀ G, S G → stepA P T o.op s.e G (fun v' H' => v' = v.1 ∧ H' = G))) (v.1 = .tup [] ∧ v.2 = H)) ∧ ChainF N P T M all K (nextS M o S) l vs (putS s o.dst v.1) v.2
  | _, _, _, _, _ => False

theorem chainF_of {N : Nat} {M : Mk} {all : Array Oper} {K : St → AH → Prop} : ∀ (l : List Oper) (S : AH → Prop) (s : St) (H : AH), drawSF N P T M all S l K s H → ∃ vs, ChainF N P T M all K S l vs s H
  | [], S, s, H, h => ⟨[], h⟩
  | o :: l, S, s, H, h => by
    obtain ⟨hd, h⟩ := when_iff.1 h
    obtain ⟨b, hb, hg⟩ := guardA_elim h
    have hg := hg s.e (fun _ _ _ _ _ => rfl)
    cases b with
    | true =>
      obtain ⟨v, H2, h1, h3, h5, h4, h2⟩ := hb
      obtain ⟨vs, hc⟩ := chainF_of l _ _ _ h2
      exact ⟨(v, H2) :: vs, ⟨hd, hg (fun b => cond b (stepA P T o.op s.e H (fun v' H' => v' = v ∧ H' = H2) ∧ (isEffM M o = false → H2 = H) ∧ (isE1 M o = true → S H2) ∧ (isM2 T M o = true → ∀ G, S G → stepA P T o.op s.e G (fun v' H' => v' = v ∧ H' = G))) (v = .tup [] ∧ H2 = H)) ⟨h1, h3, h5, h4⟩⟩, hc⟩
    | false =>
      obtain ⟨vs, hc⟩ := chainF_of l _ _ _ hb
      exact ⟨(.tup [], H) :: vs, ⟨hd, hg (fun b => cond b (stepA P T o.op s.e H (fun v' H' => v' = .tup [] ∧ H' = H) ∧ (isEffM M o = false → H = H) ∧ (isE1 M o = true → S H) ∧ (isM2 T M o = true → ∀ G, S G → stepA P T o.op s.e G (fun v' H' => v' = .tup [] ∧ H' = G))) (AV.tup [] = .tup [] ∧ H = H)) ⟨rfl, rfl⟩⟩, hc⟩

/-- Nothing ahead but marked calls. -/
def noE2 (M : Mk) (l : List Oper) (j : Nat) : Prop := ∀ i o, i < j → l[i]? = some o → isE2 M o = false
theorem noE2_cons {M : Mk} {o : Oper} {l : List Oper} {j : Nat} : noE2 M (o :: l) (j + 1) ↔ isE2 M o = false ∧ noE2 M l j := by
  constructor
  · intro h
    exact ⟨h 0 o (by omega) rfl, fun i o' hi ho => h (i + 1) o' (by omega) (by simpa using ho)⟩
  · rintro ⟨h1, h2⟩ i o' hi ho
    cases i with
    | zero => simp at ho; subst ho; exact h1
    | succ i => exact h2 i o' (by omega) (by simpa using ho)

theorem chainF_spec {N : Nat} {M : Mk} {all : Array Oper} {K : St → AH → Prop} : ∀ (l : List Oper) (S : AH → Prop) (vs : List (AV × AH)) (s : St) (H : AH), ChainF N P T M all K S l vs s H → vs.length = l.length ∧
    (∀ j o, l[j]? = some o → dstOk N o.dst = true ∧ guardA all (lookE (dstF l) (valF (vs.map (·.1))) s.e (fun _ => true) j) o.guard fun b =>
      cond b (stepA P T o.op (lookE (dstF l) (valF (vs.map (·.1))) s.e (fun _ => true) j) (hpF H (vs.map (·.2)) j) (fun v' H' => v' = valF (vs.map (·.1)) j ∧ H' = hpF H (vs.map (·.2)) (j + 1)) ∧ (isEffM M o = false → hpF H (vs.map (·.2)) (j + 1) = hpF H (vs.map (·.2)) j) ∧ (isE1 M o = true → noE2 M l j → S (hpF H (vs.map (·.2)) (j + 1))) ∧ (isM2 T M o = true → ∀ G, (noE2 M l j → S G) → stepA P T o.op (lookE (dstF l) (valF (vs.map (·.1))) s.e (fun _ => true) j) G (fun v' H' => v' = valF (vs.map (·.1)) j ∧ H' = G)))
        (valF (vs.map (·.1)) j = .tup [] ∧ hpF H (vs.map (·.2)) (j + 1) = hpF H (vs.map (·.2)) j)) ∧
    K ⟨lookE (dstF l) (valF (vs.map (·.1))) s.e (fun _ => true) l.length, s.d⟩ (hpF H (vs.map (·.2)) l.length)
  | [], S, [], s, H, h => ⟨rfl, fun j o h => by simp at h, h⟩
  | [], S, _ :: _, s, H, h => h.elim
  | _ :: _, S, [], s, H, h => h.elim
  | o :: l, S, (v, h2) :: vs, s, H, h => by
    obtain ⟨h1, h2'⟩ := h
    obtain ⟨hl, ih1, ih2⟩ := chainF_spec l _ vs _ _ h2'
    refine ⟨by simp [hl], fun j o' hj => ?_, ?_⟩
    · cases j with
      | zero =>
        simp at hj; subst hj
        simp only [List.map_cons, hpF_cons, hpF_zero]
        refine ⟨h1.1, guardA_mono (fun b hb => ?_) h1.2⟩
        cases b with
        | false => exact hb
        | true => exact ⟨hb.1, hb.2.1, fun h _ => hb.2.2.1 h, fun h G hG => hb.2.2.2 h G (hG (fun i _ hi => by omega))⟩
      | succ j =>
        have := ih1 j o' (by simpa using hj)
        simp only [List.map_cons]
        rw [lookE_cons, hpF_cons, hpF_cons]
        simp only [noE2_cons]
        refine ⟨this.1, guardA_mono (fun b hb => ?_) this.2⟩
        cases b with
        | false => simpa [valF, putS] using hb
        | true =>
          obtain ⟨k1, k2, k3, k4⟩ := hb
          refine ⟨by simpa [valF, putS] using k1, k2, fun h hn => nextS_iff.1 (k3 h hn.2) hn.1, fun h G hG => ?_⟩
          have := k4 h G (fun hn => nextS_iff.2 fun he => hG ⟨he, hn⟩)
          simpa [valF, putS] using this
    · simp only [List.map_cons]
      rw [List.length_cons, lookE_cons, hpF_cons]; exact ih2

theorem lookH_or {H : AH} {hs : List AH} {eff D : Nat → Bool} : ∀ n, lookH H hs eff D n = H ∨ ∃ k, k < n ∧ D k = true ∧ eff k = true ∧ lookH H hs eff D n = hpF H hs (k + 1)
  | 0 => .inl rfl
  | n + 1 => by
    simp only [lookH]
    cases h : (D n && eff n) with
    | true =>
      rw [Bool.and_eq_true] at h
      exact .inr ⟨n, by omega, h.1, h.2, rfl⟩
    | false =>
      rcases lookH_or (H := H) (hs := hs) (eff := eff) (D := D) n with h | ⟨k, h1, h2, h3, h4⟩
      · exact .inl h
      · exact .inr ⟨k, by omega, h2, h3, h4⟩

theorem effOkF_spec {M : Mk} {ops : Array Oper} (h : effOkF T M ops = true) {i j : Nat} {oi oj : Oper} (hi : ops[i]? = some oi) (hj : ops[j]? = some oj) (hlt : i < j) (he : isEffM M oi = true ∨ isEffM M oj = true) (hpi : isPP T M oi = false) (hpj : isPP T M oj = false)
    (h1 : (isM2 T M oi && isE1 M oj) = false) (h2 : (isE1 M oi && isM2 T M oj) = false) :
    ((aheadOf ops).getD j 0).testBit i = true := by
  have hjl : j < ops.size := (Array.getElem?_eq_some_iff.1 hj).1
  unfold effOkF at h
  have k1 := List.all_eq_true.1 h j (by simpa using hjl)
  have k2 := List.all_eq_true.1 k1 i (by simpa using hlt)
  simp only [hi, hj, hpi, hpj, h1, h2, Bool.false_or, Bool.or_eq_true, Bool.not_eq_true', Bool.or_eq_false_iff] at k2
  rcases k2 with k2 | k2
  · rcases he with he | he
    · rw [k2.1] at he; cases he
    · rw [k2.2] at he; cases he
  · exact k2
theorem effM_of {M : Mk} {o : Oper} : isEffM M o = true ↔ isE2 M o = true ∨ isE1 M o = true := by
  unfold isEffM isE2 isE1
  cases isEff o.op <;> simp
theorem m2_eff {M : Mk} {o : Oper} (h : isM2 T M o = true) : isEffM M o = false ∧ isPP T M o = false ∧ isE1 M o = false := by
  unfold isM2 at h
  simp only [Bool.and_eq_true, Bool.not_eq_true'] at h
  refine ⟨h.1.1, ?_, ?_⟩
  · unfold isPP; rw [h.1.2, Bool.and_false]
  · unfold isE1 isEffM at *
    have := h.1.1
    simp only [Bool.or_eq_false_iff] at this
    rw [this.2, Bool.and_false]
theorem pp_eff {M : Mk} {o : Oper} (h : isEffM M o = true) : isPP T M o = false ∧ isM2 T M o = false := by
  unfold isPP isM2; rw [h]; exact ⟨rfl, rfl⟩
theorem anyF_ok (hT : T.ok P = true) (ro : Option Nat) {N : Nat} {M : Mk} {ws : Nat → Bool} {ops : Array Oper} {K R : St → AH → Prop} {X : Nat → St → AH → Prop} {s : St} {vs : List (AV × AH)} {S : AH → Prop} (hS : S H) (hord : orderOk ops = true) (heff : effOkF T M ops = true) (hws : ∀ t, t ∈ dstsOf ops.toList → ws t = true)
    (hch : ChainF N P T M ops K S ops.toList vs s H) : ∀ (fuel : Nat) (listed : Array Bool) (κ : KM) (F : FM) (w : World) (a : Act), listed.size = ops.size → (∀ j, doneP listed ops.size j = true → Waited ops (doneP listed ops.size) j) →
      ((List.range ops.size).filter fun k => !doneP listed ops.size k).length = fuel → Inv κ F B w0 (lookH H (vs.map (·.2)) (effF M ops) (doneP listed ops.size) ops.size) w →
      ER κ F N ⟨lookE (dstF ops.toList) (valF (vs.map (·.1))) s.e (doneP listed ops.size) ops.size, s.d⟩ a → wpAnyIn (fence ro) 0 P .any ops (QOk κ F B w0 N ws s K R X) fuel listed a w := by
  obtain ⟨_, hstep, hend⟩ := chainF_spec ops.toList S vs s H hch
  generalize vs.map (·.1) = VS at *
  generalize vs.map (·.2) = HS at *
  have hne : ∀ j, j < ops.size → effF M ops j = false → hpF H HS (j + 1) = hpF H HS j := by
    intro j hj he
    have ho : ops.toList[j]? = some ops[j] := by simp [hj]
    obtain ⟨_, hg⟩ := hstep j ops[j] ho
    obtain ⟨b, hb, _⟩ := guardA_elim hg
    have he' : isEffM M (ops[j]) = false := by
      unfold effF at he; simpa [hj] using he
    cases b with
    | true => exact hb.2.1 he'
    | false => exact hb.2
  have hSk : ∀ k, k ≤ ops.size → noE2 M ops.toList k → S (hpF H HS k) := by
    intro k
    induction k with
    | zero => intro _ _; rw [hpF_zero]; exact hS
    | succ k ih =>
      intro hk hn
      have hn' : noE2 M ops.toList k := fun j o hj ho => hn j o (by omega) ho
      have ih := ih (by omega) hn'
      have ho : ops.toList[k]? = some ops[k] := by simp [show k < ops.size by omega]
      obtain ⟨_, hg⟩ := hstep k ops[k] ho
      obtain ⟨b, hb, _⟩ := guardA_elim hg
      have h2 := hn k ops[k] (by omega) ho
      cases b with
      | true =>
        cases he : isEffM M (ops[k]) with
        | false => rw [hb.2.1 he]; exact ih
        | true =>
          rcases effM_of.1 he with hx | hx
          · rw [h2] at hx; cases hx
          · exact hb.2.2.1 hx hn'
      | false => rw [hb.2]; exact ih
  have hlow := orderOk_low hord
  have hdst : ∀ k, dstF ops.toList k = (ops[k]?).bind (·.dst) := fun k => by simp [dstF]
  have hagree : ∀ p : Nat → Bool, Agree ws s ⟨lookE (dstF ops.toList) (valF VS) s.e p ops.size, s.d⟩ := by
    intro p t ht
    show lookE _ _ _ p ops.size t = s.e t
    have : ∀ n, lookE (dstF ops.toList) (valF VS) s.e p n t = s.e t := by
      intro n
      induction n with
      | zero => rfl
      | succ n ih =>
        simp only [lookE]
        cases p n with
        | false => exact ih
        | true =>
          have hne : dstF ops.toList n ≠ some t := by
            intro e
            have : t ∈ dstsOf ops.toList := by
              simp only [dstF] at e
              cases hx : ops.toList[n]? with
              | none => rw [hx] at e; simp at e
              | some o =>
                rw [hx] at e
                simp at e
                exact List.mem_filterMap.2 ⟨o, List.mem_of_getElem? hx, e⟩
            rw [hws t this] at ht; cases ht
          simp only [cond_true, putA_ne _ _ _ hne, ih]
    exact this _
  have ready : ∀ (listed : Array Bool), listed.size = ops.size → ∀ i, i ∈ Region.ready .any ops listed → i < ops.size ∧ doneP listed ops.size i = false ∧ Waited ops (doneP listed ops.size) i := by
    intro listed hsz i hi
    simp only [Region.ready, List.mem_filter, List.mem_range, Bool.and_eq_true, Bool.not_eq_true'] at hi
    obtain ⟨hi, hl, ha⟩ := hi
    have hdone : doneP listed ops.size i = false := by
      have e : listed.getD i false = listed.getD i true := by simp [Array.getD_eq_getD_getElem?, show i < listed.size by omega]
      simp [doneP, e, hl]
    refine ⟨hi, hdone, fun o ho e he hb => ?_⟩
    rw [ho] at ha
    simp only [Option.map_some, Option.getD_some] at ha
    have := Array.all_eq_true'.1 ha e (by simpa using he)
    simp only [hb, Bool.not_true, Bool.false_or] at this
    have hlt := hlow i o ho e he hb
    simp [doneP, this, blt_of (show e.on < ops.size by omega)]
  intro fuel
  induction fuel with
  | zero =>
    intro listed κ F w a hsz hcl hcount I hE
    have hall : ∀ k, k < ops.size → doneP listed ops.size k = true := by
      intro k hk
      cases hd : doneP listed ops.size k with
      | true => rfl
      | false =>
        have : k ∈ (List.range ops.size).filter fun k => !doneP listed ops.size k := by simp [hk, hd]
        rw [List.length_eq_zero_iff.1 hcount] at this
        cases this
    refine ⟨?_, ?_⟩
    · cases hr : Region.ready .any ops listed with
      | nil => rfl
      | cons i r =>
        obtain ⟨h1, h2, _⟩ := ready listed hsz i (by rw [hr]; simp)
        rw [hall i h1] at h2; cases h2
    · have heq : lookE (dstF ops.toList) (valF VS) s.e (doneP listed ops.size) ops.size = lookE (dstF ops.toList) (valF VS) s.e (fun _ => true) ops.size := by
        funext t; exact lookE_congr _ (fun k hk _ => hall k hk)
      have hH : lookH H HS (effF M ops) (doneP listed ops.size) ops.size = hpF H HS ops.size := lookH_lo _ (fun j hj _ => hall j hj) hne
      refine ⟨_, _, κ, F, KLe.refl _, FLe.refl _, I, hE, hagree _, ?_⟩
      rw [heq, hH]
      simpa using hend
  | succ fuel ih =>
    intro listed κ F w a hsz hcl hcount I hE
    refine ⟨fun hr => ?_, fun i hi => ?_⟩
    · -- somebody is ready
      exfalso
      obtain ⟨k, hk⟩ : ∃ k, k ∈ (List.range ops.size).filter fun k => !doneP listed ops.size k := by
        cases hx : (List.range ops.size).filter fun k => !doneP listed ops.size k with
        | nil => rw [hx] at hcount; simp at hcount
        | cons k _ => exact ⟨k, by simp⟩
      have key : ∀ k, k < ops.size → doneP listed ops.size k = false → False := by
        intro k
        induction k using Nat.strongRecOn with
        | _ k ih2 =>
          intro hk hd
          have : k ∈ Region.ready .any ops listed := by
            simp only [Region.ready, List.mem_filter, List.mem_range, Bool.and_eq_true, Bool.not_eq_true']
            refine ⟨hk, ?_, ?_⟩
            · simp only [doneP, blt_of hk, Bool.true_and] at hd
              have e : listed.getD k false = listed.getD k true := by simp [Array.getD_eq_getD_getElem?, show k < listed.size by omega]
              rw [← e]; exact hd
            · have ho : ops[k]? = some ops[k] := by simp [hk]
              rw [ho]
              simp only [Option.map_some, Option.getD_some]
              refine Array.all_eq_true'.2 fun e he => ?_
              cases hb : Region.binds .any e with
              | false => rfl
              | true =>
                have hlt := hlow k _ ho e (by simpa using he) hb
                cases hd' : doneP listed ops.size e.on with
                | false => exact (ih2 e.on hlt (by omega) hd').elim
                | true => simp only [doneP, Bool.and_eq_true] at hd'; simp [hd'.2]
          rw [hr] at this; cases this
      simp only [List.mem_filter, List.mem_range, Bool.not_eq_true'] at hk
      exact key k hk.1 hk.2
    · obtain ⟨hil, hdi, hwi⟩ := ready listed hsz i hi
      have ho : ops[i]? = some ops[i] := by simp [hil]
      obtain ⟨o, rfl⟩ : ∃ o, o = ops[i] := ⟨_, rfl⟩
      obtain ⟨hdst0, hg⟩ := hstep i ops[i] (by simp [hil])
      have hahead := ahead_done hlow hcl i hil hwi
      -- what the operation looks at stands there
      have sees : ∀ t, t ∈ looks ops ops[i] → lookE (dstF ops.toList) (valF VS) s.e (doneP listed ops.size) ops.size t = lookE (dstF ops.toList) (valF VS) s.e (fun _ => true) i t := by
        intro t ht
        refine lookE_lt ops.size (by omega) (fun k hk hkd => ?_)
        rw [hdst] at hkd
        by_cases hki : k = i
        · subst hki; constructor
          · intro h; rw [hdi] at h; cases h
          · intro h; omega
        · obtain ⟨h1, h2⟩ := orderOk_spec hord hkd ho (.inl ht) hki
          constructor
          · intro hp
            rcases Nat.lt_or_ge k i with hlt | hge
            · exact hlt
            · have := ahead_done hlow hcl k hk (hcl k hp) i (h2 (by omega))
              rw [hdi] at this; cases this
          · intro hlt; exact hahead k (h1 hlt)
      have hev : ∀ x, x ∈ (ops[i]).op.operands → ev (lookE (dstF ops.toList) (valF VS) s.e (fun _ => true) i) x = ev (lookE (dstF ops.toList) (valF VS) s.e (doneP listed ops.size) ops.size) x := by
        intro x hx
        cases x with
        | tmp t => exact (sees t (List.mem_append_left _ (List.mem_filterMap.2 ⟨.tmp t, by simpa using hx, rfl⟩))).symm
        | _ => rfl
      obtain ⟨b, hb, hgo⟩ := guardA_elim hg
      have hg2 := hgo (lookE (dstF ops.toList) (valF VS) s.e (doneP listed ops.size) ops.size) (fun j want d hgd hd => sees d (by
        refine List.mem_append_right _ ?_
        rw [hgd]; simp [hd]))
      have hwt := wanted_of hE (hg2 (fun b' => b' = b) rfl)
      have hlset : ∀ k, doneP (listed.setIfInBounds i true) ops.size k = (doneP listed ops.size k || Nat.beq k i) := by
        intro k
        simp only [doneP, Array.getD_eq_getD_getElem?, Array.getElem?_setIfInBounds]
        by_cases hki : i = k
        · subst hki; simp [show i < listed.size by omega, blt_of hil, Nat.beq_refl]
        · have : Nat.beq k i = false := by cases hb : Nat.beq k i with
            | false => rfl
            | true => exact absurd (Nat.eq_of_beq_eq_true hb).symm hki
          simp [hki, this]
      have hlsetf : doneP (listed.setIfInBounds i true) ops.size = fun k => doneP listed ops.size k || Nat.beq k i := funext hlset
      have hput : lookE (dstF ops.toList) (valF VS) s.e (doneP (listed.setIfInBounds i true) ops.size) ops.size = putA (lookE (dstF ops.toList) (valF VS) s.e (doneP listed ops.size) ops.size) (dstF ops.toList i) (valF VS i) := by
        rw [hlsetf]
        refine lookE_put hdi ops.size hil (fun k hk hki hkd hnn hp => ?_)
        rcases Nat.lt_or_ge k i with hlt | hge
        · exact hlt
        · exfalso
          cases hdn : dstF ops.toList i with
          | none => exact hnn hdn
          | some t =>
            rw [hdn] at hkd
            have hoi : (ops[i]).dst = some t := by rw [hdst, ho] at hdn; simpa using hdn
            obtain ⟨_, h2⟩ := orderOk_spec hord (by rw [← hdst]; exact hkd) ho (.inr hoi) hki
            have := ahead_done hlow hcl k hk (hcl k hp) i (h2 (by omega))
            rw [hdi] at this; cases this
      have hcl' : ∀ j, doneP (listed.setIfInBounds i true) ops.size j = true → Waited ops (doneP (listed.setIfInBounds i true) ops.size) j := by
        intro j hj o' ho' e he hbe
        rw [hlset] at hj ⊢
        rw [Bool.or_eq_true] at hj
        rcases hj with h | h
        · rw [hcl j h o' ho' e he hbe]; rfl
        · obtain rfl := Nat.eq_of_beq_eq_true h
          rw [hwi o' ho' e he hbe]; rfl
      have hcount' : ((List.range ops.size).filter fun k => !doneP (listed.setIfInBounds i true) ops.size k).length = fuel := by
        have key : ∀ (l : List Nat), l.Nodup → i ∈ l → (l.filter fun k => !doneP listed ops.size k).length = (l.filter fun k => !doneP (listed.setIfInBounds i true) ops.size k).length + 1 := by
          intro l
          induction l with
          | nil => intro _ h; cases h
          | cons k l ih =>
            intro hnd hm
            obtain ⟨hk, hnd⟩ := List.nodup_cons.1 hnd
            by_cases hki : k = i
            · subst hki
              have hrest : (l.filter fun k' => !doneP listed ops.size k') = l.filter fun k' => !doneP (listed.setIfInBounds k true) ops.size k' := by
                refine List.filter_congr fun k' hk' => ?_
                rw [hlset]
                have : Nat.beq k' k = false := by cases hb : Nat.beq k' k with
                  | false => rfl
                  | true => exact absurd (Nat.eq_of_beq_eq_true hb ▸ hk') hk
                simp [this]
              rw [List.filter_cons, List.filter_cons, hlset, hdi, Nat.beq_refl, hrest]
              simp
            · have hm' : i ∈ l := by rcases List.mem_cons.1 hm with h | h; · exact absurd h.symm hki
                                     · exact h
              have hb : Nat.beq k i = false := by cases hb : Nat.beq k i with
                | false => rfl
                | true => exact absurd (Nat.eq_of_beq_eq_true hb) hki
              have := ih hnd hm'
              rw [List.filter_cons, List.filter_cons, hlset, hb, Bool.or_false]
              cases doneP listed ops.size k <;> simp [this]
        have := key (List.range ops.size) List.nodup_range (by simpa using hil)
        omega
      have hdi' : dstF ops.toList i = (ops[i]).dst := by rw [hdst, ho]; rfl
      have hD' : ∀ k, k ≠ i → doneP (listed.setIfInBounds i true) ops.size k = doneP listed ops.size k := by
        intro k hk
        rw [hlset]
        have : Nat.beq k i = false := by cases hb : Nat.beq k i with
          | false => rfl
          | true => exact absurd (Nat.eq_of_beq_eq_true hb) hk
        rw [this, Bool.or_false]
      have heffi : effF M ops i = isEffM M (ops[i]) := by unfold effF; rw [ho]
      have hD1 : doneP (listed.setIfInBounds i true) ops.size i = true := by rw [hlset, Nat.beq_refl, Bool.or_true]
      -- the heap, where it matters
      have hcur : isPP T M (ops[i]) = false → isM2 T M (ops[i]) = false → lookH H HS (effF M ops) (doneP listed ops.size) ops.size = hpF H HS i ∧ lookH H HS (effF M ops) (doneP (listed.setIfInBounds i true) ops.size) ops.size = hpF H HS (i + 1) := by
        intro hp hp2
        have up : ∀ j, i < j → j < ops.size → effF M ops j = true → doneP listed ops.size j = false := by
          intro j hj hjn hej
          have hoj : ops[j]? = some ops[j] := by simp [hjn]
          have hej' : isEffM M (ops[j]) = true := by unfold effF at hej; rw [hoj] at hej; exact hej
          have hbit := effOkF_spec heff ho hoj hj (.inr hej') hp (pp_eff hej').1 (by rw [hp2]; rfl) (by rw [(pp_eff hej').2, Bool.and_false])
          cases hd : doneP listed ops.size j with
          | false => rfl
          | true =>
            have := ahead_done hlow hcl j hjn (hcl j hd) i hbit
            rw [hdi] at this; cases this
        have lo : ∀ j, j < i → effF M ops j = true → doneP listed ops.size j = true := by
          intro j hj hej
          have hoj : ops[j]? = some (ops[j]'(by omega)) := by simp [show j < ops.size by omega]
          have hej' : isEffM M (ops[j]'(by omega)) = true := by unfold effF at hej; rw [hoj] at hej; exact hej
          exact hahead j (effOkF_spec heff hoj ho hj (.inl hej') (pp_eff hej').1 hp (by rw [(pp_eff hej').2]; rfl) (by rw [hp2, Bool.and_false]))
        refine ⟨?_, ?_⟩
        · refine (lookH_up (i := i) ops.size (by omega) (fun j h1 h2 h3 => ?_)).trans (lookH_lo i lo (fun j hj => hne j (by omega)))
          by_cases e : j = i
          · rw [e]; exact hdi
          · exact up j (by omega) h2 h3
        · refine (lookH_up (i := i + 1) ops.size (by omega) (fun j h1 h2 h3 => ?_)).trans (lookH_lo (i + 1) (fun j hj hej => ?_) (fun j hj => hne j (by omega)))
          · rw [hD' j (by omega)]; exact up j (by omega) h2 h3
          · by_cases e : j = i
            · rw [e]; exact hD1
            · rw [hD' j e]; exact lo j (by omega) hej
      have hpure : isEffM M (ops[i]) = false → lookH H HS (effF M ops) (doneP (listed.setIfInBounds i true) ops.size) ops.size = lookH H HS (effF M ops) (doneP listed ops.size) ops.size := by
        intro hp
        refine lookH_same (fun k hk => hD' k (fun e => ?_)) _
        rw [e, heffi, hp] at hk
        cases hk
      have hsee : isM2 T M (ops[i]) = true → noE2 M ops.toList i → S (lookH H HS (effF M ops) (doneP listed ops.size) ops.size) := by
        intro hm hno
        obtain ⟨m1, m2, m3⟩ := m2_eff hm
        -- an unmarked change behind is not done
        have late : ∀ j, i < j → j < ops.size → (∀ o, ops[j]? = some o → isE2 M o = true) → doneP listed ops.size j = false := by
          intro j hj hjn he
          have hoj : ops[j]? = some ops[j] := by simp [hjn]
          have hej := effM_of.2 (.inl (he _ hoj))
          have he1 : isE1 M (ops[j]) = false := by
            have := he _ hoj
            unfold isE2 at this
            unfold isE1; rw [this]; rfl
          have hbit := effOkF_spec heff ho hoj hj (.inr hej) m2 (pp_eff hej).1 (by rw [he1, Bool.and_false]) (by rw [m3]; rfl)
          cases hd : doneP listed ops.size j with
          | false => rfl
          | true =>
            have := ahead_done hlow hcl j hjn (hcl j hd) i hbit
            rw [hdi] at this; cases this
        rcases lookH_or (H := H) (hs := HS) (eff := effF M ops) (D := doneP listed ops.size) ops.size with h | ⟨k, h1, h2, h3, h4⟩
        · rw [h]; exact hS
        · rw [h4]
          have hok : ops[k]? = some ops[k] := by simp [h1]
          have hek : isEffM M (ops[k]) = true := by unfold effF at h3; rw [hok] at h3; exact h3
          have hki : k ≠ i := fun e => by subst e; rw [m1] at hek; cases hek
          have hnk : noE2 M ops.toList k := by
            intro j o' hj ho'
            have ho'' : ops[j]? = some o' := by simpa using ho'
            cases hx : isE2 M o' with
            | false => rfl
            | true =>
              have hji : ¬ j < i := fun hlt => by rw [hno j o' hlt ho'] at hx; cases hx
              have hne2 : j ≠ i := fun e => by
                subst e
                rw [ho] at ho''
                have := Option.some.inj ho''
                rw [this] at m1
                rw [effM_of.2 (.inl hx)] at m1; cases m1
              have hej := effM_of.2 (.inl hx)
              have hbit := effOkF_spec heff ho'' hok hj (.inl hej) (pp_eff hej).1 (pp_eff hek).1 (by rw [(pp_eff hej).2]; rfl) (by rw [(pp_eff hek).2, Bool.and_false])
              have hd := ahead_done hlow hcl k h1 (hcl k h2) j hbit
              rw [late j (by omega) (by omega) (fun o ho3 => by rw [ho3] at ho''; rw [Option.some.inj ho'']; exact hx)] at hd
              cases hd
          rcases effM_of.1 hek with hx | hx
          · exfalso
            by_cases hlt : k < i
            · rw [hno k _ hlt (by simp [h1])] at hx; cases hx
            · rw [late k (by omega) h1 (fun o ho3 => by rw [hok] at ho3; rw [← Option.some.inj ho3]; exact hx)] at h2
              cases h2
          · refine hSk (k + 1) (by omega) (fun j o' hj ho' => ?_)
            by_cases e : j = k
            · subst e
              have ho'' : ops[j]? = some o' := by simpa using ho'
              rw [hok] at ho''
              rw [← Option.some.inj ho'']
              unfold isE1 at hx
              unfold isE2
              rw [Bool.and_eq_true] at hx
              simpa using hx.1
            · exact hnk j o' (by omega) ho'
      unfold wpOpIn
      rw [ho]
      simp only
      cases b with
      | true =>
        rw [if_pos hwt]
        obtain ⟨hb, hbe, hb1, hbm⟩ := hb
        have hst : ∃ G2, G2 = lookH H HS (effF M ops) (doneP (listed.setIfInBounds i true) ops.size) ops.size ∧ stepA P T (ops[i]).op (lookE (dstF ops.toList) (valF VS) s.e (doneP listed ops.size) ops.size) (lookH H HS (effF M ops) (doneP listed ops.size) ops.size) fun v' H' => v' = valF VS i ∧ H' = G2 := by
          refine ⟨_, rfl, ?_⟩
          rw [← stepA_congr hev]
          cases hp : isPP T M (ops[i]) with
          | false =>
            cases hm : isM2 T M (ops[i]) with
            | false =>
              obtain ⟨h1, h2⟩ := hcur hp hm
              rw [h1, h2]; exact hb
            | true =>
              rw [hpure (m2_eff hm).1]
              exact hbm hm _ (hsee hm)
          | true =>
            obtain ⟨hp1, hp2⟩ := Bool.and_eq_true_iff.1 hp
            rw [hpure (by simpa using hp1)]
            rw [stepA_pure hp2] at hb ⊢
            exact (opA_pure hp2 hb).2 _
        obtain ⟨G2, hG2, hst⟩ := hst
        refine stepA_ok hT ro I hE.e hst ?_
        rintro v w' ⟨y, H', κ', F', hk, hf, I', hv, rfl, rfl⟩
        have hE' := (hE.mono hk hf).put hdst0 hv
        have := ih (listed.setIfInBounds i true) κ' F' w' _ (by simp [hsz]) hcl' hcount' (by rw [← hG2]; exact I') (by rw [hput, hdi']; exact hE')
        exact wpAnyIn_mono (fun e a w hq => QOk.from hk hf (Agree.refl _ _) hq) _ _ _ _ this
      | false =>
        rw [if_neg (by rw [hwt]; simp)]
        refine ⟨fun _ _ => trivial, ?_⟩
        obtain ⟨hv, hsame⟩ := hb
        have hE' := hE.put hdst0 VR.undef
        have hI : Inv κ F B w0 (lookH H HS (effF M ops) (doneP (listed.setIfInBounds i true) ops.size) ops.size) w := by
          cases hp : isEffM M (ops[i]) with
          | true =>
            obtain ⟨h1, h2⟩ := hcur (pp_eff hp).1 (pp_eff hp).2
            rw [h2, hsame, ← h1]; exact I
          | false => rw [hpure hp]; exact I
        exact ih (listed.setIfInBounds i true) κ F w _ (by simp [hsz]) hcl' hcount' hI (by rw [hput, hdi', hv]; exact hE')


theorem AWp_drawF (hT : T.ok P = true) (hm : P.follows .mixedOrders = true) {N : Nat} (M : Mk) (S : AH → Prop) {ro : Option Nat} {ws : Nat → Bool} {id : Nat} {ops : Array Oper} {K R : St → AH → Prop} {X : Nat → St → AH → Prop} {s : St} {H : AH} (hS : S H) (hws : ∀ t, t ∈ dstsOf ops.toList → ws t = true) (hord : (orderOk ops && effOkF T M ops) = true) (h : drawSF N P T M ops S ops.toList K s H) : AWp N P ro ws (.region id ops true) K R X s H := by
  refine ⟨fun κ F B w0 w a I hE => wpIn_region_any hm ?_⟩
  obtain ⟨vs, hch⟩ := chainF_of _ _ _ _ h
  rw [Bool.and_eq_true] at hord
  have hz : ∀ k, doneP (Array.replicate ops.size false) ops.size k = false := by
    intro k
    simp only [doneP, Array.getD_eq_getD_getElem?]
    by_cases hk : k < ops.size
    · simp [hk]
    · simp [hk]
  refine anyF_ok hT ro hS hord.1 hord.2 hws hch ops.size _ κ F _ a (by simp) (fun j hj => by rw [hz] at hj; cases hj) ?_ ?_ ?_
  · have : ((List.range ops.size).filter fun k => !doneP (Array.replicate ops.size false) ops.size k) = List.range ops.size := List.filter_eq_self.2 fun k _ => by simp [hz]
    rw [this]; simp
  · have : ∀ n, lookH H (vs.map (·.2)) (effF M ops) (doneP (Array.replicate ops.size false) ops.size) n = H := by
      intro n
      induction n with
      | zero => rfl
      | succ n ih => simp only [lookH, hz, Bool.false_and, cond_false, ih]
    rw [this]; exact I.drew
  · have : ∀ n, lookE (dstF ops.toList) (valF (vs.map (·.1))) s.e (doneP (Array.replicate ops.size false) ops.size) n = s.e := by
      intro n
      induction n with
      | zero => rfl
      | succ n ih => simp only [lookE, hz, cond_false, ih]
    rw [this]; exact hE


/-- 'drawSF', for the walk. -/
structure DrawF (N : Nat) (P : Program) (T : TT) (M : Mk) (all : Array Oper) (S : AH → Prop) (l : List Oper) (K : St → AH → Prop) (s : St) (H : AH) : Prop where
  out : drawSF N P T M all S l K s H

def drawFD (N : Nat) (P : Program) (T : TT) (M : Mk) (all : Array Oper) (S : AH → Prop) (o : Oper) (rest : List Oper) (K : St → AH → Prop) (e : Env) (d : List Nat) (H : AH) : Prop :=
  match o.dst with
  | none => guardA all e o.guard fun b => cond b (cond (isDetE e o.op) (opA T o.op e H fun _ H' => DrawF N P T M all (nextS M o S) rest K ⟨e, d⟩ H') False) (DrawF N P T M all (nextS M o S) rest K ⟨e, d⟩ H)
  | some t => when (Nat.blt t N) (guardA all e o.guard fun b =>
      cond b (cond (isM2 T M o) (∃ v, stepA P T o.op e H (fun v' H' => v' = v ∧ H' = H) ∧ (∀ G, S G → stepA P T o.op e G (fun v' H' => v' = v ∧ H' = G)) ∧ force v fun v => DrawF N P T M all (nextS M o S) rest K ⟨upd e t v, d⟩ H)
        (cond (isE1 M o) (∃ v H2, stepA P T o.op e H (fun v' H' => v' = v ∧ H' = H2) ∧ S H2 ∧ force v fun v => DrawF N P T M all (nextS M o S) rest K ⟨upd e t v, d⟩ H2)
        (cond (isDet T o.op) (opA T o.op e H fun v _ => force v fun v => DrawF N P T M all (nextS M o S) rest K ⟨upd e t v, d⟩ H)
        (cond (isDetE e o.op) (opA T o.op e H fun v H' => force v fun v => DrawF N P T M all (nextS M o S) rest K ⟨upd e t v, d⟩ H')
          (drawO P T o.op e H fun v => force v fun v => DrawF N P T M all (nextS M o S) rest K ⟨upd e t v, d⟩ H))))) (DrawF N P T M all (nextS M o S) rest K ⟨upd e t (.tup []), d⟩ H))

theorem DrawF.nil {N : Nat} {M : Mk} {all : Array Oper} {S : AH → Prop} {K : St → AH → Prop} {s : St} (h : K s H) : DrawF N P T M all S [] K s H := ⟨h⟩
theorem DrawF.eq (N : Nat) (P : Program) (T : TT) (M : Mk) (all : Array Oper) (S : AH → Prop) (l : List Oper) (K : St → AH → Prop) (s : St) (H : AH) : DrawF N P T M all S l K s H = drawSF N P T M all S l K s H := propext ⟨DrawF.out, DrawF.mk⟩
theorem isE1_none {M : Mk} {o : Oper} (h : o.dst = none) : isE1 M o = false := by unfold isE1; rw [h, inM_none, Bool.and_false]
theorem isM2_none {M : Mk} {o : Oper} (h : o.dst = none) : isM2 T M o = false := by unfold isM2; rw [h, inM_none, Bool.and_false]
theorem DrawF.consD {N : Nat} {M : Mk} {all : Array Oper} {S : AH → Prop} {o : Oper} {rest : List Oper} {K : St → AH → Prop} {e : Env} {d : List Nat} (h : drawFD N P T M all S o rest K e d H) : DrawF N P T M all S (o :: rest) K ⟨e, d⟩ H := by
  refine ⟨?_⟩
  unfold drawFD at h
  unfold drawSF
  split at h
  · rename_i hd
    rw [hd]
    refine when_iff.2 ⟨rfl, guardA_mono (fun b hb => ?_) h⟩
    simp only [putS, putA]
    cases b with
    | false => exact hb.out
    | true =>
      simp only [cond_true] at hb ⊢
      cases hE : isDetE e o.op with
      | true =>
        rw [hE] at hb
        obtain ⟨v, H2, h1, h2⟩ := opA_detE (K := fun _ H' => DrawF N P T M all (nextS M o S) rest K ⟨e, d⟩ H') hE hb
        refine ⟨v, H2, stepA_opE hE h1, ?_, fun h => ?_, fun h => ?_, h2.out⟩
        · intro h; unfold isEffM at h; rw [isDetE_eff hE] at h; cases h
        · rw [isE1_none hd] at h; cases h
        · rw [isM2_none hd] at h; cases h
      | false =>
        rw [hE] at hb
        exact hb.elim
  · rename_i t hd
    obtain ⟨h1, h2⟩ := when_iff.1 h
    rw [hd]
    refine when_iff.2 ⟨h1, guardA_mono (fun b hb => ?_) h2⟩
    cases b with
    | false => exact hb.out
    | true =>
      simp only [cond_true, force_eq] at hb ⊢
      simp only [putS, putA]
      cases hM : isM2 T M o with
      | true =>
        rw [hM] at hb
        obtain ⟨v, h3, h4, h5⟩ := hb
        exact ⟨v, H, h3, fun _ => rfl, fun h => (by rw [(m2_eff hM).2.2] at h; cases h), fun _ => h4, h5.out⟩
      | false =>
      rw [hM] at hb
      simp only [cond_false] at hb
      cases hN : isE1 M o with
      | true =>
        rw [hN] at hb
        obtain ⟨v, H2, h3, h4, h5⟩ := hb
        exact ⟨v, H2, h3, fun h => (by rw [effM_of.2 (.inr hN)] at h; cases h), fun _ => h4, fun h => Bool.noConfusion h, h5.out⟩
      | false =>
      rw [hN] at hb
      simp only [cond_false] at hb
      cases hD : isDet T o.op with
      | true =>
        rw [hD] at hb
        obtain ⟨v, h3, h4⟩ := opA_det (K := fun v _ => DrawF N P T M all (nextS M o S) rest K ⟨upd e t v, d⟩ H) hD hb
        exact ⟨v, H, stepA_opA hD h3, fun _ => rfl, fun h => Bool.noConfusion h, fun h => Bool.noConfusion h, h4.out⟩
      | false =>
        rw [hD] at hb
        cases hE : isDetE e o.op with
        | true =>
          rw [hE] at hb
          obtain ⟨v, H2, h3, h4⟩ := opA_detE (K := fun v H' => DrawF N P T M all (nextS M o S) rest K ⟨upd e t v, d⟩ H') hE hb
          refine ⟨v, H2, stepA_opE hE h3, ?_, fun h => Bool.noConfusion h, fun h => Bool.noConfusion h, h4.out⟩
          intro h; unfold isEffM at h; rw [isDetE_eff hE] at h; cases h
        | false =>
          rw [hE] at hb
          obtain ⟨v, h3, h4⟩ := drawO_ok (H := H) hb
          exact ⟨v, H, h3, fun _ => rfl, fun h => Bool.noConfusion h, fun h => Bool.noConfusion h, h4.out⟩

theorem AWq.drawF (hm : P.follows .mixedOrders = true) {N : Nat} {ro : Option Nat} {ws : Nat → Bool} {id : Nat} {ops : Array Oper} {K R : St → AH → Prop} {X : Nat → St → AH → Prop} {s : St} (M : Mk) (S : AH → Prop) (hS : S H)
    (hord : (orderOk ops && effOkF T M ops) = true) (h : DrawF N P T M ops S ops.toList K s H) : AWq N P T ro ws (.region id ops true) K R X s H :=
  ⟨fun hT _ hw => AWp_drawF hT hm M S hS hw hord h.out⟩
end Go.Fw
