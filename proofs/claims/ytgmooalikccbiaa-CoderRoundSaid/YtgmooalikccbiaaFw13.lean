/- The frame of the abstract walk, part 13: calls, regions, control. -/
import Derived.Test.YtgmooalikccbiaaFw12
import Derived.Sort.LoopGhostIn
import Derived.RangeFuncCalls
set_option linter.unusedVariables false
set_option linter.unusedSimpArgs false
namespace Go.Fw
open Go.RowKit

variable {κ : KM} {F : FM} {B : Nat} {w0 w : World} {H : AH} {P : Program} {T : TT}

def fence (ro : Option Nat) : Fence := { fn := fun _ => True, depth := none, alive := false, round := ro }
theorem fence_none : fence none = Fence.wide := rfl

/-- What a call leaves. -/
def CPost (κ : KM) (F : FM) (B : Nat) (w0 : World) (K : AV → AH → Prop) : Ending → World → Prop := fun e w' => ∃ v, e = .returned v ∧ Left κ F B w0 K v w'

/-- The call of a function, over abstract values: whatever the world that fits. -/
structure ACall (P : Program) (g : FuncId) (args : List AV) (H : AH) (K : AV → AH → Prop) : Prop where
  ent : ∃ fn, P.funcs[g]? = some fn ∧ fn.body.isSome = true ∧ (fn.name == "runtime.NumGoroutine") = false
  run : ∀ κ F B w0 w cargs, Inv κ F B w0 H w → VRs κ F args cargs → Calls P g cargs w (CPost κ F B w0 K)

theorem Left.mono {K K' : AV → AH → Prop} {v : Value} (h : Left κ F B w0 K v w) (hk : ∀ y H', K y H' → K' y H') : Left κ F B w0 K' v w := by
  obtain ⟨y, H', κ', F', a, b, c, d, e⟩ := h
  exact ⟨y, H', κ', F', a, b, c, d, hk _ _ e⟩

theorem ACall.mono {g : FuncId} {args : List AV} {K K' : AV → AH → Prop} (h : ACall P g args H K) (hk : ∀ y H', K y H' → K' y H') : ACall P g args H K' :=
  ⟨h.ent, fun κ F B w0 w cargs hI hA => (h.run κ F B w0 w cargs hI hA).mono fun e w' ⟨v, he, hl⟩ => ⟨v, he, hl.mono hk⟩⟩

/-- A round of a loop over a function, as the function that is ranged over calls it. -/
structure AYield (P : Program) (l : Nat) (args : List AV) (H : AH) (K : AV → AH → Prop) : Prop where
  run : ∀ κ F B w0 w cargs, Inv κ F B w0 H w → VRs κ F args cargs →
    ∃ fn tmps assign body, (Instr.yield l cargs).run P w = .ok (.round l fn tmps assign body) w ∧ RoundIn Fence.wide 0 P l fn tmps assign body w (CPost κ F B w0 K)

def callA (P : Program) (f : AV) (args : List AV) (H : AH) (K : AV → AH → Prop) : Prop :=
  match f with
  | .fn (.func g) first captured => forceL (first ++ args ++ captured) fun l => ACall P g l H K
  | .fn (.yield l) [] _ => forceL args fun args => AYield P l args H K
  | _ => False

/-- An operation, a call among them. -/
def stepA (P : Program) (T : TT) (o : Op) (e : Env) (H : AH) (K : AV → AH → Prop) : Prop :=
  match o with
  | .call c => (match c.callee with | .value f => callA P (ev e f) (c.args.toList.map (ev e)) H K | _ => opA T (.call c) e H K)
  | o => opA T o e H K

theorem VRs.append {l m : List AV} {A C : Array Value} (h : VRs κ F l A) (k : VRs κ F m C) : VRs κ F (l ++ m) (A ++ C) := by
  refine ⟨by simp [h.1, k.1], fun i hi => ?_⟩
  simp only [Array.getD_eq_getD_getElem?]
  by_cases hlt : i < l.length
  · rw [List.getElem_append_left hlt, Array.getElem?_append_left (by rw [h.1]; exact hlt)]
    have := h.2 i hlt; rwa [Array.getD_eq_getD_getElem?] at this
  · rw [List.getElem_append_right (by omega), Array.getElem?_append_right (by rw [h.1]; omega), h.1]
    have := k.2 (i - l.length) (by simp at hi; omega); rwa [Array.getD_eq_getD_getElem?] at this

theorem callsIn_fence {ro : Option Nat} {n : Nat} {f : FuncId} {args : Array Value} {R : Ending → World → Prop} (h : Calls P f args w R) : CallsIn (fence ro) n P f args w R := by
  have h' := callsIn_wide (n := n) |>.2 h
  cases ro with
  | none => exact h'
  | some l => exact h'.inRound l

theorem roundIn_fence {ro : Option Nat} {n l : Nat} {f : FuncId} {tmps : Array Value} {assign body : Code} {R : Ending → World → Prop} (h : RoundIn Fence.wide n P l f tmps assign body w R) : RoundIn (fence ro) n P l f tmps assign body w R := by
  cases ro with
  | none => exact h
  | some l' => exact h

theorem stepA_ok (hT : T.ok P = true) (ro : Option Nat) (I : Inv κ F B w0 H w) {e : Env} {a : Act} (he : ∀ t, VR κ F (e t) (a.tmps.getD t undef)) {o : Oper} {K : AV → AH → Prop}
    (h : stepA P T o.op e H K) {next : Act → World → Prop} {Q : Exit → Act → World → Prop} (hn : ∀ v w', Left κ F B w0 K v w' → next (a.put o.dst v) w') :
    o.wpIn (fence ro) 0 P a w next Q := by
  refine ⟨fun _ _ => trivial, ?_⟩
  have hd : ∀ c, o.op ≠ .defer c := by
    intro c hc; rw [hc] at h; exact h
  rw [Oper.semAt_eq _ _ _ hd]
  have base : opA T o.op e H K → o.uponIn (fence ro) 0 P a next Q ((execOp a.eval o).run P w) := by
    intro h
    obtain ⟨nx, v, w', hrun, hv, hL⟩ := opA_ok hT I he h
    rw [hrun]
    rcases hv with rfl | ⟨rfl, rfl⟩
    · exact hn _ _ hL
    · exact hn _ _ hL
  unfold stepA at h
  split at h
  · rename_i c hop
    split at h
    · rename_i f hcl
      have hA := evs_ok he c.args
      have hf := ev_ok he f
      unfold callA at h
      split at h
      · rename_i g first captured hfv
        rw [forceL_eq] at h
        obtain ⟨⟨fn, hfn, hb, hnm⟩, hcall⟩ := h
        rw [hfv] at hf
        generalize hvf : a.eval f = vf at hf
        cases hf with
        | fn h1 h2 h3 h4 =>
          rename_i A C
          have hall := VRs.append (VRs.append (⟨h1, h3⟩ : VRs κ F first A) hA) (⟨h2, h4⟩ : VRs κ F captured C)
          have hrun : (execOp a.eval o).run P w = .ok (.enter g (A ++ c.args.map a.eval ++ C)) w := by
            have hbn : fn.body.isNone = false := by cases hbb : fn.body <;> simp_all
            unfold execOp
            rw [hop]
            simp only [resolve, hcl, hvf, Deferred.ofValue, Sem.run_bind, Sem.run_pure, Result.andThen_ok, invoke, callFunc, run_program, hfn]
            simp only [hnm, Bool.false_eq_true, if_false, hbn]
            rfl
          rw [hrun]
          refine ⟨(fun hx => absurd hx (by simp [fence])), ?_⟩
          refine (callsIn_fence (hcall κ F B w0 w _ I hall)).mono ?_
          rintro e' w' ⟨v, rfl, hL⟩
          exact hn _ _ hL
      · rename_i l captured hfv
        rw [forceL_eq] at h
        rw [hfv] at hf
        generalize hvf : a.eval f = vf at hf
        cases hf with
        | fn h1 h2 h3 h4 =>
          rename_i A C
          obtain ⟨fn, tmps, assign, body, hy, hR⟩ := h.run κ F B w0 w _ I hA
          have hA0 : A = #[] := by apply Array.eq_empty_of_size_eq_zero; simpa using h1
          have hrun : (execOp a.eval o).run P w = .ok (.round l fn tmps assign body) w := by
            unfold execOp
            rw [hop]
            simp only [resolve, hcl, hvf, Deferred.ofValue, Sem.run_bind, Sem.run_pure, Result.andThen_ok, invoke, hA0, Array.empty_append]
            exact hy
          rw [hrun]
          refine ⟨(fun hx => absurd hx (by simp [fence])), ?_⟩
          refine (roundIn_fence hR).mono ?_
          rintro e' w' ⟨v, rfl, hL⟩
          exact hn _ _ hL
      · exact h.elim
    · exact base (by rw [hop]; exact h)
  · exact base h

/-! ### States and control -/
structure St where
  e : Env
  d : List Nat

def markOf (b : Nat) : Deferred := { target := .collected b, args := #[] }

/-- A state stands for an activation's. -/
structure ER (κ : KM) (F : FM) (N : Nat) (s : St) (a : Act) : Prop where
  e : ∀ t, VR κ F (s.e t) (a.tmps.getD t undef)
  size : a.tmps.size = N
  d : a.defers = s.d.map markOf

theorem ER.mono {κ' : KM} {F' : FM} (hk : KLe κ κ') (hf : FLe F F') {N : Nat} {s : St} {a : Act} (h : ER κ F N s a) : ER κ' F' N s a := ⟨fun t => (h.e t).mono hk hf, h.size, h.d⟩

def putS (s : St) (d : Option Tmp) (v : AV) : St := ⟨putA s.e d v, s.d⟩

def dstOk (N : Nat) (d : Option Tmp) : Bool := match d with | some t => Nat.blt t N | none => true

theorem ER.put {N : Nat} {s : St} {a : Act} (h : ER κ F N s a) {d : Option Tmp} (hd : dstOk N d = true) {y : AV} {v : Value} (hv : VR κ F y v) : ER κ F N (putS s d y) (a.put d v) := by
  cases d with
  | none => exact h
  | some t =>
    refine ⟨fun u => ?_, by simp [Act.put, h.size], h.d⟩
    have ht : t < a.tmps.size := by rw [h.size]; simpa [dstOk] using hd
    simp only [putS, putA, upd, Act.put]
    cases hb : Nat.beq u t with
    | true =>
      have : u = t := Nat.eq_of_beq_eq_true hb
      subst this
      simp [Array.getD_eq_getD_getElem?, ht]; exact hv
    | false =>
      have : u ≠ t := Nat.ne_of_beq_eq_false hb
      simp only [cond_false, Array.getD_eq_getD_getElem?, Array.getElem?_setIfInBounds_ne (Ne.symm this)]
      have := h.e u; rwa [Array.getD_eq_getD_getElem?] at this

/-- The guard of an operation: is it carried out? -/
def guardA (all : Array Oper) (e : Env) : Option (Nat × Bool) → (Bool → Prop) → Prop
  | none, K => K true
  | some (j, want), K => match (all[j]?).bind (·.dst) with
    | some d => (match e d with | .bool b => K (b == want) | .tup [] => K false | _ => False)
    | none => False

/-- Operations in the text's order. -/
def opsS (N : Nat) (P : Program) (T : TT) (all : Array Oper) : List Oper → (St → AH → Prop) → St → AH → Prop
  | [], K, s, H => K s H
  | o :: rest, K, s, H =>
    when (dstOk N o.dst) (guardA all s.e o.guard fun b =>
      cond b (stepA P T o.op s.e H fun v H' => opsS N P T all rest K (putS s o.dst v) H') (opsS N P T all rest K (putS s o.dst (.tup [])) H))

def dstsOf (l : List Oper) : List Nat := l.filterMap (·.dst)

/-- What code may write. -/
def writes : Code → List Nat
  | .region _ ops _ => dstsOf ops.toList
  | .seq a b => writes a ++ writes b
  | .cond _ a b => writes a ++ writes b
  | .block _ c => writes c
  | .loop c => writes c
  | .scope c => writes c
  | _ => []

def Agree (ws : Nat → Bool) (s s' : St) : Prop := ∀ t, ws t = false → s'.e t = s.e t
theorem Agree.refl (ws : Nat → Bool) (s : St) : Agree ws s s := fun _ _ => rfl
theorem Agree.trans {ws : Nat → Bool} {s s' s'' : St} (h : Agree ws s s') (k : Agree ws s' s'') : Agree ws s s'' := fun t ht => (k t ht).trans (h t ht)
theorem Agree.mono {ws ws' : Nat → Bool} {s s' : St} (h : Agree ws s s') (hw : ∀ t, ws t = true → ws' t = true) : Agree ws' s s' := fun t ht => h t (by
  cases hx : ws t with
  | false => rfl
  | true => rw [hw t hx] at ht; cases ht)
theorem Agree.put {ws : Nat → Bool} (s : St) {d : Option Tmp} (v : AV) (h : ∀ t, d = some t → ws t = true) : Agree ws s (putS s d v) := by
  intro t ht
  cases d with
  | none => rfl
  | some u =>
    have : t ≠ u := fun e => by rw [e, h u rfl] at ht; cases ht
    simp only [putS, putA, upd]
    cases hb : Nat.beq t u with
    | true => exact absurd (Nat.eq_of_beq_eq_true hb) this
    | false => rfl

/-- What holds at one way out of a piece of code. -/
def Out (κ : KM) (F : FM) (B : Nat) (w0 : World) (N : Nat) (ws : Nat → Bool) (s : St) (K : St → AH → Prop) (a : Act) (w : World) : Prop :=
  ∃ s' H' κ' F', KLe κ κ' ∧ FLe F F' ∧ Inv κ' F' B w0 H' w ∧ ER κ' F' N s' a ∧ Agree ws s s' ∧ K s' H'

theorem Out.mono {N : Nat} {ws ws' : Nat → Bool} {s : St} {K K' : St → AH → Prop} {a : Act} (h : Out κ F B w0 N ws s K a w) (hw : ∀ t, ws t = true → ws' t = true) (hk : ∀ s H, K s H → K' s H) : Out κ F B w0 N ws' s K' a w := by
  obtain ⟨s', H', κ', F', h1, h2, h3, h4, h5, h6⟩ := h
  exact ⟨s', H', κ', F', h1, h2, h3, h4, h5.mono hw, hk _ _ h6⟩

theorem Out.from {κ1 : KM} {F1 : FM} {N : Nat} {ws : Nat → Bool} {s s1 : St} {K : St → AH → Prop} {a : Act} (hk : KLe κ κ1) (hf : FLe F F1) (hs : Agree ws s s1) (h : Out κ1 F1 B w0 N ws s1 K a w) : Out κ F B w0 N ws s K a w := by
  obtain ⟨s', H', κ', F', h1, h2, h3, h4, h5, h6⟩ := h
  exact ⟨s', H', κ', F', hk.trans h1, hf.trans h2, h3, h4, hs.trans h5, h6⟩

def QOk (κ : KM) (F : FM) (B : Nat) (w0 : World) (N : Nat) (ws : Nat → Bool) (s : St) (K R : St → AH → Prop) (X : Nat → St → AH → Prop) : Exit → Act → World → Prop
  | .normal, a, w => Out κ F B w0 N ws s K a w
  | .ret, a, w => Out κ F B w0 N ws s R a w
  | .exit id, a, w => Out κ F B w0 N ws s (X id) a w
  | _, _, _ => False

/-- A piece of code, over abstract states: whatever the activation and world that fit. -/
structure AWp (N : Nat) (P : Program) (ro : Option Nat) (ws : Nat → Bool) (c : Code) (K R : St → AH → Prop) (X : Nat → St → AH → Prop) (s : St) (H : AH) : Prop where
  out : ∀ κ F B w0 w a, Inv κ F B w0 H w → ER κ F N s a → c.wpIn (fence ro) 0 P (QOk κ F B w0 N ws s K R X) a w

theorem wanted_of {all : Array Oper} {N : Nat} {s : St} {a : Act} (hER : ER κ F N s a) {o : Oper} {K : Bool → Prop} (h : guardA all s.e o.guard K) : K (Region.wanted o (yielded all a.tmps)) := by
  unfold guardA at h
  unfold Region.wanted
  split at h
  · rename_i hg; rw [hg]; exact h
  · rename_i j want hg
    rw [hg]
    split at h
    · rename_i d hd
      split at h
      · rename_i b hb
        have hv := hER.e d
        rw [hb] at hv
        have hy : yielded all a.tmps j = some b := by
          unfold yielded
          rw [hd]
          simp only [Option.bind_some]
          generalize hx : a.tmps.getD d undef = x at hv
          cases hv
          cases ht : a.tmps[d]? with
          | none => rw [Array.getD_eq_getD_getElem?, ht] at hx; cases hx
          | some y => rw [Array.getD_eq_getD_getElem?, ht] at hx; simp at hx; subst hx; rfl
        simp only [hy]
        have : (some b == some want) = (b == want) := by cases b <;> cases want <;> rfl
        rw [this]; exact h
      · rename_i hb
        have hv := hER.e d
        rw [hb] at hv
        have hy : yielded all a.tmps j = none := by
          unfold yielded
          rw [hd]
          simp only [Option.bind_some]
          generalize hx : a.tmps.getD d undef = x at hv
          cases hv with
          | tup hA hi =>
            rename_i A
            have hA0 : A = #[] := by apply Array.eq_empty_of_size_eq_zero; simpa using hA
            subst hA0
            cases ht : a.tmps[d]? with
            | none => rfl
            | some y => rw [Array.getD_eq_getD_getElem?, ht] at hx; simp at hx; subst hx; rfl
        simp only [hy]
        exact h
      · exact h.elim
    · exact h.elim

theorem VR.undef : VR κ F (.tup []) undef := .tup (A := #[]) rfl (fun i hi => by simp at hi)

theorem operWpIn_mono {G : Fence} {n : Nat} {o : Oper} {a : Act} {w : World} {next next' : Act → World → Prop} {Q Q' : Exit → Act → World → Prop} (h1 : ∀ a w, next a w → next' a w) (h2 : ∀ e a w, Q e a w → Q' e a w)
    (h : o.wpIn G n P a w next Q) : o.wpIn G n P a w next' Q' := by
  obtain ⟨ha, h⟩ := h
  refine ⟨ha, ?_⟩
  have out : LetsOut Q → LetsOut Q' := fun ⟨a, w, hq⟩ => ⟨a, w, h2 _ _ _ hq⟩
  have post : ∀ (e : Ending) (w'' : World), (match e, w'' with | .returned v, w'' => next (a.put o.dst v) w'' | .panicked chain, w'' => Q (.panic chain) a w'' | .outgrown, _ => LetsOut Q) →
      (match e, w'' with | .returned v, w'' => next' (a.put o.dst v) w'' | .panicked chain, w'' => Q' (.panic chain) a w'' | .outgrown, _ => LetsOut Q') := by
    intro e w'' h
    cases e with
    | returned v => exact h1 _ _ h
    | panicked c => exact h2 _ _ _ h
    | outgrown => exact out h
  generalize (o.semAt G.round a.eval).run P w = r at h ⊢
  cases r with
  | ok x w' =>
    cases x <;> simp only [Oper.uponIn] at h ⊢ <;> first
      | exact h1 _ _ h
      | exact ⟨h.1, CallsIn.mono h.2 (fun e w'' he => post e w'' he)⟩
      | exact ⟨h.1, RowsIn.mono h.2 (fun _ _ he => h1 _ _ he)⟩
      | exact ⟨h.1, RoundIn.mono h.2 (fun e w'' he => post e w'' he)⟩
  | halt x w' => cases x <;> simp only [Oper.uponIn] at h ⊢ <;> exact h2 _ _ _ h

theorem wpListIn_mono' {G : Fence} {n : Nat} {all : Array Oper} {Q Q' : Exit → Act → World → Prop} (hq : ∀ e a w, Q e a w → Q' e a w) : ∀ (l : List Oper) (a : Act) (w : World), wpListIn G n P all Q l a w → wpListIn G n P all Q' l a w
  | [], a, w, h => hq _ _ _ h
  | o :: rest, a, w, h => by
    unfold wpListIn at h ⊢
    split
    · rename_i hw; rw [if_pos hw] at h; exact operWpIn_mono (fun a w => wpListIn_mono' hq rest a w) hq h
    · rename_i hw; rw [if_neg hw] at h; exact ⟨h.1, wpListIn_mono' hq rest _ _ h.2⟩

theorem opsS_ok (hT : T.ok P = true) (ro : Option Nat) {N : Nat} {all : Array Oper} {K R : St → AH → Prop} {X : Nat → St → AH → Prop} {ws : Nat → Bool} : ∀ (l : List Oper) (s : St) (H : AH), (∀ t, t ∈ dstsOf l → ws t = true) → opsS N P T all l K s H →
    ∀ κ F w a, Inv κ F B w0 H w → ER κ F N s a → wpListIn (fence ro) 0 P all (QOk κ F B w0 N ws s K R X) l a w
  | [], s, H, _, h, κ, F, w, a, I, hE => ⟨s, H, κ, F, KLe.refl _, FLe.refl _, I, hE, Agree.refl _ _, h⟩
  | o :: rest, s, H, hws, h, κ, F, w, a, I, hE => by
    obtain ⟨hd, h⟩ := when_iff.1 h
    have hg := wanted_of hE h
    have hrest : ∀ t, t ∈ dstsOf rest → ws t = true := fun t ht => hws t (by simp only [dstsOf, List.filterMap_cons] at ht ⊢; split <;> simp_all)
    have hdst : ∀ t, o.dst = some t → ws t = true := fun t ht => hws t (by simp [dstsOf, List.filterMap_cons, ht])
    have lift : ∀ (κ1 : KM) (F1 : FM) (s1 : St) (e : Exit) (a1 : Act) (w1 : World), KLe κ κ1 → FLe F F1 → Agree ws s s1 → QOk κ1 F1 B w0 N ws s1 K R X e a1 w1 → QOk κ F B w0 N ws s K R X e a1 w1 := by
      intro κ1 F1 s1 e a1 w1 hk hf hs hq
      cases e with
      | normal => exact Out.from hk hf hs hq
      | ret => exact Out.from hk hf hs hq
      | exit id => exact Out.from hk hf hs hq
      | _ => exact hq.elim
    unfold wpListIn
    cases hw : Region.wanted o (yielded all a.tmps) with
    | true =>
      rw [hw] at hg
      simp only [if_true]
      refine stepA_ok hT ro I hE.e hg ?_
      rintro v w' ⟨y, H', κ', F', hk, hf, I', hv, hK⟩
      have hE' := (hE.mono hk hf).put hd hv
      exact wpListIn_mono' (fun e a w hq => lift κ' F' _ e a w hk hf (Agree.put s y hdst) hq) _ _ _ (opsS_ok hT ro rest _ _ hrest hK κ' F' w' _ I' hE')
    | false =>
      rw [hw] at hg
      simp only [Bool.false_eq_true, if_false]
      refine ⟨fun _ _ => trivial, ?_⟩
      have hE' := hE.put hd VR.undef
      exact wpListIn_mono' (fun e a w hq => lift κ F _ e a w (KLe.refl _) (FLe.refl _) (Agree.put s (.tup []) hdst) hq) _ _ _ (opsS_ok hT ro rest _ _ hrest hg κ F w _ I hE')

end Go.Fw
