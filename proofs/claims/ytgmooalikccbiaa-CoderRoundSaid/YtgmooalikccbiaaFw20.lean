/- The frame of the abstract walk, part 20: a range over a function. -/
import Derived.Test.YtgmooalikccbiaaFw19
import Derived.RangeFuncRecord
set_option linter.unusedVariables false
set_option linter.unusedSimpArgs false
namespace Go.Fw
open Go.RowKit

variable {κ : KM} {F : FM} {B : Nat} {w0 w : World} {H : AH} {P : Program} {T : TT}

theorem below_putObj {r : Nat} {o : Obj} (h : Below B w0 w) (hB : B ≤ r) : Below B w0 (w.putObj r o) :=
  h.trans ⟨rfl, rfl, rfl, by simp, fun k hk => World.putObj_heap_other (by omega)⟩

/-- What a loop's record is, in the world. -/
theorem Inv.loopOf (I : Inv κ F B w0 H w) {rl l N : Nat} {e : Nat → AV} {L : Loop} (h : H rl = some (.loop l N e L)) :
    ∃ i tmps, κ rl 0 = some i ∧ i.blk = some l ∧ B ≤ l ∧ F l = none ∧ w.heap[l]? = some (.loop { L with tmps := tmps }) ∧ tmps.size = N ∧ ∀ t, VR κ F (e t) (tmps.getD t undef) := I.objs _ _ h

/-- A loop's record is told anew. -/
theorem Inv.setLoop (I : Inv κ F B w0 H w) {rl l N : Nat} {e : Nat → AV} {L L' : Loop} {tmps : Array Value} (h : H rl = some (.loop l N e L)) (ht : w.heap[l]? = some (.loop { L with tmps := tmps })) :
    Inv κ F B w0 (H.set rl (.loop l N e L')) (w.putObj l (.loop { L' with tmps := tmps })) := by
  obtain ⟨i, tmps', hi, hb, hB, hF, hw, hs, hv⟩ := I.loopOf h
  rw [ht] at hw
  have : tmps = tmps' := by injection hw with hw; injection hw with hw; injection hw
  subst this
  have hlt : l < w.heap.size := (Array.getElem?_eq_some_iff.1 ht).1
  exact I.turn (o := .loop l N e L) (o' := .loop l N e L') h hi hb rfl (fun k hk => World.putObj_heap_other hk) (by simp) (below_putObj I.below hB)
    ⟨i, tmps, hi, hb, hB, hF, World.putObj_heap_same hlt, hs, hv⟩

def updAll : List (Tmp × AV) → Env → Env
  | [], e => e
  | (t, v) :: r, e => updAll r (upd e t v)

theorem ER_params {N : Nat} : ∀ (ps : List Tmp) (args : List AV) (cargs : List Value) (e : Env) (tmps : Array Value), args.length = cargs.length → (ps.all fun t => Nat.blt t N) = true →
    (∀ i (hi : i < args.length) (hj : i < cargs.length), VR κ F args[i] cargs[i]) → tmps.size = N → (∀ t, VR κ F (e t) (tmps.getD t undef)) →
    ((ps.zip cargs).foldl (fun tmps (x : Tmp × Value) => tmps.setIfInBounds x.1 x.2) tmps).size = N ∧
    ∀ t, VR κ F (updAll (ps.zip args) e t) (((ps.zip cargs).foldl (fun tmps (x : Tmp × Value) => tmps.setIfInBounds x.1 x.2) tmps).getD t undef)
  | [], args, cargs, e, tmps, _, _, _, hs, hv => ⟨hs, hv⟩
  | p :: ps, [], [], e, tmps, _, _, _, hs, hv => ⟨hs, hv⟩
  | p :: ps, [], c :: cs, e, tmps, hl, _, _, hs, hv => by simp at hl
  | p :: ps, a :: as, [], e, tmps, hl, _, _, hs, hv => by simp at hl
  | p :: ps, a :: as, c :: cs, e, tmps, hl, hp, ha, hs, hv => by
    simp only [List.zip_cons_cons, updAll, List.foldl_cons]
    simp only [List.all_cons, Bool.and_eq_true] at hp
    refine ER_params ps as cs (upd e p a) _ (by simpa using hl) hp.2 (fun i hi hj => by have h := ha (i + 1) (by simp only [List.length_cons]; omega) (by simp only [List.length_cons]; omega); exact h) (by simpa using hs) fun t => ?_
    have hlt : p < tmps.size := by rw [hs]; simpa using hp.1
    simp only [upd]
    cases hb : Nat.beq t p with
    | true =>
      have : t = p := Nat.eq_of_beq_eq_true hb
      subst this
      have := ha 0 (by simp) (by simp)
      simp [Array.getD_eq_getD_getElem?, hlt]; simpa using this
    | false =>
      have : t ≠ p := Nat.ne_of_beq_eq_false hb
      simp only [cond_false, Array.getD_eq_getD_getElem?, Array.getElem?_setIfInBounds_ne (Ne.symm this)]
      have := hv t; rwa [Array.getD_eq_getD_getElem?] at this

/-- What a round's end makes of the record, and what yield hands back. -/
def endA (l N rl : Nat) (e : Nat → AV) (jump : Option Code) (K : AV → AH → Prop) (H : AH) : Prop :=
  ∃ L, H rl = some (.loop l N e L) ∧ K (.bool jump.isNone) (H.set rl (.loop l N e { L with state := (if jump.isNone then .ready else .done), pending := jump }))

theorem endA_ok (I : Inv κ F B w0 H w) {l N rl : Nat} {e : Nat → AV} {jump : Option Code} {K : AV → AH → Prop} (h : endA l N rl e jump K H) :
    ∃ v w', (Instr.endRound l jump).run P w = .ok v w' ∧ CPost κ F B w0 K (.returned v) w' := by
  obtain ⟨L, hH, hK⟩ := h
  obtain ⟨i, tmps, hi, hb, hB, hF, hw, hs, hv⟩ := I.loopOf hH
  refine ⟨_, _, run_endRound jump hw, _, rfl, _, _, κ, F, KLe.refl _, FLe.refl _, I.setLoop hH hw, .bool _, hK⟩

theorem CPost.from {κ1 : KM} {F1 : FM} {K : AV → AH → Prop} {e : Ending} {w' : World} (hk : KLe κ κ1) (hf : FLe F F1) (h : CPost κ1 F1 B w0 K e w') : CPost κ F B w0 K e w' := by
  obtain ⟨v, he, y, H', κ', F', h1, h2, h3⟩ := h
  exact ⟨v, he, y, H', κ', F', hk.trans h1, hf.trans h2, h3⟩

/-- A ROUND, out of the walk of its body. -/
theorem AYield_of {l N rl : Nat} {e : Nat → AV} {L : Loop} {args : List AV} {K : AV → AH → Prop} (hH : H rl = some (.loop l N e L)) (hn : args.length = L.params.size) (hp : (L.params.toList.all fun t => Nat.blt t N) = true) (hst : L.state = .ready)
    (h : AWp N P (some l) (fun _ => true) L.assign (fun s H' => ∃ L', H' rl = some (.loop l N e L') ∧ L'.state = .ready ∧ s.d = [] ∧
        AWp N P (some l) (fun _ => true) L.body (fun _ H'' => endA l N rl e none K H'') (fun _ H'' => endA l N rl e (some .ret) K H'') (fun id _ H'' => endA l N rl e (some (.exit id)) K H'') ⟨s.e, s.d⟩ (H'.set rl (.loop l N e { L' with state := .busy })))
      (fun _ _ => False) (fun _ _ _ => False) ⟨updAll (L.params.toList.zip args) e, []⟩ H) : AYield P l args H K := by
  refine ⟨fun κ F B w0 w cargs I hA => ?_⟩
  obtain ⟨i, tmps, hi, hb, hB, hF, hw, hs, hv⟩ := I.loopOf hH
  refine ⟨_, _, _, _, run_yield hw (by show cargs.size = L.params.size; rw [hA.1, hn]), ?_⟩
  obtain ⟨hs', hv'⟩ := ER_params (κ := κ) (F := F) L.params.toList args cargs.toList e tmps (by simpa using hA.1.symm) hp (fun i hi hj => by
    have := hA.2 i hi
    simpa [Array.getD_eq_getD_getElem?, show i < cargs.size by simpa using hj] using this) hs hv
  have hfold : (L.params.zip cargs).foldl (fun tmps (t, a) => tmps.setIfInBounds t a) tmps = (L.params.toList.zip cargs.toList).foldl (fun tmps (x : Tmp × Value) => tmps.setIfInBounds x.1 x.2) tmps := by
    rw [← Array.foldl_toList, Array.toList_zip]
  simp only
  rw [hfold]
  refine roundIn_of_wpIn trivial ?_
  have hE : ER κ F N ⟨updAll (L.params.toList.zip args) e, []⟩ { tmps := (L.params.toList.zip cargs.toList).foldl (fun tmps (x : Tmp × Value) => tmps.setIfInBounds x.1 x.2) tmps, defers := [] } := ⟨hv', hs', rfl⟩
  refine wpIn_mono (h.out κ F B w0 w _ I hE) ?_
  intro ex a1 w1 hq
  cases ex with
  | normal =>
    obtain ⟨s1, H1, κ1, F1, hk1, hf1, I1, hE1, _, L', hL', hrdy, hd, hbody⟩ := hq
    obtain ⟨i1, tmps1, hi1, hb1, hB1, hF1, hw1, hs1, hv1⟩ := I1.loopOf hL'
    refine ⟨_, run_beginRound hw1 hrdy, ?_⟩
    have I2 := I1.setLoop (L' := { L' with state := .busy }) hL' hw1
    refine wpIn_mono (hbody.out κ1 F1 B w0 _ a1 I2 hE1) ?_
    intro ex2 a2 w2 hq2
    cases ex2 with
    | normal =>
      obtain ⟨s2, H2, κ2, F2, hk2, hf2, I3, hE3, _, hend⟩ := hq2
      obtain ⟨v, w', hr, hp⟩ := endA_ok (P := P) I3 hend
      exact ⟨v, w', hr, CPost.from (hk1.trans hk2) (hf1.trans hf2) hp⟩
    | ret =>
      obtain ⟨s2, H2, κ2, F2, hk2, hf2, I3, hE3, _, hend⟩ := hq2
      obtain ⟨v, w', hr, hp⟩ := endA_ok (P := P) I3 hend
      exact ⟨v, w', hr, CPost.from (hk1.trans hk2) (hf1.trans hf2) hp⟩
    | exit id =>
      obtain ⟨s2, H2, κ2, F2, hk2, hf2, I3, hE3, _, hend⟩ := hq2
      obtain ⟨v, w', hr, hp⟩ := endA_ok (P := P) I3 hend
      exact ⟨v, w', hr, CPost.from (hk1.trans hk2) (hf1.trans hf2) hp⟩
    | _ => exact hq2.elim
  | ret => obtain ⟨_, _, _, _, _, _, _, _, _, hx⟩ := hq; exact hx.elim
  | exit id => obtain ⟨_, _, _, _, _, _, _, _, _, hx⟩ := hq; exact hx.elim
  | _ => exact hq.elim

/-- What is done when the function that was ranged over has returned. -/
def afterA (K R : St → AH → Prop) (X : Nat → St → AH → Prop) (s : St) (H : AH) : Option Code → Prop
  | none => K s H
  | some .ret => R s H
  | some (.exit id) => X id s H
  | _ => False

/-- A RANGE OVER A FUNCTION. -/
theorem AWp_rangeFunc {N : Nat} {ws : Nat → Bool} {g : Operand} {ps : Array Tmp} {assign body : Code} {K R : St → AH → Prop} {X : Nat → St → AH → Prop} {s : St} {f : FuncId} {first captured : List AV}
    (hg : ev s.e g = .fn (.func f) first captured)
    (h : ∀ fn d l rd rl, H rd = none → H rl = none → rl ≠ rd → ACall P f (first ++ [.fn (.yield l) [] []] ++ captured)
      ((H.set rd (.obj d (.deferred (some [])))).set rl (.loop l N s.e { state := .ready, pending := none, fn := fn, tmps := #[], params := ps, assign := assign, body := body, defers := d }))
      (fun _ H' => ∃ L, H' rl = some (.loop l N s.e L) ∧ (L.state == .busy) = false ∧ afterA K R X ⟨s.e, d :: s.d⟩ (H'.del rl) L.pending)) :
    AWp N P none ws (.rangeFunc g ps assign body) K R X s H := by
  refine ⟨fun κ F B w0 w a I hE => wpIn_rangeFunc fun fn _ => ?_⟩
  -- the block
  obtain ⟨rd, hrd, hkrd⟩ := I.fresh
  obtain ⟨hle1, I1⟩ := I.new (.deferred (some [])) (r := rd) ⟨some w.heap.size, 0, 0⟩ (.obj w.heap.size (.deferred (some []))) hrd (fun v _ => hkrd v) rfl
    (fun κ' hle hkk hn hF => ⟨_, hkk, rfl, I.base, hF, heap_alloc_new _ _, fun c e f h => by cases h⟩)
  obtain ⟨rl, hrl, hkrl⟩ := I1.fresh
  have hne : rl ≠ rd := fun e => by rw [e, AH.set_same] at hrl; cases hrl
  have hrl0 : H rl = none := by rw [AH.set_ne _ _ hne] at hrl; exact hrl
  obtain ⟨hle2, I2⟩ := I1.new (.loop { state := .ready, pending := none, fn, tmps := a.tmps, params := ps, assign, body, defers := w.heap.size }) (r := rl) ⟨some (w.alloc (.deferred (some []))).heap.size, 0, 0⟩
    (.loop (w.alloc (.deferred (some []))).heap.size N s.e { state := .ready, pending := none, fn := fn, tmps := #[], params := ps, assign := assign, body := body, defers := w.heap.size }) hrl (fun v _ => hkrl v) rfl
    (fun κ' hle hkk hn hF => ⟨_, a.tmps, hkk, rfl, I1.base, hF, heap_alloc_new _ _, hE.size, fun t => (hE.e t).mono (hle1.trans hle) (FLe.refl _)⟩)
  have hsz : (w.alloc (.deferred (some []))).heap.size = w.heap.size + 1 := by simp
  rw [hsz] at hle2 I2
  have hE2 := hE.mono (hle1.trans hle2) (FLe.refl _)
  have hf := ev_ok hE2.e g
  rw [hg] at hf
  generalize hvf : a.eval g = vf at hf
  cases hf with
  | fn h1 h2 h3 h4 =>
    rename_i A C
    have hy : VRs ((κ.put rd 0 ⟨some w.heap.size, 0, 0⟩).put rl 0 ⟨some (w.heap.size + 1), 0, 0⟩) F [AV.fn (.yield (w.heap.size + 1)) [] []] #[Value.func (.yield (w.heap.size + 1)) #[] #[]] :=
      VRs.one (.fn rfl rfl (fun i hi => by simp at hi) (fun i hi => by simp at hi))
    have hall := VRs.append (VRs.append (⟨h1, h3⟩ : VRs _ F first A) hy) (⟨h2, h4⟩ : VRs _ F captured C)
    obtain ⟨⟨fnc, hfn, hb, hnm⟩, hcall⟩ := h fn w.heap.size (w.heap.size + 1) rd rl hrd hrl0 hne
    have hbn : fnc.body.isNone = false := by cases hbb : fnc.body <;> simp_all
    refine ⟨_, _, _, { target := .fn (.func f) C, args := A ++ #[Value.func (.yield (w.heap.size + 1)) #[] #[]] }, ((w.alloc (.deferred (some []))).alloc (.loop { state := .ready, pending := none, fn, tmps := a.tmps, params := ps, assign, body, defers := w.heap.size })), f, A ++ #[Value.func (.yield (w.heap.size + 1)) #[] #[]] ++ C, _, run_enterLoop_outer fn a.tmps ps assign body, ?_, fun _ _ => trivial, ?_, fun hx => absurd hx (by simp [fence]), (callsIn_fence (hcall _ F B w0 _ _ I2 hall)).mono ?_⟩
    · simp only [resolve, rangeCall, hvf, Deferred.ofValue, Sem.run_bind, Sem.run_pure, Result.andThen_ok]
      rw [show #[Operand.const (Value.func (Fn.yield (w.heap.size + 1)) #[] #[])].map a.eval = #[Value.func (.yield (w.heap.size + 1)) #[] #[]] from by simp [Act.eval]]
    · simp only [invoke, callFunc, run_program, hfn, Sem.run_bind, Result.andThen_ok, Sem.run_pure]
      simp only [hnm, Bool.false_eq_true, if_false, hbn]
      rfl
    · rintro e' w' ⟨v, rfl, y, H', κ', F', hk, hf', I3, _, L, hL, hb3, hK⟩
      obtain ⟨i, tmps, hi, hbl, hB, hF, hw, hs, hv⟩ := I3.loopOf hL
      refine ⟨_, _, run_endLoop hw (by intro h; have h : L.state = .busy := h; rw [h] at hb3; cases hb3), ?_⟩
      have I4 := (I3.setLoop (L' := { L with state := .exhausted }) hL hw).drop rl
      rw [show (H'.set rl (.loop (w.heap.size + 1) N s.e { L with state := .exhausted })).del rl = H'.del rl from by funext q; simp only [AH.set, AH.del]; split <;> rfl] at I4
      have hk' := (hle1.trans hle2).trans hk
      have hE4 : ER κ' F' N ⟨s.e, w.heap.size :: s.d⟩ { a with defers := [{ target := .collected w.heap.size, args := #[] }] ++ a.defers } :=
        ⟨fun t => (hE.e t).mono hk' hf', hE.size, by simp [hE.d, markOf]⟩
      have hag : Agree ws s ⟨s.e, w.heap.size :: s.d⟩ := fun _ _ => rfl
      obtain ⟨lst, pend, lfn, ltm, lps, las, lbd, ldf⟩ := L
      cases pend with
      | none => exact ⟨_, _, κ', F', hk', hf', I4, hE4, hag, hK⟩
      | some c =>
        cases c with
        | ret => exact wpIn_ret ⟨_, _, κ', F', hk', hf', I4, hE4, hag, hK⟩
        | exit id => exact wpIn_exit ⟨_, _, κ', F', hk', hf', I4, hE4, hag, hK⟩
        | _ => exact hK.elim

theorem AWp_over {N : Nat} {ws : Nat → Bool} {g : Operand} {ps : Array Tmp} {assign body : Code} {K R : St → AH → Prop} {X : Nat → St → AH → Prop} {s : St} {f : FuncId} {first captured : List AV}
    (hg : ev s.e g = .fn (.func f) first captured)
    (h : ∀ e0, e0 = s.e → ∀ fn d l rd rl, H rd = none → H rl = none → rl ≠ rd → ∀ L0 : Loop, L0 = { state := .ready, pending := none, fn := fn, tmps := #[], params := ps, assign := assign, body := body, defers := d } →
      ACall P f (first ++ [.fn (.yield l) [] []] ++ captured) ((H.set rd (.obj d (.deferred (some [])))).set rl (.loop l N e0 L0))
      (fun _ H' => ∃ L, H' rl = some (.loop l N e0 L) ∧ (L.state == .busy) = false ∧ afterA K R X ⟨s.e, d :: s.d⟩ (H'.del rl) L.pending)) :
    AWp N P none ws (.rangeFunc g ps assign body) K R X s H :=
  AWp_rangeFunc hg fun fn d l rd rl h1 h2 h3 => h s.e rfl fn d l rd rl h1 h2 h3 _ rfl

/-- The marks are come to. -/
def takeA : List Nat → AH → (AH → Prop) → Prop
  | [], H, K => K H
  | d :: ds, H, K => ∃ rd, H rd = some (.obj d (.deferred (some []))) ∧ takeA ds (H.del rd) K

/-- A FUNCTION's CONTRACT, out of its body, where the body ranges over functions. -/
theorem ACall_marks (hT : T.ok P = true) {g : FuncId} {fn : Func} {c : Code} {args : List AV} {K : AV → AH → Prop} (hdraw : DrawOk P T fn.ntmps) (hf : P.funcs[g]? = some fn) (hb : fn.body = some c) (hnm : (fn.name == "runtime.NumGoroutine") = false)
    (hsz : Nat.ble args.length fn.ntmps = true) (h : AWq fn.ntmps P T none (fun _ => true) c (fun s H => takeA s.d H fun H => resA T fn.results.toList s.e H K) (fun s H => takeA s.d H fun H => resA T fn.results.toList s.e H K) (fun _ _ _ => False) ⟨argsE args, []⟩ H) :
    ACall P g args H K := by
  have hsz := Nat.le_of_ble_eq_true hsz
  refine ⟨⟨fn, hf, by rw [hb]; rfl, hnm⟩, ?_⟩
  intro κ F B w0 w cargs I hA
  refine callsIn_wide (n := 0) |>.1 (callsIn_of_wp_marks hf hb trivial ?_)
  have hE : ER κ F fn.ntmps ⟨argsE args, []⟩ { tmps := cargs ++ Array.replicate (fn.ntmps - cargs.size) undef, defers := [] } := by
    refine ⟨fun t => ?_, by simp [hA.1]; omega, rfl⟩
    simp only [argsE]
    by_cases ht : t < args.length
    · have := hA.2 t ht
      simp only [List.getD_eq_getElem?_getD, List.getElem?_eq_getElem ht, Option.getD_some]
      simp only [Array.getD_eq_getD_getElem?] at this ⊢
      rw [Array.getElem?_append_left (by rw [hA.1]; exact ht)]
      exact this
    · simp only [List.getD_eq_getElem?_getD, List.getElem?_eq_none (Nat.le_of_not_lt ht), Option.getD_none]
      exact .junk _
  refine wpIn_mono ((h.out hT hdraw (fun _ _ => rfl)).out κ F B w0 w _ I hE) ?_
  have leave : ∀ (tmps : Array Value) (ds : List Nat) (H' : AH) (κ' : KM) (F' : FM) (w' : World) (e : Env), (∀ t, VR κ' F' (e t) (tmps.getD t undef)) → KLe κ κ' → FLe F F' → Inv κ' F' B w0 H' w' →
      (takeA ds H' fun H => resA T fn.results.toList e H K) → LeavesInM Fence.wide 0 P fn tmps (CPost κ F B w0 K) (ds.map markOf) .returning w' := by
    intro tmps ds
    induction ds with
    | nil =>
      intro H' κ' F' w' e he hk hf I' h
      obtain ⟨v, y, hr, hy, hK⟩ := results_tmps hT I' (a := ⟨tmps, []⟩) he h
      exact ⟨v, hr, v, rfl, y, H', κ', F', hk, hf, I', hy, hK⟩
    | cons d ds ih =>
      intro H' κ' F' w' e he hk hf I' h
      obtain ⟨rd, hrd, h⟩ := h
      obtain ⟨i, hi, hb, hB, hF, hw, _⟩ : ObjOk κ' F' B w' rd (.obj d (.deferred (some []))) := I'.objs _ _ hrd
      refine ⟨by simp, .inl ⟨d, _, rfl, run_takeDeferred hw, ?_⟩⟩
      have hlt : d < w'.heap.size := (Array.getElem?_eq_some_iff.1 hw).1
      have I2 := (I'.turn (o' := .obj d (.deferred none)) (w' := w'.putObj d (.deferred none)) hrd hi hb rfl (fun k hk => World.putObj_heap_other hk) (by simp) (below_putObj I'.below hB)
        ⟨i, hi, hb, hB, hF, World.putObj_heap_same hlt, fun c e f h => by cases h⟩).drop rd
      rw [show (H'.set rd (.obj d (.deferred none))).del rd = H'.del rd from by funext q; simp only [AH.set, AH.del]; split <;> rfl] at I2
      exact ih _ κ' F' _ e he hk hf I2 h
  intro e a' w' hq
  cases e with
  | normal =>
    obtain ⟨s', H', κ', F', h1, h2, h3, h4, _, h6⟩ := hq
    show LeavesInM _ _ _ _ _ _ a'.defers _ _
    rw [h4.d]
    exact leave a'.tmps s'.d H' κ' F' w' s'.e h4.e h1 h2 h3 h6
  | ret =>
    obtain ⟨s', H', κ', F', h1, h2, h3, h4, _, h6⟩ := hq
    show LeavesInM _ _ _ _ _ _ a'.defers _ _
    rw [h4.d]
    exact leave a'.tmps s'.d H' κ' F' w' s'.e h4.e h1 h2 h3 h6
  | exit id =>
    obtain ⟨_, _, _, _, _, _, _, _, _, hx⟩ := hq
    exact hx.elim
  | _ => exact hq.elim

/-- A call that has one value, and leaves memory as it was. -/
theorem ACall.val {g : FuncId} {args : List AV} {v : AV} {K : AV → AH → Prop} (h : ACall P g args H fun y H' => y = v ∧ H' = H) (k : K v H) : ACall P g args H K :=
  h.mono fun y H' e => by rw [e.1, e.2]; exact k

theorem AYield.mono {l : Nat} {args : List AV} {K K' : AV → AH → Prop} (h : AYield P l args H K) (hk : ∀ y H', K y H' → K' y H') : AYield P l args H K' :=
  ⟨fun κ F B w0 w cargs hI hA => by
    obtain ⟨fn, tmps, assign, body, hy, hR⟩ := h.run κ F B w0 w cargs hI hA
    exact ⟨fn, tmps, assign, body, hy, RoundIn.mono hR fun e w' ⟨v, he, hl⟩ => ⟨v, he, hl.mono hk⟩⟩⟩

/-- What a call has laid besides is let go. -/
theorem ACall.back {g : FuncId} {args : List AV} {v : AV} (h : ACall P g args H fun y H' => y = v ∧ HLe H H') : ACall P g args H fun y H' => y = v ∧ H' = H :=
  ⟨h.ent, fun κ F B w0 w cargs hI hA => (h.run κ F B w0 w cargs hI hA).mono fun e w' ⟨x, he, y, H', κ', F', h1, h2, h3, h4, h5, h6⟩ => ⟨x, he, y, H, κ', F', h1, h2, h3.less h6.le, h4, h5, rfl⟩⟩

theorem HLe.del {H H' : AH} (r : Nat) (h : HLe H H') (hr : H r = none) : HLe H (H'.del r) := by
  refine ⟨fun s x hs => ?_⟩
  by_cases e : s = r
  · rw [e, hr] at hs; cases hs
  · rw [AH.del_ne _ e]; exact h.le s x hs
theorem HLe.set_of {H H' : AH} (r : Nat) (o : AO) (h : HLe H H') (hr : H r = none) : HLe H (H'.set r o) := by
  refine ⟨fun s x hs => ?_⟩
  by_cases e : s = r
  · rw [e, hr] at hs; cases hs
  · rw [AH.set_ne _ _ e]; exact h.le s x hs

theorem AH.ne_none {H : AH} {r s : Nat} {o : AO} (h : H r = none) (k : H s = some o) : s ≠ r := fun e => by rw [e, h] at k; cases k
theorem AH.none_ne {H : AH} {r s : Nat} {o : AO} (h : H r = none) (k : H s = some o) : r ≠ s := fun e => by rw [← e, h] at k; cases k
theorem AH.none_set {H : AH} {r s : Nat} {o : AO} (h : (H.set s o) r = none) : r ≠ s ∧ H r = none := by
  have hn : r ≠ s := fun e => by rw [e, AH.set_same] at h; cases h
  exact ⟨hn, by rw [AH.set_ne _ _ hn] at h; exact h⟩
theorem AH.none_iff {H : AH} {r s : Nat} {o : AO} : (H.set s o) r = none ↔ r ≠ s ∧ H r = none :=
  ⟨AH.none_set, fun h => by rw [AH.set_ne _ _ h.1]; exact h.2⟩
theorem AH.get_ne {H : AH} {r s : Nat} {o : AO} {x : Option AO} (hn : s ≠ r) (h : H s = x) : (H.set r o) s = x := by rw [AH.set_ne _ _ hn]; exact h
theorem AH.getd_ne {H : AH} {r s : Nat} {x : Option AO} (hn : s ≠ r) (h : H s = x) : (H.del r) s = x := by rw [AH.del_ne _ hn]; exact h

theorem HLe.none {H H' : AH} {x : Nat} (h : HLe H H') (k : H' x = none) : H x = none := by
  cases hH : H x with
  | none => rfl
  | some o => rw [h.le x o hH] at k; cases k
theorem HLe.twice (H : AH) (r : Nat) (o o' : AO) : HLe (H.set r o) ((H.set r o').set r o) := by rw [AH.set_set]; exact HLe.refl _

/-- A nil slice is a constant one without elements. -/
theorem ACall.nils {g : FuncId} {pre post : List AV} {K : AV → AH → Prop} (h : ACall P g (pre ++ .cs [] 0 :: post) H K) : ACall P g (pre ++ .nils :: post) H K := by
  refine ⟨h.ent, fun κ F B w0 w cargs hI hA => h.run κ F B w0 w cargs hI ⟨by simpa using hA.1, fun i hi => ?_⟩⟩
  have := hA.2 i (by simpa using hi)
  by_cases h1 : i < pre.length
  · rw [List.getElem_append_left h1] at this ⊢; exact this
  · by_cases h2 : i = pre.length
    · subst h2
      rw [List.getElem_append_right (Nat.le_refl _)] at this ⊢
      simp only [Nat.sub_self, List.getElem_cons_zero] at this ⊢
      generalize cargs.getD pre.length undef = x at this
      cases this with
      | nils a => exact .cs0 _ _
    · obtain ⟨j, hj⟩ : ∃ j, i - pre.length = j + 1 := ⟨i - pre.length - 1, by omega⟩
      rw [List.getElem_append_right (by omega)] at this ⊢
      simp only [hj, List.getElem_cons_succ] at this ⊢
      exact this

/-- A row that nobody writes any more is handed over as a constant. -/
theorem ACall.frz {g : FuncId} {pre post : List AV} {r v es n : Nat} {lim : Option Nat} {cells : List AV} {K : AV → AH → Prop} (hH : H r = some (.row cells v)) (hlen : cells.length = n * es)
    (h : ACall P g (pre ++ .cs cells n :: post) (H.del r) K) : ACall P g (pre ++ .sl r v es 0 n lim :: post) H K := by
  refine ⟨h.ent, fun κ F B w0 w cargs I hA => ?_⟩
  have hlt : pre.length < (pre ++ AV.sl r v es 0 n lim :: post).length := by simp
  have hat := hA.2 pre.length hlt
  rw [List.getElem_append_right (Nat.le_refl _)] at hat
  simp only [Nat.sub_self, List.getElem_cons_zero] at hat
  have key : ∀ F', FLe F F' → Inv κ F' B w0 (H.del r) w → VR κ F' (.cs cells n) (cargs.getD pre.length undef) → Calls P g cargs w (CPost κ F B w0 K) := by
    intro F' hF I' hv
    refine (h.run κ F' B w0 w cargs I' ⟨by simpa using hA.1, fun i hi => ?_⟩).mono ?_
    · have := (hA.2 i (by simpa using hi)).mono (KLe.refl _) hF
      by_cases h1 : i < pre.length
      · rw [List.getElem_append_left h1] at this ⊢; exact this
      · by_cases h2 : i = pre.length
        · subst h2
          rw [List.getElem_append_right (Nat.le_refl _)]
          simp only [Nat.sub_self, List.getElem_cons_zero]
          exact hv
        · obtain ⟨j, hj⟩ : ∃ j, i - pre.length = j + 1 := ⟨i - pre.length - 1, by omega⟩
          rw [List.getElem_append_right (by omega)] at this ⊢
          simp only [hj, List.getElem_cons_succ] at this ⊢
          exact this
    · rintro e w' hp
      exact CPost.from (KLe.refl _) hF hp
  generalize cargs.getD pre.length undef = x at hat key
  obtain ⟨i2, adr, c, rfl, hi2, _, hlc, _, _, hadr, lo, _, hlo, hlim⟩ := VR.slOf I hat hH
  obtain ⟨i, hi, hrow, _⟩ := I.objs _ _ hH
  have hi' : κ r v = some i := hi
  rw [hi'] at hi2; cases hi2
  cases hb : i2.blk with
  | none =>
    have hc0 : cells = [] ∧ i2.cap = 0 := by simpa only [RowOk, hb] using hrow
    have hc : c = 0 := by
      cases lim with
      | none => have : c = i2.cap - lo := hlim; omega
      | some m => have := hlim.1; have := hlim.2; omega
    have hn : n = 0 := by omega
    subst hn
    refine key F (FLe.refl _) (I.drop r) ?_
    rw [hc0.1]; exact .cs0 _ _
  | some b =>
    obtain ⟨arr, hsz, hlen', hcv, hFle, I'⟩ := I.freeze hH hi' hb
    refine key _ hFle I' ?_
    rcases hadr with hc | ⟨b', hb', rfl⟩
    · have hn : n = 0 := by omega
      subst hn
      have : cells = [] := by apply List.eq_nil_of_length_eq_zero; simpa using hlen
      rw [this]; exact .cs0 _ _
    · rw [hb] at hb'; cases hb'
      exact .cs (arr := arr) (by simp) (by omega) hlc (fun j hj => by
        have := (hcv j hj).mono (KLe.refl _) hFle
        simpa using this)

/-- A row that nobody writes any more, told as a constant. -/
theorem Inv.cool (I : Inv κ F B w0 H w) {r v es n : Nat} {lim : Option Nat} {cells : List AV} {x : Value} (hv : VR κ F (.sl r v es 0 n lim) x) (hH : H r = some (.row cells v)) (hlen : cells.length = n * es) :
    ∃ F', FLe F F' ∧ Inv κ F' B w0 (H.del r) w ∧ VR κ F' (.cs cells n) x := by
  obtain ⟨i2, adr, c, rfl, hi2, _, hlc, _, _, hadr, lo, _, hlo, hlim⟩ := VR.slOf I hv hH
  obtain ⟨i, hi, hrow, _⟩ := I.objs _ _ hH
  have hi' : κ r v = some i := hi
  rw [hi'] at hi2; cases hi2
  cases hb : i2.blk with
  | none =>
    have hc0 : cells = [] ∧ i2.cap = 0 := by simpa only [RowOk, hb] using hrow
    have hc : c = 0 := by
      cases lim with
      | none => have : c = i2.cap - lo := hlim; omega
      | some m => have := hlim.1; have := hlim.2; omega
    have hn : n = 0 := by omega
    subst hn
    refine ⟨F, FLe.refl _, I.drop r, ?_⟩
    rw [hc0.1]; exact .cs0 _ _
  | some b =>
    obtain ⟨arr, hsz, hlen', hcv, hFle, I'⟩ := I.freeze hH hi' hb
    refine ⟨_, hFle, I', ?_⟩
    rcases hadr with hc | ⟨b', hb', rfl⟩
    · have hn : n = 0 := by omega
      subst hn
      have : cells = [] := by apply List.eq_nil_of_length_eq_zero; simpa using hlen
      rw [this]; exact .cs0 _ _
    · rw [hb] at hb'; cases hb'
      exact .cs (arr := arr) (by simp) (by omega) hlc (fun j hj => by
        have := (hcv j hj).mono (KLe.refl _) hFle
        simpa using this)

/-- A fresh slice that a call hands back, told as a constant. -/
theorem ACall.cold {g : FuncId} {args : List AV} {es n : Nat} {cells : List AV} (hlen : cells.length = n * es)
    (h : ACall P g args H fun y H' => ∃ r, H r = none ∧ ∃ v, y = .sl r v es 0 n none ∧ H' = H.set r (.row cells v)) : ACall P g args H fun y H' => y = .cs cells n ∧ H' = H := by
  refine ⟨h.ent, fun κ F B w0 w cargs hI hA => (h.run κ F B w0 w cargs hI hA).mono ?_⟩
  rintro e w' ⟨x, he, y, H', κ', F', h1, h2, h3, h4, r, hr, v, rfl, rfl⟩
  obtain ⟨F'', hF, I, hv⟩ := h3.cool h4 (AH.set_same _ _ _) hlen
  rw [AH.del_set _ _ _ hr] at I
  exact ⟨x, he, _, H, κ', F'', h1, h2.trans hF, I, hv, rfl, rfl⟩

end Go.Fw
