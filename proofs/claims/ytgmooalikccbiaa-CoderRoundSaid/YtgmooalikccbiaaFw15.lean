/- The frame of the abstract walk, part 15: control. -/
import Derived.Test.YtgmooalikccbiaaFw14
set_option linter.unusedVariables false
set_option linter.unusedSimpArgs false
namespace Go.Fw
open Go.RowKit

variable {κ : KM} {F : FM} {B : Nat} {w0 w : World} {H : AH} {P : Program} {T : TT}

theorem QOk.mono {N : Nat} {ws ws' : Nat → Bool} {s : St} {K K' R R' : St → AH → Prop} {X X' : Nat → St → AH → Prop} {e : Exit} {a : Act} (h : QOk κ F B w0 N ws s K R X e a w) (hw : ∀ t, ws t = true → ws' t = true)
    (hk : ∀ s H, K s H → K' s H) (hr : ∀ s H, R s H → R' s H) (hx : ∀ i s H, X i s H → X' i s H) : QOk κ F B w0 N ws' s K' R' X' e a w := by
  cases e with
  | normal => exact Out.mono h hw hk
  | ret => exact Out.mono h hw hr
  | exit id => exact Out.mono h hw (hx id)
  | _ => exact h.elim

theorem QOk.from {κ1 : KM} {F1 : FM} {N : Nat} {ws : Nat → Bool} {s s1 : St} {K R : St → AH → Prop} {X : Nat → St → AH → Prop} {e : Exit} {a : Act} (hk : KLe κ κ1) (hf : FLe F F1) (hs : Agree ws s s1)
    (h : QOk κ1 F1 B w0 N ws s1 K R X e a w) : QOk κ F B w0 N ws s K R X e a w := by
  cases e with
  | normal => exact Out.from hk hf hs h
  | ret => exact Out.from hk hf hs h
  | exit id => exact Out.from hk hf hs h
  | _ => exact h.elim

def DrawOk (P : Program) (T : TT) (N : Nat) : Prop :=
  ∀ (M : Mk) (ro : Option Nat) (ws : Nat → Bool) (id : Nat) (ops : Array Oper) (K R : St → AH → Prop) (X : Nat → St → AH → Prop) (s : St) (H : AH), (∀ t, t ∈ dstsOf ops.toList → ws t = true) → (orderOk ops && effOk T M ops) = true → drawS N P T M ops ops.toList K s H → AWp N P ro ws (.region id ops true) K R X s H

/-- What is to be shown of a piece of code: one rule for each kind. -/
structure AWq (N : Nat) (P : Program) (T : TT) (ro : Option Nat) (ws : Nat → Bool) (c : Code) (K R : St → AH → Prop) (X : Nat → St → AH → Prop) (s : St) (H : AH) : Prop where
  out : T.ok P = true → DrawOk P T N → (∀ t, t ∈ writes c → ws t = true) → AWp N P ro ws c K R X s H

/-- A way-mark between two pieces. -/
structure Then (p : Prop) : Prop where
  out : p

section rules
variable {N : Nat} {ro : Option Nat} {ws : Nat → Bool} {K R : St → AH → Prop} {X : Nat → St → AH → Prop} {s : St}

theorem AWq.in {c : Code} (h : AWp N P ro ws c K R X s H) : AWq N P T ro ws c K R X s H := ⟨fun _ _ _ => h⟩
theorem AWq.skip (h : K s H) : AWq N P T ro ws .skip K R X s H := ⟨fun _ _ _ => ⟨fun κ F B w0 w a I hE => wpIn_skip ⟨s, H, κ, F, KLe.refl _, FLe.refl _, I, hE, Agree.refl _ _, h⟩⟩⟩
theorem AWq.exit {id : Nat} (h : X id s H) : AWq N P T ro ws (.exit id) K R X s H := ⟨fun _ _ _ => ⟨fun κ F B w0 w a I hE => wpIn_exit ⟨s, H, κ, F, KLe.refl _, FLe.refl _, I, hE, Agree.refl _ _, h⟩⟩⟩
theorem AWq.ret (h : R s H) : AWq N P T ro ws .ret K R X s H := ⟨fun _ _ _ => ⟨fun κ F B w0 w a I hE => wpIn_ret ⟨s, H, κ, F, KLe.refl _, FLe.refl _, I, hE, Agree.refl _ _, h⟩⟩⟩
theorem AWq.region {id : Nat} {ops : Array Oper} (h : OpsA N P T ops ops.toList K s H) : AWq N P T ro ws (.region id ops false) K R X s H :=
  ⟨fun hT _ hw => ⟨fun κ F B w0 w a I hE => wpIn_region_list (opsS_ok hT ro ops.toList s H hw h.out κ F w a I hE)⟩⟩
theorem AWq.draw {id : Nat} {ops : Array Oper} (h1 : (orderOk ops && effOk T ([], []) ops) = true) (h2 : DrawA N P T ([], []) ops ops.toList K s H) : AWq N P T ro ws (.region id ops true) K R X s H :=
  ⟨fun hT hdraw hw => hdraw _ ro ws id ops K R X s H hw h1 h2.out⟩
theorem AWq.drawM (M : Mk) {id : Nat} {ops : Array Oper} (h1 : (orderOk ops && effOk T M ops) = true) (h2 : DrawA N P T M ops ops.toList K s H) : AWq N P T ro ws (.region id ops true) K R X s H :=
  ⟨fun hT hdraw hw => hdraw _ ro ws id ops K R X s H hw h1 h2.out⟩
theorem AWq.seq {x y : Code} (h : AWq N P T ro ws x (fun s H => Then (AWq N P T ro ws y K R X s H)) R X s H) : AWq N P T ro ws (.seq x y) K R X s H := by
  refine ⟨fun hT hdraw hw => ⟨fun κ F B w0 w a I hE => ?_⟩⟩
  have hwx : ∀ t, t ∈ writes x → ws t = true := fun t ht => hw t (List.mem_append_left _ ht)
  have hwy : ∀ t, t ∈ writes y → ws t = true := fun t ht => hw t (List.mem_append_right _ ht)
  refine wpIn_seq (wpIn_mono ((h.out hT hdraw hwx).out κ F B w0 w a I hE) ?_)
  intro e a' w' hq
  cases e with
  | normal =>
    obtain ⟨s', H', κ', F', h1, h2, h3, h4, h5, h6⟩ := hq
    refine wpIn_mono ((h6.out.out hT hdraw hwy).out κ' F' B w0 w' a' h3 h4) ?_
    intro e a'' w'' hq
    exact QOk.from h1 h2 h5 hq
  | ret => exact hq
  | exit id => exact hq
  | _ => exact hq.elim
theorem AWq.cond {c : Operand} {x y : Code} (h : match ev s.e c with
    | .bool t => Both (t = true → AWq N P T ro ws x K R X s H) (t = false → AWq N P T ro ws y K R X s H)
    | _ => False) : AWq N P T ro ws (.cond c x y) K R X s H := by
  refine ⟨fun hT hdraw hw => ⟨fun κ F B w0 w a I hE => ?_⟩⟩
  have hwx : ∀ t, t ∈ writes x → ws t = true := fun t ht => hw t (List.mem_append_left _ ht)
  have hwy : ∀ t, t ∈ writes y → ws t = true := fun t ht => hw t (List.mem_append_right _ ht)
  have hc := ev_ok hE.e c
  split at h
  · rename_i t htv
    rw [htv] at hc
    generalize hv : a.eval c = v at hc
    cases hc
    refine wpIn_cond_split hv (fun ht => ?_) (fun ht => ?_)
    · exact ((h.l ht).out hT hdraw hwx).out κ F B w0 w a I hE
    · exact ((h.r ht).out hT hdraw hwy).out κ F B w0 w a I hE
  · exact h.elim
theorem AWq.block {id : Nat} {c : Code} (h : AWq N P T ro ws c K R (fun j => _root_.cond (Nat.beq j id) K (X j)) s H) : AWq N P T ro ws (.block id c) K R X s H := by
  refine ⟨fun hT hdraw hw => ⟨fun κ F B w0 w a I hE => ?_⟩⟩
  refine wpIn_block (wpIn_mono ((h.out hT hdraw hw).out κ F B w0 w a I hE) ?_)
  intro e a' w' hq
  cases e with
  | normal => exact hq
  | ret => exact hq
  | exit j =>
    unfold Exit.inBlock
    simp only
    split
    · rename_i hj
      subst hj
      exact Out.mono hq (fun t ht => ht) (fun s H h => by simpa using h)
    · rename_i hj
      exact Out.mono hq (fun t ht => ht) (fun s H h => by
        have : Nat.beq j id = false := by cases hb : Nat.beq j id with
          | false => rfl
          | true => exact absurd (Nat.eq_of_beq_eq_true hb) hj
        have h' : (bif Nat.beq j id then K else X j) s H := h
        rw [this] at h'; exact h')
  | _ => exact hq.elim
theorem AWq.loop {c : Code} (h : AWp N P ro ws (.loop c) K R X s H) : AWq N P T ro ws (.loop c) K R X s H := AWq.in h
theorem AWq.rangeFunc {f : Operand} {ps : Array Tmp} {x y : Code} (h : AWp N P ro ws (.rangeFunc f ps x y) K R X s H) : AWq N P T ro ws (.rangeFunc f ps x y) K R X s H := AWq.in h
end rules

/-! ### Less is known -/
def SLe (s s' : St) : Prop := s'.d = s.d ∧ ∀ t, s'.e t = .junk ∨ s'.e t = s.e t
structure HLe (H' H : AH) : Prop where
  le : ∀ r o, H' r = some o → H r = some o
theorem HLe.refl (H : AH) : HLe H H := ⟨fun _ _ h => h⟩

theorem ER.less {N : Nat} {s s' : St} {a : Act} (h : ER κ F N s a) (hl : SLe s s') : ER κ F N s' a :=
  ⟨fun t => by rcases hl.2 t with e | e
               · rw [e]; exact .junk _
               · rw [e]; exact h.e t, h.size, by rw [hl.1]; exact h.d⟩

/-! ### A loop -/
def agrees (e : Env) : List (Nat × AV) → Prop
  | [] => True
  | (t, v) :: l => e t = v ∧ agrees e l

def lookupA : List (Nat × AV) → Nat → Option AV
  | [], _ => none
  | (k, v) :: l, t => cond (Nat.beq k t) (some v) (lookupA l t)

def memA : List Nat → Nat → Bool
  | [], _ => false
  | k :: l, t => cond (Nat.beq k t) true (memA l t)

theorem memA_iff : ∀ (l : List Nat) (t : Nat), memA l t = true ↔ t ∈ l
  | [], t => by simp [memA]
  | k :: l, t => by
    simp only [memA, List.mem_cons]
    cases hb : Nat.beq k t with
    | true => have := Nat.eq_of_beq_eq_true hb; simp [this]
    | false => have := Nat.ne_of_beq_eq_false hb; simp [memA_iff l t]; intro e; exact absurd e.symm this

theorem agrees_lookup {e : Env} : ∀ {l : List (Nat × AV)} {t : Nat} {v : AV}, agrees e l → lookupA l t = some v → e t = v
  | [], _, _, _, h => by simp [lookupA] at h
  | (k, x) :: l, t, v, ha, h => by
    simp only [lookupA] at h
    cases hb : Nat.beq k t with
    | true => rw [hb] at h; simp at h; rw [← h, ← Nat.eq_of_beq_eq_true hb]; exact ha.1
    | false => rw [hb] at h; exact agrees_lookup ha.2 (by simpa using h)

/-- At a loop's head: what is told, the rest of what its body writes forgotten. -/
def headE (named : List (Nat × AV)) (ws : List Nat) (e : Env) : Env := fun t =>
  match lookupA named t with
  | some v => v
  | none => cond (memA ws t) .junk (e t)

theorem all_mem {l : List Nat} {p : Nat → Bool} (h : l.all p = true) : ∀ t, t ∈ l → p t = true := fun t ht => List.all_eq_true.1 h t ht

/-- At a round's end. -/
inductive Again {σ : Type} (named : σ → List (Nat × AV)) (Hf : σ → AH) (I : σ → Prop) (μ : σ → Nat) (x : σ) (e : Env) (H : AH) : Prop where
  | mk (x' : σ) (h1 : I x') (h2 : μ x' < μ x) (h3 : agrees e (named x')) (h4 : HLe (Hf x') H)

/-- A LOOP: what is told of temporaries, an abstract heap, what holds of both, a measure. 'wl': the temporaries that may turn. -/
theorem AWp_loop {σ : Type} {N : Nat} {ro : Option Nat} {ws : Nat → Bool} {c : Code} {K R : St → AH → Prop} {X : Nat → St → AH → Prop} {s : St} {H : AH} (wl : List Nat) (named : σ → List (Nat × AV)) (Hf : σ → AH) (I : σ → Prop) (μ : σ → Nat) (x0 : σ)
    (hwl : wl.all ws = true) (h0 : I x0) (hn : agrees s.e (named x0)) (hH : HLe (Hf x0) H)
    (round : ∀ x, I x → AWp N P ro (memA wl) c (fun s' H' => s'.d = s.d ∧ Again named Hf I μ x s'.e H') R X ⟨headE (named x) wl s.e, s.d⟩ (Hf x)) :
    AWp N P ro ws (.loop c) K R X s H := by
  refine ⟨fun κ F B w0 w a hI hE => ?_⟩
  have hws : ∀ t, memA wl t = true → ws t = true := fun t ht => all_mem hwl t ((memA_iff _ _).1 ht)
  refine wpIn_loop_ghost (fun n a w => ∃ x κ' F' s' H', μ x = n ∧ I x ∧ KLe κ κ' ∧ FLe F F' ∧ Inv κ' F' B w0 H' w ∧ ER κ' F' N s' a ∧ Agree (memA wl) s s' ∧ s'.d = s.d ∧ agrees s'.e (named x) ∧ HLe (Hf x) H')
    (μ x0) ⟨x0, κ, F, s, H, rfl, h0, KLe.refl _, FLe.refl _, hI, hE, Agree.refl _ _, rfl, hn, hH⟩ ?_
  rintro n a' w' ⟨x, κ', F', s', H', rfl, hx, hk, hf, hI', hE', hag, hd, hnm, hHl⟩
  have hle : SLe s' ⟨headE (named x) wl s.e, s.d⟩ := by
    refine ⟨hd.symm, fun t => ?_⟩
    simp only [headE]
    cases hl : lookupA (named x) t with
    | some v => right; exact (agrees_lookup hnm hl).symm
    | none =>
      simp only
      cases hm : memA wl t with
      | true => left; rfl
      | false => right; exact (hag t hm).symm
  have hag0 : Agree (memA wl) s ⟨headE (named x) wl s.e, s.d⟩ := by
    intro t ht
    simp only [headE]
    cases hl : lookupA (named x) t with
    | some v => simp only; rw [← agrees_lookup hnm hl]; exact hag t ht
    | none => simp [ht]
  refine wpIn_mono ((round x hx).out κ' F' B w0 w' a' (hI'.less hHl.le) (hE'.less hle)) ?_
  intro e a'' w'' hq
  have hq' := QOk.from hk hf hag0 hq
  cases e with
  | normal =>
    obtain ⟨s2, H2, κ2, F2, h1, h2, h3, h4, h5, h6, ⟨x', h7, h8, h9, h10⟩⟩ := hq'
    exact ⟨μ x', h8, x', κ2, F2, s2, H2, rfl, h7, h1, h2, h3, h4, h5, h6, h9, h10⟩
  | ret => exact Out.mono hq' hws (fun _ _ h => h)
  | exit id => exact Out.mono hq' hws (fun _ _ h => h)
  | _ => exact hq'.elim

/-- A piece of code, walked. -/
theorem AWp.of (hT : T.ok P = true) {N : Nat} (hdraw : DrawOk P T N) {ro : Option Nat} {ws : Nat → Bool} {c : Code} {K R : St → AH → Prop} {X : Nat → St → AH → Prop} {s : St} {H : AH} (hw : (writes c).all ws = true) (h : AWq N P T ro ws c K R X s H) :
    AWp N P ro ws c K R X s H := h.out hT hdraw (all_mem hw)

/-! ### What may be done beside the code -/
/-- Some temporaries told anew. -/
def retold (ts : List Nat) (v : AV) (e : Env) : Env := fun t => cond (memA ts t) v (e t)

/-- A row that nobody writes any more becomes a constant. -/
theorem AWp_freeze {N : Nat} {ro : Option Nat} {ws : Nat → Bool} {c : Code} {K R : St → AH → Prop} {X : Nat → St → AH → Prop} {s : St} {H : AH} (ts : List Nat) {r v es n : Nat} {lim : Option Nat} {cells : List AV} (hts : ts.all ws = true)
    (hH : H r = some (.row cells v)) (he : ∀ t, memA ts t = true → s.e t = .sl r v es 0 n lim) (hlen : n * es ≤ cells.length)
    (h : AWp N P ro ws c K R X ⟨retold ts (.cs (cells.take (n * es)) n) s.e, s.d⟩ (H.del r)) : AWp N P ro ws c K R X s H := by
  refine ⟨fun κ F B w0 w a I hE => ?_⟩
  have hag : Agree ws s ⟨retold ts (.cs (cells.take (n * es)) n) s.e, s.d⟩ := by
    intro t ht
    simp only [retold]
    cases hm : memA ts t with
    | false => rfl
    | true => rw [all_mem hts t ((memA_iff _ _).1 hm)] at ht; cases ht
  obtain ⟨i, hi, hrow, _⟩ := I.objs _ _ hH
  cases hb : i.blk with
  | none =>
    have hc0 : cells = [] ∧ i.cap = 0 := by simpa only [RowOk, hb] using hrow
    have hE' : ER κ F N ⟨retold ts (.cs (cells.take (n * es)) n) s.e, s.d⟩ a := by
      refine ⟨fun t => ?_, hE.size, hE.d⟩
      simp only [retold]
      cases hm : memA ts t with
      | false => exact hE.e t
      | true =>
        have := hE.e t
        rw [he t hm] at this
        generalize a.tmps.getD t undef = x at this
        obtain ⟨i2, adr, c, rfl, hi2, _, hlc, _, _, _, lo, _, hlo, hlim⟩ := VR.slOf I this hH
        rw [hi] at hi2; cases hi2
        have hc : c = 0 := by
          cases lim with
          | none => have : c = i.cap - lo := hlim; omega
          | some m => have := hlim.1; have := hlim.2; omega
        have hn : n = 0 := by omega
        subst hn
        rw [hc0.1]; simp; exact .cs0 _ _
    exact wpIn_mono (h.out κ F B w0 w a (I.drop r) hE') (fun e a w hq => QOk.from (KLe.refl _) (FLe.refl _) hag hq)
  | some b =>
    obtain ⟨arr, hsz, hlen', hcv, hFle, I'⟩ := I.freeze hH hi hb
    have hE' : ER κ (fun c => if c = b then some arr else F c) N ⟨retold ts (.cs (cells.take (n * es)) n) s.e, s.d⟩ a := by
      refine ⟨fun t => ?_, hE.size, hE.d⟩
      simp only [retold]
      cases hm : memA ts t with
      | false => exact (hE.e t).mono (KLe.refl _) hFle
      | true =>
        have := hE.e t
        rw [he t hm] at this
        generalize a.tmps.getD t undef = x at this
        obtain ⟨i2, adr, c, rfl, hi2, _, hlc, _, _, hadr, _⟩ := VR.slOf I this hH
        rw [hi] at hi2; cases hi2
        rcases hadr with hc | ⟨b', hb', rfl⟩
        · have hn : n = 0 := by omega
          subst hn
          simp; exact .cs0 _ _
        · rw [hb] at hb'; cases hb'
          refine .cs (arr := arr) (by simp) (by simp; omega) hlc (fun j hj => ?_)
          have hj' : j < cells.length := by simp at hj; omega
          have := (hcv j hj').mono (KLe.refl _) hFle
          simpa using this
    exact wpIn_mono (h.out κ _ B w0 w a I' hE') (fun e a w hq => QOk.from (KLe.refl _) hFle hag hq)

/-- A nil slice told as a row without elements. -/
theorem AWp_nilrow {N : Nat} {ro : Option Nat} {ws : Nat → Bool} {c : Code} {K R : St → AH → Prop} {X : Nat → St → AH → Prop} {s : St} {H : AH} (ts : List Nat) (es : Nat) (hts : ts.all ws = true) (he : ∀ t, memA ts t = true → s.e t = .nils)
    (h : ∀ r, H r = none → AWp N P ro ws c K R X ⟨retold ts (.sl r 0 es 0 0 none) s.e, s.d⟩ (H.set r (.row [] 0))) : AWp N P ro ws c K R X s H := by
  refine ⟨fun κ F B w0 w a I hE => ?_⟩
  obtain ⟨r, hr, hkr⟩ := I.fresh
  obtain ⟨hle, I'⟩ := I.ghost es hr hkr
  have hag : Agree ws s ⟨retold ts (.sl r 0 es 0 0 none) s.e, s.d⟩ := by
    intro t ht
    simp only [retold]
    cases hm : memA ts t with
    | false => rfl
    | true => rw [all_mem hts t ((memA_iff _ _).1 hm)] at ht; cases ht
  have hE' : ER (κ.put r 0 ⟨none, 0, es⟩) F N ⟨retold ts (.sl r 0 es 0 0 none) s.e, s.d⟩ a := by
    refine ⟨fun t => ?_, hE.size, hE.d⟩
    simp only [retold]
    cases hm : memA ts t with
    | false => exact (hE.e t).mono hle (FLe.refl _)
    | true =>
      have := hE.e t
      rw [he t hm] at this
      generalize a.tmps.getD t undef = x at this
      cases this with
      | nils adr => exact .sl (KM.put_same ..) (lo := 0) (by simp) (by simp) (show _ = _ by simp) (by simp) (Or.inl rfl)
  exact wpIn_mono ((h r hr).out _ F B w0 w a I' hE') (fun e a w hq => QOk.from hle (FLe.refl _) hag hq)

/-- Less is said of the heap and of temporaries. -/
theorem AWp_less {N : Nat} {ro : Option Nat} {ws : Nat → Bool} {c : Code} {K R : St → AH → Prop} {X : Nat → St → AH → Prop} {s : St} {H : AH} (H' : AH) (hH : HLe H' H) (h : AWp N P ro ws c K R X s H') : AWp N P ro ws c K R X s H :=
  ⟨fun κ F B w0 w a I hE => h.out κ F B w0 w a (I.less hH.le) hE⟩

/-! ### A function -/
def argsE (args : List AV) : Env := fun t => args.getD t .junk

def resL (T : TT) (H : AH) : List ResultVar → Env → (List AV → Prop) → Prop
  | [], _, K => K []
  | .tmp t :: r, e, K => force (e t) fun v => resL T H r e fun vs => K (v :: vs)
  | .cell a t :: r, e, K => match T.get t with | some tr => loadA tr (e a) H fun v => resL T H r e fun vs => K (v :: vs) | none => False

def resA (T : TT) (l : List ResultVar) (e : Env) (H : AH) (K : AV → AH → Prop) : Prop :=
  match l with
  | [.tmp t] => force (e t) fun v => K v H
  | [.cell a t] => match T.get t with | some tr => loadA tr (e a) H fun v => K v H | none => False
  | l => resL T H l e fun vs => K (.tup vs) H

theorem run_asAddr {t : TypeId} {v x : Value} {w' : World} (h : (Instr.loadAt t v).run P w = .ok x w') : ((do loadVar t (← asAddr v)) : Sem Value).run P w = .ok x w' := by
  unfold Instr.loadAt at h
  cases v <;> try (simp [Instr.sureAddr] at h; done)
  rename_i p
  cases p with
  | none => simp [Instr.sureAddr] at h
  | some a => simpa [Instr.sureAddr, asAddr] using h

theorem resL_run (hT : T.ok P = true) (I : Inv κ F B w0 H w) {e : Env} {tmps : Array Value} (he : ∀ t, VR κ F (e t) (tmps.getD t undef)) (f : ResultVar → Sem Value) (hf1 : ∀ t, f (.tmp t) = pure (tmps.getD t undef))
    (hf2 : ∀ a t, f (.cell a t) = do loadVar t (← asAddr (tmps.getD a undef))) : ∀ (l : List ResultVar) (K : List AV → Prop), resL T H l e K →
    ∃ (vs : List Value) (ys : List AV), (l.mapM f).run P w = .ok vs w ∧ vs.length = l.length ∧ ys.length = vs.length ∧ (∀ i (hi : i < ys.length) (hi' : i < vs.length), VR κ F ys[i] vs[i]) ∧ K ys
  | [], K, h => ⟨[], [], by simp, rfl, rfl, fun i hi => by simp at hi, h⟩
  | .tmp t :: r, K, h => by
    simp only [resL, force_eq] at h
    obtain ⟨vs, ys, h1, h2, h3, h4, h5⟩ := resL_run hT I he f hf1 hf2 r _ h
    refine ⟨tmps.getD t undef :: vs, e t :: ys, by simp [List.mapM_cons, hf1, h1], by simp [h2], by simp [h3], fun i hi hi' => ?_, h5⟩
    cases i with
    | zero => exact he t
    | succ i => exact h4 i (by simpa using hi) (by simpa using hi')
  | .cell a t :: r, K, h => by
    simp only [resL] at h
    split at h
    · rename_i tr hg
      obtain ⟨TF⟩ := tr_facts (TT.ok_get hT hg)
      obtain ⟨x, y, hrun, hv, hK⟩ := loadA_ok TF I (he a) h
      obtain ⟨vs, ys, h1, h2, h3, h4, h5⟩ := resL_run hT I he f hf1 hf2 r _ hK
      have hrun' := run_asAddr hrun
      refine ⟨x :: vs, y :: ys, ?_, by simp [h2], by simp [h3], fun i hi hi' => ?_, h5⟩
      · simp only [List.mapM_cons, hf2, Sem.run_bind] at hrun' ⊢
        rw [hrun']
        simp [h1]
      · cases i with
        | zero => exact hv
        | succ i => exact h4 i (by simpa using hi) (by simpa using hi')
    · exact h.elim

theorem results_tmps (hT : T.ok P = true) (I : Inv κ F B w0 H w) {fn : Func} {a : Act} {e : Env} (he : ∀ t, VR κ F (e t) (a.tmps.getD t undef)) {K : AV → AH → Prop} (h : resA T fn.results.toList e H K) :
    ∃ v y, (results fn a.tmps).run P w = .ok v w ∧ VR κ F y v ∧ K y H := by
  unfold results
  obtain ⟨rl, hrl⟩ : ∃ rl, fn.results.toList = rl := ⟨_, rfl⟩
  rw [hrl] at h
  have hres : fn.results = rl.toArray := by rw [← hrl]
  rw [hres]
  unfold resA at h
  split at h
  · rename_i t
    rw [force_eq] at h
    refine ⟨_, _, ?_, he t, h⟩
    simp
  · rename_i b t
    split at h
    · rename_i tr hg
      obtain ⟨TF⟩ := tr_facts (TT.ok_get hT hg)
      obtain ⟨x, y, hrun, hv, hK⟩ := loadA_ok TF I (he b) h
      have hrun' := run_asAddr hrun
      refine ⟨x, y, ?_, hv, hK⟩
      simp only [List.mapM_toArray, List.mapM_cons, List.mapM_nil, Sem.run_bind, Sem.run_map] at hrun' ⊢
      rw [hrun']
      simp
    · exact h.elim
  · rename_i hno1 hno2
    have main : ∀ (f : ResultVar → Sem Value), (∀ t, f (.tmp t) = pure (a.tmps.getD t undef)) → (∀ b t, f (.cell b t) = do loadVar t (← asAddr (a.tmps.getD b undef))) →
        ∃ v y, ((do let vs ← rl.toArray.mapM f; pure (if h : vs.size = 1 then vs[0] else .tuple vs)) : Sem Value).run P w = .ok v w ∧ VR κ F y v ∧ K y H := by
      intro f hf1 hf2
      obtain ⟨vs, ys, h1, h2, h3, h4, h5⟩ := resL_run hT I he f hf1 hf2 rl _ h
      refine ⟨.tuple vs.toArray, .tup ys, ?_, ?_, h5⟩
      · simp only [List.mapM_toArray, Sem.run_bind, Sem.run_map]
        rw [h1]
        simp only [Result.andThen_ok]
        have hlen : ¬ (vs.toArray.size = 1) := by
          intro hs
          have : rl.length = 1 := by rw [← h2]; simpa using hs
          match rl, this with
          | [.tmp t], _ => exact hno1 t rfl
          | [.cell a' t], _ => exact hno2 a' t rfl
        rw [dif_neg hlen]
        rfl
      · refine .tup (by simp [h3]) fun i hi => ?_
        have := h4 i hi (by omega)
        simpa [Array.getD_eq_getD_getElem?, show i < vs.length by omega] using this
    refine main _ ?_ ?_
    · exact fun _ => rfl
    · exact fun _ _ => rfl

/-- A FUNCTION's CONTRACT, out of its body. -/
theorem ACall_of (hT : T.ok P = true) {g : FuncId} {fn : Func} {c : Code} {args : List AV} {K : AV → AH → Prop} (hdraw : DrawOk P T fn.ntmps) (hf : P.funcs[g]? = some fn) (hb : fn.body = some c) (hnm : (fn.name == "runtime.NumGoroutine") = false)
    (hsz : Nat.ble args.length fn.ntmps = true) (h : AWq fn.ntmps P T none (fun _ => true) c (fun s H => s.d = [] ∧ resA T fn.results.toList s.e H K) (fun s H => s.d = [] ∧ resA T fn.results.toList s.e H K) (fun _ _ _ => False) ⟨argsE args, []⟩ H) :
    ACall P g args H K := by
  have hsz := Nat.le_of_ble_eq_true hsz
  refine ⟨⟨fn, hf, by rw [hb]; rfl, hnm⟩, ?_⟩
  intro κ F B w0 w cargs I hA
  refine callsIn_wide (n := 0) |>.1 (callsIn_of_wp hf hb trivial ?_)
  have hE : ER κ F fn.ntmps ⟨argsE args, []⟩ { tmps := cargs ++ Array.replicate (fn.ntmps - cargs.size) undef, defers := [] } := by
    refine ⟨fun t => ?_, by simp [hA.1]; omega, rfl⟩
    simp only [argsE]
    by_cases ht : t < args.length
    · have := hA.2 t ht
      simp only [List.getD_eq_getElem?_getD, List.getElem?_eq_getElem ht, Option.getD_some]
      simp only [Array.getD_eq_getD_getElem?] at this ⊢
      rw [Array.getElem?_append_left (by rw [hA.1]; exact ht)]
      exact this
    · simp only [List.getD_eq_getElem?_getD, List.getElem?_eq_none (Nat.le_of_not_lt ht), Option.getD_none]
      exact .junk _
  refine wpIn_mono ((h.out hT hdraw (fun _ _ => rfl)).out κ F B w0 w _ I hE) ?_
  have fin : ∀ a' w', Out κ F B w0 fn.ntmps (fun _ => true) ⟨argsE args, []⟩ (fun s H => s.d = [] ∧ resA T fn.results.toList s.e H K) a' w' →
      a'.defers = [] ∧ ∃ v, (results fn a'.tmps).run P w' = .ok v w' ∧ CPost κ F B w0 K (.returned v) w' := by
    rintro a' w' ⟨s', H', κ', F', h1, h2, h3, h4, _, h6, h7⟩
    obtain ⟨v, y, hr, hy, hK⟩ := results_tmps hT h3 h4.e h7
    exact ⟨by rw [h4.d, h6]; rfl, v, hr, v, rfl, y, H', κ', F', h1, h2, h3, hy, hK⟩
  intro e a' w' hq
  cases e with
  | normal => exact fin a' w' hq
  | ret => exact fin a' w' hq
  | exit id =>
    obtain ⟨_, _, _, _, _, _, _, _, _, hx⟩ := hq
    exact hx.elim
  | _ => exact hq.elim

end Go.Fw
