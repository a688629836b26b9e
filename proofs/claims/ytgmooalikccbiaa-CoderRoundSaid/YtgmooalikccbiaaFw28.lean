/- The frame of the abstract walk, part 28: drawn regions that make rows, walked. -/
import Derived.Test.YtgmooalikccbiaaFw27
set_option linter.unusedVariables false
set_option linter.unusedSimpArgs false
namespace Go.Fw
open Go.RowKit

variable {κ : KM} {F : FM} {B : Nat} {w0 w : World} {H : AH} {P : Program} {T : TT}

structure DrawL (N : Nat) (P : Program) (T : TT) (cl : List (Nat × Nat)) (nm : Nat → Nat) (l : List Oper) (K : St → AH → Prop) (s : St) (H : AH) : Prop where
  out : drawLS N P T cl nm l K s H

/-- An operation that does not hang on memory; rows that it makes are not written later. -/
def pureL (P : Program) (T : TT) (o : Op) (e : Env) (K : AV → Prop) : Prop :=
  match o with
  | .load t a => (match T.get t with | some tr => loadC tr (ev e a) K | none => False)
  | .buildSlice t len parts => cond (Nat.beq len 0) (bsA T e t len parts fun _ => K .nils) (bsA T e t len parts K)
  | .makeSlice t l c =>
    (match T.get t, ev e l, ev e c with
     | some ⟨.slice _ esz eb ez, _, _, _⟩, .int _ l, .int _ c => 0 ≤ l ∧ l ≤ c ∧ c * eb ≤ 140737488355328 ∧ ((List.replicate l.toNat ez).flatten).length = l.toNat * esz ∧ K (.cs ((List.replicate l.toNat ez).flatten) l.toNat)
     | _, _, _ => False)
  | .slice t x lo hi mx =>
    (match ev e x with
     | .cs cells n => opA T (.slice t x lo hi mx) e (fun _ => none) fun v _ => K v
     | _ => False)
  | .call c => (match c.callee with
     | .value _ => ∃ v, (∀ G, stepA P T (.call c) e G (fun v' H' => v' = v ∧ H' = G)) ∧ K v
     | _ => when (isPure T (.call c) && isDet T (.call c)) (opA T (.call c) e (fun _ => none) fun v _ => K v))
  | o => when (isPure T o && isDet T o) (opA T o e (fun _ => none) fun v _ => K v)

theorem pure_all {o : Op} {e : Env} {K : AV → Prop} (h : when (isPure T o && isDet T o) (opA T o e (fun _ => none) fun v _ => K v)) : ∃ v, (∀ G, LStep0 P T o e G v) ∧ K v := by
  obtain ⟨h1, h2⟩ := when_iff.1 h
  rw [Bool.and_eq_true] at h1
  obtain ⟨v, h3, h4⟩ := opA_det (H := fun _ => none) (K := fun v _ => K v) h1.2 h2
  obtain ⟨_, h5⟩ := opA_pure h1.1 h3
  refine ⟨v, fun G => .inl ?_, h4⟩
  rw [stepA_pure h1.1]
  exact h5 G

theorem bsA_get {e : Env} {t : TypeId} {len : Nat} {parts : Array (Nat × Operand)} {K : AV → Prop} (h : bsA T e t len parts K) : ∃ esz eb ez n ag z a, T.get t = some ⟨.slice a esz eb ez, n, ag, z⟩ ∧ ∃ cells, fillA (fun i => some (i * esz, esz)) ((List.replicate len ez).flatten) (parts.toList.map fun p => (p.1, ev e p.2)) = some cells ∧ Nat.ble (len * esz) 16777216 = true ∧ K (.cs cells len) := by
  unfold bsA at h
  split at h
  · rename_i a esz eb ez n ag z hg
    split at h
    · rename_i cells hf
      obtain ⟨h1, h2⟩ := when_iff.1 h
      rw [forceL_eq] at h2
      exact ⟨esz, eb, ez, n, ag, z, a, hg, cells, hf, h1, h2⟩
    · exact h.elim
  · exact h.elim

theorem pureL_ok {o : Op} {e : Env} {K : AV → Prop} (h : pureL P T o e K) : ∃ v, (∀ G, LStep0 P T o e G v) ∧ K v := by
  unfold pureL at h
  split at h
  · rename_i t a
    split at h
    · rename_i tr hg
      obtain ⟨v, h1, h2⟩ := det_loadC _ _ _ h
      refine ⟨v, fun G => .inl ?_, h2⟩
      show opA T (.load t a) e G (fun v' H' => v' = v ∧ H' = G)
      simp only [opA, hg]
      simpa using loadC_ok (H := G) h1
    · exact h.elim
  · rename_i t len parts
    cases hb : Nat.beq len 0 with
    | true =>
      rw [hb] at h
      simp only [cond_true] at h
      obtain ⟨esz, eb, ez, n, ag, z, a, hg, cells, hf, h1, h2⟩ := bsA_get (K := fun _ => K .nils) h
      refine ⟨.nils, fun G => .inl ?_, h2⟩
      show opA T (.buildSlice t len parts) e G (fun v' H' => v' = .nils ∧ H' = G)
      simp only [opA, hg, hf]
      exact when_iff.2 ⟨h1, .inr (.inr ⟨Nat.eq_of_beq_eq_true hb, by simp⟩)⟩
    | false =>
      rw [hb] at h
      simp only [cond_false] at h
      obtain ⟨esz, eb, ez, n, ag, z, a, hg, cells, hf, h1, h2⟩ := bsA_get h
      refine ⟨.cs cells len, fun G => .inl ?_, h2⟩
      show opA T (.buildSlice t len parts) e G (fun v' H' => v' = .cs cells len ∧ H' = G)
      simp only [opA, hg, hf]
      refine when_iff.2 ⟨h1, .inl ?_⟩
      rw [forceL_eq]
      simp
  · rename_i t ol oc
    split at h
    · rename_i a esz eb ez n ag z k1 l k2 c hg hl hc
      obtain ⟨h1, h2, h3, h4, h5⟩ := h
      refine ⟨_, fun G => .inr ⟨_, _, esz, rfl, h4, ?_⟩, h5⟩
      unfold Makes stepA
      simp only [opA, hg, hl, hc]
      exact ⟨h1, h2, h3, fun r hr => ⟨r, hr, rfl, rfl⟩⟩
    · exact h.elim
  · rename_i t x lo hi mx
    split at h
    · rename_i cells n hx
      have hd : isDet T (.slice t x lo hi mx) = true := rfl
      obtain ⟨v, h3, h4⟩ := opA_det (H := fun _ => none) (K := fun v _ => K v) hd h
      refine ⟨v, fun G => .inl ?_, h4⟩
      show opA T (.slice t x lo hi mx) e G (fun v' H' => v' = v ∧ H' = G)
      simp only [opA] at h3 ⊢
      split at h3
      · rename_i d lo' hi' mx' hg h5 h6 h7
        exact h3
      · exact h3.elim
    · exact h.elim
  · rename_i c
    split at h
    · rename_i f hf
      obtain ⟨v, h1, h2⟩ := h
      exact ⟨v, fun G => .inl (h1 G), h2⟩
    · exact pure_all h
  · exact pure_all h

/-- An append to a row of this region's. -/
def appendL (esz eb : Nat) (s x : AV) (q : Nat) (ob : AO) (K : AV → AO → Prop) : Prop :=
  match x with
  | .cs new n => new.length = n * esz ∧ new.all one = true ∧
    match s with
    | .nils => ob = .row [] 0 ∧ n * eb ≤ 140737488355328 ∧ K (.sl q 1 esz 0 n none) (.row new 1)
    | .sl r v es off len lim => r = q ∧ when (Nat.beq es esz && Nat.beq off 0 && lim.isNone) (∃ cells, ob = .row cells v ∧ cells.length = len * esz ∧ (2 * (len + n)) * eb ≤ 140737488355328 ∧ K (.sl q (v + 1) esz 0 (len + n) none) (.row (cells ++ new) (v + 1)))
    | _ => False
  | _ => False
def appL (T : TT) (q : Nat) (ob : AO) (o : Op) (e : Env) (K : AV → AO → Prop) : Prop :=
  match o with
  | .call c => (match c.callee with
    | .builtin .append => (match c.argTypes.toList, c.args.toList.map (ev e) with
      | [t, u], [s, x] => (match T.get t, T.get u with
        | some ⟨.slice _ esz eb _, _, _, _⟩, some ⟨.slice .., _, _, _⟩ => appendL esz eb s x q ob K
        | _, _ => False)
      | _, _ => False)
    | _ => False)
  | _ => False

theorem appL_ok {q : Nat} {ob : AO} {o : Op} {e : Env} {K : AV → AO → Prop} (h : appL T q ob o e K) : ∃ v o', (∀ G, G q = some ob → LStep1 P T o e G q v o') ∧ K v o' := by
  unfold appL at h
  split at h
  · rename_i c
    split at h
    · rename_i hc
      split at h
      · rename_i t u s x hts has
        split at h
        · rename_i a esz eb ez n0 ag z a2 esz2 eb2 ez2 n02 ag2 z2 hg hg2
          unfold appendL at h
          cases x with
          | cs new n =>
            obtain ⟨h1, h2, h⟩ := h
            have step : ∀ (G : AH) (KK : AV → AH → Prop), appendA esz eb s (.cs new n) G KK → stepA P T (.call c) e G KK := fun G KK hk => by
              unfold stepA
              simp only [hc]
              show opA T (.call c) e G KK
              simp only [opA, hc, hts, has, builtinA, hg, hg2]
              exact hk
            cases s with
            | nils =>
              obtain ⟨h3, h4, h5⟩ := h
              refine ⟨_, _, fun G hG => .inr ⟨new, n, esz, rfl, rfl, by rw [hG, h3], ?_⟩, h5⟩
              refine step G _ ?_
              exact ⟨h1, h2, h4, fun r hr => ⟨r, hr, rfl, rfl⟩⟩
            | sl r v es off len lim =>
              obtain ⟨rfl, h⟩ := h
              obtain ⟨hw, cells, h3, h4, h5, h6⟩ := when_iff.1 h
              refine ⟨_, _, fun G hG => .inl ?_, h6⟩
              refine step G _ ?_
              exact ⟨h1, h2, when_iff.2 ⟨hw, cells, by rw [hG, h3], h4, h5, rfl, rfl⟩⟩
            | _ => exact h.elim
          | _ => exact h.elim
        · exact h.elim
      · exact h.elim
    · exact h.elim
  · exact h.elim

def drawLD (N : Nat) (P : Program) (T : TT) (cl : List (Nat × Nat)) (nm : Nat → Nat) (o : Oper) (rest : List Oper) (K : St → AH → Prop) (e : Env) (d : List Nat) (H : AH) : Prop :=
  match o.dst with
  | none => False
  | some t => when (Nat.blt t N && o.guard.isNone) (match cOf cl (some t) with
    | none => pureL P T o.op e fun v => force v fun v => DrawL N P T cl nm rest K ⟨upd e t v, d⟩ H
    | some c => ∃ ob, H (nm c) = some ob ∧ appL T (nm c) ob o.op e fun v o' => force v fun v => DrawL N P T cl nm rest K ⟨upd e t v, d⟩ (H.set (nm c) o'))

theorem DrawL.nil {N : Nat} {cl : List (Nat × Nat)} {nm : Nat → Nat} {K : St → AH → Prop} {s : St} (h : K s H) : DrawL N P T cl nm [] K s H := ⟨h⟩
theorem DrawL.consD {N : Nat} {cl : List (Nat × Nat)} {nm : Nat → Nat} {o : Oper} {rest : List Oper} {K : St → AH → Prop} {e : Env} {d : List Nat} (h : drawLD N P T cl nm o rest K e d H) : DrawL N P T cl nm (o :: rest) K ⟨e, d⟩ H := by
  refine ⟨?_⟩
  unfold drawLD at h
  unfold drawLS
  split at h
  · exact h.elim
  · rename_i t hd
    obtain ⟨h1, h2⟩ := when_iff.1 h
    rw [Bool.and_eq_true] at h1
    refine ⟨by rw [hd]; exact h1.1, by simpa using h1.2, ?_⟩
    rw [hd]
    split at h2
    · rename_i hc
      rw [hc]
      obtain ⟨v, h3, h4⟩ := pureL_ok h2
      rw [force_eq] at h4
      exact ⟨v, h3, h4.out⟩
    · rename_i c hc
      rw [hc]
      obtain ⟨ob, h3, h4⟩ := h2
      obtain ⟨v, o', h5, h6⟩ := appL_ok (P := P) h4
      rw [force_eq] at h6
      exact ⟨ob, v, o', h3, h5, h6.out⟩

theorem AWq.drawL (hm : P.follows .mixedOrders = true) {N : Nat} {ro : Option Nat} {ws : Nat → Bool} {id : Nat} {ops : Array Oper} {K R : St → AH → Prop} {X : Nat → St → AH → Prop} {s : St} (cl : List (Nat × Nat)) (nm : Nat → Nat)
    (hnm : ∀ c c', c ∈ cl.map (·.2) → c' ∈ cl.map (·.2) → nm c = nm c' → c = c') (hord : (orderOk ops && ordC ops cl) = true) (h : DrawL N P T cl nm ops.toList K s H) :
    AWq N P T ro ws (.region id ops true) K R X s H :=
  ⟨fun hT hdraw hw => AWp_drawL hT hm cl nm hnm (List.all_eq_true.2 hw) hord h.out⟩

/-- An empty row, for later. -/
theorem AWp_spare {N : Nat} {ro : Option Nat} {ws : Nat → Bool} {c : Code} {K R : St → AH → Prop} {X : Nat → St → AH → Prop} {s : St} (h : ∀ r, H r = none → AWp N P ro ws c K R X s (H.set r (.row [] 0))) : AWp N P ro ws c K R X s H := by
  refine ⟨fun κ F B w0 w a I hE => ?_⟩
  obtain ⟨r, hr, hkr⟩ := I.fresh
  obtain ⟨hle, I'⟩ := I.ghost 1 hr hkr
  refine wpIn_mono ((h r hr).out _ F B w0 w a I' (hE.mono hle (FLe.refl _))) ?_
  intro e a'' w'' hq
  exact QOk.from hle (FLe.refl _) (Agree.refl _ _) hq
end Go.Fw
