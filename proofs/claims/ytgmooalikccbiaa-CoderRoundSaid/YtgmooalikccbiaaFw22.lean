/- The frame of the abstract walk, part 22: cells of rows told anew. -/
import Derived.Test.YtgmooalikccbiaaFw21
set_option linter.unusedVariables false
set_option linter.unusedSimpArgs false
namespace Go.Fw
open Go.RowKit

variable {κ : KM} {F : FM} {B : Nat} {w0 w : World} {H : AH} {P : Program} {T : TT}

/-- A row's cells are told anew, each a way that it may be told. -/
theorem Inv.rowTo (I : Inv κ F B w0 H w) {p u : Nat} {cells cells' : List AV} (hp : H p = some (.row cells u)) (hl : cells'.length = cells.length)
    (h : ∀ j (hj : j < cells.length) (hj' : j < cells'.length) x, VR κ F cells[j] x → VR κ F cells'[j] x) : Inv κ F B w0 (H.set p (.row cells' u)) w := by
  refine ⟨I.below, I.base, I.fz, I.names, fun s o hs => ?_, fun s s' o1 o2 i1 i2 c h1 h2 hne hk1 hk2 hb1 => ?_⟩
  · by_cases e : s = p
    · subst e
      rw [AH.set_same] at hs; cases hs
      obtain ⟨i, hi, hrow, hn⟩ := I.objs _ _ hp
      refine ⟨i, hi, ?_, hn⟩
      cases hb : i.blk with
      | none =>
        simp only [RowOk, hb] at hrow ⊢
        refine ⟨?_, hrow.2⟩
        apply List.eq_nil_of_length_eq_zero
        rw [hl, hrow.1]; rfl
      | some b =>
        simp only [RowOk, hb] at hrow ⊢
        obtain ⟨hB, hFb, arr, e, fr, hh, hlo, hsz, hlen, hc⟩ := hrow
        exact ⟨hB, hFb, arr, e, fr, hh, hlo, hsz, by omega, fun j hj => h j (by omega) hj _ (hc j (by omega))⟩
    · rw [AH.set_ne _ _ e] at hs; exact I.objs _ _ hs
  · have old : ∀ t ot, H.set p (.row cells' u) t = some ot → ∃ ot', H t = some ot' ∧ ot'.ver = ot.ver := by
      intro t ot h
      by_cases e : t = p
      · subst e; rw [AH.set_same] at h; cases h; exact ⟨_, hp, rfl⟩
      · rw [AH.set_ne _ _ e] at h; exact ⟨ot, h, rfl⟩
    obtain ⟨o1', h1', e1⟩ := old _ _ h1
    obtain ⟨o2', h2', e2⟩ := old _ _ h2
    exact I.apart _ _ _ _ _ _ _ h1' h2' hne (by rw [e1]; exact hk1) (by rw [e2]; exact hk2) hb1

theorem VR.slF {F2 : FM} {r v es off len : Nat} {lim : Option Nat} {x : Value} (h : VR κ F2 (.sl r v es off len lim) x) : VR κ F (.sl r v es off len lim) x := by
  cases h with
  | sl h hoff hlo hc hlen ha => exact .sl h hoff hlo hc hlen ha

/-- A row that nobody writes any more: all slices that lead to it may be told as constants. -/
theorem Inv.coolAll (I : Inv κ F B w0 H w) {r v : Nat} {cells : List AV} (hH : H r = some (.row cells v)) :
    ∃ F', FLe F F' ∧ Inv κ F' B w0 (H.del r) w ∧ ∀ F2 x es n lim, cells.length = n * es → VR κ F2 (.sl r v es 0 n lim) x → VR κ F' (.cs cells n) x := by
  obtain ⟨i, hi, hrow, hn0⟩ := I.objs _ _ hH
  have hi' : κ r v = some i := hi
  cases hb : i.blk with
  | none =>
    have hc0 : cells = [] ∧ i.cap = 0 := by simpa only [RowOk, hb] using hrow
    refine ⟨F, FLe.refl _, I.drop r, fun F2 x es n lim hlen hv => ?_⟩
    have hv := VR.slF (F := F) hv
    obtain ⟨i2, adr, c, rfl, hi2, _, hlc, _, _, hadr, lo, _, hlo, hlim⟩ := VR.slOf I hv hH
    rw [hi'] at hi2; cases hi2
    have hc : c = 0 := by
      cases lim with
      | none => have : c = i.cap - lo := hlim; omega
      | some m => have := hlim.1; have := hlim.2; omega
    have hn : n = 0 := by omega
    subst hn
    rw [hc0.1]; exact .cs0 _ _
  | some b =>
    obtain ⟨arr, hsz, hlen', hcv, hFle, I'⟩ := I.freeze hH hi' hb
    refine ⟨_, hFle, I', fun F2 x es n lim hlen hv => ?_⟩
    have hv := VR.slF (F := F) hv
    obtain ⟨i2, adr, c, rfl, hi2, _, hlc, _, _, hadr, lo, _, hlo, hlim⟩ := VR.slOf I hv hH
    rw [hi'] at hi2; cases hi2
    rcases hadr with hc | ⟨b', hb', rfl⟩
    · have hn : n = 0 := by omega
      subst hn
      have : cells = [] := by apply List.eq_nil_of_length_eq_zero; simpa using hlen
      rw [this]; exact .cs0 _ _
    · rw [hb] at hb'; cases hb'
      exact .cs (arr := arr) (by simp) (by omega) hlc (fun j hj => by
        have := (hcv j hj).mono (KLe.refl _) hFle
        simpa using this)

/-- What is known is told anew, beside the code. -/
theorem AWp_ghost {N : Nat} {ro : Option Nat} {ws : Nat → Bool} {c : Code} {K R : St → AH → Prop} {X : Nat → St → AH → Prop} {s : St} {H : AH} (H' : AH)
    (hg : ∀ κ F B w0 w, Inv κ F B w0 H w → ∃ κ' F', KLe κ κ' ∧ FLe F F' ∧ Inv κ' F' B w0 H' w) (h : AWp N P ro ws c K R X s H') : AWp N P ro ws c K R X s H := by
  refine ⟨fun κ F B w0 w a I hE => ?_⟩
  obtain ⟨κ', F', hk, hF, I'⟩ := hg κ F B w0 w I
  exact wpIn_mono (h.out κ' F' B w0 w a I' (hE.mono hk hF)) (fun e a w hq => QOk.from hk hF (Agree.refl _ _) hq)

/-- One cell of a row: a slice of a row that nobody writes any more. -/
theorem AWp_freezeC {N : Nat} {ro : Option Nat} {ws : Nat → Bool} {c : Code} {K R : St → AH → Prop} {X : Nat → St → AH → Prop} {s : St} {H : AH} {p u r v es n : Nat} {lim : Option Nat} (pre post : List AV) {cells : List AV} (hpr : p ≠ r)
    (hp : H p = some (.row (pre ++ .sl r v es 0 n lim :: post) u)) (hr : H r = some (.row cells v)) (hlen : cells.length = n * es)
    (h : AWp N P ro ws c K R X s ((H.del r).set p (.row (pre ++ .cs cells n :: post) u))) : AWp N P ro ws c K R X s H := by
  refine AWp_ghost _ (fun κ F B w0 w I => ?_) h
  obtain ⟨F', hF, I', hall⟩ := I.coolAll hr
  refine ⟨κ, F', KLe.refl _, hF, I'.rowTo (cells := pre ++ .sl r v es 0 n lim :: post) (by rw [AH.del_ne _ hpr]; exact hp) (by simp) fun j hj hj' x hx => ?_⟩
  by_cases h1 : j < pre.length
  · rw [List.getElem_append_left h1] at hx ⊢; exact hx
  · by_cases h2 : j = pre.length
    · subst h2
      rw [List.getElem_append_right (Nat.le_refl _)] at hx ⊢
      simp only [Nat.sub_self, List.getElem_cons_zero] at hx ⊢
      exact hall _ _ _ _ _ hlen hx
    · obtain ⟨k, hk⟩ : ∃ k, j - pre.length = k + 1 := ⟨j - pre.length - 1, by omega⟩
      rw [List.getElem_append_right (by omega)] at hx ⊢
      simp only [hk, List.getElem_cons_succ] at hx ⊢
      exact hx

/-- One cell of a row: a nil slice, told as a row without elements. -/
theorem AWp_nilC {N : Nat} {ro : Option Nat} {ws : Nat → Bool} {c : Code} {K R : St → AH → Prop} {X : Nat → St → AH → Prop} {s : St} {H : AH} {p u : Nat} (es : Nat) (pre post : List AV)
    (hp : H p = some (.row (pre ++ .nils :: post) u))
    (h : ∀ r, H r = none → r ≠ p → AWp N P ro ws c K R X s ((H.set r (.row [] 0)).set p (.row (pre ++ .sl r 0 es 0 0 none :: post) u))) : AWp N P ro ws c K R X s H := by
  refine ⟨fun κ F B w0 w a I hE => ?_⟩
  obtain ⟨r, hr, hkr⟩ := I.fresh
  have hrp : r ≠ p := fun e => by rw [e, hp] at hr; cases hr
  obtain ⟨hle, I'⟩ := I.ghost es hr hkr
  have I2 := I'.rowTo (cells := pre ++ .nils :: post) (cells' := pre ++ .sl r 0 es 0 0 none :: post) (by rw [AH.set_ne _ _ (Ne.symm hrp)]; exact hp) (by simp) fun j hj hj' x hx => by
    by_cases h1 : j < pre.length
    · rw [List.getElem_append_left h1] at hx ⊢; exact hx
    · by_cases h2 : j = pre.length
      · subst h2
        rw [List.getElem_append_right (Nat.le_refl _)] at hx ⊢
        simp only [Nat.sub_self, List.getElem_cons_zero] at hx ⊢
        cases hx with
        | nils adr => exact .sl (KM.put_same ..) (lo := 0) (by simp) (by simp) (show _ = _ by simp) (by simp) (Or.inl rfl)
      · obtain ⟨k, hk⟩ : ∃ k, j - pre.length = k + 1 := ⟨j - pre.length - 1, by omega⟩
        rw [List.getElem_append_right (by omega)] at hx ⊢
        simp only [hk, List.getElem_cons_succ] at hx ⊢
        exact hx
  exact wpIn_mono ((h r hr hrp).out _ F B w0 w a I2 (hE.mono hle (FLe.refl _))) (fun e a w hq => QOk.from hle (FLe.refl _) (Agree.refl _ _) hq)
end Go.Fw
