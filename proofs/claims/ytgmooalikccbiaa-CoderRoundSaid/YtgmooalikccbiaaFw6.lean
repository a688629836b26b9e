/- The frame of the abstract walk, part 6: slices, append, copy, conversions. -/
import Derived.Test.YtgmooalikccbiaaFw5
set_option linter.unusedVariables false
set_option linter.unusedSimpArgs false
namespace Go.Fw
open Go.RowKit

variable {κ : KM} {F : FM} {B : Nat} {w0 w : World} {H : AH} {P : Program}

/-- A bound that is written, or not. -/
def OptV : Option Int → Option Value → Prop
  | none, none => True
  | some i, some v => ∃ k, v = .int k i
  | _, _ => False

theorem run_sliceBound (k : IntKind) (i : Int) (y : Nat) (c : BoundsCode) (h : 0 ≤ i ∧ i ≤ y) (w : World) : (Instr.sliceBound (.int k i) y c).run P w = .ok i.toNat w := by
  unfold Instr.sliceBound
  simp [asIntOf_run, h]

theorem run_sliceBounds {sl : Bool} {len cap : Nat} {lo hi mx : Option Int} {vlo vhi vmx : Option Value} (hlo : OptV lo vlo) (hhi : OptV hi vhi) (hmx : OptV mx vmx)
    (h0 : 0 ≤ lo.getD 0) (h1 : lo.getD 0 ≤ hi.getD len) (h2 : hi.getD len ≤ mx.getD cap) (h3 : mx.getD cap ≤ cap) (h4 : mx.isSome → hi.isSome) (w : World) :
    (Instr.sliceBounds sl len cap vlo vhi vmx).run P w = .ok ((lo.getD 0).toNat, (hi.getD len).toNat, (mx.getD cap).toNat) w := by
  unfold Instr.sliceBounds
  cases mx with
  | none =>
    cases vmx with
    | some v => exact hmx.elim
    | none =>
      cases hi with
      | none =>
        cases vhi with
        | some v => exact hhi.elim
        | none =>
          cases lo with
          | none => cases vlo with
            | some v => exact hlo.elim
            | none => simp
          | some l => cases vlo with
            | none => exact hlo.elim
            | some v =>
              obtain ⟨k, rfl⟩ := hlo
              simp at h0 h1 h2 h3
              have := run_sliceBound (P := P) k l len .sliceB ⟨h0, h1⟩ w
              simp [this]
      | some h =>
        cases vhi with
        | none => exact hhi.elim
        | some v =>
          obtain ⟨k, rfl⟩ := hhi
          simp at h0 h1 h2 h3
          have hh : ∀ c, (Instr.sliceBound (.int k h) cap c).run P w = .ok h.toNat w := fun c => run_sliceBound (P := P) k h cap c ⟨by omega, h2⟩ w
          cases lo with
          | none => cases vlo with
            | some v => exact hlo.elim
            | none => simp [hh]
          | some l => cases vlo with
            | none => exact hlo.elim
            | some v =>
              obtain ⟨k', rfl⟩ := hlo
              simp at h0 h1
              have := run_sliceBound (P := P) k' l h.toNat .sliceB ⟨h0, by omega⟩ w
              simp [hh, this]
  | some m =>
    cases vmx with
    | none => exact hmx.elim
    | some v =>
      obtain ⟨k0, rfl⟩ := hmx
      cases hi with
      | none => simp at h4
      | some h =>
        cases vhi with
        | none => exact hhi.elim
        | some v =>
          obtain ⟨k, rfl⟩ := hhi
          simp at h0 h1 h2 h3
          have hm : ∀ c, (Instr.sliceBound (.int k0 m) cap c).run P w = .ok m.toNat w := fun c => run_sliceBound (P := P) k0 m cap c ⟨by omega, h3⟩ w
          have hh : ∀ c, (Instr.sliceBound (.int k h) m.toNat c).run P w = .ok h.toNat w := fun c => run_sliceBound (P := P) k h m.toNat c ⟨by omega, by omega⟩ w
          cases lo with
          | none => cases vlo with
            | some v => exact hlo.elim
            | none => simp [hm, hh]
          | some l => cases vlo with
            | none => exact hlo.elim
            | some v =>
              obtain ⟨k', rfl⟩ := hlo
              simp at h0 h1
              have := run_sliceBound (P := P) k' l h.toNat .slice3C ⟨h0, by omega⟩ w
              simp [hm, hh, this]

theorem sliceA_ok {t : TypeId} {tr : TR} (hT : trOk P t tr = true) {a : AV} {v : Value} {lo hi mx : Option Int} {vlo vhi vmx : Option Value} {K : AV → Prop}
    (ha : VR κ F a v) (hlo : OptV lo vlo) (hhi : OptV hi vhi) (hmx : OptV mx vmx) (h0 : sliceA tr.d a lo hi mx K) :
    ∃ x y, (Instr.sliceAt t v vlo vhi vmx).run P w = .ok x w ∧ VR κ F y x ∧ K y := by
  have h := sliceA_sound h0
  clear h0
  obtain ⟨d, n, ag, z⟩ := tr
  cases d with
  | str =>
    have hu := tr_str hT
    cases a with
    | str s =>
      obtain ⟨h0, h1, h2, rfl, hK⟩ := h
      cases ha
      have hb := run_sliceBounds (P := P) (sl := false) (len := s.length) (cap := s.length) hlo hhi hmx h0 h1 (by simpa using h2) (by simp) (by simp) w
      refine ⟨.string ((⟨s.toArray⟩ : ByteArray).extract (lo.getD 0).toNat (hi.getD s.length).toNat), _, ?_, ?_, hK⟩
      · cases vmx with
        | some v => exact hmx.elim
        | none =>
          unfold Instr.sliceAt Instr.slice
          have e : (⟨s.toArray⟩ : ByteArray).size = s.length := by simp [ByteArray.size]
          simp [run_underlying hu, e, hb]
      · have e : (⟨s.toArray⟩ : ByteArray).extract (lo.getD 0).toNat (hi.getD s.length).toNat = ⟨((s.drop (lo.getD 0).toNat).take ((hi.getD s.length).toNat - (lo.getD 0).toNat)).toArray⟩ := by
          apply ByteArray.ext
          simp [ByteArray.data_extract]
        rw [e]; exact .str _
    | _ => exact h.elim
  | slice e esz eb ez =>
    obtain ⟨hu, ⟨i, _, hi', his, _⟩, _, hne, _⟩ := tr_slice hT
    have hs : ∀ w, (sizeOf e).run P w = .ok esz w := fun w => by rw [run_sizeOf hi', his]
    have run : ∀ adr len c, v = .slice adr len c → 0 ≤ lo.getD 0 → lo.getD 0 ≤ hi.getD len → hi.getD len ≤ mx.getD c → mx.getD c ≤ c → (mx.isSome → hi.isSome) →
        (Instr.sliceAt t v vlo vhi vmx).run P w = .ok (.slice (if (mx.getD c).toNat = (lo.getD 0).toNat then adr else adr.map (·.add ((lo.getD 0).toNat * esz))) ((hi.getD len).toNat - (lo.getD 0).toNat) ((mx.getD c).toNat - (lo.getD 0).toNat)) w := by
      intro adr len c hv h0 h1 h2 h3 h4
      subst hv
      have hb := run_sliceBounds (P := P) (sl := true) (len := len) (cap := c) hlo hhi hmx h0 h1 h2 h3 h4 w
      unfold Instr.sliceAt Instr.slice
      simp [run_underlying hu, hb, hs]
    cases a with
    | nils =>
      obtain ⟨h0, h1, h2, h3, hK⟩ := h
      cases ha with
      | nils adr =>
        refine ⟨_, _, run adr 0 0 rfl (by omega) (by simp; omega) (by simp; omega) (by simp; omega) h3, ?_, hK⟩
        simp only [h0, h1, h2, Int.natCast_zero] 
        simp
        exact .nils _
    | cs cells m =>
      rcases h with ⟨rfl, rfl, rfl, hK⟩ | ⟨h0, h1, h2, hl, hm, hK⟩
      · cases ha with
        | cs0 adr c =>
          refine ⟨_, _, run adr 0 c rfl (by simp) (by simp) (by simp) (by simp) (by simp), ?_, hK⟩
          simp
          exact .nils _
        | cs hF hle hc hcc =>
          rename_i b off c arr
          refine ⟨_, _, run _ m c rfl (by simp) (by simp) (by simp) (by simp) (by simp), ?_, hK⟩
          simp
          exact .nils _
      have hmx' : ∀ c : Nat, m ≤ c → hi.getD m ≤ mx.getD c ∧ mx.getD c ≤ c ∧ (mx.isSome → hi.isSome) := by
        intro c hc
        rcases hm with rfl | ⟨rfl, hsome⟩
        · simp; omega
        · cases mx with
          | none => cases hsome
          | some x => simp at h2 ⊢; omega
      cases ha with
      | cs0 adr c =>
        obtain ⟨g1, g2, g3⟩ := hmx' c (by omega)
        refine ⟨_, _, run adr 0 c rfl h0 h1 g1 g2 g3, ?_, hK⟩
        have e : (hi.getD ((0 : Nat) : Int)).toNat - (lo.getD 0).toNat = 0 := by omega
        rw [e]
        simp
        exact .cs0 _ _
      | cs hF hle hc hcc =>
        rename_i b off c arr
        obtain ⟨g1, g2, g3⟩ := hmx' c hc
        refine ⟨_, _, run _ m c rfl h0 h1 g1 g2 g3, ?_, hK⟩
        by_cases hz : (mx.getD c).toNat = (lo.getD 0).toNat
        · have e : (hi.getD (m : Int)).toNat - (lo.getD 0).toNat = 0 := by omega
          rw [e]; simp; exact .cs0 _ _
        · rw [if_neg hz]
          simp only [Option.map_some, Addr.add_mk]
          have hmul : (lo.getD 0).toNat * esz + ((hi.getD (m : Int)).toNat - (lo.getD 0).toNat) * esz ≤ m * esz := by
            rw [← Nat.add_mul]; exact Nat.mul_le_mul_right _ (by omega)
          refine .cs hF (by simp; omega) (by omega) fun j hj => ?_
          have hj' : j < cells.length - (lo.getD 0).toNat * esz := by simp at hj; omega
          have := hcc ((lo.getD 0).toNat * esz + j) (by omega)
          simpa [Nat.add_assoc] using this
    | sl r vv es off len lim =>
      rcases h with ⟨rfl, rfl, rfl, hK⟩ | h
      · cases ha with
        | sl hk hoff hlo' hc hlen hadr =>
          rename_i ob cap l0 adr c
          refine ⟨_, _, run adr len c rfl (by simp) (by simp) (by simp) (by simp) (by simp), ?_, hK⟩
          simp
          exact .nils _
      obtain ⟨rfl, h0, h1, h2, hK⟩ := when_beq h
      cases ha with
      | sl hk hoff hlo' hc hlen hadr =>
        rename_i ob cap l0 adr c
        have hcl : c ≤ cap - l0 := by
          cases lim with
          | none => exact Nat.le_of_eq hc
          | some m => have := hc.1; have := hc.2; omega
        have adrOk : ∀ m : Nat, (m = (lo.getD 0).toNat ∨ ∃ b, ob = some b ∧ (if m = (lo.getD 0).toNat then adr else adr.map (·.add ((lo.getD 0).toNat * es))) = some ⟨b, off + (lo.getD 0).toNat * es, none⟩) ∨ c = 0 := by
          intro m
          rcases hadr with hz | ⟨b, rfl, rfl⟩
          · exact .inr hz
          · by_cases e : m = (lo.getD 0).toNat
            · exact .inl (.inl e)
            · refine .inl (.inr ⟨b, rfl, ?_⟩)
              rw [if_neg e]; simp [Addr.add_mk]
        have hlo1 : l0 + (lo.getD 0).toNat ≤ cap := by omega
        have hoff1 : off + (lo.getD 0).toNat * es = (l0 + (lo.getD 0).toNat) * es := by rw [hoff, Nat.add_mul]
        cases mx with
        | none =>
          refine ⟨_, _, run adr len c rfl h0 h1 (by simp; omega) (by simp) (by simp), ?_, hK⟩
          refine .sl hk hoff1 hlo1 ?_ (by simp; omega) ?_
          · cases lim with
            | none => have : c = cap - l0 := hc; show _ = _; simp; omega
            | some m => obtain ⟨e1, e2⟩ := hc; refine ⟨?_, ?_⟩ <;> simp <;> omega
          · rcases adrOk (((none : Option Int).getD (c : Int)).toNat) with (e | ⟨b, hb, e⟩) | e
            · left; simp at e; simp; omega
            · exact .inr ⟨b, hb, e⟩
            · left; simp; omega
        | some m =>
          cases hi with
          | none => exact hK.elim
          | some hh =>
            obtain ⟨g1, g2, hK⟩ := hK
            simp at h1 h2
            refine ⟨_, _, run adr len c rfl h0 (by simpa using h1) (by simpa using g1) (by simp; omega) (by simp), ?_, hK⟩
            refine .sl hk hoff1 hlo1 ?_ (by simp; omega) ?_
            · refine ⟨?_, ?_⟩ <;> simp <;> omega
            · rcases adrOk (((some m : Option Int).getD (c : Int)).toNat) with (e | ⟨b, hb, e⟩) | e
              · left; simp at e; simp; omega
              · exact .inr ⟨b, hb, e⟩
              · left; simp; omega
    | _ => exact h.elim
  | _ => cases a <;> exact h.elim

end Go.Fw
