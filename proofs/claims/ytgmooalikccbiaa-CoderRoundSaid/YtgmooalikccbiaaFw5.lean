/- The frame of the abstract walk, part 5: addresses, slices, append and the other operations. -/
import Derived.Test.YtgmooalikccbiaaFw4
set_option linter.unusedVariables false
set_option linter.unusedSimpArgs false
namespace Go.Fw
open Go.RowKit

variable {κ : KM} {F : FM} {B : Nat} {w0 w : World} {H : AH} {P : Program}

theorem asIntOf_run (k : IntKind) (n : Int) (w : World) : (asIntOf (.int k n)).run P w = .ok (k, n) w := rfl

theorem fieldAddrA_ok {t : TypeId} {fs : List (Nat × Nat × Bool)} {n : Nat} {ag : Bool} {z : List AV} (hT : trOk P t ⟨.struct fs, n, ag, z⟩ = true) {a : AV} {v : Value} {f : Nat} {K : AV → Prop}
    (ha : VR κ F a v) (h : fieldAddrA fs a f K) : ∃ x y, (Instr.fieldAt t v f).run P w = .ok x w ∧ VR κ F y x ∧ K y := by
  obtain ⟨fields, hu, hsz, hf⟩ := tr_struct hT
  unfold fieldAddrA at h
  cases hp : fs[f]? with
  | none => rw [hp] at h; exact h.elim
  | some p =>
    obtain ⟨fd, i, u, hfd, ho, hi, his, hne, _⟩ := hf f p hp
    have run : ∀ b off, v = .pointer (some ⟨b, off, none⟩) → (Instr.fieldAt t v f).run P w = .ok (.pointer (some ⟨b, off + p.1, none⟩)) w := by
      intro b off hv
      subst hv
      have hs : (sizeOf fd.type).run P w = .ok p.2.1 w := by rw [run_sizeOf hi, his]
      unfold Instr.fieldAt
      simp only [Sem.run_bind, run_underlying hu, Result.andThen_ok, hfd, Instr.sureAddr, Sem.run_pure, fieldPlace, hs]
      rw [if_neg hne]
      simp [Addr.add_mk, ho]
    rw [hp] at h
    cases a with
    | ptr r vv off =>
      cases ha with
      | ptr hk => exact ⟨_, _, run _ _ rfl, .ptr hk, h⟩
    | cp cells =>
      obtain ⟨hle, hK⟩ := h
      cases ha with
      | cp hF hlen hc =>
        refine ⟨_, _, run _ _ rfl, .cp hF (by simp; omega) (fun j hj => ?_), hK⟩
        have := hc (p.1 + j) (by simp at hj; omega)
        simpa [Nat.add_assoc] using this
    | _ => exact h.elim

theorem cs_drop {cells : List AV} {b off : Nat} {arr : Array Value} (hF : F b = some arr) (hle : off + cells.length ≤ arr.size)
    (hc : ∀ i (hi : i < cells.length), VR κ F cells[i] (arr.getD (off + i) undef)) (d : Nat) (hd : d ≤ cells.length) : VR κ F (.cp (cells.drop d)) (.pointer (some ⟨b, off + d, none⟩)) := by
  refine .cp hF (by simp; omega) fun j hj => ?_
  have := hc (d + j) (by simp at hj; omega)
  simpa [Nat.add_assoc] using this

theorem indexAddrA_ok {t : TypeId} {tr : TR} (hT : trOk P t tr = true) {a ix : AV} {v vi : Value} {K : AV → Prop}
    (ha : VR κ F a v) (hx : VR κ F ix vi) (h : indexAddrA tr.d a ix K) : ∃ x y, (Instr.indexAt t v vi).run P w = .ok x w ∧ VR κ F y x ∧ K y := by
  obtain ⟨d, n, ag, z⟩ := tr
  cases d with
  | slice e esz eb ez =>
    obtain ⟨hu, ⟨i, _, hi, his, _⟩, _, _, _⟩ := tr_slice hT
    have hs : (sizeOf e).run P w = .ok esz w := by rw [run_sizeOf hi, his]
    have run : ∀ b off len c k (m : Int), v = .slice (some ⟨b, off, none⟩) len c → vi = .int k m → 0 ≤ m → m < len → (Instr.indexAt t v vi).run P w = .ok (.pointer (some ⟨b, off + m.toNat * esz, none⟩)) w := by
      intro b off len c k m hv hvi h0 h1
      subst hv; subst hvi
      unfold Instr.indexAt
      simp [asIntOf_run, run_underlying hu, h0, h1, hs, Addr.add_mk]
    cases ix with
    | int k m =>
      cases hx
      cases a with
      | cs cells len =>
        obtain ⟨h0, h1, hle, hK⟩ := h
        cases ha with
        | cs0 a c => omega
        | cs hF hlen hcc hc => exact ⟨_, _, run _ _ _ _ _ _ rfl rfl h0 h1, cs_drop hF hlen hc _ hle, hK⟩
      | sl r vv es off len lim =>
        obtain ⟨_, h0, h1, hK⟩ := when_iff.1 h
        cases ha with
        | sl hk hoff hlo hc hlen hadr =>
          rcases hadr with hz | ⟨b, rfl, rfl⟩
          · omega
          · exact ⟨_, _, run _ _ _ _ _ _ rfl rfl h0 h1, .ptr hk, hK⟩
      | _ => exact h.elim
    | _ => cases a <;> exact h.elim
  | array len e esz ea =>
    obtain ⟨hu, ⟨i, hi, his⟩, _, _⟩ := tr_array hT
    have hs : (sizeOf e).run P w = .ok esz w := by rw [run_sizeOf hi, his]
    have run : ∀ b off k (m : Int), v = .pointer (some ⟨b, off, none⟩) → vi = .int k m → 0 ≤ m → m < len → (Instr.indexAt t v vi).run P w = .ok (.pointer (some ⟨b, off + m.toNat * esz, none⟩)) w := by
      intro b off k m hv hvi h0 h1
      subst hv; subst hvi
      unfold Instr.indexAt
      simp [asIntOf_run, run_underlying hu, h0, h1, hs, Addr.add_mk, Instr.sureAddr]
    cases ix with
    | int k m =>
      cases hx
      cases a with
      | cp cells =>
        obtain ⟨h0, h1, hle, hK⟩ := h
        cases ha with
        | cp hF hlen hc => exact ⟨_, _, run _ _ _ _ rfl rfl h0 h1, cs_drop hF hlen hc _ hle, hK⟩
      | ptr r vv off =>
        obtain ⟨h0, h1, hK⟩ := h
        cases ha with
        | ptr hk => exact ⟨_, _, run _ _ _ _ rfl rfl h0 h1, .ptr hk, hK⟩
      | _ => exact h.elim
    | _ => cases a <;> exact h.elim
  | _ => cases a <;> exact h.elim

theorem run_part {t : TypeId} {u : TypeDesc} {i : TypeInfo} {cells : List AV} {cs : Array Value} {off : Nat} (hu : P.underlying t = some u) (hi : P.info? t = some i)
    (hs : cs.size = cells.length) (hc : ∀ j (hj : j < cells.length), VR κ F cells[j] (cs.getD j undef)) (hlen : off + i.size ≤ cells.length) (h1 : isAggD u = false → i.size = 1) :
    ∃ x, (part t cs off).run P w = .ok x w ∧ VR κ F (rdA (isAggD u) i.size (cells.drop off)) x := by
  have hr := rdA_ok (κ := κ) (F := F) (off := off) (size := i.size) (agg := isAggD u) (f := fun j => cs.getD j undef) hlen h1 hc
  refine ⟨_, ?_, hr⟩
  unfold part
  simp only [Sem.run_bind, run_isAgg hu, Result.andThen_ok]
  cases hag : isAggD u with
  | true =>
    have e : cs.extract off (off + i.size) = ((List.range i.size).map fun j => cs.getD (off + j) undef).toArray := by
      apply Array.ext
      · simp; omega
      · intro j h2 h3
        have h4 : j < i.size := by simp at h3; exact h3
        simp [Array.getD_eq_getD_getElem?, show off + j < cs.size by omega]
    rw [← e]
    show ((sizeOf t >>= fun n => pure (Value.agg (cs.extract off (off + n)))).run P w) = _
    rw [Sem.run_bind, run_sizeOf hi]
    rfl
  | false =>
    have := h1 hag
    have e : cs[off]? = some (cs.getD off undef) := by simp [Array.getD_eq_getD_getElem?, show off < cs.size by omega]
    simp only [Bool.false_eq_true, if_false]
    rw [e]
    rfl

theorem indexA_ok {t : TypeId} {tr : TR} (hT : trOk P t tr = true) {a ix : AV} {v vi : Value} {K : AV → Prop}
    (ha : VR κ F a v) (hx : VR κ F ix vi) (h : indexA tr.d a ix K) : ∃ x y, (Instr.index t v vi).run P w = .ok x w ∧ VR κ F y x ∧ K y := by
  obtain ⟨d, n, ag, z⟩ := tr
  cases d with
  | str =>
    have hu := tr_str hT
    cases ix with
    | int k m =>
      cases hx
      cases a with
      | str s =>
        obtain ⟨h0, h1, hK⟩ := h
        cases ha
        have hlt : m.toNat < s.length := by omega
        refine ⟨.int .u8 (s.getD m.toNat 0).toNat, _, ?_, .int _ _, hK⟩
        unfold Instr.index
        have e : (⟨s.toArray⟩ : ByteArray)[m.toNat]? = some s[m.toNat] := by
          have : m.toNat < (⟨s.toArray⟩ : ByteArray).size := by simpa [ByteArray.size] using hlt
          rw [getElem?_pos (⟨s.toArray⟩ : ByteArray) m.toNat this]; rfl
        simp [asIntOf_run, run_underlying hu, h0, e, List.getD, hlt]
      | _ => exact h.elim
    | _ => cases a <;> exact h.elim
  | array len e esz ea =>
    obtain ⟨hu, ⟨i, hi, his⟩, _, u, hue, hag⟩ := tr_array hT
    cases ix with
    | int k m =>
      cases hx
      cases a with
      | agg cells =>
        obtain ⟨h0, h1, hle, hw⟩ := h
        obtain ⟨hs1, hK⟩ := when_iff.1 hw
        have hs1 := aggOr hs1
        cases ha with
        | agg hA hc =>
          rename_i A
          have hsz : (sizeOf e).run P w = .ok esz w := by rw [run_sizeOf hi, his]
          obtain ⟨x, hrun, hx⟩ := run_part (w := w) (off := m.toNat * esz) hue hi hA hc (by rw [his]; rw [Nat.succ_mul] at hle; exact hle) (by rw [hag, his]; exact hs1)
          refine ⟨x, _, ?_, ?_, hK⟩
          · unfold Instr.index
            simp [asIntOf_run, run_underlying hu, h0, h1, hsz, hrun]
          · rw [hag, his] at hx; exact hx
      | _ => exact h.elim
    | _ => cases a <;> exact h.elim
  | _ => cases a <;> exact h.elim

theorem fieldA_ok {t : TypeId} {fs : List (Nat × Nat × Bool)} {n : Nat} {ag : Bool} {z : List AV} (hT : trOk P t ⟨.struct fs, n, ag, z⟩ = true) {cells : List AV} {v : Value} {f : Nat} {off size : Nat} {agg : Bool} {K : AV → Prop}
    (ha : VR κ F (.agg cells) v) (hp : fs[f]? = some (off, size, agg)) (hlen : off + size ≤ cells.length) (h1 : agg = false → size = 1) (hK : K (rdA agg size (cells.drop off))) :
    ∃ x y, (Instr.field t v f).run P w = .ok x w ∧ VR κ F y x ∧ K y := by
  obtain ⟨fields, hu, hsz, hf⟩ := tr_struct hT
  obtain ⟨fd, i, u, hfd, ho, hi, his, hne, hue, hag⟩ := hf f _ hp
  cases ha with
  | agg hA hc =>
    rename_i A
    simp only at ho his hag
    obtain ⟨x, hrun, hx⟩ := run_part (w := w) (off := off) hue hi hA hc (by rw [his]; exact hlen) (by rw [hag, his]; exact h1)
    refine ⟨x, _, ?_, ?_, hK⟩
    · unfold Instr.field
      simp [run_underlying hu, hfd, asAgg, ho, hrun]
    · rw [hag, his] at hx; exact hx

end Go.Fw
