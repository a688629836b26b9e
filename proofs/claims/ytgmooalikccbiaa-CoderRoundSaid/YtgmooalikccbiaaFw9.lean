/- The frame of the abstract walk, part 9: copy, conversions, what makes memory. -/
import Derived.Test.YtgmooalikccbiaaFw8
set_option linter.unusedVariables false
set_option linter.unusedSimpArgs false
namespace Go.Fw
open Go.RowKit

variable {κ : KM} {F : FM} {B : Nat} {w0 w : World} {H : AH} {P : Program} {T : TT}

theorem copyA_ok {t u ty e : TypeId} {esz eb : Nat} {ez : List AV} {n0 : Nat} {ag : Bool} {z0 : List AV} (hT : trOk P t ⟨.slice e esz eb ez, n0, ag, z0⟩ = true)
    (I : Inv κ F B w0 H w) {d x : AV} {vd vx : Value} {K : AV → AH → Prop} (hd : VR κ F d vd) (hx : VR κ F x vx) (h : copyA esz d x H K) :
    ∃ v' w', (Builtin.copy_ #[t, u] ty #[vd, vx]).run P w = .ok v' w' ∧ Left κ F B w0 K v' w' := by
  obtain ⟨ht, ⟨i, z, hi, his, hz, hzo, hib⟩, hezl, hesz, heb⟩ := tr_slice hT
  obtain ⟨n, new, f, S, h1, h⟩ := srcA_ok (P := P) I hx h
  subst his; subst hib
  have hsz := S.size
  cases d with
  | nils =>
    cases hd with
    | nils adr =>
      refine ⟨.int .i64 0, w, ?_, Left.same I (.int _ _) h⟩
      unfold Builtin.copy_
      have hf := S.first w rfl 0 (by omega)
      cases adr <;> simp [run_underlying ht, S.len, run_sizeOf hi, hf, storeCells, goInt]
  | sl r v es off len lim =>
    obtain ⟨rfl, cells, hH, hlen, hK⟩ := when_beq h
    obtain ⟨ic, adr, c, rfl, hki, hie, hlc, hrow, hnx, hadr, lo, hlo0, hlo, hlim⟩ := VR.slOf I hd hH
    have hk : Nat.min n len ≤ n := Nat.min_le_left _ _
    have hk2 : Nat.min n len ≤ len := Nat.min_le_right _ _
    generalize hm : Nat.min n len = k at hk hk2 hK
    have hf := S.first w rfl k hk
    rcases hadr with h0 | ⟨b, hb, rfl⟩
    · have hk0 : k = 0 := by omega
      subst hk0
      have e : wrA cells off (new.take (0 * i.size)) = cells := by simp [wrA]
      have e2 : H.set r (.row cells v) = H := by funext s; simp only [AH.set]; split; · rename_i e; rw [e, hH]
                                                 · rfl
      rw [e, e2] at hK
      refine ⟨.int .i64 0, w, ?_, Left.same I (.int _ _) (by simpa using hK)⟩
      unfold Builtin.copy_
      cases adr <;> simp [run_underlying ht, S.len, run_sizeOf hi, hm, hf, storeCells, goInt]
    · have hks : k * i.size ≤ n * i.size := Nat.mul_le_mul_right _ hk
      have hks2 : k * i.size ≤ len * i.size := Nat.mul_le_mul_right _ hk2
      have hnl : (new.take (k * i.size)).length = k * i.size := by simp; omega
      obtain ⟨hst, I'⟩ := I.write (P := P) (off := off) (new := new.take (k * i.size)) (vs := (List.range (k * i.size)).map f) hH hki hb (by omega) (by rw [hnl]; simp)
        (fun j hj => by
          have hj' : j < k * i.size := by rw [hnl] at hj; exact hj
          have := S.rel j (by omega)
          simpa using this)
        (List.all_eq_true.2 fun x hx => List.all_eq_true.1 h1 x (List.mem_of_mem_take hx))
      refine ⟨.int .i64 (k : Nat), _, ?_, Left.same I' (.int _ _) hK⟩
      unfold Builtin.copy_
      simp [run_underlying ht, S.len, run_sizeOf hi, hm, hf, hst, goInt]
  | _ => exact h.elim

theorem u8s_getElem (bs : List UInt8) (j : Nat) (hj : j < (u8s bs).length) : (u8s bs)[j] = .int .u8 (bs[j]'(by simpa [u8s] using hj)).toNat := by simp [u8s]

theorem isU8_ok (hT : T.ok P = true) {e : TypeId} (h : isU8 T e = true) : P.underlying e = some (.int .u8) := by
  unfold isU8 at h
  split at h
  · rename_i hg; exact tr_int (TT.ok_get hT hg)
  · cases h

theorem convA_ok (hT : T.ok P = true) {s t : TypeId} {sr dr : TR} (hs : trOk P s sr = true) (hd : trOk P t dr = true)
    (I : Inv κ F B w0 H w) {x : AV} {v : Value} {K : AV → AH → Prop} (hx : VR κ F x v) (h : convA T dr.d sr.d x H K) :
    ∃ v' w', (convert s t v).run P w = .ok v' w' ∧ Left κ F B w0 K v' w' := by
  obtain ⟨sd, sn, sa, sz⟩ := sr
  obtain ⟨dd, dn, da, dz⟩ := dr
  cases dd with
  | int k =>
    cases sd with
    | int k' =>
      cases x with
      | int kx n =>
        cases hx
        refine ⟨.int k (k.wrap n), w, ?_, Left.same I (.int _ _) (h _ rfl)⟩
        simp [convert, run_underlying (tr_int hs), run_underlying (tr_int hd), Conv.intToInt]
      | _ => exact h.elim
    | _ => cases x <;> exact h.elim
  | str =>
    cases sd with
    | str =>
      cases x with
      | str s =>
        cases hx
        refine ⟨_, w, ?_, Left.same I (.str s) h⟩
        simp [convert, run_underlying (tr_str hs), run_underlying (tr_str hd)]
      | _ => exact h.elim
    | slice e esz eb ez =>
      obtain ⟨hw, hc⟩ := when_iff.1 (show when (isU8 T e && Nat.beq esz 1) (cellsA 1 x H (fun _ cells => ∃ bs, cells = u8s bs ∧ K (.str bs) H)) by cases x <;> exact h)
      simp only [Bool.and_eq_true] at hw
      obtain ⟨hu8, hw⟩ := hw
      obtain rfl := Nat.eq_of_beq_eq_true hw
      obtain ⟨n, cells, f, adr, c, rfl, S, bs, rfl, hK⟩ := cellsA_ok (P := P) I hx hc
      have hu := isU8_ok hT hu8
      have hsl := (tr_slice hs).1
      have hbl : bs.length = n := by have := S.size; simpa [u8s] using this
      refine ⟨.string ⟨bs.toArray⟩, w, ?_, Left.same I (.str bs) hK⟩
      rw [run_convert_bytes_string w s t e adr n c hsl hu (tr_str hd)]
      cases adr with
      | none =>
        have hf := S.first w rfl n (Nat.le_refl _)
        simp [Builtin.firstCells] at hf
        have : n = 0 := by omega
        subst this
        have : bs = [] := List.length_eq_zero_iff.1 hbl
        subst this
        rfl
      | some a =>
        have hf : (loadCells a n).run P w = .ok ((bs.map fun b => (b.toNat : Int)).map (Value.int .u8)).toArray w := by
          have := S.first w rfl n (Nat.le_refl _)
          simp only [Builtin.firstCells, Nat.mul_one] at this
          rw [this]
          congr 2
          apply List.ext_getElem
          · simp [hbl]
          · intro j h1 h2
            have hj : j < (u8s bs).length := by simp at h1; simp [u8s]; omega
            have hr := S.rel j hj
            rw [u8s_getElem] at hr
            generalize hfj : f j = fj at hr
            cases hr
            simp [hfj]
        rw [run_bytesToString w a n c _ hf, foldl_push_byteCells]
        simp
    | _ => cases x <;> exact h.elim
  | slice e esz eb ez =>
    cases sd with
    | str =>
      cases x with
      | str s =>
        obtain ⟨hw, hK⟩ := when_iff.1 h
        simp only [Bool.and_eq_true] at hw
        obtain ⟨hu8, hw⟩ := hw
        obtain rfl := Nat.eq_of_beq_eq_true hw
        cases hx
        have hu := isU8_ok hT hu8
        have hsl := (tr_slice hd).1
        have hrun := run_bytes_of_string (P := P) w _ t e ⟨s.toArray⟩ (tr_str hs) hsl hu
        obtain ⟨r, hr, hkr⟩ := I.fresh
        have hcap := grownCap_ge w (⟨s.toArray⟩ : ByteArray).size 0 e
        have hss : (⟨s.toArray⟩ : ByteArray).size = s.length := by simp [ByteArray.size]
        generalize hC : bytesRow ⟨s.toArray⟩ (grownCap w (⟨s.toArray⟩ : ByteArray).size 0 e) = C at hrun
        have hCs : C.size = grownCap w (⟨s.toArray⟩ : ByteArray).size 0 e := by rw [← hC]; simp [bytesRow]; omega
        have hloose : Loose C (C.size, C.size + 1) := fun j hj => by simp; omega
        have hcv : ∀ j (hj : j < (u8s s).length), VR κ F (u8s s)[j] (C.getD j undef) := fun j hj => by
          have hj' : j < s.length := by simpa [u8s] using hj
          rw [u8s_getElem, ← hC]
          simp [bytesRow, Array.getD_eq_getD_getElem?, hj', Array.getElem?_append_left]
          exact .int _ _
        rcases hK with hK | hK
        · refine ⟨_, _, hrun, ?_⟩
          have hle' : (u8s s).length ≤ C.size := by simp [u8s]; omega
          rw [hss] at hcap ⊢
          exact newRow_cs I.drew _ (by omega) hle' hcv hK hloose
        · obtain ⟨hle, I'⟩ := I.drew.newRow (e := e) (fr := (C.size, C.size + 1)) (r := r) (v := 0) (cap := C.size) (esz := 1) (cells := u8s s) (arr := C) hr (fun u _ => hkr u)
            hloose (by simp) (by simp [u8s]; omega) hcv
          refine ⟨_, _, hrun, _, _, _, F, hle, FLe.refl _, I', ?_, hK r hr⟩
          rw [hss] at hcap ⊢
          exact .sl (KM.put_same ..) (lo := 0) (by simp) (by simp) (show _ = _ by rw [hCs, hss]; simp) (by omega) (Or.inr ⟨_, rfl, rfl⟩)
      | _ => exact h.elim
    | _ => cases x <;> exact h.elim
  | _ => cases sd <;> cases x <;> exact h.elim

theorem newVar_ok (I : Inv κ F B w0 H w) (t : TypeId) {v : Value} {l : List AV} (hl : VRs κ F l v.cells) {K : AV → AH → Prop} (h : ∀ r, H r = none → K (.ptr r 0 0) (H.set r (.row l 0))) :
    ∃ w', (newVar t v).run P w = .ok ⟨w.heap.size, 0, none⟩ w' ∧ Left κ F B w0 K (.pointer (some ⟨w.heap.size, 0, none⟩)) w' := by
  obtain ⟨r, hr, hkr⟩ := I.fresh
  obtain ⟨hle, I'⟩ := I.newRow (e := t) (fr := (0, 0)) (r := r) (v := 0) (cap := 1) (esz := v.cells.size) (cells := l) (arr := v.cells) hr (fun u _ => hkr u) (loose_zero _) (by simp) (by rw [hl.1]; exact Nat.le_refl _) hl.2
  exact ⟨_, by simp [newVar, newRow], _, _, _, F, hle, FLe.refl _, I', .ptr (KM.put_same ..), h r hr⟩

theorem replicate_flatten_length (n : Nat) (z : List AV) : ((List.replicate n z).flatten).length = n * z.length := by
  induction n with
  | zero => simp
  | succ n ih => rw [List.replicate_succ, List.flatten_cons, List.length_append, ih, Nat.succ_mul]; omega

theorem replicate_flatten_getElem (z : List AV) : ∀ (n j : Nat) (hj : j < ((List.replicate n z).flatten).length) (hz : j % z.length < z.length), ((List.replicate n z).flatten)[j] = z[j % z.length]
  | 0, j, hj, _ => by simp at hj
  | n + 1, j, hj, hz => by
    have hp : 0 < z.length := by omega
    simp only [List.replicate_succ, List.flatten_cons]
    by_cases h : j < z.length
    · rw [List.getElem_append_left h]; simp only [Nat.mod_eq_of_lt h]
    · have hj' : j - z.length < ((List.replicate n z).flatten).length := by
        simp only [List.replicate_succ, List.flatten_cons, List.length_append] at hj; omega
      rw [List.getElem_append_right (by omega), replicate_flatten_getElem z n (j - z.length) hj' (by rw [← Nat.mod_eq_sub_mod (by omega)]; exact hz)]
      simp only [← Nat.mod_eq_sub_mod (show z.length ≤ j by omega)]

/-- Rows of zeros. -/
theorem zeros_ok {ez : List AV} {z : Value} (hz : zerosOk ez z = true) (hne : ez.length ≠ 0) (n m : Nat) (hm : n * ez.length ≤ m) (j : Nat) (hj : j < ((List.replicate n ez).flatten).length) :
    VR κ F ((List.replicate n ez).flatten)[j] (((Array.range m).map (z.cells[· % z.cells.size]!)).getD j undef) := by
  obtain ⟨h1, h2⟩ := zerosOk_ok (κ := κ) (F := F) hz
  have hj' := hj
  rw [replicate_flatten_length] at hj'
  have hlt : j % ez.length < ez.length := Nat.mod_lt _ (by omega)
  rw [replicate_flatten_getElem ez n j hj hlt]
  have := h2 _ hlt
  have hlt2 : j % z.cells.size < z.cells.size := by rw [h1]; exact hlt
  simp only [Array.getD_eq_getD_getElem?] at this ⊢
  rw [show ((Array.range m).map (z.cells[· % z.cells.size]!))[j]? = some (z.cells[j % z.cells.size]!) from by simp [show j < m by omega]]
  simpa [h1, getElem!_pos, hlt, hlt2, hne] using this

theorem makeSlice_ok {t e : TypeId} {esz eb : Nat} {ez : List AV} {n0 : Nat} {ag : Bool} {z0 : List AV} (hT : trOk P t ⟨.slice e esz eb ez, n0, ag, z0⟩ = true) (I : Inv κ F B w0 H w) {kl kc : IntKind} {l c : Int} {K : AV → AH → Prop}
    (h0 : 0 ≤ l) (h1 : l ≤ c) (h2 : c * eb ≤ 140737488355328) (h : ∀ r, H r = none → K (.sl r 0 esz 0 l.toNat none) (H.set r (.row ((List.replicate l.toNat ez).flatten) 0))) :
    ∃ v' w', (Instr.makeSlice t (.int kl l) (.int kc c)).run P w = .ok v' w' ∧ Left κ F B w0 K v' w' := by
  obtain ⟨ht, ⟨i, z, hi, his, hz, hzo, hib⟩, hezl, hesz, heb⟩ := tr_slice hT
  subst his; subst hib
  have hpos : (1 : Int) ≤ i.bytes := by omega
  have hc63 : c ≤ c * i.bytes := by
    have := Int.mul_le_mul_of_nonneg_left hpos (show 0 ≤ c by omega)
    simpa using this
  have hrun := run_make (P := P) w t e i z ht hi hz kl kc l c h0 h1 (by rw [Int.mul_comm]; omega) (by omega)
  obtain ⟨r, hr, hkr⟩ := I.fresh
  have hmul : l.toNat * ez.length ≤ c.toNat * i.size := by rw [hezl]; exact Nat.mul_le_mul_right _ (by omega)
  obtain ⟨hle, I'⟩ := I.newRow (e := e) (fr := (0, 0)) (r := r) (v := 0) (cap := c.toNat) (esz := i.size) (cells := (List.replicate l.toNat ez).flatten) (arr := madeCells z.cells (c.toNat * i.size)) hr (fun u _ => hkr u) (loose_zero _)
    (by simp [madeCells]) (by rw [replicate_flatten_length]; simpa [madeCells] using hmul) (fun j hj => zeros_ok hzo (by omega) l.toNat _ hmul j hj)
  refine ⟨_, _, hrun, _, _, _, F, hle, FLe.refl _, I', ?_, h r hr⟩
  exact .sl (KM.put_same ..) (lo := 0) (by simp) (by simp) (show _ = _ by simp) (by omega) (Or.inr ⟨_, rfl, rfl⟩)

/-- 'fill': parts into cells. -/
theorem fillA_ok {place place' : Nat → Option (Nat × Nat)} (hpl : ∀ i p, place i = some p → place' i = some p) :
    ∀ (parts : List (Nat × AV)) (vparts : List (Nat × Value)) (cells out : List AV) (arr : Array Value), cells.length = arr.size → (∀ j (hj : j < cells.length), VR κ F cells[j] (arr.getD j undef)) →
      parts.length = vparts.length → (∀ j (h1 : j < parts.length) (h2 : j < vparts.length), parts[j].1 = vparts[j].1 ∧ VR κ F parts[j].2 vparts[j].2) → fillA place cells parts = some out →
      ∃ arr', Instr.fill place' arr vparts = some arr' ∧ arr'.size = out.length ∧ ∀ j (hj : j < out.length), VR κ F out[j] (arr'.getD j undef)
  | [], vparts, cells, out, arr, hsz, hc, hlen, _, h => by
    cases vparts with
    | nil => simp only [fillA, Option.some.injEq] at h; subst h; exact ⟨arr, rfl, hsz.symm, hc⟩
    | cons => simp at hlen
  | (i, a) :: rest, vparts, cells, out, arr, hsz, hc, hlen, hp, h => by
    cases vparts with
    | nil => simp at hlen
    | cons q vrest =>
      obtain ⟨i', v⟩ := q
      have h0 := hp 0 (by simp) (by simp)
      simp only [List.getElem_cons_zero] at h0
      obtain ⟨rfl, hv⟩ := h0
      simp only [fillA] at h
      split at h
      · rename_i off size l hpi hl
        cases hcond : (l.length == size && Nat.ble (off + size) cells.length) with
        | false => rw [hcond] at h; simp at h
        | true =>
          rw [hcond] at h
          simp only [cond_true] at h
          simp only [Bool.and_eq_true, beq_iff_eq, Nat.ble_eq] at hcond
          obtain ⟨hls, hle⟩ := hcond
          obtain ⟨hvs, hvc⟩ := cellsOf_ok hv hl
          have hwl : (wrA cells off l).length = cells.length := wrA_length _ _ _ (by omega)
          have hsp := wrA_ok (κ := κ) (F := F) (cells := cells) (new := l) (arr := arr) (vs := v.cells.toList) (off := off) (by omega) (by omega) (by simp [hvs]) hc (fun j hj => by rw [toList_getD]; exact hvc j hj)
          obtain ⟨arr', h1, h2, h3⟩ := fillA_ok hpl rest vrest (wrA cells off l) out (splice arr off v.cells.toList) (by rw [hwl, size_splice]; exact hsz) hsp (by simpa using hlen)
            (fun j g1 g2 => by have := hp (j + 1) (by simpa using g1) (by simpa using g2); simpa using this) h
          refine ⟨arr', ?_, h2, h3⟩
          simp only [Instr.fill, hpl _ _ hpi]
          rw [if_neg (by simp; omega)]
          have e : ∀ (vs : List Value) (o : Nat) (k : Nat) (A : Array Value), (vs.zipIdx k).foldl (fun (cs : Array Value) (x : Value × Nat) => cs.setIfInBounds (o + x.2) x.1) A = splice A (o + k) vs := by
            intro vs
            induction vs with
            | nil => intros; rfl
            | cons x xs ih => intro o k A; simp only [List.zipIdx_cons, List.foldl_cons, splice]; rw [ih o (k + 1)]; rfl
          have e2 := e v.cells.toList off 0 arr
          rw [Nat.add_zero] at e2
          rw [← e2] at h1
          rw [← h1, ← Array.foldl_toList]
          simp
      · cases h

end Go.Fw
