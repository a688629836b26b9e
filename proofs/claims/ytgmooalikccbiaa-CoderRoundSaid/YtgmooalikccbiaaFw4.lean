/- The frame of the abstract walk, part 4: each operation of the machine does what part 3 says. -/
import Derived.Test.YtgmooalikccbiaaFw3
set_option linter.unusedVariables false
set_option linter.unusedSimpArgs false
namespace Go.Fw
open Go.RowKit

variable {κ : KM} {F : FM} {B : Nat} {w0 w : World} {H : AH} {P : Program}

/-! ### Values -/
theorem VRs.one {a : AV} {v : Value} (h : VR κ F a v) : VRs κ F [a] #[v] :=
  ⟨rfl, fun i hi => by obtain rfl : i = 0 := by simpa using hi
                       simpa using h⟩

theorem VRs.nil : VRs κ F [] #[] := ⟨rfl, fun i hi => by simp at hi⟩

theorem cellsOf_ok {a : AV} {v : Value} {l : List AV} (h : VR κ F a v) (hl : cellsOf a = some l) : VRs κ F l v.cells := by
  cases h with
  | junk v => simp [cellsOf] at hl
  | agg hA h => simp only [cellsOf, Option.some.injEq] at hl; subst hl; exact ⟨hA, h⟩
  | _ => (simp only [cellsOf, Option.some.injEq] at hl; subst hl; refine VRs.one ?_; constructor <;> assumption)

theorem one_ok {a : AV} {v : Value} (h : VR κ F a v) (h1 : one a = true) : v.oneCell' = true := by
  cases h <;> first | rfl | (simp [Fw.one] at h1)

theorem of1_ok (v : Value) : VR κ F (AV.of1 v) v := by
  cases v with
  | int k n => exact .int k n
  | bool b => exact .bool b
  | string s => exact .str s.data.toList
  | pointer a => cases a with
    | none => exact .nilp
    | some a => exact .junk _
  | slice a n c =>
    cases a with
    | some a => exact .junk _
    | none => cases n with
      | succ n => exact .junk _
      | zero => cases c with
        | succ c => exact .junk _
        | zero => exact .nils none
  | map r => cases r with
    | none => exact .mapNil
    | some r => exact .junk _
  | nilFunc => exact .nilf
  | _ => exact .junk _

theorem ofValue_ok (v : Value) : VR κ F (AV.ofValue v) v := by
  have h1 := of1_ok (κ := κ) (F := F) v
  cases v with
  | agg A =>
    refine .agg (by simp) fun i hi => ?_
    have : i < A.size := by simpa using hi
    simp [Array.getD_eq_getD_getElem?, this]
    exact of1_ok _
  | _ => exact h1

theorem isZ_ok {a : AV} {v : Value} (h : a.isZ v = true) : VR κ F a v := by
  unfold AV.isZ at h
  split at h <;> first
    | (simp only [Bool.and_eq_true, beq_iff_eq] at h; obtain ⟨rfl, rfl⟩ := h; exact .int _ _)
    | (simp only [beq_iff_eq] at h; subst h; exact .bool _)
    | exact .nilp
    | exact .nils _
    | exact .mapNil
    | exact .nilf
    | exact .junk _
    | skip
  · rename_i s
    have : s = ⟨([] : List UInt8).toArray⟩ := by
      cases s with
      | mk d => simp only [List.isEmpty_iff] at h; have : d = #[] := by apply Array.ext'; simpa using h
                rw [this]
    rw [this]; exact .str []
  · cases h

theorem zerosOk_ok {l : List AV} {z : Value} (h : zerosOk l z = true) : VRs κ F l z.cells := by
  simp only [zerosOk, Bool.and_eq_true, beq_iff_eq, List.all_eq_true, List.mem_range] at h
  refine ⟨h.1.symm, fun i hi => ?_⟩
  have := isZ_ok (κ := κ) (F := F) (h.2 i hi)
  simpa [List.getD, hi] using this

/-! ### Types -/
theorem info_of {t : TypeId} {n : Nat} {z : List AV} (h : infoOk P t n z = true) : ∃ i v, P.info? t = some i ∧ i.size = n ∧ i.zero = some v ∧ zerosOk z v = true := by
  unfold infoOk at h
  split at h
  · rename_i i hi
    simp only [Bool.and_eq_true, beq_iff_eq] at h
    obtain ⟨h1, h2⟩ := h
    split at h2
    · rename_i v hv; exact ⟨i, v, hi, h1, hv, h2⟩
    · cases h2
  · cases h

theorem run_sizeOf {t : TypeId} {i : TypeInfo} (h : P.info? t = some i) (w : World) : (sizeOf t).run P w = .ok i.size w := by
  simp [sizeOf, typeInfo, h]

theorem run_zeroValue {t : TypeId} {i : TypeInfo} {v : Value} (h : P.info? t = some i) (hz : i.zero = some v) (w : World) : (zeroValue t).run P w = .ok v w := by
  simp [zeroValue, typeInfo, h, hz]

theorem run_isAgg {t : TypeId} {u : TypeDesc} (h : P.underlying t = some u) (w : World) : (isAgg t).run P w = .ok (isAggD u) w := by
  unfold isAgg
  simp only [Sem.run_bind, run_underlying h, Result.andThen_ok]
  cases u <;> rfl

structure TrFacts (P : Program) (t : TypeId) (tr : TR) where
  i : TypeInfo
  v : Value
  u : TypeDesc
  hi : P.info? t = some i
  hs : i.size = tr.size
  hz : i.zero = some v
  hzo : zerosOk tr.zero v = true
  hu : P.underlying t = some u
  ha : isAggD u = tr.agg

theorem tr_facts {t : TypeId} {tr : TR} (h : trOk P t tr = true) : Nonempty (TrFacts P t tr) := by
  unfold trOk at h
  simp only [Bool.and_eq_true] at h
  obtain ⟨h1, h2⟩ := h
  obtain ⟨i, v, hi, hs, hz, hzo⟩ := info_of h1
  cases hu : P.underlying t with
  | none => rw [hu] at h2; cases h2
  | some u =>
    rw [hu] at h2
    simp only [Bool.and_eq_true, beq_iff_eq] at h2
    exact ⟨⟨i, v, u, hi, hs, hz, hzo, hu, h2.1⟩⟩

theorem tr_int {t : TypeId} {k : IntKind} {n : Nat} {a : Bool} {z : List AV} (h : trOk P t ⟨.int k, n, a, z⟩ = true) : P.underlying t = some (.int k) := by
  unfold trOk at h
  simp only [Bool.and_eq_true] at h
  cases hu : P.underlying t with
  | none => rw [hu] at h; simp at h
  | some u => rw [hu] at h; cases u <;> simp at h; rw [h.2.2]

theorem tr_str {t : TypeId} {n : Nat} {a : Bool} {z : List AV} (h : trOk P t ⟨.str, n, a, z⟩ = true) : P.underlying t = some .string := by
  unfold trOk at h
  simp only [Bool.and_eq_true] at h
  cases hu : P.underlying t with
  | none => rw [hu] at h; simp at h
  | some u => rw [hu] at h; cases u <;> simp at h; rfl

theorem tr_slice {t e : TypeId} {esz eb : Nat} {ez : List AV} {n : Nat} {a : Bool} {z : List AV} (h : trOk P t ⟨.slice e esz eb ez, n, a, z⟩ = true) :
    P.underlying t = some (.slice e) ∧ (∃ i v, P.info? e = some i ∧ i.size = esz ∧ i.zero = some v ∧ zerosOk ez v = true ∧ i.bytes = eb) ∧ ez.length = esz ∧ esz ≠ 0 ∧ eb ≠ 0 := by
  unfold trOk at h
  simp only [Bool.and_eq_true] at h
  cases hu : P.underlying t with
  | none => rw [hu] at h; simp at h
  | some u =>
    rw [hu] at h
    cases u <;> simp at h
    obtain ⟨_, _, ⟨⟨⟨⟨he, hinf⟩, hb⟩, hl⟩, hne⟩, hbe⟩ := h
    obtain ⟨i, v, hi, hs, hz, hzo⟩ := info_of hinf
    obtain ⟨j, hj, hjb⟩ := hb
    rw [hi] at hj; cases hj
    exact ⟨by rw [he], ⟨i, v, hi, hs, hz, hzo, hjb⟩, hl, hne, hbe⟩

theorem tr_array {t e : TypeId} {len esz : Nat} {ea : Bool} {n : Nat} {a : Bool} {z : List AV} (h : trOk P t ⟨.array len e esz ea, n, a, z⟩ = true) :
    P.underlying t = some (.array len e) ∧ (∃ i, P.info? e = some i ∧ i.size = esz) ∧ esz ≠ 0 ∧ ∃ u, P.underlying e = some u ∧ isAggD u = ea := by
  unfold trOk at h
  simp only [Bool.and_eq_true] at h
  cases hu : P.underlying t with
  | none => rw [hu] at h; simp at h
  | some u =>
    rw [hu] at h
    cases u <;> simp at h
    obtain ⟨_, _, ⟨⟨⟨hn, he⟩, hb⟩, hne⟩, hag⟩ := h
    subst hn; subst he
    obtain ⟨j, hj, hjb⟩ := hb
    cases hue : P.underlying e with
    | none => rw [hue] at hag; cases hag
    | some u => rw [hue] at hag; exact ⟨rfl, ⟨j, hj, hjb⟩, hne, u, rfl, by simpa using hag⟩

theorem tr_struct {t : TypeId} {fs : List (Nat × Nat × Bool)} {n : Nat} {a : Bool} {z : List AV} (h : trOk P t ⟨.struct fs, n, a, z⟩ = true) :
    ∃ fields, P.underlying t = some (.struct fields) ∧ fields.size = fs.length ∧ ∀ (j : Nat) (p : Nat × Nat × Bool), fs[j]? = some p →
      ∃ (f : Field) (i : TypeInfo) (u : TypeDesc), fields[j]? = some f ∧ f.offset = p.1 ∧ P.info? f.type = some i ∧ i.size = p.2.1 ∧ p.2.1 ≠ 0 ∧ P.underlying f.type = some u ∧ isAggD u = p.2.2 := by
  unfold trOk at h
  simp only [Bool.and_eq_true] at h
  cases hu : P.underlying t with
  | none => rw [hu] at h; simp at h
  | some u =>
    rw [hu] at h
    cases u <;> simp at h
    rename_i fields
    obtain ⟨_, _, h⟩ := h
    simp only [fieldsOk, Bool.and_eq_true, beq_iff_eq, List.all_eq_true, List.mem_range] at h
    refine ⟨fields, rfl, h.1, fun j p hp => ?_⟩
    have hj : j < fs.length := (List.getElem?_eq_some_iff.1 hp).1
    have hf : j < fields.size := by rw [h.1]; exact hj
    have hh := h.2 j hj
    have e1 : fs.getD j (0, 0, false) = p := by simp [List.getD, hp]
    have e2 : fields.getD j default = fields[j] := by simp [Array.getD_eq_getD_getElem?, hf]
    rw [e1, e2] at hh
    obtain ⟨⟨⟨ho, hs⟩, hne⟩, hag⟩ := hh
    obtain ⟨i, hi, hiz⟩ : ∃ i, P.info? fields[j].type = some i ∧ i.size = p.2.1 := by
      cases hx : P.info? fields[j].type with
      | none => rw [hx] at hs; simp at hs
      | some i => rw [hx] at hs; exact ⟨i, rfl, by simpa using hs⟩
    cases hue : P.underlying fields[j].type with
    | none => rw [hue] at hag; cases hag
    | some u => rw [hue] at hag; exact ⟨fields[j], i, u, by simp [hf], ho, hi, hiz, by simpa using hne, hue, by simpa using hag⟩

/-! ### Loads and stores -/
theorem Addr.add_mk (b o n : Nat) : (⟨b, o, none⟩ : Addr).add n = ⟨b, o + n, none⟩ := by
  unfold Addr.add; split <;> simp_all

theorem rdA_ok {cells : List AV} {off size : Nat} {agg : Bool} {f : Nat → Value} (hlen : off + size ≤ cells.length) (hs : agg = false → size = 1)
    (h : ∀ j (hj : j < cells.length), VR κ F cells[j] (f j)) :
    VR κ F (rdA agg size (cells.drop off)) (if agg then .agg ((List.range size).map fun j => f (off + j)).toArray else f off) := by
  cases agg with
  | true =>
    refine .agg (by simp; omega) fun i hi => ?_
    have hi' : i < size := by simp at hi; omega
    have := h (off + i) (by omega)
    simpa [Array.getD_eq_getD_getElem?, hi'] using this
  | false =>
    have h1 := hs rfl
    have := h off (by omega)
    have e : (cells.drop off).headD .junk = cells[off]'(by omega) := by
      rw [List.drop_eq_getElem_cons (by omega)]; rfl
    simp only [rdA, e, cond_false, Bool.false_eq_true, if_false]
    exact this

theorem run_loadVar {t : TypeId} {tr : TR} (T : TrFacts P t tr) {a : Addr} {f : Nat → Value} (hs : tr.agg = false → tr.size = 1) (h : ∀ j, j < tr.size → w.cell? (a.add j) = some (f j)) :
    (loadVar t a).run P w = .ok (if tr.agg then .agg ((List.range tr.size).map f).toArray else f 0) w := by
  unfold loadVar
  simp only [Sem.run_bind, run_isAgg T.hu, Result.andThen_ok, T.ha]
  cases ha : tr.agg with
  | true => simp [run_sizeOf T.hi, T.hs, run_loadCells w a tr.size f h]
  | false =>
    have := h 0 (by rw [hs ha]; omega)
    have e : a.add 0 = a := by simp [Addr.add]
    rw [e] at this
    simp [this]

theorem VR.rowOf (I : Inv κ F B w0 H w) {r v off : Nat} {p : Value} {cells : List AV} (ha : VR κ F (.ptr r v off) p) (hH : H r = some (.row cells v)) :
    ∃ b i arr e fr, p = .pointer (some ⟨b, off, none⟩) ∧ κ r v = some i ∧ i.blk = some b ∧ B ≤ b ∧ F b = none ∧ w.heap[b]? = some (.cells arr e fr) ∧ Loose arr fr ∧ arr.size = i.cap * i.esz ∧
      cells.length ≤ arr.size ∧ (∀ j (hj : j < cells.length), VR κ F cells[j] (arr.getD j undef)) ∧ ∀ v', v < v' → κ r v' = none := by
  obtain ⟨i, hi, hrow, hn⟩ := I.objs _ _ hH
  cases ha with
  | ptr hk =>
    rw [hi] at hk
    cases hk
    obtain ⟨hB, hFb, arr, e, fr, h1, h2, h3, h4, h5⟩ := hrow
    exact ⟨_, _, arr, e, fr, rfl, hi, rfl, hB, hFb, h1, h2, h3, h4, h5, hn⟩

theorem aggOr {agg : Bool} {n : Nat} (h : (agg || Nat.beq n 1) = true) : agg = false → n = 1 := by
  intro e; rw [e] at h; exact Nat.eq_of_beq_eq_true (by simpa using h)

theorem loadA_ok {t : TypeId} {tr : TR} (T : TrFacts P t tr) (I : Inv κ F B w0 H w) {a : AV} {v : Value} {K : AV → Prop} (ha : VR κ F a v) (h0 : loadA tr a H K) :
    ∃ x y, (Instr.loadAt t v).run P w = .ok x w ∧ VR κ F y x ∧ K y := by
  have h := loadA_sound h0
  clear h0
  have go : ∀ (b off : Nat) (arr : Array Value) e fr (cells : List AV), w.heap[b]? = some (.cells arr e fr) → v = .pointer (some ⟨b, off, none⟩) → off + tr.size ≤ arr.size → (tr.agg = false → tr.size = 1) →
      (Instr.loadAt t v).run P w = .ok (if tr.agg then .agg ((List.range tr.size).map fun j => arr.getD (off + j) undef).toArray else arr.getD off undef) w := by
    intro b off arr e fr cells hh hv hsz hs
    subst hv
    have := run_loadVar (w := w) T (a := ⟨b, off, none⟩) (f := fun j => arr.getD (off + j) undef) hs (fun j hj => by rw [Addr.add_mk]; exact cell_of_heap hh _ (by omega))
    simpa [Instr.loadAt, Instr.sureAddr] using this
  cases a with
  | ptr r vv off =>
    obtain ⟨hs, cells, hH, hlen, hK⟩ := when_iff.1 h
    have hs := aggOr hs
    obtain ⟨b, i, arr, e, fr, rfl, _, _, _, _, h1, _, _, h4, h5, _⟩ := VR.rowOf I ha hH
    exact ⟨_, _, go b off arr e fr cells h1 rfl (by omega) hs, rdA_ok hlen hs (f := fun j => arr.getD j undef) h5, hK⟩
  | cp cells =>
    obtain ⟨hs, hlen, hK⟩ := when_iff.1 h
    have hs := aggOr hs
    cases ha with
    | cp hF hle hc =>
      rename_i b off arr
      obtain ⟨e, fr, h1⟩ := I.fz _ _ hF
      refine ⟨_, _, go b off arr e fr cells h1 rfl (by omega) hs, ?_, hK⟩
      have := rdA_ok (off := 0) (size := tr.size) (agg := tr.agg) (cells := cells) (f := fun j => arr.getD (off + j) undef) (by omega) hs hc
      simpa using this
  | _ => exact h.elim

theorem wrA_length (cells new : List AV) (off : Nat) (h : off + new.length ≤ cells.length) : (wrA cells off new).length = cells.length := by
  simp [wrA]; omega

theorem wrA_getElem (cells new : List AV) (off : Nat) (h : off + new.length ≤ cells.length) (j : Nat) (hj : j < (wrA cells off new).length) :
    (wrA cells off new)[j] = if hh : off ≤ j ∧ j < off + new.length then new[j - off]'(by omega) else cells[j]'(by rw [wrA_length _ _ _ h] at hj; exact hj) := by
  have hl := wrA_length _ _ _ h
  simp only [wrA, List.getElem_append, List.length_take, List.length_append, List.getElem_take, List.getElem_drop]
  split
  · rename_i h1
    split
    · rename_i h2; rw [dif_neg (by omega)]
    · rename_i h2; rw [dif_pos (by omega)]; congr 1; omega
  · rename_i h1
    rw [dif_neg (by omega)]
    congr 1; omega

theorem wrA_ok {cells new : List AV} {arr : Array Value} {vs : List Value} {off : Nat} (hoff : off + new.length ≤ cells.length) (harr : cells.length ≤ arr.size) (hvs : vs.length = new.length)
    (h : ∀ j (hj : j < cells.length), VR κ F cells[j] (arr.getD j undef)) (hn : ∀ j (hj : j < new.length), VR κ F new[j] (vs[j]'(by omega))) :
    ∀ j (hj : j < (wrA cells off new).length), VR κ F (wrA cells off new)[j] ((splice arr off vs).getD j undef) := by
  intro j hj
  rw [wrA_getElem _ _ _ hoff]
  split
  · rename_i hh
    have := getD_splice_in vs arr off (j - off) (by omega) (by omega)
    rw [show off + (j - off) = j by omega] at this
    rw [this]; exact hn _ _
  · rename_i hh
    rw [getD_splice_out _ _ _ _ (by omega)]
    exact h _ _

theorem toList_getD {A : Array Value} {j : Nat} (h : j < A.toList.length) : A.toList[j] = A.getD j undef := by
  have : j < A.size := by simpa using h
  simp [Array.getD_eq_getD_getElem?, this]

/-- A store of cells into a row. -/
theorem Inv.write (I : Inv κ F B w0 H w) {r v off : Nat} {cells new : List AV} {vs : List Value} {i : Inc} {b : Nat} (hH : H r = some (.row cells v)) (hi : κ r v = some i) (hb : i.blk = some b)
    (hoff : off + new.length ≤ cells.length) (hvs : vs.length = new.length) (hn : ∀ j (hj : j < new.length), VR κ F new[j] (vs[j]'(by omega))) (h1 : new.all one = true) :
    (storeCells ⟨b, off, none⟩ vs).run P w = .ok () (w.setCells b off vs) ∧ Inv κ F B w0 (H.set r (.row (wrA cells off new) v)) (w.setCells b off vs) := by
  obtain ⟨i', hi', hrow, hnx⟩ := I.objs _ _ hH
  rw [hi] at hi'; cases hi'
  simp only [RowOk, hb] at hrow
  obtain ⟨hB, hFb, arr, e, fr, hh, hl, hsz, hlen, hc⟩ := hrow
  have hone : ∀ x ∈ vs, x.oneCell' = true := by
    intro x hx
    obtain ⟨j, hj, rfl⟩ := List.getElem_of_mem hx
    exact one_ok (hn j (by omega)) (List.all_eq_true.1 h1 _ (List.getElem_mem (by omega)))
  refine ⟨?_, ?_⟩
  · have := run_storeCells_cells (P := P) b off vs 0 w (fun j hj => by rw [cell_of_heap hh _ (by omega)]; rfl) (fun j hj => frozen_of_heap hh hl _ (by omega)) hone
    simpa using this
  · refine I.turn hH hi hb rfl (fun k hk => heap_setCells_ne b k hk vs off w) (size_setCells b vs off w) (below_setCells b hB vs off w I.below) ?_
    refine ⟨i, hi, ?_, hnx⟩
    simp only [RowOk, hb]
    refine ⟨hB, hFb, splice arr off vs, e, fr, heap_setCells_eq b e fr vs off arr w hh, ?_, by rw [size_splice]; exact hsz, by rw [size_splice, wrA_length _ _ _ hoff]; exact hlen, wrA_ok hoff hlen hvs hc hn⟩
    intro j hj; rw [size_splice] at hj; exact hl j hj

theorem storeA_ok {t : TypeId} {tr : TR} (T : TrFacts P t tr) (I : Inv κ F B w0 H w) {a x : AV} {va vx : Value} {K : AH → Prop} (ha : VR κ F a va) (hx : VR κ F x vx) (h : storeA tr a x H K) :
    ∃ w' H', (Instr.storeAt t va vx).run P w = .ok () w' ∧ Inv κ F B w0 H' w' ∧ K H' := by
  cases a with
  | ptr r v off =>
    obtain ⟨cells, hH, hlen, h⟩ := h
    cases hl : cellsOf x with
    | none => rw [hl] at h; exact h.elim
    | some l =>
      rw [hl] at h
      obtain ⟨hsz, h1, hK⟩ := h
      obtain ⟨hs, hc⟩ := cellsOf_ok hx hl
      obtain ⟨b, i, arr, e, fr, rfl, hi, hb, _⟩ := VR.rowOf I ha hH
      have hvs : vx.cells.toList.length = l.length := by simpa using hs
      have hn : ∀ j (hj : j < l.length), VR κ F l[j] (vx.cells.toList[j]'(by omega)) := fun j hj => by rw [toList_getD]; exact hc j hj
      obtain ⟨hrun, hI⟩ := I.write (P := P) (off := off) (new := l) (vs := vx.cells.toList) hH hi hb (by omega) hvs hn h1
      refine ⟨_, _, ?_, hI, hK⟩
      unfold Instr.storeAt storeVar
      simp only [Instr.sureAddr, Sem.run_bind, Sem.run_pure, Result.andThen_ok, run_sizeOf T.hi, T.hs]
      rw [if_neg (by omega)]
      simpa using hrun
  | _ => exact h.elim

end Go.Fw
