/- The frame of the abstract walk, part 12: an operation of the machine under 'opA'. -/
import Derived.Test.YtgmooalikccbiaaFw11
set_option linter.unusedVariables false
set_option linter.unusedSimpArgs false
namespace Go.Fw
open Go.RowKit

variable {κ : KM} {F : FM} {B : Nat} {w0 w : World} {H : AH} {P : Program} {T : TT}

theorem buildSliceA_ok (hT : T.ok P = true) (I : Inv κ F B w0 H w) {e : Env} {a : Act} (he : ∀ t, VR κ F (e t) (a.tmps.getD t undef)) {t : TypeId} {len : Nat} {parts : Array (Nat × Operand)} {K : AV → AH → Prop}
    (h : opA T (.buildSlice t len parts) e H K) : ∃ v w', (Instr.buildSlice t len (vparts a parts)).run P w = .ok v w' ∧ Left κ F B w0 K v w' := by
  obtain ⟨hl, hp⟩ := parts_ok (κ := κ) (F := F) he parts
  simp only [opA] at h
  split at h
  · rename_i en esz eb ez n ag z hg
    have htr := TT.ok_get hT hg
    obtain ⟨hu, ⟨i, zv, hi, his, hz, hzo, hib⟩, hezl, hesz, heb⟩ := tr_slice htr
    subst his
    split at h
    · rename_i cells hfill
      obtain ⟨hsm, hK⟩ := when_iff.1 h
      have hsm := Nat.le_of_ble_eq_true hsm
      obtain ⟨r, hr, hkr⟩ := I.fresh
      have hzl : ((List.replicate len ez).flatten).length = ((Array.range (len * i.size)).map (zv.cells[· % zv.cells.size]!)).size := by rw [replicate_flatten_length, hezl]; simp
      obtain ⟨arr', h1, h2, h3⟩ := fillA_ok (κ := κ) (F := F) (place := fun j => some (j * i.size, i.size)) (place' := fun j => some (j * i.size, i.size)) (fun j p hp => hp)
        _ _ ((List.replicate len ez).flatten) cells ((Array.range (len * i.size)).map (zv.cells[· % zv.cells.size]!)) hzl
        (fun j hj => zeros_ok hzo (by omega) len _ (by rw [hezl]; exact Nat.le_refl _) j hj) hl hp hfill
      have hlen : cells.length = len * i.size := by
        have hwr : ∀ (parts : List (Nat × AV)) (c out : List AV), fillA (fun j => some (j * i.size, i.size)) c parts = some out → out.length = c.length := by
          intro parts
          induction parts with
          | nil => intro c out h; simp only [fillA, Option.some.injEq] at h; rw [h]
          | cons q rest ih =>
            obtain ⟨j, v⟩ := q
            intro c out h
            simp only [fillA] at h
            split at h
            · rename_i off size l hpi hl'
              cases hcond : (l.length == size && Nat.ble (off + size) c.length) with
              | false => rw [hcond] at h; simp at h
              | true =>
                rw [hcond] at h
                simp only [cond_true] at h
                simp only [Bool.and_eq_true, beq_iff_eq, Nat.ble_eq] at hcond
                rw [ih _ _ h, wrA_length _ _ _ (by omega)]
            · cases h
        rw [hwr _ _ _ hfill, replicate_flatten_length, hezl]
      have hrun : (Instr.buildSlice t len (vparts a parts)).run P w = .ok (.slice (some ⟨w.heap.size, 0, none⟩) len len) (w.alloc (.cells arr' en)) := by
        by_cases h0 : len * i.size = 0
        · have hl0 : len = 0 := by rcases Nat.mul_eq_zero.1 h0 with h | h; · exact h
                                   · exact absurd h hesz
          subst hl0
          simp only [Nat.zero_mul, Array.range_zero', Array.map_empty, vparts, Array.toList_map] at h1
          simp [Instr.buildSlice, run_underlying hu, sizeOf, typeInfo, hi, newRow, Array.range_zero', h1]
        · exact run_buildSlice w t en len _ arr' i zv hu hi hz (by omega) h0 h1
      rw [forceL_eq] at hK
      rcases hK with hK | hK | ⟨hl0, hK⟩
      · exact ⟨_, _, hrun, newRow_cs I _ (Nat.le_refl _) (by rw [h2]; exact Nat.le_refl _) h3 hK (loose_zero _)⟩
      · obtain ⟨hle, I'⟩ := I.newRow (e := en) (fr := (0, 0)) (r := r) (v := 0) (cap := len) (esz := i.size) (cells := cells) (arr := arr') hr (fun u _ => hkr u) (loose_zero _) (by rw [h2, hlen]) (by rw [h2]; exact Nat.le_refl _) h3
        refine ⟨_, _, hrun, _, _, _, F, hle, FLe.refl _, I', ?_, hK r hr⟩
        exact .sl (KM.put_same ..) (lo := 0) (by simp) (by simp) (show _ = _ by simp) (Nat.le_refl _) (Or.inr ⟨_, rfl, rfl⟩)
      · subst hl0
        exact ⟨_, _, hrun, Left.same (I.alloc _) (VR.nils _) hK⟩
    · exact h.elim
  · exact h.elim

theorem opA_ok (hT : T.ok P = true) (I : Inv κ F B w0 H w) {e : Env} {a : Act} (he : ∀ t, VR κ F (e t) (a.tmps.getD t undef)) {o : Oper} {K : AV → AH → Prop}
    (h : opA T o.op e H K) : ∃ nx v w', (execOp a.eval o).run P w = .ok nx w' ∧ Val nx v ∧ Left κ F B w0 K v w' := by
  obtain ⟨dst, op, type, pos, after, guard⟩ := o
  simp only at h
  have ok : ∀ {s : Sem Value} {v : Value} {w' : World}, s.run P w = .ok v w' → ((do pure (Next.value (← s)) : Sem Next)).run P w = .ok (.value v) w' := by
    intro s v w' h; simp [h]
  have evs := fun x => ev_ok (κ := κ) (F := F) he x
  cases op with
  | move x => exact ⟨_, _, w, rfl, .inl rfl, Left.same I (evs x) h⟩
  | assign x => exact ⟨_, _, w, rfl, .inl rfl, Left.same I (evs x) h⟩
  | pick c x y =>
    simp only [opA] at h
    have hc := evs c
    split at h
    · rename_i t hcv
      rw [hcv] at hc
      generalize hvc : a.eval c = vc at hc
      cases hc
      refine ⟨.value (if t then a.eval x else a.eval y), _, w, ?_, .inl rfl, Left.same I (y := cond t (ev e x) (ev e y)) ?_ h⟩
      · simp [execOp, hvc, asBool]
      · cases t
        · exact evs y
        · exact evs x
    · exact h.elim
  | alloc t =>
    simp only [opA] at h
    split at h
    · rename_i tr hg
      obtain ⟨⟨i, zv, u, hi, his, hz, hzo, _, _⟩⟩ := tr_facts (TT.ok_get hT hg)
      obtain ⟨w', hrun, hL⟩ := newVar_ok (P := P) I t (zerosOk_ok hzo) h
      exact ⟨_, _, w', ok (by simp [Instr.alloc, run_zeroValue hi hz, hrun]), .inl rfl, hL⟩
    · exact h.elim
  | box t x =>
    simp only [opA] at h
    split at h
    · rename_i l hl
      obtain ⟨w', hrun, hL⟩ := newVar_ok (P := P) I t (cellsOf_ok (evs x) hl) h
      exact ⟨_, _, w', ok (by simp [Instr.box, hrun]), .inl rfl, hL⟩
    · exact h.elim
  | build t parts =>
    obtain ⟨v, hrun, hL⟩ := buildA_ok hT I he h
    exact ⟨_, _, w, ok hrun, .inl rfl, hL⟩
  | buildSlice t len parts =>
    obtain ⟨v, w', hrun, hL⟩ := buildSliceA_ok hT I he h
    exact ⟨_, _, w', ok hrun, .inl rfl, hL⟩
  | load t x =>
    simp only [opA] at h
    split at h
    · rename_i tr hg
      obtain ⟨TF⟩ := tr_facts (TT.ok_get hT hg)
      obtain ⟨v, y, hrun, hy, hK⟩ := loadA_ok TF I (evs x) h
      exact ⟨_, _, w, ok hrun, .inl rfl, Left.same I hy hK⟩
    · exact h.elim
  | store t x y =>
    simp only [opA] at h
    split at h
    · rename_i tr hg
      obtain ⟨TF⟩ := tr_facts (TT.ok_get hT hg)
      obtain ⟨w', H', hrun, hI, hK⟩ := storeA_ok TF I (evs x) (evs y) h
      exact ⟨.skip, undef, w', by simp [execOp, hrun], .inr ⟨rfl, rfl⟩, Left.same hI (.junk _) hK⟩
    · exact h.elim
  | nilCheck x =>
    simp only [opA] at h
    have hx := evs x
    split at h
    · rename_i r v off hxv
      rw [hxv] at hx
      generalize hvx : a.eval x = vx at hx
      have hx' := hx
      cases hx with
      | ptr hk => exact ⟨.value _, _, w, by simp [execOp, hvx], .inl rfl, Left.same I hx' h⟩
    · rename_i cells hxv
      rw [hxv] at hx
      generalize hvx : a.eval x = vx at hx
      have hx' := hx
      cases hx with
      | cp h1 h2 h3 => exact ⟨.value _, _, w, by simp [execOp, hvx], .inl rfl, Left.same I hx' h⟩
    · rename_i f p c hxv
      rw [hxv] at hx
      generalize hvx : a.eval x = vx at hx
      have hx' := hx
      cases hx with
      | fn h1 h2 h3 h4 => exact ⟨.value _, _, w, by simp [execOp, hvx], .inl rfl, Left.same I hx' h⟩
    · exact h.elim
  | binOp op t x y yt =>
    simp only [opA] at h
    cases hy : isNilS y with
    | true =>
      rw [hy] at h
      have hy := isNilS_ok hy
      subst hy
      obtain ⟨z, v, hrun, hz, hK⟩ := nilA_ok (w := w) (ox := x) (oy := .const (.slice none 0 0)) hT (evs x) h
      exact ⟨_, _, w, ok hrun, .inl rfl, Left.same I hz hK⟩
    | false =>
      rw [hy] at h
      obtain ⟨z, v, hrun, hz, hK⟩ := binA_ok (w := w) (ox := x) (oy := y) hT (evs x) (evs y) h
      exact ⟨_, _, w, ok hrun, .inl rfl, Left.same I hz hK⟩
  | unOp op t x =>
    simp only [opA] at h
    have hx := evs x
    split at h
    · rename_i k n hxv
      rw [hxv] at hx
      generalize hvx : a.eval x = vx at hx
      cases hx
      exact ⟨_, _, w, ok (by simp only [hvx]; rfl), .inl rfl, Left.same I (.int k _) (h _ rfl)⟩
    · rename_i k n hxv
      rw [hxv] at hx
      generalize hvx : a.eval x = vx at hx
      cases hx
      exact ⟨_, _, w, ok (by simp only [hvx]; rfl), .inl rfl, Left.same I (.int k _) (h _ rfl)⟩
    · rename_i b hxv
      rw [hxv] at hx
      generalize hvx : a.eval x = vx at hx
      cases hx
      exact ⟨_, _, w, ok (by simp only [hvx]; rfl), .inl rfl, Left.same I (.bool _) h⟩
    · exact h.elim
  | convert s d x =>
    simp only [opA] at h
    split at h
    · rename_i sr dr hg1 hg2
      obtain ⟨v', w', hrun, hL⟩ := convA_ok hT (TT.ok_get hT hg1) (TT.ok_get hT hg2) I (evs x) h
      exact ⟨_, _, w', ok hrun, .inl rfl, hL⟩
    · exact h.elim
  | makeFunc f first captured =>
    obtain ⟨h1, h2⟩ := evs_ok (κ := κ) (F := F) he first
    obtain ⟨h3, h4⟩ := evs_ok (κ := κ) (F := F) he captured
    exact ⟨.value _, _, w, rfl, .inl rfl, Left.same I (.fn h1 h3 h2 h4) h⟩
  | makeSlice t l c =>
    simp only [opA] at h
    have hl := evs l
    have hc := evs c
    split at h
    · rename_i en esz eb ez n ag z kl vl kc vc hg hlv hcv
      rw [hlv] at hl; rw [hcv] at hc
      generalize hvl : a.eval l = ul at hl
      generalize hvc : a.eval c = uc at hc
      cases hl; cases hc
      obtain ⟨h0, h1, h2, h3⟩ := h
      obtain ⟨v', w', hrun, hL⟩ := makeSlice_ok (kl := kl) (kc := kc) (TT.ok_get hT hg) I h0 h1 h2 h3
      exact ⟨_, _, w', ok (by simp only [hvl, hvc]; exact hrun), .inl rfl, hL⟩
    · exact h.elim
  | slice t x lo hi mx =>
    simp only [opA] at h
    split at h
    · rename_i tr lo' hi' mx' hg h1 h2 h3
      obtain ⟨v, y, hrun, hy, hK⟩ := sliceA_ok (w := w) (TT.ok_get hT hg) (evs x) (optOf_ok he h1) (optOf_ok he h2) (optOf_ok he h3) h
      exact ⟨_, _, w, ok hrun, .inl rfl, Left.same I hy hK⟩
    · exact h.elim
  | fieldAddr t x f =>
    simp only [opA] at h
    split at h
    · rename_i fs n ag z hg
      obtain ⟨v, y, hrun, hy, hK⟩ := fieldAddrA_ok (w := w) (TT.ok_get hT hg) (evs x) h
      exact ⟨_, _, w, ok hrun, .inl rfl, Left.same I hy hK⟩
    · exact h.elim
  | field t x f =>
    simp only [opA] at h
    have hx := evs x
    split at h
    · rename_i fs n ag z cells hg hxv
      rw [hxv] at hx
      split at h
      · rename_i off size agg hf
        obtain ⟨h2, h1, h3⟩ := when_iff.1 h
        obtain ⟨v, y, hrun, hy, hK⟩ := fieldA_ok (w := w) (K := fun v => K v H) (TT.ok_get hT hg) hx hf h1 (aggOr h2) h3
        exact ⟨_, _, w, ok hrun, .inl rfl, Left.same I hy hK⟩
      · exact h.elim
    · exact h.elim
  | indexAddr t x i =>
    simp only [opA] at h
    split at h
    · rename_i tr hg
      obtain ⟨v, y, hrun, hy, hK⟩ := indexAddrA_ok (w := w) (TT.ok_get hT hg) (evs x) (evs i) h
      exact ⟨_, _, w, ok hrun, .inl rfl, Left.same I hy hK⟩
    · exact h.elim
  | index t x i =>
    simp only [opA] at h
    split at h
    · rename_i tr hg
      obtain ⟨v, y, hrun, hy, hK⟩ := indexA_ok (w := w) (TT.ok_get hT hg) (evs x) (evs i) h
      exact ⟨_, _, w, ok hrun, .inl rfl, Left.same I hy hK⟩
    · exact h.elim
  | extract t i =>
    simp only [opA] at h
    have ht := evs t
    split at h
    · rename_i vs hv
      rw [hv] at ht
      generalize hvt : a.eval t = vt at ht
      cases ht with
      | tup hA hc =>
        rename_i A
        split at h
        · rename_i v hvi
          obtain ⟨hi, rfl⟩ := List.getElem?_eq_some_iff.1 hvi
          have := hc i hi
          refine ⟨_, A.getD i undef, w, ok ?_, .inl rfl, Left.same I this h⟩
          simp only [hvt, Instr.extract]
          have : A[i]? = some (A.getD i undef) := by rw [Array.getD_eq_getD_getElem?, Array.getElem?_eq_getElem (by omega)]; rfl
          rw [this]; rfl
        · exact h.elim
    · exact h.elim
  | call c =>
    simp only [opA] at h
    split at h
    · rename_i b hcl
      obtain ⟨v, w', hrun, hL⟩ := builtinA_ok (ty := type) (cst := c.args.map fun | .const _ => true | _ => false) hT I (evs_ok he c.args) h
      refine ⟨_, v, w', ?_, .inl rfl, hL⟩
      simp only [execOp, resolve, hcl, pure_bind, invoke]
      exact hrun
    · exact h.elim
  | _ => exact h.elim

end Go.Fw
