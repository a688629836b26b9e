/- The frame of the abstract walk, part 11: what 'opA' says of an operation holds of the machine's. -/
import Derived.Test.YtgmooalikccbiaaFw10
set_option linter.unusedVariables false
set_option linter.unusedSimpArgs false
namespace Go.Fw
open Go.RowKit

variable {κ : KM} {F : FM} {B : Nat} {w0 w : World} {H : AH} {P : Program} {T : TT}

theorem ev_ok {e : Env} {a : Act} (he : ∀ t, VR κ F (e t) (a.tmps.getD t undef)) (x : Operand) : VR κ F (ev e x) (a.eval x) := by
  cases x with
  | tmp t => exact he t
  | const v => exact ofValue_ok v
  | global g => exact .junk _
  | func f => exact .fn rfl rfl (fun i hi => by simp at hi) (fun i hi => by simp at hi)

theorem evs_ok {e : Env} {a : Act} (he : ∀ t, VR κ F (e t) (a.tmps.getD t undef)) (xs : Array Operand) : VRs κ F (xs.toList.map (ev e)) (xs.map a.eval) := by
  refine ⟨by simp, fun i hi => ?_⟩
  have : i < xs.size := by simpa using hi
  simp [Array.getD_eq_getD_getElem?, this]
  exact ev_ok he _

theorem lenA_ok (hT : T.ok P = true) {t : TypeId} {ty : TypeId} {x : AV} {v : Value} {K : Int → Prop} (hx : VR κ F x v) (h : lenA ((T.get t).map (·.d)) x K) :
    ∃ n : Int, (Builtin.len_ #[t] ty #[v]).run P w = .ok (.int .i64 n) w ∧ K n := by
  cases hg : T.get t with
  | none => rw [hg] at h; cases x <;> exact h.elim
  | some tr =>
    have htr := TT.ok_get hT hg
    rw [hg] at h
    obtain ⟨d, n0, ag, z⟩ := tr
    cases d with
    | str =>
      cases x with
      | str s =>
        cases hx
        have e : (⟨s.toArray⟩ : ByteArray).size = s.length := by simp [ByteArray.size]
        exact ⟨_, by simp [Builtin.len_, run_underlying (tr_str htr), goInt, e], h⟩
      | _ => exact h.elim
    | slice e esz eb ez =>
      have hu := (tr_slice htr).1
      cases x with
      | nils => cases hx; exact ⟨0, by simp [Builtin.len_, run_underlying hu, goInt], h⟩
      | cs cells n => cases hx <;> exact ⟨_, by simp [Builtin.len_, run_underlying hu, goInt], h⟩
      | sl r v es off len lim => cases hx; exact ⟨_, by simp [Builtin.len_, run_underlying hu, goInt], h⟩
      | _ => exact h.elim
    | _ => cases x <;> exact h.elim

theorem mk2_max {k : IntKind} {x y : Int} {K : AV → Prop} (h : mk2 true k x y K) : (∀ k', (Builtin.max2 (.int k x) (.int k' y)).run P w = .ok (.int k (max x y)) w) ∧ K (.int k (max x y)) :=
  ⟨fun k' => by rw [show max x y = (if y > x then y else x) from by split <;> omega]; rfl, h _ rfl⟩
theorem mk2_min {k : IntKind} {x y : Int} {K : AV → Prop} (h : mk2 false k x y K) : (∀ k', (Builtin.min2 (.int k x) (.int k' y)).run P w = .ok (.int k (min x y)) w) ∧ K (.int k (min x y)) :=
  ⟨fun k' => by rw [show min x y = (if y < x then y else x) from by split <;> omega]; rfl, h _ rfl⟩

theorem VRs.inv1 {x : AV} {A : Array Value} (h : VRs κ F [x] A) : ∃ v, A = #[v] ∧ VR κ F x v := by
  obtain ⟨h1, h2⟩ := h
  have : A.size = 1 := h1
  refine ⟨A[0], ?_, ?_⟩
  · apply Array.ext
    · simp [this]
    · intro i hi _; have : i = 0 := by omega
      subst this; simp
  · have := h2 0 (by simp); simpa [Array.getD_eq_getD_getElem?, show 0 < A.size by omega] using this

theorem VRs.inv2 {x y : AV} {A : Array Value} (h : VRs κ F [x, y] A) : ∃ v u, A = #[v, u] ∧ VR κ F x v ∧ VR κ F y u := by
  obtain ⟨h1, h2⟩ := h
  have : A.size = 2 := h1
  refine ⟨A[0], A[1], ?_, ?_, ?_⟩
  · apply Array.ext
    · simp [this]
    · intro i hi _; have : i = 0 ∨ i = 1 := by omega
      rcases this with rfl | rfl <;> simp
  · have := h2 0 (by simp); simpa [Array.getD_eq_getD_getElem?, show 0 < A.size by omega] using this
  · have := h2 1 (by simp); simpa [Array.getD_eq_getD_getElem?, show 1 < A.size by omega] using this

theorem VRs.inv3 {x y z : AV} {A : Array Value} (h : VRs κ F [x, y, z] A) : ∃ v u t, A = #[v, u, t] ∧ VR κ F x v ∧ VR κ F y u ∧ VR κ F z t := by
  obtain ⟨h1, h2⟩ := h
  have : A.size = 3 := h1
  refine ⟨A[0], A[1], A[2], ?_, ?_, ?_, ?_⟩
  · apply Array.ext
    · simp [this]
    · intro i hi _; have : i = 0 ∨ i = 1 ∨ i = 2 := by omega
      rcases this with rfl | rfl | rfl <;> simp
  · have := h2 0 (by simp); simpa [Array.getD_eq_getD_getElem?, show 0 < A.size by omega] using this
  · have := h2 1 (by simp); simpa [Array.getD_eq_getD_getElem?, show 1 < A.size by omega] using this
  · have := h2 2 (by simp); simpa [Array.getD_eq_getD_getElem?, show 2 < A.size by omega] using this

theorem mm_max {ts : Array TypeId} {ty : TypeId} {xs : List AV} {A : Array Value} {K : AV → Prop} (hx : VRs κ F xs A) (h : mmA true xs K) : ∃ y v, (Builtin.max_ ts ty A).run P w = .ok v w ∧ VR κ F y v ∧ K y := by
  unfold mmA at h
  split at h
  · obtain ⟨v, rfl, hv⟩ := hx.inv1
    cases hv
    exact ⟨_, _, by simp [Builtin.max_], .int _ _, h⟩
  · obtain ⟨v, u, rfl, hv, hu⟩ := hx.inv2
    cases hv; cases hu
    obtain ⟨h1, h2⟩ := mk2_max (P := P) (w := w) h
    exact ⟨_, _, by simp only [Builtin.max_, List.foldlM_cons, List.foldlM_nil, Sem.run_bind, h1, Result.andThen_ok, Sem.run_pure], .int _ _, h2⟩
  · obtain ⟨v, u, t, rfl, hv, hu, ht⟩ := hx.inv3
    cases hv; cases hu; cases ht
    obtain ⟨h1, h2⟩ := mk2_max (P := P) (w := w) h
    obtain ⟨h3, h4⟩ := mk2_max (P := P) (w := w) h2
    exact ⟨_, _, by simp only [Builtin.max_, List.foldlM_cons, List.foldlM_nil, Sem.run_bind, h1, h3, Result.andThen_ok, Sem.run_pure], .int _ _, h4⟩
  · exact h.elim

theorem mm_min {ts : Array TypeId} {ty : TypeId} {xs : List AV} {A : Array Value} {K : AV → Prop} (hx : VRs κ F xs A) (h : mmA false xs K) : ∃ y v, (Builtin.min_ ts ty A).run P w = .ok v w ∧ VR κ F y v ∧ K y := by
  unfold mmA at h
  split at h
  · obtain ⟨v, rfl, hv⟩ := hx.inv1
    cases hv
    exact ⟨_, _, by simp [Builtin.min_], .int _ _, h⟩
  · obtain ⟨v, u, rfl, hv, hu⟩ := hx.inv2
    cases hv; cases hu
    obtain ⟨h1, h2⟩ := mk2_min (P := P) (w := w) h
    exact ⟨_, _, by simp only [Builtin.min_, List.foldlM_cons, List.foldlM_nil, Sem.run_bind, h1, Result.andThen_ok, Sem.run_pure], .int _ _, h2⟩
  · obtain ⟨v, u, t, rfl, hv, hu, ht⟩ := hx.inv3
    cases hv; cases hu; cases ht
    obtain ⟨h1, h2⟩ := mk2_min (P := P) (w := w) h
    obtain ⟨h3, h4⟩ := mk2_min (P := P) (w := w) h2
    exact ⟨_, _, by simp only [Builtin.min_, List.foldlM_cons, List.foldlM_nil, Sem.run_bind, h1, h3, Result.andThen_ok, Sem.run_pure], .int _ _, h4⟩
  · exact h.elim

theorem builtinA_ok (hT : T.ok P = true) (I : Inv κ F B w0 H w) {b : Builtin} {ts : Array TypeId} {ty : TypeId} {cst : Array Bool} {xs : List AV} {A : Array Value} {K : AV → AH → Prop} (hx : VRs κ F xs A)
    (h : builtinA T b ts.toList xs H K) : ∃ v w', (builtin b ts ty cst A).run P w = .ok (.value v) w' ∧ Left κ F B w0 K v w' := by
  cases ts with | mk ts =>
  unfold builtinA at h
  split at h
  · obtain ⟨v, rfl, hv⟩ := hx.inv1
    rename_i t x hts
    simp only at hts; subst hts
    obtain ⟨n, hrun, hK⟩ := lenA_ok (w := w) (ty := ty) hT hv h
    exact ⟨_, _, by simp [builtin, hrun], Left.same I (.int _ _) hK⟩
  · obtain ⟨v, u, rfl, hv, hu⟩ := hx.inv2
    rename_i t t2 s x hts
    simp only at hts; subst hts
    split at h
    · rename_i hg1 hg2
      have h2 := (tr_slice (TT.ok_get hT hg2)).1
      obtain ⟨v', w', hrun, hL⟩ := appendA_ok (ty := ty) (TT.ok_get hT hg1) h2 rfl I hv hu h
      exact ⟨v', w', by simp [builtin, hrun], hL⟩
    · rename_i hg1 hg2
      have h2 := tr_str (TT.ok_get hT hg2)
      obtain ⟨v', w', hrun, hL⟩ := appendA_ok (ty := ty) (TT.ok_get hT hg1) h2 rfl I hv hu h
      exact ⟨v', w', by simp [builtin, hrun], hL⟩
    · exact h.elim
  · obtain ⟨v, u, rfl, hv, hu⟩ := hx.inv2
    rename_i t t2 s x hts
    simp only at hts; subst hts
    split at h
    · rename_i hg1
      obtain ⟨v', w', hrun, hL⟩ := copyA_ok (ty := ty) (u := t2) (TT.ok_get hT hg1) I hv hu h
      exact ⟨v', w', by simp [builtin, hrun], hL⟩
    · exact h.elim
  · obtain ⟨y, v, hrun, hy, hK⟩ := mm_max (P := P) (w := w) (ts := ⟨ts⟩) (ty := ty) hx h
    exact ⟨v, w, by simp [builtin, hrun], Left.same I hy hK⟩
  · obtain ⟨y, v, hrun, hy, hK⟩ := mm_min (P := P) (w := w) (ts := ⟨ts⟩) (ty := ty) hx h
    exact ⟨v, w, by simp [builtin, hrun], Left.same I hy hK⟩
  · exact h.elim

theorem optOf_ok {e : Env} {a : Act} (he : ∀ t, VR κ F (e t) (a.tmps.getD t undef)) {x : Option Operand} {o : Option Int} (h : optOf e x = some o) : OptV o (x.map a.eval) := by
  cases x with
  | none => simp only [optOf, Option.some.injEq] at h; subst h; trivial
  | some x =>
    simp only [optOf] at h
    have := ev_ok he x
    split at h
    · rename_i k i hx
      cases h
      rw [hx] at this
      show ∃ k, a.eval x = .int k i
      generalize a.eval x = v at this ⊢
      cases this
      exact ⟨k, rfl⟩
    · cases h

/-- The value that an operation hands back. -/
def Val (nx : Next) (v : Value) : Prop := nx = .value v ∨ (nx = .skip ∧ v = undef)

abbrev vparts (a : Act) (parts : Array (Nat × Operand)) : Array (Nat × Value) := parts.map fun p => (p.1, a.eval p.2)

theorem parts_ok {e : Env} {a : Act} (he : ∀ t, VR κ F (e t) (a.tmps.getD t undef)) (parts : Array (Nat × Operand)) :
    (parts.toList.map fun p => (p.1, ev e p.2)).length = (vparts a parts).toList.length ∧
    ∀ j (h1 : j < (parts.toList.map fun p => (p.1, ev e p.2)).length) (h2 : j < (vparts a parts).toList.length),
      (parts.toList.map fun p => (p.1, ev e p.2))[j].1 = (vparts a parts).toList[j].1 ∧ VR κ F (parts.toList.map fun p => (p.1, ev e p.2))[j].2 (vparts a parts).toList[j].2 := by
  refine ⟨by simp, fun j h1 h2 => ?_⟩
  have : j < parts.size := by simpa using h1
  simp
  exact ev_ok he _

theorem mapM_places : ∀ (fs : List Field) (ps : List (Nat × Nat × Bool)), fs.length = ps.length →
    (∀ j (h1 : j < fs.length) (h2 : j < ps.length), fs[j].offset = ps[j].1 ∧ (P.info? fs[j].type).map (·.size) = some ps[j].2.1) →
    fs.mapM (fun f => (P.info? f.type).map fun i => (f.offset, i.size)) = some (ps.map fun p => (p.1, p.2.1))
  | [], [], _, _ => by simp
  | [], _ :: _, h, _ => by simp at h
  | _ :: _, [], h, _ => by simp at h
  | f :: fs, p :: ps, h, hh => by
    obtain ⟨h1, h2⟩ := hh 0 (by simp) (by simp)
    simp only [List.getElem_cons_zero] at h1 h2
    have ih := mapM_places fs ps (by simpa using h) (fun j g1 g2 => by have := hh (j + 1) (by simpa using g1) (by simpa using g2); simpa using this)
    cases hi : P.info? f.type with
    | none => rw [hi] at h2; simp at h2
    | some i =>
      rw [hi] at h2
      simp at h2
      simp [List.mapM_cons, hi, ih, h1, h2]

theorem buildA_ok (hT : T.ok P = true) (I : Inv κ F B w0 H w) {e : Env} {a : Act} (he : ∀ t, VR κ F (e t) (a.tmps.getD t undef)) {t : TypeId} {parts : Array (Nat × Operand)} {K : AV → AH → Prop}
    (h : opA T (.build t parts) e H K) : ∃ v, (Instr.build t (vparts a parts)).run P w = .ok v w ∧ Left κ F B w0 K v w := by
  obtain ⟨hl, hp⟩ := parts_ok (κ := κ) (F := F) he parts
  simp only [opA] at h
  split at h
  · rename_i fs n ag z hg
    have htr := TT.ok_get hT hg
    obtain ⟨fields, hu, hsz, hf⟩ := tr_struct htr
    obtain ⟨⟨i, zv, u, hi, his, hz, hzo, _, _⟩⟩ := tr_facts htr
    split at h
    · rename_i cells hfill
      rw [forceL_eq, or_self] at h
      obtain ⟨hzs, hzc⟩ := zerosOk_ok (κ := κ) (F := F) hzo
      have hpl := mapM_places (P := P) fields.toList fs (by simpa using hsz) (fun j h1 h2 => by
        have h1' : j < fields.size := by simpa using h1
        obtain ⟨f, i', u', hf1, hf2, hf3, hf4, _⟩ := hf j fs[j] (by simp [h2])
        have : fields.toList[j] = f := by simpa [h1'] using hf1
        rw [this]
        exact ⟨hf2, by rw [hf3]; simp [hf4]⟩)
      obtain ⟨arr', h1, h2, h3⟩ := fillA_ok (κ := κ) (F := F) (place := fun i => (fs[i]?).map fun p => (p.1, p.2.1)) (place' := fun i => ((fs.map fun p => (p.1, p.2.1)).toArray)[i]?) (fun i p hp => by simpa using hp)
        _ _ z cells zv.cells hzs.symm hzc hl hp hfill
      refine ⟨.agg arr', ?_, Left.same I (.agg h2 h3) h⟩
      refine run_build w t _ arr' ?_
      unfold Program.built
      simp only [hi, hu, hz, hpl]
      exact h1
    · exact h.elim
  · rename_i len en esz ea n ag z hg
    have htr := TT.ok_get hT hg
    obtain ⟨hu, ⟨ie, hie, hies⟩, hne, _⟩ := tr_array htr
    obtain ⟨⟨i, zv, u, hi, his, hz, hzo, _, _⟩⟩ := tr_facts htr
    split at h
    · rename_i cells hfill
      rw [forceL_eq, or_self] at h
      obtain ⟨hzs, hzc⟩ := zerosOk_ok (κ := κ) (F := F) hzo
      obtain ⟨arr', h1, h2, h3⟩ := fillA_ok (κ := κ) (F := F) (place := fun i => some (i * esz, esz)) (place' := fun i => some (i * esz, esz)) (fun i p hp => hp)
        _ _ z cells zv.cells hzs.symm hzc hl hp hfill
      refine ⟨.agg arr', ?_, Left.same I (.agg h2 h3) h⟩
      unfold Instr.build
      simp only [Sem.run_bind, run_zeroValue hi hz, Result.andThen_ok, run_underlying hu, run_sizeOf hie, hies]
      rw [h1]
      rfl
    · exact h.elim
  · exact h.elim

end Go.Fw
