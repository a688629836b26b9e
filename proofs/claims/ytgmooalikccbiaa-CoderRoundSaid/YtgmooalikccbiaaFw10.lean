/- The frame of the abstract walk, part 10: each operation, as the machine carries it out. -/
import Derived.Test.YtgmooalikccbiaaFw9
import Derived.Laws.Strings
set_option linter.unusedVariables false
set_option linter.unusedSimpArgs false
namespace Go.Fw
open Go.RowKit

variable {κ : KM} {F : FM} {B : Nat} {w0 w : World} {H : AH} {P : Program} {T : TT}

theorem tr_bool {t : TypeId} {r : TR} (h : trOk P t r = true) (hd : r.d = .bool) : P.underlying t = some .bool := by
  obtain ⟨d, n, a, z⟩ := r; simp only at hd; subst hd
  unfold trOk at h
  simp only [Bool.and_eq_true] at h
  cases hu : P.underlying t with
  | none => rw [hu] at h; simp at h
  | some u => rw [hu] at h; cases u <;> simp at h; rfl

theorem tr_ptr {t e : TypeId} {r : TR} (h : trOk P t r = true) (hd : r.d = .ptr e) : P.underlying t = some (.pointer e) := by
  obtain ⟨d, n, a, z⟩ := r; simp only at hd; subst hd
  unfold trOk at h
  simp only [Bool.and_eq_true] at h
  cases hu : P.underlying t with
  | none => rw [hu] at h; simp at h
  | some u => rw [hu] at h; cases u <;> simp at h; rw [h.2.2]

theorem tr_func {t : TypeId} {r : TR} (h : trOk P t r = true) (hd : r.d = .func) : ∃ p q v, P.underlying t = some (.func p q v) := by
  obtain ⟨d, n, a, z⟩ := r; simp only at hd; subst hd
  unfold trOk at h
  simp only [Bool.and_eq_true] at h
  cases hu : P.underlying t with
  | none => rw [hu] at h; simp at h
  | some u => rw [hu] at h; cases u <;> simp at h; exact ⟨_, _, _, rfl⟩

theorem ifA_pick {p : Prop} {K : AV → Prop} (h : ifA p K) (b : Bool) (hb : b = true ↔ p) : K (.bool b) := by
  cases b with
  | true => exact h.l (hb.1 rfl)
  | false => exact h.r (fun x => by have := hb.2 x; cases this)

theorem neqA_pick {op : BinOp} {p : Prop} {K : AV → Prop} (h : neqA op p K) (b : Bool) (hb : b = true ↔ p) : (op = .eql ∧ K (.bool b)) ∨ (op = .neq ∧ K (.bool !b)) := by
  cases op <;> first | exact h.elim | skip
  · exact .inl ⟨rfl, ifA_pick h b hb⟩
  · refine .inr ⟨rfl, ifA_pick h (!b) ?_⟩
    cases b
    · simp; exact fun x => by have := hb.2 x; cases this
    · simp; exact hb.1 rfl

theorem binI_ok {op : BinOp} {k : IntKind} {a b : Int} {K : AV → Prop} (hs : isShift op = false) (h : binI op k a b K) (t : TypeId) :
    ∃ y v, (binOp op t (.int k a) (.int k b)).run P w = .ok v w ∧ VR κ F y v ∧ K y := by
  cases op <;> first
    | (exfalso; simp [isShift] at hs; done)
    | (refine ⟨_, _, ?_, .int k _, h _ rfl⟩; simp [binOp, Op.intArith]; done)
    | (obtain ⟨hb, h⟩ := h; refine ⟨_, _, ?_, .int k _, h _ rfl⟩; simp [binOp, Op.intDiv, hb]; done)
    | (refine ⟨_, _, ?_, .int k _, h _ rfl⟩; simp [binOp]; rfl)
    | skip
  · refine ⟨_, .bool (a == b), ?_, .bool _, ifA_pick h (a == b) (by simp)⟩; simp [binOp, Op.intCmp]
  · refine ⟨_, .bool (a != b), ?_, .bool _, ifA_pick h (a != b) (by simp)⟩; simp [binOp, Op.intCmp]
  · refine ⟨_, .bool (decide (a < b)), ?_, .bool _, ifA_pick h _ (by simp)⟩; simp [binOp, Op.intCmp]
  · refine ⟨_, .bool (decide (a ≤ b)), ?_, .bool _, ifA_pick h _ (by simp)⟩; simp [binOp, Op.intCmp]
  · refine ⟨_, .bool (decide (a > b)), ?_, .bool _, ifA_pick h _ (by simp)⟩; simp [binOp, Op.intCmp]
  · refine ⟨_, .bool (decide (a ≥ b)), ?_, .bool _, ifA_pick h _ (by simp)⟩; simp [binOp, Op.intCmp]

theorem shiftA_ok {op : BinOp} {k k' : IntKind} {a b : Int} {K : AV → Prop} (hs : isShift op = true) (h : shiftA op k a b K) (t : TypeId) :
    ∃ y v, (binOp op t (.int k a) (.int k' b)).run P w = .ok v w ∧ VR κ F y v ∧ K y := by
  cases op <;> first
    | (exfalso; simp [isShift] at hs; done)
    | (obtain ⟨hb, h⟩ := h; have hb' : ¬ b < 0 := (by omega); refine ⟨_, _, ?_, .int k _, h _ rfl⟩; simp [binOp, Op.shift, hb']; done)

theorem run_equal {t : TypeId} {u : TypeDesc} (hu : P.underlying t = some u) (x y : Value) (b : Bool)
    (h : (u = .bool ∧ ∃ p q, x = .bool p ∧ y = .bool q ∧ b = (p == q)) ∨ (∃ e, u = .pointer e ∧ ((x = .pointer none ∧ ∃ q, y = .pointer q ∧ b = q.isNone) ∨ (∃ q, x = .pointer (some q) ∧ y = .pointer none ∧ b = false))) ∨
      (∃ p q v, u = .func p q v ∧ ((x = .nilFunc ∧ y = .nilFunc ∧ b = true) ∨ (∃ f g c, x = .func f g c ∧ y = .nilFunc ∧ b = false)))) :
    (Op.equal t x y).run P w = .ok b w := by
  unfold Op.equal Op.maxDepth
  rw [show (10000 : Nat) = 9999 + 1 from rfl]
  unfold Op.equalIn
  rcases h with ⟨rfl, p, q, rfl, rfl, rfl⟩ | ⟨e, rfl, ⟨rfl, q, rfl, rfl⟩ | ⟨q, rfl, rfl, rfl⟩⟩ | ⟨p, q, v, rfl, ⟨rfl, rfl, rfl⟩ | ⟨f, g, c, rfl, rfl, rfl⟩⟩ <;> simp [run_underlying hu]

theorem bytes_toList (l : List UInt8) : (⟨l.toArray⟩ : ByteArray).toList = l := by
  rw [Go.ByteArray.toList_eq]

theorem str_beq (a b : List UInt8) : ((⟨a.toArray⟩ : ByteArray).toList == (⟨b.toArray⟩ : ByteArray).toList) = true ↔ a = b := by
  rw [bytes_toList, bytes_toList]; simp

theorem isPtr_ok (hT : T.ok P = true) {t : TypeId} (h : TD.isPtr ((T.get t).map (·.d)) = true) : ∃ e, P.underlying t = some (.pointer e) := by
  cases hg : T.get t with
  | none => rw [hg] at h; cases h
  | some r =>
    rw [hg] at h
    cases hd : r.d <;> (rw [Option.map_some, hd] at h; first | (exfalso; simp [TD.isPtr] at h; done) | exact ⟨_, tr_ptr (TT.ok_get hT hg) hd⟩)

theorem isFunc_ok (hT : T.ok P = true) {t : TypeId} (h : TD.isFunc ((T.get t).map (·.d)) = true) : ∃ p q v, P.underlying t = some (.func p q v) := by
  cases hg : T.get t with
  | none => rw [hg] at h; cases h
  | some r =>
    rw [hg] at h
    cases hd : r.d <;> (rw [Option.map_some, hd] at h; first | (exfalso; simp [TD.isFunc] at h; done) | exact tr_func (TT.ok_get hT hg) hd)

theorem isBool_ok (hT : T.ok P = true) {t : TypeId} (h : TD.isBool ((T.get t).map (·.d)) = true) : P.underlying t = some .bool := by
  cases hg : T.get t with
  | none => rw [hg] at h; cases h
  | some r =>
    rw [hg] at h
    cases hd : r.d <;> (rw [Option.map_some, hd] at h; first | (exfalso; simp [TD.isBool] at h; done) | exact tr_bool (TT.ok_get hT hg) hd)

theorem eqGuard_pure {op : BinOp} {t : TypeId} {ox oy : Operand} {a b : Value} (h1 : ¬ (a = .nilIface ∧ b = .nilIface)) (h2 : ∀ p q, ¬ (a = .agg p ∧ b = .agg q)) : (eqGuard op t ox oy a b).run P w = .ok () w := by
  unfold eqGuard
  cases op <;> first | rfl | (cases a <;> cases b <;> first | rfl | (exfalso; exact h1 ⟨rfl, rfl⟩) | (exfalso; exact h2 _ _ ⟨rfl, rfl⟩))

theorem eqs_ok {op : BinOp} {t : TypeId} {x y : Value} {p : Prop} {K : AV → Prop} {b : Bool} (h : neqA op p K) (hb : b = true ↔ p) (hrun : (Op.equal t x y).run P w = .ok b w)
    (he : binOp .eql t x y = (do pure (.bool (← Op.equal t x y)))) (hn : binOp .neq t x y = (do pure (.bool (!(← Op.equal t x y))))) :
    ∃ z v, (binOp op t x y).run P w = .ok v w ∧ VR κ F z v ∧ K z := by
  rcases neqA_pick h b hb with ⟨rfl, hK⟩ | ⟨rfl, hK⟩
  · exact ⟨_, .bool b, by rw [he]; simp [hrun], .bool _, hK⟩
  · exact ⟨_, .bool (!b), by rw [hn]; simp [hrun], .bool _, hK⟩

theorem binA_ok (hT : T.ok P = true) {op : BinOp} {t : TypeId} {ox oy : Operand} {x y : AV} {vx vy : Value} {K : AV → Prop} (hx : VR κ F x vx) (hy : VR κ F y vy) (h : binA op ((T.get t).map (·.d)) x y K) :
    ∃ z v, ((do eqGuard op t ox oy vx vy; binOp op t vx vy : Sem Value)).run P w = .ok v w ∧ VR κ F z v ∧ K z := by
  have go : ∀ (h1 : ¬ (vx = .nilIface ∧ vy = .nilIface)) (h2 : ∀ p q, ¬ (vx = .agg p ∧ vy = .agg q)), (∃ z v, (binOp op t vx vy).run P w = .ok v w ∧ VR κ F z v ∧ K z) →
      ∃ z v, ((do eqGuard op t ox oy vx vy; binOp op t vx vy : Sem Value)).run P w = .ok v w ∧ VR κ F z v ∧ K z := by
    rintro h1 h2 ⟨z, v, h3, h4, h5⟩
    exact ⟨z, v, by rw [Sem.run_bind, eqGuard_pure h1 h2, Result.andThen_ok]; exact h3, h4, h5⟩
  cases x with
  | int k a =>
    cases y with
    | int k' b =>
      cases hx; cases hy
      refine go (by simp) (by simp) ?_
      simp only [binA] at h
      cases hs : isShift op with
      | true => rw [hs] at h; exact shiftA_ok hs h t
      | false =>
        rw [hs] at h
        obtain ⟨hk, h2⟩ := when_iff.1 (show when (decide (k = k')) (binI op k a b K) from h)
        obtain rfl := of_decide_eq_true hk
        exact binI_ok hs h2 t
    | _ => exact h.elim
  | str a =>
    cases y with
    | str b =>
      cases hx; cases hy
      refine go (by simp) (by simp) ?_
      have hlt : ∀ a b : List UInt8, Op.bytesLess (⟨a.toArray⟩ : ByteArray).toList (⟨b.toArray⟩ : ByteArray).toList = Op.bytesLess a b := fun a b => by rw [bytes_toList, bytes_toList]
      cases op <;> first | exact h.elim | skip
      · obtain ⟨hl, hK⟩ := h
        refine ⟨_, .string ⟨(a ++ b).toArray⟩, ?_, .str _, hK⟩
        have e : (⟨a.toArray⟩ : ByteArray) ++ (⟨b.toArray⟩ : ByteArray) = ⟨(a ++ b).toArray⟩ := by apply ByteArray.ext; simp
        have hsz : (a.length : Int) + (b.length : Int) ≤ 9223372036854775807 := by omega
        simp [binOp, Op.stringOp, ByteArray.size, hsz, e]
      · refine ⟨_, .bool (a == b), ?_, .bool _, ifA_pick h _ (by simp)⟩
        simp [binOp, Op.stringOp, bytes_toList]
      · refine ⟨_, .bool (!(a == b)), ?_, .bool _, ifA_pick h _ (by simp)⟩
        simp [binOp, Op.stringOp, bytes_toList]
      · refine ⟨_, .bool (Op.bytesLess a b), ?_, .bool _, ifA_pick h _ (by simp)⟩
        simp [binOp, Op.stringOp, bytes_toList]
      · refine ⟨_, .bool (!(Op.bytesLess a b || a == b)), ?_, .bool _, ifA_pick h _ (by simp)⟩
        simp [binOp, Op.stringOp, bytes_toList]
    | _ => exact h.elim
  | bool a =>
    cases y with
    | bool b =>
      cases hx; cases hy
      obtain ⟨ht, h⟩ := when_iff.1 h
      refine go (by simp) (by simp) (eqs_ok h (b := (a == b)) (by simp) (run_equal (isBool_ok hT ht) _ _ _ (.inl ⟨rfl, a, b, rfl, rfl, rfl⟩)) (by simp [binOp]) (by simp [binOp]))
    | _ => exact h.elim
  | nilp =>
    cases y with
    | nilp =>
      cases hx; cases hy
      obtain ⟨ht, h⟩ := when_iff.1 h
      obtain ⟨e, hu⟩ := isPtr_ok hT ht
      refine go (by simp) (by simp) (eqs_ok h (b := true) (by simp) (run_equal hu _ _ _ (.inr (.inl ⟨e, rfl, .inl ⟨rfl, none, rfl, rfl⟩⟩))) (by simp [binOp]) (by simp [binOp]))
    | ptr r v off =>
      cases hx; cases hy
      obtain ⟨ht, h⟩ := when_iff.1 h
      obtain ⟨e, hu⟩ := isPtr_ok hT ht
      refine go (by simp) (by simp) (eqs_ok h (b := false) (by simp) (run_equal hu _ _ _ (.inr (.inl ⟨e, rfl, .inl ⟨rfl, _, rfl, rfl⟩⟩))) (by simp [binOp]) (by simp [binOp]))
    | _ => exact h.elim
  | ptr r v off =>
    cases y with
    | nilp =>
      cases hx; cases hy
      obtain ⟨ht, h⟩ := when_iff.1 h
      obtain ⟨e, hu⟩ := isPtr_ok hT ht
      refine go (by simp) (by simp) (eqs_ok h (b := false) (by simp) (run_equal hu _ _ _ (.inr (.inl ⟨e, rfl, .inr ⟨_, rfl, rfl, rfl⟩⟩))) (by simp [binOp]) (by simp [binOp]))
    | _ => exact h.elim
  | cp cells =>
    cases y with
    | nilp =>
      cases hx; cases hy
      obtain ⟨ht, h⟩ := when_iff.1 h
      obtain ⟨e, hu⟩ := isPtr_ok hT ht
      refine go (by simp) (by simp) (eqs_ok h (b := false) (by simp) (run_equal hu _ _ _ (.inr (.inl ⟨e, rfl, .inr ⟨_, rfl, rfl, rfl⟩⟩))) (by simp [binOp]) (by simp [binOp]))
    | _ => exact h.elim
  | nilf =>
    cases y with
    | nilf =>
      cases hx; cases hy
      obtain ⟨ht, h⟩ := when_iff.1 h
      obtain ⟨p, q, v, hu⟩ := isFunc_ok hT ht
      refine go (by simp) (by simp) (eqs_ok h (b := true) (by simp) (run_equal hu _ _ _ (.inr (.inr ⟨p, q, v, rfl, .inl ⟨rfl, rfl, rfl⟩⟩))) (by simp [binOp]) (by simp [binOp]))
    | _ => exact h.elim
  | fn f g c =>
    cases y with
    | nilf =>
      cases hx; cases hy
      obtain ⟨ht, h⟩ := when_iff.1 h
      obtain ⟨p, q, v, hu⟩ := isFunc_ok hT ht
      refine go (by simp) (by simp) (eqs_ok h (b := false) (by simp) (run_equal hu _ _ _ (.inr (.inr ⟨p, q, v, rfl, .inr ⟨_, _, _, rfl, rfl, rfl⟩⟩))) (by simp [binOp]) (by simp [binOp]))
    | _ => exact h.elim
  | _ => cases y <;> exact h.elim

theorem isSlice_ok (hT : T.ok P = true) {t : TypeId} (h : TD.isSlice ((T.get t).map (·.d)) = true) : ∃ e, P.underlying t = some (.slice e) := by
  cases hg : T.get t with
  | none => rw [hg] at h; cases h
  | some r =>
    rw [hg] at h
    obtain ⟨d, n, a, z⟩ := r
    cases d <;> first | (exfalso; simp [TD.isSlice] at h; done) | exact ⟨_, (tr_slice (TT.ok_get hT hg)).1⟩

theorem isNilS_ok {y : Operand} (h : isNilS y = true) : y = .const (.slice none 0 0) := by
  unfold isNilS at h
  split at h
  · rfl
  · cases h

theorem nilA_ok (hT : T.ok P = true) {op : BinOp} {t : TypeId} {ox oy : Operand} {x : AV} {vx : Value} {K : AV → Prop} (hx : VR κ F x vx) (h : nilA op ((T.get t).map (·.d)) x K) :
    ∃ z v, ((do eqGuard op t ox oy vx (.slice none 0 0); binOp op t vx (.slice none 0 0) : Sem Value)).run P w = .ok v w ∧ VR κ F z v ∧ K z := by
  have key : ∀ (a : Option Addr) (len c n : Nat), vx = .slice a len c → (a = none → n = 0) → TD.isSlice ((T.get t).map (·.d)) = true → nilB op n K →
      ∃ z v, ((do eqGuard op t ox oy vx (.slice none 0 0); binOp op t vx (.slice none 0 0) : Sem Value)).run P w = .ok v w ∧ VR κ F z v ∧ K z := by
    rintro a len c n rfl ha ht hb
    obtain ⟨e, hu⟩ := isSlice_ok hT ht
    have hrun : (Op.equal t (.slice a len c) (.slice none 0 0)).run P w = .ok a.isNone w := by
      unfold Op.equal Op.maxDepth
      rw [show (10000 : Nat) = 9999 + 1 from rfl]
      unfold Op.equalIn
      cases a <;> simp [run_underlying hu]
    have hg : (eqGuard op t ox oy (.slice a len c) (.slice none 0 0)).run P w = .ok () w := eqGuard_pure (by simp) (by simp)
    rw [Sem.run_bind, hg, Result.andThen_ok]
    cases op <;> first | exact hb.elim | skip
    · refine ⟨.bool a.isNone, .bool a.isNone, by simp [binOp, hrun], .bool _, ?_⟩
      cases a with
      | none => exact hb.l (ha rfl)
      | some a => exact hb.r trivial
    · refine ⟨.bool (!a.isNone), .bool (!a.isNone), by simp [binOp, hrun], .bool _, ?_⟩
      cases a with
      | none => exact hb.l (ha rfl)
      | some a => exact hb.r trivial
  cases hx <;> try exact h.elim
  · obtain ⟨ht, h⟩ := when_iff.1 h
    exact key _ _ _ _ rfl (fun _ => rfl) ht h
  · obtain ⟨ht, h⟩ := when_iff.1 h
    exact key _ _ _ _ rfl (fun _ => rfl) ht h
  · obtain ⟨ht, h⟩ := when_iff.1 h
    exact key _ _ _ _ rfl (fun e => by cases e) ht h
  · rename_i hc hlen hadr
    obtain ⟨ht, h⟩ := when_iff.1 h
    refine key _ _ _ _ rfl (fun e => ?_) ht h
    rcases hadr with hz | ⟨b, _, hb⟩
    · omega
    · rw [e] at hb; cases hb

end Go.Fw
