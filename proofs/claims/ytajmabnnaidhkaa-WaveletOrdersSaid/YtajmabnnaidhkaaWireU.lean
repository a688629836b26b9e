/- The walks of the reader: lists, End, Read. -/
import Derived.Test.YtajmabnnaidhkaaWireT
namespace Go.Proofs.Ytajmabnnaidhkaa
open Go.Fw Go
set_option linter.unusedVariables false
set_option linter.unusedSimpArgs false

theorem rdInts_bad {s : RS} (h : (rdU s).2.1 ≠ 0) : rdInts s = ([], (rdU s).2) := by
  have : ∀ k, rdL k (rdU s).2 = ([], (rdU s).2) := by
    intro k
    cases k with
    | zero => rfl
    | succ k => rw [rdL, if_pos h]
  unfold rdInts; rw [rdLen_bad h, this, if_pos h]
theorem rdInts_more {s : RS} (h : (rdU s).2.1 = 0) (hl : (rdU s).2.2.length < (rdU s).1) : rdInts s = ([], (3, [])) := by
  unfold rdInts; rw [rdLen_more h hl]; rfl
theorem rdInts_ok {s : RS} (hl : ¬ (rdU s).2.2.length < (rdU s).1) : rdInts s = if (rdL (rdU s).1 (rdU s).2).2.1 ≠ 0 then ([], (rdL (rdU s).1 (rdU s).2).2) else rdL (rdU s).1 (rdU s).2 := by
  unfold rdInts; rw [rdLen_ok hl]

set_option maxRecDepth 8000 in
theorem rEnd_c (p : Nat) (e : Int) (b : List UInt8) (H : AH) :
    ACall Try.prog 34 [.ptr p 0 0] (RdH H p e b) (fun y H' => y = .int .i64 (endE (canon e b)) ∧ H' = RdH H p e b) := by
  have h1 : e ≠ 0 → endE (canon e b) = e := fun h => by rw [canon_err _ h]; unfold endE; rw [if_neg (fun k => h k.1)]
  have h2 : e = 0 → b.length = 0 → endE (canon e b) = 0 := fun h h' => by
    have : b = [] := List.eq_nil_of_length_eq_zero h'
    rw [h, canon_ok, this]; rfl
  have h3 : e = 0 → ¬ b.length = 0 → endE (canon e b) = 2 := fun h h' => by
    rw [h, canon_ok]; unfold endE; rw [if_pos ⟨rfl, fun k => h' (by rw [show b = [] from k]; rfl)⟩]
  generalize endE (canon e b) = x at *
  refine ACall_of tt_ok (dok _) Try.func34 rfl (by decide) rfl ?_
  (repeat' ((conv => whnf); first | refine Then.mk ?_ | left | refine OpsA.cons ?_ | refine OpsA.nil ?_ | refine AWq.seq ?_ | refine AWq.region ?_ | refine AWq.cond ?_ | refine AWq.block ?_ | refine AWq.skip ?_ | refine AWq.ret ?_ | refine AWq.exit ?_ | refine AWq.loop ?_ | refine AWq.rangeFunc ?_ | refine DrawA.consD ?_ | refine DrawA.nil ?_ | refine AWq.draw (by decide +kernel) ?_ | (refine Both.mk ?_ ?_ <;> intro hc <;> (first | exact Bool.noConfusion hc | exact absurd (by with_reducible rfl) hc | exact (hc : False).elim | exact absurd (by assumption) hc | exact absurd hc (by assumption) | (exfalso; omega) | exact absurd hc (by decide) | skip)) | (intro c hc; (try (simp only [AH.none_iff] at hc; repeat (have hn := hc.1; replace hc := hc.2))); (first | (refine i64_k hc ?_ ?_ ?_ ; omega; omega; (clear hc; intro hc; subst hc)) | (refine u64_k hc ?_ ?_ ?_ ; omega; omega; (clear hc; intro hc; subst hc)) | (refine u8_k hc ?_ ?_ ?_ ; omega; omega; (clear hc; intro hc; subst hc)) | subst hc | skip)) | (apply Exists.intro; apply And.intro; (focus (repeat (first | assumption | exact AH.set_same _ _ _ | ((first | refine AH.get_ne ?_ ?_ | refine AH.getd_ne ?_ ?_); (first | assumption | omega | exact Ne.symm (by assumption) | exact AH.ne_none (by assumption) (by assumption) | exact AH.none_ne (by assumption) (by assumption) | exact (AH.none_set (by assumption)).1 | exact Ne.symm (AH.none_set (by assumption)).1)))); done)) | (apply Exists.intro; apply And.intro; (try simp only [List.getElem?_drop, Nat.mul_one, Nat.add_zero, Nat.zero_add]); first | (refine u8s_get ?_; omega) | (refine iS_get ?_; omega) | assumption | rfl | fail) | (apply And.intro; (first | rfl | assumption | exact Nat.le_of_ble_eq_true rfl | omega | (simp <;> fail) | (simp <;> omega) | (focus (repeat' (first | exact one_u8s _ | exact one_iS _ _ | rfl | apply one_take | apply one_drop | apply one_append)); done) | fail)) | fail)) <;> (try (conv => whnf))

set_option maxRecDepth 8000 in
theorem Read_c (b : List UInt8) (hb : b.length ≤ 1000000) (H : AH) :
    ACall Try.prog 31 [.cs (u8s b) b.length] H (fun y H' => ∃ p, H p = none ∧ y = .ptr p 0 0 ∧ H' = RdH H p 0 b) := by
  refine ACall_of tt_ok (dok _) Try.func31 rfl (by decide) rfl ?_
  (repeat' ((conv => whnf); first | refine Then.mk ?_ | left | refine OpsA.cons ?_ | refine OpsA.nil ?_ | refine AWq.seq ?_ | refine AWq.region ?_ | refine AWq.cond ?_ | refine AWq.block ?_ | refine AWq.skip ?_ | refine AWq.ret ?_ | refine AWq.exit ?_ | refine AWq.loop ?_ | refine AWq.rangeFunc ?_ | refine DrawA.consD ?_ | refine DrawA.nil ?_ | refine AWq.draw (by decide +kernel) ?_ | (refine ACall.to (ACall.coldN (es := 1) (by simp) (clone_cs b hb _)) ?_) | (apply Exists.intro; apply And.intro; exact ACall.coldN (es := 1) (by simp) (clone_cs b hb _)) | (apply Exists.intro; apply Exists.intro; apply And.intro; exact ACall.coldN (es := 1) (by simp) (clone_cs b hb _)) | (refine Both.mk ?_ ?_ <;> intro hc <;> (first | exact Bool.noConfusion hc | exact absurd (by with_reducible rfl) hc | exact (hc : False).elim | exact absurd (by assumption) hc | exact absurd hc (by assumption) | (exfalso; omega) | exact absurd hc (by decide) | skip)) | (intro c hc; (try (simp only [AH.none_iff] at hc; repeat (have hn := hc.1; replace hc := hc.2))); (first | (refine i64_k hc ?_ ?_ ?_ ; omega; omega; (clear hc; intro hc; subst hc)) | (refine u64_k hc ?_ ?_ ?_ ; omega; omega; (clear hc; intro hc; subst hc)) | (refine u8_k hc ?_ ?_ ?_ ; omega; omega; (clear hc; intro hc; subst hc)) | subst hc | skip)) | (apply Exists.intro; apply And.intro; (focus (repeat (first | assumption | exact AH.set_same _ _ _ | ((first | refine AH.get_ne ?_ ?_ | refine AH.getd_ne ?_ ?_); (first | assumption | omega | exact Ne.symm (by assumption) | exact AH.ne_none (by assumption) (by assumption) | exact AH.none_ne (by assumption) (by assumption) | exact (AH.none_set (by assumption)).1 | exact Ne.symm (AH.none_set (by assumption)).1)))); done)) | (apply Exists.intro; apply And.intro; (try simp only [List.getElem?_drop, Nat.mul_one, Nat.add_zero, Nat.zero_add]); first | (refine u8s_get ?_; omega) | (refine iS_get ?_; omega) | assumption | rfl | fail) | (apply And.intro; (first | rfl | assumption | exact Nat.le_of_ble_eq_true rfl | omega | (simp <;> fail) | (simp <;> omega) | (focus (repeat' (first | exact one_u8s _ | exact one_iS _ _ | rfl | apply one_take | apply one_drop | apply one_append)); done) | fail)) | fail)) <;> (try (conv => whnf))
  rfl

theorem rdV_0 (s : RS) : rdV 0 s = (⟨0, (rdU s).1, 0, [], []⟩, (rdU s).2) := rfl
theorem rdV_1 (s : RS) : rdV 1 s = (⟨1, 0, (rdI s).1, [], []⟩, (rdI s).2) := rfl
theorem rdV_2 (s : RS) : rdV 2 s = (⟨2, 0, if (rdB s).1 then 1 else 0, [], []⟩, (rdB s).2) := rfl
theorem rdV_3 (s : RS) : rdV 3 s = (⟨3, 0, 0, (rdRaw s).1, []⟩, (rdRaw s).2) := rfl
theorem rdV_4 (s : RS) : rdV 4 s = (⟨4, 0, 0, (rdRaw s).1, []⟩, (rdRaw s).2) := rfl
theorem rdV_5 (s : RS) : rdV 5 s = (⟨5, 0, 0, [], (rdInts s).1⟩, (rdInts s).2) := rfl

end Go.Proofs.Ytajmabnnaidhkaa
