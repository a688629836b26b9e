/- The law's own examples. -/
import Derived.Test.YtlelhddchgipeaaWireU
import Derived.Test.YtlelhddchgipeaaRef
namespace Go.Proofs.Ytlelhddchgipeaa
open Go.Fw Go
set_option linter.unusedVariables false
set_option linter.unusedSimpArgs false

/-- A new writer. -/
theorem AWp_writer {P : Program} {N : Nat} {ro : Option Nat} {ws : Nat → Bool} {code : Code} {K R : St → AH → Prop} {X : Nat → St → AH → Prop} {s : St} {H : AH} {c : Nat} (hc : H c = none)
    (h : ∀ r, c ≠ r → H r = none → AWp N P ro ws code K R X s (WrH H c r 0 [])) : AWp N P ro ws code K R X s (H.set c (.row [.nils] 0)) := by
  refine AWp_nilC 1 [] [] (p := c) (AH.set_same ..) fun r hr hrc => ?_
  have := h r (Ne.symm hrc) (by rw [AH.set_ne _ _ hrc] at hr; exact hr)
  refine AWp_less _ (HLe.of_eq ?_) this
  exact (AH.set_back H (Ne.symm hrc) _ _ _).symm

theorem RdH_comm (H : AH) {p q : Nat} (h : p ≠ q) (e f : Int) (b d : List UInt8) : RdH (RdH H p e b) q f d = RdH (RdH H q f d) p e b := AH.set_comm _ _ _ h

theorem canon_zero {e : Int} {b r : List UInt8} (h : canon e b = (0, r)) : e = 0 ∧ b = r := by
  have h1 : e = 0 := congrArg Prod.fst h
  subst h1
  rw [canon_ok] at h
  exact ⟨rfl, congrArg Prod.snd h⟩

theorem rUint_ok (p : Nat) {b r : List UInt8} {x : Nat} (hb : b.length ≤ 1000000) (h : rdU (0, b) = (x, (0, r))) (H : AH) : ACall Try.prog 41 [.ptr p 0 0] (RdH H p 0 b) (fun y H' => y = .int .u64 x ∧ H' = RdH H p 0 r) := by
  have := rUint_c p 0 b hb H
  rw [canon_ok, h] at this
  refine this.mono ?_
  rintro y H' ⟨rfl, e, b', h1, _, rfl⟩
  obtain ⟨rfl, rfl⟩ := canon_zero h1
  exact ⟨rfl, rfl⟩

theorem rInt_ok (p : Nat) {b r : List UInt8} {x : Int} (hb : b.length ≤ 1000000) (h : rdI (0, b) = (x, (0, r))) (H : AH) : ACall Try.prog 42 [.ptr p 0 0] (RdH H p 0 b) (fun y H' => y = .int .i64 x ∧ H' = RdH H p 0 r) := by
  have := rInt_c p 0 b hb H
  rw [canon_ok, h] at this
  refine this.mono ?_
  rintro y H' ⟨rfl, e, b', h1, _, rfl⟩
  obtain ⟨rfl, rfl⟩ := canon_zero h1
  exact ⟨rfl, rfl⟩

theorem rText_ok (p : Nat) {b r : List UInt8} {x : List UInt8} (hb : b.length ≤ 1000000) (h : rdRaw (0, b) = (x, (0, r))) (H : AH) : ACall Try.prog 43 [.ptr p 0 0] (RdH H p 0 b) (fun y H' => y = .str x ∧ H' = RdH H p 0 r) := by
  have := rText_c p 0 b hb H
  rw [canon_ok, h] at this
  refine this.mono ?_
  rintro y H' ⟨rfl, e, b', h1, _, rfl⟩
  obtain ⟨rfl, rfl⟩ := canon_zero h1
  exact ⟨rfl, rfl⟩

theorem rRaw_ok (p : Nat) {b r : List UInt8} {x : List UInt8} (hb : b.length ≤ 1000000) (h : rdRaw (0, b) = (x, (0, r))) (H : AH) : ACall Try.prog 31 [.ptr p 0 0] (RdH H p 0 b) (fun y H' => y = .cs (u8s x) x.length ∧ H' = RdH H p 0 r) := by
  have := rRaw_c p 0 b hb H
  rw [canon_ok, h] at this
  refine this.mono ?_
  rintro y H' ⟨rfl, e, b', h1, _, rfl⟩
  obtain ⟨rfl, rfl⟩ := canon_zero h1
  exact ⟨rfl, rfl⟩

theorem rInts_ok (p : Nat) {b r : List UInt8} {x : List Int} (hb : b.length ≤ 1000000) (h : rdInts (0, b) = (x, (0, r))) (H : AH) : ACall Try.prog 33 [.ptr p 0 0] (RdH H p 0 b) (fun y H' => y = .cs (iS .i64 x) x.length ∧ H' = RdH H p 0 r) := by
  have := rInts_c p 0 b hb H
  rw [canon_ok, h] at this
  refine this.mono ?_
  rintro y H' ⟨rfl, e, b', h1, _, rfl⟩
  obtain ⟨rfl, rfl⟩ := canon_zero h1
  exact ⟨rfl, rfl⟩

theorem read_ok (p k : Nat) (hk : k ≤ 5) {b r : List UInt8} {v : V} (hb : b.length ≤ 1000000) (h : rdV k (0, b) = (v, (0, r))) (H : AH) : ACall Try.prog 23 [.ptr p 0 0, .int .i64 k] (RdH H p 0 b) (fun y H' => y = .agg (vA v) ∧ H' = RdH H p 0 r) := by
  have := read_c p k hk 0 b hb H
  rw [canon_ok, h] at this
  refine this.mono ?_
  rintro y H' ⟨rfl, e, b', h1, _, rfl⟩
  obtain ⟨rfl, rfl⟩ := canon_zero h1
  exact ⟨rfl, rfl⟩

theorem bs_example : encN 300 ++ encI (-1) ++ encR [97, 98] = [172, 2, 1, 2, 97, 98] := by
  unfold encI encR
  rw [encN_ge (n := 300) (by omega), encN_lt (n := 300 / 128) (by omega), encN_lt (n := zz (-1)) (by decide), encN_lt (n := [97, 98].length) (by decide)]
  rfl

set_option maxRecDepth 8000 in
theorem lives_c (H : AH) : ACall Try.prog 17 [] H (fun y H' => y = .bool true ∧ H' = H) := by
  refine ACall.back ?_
  obtain ⟨bs, hbs⟩ : ∃ bs, bs = encN 300 ++ encI (-1) ++ encR [97, 98] := ⟨_, rfl⟩
  have hbx : bs = [172, 2, 1, 2, 97, 98] := by rw [hbs, bs_example]
  have hbl : bs.length ≤ 100 := by rw [hbx]; decide
  have same : ∀ H, ACall Try.prog 30 [.cs (u8s bs) bs.length, .cs [.int .u8 172, .int .u8 2, .int .u8 1, .int .u8 2, .int .u8 97, .int .u8 98] 6] H (fun y H' => y = .bool true ∧ H' = H) := by
    intro H
    have := samebytes_c bs bs (by omega) (by omega) H
    rw [decide_eq_true rfl] at this
    rw [hbx] at this ⊢
    exact this
  refine ACall_of tt_ok (dok _) Try.func17 rfl (by decide) rfl ?_
  (repeat' ((conv => whnf); first | refine OpsA.cons ?_ | refine OpsA.nil ?_ | refine AWq.seq ?_ | refine AWq.region ?_ | refine AWq.cond ?_ | refine AWq.block ?_ | refine AWq.skip ?_ | refine AWq.ret ?_ | refine AWq.exit ?_ | refine AWq.loop ?_ | refine AWq.rangeFunc ?_ | refine DrawA.consD ?_ | refine DrawA.nil ?_ | refine AWq.draw (by decide +kernel) ?_ | (refine Both.mk ?_ ?_ <;> intro hc <;> (first | exact Bool.noConfusion hc | exact absurd (by with_reducible rfl) hc | exact (hc : False).elim | exact absurd (by assumption) hc | exact absurd hc (by assumption) | (exfalso; omega) | exact absurd hc (by decide) | skip)) | (intro c hc; (try (simp only [AH.none_iff] at hc; repeat (have hn := hc.1; replace hc := hc.2))); (first | (refine i64_k hc ?_ ?_ ?_ ; omega; omega; (clear hc; intro hc; subst hc)) | (refine u64_k hc ?_ ?_ ?_ ; omega; omega; (clear hc; intro hc; subst hc)) | (refine u8_k hc ?_ ?_ ?_ ; omega; omega; (clear hc; intro hc; subst hc)) | subst hc | skip)) | (apply Exists.intro; apply And.intro; (focus (repeat (first | assumption | exact AH.set_same _ _ _ | ((first | refine AH.get_ne ?_ ?_ | refine AH.getd_ne ?_ ?_); (first | assumption | omega | exact Ne.symm (by assumption) | exact AH.ne_none (by assumption) (by assumption) | exact AH.none_ne (by assumption) (by assumption) | exact (AH.none_set (by assumption)).1 | exact Ne.symm (AH.none_set (by assumption)).1)))); done)) | (apply Exists.intro; apply And.intro; (try simp only [List.getElem?_drop, Nat.mul_one, Nat.add_zero, Nat.zero_add]); first | (refine u8s_get ?_; omega) | (refine iS_get ?_; omega) | assumption | rfl | fail) | (apply And.intro; (first | rfl | assumption | exact Nat.le_of_ble_eq_true rfl | omega | (simp <;> fail) | (simp <;> omega) | (focus (repeat' (first | exact one_u8s _ | exact one_iS _ _ | rfl | apply one_take | apply one_drop | apply one_append)); done) | fail)) | fail)) <;> (try (conv => whnf))
  refine Then.mk ?_
  (repeat' ((conv => whnf); first | refine OpsA.cons ?_ | refine OpsA.nil ?_ | refine AWq.seq ?_ | refine AWq.region ?_ | refine AWq.cond ?_ | refine AWq.block ?_ | refine AWq.skip ?_ | refine AWq.ret ?_ | refine AWq.exit ?_ | refine AWq.loop ?_ | refine AWq.rangeFunc ?_ | refine DrawA.consD ?_ | refine DrawA.nil ?_ | refine AWq.draw (by decide +kernel) ?_ | (refine Both.mk ?_ ?_ <;> intro hc <;> (first | exact Bool.noConfusion hc | exact absurd (by with_reducible rfl) hc | exact (hc : False).elim | exact absurd (by assumption) hc | exact absurd hc (by assumption) | (exfalso; omega) | exact absurd hc (by decide) | skip)) | (intro c hc; (try (simp only [AH.none_iff] at hc; repeat (have hn := hc.1; replace hc := hc.2))); (first | (refine i64_k hc ?_ ?_ ?_ ; omega; omega; (clear hc; intro hc; subst hc)) | (refine u64_k hc ?_ ?_ ?_ ; omega; omega; (clear hc; intro hc; subst hc)) | (refine u8_k hc ?_ ?_ ?_ ; omega; omega; (clear hc; intro hc; subst hc)) | subst hc | skip)) | (apply Exists.intro; apply And.intro; (focus (repeat (first | assumption | exact AH.set_same _ _ _ | ((first | refine AH.get_ne ?_ ?_ | refine AH.getd_ne ?_ ?_); (first | assumption | omega | exact Ne.symm (by assumption) | exact AH.ne_none (by assumption) (by assumption) | exact AH.none_ne (by assumption) (by assumption) | exact (AH.none_set (by assumption)).1 | exact Ne.symm (AH.none_set (by assumption)).1)))); done)) | (apply Exists.intro; apply And.intro; (try simp only [List.getElem?_drop, Nat.mul_one, Nat.add_zero, Nat.zero_add]); first | (refine u8s_get ?_; omega) | (refine iS_get ?_; omega) | assumption | rfl | fail) | (apply And.intro; (first | rfl | assumption | exact Nat.le_of_ble_eq_true rfl | omega | (simp <;> fail) | (simp <;> omega) | (focus (repeat' (first | exact one_u8s _ | exact one_iS _ _ | rfl | apply one_take | apply one_drop | apply one_append)); done) | fail)) | fail)) <;> (try (conv => whnf))
  refine Then.mk (AWq.in ?_)
  refine AWp_writer hc fun r hcr hr => ?_
  refine AWp.of tt_ok (dok _) rfl ?_
  (repeat' ((conv => whnf); first | refine Then.mk ?_ | left | refine OpsA.cons ?_ | refine OpsA.nil ?_ | refine AWq.seq ?_ | refine AWq.region ?_ | refine AWq.cond ?_ | refine AWq.block ?_ | refine AWq.skip ?_ | refine AWq.ret ?_ | refine AWq.exit ?_ | refine AWq.loop ?_ | refine AWq.rangeFunc ?_ | refine DrawA.consD ?_ | refine DrawA.nil ?_ | refine AWq.draw (by decide +kernel) ?_ | (refine Both.mk ?_ ?_ <;> intro hc <;> (first | exact Bool.noConfusion hc | exact absurd (by with_reducible rfl) hc | exact (hc : False).elim | exact absurd (by assumption) hc | exact absurd hc (by assumption) | (exfalso; omega) | exact absurd hc (by decide) | skip)) | (intro c hc; (try (simp only [AH.none_iff] at hc; repeat (have hn := hc.1; replace hc := hc.2))); (first | (refine i64_k hc ?_ ?_ ?_ ; omega; omega; (clear hc; intro hc; subst hc)) | (refine u64_k hc ?_ ?_ ?_ ; omega; omega; (clear hc; intro hc; subst hc)) | (refine u8_k hc ?_ ?_ ?_ ; omega; omega; (clear hc; intro hc; subst hc)) | subst hc | skip)) | (apply Exists.intro; apply And.intro; (focus (repeat (first | assumption | exact AH.set_same _ _ _ | ((first | refine AH.get_ne ?_ ?_ | refine AH.getd_ne ?_ ?_); (first | assumption | omega | exact Ne.symm (by assumption) | exact AH.ne_none (by assumption) (by assumption) | exact AH.none_ne (by assumption) (by assumption) | exact (AH.none_set (by assumption)).1 | exact Ne.symm (AH.none_set (by assumption)).1)))); done)) | (apply Exists.intro; apply And.intro; (try simp only [List.getElem?_drop, Nat.mul_one, Nat.add_zero, Nat.zero_add]); first | (refine u8s_get ?_; omega) | (refine iS_get ?_; omega) | assumption | rfl | fail) | (apply And.intro; (first | rfl | assumption | exact Nat.le_of_ble_eq_true rfl | omega | (simp <;> fail) | (simp <;> omega) | (focus (repeat' (first | exact one_u8s _ | exact one_iS _ _ | rfl | apply one_take | apply one_drop | apply one_append)); done) | fail)) | fail)) <;> (try (conv => whnf))
  refine (wUint_c c r 0 [] 300 (by decide) (by decide) H hcr).mono ?_
  rintro y H' ⟨rfl, v1, rfl⟩
  have l1 : ([] ++ encN 300).length ≤ 500 := by have := encN_len10 (n := 300) (by omega); simpa using by omega
  (repeat' ((conv => whnf); first | refine Then.mk ?_ | left | refine OpsA.cons ?_ | refine OpsA.nil ?_ | refine AWq.seq ?_ | refine AWq.region ?_ | refine AWq.cond ?_ | refine AWq.block ?_ | refine AWq.skip ?_ | refine AWq.ret ?_ | refine AWq.exit ?_ | refine AWq.loop ?_ | refine AWq.rangeFunc ?_ | refine DrawA.consD ?_ | refine DrawA.nil ?_ | refine AWq.draw (by decide +kernel) ?_ | (refine Both.mk ?_ ?_ <;> intro hc <;> (first | exact Bool.noConfusion hc | exact absurd (by with_reducible rfl) hc | exact (hc : False).elim | exact absurd (by assumption) hc | exact absurd hc (by assumption) | (exfalso; omega) | exact absurd hc (by decide) | skip)) | (intro c hc; (try (simp only [AH.none_iff] at hc; repeat (have hn := hc.1; replace hc := hc.2))); (first | (refine i64_k hc ?_ ?_ ?_ ; omega; omega; (clear hc; intro hc; subst hc)) | (refine u64_k hc ?_ ?_ ?_ ; omega; omega; (clear hc; intro hc; subst hc)) | (refine u8_k hc ?_ ?_ ?_ ; omega; omega; (clear hc; intro hc; subst hc)) | subst hc | skip)) | (apply Exists.intro; apply And.intro; (focus (repeat (first | assumption | exact AH.set_same _ _ _ | ((first | refine AH.get_ne ?_ ?_ | refine AH.getd_ne ?_ ?_); (first | assumption | omega | exact Ne.symm (by assumption) | exact AH.ne_none (by assumption) (by assumption) | exact AH.none_ne (by assumption) (by assumption) | exact (AH.none_set (by assumption)).1 | exact Ne.symm (AH.none_set (by assumption)).1)))); done)) | (apply Exists.intro; apply And.intro; (try simp only [List.getElem?_drop, Nat.mul_one, Nat.add_zero, Nat.zero_add]); first | (refine u8s_get ?_; omega) | (refine iS_get ?_; omega) | assumption | rfl | fail) | (apply And.intro; (first | rfl | assumption | exact Nat.le_of_ble_eq_true rfl | omega | (simp <;> fail) | (simp <;> omega) | (focus (repeat' (first | exact one_u8s _ | exact one_iS _ _ | rfl | apply one_take | apply one_drop | apply one_append)); done) | fail)) | fail)) <;> (try (conv => whnf))
  refine (wInt_c c r v1 _ (-1) ⟨by decide, by decide⟩ (by omega) H hcr).mono ?_
  rintro y H' ⟨rfl, v2, rfl⟩
  have l2 : ([] ++ encN 300 ++ encI (-1)).length ≤ 1000 := by
    have := encN_len10 (n := zz (-1)) (by decide)
    rw [List.length_append]
    unfold encI
    omega
  (repeat' ((conv => whnf); first | refine Then.mk ?_ | left | refine OpsA.cons ?_ | refine OpsA.nil ?_ | refine AWq.seq ?_ | refine AWq.region ?_ | refine AWq.cond ?_ | refine AWq.block ?_ | refine AWq.skip ?_ | refine AWq.ret ?_ | refine AWq.exit ?_ | refine AWq.loop ?_ | refine AWq.rangeFunc ?_ | refine DrawA.consD ?_ | refine DrawA.nil ?_ | refine AWq.draw (by decide +kernel) ?_ | (refine Both.mk ?_ ?_ <;> intro hc <;> (first | exact Bool.noConfusion hc | exact absurd (by with_reducible rfl) hc | exact (hc : False).elim | exact absurd (by assumption) hc | exact absurd hc (by assumption) | (exfalso; omega) | exact absurd hc (by decide) | skip)) | (intro c hc; (try (simp only [AH.none_iff] at hc; repeat (have hn := hc.1; replace hc := hc.2))); (first | (refine i64_k hc ?_ ?_ ?_ ; omega; omega; (clear hc; intro hc; subst hc)) | (refine u64_k hc ?_ ?_ ?_ ; omega; omega; (clear hc; intro hc; subst hc)) | (refine u8_k hc ?_ ?_ ?_ ; omega; omega; (clear hc; intro hc; subst hc)) | subst hc | skip)) | (apply Exists.intro; apply And.intro; (focus (repeat (first | assumption | exact AH.set_same _ _ _ | ((first | refine AH.get_ne ?_ ?_ | refine AH.getd_ne ?_ ?_); (first | assumption | omega | exact Ne.symm (by assumption) | exact AH.ne_none (by assumption) (by assumption) | exact AH.none_ne (by assumption) (by assumption) | exact (AH.none_set (by assumption)).1 | exact Ne.symm (AH.none_set (by assumption)).1)))); done)) | (apply Exists.intro; apply And.intro; (try simp only [List.getElem?_drop, Nat.mul_one, Nat.add_zero, Nat.zero_add]); first | (refine u8s_get ?_; omega) | (refine iS_get ?_; omega) | assumption | rfl | fail) | (apply And.intro; (first | rfl | assumption | exact Nat.le_of_ble_eq_true rfl | omega | (simp <;> fail) | (simp <;> omega) | (focus (repeat' (first | exact one_u8s _ | exact one_iS _ _ | rfl | apply one_take | apply one_drop | apply one_append)); done) | fail)) | fail)) <;> (try (conv => whnf))
  refine (wText_c c r v2 _ [97, 98] (by decide) (by omega) H hcr).mono ?_
  rw [List.nil_append, ← hbs]
  rintro y H' ⟨rfl, v3, rfl⟩
  (repeat' ((conv => whnf); first | refine Then.mk ?_ | left | refine OpsA.cons ?_ | refine OpsA.nil ?_ | refine AWq.seq ?_ | refine AWq.region ?_ | refine AWq.cond ?_ | refine AWq.block ?_ | refine AWq.skip ?_ | refine AWq.ret ?_ | refine AWq.exit ?_ | refine AWq.loop ?_ | refine AWq.rangeFunc ?_ | refine DrawA.consD ?_ | refine DrawA.nil ?_ | refine AWq.draw (by decide +kernel) ?_ | (refine ACall.to (wDone_c c r v3 bs (by omega) H hcr) ?_) | (apply Exists.intro; apply And.intro; exact wDone_c c r v3 bs (by omega) H hcr) | (apply Exists.intro; apply Exists.intro; apply And.intro; exact wDone_c c r v3 bs (by omega) H hcr) | (refine Both.mk ?_ ?_ <;> intro hc <;> (first | exact Bool.noConfusion hc | exact absurd (by with_reducible rfl) hc | exact (hc : False).elim | exact absurd (by assumption) hc | exact absurd hc (by assumption) | (exfalso; omega) | exact absurd hc (by decide) | skip)) | (intro c hc; (try (simp only [AH.none_iff] at hc; repeat (have hn := hc.1; replace hc := hc.2))); (first | (refine i64_k hc ?_ ?_ ?_ ; omega; omega; (clear hc; intro hc; subst hc)) | (refine u64_k hc ?_ ?_ ?_ ; omega; omega; (clear hc; intro hc; subst hc)) | (refine u8_k hc ?_ ?_ ?_ ; omega; omega; (clear hc; intro hc; subst hc)) | subst hc | skip)) | (apply Exists.intro; apply And.intro; (focus (repeat (first | assumption | exact AH.set_same _ _ _ | ((first | refine AH.get_ne ?_ ?_ | refine AH.getd_ne ?_ ?_); (first | assumption | omega | exact Ne.symm (by assumption) | exact AH.ne_none (by assumption) (by assumption) | exact AH.none_ne (by assumption) (by assumption) | exact (AH.none_set (by assumption)).1 | exact Ne.symm (AH.none_set (by assumption)).1)))); done)) | (apply Exists.intro; apply And.intro; (try simp only [List.getElem?_drop, Nat.mul_one, Nat.add_zero, Nat.zero_add]); first | (refine u8s_get ?_; omega) | (refine iS_get ?_; omega) | assumption | rfl | fail) | (apply And.intro; (first | rfl | assumption | exact Nat.le_of_ble_eq_true rfl | omega | (simp <;> fail) | (simp <;> omega) | (focus (repeat' (first | exact one_u8s _ | exact one_iS _ _ | rfl | apply one_take | apply one_drop | apply one_append)); done) | fail)) | fail)) <;> (try (conv => whnf))
  refine (Read_c bs (by omega) _).mono ?_
  rintro y H' ⟨p, hp, rfl, rfl⟩
  (repeat' ((conv => whnf); first | refine Then.mk ?_ | left | refine OpsA.cons ?_ | refine OpsA.nil ?_ | refine AWq.seq ?_ | refine AWq.region ?_ | refine AWq.cond ?_ | refine AWq.block ?_ | refine AWq.skip ?_ | refine AWq.ret ?_ | refine AWq.exit ?_ | refine AWq.loop ?_ | refine AWq.rangeFunc ?_ | refine DrawA.consD ?_ | refine DrawA.nil ?_ | refine AWq.draw (by decide +kernel) ?_ | (refine Both.mk ?_ ?_ <;> intro hc <;> (first | exact Bool.noConfusion hc | exact absurd (by with_reducible rfl) hc | exact (hc : False).elim | exact absurd (by assumption) hc | exact absurd hc (by assumption) | (exfalso; omega) | exact absurd hc (by decide) | skip)) | (intro c hc; (try (simp only [AH.none_iff] at hc; repeat (have hn := hc.1; replace hc := hc.2))); (first | (refine i64_k hc ?_ ?_ ?_ ; omega; omega; (clear hc; intro hc; subst hc)) | (refine u64_k hc ?_ ?_ ?_ ; omega; omega; (clear hc; intro hc; subst hc)) | (refine u8_k hc ?_ ?_ ?_ ; omega; omega; (clear hc; intro hc; subst hc)) | subst hc | skip)) | (apply Exists.intro; apply And.intro; (focus (repeat (first | assumption | exact AH.set_same _ _ _ | ((first | refine AH.get_ne ?_ ?_ | refine AH.getd_ne ?_ ?_); (first | assumption | omega | exact Ne.symm (by assumption) | exact AH.ne_none (by assumption) (by assumption) | exact AH.none_ne (by assumption) (by assumption) | exact (AH.none_set (by assumption)).1 | exact Ne.symm (AH.none_set (by assumption)).1)))); done)) | (apply Exists.intro; apply And.intro; (try simp only [List.getElem?_drop, Nat.mul_one, Nat.add_zero, Nat.zero_add]); first | (refine u8s_get ?_; omega) | (refine iS_get ?_; omega) | assumption | rfl | fail) | (apply And.intro; (first | rfl | assumption | exact Nat.le_of_ble_eq_true rfl | omega | (simp <;> fail) | (simp <;> omega) | (focus (repeat' (first | exact one_u8s _ | exact one_iS _ _ | rfl | apply one_take | apply one_drop | apply one_append)); done) | fail)) | fail)) <;> (try (conv => whnf))
  refine (Read_c [128, 0] (by decide) _).mono ?_
  rintro y H' ⟨q, hq, rfl, rfl⟩
  have hpq : q ≠ p := fun e => by rw [e] at hq; unfold RdH at hq; rw [AH.set_same] at hq; cases hq
  (repeat' ((conv => whnf); first | refine Then.mk ?_ | left | refine OpsA.cons ?_ | refine OpsA.nil ?_ | refine AWq.seq ?_ | refine AWq.region ?_ | refine AWq.cond ?_ | refine AWq.block ?_ | refine AWq.skip ?_ | refine AWq.ret ?_ | refine AWq.exit ?_ | refine AWq.loop ?_ | refine AWq.rangeFunc ?_ | refine DrawA.consD ?_ | refine DrawA.nil ?_ | refine AWq.draw (by decide +kernel) ?_ | (refine Both.mk ?_ ?_ <;> intro hc <;> (first | exact Bool.noConfusion hc | exact absurd (by with_reducible rfl) hc | exact (hc : False).elim | exact absurd (by assumption) hc | exact absurd hc (by assumption) | (exfalso; omega) | exact absurd hc (by decide) | skip)) | (intro c hc; (try (simp only [AH.none_iff] at hc; repeat (have hn := hc.1; replace hc := hc.2))); (first | (refine i64_k hc ?_ ?_ ?_ ; omega; omega; (clear hc; intro hc; subst hc)) | (refine u64_k hc ?_ ?_ ?_ ; omega; omega; (clear hc; intro hc; subst hc)) | (refine u8_k hc ?_ ?_ ?_ ; omega; omega; (clear hc; intro hc; subst hc)) | subst hc | skip)) | (apply Exists.intro; apply And.intro; (focus (repeat (first | assumption | exact AH.set_same _ _ _ | ((first | refine AH.get_ne ?_ ?_ | refine AH.getd_ne ?_ ?_); (first | assumption | omega | exact Ne.symm (by assumption) | exact AH.ne_none (by assumption) (by assumption) | exact AH.none_ne (by assumption) (by assumption) | exact (AH.none_set (by assumption)).1 | exact Ne.symm (AH.none_set (by assumption)).1)))); done)) | (apply Exists.intro; apply And.intro; (try simp only [List.getElem?_drop, Nat.mul_one, Nat.add_zero, Nat.zero_add]); first | (refine u8s_get ?_; omega) | (refine iS_get ?_; omega) | assumption | rfl | fail) | (apply And.intro; (first | rfl | assumption | exact Nat.le_of_ble_eq_true rfl | omega | (simp <;> fail) | (simp <;> omega) | (focus (repeat' (first | exact one_u8s _ | exact one_iS _ _ | rfl | apply one_take | apply one_drop | apply one_append)); done) | fail)) | fail)) <;> (try (conv => whnf))
  have e1 : rdU (0, bs) = (300, (0, encI (-1) ++ encR [97, 98])) := by
    rw [hbs, List.append_assoc]; exact rdU_enc (by omega) _
  have e2 : rdI (0, encI (-1) ++ encR [97, 98]) = (-1, (0, encR [97, 98])) := rdI_enc ⟨by decide, by decide⟩ _
  have e3 : rdRaw (0, encR [97, 98]) = ([97, 98], (0, [])) := by
    have := rdRaw_enc (b := [97, 98]) (by decide) []
    rwa [List.append_nil] at this
  have hl := congrArg List.length hbs
  simp only [List.length_append] at hl
  rw [RdH_comm _ (Ne.symm hpq)]
  refine ACall.to (rUint_ok p (by omega) e1 _) ?_
  (repeat' ((conv => whnf); first | refine Then.mk ?_ | left | refine OpsA.cons ?_ | refine OpsA.nil ?_ | refine AWq.seq ?_ | refine AWq.region ?_ | refine AWq.cond ?_ | refine AWq.block ?_ | refine AWq.skip ?_ | refine AWq.ret ?_ | refine AWq.exit ?_ | refine AWq.loop ?_ | refine AWq.rangeFunc ?_ | refine DrawA.consD ?_ | refine DrawA.nil ?_ | refine AWq.draw (by decide +kernel) ?_ | (refine ACall.to (rInt_ok p (by rw [List.length_append]; omega) e2 _) ?_) | (refine ACall.to (rText_ok p (by omega) e3 _) ?_) | (apply Exists.intro; apply And.intro; exact rInt_ok p (by rw [List.length_append]; omega) e2 _) | (apply Exists.intro; apply And.intro; exact rText_ok p (by omega) e3 _) | (apply Exists.intro; apply Exists.intro; apply And.intro; exact rInt_ok p (by rw [List.length_append]; omega) e2 _) | (apply Exists.intro; apply Exists.intro; apply And.intro; exact rText_ok p (by omega) e3 _) | (refine Both.mk ?_ ?_ <;> intro hc <;> (first | exact Bool.noConfusion hc | exact absurd (by with_reducible rfl) hc | exact (hc : False).elim | exact absurd (by assumption) hc | exact absurd hc (by assumption) | (exfalso; omega) | exact absurd hc (by decide) | skip)) | (intro c hc; (try (simp only [AH.none_iff] at hc; repeat (have hn := hc.1; replace hc := hc.2))); (first | (refine i64_k hc ?_ ?_ ?_ ; omega; omega; (clear hc; intro hc; subst hc)) | (refine u64_k hc ?_ ?_ ?_ ; omega; omega; (clear hc; intro hc; subst hc)) | (refine u8_k hc ?_ ?_ ?_ ; omega; omega; (clear hc; intro hc; subst hc)) | subst hc | skip)) | (apply Exists.intro; apply And.intro; (focus (repeat (first | assumption | exact AH.set_same _ _ _ | ((first | refine AH.get_ne ?_ ?_ | refine AH.getd_ne ?_ ?_); (first | assumption | omega | exact Ne.symm (by assumption) | exact AH.ne_none (by assumption) (by assumption) | exact AH.none_ne (by assumption) (by assumption) | exact (AH.none_set (by assumption)).1 | exact Ne.symm (AH.none_set (by assumption)).1)))); done)) | (apply Exists.intro; apply And.intro; (try simp only [List.getElem?_drop, Nat.mul_one, Nat.add_zero, Nat.zero_add]); first | (refine u8s_get ?_; omega) | (refine iS_get ?_; omega) | assumption | rfl | fail) | (apply And.intro; (first | rfl | assumption | exact Nat.le_of_ble_eq_true rfl | omega | (simp <;> fail) | (simp <;> omega) | (focus (repeat' (first | exact one_u8s _ | exact one_iS _ _ | rfl | apply one_take | apply one_drop | apply one_append)); done) | fail)) | fail)) <;> (try (conv => whnf))
  rw [RdH_comm _ hpq]
  refine (rInt_c q 0 [128, 0] (by decide) _).mono ?_
  rw [show rdI (canon 0 [128, 0]) = (0, (2, [])) from by decide]
  rintro y H' ⟨rfl, e, b, h1, h2, rfl⟩
  have E1 : ∀ X, ACall Try.prog 25 [.ptr p 0 0] (RdH (RdH X p 0 []) q e b) (fun y H' => y = .int .i64 0 ∧ H' = RdH (RdH X p 0 []) q e b) := fun X => by
    rw [RdH_comm _ (Ne.symm hpq)]
    have := rEnd_c p 0 [] (RdH X q e b)
    rwa [show endE (canon 0 []) = 0 from by decide] at this
  have E2 : ∀ X, ACall Try.prog 25 [.ptr q 0 0] (RdH X q e b) (fun y H' => y = .int .i64 2 ∧ H' = RdH X q e b) := fun X => by
    have := rEnd_c q e b X
    rw [h1] at this
    rwa [show endE (2, []) = 2 from by decide] at this
  (repeat' ((conv => whnf); first | refine Then.mk ?_ | left | refine OpsA.cons ?_ | refine OpsA.nil ?_ | refine AWq.seq ?_ | refine AWq.region ?_ | refine AWq.cond ?_ | refine AWq.block ?_ | refine AWq.skip ?_ | refine AWq.ret ?_ | refine AWq.exit ?_ | refine AWq.loop ?_ | refine AWq.rangeFunc ?_ | refine DrawA.consD ?_ | refine DrawA.nil ?_ | refine AWq.draw (by decide +kernel) ?_ | (refine ACall.to (same _) ?_) | (refine ACall.to (E1 _) ?_) | (refine ACall.to (E2 _) ?_) | (apply Exists.intro; apply And.intro; exact same _) | (apply Exists.intro; apply And.intro; exact E1 _) | (apply Exists.intro; apply And.intro; exact E2 _) | (apply Exists.intro; apply Exists.intro; apply And.intro; exact same _) | (apply Exists.intro; apply Exists.intro; apply And.intro; exact E1 _) | (apply Exists.intro; apply Exists.intro; apply And.intro; exact E2 _) | (refine Both.mk ?_ ?_ <;> intro hc <;> (first | exact Bool.noConfusion hc | exact absurd (by with_reducible rfl) hc | exact (hc : False).elim | exact absurd (by assumption) hc | exact absurd hc (by assumption) | (exfalso; omega) | exact absurd hc (by decide) | skip)) | (intro c hc; (try (simp only [AH.none_iff] at hc; repeat (have hn := hc.1; replace hc := hc.2))); (first | (refine i64_k hc ?_ ?_ ?_ ; omega; omega; (clear hc; intro hc; subst hc)) | (refine u64_k hc ?_ ?_ ?_ ; omega; omega; (clear hc; intro hc; subst hc)) | (refine u8_k hc ?_ ?_ ?_ ; omega; omega; (clear hc; intro hc; subst hc)) | subst hc | skip)) | (apply Exists.intro; apply And.intro; (focus (repeat (first | assumption | exact AH.set_same _ _ _ | ((first | refine AH.get_ne ?_ ?_ | refine AH.getd_ne ?_ ?_); (first | assumption | omega | exact Ne.symm (by assumption) | exact AH.ne_none (by assumption) (by assumption) | exact AH.none_ne (by assumption) (by assumption) | exact (AH.none_set (by assumption)).1 | exact Ne.symm (AH.none_set (by assumption)).1)))); done)) | (apply Exists.intro; apply And.intro; (try simp only [List.getElem?_drop, Nat.mul_one, Nat.add_zero, Nat.zero_add]); first | (refine u8s_get ?_; omega) | (refine iS_get ?_; omega) | assumption | rfl | fail) | (apply And.intro; (first | rfl | assumption | exact Nat.le_of_ble_eq_true rfl | omega | (simp <;> fail) | (simp <;> omega) | (focus (repeat' (first | exact one_u8s _ | exact one_iS _ _ | rfl | apply one_take | apply one_drop | apply one_append)); done) | fail)) | fail)) <;> (try (conv => whnf))
  have w : HLe H (WrH H c r v3 bs) := HLe.set_of _ _ (HLe.set_of _ _ (HLe.refl _) (by assumption)) hr
  have r1 : ∀ x, HLe H (RdH (WrH H c r v3 bs) p 0 x) := fun x => HLe.set_of _ _ w (w.none hp)
  exact HLe.set_of _ _ (r1 []) ((r1 bs).none hq)

theorem wDone_g (p r v : Nat) (bs : List UInt8) (hb : bs.length ≤ 1000000) (H : AH) (hpr : p ≠ r) (h1 : H p = some (.row [.sl r v 1 0 bs.length none] 0)) (h2 : H r = some (.row (u8s bs) v)) :
    ACall Try.prog 16 [.ptr p 0 0] H (fun y H' => y = .cs (u8s bs) bs.length ∧ H' = H) := by
  have := wDone_c p r v bs hb H hpr
  rwa [← WrH_id h1 h2] at this
end Go.Proofs.Ytlelhddchgipeaa
