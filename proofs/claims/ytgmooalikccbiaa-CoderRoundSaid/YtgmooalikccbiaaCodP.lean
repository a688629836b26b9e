/- The walks of the coder: Decode. -/
import Derived.Test.YtgmooalikccbiaaCodO
namespace Go.Proofs.Ytgmooalikccbiaa
open Go.Fw Go
set_option linter.unusedVariables false
set_option linter.unusedSimpArgs false

set_option maxRecDepth 8000 in
theorem equal_c (a b : List UInt8) (hb : b.length ≤ 1000000000000) (H : AH) :
    ACall Try.prog 55 [.cs (u8s a) a.length, .cs (u8s b) b.length] H (fun y H' => y = .bool (decide (a = b)) ∧ H' = H) := by
  have hul : (u8s a).length = a.length := by simp
  have hvl : (u8s b).length = b.length := by simp
  by_cases hl : a.length = b.length
  · refine ACall_of tt_ok (dok _) Try.func55 rfl (by decide) rfl ?_
    (repeat' ((conv => whnf); first | refine Then.mk ?_ | left | refine OpsA.cons ?_ | refine OpsA.nil ?_ | refine AWq.seq ?_ | refine AWq.region ?_ | refine AWq.cond ?_ | refine AWq.block ?_ | refine AWq.skip ?_ | refine AWq.scope ?_ | refine AWq.label ?_ | refine AWq.ret ?_ | refine AWq.exit ?_ | refine AWq.loop ?_ | refine AWq.rangeFunc ?_ | refine DrawA.consD ?_ | refine DrawA.nil ?_ | refine DrawL.consD ?_ | refine DrawL.nil ?_ | refine DrawF.consD ?_ | refine DrawF.nil ?_ | refine AWq.draw (by decide +kernel) ?_ | (refine Both.mk ?_ ?_ <;> intro hc <;> (first | exact Bool.noConfusion hc | exact absurd (by with_reducible rfl) hc | exact (hc : False).elim | exact absurd (by assumption) hc | exact absurd hc (by assumption) | (exfalso; omega) | exact absurd hc (by decide) | skip)) | (intro c hc; (try (simp only [AH.none_iff] at hc; repeat (have hn := hc.1; replace hc := hc.2))); (first | (have hc2 := Eq.trans hc (by with_reducible assumption); clear hc; subst hc2) | (refine i64_k hc ?_ ?_ ?_ ; omega; omega; (clear hc; intro hc; subst hc)) | (refine u64_k hc ?_ ?_ ?_ ; omega; omega; (clear hc; intro hc; subst hc)) | (refine u8_k hc ?_ ?_ ?_ ; omega; omega; (clear hc; intro hc; subst hc)) | subst hc | skip)) | (apply Exists.intro; apply And.intro; (focus (repeat (first | assumption | exact AH.set_same _ _ _ | ((first | refine AH.get_ne ?_ ?_ | refine AH.getd_ne ?_ ?_); (first | assumption | omega | exact Ne.symm (by assumption) | exact AH.ne_none (by assumption) (by assumption) | exact AH.none_ne (by assumption) (by assumption) | exact (AH.none_set (by assumption)).1 | exact Ne.symm (AH.none_set (by assumption)).1)))); done)) | (apply Exists.intro; apply And.intro; first | (with_reducible assumption) | ((try simp only [List.getElem?_drop, Nat.mul_one, Nat.add_zero, Nat.zero_add]); first | (with_reducible assumption) | (refine u8s_get ?_; omega) | (refine iS_get ?_; omega) | assumption | rfl | fail)) | (apply And.intro; (first | rfl | (with_reducible assumption) | exact Nat.le_of_ble_eq_true rfl | omega | (exact Int.ofNat_lt.2 (Nat.lt_of_lt_of_eq (by with_reducible assumption) (by decide +kernel))) | assumption | (simp <;> fail) | (simp <;> omega) | (focus (repeat' (first | exact one_u8s _ | exact one_iS _ _ | rfl | apply one_take | apply one_drop | apply one_append)); done) | fail)) | fail)) <;> (try (conv => whnf))
    refine AWp_loop (σ := Nat) (4 :: 5 :: 13 :: 14 :: 15 :: 16 :: 17 :: 18 :: 19 :: 20 :: 21 :: 22 :: 23 :: 24 :: 25 :: []) (fun i => [(13, .int .i64 i)]) (fun i => H) (fun i => i ≤ a.length ∧ ∀ j, j < i → a.getD j 0 = b.getD j 0) (fun i => a.length - i) 0 rfl ⟨Nat.zero_le _, fun j hj => absurd hj (by omega)⟩ ⟨rfl, trivial⟩ (HLe.refl _) ?_
    rintro i ⟨h1, h2⟩
    refine AWp.of tt_ok (dok _) rfl ?_
    dsimp only at h1 h2 ⊢
    by_cases hi : i < a.length
    · have g1 : (u8s a)[(i : Int).toNat]? = some (.int .u8 (a.getD i 0).toNat) := u8s_get hi
      have g2 : (u8s b)[(i : Int).toNat]? = some (.int .u8 (b.getD i 0).toNat) := u8s_get (by rw [Int.toNat_natCast]; omega)
      by_cases he : a.getD i 0 = b.getD i 0
      · have h3 : ∀ j, j < i + 1 → a.getD j 0 = b.getD j 0 := fun j hj => by
          by_cases e : j = i
          · rw [e]; exact he
          · exact h2 j (by omega)
        rw [← he] at g2
        generalize ((a.getD i 0).toNat : Int) = x at *
        (repeat' ((conv => whnf); first | refine Then.mk ?_ | left | refine OpsA.cons ?_ | refine OpsA.nil ?_ | refine AWq.seq ?_ | refine AWq.region ?_ | refine AWq.cond ?_ | refine AWq.block ?_ | refine AWq.skip ?_ | refine AWq.scope ?_ | refine AWq.label ?_ | refine AWq.ret ?_ | refine AWq.exit ?_ | refine AWq.loop ?_ | refine AWq.rangeFunc ?_ | refine DrawA.consD ?_ | refine DrawA.nil ?_ | refine DrawL.consD ?_ | refine DrawL.nil ?_ | refine DrawF.consD ?_ | refine DrawF.nil ?_ | refine AWq.draw (by decide +kernel) ?_ | (refine Both.mk ?_ ?_ <;> intro hc <;> (first | exact Bool.noConfusion hc | exact absurd (by with_reducible rfl) hc | exact (hc : False).elim | exact absurd (by assumption) hc | exact absurd hc (by assumption) | (exfalso; omega) | exact absurd hc (by decide) | skip)) | (intro c hc; (try (simp only [AH.none_iff] at hc; repeat (have hn := hc.1; replace hc := hc.2))); (first | (have hc2 := Eq.trans hc (by with_reducible assumption); clear hc; subst hc2) | (refine i64_k hc ?_ ?_ ?_ ; omega; omega; (clear hc; intro hc; subst hc)) | (refine u64_k hc ?_ ?_ ?_ ; omega; omega; (clear hc; intro hc; subst hc)) | (refine u8_k hc ?_ ?_ ?_ ; omega; omega; (clear hc; intro hc; subst hc)) | subst hc | skip)) | (apply Exists.intro; apply And.intro; (focus (repeat (first | assumption | exact AH.set_same _ _ _ | ((first | refine AH.get_ne ?_ ?_ | refine AH.getd_ne ?_ ?_); (first | assumption | omega | exact Ne.symm (by assumption) | exact AH.ne_none (by assumption) (by assumption) | exact AH.none_ne (by assumption) (by assumption) | exact (AH.none_set (by assumption)).1 | exact Ne.symm (AH.none_set (by assumption)).1)))); done)) | (apply Exists.intro; apply And.intro; first | (with_reducible assumption) | ((try simp only [List.getElem?_drop, Nat.mul_one, Nat.add_zero, Nat.zero_add]); first | (with_reducible assumption) | (refine u8s_get ?_; omega) | (refine iS_get ?_; omega) | assumption | rfl | fail)) | (apply And.intro; (first | rfl | (with_reducible assumption) | exact Nat.le_of_ble_eq_true rfl | omega | (exact Int.ofNat_lt.2 (Nat.lt_of_lt_of_eq (by with_reducible assumption) (by decide +kernel))) | assumption | (simp <;> fail) | (simp <;> omega) | (focus (repeat' (first | exact one_u8s _ | exact one_iS _ _ | rfl | apply one_take | apply one_drop | apply one_append)); done) | fail)) | fail)) <;> (try (conv => whnf))
        exact ⟨i + 1, ⟨hi, h3⟩, by omega, ⟨congrArg (AV.int .i64) (by omega), trivial⟩, HLe.refl _⟩
      · have hx : ¬ ((a.getD i 0).toNat : Int) = ((b.getD i 0).toNat : Int) := fun e => he (UInt8.toNat_inj.1 (by omega))
        have hd : decide (a = b) = false := decide_eq_false fun e => he (by rw [e])
        rw [hd]
        generalize ((a.getD i 0).toNat : Int) = x at *
        generalize ((b.getD i 0).toNat : Int) = z at *
        (repeat' ((conv => whnf); first | refine Then.mk ?_ | left | refine OpsA.cons ?_ | refine OpsA.nil ?_ | refine AWq.seq ?_ | refine AWq.region ?_ | refine AWq.cond ?_ | refine AWq.block ?_ | refine AWq.skip ?_ | refine AWq.scope ?_ | refine AWq.label ?_ | refine AWq.ret ?_ | refine AWq.exit ?_ | refine AWq.loop ?_ | refine AWq.rangeFunc ?_ | refine DrawA.consD ?_ | refine DrawA.nil ?_ | refine DrawL.consD ?_ | refine DrawL.nil ?_ | refine DrawF.consD ?_ | refine DrawF.nil ?_ | refine AWq.draw (by decide +kernel) ?_ | (refine Both.mk ?_ ?_ <;> intro hc <;> (first | exact Bool.noConfusion hc | exact absurd (by with_reducible rfl) hc | exact (hc : False).elim | exact absurd (by assumption) hc | exact absurd hc (by assumption) | (exfalso; omega) | exact absurd hc (by decide) | skip)) | (intro c hc; (try (simp only [AH.none_iff] at hc; repeat (have hn := hc.1; replace hc := hc.2))); (first | (have hc2 := Eq.trans hc (by with_reducible assumption); clear hc; subst hc2) | (refine i64_k hc ?_ ?_ ?_ ; omega; omega; (clear hc; intro hc; subst hc)) | (refine u64_k hc ?_ ?_ ?_ ; omega; omega; (clear hc; intro hc; subst hc)) | (refine u8_k hc ?_ ?_ ?_ ; omega; omega; (clear hc; intro hc; subst hc)) | subst hc | skip)) | (apply Exists.intro; apply And.intro; (focus (repeat (first | assumption | exact AH.set_same _ _ _ | ((first | refine AH.get_ne ?_ ?_ | refine AH.getd_ne ?_ ?_); (first | assumption | omega | exact Ne.symm (by assumption) | exact AH.ne_none (by assumption) (by assumption) | exact AH.none_ne (by assumption) (by assumption) | exact (AH.none_set (by assumption)).1 | exact Ne.symm (AH.none_set (by assumption)).1)))); done)) | (apply Exists.intro; apply And.intro; first | (with_reducible assumption) | ((try simp only [List.getElem?_drop, Nat.mul_one, Nat.add_zero, Nat.zero_add]); first | (with_reducible assumption) | (refine u8s_get ?_; omega) | (refine iS_get ?_; omega) | assumption | rfl | fail)) | (apply And.intro; (first | rfl | (with_reducible assumption) | exact Nat.le_of_ble_eq_true rfl | omega | (exact Int.ofNat_lt.2 (Nat.lt_of_lt_of_eq (by with_reducible assumption) (by decide +kernel))) | assumption | (simp <;> fail) | (simp <;> omega) | (focus (repeat' (first | exact one_u8s _ | exact one_iS _ _ | rfl | apply one_take | apply one_drop | apply one_append)); done) | fail)) | fail)) <;> (try (conv => whnf))
    · have hd : decide (a = b) = true := decide_eq_true (List.ext_getElem? fun j => by
        by_cases hj : j < a.length
        · have := h2 j (by omega)
          rw [List.getD_eq_getElem?_getD, List.getD_eq_getElem?_getD, List.getElem?_eq_getElem hj, List.getElem?_eq_getElem (by omega : j < b.length)] at this
          rw [List.getElem?_eq_getElem hj, List.getElem?_eq_getElem (by omega : j < b.length)]
          exact congrArg some this
        · rw [List.getElem?_eq_none (by omega), List.getElem?_eq_none (by omega)])
      rw [hd]
      (repeat' ((conv => whnf); first | refine Then.mk ?_ | left | refine OpsA.cons ?_ | refine OpsA.nil ?_ | refine AWq.seq ?_ | refine AWq.region ?_ | refine AWq.cond ?_ | refine AWq.block ?_ | refine AWq.skip ?_ | refine AWq.scope ?_ | refine AWq.label ?_ | refine AWq.ret ?_ | refine AWq.exit ?_ | refine AWq.loop ?_ | refine AWq.rangeFunc ?_ | refine DrawA.consD ?_ | refine DrawA.nil ?_ | refine DrawL.consD ?_ | refine DrawL.nil ?_ | refine DrawF.consD ?_ | refine DrawF.nil ?_ | refine AWq.draw (by decide +kernel) ?_ | (refine Both.mk ?_ ?_ <;> intro hc <;> (first | exact Bool.noConfusion hc | exact absurd (by with_reducible rfl) hc | exact (hc : False).elim | exact absurd (by assumption) hc | exact absurd hc (by assumption) | (exfalso; omega) | exact absurd hc (by decide) | skip)) | (intro c hc; (try (simp only [AH.none_iff] at hc; repeat (have hn := hc.1; replace hc := hc.2))); (first | (have hc2 := Eq.trans hc (by with_reducible assumption); clear hc; subst hc2) | (refine i64_k hc ?_ ?_ ?_ ; omega; omega; (clear hc; intro hc; subst hc)) | (refine u64_k hc ?_ ?_ ?_ ; omega; omega; (clear hc; intro hc; subst hc)) | (refine u8_k hc ?_ ?_ ?_ ; omega; omega; (clear hc; intro hc; subst hc)) | subst hc | skip)) | (apply Exists.intro; apply And.intro; (focus (repeat (first | assumption | exact AH.set_same _ _ _ | ((first | refine AH.get_ne ?_ ?_ | refine AH.getd_ne ?_ ?_); (first | assumption | omega | exact Ne.symm (by assumption) | exact AH.ne_none (by assumption) (by assumption) | exact AH.none_ne (by assumption) (by assumption) | exact (AH.none_set (by assumption)).1 | exact Ne.symm (AH.none_set (by assumption)).1)))); done)) | (apply Exists.intro; apply And.intro; first | (with_reducible assumption) | ((try simp only [List.getElem?_drop, Nat.mul_one, Nat.add_zero, Nat.zero_add]); first | (with_reducible assumption) | (refine u8s_get ?_; omega) | (refine iS_get ?_; omega) | assumption | rfl | fail)) | (apply And.intro; (first | rfl | (with_reducible assumption) | exact Nat.le_of_ble_eq_true rfl | omega | (exact Int.ofNat_lt.2 (Nat.lt_of_lt_of_eq (by with_reducible assumption) (by decide +kernel))) | assumption | (simp <;> fail) | (simp <;> omega) | (focus (repeat' (first | exact one_u8s _ | exact one_iS _ _ | rfl | apply one_take | apply one_drop | apply one_append)); done) | fail)) | fail)) <;> (try (conv => whnf))
  · have hd : decide (a = b) = false := decide_eq_false fun e => hl (by rw [e])
    rw [hd]
    refine ACall_of tt_ok (dok _) Try.func55 rfl (by decide) rfl ?_
    (repeat' ((conv => whnf); first | refine Then.mk ?_ | left | refine OpsA.cons ?_ | refine OpsA.nil ?_ | refine AWq.seq ?_ | refine AWq.region ?_ | refine AWq.cond ?_ | refine AWq.block ?_ | refine AWq.skip ?_ | refine AWq.scope ?_ | refine AWq.label ?_ | refine AWq.ret ?_ | refine AWq.exit ?_ | refine AWq.loop ?_ | refine AWq.rangeFunc ?_ | refine DrawA.consD ?_ | refine DrawA.nil ?_ | refine DrawL.consD ?_ | refine DrawL.nil ?_ | refine DrawF.consD ?_ | refine DrawF.nil ?_ | refine AWq.draw (by decide +kernel) ?_ | (refine Both.mk ?_ ?_ <;> intro hc <;> (first | exact Bool.noConfusion hc | exact absurd (by with_reducible rfl) hc | exact (hc : False).elim | exact absurd (by assumption) hc | exact absurd hc (by assumption) | (exfalso; omega) | exact absurd hc (by decide) | skip)) | (intro c hc; (try (simp only [AH.none_iff] at hc; repeat (have hn := hc.1; replace hc := hc.2))); (first | (have hc2 := Eq.trans hc (by with_reducible assumption); clear hc; subst hc2) | (refine i64_k hc ?_ ?_ ?_ ; omega; omega; (clear hc; intro hc; subst hc)) | (refine u64_k hc ?_ ?_ ?_ ; omega; omega; (clear hc; intro hc; subst hc)) | (refine u8_k hc ?_ ?_ ?_ ; omega; omega; (clear hc; intro hc; subst hc)) | subst hc | skip)) | (apply Exists.intro; apply And.intro; (focus (repeat (first | assumption | exact AH.set_same _ _ _ | ((first | refine AH.get_ne ?_ ?_ | refine AH.getd_ne ?_ ?_); (first | assumption | omega | exact Ne.symm (by assumption) | exact AH.ne_none (by assumption) (by assumption) | exact AH.none_ne (by assumption) (by assumption) | exact (AH.none_set (by assumption)).1 | exact Ne.symm (AH.none_set (by assumption)).1)))); done)) | (apply Exists.intro; apply And.intro; first | (with_reducible assumption) | ((try simp only [List.getElem?_drop, Nat.mul_one, Nat.add_zero, Nat.zero_add]); first | (with_reducible assumption) | (refine u8s_get ?_; omega) | (refine iS_get ?_; omega) | assumption | rfl | fail)) | (apply And.intro; (first | rfl | (with_reducible assumption) | exact Nat.le_of_ble_eq_true rfl | omega | (exact Int.ofNat_lt.2 (Nat.lt_of_lt_of_eq (by with_reducible assumption) (by decide +kernel))) | assumption | (simp <;> fail) | (simp <;> omega) | (focus (repeat' (first | exact one_u8s _ | exact one_iS _ _ | rfl | apply one_take | apply one_drop | apply one_append)); done) | fail)) | fail)) <;> (try (conv => whnf))

/-- Models and a reader stand here. -/
structure DcAt (H G : AH) (P Q : Nat → Nat) (d ic bc m n : Nat) (b : List UInt8) (E : Es) : Prop where
  mods : Mods G P Q m n E.M
  rd : RdAt G d ic bc b E.σ
  dj : ∀ k, k < m → (P k ≠ d ∧ P k ≠ ic ∧ P k ≠ bc) ∧ (Q k ≠ d ∧ Q k ≠ ic ∧ Q k ≠ bc)
  le : HLe H G
  new : ∀ k, k < m → H (P k) = none ∧ H (Q k) = none
  hd : H d = none
  hi : H ic = none
theorem le_rdG {H G : AH} {d ic bc : Nat} {b : List UInt8} {σ : Cs} (h : HLe H G) (hp : H d = none) (hq : H ic = none) : HLe H (rdG G d ic bc b σ) := HLe.set_of _ _ (HLe.set_of _ _ h hq) hp
theorem DcAt.step {H G : AH} {P Q : Nat → Nat} {d ic bc m n : Nat} {b : List UInt8} {E : Es} (h : DcAt H G P Q d ic bc m n b E) (σ : Cs) : DcAt H (rdG G d ic bc b σ) P Q d ic bc m n b ⟨E.M, σ⟩ := by
  refine ⟨h.mods.same fun k hk => ?_, h.rd.set σ, h.dj, le_rdG h.le h.hd h.hi, h.new, h.hd, h.hi⟩
  obtain ⟨⟨a1, a2, a3⟩, a4, a5, a6⟩ := h.dj k hk
  exact ⟨rdG_ne a1 a2, rdG_ne a4 a5⟩
def deG (G : AH) (P Q : Nat → Nat) (d ic bc n : Nat) (b : List UInt8) (E : Es) (k s : Nat) : AH := mdH (rdG G d ic bc b (symE n E k s).σ) (P k) (Q k) n (seeM n (E.M k) s)
theorem RdAt.same {G G' : AH} {d ic bc : Nat} {b : List UInt8} {σ : Cs} (h : RdAt G d ic bc b σ) (h1 : G' d = G d) (h2 : G' ic = G ic) (h3 : G' bc = G bc) : RdAt G' d ic bc b σ :=
  ⟨by rw [h1]; exact h.hd, by rw [h2]; exact h.hi, by rw [h3]; exact h.hb, h.n1, h.n2, h.n3⟩
theorem DcAt.sym {H G : AH} {P Q : Nat → Nat} {d ic bc m n : Nat} {b : List UInt8} {E : Es} (h : DcAt H G P Q d ic bc m n b E) {k s : Nat} (hk : k < m) (hs : s < n) : DcAt H (deG G P Q d ic bc n b E k s) P Q d ic bc m n b (symE n E k s) := by
  have h1 := h.step (symE n E k s).σ
  obtain ⟨⟨a1, a2, a3⟩, a4, a5, a6⟩ := h.dj k hk
  exact ⟨h1.mods.set hk ((h.mods.md k hk).ok.see hs), h1.rd.same (mdH_ne (Ne.symm a1) (Ne.symm a4)) (mdH_ne (Ne.symm a2) (Ne.symm a5)) (mdH_ne (Ne.symm a3) (Ne.symm a6)), h.dj, le_mdH h1.le (h.new k hk).1 (h.new k hk).2, h.new, h.hd, h.hi⟩
theorem DcAt.symbol {H G : AH} {P Q : Nat → Nat} {d ic bc m n : Nat} {b : List UInt8} {E : Es} (h : DcAt H G P Q d ic bc m n b E) (hE : EsOk n E) (hr : RdOk b E.σ) (hL : E.σ.L ≤ 1000000000) (hbl : b.length ≤ 1000000000000) {k : Nat} (hk : k < m) {s : Nat} {E' : Es} (hs : decSym n b E k = some (s, E')) :
    ACall Try.prog 51 [.ptr d 0 0, .ptr (P k) 0 0] G (fun y H' => y = .tup [.int .i64 s, .bool true] ∧ H' = deG G P Q d ic bc n b E k s) := by
  obtain ⟨⟨a1, a2, a3⟩, a4, a5, a6⟩ := h.dj k hk
  unfold decSym at hs
  split at hs
  · rename_i hlt
    have := Option.some.inj hs
    have e1 := congrArg Prod.fst this
    dsimp only at e1
    exact rsymbol_c h.rd (h.mods.md k hk) hr hE.cs hL hbl a1 a2 a4 a5 hlt e1.symm
  · cases hs
theorem DcAt.symbol_bad {H G : AH} {P Q : Nat → Nat} {d ic bc m n : Nat} {b : List UInt8} {E : Es} (h : DcAt H G P Q d ic bc m n b E) (hE : EsOk n E) (hr : RdOk b E.σ) (hn : 1 ≤ n) {k : Nat} (hk : k < m) (hs : decSym n b E k = none) :
    ACall Try.prog 51 [.ptr d 0 0, .ptr (P k) 0 0] G (fun y H' => y = .tup [.int .i64 0, .bool false] ∧ H' = G) := by
  unfold decSym at hs
  split at hs
  · cases hs
  · rename_i hlt
    exact rsymbol_bad h.rd (h.mods.md k hk) hr hE.cs hn hlt
/-- Other rows are written. -/
theorem DcAt.same {H G G' : AH} {P Q : Nat → Nat} {d ic bc m n : Nat} {b : List UInt8} {E : Es} (h : DcAt H G P Q d ic bc m n b E) (hs : ∀ a, (∃ k, k < m ∧ (a = P k ∨ a = Q k)) ∨ a = d ∨ a = ic ∨ a = bc → G' a = G a) (hle : HLe H G') : DcAt H G' P Q d ic bc m n b E :=
  ⟨h.mods.same fun k hk => ⟨hs _ (.inl ⟨k, hk, .inl rfl⟩), hs _ (.inl ⟨k, hk, .inr rfl⟩)⟩, h.rd.same (hs _ (.inr (.inl rfl))) (hs _ (.inr (.inr (.inl rfl)))) (hs _ (.inr (.inr (.inr rfl)))), h.dj, hle, h.new, h.hd, h.hi⟩
/-- A row apart. -/
def Far (P Q : Nat → Nat) (d ic bc m : Nat) (r : Nat) : Prop := (∀ k, k < m → r ≠ P k ∧ r ≠ Q k) ∧ r ≠ d ∧ r ≠ ic ∧ r ≠ bc
theorem DcAt.far {H G : AH} {P Q : Nat → Nat} {d ic bc m n : Nat} {b : List UInt8} {E : Es} (h : DcAt H G P Q d ic bc m n b E) {r : Nat} (hr : G r = none) : Far P Q d ic bc m r :=
  ⟨fun k hk => ⟨Ne.symm (h.mods.fresh hr hk).1, Ne.symm (h.mods.fresh hr hk).2⟩, AH.ne_none' hr h.rd.hd, AH.ne_none' hr h.rd.hi, AH.ne_none' hr h.rd.hb⟩
theorem Far.ne {P Q : Nat → Nat} {d ic bc m r a : Nat} (h : Far P Q d ic bc m r) (ha : (∃ k, k < m ∧ (a = P k ∨ a = Q k)) ∨ a = d ∨ a = ic ∨ a = bc) : a ≠ r := by
  rcases ha with ⟨k, hk, rfl | rfl⟩ | rfl | rfl | rfl
  · exact Ne.symm (h.1 k hk).1
  · exact Ne.symm (h.1 k hk).2
  · exact Ne.symm h.2.1
  · exact Ne.symm h.2.2.1
  · exact Ne.symm h.2.2.2
theorem Far.deG {G : AH} {P Q : Nat → Nat} {d ic bc m n r : Nat} {b : List UInt8} {E : Es} (h : Far P Q d ic bc m r) {k s : Nat} (hk : k < m) : deG G P Q d ic bc n b E k s r = G r := by
  unfold Go.Proofs.Ytgmooalikccbiaa.deG
  rw [mdH_ne (h.1 k hk).1 (h.1 k hk).2, rdG_ne h.2.1 h.2.2.1]

def resI (x : List Int × Int) : AV := .tup [.cs (iS .i64 x.1) x.1.length, .int .i64 x.2]
theorem AVle.errI {e : Int} : AVle (.tup [.nils, .int .i64 e]) (resI ([], e)) := AVle.tup (AVles.cons AVle.nils (AVles.cons (AVle.refl _) AVles.nil))
theorem decSt_err {n many : Nat} {ctx : Nat → List Int → Int} {b : List UInt8} {i : Nat} {e : Int} (h : decSt n many ctx b i = .error e) : ∀ d, decSt n many ctx b (i + d) = .error e
  | 0 => h
  | d + 1 => by
    show (match decSt n many ctx b (i + d) with | .error e => _ | .ok (E, out) => _) = _
    rw [decSt_err h d]
end Go.Proofs.Ytgmooalikccbiaa
