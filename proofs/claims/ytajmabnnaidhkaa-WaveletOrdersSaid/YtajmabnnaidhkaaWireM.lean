/- The law's own examples. -/
import Derived.Test.YtajmabnnaidhkaaWireU
import Derived.Test.YtajmabnnaidhkaaRef
namespace Go.Proofs.Ytajmabnnaidhkaa
open Go.Fw Go
set_option linter.unusedVariables false
set_option linter.unusedSimpArgs false

/-- A new writer. -/
theorem AWp_writer {P : Program} {N : Nat} {ro : Option Nat} {ws : Nat → Bool} {code : Code} {K R : St → AH → Prop} {X : Nat → St → AH → Prop} {s : St} {H : AH} {c : Nat} (hc : H c = none)
    (h : ∀ r, c ≠ r → H r = none → AWp N P ro ws code K R X s (WrH H c r 0 [])) : AWp N P ro ws code K R X s (H.set c (.row [.nils] 0)) := by
  refine AWp_nilC 1 [] [] (p := c) (AH.set_same ..) fun r hr hrc => ?_
  have := h r (Ne.symm hrc) (by rw [AH.set_ne _ _ hrc] at hr; exact hr)
  refine AWp_less _ (HLe.of_eq ?_) this
  exact (AH.set_back H (Ne.symm hrc) _ _ _).symm

theorem RdH_comm (H : AH) {p q : Nat} (h : p ≠ q) (e f : Int) (b d : List UInt8) : RdH (RdH H p e b) q f d = RdH (RdH H q f d) p e b := AH.set_comm _ _ _ h

theorem canon_zero {e : Int} {b r : List UInt8} (h : canon e b = (0, r)) : e = 0 ∧ b = r := by
  have h1 : e = 0 := congrArg Prod.fst h
  subst h1
  rw [canon_ok] at h
  exact ⟨rfl, congrArg Prod.snd h⟩

theorem rUint_ok (p : Nat) {b r : List UInt8} {x : Nat} (hb : b.length ≤ 1000000) (h : rdU (0, b) = (x, (0, r))) (H : AH) : ACall Try.prog 52 [.ptr p 0 0] (RdH H p 0 b) (fun y H' => y = .int .u64 x ∧ H' = RdH H p 0 r) := by
  have := rUint_c p 0 b hb H
  rw [canon_ok, h] at this
  refine this.mono ?_
  rintro y H' ⟨rfl, e, b', h1, _, rfl⟩
  obtain ⟨rfl, rfl⟩ := canon_zero h1
  exact ⟨rfl, rfl⟩

theorem rInt_ok (p : Nat) {b r : List UInt8} {x : Int} (hb : b.length ≤ 1000000) (h : rdI (0, b) = (x, (0, r))) (H : AH) : ACall Try.prog 33 [.ptr p 0 0] (RdH H p 0 b) (fun y H' => y = .int .i64 x ∧ H' = RdH H p 0 r) := by
  have := rInt_c p 0 b hb H
  rw [canon_ok, h] at this
  refine this.mono ?_
  rintro y H' ⟨rfl, e, b', h1, _, rfl⟩
  obtain ⟨rfl, rfl⟩ := canon_zero h1
  exact ⟨rfl, rfl⟩

theorem bs_example : encN 300 ++ encI (-1) ++ encR [97, 98] = [172, 2, 1, 2, 97, 98] := by
  unfold encI encR
  rw [encN_ge (n := 300) (by omega), encN_lt (n := 300 / 128) (by omega), encN_lt (n := zz (-1)) (by decide), encN_lt (n := [97, 98].length) (by decide)]
  rfl

theorem wDone_g (p r v : Nat) (bs : List UInt8) (hb : bs.length ≤ 1000000) (H : AH) (hpr : p ≠ r) (h1 : H p = some (.row [.sl r v 1 0 bs.length none] 0)) (h2 : H r = some (.row (u8s bs) v)) :
    ACall Try.prog 32 [.ptr p 0 0] H (fun y H' => y = .cs (u8s bs) bs.length ∧ H' = H) := by
  have := wDone_c p r v bs hb H hpr
  rwa [← WrH_id h1 h2] at this
end Go.Proofs.Ytajmabnnaidhkaa
