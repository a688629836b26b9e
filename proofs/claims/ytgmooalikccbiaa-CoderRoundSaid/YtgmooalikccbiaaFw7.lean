/- The frame of the abstract walk, part 7: append, copy, conversions, what makes memory. -/
import Derived.Test.YtgmooalikccbiaaFw6
import Derived.Laws.IdiomStrings
import Derived.Laws.MakeOwn
import Derived.Great.BuildSlice
set_option linter.unusedVariables false
set_option linter.unusedSimpArgs false
namespace Go.Fw
open Go.RowKit

variable {κ : KM} {F : FM} {B : Nat} {w0 w : World} {H : AH} {P : Program}

theorem cell_heap {w w' : World} (h : w'.heap = w.heap) (a : Addr) : w'.cell? a = w.cell? a := by unfold World.cell?; rw [h]

theorem VR.slOf (I : Inv κ F B w0 H w) {r v es off len : Nat} {lim : Option Nat} {p : Value} {cells : List AV} (ha : VR κ F (.sl r v es off len lim) p) (hH : H r = some (.row cells v)) :
    ∃ i adr c, p = .slice adr len c ∧ κ r v = some i ∧ i.esz = es ∧ len ≤ c ∧ RowOk κ F B w cells i ∧ (∀ v', v < v' → κ r v' = none) ∧ (c = 0 ∨ ∃ b, i.blk = some b ∧ adr = some ⟨b, off, none⟩) ∧
      (∃ lo, off = lo * es ∧ lo ≤ i.cap ∧ limOk lim c (i.cap - lo)) := by
  obtain ⟨i, hi, hrow, hn⟩ := I.objs _ _ hH
  cases ha with
  | sl hk hoff hlo hc hlen hadr =>
    rename_i ob cap lo adr c
    rw [hi] at hk
    cases hk
    exact ⟨_, adr, c, rfl, hi, rfl, hlen, hrow, hn, hadr, lo, hoff, hlo, hc⟩

theorem run_firstCells_zero (esz n c : Nat) (a : Option Addr) (w : World) : (Builtin.firstCells esz 0 (.slice a n c)).run P w = .ok #[] w := by
  cases a with
  | none => rfl
  | some a => simp [Builtin.firstCells, loadCells, loadCellsFrom]

structure Src (κ : KM) (F : FM) (P : Program) (w : World) (esz : Nat) (v : Value) (n : Nat) (cells : List AV) (f : Nat → Value) : Prop where
  len : ∀ w', (Builtin.lenOf v).run P w' = .ok n w'
  size : cells.length = n * esz
  rel : ∀ j (hj : j < cells.length), VR κ F cells[j] (f j)
  first : ∀ w', w'.heap = w.heap → ∀ k, k ≤ n → (Builtin.firstCells esz k v).run P w' = .ok ((List.range (k * esz)).map f).toArray w'

theorem cellsA_ok (I : Inv κ F B w0 H w) {esz : Nat} {a : AV} {v : Value} {K : Nat → List AV → Prop} (ha : VR κ F a v) (h : cellsA esz a H K) :
    ∃ n cells f adr c, v = .slice adr n c ∧ Src κ F P w esz v n cells f ∧ K n cells := by
  have zero : ∀ (adr : Option Addr) (c : Nat), Src κ F P w esz (.slice adr 0 c) 0 [] (fun _ => undef) := fun adr c =>
    ⟨fun _ => rfl, by simp, fun j hj => by simp at hj, fun w' _ k hk => by
      have : k = 0 := by omega
      subst this
      have := run_firstCells_zero (P := P) esz 0 c adr w'
      simpa using this⟩
  cases a with
  | nils => cases ha with | nils adr => exact ⟨0, [], _, adr, 0, rfl, zero adr 0, h⟩
  | cs cells n =>
    obtain ⟨hl, hK⟩ := h
    cases ha with
    | cs0 adr c => exact ⟨0, [], _, adr, c, rfl, zero adr c, hK⟩
    | cs hF hle hc hcc =>
      rename_i b off c arr
      obtain ⟨e, fr, hh⟩ := I.fz _ _ hF
      refine ⟨n, cells, fun j => arr.getD (off + j) undef, _, c, rfl, ⟨fun _ => rfl, hl, hcc, fun w' hw k hk => ?_⟩, hK⟩
      have hk' : k * esz ≤ n * esz := Nat.mul_le_mul_right _ hk
      exact run_loadCells w' ⟨b, off, none⟩ (k * esz) _ (fun j hj => by rw [Addr.add_mk, cell_heap hw]; exact cell_of_heap hh _ (by omega))
  | sl r vv es off len lim =>
    obtain ⟨rfl, cells, hH, hlen, hK⟩ := when_beq h
    obtain ⟨i, adr, c, rfl, hi, he, hc, hrow, _, hadr, _⟩ := VR.slOf I ha hH
    rcases hadr with rfl | ⟨b, hb, rfl⟩
    · obtain rfl : len = 0 := by omega
      refine ⟨0, _, _, adr, 0, rfl, zero adr 0, ?_⟩
      simpa using hK
    · simp only [RowOk, hb] at hrow
      obtain ⟨_, _, arr, e, fr, hh, _, _, hle, hcc⟩ := hrow
      refine ⟨len, _, fun j => arr.getD (off + j) undef, _, c, rfl, ⟨fun _ => rfl, by simp; omega, fun j hj => ?_, fun w' hw k hk => ?_⟩, hK⟩
      · have hj' : j < len * es ∧ j < cells.length - off := by simp at hj; omega
        have := hcc (off + j) (by omega)
        simpa using this
      · have hk' : k * es ≤ len * es := Nat.mul_le_mul_right _ hk
        exact run_loadCells w' ⟨b, off, none⟩ (k * es) _ (fun j hj => by rw [Addr.add_mk, cell_heap hw]; exact cell_of_heap hh _ (by omega))
  | _ => exact h.elim

theorem srcA_ok (I : Inv κ F B w0 H w) {esz : Nat} {a : AV} {v : Value} {K : Nat → List AV → Prop} (ha : VR κ F a v) (h : srcA esz a H K) :
    ∃ n cells f, Src κ F P w esz v n cells f ∧ K n cells := by
  cases a with
  | str s =>
    obtain ⟨rfl, hK⟩ := when_beq h
    cases ha
    refine ⟨s.length, u8s s, fun j => .int .u8 (s.getD j 0).toNat, ⟨fun _ => ?_, by simp [u8s], fun j hj => ?_, fun w' _ k hk => ?_⟩, hK⟩
    · simp [Builtin.lenOf, ByteArray.size]
    · have : j < s.length := by simpa [u8s] using hj
      simp [u8s, List.getD, this]; exact .int _ _
    · have : ((⟨s.toArray⟩ : ByteArray).extract 0 k).data.map (fun b => Value.int .u8 (b.toNat : Int)) = ((List.range (k * 1)).map fun j => Value.int .u8 ((s.getD j 0).toNat : Int)).toArray := by
        apply Array.ext
        · simp [ByteArray.data_extract]; omega
        · intro j h1 h2
          have : j < k := by simp at h2; exact h2
          simp [ByteArray.data_extract, List.getD, show j < s.length by omega]
      show Result.ok _ _ = _
      rw [this]
  | _ =>
    obtain ⟨n, cells, f, adr, c, rfl, hs, hK⟩ := cellsA_ok (P := P) I ha h
    exact ⟨n, cells, f, hs, hK⟩

/-- Not the second operand of an 'append(xs, make(..)...)'. -/
def plainSrc : TypeDesc → Bool
  | .slice _ => true
  | .string => true
  | _ => false

theorem zeroCells_size (z : Array Value) (n : Nat) : (Builtin.zeroCells z n).size = n * z.size := by simp [Builtin.zeroCells]

theorem grownCap_ge (w : World) (need old : Nat) (e : TypeId) : need ≤ grownCap w need old e := by
  unfold grownCap Question.cut; exact Nat.le_add_right _ _

theorem run_append_room {t u ty e : TypeId} {i : TypeInfo} {du : TypeDesc} (ht : P.underlying t = some (.slice e)) (hi : P.info? e = some i) (hu : P.underlying u = some du) (hp : plainSrc du = true)
    {base : Option Addr} {sLen sCap : Nat} {x : Value} {n : Nat} {f : Nat → Value} (hlen : (Builtin.lenOf x).run P w = .ok n w) (hf : (Builtin.firstCells i.size n x).run P w = .ok ((List.range (n * i.size)).map f).toArray w)
    (hroom : sLen + n ≤ sCap) {w' : World} (hst : ∀ a, base = some a → (storeCells (a.add (sLen * i.size)) ((List.range (n * i.size)).map f)).run P w = .ok () w') (hno : base = none → w' = w) :
    (Builtin.append_ #[t, u] ty #[.slice base sLen sCap, x]).run P w = .ok (.slice base (sLen + n) sCap) w' := by
  unfold Builtin.append_
  cases base with
  | none =>
    obtain rfl := hno rfl
    cases du <;> first | (exfalso; simp [plainSrc] at hp; done) | simp [run_underlying ht, run_underlying hu, run_sizeOf hi, hlen, hf, hroom]
  | some a =>
    have := hst a rfl
    cases du <;> first | (exfalso; simp [plainSrc] at hp; done) | simp [run_underlying ht, run_underlying hu, run_sizeOf hi, hlen, hf, hroom, this]

theorem run_append_grown {t u ty e : TypeId} {i : TypeInfo} {z : Value} {du : TypeDesc} (ht : P.underlying t = some (.slice e)) (hi : P.info? e = some i) (hz : i.zero = some z) (hu : P.underlying u = some du) (hp : plainSrc du = true)
    {base : Option Addr} {sLen sCap : Nat} {x : Value} {n : Nat} {f : Nat → Value} {olds : Array Value} (hlen : (Builtin.lenOf x).run P w = .ok n w)
    (hf : (Builtin.firstCells i.size n x).run P w.drew = .ok ((List.range (n * i.size)).map f).toArray w.drew) (hold : (Builtin.firstCells i.size sLen (.slice base sLen sCap)).run P w.drew = .ok olds w.drew)
    (hroom : sCap < sLen + n) (hb : i.bytes ≠ 0) (hbytes : (sLen + n) * i.bytes ≤ 140737488355328) :
    (Builtin.append_ #[t, u] ty #[.slice base sLen sCap, x]).run P w = .ok (.slice (some ⟨w.heap.size, 0, none⟩) (sLen + n) (grownCap w (sLen + n) sCap e))
      (w.drew.alloc (.cells (olds ++ ((List.range (n * i.size)).map f).toArray ++ Builtin.zeroCells z.cells (grownCap w (sLen + n) sCap e - (sLen + n))) e)) := by
  have hn : ¬ (sLen + n ≤ sCap) := by omega
  have hle : sLen + n ≤ 140737488355328 := Nat.le_trans (Nat.le_mul_of_pos_right _ (Nat.pos_of_ne_zero hb)) hbytes
  have h63 : ¬ (9223372036854775807 < ((sLen : Int) + (n : Int))) := by omega
  have h48 : ¬ (281474976710656 < Builtin.nextslicecap (sLen + n) sCap * i.bytes) := by
    have := nextslicecap_le hroom
    have h2 : Builtin.nextslicecap (sLen + n) sCap * i.bytes ≤ 2 * (sLen + n) * i.bytes := Nat.mul_le_mul_right _ this
    rw [Nat.mul_assoc] at h2
    omega
  have hb0 : ¬ (i.bytes = 0) := hb
  unfold Builtin.append_
  cases du <;> first | (exfalso; simp [plainSrc] at hp; done) | simp [run_underlying ht, run_underlying hu, sizeOf, typeInfo, zeroValue, hi, hz, hlen, hf, hold, hn, h63, h48, hb0, Question.forced, newRow, grownCap]

end Go.Fw
