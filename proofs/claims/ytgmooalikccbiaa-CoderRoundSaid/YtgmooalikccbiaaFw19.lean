/- The frame of the abstract walk, part 19: from a law's contract to its row. -/
import Derived.Test.YtgmooalikccbiaaFw18
import Derived.OpenShut
set_option linter.unusedVariables false
set_option linter.unusedSimpArgs false
namespace Go.Fw
open Go.RowKit

/-- All that lies in memory when a law begins is constant. -/
def startF (W : World) : FM := fun b => match W.heap[b]? with | some (.cells arr _ _) => some arr | _ => none

theorem start_inv (W : World) : Inv (fun _ _ => none) (startF W) W.heap.size W (fun _ => none) W := by
  refine ⟨Below.refl _ _, Nat.le_refl _, fun b arr h => ?_, ⟨0, (fun r v i h => by cases h)⟩, (fun r o h => by cases h), (fun r r' o o' i i' b h => by cases h)⟩
  unfold startF at h
  split at h
  · rename_i arr' e fr hh; cases h; exact ⟨e, fr, hh⟩
  · cases h

/-- A slice of whole numbers, as the row's argument opens. -/
def IsRow (k : IntKind) (w : World) (a : Option Addr) (len cap : Nat) (zs : List Int) : Prop :=
  (a = none ∧ len = 0 ∧ cap = 0 ∧ zs = []) ∨
  ∃ x, a = some x ∧ len ≤ cap ∧ cap ≤ maxLen ∧ zs.length = cap ∧ (∀ i, i < zs.length → w.cell? (x.add i) = some (.int k (zs.getD i 0))) ∧ ∀ n ∈ zs, (Lit.int k n).wf = true

theorem start_row {k : IntKind} {W : World} {a : Option Addr} {len cap : Nat} {zs : List Int} (h : IsRow k W a len cap zs) :
    VR (fun _ _ => none) (startF W) (.cs (iS k (zs.take len)) len) (.slice a len cap) ∧ (zs.take len).length = len ∧ len ≤ maxLen ∧ ∀ n ∈ zs.take len, (Lit.int k n).wf = true := by
  rcases h with ⟨rfl, rfl, rfl, rfl⟩ | ⟨x, rfl, hlc, hcap, hz, hcell, hwf⟩
  · exact ⟨.cs0 _ _, rfl, Nat.zero_le _, fun n hn => by simp at hn⟩
  · refine ⟨?_, by simp; omega, by omega, fun n hn => hwf n (List.mem_of_mem_take hn)⟩
    by_cases h0 : len = 0
    · subst h0; simp [iS]; exact .cs0 _ _
    · have h1 := hcell 0 (by omega)
      have e0 : x.add 0 = x := by simp [Addr.add]
      rw [e0] at h1
      obtain ⟨b, off, spot⟩ := x
      unfold World.cell? at h1
      simp only at h1
      cases hb : W.heap[b]? with
      | none => rw [hb] at h1; cases h1
      | some o =>
        cases o with
        | cells arr e fr =>
          rw [hb] at h1
          cases spot with
          | some s => simp at h1
          | none =>
            have hF : startF W b = some arr := by simp [startF, hb]
            have hc : ∀ i, i < cap → arr[off + i]? = some (.int k (zs.getD i 0)) := by
              intro i hi
              have := hcell i (by omega)
              rw [Addr.add_mk] at this
              simpa [World.cell?, hb] using this
            have hlast : off + (len - 1) < arr.size := by
              have := hc (len - 1) (by omega)
              exact (Array.getElem?_eq_some_iff.1 this).1
            refine .cs hF (by simp; omega) hlc fun i hi => ?_
            have hi' : i < len := by simp at hi; omega
            have := hc i (by omega)
            rw [Array.getD_eq_getD_getElem?, this]
            simp [iS]
            have : (zs[i]?.getD 0) = zs[i]'(by omega) := by simp [show i < zs.length by omega]
            rw [this]
            exact .int _ _
        | _ => rw [hb] at h1; cases h1

/-- Bytes, as they are. -/
def bytesOf (l : List Int) : List UInt8 := l.map fun n => UInt8.ofNat n.toNat
theorem iS_bytes {l : List Int} (h : ∀ n ∈ l, (Lit.int .u8 n).wf = true) : iS .u8 l = u8s (bytesOf l) := by
  simp only [iS, u8s, bytesOf, List.map_map]
  refine List.map_congr_left fun n hn => ?_
  have := h n hn
  have hr : 0 ≤ n ∧ n ≤ 255 := by
    have h2 : decide ((0 : Int) ≤ n) = true ∧ decide (n ≤ 255) = true := by
      have h3 : (decide ((0 : Int) ≤ n) && decide (n ≤ 255)) = true := this
      simpa using h3
    exact ⟨of_decide_eq_true h2.1, of_decide_eq_true h2.2⟩
  simp only [Function.comp, UInt8.toNat_ofNat']
  congr 1
  omega

theorem str_start (κ : KM) (F : FM) (s : ByteArray) : VR κ F (.str s.data.toList) (.string s) := .str s.data.toList

/-- A law's contract, as the row wants it. -/
theorem law_calls {P : Program} {g : FuncId} {args : List AV} {cargs : Array Value} {W : World} (h : ACall P g args (fun _ => none) fun y _ => y = .bool true) (hA : VRs (fun _ _ => none) (startF W) args cargs) :
    Calls P g cargs W fun e w' => e = .returned (.bool true) ∧ Below W.heap.size W w' := by
  refine (h.run _ _ _ W W cargs (start_inv W) hA).mono ?_
  rintro e w' ⟨v, rfl, y, H', κ', F', _, _, hI, hv, rfl⟩
  cases hv
  exact ⟨rfl, hI.below⟩

end Go.Fw
