/- The frame of the abstract walk, part 8: append, copy, conversions, what makes memory: the relation behind them. -/
import Derived.Test.YtgmooalikccbiaaFw7
set_option linter.unusedVariables false
set_option linter.unusedSimpArgs false
namespace Go.Fw
open Go.RowKit

variable {κ : KM} {F : FM} {B : Nat} {w0 w : World} {H : AH} {P : Program}

/-- What an operation leaves. -/
def Left (κ : KM) (F : FM) (B : Nat) (w0 : World) (K : AV → AH → Prop) (v : Value) (w' : World) : Prop :=
  ∃ y H' κ' F', KLe κ κ' ∧ FLe F F' ∧ Inv κ' F' B w0 H' w' ∧ VR κ' F' y v ∧ K y H'

theorem Left.same {K : AV → AH → Prop} {y : AV} {v : Value} (I : Inv κ F B w0 H w) (h : VR κ F y v) (hK : K y H) : Left κ F B w0 K v w :=
  ⟨y, H, κ, F, KLe.refl _, FLe.refl _, I, h, hK⟩

/-- A new row, at once a constant. -/
theorem newRow_cs (I : Inv κ F B w0 H w) {arr : Array Value} {e : TypeId} {fr : Nat × Nat} {n : Nat} {cells : List AV} (c : Nat) (hc0 : n ≤ c)
    (hlen : cells.length ≤ arr.size) (hc : ∀ j (hj : j < cells.length), VR κ F cells[j] (arr.getD j undef)) {K : AV → AH → Prop} (h : K (.cs cells n) H) (hl : Loose arr fr) :
    Left κ F B w0 K (.slice (some ⟨w.heap.size, 0, none⟩) n c) (w.alloc (.cells arr e fr)) := by
  obtain ⟨r, hr, hkr⟩ := I.fresh
  obtain ⟨hle, I'⟩ := I.newRow (e := e) (fr := fr) (r := r) (v := 0) (cap := arr.size) (esz := 1) (cells := cells) (arr := arr) hr (fun u _ => hkr u) hl (by simp) hlen hc
  obtain ⟨arr', _, _, _, hFle, I2⟩ := I'.freeze (AH.set_same _ _ _) (KM.put_same ..) (b := w.heap.size) rfl
  obtain ⟨e', fr', hh⟩ := I2.fz w.heap.size arr' (by simp)
  have : arr' = arr := by
    rw [heap_alloc_new] at hh; cases hh; rfl
  subst this
  rw [AH.del_set _ _ _ hr] at I2
  exact ⟨_, _, _, _, hle, hFle, I2, .cs (arr := arr') (by simp) (by simpa using hlen) hc0 (fun j hj => by simpa using (hc j hj).mono hle hFle), h⟩

theorem map_range_getD (f : Nat → Value) (n j : Nat) (h : j < n) : (((List.range n).map f).toArray).getD j undef = f j := by
  simp [Array.getD_eq_getD_getElem?, h]

theorem loose_zero (arr : Array Value) : Loose arr (0, 0) := fun i _ => by simp

/-- A new row of values, made out of lists. -/
theorem rel_append {cells new : List AV} {A C : Array Value} (hA : A.size = cells.length) (h : ∀ j (hj : j < cells.length), VR κ F cells[j] (A.getD j undef)) {f : Nat → Value}
    (hn : ∀ j (hj : j < new.length), VR κ F new[j] (f j)) :
    ∀ j (hj : j < (cells ++ new).length), VR κ F (cells ++ new)[j] ((A ++ ((List.range new.length).map f).toArray ++ C).getD j undef) := by
  intro j hj
  simp only [List.length_append] at hj
  by_cases hlt : j < cells.length
  · have := h j hlt
    rw [List.getElem_append_left hlt]
    simp only [Array.getD_eq_getD_getElem?] at this ⊢
    rw [Array.getElem?_append_left (by simp; omega), Array.getElem?_append_left (by omega)]
    exact this
  · have h2 : j - cells.length < new.length := by omega
    have := hn (j - cells.length) h2
    rw [List.getElem_append_right (by omega)]
    simp only [Array.getD_eq_getD_getElem?]
    rw [Array.getElem?_append_left (by simp; omega), Array.getElem?_append_right (by omega), hA]
    simpa [h2] using this

theorem appendA_ok {t u ty e : TypeId} {esz eb : Nat} {ez : List AV} {n0 : Nat} {ag : Bool} {z0 : List AV} {du : TypeDesc} (hT : trOk P t ⟨.slice e esz eb ez, n0, ag, z0⟩ = true) (hu : P.underlying u = some du) (hp : plainSrc du = true)
    (I : Inv κ F B w0 H w) {s x : AV} {vs vx : Value} {K : AV → AH → Prop} (hs : VR κ F s vs) (hx : VR κ F x vx) (h : appendA esz eb s x H K) :
    ∃ v' w', (Builtin.append_ #[t, u] ty #[vs, vx]).run P w = .ok v' w' ∧ Left κ F B w0 K v' w' := by
  obtain ⟨ht, ⟨i, z, hi, his, hz, hzo, hib⟩, hezl, hesz, heb⟩ := tr_slice hT
  obtain ⟨n, new, f, S, h1, h⟩ := srcA_ok (P := P) I hx h
  subst his; subst hib
  have hzs : z.cells.size = i.size := by have := (zerosOk_ok (κ := κ) (F := F) hzo).1; omega
  have hrel : ∀ j (hj : j < new.length), VR κ F new[j] (f j) := S.rel
  have hsz := S.size
  cases s with
  | nils =>
    obtain ⟨hbytes, hK⟩ := h
    obtain ⟨r, hr, hkr⟩ := I.fresh
    cases hs with
    | nils adr =>
      by_cases hn : n = 0
      · subst hn
        obtain ⟨hle, I'⟩ := I.ghost i.size hr hkr
        have hnew : new = [] := List.length_eq_zero_iff.1 (by rw [hsz]; simp)
        have hrun := run_append_room (ty := ty) (w := w) (w' := w) ht hi hu hp (base := adr) (sLen := 0) (sCap := 0) (S.len w) (S.first w rfl 0 (Nat.le_refl _)) (by omega)
          (fun a _ => by simp [storeCells]) (fun _ => rfl)
        refine ⟨_, _, hrun, _, _, _, F, hle, FLe.refl _, I', ?_, by rw [hnew] at hK; exact hK r hr⟩
        exact .sl (KM.put_same ..) (lo := 0) (by simp) (by simp) (show _ = _ by simp) (by simp) (Or.inl rfl)
      · have hrun := run_append_grown (ty := ty) (w := w) ht hi hz hu hp (base := adr) (sLen := 0) (sCap := 0) (S.len w) (S.first w.drew rfl n (Nat.le_refl _))
          (run_firstCells_zero i.size 0 0 adr w.drew) (by omega) heb (by simpa using hbytes)
        rw [Nat.zero_add] at hrun
        have hcap := grownCap_ge w n 0 e
        obtain ⟨hle, I'⟩ := I.drew.newRow (e := e) (fr := (0, 0)) (r := r) (v := 0) (cap := grownCap w n 0 e) (esz := i.size) (cells := new)
          (arr := #[] ++ ((List.range (n * i.size)).map f).toArray ++ Builtin.zeroCells z.cells (grownCap w n 0 e - n)) hr (fun u _ => hkr u) (loose_zero _)
          (by simp [zeroCells_size, hzs, ← Nat.add_mul]; congr 1; omega) (by simp; omega)
          (by have := rel_append (κ := κ) (F := F) (cells := []) (new := new) (A := #[]) (C := Builtin.zeroCells z.cells (grownCap w n 0 e - n)) rfl (fun j hj => by simp at hj) hrel
              rw [hsz] at this; simpa using this)
        refine ⟨_, _, hrun, _, _, _, F, hle, FLe.refl _, I', ?_, hK r hr⟩
        exact .sl (KM.put_same ..) (lo := 0) (by simp) (by simp) (show _ = _ by simp) hcap (Or.inr ⟨_, rfl, rfl⟩)
  | sl r v es off len lim =>
    obtain ⟨hst, cells, hH, hcl, hbytes, hK⟩ := when_iff.1 h
    simp only [Bool.and_eq_true, Option.isNone_iff_eq_none] at hst
    obtain ⟨⟨hst1, hst2⟩, rfl⟩ := hst
    obtain rfl := Nat.eq_of_beq_eq_true hst1
    obtain rfl := Nat.eq_of_beq_eq_true hst2
    obtain ⟨ic, adr, c, rfl, hki, hie, hlc, hrow, hnx, hadr, lo, hlo0, hlo, hlim⟩ := VR.slOf I hs hH
    obtain rfl : lo = 0 := by
      rcases Nat.eq_zero_or_pos lo with h0 | h0
      · exact h0
      · have := Nat.mul_pos h0 (Nat.pos_of_ne_zero hesz); omega
    have hcc : c = ic.cap := by have : c = ic.cap - 0 := hlim; omega
    have hput : κ.put r (v + 1) ic r (v + 1) = some ⟨ic.blk, ic.cap, i.size⟩ := by rw [KM.put_same, ← hie]
    by_cases hroom : len + n ≤ c
    · -- in place
      by_cases hc0 : c = 0
      · -- nothing there, nothing to come
        have hn : n = 0 := by omega
        have hl : len = 0 := by omega
        subst hn; subst hl
        have hnew : new = [] := List.length_eq_zero_iff.1 (by rw [hsz]; simp)
        have hrun := run_append_room (ty := ty) (w := w) (w' := w) ht hi hu hp (base := adr) (sLen := 0) (sCap := c) (S.len w) (S.first w rfl 0 (Nat.le_refl _)) (by omega)
          (fun a _ => by simp [storeCells]) (fun _ => rfl)
        obtain ⟨hle, I'⟩ := I.bump hH hki
        refine ⟨_, _, hrun, _, _, _, F, hle, FLe.refl _, ?_, ?_, hK⟩
        · rw [hnew, List.append_nil]; exact I'
        · exact .sl hput (lo := 0) (by simp) (by simp) (show c = ic.cap - 0 by omega) (by simp) (Or.inl hc0)
      · rcases hadr with h0 | ⟨b, hb, rfl⟩
        · exact absurd h0 hc0
        · simp only [RowOk, hb] at hrow
          obtain ⟨hB, hFb, arr, ee, fr, hh, hl, hasz, hle', hcv⟩ := hrow
          have hroomc : (len + n) * i.size ≤ arr.size := by rw [hasz, hie, ← hcc]; exact Nat.mul_le_mul_right _ hroom
          rw [Nat.add_mul] at hroomc
          have hvl : ((List.range (n * i.size)).map f).length = n * i.size := by simp
          have hone : ∀ x ∈ (List.range (n * i.size)).map f, x.oneCell' = true := by
            intro x hx
            obtain ⟨j, hj, rfl⟩ := List.mem_map.1 hx
            have hj' : j < new.length := by rw [hsz]; simpa using hj
            exact one_ok (hrel j hj') (List.all_eq_true.1 h1 _ (List.getElem_mem hj'))
          have hst := run_storeCells_cells (P := P) b (len * i.size) ((List.range (n * i.size)).map f) 0 w (fun j hj => by rw [cell_of_heap hh _ (by omega)]; rfl)
            (fun j hj => frozen_of_heap hh hl _ (by omega)) hone
          rw [Nat.add_zero] at hst
          have hrun := run_append_room (ty := ty) (w := w) (w' := w.setCells b (len * i.size) ((List.range (n * i.size)).map f)) ht hi hu hp (base := some ⟨b, 0, none⟩) (sLen := len) (sCap := c) (S.len w)
            (S.first w rfl n (Nat.le_refl _)) hroom (fun a ha => by cases ha; rw [Addr.add_mk, Nat.zero_add]; exact hst) (fun hz => by cases hz)
          obtain ⟨hle, I'⟩ := I.bump hH hki
          have hH' : (H.set r (.row cells (v + 1))) r = some (.row cells (v + 1)) := AH.set_same _ _ _
          have hsp := heap_setCells_eq b ee fr ((List.range (n * i.size)).map f) (len * i.size) arr w hh
          have I2 := I'.turn (o' := .row (cells ++ new) (v + 1)) (w' := w.setCells b (len * i.size) ((List.range (n * i.size)).map f)) hH' (KM.put_same ..) hb rfl
            (fun k hk => heap_setCells_ne b k hk _ _ w) (size_setCells b _ _ w) (below_setCells b hB _ _ w I'.below) (by
              refine ⟨ic, KM.put_same .., ?_, fun u hu => by have hu : v + 1 < u := hu; simp only [KM.put]; rw [if_neg (by omega)]; exact hnx u (by omega)⟩
              simp only [RowOk, hb]
              refine ⟨hB, hFb, _, ee, fr, hsp, fun j hj => hl j (by rw [size_splice] at hj; exact hj), by rw [size_splice]; exact hasz, by rw [size_splice]; simp; omega, fun j hj => ?_⟩
              simp only [List.length_append] at hj
              by_cases hlt : j < cells.length
              · rw [List.getElem_append_left hlt, getD_splice_out _ _ _ _ (Or.inl (by omega))]
                exact (hcv j hlt).mono hle (FLe.refl _)
              · have h2 : j - cells.length < new.length := by omega
                have hg := getD_splice_in ((List.range (n * i.size)).map f) arr (len * i.size) (j - cells.length) (by omega) (by omega)
                rw [List.getElem_append_right (by omega)]
                rw [show len * i.size + (j - cells.length) = j by omega] at hg
                rw [hg]
                have := hrel _ h2
                simpa using this.mono hle (FLe.refl _))
          rw [AH.set_set] at I2
          refine ⟨_, _, hrun, _, _, _, F, hle, FLe.refl _, I2, ?_, hK⟩
          exact .sl hput (lo := 0) (by simp) (by simp) (show c = ic.cap - 0 by omega) hroom (Or.inr ⟨b, hb, rfl⟩)
    · -- a new block
      have hold : ∃ olds : Array Value, (Builtin.firstCells i.size len (.slice adr len c)).run P w.drew = .ok olds w.drew ∧ olds.size = cells.length ∧ ∀ j (hj : j < cells.length), VR κ F cells[j] (olds.getD j undef) := by
        rcases hadr with rfl | ⟨b, hb, rfl⟩
        · have hl : len = 0 := by omega
          subst hl
          exact ⟨#[], run_firstCells_zero _ _ _ _ _, by rw [hcl]; simp, fun j hj => by rw [hcl] at hj; simp at hj⟩
        · simp only [RowOk, hb] at hrow
          obtain ⟨hB, hFb, arr, ee, fr, hh, hl, hasz, hle', hcv⟩ := hrow
          refine ⟨((List.range (len * i.size)).map fun j => arr.getD j undef).toArray, ?_, by simp; omega, fun j hj => ?_⟩
          · exact run_loadCells w.drew ⟨b, 0, none⟩ (len * i.size) _ (fun j hj => by rw [Addr.add_mk, Nat.zero_add]; show w.cell? _ = _; exact cell_of_heap hh _ (by omega))
          · rw [map_range_getD _ _ _ (by omega)]; exact hcv j hj
      obtain ⟨olds, hfo, hos, hov⟩ := hold
      have hrun := run_append_grown (ty := ty) (w := w) ht hi hz hu hp (base := adr) (sLen := len) (sCap := c) (S.len w) (S.first w.drew rfl n (Nat.le_refl _)) hfo (by omega) heb (by rw [Nat.mul_assoc] at hbytes; omega)
      have hcap := grownCap_ge w (len + n) c e
      obtain ⟨hle, I'⟩ := (I.drew.drop r).newRow (e := e) (fr := (0, 0)) (r := r) (v := v + 1) (cap := grownCap w (len + n) c e) (esz := i.size) (cells := cells ++ new)
        (arr := olds ++ ((List.range (n * i.size)).map f).toArray ++ Builtin.zeroCells z.cells (grownCap w (len + n) c e - (len + n))) (AH.del_same _ _) (fun u hu => hnx u (by omega)) (loose_zero _)
        (by simp [zeroCells_size, hzs, hos, hcl]; rw [← Nat.add_mul, ← Nat.add_mul]; congr 1; omega) (by simp; omega)
        (by have := rel_append (κ := κ) (F := F) (cells := cells) (new := new) (A := olds) (C := Builtin.zeroCells z.cells (grownCap w (len + n) c e - (len + n))) hos hov hrel
            rw [hsz] at this; exact this)
      rw [show (H.del r).set r (.row (cells ++ new) (v + 1)) = H.set r (.row (cells ++ new) (v + 1)) from by funext s; simp only [AH.set, AH.del]; split <;> rfl] at I'
      refine ⟨_, _, hrun, _, _, _, F, hle, FLe.refl _, I', ?_, hK⟩
      exact .sl (KM.put_same ..) (lo := 0) (by simp) (by simp) (show _ = _ by simp) hcap (Or.inr ⟨_, rfl, rfl⟩)
  | _ => exact h.elim

end Go.Fw
