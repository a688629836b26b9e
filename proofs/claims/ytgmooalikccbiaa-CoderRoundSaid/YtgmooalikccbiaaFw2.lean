/- The frame of the abstract walk, part 2: how the relation between an abstract heap and a world lasts through the machine's steps on memory. -/
import Derived.Test.YtgmooalikccbiaaFw1
import Derived.Laws.IdiomCopy
set_option linter.unusedVariables false
set_option linter.unusedSimpArgs false
namespace Go.Fw
open Go.RowKit

/-! ### Arrays -/
def splice (arr : Array Value) : Nat → List Value → Array Value
  | _, [] => arr
  | o, v :: r => splice (arr.setIfInBounds o v) (o + 1) r

theorem size_splice (arr : Array Value) (o : Nat) (vs : List Value) : (splice arr o vs).size = arr.size := by
  induction vs generalizing arr o with
  | nil => rfl
  | cons v r ih => simp [splice, ih]

theorem getD_splice_out (vs : List Value) : ∀ (arr : Array Value) (o j : Nat), (j < o ∨ o + vs.length ≤ j) → (splice arr o vs).getD j undef = arr.getD j undef := by
  induction vs with
  | nil => intros; rfl
  | cons v r ih =>
    intro arr o j h
    rw [splice, ih _ _ _ (by simp at h; omega)]
    simp only [Array.getD_eq_getD_getElem?, Array.getElem?_setIfInBounds]
    rw [if_neg (by simp at h; omega)]

theorem getD_splice_in (vs : List Value) : ∀ (arr : Array Value) (o j : Nat) (hj : j < vs.length), o + vs.length ≤ arr.size → (splice arr o vs).getD (o + j) undef = vs[j] := by
  induction vs with
  | nil => intro _ _ j hj; simp at hj
  | cons v r ih =>
    intro arr o j hj h
    cases j with
    | zero =>
      rw [splice, getD_splice_out _ _ _ _ (Or.inl (by omega))]
      simp at h
      simp [Array.getD_eq_getD_getElem?, show o < arr.size by omega]
    | succ j =>
      have := ih (arr.setIfInBounds o v) (o + 1) j (by simpa using hj) (by simp at h ⊢; omega)
      rw [splice, show o + (j + 1) = o + 1 + j by omega, this]; simp

/-! ### Memory -/
theorem heap_setCell_eq {w : World} {b o : Nat} {v : Value} {arr : Array Value} {e : TypeId} {fr : Nat × Nat} (h : w.heap[b]? = some (.cells arr e fr)) :
    (w.setCell ⟨b, o, none⟩ v).heap[b]? = some (.cells (arr.setIfInBounds o v) e fr) := by
  simp only [World.setCell, Array.getElem?_modify, if_true, h]; rfl

theorem heap_setCells_eq (b : Nat) (e : TypeId) (fr : Nat × Nat) : ∀ (vs : List Value) (o : Nat) (arr : Array Value) (w : World), w.heap[b]? = some (.cells arr e fr) →
    (w.setCells b o vs).heap[b]? = some (.cells (splice arr o vs) e fr)
  | [], _, _, _, h => h
  | v :: r, o, arr, w, h => heap_setCells_eq b e fr r (o + 1) _ _ (heap_setCell_eq h)

theorem heap_setCells_ne (b k : Nat) (hk : k ≠ b) : ∀ (vs : List Value) (o : Nat) (w : World), (w.setCells b o vs).heap[k]? = w.heap[k]?
  | [], _, _ => rfl
  | v :: r, o, w => by rw [World.setCells, heap_setCells_ne b k hk r, Below.heap_setCell _ _ _ _ hk]

theorem size_setCells (b : Nat) : ∀ (vs : List Value) (o : Nat) (w : World), (w.setCells b o vs).heap.size = w.heap.size
  | [], _, _ => rfl
  | v :: r, o, w => by rw [World.setCells, size_setCells b r]; simp

theorem below_setCells {B : Nat} {w0 : World} (b : Nat) (hb : B ≤ b) : ∀ (vs : List Value) (o : Nat) (w : World), Below B w0 w → Below B w0 (w.setCells b o vs)
  | [], _, _, h => h
  | v :: r, o, w, h => below_setCells b hb r (o + 1) _ (h.setCell (p := ⟨b, o, none⟩) hb v)

theorem cell_of_heap {w : World} {b : Nat} {arr : Array Value} {e : TypeId} {fr : Nat × Nat} (h : w.heap[b]? = some (.cells arr e fr)) (i : Nat) (hi : i < arr.size) :
    w.cell? ⟨b, i, none⟩ = some (arr.getD i undef) := by
  simp [World.cell?, h, hi, Array.getD_eq_getD_getElem?]

theorem frozen_of_heap {w : World} {b : Nat} {arr : Array Value} {e : TypeId} {fr : Nat × Nat} (h : w.heap[b]? = some (.cells arr e fr)) (hl : Loose arr fr) (i : Nat) (hi : i < arr.size) :
    w.frozen? ⟨b, i, none⟩ = false := by
  have := hl i hi
  obtain ⟨lo, hi'⟩ := fr
  simpa [World.frozen?, h] using this

variable {κ : KM} {F : FM} {B : Nat} {w0 w : World} {H : AH}

theorem Inv.fresh (I : Inv κ F B w0 H w) : ∃ r, H r = none ∧ ∀ v, κ r v = none := by
  obtain ⟨N, hN⟩ := I.names
  have hk : ∀ v, κ N v = none := fun v => by
    cases h : κ N v with
    | none => rfl
    | some i => have := hN _ _ _ h; omega
  refine ⟨N, ?_, hk⟩
  cases h : H N with
  | none => rfl
  | some o =>
    have := I.objs _ _ h
    cases o with
    | row cells v => obtain ⟨i, hi, _⟩ := this; rw [hk] at hi; cases hi
    | map es => obtain ⟨b, i, _, _, hi, _⟩ := this; rw [hk] at hi; cases hi
    | obj b o => obtain ⟨i, hi, _⟩ := this; rw [hk] at hi; cases hi
    | loop b N e L => obtain ⟨i, _, hi, _⟩ := this; rw [hk] at hi; cases hi

/-- An object lasts where its block does. -/
theorem ObjOk.keep {κ' : KM} {F' : FM} {w' : World} {r : Nat} {o : AO} (hk : KLe κ κ') (hf : FLe F F') (h : ObjOk κ F B w r o)
    (hF : ∀ i b, κ r o.ver = some i → i.blk = some b → F' b = none) (hw : ∀ i b, κ r o.ver = some i → i.blk = some b → w'.heap[b]? = w.heap[b]?)
    (hv : ∀ v, o.ver < v → κ' r v = κ r v) : ObjOk κ' F' B w' r o := by
  cases o with
  | row cells v =>
    obtain ⟨i, hi, hr, hn⟩ := h
    refine ⟨i, hk _ _ _ hi, ?_, fun v' hv' => by rw [hv v' hv']; exact hn v' hv'⟩
    unfold RowOk at hr ⊢
    cases hb : i.blk with
    | none => rw [hb] at hr; exact hr
    | some b =>
      rw [hb] at hr
      obtain ⟨h1, _, arr, e, fr, h2, h3, h4, h5, h6⟩ := hr
      exact ⟨h1, hF i b hi hb, arr, e, fr, by rw [hw i b hi hb]; exact h2, h3, h4, h5, fun j hj => (h6 j hj).mono hk hf⟩
  | map es =>
    obtain ⟨b, i, ents, clock, hi, hb, h1, _, h2, h3, h4, h5⟩ := h
    exact ⟨b, i, ents, clock, hk _ _ _ hi, hb, h1, hF i b hi hb, by rw [hw i b hi hb]; exact h2, h3, fun j hj => ⟨(h4 j hj).1.mono hk hf, (h4 j hj).2.mono hk hf⟩, h5⟩
  | obj b o =>
    obtain ⟨i, hi, hb, h1, _, h2, h3⟩ := h
    exact ⟨i, hk _ _ _ hi, hb, h1, hF i b hi hb, by rw [hw i b hi hb]; exact h2, h3⟩
  | loop b N e L =>
    obtain ⟨i, tmps, hi, hb, h1, _, h2, h3, h4⟩ := h
    exact ⟨i, tmps, hk _ _ _ hi, hb, h1, hF i b hi hb, by rw [hw i b hi hb]; exact h2, h3, fun t => (h4 t).mono hk hf⟩

theorem ObjOk.inc {r : Nat} {o : AO} (h : ObjOk κ F B w r o) : ∃ i, κ r o.ver = some i ∧ ∀ b, i.blk = some b → B ≤ b ∧ F b = none ∧ b < w.heap.size := by
  have lt : ∀ {b : Nat} {x : Obj}, w.heap[b]? = some x → b < w.heap.size := fun h => (Array.getElem?_eq_some_iff.1 h).1
  cases o with
  | row cells v =>
    obtain ⟨i, hi, hr, _⟩ := h
    refine ⟨i, hi, fun b hb => ?_⟩
    simp only [RowOk, hb] at hr
    obtain ⟨h1, h2, arr, e, fr, h3, _⟩ := hr
    exact ⟨h1, h2, lt h3⟩
  | map es =>
    obtain ⟨b, i, ents, clock, hi, hb, h1, h2, h3, _⟩ := h
    refine ⟨i, hi, fun b' hb' => ?_⟩
    rw [hb] at hb'; cases hb'
    exact ⟨h1, h2, lt h3⟩
  | obj b o =>
    obtain ⟨i, hi, hb, h1, h2, h3, _⟩ := h
    refine ⟨i, hi, fun b' hb' => ?_⟩
    rw [hb] at hb'; cases hb'
    exact ⟨h1, h2, lt h3⟩
  | loop b N e L =>
    obtain ⟨i, tmps, hi, hb, h1, h2, h3, _⟩ := h
    refine ⟨i, hi, fun b' hb' => ?_⟩
    rw [hb] at hb'; cases hb'
    exact ⟨h1, h2, lt h3⟩

theorem Inv.drew (I : Inv κ F B w0 H w) : Inv κ F B w0 H w.drew :=
  ⟨I.below.drew, I.base, I.fz, I.names, fun r o h => (I.objs r o h).keep (KLe.refl _) (FLe.refl _) (fun i b hi hb => by
    obtain ⟨i', hi', h'⟩ := (I.objs r o h).inc
    rw [hi] at hi'; cases hi'; exact (h' b hb).2.1) (fun _ _ _ _ => rfl) (fun _ _ => rfl), I.apart⟩

/-- An object is let go. -/
theorem Inv.drop (I : Inv κ F B w0 H w) (r : Nat) : Inv κ F B w0 (H.del r) w := by
  refine ⟨I.below, I.base, I.fz, I.names, fun s o h => ?_, fun s s' o1 o2 i1 i2 c h1 h2 => ?_⟩
  · by_cases e : s = r
    · subst e; rw [AH.del_same] at h; cases h
    · rw [AH.del_ne _ e] at h; exact I.objs s o h
  · by_cases e : s = r
    · subst e; rw [AH.del_same] at h1; cases h1
    · by_cases e' : s' = r
      · subst e'; rw [AH.del_same] at h2; cases h2
      · rw [AH.del_ne _ e] at h1; rw [AH.del_ne _ e'] at h2; exact I.apart _ _ _ _ _ _ _ h1 h2

/-- κ with a new name's incarnation. -/
def KM.put (κ : KM) (r v : Nat) (i : Inc) : KM := fun s u => if s = r ∧ u = v then some i else κ s u
theorem KM.put_same (κ : KM) (r v : Nat) (i : Inc) : κ.put r v i r v = some i := by simp [KM.put]
theorem KM.put_le {κ : KM} {r v : Nat} {i : Inc} (h : κ r v = none) : KLe κ (κ.put r v i) := by
  intro s u j hj
  simp only [KM.put]
  split
  · rename_i e; rw [e.1, e.2, h] at hj; cases hj
  · exact hj

theorem names_put {r v : Nat} {i : Inc} (h : ∃ N, ∀ r v i, κ r v = some i → r < N) : ∃ N, ∀ s u j, κ.put r v i s u = some j → s < N := by
  obtain ⟨N, hN⟩ := h
  refine ⟨max N (r + 1), fun s u j hj => ?_⟩
  simp only [KM.put] at hj
  split at hj
  · rename_i e; omega
  · have := hN _ _ _ hj; omega

/-- A new object of the abstract heap, with a block of its own that nothing else has. -/
theorem Inv.put (I : Inv κ F B w0 H w) {r : Nat} {i : Inc} {o : AO} (hr : H r = none) (hk : ∀ v, o.ver ≤ v → κ r v = none)
    (hb : ∀ b, i.blk = some b → ∀ s os j, H s = some os → κ s os.ver = some j → j.blk ≠ some b)
    (ho : ObjOk (κ.put r o.ver i) F B w r o) : KLe κ (κ.put r o.ver i) ∧ Inv (κ.put r o.ver i) F B w0 (H.set r o) w := by
  have hle := KM.put_le (i := i) (hk o.ver (Nat.le_refl _))
  refine ⟨hle, I.below, I.base, I.fz, names_put I.names, ?_, ?_⟩
  · intro s os h
    by_cases e : s = r
    · subst e; rw [AH.set_same] at h; cases h; exact ho
    · rw [AH.set_ne _ _ e] at h
      have h0 := I.objs s os h
      obtain ⟨j, hj, hj'⟩ := h0.inc
      refine h0.keep hle (FLe.refl _) (fun i' b hi hb => ?_) (fun _ _ _ _ => rfl) (fun v _ => by simp only [KM.put]; rw [if_neg (by simp [e])])
      rw [hj] at hi; cases hi; exact (hj' b hb).2.1
  · intro s s' o1 o2 i1 i2 b h1 h2 hne hk1 hk2 hb1 hb2
    have old : ∀ t (o' : AO) j, t ≠ r → (κ.put r o.ver i) t o'.ver = some j → κ t o'.ver = some j := by
      intro t o' j ht hj; simp only [KM.put] at hj; rw [if_neg (by simp [ht])] at hj; exact hj
    by_cases e1 : s = r
    · have e2 : s' ≠ r := fun e => hne (e1.trans e.symm)
      rw [AH.set_ne _ _ e2] at h2
      subst e1
      rw [AH.set_same] at h1; cases h1
      rw [KM.put_same] at hk1; cases hk1
      exact hb b hb1 _ _ _ h2 (old _ _ _ e2 hk2) hb2
    · rw [AH.set_ne _ _ e1] at h1
      by_cases e2 : s' = r
      · subst e2
        rw [AH.set_same] at h2; cases h2
        rw [KM.put_same] at hk2; cases hk2
        exact hb b hb2 _ _ _ h1 (old _ _ _ e1 hk1) hb1
      · rw [AH.set_ne _ _ e2] at h2
        exact I.apart _ _ _ _ _ _ _ h1 h2 hne (old _ _ _ e1 hk1) (old _ _ _ e2 hk2) hb1 hb2

/-- A new block in the world; nothing of the abstract heap is turned. -/
theorem Inv.alloc (I : Inv κ F B w0 H w) (x : Obj) : Inv κ F B w0 H (w.alloc x) := by
  refine ⟨I.below.alloc I.base _, by simp; have := I.base; omega, ?_, I.names, ?_, I.apart⟩
  · intro b arr hF
    obtain ⟨e, fr, h⟩ := I.fz b arr hF
    exact ⟨e, fr, by rw [Below.heap_alloc _ _ _ (Array.getElem?_eq_some_iff.1 h).1]; exact h⟩
  · intro s os h
    have h0 := I.objs s os h
    obtain ⟨j, hj, hj'⟩ := h0.inc
    refine h0.keep (KLe.refl _) (FLe.refl _) (fun i' b hi hb => ?_) (fun i' b hi hb => ?_) (fun _ _ => rfl)
    · rw [hj] at hi; cases hi; exact (hj' b hb).2.1
    · rw [hj] at hi; cases hi; exact Below.heap_alloc _ _ _ (hj' b hb).2.2

theorem heap_alloc_new (w : World) (x : Obj) : (w.alloc x).heap[w.heap.size]? = some x := by show (w.heap.push x)[w.heap.size]? = some x; simp

/-- A new block comes to lie in the world, as an object of the abstract heap. -/
theorem Inv.new (I : Inv κ F B w0 H w) (x : Obj) {r : Nat} (i : Inc) (o : AO) (hr : H r = none) (hk : ∀ v, o.ver ≤ v → κ r v = none) (hb : i.blk = some w.heap.size)
    (ho : ∀ κ', KLe κ κ' → κ' r o.ver = some i → (∀ v, o.ver < v → κ' r v = none) → F w.heap.size = none → ObjOk κ' F B (w.alloc x) r o) :
    KLe κ (κ.put r o.ver i) ∧ Inv (κ.put r o.ver i) F B w0 (H.set r o) (w.alloc x) := by
  have hle := KM.put_le (i := i) (hk o.ver (Nat.le_refl _))
  refine (I.alloc x).put hr hk (fun b hb' s os j hs hj hjb => ?_) (ho _ hle (KM.put_same ..) (fun v hv => by simp only [KM.put]; rw [if_neg (by omega)]; exact hk v (by omega)) ?_)
  · rw [hb] at hb'; cases hb'
    obtain ⟨j', hj', h'⟩ := (I.objs s os hs).inc
    rw [hj] at hj'; cases hj'
    have := (h' _ hjb).2.2
    omega
  · cases hF : F w.heap.size with
    | none => rfl
    | some arr =>
      obtain ⟨e, fr, h⟩ := I.fz _ _ hF
      have := (Array.getElem?_eq_some_iff.1 h).1
      omega

/-- A row in a new block. -/
theorem Inv.newRow (I : Inv κ F B w0 H w) {arr : Array Value} {e : TypeId} {fr : Nat × Nat} {r v cap esz : Nat} {cells : List AV} (hr : H r = none) (hk : ∀ u, v ≤ u → κ r u = none) (hl : Loose arr fr)
    (hsz : arr.size = cap * esz) (hlen : cells.length ≤ arr.size) (hc : ∀ j (hj : j < cells.length), VR κ F cells[j] (arr.getD j undef)) :
    KLe κ (κ.put r v ⟨some w.heap.size, cap, esz⟩) ∧ Inv (κ.put r v ⟨some w.heap.size, cap, esz⟩) F B w0 (H.set r (.row cells v)) (w.alloc (.cells arr e fr)) := by
  refine I.new (.cells arr e fr) (r := r) ⟨some w.heap.size, cap, esz⟩ (.row cells v) hr hk rfl (fun κ' hle hkk hn hF => ?_)
  exact ⟨_, hkk, ⟨I.base, hF, arr, e, fr, heap_alloc_new _ _, hl, hsz, hlen, fun j hj => (hc j hj).mono hle (FLe.refl _)⟩, hn⟩

/-- A row without a block: a nil slice's. -/
theorem Inv.ghost (I : Inv κ F B w0 H w) {r : Nat} (esz : Nat) (hr : H r = none) (hk : ∀ u, κ r u = none) :
    KLe κ (κ.put r 0 ⟨none, 0, esz⟩) ∧ Inv (κ.put r 0 ⟨none, 0, esz⟩) F B w0 (H.set r (.row [] 0)) w := by
  refine I.put (r := r) (i := ⟨none, 0, esz⟩) (o := .row [] 0) hr (fun v _ => hk v) (fun b hb => by cases hb) ?_
  exact ⟨_, KM.put_same .., ⟨rfl, rfl⟩, fun v hv => by simp only [KM.put]; rw [if_neg (by simp [AO.ver]; omega)]; exact hk v⟩

/-- A row's version is raised. -/
theorem Inv.bump (I : Inv κ F B w0 H w) {r v : Nat} {cells : List AV} {i : Inc} (hH : H r = some (.row cells v)) (hi : κ r v = some i) :
    KLe κ (κ.put r (v + 1) i) ∧ Inv (κ.put r (v + 1) i) F B w0 (H.set r (.row cells (v + 1))) w := by
  obtain ⟨i', hi', hrow, hn⟩ := I.objs _ _ hH
  rw [hi] at hi'; cases hi'
  have hle := KM.put_le (i := i) (hn (v + 1) (by omega))
  have := (I.drop r).put (r := r) (i := i) (o := .row cells (v + 1)) (AH.del_same _ _) (fun u hu => hn u (by have hu : v + 1 ≤ u := hu; omega))
    (fun b hb s os j hs hj hjb => by
      by_cases e : s = r
      · subst e; rw [AH.del_same] at hs; cases hs
      · rw [AH.del_ne _ e] at hs
        exact I.apart _ _ _ _ _ _ _ hH hs (fun x => e x.symm) hi hj hb hjb)
    ⟨i, KM.put_same .., (by
      unfold RowOk at hrow ⊢
      cases hb : i.blk with
      | none => rw [hb] at hrow; exact hrow
      | some b =>
        rw [hb] at hrow
        obtain ⟨h1, h2, arr, e, fr, h3, h4, h5, h6, h7⟩ := hrow
        exact ⟨h1, h2, arr, e, fr, h3, h4, h5, h6, fun j hj => (h7 j hj).mono hle (FLe.refl _)⟩),
     fun u hu => by have hu : v + 1 < u := hu; simp only [KM.put, AO.ver]; rw [if_neg (by omega)]; exact hn u (by omega)⟩
  rw [show (H.del r).set r (.row cells (v + 1)) = H.set r (.row cells (v + 1)) from by funext s; simp only [AH.set, AH.del]; split <;> rfl] at this
  exact this

/-- One block of an object's is turned; the object is told anew, in the same incarnation. -/
theorem Inv.turn (I : Inv κ F B w0 H w) {r : Nat} {o o' : AO} {i : Inc} {b : Nat} {w' : World} (hr : H r = some o) (hi : κ r o.ver = some i) (hb : i.blk = some b) (hv : o'.ver = o.ver)
    (hw : ∀ k, k ≠ b → w'.heap[k]? = w.heap[k]?) (hs : w'.heap.size = w.heap.size) (hbel : Below B w0 w') (ho : ObjOk κ F B w' r o') :
    Inv κ F B w0 (H.set r o') w' := by
  have hFb : F b = none := by
    obtain ⟨j, hj, h⟩ := (I.objs r o hr).inc
    rw [hi] at hj; cases hj; exact (h b hb).2.1
  refine ⟨hbel, by rw [hs]; exact I.base, ?_, I.names, ?_, ?_⟩
  · intro c arr hF
    have : c ≠ b := fun e => by rw [e, hFb] at hF; cases hF
    rw [hw c this]; exact I.fz c arr hF
  · intro s os h
    by_cases e : s = r
    · subst e; rw [AH.set_same] at h; cases h; exact ho
    · rw [AH.set_ne _ _ e] at h
      have h0 := I.objs s os h
      obtain ⟨j, hj, hj'⟩ := h0.inc
      refine h0.keep (KLe.refl _) (FLe.refl _) (fun i' c hi' hc => ?_) (fun i' c hi' hc => ?_) (fun _ _ => rfl)
      · rw [hj] at hi'; cases hi'; exact (hj' c hc).2.1
      · refine hw c (fun e' => ?_)
        subst e'
        exact I.apart _ _ _ _ _ _ _ hr h (fun e' => e e'.symm) hi hi' hb hc
  · intro s s' o1 o2 i1 i2 c h1 h2 hne hk1 hk2 hb1 hb2
    have old : ∀ t ot, H.set r o' t = some ot → ∃ ot', H t = some ot' ∧ ot'.ver = ot.ver := by
      intro t ot h
      by_cases e : t = r
      · subst e; rw [AH.set_same] at h; cases h; exact ⟨o, hr, hv.symm⟩
      · rw [AH.set_ne _ _ e] at h; exact ⟨ot, h, rfl⟩
    obtain ⟨p1, q1, e1⟩ := old _ _ h1
    obtain ⟨p2, q2, e2⟩ := old _ _ h2
    rw [← e1] at hk1; rw [← e2] at hk2
    exact I.apart _ _ _ _ _ _ _ q1 q2 hne hk1 hk2 hb1 hb2

/-- All that the abstract heap says less is let go. -/
theorem Inv.less (I : Inv κ F B w0 H w) {H' : AH} (h : ∀ r o, H' r = some o → H r = some o) : Inv κ F B w0 H' w :=
  ⟨I.below, I.base, I.fz, I.names, fun s o e => I.objs s o (h s o e), fun s s' o1 o2 i1 i2 c h1 h2 => I.apart s s' o1 o2 i1 i2 c (h _ _ h1) (h _ _ h2)⟩

/-- A row is frozen: from here on nobody writes it. -/
theorem Inv.freeze (I : Inv κ F B w0 H w) {r v : Nat} {cells : List AV} {b : Nat} {i : Inc} (hr : H r = some (.row cells v)) (hi : κ r v = some i) (hb : i.blk = some b) :
    ∃ arr, arr.size = i.cap * i.esz ∧ cells.length ≤ arr.size ∧ (∀ j (hj : j < cells.length), VR κ F cells[j] (arr.getD j undef)) ∧
      FLe F (fun c => if c = b then some arr else F c) ∧ Inv κ (fun c => if c = b then some arr else F c) B w0 (H.del r) w := by
  obtain ⟨i', hi', hrow, _⟩ := I.objs _ _ hr
  rw [hi] at hi'; cases hi'
  simp only [RowOk, hb] at hrow
  obtain ⟨hB, hFb, arr, e, fr, hh, hl, hsz, hlen, hc⟩ := hrow
  have hFle : FLe F (fun c => if c = b then some arr else F c) := by
    intro c a h
    have : c ≠ b := fun e => by rw [e, hFb] at h; cases h
    simp [this, h]
  refine ⟨arr, hsz, hlen, hc, hFle, I.below, I.base, ?_, I.names, ?_, ?_⟩
  · intro c a h
    split at h
    · rename_i e'; cases h; rw [e']; exact ⟨e, fr, hh⟩
    · exact I.fz c a h
  · intro s o h
    by_cases e' : s = r
    · subst e'; rw [AH.del_same] at h; cases h
    · rw [AH.del_ne _ e'] at h
      have h0 := I.objs s o h
      obtain ⟨j, hj, hj'⟩ := h0.inc
      refine h0.keep (KLe.refl _) hFle (fun i' c hi' hc => ?_) (fun _ _ _ _ => rfl) (fun _ _ => rfl)
      have : c ≠ b := fun e'' => by
        subst e''
        exact I.apart _ _ _ _ _ _ _ hr h (fun x => e' x.symm) hi hi' hb hc
      simp only [this, if_false]
      rw [hj] at hi'; cases hi'; exact (hj' c hc).2.1
  · exact (I.drop r).apart

end Go.Fw
