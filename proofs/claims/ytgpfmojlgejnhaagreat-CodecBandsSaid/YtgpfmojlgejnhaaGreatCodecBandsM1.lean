/- For the law CodecBands, part 1 of 7: the frame of the walk, the walks of the functions, the plain law, the row. No conditions. -/
import Derived.RangeFuncLeaves
import Derived.Below
import Derived.Laws.IdiomCopy
import Derived.Laws.IdiomStrings
import Derived.Laws.MakeOwn
import Derived.Great.BuildSlice
import Derived.Laws.Strings
import Derived.ChangeKeysEq
import Derived.MapKept
import Derived.RangeFuncRecord
import Derived.Sort.LoopGhostIn
import Derived.RangeFuncCalls
/- The frame of the abstract walk, part 1: abstract values, what they stand for in the machine's memory, abstract heaps, and the relation between an abstract heap and a world. -/
set_option linter.unusedVariables false
set_option linter.unusedSimpArgs false
namespace Go.Fw
theorem zW {α : Type _} {l : List α} {i j : Nat} : (l.drop i)[j]? = l[i + j]? := List.getElem?_drop
theorem zX {n m : Nat} (h : Nat.ble n m = true) : n ≤ m := Nat.le_of_ble_eq_true h
theorem zY (n : Nat) : 0 + n = n := Nat.zero_add n
theorem zZ (n : Nat) : n + 0 = n := rfl
theorem z0z (n : Nat) : n * 1 = n := Nat.mul_one n
open Go.RowKit
inductive AV where
  | junk
  | int (k : IntKind) (n : Int)
  | bool (b : Bool)
  | str (s : List UInt8)
  | nilp
  | ptr (r v off : Nat)
  | cp (cells : List AV)
  | nils
  | cs (cells : List AV) (n : Nat)
  | sl (r v es off len : Nat) (lim : Option Nat)
  | map (r : Option Nat)
  | fn (f : Fn) (first captured : List AV)
  | nilf
  | agg (cells : List AV)
  | tup (vs : List AV)
  deriving Inhabited
structure Inc where
  blk : Option Nat
  cap : Nat
  esz : Nat
abbrev KM := Nat → Nat → Option Inc
abbrev FM := Nat → Option (Array Value)
def limOk (lim : Option Nat) (c room : Nat) : Prop :=
  match lim with
  | none => c = room
  | some m => c = m ∧ m ≤ room
inductive VR (κ : KM) (F : FM) : AV → Value → Prop where
  | junk (v : Value) : VR κ F .junk v
  | int (k : IntKind) (n : Int) : VR κ F (.int k n) (.int k n)
  | bool (b : Bool) : VR κ F (.bool b) (.bool b)
  | str (s : List UInt8) : VR κ F (.str s) (.string ⟨s.toArray⟩)
  | nilp : VR κ F .nilp (.pointer none)
  | ptr {r v off b cap esz : Nat} (h : κ r v = some ⟨some b, cap, esz⟩) : VR κ F (.ptr r v off) (.pointer (some ⟨b, off, none⟩))
  | cp {cells : List AV} {b off : Nat} {arr : Array Value} (hF : F b = some arr) (hle : off + cells.length ≤ arr.size)
      (h : ∀ i (hi : i < cells.length), VR κ F cells[i] (arr.getD (off + i) undef)) : VR κ F (.cp cells) (.pointer (some ⟨b, off, none⟩))
  | nils (a : Option Addr) : VR κ F .nils (.slice a 0 0)
  | cs0 (a : Option Addr) (c : Nat) : VR κ F (.cs [] 0) (.slice a 0 c)
  | cs {cells : List AV} {n b off c : Nat} {arr : Array Value} (hF : F b = some arr) (hle : off + cells.length ≤ arr.size) (hc : n ≤ c)
      (h : ∀ i (hi : i < cells.length), VR κ F cells[i] (arr.getD (off + i) undef)) : VR κ F (.cs cells n) (.slice (some ⟨b, off, none⟩) n c)
  | sl {r v off len : Nat} {lim : Option Nat} {ob : Option Nat} {cap esz lo : Nat} {a : Option Addr} {c : Nat}
      (h : κ r v = some ⟨ob, cap, esz⟩) (hoff : off = lo * esz) (hlo : lo ≤ cap) (hc : limOk lim c (cap - lo)) (hlen : len ≤ c)
      (ha : c = 0 ∨ ∃ b, ob = some b ∧ a = some ⟨b, off, none⟩) : VR κ F (.sl r v esz off len lim) (.slice a len c)
  | mapNil : VR κ F (.map none) (.map none)
  | map {r b cap esz : Nat} (h : κ r 0 = some ⟨some b, cap, esz⟩) : VR κ F (.map (some r)) (.map (some b))
  | fn {f : Fn} {first captured : List AV} {A C : Array Value} (hA : A.size = first.length) (hC : C.size = captured.length)
      (h1 : ∀ i (hi : i < first.length), VR κ F first[i] (A.getD i undef)) (h2 : ∀ i (hi : i < captured.length), VR κ F captured[i] (C.getD i undef)) :
      VR κ F (.fn f first captured) (.func f A C)
  | nilf : VR κ F .nilf .nilFunc
  | agg {cells : List AV} {A : Array Value} (hA : A.size = cells.length) (h : ∀ i (hi : i < cells.length), VR κ F cells[i] (A.getD i undef)) : VR κ F (.agg cells) (.agg A)
  | tup {cells : List AV} {A : Array Value} (hA : A.size = cells.length) (h : ∀ i (hi : i < cells.length), VR κ F cells[i] (A.getD i undef)) : VR κ F (.tup cells) (.tuple A)
def VRs (κ : KM) (F : FM) (l : List AV) (A : Array Value) : Prop := A.size = l.length ∧ ∀ i (hi : i < l.length), VR κ F l[i] (A.getD i undef)
def KLe (κ κ' : KM) : Prop := ∀ r v i, κ r v = some i → κ' r v = some i
def FLe (F F' : FM) : Prop := ∀ b a, F b = some a → F' b = some a
theorem KLe.refl (κ : KM) : KLe κ κ := fun _ _ _ h => h
theorem FLe.refl (F : FM) : FLe F F := fun _ _ h => h
theorem KLe.trans {a b c : KM} (h : KLe a b) (k : KLe b c) : KLe a c := fun r v i e => k r v i (h r v i e)
theorem FLe.trans {a b c : FM} (h : FLe a b) (k : FLe b c) : FLe a c := fun r i e => k r i (h r i e)
theorem VR.mono {κ κ' : KM} {F F' : FM} (hk : KLe κ κ') (hf : FLe F F') {a : AV} {v : Value} (h : VR κ F a v) : VR κ' F' a v := by
  induction h with
  | junk v => exact .junk v
  | int k n => exact .int k n
  | bool b => exact .bool b
  | str s => exact .str s
  | nilp => exact .nilp
  | ptr h => exact .ptr (hk _ _ _ h)
  | cp hF hle _ ih => exact .cp (hf _ _ hF) hle ih
  | nils a => exact .nils a
  | cs0 a c => exact .cs0 a c
  | cs hF hle hc _ ih => exact .cs (hf _ _ hF) hle hc ih
  | sl h hoff hlo hc hlen ha => exact .sl (hk _ _ _ h) hoff hlo hc hlen ha
  | mapNil => exact .mapNil
  | map h => exact .map (hk _ _ _ h)
  | fn hA hC _ _ ih1 ih2 => exact .fn hA hC ih1 ih2
  | nilf => exact .nilf
  | agg hA _ ih => exact .agg hA ih
  | tup hA _ ih => exact .tup hA ih
theorem VRs.mono {κ κ' : KM} {F F' : FM} (hk : KLe κ κ') (hf : FLe F F') {l : List AV} {A : Array Value} (h : VRs κ F l A) : VRs κ' F' l A :=
  ⟨h.1, fun i hi => (h.2 i hi).mono hk hf⟩
structure ME where
  k : Int
  v : AV
  b : Nat
def MRel (κ : KM) (F : FM) : List MapEntry → List ME → Prop
  | [], [] => True
  | x :: l, y :: es => (x.key = .int .i64 y.k ∧ VR κ F y.v x.val ∧ x.born = y.b) ∧ MRel κ F l es
  | _, _ => False
theorem MRel.mono {κ κ' : KM} {F F' : FM} (hk : KLe κ κ') (hf : FLe F F') : ∀ {l : List MapEntry} {es : List ME}, MRel κ F l es → MRel κ' F' l es
  | [], [], _ => trivial
  | x :: l, y :: es, h => ⟨⟨h.1.1, h.1.2.1.mono hk hf, h.1.2.2⟩, MRel.mono hk hf h.2⟩
inductive AO where
  | row (cells : List AV) (v : Nat)
  | map (b : Nat) (es : List ME) (cl : Nat)
  | obj (b : Nat) (o : Obj)
  | loop (b N : Nat) (e : Nat → AV) (L : Loop)
abbrev AH := Nat → Option AO
def AH.set (H : AH) (r : Nat) (o : AO) : AH := fun s => if s = r then some o else H s
def AH.del (H : AH) (r : Nat) : AH := fun s => if s = r then none else H s
theorem AH.zC (H : AH) (r : Nat) (o : AO) : H.set r o r = some o := by simp [AH.set]
theorem AH.zR (H : AH) {r s : Nat} (o : AO) (h : s ≠ r) : H.set r o s = H s := by simp [AH.set, h]
theorem AH.del_same (H : AH) (r : Nat) : H.del r r = none := by simp [AH.del]
theorem AH.del_ne (H : AH) {r s : Nat} (h : s ≠ r) : H.del r s = H s := by simp [AH.del, h]
theorem AH.zS (H : AH) (r : Nat) (o o' : AO) : (H.set r o).set r o' = H.set r o' := by funext s; simp only [AH.set]; split <;> rfl
theorem AH.del_set (H : AH) (r : Nat) (o : AO) (h : H r = none) : (H.set r o).del r = H := by
  funext s; simp only [AH.set, AH.del]; split
  · rename_i e; rw [e, h]
  · rfl
theorem AH.set_comm (H : AH) {r s : Nat} (o o' : AO) (h : r ≠ s) : (H.set r o).set s o' = (H.set s o').set r o := by
  funext t; simp only [AH.set]
  by_cases h1 : t = s
  · by_cases h2 : t = r
    · exact absurd (h2.symm.trans h1) h
    · simp [h1]; intro e; exact absurd (e.symm ▸ rfl) h
  · simp [h1]
def Loose (arr : Array Value) (fr : Nat × Nat) : Prop := ∀ i, i < arr.size → (fr.1 ≤ i && i < fr.2) = false
def RowOk (κ : KM) (F : FM) (B : Nat) (w : World) (cells : List AV) (i : Inc) : Prop :=
  match i.blk with
  | none => cells = [] ∧ i.cap = 0
  | some b => B ≤ b ∧ F b = none ∧ ∃ arr e fr, w.heap[b]? = some (.cells arr e fr) ∧ Loose arr fr ∧ arr.size = i.cap * i.esz ∧ cells.length ≤ arr.size ∧
      ∀ j (hj : j < cells.length), VR κ F cells[j] (arr.getD j undef)
def AO.ver : AO → Nat
  | .row _ v => v
  | .map .. => 0
  | .obj _ _ => 0
  | .loop .. => 0
def ObjOk (κ : KM) (F : FM) (B : Nat) (w : World) (r : Nat) : AO → Prop
  | .row cells v => ∃ i, κ r v = some i ∧ RowOk κ F B w cells i ∧ ∀ v', v < v' → κ r v' = none
  | .map b es cl => ∃ i ents, κ r 0 = some i ∧ i.blk = some b ∧ B ≤ b ∧ F b = none ∧ w.heap[b]? = some (.map ents cl) ∧ MRel κ F ents.toList es ∧ (∀ x, x ∈ es → x.b < cl) ∧ es.Pairwise (fun x y => x.b < y.b)
  | .obj b o => ∃ i, κ r 0 = some i ∧ i.blk = some b ∧ B ≤ b ∧ F b = none ∧ w.heap[b]? = some o ∧ (∀ c e f, o ≠ .cells c e f)
  | .loop b N e L => ∃ i tmps, κ r 0 = some i ∧ i.blk = some b ∧ B ≤ b ∧ F b = none ∧ w.heap[b]? = some (.loop { L with tmps := tmps }) ∧ tmps.size = N ∧ ∀ t, VR κ F (e t) (tmps.getD t undef)
structure Inv (κ : KM) (F : FM) (B : Nat) (w0 : World) (H : AH) (w : World) : Prop where
  below : Below B w0 w
  base : B ≤ w.heap.size
  fz : ∀ b arr, F b = some arr → ∃ e fr, w.heap[b]? = some (.cells arr e fr)
  names : ∃ N, ∀ r v i, κ r v = some i → r < N
  objs : ∀ r o, H r = some o → ObjOk κ F B w r o
  apart : ∀ r r' o o' i i' b, H r = some o → H r' = some o' → r ≠ r' → κ r o.ver = some i → κ r' o'.ver = some i' → i.blk = some b → i'.blk ≠ some b
end Go.Fw
/- The frame of the abstract walk, part 2: how the relation between an abstract heap and a world lasts through the machine's steps on memory. -/
set_option linter.unusedVariables false
set_option linter.unusedSimpArgs false
namespace Go.Fw
open Go.RowKit
def splice (arr : Array Value) : Nat → List Value → Array Value
  | _, [] => arr
  | o, v :: r => splice (arr.setIfInBounds o v) (o + 1) r
theorem size_splice (arr : Array Value) (o : Nat) (vs : List Value) : (splice arr o vs).size = arr.size := by
  induction vs generalizing arr o with
  | nil => rfl
  | cons v r ih => simp [splice, ih]
theorem getD_splice_out (vs : List Value) : ∀ (arr : Array Value) (o j : Nat), (j < o ∨ o + vs.length ≤ j) → (splice arr o vs).getD j undef = arr.getD j undef := by
  induction vs with
  | nil => intros; rfl
  | cons v r ih =>
    intro arr o j h
    rw [splice, ih _ _ _ (by simp at h; omega)]
    simp only [Array.getD_eq_getD_getElem?, Array.getElem?_setIfInBounds]
    rw [if_neg (by simp at h; omega)]
theorem getD_splice_in (vs : List Value) : ∀ (arr : Array Value) (o j : Nat) (hj : j < vs.length), o + vs.length ≤ arr.size → (splice arr o vs).getD (o + j) undef = vs[j] := by
  induction vs with
  | nil => intro _ _ j hj; simp at hj
  | cons v r ih =>
    intro arr o j hj h
    cases j with
    | zero =>
      rw [splice, getD_splice_out _ _ _ _ (Or.inl (by omega))]
      simp at h
      simp [Array.getD_eq_getD_getElem?, show o < arr.size by omega]
    | succ j =>
      have := ih (arr.setIfInBounds o v) (o + 1) j (by simpa using hj) (by simp at h ⊢; omega)
      rw [splice, show o + (j + 1) = o + 1 + j by omega, this]; simp
theorem heap_setCell_eq {w : World} {b o : Nat} {v : Value} {arr : Array Value} {e : TypeId} {fr : Nat × Nat} (h : w.heap[b]? = some (.cells arr e fr)) :
    (w.setCell ⟨b, o, none⟩ v).heap[b]? = some (.cells (arr.setIfInBounds o v) e fr) := by
  simp only [World.setCell, Array.getElem?_modify, if_true, h]; rfl
theorem heap_setCells_eq (b : Nat) (e : TypeId) (fr : Nat × Nat) : ∀ (vs : List Value) (o : Nat) (arr : Array Value) (w : World), w.heap[b]? = some (.cells arr e fr) →
    (w.setCells b o vs).heap[b]? = some (.cells (splice arr o vs) e fr)
  | [], _, _, _, h => h
  | v :: r, o, arr, w, h => heap_setCells_eq b e fr r (o + 1) _ _ (heap_setCell_eq h)
theorem heap_setCells_ne (b k : Nat) (hk : k ≠ b) : ∀ (vs : List Value) (o : Nat) (w : World), (w.setCells b o vs).heap[k]? = w.heap[k]?
  | [], _, _ => rfl
  | v :: r, o, w => by rw [World.setCells, heap_setCells_ne b k hk r, Below.heap_setCell _ _ _ _ hk]
theorem size_setCells (b : Nat) : ∀ (vs : List Value) (o : Nat) (w : World), (w.setCells b o vs).heap.size = w.heap.size
  | [], _, _ => rfl
  | v :: r, o, w => by rw [World.setCells, size_setCells b r]; simp
theorem below_setCells {B : Nat} {w0 : World} (b : Nat) (hb : B ≤ b) : ∀ (vs : List Value) (o : Nat) (w : World), Below B w0 w → Below B w0 (w.setCells b o vs)
  | [], _, _, h => h
  | v :: r, o, w, h => below_setCells b hb r (o + 1) _ (h.setCell (p := ⟨b, o, none⟩) hb v)
theorem cell_of_heap {w : World} {b : Nat} {arr : Array Value} {e : TypeId} {fr : Nat × Nat} (h : w.heap[b]? = some (.cells arr e fr)) (i : Nat) (hi : i < arr.size) :
    w.cell? ⟨b, i, none⟩ = some (arr.getD i undef) := by
  simp [World.cell?, h, hi, Array.getD_eq_getD_getElem?]
theorem frozen_of_heap {w : World} {b : Nat} {arr : Array Value} {e : TypeId} {fr : Nat × Nat} (h : w.heap[b]? = some (.cells arr e fr)) (hl : Loose arr fr) (i : Nat) (hi : i < arr.size) :
    w.frozen? ⟨b, i, none⟩ = false := by
  have := hl i hi
  obtain ⟨lo, hi'⟩ := fr
  simpa [World.frozen?, h] using this
variable {κ : KM} {F : FM} {B : Nat} {w0 w : World} {H : AH}
theorem Inv.fresh (I : Inv κ F B w0 H w) : ∃ r, H r = none ∧ ∀ v, κ r v = none := by
  obtain ⟨N, hN⟩ := I.names
  have hk : ∀ v, κ N v = none := fun v => by
    cases h : κ N v with
    | none => rfl
    | some i => have := hN _ _ _ h; omega
  refine ⟨N, ?_, hk⟩
  cases h : H N with
  | none => rfl
  | some o =>
    have := I.objs _ _ h
    cases o with
    | row cells v => obtain ⟨i, hi, _⟩ := this; rw [hk] at hi; cases hi
    | map b es cl => obtain ⟨i, _, hi, _⟩ := this; rw [hk] at hi; cases hi
    | obj b o => obtain ⟨i, hi, _⟩ := this; rw [hk] at hi; cases hi
    | loop b N e L => obtain ⟨i, _, hi, _⟩ := this; rw [hk] at hi; cases hi
theorem ObjOk.keep {κ' : KM} {F' : FM} {w' : World} {r : Nat} {o : AO} (hk : KLe κ κ') (hf : FLe F F') (h : ObjOk κ F B w r o)
    (hF : ∀ i b, κ r o.ver = some i → i.blk = some b → F' b = none) (hw : ∀ i b, κ r o.ver = some i → i.blk = some b → w'.heap[b]? = w.heap[b]?)
    (hv : ∀ v, o.ver < v → κ' r v = κ r v) : ObjOk κ' F' B w' r o := by
  cases o with
  | row cells v =>
    obtain ⟨i, hi, hr, hn⟩ := h
    refine ⟨i, hk _ _ _ hi, ?_, fun v' hv' => by rw [hv v' hv']; exact hn v' hv'⟩
    unfold RowOk at hr ⊢
    cases hb : i.blk with
    | none => rw [hb] at hr; exact hr
    | some b =>
      rw [hb] at hr
      obtain ⟨h1, _, arr, e, fr, h2, h3, h4, h5, h6⟩ := hr
      exact ⟨h1, hF i b hi hb, arr, e, fr, by rw [hw i b hi hb]; exact h2, h3, h4, h5, fun j hj => (h6 j hj).mono hk hf⟩
  | map b es cl =>
    obtain ⟨i, ents, hi, hb, h1, _, h2, h3, h4, h5⟩ := h
    exact ⟨i, ents, hk _ _ _ hi, hb, h1, hF i b hi hb, by rw [hw i b hi hb]; exact h2, h3.mono hk hf, h4, h5⟩
  | obj b o =>
    obtain ⟨i, hi, hb, h1, _, h2, h3⟩ := h
    exact ⟨i, hk _ _ _ hi, hb, h1, hF i b hi hb, by rw [hw i b hi hb]; exact h2, h3⟩
  | loop b N e L =>
    obtain ⟨i, tmps, hi, hb, h1, _, h2, h3, h4⟩ := h
    exact ⟨i, tmps, hk _ _ _ hi, hb, h1, hF i b hi hb, by rw [hw i b hi hb]; exact h2, h3, fun t => (h4 t).mono hk hf⟩
theorem ObjOk.inc {r : Nat} {o : AO} (h : ObjOk κ F B w r o) : ∃ i, κ r o.ver = some i ∧ ∀ b, i.blk = some b → B ≤ b ∧ F b = none ∧ b < w.heap.size := by
  have lt : ∀ {b : Nat} {x : Obj}, w.heap[b]? = some x → b < w.heap.size := fun h => (Array.getElem?_eq_some_iff.1 h).1
  cases o with
  | row cells v =>
    obtain ⟨i, hi, hr, _⟩ := h
    refine ⟨i, hi, fun b hb => ?_⟩
    simp only [RowOk, hb] at hr
    obtain ⟨h1, h2, arr, e, fr, h3, _⟩ := hr
    exact ⟨h1, h2, lt h3⟩
  | map b es cl =>
    obtain ⟨i, ents, hi, hb, h1, h2, h3, _⟩ := h
    refine ⟨i, hi, fun b' hb' => ?_⟩
    rw [hb] at hb'; cases hb'
    exact ⟨h1, h2, lt h3⟩
  | obj b o =>
    obtain ⟨i, hi, hb, h1, h2, h3, _⟩ := h
    refine ⟨i, hi, fun b' hb' => ?_⟩
    rw [hb] at hb'; cases hb'
    exact ⟨h1, h2, lt h3⟩
  | loop b N e L =>
    obtain ⟨i, tmps, hi, hb, h1, h2, h3, _⟩ := h
    refine ⟨i, hi, fun b' hb' => ?_⟩
    rw [hb] at hb'; cases hb'
    exact ⟨h1, h2, lt h3⟩
theorem Inv.drew (I : Inv κ F B w0 H w) : Inv κ F B w0 H w.drew :=
  ⟨I.below.drew, I.base, I.fz, I.names, fun r o h => (I.objs r o h).keep (KLe.refl _) (FLe.refl _) (fun i b hi hb => by
    obtain ⟨i', hi', h'⟩ := (I.objs r o h).inc
    rw [hi] at hi'; cases hi'; exact (h' b hb).2.1) (fun _ _ _ _ => rfl) (fun _ _ => rfl), I.apart⟩
theorem Inv.drop (I : Inv κ F B w0 H w) (r : Nat) : Inv κ F B w0 (H.del r) w := by
  refine ⟨I.below, I.base, I.fz, I.names, fun s o h => ?_, fun s s' o1 o2 i1 i2 c h1 h2 => ?_⟩
  · by_cases e : s = r
    · subst e; rw [AH.del_same] at h; cases h
    · rw [AH.del_ne _ e] at h; exact I.objs s o h
  · by_cases e : s = r
    · subst e; rw [AH.del_same] at h1; cases h1
    · by_cases e' : s' = r
      · subst e'; rw [AH.del_same] at h2; cases h2
      · rw [AH.del_ne _ e] at h1; rw [AH.del_ne _ e'] at h2; exact I.apart _ _ _ _ _ _ _ h1 h2
def KM.put (κ : KM) (r v : Nat) (i : Inc) : KM := fun s u => if s = r ∧ u = v then some i else κ s u
theorem KM.put_same (κ : KM) (r v : Nat) (i : Inc) : κ.put r v i r v = some i := by simp [KM.put]
theorem KM.put_le {κ : KM} {r v : Nat} {i : Inc} (h : κ r v = none) : KLe κ (κ.put r v i) := by
  intro s u j hj
  simp only [KM.put]
  split
  · rename_i e; rw [e.1, e.2, h] at hj; cases hj
  · exact hj
theorem names_put {r v : Nat} {i : Inc} (h : ∃ N, ∀ r v i, κ r v = some i → r < N) : ∃ N, ∀ s u j, κ.put r v i s u = some j → s < N := by
  obtain ⟨N, hN⟩ := h
  refine ⟨max N (r + 1), fun s u j hj => ?_⟩
  simp only [KM.put] at hj
  split at hj
  · rename_i e; omega
  · have := hN _ _ _ hj; omega
theorem Inv.put (I : Inv κ F B w0 H w) {r : Nat} {i : Inc} {o : AO} (hr : H r = none) (hk : ∀ v, o.ver ≤ v → κ r v = none)
    (hb : ∀ b, i.blk = some b → ∀ s os j, H s = some os → κ s os.ver = some j → j.blk ≠ some b)
    (ho : ObjOk (κ.put r o.ver i) F B w r o) : KLe κ (κ.put r o.ver i) ∧ Inv (κ.put r o.ver i) F B w0 (H.set r o) w := by
  have hle := KM.put_le (i := i) (hk o.ver (Nat.le_refl _))
  refine ⟨hle, I.below, I.base, I.fz, names_put I.names, ?_, ?_⟩
  · intro s os h
    by_cases e : s = r
    · subst e; rw [AH.zC] at h; cases h; exact ho
    · rw [AH.zR _ _ e] at h
      have h0 := I.objs s os h
      obtain ⟨j, hj, hj'⟩ := h0.inc
      refine h0.keep hle (FLe.refl _) (fun i' b hi hb => ?_) (fun _ _ _ _ => rfl) (fun v _ => by simp only [KM.put]; rw [if_neg (by simp [e])])
      rw [hj] at hi; cases hi; exact (hj' b hb).2.1
  · intro s s' o1 o2 i1 i2 b h1 h2 hne hk1 hk2 hb1 hb2
    have old : ∀ t (o' : AO) j, t ≠ r → (κ.put r o.ver i) t o'.ver = some j → κ t o'.ver = some j := by
      intro t o' j ht hj; simp only [KM.put] at hj; rw [if_neg (by simp [ht])] at hj; exact hj
    by_cases e1 : s = r
    · have e2 : s' ≠ r := fun e => hne (e1.trans e.symm)
      rw [AH.zR _ _ e2] at h2
      subst e1
      rw [AH.zC] at h1; cases h1
      rw [KM.put_same] at hk1; cases hk1
      exact hb b hb1 _ _ _ h2 (old _ _ _ e2 hk2) hb2
    · rw [AH.zR _ _ e1] at h1
      by_cases e2 : s' = r
      · subst e2
        rw [AH.zC] at h2; cases h2
        rw [KM.put_same] at hk2; cases hk2
        exact hb b hb2 _ _ _ h1 (old _ _ _ e1 hk1) hb1
      · rw [AH.zR _ _ e2] at h2
        exact I.apart _ _ _ _ _ _ _ h1 h2 hne (old _ _ _ e1 hk1) (old _ _ _ e2 hk2) hb1 hb2
theorem Inv.alloc (I : Inv κ F B w0 H w) (x : Obj) : Inv κ F B w0 H (w.alloc x) := by
  refine ⟨I.below.alloc I.base _, by simp; have := I.base; omega, ?_, I.names, ?_, I.apart⟩
  · intro b arr hF
    obtain ⟨e, fr, h⟩ := I.fz b arr hF
    exact ⟨e, fr, by rw [Below.heap_alloc _ _ _ (Array.getElem?_eq_some_iff.1 h).1]; exact h⟩
  · intro s os h
    have h0 := I.objs s os h
    obtain ⟨j, hj, hj'⟩ := h0.inc
    refine h0.keep (KLe.refl _) (FLe.refl _) (fun i' b hi hb => ?_) (fun i' b hi hb => ?_) (fun _ _ => rfl)
    · rw [hj] at hi; cases hi; exact (hj' b hb).2.1
    · rw [hj] at hi; cases hi; exact Below.heap_alloc _ _ _ (hj' b hb).2.2
theorem heap_alloc_new (w : World) (x : Obj) : (w.alloc x).heap[w.heap.size]? = some x := by show (w.heap.push x)[w.heap.size]? = some x; simp
theorem Inv.new (I : Inv κ F B w0 H w) (x : Obj) {r : Nat} (i : Inc) (o : AO) (hr : H r = none) (hk : ∀ v, o.ver ≤ v → κ r v = none) (hb : i.blk = some w.heap.size)
    (ho : ∀ κ', KLe κ κ' → κ' r o.ver = some i → (∀ v, o.ver < v → κ' r v = none) → F w.heap.size = none → ObjOk κ' F B (w.alloc x) r o) :
    KLe κ (κ.put r o.ver i) ∧ Inv (κ.put r o.ver i) F B w0 (H.set r o) (w.alloc x) := by
  have hle := KM.put_le (i := i) (hk o.ver (Nat.le_refl _))
  refine (I.alloc x).put hr hk (fun b hb' s os j hs hj hjb => ?_) (ho _ hle (KM.put_same ..) (fun v hv => by simp only [KM.put]; rw [if_neg (by omega)]; exact hk v (by omega)) ?_)
  · rw [hb] at hb'; cases hb'
    obtain ⟨j', hj', h'⟩ := (I.objs s os hs).inc
    rw [hj] at hj'; cases hj'
    have := (h' _ hjb).2.2
    omega
  · cases hF : F w.heap.size with
    | none => rfl
    | some arr =>
      obtain ⟨e, fr, h⟩ := I.fz _ _ hF
      have := (Array.getElem?_eq_some_iff.1 h).1
      omega
theorem Inv.newRow (I : Inv κ F B w0 H w) {arr : Array Value} {e : TypeId} {fr : Nat × Nat} {r v cap esz : Nat} {cells : List AV} (hr : H r = none) (hk : ∀ u, v ≤ u → κ r u = none) (hl : Loose arr fr)
    (hsz : arr.size = cap * esz) (hlen : cells.length ≤ arr.size) (hc : ∀ j (hj : j < cells.length), VR κ F cells[j] (arr.getD j undef)) :
    KLe κ (κ.put r v ⟨some w.heap.size, cap, esz⟩) ∧ Inv (κ.put r v ⟨some w.heap.size, cap, esz⟩) F B w0 (H.set r (.row cells v)) (w.alloc (.cells arr e fr)) := by
  refine I.new (.cells arr e fr) (r := r) ⟨some w.heap.size, cap, esz⟩ (.row cells v) hr hk rfl (fun κ' hle hkk hn hF => ?_)
  exact ⟨_, hkk, ⟨I.base, hF, arr, e, fr, heap_alloc_new _ _, hl, hsz, hlen, fun j hj => (hc j hj).mono hle (FLe.refl _)⟩, hn⟩
theorem Inv.ghost (I : Inv κ F B w0 H w) {r : Nat} (esz : Nat) (hr : H r = none) (hk : ∀ u, κ r u = none) :
    KLe κ (κ.put r 0 ⟨none, 0, esz⟩) ∧ Inv (κ.put r 0 ⟨none, 0, esz⟩) F B w0 (H.set r (.row [] 0)) w := by
  refine I.put (r := r) (i := ⟨none, 0, esz⟩) (o := .row [] 0) hr (fun v _ => hk v) (fun b hb => by cases hb) ?_
  exact ⟨_, KM.put_same .., ⟨rfl, rfl⟩, fun v hv => by simp only [KM.put]; rw [if_neg (by simp [AO.ver]; omega)]; exact hk v⟩
theorem Inv.bump (I : Inv κ F B w0 H w) {r v : Nat} {cells : List AV} {i : Inc} (hH : H r = some (.row cells v)) (hi : κ r v = some i) :
    KLe κ (κ.put r (v + 1) i) ∧ Inv (κ.put r (v + 1) i) F B w0 (H.set r (.row cells (v + 1))) w := by
  obtain ⟨i', hi', hrow, hn⟩ := I.objs _ _ hH
  rw [hi] at hi'; cases hi'
  have hle := KM.put_le (i := i) (hn (v + 1) (by omega))
  have := (I.drop r).put (r := r) (i := i) (o := .row cells (v + 1)) (AH.del_same _ _) (fun u hu => hn u (by have hu : v + 1 ≤ u := hu; omega))
    (fun b hb s os j hs hj hjb => by
      by_cases e : s = r
      · subst e; rw [AH.del_same] at hs; cases hs
      · rw [AH.del_ne _ e] at hs
        exact I.apart _ _ _ _ _ _ _ hH hs (fun x => e x.symm) hi hj hb hjb)
    ⟨i, KM.put_same .., (by
      unfold RowOk at hrow ⊢
      cases hb : i.blk with
      | none => rw [hb] at hrow; exact hrow
      | some b =>
        rw [hb] at hrow
        obtain ⟨h1, h2, arr, e, fr, h3, h4, h5, h6, h7⟩ := hrow
        exact ⟨h1, h2, arr, e, fr, h3, h4, h5, h6, fun j hj => (h7 j hj).mono hle (FLe.refl _)⟩),
     fun u hu => by have hu : v + 1 < u := hu; simp only [KM.put, AO.ver]; rw [if_neg (by omega)]; exact hn u (by omega)⟩
  rw [show (H.del r).set r (.row cells (v + 1)) = H.set r (.row cells (v + 1)) from by funext s; simp only [AH.set, AH.del]; split <;> rfl] at this
  exact this
theorem Inv.turn (I : Inv κ F B w0 H w) {r : Nat} {o o' : AO} {i : Inc} {b : Nat} {w' : World} (hr : H r = some o) (hi : κ r o.ver = some i) (hb : i.blk = some b) (hv : o'.ver = o.ver)
    (hw : ∀ k, k ≠ b → w'.heap[k]? = w.heap[k]?) (hs : w'.heap.size = w.heap.size) (hbel : Below B w0 w') (ho : ObjOk κ F B w' r o') :
    Inv κ F B w0 (H.set r o') w' := by
  have hFb : F b = none := by
    obtain ⟨j, hj, h⟩ := (I.objs r o hr).inc
    rw [hi] at hj; cases hj; exact (h b hb).2.1
  refine ⟨hbel, by rw [hs]; exact I.base, ?_, I.names, ?_, ?_⟩
  · intro c arr hF
    have : c ≠ b := fun e => by rw [e, hFb] at hF; cases hF
    rw [hw c this]; exact I.fz c arr hF
  · intro s os h
    by_cases e : s = r
    · subst e; rw [AH.zC] at h; cases h; exact ho
    · rw [AH.zR _ _ e] at h
      have h0 := I.objs s os h
      obtain ⟨j, hj, hj'⟩ := h0.inc
      refine h0.keep (KLe.refl _) (FLe.refl _) (fun i' c hi' hc => ?_) (fun i' c hi' hc => ?_) (fun _ _ => rfl)
      · rw [hj] at hi'; cases hi'; exact (hj' c hc).2.1
      · refine hw c (fun e' => ?_)
        subst e'
        exact I.apart _ _ _ _ _ _ _ hr h (fun e' => e e'.symm) hi hi' hb hc
  · intro s s' o1 o2 i1 i2 c h1 h2 hne hk1 hk2 hb1 hb2
    have old : ∀ t ot, H.set r o' t = some ot → ∃ ot', H t = some ot' ∧ ot'.ver = ot.ver := by
      intro t ot h
      by_cases e : t = r
      · subst e; rw [AH.zC] at h; cases h; exact ⟨o, hr, hv.symm⟩
      · rw [AH.zR _ _ e] at h; exact ⟨ot, h, rfl⟩
    obtain ⟨p1, q1, e1⟩ := old _ _ h1
    obtain ⟨p2, q2, e2⟩ := old _ _ h2
    rw [← e1] at hk1; rw [← e2] at hk2
    exact I.apart _ _ _ _ _ _ _ q1 q2 hne hk1 hk2 hb1 hb2
theorem Inv.less (I : Inv κ F B w0 H w) {H' : AH} (h : ∀ r o, H' r = some o → H r = some o) : Inv κ F B w0 H' w :=
  ⟨I.below, I.base, I.fz, I.names, fun s o e => I.objs s o (h s o e), fun s s' o1 o2 i1 i2 c h1 h2 => I.apart s s' o1 o2 i1 i2 c (h _ _ h1) (h _ _ h2)⟩
theorem Inv.freeze (I : Inv κ F B w0 H w) {r v : Nat} {cells : List AV} {b : Nat} {i : Inc} (hr : H r = some (.row cells v)) (hi : κ r v = some i) (hb : i.blk = some b) :
    ∃ arr, arr.size = i.cap * i.esz ∧ cells.length ≤ arr.size ∧ (∀ j (hj : j < cells.length), VR κ F cells[j] (arr.getD j undef)) ∧
      FLe F (fun c => if c = b then some arr else F c) ∧ Inv κ (fun c => if c = b then some arr else F c) B w0 (H.del r) w := by
  obtain ⟨i', hi', hrow, _⟩ := I.objs _ _ hr
  rw [hi] at hi'; cases hi'
  simp only [RowOk, hb] at hrow
  obtain ⟨hB, hFb, arr, e, fr, hh, hl, hsz, hlen, hc⟩ := hrow
  have hFle : FLe F (fun c => if c = b then some arr else F c) := by
    intro c a h
    have : c ≠ b := fun e => by rw [e, hFb] at h; cases h
    simp [this, h]
  refine ⟨arr, hsz, hlen, hc, hFle, I.below, I.base, ?_, I.names, ?_, ?_⟩
  · intro c a h
    split at h
    · rename_i e'; cases h; rw [e']; exact ⟨e, fr, hh⟩
    · exact I.fz c a h
  · intro s o h
    by_cases e' : s = r
    · subst e'; rw [AH.del_same] at h; cases h
    · rw [AH.del_ne _ e'] at h
      have h0 := I.objs s o h
      obtain ⟨j, hj, hj'⟩ := h0.inc
      refine h0.keep (KLe.refl _) hFle (fun i' c hi' hc => ?_) (fun _ _ _ _ => rfl) (fun _ _ => rfl)
      have : c ≠ b := fun e'' => by
        subst e''
        exact I.apart _ _ _ _ _ _ _ hr h (fun x => e' x.symm) hi hi' hb hc
      simp only [this, if_false]
      rw [hj] at hi'; cases hi'; exact (hj' c hc).2.1
  · exact (I.drop r).apart
end Go.Fw
/- The frame of the abstract walk, part 3: types, and what each operation does to abstract values. -/
set_option linter.unusedVariables false
set_option linter.unusedSimpArgs false
namespace Go.Fw
open Go.RowKit
inductive TD where
  | int (k : IntKind) | bool | str | func
  | ptr (e : TypeId)
  | slice (e : TypeId) (esz ebytes : Nat) (ezero : List AV)
  | struct (fs : List (Nat × Nat × Bool))   -- offset, size, several cells
  | array (len : Nat) (e : TypeId) (esz : Nat) (eagg : Bool)
  | map (k : TypeId) (str : Bool) (vzero : AV) (vsize : Nat)
  | other
structure TR where
  d : TD
  size : Nat
  agg : Bool
  zero : List AV
abbrev TT := List (Nat × TR)
def TT.get : TT → Nat → Option TR
  | [], _ => none
  | (k, r) :: l, t => cond (Nat.beq k t) (some r) (TT.get l t)
def AV.isZ : AV → Value → Bool
  | .int k n, .int k' n' => k == k' && n == n'
  | .bool b, .bool b' => b == b'
  | .str [], .string s => s.data.toList.isEmpty
  | .nilp, .pointer none => true
  | .nils, .slice none 0 0 => true
  | .map none, .map none => true
  | .nilf, .nilFunc => true
  | .junk, _ => true
  | _, _ => false
def zerosOk (l : List AV) (z : Value) : Bool := l.length == z.cells.size && (List.range l.length).all fun i => (l.getD i .junk).isZ (z.cells.getD i undef)
def isAggD : TypeDesc → Bool
  | .struct _ => true
  | .array _ _ => true
  | _ => false
def infoOk (P : Program) (t : TypeId) (size : Nat) (zero : List AV) : Bool :=
  match P.info? t with
  | some i => i.size == size && (match i.zero with | some z => zerosOk zero z | none => false)
  | none => false
def fieldsOk (P : Program) (fs : List (Nat × Nat × Bool)) (fields : Array Field) : Bool :=
  fields.size == fs.length && (List.range fs.length).all fun i =>
    let f := fields.getD i default
    let p := fs.getD i (0, 0, false)
    f.offset == p.1 && ((P.info? f.type).map (·.size)) == some p.2.1 && p.2.1 != 0 && (match P.underlying f.type with | some d => isAggD d == p.2.2 | none => false)
def trOk (P : Program) (t : TypeId) (r : TR) : Bool :=
  infoOk P t r.size r.zero &&
  match P.underlying t with
  | none => false
  | some u => isAggD u == r.agg &&
    match r.d, u with
    | .int k, .int k' => k == k'
    | .bool, .bool => true
    | .str, .string => true
    | .func, .func .. => true
    | .ptr e, .pointer e' => e == e'
    | .slice e esz eb ez, .slice e' => e == e' && infoOk P e esz ez && ((P.info? e).map (·.bytes)) == some eb && ez.length == esz && esz != 0 && eb != 0
    | .struct fs, .struct fields => fieldsOk P fs fields
    | .array n e esz eagg, .array n' e' => n == n' && e == e' && ((P.info? e).map (·.size)) == some esz && esz != 0 && (match P.underlying e with | some d => isAggD d == eagg | none => false)
    | .map k s vz vs, .map k' v => k == k' && (match P.underlying k with | some (.int .i64) => !s | some .string => s | _ => false) && infoOk P v vs (if vs == 1 then [vz] else match vz with | .agg l => l | _ => [])
    | .other, _ => true
    | _, _ => false
def covT (P : Program) : Nat → TypeId → Option (List Nat)
  | 0, _ => none
  | d + 1, t =>
    match P.underlying t with
    | some (.int .i64) => some [0]
    | some (.array n e) => (match covT P d e, P.info? e with
      | some L, some i => if (L.all fun j => decide (j < i.size)) = true then some ((List.range n).flatMap fun j => L.map (· + j * i.size)) else none
      | _, _ => none)
    | some (.struct fs) => if (P.stoodInHeld t || fs.toList.any (fun (f : Field) => f.name == "_")) = true then none else
      (fs.toList.mapM fun (f : Field) => match covT P d f.type, P.info? f.type with
        | some L, some i => if (L.all fun j => decide (j < i.size)) = true then some (L.map (· + f.offset)) else none
        | _, _ => none).map List.flatten
    | _ => none
def isZ64 : AV → Bool
  | .int .i64 0 => true
  | _ => false
def allZ (l : List AV) : Bool := l.all isZ64
def covOk (P : Program) (t : TypeId) (r : TR) : Bool :=
  !(r.agg && allZ r.zero) || (match covT P 8 t with
    | some L => (List.range r.size).all (fun j => L.contains j) && L.all (fun j => decide (j < r.size)) && !(P.eqGuardType P.depth t)
    | none => false)
def mapOk (P : Program) (t : TypeId) (r : TR) : Bool :=
  match r.d with
  | .map _ _ vz vs => (match P.underlying t with
    | some (.map _ v) => vs == 1 && (match P.info? v with
      | some i => (match i.zero with | some (.agg _) => false | some z => vz.isZ z | none => false)
      | none => false)
    | _ => false)
  | _ => true
def TT.ok (P : Program) (T : TT) : Bool := T.all fun p => trOk P p.1 p.2 && (covOk P p.1 p.2 && mapOk P p.1 p.2)
theorem TT.ok_both {P : Program} : ∀ {T : TT}, T.ok P = true → ∀ {t : Nat} {r : TR}, T.get t = some r → trOk P t r = true ∧ covOk P t r = true ∧ mapOk P t r = true
  | [], _, _, _, h => by simp [TT.get] at h
  | (k, x) :: l, hT, t, r, h => by
    simp only [TT.ok, List.all_cons, Bool.and_eq_true] at hT
    simp only [TT.get] at h
    cases hk : Nat.beq k t with
    | true => rw [hk] at h; simp at h; rw [← h]; have := Nat.eq_of_beq_eq_true hk; rw [← this]; exact hT.1
    | false => rw [hk] at h; simp at h; exact TT.ok_both (T := l) (by simpa only [TT.ok, Bool.and_eq_true] using hT.2) h
theorem TT.ok_get {P : Program} {T : TT} (hT : T.ok P = true) {t : Nat} {r : TR} (h : T.get t = some r) : trOk P t r = true := (TT.ok_both hT h).1
def AV.of1 : Value → AV
  | .int k n => .int k n
  | .bool b => .bool b
  | .string s => .str s.data.toList
  | .pointer none => .nilp
  | .slice none 0 0 => .nils
  | .map none => .map none
  | .nilFunc => .nilf
  | _ => .junk
def AV.ofValue : Value → AV
  | .agg A => .agg (A.toList.map AV.of1)
  | v => AV.of1 v
def when (b : Bool) (p : Prop) : Prop := cond b p False
theorem when_iff {b : Bool} {p : Prop} : when b p ↔ b = true ∧ p := by cases b <;> simp [when]
theorem when_beq {a b : Nat} {p : Prop} (h : when (Nat.beq a b) p) : a = b ∧ p := by
  obtain ⟨h1, h2⟩ := when_iff.1 h
  exact ⟨Nat.eq_of_beq_eq_true h1, h2⟩
abbrev Env := Nat → AV
def upd (e : Env) (t : Nat) (v : AV) : Env := fun s => cond (Nat.beq s t) v (e s)
def putA (e : Env) (d : Option Tmp) (v : AV) : Env := match d with | some t => upd e t v | none => e
def ev (e : Env) : Operand → AV
  | .tmp t => e t
  | .const v => AV.ofValue v
  | .global _ => .junk
  | .func f => .fn (.func f) [] []
def cellsOf : AV → Option (List AV)
  | .junk => none
  | .agg l => some l
  | v => some [v]
def one : AV → Bool
  | .junk => false
  | .agg _ => false
  | .tup _ => false
  | _ => true
def rdA (agg : Bool) (size : Nat) (cells : List AV) : AV := cond agg (.agg (cells.take size)) (cells.headD .junk)
def wrA (cells : List AV) (off : Nat) (new : List AV) : List AV := cells.take off ++ new ++ cells.drop (off + new.length)
def fillA (place : Nat → Option (Nat × Nat)) (cells : List AV) : List (Nat × AV) → Option (List AV)
  | [] => some cells
  | (i, v) :: rest =>
    match place i, cellsOf v with
    | some (off, size), some l => cond (l.length == size && Nat.ble (off + size) cells.length) (fillA place (wrA cells off l) rest) none
    | _, _ => none
def bitsA (op : BinOp) (k : IntKind) (x y : Int) : Int :=
  let a := BitVec.ofInt k.bits x
  let b := BitVec.ofInt k.bits y
  match op with
  | .and => k.wrap (a &&& b).toNat
  | .or => k.wrap (a ||| b).toNat
  | .xor => k.wrap (a ^^^ b).toNat
  | _ => k.wrap (a &&& ~~~b).toNat
structure Both (p q : Prop) : Prop where
  l : p
  r : q
def ifA (p : Prop) (K : AV → Prop) : Prop := Both (p → K (.bool true)) (¬ p → K (.bool false))
def binI (op : BinOp) (k : IntKind) (x y : Int) (K : AV → Prop) : Prop :=
  match op with
  | .add => ∀ c, c = k.wrap (x + y) → K (.int k c)
  | .sub => ∀ c, c = k.wrap (x - y) → K (.int k c)
  | .mul => ∀ c, c = k.wrap (x * y) → K (.int k c)
  | .quo => y ≠ 0 ∧ ∀ c, c = k.wrap (x.tdiv y) → K (.int k c)
  | .rem => y ≠ 0 ∧ ∀ c, c = x.tmod y → K (.int k c)
  | .and => ∀ c, c = bitsA .and k x y → K (.int k c)
  | .or => ∀ c, c = bitsA .or k x y → K (.int k c)
  | .xor => ∀ c, c = bitsA .xor k x y → K (.int k c)
  | .andNot => ∀ c, c = bitsA .andNot k x y → K (.int k c)
  | .eql => ifA (x = y) K
  | .neq => ifA (x ≠ y) K
  | .lss => ifA (x < y) K
  | .leq => ifA (x ≤ y) K
  | .gtr => ifA (x > y) K
  | .geq => ifA (x ≥ y) K
  | _ => False
def shiftA (op : BinOp) (k : IntKind) (x y : Int) (K : AV → Prop) : Prop :=
  match op with
  | .shl => 0 ≤ y ∧ ∀ c, c = k.wrap (x * 2 ^ (min y.toNat k.bits)) → K (.int k c)
  | .shr => 0 ≤ y ∧ ∀ c, c = x.fdiv (2 ^ (min y.toNat k.bits)) → K (.int k c)
  | _ => False
def isShift : BinOp → Bool
  | .shl => true
  | .shr => true
  | _ => false
def neqA (op : BinOp) (p : Prop) (K : AV → Prop) : Prop :=
  match op with
  | .eql => ifA p K
  | .neq => ifA (¬ p) K
  | _ => False
def TD.isPtr : Option TD → Bool | some (.ptr _) => true | _ => false
def TD.isFunc : Option TD → Bool | some .func => true | _ => false
def TD.isBool : Option TD → Bool | some .bool => true | _ => false
def binA (op : BinOp) (d : Option TD) (x y : AV) (K : AV → Prop) : Prop :=
  match x, y with
  | .int k a, .int k' b => cond (isShift op) (shiftA op k a b K) (when (decide (k = k')) (binI op k a b K))
  | .str a, .str b =>
    (match op with
    | .add => a.length + b.length < 9223372036854775808 ∧ K (.str (a ++ b))
    | .eql => ifA (a = b) K
    | .neq => ifA (a ≠ b) K
    | .lss => ifA (Op.bytesLess a b = true) K
    | .gtr => ifA (Op.bytesLess a b = false ∧ a ≠ b) K
    | _ => False)
  | .bool a, .bool b => when (TD.isBool d) (neqA op (a = b) K)
  | .nilp, .nilp => when (TD.isPtr d) (neqA op True K)
  | .ptr .., .nilp => when (TD.isPtr d) (neqA op False K)
  | .cp .., .nilp => when (TD.isPtr d) (neqA op False K)
  | .nilp, .ptr .. => when (TD.isPtr d) (neqA op False K)
  | .nilf, .nilf => when (TD.isFunc d) (neqA op True K)
  | .fn .., .nilf => when (TD.isFunc d) (neqA op False K)
  | _, _ => False
def isI64 : AV → Bool
  | .int .i64 _ => true
  | _ => false
def aggB (tr : Option TR) (op : BinOp) (x y : AV) (K : AV → Prop) : Prop :=
  match x, y with
  | .agg xs, .agg ys => (match tr with
    | some ⟨_, n, ag, z⟩ => when (ag && allZ z) (xs.length = n ∧ ys.length = n ∧ xs.all isI64 = true ∧ ys.all isI64 = true ∧ neqA op (xs = ys) K)
    | none => False)
  | x, y => binA op (tr.map (·.d)) x y K
def isNilS : Operand → Bool
  | .const (.slice none 0 0) => true
  | _ => false
def TD.isSlice : Option TD → Bool | some (.slice ..) => true | _ => false
def nilB (op : BinOp) (n : Nat) (K : AV → Prop) : Prop :=
  match op with
  | .eql => Both (n = 0 → K (.bool true)) (True → K (.bool false))
  | .neq => Both (n = 0 → K (.bool false)) (True → K (.bool true))
  | _ => False
def nilA (op : BinOp) (d : Option TD) (x : AV) (K : AV → Prop) : Prop :=
  match x with
  | .nils => when (TD.isSlice d) (nilB op 0 K)
  | .cs _ n => when (TD.isSlice d) (nilB op n K)
  | .sl _ _ _ _ n _ => when (TD.isSlice d) (nilB op n K)
  | _ => False
def loadS (tr : TR) (a : AV) (H : AH) (K : AV → Prop) : Prop :=
  match a with
  | .cp cells => when (tr.agg || Nat.beq tr.size 1) (tr.size ≤ cells.length ∧ K (rdA tr.agg tr.size cells))
  | .ptr r v off => when (tr.agg || Nat.beq tr.size 1) (∃ cells, H r = some (.row cells v) ∧ off + tr.size ≤ cells.length ∧ K (rdA tr.agg tr.size (cells.drop off)))
  | _ => False
def loadA (tr : TR) (a : AV) (H : AH) (K : AV → Prop) : Prop :=
  match a with
  | .cp cells => cond tr.agg (tr.size ≤ cells.length ∧ K (.agg (cells.take tr.size))) (when (Nat.beq tr.size 1) (∃ x, cells[0]? = some x ∧ K x))
  | .ptr r v off => ∃ cells, H r = some (.row cells v) ∧ cond tr.agg (off + tr.size ≤ cells.length ∧ K (.agg ((cells.drop off).take tr.size))) (when (Nat.beq tr.size 1) (∃ x, cells[off]? = some x ∧ K x))
  | _ => False
theorem loadA_sound {tr : TR} {a : AV} {H : AH} {K : AV → Prop} (h : loadA tr a H K) : loadS tr a H K := by
  cases a <;> try exact h.elim
  · rename_i r v off
    obtain ⟨cells, hH, h⟩ := h
    cases hag : tr.agg with
    | true =>
      rw [hag] at h
      obtain ⟨h1, h2⟩ := h
      refine when_iff.2 ⟨by simp [hag], cells, hH, h1, ?_⟩
      simpa [rdA, hag] using h2
    | false =>
      rw [hag] at h
      obtain ⟨h1, x, h2, h3⟩ := when_iff.1 h
      have h1 := Nat.eq_of_beq_eq_true h1
      obtain ⟨hlt, rfl⟩ := List.getElem?_eq_some_iff.1 h2
      refine when_iff.2 ⟨by simp [hag, h1], cells, hH, by omega, ?_⟩
      rw [List.drop_eq_getElem_cons hlt, hag]
      exact h3
  · rename_i cells
    unfold loadA at h
    simp only at h
    cases hag : tr.agg with
    | true =>
      rw [hag] at h
      obtain ⟨h1, h2⟩ := h
      refine when_iff.2 ⟨by simp [hag], h1, ?_⟩
      simpa [rdA, hag] using h2
    | false =>
      rw [hag] at h
      obtain ⟨h1, x, h2, h3⟩ := when_iff.1 h
      have h1 := Nat.eq_of_beq_eq_true h1
      obtain ⟨hlt, rfl⟩ := List.getElem?_eq_some_iff.1 h2
      refine when_iff.2 ⟨by simp [hag, h1], by omega, ?_⟩
      cases cells with
      | nil => simp at hlt
      | cons c cs => simpa [rdA, hag] using h3
def storeA (tr : TR) (a x : AV) (H : AH) (K : AH → Prop) : Prop :=
  match a with
  | .ptr r v off => ∃ cells, H r = some (.row cells v) ∧ off + tr.size ≤ cells.length ∧
      match cellsOf x with
      | some l => l.length = tr.size ∧ l.all one = true ∧ K (H.set r (.row (wrA cells off l) v))
      | none => False
  | _ => False
def fieldAddrA (fs : List (Nat × Nat × Bool)) (a : AV) (f : Nat) (K : AV → Prop) : Prop :=
  match fs[f]?, a with
  | some p, .ptr r v off => K (.ptr r v (off + p.1))
  | some p, .cp cells => p.1 ≤ cells.length ∧ K (.cp (cells.drop p.1))
  | _, _ => False
def indexAddrA (d : TD) (x i : AV) (K : AV → Prop) : Prop :=
  match d, x, i with
  | .slice _ esz _ _, .cs cells n, .int _ i => 0 ≤ i ∧ i < n ∧ i.toNat * esz ≤ cells.length ∧ K (.cp (cells.drop (i.toNat * esz)))
  | .slice _ esz _ _, .sl r v es off len _, .int _ i => when (Nat.beq es esz) (0 ≤ i ∧ i < len ∧ K (.ptr r v (off + i.toNat * esz)))
  | .array n _ esz _, .ptr r v off, .int _ i => 0 ≤ i ∧ i < n ∧ K (.ptr r v (off + i.toNat * esz))
  | .array n _ esz _, .cp cells, .int _ i => 0 ≤ i ∧ i < n ∧ i.toNat * esz ≤ cells.length ∧ K (.cp (cells.drop (i.toNat * esz)))
  | _, _, _ => False
def indexA (d : TD) (x i : AV) (K : AV → Prop) : Prop :=
  match d, x, i with
  | .str, .str s, .int _ i => 0 ≤ i ∧ i < s.length ∧ K (.int .u8 (s.getD i.toNat 0).toNat)
  | .array n _ esz eagg, .agg cells, .int _ i => 0 ≤ i ∧ i < n ∧ (i.toNat + 1) * esz ≤ cells.length ∧ when (eagg || Nat.beq esz 1) (K (rdA eagg esz (cells.drop (i.toNat * esz))))
  | _, _, _ => False
def sliceS (d : TD) (x : AV) (lo hi mx : Option Int) (K : AV → Prop) : Prop :=
  match d, x with
  | .str, .str s =>
    0 ≤ lo.getD 0 ∧ lo.getD 0 ≤ hi.getD s.length ∧ hi.getD s.length ≤ s.length ∧ mx = none ∧ K (.str ((s.drop (lo.getD 0).toNat).take ((hi.getD s.length).toNat - (lo.getD 0).toNat)))
  | .slice _ esz _ _, .cs cells n =>
    (lo = none ∧ hi = some 0 ∧ mx = some 0 ∧ K .nils) ∨ (
    0 ≤ lo.getD 0 ∧ lo.getD 0 ≤ hi.getD n ∧ hi.getD n ≤ n ∧ cells.length = n * esz ∧ (mx = none ∨ (mx = hi ∧ hi.isSome)) ∧
      K (.cs ((cells.drop ((lo.getD 0).toNat * esz)).take (((hi.getD n).toNat - (lo.getD 0).toNat) * esz)) ((hi.getD n).toNat - (lo.getD 0).toNat)))
  | .slice .., .nils => lo.getD 0 = 0 ∧ hi.getD 0 = 0 ∧ mx.getD 0 = 0 ∧ (mx.isSome → hi.isSome) ∧ K .nils
  | .slice _ esz _ _, .sl r v es off len lim =>
    (lo = none ∧ hi = some 0 ∧ mx = some 0 ∧ K .nils) ∨ when (Nat.beq es esz) (0 ≤ lo.getD 0 ∧ lo.getD 0 ≤ hi.getD len ∧ hi.getD len ≤ len ∧
      (match mx, hi with
      | none, _ => K (.sl r v esz (off + (lo.getD 0).toNat * esz) ((hi.getD len).toNat - (lo.getD 0).toNat) (lim.map (· - (lo.getD 0).toNat)))
      | some m, some h => h ≤ m ∧ m ≤ len ∧ K (.sl r v esz (off + (lo.getD 0).toNat * esz) (h.toNat - (lo.getD 0).toNat) (some (m.toNat - (lo.getD 0).toNat)))
      | some _, none => False))
  | _, _ => False
def sliceA (d : TD) (x : AV) (lo hi mx : Option Int) (K : AV → Prop) : Prop :=
  match d, x with
  | .str, .str s =>
    (match mx, lo, hi with
     | none, none, none => K (.str s)
     | none, some l, none => 0 ≤ l ∧ l ≤ s.length ∧ K (.str (s.drop l.toNat))
     | none, none, some h => 0 ≤ h ∧ h ≤ s.length ∧ K (.str (s.take h.toNat))
     | none, some l, some h => 0 ≤ l ∧ l ≤ h ∧ h ≤ s.length ∧ K (.str ((s.drop l.toNat).take (h.toNat - l.toNat)))
     | _, _, _ => False)
  | .slice _ esz _ _, .cs cells n =>
    cells.length = n * esz ∧
    (match mx, lo, hi with
     | none, none, none => K (.cs cells n)
     | none, some l, none => 0 ≤ l ∧ l ≤ n ∧ K (.cs (cells.drop (l.toNat * esz)) (n - l.toNat))
     | none, none, some h => 0 ≤ h ∧ h ≤ n ∧ K (.cs (cells.take (h.toNat * esz)) h.toNat)
     | none, some l, some h => 0 ≤ l ∧ l ≤ h ∧ h ≤ n ∧ K (.cs ((cells.drop (l.toNat * esz)).take ((h.toNat - l.toNat) * esz)) (h.toNat - l.toNat))
     | some m, none, some h => cond (decide (m = 0) && decide (h = 0)) (K .nils) (m = h ∧ 0 ≤ h ∧ h ≤ n ∧ K (.cs (cells.take (h.toNat * esz)) h.toNat))
     | _, _, _ => False)
  | .slice .., .nils =>
    (match mx, lo, hi with
     | none, none, none => K .nils
     | none, some l, none => l = 0 ∧ K .nils
     | none, none, some h => h = 0 ∧ K .nils
     | none, some l, some h => l = 0 ∧ h = 0 ∧ K .nils
     | some m, none, some h => m = 0 ∧ h = 0 ∧ K .nils
     | some m, some l, some h => l = 0 ∧ m = 0 ∧ h = 0 ∧ K .nils
     | _, _, _ => False)
  | .slice _ esz _ _, .sl r v es off len lim =>
    when (Nat.beq es esz)
      (match mx, lo, hi with
       | none, none, none => K (.sl r v esz off len lim)
       | none, some l, none => 0 ≤ l ∧ l ≤ len ∧ K (.sl r v esz (off + l.toNat * esz) (len - l.toNat) (lim.map (· - l.toNat)))
       | none, none, some h => 0 ≤ h ∧ h ≤ len ∧ K (.sl r v esz off h.toNat lim)
       | none, some l, some h => 0 ≤ l ∧ l ≤ h ∧ h ≤ len ∧ K (.sl r v esz (off + l.toNat * esz) (h.toNat - l.toNat) (lim.map (· - l.toNat)))
       | some m, none, some h => cond (decide (m = 0) && decide (h = 0)) (K .nils) (0 ≤ h ∧ h ≤ m ∧ m ≤ len ∧ K (.sl r v esz off h.toNat (some m.toNat)))
       | _, _, _ => False)
  | _, _ => False
theorem optmap_sub_zero (lim : Option Nat) : lim.map (· - 0) = lim := by cases lim <;> rfl
theorem sliceA_sound {d : TD} {x : AV} {lo hi mx : Option Int} {K : AV → Prop} (h : sliceA d x lo hi mx K) : sliceS d x lo hi mx K := by
  cases d <;> cases x <;> try exact h.elim
  · rename_i s
    unfold sliceA at h
    simp only at h
    cases mx <;> cases lo <;> cases hi <;> try exact h.elim
    · exact ⟨by simp, by simp, by simp, rfl, by simpa using h⟩
    · rename_i a; obtain ⟨h1, h2, h3⟩ := h; exact ⟨by simp, by simpa using h1, by simpa using h2, rfl, by simpa using h3⟩
    · rename_i a; obtain ⟨h1, h2, h3⟩ := h
      refine ⟨by simpa using h1, by simpa using h2, by simp, rfl, ?_⟩
      have e : (s.drop a.toNat).take (s.length - a.toNat) = s.drop a.toNat := List.take_of_length_le (by simp)
      simpa [e] using h3
    · rename_i a b; obtain ⟨h1, h2, h3, h4⟩ := h; exact ⟨by simpa using h1, by simpa using h2, by simpa using h3, rfl, by simpa using h4⟩
  · unfold sliceA at h
    simp only at h
    cases mx <;> cases lo <;> cases hi <;> try exact h.elim
    · exact ⟨by simp, by simp, by simp, by simp, h⟩
    · obtain ⟨h1, h2⟩ := h; exact ⟨by simp, by simp [h1], by simp, by simp, h2⟩
    · obtain ⟨h1, h2⟩ := h; exact ⟨by simp [h1], by simp, by simp, by simp, h2⟩
    · obtain ⟨h1, h2, h3⟩ := h; exact ⟨by simp [h1], by simp [h2], by simp, by simp, h3⟩
    · obtain ⟨h1, h2, h3⟩ := h; exact ⟨by simp, by simp [h2], by simp [h1], by simp, h3⟩
    · obtain ⟨h0, h1, h2, h3⟩ := h; exact ⟨by simp [h0], by simp [h2], by simp [h1], by simp, h3⟩
  · rename_i e esz eb ez cells n
    unfold sliceA at h
    simp only at h
    obtain ⟨hl, h⟩ := h
    cases mx <;> cases lo <;> cases hi <;> try exact h.elim
    · refine .inr ⟨by simp, by simp, by simp, hl, by simp, ?_⟩
      have e : cells.take (n * esz) = cells := List.take_of_length_le (by omega)
      simpa [e] using h
    · rename_i a; obtain ⟨h1, h2, h3⟩ := h; exact .inr ⟨by simp, by simpa using h1, by simpa using h2, hl, by simp, by simpa using h3⟩
    · rename_i a; obtain ⟨h1, h2, h3⟩ := h
      refine .inr ⟨by simpa using h1, by simpa using h2, by simp, hl, by simp, ?_⟩
      have e : (cells.drop (a.toNat * esz)).take ((n - a.toNat) * esz) = cells.drop (a.toNat * esz) := List.take_of_length_le (by simp [hl, Nat.sub_mul])
      simpa [e] using h3
    · rename_i a b; obtain ⟨h1, h2, h3, h4⟩ := h; exact .inr ⟨by simpa using h1, by simpa using h2, by simpa using h3, hl, by simp, by simpa using h4⟩
    · rename_i m a
      simp only at h
      cases hz : (decide (m = 0) && decide (a = 0)) with
      | true =>
        rw [hz] at h
        simp only [Bool.and_eq_true, decide_eq_true_eq] at hz
        exact .inl ⟨rfl, by rw [hz.2], by rw [hz.1], h⟩
      | false =>
        rw [hz] at h
        obtain ⟨rfl, h1, h2, h3⟩ : m = a ∧ 0 ≤ a ∧ a ≤ (n : Int) ∧ K _ := h
        exact .inr ⟨by simp, by simpa using h1, by simpa using h2, hl, by simp, by simpa using h3⟩
  · rename_i e esz eb ez r v es off len lim
    unfold sliceA at h
    simp only at h
    have hes := (when_iff.1 h).1
    replace h := (when_iff.1 h).2
    cases mx <;> cases lo <;> cases hi <;> try exact h.elim
    · exact .inr (when_iff.2 ⟨hes, by simp, by simp, by simp, by simpa [optmap_sub_zero] using h⟩)
    · rename_i a; obtain ⟨h1, h2, h3⟩ := h; exact .inr (when_iff.2 ⟨hes, by simp, by simpa using h1, by simpa using h2, by simpa [optmap_sub_zero] using h3⟩)
    · rename_i a; obtain ⟨h1, h2, h3⟩ := h; exact .inr (when_iff.2 ⟨hes, by simpa using h1, by simpa using h2, by simp, by simpa using h3⟩)
    · rename_i a b; obtain ⟨h1, h2, h3, h4⟩ := h; exact .inr (when_iff.2 ⟨hes, by simpa using h1, by simpa using h2, by simpa using h3, by simpa using h4⟩)
    · rename_i m a
      simp only at h
      cases hz : (decide (m = 0) && decide (a = 0)) with
      | true =>
        rw [hz] at h
        simp only [Bool.and_eq_true, decide_eq_true_eq] at hz
        exact .inl ⟨rfl, by rw [hz.2], by rw [hz.1], h⟩
      | false =>
        rw [hz] at h
        obtain ⟨h1, h2, h3, h4⟩ : 0 ≤ a ∧ a ≤ m ∧ m ≤ (len : Int) ∧ K _ := h
        exact .inr (when_iff.2 ⟨hes, by simp, by simpa using h1, by simp; omega, by simpa using ⟨h2, h3, h4⟩⟩)
def u8s (bs : List UInt8) : List AV := bs.map fun b => .int .u8 b.toNat
def cellsA (esz : Nat) (x : AV) (H : AH) (K : Nat → List AV → Prop) : Prop :=
  match x with
  | .nils => K 0 []
  | .cs cells n => cells.length = n * esz ∧ K n cells
  | .sl r v es off len _ => when (Nat.beq es esz) (∃ cells, H r = some (.row cells v) ∧ off + len * esz ≤ cells.length ∧ K len ((cells.drop off).take (len * esz)))
  | _ => False
def isU8 (T : TT) (e : TypeId) : Bool := match T.get e with | some ⟨.int .u8, _, _, _⟩ => true | _ => false
def convA (T : TT) (d s : TD) (x : AV) (H : AH) (K : AV → AH → Prop) : Prop :=
  match d, s, x with
  | .int k, .int _, .int _ n => ∀ c, c = k.wrap n → K (.int k c) H
  | .str, .str, .str s => K (.str s) H
  | .slice e esz _ _, .str, .str s => when (isU8 T e && Nat.beq esz 1) (K (.cs (u8s s) s.length) H ∨ ∀ r, H r = none → K (.sl r 0 1 0 s.length none) (H.set r (.row (u8s s) 0)))
  | .str, .slice e esz _ _, x => when (isU8 T e && Nat.beq esz 1) (cellsA 1 x H fun _ cells => ∃ bs, cells = u8s bs ∧ K (.str bs) H)
  | _, _, _ => False
def lenA (d : Option TD) (x : AV) (K : Int → Prop) : Prop :=
  match d, x with
  | some .str, .str s => K s.length
  | some (.slice ..), .nils => K 0
  | some (.slice ..), .cs _ n => K n
  | some (.slice ..), .sl _ _ _ _ len _ => K len
  | _, _ => False
def srcA (esz : Nat) (x : AV) (H : AH) (K : Nat → List AV → Prop) : Prop :=
  match x with
  | .str s => when (Nat.beq esz 1) (K s.length (u8s s))
  | x => cellsA esz x H K
def appendA (esz ebytes : Nat) (s x : AV) (H : AH) (K : AV → AH → Prop) : Prop :=
  srcA esz x H fun n new => new.all one = true ∧
    match s with
    | .nils => n * ebytes ≤ 140737488355328 ∧ ∀ r, H r = none → K (.sl r 0 esz 0 n none) (H.set r (.row new 0))
    | .sl r v es off len (some m) => when (Nat.beq es esz && Nat.beq off 0) (∃ cells, H r = some (.row cells v) ∧ cells.length = len * esz ∧ (len + n) * ebytes ≤ 140737488355328 ∧
        (len + n ≤ m → K (.sl r v esz 0 (len + n) (some m)) (H.set r (.row (cells ++ new) v))) ∧
        (m < len + n → ∀ q, H q = none → K (.sl q 0 esz 0 (len + n) none) (H.set q (.row (cells ++ new) 0))))
    | .sl r v es off len lim => when (Nat.beq es esz && Nat.beq off 0 && lim.isNone) (∃ cells, H r = some (.row cells v) ∧ cells.length = len * esz ∧ (len + n) * ebytes ≤ 140737488355328 ∧
        K (.sl r (v + 1) esz 0 (len + n) none) (H.set r (.row (cells ++ new) (v + 1))))
    | _ => False
def appendZ (esz ebytes : Nat) (s x : AV) (H : AH) (K : AV → AH → Prop) : Prop :=
  match s, x with
  | .nils, .int _ n => 0 < n ∧ n * ebytes ≤ 140737488355328 ∧ ∀ r, H r = none → K (.sl r 0 esz 0 n.toNat none) (H.set r (.row [] 0))
  | _, _ => False
def mk2 (mx : Bool) (k : IntKind) (x y : Int) (K : AV → Prop) : Prop := cond mx (∀ c, c = max x y → K (.int k c)) (∀ c, c = min x y → K (.int k c))
def mmA (op : Bool) : List AV → (AV → Prop) → Prop
  | [.int k x], K => K (.int k x)
  | [.int k x, .int _ y], K => mk2 op k x y K
  | [.int k x, .int _ y, .int _ z], K => mk2 op k x y fun v => match v with | .int _ c => mk2 op k c z K | _ => False
  | _, _ => False
def copyA (esz : Nat) (d s : AV) (H : AH) (K : AV → AH → Prop) : Prop :=
  srcA esz s H fun n new => new.all one = true ∧
    match d with
    | .nils => K (.int .i64 0) H
    | .sl r v es off len _ => when (Nat.beq es esz) (∃ cells, H r = some (.row cells v) ∧ off + len * esz ≤ cells.length ∧
        K (.int .i64 (Nat.min n len : Nat)) (H.set r (.row (wrA cells off (new.take (Nat.min n len * esz))) v)))
    | _ => False
def mget : List ME → Int → Option ME
  | [], _ => none
  | x :: l, n => if x.k = n then some x else mget l n
def mput : List ME → Int → AV → List ME
  | [], _, _ => []
  | x :: l, n, v => if x.k = n then ⟨x.k, v, x.b⟩ :: l else x :: mput l n v
def mdel : List ME → Int → List ME
  | [], _ => []
  | x :: l, n => if x.k = n then l else x :: mdel l n
def lookA (ok : Bool) (vz : AV) (o : Option ME) (K : AV → Prop) : Prop :=
  ∃ o', o = o' ∧ match o' with
    | some x => K (cond ok (.tup [x.v, .bool true]) x.v)
    | none => K (cond ok (.tup [vz, .bool false]) vz)
def mapA (T : TT) (t : TypeId) (K : AV → Prop) : Prop :=
  match T.get t with
  | some ⟨.map _ false vz _, _, _, _⟩ => K vz
  | _ => False
def lookupA' (T : TT) (t : TypeId) (m i : AV) (ok : Bool) (H : AH) (K : AV → AH → Prop) : Prop :=
  match m, i with
  | .map none, .int .i64 _ => mapA T t fun vz => lookA ok vz none fun v => K v H
  | .map (some r), .int .i64 n => mapA T t fun vz => ∃ b es cl, H r = some (.map b es cl) ∧ lookA ok vz (mget es n) fun v => K v H
  | _, _ => False
def updA (T : TT) (t : TypeId) (m i x : AV) (H : AH) (K : AV → AH → Prop) : Prop :=
  match m, i with
  | .map (some r), .int .i64 n => mapA T t fun _ => ∃ b es cl, H r = some (.map b es cl) ∧ ∃ o, mget es n = o ∧ match o with
    | some _ => K .junk (H.set r (.map b (mput es n x) cl))
    | none => K .junk (H.set r (.map b (es ++ [⟨n, x, cl⟩]) (cl + 1)))
  | _, _ => False
def rangeA (T : TT) (t : TypeId) (m : AV) (H : AH) (K : AV → AH → Prop) : Prop :=
  match m with
  | .map (some r) => mapA T t fun _ => ∃ b es cl, H r = some (.map b es cl) ∧ ∀ c bi, H c = none → K (.ptr c 0 0) (H.set c (.obj bi (.mapIter (some b) cl #[] cl)))
  | _ => False
def nextA (it : AV) (H : AH) (K : AV → AH → Prop) : Prop :=
  match it with
  | .ptr c 0 0 => ∃ bi b since seen st r es cl, H c = some (.obj bi (.mapIter (some b) since seen st)) ∧ H r = some (.map b es cl) ∧ (seen = #[] ∨ es = [] ∨ ∃ x, x ∈ es ∧ x.b < st) ∧
      (∀ x, x ∈ es → ¬ x.b ∈ seen → K (.tup [.bool true, .int .i64 x.k, x.v]) (H.set c (.obj bi (.mapIter (some b) since (seen.push x.b) cl)))) ∧
      ((∀ x, x ∈ es → x.b < since → x.b ∈ seen) → K (.tup [.bool false]) H)
  | _ => False
def entryA (it : AV) (H : AH) (K : AV → AH → Prop) : Prop :=
  match it with
  | .ptr c 0 0 => ∃ bi b since seen r es cl x, H c = some (.obj bi (.mapIter (some b) since seen cl)) ∧ H r = some (.map b es cl) ∧ seen.back? = some x.b ∧ x ∈ es ∧ K (.tup [.int .i64 x.k, x.v]) H
  | _ => False
def clearS (esz : Nat) (ez : List AV) (r v es off len : Nat) (H : AH) (K : AV → AH → Prop) : Prop :=
  when (Nat.beq es esz) (((List.replicate len ez).flatten).all one = true ∧ ∃ cells, H r = some (.row cells v) ∧ off + len * esz ≤ cells.length ∧ K (.tup []) (H.set r (.row (wrA cells off (List.replicate len ez).flatten) v)))
def builtinA (T : TT) (b : Builtin) (ts : List TypeId) (xs : List AV) (H : AH) (K : AV → AH → Prop) : Prop :=
  match b, ts, xs with
  | .len, [t], [.map (some r)] => mapA T t fun _ => ∃ b es cl, H r = some (.map b es cl) ∧ K (.int .i64 es.length) H
  | .delete, [t, _], [.map (some r), .int .i64 n] => mapA T t fun _ => ∃ b es cl, H r = some (.map b es cl) ∧ K (.tup []) (H.set r (.map b (mdel es n) cl))
  | .clear, [t], [.map (some r)] => mapA T t fun _ => ∃ b es cl, H r = some (.map b es cl) ∧ K (.tup []) (H.set r (.map b [] cl))
  | .clear, [t], [.sl r v es off len lim] =>
    match T.get t with
    | some ⟨.slice _ esz _ ez, _, _, _⟩ => clearS esz ez r v es off len H K
    | _ => False
  | .len, [t], [x] => lenA ((T.get t).map (·.d)) x fun n => K (.int .i64 n) H
  | .append, [t, u], [s, x] =>
    match T.get t, T.get u with
    | some ⟨.slice _ esz eb _, _, _, _⟩, some ⟨.slice .., _, _, _⟩ => appendA esz eb s x H K
    | some ⟨.slice _ esz eb _, _, _, _⟩, some ⟨.str, _, _, _⟩ => appendA esz eb s x H K
    | some ⟨.slice _ esz eb _, _, _, _⟩, some ⟨.int _, _, _, _⟩ => appendZ esz eb s x H K
    | _, _ => False
  | .cap, [t], [.nils] => (match T.get t with
    | some ⟨.slice .., _, _, _⟩ => K (.int .i64 0) H
    | _ => False)
  | .copy, [t, _], [d, s] =>
    match T.get t with
    | some ⟨.slice _ esz _ _, _, _, _⟩ => copyA esz d s H K
    | _ => False
  | .max, _, xs => mmA true xs fun v => K v H
  | .min, _, xs => mmA false xs fun v => K v H
  | _, _, _ => False
def optOf (e : Env) : Option Operand → Option (Option Int)
  | none => some none
  | some x => match ev e x with | .int _ i => some (some i) | _ => none
def force (v : AV) (K : AV → Prop) : Prop :=
  match v with
  | .junk => K .junk
  | .int k n => K (.int k n)
  | .bool b => K (.bool b)
  | .str s => K (.str s)
  | .nilp => K .nilp
  | .ptr r v off => K (.ptr r v off)
  | .cp cells => K (.cp cells)
  | .nils => K .nils
  | .cs cells n => K (.cs cells n)
  | .sl r v es off len lim => K (.sl r v es off len lim)
  | .map r => K (.map r)
  | .fn f a c => K (.fn f a c)
  | .nilf => K .nilf
  | .agg cells => K (.agg cells)
  | .tup vs => K (.tup vs)
theorem force_eq (v : AV) (K : AV → Prop) : force v K = K v := by cases v <;> rfl
def forceL (l : List AV) (K : List AV → Prop) : Prop :=
  match l with
  | [] => K []
  | c :: r => force c fun c => forceL r fun r => K (c :: r)
theorem forceL_eq : ∀ (l : List AV) (K : List AV → Prop), forceL l K = K l
  | [], K => rfl
  | c :: r, K => by rw [forceL, force_eq, forceL_eq r]
def opA (T : TT) (o : Op) (e : Env) (H : AH) (K : AV → AH → Prop) : Prop :=
  match o with
  | .move x => K (ev e x) H
  | .assign x => K (ev e x) H
  | .pick c a b => match ev e c with | .bool t => K (cond t (ev e a) (ev e b)) H | _ => False
  | .alloc t => match T.get t with | some tr => ∀ r, H r = none → K (.ptr r 0 0) (H.set r (.row tr.zero 0)) | none => False
  | .box _ x => match cellsOf (ev e x) with | some l => ∀ r, H r = none → K (.ptr r 0 0) (H.set r (.row l 0)) | none => False
  | .build t parts =>
    match T.get t with
    | some ⟨.struct fs, _, _, z⟩ => (match fillA (fun i => (fs[i]?).map fun p => (p.1, p.2.1)) z (parts.toList.map fun p => (p.1, ev e p.2)) with | some cells => (forceL cells fun cells => K (.agg cells) H) ∨ K (.agg cells) H | none => False)
    | some ⟨.array _ _ esz _, _, _, z⟩ => (match fillA (fun i => some (i * esz, esz)) z (parts.toList.map fun p => (p.1, ev e p.2)) with | some cells => (forceL cells fun cells => K (.agg cells) H) ∨ K (.agg cells) H | none => False)
    | _ => False
  | .buildSlice t len parts =>
    match T.get t with
    | some ⟨.slice _ esz _ ez, _, _, _⟩ =>
      (match fillA (fun i => some (i * esz, esz)) ((List.replicate len ez).flatten) (parts.toList.map fun p => (p.1, ev e p.2)) with
       | some cells => when (Nat.ble (len * esz) 16777216) ((forceL cells fun cells => K (.cs cells len) H) ∨ (∀ r, H r = none → K (.sl r 0 esz 0 len none) (H.set r (.row cells 0))) ∨ (len = 0 ∧ K .nils H))
       | none => False)
    | _ => False
  | .load t a => match T.get t with | some tr => loadA tr (ev e a) H fun v => K v H | none => False
  | .store t a x => match T.get t with | some tr => storeA tr (ev e a) (ev e x) H fun H' => K .junk H' | none => False
  | .nilCheck x => match ev e x with | .ptr r v off => K (.ptr r v off) H | .cp cells => K (.cp cells) H | .fn (.func f) a c => K (.fn (.func f) a c) H | _ => False
  | .binOp op t x y _ => cond (isNilS y) (nilA op ((T.get t).map (·.d)) (ev e x) fun v => K v H) (aggB (T.get t) op (ev e x) (ev e y) fun v => K v H)
  | .unOp op _ x =>
    (match op, ev e x with
     | .neg, .int k n => ∀ c, c = k.wrap (0 - n) → K (.int k c) H
     | .xor, .int k n => ∀ c, c = bitsA .xor k (if k.signed then -1 else k.max) n → K (.int k c) H
     | .not, .bool b => K (.bool !b) H
     | _, _ => False)
  | .convert s d x => match T.get s, T.get d with | some sr, some dr => convA T dr.d sr.d (ev e x) H K | _, _ => False
  | .makeFunc f first captured => K (.fn f (first.toList.map (ev e)) (captured.toList.map (ev e))) H
  | .makeSlice t l c =>
    match T.get t, ev e l, ev e c with
    | some ⟨.slice _ esz eb ez, _, _, _⟩, .int _ l, .int _ c => 0 ≤ l ∧ l ≤ c ∧ c * eb ≤ 140737488355328 ∧ ∀ r, H r = none → K (.sl r 0 esz 0 l.toNat none) (H.set r (.row ((List.replicate l.toNat ez).flatten) 0))
    | _, _, _ => False
  | .slice t x lo hi mx =>
    match T.get t, optOf e lo, optOf e hi, optOf e mx with
    | some tr, some lo, some hi, some mx => sliceA tr.d (ev e x) lo hi mx fun v => K v H
    | _, _, _, _ => False
  | .fieldAddr t x f => match T.get t with | some ⟨.struct fs, _, _, _⟩ => fieldAddrA fs (ev e x) f fun v => K v H | _ => False
  | .field t x f =>
    match T.get t, ev e x with
    | some ⟨.struct fs, _, _, _⟩, .agg cells => (match fs[f]? with | some (off, size, agg) => when (agg || Nat.beq size 1) (off + size ≤ cells.length ∧ K (rdA agg size (cells.drop off)) H) | none => False)
    | _, _ => False
  | .indexAddr t x i => match T.get t with | some tr => indexAddrA tr.d (ev e x) (ev e i) fun v => K v H | none => False
  | .index t x i => match T.get t with | some tr => indexA tr.d (ev e x) (ev e i) fun v => K v H | none => False
  | .extract t i => match ev e t with | .tup vs => (match vs[i]? with | some v => K v H | none => False) | _ => False
  | .makeMap t none => mapA T t fun _ => ∀ r b, H r = none → K (.map (some r)) (H.set r (.map b [] 0))
  | .lookup t m i ok => lookupA' T t (ev e m) (ev e i) ok H K
  | .mapUpdate t m i x => updA T t (ev e m) (ev e i) (ev e x) H K
  | .range t m => rangeA T t (ev e m) H K
  | .next it false => nextA (ev e it) H K
  | .entry it => entryA (ev e it) H K
  | .call c => match c.callee with | .builtin b => builtinA T b c.argTypes.toList (c.args.toList.map (ev e)) H K | _ => False
  | _ => False
end Go.Fw
/- The frame of the abstract walk, part 4: each operation of the machine does what part 3 says. -/
set_option linter.unusedVariables false
set_option linter.unusedSimpArgs false
namespace Go.Fw
open Go.RowKit
variable {κ : KM} {F : FM} {B : Nat} {w0 w : World} {H : AH} {P : Program}
theorem VRs.one {a : AV} {v : Value} (h : VR κ F a v) : VRs κ F [a] #[v] :=
  ⟨rfl, fun i hi => by obtain rfl : i = 0 := by simpa using hi
                       simpa using h⟩
theorem VRs.nil : VRs κ F [] #[] := ⟨rfl, fun i hi => by simp at hi⟩
theorem cellsOf_ok {a : AV} {v : Value} {l : List AV} (h : VR κ F a v) (hl : cellsOf a = some l) : VRs κ F l v.cells := by
  cases h with
  | junk v => simp [cellsOf] at hl
  | agg hA h => simp only [cellsOf, Option.some.injEq] at hl; subst hl; exact ⟨hA, h⟩
  | _ => (simp only [cellsOf, Option.some.injEq] at hl; subst hl; refine VRs.one ?_; constructor <;> assumption)
theorem one_ok {a : AV} {v : Value} (h : VR κ F a v) (h1 : one a = true) : v.oneCell' = true := by
  cases h <;> first | rfl | (simp [Fw.one] at h1)
theorem of1_ok (v : Value) : VR κ F (AV.of1 v) v := by
  cases v with
  | int k n => exact .int k n
  | bool b => exact .bool b
  | string s => exact .str s.data.toList
  | pointer a => cases a with
    | none => exact .nilp
    | some a => exact .junk _
  | slice a n c =>
    cases a with
    | some a => exact .junk _
    | none => cases n with
      | succ n => exact .junk _
      | zero => cases c with
        | succ c => exact .junk _
        | zero => exact .nils none
  | map r => cases r with
    | none => exact .mapNil
    | some r => exact .junk _
  | nilFunc => exact .nilf
  | _ => exact .junk _
theorem ofValue_ok (v : Value) : VR κ F (AV.ofValue v) v := by
  have h1 := of1_ok (κ := κ) (F := F) v
  cases v with
  | agg A =>
    refine .agg (by simp) fun i hi => ?_
    have : i < A.size := by simpa using hi
    simp [Array.getD_eq_getD_getElem?, this]
    exact of1_ok _
  | _ => exact h1
theorem isZ_ok {a : AV} {v : Value} (h : a.isZ v = true) : VR κ F a v := by
  unfold AV.isZ at h
  split at h <;> first
    | (simp only [Bool.and_eq_true, beq_iff_eq] at h; obtain ⟨rfl, rfl⟩ := h; exact .int _ _)
    | (simp only [beq_iff_eq] at h; subst h; exact .bool _)
    | exact .nilp
    | exact .nils _
    | exact .mapNil
    | exact .nilf
    | exact .junk _
    | skip
  · rename_i s
    have : s = ⟨([] : List UInt8).toArray⟩ := by
      cases s with
      | mk d => simp only [List.isEmpty_iff] at h; have : d = #[] := by apply Array.ext'; simpa using h
                rw [this]
    rw [this]; exact .str []
  · cases h
theorem zerosOk_ok {l : List AV} {z : Value} (h : zerosOk l z = true) : VRs κ F l z.cells := by
  simp only [zerosOk, Bool.and_eq_true, beq_iff_eq, List.all_eq_true, List.mem_range] at h
  refine ⟨h.1.symm, fun i hi => ?_⟩
  have := isZ_ok (κ := κ) (F := F) (h.2 i hi)
  simpa [List.getD, hi] using this
theorem info_of {t : TypeId} {n : Nat} {z : List AV} (h : infoOk P t n z = true) : ∃ i v, P.info? t = some i ∧ i.size = n ∧ i.zero = some v ∧ zerosOk z v = true := by
  unfold infoOk at h
  split at h
  · rename_i i hi
    simp only [Bool.and_eq_true, beq_iff_eq] at h
    obtain ⟨h1, h2⟩ := h
    split at h2
    · rename_i v hv; exact ⟨i, v, hi, h1, hv, h2⟩
    · cases h2
  · cases h
theorem run_sizeOf {t : TypeId} {i : TypeInfo} (h : P.info? t = some i) (w : World) : (sizeOf t).run P w = .ok i.size w := by
  simp [sizeOf, typeInfo, h]
theorem run_zeroValue {t : TypeId} {i : TypeInfo} {v : Value} (h : P.info? t = some i) (hz : i.zero = some v) (w : World) : (zeroValue t).run P w = .ok v w := by
  simp [zeroValue, typeInfo, h, hz]
theorem run_isAgg {t : TypeId} {u : TypeDesc} (h : P.underlying t = some u) (w : World) : (isAgg t).run P w = .ok (isAggD u) w := by
  unfold isAgg
  simp only [Sem.run_bind, run_underlying h, Result.andThen_ok]
  cases u <;> rfl
structure TrFacts (P : Program) (t : TypeId) (tr : TR) where
  i : TypeInfo
  v : Value
  u : TypeDesc
  hi : P.info? t = some i
  hs : i.size = tr.size
  hz : i.zero = some v
  hzo : zerosOk tr.zero v = true
  hu : P.underlying t = some u
  ha : isAggD u = tr.agg
theorem tr_facts {t : TypeId} {tr : TR} (h : trOk P t tr = true) : Nonempty (TrFacts P t tr) := by
  unfold trOk at h
  simp only [Bool.and_eq_true] at h
  obtain ⟨h1, h2⟩ := h
  obtain ⟨i, v, hi, hs, hz, hzo⟩ := info_of h1
  cases hu : P.underlying t with
  | none => rw [hu] at h2; cases h2
  | some u =>
    rw [hu] at h2
    simp only [Bool.and_eq_true, beq_iff_eq] at h2
    exact ⟨⟨i, v, u, hi, hs, hz, hzo, hu, h2.1⟩⟩
theorem tr_int {t : TypeId} {k : IntKind} {n : Nat} {a : Bool} {z : List AV} (h : trOk P t ⟨.int k, n, a, z⟩ = true) : P.underlying t = some (.int k) := by
  unfold trOk at h
  simp only [Bool.and_eq_true] at h
  cases hu : P.underlying t with
  | none => rw [hu] at h; simp at h
  | some u => rw [hu] at h; cases u <;> simp at h; rw [h.2.2]
theorem tr_str {t : TypeId} {n : Nat} {a : Bool} {z : List AV} (h : trOk P t ⟨.str, n, a, z⟩ = true) : P.underlying t = some .string := by
  unfold trOk at h
  simp only [Bool.and_eq_true] at h
  cases hu : P.underlying t with
  | none => rw [hu] at h; simp at h
  | some u => rw [hu] at h; cases u <;> simp at h; rfl
theorem tr_slice {t e : TypeId} {esz eb : Nat} {ez : List AV} {n : Nat} {a : Bool} {z : List AV} (h : trOk P t ⟨.slice e esz eb ez, n, a, z⟩ = true) :
    P.underlying t = some (.slice e) ∧ (∃ i v, P.info? e = some i ∧ i.size = esz ∧ i.zero = some v ∧ zerosOk ez v = true ∧ i.bytes = eb) ∧ ez.length = esz ∧ esz ≠ 0 ∧ eb ≠ 0 := by
  unfold trOk at h
  simp only [Bool.and_eq_true] at h
  cases hu : P.underlying t with
  | none => rw [hu] at h; simp at h
  | some u =>
    rw [hu] at h
    cases u <;> simp at h
    obtain ⟨_, _, ⟨⟨⟨⟨he, hinf⟩, hb⟩, hl⟩, hne⟩, hbe⟩ := h
    obtain ⟨i, v, hi, hs, hz, hzo⟩ := info_of hinf
    obtain ⟨j, hj, hjb⟩ := hb
    rw [hi] at hj; cases hj
    exact ⟨by rw [he], ⟨i, v, hi, hs, hz, hzo, hjb⟩, hl, hne, hbe⟩
theorem tr_array {t e : TypeId} {len esz : Nat} {ea : Bool} {n : Nat} {a : Bool} {z : List AV} (h : trOk P t ⟨.array len e esz ea, n, a, z⟩ = true) :
    P.underlying t = some (.array len e) ∧ (∃ i, P.info? e = some i ∧ i.size = esz) ∧ esz ≠ 0 ∧ ∃ u, P.underlying e = some u ∧ isAggD u = ea := by
  unfold trOk at h
  simp only [Bool.and_eq_true] at h
  cases hu : P.underlying t with
  | none => rw [hu] at h; simp at h
  | some u =>
    rw [hu] at h
    cases u <;> simp at h
    obtain ⟨_, _, ⟨⟨⟨hn, he⟩, hb⟩, hne⟩, hag⟩ := h
    subst hn; subst he
    obtain ⟨j, hj, hjb⟩ := hb
    cases hue : P.underlying e with
    | none => rw [hue] at hag; cases hag
    | some u => rw [hue] at hag; exact ⟨rfl, ⟨j, hj, hjb⟩, hne, u, rfl, by simpa using hag⟩
theorem tr_struct {t : TypeId} {fs : List (Nat × Nat × Bool)} {n : Nat} {a : Bool} {z : List AV} (h : trOk P t ⟨.struct fs, n, a, z⟩ = true) :
    ∃ fields, P.underlying t = some (.struct fields) ∧ fields.size = fs.length ∧ ∀ (j : Nat) (p : Nat × Nat × Bool), fs[j]? = some p →
      ∃ (f : Field) (i : TypeInfo) (u : TypeDesc), fields[j]? = some f ∧ f.offset = p.1 ∧ P.info? f.type = some i ∧ i.size = p.2.1 ∧ p.2.1 ≠ 0 ∧ P.underlying f.type = some u ∧ isAggD u = p.2.2 := by
  unfold trOk at h
  simp only [Bool.and_eq_true] at h
  cases hu : P.underlying t with
  | none => rw [hu] at h; simp at h
  | some u =>
    rw [hu] at h
    cases u <;> simp at h
    rename_i fields
    obtain ⟨_, _, h⟩ := h
    simp only [fieldsOk, Bool.and_eq_true, beq_iff_eq, List.all_eq_true, List.mem_range] at h
    refine ⟨fields, rfl, h.1, fun j p hp => ?_⟩
    have hj : j < fs.length := (List.getElem?_eq_some_iff.1 hp).1
    have hf : j < fields.size := by rw [h.1]; exact hj
    have hh := h.2 j hj
    have e1 : fs.getD j (0, 0, false) = p := by simp [List.getD, hp]
    have e2 : fields.getD j default = fields[j] := by simp [Array.getD_eq_getD_getElem?, hf]
    rw [e1, e2] at hh
    obtain ⟨⟨⟨ho, hs⟩, hne⟩, hag⟩ := hh
    obtain ⟨i, hi, hiz⟩ : ∃ i, P.info? fields[j].type = some i ∧ i.size = p.2.1 := by
      cases hx : P.info? fields[j].type with
      | none => rw [hx] at hs; simp at hs
      | some i => rw [hx] at hs; exact ⟨i, rfl, by simpa using hs⟩
    cases hue : P.underlying fields[j].type with
    | none => rw [hue] at hag; cases hag
    | some u => rw [hue] at hag; exact ⟨fields[j], i, u, by simp [hf], ho, hi, hiz, by simpa using hne, hue, by simpa using hag⟩
theorem Addr.add_mk (b o n : Nat) : (⟨b, o, none⟩ : Addr).add n = ⟨b, o + n, none⟩ := by
  unfold Addr.add; split <;> simp_all
theorem rdA_ok {cells : List AV} {off size : Nat} {agg : Bool} {f : Nat → Value} (hlen : off + size ≤ cells.length) (hs : agg = false → size = 1)
    (h : ∀ j (hj : j < cells.length), VR κ F cells[j] (f j)) :
    VR κ F (rdA agg size (cells.drop off)) (if agg then .agg ((List.range size).map fun j => f (off + j)).toArray else f off) := by
  cases agg with
  | true =>
    refine .agg (by simp; omega) fun i hi => ?_
    have hi' : i < size := by simp at hi; omega
    have := h (off + i) (by omega)
    simpa [Array.getD_eq_getD_getElem?, hi'] using this
  | false =>
    have h1 := hs rfl
    have := h off (by omega)
    have e : (cells.drop off).headD .junk = cells[off]'(by omega) := by
      rw [List.drop_eq_getElem_cons (by omega)]; rfl
    simp only [rdA, e, cond_false, Bool.false_eq_true, if_false]
    exact this
theorem run_loadVar {t : TypeId} {tr : TR} (T : TrFacts P t tr) {a : Addr} {f : Nat → Value} (hs : tr.agg = false → tr.size = 1) (h : ∀ j, j < tr.size → w.cell? (a.add j) = some (f j)) :
    (loadVar t a).run P w = .ok (if tr.agg then .agg ((List.range tr.size).map f).toArray else f 0) w := by
  unfold loadVar
  simp only [Sem.run_bind, run_isAgg T.hu, Result.andThen_ok, T.ha]
  cases ha : tr.agg with
  | true => simp [run_sizeOf T.hi, T.hs, run_loadCells w a tr.size f h]
  | false =>
    have := h 0 (by rw [hs ha]; omega)
    have e : a.add 0 = a := by simp [Addr.add]
    rw [e] at this
    simp [this]
theorem VR.rowOf (I : Inv κ F B w0 H w) {r v off : Nat} {p : Value} {cells : List AV} (ha : VR κ F (.ptr r v off) p) (hH : H r = some (.row cells v)) :
    ∃ b i arr e fr, p = .pointer (some ⟨b, off, none⟩) ∧ κ r v = some i ∧ i.blk = some b ∧ B ≤ b ∧ F b = none ∧ w.heap[b]? = some (.cells arr e fr) ∧ Loose arr fr ∧ arr.size = i.cap * i.esz ∧
      cells.length ≤ arr.size ∧ (∀ j (hj : j < cells.length), VR κ F cells[j] (arr.getD j undef)) ∧ ∀ v', v < v' → κ r v' = none := by
  obtain ⟨i, hi, hrow, hn⟩ := I.objs _ _ hH
  cases ha with
  | ptr hk =>
    rw [hi] at hk
    cases hk
    obtain ⟨hB, hFb, arr, e, fr, h1, h2, h3, h4, h5⟩ := hrow
    exact ⟨_, _, arr, e, fr, rfl, hi, rfl, hB, hFb, h1, h2, h3, h4, h5, hn⟩
theorem aggOr {agg : Bool} {n : Nat} (h : (agg || Nat.beq n 1) = true) : agg = false → n = 1 := by
  intro e; rw [e] at h; exact Nat.eq_of_beq_eq_true (by simpa using h)
theorem loadA_ok {t : TypeId} {tr : TR} (T : TrFacts P t tr) (I : Inv κ F B w0 H w) {a : AV} {v : Value} {K : AV → Prop} (ha : VR κ F a v) (h0 : loadA tr a H K) :
    ∃ x y, (Instr.loadAt t v).run P w = .ok x w ∧ VR κ F y x ∧ K y := by
  have h := loadA_sound h0
  clear h0
  have go : ∀ (b off : Nat) (arr : Array Value) e fr (cells : List AV), w.heap[b]? = some (.cells arr e fr) → v = .pointer (some ⟨b, off, none⟩) → off + tr.size ≤ arr.size → (tr.agg = false → tr.size = 1) →
      (Instr.loadAt t v).run P w = .ok (if tr.agg then .agg ((List.range tr.size).map fun j => arr.getD (off + j) undef).toArray else arr.getD off undef) w := by
    intro b off arr e fr cells hh hv hsz hs
    subst hv
    have := run_loadVar (w := w) T (a := ⟨b, off, none⟩) (f := fun j => arr.getD (off + j) undef) hs (fun j hj => by rw [Addr.add_mk]; exact cell_of_heap hh _ (by omega))
    simpa [Instr.loadAt, Instr.sureAddr] using this
  cases a with
  | ptr r vv off =>
    obtain ⟨hs, cells, hH, hlen, hK⟩ := when_iff.1 h
    have hs := aggOr hs
    obtain ⟨b, i, arr, e, fr, rfl, _, _, _, _, h1, _, _, h4, h5, _⟩ := VR.rowOf I ha hH
    exact ⟨_, _, go b off arr e fr cells h1 rfl (by omega) hs, rdA_ok hlen hs (f := fun j => arr.getD j undef) h5, hK⟩
  | cp cells =>
    obtain ⟨hs, hlen, hK⟩ := when_iff.1 h
    have hs := aggOr hs
    cases ha with
    | cp hF hle hc =>
      rename_i b off arr
      obtain ⟨e, fr, h1⟩ := I.fz _ _ hF
      refine ⟨_, _, go b off arr e fr cells h1 rfl (by omega) hs, ?_, hK⟩
      have := rdA_ok (off := 0) (size := tr.size) (agg := tr.agg) (cells := cells) (f := fun j => arr.getD (off + j) undef) (by omega) hs hc
      simpa using this
  | _ => exact h.elim
theorem wrA_length (cells new : List AV) (off : Nat) (h : off + new.length ≤ cells.length) : (wrA cells off new).length = cells.length := by
  simp [wrA]; omega
theorem wrA_getElem (cells new : List AV) (off : Nat) (h : off + new.length ≤ cells.length) (j : Nat) (hj : j < (wrA cells off new).length) :
    (wrA cells off new)[j] = if hh : off ≤ j ∧ j < off + new.length then new[j - off]'(by omega) else cells[j]'(by rw [wrA_length _ _ _ h] at hj; exact hj) := by
  have hl := wrA_length _ _ _ h
  simp only [wrA, List.getElem_append, List.length_take, List.length_append, List.getElem_take, List.getElem_drop]
  split
  · rename_i h1
    split
    · rename_i h2; rw [dif_neg (by omega)]
    · rename_i h2; rw [dif_pos (by omega)]; congr 1; omega
  · rename_i h1
    rw [dif_neg (by omega)]
    congr 1; omega
theorem wrA_ok {cells new : List AV} {arr : Array Value} {vs : List Value} {off : Nat} (hoff : off + new.length ≤ cells.length) (harr : cells.length ≤ arr.size) (hvs : vs.length = new.length)
    (h : ∀ j (hj : j < cells.length), VR κ F cells[j] (arr.getD j undef)) (hn : ∀ j (hj : j < new.length), VR κ F new[j] (vs[j]'(by omega))) :
    ∀ j (hj : j < (wrA cells off new).length), VR κ F (wrA cells off new)[j] ((splice arr off vs).getD j undef) := by
  intro j hj
  rw [wrA_getElem _ _ _ hoff]
  split
  · rename_i hh
    have := getD_splice_in vs arr off (j - off) (by omega) (by omega)
    rw [show off + (j - off) = j by omega] at this
    rw [this]; exact hn _ _
  · rename_i hh
    rw [getD_splice_out _ _ _ _ (by omega)]
    exact h _ _
theorem toList_getD {A : Array Value} {j : Nat} (h : j < A.toList.length) : A.toList[j] = A.getD j undef := by
  have : j < A.size := by simpa using h
  simp [Array.getD_eq_getD_getElem?, this]
theorem Inv.write (I : Inv κ F B w0 H w) {r v off : Nat} {cells new : List AV} {vs : List Value} {i : Inc} {b : Nat} (hH : H r = some (.row cells v)) (hi : κ r v = some i) (hb : i.blk = some b)
    (hoff : off + new.length ≤ cells.length) (hvs : vs.length = new.length) (hn : ∀ j (hj : j < new.length), VR κ F new[j] (vs[j]'(by omega))) (h1 : new.all one = true) :
    (storeCells ⟨b, off, none⟩ vs).run P w = .ok () (w.setCells b off vs) ∧ Inv κ F B w0 (H.set r (.row (wrA cells off new) v)) (w.setCells b off vs) := by
  obtain ⟨i', hi', hrow, hnx⟩ := I.objs _ _ hH
  rw [hi] at hi'; cases hi'
  simp only [RowOk, hb] at hrow
  obtain ⟨hB, hFb, arr, e, fr, hh, hl, hsz, hlen, hc⟩ := hrow
  have hone : ∀ x ∈ vs, x.oneCell' = true := by
    intro x hx
    obtain ⟨j, hj, rfl⟩ := List.getElem_of_mem hx
    exact one_ok (hn j (by omega)) (List.all_eq_true.1 h1 _ (List.getElem_mem (by omega)))
  refine ⟨?_, ?_⟩
  · have := run_storeCells_cells (P := P) b off vs 0 w (fun j hj => by rw [cell_of_heap hh _ (by omega)]; rfl) (fun j hj => frozen_of_heap hh hl _ (by omega)) hone
    simpa using this
  · refine I.turn hH hi hb rfl (fun k hk => heap_setCells_ne b k hk vs off w) (size_setCells b vs off w) (below_setCells b hB vs off w I.below) ?_
    refine ⟨i, hi, ?_, hnx⟩
    simp only [RowOk, hb]
    refine ⟨hB, hFb, splice arr off vs, e, fr, heap_setCells_eq b e fr vs off arr w hh, ?_, by rw [size_splice]; exact hsz, by rw [size_splice, wrA_length _ _ _ hoff]; exact hlen, wrA_ok hoff hlen hvs hc hn⟩
    intro j hj; rw [size_splice] at hj; exact hl j hj
theorem storeA_ok {t : TypeId} {tr : TR} (T : TrFacts P t tr) (I : Inv κ F B w0 H w) {a x : AV} {va vx : Value} {K : AH → Prop} (ha : VR κ F a va) (hx : VR κ F x vx) (h : storeA tr a x H K) :
    ∃ w' H', (Instr.storeAt t va vx).run P w = .ok () w' ∧ Inv κ F B w0 H' w' ∧ K H' := by
  cases a with
  | ptr r v off =>
    obtain ⟨cells, hH, hlen, h⟩ := h
    cases hl : cellsOf x with
    | none => rw [hl] at h; exact h.elim
    | some l =>
      rw [hl] at h
      obtain ⟨hsz, h1, hK⟩ := h
      obtain ⟨hs, hc⟩ := cellsOf_ok hx hl
      obtain ⟨b, i, arr, e, fr, rfl, hi, hb, _⟩ := VR.rowOf I ha hH
      have hvs : vx.cells.toList.length = l.length := by simpa using hs
      have hn : ∀ j (hj : j < l.length), VR κ F l[j] (vx.cells.toList[j]'(by omega)) := fun j hj => by rw [toList_getD]; exact hc j hj
      obtain ⟨hrun, hI⟩ := I.write (P := P) (off := off) (new := l) (vs := vx.cells.toList) hH hi hb (by omega) hvs hn h1
      refine ⟨_, _, ?_, hI, hK⟩
      unfold Instr.storeAt storeVar
      simp only [Instr.sureAddr, Sem.run_bind, Sem.run_pure, Result.andThen_ok, run_sizeOf T.hi, T.hs]
      rw [if_neg (by omega)]
      simpa using hrun
  | _ => exact h.elim
end Go.Fw
/- The frame of the abstract walk, part 5: addresses, slices, append and the other operations. -/
set_option linter.unusedVariables false
set_option linter.unusedSimpArgs false
namespace Go.Fw
open Go.RowKit
variable {κ : KM} {F : FM} {B : Nat} {w0 w : World} {H : AH} {P : Program}
theorem asIntOf_run (k : IntKind) (n : Int) (w : World) : (asIntOf (.int k n)).run P w = .ok (k, n) w := rfl
theorem fieldAddrA_ok {t : TypeId} {fs : List (Nat × Nat × Bool)} {n : Nat} {ag : Bool} {z : List AV} (hT : trOk P t ⟨.struct fs, n, ag, z⟩ = true) {a : AV} {v : Value} {f : Nat} {K : AV → Prop}
    (ha : VR κ F a v) (h : fieldAddrA fs a f K) : ∃ x y, (Instr.fieldAt t v f).run P w = .ok x w ∧ VR κ F y x ∧ K y := by
  obtain ⟨fields, hu, hsz, hf⟩ := tr_struct hT
  unfold fieldAddrA at h
  cases hp : fs[f]? with
  | none => rw [hp] at h; exact h.elim
  | some p =>
    obtain ⟨fd, i, u, hfd, ho, hi, his, hne, _⟩ := hf f p hp
    have run : ∀ b off, v = .pointer (some ⟨b, off, none⟩) → (Instr.fieldAt t v f).run P w = .ok (.pointer (some ⟨b, off + p.1, none⟩)) w := by
      intro b off hv
      subst hv
      have hs : (sizeOf fd.type).run P w = .ok p.2.1 w := by rw [run_sizeOf hi, his]
      unfold Instr.fieldAt
      simp only [Sem.run_bind, run_underlying hu, Result.andThen_ok, hfd, Instr.sureAddr, Sem.run_pure, fieldPlace, hs]
      rw [if_neg hne]
      simp [Addr.add_mk, ho]
    rw [hp] at h
    cases a with
    | ptr r vv off =>
      cases ha with
      | ptr hk => exact ⟨_, _, run _ _ rfl, .ptr hk, h⟩
    | cp cells =>
      obtain ⟨hle, hK⟩ := h
      cases ha with
      | cp hF hlen hc =>
        refine ⟨_, _, run _ _ rfl, .cp hF (by simp; omega) (fun j hj => ?_), hK⟩
        have := hc (p.1 + j) (by simp at hj; omega)
        simpa [Nat.add_assoc] using this
    | _ => exact h.elim
theorem cs_drop {cells : List AV} {b off : Nat} {arr : Array Value} (hF : F b = some arr) (hle : off + cells.length ≤ arr.size)
    (hc : ∀ i (hi : i < cells.length), VR κ F cells[i] (arr.getD (off + i) undef)) (d : Nat) (hd : d ≤ cells.length) : VR κ F (.cp (cells.drop d)) (.pointer (some ⟨b, off + d, none⟩)) := by
  refine .cp hF (by simp; omega) fun j hj => ?_
  have := hc (d + j) (by simp at hj; omega)
  simpa [Nat.add_assoc] using this
theorem indexAddrA_ok {t : TypeId} {tr : TR} (hT : trOk P t tr = true) {a ix : AV} {v vi : Value} {K : AV → Prop}
    (ha : VR κ F a v) (hx : VR κ F ix vi) (h : indexAddrA tr.d a ix K) : ∃ x y, (Instr.indexAt t v vi).run P w = .ok x w ∧ VR κ F y x ∧ K y := by
  obtain ⟨d, n, ag, z⟩ := tr
  cases d with
  | slice e esz eb ez =>
    obtain ⟨hu, ⟨i, _, hi, his, _⟩, _, _, _⟩ := tr_slice hT
    have hs : (sizeOf e).run P w = .ok esz w := by rw [run_sizeOf hi, his]
    have run : ∀ b off len c k (m : Int), v = .slice (some ⟨b, off, none⟩) len c → vi = .int k m → 0 ≤ m → m < len → (Instr.indexAt t v vi).run P w = .ok (.pointer (some ⟨b, off + m.toNat * esz, none⟩)) w := by
      intro b off len c k m hv hvi h0 h1
      subst hv; subst hvi
      unfold Instr.indexAt
      simp [asIntOf_run, run_underlying hu, h0, h1, hs, Addr.add_mk]
    cases ix with
    | int k m =>
      cases hx
      cases a with
      | cs cells len =>
        obtain ⟨h0, h1, hle, hK⟩ := h
        cases ha with
        | cs0 a c => omega
        | cs hF hlen hcc hc => exact ⟨_, _, run _ _ _ _ _ _ rfl rfl h0 h1, cs_drop hF hlen hc _ hle, hK⟩
      | sl r vv es off len lim =>
        obtain ⟨_, h0, h1, hK⟩ := when_iff.1 h
        cases ha with
        | sl hk hoff hlo hc hlen hadr =>
          rcases hadr with hz | ⟨b, rfl, rfl⟩
          · omega
          · exact ⟨_, _, run _ _ _ _ _ _ rfl rfl h0 h1, .ptr hk, hK⟩
      | _ => exact h.elim
    | _ => cases a <;> exact h.elim
  | array len e esz ea =>
    obtain ⟨hu, ⟨i, hi, his⟩, _, _⟩ := tr_array hT
    have hs : (sizeOf e).run P w = .ok esz w := by rw [run_sizeOf hi, his]
    have run : ∀ b off k (m : Int), v = .pointer (some ⟨b, off, none⟩) → vi = .int k m → 0 ≤ m → m < len → (Instr.indexAt t v vi).run P w = .ok (.pointer (some ⟨b, off + m.toNat * esz, none⟩)) w := by
      intro b off k m hv hvi h0 h1
      subst hv; subst hvi
      unfold Instr.indexAt
      simp [asIntOf_run, run_underlying hu, h0, h1, hs, Addr.add_mk, Instr.sureAddr]
    cases ix with
    | int k m =>
      cases hx
      cases a with
      | cp cells =>
        obtain ⟨h0, h1, hle, hK⟩ := h
        cases ha with
        | cp hF hlen hc => exact ⟨_, _, run _ _ _ _ rfl rfl h0 h1, cs_drop hF hlen hc _ hle, hK⟩
      | ptr r vv off =>
        obtain ⟨h0, h1, hK⟩ := h
        cases ha with
        | ptr hk => exact ⟨_, _, run _ _ _ _ rfl rfl h0 h1, .ptr hk, hK⟩
      | _ => exact h.elim
    | _ => cases a <;> exact h.elim
  | _ => cases a <;> exact h.elim
theorem run_part {t : TypeId} {u : TypeDesc} {i : TypeInfo} {cells : List AV} {cs : Array Value} {off : Nat} (hu : P.underlying t = some u) (hi : P.info? t = some i)
    (hs : cs.size = cells.length) (hc : ∀ j (hj : j < cells.length), VR κ F cells[j] (cs.getD j undef)) (hlen : off + i.size ≤ cells.length) (h1 : isAggD u = false → i.size = 1) :
    ∃ x, (part t cs off).run P w = .ok x w ∧ VR κ F (rdA (isAggD u) i.size (cells.drop off)) x := by
  have hr := rdA_ok (κ := κ) (F := F) (off := off) (size := i.size) (agg := isAggD u) (f := fun j => cs.getD j undef) hlen h1 hc
  refine ⟨_, ?_, hr⟩
  unfold part
  simp only [Sem.run_bind, run_isAgg hu, Result.andThen_ok]
  cases hag : isAggD u with
  | true =>
    have e : cs.extract off (off + i.size) = ((List.range i.size).map fun j => cs.getD (off + j) undef).toArray := by
      apply Array.ext
      · simp; omega
      · intro j h2 h3
        have h4 : j < i.size := by simp at h3; exact h3
        simp [Array.getD_eq_getD_getElem?, show off + j < cs.size by omega]
    rw [← e]
    show ((sizeOf t >>= fun n => pure (Value.agg (cs.extract off (off + n)))).run P w) = _
    rw [Sem.run_bind, run_sizeOf hi]
    rfl
  | false =>
    have := h1 hag
    have e : cs[off]? = some (cs.getD off undef) := by simp [Array.getD_eq_getD_getElem?, show off < cs.size by omega]
    simp only [Bool.false_eq_true, if_false]
    rw [e]
    rfl
theorem indexA_ok {t : TypeId} {tr : TR} (hT : trOk P t tr = true) {a ix : AV} {v vi : Value} {K : AV → Prop}
    (ha : VR κ F a v) (hx : VR κ F ix vi) (h : indexA tr.d a ix K) : ∃ x y, (Instr.index t v vi).run P w = .ok x w ∧ VR κ F y x ∧ K y := by
  obtain ⟨d, n, ag, z⟩ := tr
  cases d with
  | str =>
    have hu := tr_str hT
    cases ix with
    | int k m =>
      cases hx
      cases a with
      | str s =>
        obtain ⟨h0, h1, hK⟩ := h
        cases ha
        have hlt : m.toNat < s.length := by omega
        refine ⟨.int .u8 (s.getD m.toNat 0).toNat, _, ?_, .int _ _, hK⟩
        unfold Instr.index
        have e : (⟨s.toArray⟩ : ByteArray)[m.toNat]? = some s[m.toNat] := by
          have : m.toNat < (⟨s.toArray⟩ : ByteArray).size := by simpa [ByteArray.size] using hlt
          rw [getElem?_pos (⟨s.toArray⟩ : ByteArray) m.toNat this]; rfl
        simp [asIntOf_run, run_underlying hu, h0, e, List.getD, hlt]
      | _ => exact h.elim
    | _ => cases a <;> exact h.elim
  | array len e esz ea =>
    obtain ⟨hu, ⟨i, hi, his⟩, _, u, hue, hag⟩ := tr_array hT
    cases ix with
    | int k m =>
      cases hx
      cases a with
      | agg cells =>
        obtain ⟨h0, h1, hle, hw⟩ := h
        obtain ⟨hs1, hK⟩ := when_iff.1 hw
        have hs1 := aggOr hs1
        cases ha with
        | agg hA hc =>
          rename_i A
          have hsz : (sizeOf e).run P w = .ok esz w := by rw [run_sizeOf hi, his]
          obtain ⟨x, hrun, hx⟩ := run_part (w := w) (off := m.toNat * esz) hue hi hA hc (by rw [his]; rw [Nat.succ_mul] at hle; exact hle) (by rw [hag, his]; exact hs1)
          refine ⟨x, _, ?_, ?_, hK⟩
          · unfold Instr.index
            simp [asIntOf_run, run_underlying hu, h0, h1, hsz, hrun]
          · rw [hag, his] at hx; exact hx
      | _ => exact h.elim
    | _ => cases a <;> exact h.elim
  | _ => cases a <;> exact h.elim
theorem fieldA_ok {t : TypeId} {fs : List (Nat × Nat × Bool)} {n : Nat} {ag : Bool} {z : List AV} (hT : trOk P t ⟨.struct fs, n, ag, z⟩ = true) {cells : List AV} {v : Value} {f : Nat} {off size : Nat} {agg : Bool} {K : AV → Prop}
    (ha : VR κ F (.agg cells) v) (hp : fs[f]? = some (off, size, agg)) (hlen : off + size ≤ cells.length) (h1 : agg = false → size = 1) (hK : K (rdA agg size (cells.drop off))) :
    ∃ x y, (Instr.field t v f).run P w = .ok x w ∧ VR κ F y x ∧ K y := by
  obtain ⟨fields, hu, hsz, hf⟩ := tr_struct hT
  obtain ⟨fd, i, u, hfd, ho, hi, his, hne, hue, hag⟩ := hf f _ hp
  cases ha with
  | agg hA hc =>
    rename_i A
    simp only at ho his hag
    obtain ⟨x, hrun, hx⟩ := run_part (w := w) (off := off) hue hi hA hc (by rw [his]; exact hlen) (by rw [hag, his]; exact h1)
    refine ⟨x, _, ?_, ?_, hK⟩
    · unfold Instr.field
      simp [run_underlying hu, hfd, asAgg, ho, hrun]
    · rw [hag, his] at hx; exact hx
end Go.Fw
/- The frame of the abstract walk, part 6: slices, append, copy, conversions. -/
set_option linter.unusedVariables false
set_option linter.unusedSimpArgs false
namespace Go.Fw
open Go.RowKit
variable {κ : KM} {F : FM} {B : Nat} {w0 w : World} {H : AH} {P : Program}
def OptV : Option Int → Option Value → Prop
  | none, none => True
  | some i, some v => ∃ k, v = .int k i
  | _, _ => False
theorem run_sliceBound (k : IntKind) (i : Int) (y : Nat) (c : BoundsCode) (h : 0 ≤ i ∧ i ≤ y) (w : World) : (Instr.sliceBound (.int k i) y c).run P w = .ok i.toNat w := by
  unfold Instr.sliceBound
  simp [asIntOf_run, h]
theorem run_sliceBounds {sl : Bool} {len cap : Nat} {lo hi mx : Option Int} {vlo vhi vmx : Option Value} (hlo : OptV lo vlo) (hhi : OptV hi vhi) (hmx : OptV mx vmx)
    (h0 : 0 ≤ lo.getD 0) (h1 : lo.getD 0 ≤ hi.getD len) (h2 : hi.getD len ≤ mx.getD cap) (h3 : mx.getD cap ≤ cap) (h4 : mx.isSome → hi.isSome) (w : World) :
    (Instr.sliceBounds sl len cap vlo vhi vmx).run P w = .ok ((lo.getD 0).toNat, (hi.getD len).toNat, (mx.getD cap).toNat) w := by
  unfold Instr.sliceBounds
  cases mx with
  | none =>
    cases vmx with
    | some v => exact hmx.elim
    | none =>
      cases hi with
      | none =>
        cases vhi with
        | some v => exact hhi.elim
        | none =>
          cases lo with
          | none => cases vlo with
            | some v => exact hlo.elim
            | none => simp
          | some l => cases vlo with
            | none => exact hlo.elim
            | some v =>
              obtain ⟨k, rfl⟩ := hlo
              simp at h0 h1 h2 h3
              have := run_sliceBound (P := P) k l len .sliceB ⟨h0, h1⟩ w
              simp [this]
      | some h =>
        cases vhi with
        | none => exact hhi.elim
        | some v =>
          obtain ⟨k, rfl⟩ := hhi
          simp at h0 h1 h2 h3
          have hh : ∀ c, (Instr.sliceBound (.int k h) cap c).run P w = .ok h.toNat w := fun c => run_sliceBound (P := P) k h cap c ⟨by omega, h2⟩ w
          cases lo with
          | none => cases vlo with
            | some v => exact hlo.elim
            | none => simp [hh]
          | some l => cases vlo with
            | none => exact hlo.elim
            | some v =>
              obtain ⟨k', rfl⟩ := hlo
              simp at h0 h1
              have := run_sliceBound (P := P) k' l h.toNat .sliceB ⟨h0, by omega⟩ w
              simp [hh, this]
  | some m =>
    cases vmx with
    | none => exact hmx.elim
    | some v =>
      obtain ⟨k0, rfl⟩ := hmx
      cases hi with
      | none => simp at h4
      | some h =>
        cases vhi with
        | none => exact hhi.elim
        | some v =>
          obtain ⟨k, rfl⟩ := hhi
          simp at h0 h1 h2 h3
          have hm : ∀ c, (Instr.sliceBound (.int k0 m) cap c).run P w = .ok m.toNat w := fun c => run_sliceBound (P := P) k0 m cap c ⟨by omega, h3⟩ w
          have hh : ∀ c, (Instr.sliceBound (.int k h) m.toNat c).run P w = .ok h.toNat w := fun c => run_sliceBound (P := P) k h m.toNat c ⟨by omega, by omega⟩ w
          cases lo with
          | none => cases vlo with
            | some v => exact hlo.elim
            | none => simp [hm, hh]
          | some l => cases vlo with
            | none => exact hlo.elim
            | some v =>
              obtain ⟨k', rfl⟩ := hlo
              simp at h0 h1
              have := run_sliceBound (P := P) k' l h.toNat .slice3C ⟨h0, by omega⟩ w
              simp [hm, hh, this]
theorem sliceA_ok {t : TypeId} {tr : TR} (hT : trOk P t tr = true) {a : AV} {v : Value} {lo hi mx : Option Int} {vlo vhi vmx : Option Value} {K : AV → Prop}
    (ha : VR κ F a v) (hlo : OptV lo vlo) (hhi : OptV hi vhi) (hmx : OptV mx vmx) (h0 : sliceA tr.d a lo hi mx K) :
    ∃ x y, (Instr.sliceAt t v vlo vhi vmx).run P w = .ok x w ∧ VR κ F y x ∧ K y := by
  have h := sliceA_sound h0
  clear h0
  obtain ⟨d, n, ag, z⟩ := tr
  cases d with
  | str =>
    have hu := tr_str hT
    cases a with
    | str s =>
      obtain ⟨h0, h1, h2, rfl, hK⟩ := h
      cases ha
      have hb := run_sliceBounds (P := P) (sl := false) (len := s.length) (cap := s.length) hlo hhi hmx h0 h1 (by simpa using h2) (by simp) (by simp) w
      refine ⟨.string ((⟨s.toArray⟩ : ByteArray).extract (lo.getD 0).toNat (hi.getD s.length).toNat), _, ?_, ?_, hK⟩
      · cases vmx with
        | some v => exact hmx.elim
        | none =>
          unfold Instr.sliceAt Instr.slice
          have e : (⟨s.toArray⟩ : ByteArray).size = s.length := by simp [ByteArray.size]
          simp [run_underlying hu, e, hb]
      · have e : (⟨s.toArray⟩ : ByteArray).extract (lo.getD 0).toNat (hi.getD s.length).toNat = ⟨((s.drop (lo.getD 0).toNat).take ((hi.getD s.length).toNat - (lo.getD 0).toNat)).toArray⟩ := by
          apply ByteArray.ext
          simp [ByteArray.data_extract]
        rw [e]; exact .str _
    | _ => exact h.elim
  | slice e esz eb ez =>
    obtain ⟨hu, ⟨i, _, hi', his, _⟩, _, hne, _⟩ := tr_slice hT
    have hs : ∀ w, (sizeOf e).run P w = .ok esz w := fun w => by rw [run_sizeOf hi', his]
    have run : ∀ adr len c, v = .slice adr len c → 0 ≤ lo.getD 0 → lo.getD 0 ≤ hi.getD len → hi.getD len ≤ mx.getD c → mx.getD c ≤ c → (mx.isSome → hi.isSome) →
        (Instr.sliceAt t v vlo vhi vmx).run P w = .ok (.slice (if (mx.getD c).toNat = (lo.getD 0).toNat then adr else adr.map (·.add ((lo.getD 0).toNat * esz))) ((hi.getD len).toNat - (lo.getD 0).toNat) ((mx.getD c).toNat - (lo.getD 0).toNat)) w := by
      intro adr len c hv h0 h1 h2 h3 h4
      subst hv
      have hb := run_sliceBounds (P := P) (sl := true) (len := len) (cap := c) hlo hhi hmx h0 h1 h2 h3 h4 w
      unfold Instr.sliceAt Instr.slice
      simp [run_underlying hu, hb, hs]
    cases a with
    | nils =>
      obtain ⟨h0, h1, h2, h3, hK⟩ := h
      cases ha with
      | nils adr =>
        refine ⟨_, _, run adr 0 0 rfl (by omega) (by simp; omega) (by simp; omega) (by simp; omega) h3, ?_, hK⟩
        simp only [h0, h1, h2, Int.natCast_zero] 
        simp
        exact .nils _
    | cs cells m =>
      rcases h with ⟨rfl, rfl, rfl, hK⟩ | ⟨h0, h1, h2, hl, hm, hK⟩
      · cases ha with
        | cs0 adr c =>
          refine ⟨_, _, run adr 0 c rfl (by simp) (by simp) (by simp) (by simp) (by simp), ?_, hK⟩
          simp
          exact .nils _
        | cs hF hle hc hcc =>
          rename_i b off c arr
          refine ⟨_, _, run _ m c rfl (by simp) (by simp) (by simp) (by simp) (by simp), ?_, hK⟩
          simp
          exact .nils _
      have hmx' : ∀ c : Nat, m ≤ c → hi.getD m ≤ mx.getD c ∧ mx.getD c ≤ c ∧ (mx.isSome → hi.isSome) := by
        intro c hc
        rcases hm with rfl | ⟨rfl, hsome⟩
        · simp; omega
        · cases mx with
          | none => cases hsome
          | some x => simp at h2 ⊢; omega
      cases ha with
      | cs0 adr c =>
        obtain ⟨g1, g2, g3⟩ := hmx' c (by omega)
        refine ⟨_, _, run adr 0 c rfl h0 h1 g1 g2 g3, ?_, hK⟩
        have e : (hi.getD ((0 : Nat) : Int)).toNat - (lo.getD 0).toNat = 0 := by omega
        rw [e]
        simp
        exact .cs0 _ _
      | cs hF hle hc hcc =>
        rename_i b off c arr
        obtain ⟨g1, g2, g3⟩ := hmx' c hc
        refine ⟨_, _, run _ m c rfl h0 h1 g1 g2 g3, ?_, hK⟩
        by_cases hz : (mx.getD c).toNat = (lo.getD 0).toNat
        · have e : (hi.getD (m : Int)).toNat - (lo.getD 0).toNat = 0 := by omega
          rw [e]; simp; exact .cs0 _ _
        · rw [if_neg hz]
          simp only [Option.map_some, Addr.add_mk]
          have hmul : (lo.getD 0).toNat * esz + ((hi.getD (m : Int)).toNat - (lo.getD 0).toNat) * esz ≤ m * esz := by
            rw [← Nat.add_mul]; exact Nat.mul_le_mul_right _ (by omega)
          refine .cs hF (by simp; omega) (by omega) fun j hj => ?_
          have hj' : j < cells.length - (lo.getD 0).toNat * esz := by simp at hj; omega
          have := hcc ((lo.getD 0).toNat * esz + j) (by omega)
          simpa [Nat.add_assoc] using this
    | sl r vv es off len lim =>
      rcases h with ⟨rfl, rfl, rfl, hK⟩ | h
      · cases ha with
        | sl hk hoff hlo' hc hlen hadr =>
          rename_i ob cap l0 adr c
          refine ⟨_, _, run adr len c rfl (by simp) (by simp) (by simp) (by simp) (by simp), ?_, hK⟩
          simp
          exact .nils _
      obtain ⟨rfl, h0, h1, h2, hK⟩ := when_beq h
      cases ha with
      | sl hk hoff hlo' hc hlen hadr =>
        rename_i ob cap l0 adr c
        have hcl : c ≤ cap - l0 := by
          cases lim with
          | none => exact Nat.le_of_eq hc
          | some m => have := hc.1; have := hc.2; omega
        have adrOk : ∀ m : Nat, (m = (lo.getD 0).toNat ∨ ∃ b, ob = some b ∧ (if m = (lo.getD 0).toNat then adr else adr.map (·.add ((lo.getD 0).toNat * es))) = some ⟨b, off + (lo.getD 0).toNat * es, none⟩) ∨ c = 0 := by
          intro m
          rcases hadr with hz | ⟨b, rfl, rfl⟩
          · exact .inr hz
          · by_cases e : m = (lo.getD 0).toNat
            · exact .inl (.inl e)
            · refine .inl (.inr ⟨b, rfl, ?_⟩)
              rw [if_neg e]; simp [Addr.add_mk]
        have hlo1 : l0 + (lo.getD 0).toNat ≤ cap := by omega
        have hoff1 : off + (lo.getD 0).toNat * es = (l0 + (lo.getD 0).toNat) * es := by rw [hoff, Nat.add_mul]
        cases mx with
        | none =>
          refine ⟨_, _, run adr len c rfl h0 h1 (by simp; omega) (by simp) (by simp), ?_, hK⟩
          refine .sl hk hoff1 hlo1 ?_ (by simp; omega) ?_
          · cases lim with
            | none => have : c = cap - l0 := hc; show _ = _; simp; omega
            | some m => obtain ⟨e1, e2⟩ := hc; refine ⟨?_, ?_⟩ <;> simp <;> omega
          · rcases adrOk (((none : Option Int).getD (c : Int)).toNat) with (e | ⟨b, hb, e⟩) | e
            · left; simp at e; simp; omega
            · exact .inr ⟨b, hb, e⟩
            · left; simp; omega
        | some m =>
          cases hi with
          | none => exact hK.elim
          | some hh =>
            obtain ⟨g1, g2, hK⟩ := hK
            simp at h1 h2
            refine ⟨_, _, run adr len c rfl h0 (by simpa using h1) (by simpa using g1) (by simp; omega) (by simp), ?_, hK⟩
            refine .sl hk hoff1 hlo1 ?_ (by simp; omega) ?_
            · refine ⟨?_, ?_⟩ <;> simp <;> omega
            · rcases adrOk (((some m : Option Int).getD (c : Int)).toNat) with (e | ⟨b, hb, e⟩) | e
              · left; simp at e; simp; omega
              · exact .inr ⟨b, hb, e⟩
              · left; simp; omega
    | _ => exact h.elim
  | _ => cases a <;> exact h.elim
end Go.Fw
/- The frame of the abstract walk, part 7: append, copy, conversions, what makes memory. -/
set_option linter.unusedVariables false
set_option linter.unusedSimpArgs false
namespace Go.Fw
open Go.RowKit
variable {κ : KM} {F : FM} {B : Nat} {w0 w : World} {H : AH} {P : Program}
theorem cell_heap {w w' : World} (h : w'.heap = w.heap) (a : Addr) : w'.cell? a = w.cell? a := by unfold World.cell?; rw [h]
theorem VR.slOf (I : Inv κ F B w0 H w) {r v es off len : Nat} {lim : Option Nat} {p : Value} {cells : List AV} (ha : VR κ F (.sl r v es off len lim) p) (hH : H r = some (.row cells v)) :
    ∃ i adr c, p = .slice adr len c ∧ κ r v = some i ∧ i.esz = es ∧ len ≤ c ∧ RowOk κ F B w cells i ∧ (∀ v', v < v' → κ r v' = none) ∧ (c = 0 ∨ ∃ b, i.blk = some b ∧ adr = some ⟨b, off, none⟩) ∧
      (∃ lo, off = lo * es ∧ lo ≤ i.cap ∧ limOk lim c (i.cap - lo)) := by
  obtain ⟨i, hi, hrow, hn⟩ := I.objs _ _ hH
  cases ha with
  | sl hk hoff hlo hc hlen hadr =>
    rename_i ob cap lo adr c
    rw [hi] at hk
    cases hk
    exact ⟨_, adr, c, rfl, hi, rfl, hlen, hrow, hn, hadr, lo, hoff, hlo, hc⟩
theorem run_firstCells_zero (esz n c : Nat) (a : Option Addr) (w : World) : (Builtin.firstCells esz 0 (.slice a n c)).run P w = .ok #[] w := by
  cases a with
  | none => rfl
  | some a => simp [Builtin.firstCells, loadCells, loadCellsFrom]
structure Src (κ : KM) (F : FM) (P : Program) (w : World) (esz : Nat) (v : Value) (n : Nat) (cells : List AV) (f : Nat → Value) : Prop where
  len : ∀ w', (Builtin.lenOf v).run P w' = .ok n w'
  size : cells.length = n * esz
  rel : ∀ j (hj : j < cells.length), VR κ F cells[j] (f j)
  first : ∀ w', w'.heap = w.heap → ∀ k, k ≤ n → (Builtin.firstCells esz k v).run P w' = .ok ((List.range (k * esz)).map f).toArray w'
theorem cellsA_ok (I : Inv κ F B w0 H w) {esz : Nat} {a : AV} {v : Value} {K : Nat → List AV → Prop} (ha : VR κ F a v) (h : cellsA esz a H K) :
    ∃ n cells f adr c, v = .slice adr n c ∧ Src κ F P w esz v n cells f ∧ K n cells := by
  have zero : ∀ (adr : Option Addr) (c : Nat), Src κ F P w esz (.slice adr 0 c) 0 [] (fun _ => undef) := fun adr c =>
    ⟨fun _ => rfl, by simp, fun j hj => by simp at hj, fun w' _ k hk => by
      have : k = 0 := by omega
      subst this
      have := run_firstCells_zero (P := P) esz 0 c adr w'
      simpa using this⟩
  cases a with
  | nils => cases ha with | nils adr => exact ⟨0, [], _, adr, 0, rfl, zero adr 0, h⟩
  | cs cells n =>
    obtain ⟨hl, hK⟩ := h
    cases ha with
    | cs0 adr c => exact ⟨0, [], _, adr, c, rfl, zero adr c, hK⟩
    | cs hF hle hc hcc =>
      rename_i b off c arr
      obtain ⟨e, fr, hh⟩ := I.fz _ _ hF
      refine ⟨n, cells, fun j => arr.getD (off + j) undef, _, c, rfl, ⟨fun _ => rfl, hl, hcc, fun w' hw k hk => ?_⟩, hK⟩
      have hk' : k * esz ≤ n * esz := Nat.mul_le_mul_right _ hk
      exact run_loadCells w' ⟨b, off, none⟩ (k * esz) _ (fun j hj => by rw [Addr.add_mk, cell_heap hw]; exact cell_of_heap hh _ (by omega))
  | sl r vv es off len lim =>
    obtain ⟨rfl, cells, hH, hlen, hK⟩ := when_beq h
    obtain ⟨i, adr, c, rfl, hi, he, hc, hrow, _, hadr, _⟩ := VR.slOf I ha hH
    rcases hadr with rfl | ⟨b, hb, rfl⟩
    · obtain rfl : len = 0 := by omega
      refine ⟨0, _, _, adr, 0, rfl, zero adr 0, ?_⟩
      simpa using hK
    · simp only [RowOk, hb] at hrow
      obtain ⟨_, _, arr, e, fr, hh, _, _, hle, hcc⟩ := hrow
      refine ⟨len, _, fun j => arr.getD (off + j) undef, _, c, rfl, ⟨fun _ => rfl, by simp; omega, fun j hj => ?_, fun w' hw k hk => ?_⟩, hK⟩
      · have hj' : j < len * es ∧ j < cells.length - off := by simp at hj; omega
        have := hcc (off + j) (by omega)
        simpa using this
      · have hk' : k * es ≤ len * es := Nat.mul_le_mul_right _ hk
        exact run_loadCells w' ⟨b, off, none⟩ (k * es) _ (fun j hj => by rw [Addr.add_mk, cell_heap hw]; exact cell_of_heap hh _ (by omega))
  | _ => exact h.elim
theorem srcA_ok (I : Inv κ F B w0 H w) {esz : Nat} {a : AV} {v : Value} {K : Nat → List AV → Prop} (ha : VR κ F a v) (h : srcA esz a H K) :
    ∃ n cells f, Src κ F P w esz v n cells f ∧ K n cells := by
  cases a with
  | str s =>
    obtain ⟨rfl, hK⟩ := when_beq h
    cases ha
    refine ⟨s.length, u8s s, fun j => .int .u8 (s.getD j 0).toNat, ⟨fun _ => ?_, by simp [u8s], fun j hj => ?_, fun w' _ k hk => ?_⟩, hK⟩
    · simp [Builtin.lenOf, ByteArray.size]
    · have : j < s.length := by simpa [u8s] using hj
      simp [u8s, List.getD, this]; exact .int _ _
    · have : ((⟨s.toArray⟩ : ByteArray).extract 0 k).data.map (fun b => Value.int .u8 (b.toNat : Int)) = ((List.range (k * 1)).map fun j => Value.int .u8 ((s.getD j 0).toNat : Int)).toArray := by
        apply Array.ext
        · simp [ByteArray.data_extract]; omega
        · intro j h1 h2
          have : j < k := by simp at h2; exact h2
          simp [ByteArray.data_extract, List.getD, show j < s.length by omega]
      show Result.ok _ _ = _
      rw [this]
  | _ =>
    obtain ⟨n, cells, f, adr, c, rfl, hs, hK⟩ := cellsA_ok (P := P) I ha h
    exact ⟨n, cells, f, hs, hK⟩
def plainSrc : TypeDesc → Bool
  | .slice _ => true
  | .string => true
  | _ => false
theorem zeroCells_size (z : Array Value) (n : Nat) : (Builtin.zeroCells z n).size = n * z.size := by simp [Builtin.zeroCells]
theorem grownCap_ge (w : World) (need old : Nat) (e : TypeId) : need ≤ grownCap w need old e := by
  unfold grownCap Question.cut; exact Nat.le_add_right _ _
theorem run_append_room {t u ty e : TypeId} {i : TypeInfo} {du : TypeDesc} (ht : P.underlying t = some (.slice e)) (hi : P.info? e = some i) (hu : P.underlying u = some du) (hp : plainSrc du = true)
    {base : Option Addr} {sLen sCap : Nat} {x : Value} {n : Nat} {f : Nat → Value} (hlen : (Builtin.lenOf x).run P w = .ok n w) (hf : (Builtin.firstCells i.size n x).run P w = .ok ((List.range (n * i.size)).map f).toArray w)
    (hroom : sLen + n ≤ sCap) {w' : World} (hst : ∀ a, base = some a → (storeCells (a.add (sLen * i.size)) ((List.range (n * i.size)).map f)).run P w = .ok () w') (hno : base = none → w' = w) :
    (Builtin.append_ #[t, u] ty #[.slice base sLen sCap, x]).run P w = .ok (.slice base (sLen + n) sCap) w' := by
  unfold Builtin.append_
  cases base with
  | none =>
    obtain rfl := hno rfl
    cases du <;> first | (exfalso; simp [plainSrc] at hp; done) | simp [run_underlying ht, run_underlying hu, run_sizeOf hi, hlen, hf, hroom]
  | some a =>
    have := hst a rfl
    cases du <;> first | (exfalso; simp [plainSrc] at hp; done) | simp [run_underlying ht, run_underlying hu, run_sizeOf hi, hlen, hf, hroom, this]
theorem run_append_grown {t u ty e : TypeId} {i : TypeInfo} {z : Value} {du : TypeDesc} (ht : P.underlying t = some (.slice e)) (hi : P.info? e = some i) (hz : i.zero = some z) (hu : P.underlying u = some du) (hp : plainSrc du = true)
    {base : Option Addr} {sLen sCap : Nat} {x : Value} {n : Nat} {f : Nat → Value} {olds : Array Value} (hlen : (Builtin.lenOf x).run P w = .ok n w)
    (hf : (Builtin.firstCells i.size n x).run P w.drew = .ok ((List.range (n * i.size)).map f).toArray w.drew) (hold : (Builtin.firstCells i.size sLen (.slice base sLen sCap)).run P w.drew = .ok olds w.drew)
    (hroom : sCap < sLen + n) (hb : i.bytes ≠ 0) (hbytes : (sLen + n) * i.bytes ≤ 140737488355328) :
    (Builtin.append_ #[t, u] ty #[.slice base sLen sCap, x]).run P w = .ok (.slice (some ⟨w.heap.size, 0, none⟩) (sLen + n) (grownCap w (sLen + n) sCap e))
      (w.drew.alloc (.cells (olds ++ ((List.range (n * i.size)).map f).toArray ++ Builtin.zeroCells z.cells (grownCap w (sLen + n) sCap e - (sLen + n))) e)) := by
  have hn : ¬ (sLen + n ≤ sCap) := by omega
  have hle : sLen + n ≤ 140737488355328 := Nat.le_trans (Nat.le_mul_of_pos_right _ (Nat.pos_of_ne_zero hb)) hbytes
  have h63 : ¬ (9223372036854775807 < ((sLen : Int) + (n : Int))) := by omega
  have h48 : ¬ (281474976710656 < Builtin.nextslicecap (sLen + n) sCap * i.bytes) := by
    have := nextslicecap_le hroom
    have h2 : Builtin.nextslicecap (sLen + n) sCap * i.bytes ≤ 2 * (sLen + n) * i.bytes := Nat.mul_le_mul_right _ this
    rw [Nat.mul_assoc] at h2
    omega
  have hb0 : ¬ (i.bytes = 0) := hb
  unfold Builtin.append_
  cases du <;> first | (exfalso; simp [plainSrc] at hp; done) | simp [run_underlying ht, run_underlying hu, sizeOf, typeInfo, zeroValue, hi, hz, hlen, hf, hold, hn, h63, h48, hb0, Question.forced, newRow, grownCap]
end Go.Fw
/- The frame of the abstract walk, part 8: append, copy, conversions, what makes memory: the relation behind them. -/
set_option linter.unusedVariables false
set_option linter.unusedSimpArgs false
namespace Go.Fw
open Go.RowKit
variable {κ : KM} {F : FM} {B : Nat} {w0 w : World} {H : AH} {P : Program}
def Left (κ : KM) (F : FM) (B : Nat) (w0 : World) (K : AV → AH → Prop) (v : Value) (w' : World) : Prop :=
  ∃ y H' κ' F', KLe κ κ' ∧ FLe F F' ∧ Inv κ' F' B w0 H' w' ∧ VR κ' F' y v ∧ K y H'
theorem Left.same {K : AV → AH → Prop} {y : AV} {v : Value} (I : Inv κ F B w0 H w) (h : VR κ F y v) (hK : K y H) : Left κ F B w0 K v w :=
  ⟨y, H, κ, F, KLe.refl _, FLe.refl _, I, h, hK⟩
theorem newRow_cs (I : Inv κ F B w0 H w) {arr : Array Value} {e : TypeId} {fr : Nat × Nat} {n : Nat} {cells : List AV} (c : Nat) (hc0 : n ≤ c)
    (hlen : cells.length ≤ arr.size) (hc : ∀ j (hj : j < cells.length), VR κ F cells[j] (arr.getD j undef)) {K : AV → AH → Prop} (h : K (.cs cells n) H) (hl : Loose arr fr) :
    Left κ F B w0 K (.slice (some ⟨w.heap.size, 0, none⟩) n c) (w.alloc (.cells arr e fr)) := by
  obtain ⟨r, hr, hkr⟩ := I.fresh
  obtain ⟨hle, I'⟩ := I.newRow (e := e) (fr := fr) (r := r) (v := 0) (cap := arr.size) (esz := 1) (cells := cells) (arr := arr) hr (fun u _ => hkr u) hl (by simp) hlen hc
  obtain ⟨arr', _, _, _, hFle, I2⟩ := I'.freeze (AH.zC _ _ _) (KM.put_same ..) (b := w.heap.size) rfl
  obtain ⟨e', fr', hh⟩ := I2.fz w.heap.size arr' (by simp)
  have : arr' = arr := by
    rw [heap_alloc_new] at hh; cases hh; rfl
  subst this
  rw [AH.del_set _ _ _ hr] at I2
  exact ⟨_, _, _, _, hle, hFle, I2, .cs (arr := arr') (by simp) (by simpa using hlen) hc0 (fun j hj => by simpa using (hc j hj).mono hle hFle), h⟩
theorem map_range_getD (f : Nat → Value) (n j : Nat) (h : j < n) : (((List.range n).map f).toArray).getD j undef = f j := by
  simp [Array.getD_eq_getD_getElem?, h]
theorem loose_zero (arr : Array Value) : Loose arr (0, 0) := fun i _ => by simp
theorem rel_append {cells new : List AV} {A C : Array Value} (hA : A.size = cells.length) (h : ∀ j (hj : j < cells.length), VR κ F cells[j] (A.getD j undef)) {f : Nat → Value}
    (hn : ∀ j (hj : j < new.length), VR κ F new[j] (f j)) :
    ∀ j (hj : j < (cells ++ new).length), VR κ F (cells ++ new)[j] ((A ++ ((List.range new.length).map f).toArray ++ C).getD j undef) := by
  intro j hj
  simp only [List.length_append] at hj
  by_cases hlt : j < cells.length
  · have := h j hlt
    rw [List.getElem_append_left hlt]
    simp only [Array.getD_eq_getD_getElem?] at this ⊢
    rw [Array.getElem?_append_left (by simp; omega), Array.getElem?_append_left (by omega)]
    exact this
  · have h2 : j - cells.length < new.length := by omega
    have := hn (j - cells.length) h2
    rw [List.getElem_append_right (by omega)]
    simp only [Array.getD_eq_getD_getElem?]
    rw [Array.getElem?_append_left (by simp; omega), Array.getElem?_append_right (by omega), hA]
    simpa [h2] using this
theorem appendA_ok {t u ty e : TypeId} {esz eb : Nat} {ez : List AV} {n0 : Nat} {ag : Bool} {z0 : List AV} {du : TypeDesc} (hT : trOk P t ⟨.slice e esz eb ez, n0, ag, z0⟩ = true) (hu : P.underlying u = some du) (hp : plainSrc du = true)
    (I : Inv κ F B w0 H w) {s x : AV} {vs vx : Value} {K : AV → AH → Prop} (hs : VR κ F s vs) (hx : VR κ F x vx) (h : appendA esz eb s x H K) :
    ∃ v' w', (Builtin.append_ #[t, u] ty #[vs, vx]).run P w = .ok v' w' ∧ Left κ F B w0 K v' w' := by
  obtain ⟨ht, ⟨i, z, hi, his, hz, hzo, hib⟩, hezl, hesz, heb⟩ := tr_slice hT
  obtain ⟨n, new, f, S, h1, h⟩ := srcA_ok (P := P) I hx h
  subst his; subst hib
  have hzs : z.cells.size = i.size := by have := (zerosOk_ok (κ := κ) (F := F) hzo).1; omega
  have hrel : ∀ j (hj : j < new.length), VR κ F new[j] (f j) := S.rel
  have hsz := S.size
  cases s with
  | nils =>
    obtain ⟨hbytes, hK⟩ := h
    obtain ⟨r, hr, hkr⟩ := I.fresh
    cases hs with
    | nils adr =>
      by_cases hn : n = 0
      · subst hn
        obtain ⟨hle, I'⟩ := I.ghost i.size hr hkr
        have hnew : new = [] := List.length_eq_zero_iff.1 (by rw [hsz]; simp)
        have hrun := run_append_room (ty := ty) (w := w) (w' := w) ht hi hu hp (base := adr) (sLen := 0) (sCap := 0) (S.len w) (S.first w rfl 0 (Nat.le_refl _)) (by omega)
          (fun a _ => by simp [storeCells]) (fun _ => rfl)
        refine ⟨_, _, hrun, _, _, _, F, hle, FLe.refl _, I', ?_, by rw [hnew] at hK; exact hK r hr⟩
        exact .sl (KM.put_same ..) (lo := 0) (by simp) (by simp) (show _ = _ by simp) (by simp) (Or.inl rfl)
      · have hrun := run_append_grown (ty := ty) (w := w) ht hi hz hu hp (base := adr) (sLen := 0) (sCap := 0) (S.len w) (S.first w.drew rfl n (Nat.le_refl _))
          (run_firstCells_zero i.size 0 0 adr w.drew) (by omega) heb (by simpa using hbytes)
        rw [Nat.zero_add] at hrun
        have hcap := grownCap_ge w n 0 e
        obtain ⟨hle, I'⟩ := I.drew.newRow (e := e) (fr := (0, 0)) (r := r) (v := 0) (cap := grownCap w n 0 e) (esz := i.size) (cells := new)
          (arr := #[] ++ ((List.range (n * i.size)).map f).toArray ++ Builtin.zeroCells z.cells (grownCap w n 0 e - n)) hr (fun u _ => hkr u) (loose_zero _)
          (by simp [zeroCells_size, hzs, ← Nat.add_mul]; congr 1; omega) (by simp; omega)
          (by have := rel_append (κ := κ) (F := F) (cells := []) (new := new) (A := #[]) (C := Builtin.zeroCells z.cells (grownCap w n 0 e - n)) rfl (fun j hj => by simp at hj) hrel
              rw [hsz] at this; simpa using this)
        refine ⟨_, _, hrun, _, _, _, F, hle, FLe.refl _, I', ?_, hK r hr⟩
        exact .sl (KM.put_same ..) (lo := 0) (by simp) (by simp) (show _ = _ by simp) hcap (Or.inr ⟨_, rfl, rfl⟩)
  | sl r v es off len lim =>
    cases lim with
    | none =>
      obtain ⟨hst, cells, hH, hcl, hbytes, hK⟩ := when_iff.1 h
      simp only [Option.isNone_none, Bool.and_true, Bool.and_eq_true] at hst
      obtain ⟨hst1, hst2⟩ := hst
      obtain rfl := Nat.eq_of_beq_eq_true hst1
      obtain rfl := Nat.eq_of_beq_eq_true hst2
      obtain ⟨ic, adr, c, rfl, hki, hie, hlc, hrow, hnx, hadr, lo, hlo0, hlo, hlim⟩ := VR.slOf I hs hH
      obtain rfl : lo = 0 := by
        rcases Nat.eq_zero_or_pos lo with h0 | h0
        · exact h0
        · have := Nat.mul_pos h0 (Nat.pos_of_ne_zero hesz); omega
      have hcc : c = ic.cap := by have : c = ic.cap - 0 := hlim; omega
      have hput : κ.put r (v + 1) ic r (v + 1) = some ⟨ic.blk, ic.cap, i.size⟩ := by rw [KM.put_same, ← hie]
      by_cases hroom : len + n ≤ c
      · -- in place
        by_cases hc0 : c = 0
        · -- nothing there, nothing to come
          have hn : n = 0 := by omega
          have hl : len = 0 := by omega
          subst hn; subst hl
          have hnew : new = [] := List.length_eq_zero_iff.1 (by rw [hsz]; simp)
          have hrun := run_append_room (ty := ty) (w := w) (w' := w) ht hi hu hp (base := adr) (sLen := 0) (sCap := c) (S.len w) (S.first w rfl 0 (Nat.le_refl _)) (by omega)
            (fun a _ => by simp [storeCells]) (fun _ => rfl)
          obtain ⟨hle, I'⟩ := I.bump hH hki
          refine ⟨_, _, hrun, _, _, _, F, hle, FLe.refl _, ?_, ?_, hK⟩
          · rw [hnew, List.append_nil]; exact I'
          · exact .sl hput (lo := 0) (by simp) (by simp) (show c = ic.cap - 0 by omega) (by simp) (Or.inl hc0)
        · rcases hadr with h0 | ⟨b, hb, rfl⟩
          · exact absurd h0 hc0
          · simp only [RowOk, hb] at hrow
            obtain ⟨hB, hFb, arr, ee, fr, hh, hl, hasz, hle', hcv⟩ := hrow
            have hroomc : (len + n) * i.size ≤ arr.size := by rw [hasz, hie, ← hcc]; exact Nat.mul_le_mul_right _ hroom
            rw [Nat.add_mul] at hroomc
            have hvl : ((List.range (n * i.size)).map f).length = n * i.size := by simp
            have hone : ∀ x ∈ (List.range (n * i.size)).map f, x.oneCell' = true := by
              intro x hx
              obtain ⟨j, hj, rfl⟩ := List.mem_map.1 hx
              have hj' : j < new.length := by rw [hsz]; simpa using hj
              exact one_ok (hrel j hj') (List.all_eq_true.1 h1 _ (List.getElem_mem hj'))
            have hst := run_storeCells_cells (P := P) b (len * i.size) ((List.range (n * i.size)).map f) 0 w (fun j hj => by rw [cell_of_heap hh _ (by omega)]; rfl)
              (fun j hj => frozen_of_heap hh hl _ (by omega)) hone
            rw [Nat.add_zero] at hst
            have hrun := run_append_room (ty := ty) (w := w) (w' := w.setCells b (len * i.size) ((List.range (n * i.size)).map f)) ht hi hu hp (base := some ⟨b, 0, none⟩) (sLen := len) (sCap := c) (S.len w)
              (S.first w rfl n (Nat.le_refl _)) hroom (fun a ha => by cases ha; rw [Addr.add_mk, Nat.zero_add]; exact hst) (fun hz => by cases hz)
            obtain ⟨hle, I'⟩ := I.bump hH hki
            have hH' : (H.set r (.row cells (v + 1))) r = some (.row cells (v + 1)) := AH.zC _ _ _
            have hsp := heap_setCells_eq b ee fr ((List.range (n * i.size)).map f) (len * i.size) arr w hh
            have I2 := I'.turn (o' := .row (cells ++ new) (v + 1)) (w' := w.setCells b (len * i.size) ((List.range (n * i.size)).map f)) hH' (KM.put_same ..) hb rfl
              (fun k hk => heap_setCells_ne b k hk _ _ w) (size_setCells b _ _ w) (below_setCells b hB _ _ w I'.below) (by
                refine ⟨ic, KM.put_same .., ?_, fun u hu => by have hu : v + 1 < u := hu; simp only [KM.put]; rw [if_neg (by omega)]; exact hnx u (by omega)⟩
                simp only [RowOk, hb]
                refine ⟨hB, hFb, _, ee, fr, hsp, fun j hj => hl j (by rw [size_splice] at hj; exact hj), by rw [size_splice]; exact hasz, by rw [size_splice]; simp; omega, fun j hj => ?_⟩
                simp only [List.length_append] at hj
                by_cases hlt : j < cells.length
                · rw [List.getElem_append_left hlt, getD_splice_out _ _ _ _ (Or.inl (by omega))]
                  exact (hcv j hlt).mono hle (FLe.refl _)
                · have h2 : j - cells.length < new.length := by omega
                  have hg := getD_splice_in ((List.range (n * i.size)).map f) arr (len * i.size) (j - cells.length) (by omega) (by omega)
                  rw [List.getElem_append_right (by omega)]
                  rw [show len * i.size + (j - cells.length) = j by omega] at hg
                  rw [hg]
                  have := hrel _ h2
                  simpa using this.mono hle (FLe.refl _))
            rw [AH.zS] at I2
            refine ⟨_, _, hrun, _, _, _, F, hle, FLe.refl _, I2, ?_, hK⟩
            exact .sl hput (lo := 0) (by simp) (by simp) (show c = ic.cap - 0 by omega) hroom (Or.inr ⟨b, hb, rfl⟩)
      · -- a new block
        have hold : ∃ olds : Array Value, (Builtin.firstCells i.size len (.slice adr len c)).run P w.drew = .ok olds w.drew ∧ olds.size = cells.length ∧ ∀ j (hj : j < cells.length), VR κ F cells[j] (olds.getD j undef) := by
          rcases hadr with rfl | ⟨b, hb, rfl⟩
          · have hl : len = 0 := by omega
            subst hl
            exact ⟨#[], run_firstCells_zero _ _ _ _ _, by rw [hcl]; simp, fun j hj => by rw [hcl] at hj; simp at hj⟩
          · simp only [RowOk, hb] at hrow
            obtain ⟨hB, hFb, arr, ee, fr, hh, hl, hasz, hle', hcv⟩ := hrow
            refine ⟨((List.range (len * i.size)).map fun j => arr.getD j undef).toArray, ?_, by simp; omega, fun j hj => ?_⟩
            · exact run_loadCells w.drew ⟨b, 0, none⟩ (len * i.size) _ (fun j hj => by rw [Addr.add_mk, Nat.zero_add]; show w.cell? _ = _; exact cell_of_heap hh _ (by omega))
            · rw [map_range_getD _ _ _ (by omega)]; exact hcv j hj
        obtain ⟨olds, hfo, hos, hov⟩ := hold
        have hrun := run_append_grown (ty := ty) (w := w) ht hi hz hu hp (base := adr) (sLen := len) (sCap := c) (S.len w) (S.first w.drew rfl n (Nat.le_refl _)) hfo (by omega) heb hbytes
        have hcap := grownCap_ge w (len + n) c e
        obtain ⟨hle, I'⟩ := (I.drew.drop r).newRow (e := e) (fr := (0, 0)) (r := r) (v := v + 1) (cap := grownCap w (len + n) c e) (esz := i.size) (cells := cells ++ new)
          (arr := olds ++ ((List.range (n * i.size)).map f).toArray ++ Builtin.zeroCells z.cells (grownCap w (len + n) c e - (len + n))) (AH.del_same _ _) (fun u hu => hnx u (by omega)) (loose_zero _)
          (by simp [zeroCells_size, hzs, hos, hcl]; rw [← Nat.add_mul, ← Nat.add_mul]; congr 1; omega) (by simp; omega)
          (by have := rel_append (κ := κ) (F := F) (cells := cells) (new := new) (A := olds) (C := Builtin.zeroCells z.cells (grownCap w (len + n) c e - (len + n))) hos hov hrel
              rw [hsz] at this; exact this)
        rw [show (H.del r).set r (.row (cells ++ new) (v + 1)) = H.set r (.row (cells ++ new) (v + 1)) from by funext s; simp only [AH.set, AH.del]; split <;> rfl] at I'
        refine ⟨_, _, hrun, _, _, _, F, hle, FLe.refl _, I', ?_, hK⟩
        exact .sl (KM.put_same ..) (lo := 0) (by simp) (by simp) (show _ = _ by simp) hcap (Or.inr ⟨_, rfl, rfl⟩)
    | some m =>
      obtain ⟨hst, cells, hH, hcl, hbytes, hK1, hK2⟩ := when_iff.1 h
      simp only [Bool.and_eq_true] at hst
      obtain ⟨hst1, hst2⟩ := hst
      obtain rfl := Nat.eq_of_beq_eq_true hst1
      obtain rfl := Nat.eq_of_beq_eq_true hst2
      obtain ⟨ic, adr, c, rfl, hki, hie, hlc, hrow, hnx, hadr, lo, hlo0, hlo, hlim⟩ := VR.slOf I hs hH
      obtain rfl : lo = 0 := by
        rcases Nat.eq_zero_or_pos lo with h0 | h0
        · exact h0
        · have := Nat.mul_pos h0 (Nat.pos_of_ne_zero hesz); omega
      have hcc : c = m ∧ m ≤ ic.cap := by have : c = m ∧ m ≤ ic.cap - 0 := hlim; omega
      have hki' : κ r v = some ⟨ic.blk, ic.cap, i.size⟩ := by rw [hki, ← hie]
      by_cases hroom : len + n ≤ c
      · -- in place
        have hK := hK1 (by omega)
        by_cases hc0 : c = 0
        · -- nothing there, nothing to come
          have hn : n = 0 := by omega
          have hl : len = 0 := by omega
          subst hn; subst hl
          have hnew : new = [] := List.length_eq_zero_iff.1 (by rw [hsz]; simp)
          have hrun := run_append_room (ty := ty) (w := w) (w' := w) ht hi hu hp (base := adr) (sLen := 0) (sCap := c) (S.len w) (S.first w rfl 0 (Nat.le_refl _)) (by omega)
            (fun a _ => by simp [storeCells]) (fun _ => rfl)
          refine ⟨_, _, hrun, _, _, κ, F, KLe.refl _, FLe.refl _, ?_, ?_, hK⟩
          · rw [hnew, List.append_nil]
            have : H.set r (.row cells v) = H := by
              funext s; simp only [AH.set]; split
              · rename_i e; rw [e, hH]
              · rfl
            rw [this]; exact I
          · exact .sl hki' (lo := 0) (by simp) (by simp) (show c = m ∧ m ≤ ic.cap - 0 by omega) (by simp) (Or.inl hc0)
        · rcases hadr with h0 | ⟨b, hb, rfl⟩
          · exact absurd h0 hc0
          · simp only [RowOk, hb] at hrow
            obtain ⟨hB, hFb, arr, ee, fr, hh, hl, hasz, hle', hcv⟩ := hrow
            have hroomc : (len + n) * i.size ≤ arr.size := by rw [hasz, hie]; exact Nat.mul_le_mul_right _ (by omega)
            rw [Nat.add_mul] at hroomc
            have hvl : ((List.range (n * i.size)).map f).length = n * i.size := by simp
            have hone : ∀ x ∈ (List.range (n * i.size)).map f, x.oneCell' = true := by
              intro x hx
              obtain ⟨j, hj, rfl⟩ := List.mem_map.1 hx
              have hj' : j < new.length := by rw [hsz]; simpa using hj
              exact one_ok (hrel j hj') (List.all_eq_true.1 h1 _ (List.getElem_mem hj'))
            have hst := run_storeCells_cells (P := P) b (len * i.size) ((List.range (n * i.size)).map f) 0 w (fun j hj => by rw [cell_of_heap hh _ (by omega)]; rfl)
              (fun j hj => frozen_of_heap hh hl _ (by omega)) hone
            rw [Nat.add_zero] at hst
            have hrun := run_append_room (ty := ty) (w := w) (w' := w.setCells b (len * i.size) ((List.range (n * i.size)).map f)) ht hi hu hp (base := some ⟨b, 0, none⟩) (sLen := len) (sCap := c) (S.len w)
              (S.first w rfl n (Nat.le_refl _)) hroom (fun a ha => by cases ha; rw [Addr.add_mk, Nat.zero_add]; exact hst) (fun hz => by cases hz)
            have hsp := heap_setCells_eq b ee fr ((List.range (n * i.size)).map f) (len * i.size) arr w hh
            have I2 := I.turn (o' := .row (cells ++ new) v) (w' := w.setCells b (len * i.size) ((List.range (n * i.size)).map f)) hH hki hb rfl
              (fun k hk => heap_setCells_ne b k hk _ _ w) (size_setCells b _ _ w) (below_setCells b hB _ _ w I.below) (by
                refine ⟨ic, hki, ?_, hnx⟩
                simp only [RowOk, hb]
                refine ⟨hB, hFb, _, ee, fr, hsp, fun j hj => hl j (by rw [size_splice] at hj; exact hj), by rw [size_splice]; exact hasz, by rw [size_splice]; simp; omega, fun j hj => ?_⟩
                simp only [List.length_append] at hj
                by_cases hlt : j < cells.length
                · rw [List.getElem_append_left hlt, getD_splice_out _ _ _ _ (Or.inl (by omega))]
                  exact hcv j hlt
                · have h2 : j - cells.length < new.length := by omega
                  have hg := getD_splice_in ((List.range (n * i.size)).map f) arr (len * i.size) (j - cells.length) (by omega) (by omega)
                  rw [List.getElem_append_right (by omega)]
                  rw [show len * i.size + (j - cells.length) = j by omega] at hg
                  rw [hg]
                  have := hrel _ h2
                  simpa using this)
            refine ⟨_, _, hrun, _, _, κ, F, KLe.refl _, FLe.refl _, I2, ?_, hK⟩
            exact .sl hki' (lo := 0) (by simp) (by simp) (show c = m ∧ m ≤ ic.cap - 0 by omega) hroom (Or.inr ⟨b, hb, rfl⟩)
      · -- a new block
        have hK := hK2 (by omega)
        obtain ⟨q, hq, hkq⟩ := I.fresh
        have hold : ∃ olds : Array Value, (Builtin.firstCells i.size len (.slice adr len c)).run P w.drew = .ok olds w.drew ∧ olds.size = cells.length ∧ ∀ j (hj : j < cells.length), VR κ F cells[j] (olds.getD j undef) := by
          rcases hadr with rfl | ⟨b, hb, rfl⟩
          · have hl : len = 0 := by omega
            subst hl
            exact ⟨#[], run_firstCells_zero _ _ _ _ _, by rw [hcl]; simp, fun j hj => by rw [hcl] at hj; simp at hj⟩
          · simp only [RowOk, hb] at hrow
            obtain ⟨hB, hFb, arr, ee, fr, hh, hl, hasz, hle', hcv⟩ := hrow
            refine ⟨((List.range (len * i.size)).map fun j => arr.getD j undef).toArray, ?_, by simp; omega, fun j hj => ?_⟩
            · exact run_loadCells w.drew ⟨b, 0, none⟩ (len * i.size) _ (fun j hj => by rw [Addr.add_mk, Nat.zero_add]; show w.cell? _ = _; exact cell_of_heap hh _ (by omega))
            · rw [map_range_getD _ _ _ (by omega)]; exact hcv j hj
        obtain ⟨olds, hfo, hos, hov⟩ := hold
        have hrun := run_append_grown (ty := ty) (w := w) ht hi hz hu hp (base := adr) (sLen := len) (sCap := c) (S.len w) (S.first w.drew rfl n (Nat.le_refl _)) hfo (by omega) heb hbytes
        have hcap := grownCap_ge w (len + n) c e
        obtain ⟨hle, I'⟩ := I.drew.newRow (e := e) (fr := (0, 0)) (r := q) (v := 0) (cap := grownCap w (len + n) c e) (esz := i.size) (cells := cells ++ new)
          (arr := olds ++ ((List.range (n * i.size)).map f).toArray ++ Builtin.zeroCells z.cells (grownCap w (len + n) c e - (len + n))) hq (fun u _ => hkq u) (loose_zero _)
          (by simp [zeroCells_size, hzs, hos, hcl]; rw [← Nat.add_mul, ← Nat.add_mul]; congr 1; omega) (by simp; omega)
          (by have := rel_append (κ := κ) (F := F) (cells := cells) (new := new) (A := olds) (C := Builtin.zeroCells z.cells (grownCap w (len + n) c e - (len + n))) hos hov hrel
              rw [hsz] at this; exact this)
        refine ⟨_, _, hrun, _, _, _, F, hle, FLe.refl _, I', ?_, hK q hq⟩
        exact .sl (KM.put_same ..) (lo := 0) (by simp) (by simp) (show _ = _ by simp) hcap (Or.inr ⟨_, rfl, rfl⟩)
  | _ => exact h.elim
end Go.Fw
/- The frame of the abstract walk, part 9: copy, conversions, what makes memory. -/
set_option linter.unusedVariables false
set_option linter.unusedSimpArgs false
namespace Go.Fw
open Go.RowKit
variable {κ : KM} {F : FM} {B : Nat} {w0 w : World} {H : AH} {P : Program} {T : TT}
theorem copyA_ok {t u ty e : TypeId} {esz eb : Nat} {ez : List AV} {n0 : Nat} {ag : Bool} {z0 : List AV} (hT : trOk P t ⟨.slice e esz eb ez, n0, ag, z0⟩ = true)
    (I : Inv κ F B w0 H w) {d x : AV} {vd vx : Value} {K : AV → AH → Prop} (hd : VR κ F d vd) (hx : VR κ F x vx) (h : copyA esz d x H K) :
    ∃ v' w', (Builtin.copy_ #[t, u] ty #[vd, vx]).run P w = .ok v' w' ∧ Left κ F B w0 K v' w' := by
  obtain ⟨ht, ⟨i, z, hi, his, hz, hzo, hib⟩, hezl, hesz, heb⟩ := tr_slice hT
  obtain ⟨n, new, f, S, h1, h⟩ := srcA_ok (P := P) I hx h
  subst his; subst hib
  have hsz := S.size
  cases d with
  | nils =>
    cases hd with
    | nils adr =>
      refine ⟨.int .i64 0, w, ?_, Left.same I (.int _ _) h⟩
      unfold Builtin.copy_
      have hf := S.first w rfl 0 (by omega)
      cases adr <;> simp [run_underlying ht, S.len, run_sizeOf hi, hf, storeCells, goInt]
  | sl r v es off len lim =>
    obtain ⟨rfl, cells, hH, hlen, hK⟩ := when_beq h
    obtain ⟨ic, adr, c, rfl, hki, hie, hlc, hrow, hnx, hadr, lo, hlo0, hlo, hlim⟩ := VR.slOf I hd hH
    have hk : Nat.min n len ≤ n := Nat.min_le_left _ _
    have hk2 : Nat.min n len ≤ len := Nat.min_le_right _ _
    generalize hm : Nat.min n len = k at hk hk2 hK
    have hf := S.first w rfl k hk
    rcases hadr with h0 | ⟨b, hb, rfl⟩
    · have hk0 : k = 0 := by omega
      subst hk0
      have e : wrA cells off (new.take (0 * i.size)) = cells := by simp [wrA]
      have e2 : H.set r (.row cells v) = H := by funext s; simp only [AH.set]; split; · rename_i e; rw [e, hH]
                                                 · rfl
      rw [e, e2] at hK
      refine ⟨.int .i64 0, w, ?_, Left.same I (.int _ _) (by simpa using hK)⟩
      unfold Builtin.copy_
      cases adr <;> simp [run_underlying ht, S.len, run_sizeOf hi, hm, hf, storeCells, goInt]
    · have hks : k * i.size ≤ n * i.size := Nat.mul_le_mul_right _ hk
      have hks2 : k * i.size ≤ len * i.size := Nat.mul_le_mul_right _ hk2
      have hnl : (new.take (k * i.size)).length = k * i.size := by simp; omega
      obtain ⟨hst, I'⟩ := I.write (P := P) (off := off) (new := new.take (k * i.size)) (vs := (List.range (k * i.size)).map f) hH hki hb (by omega) (by rw [hnl]; simp)
        (fun j hj => by
          have hj' : j < k * i.size := by rw [hnl] at hj; exact hj
          have := S.rel j (by omega)
          simpa using this)
        (List.all_eq_true.2 fun x hx => List.all_eq_true.1 h1 x (List.mem_of_mem_take hx))
      refine ⟨.int .i64 (k : Nat), _, ?_, Left.same I' (.int _ _) hK⟩
      unfold Builtin.copy_
      simp [run_underlying ht, S.len, run_sizeOf hi, hm, hf, hst, goInt]
  | _ => exact h.elim
theorem u8s_getElem (bs : List UInt8) (j : Nat) (hj : j < (u8s bs).length) : (u8s bs)[j] = .int .u8 (bs[j]'(by simpa [u8s] using hj)).toNat := by simp [u8s]
theorem isU8_ok (hT : T.ok P = true) {e : TypeId} (h : isU8 T e = true) : P.underlying e = some (.int .u8) := by
  unfold isU8 at h
  split at h
  · rename_i hg; exact tr_int (TT.ok_get hT hg)
  · cases h
theorem convA_ok (hT : T.ok P = true) {s t : TypeId} {sr dr : TR} (hs : trOk P s sr = true) (hd : trOk P t dr = true)
    (I : Inv κ F B w0 H w) {x : AV} {v : Value} {K : AV → AH → Prop} (hx : VR κ F x v) (h : convA T dr.d sr.d x H K) :
    ∃ v' w', (convert s t v).run P w = .ok v' w' ∧ Left κ F B w0 K v' w' := by
  obtain ⟨sd, sn, sa, sz⟩ := sr
  obtain ⟨dd, dn, da, dz⟩ := dr
  cases dd with
  | int k =>
    cases sd with
    | int k' =>
      cases x with
      | int kx n =>
        cases hx
        refine ⟨.int k (k.wrap n), w, ?_, Left.same I (.int _ _) (h _ rfl)⟩
        simp [convert, run_underlying (tr_int hs), run_underlying (tr_int hd), Conv.intToInt]
      | _ => exact h.elim
    | _ => cases x <;> exact h.elim
  | str =>
    cases sd with
    | str =>
      cases x with
      | str s =>
        cases hx
        refine ⟨_, w, ?_, Left.same I (.str s) h⟩
        simp [convert, run_underlying (tr_str hs), run_underlying (tr_str hd)]
      | _ => exact h.elim
    | slice e esz eb ez =>
      obtain ⟨hw, hc⟩ := when_iff.1 (show when (isU8 T e && Nat.beq esz 1) (cellsA 1 x H (fun _ cells => ∃ bs, cells = u8s bs ∧ K (.str bs) H)) by cases x <;> exact h)
      simp only [Bool.and_eq_true] at hw
      obtain ⟨hu8, hw⟩ := hw
      obtain rfl := Nat.eq_of_beq_eq_true hw
      obtain ⟨n, cells, f, adr, c, rfl, S, bs, rfl, hK⟩ := cellsA_ok (P := P) I hx hc
      have hu := isU8_ok hT hu8
      have hsl := (tr_slice hs).1
      have hbl : bs.length = n := by have := S.size; simpa [u8s] using this
      refine ⟨.string ⟨bs.toArray⟩, w, ?_, Left.same I (.str bs) hK⟩
      rw [run_convert_bytes_string w s t e adr n c hsl hu (tr_str hd)]
      cases adr with
      | none =>
        have hf := S.first w rfl n (Nat.le_refl _)
        simp [Builtin.firstCells] at hf
        have : n = 0 := by omega
        subst this
        have : bs = [] := List.length_eq_zero_iff.1 hbl
        subst this
        rfl
      | some a =>
        have hf : (loadCells a n).run P w = .ok ((bs.map fun b => (b.toNat : Int)).map (Value.int .u8)).toArray w := by
          have := S.first w rfl n (Nat.le_refl _)
          simp only [Builtin.firstCells, Nat.mul_one] at this
          rw [this]
          congr 2
          apply List.ext_getElem
          · simp [hbl]
          · intro j h1 h2
            have hj : j < (u8s bs).length := by simp at h1; simp [u8s]; omega
            have hr := S.rel j hj
            rw [u8s_getElem] at hr
            generalize hfj : f j = fj at hr
            cases hr
            simp [hfj]
        rw [run_bytesToString w a n c _ hf, foldl_push_byteCells]
        simp
    | _ => cases x <;> exact h.elim
  | slice e esz eb ez =>
    cases sd with
    | str =>
      cases x with
      | str s =>
        obtain ⟨hw, hK⟩ := when_iff.1 h
        simp only [Bool.and_eq_true] at hw
        obtain ⟨hu8, hw⟩ := hw
        obtain rfl := Nat.eq_of_beq_eq_true hw
        cases hx
        have hu := isU8_ok hT hu8
        have hsl := (tr_slice hd).1
        have hrun := run_bytes_of_string (P := P) w _ t e ⟨s.toArray⟩ (tr_str hs) hsl hu
        obtain ⟨r, hr, hkr⟩ := I.fresh
        have hcap := grownCap_ge w (⟨s.toArray⟩ : ByteArray).size 0 e
        have hss : (⟨s.toArray⟩ : ByteArray).size = s.length := by simp [ByteArray.size]
        generalize hC : bytesRow ⟨s.toArray⟩ (grownCap w (⟨s.toArray⟩ : ByteArray).size 0 e) = C at hrun
        have hCs : C.size = grownCap w (⟨s.toArray⟩ : ByteArray).size 0 e := by rw [← hC]; simp [bytesRow]; omega
        have hloose : Loose C (C.size, C.size + 1) := fun j hj => by simp; omega
        have hcv : ∀ j (hj : j < (u8s s).length), VR κ F (u8s s)[j] (C.getD j undef) := fun j hj => by
          have hj' : j < s.length := by simpa [u8s] using hj
          rw [u8s_getElem, ← hC]
          simp [bytesRow, Array.getD_eq_getD_getElem?, hj', Array.getElem?_append_left]
          exact .int _ _
        rcases hK with hK | hK
        · refine ⟨_, _, hrun, ?_⟩
          have hle' : (u8s s).length ≤ C.size := by simp [u8s]; omega
          rw [hss] at hcap ⊢
          exact newRow_cs I.drew _ (by omega) hle' hcv hK hloose
        · obtain ⟨hle, I'⟩ := I.drew.newRow (e := e) (fr := (C.size, C.size + 1)) (r := r) (v := 0) (cap := C.size) (esz := 1) (cells := u8s s) (arr := C) hr (fun u _ => hkr u)
            hloose (by simp) (by simp [u8s]; omega) hcv
          refine ⟨_, _, hrun, _, _, _, F, hle, FLe.refl _, I', ?_, hK r hr⟩
          rw [hss] at hcap ⊢
          exact .sl (KM.put_same ..) (lo := 0) (by simp) (by simp) (show _ = _ by rw [hCs, hss]; simp) (by omega) (Or.inr ⟨_, rfl, rfl⟩)
      | _ => exact h.elim
    | _ => cases x <;> exact h.elim
  | _ => cases sd <;> cases x <;> exact h.elim
theorem newVar_ok (I : Inv κ F B w0 H w) (t : TypeId) {v : Value} {l : List AV} (hl : VRs κ F l v.cells) {K : AV → AH → Prop} (h : ∀ r, H r = none → K (.ptr r 0 0) (H.set r (.row l 0))) :
    ∃ w', (newVar t v).run P w = .ok ⟨w.heap.size, 0, none⟩ w' ∧ Left κ F B w0 K (.pointer (some ⟨w.heap.size, 0, none⟩)) w' := by
  obtain ⟨r, hr, hkr⟩ := I.fresh
  obtain ⟨hle, I'⟩ := I.newRow (e := t) (fr := (0, 0)) (r := r) (v := 0) (cap := 1) (esz := v.cells.size) (cells := l) (arr := v.cells) hr (fun u _ => hkr u) (loose_zero _) (by simp) (by rw [hl.1]; exact Nat.le_refl _) hl.2
  exact ⟨_, by simp [newVar, newRow], _, _, _, F, hle, FLe.refl _, I', .ptr (KM.put_same ..), h r hr⟩
theorem replicate_flatten_length (n : Nat) (z : List AV) : ((List.replicate n z).flatten).length = n * z.length := by
  induction n with
  | zero => simp
  | succ n ih => rw [List.replicate_succ, List.flatten_cons, List.length_append, ih, Nat.succ_mul]; omega
theorem replicate_flatten_getElem (z : List AV) : ∀ (n j : Nat) (hj : j < ((List.replicate n z).flatten).length) (hz : j % z.length < z.length), ((List.replicate n z).flatten)[j] = z[j % z.length]
  | 0, j, hj, _ => by simp at hj
  | n + 1, j, hj, hz => by
    have hp : 0 < z.length := by omega
    simp only [List.replicate_succ, List.flatten_cons]
    by_cases h : j < z.length
    · rw [List.getElem_append_left h]; simp only [Nat.mod_eq_of_lt h]
    · have hj' : j - z.length < ((List.replicate n z).flatten).length := by
        simp only [List.replicate_succ, List.flatten_cons, List.length_append] at hj; omega
      rw [List.getElem_append_right (by omega), replicate_flatten_getElem z n (j - z.length) hj' (by rw [← Nat.mod_eq_sub_mod (by omega)]; exact hz)]
      simp only [← Nat.mod_eq_sub_mod (show z.length ≤ j by omega)]
theorem zeros_ok {ez : List AV} {z : Value} (hz : zerosOk ez z = true) (hne : ez.length ≠ 0) (n m : Nat) (hm : n * ez.length ≤ m) (j : Nat) (hj : j < ((List.replicate n ez).flatten).length) :
    VR κ F ((List.replicate n ez).flatten)[j] (((Array.range m).map (z.cells[· % z.cells.size]!)).getD j undef) := by
  obtain ⟨h1, h2⟩ := zerosOk_ok (κ := κ) (F := F) hz
  have hj' := hj
  rw [replicate_flatten_length] at hj'
  have hlt : j % ez.length < ez.length := Nat.mod_lt _ (by omega)
  rw [replicate_flatten_getElem ez n j hj hlt]
  have := h2 _ hlt
  have hlt2 : j % z.cells.size < z.cells.size := by rw [h1]; exact hlt
  simp only [Array.getD_eq_getD_getElem?] at this ⊢
  rw [show ((Array.range m).map (z.cells[· % z.cells.size]!))[j]? = some (z.cells[j % z.cells.size]!) from by simp [show j < m by omega]]
  simpa [h1, getElem!_pos, hlt, hlt2, hne] using this
theorem clearS_ok {t ty e : TypeId} {esz eb : Nat} {ez : List AV} {n0 : Nat} {ag : Bool} {z0 : List AV} (hT : trOk P t ⟨.slice e esz eb ez, n0, ag, z0⟩ = true)
    (I : Inv κ F B w0 H w) {r v es off len : Nat} {lim : Option Nat} {vd : Value} {K : AV → AH → Prop} (hd : VR κ F (.sl r v es off len lim) vd) (h : clearS esz ez r v es off len H K) :
    ∃ v' w', (Builtin.clear_ #[t] ty #[vd]).run P w = .ok v' w' ∧ Left κ F B w0 K v' w' := by
  obtain ⟨ht, ⟨i, z, hi, his, hz, hzo, hib⟩, hezl, hesz, heb⟩ := tr_slice hT
  subst his; subst hib
  obtain ⟨rfl, h1, cells, hH, hlen, hK⟩ := when_beq h
  obtain ⟨ic, adr, c, rfl, hki, hie, hlc, hrow, hnx, hadr, lo, hlo0, hlo, hlim⟩ := VR.slOf I hd hH
  cases len with
  | zero =>
    have e : wrA cells off (List.replicate 0 ez).flatten = cells := by simp [wrA]
    have e2 : H.set r (.row cells v) = H := by funext s; simp only [AH.set]; split; · rename_i e; rw [e, hH]
                                               · rfl
    rw [e, e2] at hK
    refine ⟨.tuple #[], w, ?_, Left.same I (.tup rfl fun i hi => by simp at hi) hK⟩
    unfold Builtin.clear_
    cases adr <;> simp [run_underlying ht]
  | succ n =>
    rcases hadr with h0 | ⟨b, hb, rfl⟩
    · omega
    · have hnl : ((List.replicate (n + 1) ez).flatten).length = (n + 1) * i.size := by rw [replicate_flatten_length, hezl]
      have hzs : z.cells.size = i.size := by have := (zerosOk_ok (κ := κ) (F := F) hzo).1; omega
      obtain ⟨hst, I'⟩ := I.write (P := P) (off := off) (new := (List.replicate (n + 1) ez).flatten) (vs := (Builtin.zeroCells z.cells (n + 1)).toList) hH hki hb (by omega) (by rw [hnl, Array.length_toList, zeroCells_size, hzs])
        (fun j hj => by
          have hj' : j < (Builtin.zeroCells z.cells (n + 1)).size := by rw [zeroCells_size, hzs]; omega
          have := zeros_ok (κ := κ) (F := F) hzo (by omega) (n + 1) ((n + 1) * z.cells.size) (by rw [hzs, hezl]; exact Nat.le_refl _) j hj
          have e : (Builtin.zeroCells z.cells (n + 1)).toList[j]'(by simpa using hj') = ((Array.range ((n + 1) * z.cells.size)).map (z.cells[· % z.cells.size]!)).getD j undef := by
            rw [Array.getElem_toList, Array.getD_eq_getD_getElem?, ← show Builtin.zeroCells z.cells (n + 1) = (Array.range ((n + 1) * z.cells.size)).map (z.cells[· % z.cells.size]!) from rfl, Array.getElem?_eq_getElem hj']; rfl
          rw [e]; exact this) h1
      refine ⟨.tuple #[], _, ?_, Left.same I' (.tup rfl fun i hi => by simp at hi) hK⟩
      unfold Builtin.clear_
      simp [run_underlying ht, run_zeroValue hi hz, hst]
theorem makeSlice_ok {t e : TypeId} {esz eb : Nat} {ez : List AV} {n0 : Nat} {ag : Bool} {z0 : List AV} (hT : trOk P t ⟨.slice e esz eb ez, n0, ag, z0⟩ = true) (I : Inv κ F B w0 H w) {kl kc : IntKind} {l c : Int} {K : AV → AH → Prop}
    (h0 : 0 ≤ l) (h1 : l ≤ c) (h2 : c * eb ≤ 140737488355328) (h : ∀ r, H r = none → K (.sl r 0 esz 0 l.toNat none) (H.set r (.row ((List.replicate l.toNat ez).flatten) 0))) :
    ∃ v' w', (Instr.makeSlice t (.int kl l) (.int kc c)).run P w = .ok v' w' ∧ Left κ F B w0 K v' w' := by
  obtain ⟨ht, ⟨i, z, hi, his, hz, hzo, hib⟩, hezl, hesz, heb⟩ := tr_slice hT
  subst his; subst hib
  have hpos : (1 : Int) ≤ i.bytes := by omega
  have hc63 : c ≤ c * i.bytes := by
    have := Int.mul_le_mul_of_nonneg_left hpos (show 0 ≤ c by omega)
    simpa using this
  have hrun := run_make (P := P) w t e i z ht hi hz kl kc l c h0 h1 (by rw [Int.mul_comm]; omega) (by omega)
  obtain ⟨r, hr, hkr⟩ := I.fresh
  have hmul : l.toNat * ez.length ≤ c.toNat * i.size := by rw [hezl]; exact Nat.mul_le_mul_right _ (by omega)
  obtain ⟨hle, I'⟩ := I.newRow (e := e) (fr := (0, 0)) (r := r) (v := 0) (cap := c.toNat) (esz := i.size) (cells := (List.replicate l.toNat ez).flatten) (arr := madeCells z.cells (c.toNat * i.size)) hr (fun u _ => hkr u) (loose_zero _)
    (by simp [madeCells]) (by rw [replicate_flatten_length]; simpa [madeCells] using hmul) (fun j hj => zeros_ok hzo (by omega) l.toNat _ hmul j hj)
  refine ⟨_, _, hrun, _, _, _, F, hle, FLe.refl _, I', ?_, h r hr⟩
  exact .sl (KM.put_same ..) (lo := 0) (by simp) (by simp) (show _ = _ by simp) (by omega) (Or.inr ⟨_, rfl, rfl⟩)
theorem fillA_ok {place place' : Nat → Option (Nat × Nat)} (hpl : ∀ i p, place i = some p → place' i = some p) :
    ∀ (parts : List (Nat × AV)) (vparts : List (Nat × Value)) (cells out : List AV) (arr : Array Value), cells.length = arr.size → (∀ j (hj : j < cells.length), VR κ F cells[j] (arr.getD j undef)) →
      parts.length = vparts.length → (∀ j (h1 : j < parts.length) (h2 : j < vparts.length), parts[j].1 = vparts[j].1 ∧ VR κ F parts[j].2 vparts[j].2) → fillA place cells parts = some out →
      ∃ arr', Instr.fill place' arr vparts = some arr' ∧ arr'.size = out.length ∧ ∀ j (hj : j < out.length), VR κ F out[j] (arr'.getD j undef)
  | [], vparts, cells, out, arr, hsz, hc, hlen, _, h => by
    cases vparts with
    | nil => simp only [fillA, Option.some.injEq] at h; subst h; exact ⟨arr, rfl, hsz.symm, hc⟩
    | cons => simp at hlen
  | (i, a) :: rest, vparts, cells, out, arr, hsz, hc, hlen, hp, h => by
    cases vparts with
    | nil => simp at hlen
    | cons q vrest =>
      obtain ⟨i', v⟩ := q
      have h0 := hp 0 (by simp) (by simp)
      simp only [List.getElem_cons_zero] at h0
      obtain ⟨rfl, hv⟩ := h0
      simp only [fillA] at h
      split at h
      · rename_i off size l hpi hl
        cases hcond : (l.length == size && Nat.ble (off + size) cells.length) with
        | false => rw [hcond] at h; simp at h
        | true =>
          rw [hcond] at h
          simp only [cond_true] at h
          simp only [Bool.and_eq_true, beq_iff_eq, Nat.ble_eq] at hcond
          obtain ⟨hls, hle⟩ := hcond
          obtain ⟨hvs, hvc⟩ := cellsOf_ok hv hl
          have hwl : (wrA cells off l).length = cells.length := wrA_length _ _ _ (by omega)
          have hsp := wrA_ok (κ := κ) (F := F) (cells := cells) (new := l) (arr := arr) (vs := v.cells.toList) (off := off) (by omega) (by omega) (by simp [hvs]) hc (fun j hj => by rw [toList_getD]; exact hvc j hj)
          obtain ⟨arr', h1, h2, h3⟩ := fillA_ok hpl rest vrest (wrA cells off l) out (splice arr off v.cells.toList) (by rw [hwl, size_splice]; exact hsz) hsp (by simpa using hlen)
            (fun j g1 g2 => by have := hp (j + 1) (by simpa using g1) (by simpa using g2); simpa using this) h
          refine ⟨arr', ?_, h2, h3⟩
          simp only [Instr.fill, hpl _ _ hpi]
          rw [if_neg (by simp; omega)]
          have e : ∀ (vs : List Value) (o : Nat) (k : Nat) (A : Array Value), (vs.zipIdx k).foldl (fun (cs : Array Value) (x : Value × Nat) => cs.setIfInBounds (o + x.2) x.1) A = splice A (o + k) vs := by
            intro vs
            induction vs with
            | nil => intros; rfl
            | cons x xs ih => intro o k A; simp only [List.zipIdx_cons, List.foldl_cons, splice]; rw [ih o (k + 1)]; rfl
          have e2 := e v.cells.toList off 0 arr
          rw [Nat.add_zero] at e2
          rw [← e2] at h1
          rw [← h1, ← Array.foldl_toList]
          simp
      · cases h
end Go.Fw
/- The frame of the abstract walk, part 10: each operation, as the machine carries it out. -/
set_option linter.unusedVariables false
set_option linter.unusedSimpArgs false
namespace Go.Fw
open Go.RowKit
variable {κ : KM} {F : FM} {B : Nat} {w0 w : World} {H : AH} {P : Program} {T : TT}
theorem tr_bool {t : TypeId} {r : TR} (h : trOk P t r = true) (hd : r.d = .bool) : P.underlying t = some .bool := by
  obtain ⟨d, n, a, z⟩ := r; simp only at hd; subst hd
  unfold trOk at h
  simp only [Bool.and_eq_true] at h
  cases hu : P.underlying t with
  | none => rw [hu] at h; simp at h
  | some u => rw [hu] at h; cases u <;> simp at h; rfl
theorem tr_ptr {t e : TypeId} {r : TR} (h : trOk P t r = true) (hd : r.d = .ptr e) : P.underlying t = some (.pointer e) := by
  obtain ⟨d, n, a, z⟩ := r; simp only at hd; subst hd
  unfold trOk at h
  simp only [Bool.and_eq_true] at h
  cases hu : P.underlying t with
  | none => rw [hu] at h; simp at h
  | some u => rw [hu] at h; cases u <;> simp at h; rw [h.2.2]
theorem tr_func {t : TypeId} {r : TR} (h : trOk P t r = true) (hd : r.d = .func) : ∃ p q v, P.underlying t = some (.func p q v) := by
  obtain ⟨d, n, a, z⟩ := r; simp only at hd; subst hd
  unfold trOk at h
  simp only [Bool.and_eq_true] at h
  cases hu : P.underlying t with
  | none => rw [hu] at h; simp at h
  | some u => rw [hu] at h; cases u <;> simp at h; exact ⟨_, _, _, rfl⟩
theorem ifA_pick {p : Prop} {K : AV → Prop} (h : ifA p K) (b : Bool) (hb : b = true ↔ p) : K (.bool b) := by
  cases b with
  | true => exact h.l (hb.1 rfl)
  | false => exact h.r (fun x => by have := hb.2 x; cases this)
theorem neqA_pick {op : BinOp} {p : Prop} {K : AV → Prop} (h : neqA op p K) (b : Bool) (hb : b = true ↔ p) : (op = .eql ∧ K (.bool b)) ∨ (op = .neq ∧ K (.bool !b)) := by
  cases op <;> first | exact h.elim | skip
  · exact .inl ⟨rfl, ifA_pick h b hb⟩
  · refine .inr ⟨rfl, ifA_pick h (!b) ?_⟩
    cases b
    · simp; exact fun x => by have := hb.2 x; cases this
    · simp; exact hb.1 rfl
theorem binI_ok {op : BinOp} {k : IntKind} {a b : Int} {K : AV → Prop} (hs : isShift op = false) (h : binI op k a b K) (t : TypeId) :
    ∃ y v, (binOp op t (.int k a) (.int k b)).run P w = .ok v w ∧ VR κ F y v ∧ K y := by
  cases op <;> first
    | (exfalso; simp [isShift] at hs; done)
    | (refine ⟨_, _, ?_, .int k _, h _ rfl⟩; simp [binOp, Op.intArith]; done)
    | (obtain ⟨hb, h⟩ := h; refine ⟨_, _, ?_, .int k _, h _ rfl⟩; simp [binOp, Op.intDiv, hb]; done)
    | (refine ⟨_, _, ?_, .int k _, h _ rfl⟩; simp [binOp]; rfl)
    | skip
  · refine ⟨_, .bool (a == b), ?_, .bool _, ifA_pick h (a == b) (by simp)⟩; simp [binOp, Op.intCmp]
  · refine ⟨_, .bool (a != b), ?_, .bool _, ifA_pick h (a != b) (by simp)⟩; simp [binOp, Op.intCmp]
  · refine ⟨_, .bool (decide (a < b)), ?_, .bool _, ifA_pick h _ (by simp)⟩; simp [binOp, Op.intCmp]
  · refine ⟨_, .bool (decide (a ≤ b)), ?_, .bool _, ifA_pick h _ (by simp)⟩; simp [binOp, Op.intCmp]
  · refine ⟨_, .bool (decide (a > b)), ?_, .bool _, ifA_pick h _ (by simp)⟩; simp [binOp, Op.intCmp]
  · refine ⟨_, .bool (decide (a ≥ b)), ?_, .bool _, ifA_pick h _ (by simp)⟩; simp [binOp, Op.intCmp]
theorem shiftA_ok {op : BinOp} {k k' : IntKind} {a b : Int} {K : AV → Prop} (hs : isShift op = true) (h : shiftA op k a b K) (t : TypeId) :
    ∃ y v, (binOp op t (.int k a) (.int k' b)).run P w = .ok v w ∧ VR κ F y v ∧ K y := by
  cases op <;> first
    | (exfalso; simp [isShift] at hs; done)
    | (obtain ⟨hb, h⟩ := h; have hb' : ¬ b < 0 := (by omega); refine ⟨_, _, ?_, .int k _, h _ rfl⟩; simp [binOp, Op.shift, hb']; done)
theorem run_equal {t : TypeId} {u : TypeDesc} (hu : P.underlying t = some u) (x y : Value) (b : Bool)
    (h : (u = .bool ∧ ∃ p q, x = .bool p ∧ y = .bool q ∧ b = (p == q)) ∨ (∃ e, u = .pointer e ∧ ((x = .pointer none ∧ ∃ q, y = .pointer q ∧ b = q.isNone) ∨ (∃ q, x = .pointer (some q) ∧ y = .pointer none ∧ b = false))) ∨
      (∃ p q v, u = .func p q v ∧ ((x = .nilFunc ∧ y = .nilFunc ∧ b = true) ∨ (∃ f g c, x = .func f g c ∧ y = .nilFunc ∧ b = false)))) :
    (Op.equal t x y).run P w = .ok b w := by
  unfold Op.equal Op.maxDepth
  rw [show (10000 : Nat) = 9999 + 1 from rfl]
  unfold Op.equalIn
  rcases h with ⟨rfl, p, q, rfl, rfl, rfl⟩ | ⟨e, rfl, ⟨rfl, q, rfl, rfl⟩ | ⟨q, rfl, rfl, rfl⟩⟩ | ⟨p, q, v, rfl, ⟨rfl, rfl, rfl⟩ | ⟨f, g, c, rfl, rfl, rfl⟩⟩ <;> simp [run_underlying hu]
theorem bytes_toList (l : List UInt8) : (⟨l.toArray⟩ : ByteArray).toList = l := by
  rw [Go.ByteArray.toList_eq]
theorem isPtr_ok (hT : T.ok P = true) {t : TypeId} (h : TD.isPtr ((T.get t).map (·.d)) = true) : ∃ e, P.underlying t = some (.pointer e) := by
  cases hg : T.get t with
  | none => rw [hg] at h; cases h
  | some r =>
    rw [hg] at h
    cases hd : r.d <;> (rw [Option.map_some, hd] at h; first | (exfalso; simp [TD.isPtr] at h; done) | exact ⟨_, tr_ptr (TT.ok_get hT hg) hd⟩)
theorem isFunc_ok (hT : T.ok P = true) {t : TypeId} (h : TD.isFunc ((T.get t).map (·.d)) = true) : ∃ p q v, P.underlying t = some (.func p q v) := by
  cases hg : T.get t with
  | none => rw [hg] at h; cases h
  | some r =>
    rw [hg] at h
    cases hd : r.d <;> (rw [Option.map_some, hd] at h; first | (exfalso; simp [TD.isFunc] at h; done) | exact tr_func (TT.ok_get hT hg) hd)
theorem isBool_ok (hT : T.ok P = true) {t : TypeId} (h : TD.isBool ((T.get t).map (·.d)) = true) : P.underlying t = some .bool := by
  cases hg : T.get t with
  | none => rw [hg] at h; cases h
  | some r =>
    rw [hg] at h
    cases hd : r.d <;> (rw [Option.map_some, hd] at h; first | (exfalso; simp [TD.isBool] at h; done) | exact tr_bool (TT.ok_get hT hg) hd)
theorem eqGuard_pure {op : BinOp} {t : TypeId} {ox oy : Operand} {a b : Value} (h1 : ¬ (a = .nilIface ∧ b = .nilIface)) (h2 : ∀ p q, ¬ (a = .agg p ∧ b = .agg q)) : (eqGuard op t ox oy a b).run P w = .ok () w := by
  unfold eqGuard
  cases op <;> first | rfl | (cases a <;> cases b <;> first | rfl | (exfalso; exact h1 ⟨rfl, rfl⟩) | (exfalso; exact h2 _ _ ⟨rfl, rfl⟩))
theorem eqs_ok {op : BinOp} {t : TypeId} {x y : Value} {p : Prop} {K : AV → Prop} {b : Bool} (h : neqA op p K) (hb : b = true ↔ p) (hrun : (Op.equal t x y).run P w = .ok b w)
    (he : binOp .eql t x y = (do pure (.bool (← Op.equal t x y)))) (hn : binOp .neq t x y = (do pure (.bool (!(← Op.equal t x y))))) :
    ∃ z v, (binOp op t x y).run P w = .ok v w ∧ VR κ F z v ∧ K z := by
  rcases neqA_pick h b hb with ⟨rfl, hK⟩ | ⟨rfl, hK⟩
  · exact ⟨_, .bool b, by rw [he]; simp [hrun], .bool _, hK⟩
  · exact ⟨_, .bool (!b), by rw [hn]; simp [hrun], .bool _, hK⟩
theorem binA_ok (hT : T.ok P = true) {op : BinOp} {t : TypeId} {ox oy : Operand} {x y : AV} {vx vy : Value} {K : AV → Prop} (hx : VR κ F x vx) (hy : VR κ F y vy) (h : binA op ((T.get t).map (·.d)) x y K) :
    ∃ z v, ((do eqGuard op t ox oy vx vy; binOp op t vx vy : Sem Value)).run P w = .ok v w ∧ VR κ F z v ∧ K z := by
  have go : ∀ (h1 : ¬ (vx = .nilIface ∧ vy = .nilIface)) (h2 : ∀ p q, ¬ (vx = .agg p ∧ vy = .agg q)), (∃ z v, (binOp op t vx vy).run P w = .ok v w ∧ VR κ F z v ∧ K z) →
      ∃ z v, ((do eqGuard op t ox oy vx vy; binOp op t vx vy : Sem Value)).run P w = .ok v w ∧ VR κ F z v ∧ K z := by
    rintro h1 h2 ⟨z, v, h3, h4, h5⟩
    exact ⟨z, v, by rw [Sem.run_bind, eqGuard_pure h1 h2, Result.andThen_ok]; exact h3, h4, h5⟩
  cases x with
  | int k a =>
    cases y with
    | int k' b =>
      cases hx; cases hy
      refine go (by simp) (by simp) ?_
      simp only [binA] at h
      cases hs : isShift op with
      | true => rw [hs] at h; exact shiftA_ok hs h t
      | false =>
        rw [hs] at h
        obtain ⟨hk, h2⟩ := when_iff.1 (show when (decide (k = k')) (binI op k a b K) from h)
        obtain rfl := of_decide_eq_true hk
        exact binI_ok hs h2 t
    | _ => exact h.elim
  | str a =>
    cases y with
    | str b =>
      cases hx; cases hy
      refine go (by simp) (by simp) ?_
      have hlt : ∀ a b : List UInt8, Op.bytesLess (⟨a.toArray⟩ : ByteArray).toList (⟨b.toArray⟩ : ByteArray).toList = Op.bytesLess a b := fun a b => by rw [bytes_toList, bytes_toList]
      cases op <;> first | exact h.elim | skip
      · obtain ⟨hl, hK⟩ := h
        refine ⟨_, .string ⟨(a ++ b).toArray⟩, ?_, .str _, hK⟩
        have e : (⟨a.toArray⟩ : ByteArray) ++ (⟨b.toArray⟩ : ByteArray) = ⟨(a ++ b).toArray⟩ := by apply ByteArray.ext; simp
        have hsz : (a.length : Int) + (b.length : Int) ≤ 9223372036854775807 := by omega
        simp [binOp, Op.stringOp, ByteArray.size, hsz, e]
      · refine ⟨_, .bool (a == b), ?_, .bool _, ifA_pick h _ (by simp)⟩
        simp [binOp, Op.stringOp, bytes_toList]
      · refine ⟨_, .bool (!(a == b)), ?_, .bool _, ifA_pick h _ (by simp)⟩
        simp [binOp, Op.stringOp, bytes_toList]
      · refine ⟨_, .bool (Op.bytesLess a b), ?_, .bool _, ifA_pick h _ (by simp)⟩
        simp [binOp, Op.stringOp, bytes_toList]
      · refine ⟨_, .bool (!(Op.bytesLess a b || a == b)), ?_, .bool _, ifA_pick h _ (by simp)⟩
        simp [binOp, Op.stringOp, bytes_toList]
    | _ => exact h.elim
  | bool a =>
    cases y with
    | bool b =>
      cases hx; cases hy
      obtain ⟨ht, h⟩ := when_iff.1 h
      refine go (by simp) (by simp) (eqs_ok h (b := (a == b)) (by simp) (run_equal (isBool_ok hT ht) _ _ _ (.inl ⟨rfl, a, b, rfl, rfl, rfl⟩)) (by simp [binOp]) (by simp [binOp]))
    | _ => exact h.elim
  | nilp =>
    cases y with
    | nilp =>
      cases hx; cases hy
      obtain ⟨ht, h⟩ := when_iff.1 h
      obtain ⟨e, hu⟩ := isPtr_ok hT ht
      refine go (by simp) (by simp) (eqs_ok h (b := true) (by simp) (run_equal hu _ _ _ (.inr (.inl ⟨e, rfl, .inl ⟨rfl, none, rfl, rfl⟩⟩))) (by simp [binOp]) (by simp [binOp]))
    | ptr r v off =>
      cases hx; cases hy
      obtain ⟨ht, h⟩ := when_iff.1 h
      obtain ⟨e, hu⟩ := isPtr_ok hT ht
      refine go (by simp) (by simp) (eqs_ok h (b := false) (by simp) (run_equal hu _ _ _ (.inr (.inl ⟨e, rfl, .inl ⟨rfl, _, rfl, rfl⟩⟩))) (by simp [binOp]) (by simp [binOp]))
    | _ => exact h.elim
  | ptr r v off =>
    cases y with
    | nilp =>
      cases hx; cases hy
      obtain ⟨ht, h⟩ := when_iff.1 h
      obtain ⟨e, hu⟩ := isPtr_ok hT ht
      refine go (by simp) (by simp) (eqs_ok h (b := false) (by simp) (run_equal hu _ _ _ (.inr (.inl ⟨e, rfl, .inr ⟨_, rfl, rfl, rfl⟩⟩))) (by simp [binOp]) (by simp [binOp]))
    | _ => exact h.elim
  | cp cells =>
    cases y with
    | nilp =>
      cases hx; cases hy
      obtain ⟨ht, h⟩ := when_iff.1 h
      obtain ⟨e, hu⟩ := isPtr_ok hT ht
      refine go (by simp) (by simp) (eqs_ok h (b := false) (by simp) (run_equal hu _ _ _ (.inr (.inl ⟨e, rfl, .inr ⟨_, rfl, rfl, rfl⟩⟩))) (by simp [binOp]) (by simp [binOp]))
    | _ => exact h.elim
  | nilf =>
    cases y with
    | nilf =>
      cases hx; cases hy
      obtain ⟨ht, h⟩ := when_iff.1 h
      obtain ⟨p, q, v, hu⟩ := isFunc_ok hT ht
      refine go (by simp) (by simp) (eqs_ok h (b := true) (by simp) (run_equal hu _ _ _ (.inr (.inr ⟨p, q, v, rfl, .inl ⟨rfl, rfl, rfl⟩⟩))) (by simp [binOp]) (by simp [binOp]))
    | _ => exact h.elim
  | fn f g c =>
    cases y with
    | nilf =>
      cases hx; cases hy
      obtain ⟨ht, h⟩ := when_iff.1 h
      obtain ⟨p, q, v, hu⟩ := isFunc_ok hT ht
      refine go (by simp) (by simp) (eqs_ok h (b := false) (by simp) (run_equal hu _ _ _ (.inr (.inr ⟨p, q, v, rfl, .inr ⟨_, _, _, rfl, rfl, rfl⟩⟩))) (by simp [binOp]) (by simp [binOp]))
    | _ => exact h.elim
  | _ => cases y <;> exact h.elim
theorem isSlice_ok (hT : T.ok P = true) {t : TypeId} (h : TD.isSlice ((T.get t).map (·.d)) = true) : ∃ e, P.underlying t = some (.slice e) := by
  cases hg : T.get t with
  | none => rw [hg] at h; cases h
  | some r =>
    rw [hg] at h
    obtain ⟨d, n, a, z⟩ := r
    cases d <;> first | (exfalso; simp [TD.isSlice] at h; done) | exact ⟨_, (tr_slice (TT.ok_get hT hg)).1⟩
theorem isNilS_ok {y : Operand} (h : isNilS y = true) : y = .const (.slice none 0 0) := by
  unfold isNilS at h
  split at h
  · rfl
  · cases h
theorem nilA_ok (hT : T.ok P = true) {op : BinOp} {t : TypeId} {ox oy : Operand} {x : AV} {vx : Value} {K : AV → Prop} (hx : VR κ F x vx) (h : nilA op ((T.get t).map (·.d)) x K) :
    ∃ z v, ((do eqGuard op t ox oy vx (.slice none 0 0); binOp op t vx (.slice none 0 0) : Sem Value)).run P w = .ok v w ∧ VR κ F z v ∧ K z := by
  have key : ∀ (a : Option Addr) (len c n : Nat), vx = .slice a len c → (a = none → n = 0) → TD.isSlice ((T.get t).map (·.d)) = true → nilB op n K →
      ∃ z v, ((do eqGuard op t ox oy vx (.slice none 0 0); binOp op t vx (.slice none 0 0) : Sem Value)).run P w = .ok v w ∧ VR κ F z v ∧ K z := by
    rintro a len c n rfl ha ht hb
    obtain ⟨e, hu⟩ := isSlice_ok hT ht
    have hrun : (Op.equal t (.slice a len c) (.slice none 0 0)).run P w = .ok a.isNone w := by
      unfold Op.equal Op.maxDepth
      rw [show (10000 : Nat) = 9999 + 1 from rfl]
      unfold Op.equalIn
      cases a <;> simp [run_underlying hu]
    have hg : (eqGuard op t ox oy (.slice a len c) (.slice none 0 0)).run P w = .ok () w := eqGuard_pure (by simp) (by simp)
    rw [Sem.run_bind, hg, Result.andThen_ok]
    cases op <;> first | exact hb.elim | skip
    · refine ⟨.bool a.isNone, .bool a.isNone, by simp [binOp, hrun], .bool _, ?_⟩
      cases a with
      | none => exact hb.l (ha rfl)
      | some a => exact hb.r trivial
    · refine ⟨.bool (!a.isNone), .bool (!a.isNone), by simp [binOp, hrun], .bool _, ?_⟩
      cases a with
      | none => exact hb.l (ha rfl)
      | some a => exact hb.r trivial
  cases hx <;> try exact h.elim
  · obtain ⟨ht, h⟩ := when_iff.1 h
    exact key _ _ _ _ rfl (fun _ => rfl) ht h
  · obtain ⟨ht, h⟩ := when_iff.1 h
    exact key _ _ _ _ rfl (fun _ => rfl) ht h
  · obtain ⟨ht, h⟩ := when_iff.1 h
    exact key _ _ _ _ rfl (fun e => by cases e) ht h
  · rename_i hc hlen hadr
    obtain ⟨ht, h⟩ := when_iff.1 h
    refine key _ _ _ _ rfl (fun e => ?_) ht h
    rcases hadr with hz | ⟨b, _, hb⟩
    · omega
    · rw [e] at hb; cases hb
end Go.Fw
/- The frame of the abstract walk: comparisons of structs and arrays of integers; maps with integers as keys. -/
set_option linter.unusedVariables false
set_option linter.unusedSimpArgs false
namespace Go.Fw
open Go.RowKit
variable {κ : KM} {F : FM} {B : Nat} {w0 w : World} {H : AH} {P : Program} {T : TT}
def IntAt (A : Array Value) (j : Nat) : Prop := ∃ n, A[j]? = some (.int .i64 n)
def FitsC (P : Program) (t : TypeId) (a : Value) : Prop :=
  match P.underlying t with
  | some (.int _) => ∃ n, a = .int .i64 n
  | some (.array _ _) => ∃ A, a = .agg A
  | some (.struct _) => ∃ A, a = .agg A
  | _ => False
def EqC (P : Program) (d : Nat) (t : TypeId) (L : List Nat) : Prop :=
  ∀ (w : World) (dd : Nat) (a b : Value), d ≤ dd → FitsC P t a → FitsC P t b → (∀ j ∈ L, IntAt a.cells j) → (∀ j ∈ L, IntAt b.cells j) →
    ∃ r : Bool, (Op.equalIn dd t a b).run P w = .ok r w ∧ (r = true ↔ ∀ j ∈ L, a.cells[j]? = b.cells[j]?)
theorem part_cov {d : Nat} {e : TypeId} {L : List Nat} {i : TypeInfo} (hc : covT P d e = some L) (hi : P.info? e = some i) (hL : ∀ j ∈ L, j < i.size) (w : World) {xs : Array Value} {off : Nat} (hx : ∀ j ∈ L, IntAt xs (j + off)) :
    ∃ a, (part e xs off).run P w = .ok a w ∧ FitsC P e a ∧ ∀ j ∈ L, a.cells[j]? = xs[j + off]? := by
  have hcs : P.cellsOf e = i.size := by unfold Program.cellsOf; rw [hi]; rfl
  have agg : ∀ u, P.underlying e = some u → ((∃ n e', u = .array n e') ∨ ∃ fs, u = .struct fs) → ∃ a, (part e xs off).run P w = .ok a w ∧ FitsC P e a ∧ ∀ j ∈ L, a.cells[j]? = xs[j + off]? := by
    intro u hu hk
    refine ⟨.agg (xs.extract off (off + P.cellsOf e)), ?_, ?_, fun j hj => ?_⟩
    · rcases hk with ⟨n, e', rfl⟩ | ⟨fs, rfl⟩ <;> simp [part, isAgg, run_underlying hu, Go.run_sizeOf w hi]
    · unfold FitsC
      rcases hk with ⟨n, e', rfl⟩ | ⟨fs, rfl⟩ <;> rw [hu] <;> exact ⟨_, rfl⟩
    · obtain ⟨n, hn⟩ := hx j hj
      have hlt := (Array.getElem?_eq_some_iff.1 hn).1
      have := hL j hj
      show (xs.extract off (off + P.cellsOf e))[j]? = _
      rw [Array.getElem?_extract, hcs, if_pos (by omega), Nat.add_comm]
  cases d with
  | zero => simp [covT] at hc
  | succ d =>
    unfold covT at hc
    cases hu : P.underlying e with
    | none => rw [hu] at hc; simp at hc
    | some u =>
      rw [hu] at hc
      cases u with
      | int k =>
        cases k <;> simp at hc
        subst hc
        obtain ⟨n, hn⟩ := hx 0 (by simp)
        rw [Nat.zero_add] at hn
        refine ⟨.int .i64 n, run_part_plain w (by simp [Program.plainKey, hu]) hn, by unfold FitsC; rw [hu]; exact ⟨n, rfl⟩, fun j hj => ?_⟩
        obtain rfl := List.mem_singleton.1 hj
        rw [Nat.zero_add, hn]; rfl
      | array n e' => exact agg _ hu (.inl ⟨_, _, rfl⟩)
      | struct fs => exact agg _ hu (.inr ⟨_, rfl⟩)
      | _ => simp at hc
theorem eqPart_cov {d dd : Nat} {e : TypeId} {L : List Nat} {i : TypeInfo} (hE : EqC P d e L) (hc : covT P d e = some L) (hi : P.info? e = some i) (hL : ∀ j ∈ L, j < i.size) (hd : d ≤ dd) (w : World) {xs ys : Array Value} {off : Nat}
    (hx : ∀ j ∈ L, IntAt xs (j + off)) (hy : ∀ j ∈ L, IntAt ys (j + off)) :
    ∃ a b r, (part e xs off).run P w = .ok a w ∧ (part e ys off).run P w = .ok b w ∧ (Op.equalIn dd e a b).run P w = .ok r w ∧ (r = true ↔ ∀ j ∈ L, xs[j + off]? = ys[j + off]?) := by
  obtain ⟨a, ha, fa, ca⟩ := part_cov hc hi hL w hx
  obtain ⟨b, hb, fb, cb⟩ := part_cov hc hi hL w hy
  obtain ⟨r, hr, hiff⟩ := hE w dd a b hd fa fb (fun j hj => by unfold IntAt; rw [ca j hj]; exact hx j hj) (fun j hj => by unfold IntAt; rw [cb j hj]; exact hy j hj)
  refine ⟨a, b, r, ha, hb, hr, hiff.trans ?_⟩
  exact ⟨fun h j hj => by rw [← ca j hj, ← cb j hj]; exact h j hj, fun h j hj => by rw [ca j hj, cb j hj]; exact h j hj⟩
def covF (P : Program) (d : Nat) (f : Field) : Option (List Nat) :=
  match covT P d f.type, P.info? f.type with
  | some L, some i => if (L.all fun j => decide (j < i.size)) = true then some (L.map (· + f.offset)) else none
  | _, _ => none
theorem covF_inv {d : Nat} {f : Field} {L : List Nat} (h : covF P d f = some L) : ∃ L0 i, covT P d f.type = some L0 ∧ P.info? f.type = some i ∧ (∀ j ∈ L0, j < i.size) ∧ L = L0.map (· + f.offset) := by
  unfold covF at h
  split at h
  · rename_i L0 i h1 h2
    split at h
    · rename_i h3
      cases h
      exact ⟨L0, i, h1, h2, fun j hj => of_decide_eq_true (List.all_eq_true.1 h3 j hj), rfl⟩
    · cases h
  · cases h
theorem eqFields_cov {d dd : Nat} (IH : ∀ t L, covT P d t = some L → EqC P d t L) (hd : d ≤ dd) (w : World) (xs ys : Array Value) : ∀ (fs : List Field) (Ls : List (List Nat)), (∀ f ∈ fs, f.name ≠ "_") → fs.mapM (covF P d) = some Ls →
    (∀ j ∈ Ls.flatten, IntAt xs j) → (∀ j ∈ Ls.flatten, IntAt ys j) → ∃ r : Bool, (Op.eqFields dd xs ys fs).run P w = .ok r w ∧ (r = true ↔ ∀ j ∈ Ls.flatten, xs[j]? = ys[j]?)
  | [], Ls, _, h, _, _ => by
    simp at h
    subst h
    exact ⟨true, by simp [Op.eqFields], by simp⟩
  | f :: fs, Ls, hn, h, hx, hy => by
    rw [List.mapM_cons] at h
    simp only [bind, Option.bind_eq_some_iff, pure, Option.some.injEq] at h
    obtain ⟨L, h1, Ls', h2, rfl⟩ := h
    obtain ⟨L0, i, c1, c2, c3, rfl⟩ := covF_inv h1
    rw [List.flatten_cons] at hx hy ⊢
    have hx0 : ∀ j ∈ L0, IntAt xs (j + f.offset) := fun j hj => hx _ (List.mem_append_left _ (List.mem_map.2 ⟨j, hj, rfl⟩))
    have hy0 : ∀ j ∈ L0, IntAt ys (j + f.offset) := fun j hj => hy _ (List.mem_append_left _ (List.mem_map.2 ⟨j, hj, rfl⟩))
    obtain ⟨a, b, r, p1, p2, p3, hiff⟩ := eqPart_cov (IH _ _ c1) c1 c2 c3 hd w hx0 hy0
    obtain ⟨r', q1, hiff'⟩ := eqFields_cov IH hd w xs ys fs Ls' (fun g hg => hn g (by simp [hg])) h2 (fun j hj => hx j (List.mem_append_right _ hj)) (fun j hj => hy j (List.mem_append_right _ hj))
    have hnf : f.name ≠ "_" := hn f (by simp)
    simp only [Op.eqFields, hnf, ne_eq, not_false_eq_true, if_true, Sem.run_bind, p1, p2, p3, Result.andThen_ok]
    cases r
    · refine ⟨false, by simp, ?_⟩
      constructor
      · intro h; cases h
      · intro h
        have := hiff.2 fun j hj => h _ (List.mem_append_left _ (List.mem_map.2 ⟨j, hj, rfl⟩))
        cases this
    · refine ⟨r', by simpa using q1, hiff'.trans ?_⟩
      constructor
      · intro h j hj
        rcases List.mem_append.1 hj with hj | hj
        · obtain ⟨j0, h0, rfl⟩ := List.mem_map.1 hj
          exact hiff.1 rfl j0 h0
        · exact h j hj
      · intro h j hj; exact h j (List.mem_append_right _ hj)
theorem eqItems_cov {d dd : Nat} {e : TypeId} {L : List Nat} {i : TypeInfo} (hE : EqC P d e L) (hc : covT P d e = some L) (hi : P.info? e = some i) (hL : ∀ j ∈ L, j < i.size) (hd : d ≤ dd) (w : World) (xs ys : Array Value) : ∀ (is : List Nat),
    (∀ j ∈ is.flatMap (fun k => L.map (· + k * i.size)), IntAt xs j) → (∀ j ∈ is.flatMap (fun k => L.map (· + k * i.size)), IntAt ys j) →
    ∃ r : Bool, (Op.eqItems dd e (P.cellsOf e) xs ys is).run P w = .ok r w ∧ (r = true ↔ ∀ j ∈ is.flatMap (fun k => L.map (· + k * i.size)), xs[j]? = ys[j]?)
  | [], _, _ => ⟨true, by simp [Op.eqItems], by simp⟩
  | k :: is, hx, hy => by
    have hcs : P.cellsOf e = i.size := by unfold Program.cellsOf; rw [hi]; rfl
    rw [List.flatMap_cons] at hx hy ⊢
    obtain ⟨a, b, r, p1, p2, p3, hiff⟩ := eqPart_cov (off := k * i.size) hE hc hi hL hd w (fun j hj => hx _ (List.mem_append_left _ (List.mem_map.2 ⟨j, hj, rfl⟩))) (fun j hj => hy _ (List.mem_append_left _ (List.mem_map.2 ⟨j, hj, rfl⟩)))
    obtain ⟨r', q1, hiff'⟩ := eqItems_cov hE hc hi hL hd w xs ys is (fun j hj => hx j (List.mem_append_right _ hj)) (fun j hj => hy j (List.mem_append_right _ hj))
    simp only [Op.eqItems, Sem.run_bind, hcs, p1, p2, p3, Result.andThen_ok]
    rw [hcs] at q1
    cases r
    · refine ⟨false, by simp, ?_⟩
      constructor
      · intro h; cases h
      · intro h
        have := hiff.2 fun j hj => h _ (List.mem_append_left _ (List.mem_map.2 ⟨j, hj, rfl⟩))
        cases this
    · refine ⟨r', by simpa using q1, hiff'.trans ?_⟩
      constructor
      · intro h j hj
        rcases List.mem_append.1 hj with hj | hj
        · obtain ⟨j0, h0, rfl⟩ := List.mem_map.1 hj
          exact hiff.1 rfl j0 h0
        · exact h j hj
      · intro h j hj; exact h j (List.mem_append_right _ hj)
theorem cov_ok : ∀ (d : Nat) (t : TypeId) (L : List Nat), covT P d t = some L → EqC P d t L
  | 0, _, _, h => by simp [covT] at h
  | d + 1, t, L, h => by
    intro w dd a b hdd fa fb ha hb
    obtain ⟨dd, rfl⟩ : ∃ k, dd = k + 1 := ⟨dd - 1, by omega⟩
    unfold covT at h
    unfold FitsC at fa fb
    cases hu : P.underlying t with
    | none => rw [hu] at h; simp at h
    | some u =>
      rw [hu] at h fa fb
      cases u with
      | int k =>
        obtain ⟨m, rfl⟩ := fa
        obtain ⟨n, rfl⟩ := fb
        cases k <;> simp at h
        subst h
        refine ⟨m == n, Go.run_equalIn_int w dd t _ _ m n hu, ?_⟩
        constructor
        · intro h j hj
          have : m = n := by simpa using h
          rw [this]
        · intro h
          have := h 0 (by simp)
          have this : some (Value.int .i64 m) = some (Value.int .i64 n) := this
          simpa using this
      | array n e =>
        obtain ⟨A, rfl⟩ := fa
        obtain ⟨C, rfl⟩ := fb
        simp only at h
        split at h
        · rename_i L0 i c1 c2
          split at h
          · rename_i c3
            cases h
            have c3 : ∀ j ∈ L0, j < i.size := fun j hj => of_decide_eq_true (List.all_eq_true.1 c3 j hj)
            obtain ⟨r, hr, hiff⟩ := eqItems_cov (cov_ok d e L0 c1) c1 c2 c3 (show d ≤ dd by omega) w A C (List.range n) ha hb
            exact ⟨r, by rw [run_equalIn_array w dd A C hu c2]; exact hr, hiff⟩
          · cases h
        · cases h
      | struct fs =>
        obtain ⟨A, rfl⟩ := fa
        obtain ⟨C, rfl⟩ := fb
        simp only at h
        split at h
        · cases h
        · rename_i hs
          simp only [Bool.or_eq_true, not_or, Bool.not_eq_true] at hs
          obtain ⟨hs1, hs2⟩ := hs
          obtain ⟨Ls, h1, rfl⟩ := Option.map_eq_some_iff.1 h
          have hfo : P.fieldsOf t = fs := by unfold Program.fieldsOf; rw [hu]
          have hn : ∀ f ∈ fs.toList, f.name ≠ "_" := fun f hf hc => by
            rw [List.any_eq_false] at hs2
            exact hs2 f hf (by simp [hc])
          obtain ⟨r, hr, hiff⟩ := eqFields_cov (cov_ok d) (show d ≤ dd by omega) w A C fs.toList Ls hn h1 ha hb
          exact ⟨r, by rw [Go.run_equalIn_struct w dd t A C (by rw [hfo]; exact hu) hs1, hfo]; exact hr, hiff⟩
      | _ => simp at h
theorem isI64_ok {a : AV} {v : Value} (h : VR κ F a v) (hi : isI64 a = true) : ∃ n, a = .int .i64 n ∧ v = .int .i64 n := by
  cases h <;> first | (simp [isI64] at hi; done) | skip
  rename_i k n
  cases k <;> first | (simp [isI64] at hi; done) | exact ⟨n, rfl, rfl⟩
theorem aggB_ok (hT : T.ok P = true) {op : BinOp} {t : TypeId} {ox oy : Operand} {x y : AV} {vx vy : Value} {K : AV → Prop} (hx : VR κ F x vx) (hy : VR κ F y vy) (h : aggB (T.get t) op x y K) :
    ∃ z v, ((do eqGuard op t ox oy vx vy; binOp op t vx vy : Sem Value)).run P w = .ok v w ∧ VR κ F z v ∧ K z := by
  unfold aggB at h
  split at h
  · rename_i xs ys
    split at h
    · rename_i d n ag z hg
      obtain ⟨hz, h1, h2, h3, h4, h5⟩ := when_iff.1 h
      have hcov := (TT.ok_both hT hg).2.1
      unfold covOk at hcov
      simp only [hz, Bool.not_true, Bool.false_or] at hcov
      split at hcov
      · rename_i L hL
        simp only [Bool.and_eq_true, Bool.not_eq_true'] at hcov
        obtain ⟨⟨c1, c2⟩, c3⟩ := hcov
        have c1 : ∀ j, j < n → j ∈ L := fun j hj => by
          have := List.all_eq_true.1 c1 j (List.mem_range.2 hj)
          simpa using this
        have c2 : ∀ j ∈ L, j < n := fun j hj => of_decide_eq_true (List.all_eq_true.1 c2 j hj)
        cases hx with
        | agg hA hAi =>
          rename_i A
          cases hy with
          | agg hC hCi =>
            rename_i C
            have ia : ∀ j (hj : j < n), ∃ m, xs[j]'(by omega) = .int .i64 m ∧ A[j]? = some (.int .i64 m) := fun j hj => by
              obtain ⟨m, e1, e2⟩ := isI64_ok (hAi j (by omega)) (List.all_eq_true.1 h3 _ (List.getElem_mem _))
              refine ⟨m, e1, ?_⟩
              rw [Array.getD_eq_getD_getElem?, Array.getElem?_eq_getElem (by omega)] at e2
              rw [Array.getElem?_eq_getElem (by omega)]
              exact congrArg some e2
            have ic : ∀ j (hj : j < n), ∃ m, ys[j]'(by omega) = .int .i64 m ∧ C[j]? = some (.int .i64 m) := fun j hj => by
              obtain ⟨m, e1, e2⟩ := isI64_ok (hCi j (by omega)) (List.all_eq_true.1 h4 _ (List.getElem_mem _))
              refine ⟨m, e1, ?_⟩
              rw [Array.getD_eq_getD_getElem?, Array.getElem?_eq_getElem (by omega)] at e2
              rw [Array.getElem?_eq_getElem (by omega)]
              exact congrArg some e2
            have hfit : ∀ A : Array Value, FitsC P t (.agg A) := fun A => by
              unfold FitsC
              have hag : ag = true := by simp only [Bool.and_eq_true] at hz; exact hz.1
              have htr := (TT.ok_both hT hg).1
              unfold trOk at htr
              simp only [Bool.and_eq_true] at htr
              cases hu : P.underlying t with
              | none => rw [hu] at htr; simp at htr
              | some u =>
                rw [hu] at htr
                have := htr.2
                simp only [Bool.and_eq_true, beq_iff_eq] at this
                have := this.1
                rw [hag] at this
                cases u <;> first | exact ⟨A, rfl⟩ | (simp [isAggD] at this; done)
            obtain ⟨r, hr, hiff⟩ := cov_ok 8 t L hL w 10000 (.agg A) (.agg C) (by decide) (hfit A) (hfit C)
              (fun j hj => by obtain ⟨m, _, e⟩ := ia j (c2 j hj); exact ⟨m, e⟩) (fun j hj => by obtain ⟨m, _, e⟩ := ic j (c2 j hj); exact ⟨m, e⟩)
            have hb : r = true ↔ xs = ys := by
              rw [hiff]
              constructor
              · intro h
                refine List.ext_getElem (by omega) fun j g1 g2 => ?_
                obtain ⟨m1, e1, e2⟩ := ia j (by omega)
                obtain ⟨m2, e3, e4⟩ := ic j (by omega)
                have h : A[j]? = C[j]? := h j (c1 j (by omega))
                rw [e2, e4] at h
                have : m1 = m2 := by simpa using h
                rw [e1, e3, this]
              · intro h j hj
                obtain ⟨m1, e1, e2⟩ := ia j (c2 j hj)
                obtain ⟨m2, e3, e4⟩ := ic j (c2 j hj)
                show A[j]? = C[j]?
                subst h
                rw [e1] at e3
                cases e3
                rw [e2, e4]
            have hgd : (eqGuard op t ox oy (.agg A) (.agg C)).run P w = .ok () w := Go.run_eqGuard_agg w op t ox oy A C c3
            rw [Sem.run_bind, hgd, Result.andThen_ok]
            rcases neqA_pick h5 r hb with ⟨rfl, hK⟩ | ⟨rfl, hK⟩
            · exact ⟨_, .bool r, by rw [Go.run_eql_struct w t A C, hr]; rfl, .bool r, hK⟩
            · exact ⟨_, .bool (!r), by rw [Go.run_neq_struct w t A C, hr]; rfl, .bool (!r), hK⟩
      · cases hcov
    · exact h.elim
  · exact binA_ok hT hx hy h
theorem below_putObj {r : Nat} {o : Obj} (h : Below B w0 w) (hB : B ≤ r) : Below B w0 (w.putObj r o) :=
  h.trans ⟨rfl, rfl, rfl, by simp, fun k hk => World.putObj_heap_other (by omega)⟩
theorem tr_map {t k : TypeId} {vz : AV} {vs n : Nat} {a : Bool} {z : List AV} (hT : T.ok P = true) (hg : T.get t = some ⟨.map k false vz vs, n, a, z⟩) :
    ∃ v zv, P.underlying t = some (.map k v) ∧ P.underlying k = some (.int .i64) ∧ (∀ w, (zeroValue v).run P w = .ok zv w) ∧ ∀ κ F, VR κ F vz zv := by
  obtain ⟨htr, _, hm⟩ := TT.ok_both hT hg
  unfold trOk at htr
  simp only [Bool.and_eq_true] at htr
  unfold mapOk at hm
  simp only at hm
  split at hm
  · rename_i k' v hu
    rw [hu] at htr
    simp only [Bool.and_eq_true, beq_iff_eq] at htr hm
    obtain ⟨_, _, ⟨hk, hkk⟩, _⟩ := htr
    subst hk
    obtain ⟨hvs, hm⟩ := hm
    split at hm
    · rename_i i hi
      split at hm
      · cases hm
      · rename_i zv hna hz
        refine ⟨v, zv, hu, ?_, fun w => run_zeroValue hi hz w, fun κ F => isZ_ok hm⟩
        split at hkk
        · assumption
        · cases hkk
        · cases hkk
      · cases hm
    · cases hm
  · cases hm
theorem mapA_inv {t : TypeId} {K : AV → Prop} (hT : T.ok P = true) (h : mapA T t K) : ∃ vz v zv k, P.underlying t = some (.map k v) ∧ P.underlying k = some (.int .i64) ∧ (∀ w, (zeroValue v).run P w = .ok zv w) ∧ (∀ κ F, VR κ F vz zv) ∧ K vz := by
  unfold mapA at h
  split at h
  · rename_i k vz vs n a z hg
    obtain ⟨v, zv, h1, h2, h3, h4⟩ := tr_map hT hg
    exact ⟨vz, v, zv, k, h1, h2, h3, h4, h⟩
  · exact h.elim
theorem Inv.mapOf (I : Inv κ F B w0 H w) {r b cl : Nat} {es : List ME} (h : H r = some (.map b es cl)) :
    ∃ i ents, κ r 0 = some i ∧ i.blk = some b ∧ B ≤ b ∧ F b = none ∧ w.heap[b]? = some (.map ents cl) ∧ MRel κ F ents.toList es ∧ (∀ x, x ∈ es → x.b < cl) ∧ es.Pairwise (fun x y => x.b < y.b) := I.objs _ _ h
theorem Inv.setMap (I : Inv κ F B w0 H w) {r b cl cl' : Nat} {es es' : List ME} {ents' : Array MapEntry} (h : H r = some (.map b es cl)) (hrel : MRel κ F ents'.toList es') (hb' : ∀ x, x ∈ es' → x.b < cl') (hp : es'.Pairwise (fun x y => x.b < y.b)) :
    (setObj b (.map ents' cl')).run P w = .ok () (w.putObj b (.map ents' cl')) ∧ Inv κ F B w0 (H.set r (.map b es' cl')) (w.putObj b (.map ents' cl')) := by
  obtain ⟨i, ents, hi, hb, hB, hF, hw, _⟩ := I.mapOf h
  have hlt := (Array.getElem?_eq_some_iff.1 hw).1
  refine ⟨by simp [setObj, Sem.run, hw, World.putObj], ?_⟩
  exact I.turn (o := .map b es cl) (o' := .map b es' cl') h hi hb rfl (fun k hk => World.putObj_heap_other hk) (by simp) (below_putObj I.below hB)
    ⟨i, ents', hi, hb, hB, hF, World.putObj_heap_same hlt, hrel, hb', hp⟩
theorem find_none {n : Int} : ∀ {l : List MapEntry} {es : List ME} (i : Nat), MRel κ F l es → mget es n = none → Instr.findNow (.int .i64) (.int .i64 n) l i = some none
  | [], [], _, _, _ => rfl
  | x :: l, y :: es, i, h, hn => by
    unfold mget at hn
    split at hn
    · cases hn
    · rename_i hne
      have := find_none (i + 1) h.2 hn
      simp only [Instr.findNow, h.1.1, Instr.sameNow, if_true]
      rw [show (n == y.k) = false by simpa using (fun e => hne e.symm)]
      exact this
theorem find_some {n : Int} {y : ME} : ∀ {l : List MapEntry} {es : List ME} (i : Nat), MRel κ F l es → mget es n = some y → ∃ j e, Instr.findNow (.int .i64) (.int .i64 n) l i = some (some (i + j, e.val)) ∧ l[j]? = some e ∧ e.key = .int .i64 n ∧ VR κ F y.v e.val ∧
      (∀ v x, VR κ F v x → MRel κ F (l.modify j fun e => { e with key := .int .i64 n, val := x }) (mput es n v)) ∧ MRel κ F (l.eraseIdx j) (mdel es n) ∧ j < l.length
  | [], [], _, _, h => by cases h
  | x :: l, z :: es, i, h, hn => by
    unfold mget at hn
    split at hn
    · rename_i he
      cases hn
      refine ⟨0, x, ?_, rfl, by rw [h.1.1, he], h.1.2.1, fun v u hv => ?_, ?_, by simp⟩
      · simp only [Instr.findNow, h.1.1, Instr.sameNow, if_true]
        rw [show (n == y.k) = true by simp [he]]
        rfl
      · unfold mput
        rw [if_pos he]
        exact ⟨⟨by rw [he], hv, h.1.2.2⟩, h.2⟩
      · unfold mdel
        rw [if_pos he]
        exact h.2
    · rename_i hne
      obtain ⟨j, e, h1, h2, h3, h4, h5, h6, h7⟩ := find_some (i + 1) h.2 hn
      refine ⟨j + 1, e, ?_, by simpa using h2, h3, h4, fun v u hv => ?_, ?_, by simpa using h7⟩
      · simp only [Instr.findNow, h.1.1, Instr.sameNow, if_true]
        rw [show (n == z.k) = false by simpa using (fun e => hne e.symm)]
        rw [show i + (j + 1) = i + 1 + j by omega]
        exact h1
      · unfold mput
        rw [if_neg hne, List.modify_succ_cons]
        exact ⟨h.1, h5 v u hv⟩
      · unfold mdel
        rw [if_neg hne, List.eraseIdx_cons_succ]
        exact ⟨h.1, h6⟩
theorem mput_b {n : Int} {v : AV} : ∀ (es : List ME), (mput es n v).map (·.b) = es.map (·.b)
  | [] => rfl
  | x :: l => by
    unfold mput
    split
    · rfl
    · simp [mput_b l]
theorem mdel_sub {n : Int} : ∀ (es : List ME), (mdel es n).Sublist es
  | [] => List.Sublist.refl _
  | x :: l => by
    unfold mdel
    split
    · exact List.sublist_cons_self _ _
    · exact (mdel_sub l).cons_cons _
theorem mput_lt {n : Int} {v : AV} {es : List ME} {cl : Nat} (h : ∀ x, x ∈ es → x.b < cl) : ∀ x, x ∈ mput es n v → x.b < cl := by
  intro x hx
  have : x.b ∈ (mput es n v).map (·.b) := List.mem_map.2 ⟨x, hx, rfl⟩
  rw [mput_b] at this
  obtain ⟨y, hy, e⟩ := List.mem_map.1 this
  rw [← e]; exact h y hy
theorem mput_pw {n : Int} {v : AV} {es : List ME} (h : es.Pairwise (fun x y => x.b < y.b)) : (mput es n v).Pairwise (fun x y => x.b < y.b) := by
  have h1 : (es.map (·.b)).Pairwise (· < ·) := List.pairwise_map.2 h
  rw [← mput_b (n := n) (v := v)] at h1
  exact List.pairwise_map.1 h1
theorem MRel.push : ∀ {l : List MapEntry} {es : List ME} {x : MapEntry} {y : ME}, MRel κ F l es → (x.key = .int .i64 y.k ∧ VR κ F y.v x.val ∧ x.born = y.b) → MRel κ F (l ++ [x]) (es ++ [y])
  | [], [], _, _, _, h => ⟨h, trivial⟩
  | _ :: _, _ :: _, _, _, h, k => ⟨h.1, MRel.push h.2 k⟩
theorem push_lt {es : List ME} {cl : Nat} {n : Int} {v : AV} (h : ∀ x, x ∈ es → x.b < cl) : ∀ x, x ∈ es ++ [(⟨n, v, cl⟩ : ME)] → x.b < cl + 1 := by
  intro x hx
  rcases List.mem_append.1 hx with hx | hx
  · have := h x hx; omega
  · rw [List.mem_singleton.1 hx]; exact Nat.lt_succ_self _
theorem push_pw {es : List ME} {cl : Nat} {n : Int} {v : AV} (h : ∀ x, x ∈ es → x.b < cl) (hp : es.Pairwise (fun x y => x.b < y.b)) : (es ++ [(⟨n, v, cl⟩ : ME)]).Pairwise (fun x y => x.b < y.b) := by
  refine List.pairwise_append.2 ⟨hp, List.pairwise_singleton _ _, fun x hx y hy => ?_⟩
  rw [List.mem_singleton.1 hy]; exact h x hx
theorem makeMapA_ok (I : Inv κ F B w0 H w) {t : TypeId} {K : AV → AH → Prop} (h : ∀ r b, H r = none → K (.map (some r)) (H.set r (.map b [] 0))) :
    ∃ v w', (Instr.makeMap t none).run P w = .ok v w' ∧ Left κ F B w0 K v w' := by
  obtain ⟨r, hr, hkr⟩ := I.fresh
  obtain ⟨hle, I'⟩ := I.new (.map #[] 0) (r := r) ⟨some w.heap.size, 0, 0⟩ (.map w.heap.size [] 0) hr (fun v _ => hkr v) rfl
    (fun κ' hle hkk hn hF => ⟨_, #[], hkk, rfl, I.base, hF, heap_alloc_new _ _, trivial, fun x hx => by simp at hx, List.Pairwise.nil⟩)
  refine ⟨.map (some w.heap.size), w.alloc (.map #[] 0), by simp [Instr.makeMap], _, _, _, F, hle, FLe.refl _, I', .map (KM.put_same ..), h r _ hr⟩
theorem map_val (I : Inv κ F B w0 H w) {r b cl : Nat} {es : List ME} (h : H r = some (.map b es cl)) {v : Value} (hv : VR κ F (.map (some r)) v) : v = .map (some b) := by
  obtain ⟨i, ents, hi, hb, _⟩ := I.mapOf h
  cases hv with
  | map hk =>
    rw [hi] at hk
    injection hk with hk
    rw [hk] at hb
    injection hb with hb
    rw [hb]
theorem lookA_ok {ok : Bool} {vz : AV} {zv : Value} {K : AV → Prop} {o : Option ME} {x : Value} {fd : Bool} (h : lookA ok vz o K) (hz : VR κ F vz zv) (hs : ∀ y, o = some y → fd = true ∧ VR κ F y.v x) (hn : o = none → fd = false ∧ x = zv) :
    ∃ y, VR κ F y (if ok then .tuple #[x, .bool fd] else x) ∧ K y := by
  obtain ⟨o', rfl, h⟩ := h
  have pair : ∀ (a : AV) (c : Bool), VR κ F a x → VR κ F (.tup [a, .bool c]) (.tuple #[x, .bool c]) := fun a c ha => .tup rfl fun i hi => by
    match i, hi with
    | 0, _ => exact ha
    | 1, _ => exact .bool c
  cases o with
  | none =>
    obtain ⟨rfl, rfl⟩ := hn rfl
    cases ok
    · exact ⟨_, hz, h⟩
    · exact ⟨_, pair _ _ hz, h⟩
  | some y =>
    obtain ⟨rfl, hv⟩ := hs y rfl
    cases ok
    · exact ⟨_, hv, h⟩
    · exact ⟨_, pair _ _ hv, h⟩
theorem lookupA_ok (hT : T.ok P = true) (I : Inv κ F B w0 H w) {t : TypeId} {m i : AV} {vm vi : Value} {ok : Bool} {K : AV → AH → Prop} (hm : VR κ F m vm) (hi : VR κ F i vi) (h : lookupA' T t m i ok H K) :
    ∃ v, (Instr.lookup t vm vi ok).run P w = .ok v w ∧ Left κ F B w0 K v w := by
  unfold lookupA' at h
  split at h
  · rename_i n
    obtain ⟨vz, et, zv, k, hu, hk, hzr, hzv, h⟩ := mapA_inv hT h
    cases hm; cases hi
    obtain ⟨y, hy, hK⟩ := lookA_ok (κ := κ) (F := F) (x := zv) (fd := false) h (hzv _ _) (fun y e => by cases e) (fun _ => ⟨rfl, rfl⟩)
    refine ⟨_, ?_, Left.same I hy hK⟩
    have hf : Instr.findNow (.int .i64) (.int .i64 n) ([] : List MapEntry) 0 = some none := rfl
    have hck := MapKept.run_checkKey (w := w) (P := P) (kt := k) (d := .int .i64) (k := .int .i64 n) hk (by simp [MapKept.IsKey]) true 9999
    simp only [Instr.lookup, Sem.run_bind, run_underlying hu, Result.andThen_ok, Sem.run_pure, Array.isEmpty_empty, hck, MapKept.run_findKey hk hf, hzr]
  · rename_i r n
    obtain ⟨vz, et, zv, k, hu, hk, hzr, hzv, b, es, cl, hH, h⟩ := mapA_inv hT h
    have hvm := map_val I hH hm
    subst hvm
    cases hi
    obtain ⟨inc, ents, hi, hb, hB, hF, hw, hrel, hbl, hpw⟩ := I.mapOf hH
    have hck := fun e => MapKept.run_checkKey (w := w) (P := P) (kt := k) (d := .int .i64) (k := .int .i64 n) hk (by simp [MapKept.IsKey]) e 9999
    have hgo : (getObj b).run P w = .ok (.map ents cl) w := MapKept.run_getObj_map hw
    cases hg : mget es n with
    | none =>
      obtain ⟨y, hy, hK⟩ := lookA_ok (κ := κ) (F := F) (x := zv) (fd := false) h (hzv _ _) (fun y e => by rw [hg] at e; cases e) (fun _ => ⟨rfl, rfl⟩)
      refine ⟨_, ?_, Left.same I hy hK⟩
      have hf := find_none (κ := κ) (F := F) 0 hrel hg
      simp only [Instr.lookup, Sem.run_bind, run_underlying hu, Result.andThen_ok, Sem.run_pure, hgo, hck, MapKept.run_findKey hk hf, hzr]
    | some x =>
      obtain ⟨j, e, hf, hj, _, hv, _⟩ := find_some (κ := κ) (F := F) 0 hrel hg
      obtain ⟨y, hy, hK⟩ := lookA_ok (κ := κ) (F := F) (x := e.val) (fd := true) h (hzv _ _) (fun y e' => by rw [hg] at e'; cases e'; exact ⟨rfl, hv⟩) (fun e' => by rw [hg] at e'; cases e')
      refine ⟨_, ?_, Left.same I hy hK⟩
      simp only [Instr.lookup, Sem.run_bind, run_underlying hu, Result.andThen_ok, Sem.run_pure, hgo, hck, MapKept.run_findKey hk hf]
  · exact h.elim
theorem updA_ok (hT : T.ok P = true) (I : Inv κ F B w0 H w) {t : TypeId} {m i x : AV} {vm vi vx : Value} {K : AV → AH → Prop} (hm : VR κ F m vm) (hi : VR κ F i vi) (hx : VR κ F x vx) (h : updA T t m i x H K) :
    ∃ w', (Instr.mapUpdate t vm vi vx).run P w = .ok () w' ∧ Left κ F B w0 K undef w' := by
  unfold updA at h
  split at h
  · rename_i r n
    obtain ⟨vz, et, zv, k, hu, hk, hzr, hzv, b, es, cl, hH, o, ho, h⟩ := mapA_inv hT h
    have hvm := map_val I hH hm
    subst hvm
    cases hi
    obtain ⟨inc, ents, hi, hb, hB, hF, hw, hrel, hbl, hpw⟩ := I.mapOf hH
    have hck := fun e => MapKept.run_checkKey (w := w) (P := P) (kt := k) (d := .int .i64) (k := .int .i64 n) hk (by simp [MapKept.IsKey]) e 9999
    have hgo : (getObj b).run P w = .ok (.map ents cl) w := MapKept.run_getObj_map hw
    cases hg : mget es n with
    | none =>
      rw [hg] at ho
      subst ho
      have hf := find_none (κ := κ) (F := F) 0 hrel hg
      obtain ⟨hrun, I'⟩ := I.setMap (P := P) (ents' := ents.push { key := .int .i64 n, val := vx, born := cl }) hH (cl' := cl + 1) (es' := es ++ [⟨n, x, cl⟩]) (by rw [Array.toList_push]; exact hrel.push ⟨rfl, hx, rfl⟩) (push_lt hbl) (push_pw hbl hpw)
      refine ⟨_, ?_, Left.same I' (.junk _) h⟩
      simp only [Instr.mapUpdate, Sem.run_bind, run_underlying hu, Result.andThen_ok, hgo, hck, MapKept.run_findKey hk hf, hrun]
    | some y =>
      rw [hg] at ho
      subst ho
      obtain ⟨j, e, hf, hj, hek, hv, hmod, _, hjl⟩ := find_some (κ := κ) (F := F) 0 hrel hg
      obtain ⟨hrun, I'⟩ := I.setMap (P := P) (ents' := ents.modify (0 + j) fun e => { e with key := .int .i64 n, val := vx }) hH (cl' := cl) (es' := mput es n x) (by rw [Array.toList_modify, Nat.zero_add]; exact hmod x vx hx) (mput_lt hbl) (mput_pw hpw)
      refine ⟨_, ?_, Left.same I' (.junk _) h⟩
      have hj' : ents[0 + j]? = some e := by rw [Nat.zero_add]; simpa using hj
      simp only [Instr.mapUpdate, Sem.run_bind, run_underlying hu, Result.andThen_ok, hgo, hck, MapKept.run_findKey hk hf, hj', Option.map_some, Option.getD_some, hek, MapKept.run_keyThatStays (d := .int .i64) (k := .int .i64 n) (by simp [MapKept.IsKey]), hrun]
  · exact h.elim
theorem rangeA_ok (hT : T.ok P = true) (I : Inv κ F B w0 H w) {t : TypeId} {m : AV} {vm : Value} {K : AV → AH → Prop} (hm : VR κ F m vm) (h : rangeA T t m H K) :
    ∃ v w', (Instr.range t vm).run P w = .ok v w' ∧ Left κ F B w0 K v w' := by
  unfold rangeA at h
  split at h
  · rename_i r
    obtain ⟨vz, et, zv, k, hu, hk, hzr, hzv, b, es, cl, hH, h⟩ := mapA_inv hT h
    have hvm := map_val I hH hm
    subst hvm
    obtain ⟨inc, ents, hi, hb, hB, hF, hw, hrel, hbl, hpw⟩ := I.mapOf hH
    have hgo : (getObj b).run P w = .ok (.map ents cl) w := MapKept.run_getObj_map hw
    obtain ⟨c, hc, hkc⟩ := I.fresh
    obtain ⟨hle, I'⟩ := I.new (.mapIter (some b) cl #[] cl) (r := c) ⟨some w.heap.size, 0, 0⟩ (.obj w.heap.size (.mapIter (some b) cl #[] cl)) hc (fun v _ => hkc v) rfl
      (fun κ' hle hkk hn hF => ⟨_, hkk, rfl, I.base, hF, heap_alloc_new _ _, fun _ _ _ hx => by cases hx⟩)
    refine ⟨.pointer (some ⟨w.heap.size, 0, none⟩), w.alloc (.mapIter (some b) cl #[] cl), ?_, _, _, _, F, hle, FLe.refl _, I', .ptr (KM.put_same ..), h c _ hc⟩
    simp [Instr.range, run_underlying hu, hgo]
  · exact h.elim
theorem MRel.mem : ∀ {l : List MapEntry} {es : List ME} {e : MapEntry}, MRel κ F l es → e ∈ l → ∃ y, y ∈ es ∧ e.key = .int .i64 y.k ∧ VR κ F y.v e.val ∧ e.born = y.b
  | x :: l, y :: es, e, h, he => by
    rcases List.mem_cons.1 he with rfl | he
    · exact ⟨y, by simp, h.1⟩
    · obtain ⟨z, h1, h2⟩ := MRel.mem h.2 he
      exact ⟨z, by simp [h1], h2⟩
  | [], _, _, _, he => by simp at he
theorem MRel.mem' : ∀ {l : List MapEntry} {es : List ME} {y : ME}, MRel κ F l es → y ∈ es → ∃ e, e ∈ l ∧ e.key = .int .i64 y.k ∧ VR κ F y.v e.val ∧ e.born = y.b
  | x :: l, z :: es, y, h, hy => by
    rcases List.mem_cons.1 hy with rfl | hy
    · exact ⟨x, by simp, h.1⟩
    · obtain ⟨e, h1, h2⟩ := MRel.mem' h.2 hy
      exact ⟨e, by simp [h1], h2⟩
  | _, [], _, _, hy => by simp at hy
theorem MRel.len : ∀ {l : List MapEntry} {es : List ME}, MRel κ F l es → l.length = es.length
  | [], [], _ => rfl
  | _ :: _, _ :: _, h => by simp [MRel.len h.2]
theorem run_mapNext (P : Program) (w : World) {n : Nat} (hn : 1 ≤ n) : ∃ k w1, (choose (.mapNext n)).run P w = .ok k w1 ∧ k < n ∧ (w1 = w ∨ w1 = w.drew) := by
  by_cases h : n ≤ 1
  · exact ⟨0, w, by simp [choose, Sem.run, Question.forced, h], by omega, .inl rfl⟩
  · refine ⟨w.tape w.drawn (.mapNext n) % n, w.drew, ?_, Nat.mod_lt _ (by omega), .inr rfl⟩
    simp [choose, Sem.run, Question.forced, h, Question.cut]
theorem iter_val (I : Inv κ F B w0 H w) {c b : Nat} {o : Obj} (h : H c = some (.obj b o)) {v : Value} (hv : VR κ F (.ptr c 0 0) v) : v = .pointer (some ⟨b, 0, none⟩) := by
  obtain ⟨i, hi, hb, _⟩ := I.objs _ _ h
  cases hv with
  | ptr hk =>
    rw [hi] at hk
    injection hk with hk
    rw [hk] at hb
    injection hb with hb
    rw [hb]
theorem nextA_ok (I : Inv κ F B w0 H w) {it : AV} {vi : Value} {ty : TypeId} {K : AV → AH → Prop} (hi : VR κ F it vi) (h : nextA it H K) :
    ∃ v w', (Instr.next vi false ty).run P w = .ok v w' ∧ Left κ F B w0 K v w' := by
  unfold nextA at h
  split at h
  · rename_i c
    obtain ⟨bi, b, since, seen, st, r, es, cl, hc, hH, hok, hsome, hnone⟩ := h
    have hvi := iter_val I hc hi
    subst hvi
    obtain ⟨ic, hic, hicb, hicB, hicF, hicw, hicn⟩ := I.objs _ _ hc
    obtain ⟨inc, ents, hi', hb, hB, hF, hw, hrel, hbl, hpw⟩ := I.mapOf hH
    have hg1 : (getObj bi).run P w = .ok (.mapIter (some b) since seen st) w := by simp [getObj, Sem.run, hicw]
    have hg2 : (getObj b).run P w = .ok (.map ents cl) w := MapKept.run_getObj_map hw
    have hguard : (!seen.isEmpty && !ents.isEmpty && ents.all (·.born ≥ st)) = false := by
      rcases hok with rfl | rfl | ⟨x, hx, hlt⟩
      · rfl
      · have : ents = #[] := by
          have := hrel.len
          apply Array.eq_empty_of_size_eq_zero
          simpa using this
        subst this
        simp
      · obtain ⟨e, he, _, _, hbn⟩ := hrel.mem' hx
        have : ents.all (fun e => decide (e.born ≥ st)) = false := by
          rw [Array.all_eq_false']
          exact ⟨e, by simpa using he, by simp; omega⟩
        rw [this]; simp
    obtain ⟨left, hleft⟩ : ∃ left, left = ents.filter fun e => !seen.contains e.born := ⟨_, rfl⟩
    obtain ⟨old, hold⟩ : ∃ old, old = left.filter (fun e => decide (e.born < since)) := ⟨_, rfl⟩
    obtain ⟨new, hnew⟩ : ∃ new, new = left.filter (fun e => decide (e.born ≥ since)) := ⟨_, rfl⟩
    obtain ⟨cand, hcand⟩ : ∃ cand : Array (Option MapEntry), cand = (if old.isEmpty then #[none] else #[]) ++ (old ++ new).map some := ⟨_, rfl⟩
    have hsz : 1 ≤ cand.size := by
      rw [hcand]
      by_cases ho : old.isEmpty = true
      · rw [if_pos ho]; simp
      · rw [if_neg ho]
        have : old.size ≠ 0 := fun h => ho (by simpa [Array.isEmpty] using h)
        simp; omega
    obtain ⟨k, w1, hch, hk, hw1⟩ := run_mapNext P w hsz
    have I1 : Inv κ F B w0 H w1 := by rcases hw1 with rfl | rfl; · exact I
                                      · exact I.drew
    have hw1h : w1.heap = w.heap := by rcases hw1 with rfl | rfl <;> rfl
    have hmemL : ∀ e, e ∈ left → e ∈ ents.toList ∧ ¬ e.born ∈ seen := fun e he => by
      rw [hleft] at he
      have := Array.mem_filter.1 he
      refine ⟨by simpa using this.1, fun hs => ?_⟩
      have h2 := this.2
      simp [Array.contains_iff_mem, hs] at h2
    cases hcd : cand[k] with
    | none =>
      have ho : old.isEmpty = true := by
        cases hoe : old.isEmpty with
        | true => rfl
        | false =>
          exfalso
          have : (none : Option MapEntry) ∈ cand := by rw [← hcd]; exact Array.getElem_mem hk
          rw [hcand, hoe] at this
          simp at this
      have hK := hnone fun x hx hlt => by
        obtain ⟨e, he, _, _, hbn⟩ := hrel.mem' hx
        refine Classical.byContradiction fun hns => ?_
        have : e ∈ old := by
          rw [hold, hleft]
          refine Array.mem_filter.2 ⟨Array.mem_filter.2 ⟨by simpa using he, ?_⟩, by simp [hbn, hlt]⟩
          rw [hbn]; simp [Array.contains_iff_mem, hns]
        have hs : old.size = 0 := by simpa [Array.isEmpty] using ho
        rw [Array.eq_empty_of_size_eq_zero hs] at this
        simp at this
      refine ⟨.tuple #[.bool false], w1, ?_, Left.same I1 (.tup rfl fun i hi => by match i, hi with | 0, _ => exact .bool false) hK⟩
      have hcd' : cand[k]? = some none := by rw [Array.getElem?_eq_getElem hk, hcd]
      simp only [Instr.next, Sem.run_bind, hg1, hg2, Result.andThen_ok, hguard, Bool.false_eq_true, if_false]
      simp only [← hleft, ← hold, ← hnew, ← hcand, hch, Result.andThen_ok, hcd', Sem.run_pure]
    | some e =>
      have hel : e ∈ left := by
        have : some e ∈ cand := by rw [← hcd]; exact Array.getElem_mem hk
        rw [hcand] at this
        have : e ∈ old ++ new := by
          rcases Array.mem_append.1 this with h | h
          · split at h <;> simp at h
          · obtain ⟨x, hx, hxe⟩ := Array.mem_map.1 h
            cases hxe; exact hx
        rcases Array.mem_append.1 this with h | h
        · rw [hold] at h; exact (Array.mem_filter.1 h).1
        · rw [hnew] at h; exact (Array.mem_filter.1 h).1
      obtain ⟨hee, hns⟩ := hmemL e hel
      obtain ⟨y, hy, hyk, hyv, hyb⟩ := hrel.mem hee
      rw [hyb] at hns
      have hK := hsome y hy hns
      have hlt := (Array.getElem?_eq_some_iff.1 hicw).1
      have hset : (setObj bi (.mapIter (some b) since (seen.push e.born) cl)).run P w1 = .ok () (w1.putObj bi (.mapIter (some b) since (seen.push e.born) cl)) := by
        simp [setObj, Sem.run, hw1h, hicw, World.putObj]
      have I2 := I1.turn (o := .obj bi (.mapIter (some b) since seen st)) (o' := .obj bi (.mapIter (some b) since (seen.push y.b) cl)) (w' := w1.putObj bi (.mapIter (some b) since (seen.push e.born) cl)) hc hic hicb rfl
        (fun k hk => World.putObj_heap_other hk) (by simp) (below_putObj I1.below hicB)
        ⟨ic, hic, hicb, hicB, hicF, by rw [hyb]; exact World.putObj_heap_same (by rw [hw1h]; exact hlt), fun _ _ _ hx => by cases hx⟩
      refine ⟨.tuple #[.bool true, e.key, e.val], _, ?_, Left.same I2 (.tup rfl fun i hi => by
        match i, hi with
        | 0, _ => exact .bool true
        | 1, _ => (show VR κ F (.int .i64 y.k) e.key); rw [hyk]; exact .int _ _
        | 2, _ => exact hyv) hK⟩
      have hcd' : cand[k]? = some (some e) := by rw [Array.getElem?_eq_getElem hk, hcd]
      simp only [Instr.next, Sem.run_bind, hg1, hg2, Result.andThen_ok, hguard, Bool.false_eq_true, if_false]
      simp only [← hleft, ← hold, ← hnew, ← hcand, hch, Result.andThen_ok, hcd']
      rw [Sem.run_bind, hset]
      rfl
  · exact h.elim
theorem entryA_ok (I : Inv κ F B w0 H w) {it : AV} {vi : Value} {K : AV → AH → Prop} (hi : VR κ F it vi) (h : entryA it H K) :
    ∃ v, (Instr.entry vi).run P w = .ok v w ∧ Left κ F B w0 K v w := by
  unfold entryA at h
  split at h
  · rename_i c
    obtain ⟨bi, b, since, seen, r, es, cl, x, hc, hH, hback, hx, hK⟩ := h
    have hvi := iter_val I hc hi
    subst hvi
    obtain ⟨ic, hic, hicb, hicB, hicF, hicw, hicn⟩ := I.objs _ _ hc
    obtain ⟨inc, ents, hi', hb, hB, hF, hw, hrel, hbl, hpw⟩ := I.mapOf hH
    have hg1 : (getObj bi).run P w = .ok (.mapIter (some b) since seen cl) w := by simp [getObj, Sem.run, hicw]
    have hg2 : (getObj b).run P w = .ok (.map ents cl) w := MapKept.run_getObj_map hw
    have hfind : ∃ e, ents.find? (·.born == x.b) = some e ∧ e.key = .int .i64 x.k ∧ VR κ F x.v e.val := by
      have key : ∀ {l : List MapEntry} {es : List ME}, MRel κ F l es → es.Pairwise (fun x y => x.b < y.b) → x ∈ es → ∃ e, l.find? (·.born == x.b) = some e ∧ e.key = .int .i64 x.k ∧ VR κ F x.v e.val := by
        intro l
        induction l with
        | nil => intro es h hp hx; cases es <;> first | (simp at hx; done) | exact h.elim
        | cons e l ih =>
          intro es h hp hx
          cases es with
          | nil => exact h.elim
          | cons y es =>
            rw [List.pairwise_cons] at hp
            rcases List.mem_cons.1 hx with rfl | hx
            · exact ⟨e, by rw [List.find?_cons, show (e.born == x.b) = true by simp [h.1.2.2]], h.1.1, h.1.2.1⟩
            · have hlt := hp.1 x hx
              obtain ⟨e', h1, h2⟩ := ih h.2 hp.2 hx
              refine ⟨e', ?_, h2⟩
              rw [List.find?_cons, show (e.born == x.b) = false by simp [h.1.2.2]; omega]
              exact h1
      obtain ⟨e, h1, h2⟩ := key hrel hpw hx
      exact ⟨e, by rw [← Array.find?_toList]; exact h1, h2⟩
    obtain ⟨e, hf, hk, hv⟩ := hfind
    refine ⟨.tuple #[e.key, e.val], ?_, Left.same I (.tup rfl fun i hi => by
        match i, hi with
        | 0, _ => (show VR κ F (.int .i64 x.k) e.key); rw [hk]; exact .int _ _
        | 1, _ => exact hv) hK⟩
    simp only [Instr.entry, Sem.run_bind, hg1, hg2, Result.andThen_ok, hback, bne_self_eq_false, Bool.false_eq_true, if_false, hf, Sem.run_pure]
  · exact h.elim
theorem lenMap_ok (hT : T.ok P = true) (I : Inv κ F B w0 H w) {t ty : TypeId} {r : Nat} {v : Value} {K : AV → AH → Prop} (hv : VR κ F (.map (some r)) v) (h : mapA T t fun _ => ∃ b es cl, H r = some (.map b es cl) ∧ K (.int .i64 es.length) H) :
    ∃ x, (Builtin.len_ #[t] ty #[v]).run P w = .ok x w ∧ Left κ F B w0 K x w := by
  obtain ⟨vz, et, zv, k, hu, hk, hzr, hzv, b, es, cl, hH, hK⟩ := mapA_inv hT h
  have hvm := map_val I hH hv
  subst hvm
  obtain ⟨inc, ents, hi', hb, hB, hF, hw, hrel, hbl, hpw⟩ := I.mapOf hH
  have hg2 : (getObj b).run P w = .ok (.map ents cl) w := MapKept.run_getObj_map hw
  refine ⟨.int .i64 ents.size, ?_, Left.same I (.int _ _) (by have := hrel.len; rw [show ents.size = es.length by simpa using this]; exact hK)⟩
  simp [Builtin.len_, run_underlying hu, hg2, goInt]
theorem clearMap_ok (hT : T.ok P = true) (I : Inv κ F B w0 H w) {t ty : TypeId} {r : Nat} {v : Value} {K : AV → AH → Prop} (hv : VR κ F (.map (some r)) v) (h : mapA T t fun _ => ∃ b es cl, H r = some (.map b es cl) ∧ K (.tup []) (H.set r (.map b [] cl))) :
    ∃ x w', (Builtin.clear_ #[t] ty #[v]).run P w = .ok x w' ∧ Left κ F B w0 K x w' := by
  obtain ⟨vz, et, zv, k, hu, hk, hzr, hzv, b, es, cl, hH, hK⟩ := mapA_inv hT h
  have hvm := map_val I hH hv
  subst hvm
  obtain ⟨inc, ents, hi', hb, hB, hF, hw, hrel, hbl, hpw⟩ := I.mapOf hH
  have hg2 : (getObj b).run P w = .ok (.map ents cl) w := MapKept.run_getObj_map hw
  obtain ⟨hrun, I'⟩ := I.setMap (P := P) (ents' := #[]) hH (cl' := cl) (es' := []) trivial (fun x hx => by simp at hx) List.Pairwise.nil
  refine ⟨.tuple #[], _, ?_, Left.same I' (.tup rfl fun i hi => by simp at hi) hK⟩
  simp [Builtin.clear_, run_underlying hu, hg2, hrun]
theorem delMap_ok (hT : T.ok P = true) (I : Inv κ F B w0 H w) {t t2 ty : TypeId} {r : Nat} {n : Int} {v : Value} {K : AV → AH → Prop} (hv : VR κ F (.map (some r)) v) (h : mapA T t fun _ => ∃ b es cl, H r = some (.map b es cl) ∧ K (.tup []) (H.set r (.map b (mdel es n) cl))) :
    ∃ x w', (Builtin.delete_ #[t, t2] ty #[v, .int .i64 n]).run P w = .ok x w' ∧ Left κ F B w0 K x w' := by
  obtain ⟨vz, et, zv, k, hu, hk, hzr, hzv, b, es, cl, hH, hK⟩ := mapA_inv hT h
  have hvm := map_val I hH hv
  subst hvm
  obtain ⟨inc, ents, hi', hb, hB, hF, hw, hrel, hbl, hpw⟩ := I.mapOf hH
  have hg2 : (getObj b).run P w = .ok (.map ents cl) w := MapKept.run_getObj_map hw
  have hck := fun e => MapKept.run_checkKey (w := w) (P := P) (kt := k) (d := .int .i64) (k := .int .i64 n) hk (by simp [MapKept.IsKey]) e 9999
  cases hg : mget es n with
  | none =>
    have hdel : ∀ {es : List ME}, mget es n = none → mdel es n = es := by
      intro es
      induction es with
      | nil => intro _; rfl
      | cons x l ih =>
        intro h
        unfold mget at h
        split at h
        · cases h
        · rename_i hne
          unfold mdel
          rw [if_neg hne, ih h]
    rw [hdel hg] at hK
    have hf := find_none (κ := κ) (F := F) 0 hrel hg
    obtain ⟨hrun, I'⟩ := I.setMap (P := P) (ents' := ents) hH (cl' := cl) (es' := es) hrel hbl hpw
    refine ⟨.tuple #[], _, ?_, Left.same I' (.tup rfl fun i hi => by simp at hi) hK⟩
    simp only [Builtin.delete_, List.getElem?_toArray, Sem.run_bind]
    simp [run_underlying hu, hg2, hck, MapKept.run_findKey hk hf, hrun]
  | some y =>
    obtain ⟨j, e, hf, hj, hek, hvv, _, hdel, hjl⟩ := find_some (κ := κ) (F := F) 0 hrel hg
    have hsub := mdel_sub (n := n) es
    obtain ⟨hrun, I'⟩ := I.setMap (P := P) (ents' := ents.eraseIdxIfInBounds (0 + j)) hH (cl' := cl) (es' := mdel es n) (by
      rw [Nat.zero_add]; unfold Array.eraseIdxIfInBounds
      rw [dif_pos (by simpa using hjl), Array.toList_eraseIdx]; exact hdel) (fun x hx => hbl x (hsub.subset hx)) (hpw.sublist hsub)
    refine ⟨.tuple #[], _, ?_, Left.same I' (.tup rfl fun i hi => by simp at hi) hK⟩
    simp only [Builtin.delete_, List.getElem?_toArray, Sem.run_bind]
    simp [run_underlying hu, hg2, hck, MapKept.run_findKey hk hf]
    rw [Nat.zero_add] at hrun
    rw [hrun]
    rfl
end Go.Fw
/- The frame of the abstract walk, part 11: what 'opA' says of an operation holds of the machine's. -/
set_option linter.unusedVariables false
set_option linter.unusedSimpArgs false
namespace Go.Fw
open Go.RowKit
variable {κ : KM} {F : FM} {B : Nat} {w0 w : World} {H : AH} {P : Program} {T : TT}
theorem ev_ok {e : Env} {a : Act} (he : ∀ t, VR κ F (e t) (a.tmps.getD t undef)) (x : Operand) : VR κ F (ev e x) (a.eval x) := by
  cases x with
  | tmp t => exact he t
  | const v => exact ofValue_ok v
  | global g => exact .junk _
  | func f => exact .fn rfl rfl (fun i hi => by simp at hi) (fun i hi => by simp at hi)
theorem evs_ok {e : Env} {a : Act} (he : ∀ t, VR κ F (e t) (a.tmps.getD t undef)) (xs : Array Operand) : VRs κ F (xs.toList.map (ev e)) (xs.map a.eval) := by
  refine ⟨by simp, fun i hi => ?_⟩
  have : i < xs.size := by simpa using hi
  simp [Array.getD_eq_getD_getElem?, this]
  exact ev_ok he _
theorem lenA_ok (hT : T.ok P = true) {t : TypeId} {ty : TypeId} {x : AV} {v : Value} {K : Int → Prop} (hx : VR κ F x v) (h : lenA ((T.get t).map (·.d)) x K) :
    ∃ n : Int, (Builtin.len_ #[t] ty #[v]).run P w = .ok (.int .i64 n) w ∧ K n := by
  cases hg : T.get t with
  | none => rw [hg] at h; cases x <;> exact h.elim
  | some tr =>
    have htr := TT.ok_get hT hg
    rw [hg] at h
    obtain ⟨d, n0, ag, z⟩ := tr
    cases d with
    | str =>
      cases x with
      | str s =>
        cases hx
        have e : (⟨s.toArray⟩ : ByteArray).size = s.length := by simp [ByteArray.size]
        exact ⟨_, by simp [Builtin.len_, run_underlying (tr_str htr), goInt, e], h⟩
      | _ => exact h.elim
    | slice e esz eb ez =>
      have hu := (tr_slice htr).1
      cases x with
      | nils => cases hx; exact ⟨0, by simp [Builtin.len_, run_underlying hu, goInt], h⟩
      | cs cells n => cases hx <;> exact ⟨_, by simp [Builtin.len_, run_underlying hu, goInt], h⟩
      | sl r v es off len lim => cases hx; exact ⟨_, by simp [Builtin.len_, run_underlying hu, goInt], h⟩
      | _ => exact h.elim
    | _ => cases x <;> exact h.elim
theorem mk2_max {k : IntKind} {x y : Int} {K : AV → Prop} (h : mk2 true k x y K) : (∀ k', (Builtin.max2 (.int k x) (.int k' y)).run P w = .ok (.int k (max x y)) w) ∧ K (.int k (max x y)) :=
  ⟨fun k' => by rw [show max x y = (if y > x then y else x) from by split <;> omega]; rfl, h _ rfl⟩
theorem mk2_min {k : IntKind} {x y : Int} {K : AV → Prop} (h : mk2 false k x y K) : (∀ k', (Builtin.min2 (.int k x) (.int k' y)).run P w = .ok (.int k (min x y)) w) ∧ K (.int k (min x y)) :=
  ⟨fun k' => by rw [show min x y = (if y < x then y else x) from by split <;> omega]; rfl, h _ rfl⟩
theorem VRs.inv1 {x : AV} {A : Array Value} (h : VRs κ F [x] A) : ∃ v, A = #[v] ∧ VR κ F x v := by
  obtain ⟨h1, h2⟩ := h
  have : A.size = 1 := h1
  refine ⟨A[0], ?_, ?_⟩
  · apply Array.ext
    · simp [this]
    · intro i hi _; have : i = 0 := by omega
      subst this; simp
  · have := h2 0 (by simp); simpa [Array.getD_eq_getD_getElem?, show 0 < A.size by omega] using this
theorem VRs.inv2 {x y : AV} {A : Array Value} (h : VRs κ F [x, y] A) : ∃ v u, A = #[v, u] ∧ VR κ F x v ∧ VR κ F y u := by
  obtain ⟨h1, h2⟩ := h
  have : A.size = 2 := h1
  refine ⟨A[0], A[1], ?_, ?_, ?_⟩
  · apply Array.ext
    · simp [this]
    · intro i hi _; have : i = 0 ∨ i = 1 := by omega
      rcases this with rfl | rfl <;> simp
  · have := h2 0 (by simp); simpa [Array.getD_eq_getD_getElem?, show 0 < A.size by omega] using this
  · have := h2 1 (by simp); simpa [Array.getD_eq_getD_getElem?, show 1 < A.size by omega] using this
theorem VRs.inv3 {x y z : AV} {A : Array Value} (h : VRs κ F [x, y, z] A) : ∃ v u t, A = #[v, u, t] ∧ VR κ F x v ∧ VR κ F y u ∧ VR κ F z t := by
  obtain ⟨h1, h2⟩ := h
  have : A.size = 3 := h1
  refine ⟨A[0], A[1], A[2], ?_, ?_, ?_, ?_⟩
  · apply Array.ext
    · simp [this]
    · intro i hi _; have : i = 0 ∨ i = 1 ∨ i = 2 := by omega
      rcases this with rfl | rfl | rfl <;> simp
  · have := h2 0 (by simp); simpa [Array.getD_eq_getD_getElem?, show 0 < A.size by omega] using this
  · have := h2 1 (by simp); simpa [Array.getD_eq_getD_getElem?, show 1 < A.size by omega] using this
  · have := h2 2 (by simp); simpa [Array.getD_eq_getD_getElem?, show 2 < A.size by omega] using this
theorem mm_max {ts : Array TypeId} {ty : TypeId} {xs : List AV} {A : Array Value} {K : AV → Prop} (hx : VRs κ F xs A) (h : mmA true xs K) : ∃ y v, (Builtin.max_ ts ty A).run P w = .ok v w ∧ VR κ F y v ∧ K y := by
  unfold mmA at h
  split at h
  · obtain ⟨v, rfl, hv⟩ := hx.inv1
    cases hv
    exact ⟨_, _, by simp [Builtin.max_], .int _ _, h⟩
  · obtain ⟨v, u, rfl, hv, hu⟩ := hx.inv2
    cases hv; cases hu
    obtain ⟨h1, h2⟩ := mk2_max (P := P) (w := w) h
    exact ⟨_, _, by simp only [Builtin.max_, List.foldlM_cons, List.foldlM_nil, Sem.run_bind, h1, Result.andThen_ok, Sem.run_pure], .int _ _, h2⟩
  · obtain ⟨v, u, t, rfl, hv, hu, ht⟩ := hx.inv3
    cases hv; cases hu; cases ht
    obtain ⟨h1, h2⟩ := mk2_max (P := P) (w := w) h
    obtain ⟨h3, h4⟩ := mk2_max (P := P) (w := w) h2
    exact ⟨_, _, by simp only [Builtin.max_, List.foldlM_cons, List.foldlM_nil, Sem.run_bind, h1, h3, Result.andThen_ok, Sem.run_pure], .int _ _, h4⟩
  · exact h.elim
theorem mm_min {ts : Array TypeId} {ty : TypeId} {xs : List AV} {A : Array Value} {K : AV → Prop} (hx : VRs κ F xs A) (h : mmA false xs K) : ∃ y v, (Builtin.min_ ts ty A).run P w = .ok v w ∧ VR κ F y v ∧ K y := by
  unfold mmA at h
  split at h
  · obtain ⟨v, rfl, hv⟩ := hx.inv1
    cases hv
    exact ⟨_, _, by simp [Builtin.min_], .int _ _, h⟩
  · obtain ⟨v, u, rfl, hv, hu⟩ := hx.inv2
    cases hv; cases hu
    obtain ⟨h1, h2⟩ := mk2_min (P := P) (w := w) h
    exact ⟨_, _, by simp only [Builtin.min_, List.foldlM_cons, List.foldlM_nil, Sem.run_bind, h1, Result.andThen_ok, Sem.run_pure], .int _ _, h2⟩
  · obtain ⟨v, u, t, rfl, hv, hu, ht⟩ := hx.inv3
    cases hv; cases hu; cases ht
    obtain ⟨h1, h2⟩ := mk2_min (P := P) (w := w) h
    obtain ⟨h3, h4⟩ := mk2_min (P := P) (w := w) h2
    exact ⟨_, _, by simp only [Builtin.min_, List.foldlM_cons, List.foldlM_nil, Sem.run_bind, h1, h3, Result.andThen_ok, Sem.run_pure], .int _ _, h4⟩
  · exact h.elim
theorem run_append_zeros {t u ty e : TypeId} {i : TypeInfo} {z : Value} {k kk : IntKind} (ht : P.underlying t = some (.slice e)) (hi : P.info? e = some i) (hz : i.zero = some z) (hu : P.underlying u = some (.int k))
    {base : Option Addr} {n : Nat} (h0 : 0 < n) (hs : i.size ≠ 0) (hb : i.bytes ≠ 0) (hbytes : n * i.bytes ≤ 140737488355328) :
    (Builtin.append_ #[t, u] ty #[.slice base 0 0, .int kk n]).run P w = .ok (.slice (some ⟨w.heap.size, 0, none⟩) n (grownCap w n 0 e))
      (w.drew.alloc (.cells (Builtin.zeroCells z.cells n ++ Builtin.zeroCells z.cells (grownCap w n 0 e - n)) e)) := by
  have hle : n ≤ 140737488355328 := Nat.le_trans (Nat.le_mul_of_pos_right _ (Nat.pos_of_ne_zero hb)) hbytes
  have hn : n ≠ 0 := by omega
  have hw : IntKind.i64.wrap (n : Int) = n := by rw [IntKind.wrap_i64]; omega
  have h63' : ¬ (9223372036854775807 < (n : Int)) := by omega
  have h48' : ¬ (281474976710656 < Builtin.nextslicecap n 0 * i.bytes) := by
    have := nextslicecap_le (show 0 < n from h0)
    have h2 : Builtin.nextslicecap n 0 * i.bytes ≤ 2 * n * i.bytes := Nat.mul_le_mul_right _ this
    rw [Nat.mul_assoc] at h2
    omega
  have h48i : ¬ (281474976710656 < (n : Int) * (i.bytes : Int)) := by
    rw [← Int.natCast_mul]
    omega
  have hneg : ¬ ((n : Int) < 0) := by omega
  have hns : ¬ (n * i.size = 0) := Nat.mul_ne_zero hn hs
  have hf := run_firstCells_zero (P := P) i.size 0 0 base w.drew
  simp [Builtin.append_, run_underlying ht, run_underlying hu, sizeOf, typeInfo, zeroValue, hi, hz, asInt, asIntOf, hw, hn, hneg, hns, h63', h48', h48i, Question.forced, hf, newRow, grownCap]
theorem appendZ_ok {t u ty e : TypeId} {esz eb : Nat} {ez : List AV} {n0 : Nat} {ag : Bool} {z0 : List AV} {k : IntKind} (hT : trOk P t ⟨.slice e esz eb ez, n0, ag, z0⟩ = true) (hu : P.underlying u = some (.int k))
    (I : Inv κ F B w0 H w) {s x : AV} {vs vx : Value} {K : AV → AH → Prop} (hs : VR κ F s vs) (hx : VR κ F x vx) (h : appendZ esz eb s x H K) :
    ∃ v' w', (Builtin.append_ #[t, u] ty #[vs, vx]).run P w = .ok v' w' ∧ Left κ F B w0 K v' w' := by
  obtain ⟨ht, ⟨i, z, hi, his, hz, hzo, hib⟩, hezl, hesz, heb⟩ := tr_slice hT
  subst his; subst hib
  have hzs : z.cells.size = i.size := by have := (zerosOk_ok (κ := κ) (F := F) hzo).1; omega
  unfold appendZ at h
  split at h
  · rename_i kk n
    obtain ⟨h0, hbytes, hK⟩ := h
    cases hs with
    | nils adr =>
      cases hx with
      | int _ _ =>
        obtain ⟨m, rfl⟩ : ∃ m : Nat, n = m := ⟨n.toNat, by omega⟩
        obtain ⟨r, hr, hkr⟩ := I.fresh
        have hbytes : m * i.bytes ≤ 140737488355328 := by rw [← Int.natCast_mul] at hbytes; omega
        have hrun := run_append_zeros (P := P) (w := w) (ty := ty) (kk := kk) ht hi hz hu (base := adr) (n := m) (by omega) hesz heb hbytes
        have hcap := grownCap_ge w m 0 e
        obtain ⟨hle, I'⟩ := I.drew.newRow (e := e) (fr := (0, 0)) (r := r) (v := 0) (cap := grownCap w m 0 e) (esz := i.size) (cells := [])
          (arr := Builtin.zeroCells z.cells m ++ Builtin.zeroCells z.cells (grownCap w m 0 e - m)) hr (fun u _ => hkr u) (loose_zero _)
          (by simp [zeroCells_size, hzs, ← Nat.add_mul]; congr 1; omega) (by simp) (fun j hj => by simp at hj)
        refine ⟨_, _, hrun, _, _, _, F, hle, FLe.refl _, I', ?_, hK r hr⟩
        exact .sl (KM.put_same ..) (lo := 0) (by simp) (by simp) (show _ = _ by simp) (by simpa using hcap) (Or.inr ⟨_, rfl, rfl⟩)
  · exact h.elim
theorem cap_nil {t e : TypeId} (ht : P.underlying t = some (.slice e)) {ty : TypeId} {a : Option Addr} : (Builtin.cap_ #[t] ty #[.slice a 0 0]).run P w = .ok (.int .i64 0) w := by
  simp [Builtin.cap_, run_underlying ht, goInt]
theorem builtinA_ok (hT : T.ok P = true) (I : Inv κ F B w0 H w) {b : Builtin} {ts : Array TypeId} {ty : TypeId} {cst : Array Bool} {xs : List AV} {A : Array Value} {K : AV → AH → Prop} (hx : VRs κ F xs A)
    (h : builtinA T b ts.toList xs H K) : ∃ v w', (builtin b ts ty cst A).run P w = .ok (.value v) w' ∧ Left κ F B w0 K v w' := by
  cases ts with | mk ts =>
  unfold builtinA at h
  split at h
  · obtain ⟨v, rfl, hv⟩ := hx.inv1
    rename_i t r hts
    simp only at hts; subst hts
    obtain ⟨x, hrun, hL⟩ := lenMap_ok (ty := ty) hT I hv h
    exact ⟨_, _, by simp [builtin, hrun], hL⟩
  · obtain ⟨v, u, rfl, hv, hu⟩ := hx.inv2
    rename_i t t2 r n hts
    simp only at hts; subst hts
    cases hu
    obtain ⟨x, w', hrun, hL⟩ := delMap_ok (ty := ty) (t2 := t2) hT I hv h
    exact ⟨_, _, by simp [builtin, hrun], hL⟩
  · obtain ⟨v, rfl, hv⟩ := hx.inv1
    rename_i t r hts
    simp only at hts; subst hts
    obtain ⟨x, w', hrun, hL⟩ := clearMap_ok (ty := ty) hT I hv h
    exact ⟨_, _, by simp [builtin, hrun], hL⟩
  · obtain ⟨v, rfl, hv⟩ := hx.inv1
    rename_i t r v1 es off len lim hts
    simp only at hts; subst hts
    split at h
    · rename_i hg1
      obtain ⟨x, w', hrun, hL⟩ := clearS_ok (ty := ty) (TT.ok_get hT hg1) I hv h
      exact ⟨_, _, by simp [builtin, hrun], hL⟩
    · exact h.elim
  · obtain ⟨v, rfl, hv⟩ := hx.inv1
    rename_i t x hts
    simp only at hts; subst hts
    obtain ⟨n, hrun, hK⟩ := lenA_ok (w := w) (ty := ty) hT hv h
    exact ⟨_, _, by simp [builtin, hrun], Left.same I (.int _ _) hK⟩
  · obtain ⟨v, u, rfl, hv, hu⟩ := hx.inv2
    rename_i t t2 s x hts
    simp only at hts; subst hts
    split at h
    · rename_i hg1 hg2
      have h2 := (tr_slice (TT.ok_get hT hg2)).1
      obtain ⟨v', w', hrun, hL⟩ := appendA_ok (ty := ty) (TT.ok_get hT hg1) h2 rfl I hv hu h
      exact ⟨v', w', by simp [builtin, hrun], hL⟩
    · rename_i hg1 hg2
      have h2 := tr_str (TT.ok_get hT hg2)
      obtain ⟨v', w', hrun, hL⟩ := appendA_ok (ty := ty) (TT.ok_get hT hg1) h2 rfl I hv hu h
      exact ⟨v', w', by simp [builtin, hrun], hL⟩
    · rename_i hg1 hg2
      obtain ⟨v', w', hrun, hL⟩ := appendZ_ok (ty := ty) (TT.ok_get hT hg1) (tr_int (TT.ok_get hT hg2)) I hv hu h
      exact ⟨v', w', by simp [builtin, hrun], hL⟩
    · exact h.elim
  · obtain ⟨v, rfl, hv⟩ := hx.inv1
    rename_i t hts
    simp only at hts; subst hts
    split at h
    · rename_i hg1
      have h1 := (tr_slice (TT.ok_get hT hg1)).1
      cases hv with
      | nils a => exact ⟨_, _, by simp [builtin, cap_nil h1], Left.same I (.int _ _) h⟩
    · exact h.elim
  · obtain ⟨v, u, rfl, hv, hu⟩ := hx.inv2
    rename_i t t2 s x hts
    simp only at hts; subst hts
    split at h
    · rename_i hg1
      obtain ⟨v', w', hrun, hL⟩ := copyA_ok (ty := ty) (u := t2) (TT.ok_get hT hg1) I hv hu h
      exact ⟨v', w', by simp [builtin, hrun], hL⟩
    · exact h.elim
  · obtain ⟨y, v, hrun, hy, hK⟩ := mm_max (P := P) (w := w) (ts := ⟨ts⟩) (ty := ty) hx h
    exact ⟨v, w, by simp [builtin, hrun], Left.same I hy hK⟩
  · obtain ⟨y, v, hrun, hy, hK⟩ := mm_min (P := P) (w := w) (ts := ⟨ts⟩) (ty := ty) hx h
    exact ⟨v, w, by simp [builtin, hrun], Left.same I hy hK⟩
  · exact h.elim
theorem optOf_ok {e : Env} {a : Act} (he : ∀ t, VR κ F (e t) (a.tmps.getD t undef)) {x : Option Operand} {o : Option Int} (h : optOf e x = some o) : OptV o (x.map a.eval) := by
  cases x with
  | none => simp only [optOf, Option.some.injEq] at h; subst h; trivial
  | some x =>
    simp only [optOf] at h
    have := ev_ok he x
    split at h
    · rename_i k i hx
      cases h
      rw [hx] at this
      show ∃ k, a.eval x = .int k i
      generalize a.eval x = v at this ⊢
      cases this
      exact ⟨k, rfl⟩
    · cases h
def Val (nx : Next) (v : Value) : Prop := nx = .value v ∨ (nx = .skip ∧ v = undef)
abbrev vparts (a : Act) (parts : Array (Nat × Operand)) : Array (Nat × Value) := parts.map fun p => (p.1, a.eval p.2)
theorem parts_ok {e : Env} {a : Act} (he : ∀ t, VR κ F (e t) (a.tmps.getD t undef)) (parts : Array (Nat × Operand)) :
    (parts.toList.map fun p => (p.1, ev e p.2)).length = (vparts a parts).toList.length ∧
    ∀ j (h1 : j < (parts.toList.map fun p => (p.1, ev e p.2)).length) (h2 : j < (vparts a parts).toList.length),
      (parts.toList.map fun p => (p.1, ev e p.2))[j].1 = (vparts a parts).toList[j].1 ∧ VR κ F (parts.toList.map fun p => (p.1, ev e p.2))[j].2 (vparts a parts).toList[j].2 := by
  refine ⟨by simp, fun j h1 h2 => ?_⟩
  have : j < parts.size := by simpa using h1
  simp
  exact ev_ok he _
theorem mapM_places : ∀ (fs : List Field) (ps : List (Nat × Nat × Bool)), fs.length = ps.length →
    (∀ j (h1 : j < fs.length) (h2 : j < ps.length), fs[j].offset = ps[j].1 ∧ (P.info? fs[j].type).map (·.size) = some ps[j].2.1) →
    fs.mapM (fun f => (P.info? f.type).map fun i => (f.offset, i.size)) = some (ps.map fun p => (p.1, p.2.1))
  | [], [], _, _ => by simp
  | [], _ :: _, h, _ => by simp at h
  | _ :: _, [], h, _ => by simp at h
  | f :: fs, p :: ps, h, hh => by
    obtain ⟨h1, h2⟩ := hh 0 (by simp) (by simp)
    simp only [List.getElem_cons_zero] at h1 h2
    have ih := mapM_places fs ps (by simpa using h) (fun j g1 g2 => by have := hh (j + 1) (by simpa using g1) (by simpa using g2); simpa using this)
    cases hi : P.info? f.type with
    | none => rw [hi] at h2; simp at h2
    | some i =>
      rw [hi] at h2
      simp at h2
      simp [List.mapM_cons, hi, ih, h1, h2]
theorem buildA_ok (hT : T.ok P = true) (I : Inv κ F B w0 H w) {e : Env} {a : Act} (he : ∀ t, VR κ F (e t) (a.tmps.getD t undef)) {t : TypeId} {parts : Array (Nat × Operand)} {K : AV → AH → Prop}
    (h : opA T (.build t parts) e H K) : ∃ v, (Instr.build t (vparts a parts)).run P w = .ok v w ∧ Left κ F B w0 K v w := by
  obtain ⟨hl, hp⟩ := parts_ok (κ := κ) (F := F) he parts
  simp only [opA] at h
  split at h
  · rename_i fs n ag z hg
    have htr := TT.ok_get hT hg
    obtain ⟨fields, hu, hsz, hf⟩ := tr_struct htr
    obtain ⟨⟨i, zv, u, hi, his, hz, hzo, _, _⟩⟩ := tr_facts htr
    split at h
    · rename_i cells hfill
      rw [forceL_eq, or_self] at h
      obtain ⟨hzs, hzc⟩ := zerosOk_ok (κ := κ) (F := F) hzo
      have hpl := mapM_places (P := P) fields.toList fs (by simpa using hsz) (fun j h1 h2 => by
        have h1' : j < fields.size := by simpa using h1
        obtain ⟨f, i', u', hf1, hf2, hf3, hf4, _⟩ := hf j fs[j] (by simp [h2])
        have : fields.toList[j] = f := by simpa [h1'] using hf1
        rw [this]
        exact ⟨hf2, by rw [hf3]; simp [hf4]⟩)
      obtain ⟨arr', h1, h2, h3⟩ := fillA_ok (κ := κ) (F := F) (place := fun i => (fs[i]?).map fun p => (p.1, p.2.1)) (place' := fun i => ((fs.map fun p => (p.1, p.2.1)).toArray)[i]?) (fun i p hp => by simpa using hp)
        _ _ z cells zv.cells hzs.symm hzc hl hp hfill
      refine ⟨.agg arr', ?_, Left.same I (.agg h2 h3) h⟩
      refine run_build w t _ arr' ?_
      unfold Program.built
      simp only [hi, hu, hz, hpl]
      exact h1
    · exact h.elim
  · rename_i len en esz ea n ag z hg
    have htr := TT.ok_get hT hg
    obtain ⟨hu, ⟨ie, hie, hies⟩, hne, _⟩ := tr_array htr
    obtain ⟨⟨i, zv, u, hi, his, hz, hzo, _, _⟩⟩ := tr_facts htr
    split at h
    · rename_i cells hfill
      rw [forceL_eq, or_self] at h
      obtain ⟨hzs, hzc⟩ := zerosOk_ok (κ := κ) (F := F) hzo
      obtain ⟨arr', h1, h2, h3⟩ := fillA_ok (κ := κ) (F := F) (place := fun i => some (i * esz, esz)) (place' := fun i => some (i * esz, esz)) (fun i p hp => hp)
        _ _ z cells zv.cells hzs.symm hzc hl hp hfill
      refine ⟨.agg arr', ?_, Left.same I (.agg h2 h3) h⟩
      unfold Instr.build
      simp only [Sem.run_bind, run_zeroValue hi hz, Result.andThen_ok, run_underlying hu, run_sizeOf hie, hies]
      rw [h1]
      rfl
    · exact h.elim
  · exact h.elim
end Go.Fw
/- The frame of the abstract walk, part 12: an operation of the machine under 'opA'. -/
set_option linter.unusedVariables false
set_option linter.unusedSimpArgs false
namespace Go.Fw
open Go.RowKit
variable {κ : KM} {F : FM} {B : Nat} {w0 w : World} {H : AH} {P : Program} {T : TT}
theorem buildSliceA_ok (hT : T.ok P = true) (I : Inv κ F B w0 H w) {e : Env} {a : Act} (he : ∀ t, VR κ F (e t) (a.tmps.getD t undef)) {t : TypeId} {len : Nat} {parts : Array (Nat × Operand)} {K : AV → AH → Prop}
    (h : opA T (.buildSlice t len parts) e H K) : ∃ v w', (Instr.buildSlice t len (vparts a parts)).run P w = .ok v w' ∧ Left κ F B w0 K v w' := by
  obtain ⟨hl, hp⟩ := parts_ok (κ := κ) (F := F) he parts
  simp only [opA] at h
  split at h
  · rename_i en esz eb ez n ag z hg
    have htr := TT.ok_get hT hg
    obtain ⟨hu, ⟨i, zv, hi, his, hz, hzo, hib⟩, hezl, hesz, heb⟩ := tr_slice htr
    subst his
    split at h
    · rename_i cells hfill
      obtain ⟨hsm, hK⟩ := when_iff.1 h
      have hsm := Nat.le_of_ble_eq_true hsm
      obtain ⟨r, hr, hkr⟩ := I.fresh
      have hzl : ((List.replicate len ez).flatten).length = ((Array.range (len * i.size)).map (zv.cells[· % zv.cells.size]!)).size := by rw [replicate_flatten_length, hezl]; simp
      obtain ⟨arr', h1, h2, h3⟩ := fillA_ok (κ := κ) (F := F) (place := fun j => some (j * i.size, i.size)) (place' := fun j => some (j * i.size, i.size)) (fun j p hp => hp)
        _ _ ((List.replicate len ez).flatten) cells ((Array.range (len * i.size)).map (zv.cells[· % zv.cells.size]!)) hzl
        (fun j hj => zeros_ok hzo (by omega) len _ (by rw [hezl]; exact Nat.le_refl _) j hj) hl hp hfill
      have hlen : cells.length = len * i.size := by
        have hwr : ∀ (parts : List (Nat × AV)) (c out : List AV), fillA (fun j => some (j * i.size, i.size)) c parts = some out → out.length = c.length := by
          intro parts
          induction parts with
          | nil => intro c out h; simp only [fillA, Option.some.injEq] at h; rw [h]
          | cons q rest ih =>
            obtain ⟨j, v⟩ := q
            intro c out h
            simp only [fillA] at h
            split at h
            · rename_i off size l hpi hl'
              cases hcond : (l.length == size && Nat.ble (off + size) c.length) with
              | false => rw [hcond] at h; simp at h
              | true =>
                rw [hcond] at h
                simp only [cond_true] at h
                simp only [Bool.and_eq_true, beq_iff_eq, Nat.ble_eq] at hcond
                rw [ih _ _ h, wrA_length _ _ _ (by omega)]
            · cases h
        rw [hwr _ _ _ hfill, replicate_flatten_length, hezl]
      have hrun : (Instr.buildSlice t len (vparts a parts)).run P w = .ok (.slice (some ⟨w.heap.size, 0, none⟩) len len) (w.alloc (.cells arr' en)) := by
        by_cases h0 : len * i.size = 0
        · have hl0 : len = 0 := by rcases Nat.mul_eq_zero.1 h0 with h | h; · exact h
                                   · exact absurd h hesz
          subst hl0
          simp only [Nat.zero_mul, Array.range_zero', Array.map_empty, vparts, Array.toList_map] at h1
          simp [Instr.buildSlice, run_underlying hu, sizeOf, typeInfo, hi, newRow, Array.range_zero', h1]
        · exact run_buildSlice w t en len _ arr' i zv hu hi hz (by omega) h0 h1
      rw [forceL_eq] at hK
      rcases hK with hK | hK | ⟨hl0, hK⟩
      · exact ⟨_, _, hrun, newRow_cs I _ (Nat.le_refl _) (by rw [h2]; exact Nat.le_refl _) h3 hK (loose_zero _)⟩
      · obtain ⟨hle, I'⟩ := I.newRow (e := en) (fr := (0, 0)) (r := r) (v := 0) (cap := len) (esz := i.size) (cells := cells) (arr := arr') hr (fun u _ => hkr u) (loose_zero _) (by rw [h2, hlen]) (by rw [h2]; exact Nat.le_refl _) h3
        refine ⟨_, _, hrun, _, _, _, F, hle, FLe.refl _, I', ?_, hK r hr⟩
        exact .sl (KM.put_same ..) (lo := 0) (by simp) (by simp) (show _ = _ by simp) (Nat.le_refl _) (Or.inr ⟨_, rfl, rfl⟩)
      · subst hl0
        exact ⟨_, _, hrun, Left.same (I.alloc _) (VR.nils _) hK⟩
    · exact h.elim
  · exact h.elim
theorem opA_ok (hT : T.ok P = true) (I : Inv κ F B w0 H w) {e : Env} {a : Act} (he : ∀ t, VR κ F (e t) (a.tmps.getD t undef)) {o : Oper} {K : AV → AH → Prop}
    (h : opA T o.op e H K) : ∃ nx v w', (execOp a.eval o).run P w = .ok nx w' ∧ Val nx v ∧ Left κ F B w0 K v w' := by
  obtain ⟨dst, op, type, pos, after, guard⟩ := o
  simp only at h
  have ok : ∀ {s : Sem Value} {v : Value} {w' : World}, s.run P w = .ok v w' → ((do pure (Next.value (← s)) : Sem Next)).run P w = .ok (.value v) w' := by
    intro s v w' h; simp [h]
  have evs := fun x => ev_ok (κ := κ) (F := F) he x
  cases op with
  | move x => exact ⟨_, _, w, rfl, .inl rfl, Left.same I (evs x) h⟩
  | assign x => exact ⟨_, _, w, rfl, .inl rfl, Left.same I (evs x) h⟩
  | pick c x y =>
    simp only [opA] at h
    have hc := evs c
    split at h
    · rename_i t hcv
      rw [hcv] at hc
      generalize hvc : a.eval c = vc at hc
      cases hc
      refine ⟨.value (if t then a.eval x else a.eval y), _, w, ?_, .inl rfl, Left.same I (y := cond t (ev e x) (ev e y)) ?_ h⟩
      · simp [execOp, hvc, asBool]
      · cases t
        · exact evs y
        · exact evs x
    · exact h.elim
  | alloc t =>
    simp only [opA] at h
    split at h
    · rename_i tr hg
      obtain ⟨⟨i, zv, u, hi, his, hz, hzo, _, _⟩⟩ := tr_facts (TT.ok_get hT hg)
      obtain ⟨w', hrun, hL⟩ := newVar_ok (P := P) I t (zerosOk_ok hzo) h
      exact ⟨_, _, w', ok (by simp [Instr.alloc, run_zeroValue hi hz, hrun]), .inl rfl, hL⟩
    · exact h.elim
  | box t x =>
    simp only [opA] at h
    split at h
    · rename_i l hl
      obtain ⟨w', hrun, hL⟩ := newVar_ok (P := P) I t (cellsOf_ok (evs x) hl) h
      exact ⟨_, _, w', ok (by simp [Instr.box, hrun]), .inl rfl, hL⟩
    · exact h.elim
  | build t parts =>
    obtain ⟨v, hrun, hL⟩ := buildA_ok hT I he h
    exact ⟨_, _, w, ok hrun, .inl rfl, hL⟩
  | buildSlice t len parts =>
    obtain ⟨v, w', hrun, hL⟩ := buildSliceA_ok hT I he h
    exact ⟨_, _, w', ok hrun, .inl rfl, hL⟩
  | load t x =>
    simp only [opA] at h
    split at h
    · rename_i tr hg
      obtain ⟨TF⟩ := tr_facts (TT.ok_get hT hg)
      obtain ⟨v, y, hrun, hy, hK⟩ := loadA_ok TF I (evs x) h
      exact ⟨_, _, w, ok hrun, .inl rfl, Left.same I hy hK⟩
    · exact h.elim
  | store t x y =>
    simp only [opA] at h
    split at h
    · rename_i tr hg
      obtain ⟨TF⟩ := tr_facts (TT.ok_get hT hg)
      obtain ⟨w', H', hrun, hI, hK⟩ := storeA_ok TF I (evs x) (evs y) h
      exact ⟨.skip, undef, w', by simp [execOp, hrun], .inr ⟨rfl, rfl⟩, Left.same hI (.junk _) hK⟩
    · exact h.elim
  | nilCheck x =>
    simp only [opA] at h
    have hx := evs x
    split at h
    · rename_i r v off hxv
      rw [hxv] at hx
      generalize hvx : a.eval x = vx at hx
      have hx' := hx
      cases hx with
      | ptr hk => exact ⟨.value _, _, w, by simp [execOp, hvx], .inl rfl, Left.same I hx' h⟩
    · rename_i cells hxv
      rw [hxv] at hx
      generalize hvx : a.eval x = vx at hx
      have hx' := hx
      cases hx with
      | cp h1 h2 h3 => exact ⟨.value _, _, w, by simp [execOp, hvx], .inl rfl, Left.same I hx' h⟩
    · rename_i f p c hxv
      rw [hxv] at hx
      generalize hvx : a.eval x = vx at hx
      have hx' := hx
      cases hx with
      | fn h1 h2 h3 h4 => exact ⟨.value _, _, w, by simp [execOp, hvx], .inl rfl, Left.same I hx' h⟩
    · exact h.elim
  | binOp op t x y yt =>
    simp only [opA] at h
    cases hy : isNilS y with
    | true =>
      rw [hy] at h
      have hy := isNilS_ok hy
      subst hy
      obtain ⟨z, v, hrun, hz, hK⟩ := nilA_ok (w := w) (ox := x) (oy := .const (.slice none 0 0)) hT (evs x) h
      exact ⟨_, _, w, ok hrun, .inl rfl, Left.same I hz hK⟩
    | false =>
      rw [hy] at h
      obtain ⟨z, v, hrun, hz, hK⟩ := aggB_ok (w := w) (ox := x) (oy := y) hT (evs x) (evs y) h
      exact ⟨_, _, w, ok hrun, .inl rfl, Left.same I hz hK⟩
  | unOp op t x =>
    simp only [opA] at h
    have hx := evs x
    split at h
    · rename_i k n hxv
      rw [hxv] at hx
      generalize hvx : a.eval x = vx at hx
      cases hx
      exact ⟨_, _, w, ok (by simp only [hvx]; rfl), .inl rfl, Left.same I (.int k _) (h _ rfl)⟩
    · rename_i k n hxv
      rw [hxv] at hx
      generalize hvx : a.eval x = vx at hx
      cases hx
      exact ⟨_, _, w, ok (by simp only [hvx]; rfl), .inl rfl, Left.same I (.int k _) (h _ rfl)⟩
    · rename_i b hxv
      rw [hxv] at hx
      generalize hvx : a.eval x = vx at hx
      cases hx
      exact ⟨_, _, w, ok (by simp only [hvx]; rfl), .inl rfl, Left.same I (.bool _) h⟩
    · exact h.elim
  | convert s d x =>
    simp only [opA] at h
    split at h
    · rename_i sr dr hg1 hg2
      obtain ⟨v', w', hrun, hL⟩ := convA_ok hT (TT.ok_get hT hg1) (TT.ok_get hT hg2) I (evs x) h
      exact ⟨_, _, w', ok hrun, .inl rfl, hL⟩
    · exact h.elim
  | makeFunc f first captured =>
    obtain ⟨h1, h2⟩ := evs_ok (κ := κ) (F := F) he first
    obtain ⟨h3, h4⟩ := evs_ok (κ := κ) (F := F) he captured
    exact ⟨.value _, _, w, rfl, .inl rfl, Left.same I (.fn h1 h3 h2 h4) h⟩
  | makeSlice t l c =>
    simp only [opA] at h
    have hl := evs l
    have hc := evs c
    split at h
    · rename_i en esz eb ez n ag z kl vl kc vc hg hlv hcv
      rw [hlv] at hl; rw [hcv] at hc
      generalize hvl : a.eval l = ul at hl
      generalize hvc : a.eval c = uc at hc
      cases hl; cases hc
      obtain ⟨h0, h1, h2, h3⟩ := h
      obtain ⟨v', w', hrun, hL⟩ := makeSlice_ok (kl := kl) (kc := kc) (TT.ok_get hT hg) I h0 h1 h2 h3
      exact ⟨_, _, w', ok (by simp only [hvl, hvc]; exact hrun), .inl rfl, hL⟩
    · exact h.elim
  | slice t x lo hi mx =>
    simp only [opA] at h
    split at h
    · rename_i tr lo' hi' mx' hg h1 h2 h3
      obtain ⟨v, y, hrun, hy, hK⟩ := sliceA_ok (w := w) (TT.ok_get hT hg) (evs x) (optOf_ok he h1) (optOf_ok he h2) (optOf_ok he h3) h
      exact ⟨_, _, w, ok hrun, .inl rfl, Left.same I hy hK⟩
    · exact h.elim
  | fieldAddr t x f =>
    simp only [opA] at h
    split at h
    · rename_i fs n ag z hg
      obtain ⟨v, y, hrun, hy, hK⟩ := fieldAddrA_ok (w := w) (TT.ok_get hT hg) (evs x) h
      exact ⟨_, _, w, ok hrun, .inl rfl, Left.same I hy hK⟩
    · exact h.elim
  | field t x f =>
    simp only [opA] at h
    have hx := evs x
    split at h
    · rename_i fs n ag z cells hg hxv
      rw [hxv] at hx
      split at h
      · rename_i off size agg hf
        obtain ⟨h2, h1, h3⟩ := when_iff.1 h
        obtain ⟨v, y, hrun, hy, hK⟩ := fieldA_ok (w := w) (K := fun v => K v H) (TT.ok_get hT hg) hx hf h1 (aggOr h2) h3
        exact ⟨_, _, w, ok hrun, .inl rfl, Left.same I hy hK⟩
      · exact h.elim
    · exact h.elim
  | indexAddr t x i =>
    simp only [opA] at h
    split at h
    · rename_i tr hg
      obtain ⟨v, y, hrun, hy, hK⟩ := indexAddrA_ok (w := w) (TT.ok_get hT hg) (evs x) (evs i) h
      exact ⟨_, _, w, ok hrun, .inl rfl, Left.same I hy hK⟩
    · exact h.elim
  | index t x i =>
    simp only [opA] at h
    split at h
    · rename_i tr hg
      obtain ⟨v, y, hrun, hy, hK⟩ := indexA_ok (w := w) (TT.ok_get hT hg) (evs x) (evs i) h
      exact ⟨_, _, w, ok hrun, .inl rfl, Left.same I hy hK⟩
    · exact h.elim
  | extract t i =>
    simp only [opA] at h
    have ht := evs t
    split at h
    · rename_i vs hv
      rw [hv] at ht
      generalize hvt : a.eval t = vt at ht
      cases ht with
      | tup hA hc =>
        rename_i A
        split at h
        · rename_i v hvi
          obtain ⟨hi, rfl⟩ := List.getElem?_eq_some_iff.1 hvi
          have := hc i hi
          refine ⟨_, A.getD i undef, w, ok ?_, .inl rfl, Left.same I this h⟩
          simp only [hvt, Instr.extract]
          have : A[i]? = some (A.getD i undef) := by rw [Array.getD_eq_getD_getElem?, Array.getElem?_eq_getElem (by omega)]; rfl
          rw [this]; rfl
        · exact h.elim
    · exact h.elim
  | call c =>
    simp only [opA] at h
    split at h
    · rename_i b hcl
      obtain ⟨v, w', hrun, hL⟩ := builtinA_ok (ty := type) (cst := c.args.map fun | .const _ => true | _ => false) hT I (evs_ok he c.args) h
      refine ⟨_, v, w', ?_, .inl rfl, hL⟩
      simp only [execOp, resolve, hcl, pure_bind, invoke]
      exact hrun
    · exact h.elim
  | makeMap t hint =>
    cases hint with
    | some x => exact h.elim
    | none =>
      obtain ⟨_, _, _, _, _, _, _, _, hK⟩ := mapA_inv hT h
      obtain ⟨v, w', hrun, hL⟩ := makeMapA_ok (P := P) (t := t) I hK
      exact ⟨_, _, w', ok hrun, .inl rfl, hL⟩
  | lookup t m i c =>
    obtain ⟨v, hrun, hL⟩ := lookupA_ok hT I (evs m) (evs i) h
    exact ⟨_, _, w, ok hrun, .inl rfl, hL⟩
  | mapUpdate t m i x =>
    obtain ⟨w', hrun, hL⟩ := updA_ok hT I (evs m) (evs i) (evs x) h
    exact ⟨.skip, undef, w', by simp [execOp, hrun], .inr ⟨rfl, rfl⟩, hL⟩
  | range t m =>
    obtain ⟨v, w', hrun, hL⟩ := rangeA_ok hT I (evs m) h
    exact ⟨_, _, w', ok hrun, .inl rfl, hL⟩
  | next it s =>
    cases s with
    | true => exact h.elim
    | false =>
      obtain ⟨v, w', hrun, hL⟩ := nextA_ok (P := P) (ty := type) I (evs it) h
      exact ⟨_, _, w', ok hrun, .inl rfl, hL⟩
  | entry it =>
    obtain ⟨v, hrun, hL⟩ := entryA_ok (P := P) I (evs it) h
    exact ⟨_, _, w, ok hrun, .inl rfl, hL⟩
  | _ => exact h.elim
end Go.Fw
/- The frame of the abstract walk, part 13: calls, regions, control. -/
set_option linter.unusedVariables false
set_option linter.unusedSimpArgs false
namespace Go.Fw
open Go.RowKit
variable {κ : KM} {F : FM} {B : Nat} {w0 w : World} {H : AH} {P : Program} {T : TT}
def fence (ro : Option Nat) : Fence := { fn := fun _ => True, depth := none, alive := false, round := ro }
def CPost (κ : KM) (F : FM) (B : Nat) (w0 : World) (K : AV → AH → Prop) : Ending → World → Prop := fun e w' => ∃ v, e = .returned v ∧ Left κ F B w0 K v w'
structure ACall (P : Program) (g : FuncId) (args : List AV) (H : AH) (K : AV → AH → Prop) : Prop where
  ent : ∃ fn, P.funcs[g]? = some fn ∧ fn.body.isSome = true ∧ (fn.name == "runtime.NumGoroutine") = false
  run : ∀ κ F B w0 w cargs, Inv κ F B w0 H w → VRs κ F args cargs → Calls P g cargs w (CPost κ F B w0 K)
theorem Left.mono {K K' : AV → AH → Prop} {v : Value} (h : Left κ F B w0 K v w) (hk : ∀ y H', K y H' → K' y H') : Left κ F B w0 K' v w := by
  obtain ⟨y, H', κ', F', a, b, c, d, e⟩ := h
  exact ⟨y, H', κ', F', a, b, c, d, hk _ _ e⟩
theorem ACall.mono {g : FuncId} {args : List AV} {K K' : AV → AH → Prop} (h : ACall P g args H K) (hk : ∀ y H', K y H' → K' y H') : ACall P g args H K' :=
  ⟨h.ent, fun κ F B w0 w cargs hI hA => (h.run κ F B w0 w cargs hI hA).mono fun e w' ⟨v, he, hl⟩ => ⟨v, he, hl.mono hk⟩⟩
structure AYield (P : Program) (l : Nat) (args : List AV) (H : AH) (K : AV → AH → Prop) : Prop where
  run : ∀ κ F B w0 w cargs, Inv κ F B w0 H w → VRs κ F args cargs →
    ∃ fn tmps assign body, (Instr.yield l cargs).run P w = .ok (.round l fn tmps assign body) w ∧ RoundIn Fence.wide 0 P l fn tmps assign body w (CPost κ F B w0 K)
def callA (P : Program) (f : AV) (args : List AV) (H : AH) (K : AV → AH → Prop) : Prop :=
  match f with
  | .fn (.func g) first captured => forceL (first ++ args ++ captured) fun l => ACall P g l H K
  | .fn (.yield l) [] _ => forceL args fun args => AYield P l args H K
  | _ => False
def stepA (P : Program) (T : TT) (o : Op) (e : Env) (H : AH) (K : AV → AH → Prop) : Prop :=
  match o with
  | .call c => (match c.callee with | .value f => callA P (ev e f) (c.args.toList.map (ev e)) H K | _ => opA T (.call c) e H K)
  | o => opA T o e H K
theorem VRs.append {l m : List AV} {A C : Array Value} (h : VRs κ F l A) (k : VRs κ F m C) : VRs κ F (l ++ m) (A ++ C) := by
  refine ⟨by simp [h.1, k.1], fun i hi => ?_⟩
  simp only [Array.getD_eq_getD_getElem?]
  by_cases hlt : i < l.length
  · rw [List.getElem_append_left hlt, Array.getElem?_append_left (by rw [h.1]; exact hlt)]
    have := h.2 i hlt; rwa [Array.getD_eq_getD_getElem?] at this
  · rw [List.getElem_append_right (by omega), Array.getElem?_append_right (by rw [h.1]; omega), h.1]
    have := k.2 (i - l.length) (by simp at hi; omega); rwa [Array.getD_eq_getD_getElem?] at this
theorem callsIn_fence {ro : Option Nat} {n : Nat} {f : FuncId} {args : Array Value} {R : Ending → World → Prop} (h : Calls P f args w R) : CallsIn (fence ro) n P f args w R := by
  have h' := callsIn_wide (n := n) |>.2 h
  cases ro with
  | none => exact h'
  | some l => exact h'.inRound l
theorem roundIn_fence {ro : Option Nat} {n l : Nat} {f : FuncId} {tmps : Array Value} {assign body : Code} {R : Ending → World → Prop} (h : RoundIn Fence.wide n P l f tmps assign body w R) : RoundIn (fence ro) n P l f tmps assign body w R := by
  cases ro with
  | none => exact h
  | some l' => exact h
theorem stepA_ok (hT : T.ok P = true) (ro : Option Nat) (I : Inv κ F B w0 H w) {e : Env} {a : Act} (he : ∀ t, VR κ F (e t) (a.tmps.getD t undef)) {o : Oper} {K : AV → AH → Prop}
    (h : stepA P T o.op e H K) {next : Act → World → Prop} {Q : Exit → Act → World → Prop} (hn : ∀ v w', Left κ F B w0 K v w' → next (a.put o.dst v) w') :
    o.wpIn (fence ro) 0 P a w next Q := by
  refine ⟨fun _ _ => trivial, ?_⟩
  have hd : ∀ c, o.op ≠ .defer c := by
    intro c hc; rw [hc] at h; exact h
  rw [Oper.semAt_eq _ _ _ hd]
  have base : opA T o.op e H K → o.uponIn (fence ro) 0 P a next Q ((execOp a.eval o).run P w) := by
    intro h
    obtain ⟨nx, v, w', hrun, hv, hL⟩ := opA_ok hT I he h
    rw [hrun]
    rcases hv with rfl | ⟨rfl, rfl⟩
    · exact hn _ _ hL
    · exact hn _ _ hL
  unfold stepA at h
  split at h
  · rename_i c hop
    split at h
    · rename_i f hcl
      have hA := evs_ok he c.args
      have hf := ev_ok he f
      unfold callA at h
      split at h
      · rename_i g first captured hfv
        rw [forceL_eq] at h
        obtain ⟨⟨fn, hfn, hb, hnm⟩, hcall⟩ := h
        rw [hfv] at hf
        generalize hvf : a.eval f = vf at hf
        cases hf with
        | fn h1 h2 h3 h4 =>
          rename_i A C
          have hall := VRs.append (VRs.append (⟨h1, h3⟩ : VRs κ F first A) hA) (⟨h2, h4⟩ : VRs κ F captured C)
          have hrun : (execOp a.eval o).run P w = .ok (.enter g (A ++ c.args.map a.eval ++ C)) w := by
            have hbn : fn.body.isNone = false := by cases hbb : fn.body <;> simp_all
            unfold execOp
            rw [hop]
            simp only [resolve, hcl, hvf, Deferred.ofValue, Sem.run_bind, Sem.run_pure, Result.andThen_ok, invoke, callFunc, run_program, hfn]
            simp only [hnm, Bool.false_eq_true, if_false, hbn]
            rfl
          rw [hrun]
          refine ⟨(fun hx => absurd hx (by simp [fence])), ?_⟩
          refine (callsIn_fence (hcall κ F B w0 w _ I hall)).mono ?_
          rintro e' w' ⟨v, rfl, hL⟩
          exact hn _ _ hL
      · rename_i l captured hfv
        rw [forceL_eq] at h
        rw [hfv] at hf
        generalize hvf : a.eval f = vf at hf
        cases hf with
        | fn h1 h2 h3 h4 =>
          rename_i A C
          obtain ⟨fn, tmps, assign, body, hy, hR⟩ := h.run κ F B w0 w _ I hA
          have hA0 : A = #[] := by apply Array.eq_empty_of_size_eq_zero; simpa using h1
          have hrun : (execOp a.eval o).run P w = .ok (.round l fn tmps assign body) w := by
            unfold execOp
            rw [hop]
            simp only [resolve, hcl, hvf, Deferred.ofValue, Sem.run_bind, Sem.run_pure, Result.andThen_ok, invoke, hA0, Array.empty_append]
            exact hy
          rw [hrun]
          refine ⟨(fun hx => absurd hx (by simp [fence])), ?_⟩
          refine (roundIn_fence hR).mono ?_
          rintro e' w' ⟨v, rfl, hL⟩
          exact hn _ _ hL
      · exact h.elim
    · exact base (by rw [hop]; exact h)
  · exact base h
structure St where
  e : Env
  d : List Nat
def markOf (b : Nat) : Deferred := { target := .collected b, args := #[] }
structure ER (κ : KM) (F : FM) (N : Nat) (s : St) (a : Act) : Prop where
  e : ∀ t, VR κ F (s.e t) (a.tmps.getD t undef)
  size : a.tmps.size = N
  d : a.defers = s.d.map markOf
theorem ER.mono {κ' : KM} {F' : FM} (hk : KLe κ κ') (hf : FLe F F') {N : Nat} {s : St} {a : Act} (h : ER κ F N s a) : ER κ' F' N s a := ⟨fun t => (h.e t).mono hk hf, h.size, h.d⟩
def putS (s : St) (d : Option Tmp) (v : AV) : St := ⟨putA s.e d v, s.d⟩
def dstOk (N : Nat) (d : Option Tmp) : Bool := match d with | some t => Nat.blt t N | none => true
theorem ER.put {N : Nat} {s : St} {a : Act} (h : ER κ F N s a) {d : Option Tmp} (hd : dstOk N d = true) {y : AV} {v : Value} (hv : VR κ F y v) : ER κ F N (putS s d y) (a.put d v) := by
  cases d with
  | none => exact h
  | some t =>
    refine ⟨fun u => ?_, by simp [Act.put, h.size], h.d⟩
    have ht : t < a.tmps.size := by rw [h.size]; simpa [dstOk] using hd
    simp only [putS, putA, upd, Act.put]
    cases hb : Nat.beq u t with
    | true =>
      have : u = t := Nat.eq_of_beq_eq_true hb
      subst this
      simp [Array.getD_eq_getD_getElem?, ht]; exact hv
    | false =>
      have : u ≠ t := Nat.ne_of_beq_eq_false hb
      simp only [cond_false, Array.getD_eq_getD_getElem?, Array.getElem?_setIfInBounds_ne (Ne.symm this)]
      have := h.e u; rwa [Array.getD_eq_getD_getElem?] at this
def guardA (all : Array Oper) (e : Env) : Option (Nat × Bool) → (Bool → Prop) → Prop
  | none, K => K true
  | some (j, want), K => match (all[j]?).bind (·.dst) with
    | some d => (match e d with | .bool b => K (b == want) | .tup [] => K false | _ => False)
    | none => False
def opsS (N : Nat) (P : Program) (T : TT) (all : Array Oper) : List Oper → (St → AH → Prop) → St → AH → Prop
  | [], K, s, H => K s H
  | o :: rest, K, s, H =>
    when (dstOk N o.dst) (guardA all s.e o.guard fun b =>
      cond b (stepA P T o.op s.e H fun v H' => opsS N P T all rest K (putS s o.dst v) H') (opsS N P T all rest K (putS s o.dst (.tup [])) H))
def dstsOf (l : List Oper) : List Nat := l.filterMap (·.dst)
def writes : Code → List Nat
  | .region _ ops _ => dstsOf ops.toList
  | .seq a b => writes a ++ writes b
  | .cond _ a b => writes a ++ writes b
  | .block _ c => writes c
  | .loop c => writes c
  | .scope c => writes c
  | _ => []
def Agree (ws : Nat → Bool) (s s' : St) : Prop := ∀ t, ws t = false → s'.e t = s.e t
theorem Agree.refl (ws : Nat → Bool) (s : St) : Agree ws s s := fun _ _ => rfl
theorem Agree.trans {ws : Nat → Bool} {s s' s'' : St} (h : Agree ws s s') (k : Agree ws s' s'') : Agree ws s s'' := fun t ht => (k t ht).trans (h t ht)
theorem Agree.mono {ws ws' : Nat → Bool} {s s' : St} (h : Agree ws s s') (hw : ∀ t, ws t = true → ws' t = true) : Agree ws' s s' := fun t ht => h t (by
  cases hx : ws t with
  | false => rfl
  | true => rw [hw t hx] at ht; cases ht)
theorem Agree.put {ws : Nat → Bool} (s : St) {d : Option Tmp} (v : AV) (h : ∀ t, d = some t → ws t = true) : Agree ws s (putS s d v) := by
  intro t ht
  cases d with
  | none => rfl
  | some u =>
    have : t ≠ u := fun e => by rw [e, h u rfl] at ht; cases ht
    simp only [putS, putA, upd]
    cases hb : Nat.beq t u with
    | true => exact absurd (Nat.eq_of_beq_eq_true hb) this
    | false => rfl
def Out (κ : KM) (F : FM) (B : Nat) (w0 : World) (N : Nat) (ws : Nat → Bool) (s : St) (K : St → AH → Prop) (a : Act) (w : World) : Prop :=
  ∃ s' H' κ' F', KLe κ κ' ∧ FLe F F' ∧ Inv κ' F' B w0 H' w ∧ ER κ' F' N s' a ∧ Agree ws s s' ∧ K s' H'
theorem Out.mono {N : Nat} {ws ws' : Nat → Bool} {s : St} {K K' : St → AH → Prop} {a : Act} (h : Out κ F B w0 N ws s K a w) (hw : ∀ t, ws t = true → ws' t = true) (hk : ∀ s H, K s H → K' s H) : Out κ F B w0 N ws' s K' a w := by
  obtain ⟨s', H', κ', F', h1, h2, h3, h4, h5, h6⟩ := h
  exact ⟨s', H', κ', F', h1, h2, h3, h4, h5.mono hw, hk _ _ h6⟩
theorem Out.from {κ1 : KM} {F1 : FM} {N : Nat} {ws : Nat → Bool} {s s1 : St} {K : St → AH → Prop} {a : Act} (hk : KLe κ κ1) (hf : FLe F F1) (hs : Agree ws s s1) (h : Out κ1 F1 B w0 N ws s1 K a w) : Out κ F B w0 N ws s K a w := by
  obtain ⟨s', H', κ', F', h1, h2, h3, h4, h5, h6⟩ := h
  exact ⟨s', H', κ', F', hk.trans h1, hf.trans h2, h3, h4, hs.trans h5, h6⟩
def QOk (κ : KM) (F : FM) (B : Nat) (w0 : World) (N : Nat) (ws : Nat → Bool) (s : St) (K R : St → AH → Prop) (X : Nat → St → AH → Prop) : Exit → Act → World → Prop
  | .normal, a, w => Out κ F B w0 N ws s K a w
  | .ret, a, w => Out κ F B w0 N ws s R a w
  | .exit id, a, w => Out κ F B w0 N ws s (X id) a w
  | _, _, _ => False
structure AWp (N : Nat) (P : Program) (ro : Option Nat) (ws : Nat → Bool) (c : Code) (K R : St → AH → Prop) (X : Nat → St → AH → Prop) (s : St) (H : AH) : Prop where
  out : ∀ κ F B w0 w a, Inv κ F B w0 H w → ER κ F N s a → c.wpIn (fence ro) 0 P (QOk κ F B w0 N ws s K R X) a w
theorem wanted_of {all : Array Oper} {N : Nat} {s : St} {a : Act} (hER : ER κ F N s a) {o : Oper} {K : Bool → Prop} (h : guardA all s.e o.guard K) : K (Region.wanted o (yielded all a.tmps)) := by
  unfold guardA at h
  unfold Region.wanted
  split at h
  · rename_i hg; rw [hg]; exact h
  · rename_i j want hg
    rw [hg]
    split at h
    · rename_i d hd
      split at h
      · rename_i b hb
        have hv := hER.e d
        rw [hb] at hv
        have hy : yielded all a.tmps j = some b := by
          unfold yielded
          rw [hd]
          simp only [Option.bind_some]
          generalize hx : a.tmps.getD d undef = x at hv
          cases hv
          cases ht : a.tmps[d]? with
          | none => rw [Array.getD_eq_getD_getElem?, ht] at hx; cases hx
          | some y => rw [Array.getD_eq_getD_getElem?, ht] at hx; simp at hx; subst hx; rfl
        simp only [hy]
        have : (some b == some want) = (b == want) := by cases b <;> cases want <;> rfl
        rw [this]; exact h
      · rename_i hb
        have hv := hER.e d
        rw [hb] at hv
        have hy : yielded all a.tmps j = none := by
          unfold yielded
          rw [hd]
          simp only [Option.bind_some]
          generalize hx : a.tmps.getD d undef = x at hv
          cases hv with
          | tup hA hi =>
            rename_i A
            have hA0 : A = #[] := by apply Array.eq_empty_of_size_eq_zero; simpa using hA
            subst hA0
            cases ht : a.tmps[d]? with
            | none => rfl
            | some y => rw [Array.getD_eq_getD_getElem?, ht] at hx; simp at hx; subst hx; rfl
        simp only [hy]
        exact h
      · exact h.elim
    · exact h.elim
theorem VR.undef : VR κ F (.tup []) undef := .tup (A := #[]) rfl (fun i hi => by simp at hi)
theorem operWpIn_mono {G : Fence} {n : Nat} {o : Oper} {a : Act} {w : World} {next next' : Act → World → Prop} {Q Q' : Exit → Act → World → Prop} (h1 : ∀ a w, next a w → next' a w) (h2 : ∀ e a w, Q e a w → Q' e a w)
    (h : o.wpIn G n P a w next Q) : o.wpIn G n P a w next' Q' := by
  obtain ⟨ha, h⟩ := h
  refine ⟨ha, ?_⟩
  have out : LetsOut Q → LetsOut Q' := fun ⟨a, w, hq⟩ => ⟨a, w, h2 _ _ _ hq⟩
  have post : ∀ (e : Ending) (w'' : World), (match e, w'' with | .returned v, w'' => next (a.put o.dst v) w'' | .panicked chain, w'' => Q (.panic chain) a w'' | .outgrown, _ => LetsOut Q) →
      (match e, w'' with | .returned v, w'' => next' (a.put o.dst v) w'' | .panicked chain, w'' => Q' (.panic chain) a w'' | .outgrown, _ => LetsOut Q') := by
    intro e w'' h
    cases e with
    | returned v => exact h1 _ _ h
    | panicked c => exact h2 _ _ _ h
    | outgrown => exact out h
  generalize (o.semAt G.round a.eval).run P w = r at h ⊢
  cases r with
  | ok x w' =>
    cases x <;> simp only [Oper.uponIn] at h ⊢ <;> first
      | exact h1 _ _ h
      | exact ⟨h.1, CallsIn.mono h.2 (fun e w'' he => post e w'' he)⟩
      | exact ⟨h.1, RowsIn.mono h.2 (fun _ _ he => h1 _ _ he)⟩
      | exact ⟨h.1, RoundIn.mono h.2 (fun e w'' he => post e w'' he)⟩
  | halt x w' => cases x <;> simp only [Oper.uponIn] at h ⊢ <;> exact h2 _ _ _ h
theorem wpListIn_mono' {G : Fence} {n : Nat} {all : Array Oper} {Q Q' : Exit → Act → World → Prop} (hq : ∀ e a w, Q e a w → Q' e a w) : ∀ (l : List Oper) (a : Act) (w : World), wpListIn G n P all Q l a w → wpListIn G n P all Q' l a w
  | [], a, w, h => hq _ _ _ h
  | o :: rest, a, w, h => by
    unfold wpListIn at h ⊢
    split
    · rename_i hw; rw [if_pos hw] at h; exact operWpIn_mono (fun a w => wpListIn_mono' hq rest a w) hq h
    · rename_i hw; rw [if_neg hw] at h; exact ⟨h.1, wpListIn_mono' hq rest _ _ h.2⟩
theorem opsS_ok (hT : T.ok P = true) (ro : Option Nat) {N : Nat} {all : Array Oper} {K R : St → AH → Prop} {X : Nat → St → AH → Prop} {ws : Nat → Bool} : ∀ (l : List Oper) (s : St) (H : AH), (∀ t, t ∈ dstsOf l → ws t = true) → opsS N P T all l K s H →
    ∀ κ F w a, Inv κ F B w0 H w → ER κ F N s a → wpListIn (fence ro) 0 P all (QOk κ F B w0 N ws s K R X) l a w
  | [], s, H, _, h, κ, F, w, a, I, hE => ⟨s, H, κ, F, KLe.refl _, FLe.refl _, I, hE, Agree.refl _ _, h⟩
  | o :: rest, s, H, hws, h, κ, F, w, a, I, hE => by
    obtain ⟨hd, h⟩ := when_iff.1 h
    have hg := wanted_of hE h
    have hrest : ∀ t, t ∈ dstsOf rest → ws t = true := fun t ht => hws t (by simp only [dstsOf, List.filterMap_cons] at ht ⊢; split <;> simp_all)
    have hdst : ∀ t, o.dst = some t → ws t = true := fun t ht => hws t (by simp [dstsOf, List.filterMap_cons, ht])
    have lift : ∀ (κ1 : KM) (F1 : FM) (s1 : St) (e : Exit) (a1 : Act) (w1 : World), KLe κ κ1 → FLe F F1 → Agree ws s s1 → QOk κ1 F1 B w0 N ws s1 K R X e a1 w1 → QOk κ F B w0 N ws s K R X e a1 w1 := by
      intro κ1 F1 s1 e a1 w1 hk hf hs hq
      cases e with
      | normal => exact Out.from hk hf hs hq
      | ret => exact Out.from hk hf hs hq
      | exit id => exact Out.from hk hf hs hq
      | _ => exact hq.elim
    unfold wpListIn
    cases hw : Region.wanted o (yielded all a.tmps) with
    | true =>
      rw [hw] at hg
      simp only [if_true]
      refine stepA_ok hT ro I hE.e hg ?_
      rintro v w' ⟨y, H', κ', F', hk, hf, I', hv, hK⟩
      have hE' := (hE.mono hk hf).put hd hv
      exact wpListIn_mono' (fun e a w hq => lift κ' F' _ e a w hk hf (Agree.put s y hdst) hq) _ _ _ (opsS_ok hT ro rest _ _ hrest hK κ' F' w' _ I' hE')
    | false =>
      rw [hw] at hg
      simp only [Bool.false_eq_true, if_false]
      refine ⟨fun _ _ => trivial, ?_⟩
      have hE' := hE.put hd VR.undef
      exact wpListIn_mono' (fun e a w hq => lift κ F _ e a w (KLe.refl _) (FLe.refl _) (Agree.put s (.tup []) hdst) hq) _ _ _ (opsS_ok hT ro rest _ _ hrest hg κ F w _ I hE')
end Go.Fw
