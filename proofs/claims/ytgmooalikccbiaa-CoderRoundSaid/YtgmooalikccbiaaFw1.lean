/- The frame of the abstract walk, part 1: abstract values, what they stand for in the machine's memory, abstract heaps, and the relation between an abstract heap and a world. -/
import Derived.RangeFuncLeaves
import Derived.Below
set_option linter.unusedVariables false
set_option linter.unusedSimpArgs false
namespace Go.Fw
open Go.RowKit

/-- Abstract values: constants carry what they read as; 'ptr', 'sl' lead to rows of the abstract heap. -/
inductive AV where
  | junk
  | int (k : IntKind) (n : Int)
  | bool (b : Bool)
  | str (s : List UInt8)
  | nilp
  | ptr (r v off : Nat)
  | cp (cells : List AV)
  | nils
  | cs (cells : List AV) (n : Nat)
  | sl (r v es off len : Nat) (lim : Option Nat)
  | map (r : Option Nat)
  | fn (f : Fn) (first captured : List AV)
  | nilf
  | agg (cells : List AV)
  | tup (vs : List AV)
  deriving Inhabited

structure Inc where
  blk : Option Nat
  cap : Nat
  esz : Nat

abbrev KM := Nat → Nat → Option Inc
abbrev FM := Nat → Option (Array Value)

def limOk (lim : Option Nat) (c room : Nat) : Prop :=
  match lim with
  | none => c = room
  | some m => c = m ∧ m ≤ room

/-- What an abstract value stands for. -/
inductive VR (κ : KM) (F : FM) : AV → Value → Prop where
  | junk (v : Value) : VR κ F .junk v
  | int (k : IntKind) (n : Int) : VR κ F (.int k n) (.int k n)
  | bool (b : Bool) : VR κ F (.bool b) (.bool b)
  | str (s : List UInt8) : VR κ F (.str s) (.string ⟨s.toArray⟩)
  | nilp : VR κ F .nilp (.pointer none)
  | ptr {r v off b cap esz : Nat} (h : κ r v = some ⟨some b, cap, esz⟩) : VR κ F (.ptr r v off) (.pointer (some ⟨b, off, none⟩))
  | cp {cells : List AV} {b off : Nat} {arr : Array Value} (hF : F b = some arr) (hle : off + cells.length ≤ arr.size)
      (h : ∀ i (hi : i < cells.length), VR κ F cells[i] (arr.getD (off + i) undef)) : VR κ F (.cp cells) (.pointer (some ⟨b, off, none⟩))
  | nils (a : Option Addr) : VR κ F .nils (.slice a 0 0)
  | cs0 (a : Option Addr) (c : Nat) : VR κ F (.cs [] 0) (.slice a 0 c)
  | cs {cells : List AV} {n b off c : Nat} {arr : Array Value} (hF : F b = some arr) (hle : off + cells.length ≤ arr.size) (hc : n ≤ c)
      (h : ∀ i (hi : i < cells.length), VR κ F cells[i] (arr.getD (off + i) undef)) : VR κ F (.cs cells n) (.slice (some ⟨b, off, none⟩) n c)
  | sl {r v off len : Nat} {lim : Option Nat} {ob : Option Nat} {cap esz lo : Nat} {a : Option Addr} {c : Nat}
      (h : κ r v = some ⟨ob, cap, esz⟩) (hoff : off = lo * esz) (hlo : lo ≤ cap) (hc : limOk lim c (cap - lo)) (hlen : len ≤ c)
      (ha : c = 0 ∨ ∃ b, ob = some b ∧ a = some ⟨b, off, none⟩) : VR κ F (.sl r v esz off len lim) (.slice a len c)
  | mapNil : VR κ F (.map none) (.map none)
  | map {r b cap esz : Nat} (h : κ r 0 = some ⟨some b, cap, esz⟩) : VR κ F (.map (some r)) (.map (some b))
  | fn {f : Fn} {first captured : List AV} {A C : Array Value} (hA : A.size = first.length) (hC : C.size = captured.length)
      (h1 : ∀ i (hi : i < first.length), VR κ F first[i] (A.getD i undef)) (h2 : ∀ i (hi : i < captured.length), VR κ F captured[i] (C.getD i undef)) :
      VR κ F (.fn f first captured) (.func f A C)
  | nilf : VR κ F .nilf .nilFunc
  | agg {cells : List AV} {A : Array Value} (hA : A.size = cells.length) (h : ∀ i (hi : i < cells.length), VR κ F cells[i] (A.getD i undef)) : VR κ F (.agg cells) (.agg A)
  | tup {cells : List AV} {A : Array Value} (hA : A.size = cells.length) (h : ∀ i (hi : i < cells.length), VR κ F cells[i] (A.getD i undef)) : VR κ F (.tup cells) (.tuple A)

/-- Lists of values, pointwise. -/
def VRs (κ : KM) (F : FM) (l : List AV) (A : Array Value) : Prop := A.size = l.length ∧ ∀ i (hi : i < l.length), VR κ F l[i] (A.getD i undef)

def KLe (κ κ' : KM) : Prop := ∀ r v i, κ r v = some i → κ' r v = some i
def FLe (F F' : FM) : Prop := ∀ b a, F b = some a → F' b = some a
theorem KLe.refl (κ : KM) : KLe κ κ := fun _ _ _ h => h
theorem FLe.refl (F : FM) : FLe F F := fun _ _ h => h
theorem KLe.trans {a b c : KM} (h : KLe a b) (k : KLe b c) : KLe a c := fun r v i e => k r v i (h r v i e)
theorem FLe.trans {a b c : FM} (h : FLe a b) (k : FLe b c) : FLe a c := fun r i e => k r i (h r i e)

theorem VR.mono {κ κ' : KM} {F F' : FM} (hk : KLe κ κ') (hf : FLe F F') {a : AV} {v : Value} (h : VR κ F a v) : VR κ' F' a v := by
  induction h with
  | junk v => exact .junk v
  | int k n => exact .int k n
  | bool b => exact .bool b
  | str s => exact .str s
  | nilp => exact .nilp
  | ptr h => exact .ptr (hk _ _ _ h)
  | cp hF hle _ ih => exact .cp (hf _ _ hF) hle ih
  | nils a => exact .nils a
  | cs0 a c => exact .cs0 a c
  | cs hF hle hc _ ih => exact .cs (hf _ _ hF) hle hc ih
  | sl h hoff hlo hc hlen ha => exact .sl (hk _ _ _ h) hoff hlo hc hlen ha
  | mapNil => exact .mapNil
  | map h => exact .map (hk _ _ _ h)
  | fn hA hC _ _ ih1 ih2 => exact .fn hA hC ih1 ih2
  | nilf => exact .nilf
  | agg hA _ ih => exact .agg hA ih
  | tup hA _ ih => exact .tup hA ih

theorem VRs.mono {κ κ' : KM} {F F' : FM} (hk : KLe κ κ') (hf : FLe F F') {l : List AV} {A : Array Value} (h : VRs κ F l A) : VRs κ' F' l A :=
  ⟨h.1, fun i hi => (h.2 i hi).mono hk hf⟩

/-- Objects of the abstract heap. -/
inductive AO where
  | row (cells : List AV) (v : Nat)
  | map (es : List (AV × AV))
  | obj (b : Nat) (o : Obj)
  | loop (b N : Nat) (e : Nat → AV) (L : Loop)

abbrev AH := Nat → Option AO
def AH.set (H : AH) (r : Nat) (o : AO) : AH := fun s => if s = r then some o else H s
def AH.del (H : AH) (r : Nat) : AH := fun s => if s = r then none else H s
theorem AH.set_same (H : AH) (r : Nat) (o : AO) : H.set r o r = some o := by simp [AH.set]
theorem AH.set_ne (H : AH) {r s : Nat} (o : AO) (h : s ≠ r) : H.set r o s = H s := by simp [AH.set, h]
theorem AH.del_same (H : AH) (r : Nat) : H.del r r = none := by simp [AH.del]
theorem AH.del_ne (H : AH) {r s : Nat} (h : s ≠ r) : H.del r s = H s := by simp [AH.del, h]
theorem AH.set_set (H : AH) (r : Nat) (o o' : AO) : (H.set r o).set r o' = H.set r o' := by funext s; simp only [AH.set]; split <;> rfl
theorem AH.del_set (H : AH) (r : Nat) (o : AO) (h : H r = none) : (H.set r o).del r = H := by
  funext s; simp only [AH.set, AH.del]; split
  · rename_i e; rw [e, h]
  · rfl
theorem AH.set_comm (H : AH) {r s : Nat} (o o' : AO) (h : r ≠ s) : (H.set r o).set s o' = (H.set s o').set r o := by
  funext t; simp only [AH.set]
  by_cases h1 : t = s
  · by_cases h2 : t = r
    · exact absurd (h2.symm.trans h1) h
    · simp [h1]; intro e; exact absurd (e.symm ▸ rfl) h
  · simp [h1]

/-- No cell of the row is frozen. -/
def Loose (arr : Array Value) (fr : Nat × Nat) : Prop := ∀ i, i < arr.size → (fr.1 ≤ i && i < fr.2) = false

/-- How a row of the abstract heap lies in the world. -/
def RowOk (κ : KM) (F : FM) (B : Nat) (w : World) (cells : List AV) (i : Inc) : Prop :=
  match i.blk with
  | none => cells = [] ∧ i.cap = 0
  | some b => B ≤ b ∧ F b = none ∧ ∃ arr e fr, w.heap[b]? = some (.cells arr e fr) ∧ Loose arr fr ∧ arr.size = i.cap * i.esz ∧ cells.length ≤ arr.size ∧
      ∀ j (hj : j < cells.length), VR κ F cells[j] (arr.getD j undef)

def AO.ver : AO → Nat
  | .row _ v => v
  | .map _ => 0
  | .obj _ _ => 0
  | .loop .. => 0

/-- How an object of the abstract heap lies in the world. -/
def ObjOk (κ : KM) (F : FM) (B : Nat) (w : World) (r : Nat) : AO → Prop
  | .row cells v => ∃ i, κ r v = some i ∧ RowOk κ F B w cells i ∧ ∀ v', v < v' → κ r v' = none
  | .map es => ∃ b i ents clock, κ r 0 = some i ∧ i.blk = some b ∧ B ≤ b ∧ F b = none ∧ w.heap[b]? = some (.map ents clock) ∧ ents.size = es.length ∧
      (∀ j (hj : j < es.length), VR κ F es[j].1 (ents.getD j default).key ∧ VR κ F es[j].2 (ents.getD j default).val) ∧
      (∀ j (_ : j < ents.size), (ents.getD j default).born < clock) ∧ (∀ j j' (_ : j < j') (_ : j' < ents.size), (ents.getD j default).born < (ents.getD j' default).born)
  | .obj b o => ∃ i, κ r 0 = some i ∧ i.blk = some b ∧ B ≤ b ∧ F b = none ∧ w.heap[b]? = some o ∧ (∀ c e f, o ≠ .cells c e f)
  | .loop b N e L => ∃ i tmps, κ r 0 = some i ∧ i.blk = some b ∧ B ≤ b ∧ F b = none ∧ w.heap[b]? = some (.loop { L with tmps := tmps }) ∧ tmps.size = N ∧ ∀ t, VR κ F (e t) (tmps.getD t undef)

/-- The relation between an abstract heap and a world; B: the heap's size when the outermost call began, w0 the world then. -/
structure Inv (κ : KM) (F : FM) (B : Nat) (w0 : World) (H : AH) (w : World) : Prop where
  below : Below B w0 w
  base : B ≤ w.heap.size
  fz : ∀ b arr, F b = some arr → ∃ e fr, w.heap[b]? = some (.cells arr e fr)
  names : ∃ N, ∀ r v i, κ r v = some i → r < N
  objs : ∀ r o, H r = some o → ObjOk κ F B w r o
  apart : ∀ r r' o o' i i' b, H r = some o → H r' = some o' → r ≠ r' → κ r o.ver = some i → κ r' o'.ver = some i' → i.blk = some b → i'.blk ≠ some b

end Go.Fw
