/- The frame of the abstract walk, part 3: types, and what each operation does to abstract values. -/
import Derived.Test.YtgmooalikccbiaaFw2
set_option linter.unusedVariables false
set_option linter.unusedSimpArgs false
namespace Go.Fw
open Go.RowKit

/-! ### Types -/
inductive TD where
  | int (k : IntKind) | bool | str | func
  | ptr (e : TypeId)
  | slice (e : TypeId) (esz ebytes : Nat) (ezero : List AV)
  | struct (fs : List (Nat × Nat × Bool))   -- offset, size, several cells
  | array (len : Nat) (e : TypeId) (esz : Nat) (eagg : Bool)
  | map (k : TypeId) (str : Bool) (vzero : AV) (vsize : Nat)
  | other

structure TR where
  d : TD
  size : Nat
  agg : Bool
  zero : List AV

abbrev TT := List (Nat × TR)
def TT.get : TT → Nat → Option TR
  | [], _ => none
  | (k, r) :: l, t => cond (Nat.beq k t) (some r) (TT.get l t)

/-- A value that is known: as an abstract value. -/
def AV.isZ : AV → Value → Bool
  | .int k n, .int k' n' => k == k' && n == n'
  | .bool b, .bool b' => b == b'
  | .str [], .string s => s.data.toList.isEmpty
  | .nilp, .pointer none => true
  | .nils, .slice none 0 0 => true
  | .map none, .map none => true
  | .nilf, .nilFunc => true
  | .junk, _ => true
  | _, _ => false

def zerosOk (l : List AV) (z : Value) : Bool := l.length == z.cells.size && (List.range l.length).all fun i => (l.getD i .junk).isZ (z.cells.getD i undef)

def isAggD : TypeDesc → Bool
  | .struct _ => true
  | .array _ _ => true
  | _ => false

def infoOk (P : Program) (t : TypeId) (size : Nat) (zero : List AV) : Bool :=
  match P.info? t with
  | some i => i.size == size && (match i.zero with | some z => zerosOk zero z | none => false)
  | none => false

def fieldsOk (P : Program) (fs : List (Nat × Nat × Bool)) (fields : Array Field) : Bool :=
  fields.size == fs.length && (List.range fs.length).all fun i =>
    let f := fields.getD i default
    let p := fs.getD i (0, 0, false)
    f.offset == p.1 && ((P.info? f.type).map (·.size)) == some p.2.1 && p.2.1 != 0 && (match P.underlying f.type with | some d => isAggD d == p.2.2 | none => false)

/-- What the table says of a type is so. -/
def trOk (P : Program) (t : TypeId) (r : TR) : Bool :=
  infoOk P t r.size r.zero &&
  match P.underlying t with
  | none => false
  | some u => isAggD u == r.agg &&
    match r.d, u with
    | .int k, .int k' => k == k'
    | .bool, .bool => true
    | .str, .string => true
    | .func, .func .. => true
    | .ptr e, .pointer e' => e == e'
    | .slice e esz eb ez, .slice e' => e == e' && infoOk P e esz ez && ((P.info? e).map (·.bytes)) == some eb && ez.length == esz && esz != 0 && eb != 0
    | .struct fs, .struct fields => fieldsOk P fs fields
    | .array n e esz eagg, .array n' e' => n == n' && e == e' && ((P.info? e).map (·.size)) == some esz && esz != 0 && (match P.underlying e with | some d => isAggD d == eagg | none => false)
    | .map k s vz vs, .map k' v => k == k' && (match P.underlying k with | some (.int .i64) => !s | some .string => s | _ => false) && infoOk P v vs (if vs == 1 then [vz] else match vz with | .agg l => l | _ => [])
    | .other, _ => true
    | _, _ => false

def TT.ok (P : Program) (T : TT) : Bool := T.all fun p => trOk P p.1 p.2

theorem TT.ok_get {P : Program} : ∀ {T : TT}, T.ok P = true → ∀ {t : Nat} {r : TR}, T.get t = some r → trOk P t r = true
  | [], _, _, _, h => by simp [TT.get] at h
  | (k, x) :: l, hT, t, r, h => by
    simp only [TT.ok, List.all_cons, Bool.and_eq_true] at hT
    simp only [TT.get] at h
    cases hk : Nat.beq k t with
    | true => rw [hk] at h; simp at h; rw [← h]; have := Nat.eq_of_beq_eq_true hk; rw [← this]; exact hT.1
    | false => rw [hk] at h; simp at h; exact TT.ok_get (T := l) hT.2 h

/-! ### Values -/
def AV.of1 : Value → AV
  | .int k n => .int k n
  | .bool b => .bool b
  | .string s => .str s.data.toList
  | .pointer none => .nilp
  | .slice none 0 0 => .nils
  | .map none => .map none
  | .nilFunc => .nilf
  | _ => .junk
def AV.ofValue : Value → AV
  | .agg A => .agg (A.toList.map AV.of1)
  | v => AV.of1 v

/-- A test that is known ahead. -/
def when (b : Bool) (p : Prop) : Prop := cond b p False
theorem when_iff {b : Bool} {p : Prop} : when b p ↔ b = true ∧ p := by cases b <;> simp [when]
theorem when_beq {a b : Nat} {p : Prop} (h : when (Nat.beq a b) p) : a = b ∧ p := by
  obtain ⟨h1, h2⟩ := when_iff.1 h
  exact ⟨Nat.eq_of_beq_eq_true h1, h2⟩

abbrev Env := Nat → AV
def upd (e : Env) (t : Nat) (v : AV) : Env := fun s => cond (Nat.beq s t) v (e s)
def putA (e : Env) (d : Option Tmp) (v : AV) : Env := match d with | some t => upd e t v | none => e

def ev (e : Env) : Operand → AV
  | .tmp t => e t
  | .const v => AV.ofValue v
  | .global _ => .junk
  | .func f => .fn (.func f) [] []

/-- The cells of a value, where it is known how many. -/
def cellsOf : AV → Option (List AV)
  | .junk => none
  | .agg l => some l
  | v => some [v]

def one : AV → Bool
  | .junk => false
  | .agg _ => false
  | .tup _ => false
  | _ => true

/-- What lies at the start of some cells, as a value of a type. -/
def rdA (agg : Bool) (size : Nat) (cells : List AV) : AV := cond agg (.agg (cells.take size)) (cells.headD .junk)

def wrA (cells : List AV) (off : Nat) (new : List AV) : List AV := cells.take off ++ new ++ cells.drop (off + new.length)

def fillA (place : Nat → Option (Nat × Nat)) (cells : List AV) : List (Nat × AV) → Option (List AV)
  | [] => some cells
  | (i, v) :: rest =>
    match place i, cellsOf v with
    | some (off, size), some l => cond (l.length == size && Nat.ble (off + size) cells.length) (fillA place (wrA cells off l) rest) none
    | _, _ => none

/-! ### Integers -/
def bitsA (op : BinOp) (k : IntKind) (x y : Int) : Int :=
  let a := BitVec.ofInt k.bits x
  let b := BitVec.ofInt k.bits y
  match op with
  | .and => k.wrap (a &&& b).toNat
  | .or => k.wrap (a ||| b).toNat
  | .xor => k.wrap (a ^^^ b).toNat
  | _ => k.wrap (a &&& ~~~b).toNat

/-- A test: both ways, with what is known there. -/
structure Both (p q : Prop) : Prop where
  l : p
  r : q
def ifA (p : Prop) (K : AV → Prop) : Prop := Both (p → K (.bool true)) (¬ p → K (.bool false))

def binI (op : BinOp) (k : IntKind) (x y : Int) (K : AV → Prop) : Prop :=
  match op with
  | .add => ∀ c, c = k.wrap (x + y) → K (.int k c)
  | .sub => ∀ c, c = k.wrap (x - y) → K (.int k c)
  | .mul => ∀ c, c = k.wrap (x * y) → K (.int k c)
  | .quo => y ≠ 0 ∧ ∀ c, c = k.wrap (x.tdiv y) → K (.int k c)
  | .rem => y ≠ 0 ∧ ∀ c, c = x.tmod y → K (.int k c)
  | .and => ∀ c, c = bitsA .and k x y → K (.int k c)
  | .or => ∀ c, c = bitsA .or k x y → K (.int k c)
  | .xor => ∀ c, c = bitsA .xor k x y → K (.int k c)
  | .andNot => ∀ c, c = bitsA .andNot k x y → K (.int k c)
  | .eql => ifA (x = y) K
  | .neq => ifA (x ≠ y) K
  | .lss => ifA (x < y) K
  | .leq => ifA (x ≤ y) K
  | .gtr => ifA (x > y) K
  | .geq => ifA (x ≥ y) K
  | _ => False

def shiftA (op : BinOp) (k : IntKind) (x y : Int) (K : AV → Prop) : Prop :=
  match op with
  | .shl => 0 ≤ y ∧ ∀ c, c = k.wrap (x * 2 ^ (min y.toNat k.bits)) → K (.int k c)
  | .shr => 0 ≤ y ∧ ∀ c, c = x.fdiv (2 ^ (min y.toNat k.bits)) → K (.int k c)
  | _ => False

def isShift : BinOp → Bool
  | .shl => true
  | .shr => true
  | _ => false

def neqA (op : BinOp) (p : Prop) (K : AV → Prop) : Prop :=
  match op with
  | .eql => ifA p K
  | .neq => ifA (¬ p) K
  | _ => False

def TD.isPtr : Option TD → Bool | some (.ptr _) => true | _ => false
def TD.isFunc : Option TD → Bool | some .func => true | _ => false
def TD.isBool : Option TD → Bool | some .bool => true | _ => false

def binA (op : BinOp) (d : Option TD) (x y : AV) (K : AV → Prop) : Prop :=
  match x, y with
  | .int k a, .int k' b => cond (isShift op) (shiftA op k a b K) (when (decide (k = k')) (binI op k a b K))
  | .str a, .str b =>
    (match op with
    | .add => a.length + b.length < 9223372036854775808 ∧ K (.str (a ++ b))
    | .eql => ifA (a = b) K
    | .neq => ifA (a ≠ b) K
    | .lss => ifA (Op.bytesLess a b = true) K
    | .gtr => ifA (Op.bytesLess a b = false ∧ a ≠ b) K
    | _ => False)
  | .bool a, .bool b => when (TD.isBool d) (neqA op (a = b) K)
  | .nilp, .nilp => when (TD.isPtr d) (neqA op True K)
  | .ptr .., .nilp => when (TD.isPtr d) (neqA op False K)
  | .cp .., .nilp => when (TD.isPtr d) (neqA op False K)
  | .nilp, .ptr .. => when (TD.isPtr d) (neqA op False K)
  | .nilf, .nilf => when (TD.isFunc d) (neqA op True K)
  | .fn .., .nilf => when (TD.isFunc d) (neqA op False K)
  | _, _ => False

/-- A slice beside nil. -/
def isNilS : Operand → Bool
  | .const (.slice none 0 0) => true
  | _ => false
def TD.isSlice : Option TD → Bool | some (.slice ..) => true | _ => false
def nilB (op : BinOp) (n : Nat) (K : AV → Prop) : Prop :=
  match op with
  | .eql => Both (n = 0 → K (.bool true)) (True → K (.bool false))
  | .neq => Both (n = 0 → K (.bool false)) (True → K (.bool true))
  | _ => False
def nilA (op : BinOp) (d : Option TD) (x : AV) (K : AV → Prop) : Prop :=
  match x with
  | .nils => when (TD.isSlice d) (nilB op 0 K)
  | .cs _ n => when (TD.isSlice d) (nilB op n K)
  | .sl _ _ _ _ n _ => when (TD.isSlice d) (nilB op n K)
  | _ => False

/-! ### Memory -/
/-- The row that a pointer or slice leads to. -/
def rowA (H : AH) (r v : Nat) (K : List AV → Prop) : Prop := ∃ cells, H r = some (.row cells v) ∧ K cells

def loadS (tr : TR) (a : AV) (H : AH) (K : AV → Prop) : Prop :=
  match a with
  | .cp cells => when (tr.agg || Nat.beq tr.size 1) (tr.size ≤ cells.length ∧ K (rdA tr.agg tr.size cells))
  | .ptr r v off => when (tr.agg || Nat.beq tr.size 1) (∃ cells, H r = some (.row cells v) ∧ off + tr.size ≤ cells.length ∧ K (rdA tr.agg tr.size (cells.drop off)))
  | _ => False

/-- 'loadS', for the walk. -/
def loadA (tr : TR) (a : AV) (H : AH) (K : AV → Prop) : Prop :=
  match a with
  | .cp cells => cond tr.agg (tr.size ≤ cells.length ∧ K (.agg (cells.take tr.size))) (when (Nat.beq tr.size 1) (∃ x, cells[0]? = some x ∧ K x))
  | .ptr r v off => ∃ cells, H r = some (.row cells v) ∧ cond tr.agg (off + tr.size ≤ cells.length ∧ K (.agg ((cells.drop off).take tr.size))) (when (Nat.beq tr.size 1) (∃ x, cells[off]? = some x ∧ K x))
  | _ => False

theorem loadA_sound {tr : TR} {a : AV} {H : AH} {K : AV → Prop} (h : loadA tr a H K) : loadS tr a H K := by
  cases a <;> try exact h.elim
  · rename_i r v off
    obtain ⟨cells, hH, h⟩ := h
    cases hag : tr.agg with
    | true =>
      rw [hag] at h
      obtain ⟨h1, h2⟩ := h
      refine when_iff.2 ⟨by simp [hag], cells, hH, h1, ?_⟩
      simpa [rdA, hag] using h2
    | false =>
      rw [hag] at h
      obtain ⟨h1, x, h2, h3⟩ := when_iff.1 h
      have h1 := Nat.eq_of_beq_eq_true h1
      obtain ⟨hlt, rfl⟩ := List.getElem?_eq_some_iff.1 h2
      refine when_iff.2 ⟨by simp [hag, h1], cells, hH, by omega, ?_⟩
      rw [List.drop_eq_getElem_cons hlt, hag]
      exact h3
  · rename_i cells
    unfold loadA at h
    simp only at h
    cases hag : tr.agg with
    | true =>
      rw [hag] at h
      obtain ⟨h1, h2⟩ := h
      refine when_iff.2 ⟨by simp [hag], h1, ?_⟩
      simpa [rdA, hag] using h2
    | false =>
      rw [hag] at h
      obtain ⟨h1, x, h2, h3⟩ := when_iff.1 h
      have h1 := Nat.eq_of_beq_eq_true h1
      obtain ⟨hlt, rfl⟩ := List.getElem?_eq_some_iff.1 h2
      refine when_iff.2 ⟨by simp [hag, h1], by omega, ?_⟩
      cases cells with
      | nil => simp at hlt
      | cons c cs => simpa [rdA, hag] using h3

def storeA (tr : TR) (a x : AV) (H : AH) (K : AH → Prop) : Prop :=
  match a with
  | .ptr r v off => ∃ cells, H r = some (.row cells v) ∧ off + tr.size ≤ cells.length ∧
      match cellsOf x with
      | some l => l.length = tr.size ∧ l.all one = true ∧ K (H.set r (.row (wrA cells off l) v))
      | none => False
  | _ => False

def fieldAddrA (fs : List (Nat × Nat × Bool)) (a : AV) (f : Nat) (K : AV → Prop) : Prop :=
  match fs[f]?, a with
  | some p, .ptr r v off => K (.ptr r v (off + p.1))
  | some p, .cp cells => p.1 ≤ cells.length ∧ K (.cp (cells.drop p.1))
  | _, _ => False

def indexAddrA (d : TD) (x i : AV) (K : AV → Prop) : Prop :=
  match d, x, i with
  | .slice _ esz _ _, .cs cells n, .int _ i => 0 ≤ i ∧ i < n ∧ i.toNat * esz ≤ cells.length ∧ K (.cp (cells.drop (i.toNat * esz)))
  | .slice _ esz _ _, .sl r v es off len _, .int _ i => when (Nat.beq es esz) (0 ≤ i ∧ i < len ∧ K (.ptr r v (off + i.toNat * esz)))
  | .array n _ esz _, .ptr r v off, .int _ i => 0 ≤ i ∧ i < n ∧ K (.ptr r v (off + i.toNat * esz))
  | .array n _ esz _, .cp cells, .int _ i => 0 ≤ i ∧ i < n ∧ i.toNat * esz ≤ cells.length ∧ K (.cp (cells.drop (i.toNat * esz)))
  | _, _, _ => False

def indexA (d : TD) (x i : AV) (K : AV → Prop) : Prop :=
  match d, x, i with
  | .str, .str s, .int _ i => 0 ≤ i ∧ i < s.length ∧ K (.int .u8 (s.getD i.toNat 0).toNat)
  | .array n _ esz eagg, .agg cells, .int _ i => 0 ≤ i ∧ i < n ∧ (i.toNat + 1) * esz ≤ cells.length ∧ when (eagg || Nat.beq esz 1) (K (rdA eagg esz (cells.drop (i.toNat * esz))))
  | _, _, _ => False

def optI : Option AV → Option (Option Int)
  | none => some none
  | some (.int _ i) => some (some i)
  | some _ => none

/-- xs[lo:hi:max], the bounds as they are written. -/
def sliceS (d : TD) (x : AV) (lo hi mx : Option Int) (K : AV → Prop) : Prop :=
  match d, x with
  | .str, .str s =>
    0 ≤ lo.getD 0 ∧ lo.getD 0 ≤ hi.getD s.length ∧ hi.getD s.length ≤ s.length ∧ mx = none ∧ K (.str ((s.drop (lo.getD 0).toNat).take ((hi.getD s.length).toNat - (lo.getD 0).toNat)))
  | .slice _ esz _ _, .cs cells n =>
    (lo = none ∧ hi = some 0 ∧ mx = some 0 ∧ K .nils) ∨ (
    0 ≤ lo.getD 0 ∧ lo.getD 0 ≤ hi.getD n ∧ hi.getD n ≤ n ∧ cells.length = n * esz ∧ (mx = none ∨ (mx = hi ∧ hi.isSome)) ∧
      K (.cs ((cells.drop ((lo.getD 0).toNat * esz)).take (((hi.getD n).toNat - (lo.getD 0).toNat) * esz)) ((hi.getD n).toNat - (lo.getD 0).toNat)))
  | .slice .., .nils => lo.getD 0 = 0 ∧ hi.getD 0 = 0 ∧ mx.getD 0 = 0 ∧ (mx.isSome → hi.isSome) ∧ K .nils
  | .slice _ esz _ _, .sl r v es off len lim =>
    (lo = none ∧ hi = some 0 ∧ mx = some 0 ∧ K .nils) ∨ when (Nat.beq es esz) (0 ≤ lo.getD 0 ∧ lo.getD 0 ≤ hi.getD len ∧ hi.getD len ≤ len ∧
      (match mx, hi with
      | none, _ => K (.sl r v esz (off + (lo.getD 0).toNat * esz) ((hi.getD len).toNat - (lo.getD 0).toNat) (lim.map (· - (lo.getD 0).toNat)))
      | some m, some h => h ≤ m ∧ m ≤ len ∧ K (.sl r v esz (off + (lo.getD 0).toNat * esz) (h.toNat - (lo.getD 0).toNat) (some (m.toNat - (lo.getD 0).toNat)))
      | some _, none => False))
  | _, _ => False

/-- 'sliceS', for the walk. -/
def sliceA (d : TD) (x : AV) (lo hi mx : Option Int) (K : AV → Prop) : Prop :=
  match d, x with
  | .str, .str s =>
    (match mx, lo, hi with
     | none, none, none => K (.str s)
     | none, some l, none => 0 ≤ l ∧ l ≤ s.length ∧ K (.str (s.drop l.toNat))
     | none, none, some h => 0 ≤ h ∧ h ≤ s.length ∧ K (.str (s.take h.toNat))
     | none, some l, some h => 0 ≤ l ∧ l ≤ h ∧ h ≤ s.length ∧ K (.str ((s.drop l.toNat).take (h.toNat - l.toNat)))
     | _, _, _ => False)
  | .slice _ esz _ _, .cs cells n =>
    cells.length = n * esz ∧
    (match mx, lo, hi with
     | none, none, none => K (.cs cells n)
     | none, some l, none => 0 ≤ l ∧ l ≤ n ∧ K (.cs (cells.drop (l.toNat * esz)) (n - l.toNat))
     | none, none, some h => 0 ≤ h ∧ h ≤ n ∧ K (.cs (cells.take (h.toNat * esz)) h.toNat)
     | none, some l, some h => 0 ≤ l ∧ l ≤ h ∧ h ≤ n ∧ K (.cs ((cells.drop (l.toNat * esz)).take ((h.toNat - l.toNat) * esz)) (h.toNat - l.toNat))
     | some m, none, some h => cond (decide (m = 0) && decide (h = 0)) (K .nils) (m = h ∧ 0 ≤ h ∧ h ≤ n ∧ K (.cs (cells.take (h.toNat * esz)) h.toNat))
     | _, _, _ => False)
  | .slice .., .nils =>
    (match mx, lo, hi with
     | none, none, none => K .nils
     | none, some l, none => l = 0 ∧ K .nils
     | none, none, some h => h = 0 ∧ K .nils
     | none, some l, some h => l = 0 ∧ h = 0 ∧ K .nils
     | some m, none, some h => m = 0 ∧ h = 0 ∧ K .nils
     | some m, some l, some h => l = 0 ∧ m = 0 ∧ h = 0 ∧ K .nils
     | _, _, _ => False)
  | .slice _ esz _ _, .sl r v es off len lim =>
    when (Nat.beq es esz)
      (match mx, lo, hi with
       | none, none, none => K (.sl r v esz off len lim)
       | none, some l, none => 0 ≤ l ∧ l ≤ len ∧ K (.sl r v esz (off + l.toNat * esz) (len - l.toNat) (lim.map (· - l.toNat)))
       | none, none, some h => 0 ≤ h ∧ h ≤ len ∧ K (.sl r v esz off h.toNat lim)
       | none, some l, some h => 0 ≤ l ∧ l ≤ h ∧ h ≤ len ∧ K (.sl r v esz (off + l.toNat * esz) (h.toNat - l.toNat) (lim.map (· - l.toNat)))
       | some m, none, some h => cond (decide (m = 0) && decide (h = 0)) (K .nils) (0 ≤ h ∧ h ≤ m ∧ m ≤ len ∧ K (.sl r v esz off h.toNat (some m.toNat)))
       | _, _, _ => False)
  | _, _ => False

theorem optmap_sub_zero (lim : Option Nat) : lim.map (· - 0) = lim := by cases lim <;> rfl

theorem sliceA_sound {d : TD} {x : AV} {lo hi mx : Option Int} {K : AV → Prop} (h : sliceA d x lo hi mx K) : sliceS d x lo hi mx K := by
  cases d <;> cases x <;> try exact h.elim
  · rename_i s
    unfold sliceA at h
    simp only at h
    cases mx <;> cases lo <;> cases hi <;> try exact h.elim
    · exact ⟨by simp, by simp, by simp, rfl, by simpa using h⟩
    · rename_i a; obtain ⟨h1, h2, h3⟩ := h; exact ⟨by simp, by simpa using h1, by simpa using h2, rfl, by simpa using h3⟩
    · rename_i a; obtain ⟨h1, h2, h3⟩ := h
      refine ⟨by simpa using h1, by simpa using h2, by simp, rfl, ?_⟩
      have e : (s.drop a.toNat).take (s.length - a.toNat) = s.drop a.toNat := List.take_of_length_le (by simp)
      simpa [e] using h3
    · rename_i a b; obtain ⟨h1, h2, h3, h4⟩ := h; exact ⟨by simpa using h1, by simpa using h2, by simpa using h3, rfl, by simpa using h4⟩
  · unfold sliceA at h
    simp only at h
    cases mx <;> cases lo <;> cases hi <;> try exact h.elim
    · exact ⟨by simp, by simp, by simp, by simp, h⟩
    · obtain ⟨h1, h2⟩ := h; exact ⟨by simp, by simp [h1], by simp, by simp, h2⟩
    · obtain ⟨h1, h2⟩ := h; exact ⟨by simp [h1], by simp, by simp, by simp, h2⟩
    · obtain ⟨h1, h2, h3⟩ := h; exact ⟨by simp [h1], by simp [h2], by simp, by simp, h3⟩
    · obtain ⟨h1, h2, h3⟩ := h; exact ⟨by simp, by simp [h2], by simp [h1], by simp, h3⟩
    · obtain ⟨h0, h1, h2, h3⟩ := h; exact ⟨by simp [h0], by simp [h2], by simp [h1], by simp, h3⟩
  · rename_i e esz eb ez cells n
    unfold sliceA at h
    simp only at h
    obtain ⟨hl, h⟩ := h
    cases mx <;> cases lo <;> cases hi <;> try exact h.elim
    · refine .inr ⟨by simp, by simp, by simp, hl, by simp, ?_⟩
      have e : cells.take (n * esz) = cells := List.take_of_length_le (by omega)
      simpa [e] using h
    · rename_i a; obtain ⟨h1, h2, h3⟩ := h; exact .inr ⟨by simp, by simpa using h1, by simpa using h2, hl, by simp, by simpa using h3⟩
    · rename_i a; obtain ⟨h1, h2, h3⟩ := h
      refine .inr ⟨by simpa using h1, by simpa using h2, by simp, hl, by simp, ?_⟩
      have e : (cells.drop (a.toNat * esz)).take ((n - a.toNat) * esz) = cells.drop (a.toNat * esz) := List.take_of_length_le (by simp [hl, Nat.sub_mul])
      simpa [e] using h3
    · rename_i a b; obtain ⟨h1, h2, h3, h4⟩ := h; exact .inr ⟨by simpa using h1, by simpa using h2, by simpa using h3, hl, by simp, by simpa using h4⟩
    · rename_i m a
      simp only at h
      cases hz : (decide (m = 0) && decide (a = 0)) with
      | true =>
        rw [hz] at h
        simp only [Bool.and_eq_true, decide_eq_true_eq] at hz
        exact .inl ⟨rfl, by rw [hz.2], by rw [hz.1], h⟩
      | false =>
        rw [hz] at h
        obtain ⟨rfl, h1, h2, h3⟩ : m = a ∧ 0 ≤ a ∧ a ≤ (n : Int) ∧ K _ := h
        exact .inr ⟨by simp, by simpa using h1, by simpa using h2, hl, by simp, by simpa using h3⟩
  · rename_i e esz eb ez r v es off len lim
    unfold sliceA at h
    simp only at h
    have hes := (when_iff.1 h).1
    replace h := (when_iff.1 h).2
    cases mx <;> cases lo <;> cases hi <;> try exact h.elim
    · exact .inr (when_iff.2 ⟨hes, by simp, by simp, by simp, by simpa [optmap_sub_zero] using h⟩)
    · rename_i a; obtain ⟨h1, h2, h3⟩ := h; exact .inr (when_iff.2 ⟨hes, by simp, by simpa using h1, by simpa using h2, by simpa [optmap_sub_zero] using h3⟩)
    · rename_i a; obtain ⟨h1, h2, h3⟩ := h; exact .inr (when_iff.2 ⟨hes, by simpa using h1, by simpa using h2, by simp, by simpa using h3⟩)
    · rename_i a b; obtain ⟨h1, h2, h3, h4⟩ := h; exact .inr (when_iff.2 ⟨hes, by simpa using h1, by simpa using h2, by simpa using h3, by simpa using h4⟩)
    · rename_i m a
      simp only at h
      cases hz : (decide (m = 0) && decide (a = 0)) with
      | true =>
        rw [hz] at h
        simp only [Bool.and_eq_true, decide_eq_true_eq] at hz
        exact .inl ⟨rfl, by rw [hz.2], by rw [hz.1], h⟩
      | false =>
        rw [hz] at h
        obtain ⟨h1, h2, h3, h4⟩ : 0 ≤ a ∧ a ≤ m ∧ m ≤ (len : Int) ∧ K _ := h
        exact .inr (when_iff.2 ⟨hes, by simp, by simpa using h1, by simp; omega, by simpa using ⟨h2, h3, h4⟩⟩)

/-- The bytes of a list of abstract values. -/
def u8s (bs : List UInt8) : List AV := bs.map fun b => .int .u8 b.toNat

/-- A slice's cells, as they now are. -/
def cellsA (esz : Nat) (x : AV) (H : AH) (K : Nat → List AV → Prop) : Prop :=
  match x with
  | .nils => K 0 []
  | .cs cells n => cells.length = n * esz ∧ K n cells
  | .sl r v es off len _ => when (Nat.beq es esz) (∃ cells, H r = some (.row cells v) ∧ off + len * esz ≤ cells.length ∧ K len ((cells.drop off).take (len * esz)))
  | _ => False

def isU8 (T : TT) (e : TypeId) : Bool := match T.get e with | some ⟨.int .u8, _, _, _⟩ => true | _ => false

def convA (T : TT) (d s : TD) (x : AV) (H : AH) (K : AV → AH → Prop) : Prop :=
  match d, s, x with
  | .int k, .int _, .int _ n => ∀ c, c = k.wrap n → K (.int k c) H
  | .str, .str, .str s => K (.str s) H
  | .slice e esz _ _, .str, .str s => when (isU8 T e && Nat.beq esz 1) (K (.cs (u8s s) s.length) H ∨ ∀ r, H r = none → K (.sl r 0 1 0 s.length none) (H.set r (.row (u8s s) 0)))
  | .str, .slice e esz _ _, x => when (isU8 T e && Nat.beq esz 1) (cellsA 1 x H fun _ cells => ∃ bs, cells = u8s bs ∧ K (.str bs) H)
  | _, _, _ => False

def lenA (d : Option TD) (x : AV) (K : Int → Prop) : Prop :=
  match d, x with
  | some .str, .str s => K s.length
  | some (.slice ..), .nils => K 0
  | some (.slice ..), .cs _ n => K n
  | some (.slice ..), .sl _ _ _ _ len _ => K len
  | _, _ => False

/-- What is appended: a slice's cells, or a string's bytes. -/
def srcA (esz : Nat) (x : AV) (H : AH) (K : Nat → List AV → Prop) : Prop :=
  match x with
  | .str s => when (Nat.beq esz 1) (K s.length (u8s s))
  | x => cellsA esz x H K

def appendA (esz ebytes : Nat) (s x : AV) (H : AH) (K : AV → AH → Prop) : Prop :=
  srcA esz x H fun n new => new.all one = true ∧
    match s with
    | .nils => n * ebytes ≤ 140737488355328 ∧ ∀ r, H r = none → K (.sl r 0 esz 0 n none) (H.set r (.row new 0))
    | .sl r v es off len lim => when (Nat.beq es esz && Nat.beq off 0 && lim.isNone) (∃ cells, H r = some (.row cells v) ∧ cells.length = len * esz ∧ (2 * (len + n)) * ebytes ≤ 140737488355328 ∧
        K (.sl r (v + 1) esz 0 (len + n) none) (H.set r (.row (cells ++ new) (v + 1))))
    | _ => False

def mk2 (mx : Bool) (k : IntKind) (x y : Int) (K : AV → Prop) : Prop := cond mx (∀ c, c = max x y → K (.int k c)) (∀ c, c = min x y → K (.int k c))

/-- max, min of a list of integers. -/
def mmA (op : Bool) : List AV → (AV → Prop) → Prop
  | [.int k x], K => K (.int k x)
  | [.int k x, .int _ y], K => mk2 op k x y K
  | [.int k x, .int _ y, .int _ z], K => mk2 op k x y fun v => match v with | .int _ c => mk2 op k c z K | _ => False
  | _, _ => False

/-- copy(dst, src): src is read whole ahead. -/
def copyA (esz : Nat) (d s : AV) (H : AH) (K : AV → AH → Prop) : Prop :=
  srcA esz s H fun n new => new.all one = true ∧
    match d with
    | .nils => K (.int .i64 0) H
    | .sl r v es off len _ => when (Nat.beq es esz) (∃ cells, H r = some (.row cells v) ∧ off + len * esz ≤ cells.length ∧
        K (.int .i64 (Nat.min n len : Nat)) (H.set r (.row (wrA cells off (new.take (Nat.min n len * esz))) v)))
    | _ => False

def builtinA (T : TT) (b : Builtin) (ts : List TypeId) (xs : List AV) (H : AH) (K : AV → AH → Prop) : Prop :=
  match b, ts, xs with
  | .len, [t], [x] => lenA ((T.get t).map (·.d)) x fun n => K (.int .i64 n) H
  | .append, [t, u], [s, x] =>
    match T.get t, T.get u with
    | some ⟨.slice _ esz eb _, _, _, _⟩, some ⟨.slice .., _, _, _⟩ => appendA esz eb s x H K
    | some ⟨.slice _ esz eb _, _, _, _⟩, some ⟨.str, _, _, _⟩ => appendA esz eb s x H K
    | _, _ => False
  | .copy, [t, _], [d, s] =>
    match T.get t with
    | some ⟨.slice _ esz _ _, _, _, _⟩ => copyA esz d s H K
    | _ => False
  | .max, _, xs => mmA true xs fun v => K v H
  | .min, _, xs => mmA false xs fun v => K v H
  | _, _, _ => False

def optOf (e : Env) : Option Operand → Option (Option Int)
  | none => some none
  | some x => match ev e x with | .int _ i => some (some i) | _ => none

/-- A value, laid open. -/
def force (v : AV) (K : AV → Prop) : Prop :=
  match v with
  | .junk => K .junk
  | .int k n => K (.int k n)
  | .bool b => K (.bool b)
  | .str s => K (.str s)
  | .nilp => K .nilp
  | .ptr r v off => K (.ptr r v off)
  | .cp cells => K (.cp cells)
  | .nils => K .nils
  | .cs cells n => K (.cs cells n)
  | .sl r v es off len lim => K (.sl r v es off len lim)
  | .map r => K (.map r)
  | .fn f a c => K (.fn f a c)
  | .nilf => K .nilf
  | .agg cells => K (.agg cells)
  | .tup vs => K (.tup vs)

theorem force_eq (v : AV) (K : AV → Prop) : force v K = K v := by cases v <;> rfl

/-- A list of values, laid open. -/
def forceL (l : List AV) (K : List AV → Prop) : Prop :=
  match l with
  | [] => K []
  | c :: r => force c fun c => forceL r fun r => K (c :: r)
theorem forceL_eq : ∀ (l : List AV) (K : List AV → Prop), forceL l K = K l
  | [], K => rfl
  | c :: r, K => by rw [forceL, force_eq, forceL_eq r]

/-- What an operation does (a call of a function excepted). -/
def opA (T : TT) (o : Op) (e : Env) (H : AH) (K : AV → AH → Prop) : Prop :=
  match o with
  | .move x => K (ev e x) H
  | .assign x => K (ev e x) H
  | .pick c a b => match ev e c with | .bool t => K (cond t (ev e a) (ev e b)) H | _ => False
  | .alloc t => match T.get t with | some tr => ∀ r, H r = none → K (.ptr r 0 0) (H.set r (.row tr.zero 0)) | none => False
  | .box _ x => match cellsOf (ev e x) with | some l => ∀ r, H r = none → K (.ptr r 0 0) (H.set r (.row l 0)) | none => False
  | .build t parts =>
    match T.get t with
    | some ⟨.struct fs, _, _, z⟩ => (match fillA (fun i => (fs[i]?).map fun p => (p.1, p.2.1)) z (parts.toList.map fun p => (p.1, ev e p.2)) with | some cells => (forceL cells fun cells => K (.agg cells) H) ∨ K (.agg cells) H | none => False)
    | some ⟨.array _ _ esz _, _, _, z⟩ => (match fillA (fun i => some (i * esz, esz)) z (parts.toList.map fun p => (p.1, ev e p.2)) with | some cells => (forceL cells fun cells => K (.agg cells) H) ∨ K (.agg cells) H | none => False)
    | _ => False
  | .buildSlice t len parts =>
    match T.get t with
    | some ⟨.slice _ esz _ ez, _, _, _⟩ =>
      (match fillA (fun i => some (i * esz, esz)) ((List.replicate len ez).flatten) (parts.toList.map fun p => (p.1, ev e p.2)) with
       | some cells => when (Nat.ble (len * esz) 16777216) ((forceL cells fun cells => K (.cs cells len) H) ∨ (∀ r, H r = none → K (.sl r 0 esz 0 len none) (H.set r (.row cells 0))) ∨ (len = 0 ∧ K .nils H))
       | none => False)
    | _ => False
  | .load t a => match T.get t with | some tr => loadA tr (ev e a) H fun v => K v H | none => False
  | .store t a x => match T.get t with | some tr => storeA tr (ev e a) (ev e x) H fun H' => K .junk H' | none => False
  | .nilCheck x => match ev e x with | .ptr r v off => K (.ptr r v off) H | .cp cells => K (.cp cells) H | .fn (.func f) a c => K (.fn (.func f) a c) H | _ => False
  | .binOp op t x y _ => cond (isNilS y) (nilA op ((T.get t).map (·.d)) (ev e x) fun v => K v H) (binA op ((T.get t).map (·.d)) (ev e x) (ev e y) fun v => K v H)
  | .unOp op _ x =>
    (match op, ev e x with
     | .neg, .int k n => ∀ c, c = k.wrap (0 - n) → K (.int k c) H
     | .xor, .int k n => ∀ c, c = bitsA .xor k (if k.signed then -1 else k.max) n → K (.int k c) H
     | .not, .bool b => K (.bool !b) H
     | _, _ => False)
  | .convert s d x => match T.get s, T.get d with | some sr, some dr => convA T dr.d sr.d (ev e x) H K | _, _ => False
  | .makeFunc f first captured => K (.fn f (first.toList.map (ev e)) (captured.toList.map (ev e))) H
  | .makeSlice t l c =>
    match T.get t, ev e l, ev e c with
    | some ⟨.slice _ esz eb ez, _, _, _⟩, .int _ l, .int _ c => 0 ≤ l ∧ l ≤ c ∧ c * eb ≤ 140737488355328 ∧ ∀ r, H r = none → K (.sl r 0 esz 0 l.toNat none) (H.set r (.row ((List.replicate l.toNat ez).flatten) 0))
    | _, _, _ => False
  | .slice t x lo hi mx =>
    match T.get t, optOf e lo, optOf e hi, optOf e mx with
    | some tr, some lo, some hi, some mx => sliceA tr.d (ev e x) lo hi mx fun v => K v H
    | _, _, _, _ => False
  | .fieldAddr t x f => match T.get t with | some ⟨.struct fs, _, _, _⟩ => fieldAddrA fs (ev e x) f fun v => K v H | _ => False
  | .field t x f =>
    match T.get t, ev e x with
    | some ⟨.struct fs, _, _, _⟩, .agg cells => (match fs[f]? with | some (off, size, agg) => when (agg || Nat.beq size 1) (off + size ≤ cells.length ∧ K (rdA agg size (cells.drop off)) H) | none => False)
    | _, _ => False
  | .indexAddr t x i => match T.get t with | some tr => indexAddrA tr.d (ev e x) (ev e i) fun v => K v H | none => False
  | .index t x i => match T.get t with | some tr => indexA tr.d (ev e x) (ev e i) fun v => K v H | none => False
  | .extract t i => match ev e t with | .tup vs => (match vs[i]? with | some v => K v H | none => False) | _ => False
  | .call c => match c.callee with | .builtin b => builtinA T b c.argTypes.toList (c.args.toList.map (ev e)) H K | _ => False
  | _ => False

end Go.Fw
