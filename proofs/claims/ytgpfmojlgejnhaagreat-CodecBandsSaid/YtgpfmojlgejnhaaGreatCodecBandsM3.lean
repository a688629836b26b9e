/- For the law CodecBands, part 3 of 7: the frame of the walk, the walks of the functions, the plain law, the row. No conditions. -/
import Derived.Test.YtgpfmojlgejnhaaGreatCodecBandsM2
import Derived.Test.YtgpfmojlgejnhaaGreatProg
import Derived.KernelRfl
/- The types that the walks over this translation meet: a table, and that it tells of them what the translation tells. -/
namespace Go.Proofs.YtgpfmojlgejnhaaGreat
open Go.Fw
def tt : TT := [
 (3, ⟨.int .i64, 1, false, [.int .i64 0]⟩),
 (22, ⟨.slice 3 1 8 [.int .i64 0], 1, false, [.nils]⟩),
 (26, ⟨.slice 5 1 1 [.int .u8 0], 1, false, [.nils]⟩),
 (131, ⟨.struct [(0, 1, false), (1, 1, false)], 2, true, [.bool false, .nils]⟩),
 (24, ⟨.struct [(0, 1, false), (1, 1, false), (2, 1, false)], 3, true, [.int .i64 0, .nils, .nils]⟩),
 (87, ⟨.int .u64, 1, false, [.int .u64 0]⟩),
 (27, ⟨.int .i64, 1, false, [.int .i64 0]⟩),
 (30, ⟨.slice 26 1 24 [.nils], 1, false, [.nils]⟩),
 (4, ⟨.bool, 1, false, [.bool false]⟩),
 (5, ⟨.int .u8, 1, false, [.int .u8 0]⟩),
 (9, ⟨.str, 1, false, [.str []]⟩),
 (114, ⟨.struct [(0, 1, false), (1, 1, false)], 2, true, [.int .u64 0, .int .u64 0]⟩),
 (76, ⟨.struct [(0, 1, false), (1, 1, false)], 2, true, [.int .i64 0, .nils]⟩),
 (116, ⟨.struct [(0, 2, true), (2, 1, false)], 3, true, [.int .u64 0, .int .u64 0, .nils]⟩),
 (32, ⟨.slice 39 2 16 [.int .i64 0, .int .i64 0], 1, false, [.nils]⟩),
 (119, ⟨.struct [(0, 1, false), (1, 1, false)], 2, true, [.nils, .int .i64 0]⟩),
 (69, ⟨.struct [(0, 1, false)], 1, true, [.nils]⟩),
 (39, ⟨.array 2 3 1 false, 2, true, [.int .i64 0, .int .i64 0]⟩),
 (55, ⟨.ptr 99, 1, false, [.nilp]⟩),
 (99, ⟨.struct [(0, 1, false), (1, 1, false)], 2, true, [.nils, .int .i64 0]⟩),
 (160, ⟨.struct [(0, 2, true), (2, 1, false)], 3, true, [.int .u64 0, .int .u64 0, .nilf]⟩),
 (150, ⟨.struct [(0, 2, true), (2, 1, false), (3, 1, false)], 4, true, [.bool false, .nils, .int .i64 0, .int .i64 0]⟩),
 (157, ⟨.struct [(0, 1, false)], 1, true, [.nils]⟩),
 (117, ⟨.int .u64, 1, false, [.int .u64 0]⟩),
 (161, ⟨.int .u32, 1, false, [.int .u32 0]⟩),
 (48, ⟨.slice 24 3 56 [.int .i64 0, .nils, .nils], 1, false, [.nils]⟩),
 (91, ⟨.ptr 119, 1, false, [.nilp]⟩),
 (80, ⟨.slice 79 1 8 [.nilf], 1, false, [.nils]⟩),
 (134, ⟨.ptr 157, 1, false, [.nilp]⟩),
 (82, ⟨.slice 91 1 8 [.nilp], 1, false, [.nils]⟩),
 (138, ⟨.ptr 160, 1, false, [.nilp]⟩),
 (85, ⟨.ptr 116, 1, false, [.nilp]⟩),
 (125, ⟨.slice 134 1 8 [.nilp], 1, false, [.nils]⟩),
 (127, ⟨.ptr 150, 1, false, [.nilp]⟩),
 (106, ⟨.ptr 69, 1, false, [.nilp]⟩),
 (72, ⟨.func, 1, false, [.nilf]⟩),
 (100, ⟨.func, 1, false, [.nilf]⟩),
 (79, ⟨.func, 1, false, [.nilf]⟩),
 (81, ⟨.func, 1, false, [.nilf]⟩),
 (102, ⟨.func, 1, false, [.nilf]⟩)]
set_option maxRecDepth 100000 in
theorem zU : TT.ok Tryz.prog tt = true := by kernel_rfl
theorem mo : Tryz.prog.follows .mixedOrders = true := by kernel_rfl
theorem dok (N : Nat) : DrawOk Tryz.prog tt N := drawOk_of zU (by kernel_rfl) N
open Go.Fw Go
set_option maxRecDepth 8000 in
theorem sameints_c (a b : List Int) (ha : a.length ≤ 1000000) (hb : b.length ≤ 1000000) (H : AH) :
  ACall Tryz.prog 12 [.cs (iS .i64 a) a.length, .cs (iS .i64 b) b.length] H (fun y H' => y = .bool (decide (a = b)) ∧ H' = H) := by
 refine zQ zU (dok _) Tryz.func12 rfl (by decide) rfl ?_
 (repeat' ((conv => whnf); first | refine Then.mk ?_ | left | refine zd ?_ | (refine Both.mk ?_ ?_ <;> intro hc <;> try exact wX hc) | (intro c hc; (try (simp only [AH.zA] at hc; repeat (have hn := hc.1; replace hc := hc.2)))))) <;> (try (conv => whnf))
 ·rename_i hne
  have : a ≠ b := fun e => hne (by rw [e])
  exact ⟨by rw [decide_eq_false this], rfl⟩
 ·rename_i hl
  refine zT (σ := Nat) (4 :: 5 :: 11 :: 12 :: 13 :: 14 :: 15 :: 16 :: 17 :: 18 :: 19 :: 20 :: 21 :: 22 :: 23 :: 24 :: 25 :: []) (fun j => [(5, .int .i64 j)]) (fun _ => H) (fun j => j ≤ a.length ∧ ∀ i, i < j → a.getD i 0 = b.getD i 0) (fun j => a.length - j) 0 rfl ?_ ?_ ?_ ?_
  ·exact ⟨Nat.zero_le _, fun i hi => absurd hi (Nat.not_lt_zero _)⟩
  ·exact ⟨rfl, trivial⟩
  ·exact HLe.refl _
  ·rintro j ⟨hj, hs⟩
   refine AWp.of zU (dok _) rfl ?_
   (repeat' ((conv => whnf); first | refine Then.mk ?_ | left | refine zd ?_ | (refine Both.mk ?_ ?_ <;> intro hc <;> try exact wX hc) | (intro c hc; (try (simp only [AH.zA] at hc; repeat (have hn := hc.1; replace hc := hc.2)))))) <;> (try (conv => whnf))
   ·rename_i hd
    have : a ≠ b := fun e => hd (by rw [e])
    exact ⟨by rw [decide_eq_false this], rfl⟩
   ·rename_i hd
    refine ⟨j + 1, ⟨by omega, fun i hi => ?_⟩, by omega, ⟨congrArg (AV.int .i64) (by omega), trivial⟩, HLe.refl _⟩
    by_cases h : i < j
    ·exact hs i h
    ·have : i = j := by omega
     rw [this]; simpa using hd
   ·have : a = b := by
     apply List.ext_getElem (by omega)
     intro i h1 h2
     have := hs i (by omega)
     simpa [h1, h2] using this
    exact ⟨by rw [decide_eq_true this], rfl⟩
theorem wr_u8s {a : List UInt8} {k : Nat} {v : UInt8} (h : k < a.length) : wrA (u8s a) k [.int .u8 v.toNat] = u8s (a.set k v) := by
 unfold wrA
 rw [List.set_eq_take_append_cons_drop, if_pos h]
 simp [u8s, List.map_take, List.map_drop]
def aro (n : Int) (m : Nat) : Nat := ((if n < 0 then -(n + 1) else n).tmod m).toNat
theorem aro_lt {n : Int} {m : Nat} (hm : 1 ≤ m) : aro n m < m := by
 unfold aro
 have hlt : ∀ x : Int, 0 ≤ x → x.tmod m < m := fun x h => Int.tmod_lt_of_pos _ (by omega)
 have := hlt (if n < 0 then -(n + 1) else n) (by split <;> omega)
 omega
set_option maxRecDepth 8000 in
theorem around_f (n : Int) (h1 : -9223372036854775808 ≤ n) (h2 : n ≤ 9223372036854775807) (m : Nat) (hm : 1 ≤ m) (hm2 : m ≤ 1000000) (H : AH) :
  ACall Tryz.prog 24 [.int .i64 n, .int .i64 m] H (fun y H' => y = .int .i64 (aro n m) ∧ H' = H) := by
 unfold aro
 by_cases hn : n < 0
 ·have hp : 0 ≤ (-(n + 1)).tmod m := Int.tmod_nonneg _ (by omega)
  rw [if_pos hn, Int.toNat_of_nonneg hp]
  refine zQ zU (dok _) Tryz.func24 rfl (by decide) rfl ?_
  (repeat' ((conv => whnf); first | refine Then.mk ?_ | left | refine zd ?_ | (refine Both.mk ?_ ?_ <;> intro hc <;> try exact wX hc) | (intro c hc; (try (simp only [AH.zA] at hc; repeat (have hn := hc.1; replace hc := hc.2)))))) <;> (try (conv => whnf))
 ·have hp : 0 ≤ n.tmod m := Int.tmod_nonneg _ (by omega)
  rw [if_neg hn, Int.toNat_of_nonneg hp]
  refine zQ zU (dok _) Tryz.func24 rfl (by decide) rfl ?_
  (repeat' ((conv => whnf); first | refine Then.mk ?_ | left | refine zd ?_ | (refine Both.mk ?_ ?_ <;> intro hc <;> try exact wX hc) | (intro c hc; (try (simp only [AH.zA] at hc; repeat (have hn := hc.1; replace hc := hc.2)))))) <;> (try (conv => whnf))
open Go.Fw Go
def pickV (l : List Int) (i : Int) (m : Nat) : Nat := if 0 ≤ i ∧ i < l.length then aro (l.getD i.toNat 0) m else 0
theorem pickV_lt {l : List Int} {i : Int} {m : Nat} (hm : 1 ≤ m) : pickV l i m < m := by
 unfold pickV
 split
 ·exact aro_lt hm
 ·omega
set_option maxRecDepth 8000 in
theorem pick_f (l : List Int) (hl : ∀ n ∈ l, -9223372036854775808 ≤ n ∧ n ≤ 9223372036854775807) (hll : l.length ≤ 9223372036854775807) (i : Int) (hi : -9223372036854775808 ≤ i ∧ i ≤ 9223372036854775807) (m : Nat) (hm : 1 ≤ m) (hm2 : m ≤ 1000000) (H : AH) :
  ACall Tryz.prog 32 [.cs (iS .i64 l) l.length, .int .i64 i, .int .i64 m] H (fun y H' => y = .int .i64 (pickV l i m) ∧ H' = H) := by
 unfold pickV
 by_cases h0 : i < 0
 ·rw [if_neg (by omega)]
  refine zQ zU (dok _) Tryz.func32 rfl (by decide) rfl ?_
  (repeat' ((conv => whnf); first | refine Then.mk ?_ | left | refine zd ?_ | (refine Both.mk ?_ ?_ <;> intro hc <;> try exact wX hc) | (intro c hc; (try (simp only [AH.zA] at hc; repeat (have hn := hc.1; replace hc := hc.2)))))) <;> (try (conv => whnf))
 ·by_cases h1 : i < l.length
  ·rw [if_pos (by omega)]
   have hg : (iS .i64 l)[i.toNat]? = some (.int .i64 (l.getD i.toNat 0)) := iS_get (by omega)
   have hb : -9223372036854775808 ≤ l.getD i.toNat 0 ∧ l.getD i.toNat 0 ≤ 9223372036854775807 := by
    have hlt : i.toNat < l.length := by omega
    have : l.getD i.toNat 0 = l[i.toNat] := by rw [List.getD_eq_getElem?_getD, List.getElem?_eq_getElem hlt]; rfl
    rw [this]; exact hl _ (List.getElem_mem hlt)
   generalize l.getD i.toNat 0 = x at *
   have ha := fun H => around_f x hb.1 hb.2 m hm hm2 H
   have hil : (iS .i64 l).length = l.length := by simp
   refine zQ zU (dok _) Tryz.func32 rfl (by decide) rfl ?_
   (repeat' ((conv => whnf); first | refine Then.mk ?_ | left | refine zg ?_ (ha _) | refine zgg ?_ (ha _) | refine zd ?_ | (refine Both.mk ?_ ?_ <;> intro hc <;> try exact wX hc) | (intro c hc; (try (simp only [AH.zA] at hc; repeat (have hn := hc.1; replace hc := hc.2)))) | (refine ACall.to (ha _) ?_))) <;> (try (conv => whnf))
  ·rw [if_neg (by omega)]
   refine zQ zU (dok _) Tryz.func32 rfl (by decide) rfl ?_
   (repeat' ((conv => whnf); first | refine Then.mk ?_ | left | refine zd ?_ | (refine Both.mk ?_ ?_ <;> intro hc <;> try exact wX hc) | (intro c hc; (try (simp only [AH.zA] at hc; repeat (have hn := hc.1; replace hc := hc.2)))))) <;> (try (conv => whnf))
open Go.Fw Go
def fL {α : Type} (f : α → List AV) (l : List α) : List AV := l.flatMap f
section flat
variable {α : Type} {f : α → List AV} {k : Nat} (hk : ∀ a, (f a).length = k)
include hk
theorem fL_len (l : List α) : (fL f l).length = l.length * k := by
 induction l with
 | nil => simp [fL]
 | cons a l ih => simp only [fL, List.flatMap_cons, List.length_append, List.length_cons] at ih ⊢; rw [ih, hk, Nat.succ_mul]; omega
theorem fL_drop (l : List α) : ∀ i, (fL f l).drop (i * k) = fL f (l.drop i) := by
 induction l with
 | nil => intro i; simp [fL]
 | cons a l ih =>
  intro i
  cases i with
  | zero => simp
  | succ i =>
   have h1 : (i + 1) * k = (f a).length + i * k := by rw [hk, Nat.succ_mul]; omega
   have h2 : fL f (a :: l) = f a ++ fL f l := rfl
   rw [h1, h2, List.drop_append, List.drop_of_length_le (by omega), List.nil_append, Nat.add_sub_cancel_left]
   exact ih i
theorem fL_take (l : List α) : ∀ i, (fL f l).take (i * k) = fL f (l.take i) := by
 induction l with
 | nil => intro i; simp [fL]
 | cons a l ih =>
  intro i
  cases i with
  | zero => simp [fL]
  | succ i =>
   have h1 : (i + 1) * k = (f a).length + i * k := by rw [hk, Nat.succ_mul]; omega
   have h2 : fL f (a :: l) = f a ++ fL f l := rfl
   rw [h1, h2, List.take_append, List.take_of_length_le (by omega), Nat.add_sub_cancel_left, ih i]
   rfl
theorem fL_seg {l : List α} {i : Nat} {a : α} (h : l[i]? = some a) : ((fL f l).drop (i * k)).take k = f a := by
 obtain ⟨hi, rfl⟩ := List.getElem?_eq_some_iff.1 h
 rw [fL_drop hk, List.drop_eq_getElem_cons hi]
 show (f l[i] ++ fL f (l.drop (i + 1))).take k = _
 rw [List.take_append, List.take_of_length_le (by rw [hk]; omega), hk, Nat.sub_self]
 simp
theorem fL_get {l : List α} {i : Nat} {a : α} (h : l[i]? = some a) {j : Nat} (hj : j < k) : (fL f l)[i * k + j]? = (f a)[j]? := by
 rw [← fL_seg hk h, List.getElem?_take_of_lt hj, List.getElem?_drop]
theorem fL_wr {l : List α} {i : Nat} (h : i < l.length) {b : α} : wrA (fL f l) (i * k) (f b) = fL f (l.set i b) := by
 unfold wrA
 rw [fL_take hk, hk, show i * k + k = (i + 1) * k by rw [Nat.succ_mul], fL_drop hk, List.set_eq_take_append_cons_drop, if_pos h]
 unfold fL
 rw [List.flatMap_append, List.flatMap_cons, List.append_assoc]
end flat
theorem fL_snoc {α : Type} (f : α → List AV) (l : List α) (a : α) : fL f l ++ f a = fL f (l ++ [a]) := by simp [fL]
theorem fL_rep {α : Type} (f : α → List AV) (a : α) (n : Nat) : (List.replicate n (f a)).flatten = fL f (List.replicate n a) := by
 induction n with
 | zero => rfl
 | succ n ih => rw [List.replicate_succ, List.flatten_cons, ih, List.replicate_succ]; rfl
def fnL {β : Type} (n : Nat) (g : Nat → β) : List β := (List.range n).map g
@[simp] theorem fnL_len {β : Type} (n : Nat) (g : Nat → β) : (fnL n g).length = n := by simp [fnL]
theorem fnL_get {β : Type} {n i : Nat} (g : Nat → β) (h : i < n) : (fnL n g)[i]? = some (g i) := by simp [fnL, h]
theorem fnL_set {β : Type} {n i : Nat} (g : Nat → β) (x : β) : (fnL n g).set i x = fnL n (fun u => if u = i then x else g u) := by
 apply List.ext_getElem?
 intro j
 rw [List.getElem?_set]
 by_cases hj : j < n
 ·by_cases e : i = j
  ·subst e; simp [fnL, hj]
  ·rw [if_neg e, fnL_get _ hj, fnL_get _ hj, if_neg (Ne.symm e)]
 ·have e2 : (fnL n g)[j]? = none := List.getElem?_eq_none (by simp; omega)
  have e3 : (fnL n (fun u => if u = i then x else g u))[j]? = none := List.getElem?_eq_none (by simp; omega)
  rw [e2, e3]; split
  ·rename_i e; subst e; simp [hj]
  ·rfl
theorem fnL_congr {β : Type} {n : Nat} {g k : Nat → β} (h : ∀ i, i < n → g i = k i) : fnL n g = fnL n k := by
 unfold fnL; exact List.map_congr_left fun i hi => h i (by simpa using hi)
theorem fnL_rep {β : Type} (n : Nat) (x : β) : List.replicate n x = fnL n fun _ => x := by
 apply List.ext_getElem?
 intro j
 by_cases hj : j < n
 ·rw [fnL_get _ hj]; simp [hj]
 ·rw [List.getElem?_eq_none (by simp; omega), List.getElem?_eq_none (by simp; omega)]
theorem fnL_snoc {β : Type} (n : Nat) (g : Nat → β) : fnL (n + 1) g = fnL n g ++ [g n] := by simp [fnL, List.range_succ]
def dL (n : Nat) (d : Nat → Int) : List AV := iS .i64 (fnL n d)
@[simp] theorem dL_len (n : Nat) (d : Nat → Int) : (dL n d).length = n := by simp [dL]
theorem dL_get {n i : Nat} (d : Nat → Int) (h : i < n) : (dL n d)[i]? = some (.int .i64 (d i)) := by
 unfold dL iS; rw [List.getElem?_map, fnL_get d h]; rfl
theorem iS_wr1 {a : List Int} {k : Nat} {v : Int} (h : k < a.length) : wrA (iS .i64 a) k [.int .i64 v] = iS .i64 (a.set k v) := by
 unfold wrA
 rw [List.set_eq_take_append_cons_drop, if_pos h]
 simp [iS, List.map_take, List.map_drop]
theorem dL_zero (n : Nat) : (List.replicate n [AV.int .i64 0]).flatten = dL n fun _ => 0 := by
 have : (List.replicate n [AV.int .i64 0]).flatten = List.replicate n (AV.int .i64 0) := by
  induction n with
  | zero => rfl
  | succ n ih => rw [List.replicate_succ, List.flatten_cons, ih, List.replicate_succ]; rfl
 rw [this]
 unfold dL iS
 rw [← fnL_rep, List.map_replicate]
@[simp] theorem wrA1_len (l : List AV) (k : Nat) (v : AV) : (wrA l k [v]).length = min k l.length + 1 + (l.length - (k + 1)) := by simp [wrA]; omega
theorem take_snoc {α : Type} {l : List α} {i : Nat} {x : α} (h : l[i]? = some x) : l.take (i + 1) = l.take i ++ [x] := by
 rw [List.take_add_one, h]; rfl
theorem getD_mem {l : List Int} {i : Nat} (h : i < l.length) : l.getD i 0 ∈ l := by
 rw [List.getD_eq_getElem?_getD, List.getElem?_eq_getElem h]; exact List.getElem_mem h
open Go.Fw Go
def pushR (R : List (Int × Nat)) (l : Int) : List (Int × Nat) :=
 match R.getLast? with
 | some (x, n) => if x = l then R.dropLast ++ [(x, n + 1)] else R ++ [(l, 1)]
 | none => [(l, 1)]
def runsR (L : List Int) : List (Int × Nat) := L.foldl pushR []
def expR (R : List (Int × Nat)) : List Int := R.flatMap fun p => List.replicate p.2 p.1
def flatR (R : List (Int × Nat)) : List Int := R.flatMap fun p => [p.1, (p.2 : Int)]
theorem flatR_len : ∀ R : List (Int × Nat), (flatR R).length = 2 * R.length
 | [] => rfl
 | p :: R => by
  show (p.1 :: (p.2 : Int) :: flatR R).length = _
  simp only [List.length_cons, flatR_len R]; omega
theorem flatR_app (R S : List (Int × Nat)) : flatR (R ++ S) = flatR R ++ flatR S := List.flatMap_append
theorem expR_app (R S : List (Int × Nat)) : expR (R ++ S) = expR R ++ expR S := List.flatMap_append
theorem runsR_snoc (L : List Int) (l : Int) : runsR (L ++ [l]) = pushR (runsR L) l := by
 unfold runsR; rw [List.foldl_append]; rfl
theorem pushR_nil (l : Int) : pushR [] l = [(l, 1)] := rfl
theorem pushR_same (R : List (Int × Nat)) (x : Int) (n : Nat) : pushR (R ++ [(x, n)]) x = R ++ [(x, n + 1)] := by
 unfold pushR
 rw [List.getLast?_append]
 simp
theorem pushR_new (R : List (Int × Nat)) (x l : Int) (n : Nat) (h : x ≠ l) : pushR (R ++ [(x, n)]) l = R ++ [(x, n)] ++ [(l, 1)] := by
 unfold pushR
 rw [List.getLast?_append]
 simp [h]
theorem list_end {α : Type} (R : List α) : R = [] ∨ ∃ S x, R = S ++ [x] := by
 rcases List.eq_nil_or_concat R with h | ⟨S, x, h⟩
 ·exact .inl h
 ·exact .inr ⟨S, x, by rw [h, List.concat_eq_append]⟩
theorem expR_push (R : List (Int × Nat)) (l : Int) : expR (pushR R l) = expR R ++ [l] := by
 rcases list_end R with rfl | ⟨S, ⟨x, n⟩, rfl⟩
 ·rfl
 ·by_cases h : x = l
  ·subst h
   rw [pushR_same, expR_app, expR_app, List.append_assoc]
   refine congrArg (expR S ++ ·) ?_
   show List.replicate (n + 1) x ++ [] = (List.replicate n x ++ []) ++ [x]
   rw [List.append_nil, List.append_nil, List.replicate_succ']
  ·rw [pushR_new _ _ _ _ h, expR_app]; rfl
theorem expR_runs (L : List Int) : expR (runsR L) = L := by
 have : ∀ (M : List Int) (R : List (Int × Nat)), expR (M.foldl pushR R) = expR R ++ M := by
  intro M
  induction M with
  | nil => intro R; simp
  | cons a M ih => intro R; rw [List.foldl_cons, ih, expR_push, List.append_assoc]; rfl
 rw [runsR, this]; rfl
open Go.Fw Go
theorem pushR_len (R : List (Int × Nat)) (l : Int) : (pushR R l).length ≤ R.length + 1 := by
 rcases list_end R with rfl | ⟨S, ⟨x, n⟩, rfl⟩
 ·exact Nat.le_refl _
 ·by_cases h : x = l
  ·subst h; rw [pushR_same]; simp
  ·rw [pushR_new _ _ _ _ h]; simp
theorem runsR_len (L : List Int) : (runsR L).length ≤ L.length := by
 have : ∀ (M : List Int) (R : List (Int × Nat)), (M.foldl pushR R).length ≤ R.length + M.length := by
  intro M
  induction M with
  | nil => intro R; exact Nat.le_refl _
  | cons a M ih => intro R; have := ih (pushR R a); have := pushR_len R a; rw [List.foldl_cons, List.length_cons]; omega
 have := this L []
 rw [List.length_nil, Nat.zero_add] at this
 exact this
theorem runsR_last {L : List Int} {i : Nat} (h0 : 0 < i) (hi : i ≤ L.length) : ∃ S x n, runsR (L.take i) = S ++ [(x, n)] ∧ 0 < n ∧ n ≤ i ∧ x = L.getD (i - 1) 0 := by
 induction i with
 | zero => omega
 | succ i ih =>
  have ht : L.take (i + 1) = L.take i ++ [L.getD i 0] := take_snoc (by rw [List.getD_eq_getElem?_getD, List.getElem?_eq_getElem (by omega)]; rfl)
  rw [ht, runsR_snoc, Nat.add_sub_cancel]
  by_cases e : i = 0
  ·subst e; rw [List.take_zero]; exact ⟨[], _, 1, rfl, by omega, by omega, rfl⟩
  ·obtain ⟨S, x, n, h1, h2, h3, h4⟩ := ih (by omega) (by omega)
   rw [h1]
   by_cases hx : x = L.getD i 0
   ·rw [← hx, pushR_same]; exact ⟨S, x, n + 1, rfl, by omega, by omega, rfl⟩
   ·rw [pushR_new _ _ _ _ hx]; exact ⟨S ++ [(x, n)], _, 1, rfl, by omega, by omega, rfl⟩
theorem flatR_snoc (R : List (Int × Nat)) (x : Int) (n : Nat) : flatR (R ++ [(x, n)]) = flatR R ++ [x, (n : Int)] := by rw [flatR_app]; rfl
theorem flat_set (R : List (Int × Nat)) (x : Int) (n m : Nat) : (flatR (R ++ [(x, n)])).set (2 * R.length + 1) m = flatR (R ++ [(x, m)]) := by
 rw [flatR_snoc, flatR_snoc, List.set_append_right _ _ (by rw [flatR_len]; omega), flatR_len, show 2 * R.length + 1 - 2 * R.length = 1 by omega]; rfl
theorem flat_x (R : List (Int × Nat)) (x : Int) (n : Nat) : (flatR (R ++ [(x, n)])).getD (2 * R.length) 0 = x := by
 rw [flatR_snoc, List.getD_eq_getElem?_getD, List.getElem?_append_right (by rw [flatR_len]; omega), flatR_len, Nat.sub_self]; rfl
theorem flat_n (R : List (Int × Nat)) (x : Int) (n : Nat) : (flatR (R ++ [(x, n)])).getD (2 * R.length + 1) 0 = n := by
 rw [flatR_snoc, List.getD_eq_getElem?_getD, List.getElem?_append_right (by rw [flatR_len]; omega), flatR_len, show 2 * R.length + 1 - 2 * R.length = 1 by omega]; rfl
set_option maxRecDepth 8000 in
set_option maxHeartbeats 4000000 in
theorem runs_c (L : List Int) (hL : L.length ≤ 5000) (H : AH) : ACall Tryz.prog 72 [.cs (iS .i64 L) L.length] H (fun y H' => y = .cs (iS .i64 (flatR (runsR L))) (flatR (runsR L)).length ∧ H' = H) := by
 have hLl : (iS .i64 L).length = L.length := by simp
 refine ACall.cold (es := 1) (by simp) ?_
 refine zQ zU (dok _) Tryz.func72 rfl (by decide) rfl ?_
 (repeat' ((conv => whnf); first | left | refine zd ?_ | (refine Both.mk ?_ ?_ <;> intro hc <;> try exact wX hc) | (intro c hc; (try (simp only [AH.zA] at hc; repeat (have hn := hc.1; replace hc := hc.2)))))) <;> (try (conv => whnf))
 refine Then.mk ?_
 (repeat' ((conv => whnf); first | left | refine zd ?_ | (refine Both.mk ?_ ?_ <;> intro hc <;> try exact wX hc) | (intro c hc; (try (simp only [AH.zA] at hc; repeat (have hn := hc.1; replace hc := hc.2)))))) <;> (try (conv => whnf))
 refine Then.mk (AWq.in ?_)
 refine AWp_nilrow1 3 1 rfl rfl fun q hq => ?_
 refine AWp.of zU (dok _) rfl ?_
 (repeat' ((conv => whnf); first | refine Then.mk ?_ | left | refine zd ?_ | (refine Both.mk ?_ ?_ <;> intro hc <;> try exact wX hc) | (intro c hc; (try (simp only [AH.zA] at hc; repeat (have hn := hc.1; replace hc := hc.2)))))) <;> (try (conv => whnf))
 refine zT (σ := Nat) (3 :: 4 :: 5 :: 6 :: 9 :: 10 :: 11 :: 12 :: 13 :: 14 :: 15 :: 16 :: 17 :: 18 :: 19 :: 20 :: 21 :: 22 :: 23 :: 24 :: 25 :: 26 :: 27 :: 28 :: 29 :: 30 :: 31 :: 32 :: 33 :: 34 :: 35 :: 36 :: 37 :: 38 :: []) (fun i => [(9, .int .i64 i), (3, .sl q (runsR (L.take i)).length 1 0 (flatR (runsR (L.take i))).length none)]) (fun i => H.set q (.row (iS .i64 (flatR (runsR (L.take i)))) (runsR (L.take i)).length)) (fun i => i ≤ L.length) (fun i => L.length - i) 0 rfl (Nat.zero_le _) ⟨rfl, rfl, trivial⟩ (HLe.refl _) ?_
 intro i hi
 refine AWp.of zU (dok _) rfl ?_
 dsimp only at hi ⊢
 by_cases hit : i < L.length
 ·have gl : (iS .i64 L)[(i : Int).toNat]? = some (.int .i64 (L.getD i 0)) := iS_get hit
  have ht : L.take (i + 1) = L.take i ++ [L.getD i 0] := take_snoc (by rw [List.getD_eq_getElem?_getD, List.getElem?_eq_getElem (by omega)]; rfl)
  have hst : runsR (L.take (i + 1)) = pushR (runsR (L.take i)) (L.getD i 0) := by rw [ht, runsR_snoc]
  generalize hX : L.getD i 0 = l at *
  by_cases h0 : i = 0
  ·subst h0
   have e0 : runsR (L.take 0) = [] := by rw [List.take_zero]; rfl
   rw [e0] at hst ⊢
   have gq := AH.zC H q (.row (iS .i64 (flatR [])) 0)
   (repeat' ((conv => whnf); first | refine Then.mk ?_ | left | refine zd ?_ | (refine Both.mk ?_ ?_ <;> intro hc <;> try exact wX hc) | (intro c hc; (try (simp only [AH.zA] at hc; repeat (have hn := hc.1; replace hc := hc.2)))))) <;> (try (conv => whnf))
   exact ⟨0 + 1, hit, by omega, ⟨rfl, by dsimp only; rw [hst]; rfl, trivial⟩, by rw [hst, AH.zS]; exact HLe.refl _⟩
  ·obtain ⟨S, x, n, h1, h2, h3, h4⟩ := runsR_last (L := L) (show 0 < i by omega) hi
   rw [h1] at hst ⊢
   obtain ⟨m, hm⟩ : ∃ m, m = 2 * S.length := ⟨_, rfl⟩
   have hl : (flatR (S ++ [(x, n)])).length = m + 2 := by rw [flatR_len, List.length_append, List.length_singleton]; omega
   have lR : (iS .i64 (flatR (S ++ [(x, n)]))).length = m + 2 := by rw [iS_length, hl]
   have gx : (iS .i64 (flatR (S ++ [(x, n)])))[((m : Nat) : Int).toNat]? = some (.int .i64 x) := by
    rw [Int.toNat_natCast, iS_get (by rw [hl]; omega), hm, flat_x]
   have gn : (iS .i64 (flatR (S ++ [(x, n)])))[((m + 1 : Nat) : Int).toNat]? = some (.int .i64 n) := by
    rw [Int.toNat_natCast, iS_get (by rw [hl]; omega), hm, flat_n]
   have e1 : IntKind.i64.wrap (((m + 2 : Nat) : Int) - 2) = ((m : Nat) : Int) := by
    have := runsR_len (L.take i)
    rw [h1, List.length_append, List.length_singleton, List.length_take] at this
    rw [IntKind.wrap_i64]; omega
   have e2 : IntKind.i64.wrap (((m + 2 : Nat) : Int) - 1) = ((m + 1 : Nat) : Int) := by
    have := runsR_len (L.take i)
    rw [h1, List.length_append, List.length_singleton, List.length_take] at this
    rw [IntKind.wrap_i64]; omega
   have hSL : S.length ≤ 5000 := by
    have := runsR_len (L.take i)
    rw [h1, List.length_append, List.length_singleton, List.length_take] at this
    omega
   have e3 : IntKind.i64.wrap ((n : Int) + 1) = n + 1 := by rw [IntKind.wrap_i64]; omega
   have hwr : wrA (iS .i64 (flatR (S ++ [(x, n)]))) (0 + ((m + 1 : Nat) : Int).toNat * 1) [.int .i64 ((n : Int) + 1)] = iS .i64 (flatR (S ++ [(x, n + 1)])) := by
    rw [show 0 + ((m + 1 : Nat) : Int).toNat * 1 = m + 1 by omega, iS_wr1 (by rw [hl]; omega), hm, show ((n : Int) + 1) = ((n + 1 : Nat) : Int) by omega, flat_set]
   have hap : iS .i64 (flatR (S ++ [(x, n)])) ++ [.int .i64 l, .int .i64 1] = iS .i64 (flatR (S ++ [(x, n)] ++ [(l, 1)])) := by
    rw [flatR_snoc (S ++ [(x, n)])]; unfold iS; rw [List.map_append]; rfl
   have hsl : (S ++ [(x, n)]).length = S.length + 1 := by simp
   rw [hl, hsl]
   have gq := AH.zC H q (.row (iS .i64 (flatR (S ++ [(x, n)]))) (S.length + 1))
   generalize hR1 : iS .i64 (flatR (S ++ [(x, n)])) = R1 at *
   by_cases hx : x = l
   ·subst hx
    rw [pushR_same] at hst
    (repeat' ((conv => whnf); first | refine Then.mk ?_ | left | refine zd ?_ | (refine Both.mk ?_ ?_ <;> intro hc <;> try exact wX hc) | (intro c hc; (try (simp only [AH.zA] at hc; repeat (have hn := hc.1; replace hc := hc.2)))))) <;> (try (conv => whnf))
    refine ⟨i + 1, hit, by omega, ⟨congrArg (AV.int .i64) (by omega), ?_, trivial⟩, ?_⟩
    ·dsimp only; rw [hst, flatR_len, List.length_append, List.length_singleton]
     exact congrArg (fun z => AV.sl q (S.length + 1) 1 0 z none) (by omega)
    ·rw [hst, AH.zS]
     show HLe _ (AH.set H q (.row (wrA R1 (0 + ((m + 1 : Nat) : Int).toNat * 1) [.int .i64 ((n : Int) + 1)]) (S.length + 1)))
     rw [hwr, List.length_append, List.length_singleton]; exact HLe.refl _
   ·rw [pushR_new _ _ _ _ hx] at hst
    (repeat' ((conv => whnf); first | refine Then.mk ?_ | left | refine zd ?_ | (refine Both.mk ?_ ?_ <;> intro hc <;> try exact wX hc) | (intro c hc; (try (simp only [AH.zA] at hc; repeat (have hn := hc.1; replace hc := hc.2)))))) <;> (try (conv => whnf))
    refine ⟨i + 1, hit, by omega, ⟨congrArg (AV.int .i64) (by omega), ?_, trivial⟩, ?_⟩
    ·dsimp only; rw [hst, flatR_len, List.length_append, List.length_singleton, hsl]
     exact congrArg (fun z => AV.sl q (S.length + 2) 1 0 z none) (by omega)
    ·rw [hst, AH.zS, ← hap, List.length_append, List.length_singleton, hsl]; exact HLe.refl _
 ·have hie : i = L.length := by omega
  subst hie
  rw [List.take_length]
  (repeat' ((conv => whnf); first | refine Then.mk ?_ | left | refine zd ?_ | (refine Both.mk ?_ ?_ <;> intro hc <;> try exact wX hc) | (intro c hc; (try (simp only [AH.zA] at hc; repeat (have hn := hc.1; replace hc := hc.2)))))) <;> (try (conv => whnf))
open Go.Fw Go
theorem take_one {L : List Int} {i : Nat} (h : i < L.length) : L.take (i + 1) = L.take i ++ [L.getD i 0] :=
 take_snoc (by rw [List.getD_eq_getElem?_getD, List.getElem?_eq_getElem h]; rfl)
theorem run_new {L : List Int} {i : Nat} (hi : i < L.length) (h : 0 < i → ¬ L.getD (i - 1) 0 = L.getD i 0) : runsR (L.take (i + 1)) = runsR (L.take i) ++ [(L.getD i 0, 1)] := by
 rw [take_one hi, runsR_snoc]
 by_cases e : i = 0
 ·subst e; rw [List.take_zero]; rfl
 ·obtain ⟨S, x, n, h1, h2, h3, h4⟩ := runsR_last (L := L) (show 0 < i by omega) (by omega)
  rw [h1, pushR_new _ _ _ _ (by rw [h4]; exact h (by omega))]
theorem run_on {L : List Int} {j k : Nat} {R : List (Int × Nat)} {x : Int} (hj : j < L.length) (h : runsR (L.take j) = R ++ [(x, k)]) (hx : L.getD j 0 = x) : runsR (L.take (j + 1)) = R ++ [(x, k + 1)] := by
 rw [take_one hj, runsR_snoc, h, hx, pushR_same]
theorem run_val {L : List Int} {j k : Nat} {R : List (Int × Nat)} {x : Int} (h0 : 0 < j) (hj : j ≤ L.length) (h : runsR (L.take j) = R ++ [(x, k)]) : L.getD (j - 1) 0 = x ∧ k ≤ j := by
 obtain ⟨S, y, n, h1, h2, h3, h4⟩ := runsR_last (L := L) h0 hj
 rw [h1] at h
 have := List.append_inj' h rfl
 have e := this.2
 simp only [List.cons.injEq, and_true, Prod.mk.injEq] at e
 rw [← e.1, ← h4, ← e.2]
 exact ⟨rfl, h3⟩
set_option maxRecDepth 8000 in
set_option maxHeartbeats 4000000 in
theorem rruns_c (L : List Int) (hL : L.length ≤ 5000) (H : AH) : ACall Tryz.prog 68 [.cs (iS .i64 L) L.length] H (fun y H' => y = .cs (iS .i64 (flatR (runsR L))) (flatR (runsR L)).length ∧ H' = H) := by
 have hLl : (iS .i64 L).length = L.length := by simp
 refine ACall.cold (es := 1) (by simp) ?_
 refine zQ zU (dok _) Tryz.func68 rfl (by decide) rfl ?_
 (repeat' ((conv => whnf); first | left | refine zd ?_ | (refine Both.mk ?_ ?_ <;> intro hc <;> try exact wX hc) | (intro c hc; (try (simp only [AH.zA] at hc; repeat (have hn := hc.1; replace hc := hc.2)))))) <;> (try (conv => whnf))
 refine Then.mk ?_
 (repeat' ((conv => whnf); first | left | refine zd ?_ | (refine Both.mk ?_ ?_ <;> intro hc <;> try exact wX hc) | (intro c hc; (try (simp only [AH.zA] at hc; repeat (have hn := hc.1; replace hc := hc.2)))))) <;> (try (conv => whnf))
 refine Then.mk (AWq.in ?_)
 refine AWp_nilrow1 3 1 rfl rfl fun q hq => ?_
 refine AWp.of zU (dok _) rfl ?_
 (repeat' ((conv => whnf); first | refine Then.mk ?_ | left | refine zd ?_ | (refine Both.mk ?_ ?_ <;> intro hc <;> try exact wX hc) | (intro c hc; (try (simp only [AH.zA] at hc; repeat (have hn := hc.1; replace hc := hc.2)))))) <;> (try (conv => whnf))
 refine zT (σ := Nat) (3 :: 4 :: 5 :: 6 :: 7 :: 8 :: 9 :: 10 :: 11 :: 12 :: 13 :: 14 :: 15 :: 16 :: 17 :: 18 :: 19 :: 20 :: 21 :: 22 :: 23 :: 24 :: 25 :: 26 :: 27 :: 28 :: 29 :: 30 :: 31 :: 32 :: 33 :: 34 :: 35 :: 36 :: 37 :: 38 :: 39 :: 40 :: []) (fun i => [(4, .int .i64 i), (3, .sl q (runsR (L.take i)).length 1 0 (flatR (runsR (L.take i))).length none)]) (fun i => H.set q (.row (iS .i64 (flatR (runsR (L.take i)))) (runsR (L.take i)).length)) (fun i => i ≤ L.length ∧ (0 < i → i < L.length → ¬ L.getD (i - 1) 0 = L.getD i 0)) (fun i => L.length - i) 0 rfl ⟨Nat.zero_le _, by omega⟩ ⟨rfl, rfl, trivial⟩ (HLe.refl _) ?_
 rintro i ⟨hi, hn⟩
 refine AWp.of zU (dok _) rfl ?_
 dsimp only at hi ⊢
 by_cases hit : i < L.length
 ·have h1 := run_new hit (fun h => hn h hit)
  have hRl := runsR_len (L.take i)
  rw [List.length_take] at hRl
  have hfl := flatR_len (runsR (L.take i))
  generalize hR : runsR (L.take i) = R at *
  generalize hx : L.getD i 0 = x at *
  obtain ⟨F, hF⟩ : ∃ F, F = iS .i64 (flatR R) := ⟨_, rfl⟩
  have gq := AH.zC H q (.row F R.length)
  have lF : F.length = 2 * R.length := by rw [hF, iS_length, hfl]
  rw [← hF, hfl]
  (repeat' ((conv => whnf); first | left | refine zd ?_ | (refine Both.mk ?_ ?_ <;> intro hc <;> try exact wX hc) | (intro c hc; (try (simp only [AH.zA] at hc; repeat (have hn := hc.1; replace hc := hc.2)))))) <;> (try (conv => whnf))
  refine Then.mk ?_
  (repeat' ((conv => whnf); first | refine Then.mk ?_ | left | refine zd ?_ | (refine Both.mk ?_ ?_ <;> intro hc <;> try exact wX hc) | (intro c hc; (try (simp only [AH.zA] at hc; repeat (have hn := hc.1; replace hc := hc.2)))))) <;> (try (conv => whnf))
  refine zT (σ := Nat) (4 :: 5 :: 12 :: 13 :: 14 :: 15 :: 16 :: 17 :: 18 :: 19 :: 20 :: 21 :: 22 :: 23 :: 24 :: 25 :: 26 :: 27 :: 28 :: 29 :: 30 :: 31 :: 32 :: []) (fun k => [(4, .int .i64 (i + k : Nat)), (5, .int .i64 (k + 1 : Nat))]) (fun k => H.set q (.row F R.length)) (fun k => i + k < L.length ∧ runsR (L.take (i + k + 1)) = R ++ [(x, k + 1)]) (fun k => L.length - k) 0 rfl ⟨hit, h1⟩ ⟨rfl, rfl, trivial⟩ (HLe.refl _) ?_
  rintro k ⟨hk, hrk⟩
  refine AWp.of zU (dok _) rfl ?_
  dsimp only at hk hrk ⊢
  have hv := (run_val (by omega) (by omega) hrk).1
  rw [show i + k + 1 - 1 = i + k by omega] at hv
  have g1 : (iS .i64 L)[((i + k : Nat) : Int).toNat]? = some (.int .i64 x) := by rw [← hv]; exact iS_get hk
  have hend : F ++ [.int .i64 x, .int .i64 ((k + 1 : Nat) : Int)] = iS .i64 (flatR (runsR (L.take (i + k + 1)))) := by
   rw [hrk, flatR_snoc, hF]; unfold iS; rw [List.map_append]; rfl
  have hlen : (flatR (runsR (L.take (i + k + 1)))).length = 2 * R.length + 2 := by rw [hrk, flatR_len, List.length_append, List.length_singleton]; omega
  have hlr : (runsR (L.take (i + k + 1))).length = R.length + 1 := by rw [hrk, List.length_append, List.length_singleton]
  by_cases hkt : i + k + 1 < L.length
  ·have g2 : (iS .i64 L)[((i + k : Nat) : Int).toNat + 1]? = some (.int .i64 (L.getD (i + k + 1) 0)) := by
    rw [Int.toNat_natCast]; exact iS_get hkt
   have g3 : (iS .i64 L)[(((i + k : Nat) : Int) + 1).toNat]? = some (.int .i64 (L.getD (i + k + 1) 0)) := by
    rw [show (((i + k : Nat) : Int) + 1).toNat = i + k + 1 by omega]; exact iS_get hkt
   by_cases he : L.getD (i + k + 1) 0 = x
   ·have hon := run_on hkt hrk he
    rw [he] at g2 g3
    (repeat' ((conv => whnf); first | refine Then.mk ?_ | left | refine zd ?_ | (refine Both.mk ?_ ?_ <;> intro hc <;> try exact wX hc) | (intro c hc; (try (simp only [AH.zA] at hc; repeat (have hn := hc.1; replace hc := hc.2)))))) <;> (try (conv => whnf))
    exact ⟨k + 1, ⟨hkt, hon⟩, by omega, ⟨congrArg (AV.int .i64) (by omega), congrArg (AV.int .i64) (by omega), trivial⟩, HLe.refl _⟩
   ·have he' : ¬ L.getD (i + k) 0 = L.getD (i + k + 1) 0 := fun e => he (by rw [← e, hv])
    generalize hz : L.getD (i + k + 1) 0 = z at *
    (repeat' ((conv => whnf); first | refine Then.mk ?_ | left | refine zd ?_ | (refine Both.mk ?_ ?_ <;> intro hc <;> try exact wX hc) | (intro c hc; (try (simp only [AH.zA] at hc; repeat (have hn := hc.1; replace hc := hc.2)))))) <;> (try (conv => whnf))
    refine ⟨i + k + 1, ⟨by omega, fun _ _ => ?_⟩, by omega, ⟨congrArg (AV.int .i64) (by omega), ?_, trivial⟩, ?_⟩
    ·rw [show i + k + 1 - 1 = i + k by omega, hz]; exact he'
    ·dsimp only; rw [hlen, hlr]; rfl
    ·rw [hlr, ← hend, AH.zS]
     exact HLe.refl _
  ·(repeat' ((conv => whnf); first | refine Then.mk ?_ | left | refine zd ?_ | (refine Both.mk ?_ ?_ <;> intro hc <;> try exact wX hc) | (intro c hc; (try (simp only [AH.zA] at hc; repeat (have hn := hc.1; replace hc := hc.2)))))) <;> (try (conv => whnf))
   refine ⟨i + k + 1, ⟨by omega, fun _ h => absurd h hkt⟩, by omega, ⟨congrArg (AV.int .i64) (by omega), ?_, trivial⟩, ?_⟩
   ·dsimp only; rw [hlen, hlr]; rfl
   ·rw [hlr, ← hend, AH.zS]
    exact HLe.refl _
 ·have hie : i = L.length := by omega
  subst hie
  rw [List.take_length]
  (repeat' ((conv => whnf); first | refine Then.mk ?_ | left | refine zd ?_ | (refine Both.mk ?_ ?_ <;> intro hc <;> try exact wX hc) | (intro c hc; (try (simp only [AH.zA] at hc; repeat (have hn := hc.1; replace hc := hc.2)))))) <;> (try (conv => whnf))
end Go.Proofs.YtgpfmojlgejnhaaGreat
/- The plain law of the wavelet: squares as functions. -/
namespace Go.Proofs.YtgpfmojlgejnhaaGreat
set_option linter.unusedVariables false
set_option linter.unusedSimpArgs false
abbrev Ln := Nat → Int
abbrev Mat := Nat → Nat → Int
def spl (n : Nat) (x : Ln) (c : Nat) : Int := if c < n / 2 then (x (2 * c) + x (2 * c + 1)) / 2 else x (2 * (c - n / 2)) - x (2 * (c - n / 2) + 1)
def joi (n : Nat) (x : Ln) (c : Nat) : Int := if c % 2 = 0 then x (c / 2) + (x (n / 2 + c / 2) + 1) / 2 else x (c / 2) + (x (n / 2 + c / 2) + 1) / 2 - x (n / 2 + c / 2)
theorem joi_spl (h : Nat) (x y : Ln) (hy : ∀ c, c < 2 * h → y c = spl (2 * h) x c) (c : Nat) (hc : c < 2 * h) : joi (2 * h) y c = x c := by
 have e : 2 * h / 2 = h := by omega
 have h1 : y (c / 2) = (x (2 * (c / 2)) + x (2 * (c / 2) + 1)) / 2 := by
  rw [hy _ (by omega)]; unfold spl; rw [e, if_pos (by omega)]
 have h2 : y (h + c / 2) = x (2 * (c / 2)) - x (2 * (c / 2) + 1) := by
  rw [hy _ (by omega)]; unfold spl; rw [e, if_neg (by omega), show h + c / 2 - h = c / 2 by omega]
 unfold joi
 rw [e, h1, h2]
 split
 ·rw [show 2 * (c / 2) = c by omega]; omega
 ·rw [show 2 * (c / 2) + 1 = c by omega]; omega
def rowsM (f : Nat → Ln → Ln) (n : Nat) (M : Mat) : Mat := fun r c => if r < n ∧ c < n then f n (M r) c else M r c
def colsM (f : Nat → Ln → Ln) (n : Nat) (M : Mat) : Mat := fun r c => if r < n ∧ c < n then f n (fun k => M k c) r else M r c
def rowsI (f : Nat → Ln → Ln) (n i : Nat) (M : Mat) : Mat := fun r c => if r < i ∧ c < n then f n (M r) c else M r c
def colsI (f : Nat → Ln → Ln) (n i : Nat) (M : Mat) : Mat := fun r c => if r < n ∧ c < i then f n (fun k => M k c) r else M r c
theorem rows_rows {f g : Nat → Ln → Ln} {n : Nat} (h : ∀ x y : Ln, (∀ c, c < n → y c = f n x c) → ∀ c, c < n → g n y c = x c) (M : Mat) : rowsM g n (rowsM f n M) = M := by
 funext r c
 unfold rowsM
 by_cases hr : r < n ∧ c < n
 ·rw [if_pos hr]
  exact h (M r) _ (fun c hc => by rw [if_pos ⟨hr.1, hc⟩]) c hr.2
 ·rw [if_neg hr, if_neg hr]
theorem cols_cols {f g : Nat → Ln → Ln} {n : Nat} (h : ∀ x y : Ln, (∀ c, c < n → y c = f n x c) → ∀ c, c < n → g n y c = x c) (M : Mat) : colsM g n (colsM f n M) = M := by
 funext r c
 unfold colsM
 by_cases hr : r < n ∧ c < n
 ·rw [if_pos hr]
  exact h (fun k => M k c) _ (fun k hk => by rw [if_pos ⟨hk, hr.2⟩]) r hr.1
 ·rw [if_neg hr, if_neg hr]
def fwd : Nat → Mat → Mat
 | 0, M => M
 | k + 1, M => fwd k (colsM spl (2 ^ (k + 1)) (rowsM spl (2 ^ (k + 1)) M))
def inv : Nat → Mat → Mat
 | 0, M => M
 | k + 1, M => rowsM joi (2 ^ (k + 1)) (colsM joi (2 ^ (k + 1)) (inv k M))
theorem pow_half (k : Nat) : 2 ^ (k + 1) = 2 * 2 ^ k := by rw [Nat.pow_succ, Nat.mul_comm]
theorem inv_fwd : ∀ (k : Nat) (M : Mat), inv k (fwd k M) = M
 | 0, M => rfl
 | k + 1, M => by
  show rowsM joi _ (colsM joi _ (inv k (fwd k _))) = M
  rw [inv_fwd k, cols_cols (fun x y hy c hc => ?_), rows_rows (fun x y hy c hc => ?_)]
  ·rw [pow_half] at *; exact joi_spl _ x y hy c hc
  ·rw [pow_half] at *; exact joi_spl _ x y hy c hc
def toL (s : Nat) (M : Mat) : List Int := (List.range (s * s)).map fun p => M (p / s) (p % s)
def ofL (s : Nat) (a : List Int) : Mat := fun r c => if r < s ∧ c < s then a.getD (r * s + c) 0 else 0
theorem toL_len (s : Nat) (M : Mat) : (toL s M).length = s * s := by simp [toL]
theorem place {s r c : Nat} (hr : r < s) (hc : c < s) : r * s + c < s * s ∧ (r * s + c) / s = r ∧ (r * s + c) % s = c := by
 have hs : 0 < s := by omega
 refine ⟨?_, ?_, ?_⟩
 ·have : (r + 1) * s ≤ s * s := Nat.mul_le_mul_right _ hr
  rw [Nat.add_mul] at this; omega
 ·rw [Nat.add_comm, Nat.add_mul_div_right _ _ hs, Nat.div_eq_of_lt hc]; omega
 ·rw [Nat.add_comm, Nat.add_mul_mod_self_right, Nat.mod_eq_of_lt hc]
theorem place' {s p : Nat} (hp : p < s * s) : p / s < s ∧ p % s < s ∧ p / s * s + p % s = p := by
 have hs : 0 < s := by
  rcases Nat.eq_zero_or_pos s with h | h
  ·rw [h] at hp; omega
  ·exact h
 exact ⟨Nat.div_lt_of_lt_mul hp, Nat.mod_lt _ hs, Nat.div_add_mod' p s⟩
theorem toL_get {s : Nat} (M : Mat) {r c : Nat} (hr : r < s) (hc : c < s) : (toL s M)[r * s + c]? = some (M r c) := by
 obtain ⟨h1, h2, h3⟩ := place hr hc
 simp [toL, h1, h2, h3]
theorem toL_getD {s : Nat} (M : Mat) {r c : Nat} (hr : r < s) (hc : c < s) : (toL s M).getD (r * s + c) 0 = M r c := by
 rw [List.getD_eq_getElem?_getD, toL_get M hr hc]; rfl
theorem toL_at {s : Nat} (M : Mat) {p : Nat} (hp : p < s * s) : (toL s M)[p]? = some (M (p / s) (p % s)) := by
 simp [toL, hp]
theorem toL_ofL {s : Nat} {a : List Int} (h : a.length = s * s) : toL s (ofL s a) = a := by
 apply List.ext_getElem?
 intro p
 by_cases hp : p < s * s
 ·obtain ⟨h1, h2, h3⟩ := place' hp
  rw [toL_at _ hp]
  unfold ofL
  rw [if_pos ⟨h1, h2⟩, h3]
  simp [show p < a.length by omega]
 ·rw [List.getElem?_eq_none (by rw [toL_len]; omega), List.getElem?_eq_none (by omega)]
theorem toL_congr {s : Nat} {M N : Mat} (h : ∀ r c, r < s → c < s → M r c = N r c) : toL s M = toL s N := by
 unfold toL
 refine List.map_congr_left fun p hp => ?_
 have hp : p < s * s := by simpa using hp
 obtain ⟨h1, h2, _⟩ := place' hp
 exact h _ _ h1 h2
def updM (M : Mat) (r c : Nat) (v : Int) : Mat := fun i k => if i = r ∧ k = c then v else M i k
theorem toL_set {s : Nat} (M : Mat) {r c : Nat} (hr : r < s) (hc : c < s) (v : Int) : (toL s M).set (r * s + c) v = toL s (updM M r c v) := by
 apply List.ext_getElem?
 intro p
 by_cases hp : p < s * s
 ·obtain ⟨h1, h2, h3⟩ := place' hp
  obtain ⟨k1, k2, k3⟩ := place hr hc
  rw [List.getElem?_set, toL_at _ hp, toL_at _ hp]
  by_cases e : r * s + c = p
  ·subst e
   rw [if_pos rfl, k2, k3]
   unfold updM
   simp [toL_len, k1]
  ·rw [if_neg e]
   unfold updM
   rw [if_neg (fun h => e (by rw [← h3, h.1, h.2]))]
 ·rw [List.getElem?_eq_none (by rw [List.length_set, toL_len]; omega), List.getElem?_eq_none (by rw [toL_len]; omega)]
def lnL (n : Nat) (x : Ln) : List Int := (List.range n).map x
theorem lnL_len (n : Nat) (x : Ln) : (lnL n x).length = n := by simp [lnL]
theorem lnL_get {n c : Nat} (x : Ln) (h : c < n) : (lnL n x)[c]? = some (x c) := by simp [lnL, h]
theorem lnL_congr {n : Nat} {x y : Ln} (h : ∀ c, c < n → x c = y c) : lnL n x = lnL n y := List.map_congr_left fun c hc => h c (by simpa using hc)
theorem lnL_set {n c : Nat} (x : Ln) (h : c < n) (v : Int) : (lnL n x).set c v = lnL n (fun k => if k = c then v else x k) := by
 apply List.ext_getElem?
 intro p
 by_cases hp : p < n
 ·rw [List.getElem?_set, lnL_get _ hp, lnL_get _ hp]
  by_cases e : c = p
  ·subst e; simp [lnL_len, h]
  ·rw [if_neg e, if_neg (fun h => e h.symm)]
 ·rw [List.getElem?_eq_none (by rw [List.length_set, lnL_len]; omega), List.getElem?_eq_none (by rw [lnL_len]; omega)]
theorem toL_row {s n i : Nat} (M : Mat) (hi : i < s) (hn : n ≤ s) : ((toL s M).drop (i * s)).take n = lnL n (M i) := by
 apply List.ext_getElem?
 intro c
 by_cases hc : c < n
 ·rw [List.getElem?_take, if_pos hc, List.getElem?_drop, toL_get M hi (by omega), lnL_get _ hc]
 ·rw [List.getElem?_eq_none (by rw [List.length_take]; omega), List.getElem?_eq_none (by rw [lnL_len]; omega)]
theorem toL_put {s n i : Nat} (M : Mat) (x : Ln) (hi : i < s) (hn : n ≤ s) : (toL s M).take (i * s) ++ lnL n x ++ (toL s M).drop (i * s + n) = toL s (fun r c => if r = i ∧ c < n then x c else M r c) := by
 have hin : i * s + n ≤ s * s := by
  have : (i + 1) * s ≤ s * s := Nat.mul_le_mul_right _ hi
  rw [Nat.add_mul] at this; omega
 apply List.ext_getElem?
 intro p
 have hL : ((toL s M).take (i * s) ++ lnL n x).length = i * s + n := by
  rw [List.length_append, List.length_take, toL_len, lnL_len]; omega
 by_cases hp : p < s * s
 ·obtain ⟨h1, h2, h3⟩ := place' hp
  rw [toL_at _ hp]
  by_cases c1 : p < i * s
  ·rw [List.getElem?_append_left (by omega), List.getElem?_append_left (by rw [List.length_take, toL_len]; omega), List.getElem?_take, if_pos c1, toL_at _ hp]
   have : p / s ≠ i := fun e => by rw [e] at h3; omega
   rw [if_neg (fun h => this h.1)]
  ·by_cases c2 : p < i * s + n
   ·rw [List.getElem?_append_left (by omega), List.getElem?_append_right (by rw [List.length_take, toL_len]; omega), List.length_take, toL_len, Nat.min_eq_left (by omega), lnL_get _ (by omega)]
    obtain ⟨k1, k2, k3⟩ := place hi (show p - i * s < s by omega)
    rw [show i * s + (p - i * s) = p by omega] at k2 k3
    rw [k2, k3, if_pos ⟨rfl, by omega⟩]
   ·rw [List.getElem?_append_right (by omega), hL, List.getElem?_drop, show i * s + n + (p - (i * s + n)) = p by omega, toL_at _ hp]
    have : ¬ (p / s = i ∧ p % s < n) := fun h => by rw [h.1] at h3; omega
    rw [if_neg this]
 ·rw [List.getElem?_eq_none (by rw [List.length_append, hL, List.length_drop, toL_len]; omega), List.getElem?_eq_none (by rw [toL_len]; omega)]
open Go.Fw Go
def iL (n : Nat) (X : Ln) : List AV := iS .i64 (lnL n X)
@[simp] theorem iL_len (n : Nat) (X : Ln) : (iL n X).length = n := by simp [iL, lnL]
theorem iL_get {n i : Nat} (X : Ln) (h : i < n) : (iL n X)[i]? = some (.int .i64 (X i)) := by
 unfold iL iS
 rw [List.getElem?_map, lnL_get X h]; rfl
theorem iL_congr {n : Nat} {X Y : Ln} (h : ∀ c, c < n → X c = Y c) : iL n X = iL n Y := by unfold iL; rw [lnL_congr h]
theorem iL_zero (n : Nat) : (List.replicate n [AV.int .i64 0]).flatten = iL n (fun _ => 0) := by
 apply List.ext_getElem?
 intro i
 have : (List.replicate n [AV.int .i64 0]).flatten = List.replicate n (AV.int .i64 0) := by
  induction n with
  | zero => rfl
  | succ n ih => rw [List.replicate_succ, List.flatten_cons, ih, List.replicate_succ]; rfl
 rw [this]
 by_cases h : i < n
 ·rw [iL_get _ h]; simp [h]
 ·rw [List.getElem?_eq_none (by simp; omega), List.getElem?_eq_none (by rw [iL_len]; omega)]
theorem iS_wr {a : List Int} {k : Nat} {v : Int} (h : k < a.length) : wrA (iS .i64 a) k [.int .i64 v] = iS .i64 (a.set k v) := by
 unfold wrA
 rw [List.set_eq_take_append_cons_drop, if_pos h]
 simp [iS, List.map_take, List.map_drop]
theorem iL_wr {n c : Nat} (X : Ln) (h : c < n) (v : Int) : wrA (iL n X) c [.int .i64 v] = iL n (fun k => if k = c then v else X k) := by
 unfold iL
 rw [iS_wr (by rw [lnL_len]; exact h), lnL_set X h]
@[simp] theorem wrA_len (l : List AV) (k : Nat) (v : AV) : (wrA l k [v]).length = min k l.length + 1 + (l.length - (k + 1)) := by simp [wrA]; omega
def inB (m : Int) (a : List Int) : Bool := a.all fun x => decide (-m ≤ x ∧ x ≤ m)
theorem inB_iff {m : Int} {a : List Int} : inB m a = true ↔ ∀ x ∈ a, -m ≤ x ∧ x ≤ m := by simp [inB]
set_option maxRecDepth 8000 in
theorem half_c (n : Int) (H : AH) : ACall Tryz.prog 83 [.int .i64 n] H (fun y H' => y = .int .i64 (n / 2) ∧ H' = H) := by
 have e : n.fdiv (2 ^ min (Int.toNat 1) IntKind.i64.bits) = n / 2 := by
  rw [show (2 : Int) ^ min (Int.toNat 1) IntKind.i64.bits = 2 by decide, Int.fdiv_eq_ediv_of_nonneg _ (by omega)]
 refine zQ zU (dok _) Tryz.func83 rfl (by decide) rfl ?_
 (repeat' ((conv => whnf); first | refine Then.mk ?_ | left | refine zd ?_ | (refine Both.mk ?_ ?_ <;> intro hc <;> try exact wX hc) | (intro c hc; (try (simp only [AH.zA] at hc; repeat (have hn := hc.1; replace hc := hc.2)))))) <;> (try (conv => whnf))
 all_goals exact ⟨congrArg (AV.int .i64) e, rfl⟩
set_option maxRecDepth 8000 in
theorem outs_c (m x : Int) (hm : 0 ≤ m ∧ m ≤ 4611686018427387904) (c : Nat) (H : AH) (hc : H c = some (.row [.int .i64 m] 0)) :
  ACall Tryz.prog 112 [.int .i64 x, .ptr c 0 0] H (fun y H' => y = .bool (!decide (-m ≤ x ∧ x ≤ m)) ∧ H' = H) := by
 by_cases h : -m ≤ x ∧ x ≤ m
 ·rw [decide_eq_true h]
  refine zQ zU (dok _) Tryz.func112 rfl (by decide) rfl ?_
  (repeat' ((conv => whnf); first | refine Then.mk ?_ | left | refine zd ?_ | (refine Both.mk ?_ ?_ <;> intro hc <;> try exact wX hc) | (intro c hc; (try (simp only [AH.zA] at hc; repeat (have hn := hc.1; replace hc := hc.2)))))) <;> (try (conv => whnf))
 ·rw [decide_eq_false h]
  refine zQ zU (dok _) Tryz.func112 rfl (by decide) rfl ?_
  (repeat' ((conv => whnf); first | refine Then.mk ?_ | left | refine zd ?_ | (refine Both.mk ?_ ?_ <;> intro hc <;> try exact wX hc) | (intro c hc; (try (simp only [AH.zA] at hc; repeat (have hn := hc.1; replace hc := hc.2)))))) <;> (try (conv => whnf))
set_option maxRecDepth 8000 in
theorem index_c (m : Int) (hm : 0 ≤ m ∧ m ≤ 4611686018427387904) (a : List Int) (ha : a.length ≤ 1000000) (c : Nat) (H : AH) (hc : H c = some (.row [.int .i64 m] 0)) :
  ACall Tryz.prog 114 [.cs (iS .i64 a) a.length, .fn (.func 112) [] [.ptr c 0 0]] H (fun y H' => ∃ k : Int, (k < 0 ↔ inB m a = true) ∧ y = .int .i64 k ∧ H' = H) := by
 refine zQ zU (dok _) Tryz.func114 rfl (by decide) rfl ?_
 (repeat' ((conv => whnf); first | refine Then.mk ?_ | left | refine zd ?_ | (refine Both.mk ?_ ?_ <;> intro hc <;> try exact wX hc) | (intro c hc; (try (simp only [AH.zA] at hc; repeat (have hn := hc.1; replace hc := hc.2)))))) <;> (try (conv => whnf))
 refine zT (σ := Nat) (4 :: 5 :: 8 :: 9 :: 10 :: 11 :: 12 :: 13 :: 14 :: 15 :: 16 :: 17 :: 18 :: []) (fun i => [(8, .int .i64 i)]) (fun _ => H) (fun i => i ≤ a.length ∧ inB m (a.take i) = true) (fun i => a.length - i) 0 rfl ?_ ?_ ?_ ?_
 ·exact ⟨Nat.zero_le _, rfl⟩
 ·exact ⟨rfl, trivial⟩
 ·exact HLe.refl _
 ·rintro i ⟨hi, hin⟩
  refine AWp.of zU (dok _) rfl ?_
  by_cases h : i < a.length
  ·have hs := fun x => outs_c m x hm c H hc
   have ht : inB m (a.take (i + 1)) = (inB m (a.take i) && decide (-m ≤ a[i] ∧ a[i] ≤ m)) := by
    rw [List.take_add_one, List.getElem?_eq_getElem h]; simp only [inB, List.all_append, Option.toList_some, List.all_cons, List.all_nil, Bool.and_true]
   have hd : a.getD (i : Int).toNat 0 = a[i] := by rw [Int.toNat_natCast]; simp [h]
   by_cases hb : -m ≤ a[i] ∧ a[i] ≤ m
   ·have hs := hs a[i]
    rw [decide_eq_true hb, ← hd] at hs
    (repeat' ((conv => whnf); first | refine Then.mk ?_ | left | refine zg ?_ (hs) | refine zgg ?_ (hs) | refine zd ?_ | (refine Both.mk ?_ ?_ <;> intro hc <;> try exact wX hc) | (intro c hc; (try (simp only [AH.zA] at hc; repeat (have hn := hc.1; replace hc := hc.2)))) | (refine ACall.to (hs) ?_))) <;> (try (conv => whnf))
    refine ⟨i + 1, ⟨by omega, by rw [ht, hin, decide_eq_true hb]; rfl⟩, by omega, ⟨congrArg (AV.int .i64) (by omega), trivial⟩, HLe.refl _⟩
   ·have hs := hs a[i]
    rw [decide_eq_false hb, ← hd] at hs
    have hno : inB m a = false := by
     cases hx : inB m a with
     | false => rfl
     | true => exact absurd (inB_iff.1 hx a[i] (List.getElem_mem h)) hb
    (repeat' ((conv => whnf); first | refine Then.mk ?_ | left | refine zg ?_ (hs) | refine zgg ?_ (hs) | refine zd ?_ | (refine Both.mk ?_ ?_ <;> intro hc <;> try exact wX hc) | (intro c hc; (try (simp only [AH.zA] at hc; repeat (have hn := hc.1; replace hc := hc.2)))) | (refine ACall.to (hs) ?_))) <;> (try (conv => whnf))
    exact ⟨_, by rw [hno]; simp, rfl, rfl⟩
  ·have : a.take i = a := List.take_of_length_le (by omega)
   rw [this] at hin
   (repeat' ((conv => whnf); first | refine Then.mk ?_ | left | refine zd ?_ | (refine Both.mk ?_ ?_ <;> intro hc <;> try exact wX hc) | (intro c hc; (try (simp only [AH.zA] at hc; repeat (have hn := hc.1; replace hc := hc.2)))))) <;> (try (conv => whnf))
   exact ⟨_, by rw [hin]; simp, rfl, rfl⟩
set_option maxRecDepth 8000 in
theorem any_c (m : Int) (hm : 0 ≤ m ∧ m ≤ 4611686018427387904) (a : List Int) (ha : a.length ≤ 1000000) (c : Nat) (H : AH) (hc : H c = some (.row [.int .i64 m] 0)) :
  ACall Tryz.prog 90 [.cs (iS .i64 a) a.length, .fn (.func 112) [] [.ptr c 0 0]] H (fun y H' => y = .bool (!inB m a) ∧ H' = H) := by
 refine zQ zU (dok _) Tryz.func90 rfl (by decide) rfl ?_
 (repeat' ((conv => whnf); first | refine Then.mk ?_ | left | refine zd ?_ | (refine Both.mk ?_ ?_ <;> intro hc <;> try exact wX hc) | (intro c hc; (try (simp only [AH.zA] at hc; repeat (have hn := hc.1; replace hc := hc.2)))))) <;> (try (conv => whnf))
 refine (index_c m hm a ha c H hc).mono ?_
 rintro y H' ⟨k, hk, rfl, rfl⟩
 cases hb : inB m a with
 | true =>
  have := hk.2 hb
  (repeat' ((conv => whnf); first | refine Then.mk ?_ | left | refine zd ?_ | (refine Both.mk ?_ ?_ <;> intro hc <;> try exact wX hc) | (intro c hc; (try (simp only [AH.zA] at hc; repeat (have hn := hc.1; replace hc := hc.2)))))) <;> (try (conv => whnf))
 | false =>
  have : ¬ k < 0 := fun h => by rw [hk.1 h] at hb; cases hb
  (repeat' ((conv => whnf); first | refine Then.mk ?_ | left | refine zd ?_ | (refine Both.mk ?_ ?_ <;> intro hc <;> try exact wX hc) | (intro c hc; (try (simp only [AH.zA] at hc; repeat (have hn := hc.1; replace hc := hc.2)))))) <;> (try (conv => whnf))
set_option maxRecDepth 8000 in
theorem within_c (m : Int) (hm : 0 ≤ m ∧ m ≤ 4611686018427387904) (a : List Int) (ha : a.length ≤ 1000000) (H : AH) :
  ACall Tryz.prog 81 [.cs (iS .i64 a) a.length, .int .i64 m] H (fun y H' => y = .bool (inB m a) ∧ H' = H) := by
 refine ACall.back ?_
 refine zQ zU (dok _) Tryz.func81 rfl (by decide) rfl ?_
 (repeat' ((conv => whnf); first | refine Then.mk ?_ | left | refine zd ?_ | (refine Both.mk ?_ ?_ <;> intro hc <;> try exact wX hc) | (intro c hc; (try (simp only [AH.zA] at hc; repeat (have hn := hc.1; replace hc := hc.2)))))) <;> (try (conv => whnf))
 have hc0 : H c = none := by assumption
 refine (any_c m hm a ha c _ (AH.zC _ _ _)).mono ?_
 rintro y H' ⟨rfl, rfl⟩
 (repeat' ((conv => whnf); first | refine Then.mk ?_ | left | refine zd ?_ | (refine Both.mk ?_ ?_ <;> intro hc <;> try exact wX hc) | (intro c hc; (try (simp only [AH.zA] at hc; repeat (have hn := hc.1; replace hc := hc.2)))))) <;> (try (conv => whnf))
 exact HLe.fresh _ hc0
set_option maxRecDepth 8000 in
theorem sides_c (n : Int) (h1 : -9223372036854775808 ≤ n) (h2 : n ≤ 9223372036854775807) (H : AH) :
  ACall Tryz.prog 43 [.int .i64 n] H (fun y H' => y = .bool (decide (n = 1 ∨ n = 2 ∨ n = 4 ∨ n = 8 ∨ n = 16)) ∧ H' = H) := by
 by_cases h : 0 < n ∧ n ≤ 16
 ·obtain ⟨k, rfl⟩ : ∃ k : Nat, n = k := ⟨n.toNat, by omega⟩
  have key : ∀ k : Fin 17, 0 < k.val → (bitsA .and .i64 (k.val : Int) ((k.val : Int) - 1) = 0 ↔ ((k.val : Int) = 1 ∨ (k.val : Int) = 2 ∨ (k.val : Int) = 4 ∨ (k.val : Int) = 8 ∨ (k.val : Int) = 16)) := by decide +kernel
  have key := key ⟨k, by omega⟩ (by show 0 < k; omega)
  dsimp only at key
  by_cases hs : ((k : Int) = 1 ∨ (k : Int) = 2 ∨ (k : Int) = 4 ∨ (k : Int) = 8 ∨ (k : Int) = 16)
  ·have hb := key.2 hs
   rw [decide_eq_true hs]
   refine zQ zU (dok _) Tryz.func43 rfl (by decide) rfl ?_
   (repeat' ((conv => whnf); first | refine Then.mk ?_ | left | refine zd ?_ | (refine Both.mk ?_ ?_ <;> intro hc <;> try exact wX hc) | (intro c hc; (try (simp only [AH.zA] at hc; repeat (have hn := hc.1; replace hc := hc.2)))))) <;> (try (conv => whnf))
  ·have hb : ¬ bitsA .and .i64 (k : Int) ((k : Int) - 1) = 0 := fun e => hs (key.1 e)
   rw [decide_eq_false hs]
   refine zQ zU (dok _) Tryz.func43 rfl (by decide) rfl ?_
   (repeat' ((conv => whnf); first | refine Then.mk ?_ | left | refine zd ?_ | (refine Both.mk ?_ ?_ <;> intro hc <;> try exact wX hc) | (intro c hc; (try (simp only [AH.zA] at hc; repeat (have hn := hc.1; replace hc := hc.2)))))) <;> (try (conv => whnf))
 ·rw [decide_eq_false (by omega)]
  refine zQ zU (dok _) Tryz.func43 rfl (by decide) rfl ?_
  (repeat' ((conv => whnf); first | refine Then.mk ?_ | left | refine zd ?_ | (refine Both.mk ?_ ?_ <;> intro hc <;> try exact wX hc) | (intro c hc; (try (simp only [AH.zA] at hc; repeat (have hn := hc.1; replace hc := hc.2)))))) <;> (try (conv => whnf))
open Go.Fw Go
set_option maxRecDepth 8000 in
theorem split_w (n : Nat) (hn : n ≤ 4096) (h2 : n % 2 = 0) (X : Ln) (hX : ∀ c, c < n → -2305843009213693952 ≤ X c ∧ X c ≤ 2305843009213693952) (cells : List AV) (q u off : Nat) (lim : Option Nat) (H : AH) (hq : H q = some (.row cells u)) (hg : ∀ i, i < n → cells[off + i]? = some (.int .i64 (X i))) :
  ACall Tryz.prog 48 [.sl q u 1 off n lim] H (fun y H' => y = .cs (iL n (spl n X)) n ∧ H' = H) := by
 refine ACall.coldX (es := 1) (Q := fun H' => H' = H) (by rw [iL_len]; omega) ?_
 have hdiv : (n : Int).tdiv 2 = ((n / 2 : Nat) : Int) := by rw [Int.tdiv_eq_ediv_of_nonneg (by omega)]; omega
 refine zQ zU (dok _) Tryz.func48 rfl (by decide) rfl ?_
 (repeat' ((conv => whnf); first | refine Then.mk ?_ | left | refine zd ?_ | (refine Both.mk ?_ ?_ <;> intro hc <;> try exact wX hc) | (intro c hc; (try (simp only [AH.zA] at hc; repeat (have hn := hc.1; replace hc := hc.2)))))) <;> (try (conv => whnf))
 have hc0 : H c = none := by assumption
 obtain ⟨w, hw⟩ : ∃ w, w = c := ⟨_, rfl⟩
 rw [← hw] at hc0 ⊢
 clear hw
 refine zT (σ := Nat) (5 :: 6 :: 7 :: 15 :: 16 :: 17 :: 18 :: 19 :: 20 :: 21 :: 22 :: 23 :: 24 :: 25 :: 26 :: 27 :: 28 :: 29 :: 30 :: 31 :: 32 :: 33 :: 34 :: 35 :: 36 :: 37 :: 38 :: 39 :: 40 :: 41 :: 42 :: 43 :: 44 :: []) (fun i => [(15, .int .i64 i)]) (fun i => H.set w (.row (iL n (fun k => if k < i ∨ (n / 2 ≤ k ∧ k < n / 2 + i) then spl n X k else 0)) 0)) (fun i => i ≤ n / 2) (fun i => n / 2 - i) 0 rfl ?_ ?_ ?_ ?_
 ·exact Nat.zero_le _
 ·exact ⟨rfl, trivial⟩
 ·refine HLe.of_eq (congrArg (fun l => H.set w (.row l 0)) ?_)
  refine Eq.trans (iL_congr fun k hk => ?_) (iL_zero n).symm
  rw [if_neg (by omega)]
 ·rintro i hi
  refine AWp.of zU (dok _) rfl ?_
  by_cases h : i < n / 2
  ·have k1 : cells[off + (2 * (i : Int)).toNat]? = some (.int .i64 (X (2 * i))) := by rw [show (2 * (i : Int)).toNat = 2 * i by omega]; exact hg _ (by omega)
   have k2 : cells[off + (2 * (i : Int) + 1).toNat]? = some (.int .i64 (X (2 * i + 1))) := by rw [show (2 * (i : Int) + 1).toNat = 2 * i + 1 by omega]; exact hg _ (by omega)
   have b1 := hX (2 * i) (by omega)
   have b2 := hX (2 * i + 1) (by omega)
   have hh := fun H => half_c (X (2 * i) + X (2 * i + 1)) H
   have hl : ∀ Y : Ln, (iL n Y).length = n := fun Y => iL_len n Y
   (repeat' ((conv => whnf); first | refine Then.mk ?_ | left | refine zg ?_ (hh _) | refine zgg ?_ (hh _) | refine zd ?_ | (refine Both.mk ?_ ?_ <;> intro hc <;> try exact wX hc) | (intro c hc; (try (simp only [AH.zA] at hc; repeat (have hn := hc.1; replace hc := hc.2)))) | (refine ACall.to (hh _) ?_))) <;> (try (conv => whnf))
   refine ⟨i + 1, by omega, by omega, ⟨congrArg (AV.int .i64) (by omega), trivial⟩, HLe.of_eq (Eq.symm ((AH.zS _ _ _ _).trans ((AH.zS _ _ _ _).trans ?_)))⟩
   refine congrArg (fun l => H.set w (.row l 0)) ?_
   show wrA (wrA (iL n _) (0 + (i : Int).toNat * 1) [AV.int .i64 ((X (2 * i) + X (2 * i + 1)) / 2)]) (0 + ((n : Int).tdiv 2 + (i : Int)).toNat * 1) [AV.int .i64 (X (2 * i) - X (2 * i + 1))] = _
   rw [show (0 + (i : Int).toNat * 1) = i by omega, show (0 + ((n : Int).tdiv 2 + (i : Int)).toNat * 1) = n / 2 + i by omega, iL_wr _ (by omega), iL_wr _ (by omega)]
   refine iL_congr fun k hk => ?_
   by_cases e1 : k = n / 2 + i
   ·subst e1
    rw [if_pos rfl, if_pos (by omega)]
    unfold spl
    rw [if_neg (by omega), show n / 2 + i - n / 2 = i by omega]
   ·rw [if_neg e1]
    by_cases e2 : k = i
    ·subst e2
     rw [if_pos rfl, if_pos (by omega)]
     unfold spl
     rw [if_pos h]
    ·rw [if_neg e2]
     by_cases e3 : k < i ∨ (n / 2 ≤ k ∧ k < n / 2 + i)
     ·rw [if_pos e3, if_pos (by omega)]
     ·rw [if_neg e3, if_neg (by omega)]
  ·have he : i = n / 2 := by omega
   subst he
   (repeat' ((conv => whnf); first | refine Then.mk ?_ | refine zd ?_ | (refine Both.mk ?_ ?_ <;> intro hc <;> try exact wX hc) | (intro c hc; (try (simp only [AH.zA] at hc; repeat (have hn := hc.1; replace hc := hc.2)))))) <;> (try (conv => whnf))
   exact .inr ⟨w, hc0, 0, rfl, congrArg (fun l => H.set w (.row l 0)) (iL_congr fun k hk => if_pos (by omega))⟩
set_option maxRecDepth 8000 in
theorem join_w (n : Nat) (hn : n ≤ 4096) (h2 : n % 2 = 0) (X : Ln) (hX : ∀ c, c < n → -1152921504606846976 ≤ X c ∧ X c ≤ 1152921504606846976) (cells : List AV) (q u off : Nat) (lim : Option Nat) (H : AH) (hq : H q = some (.row cells u)) (hg : ∀ i, i < n → cells[off + i]? = some (.int .i64 (X i))) :
  ACall Tryz.prog 113 [.sl q u 1 off n lim] H (fun y H' => y = .cs (iL n (joi n X)) n ∧ H' = H) := by
 refine ACall.coldX (es := 1) (Q := fun H' => H' = H) (by rw [iL_len]; omega) ?_
 have hdiv : (n : Int).tdiv 2 = ((n / 2 : Nat) : Int) := by rw [Int.tdiv_eq_ediv_of_nonneg (by omega)]; omega
 refine zQ zU (dok _) Tryz.func113 rfl (by decide) rfl ?_
 (repeat' ((conv => whnf); first | refine Then.mk ?_ | left | refine zd ?_ | (refine Both.mk ?_ ?_ <;> intro hc <;> try exact wX hc) | (intro c hc; (try (simp only [AH.zA] at hc; repeat (have hn := hc.1; replace hc := hc.2)))))) <;> (try (conv => whnf))
 have hc0 : H c = none := by assumption
 obtain ⟨w, hw⟩ : ∃ w, w = c := ⟨_, rfl⟩
 rw [← hw] at hc0 ⊢
 clear hw
 refine zT (σ := Nat) (5 :: 6 :: 14 :: 15 :: 16 :: 17 :: 18 :: 19 :: 20 :: 21 :: 22 :: 23 :: 24 :: 25 :: 26 :: 27 :: 28 :: 29 :: 30 :: 31 :: 32 :: 33 :: 34 :: 35 :: 36 :: 37 :: 38 :: 39 :: 40 :: 41 :: 42 :: 43 :: 44 :: 45 :: 46 :: 47 :: 48 :: []) (fun i => [(14, .int .i64 i)]) (fun i => H.set w (.row (iL n (fun k => if k < 2 * i then joi n X k else 0)) 0)) (fun i => i ≤ n / 2) (fun i => n / 2 - i) 0 rfl ?_ ?_ ?_ ?_
 ·exact Nat.zero_le _
 ·exact ⟨rfl, trivial⟩
 ·refine HLe.of_eq (congrArg (fun l => H.set w (.row l 0)) ?_)
  refine Eq.trans (iL_congr fun k hk => ?_) (iL_zero n).symm
  rw [if_neg (by omega)]
 ·rintro i hi
  refine AWp.of zU (dok _) rfl ?_
  by_cases h : i < n / 2
  ·have k1 : cells[off + (i : Int).toNat]? = some (.int .i64 (X i)) := by rw [Int.toNat_natCast]; exact hg _ (by omega)
   have k2 : cells[off + ((n : Int).tdiv 2 + (i : Int)).toNat]? = some (.int .i64 (X (n / 2 + i))) := by rw [show ((n : Int).tdiv 2 + (i : Int)).toNat = n / 2 + i by omega]; exact hg _ (by omega)
   have b1 := hX i (by omega)
   have b2 := hX (n / 2 + i) (by omega)
   have hh := fun H => half_c (X (n / 2 + i) + 1) H
   have hl : ∀ Y : Ln, (iL n Y).length = n := fun Y => iL_len n Y
   (repeat' ((conv => whnf); first | refine Then.mk ?_ | left | refine zg ?_ (hh _) | refine zgg ?_ (hh _) | refine zd ?_ | (refine Both.mk ?_ ?_ <;> intro hc <;> try exact wX hc) | (intro c hc; (try (simp only [AH.zA] at hc; repeat (have hn := hc.1; replace hc := hc.2)))) | (refine ACall.to (hh _) ?_))) <;> (try (conv => whnf))
   refine ⟨i + 1, by omega, by omega, ⟨congrArg (AV.int .i64) (by omega), trivial⟩, HLe.of_eq (Eq.symm ((AH.zS _ _ _ _).trans ((AH.zS _ _ _ _).trans ?_)))⟩
   refine congrArg (fun l => H.set w (.row l 0)) ?_
   show wrA (wrA (iL n _) (0 + (2 * (i : Int)).toNat * 1) [AV.int .i64 (X i + (X (n / 2 + i) + 1) / 2)]) (0 + (2 * (i : Int) + 1).toNat * 1) [AV.int .i64 (X i + (X (n / 2 + i) + 1) / 2 - X (n / 2 + i))] = _
   rw [show (0 + (2 * (i : Int)).toNat * 1) = 2 * i by omega, show (0 + (2 * (i : Int) + 1).toNat * 1) = 2 * i + 1 by omega, iL_wr _ (by omega), iL_wr _ (by omega)]
   refine iL_congr fun k hk => ?_
   by_cases e1 : k = 2 * i + 1
   ·subst e1
    rw [if_pos rfl, if_pos (by omega)]
    unfold joi
    rw [if_neg (by omega), show (2 * i + 1) / 2 = i by omega]
   ·rw [if_neg e1]
    by_cases e2 : k = 2 * i
    ·subst e2
     rw [if_pos rfl, if_pos (by omega)]
     unfold joi
     rw [if_pos (by omega), show 2 * i / 2 = i by omega]
    ·rw [if_neg e2]
     by_cases e3 : k < 2 * i
     ·rw [if_pos e3, if_pos (by omega)]
     ·rw [if_neg e3, if_neg (by omega)]
  ·have he : i = n / 2 := by omega
   subst he
   (repeat' ((conv => whnf); first | refine Then.mk ?_ | refine zd ?_ | (refine Both.mk ?_ ?_ <;> intro hc <;> try exact wX hc) | (intro c hc; (try (simp only [AH.zA] at hc; repeat (have hn := hc.1; replace hc := hc.2)))))) <;> (try (conv => whnf))
   exact .inr ⟨w, hc0, 0, rfl, congrArg (fun l => H.set w (.row l 0)) (iL_congr fun k hk => if_pos (by omega))⟩
def resV (R : List Int × Int) : AV := .tup [.cs (iS .i64 R.1) R.1.length, .int .i64 R.2]
theorem inB_getD {m : Int} {a : List Int} (hm : 0 ≤ m) (h : inB m a = true) (c : Nat) : -m ≤ a.getD c 0 ∧ a.getD c 0 ≤ m := by
 by_cases hc : c < a.length
 ·have : a.getD c 0 = a[c] := by simp [hc]
  rw [this]; exact inB_iff.1 h _ (List.getElem_mem hc)
 ·rw [List.getD_eq_getElem?_getD, List.getElem?_eq_none (by omega)]; simp; omega
theorem res_told {H : AH} {e : Int} {R : List Int × Int} (h : R = ([], e)) : ∃ y' H2, AVle (.tup [.nils, .int .i64 e]) y' ∧ HLe H2 H ∧ y' = resV R ∧ H2 = H :=
 ⟨resV R, H, by rw [h]; exact AVle.tup (AVles.cons AVle.nils (AVles.refl _)), HLe.refl _, rfl, rfl⟩
open Go.Fw Go
def mL (s : Nat) (M : Mat) : List AV := iS .i64 (toL s M)
@[simp] theorem mL_len (s : Nat) (M : Mat) : (mL s M).length = s * s := by simp [mL, toL_len]
theorem mL_get {s : Nat} (M : Mat) {r c : Nat} (hr : r < s) (hc : c < s) : (mL s M)[r * s + c]? = some (.int .i64 (M r c)) := by
 unfold mL iS
 rw [List.getElem?_map, toL_get M hr hc]; rfl
theorem mL_put {s n i : Nat} (M : Mat) (x : Ln) (hi : i < s) (hn : n ≤ s) : wrA (mL s M) (i * s) (iL n x) = mL s (fun r c => if r = i ∧ c < n then x c else M r c) := by
 unfold wrA mL iL
 rw [← toL_put M x hi hn, iS_length, lnL_len, iS_take, iS_drop, iS_append, iS_append]
theorem mL_set {s : Nat} (M : Mat) {r c : Nat} (hr : r < s) (hc : c < s) (v : Int) : wrA (mL s M) (r * s + c) [.int .i64 v] = mL s (updM M r c v) := by
 unfold mL
 rw [iS_wr (by rw [toL_len]; exact (place hr hc).1), toL_set M hr hc]
structure LnF (g : FuncId) (f : Nat → Ln → Ln) (n : Nat) (B : Int) : Prop where
 w : ∀ (X : Ln), (∀ c, c < n → -B ≤ X c ∧ X c ≤ B) → ∀ (cells : List AV) (q u off : Nat) (lim : Option Nat) (H : AH), H q = some (.row cells u) → (∀ i, i < n → cells[off + i]? = some (.int .i64 (X i))) →
  ACall Tryz.prog g [.sl q u 1 off n lim] H (fun y H' => y = .cs (iL n (f n X)) n ∧ H' = H)
set_option maxRecDepth 8000 in
theorem rows_c {g : FuncId} {f : Nat → Ln → Ln} {s n : Nat} {B : Int} (hs : s ≤ 16) (hn : n ≤ s) (hf : LnF g f n B) (M : Mat) (hM : ∀ r c, r < s → c < s → -B ≤ M r c ∧ M r c ≤ B) (q u : Nat) (H : AH) (hq : H q = some (.row (mL s M) u)) :
  ACall Tryz.prog 46 [.agg [.int .i64 s, .sl q u 1 0 (s * s) none], .int .i64 n, .fn (.func g) [] []] H (fun y H' => y = .tup [] ∧ H' = H.set q (.row (mL s (rowsM f n M)) u)) := by
 refine ACall.told ?_
 refine zQ zU (dok _) Tryz.func46 rfl (by decide) rfl ?_
 (repeat' ((conv => whnf); first | refine Then.mk ?_ | left | refine zd ?_ | (refine Both.mk ?_ ?_ <;> intro hc <;> try exact wX hc) | (intro c hc; (try (simp only [AH.zA] at hc; repeat (have hn := hc.1; replace hc := hc.2)))))) <;> (try (conv => whnf))
 have hc0 : H c = none := by assumption
 have hcq : q ≠ c := AH.ne_none hc0 hq
 obtain ⟨w, hw⟩ : ∃ w, w = c := ⟨_, rfl⟩
 rw [← hw] at hc0 hcq ⊢
 clear hw
 refine zT (σ := Nat) (6 :: 7 :: 9 :: 10 :: 11 :: 12 :: 13 :: 14 :: 15 :: 16 :: 17 :: 18 :: 19 :: 20 :: 21 :: 22 :: 23 :: 24 :: 25 :: 26 :: 27 :: 28 :: 29 :: 30 :: []) (fun i => [(9, .int .i64 i)]) (fun i => (AH.set H w (.row [.int .i64 s, .sl q u 1 0 (s * s) none] 0)).set q (.row (mL s (rowsI f n i M)) u)) (fun i => i ≤ n) (fun i => n - i) 0 rfl ?_ ?_ ?_ ?_
 ·exact Nat.zero_le _
 ·exact ⟨rfl, trivial⟩
 ·refine HLe.of_eq (AH.set_id ?_)
  rw [AH.zR _ _ hcq, hq]
  refine congrArg (fun l => some (AO.row (iS .i64 l) u)) (toL_congr fun r c _ _ => ?_)
  unfold rowsI
  rw [if_neg (by omega)]
 ·rintro i hi
  refine AWp.of zU (dok _) rfl ?_
  by_cases h : i < n
  ·have p1 : 0 ≤ (i : Int) * s := Int.mul_nonneg (by omega) (by omega)
   have p2 : (i : Int) * s + n ≤ ((s * s : Nat) : Int) := by
    have : (i + 1) * s ≤ s * s := Nat.mul_le_mul_right _ (by omega)
    rw [Nat.add_mul] at this
    rw [← Int.natCast_mul]; omega
   have p3 : s * s ≤ 256 := Nat.mul_le_mul hs hs
   have p4 : ((i : Int) * s).toNat = i * s := by rw [← Int.natCast_mul]; rfl
   have e1 : ((i : Int) * s + n).toNat - ((i : Int) * s).toNat = n := by omega
   have hl := mL_len s (rowsI f n i M)
   (repeat' ((conv => whnf); first | refine Then.mk ?_ | left | refine zd ?_ | (refine Both.mk ?_ ?_ <;> intro hc <;> try exact wX hc) | (intro c hc; (try (simp only [AH.zA] at hc; repeat (have hn := hc.1; replace hc := hc.2)))))) <;> (try (conv => whnf))
   have e2 : 0 + ((i : Int) * s).toNat * 1 = i * s := by omega
   rw [e1, e2]
   refine ACall.to (hf.w (M i) (fun c hc => hM i c (by omega) (by omega)) (mL s (rowsI f n i M)) q u (i * s) none _ (AH.zC _ _ _) (fun c hc => ?_)) ?_
   ·rw [mL_get _ (by omega) (by omega)]
    unfold rowsI
    rw [if_neg (by omega)]
   (repeat' ((conv => whnf); first | refine Then.mk ?_ | left | refine zd ?_ | (refine Both.mk ?_ ?_ <;> intro hc <;> try exact wX hc) | (intro c hc; (try (simp only [AH.zA] at hc; repeat (have hn := hc.1; replace hc := hc.2)))))) <;> (try (conv => whnf))
   refine ⟨i + 1, by omega, by omega, ⟨congrArg (AV.int .i64) (by omega), trivial⟩, HLe.of_eq (Eq.symm ((AH.zS _ _ _ _).trans ?_))⟩
   refine congrArg (fun l => AH.set (AH.set H w _) q (.row l u)) ?_
   show wrA (mL s (rowsI f n i M)) (i * s) (List.take (Nat.min n n * 1) (iL n (f n (M i)))) = _
   rw [show Nat.min n n = n from Nat.min_self n, List.take_of_length_le (by simp), mL_put _ _ (by omega) hn]
   refine congrArg (iS .i64) (toL_congr fun r c hr hc => ?_)
   unfold rowsI
   by_cases c1 : r = i ∧ c < n
   ·rw [if_pos c1, if_pos (by omega), c1.1]
   ·rw [if_neg c1]
    by_cases c2 : r < i ∧ c < n
    ·rw [if_pos c2, if_pos (by omega)]
    ·rw [if_neg c2, if_neg (by omega)]
  ·have he : i = n := by omega
   subst he
   (repeat' ((conv => whnf); first | refine Then.mk ?_ | refine zd ?_ | (refine Both.mk ?_ ?_ <;> intro hc <;> try exact wX hc) | (intro c hc; (try (simp only [AH.zA] at hc; repeat (have hn := hc.1; replace hc := hc.2)))))) <;> (try (conv => whnf))
   exact ⟨_, _, AVle.refl _, HLe.set (HLe.fresh _ hc0) _ _, rfl, rfl⟩
set_option maxRecDepth 8000 in
theorem columns_c {g : FuncId} {f : Nat → Ln → Ln} {s n : Nat} {B : Int} (hs : s ≤ 16) (hn : n ≤ s) (hf : LnF g f n B) (M : Mat) (hM : ∀ r c, r < s → c < s → -B ≤ M r c ∧ M r c ≤ B) (q u : Nat) (H : AH) (hq : H q = some (.row (mL s M) u)) :
  ACall Tryz.prog 47 [.agg [.int .i64 s, .sl q u 1 0 (s * s) none], .int .i64 n, .fn (.func g) [] []] H (fun y H' => y = .tup [] ∧ H' = H.set q (.row (mL s (colsM f n M)) u)) := by
 refine ACall.told ?_
 have hss : s * s ≤ 256 := Nat.mul_le_mul hs hs
 refine zQ zU (dok _) Tryz.func47 rfl (by decide) rfl ?_
 (repeat' ((conv => whnf); first | refine Then.mk ?_ | left | refine zd ?_ | (refine Both.mk ?_ ?_ <;> intro hc <;> try exact wX hc) | (intro c hc; (try (simp only [AH.zA] at hc; repeat (have hn := hc.1; replace hc := hc.2)))))) <;> (try (conv => whnf))
 have hcc : H c = none := by assumption
 have hqc : q ≠ c := AH.ne_none hcc hq
 obtain ⟨t, ht⟩ : ∃ t, t = c := ⟨_, rfl⟩
 rw [← ht] at hcc hqc ⊢
 rename_i w0 hw0
 have hww : H w0 = none := by assumption
 have hqw : q ≠ w0 := AH.ne_none hww hq
 have htw : t ≠ w0 := by rw [ht]; assumption
 obtain ⟨w, hw⟩ : ∃ w, w = w0 := ⟨_, rfl⟩
 rw [← hw] at hww hqw htw ⊢
 clear ht hw
 refine zT (σ := Nat × Ln) (7 :: 8 :: 9 :: 10 :: 14 :: 15 :: 16 :: 17 :: 18 :: 19 :: 20 :: 21 :: 22 :: 23 :: 24 :: 25 :: 26 :: 27 :: 28 :: 29 :: 30 :: 31 :: 32 :: 33 :: 34 :: 35 :: 36 :: 37 :: 38 :: 39 :: 40 :: 41 :: 42 :: 43 :: 44 :: 45 :: 46 :: 47 :: 48 :: 49 :: 50 :: 51 :: 52 :: 53 :: 54 :: 55 :: []) (fun (k, Y) => [(14, .int .i64 k)]) (fun (k, Y) => ((AH.set H w (.row [.int .i64 s, .sl q u 1 0 (s * s) none] 0)).set t (.row (iL n Y) 0)).set q (.row (mL s (colsI f n k M)) u)) (fun (k, Y) => k ≤ n) (fun (k, Y) => n - k) (0, fun _ => 0) rfl ?_ ?_ ?_ ?_
 ·exact Nat.zero_le _
 ·exact ⟨rfl, trivial⟩
 ·refine HLe.of_eq ?_
  have e : mL s (colsI f n 0 M) = mL s M := congrArg (iS .i64) (toL_congr fun r c _ _ => by unfold colsI; rw [if_neg (by omega)])
  show ((AH.set H w (.row [.int .i64 s, .sl q u 1 0 (s * s) none] 0)).set t (.row (iL n fun _ => 0) 0)).set q (.row (mL s (colsI f n 0 M)) u) = _
  rw [e, ← iL_zero]
  refine AH.set_id ?_
  rw [AH.zR _ _ hqc, AH.zR _ _ hqw, hq]
 ·rintro ⟨k, Y⟩ hk
  dsimp only at hk ⊢
  refine AWp.of zU (dok _) rfl ?_
  by_cases h : k < n
  ·(repeat' ((conv => whnf); first | refine Then.mk ?_ | left | refine zd ?_ | (refine Both.mk ?_ ?_ <;> intro hc <;> try exact wX hc) | (intro c hc; (try (simp only [AH.zA] at hc; repeat (have hn := hc.1; replace hc := hc.2)))))) <;> (try (conv => whnf))
   obtain ⟨G, hG⟩ : ∃ G, G = ((AH.set H w (.row [.int .i64 s, .sl q u 1 0 (s * s) none] 0)).set t (.row (iL n Y) 0)).set q (.row (mL s (colsI f n k M)) u) := ⟨_, rfl⟩
   have gw : G w = some (.row [.int .i64 s, .sl q u 1 0 (s * s) none] 0) := by rw [hG]; (first | (focus (repeat (first | (with_reducible assumption) | (with_reducible exact AH.zC _ _ _) | ((first | refine AH.zL ?_ ?_ | refine AH.getd_ne ?_ ?_); (first | (with_reducible assumption) | exact Ne.symm (by with_reducible assumption) | exact AH.ne_none (by with_reducible assumption) (by with_reducible assumption) | exact AH.none_ne (by with_reducible assumption) (by with_reducible assumption))))); done) | (focus (repeat (first | assumption | exact AH.zC _ _ _ | ((first | refine AH.zL ?_ ?_ | refine AH.getd_ne ?_ ?_); (first | assumption | omega | exact Ne.symm (by assumption) | exact AH.ne_none (by assumption) (by assumption) | exact AH.none_ne (by assumption) (by assumption) | exact (AH.none_set (by assumption)).1 | exact Ne.symm (AH.none_set (by assumption)).1)))); done))
   have gt : G t = some (.row (iL n Y) 0) := by rw [hG]; (first | (focus (repeat (first | (with_reducible assumption) | (with_reducible exact AH.zC _ _ _) | ((first | refine AH.zL ?_ ?_ | refine AH.getd_ne ?_ ?_); (first | (with_reducible assumption) | exact Ne.symm (by with_reducible assumption) | exact AH.ne_none (by with_reducible assumption) (by with_reducible assumption) | exact AH.none_ne (by with_reducible assumption) (by with_reducible assumption))))); done) | (focus (repeat (first | assumption | exact AH.zC _ _ _ | ((first | refine AH.zL ?_ ?_ | refine AH.getd_ne ?_ ?_); (first | assumption | omega | exact Ne.symm (by assumption) | exact AH.ne_none (by assumption) (by assumption) | exact AH.none_ne (by assumption) (by assumption) | exact (AH.none_set (by assumption)).1 | exact Ne.symm (AH.none_set (by assumption)).1)))); done))
   have gq : G q = some (.row (mL s (colsI f n k M)) u) := by rw [hG]; (first | (focus (repeat (first | (with_reducible assumption) | (with_reducible exact AH.zC _ _ _) | ((first | refine AH.zL ?_ ?_ | refine AH.getd_ne ?_ ?_); (first | (with_reducible assumption) | exact Ne.symm (by with_reducible assumption) | exact AH.ne_none (by with_reducible assumption) (by with_reducible assumption) | exact AH.none_ne (by with_reducible assumption) (by with_reducible assumption))))); done) | (focus (repeat (first | assumption | exact AH.zC _ _ _ | ((first | refine AH.zL ?_ ?_ | refine AH.getd_ne ?_ ?_); (first | assumption | omega | exact Ne.symm (by assumption) | exact AH.ne_none (by assumption) (by assumption) | exact AH.none_ne (by assumption) (by assumption) | exact (AH.none_set (by assumption)).1 | exact Ne.symm (AH.none_set (by assumption)).1)))); done))
   rw [← hG]
   have tq : t ≠ q := Ne.symm hqc
   have wt : w ≠ t := Ne.symm htw
   refine zT (σ := Nat) (8 :: 18 :: 19 :: 20 :: 21 :: 22 :: 23 :: 24 :: 25 :: 26 :: 27 :: 28 :: 29 :: 30 :: 31 :: 32 :: 33 :: 34 :: []) (fun i => [(18, .int .i64 i)]) (fun i => G.set t (.row (iL n (fun j => if j < i then M j k else Y j)) 0)) (fun i => i ≤ n) (fun i => n - i) 0 rfl ?_ ?_ ?_ ?_
   ·exact Nat.zero_le _
   ·exact ⟨rfl, trivial⟩
   ·refine HLe.of_eq (AH.set_id ?_)
    rw [gt]
    refine congrArg (fun l => some (AO.row l 0)) (iL_congr fun j hj => ?_)
    rw [if_neg (by omega)]
   ·rintro i hi
    refine AWp.of zU (dok _) rfl ?_
    by_cases h2 : i < n
    ·have p1 : 0 ≤ (i : Int) * s := Int.mul_nonneg (by omega) (by omega)
     have p2 : (i : Int) * s + k < ((s * s : Nat) : Int) := by
      have := (place (s := s) (r := i) (c := k) (by omega) (by omega)).1
      rw [← Int.natCast_mul]; omega
     have e3 : ((i : Int) * s + k).toNat = i * s + k := by rw [← Int.natCast_mul]; omega
     have g1 : (mL s (colsI f n k M))[((i : Int) * s + k).toNat]? = some (.int .i64 (M i k)) := by
      rw [e3, mL_get _ (by omega) (by omega)]
      unfold colsI
      rw [if_neg (by omega)]
     obtain ⟨cells, hce⟩ : ∃ cells, cells = mL s (colsI f n k M) := ⟨_, rfl⟩
     rw [← hce] at gq g1
     have hl := mL_len s (colsI f n k M)
     rw [← hce] at hl
     (repeat' ((conv => whnf); first | refine Then.mk ?_ | left | refine zd ?_ | (refine Both.mk ?_ ?_ <;> intro hc <;> try exact wX hc) | (intro c hc; (try (simp only [AH.zA] at hc; repeat (have hn := hc.1; replace hc := hc.2)))))) <;> (try (conv => whnf))
     refine ⟨i + 1, by omega, by omega, ⟨congrArg (AV.int .i64) (by omega), trivial⟩, HLe.of_eq (Eq.symm ((AH.zS _ _ _ _).trans ?_))⟩
     refine congrArg (fun l => AH.set G t (.row l 0)) ?_
     show wrA (iL n _) (0 + (i : Int).toNat * 1) [AV.int .i64 (M i k)] = _
     rw [show 0 + (i : Int).toNat * 1 = i by omega, iL_wr _ h2]
     refine iL_congr fun j hj => ?_
     by_cases c1 : j = i
     ·subst c1; rw [if_pos rfl, if_pos (by omega)]
     ·rw [if_neg c1]
      by_cases c2 : j < i
      ·rw [if_pos c2, if_pos (by omega)]
      ·rw [if_neg c2, if_neg (by omega)]
    ·have he : i = n := by omega
     have hY : iL n (fun j => if j < i then M j k else Y j) = iL n (fun j => M j k) := iL_congr fun j hj => if_pos (by omega)
     rw [hY]
     have hcall := hf.w (fun j => M j k) (fun c hc => hM c k (by omega) (by omega)) (iL n (fun j => M j k)) t 0 0 none (G.set t (.row (iL n (fun j => M j k)) 0)) (AH.zC _ _ _) (fun c hc => by rw [Nat.zero_add]; exact iL_get _ hc)
     obtain ⟨F, hF⟩ : ∃ F, F = f n (fun j => M j k) := ⟨_, rfl⟩
     rw [← hF] at hcall
     obtain ⟨cs, hcs⟩ : ∃ cs, cs = iL n F := ⟨_, rfl⟩
     have hcl : cs.length = n := by rw [hcs]; exact iL_len n F
     have hcg : ∀ j, j < n → cs[j]? = some (.int .i64 (F j)) := fun j hj => by rw [hcs]; exact iL_get F hj
     rw [← hcs] at hcall
     (repeat' ((conv => whnf); first | refine Then.mk ?_ | left | refine zg ?_ (hcall) | refine zgg ?_ (hcall) | refine zd ?_ | (refine Both.mk ?_ ?_ <;> intro hc <;> try exact wX hc) | (intro c hc; (try (simp only [AH.zA] at hc; repeat (have hn := hc.1; replace hc := hc.2)))) | (refine ACall.to (hcall) ?_))) <;> (try (conv => whnf))
     obtain ⟨D, hD⟩ : ∃ D, D = G.set t (.row (iL n (fun j => M j k)) 0) := ⟨_, rfl⟩
     have dw : D w = some (.row [.int .i64 s, .sl q u 1 0 (s * s) none] 0) := by rw [hD]; (first | (focus (repeat (first | (with_reducible assumption) | (with_reducible exact AH.zC _ _ _) | ((first | refine AH.zL ?_ ?_ | refine AH.getd_ne ?_ ?_); (first | (with_reducible assumption) | exact Ne.symm (by with_reducible assumption) | exact AH.ne_none (by with_reducible assumption) (by with_reducible assumption) | exact AH.none_ne (by with_reducible assumption) (by with_reducible assumption))))); done) | (focus (repeat (first | assumption | exact AH.zC _ _ _ | ((first | refine AH.zL ?_ ?_ | refine AH.getd_ne ?_ ?_); (first | assumption | omega | exact Ne.symm (by assumption) | exact AH.ne_none (by assumption) (by assumption) | exact AH.none_ne (by assumption) (by assumption) | exact (AH.none_set (by assumption)).1 | exact Ne.symm (AH.none_set (by assumption)).1)))); done))
     have dq : D q = some (.row (mL s (colsI f n k M)) u) := by rw [hD]; (first | (focus (repeat (first | (with_reducible assumption) | (with_reducible exact AH.zC _ _ _) | ((first | refine AH.zL ?_ ?_ | refine AH.getd_ne ?_ ?_); (first | (with_reducible assumption) | exact Ne.symm (by with_reducible assumption) | exact AH.ne_none (by with_reducible assumption) (by with_reducible assumption) | exact AH.none_ne (by with_reducible assumption) (by with_reducible assumption))))); done) | (focus (repeat (first | assumption | exact AH.zC _ _ _ | ((first | refine AH.zL ?_ ?_ | refine AH.getd_ne ?_ ?_); (first | assumption | omega | exact Ne.symm (by assumption) | exact AH.ne_none (by assumption) (by assumption) | exact AH.none_ne (by assumption) (by assumption) | exact (AH.none_set (by assumption)).1 | exact Ne.symm (AH.none_set (by assumption)).1)))); done))
     rw [← hD]
     refine zT (σ := Nat) (9 :: 10 :: 39 :: 40 :: 41 :: 42 :: 43 :: 44 :: 45 :: 46 :: 47 :: 48 :: 49 :: 50 :: 51 :: 52 :: 53 :: 54 :: []) (fun i => [(39, .int .i64 i)]) (fun i => D.set q (.row (mL s (fun r c => if c = k ∧ r < i then F r else colsI f n k M r c)) u)) (fun i => i ≤ n) (fun i => n - i) 0 rfl ?_ ?_ ?_ ?_
     ·exact Nat.zero_le _
     ·exact ⟨rfl, trivial⟩
     ·refine HLe.of_eq (AH.set_id ?_)
      rw [dq]
      refine congrArg (fun l => some (AO.row (iS .i64 l) u)) (toL_congr fun r c _ _ => ?_)
      rw [if_neg (by omega)]
     ·rintro i hi
      refine AWp.of zU (dok _) rfl ?_
      by_cases h2 : i < n
      ·have p1 : 0 ≤ (i : Int) * s := Int.mul_nonneg (by omega) (by omega)
       have p2 : (i : Int) * s + k < ((s * s : Nat) : Int) := by
        have := (place (s := s) (r := i) (c := k) (by omega) (by omega)).1
        rw [← Int.natCast_mul]; omega
       have e3 : ((i : Int) * s + k).toNat = i * s + k := by rw [← Int.natCast_mul]; omega
       have g1 := hcg i h2
       have g2 : cs[(i : Int).toNat]? = some (.int .i64 (F i)) := g1
       have hl := mL_len s (fun r c => if c = k ∧ r < i then F r else colsI f n k M r c)
       (repeat' ((conv => whnf); first | refine Then.mk ?_ | left | refine zd ?_ | (refine Both.mk ?_ ?_ <;> intro hc <;> try exact wX hc) | (intro c hc; (try (simp only [AH.zA] at hc; repeat (have hn := hc.1; replace hc := hc.2)))))) <;> (try (conv => whnf))
       refine ⟨i + 1, by omega, by omega, ⟨congrArg (AV.int .i64) (by omega), trivial⟩, HLe.of_eq (Eq.symm ((AH.zS _ _ _ _).trans ?_))⟩
       refine congrArg (fun l => AH.set D q (.row l u)) ?_
       show wrA (mL s _) (0 + ((i : Int) * s + k).toNat * 1) [AV.int .i64 (F i)] = _
       rw [show 0 + ((i : Int) * s + k).toNat * 1 = i * s + k by omega, mL_set _ (by omega) (by omega)]
       refine congrArg (iS .i64) (toL_congr fun r c hr hc => ?_)
       unfold updM
       by_cases c1 : r = i ∧ c = k
       ·rw [if_pos c1, if_pos (by omega), c1.1]
       ·rw [if_neg c1]
        dsimp only
        by_cases c2 : c = k ∧ r < i
        ·rw [if_pos c2, if_pos (by omega)]
        ·rw [if_neg c2, if_neg (by omega)]
      ·have he2 : i = n := by omega
       (repeat' ((conv => whnf); first | refine Then.mk ?_ | left | refine zd ?_ | (refine Both.mk ?_ ?_ <;> intro hc <;> try exact wX hc) | (intro c hc; (try (simp only [AH.zA] at hc; repeat (have hn := hc.1; replace hc := hc.2)))))) <;> (try (conv => whnf))
       refine ⟨(k + 1, fun j => M j k), by show k + 1 ≤ n; omega, by show n - (k + 1) < n - k; omega, ⟨congrArg (AV.int .i64) (by omega), trivial⟩, HLe.of_eq ?_⟩
       have e : mL s (fun r c => if c = k ∧ r < i then F r else colsI f n k M r c) = mL s (colsI f n (k + 1) M) := congrArg (iS .i64) (toL_congr fun r c hr hc => by
        rw [hF]
        unfold colsI
        by_cases c1 : c = k ∧ r < i
        ·rw [if_pos c1, if_pos (by omega), c1.1]
        ·rw [if_neg c1]
         by_cases c2 : r < n ∧ c < k
         ·rw [if_pos c2, if_pos (by omega)]
         ·rw [if_neg c2, if_neg (by omega)])
       rw [e, hD, hG]
       ((funext s; simp only [AH.set, AH.del]; repeat' split) <;> (first | rfl | (exfalso; omega)))
  ·have he : k = n := by omega
   subst he
   (repeat' ((conv => whnf); first | refine Then.mk ?_ | refine zd ?_ | (refine Both.mk ?_ ?_ <;> intro hc <;> try exact wX hc) | (intro c hc; (try (simp only [AH.zA] at hc; repeat (have hn := hc.1; replace hc := hc.2)))))) <;> (try (conv => whnf))
   exact ⟨_, _, AVle.refl _, HLe.set (HLe.set_of _ _ (HLe.fresh _ hww) hcc) _ _, rfl, rfl⟩
open Go.Fw Go
abbrev IsSide (n : Int) : Prop := n = 1 ∨ n = 2 ∨ n = 4 ∨ n = 8 ∨ n = 16
theorem side_pow {n : Int} (h : IsSide n) : ∃ k, k ≤ 4 ∧ n = ((2 ^ k : Nat) : Int) := by
 rcases h with h | h | h | h | h
 ·exact ⟨0, by omega, h⟩
 ·exact ⟨1, by omega, h⟩
 ·exact ⟨2, by omega, h⟩
 ·exact ⟨3, by omega, h⟩
 ·exact ⟨4, by omega, h⟩
theorem pow_side {k : Nat} (h : k ≤ 4) : IsSide ((2 ^ k : Nat) : Int) ∧ 2 ^ k ≤ 16 ∧ 1 ≤ 2 ^ k := by
 rcases (show k = 0 ∨ k = 1 ∨ k = 2 ∨ k = 3 ∨ k = 4 by omega) with rfl | rfl | rfl | rfl | rfl <;> simp [IsSide]
set_option maxRecDepth 8000 in
theorem clone_i (a : List Int) (hb : a.length ≤ 1000000) (H : AH) :
  ACall Tryz.prog 82 [.cs (iS .i64 a) a.length] H (fun y H' => ∃ q, H q = none ∧ ∃ u, y = .sl q u 1 0 a.length none ∧ H' = H.set q (.row (iS .i64 a) u)) := by
 refine ACall.warmN (es := 1) (by simp) ?_
 refine zQ zU (dok _) Tryz.func82 rfl (by decide) rfl ?_
 (repeat' ((conv => whnf); first | refine Then.mk ?_ | refine Or.inr (Or.inl ?_) | refine zd ?_ | (refine Both.mk ?_ ?_ <;> intro hc <;> try exact wX hc) | (intro c hc; (try (simp only [AH.zA] at hc; repeat (have hn := hc.1; replace hc := hc.2)))))) <;> (try (conv => whnf))
 ·exact .inl ⟨rfl, by assumption, rfl⟩
 ·refine .inr ⟨c, hc, 1, by simp only [Nat.zero_add], ?_⟩
  rw [AH.zS]
  simp
set_option maxRecDepth 8000 in
theorem start_bad (s : Int) (h1 : -9223372036854775808 ≤ s) (h2 : s ≤ 9223372036854775807) (a : List Int) (hb : a.length ≤ 1000000) (m : Int) (hs : ¬ (IsSide s ∧ (a.length : Int) = s * s)) (H : AH) :
  ACall Tryz.prog 45 [.int .i64 s, .cs (iS .i64 a) a.length, .int .i64 m] H (fun y H' => y = .tup [.agg [.int .i64 0, .nils], .int .i64 1] ∧ H' = H) := by
 have ss := fun H => sides_c s h1 h2 H
 refine ACall.back ?_
 by_cases h : IsSide s
 ·rw [decide_eq_true h] at ss
  obtain ⟨k, hk, rfl⟩ := side_pow h
  have := (pow_side hk).2
  have hm : ((2 ^ k : Nat) : Int) * ((2 ^ k : Nat) : Int) = ((2 ^ k * 2 ^ k : Nat) : Int) := (Int.natCast_mul _ _).symm
  have hmm : 2 ^ k * 2 ^ k ≤ 256 := Nat.mul_le_mul this.1 this.1
  generalize 2 ^ k = S at *
  refine zQ zU (dok _) Tryz.func45 rfl (by decide) rfl ?_
  (repeat' ((conv => whnf); first | refine Then.mk ?_ | left | refine zg ?_ (ss _) | refine zgg ?_ (ss _) | refine zd ?_ | (refine Both.mk ?_ ?_ <;> intro hc <;> try exact wX hc) | (intro c hc; (try (simp only [AH.zA] at hc; repeat (have hn := hc.1; replace hc := hc.2)))) | (refine ACall.to (ss _) ?_))) <;> (try (conv => whnf))
  have hc0 : H c = none := by assumption
  exact HLe.set_of _ _ (HLe.fresh _ hc0) hc0
 ·rw [decide_eq_false h] at ss
  refine zQ zU (dok _) Tryz.func45 rfl (by decide) rfl ?_
  (repeat' ((conv => whnf); first | refine Then.mk ?_ | left | refine zg ?_ (ss _) | refine zgg ?_ (ss _) | refine zd ?_ | (refine Both.mk ?_ ?_ <;> intro hc <;> try exact wX hc) | (intro c hc; (try (simp only [AH.zA] at hc; repeat (have hn := hc.1; replace hc := hc.2)))) | (refine ACall.to (ss _) ?_))) <;> (try (conv => whnf))
  have hc0 : H c = none := by assumption
  exact HLe.set_of _ _ (HLe.fresh _ hc0) hc0
set_option maxRecDepth 8000 in
theorem start_rng (k : Nat) (hk : k ≤ 4) (a : List Int) (m : Int) (hm : 0 ≤ m ∧ m ≤ 4611686018427387904) (hl : a.length = 2 ^ k * 2 ^ k) (hi : inB m a = false) (H : AH) :
  ACall Tryz.prog 45 [.int .i64 (2 ^ k : Nat), .cs (iS .i64 a) a.length, .int .i64 m] H (fun y H' => y = .tup [.agg [.int .i64 0, .nils], .int .i64 5] ∧ H' = H) := by
 have this := (pow_side hk).2
 have hsd := (pow_side hk).1
 generalize 2 ^ k = S at *
 have ss := fun H => sides_c S (by omega) (by omega) H
 rw [decide_eq_true hsd] at ss
 refine ACall.back ?_
 have hm2 : (S : Int) * S = ((S * S : Nat) : Int) := (Int.natCast_mul _ _).symm
 have hmm : S * S ≤ 256 := Nat.mul_le_mul this.1 this.1
 have hw := fun H => within_c m hm a (by omega) H
 rw [hi] at hw
 refine zQ zU (dok _) Tryz.func45 rfl (by decide) rfl ?_
 (repeat' ((conv => whnf); first | refine Then.mk ?_ | left | refine zg ?_ (ss _) | refine zg ?_ (hw _) | refine zgg ?_ (ss _) | refine zgg ?_ (hw _) | refine zd ?_ | (refine Both.mk ?_ ?_ <;> intro hc <;> try exact wX hc) | (intro c hc; (try (simp only [AH.zA] at hc; repeat (have hn := hc.1; replace hc := hc.2)))) | (refine ACall.to (ss _) ?_) | (refine ACall.to (hw _) ?_))) <;> (try (conv => whnf))
 have hc0 : H c = none := by assumption
 exact HLe.set_of _ _ (HLe.fresh _ hc0) hc0
set_option maxRecDepth 8000 in
theorem start_ok (k : Nat) (hk : k ≤ 4) (a : List Int) (m : Int) (hm : 0 ≤ m ∧ m ≤ 4611686018427387904) (hl : a.length = 2 ^ k * 2 ^ k) (hi : inB m a = true) (H : AH) :
  ACall Tryz.prog 45 [.int .i64 (2 ^ k : Nat), .cs (iS .i64 a) a.length, .int .i64 m] H (fun y H' => ∃ q u, y = .tup [.agg [.int .i64 (2 ^ k : Nat), .sl q u 1 0 a.length none], .int .i64 0] ∧ H q = none ∧ H' = H.set q (.row (iS .i64 a) u)) := by
 have this := (pow_side hk).2
 have hsd := (pow_side hk).1
 generalize 2 ^ k = S at *
 have ss := fun H => sides_c S (by omega) (by omega) H
 rw [decide_eq_true hsd] at ss
 refine ACall.told ?_
 have hm2 : (S : Int) * S = ((S * S : Nat) : Int) := (Int.natCast_mul _ _).symm
 have hmm : S * S ≤ 256 := Nat.mul_le_mul this.1 this.1
 have hw := fun H => within_c m hm a (by omega) H
 rw [hi] at hw
 refine zQ zU (dok _) Tryz.func45 rfl (by decide) rfl ?_
 (repeat' ((conv => whnf); first | refine Then.mk ?_ | left | refine zg ?_ (ss _) | refine zg ?_ (hw _) | refine zgg ?_ (ss _) | refine zgg ?_ (hw _) | refine zd ?_ | (refine Both.mk ?_ ?_ <;> intro hc <;> try exact wX hc) | (intro c hc; (try (simp only [AH.zA] at hc; repeat (have hn := hc.1; replace hc := hc.2)))) | (refine ACall.to (ss _) ?_) | (refine ACall.to (hw _) ?_))) <;> (try (conv => whnf))
 have hc0 : H c = none := by assumption
 refine (clone_i a (by omega) _).mono ?_
 rintro y H' ⟨q, hq, u, rfl, rfl⟩
 have hqc : q ≠ c := (AH.none_set hq).1
 have hq0 : H q = none := (AH.none_set hq).2
 (repeat' ((conv => whnf); first | refine Then.mk ?_ | left | refine zd ?_ | (refine Both.mk ?_ ?_ <;> intro hc <;> try exact wX hc) | (intro c hc; (try (simp only [AH.zA] at hc; repeat (have hn := hc.1; replace hc := hc.2)))))) <;> (try (conv => whnf))
 refine ⟨_, H.set q (.row (iS .i64 a) u), AVle.refl _, ?_, q, u, rfl, hq0, rfl⟩
 exact HLe.set_of _ _ (HLe.set (HLe.fresh _ hc0) q _) (AH.zA.2 ⟨Ne.symm hqc, hc0⟩)
def BndS (s : Nat) (B : Int) (M : Mat) : Prop := ∀ r c, r < s → c < s → -B ≤ M r c ∧ M r c ≤ B
theorem spl_bd {h : Nat} {x : Ln} {B : Int} (hx : ∀ c, c < 2 * h → -B ≤ x c ∧ x c ≤ B) (c : Nat) (hc : c < 2 * h) : -(2 * B) ≤ spl (2 * h) x c ∧ spl (2 * h) x c ≤ 2 * B := by
 unfold spl
 split
 ·have := hx (2 * c) (by omega); have := hx (2 * c + 1) (by omega); omega
 ·have := hx (2 * (c - 2 * h / 2)) (by omega); have := hx (2 * (c - 2 * h / 2) + 1) (by omega); omega
theorem joi_bd {h : Nat} {x : Ln} {B : Int} (hB : 1 ≤ B) (hx : ∀ c, c < 2 * h → -B ≤ x c ∧ x c ≤ B) (c : Nat) (hc : c < 2 * h) : -(4 * B) ≤ joi (2 * h) x c ∧ joi (2 * h) x c ≤ 4 * B := by
 unfold joi
 have := hx (c / 2) (by omega); have := hx (2 * h / 2 + c / 2) (by omega)
 split <;> omega
theorem rows_bd {f : Nat → Ln → Ln} {n s : Nat} {B C : Int} {M : Mat} (hn : n ≤ s) (hBC : B ≤ C) (hf : ∀ x : Ln, (∀ c, c < n → -B ≤ x c ∧ x c ≤ B) → ∀ c, c < n → -C ≤ f n x c ∧ f n x c ≤ C) (hM : BndS s B M) : BndS s C (rowsM f n M) := by
 intro r c hr hc
 unfold rowsM
 split
 ·rename_i h; exact hf _ (fun c hc => hM r c hr (by omega)) c h.2
 ·have := hM r c hr hc; omega
theorem cols_bd {f : Nat → Ln → Ln} {n s : Nat} {B C : Int} {M : Mat} (hn : n ≤ s) (hBC : B ≤ C) (hf : ∀ x : Ln, (∀ c, c < n → -B ≤ x c ∧ x c ≤ B) → ∀ c, c < n → -C ≤ f n x c ∧ f n x c ≤ C) (hM : BndS s B M) : BndS s C (colsM f n M) := by
 intro r c hr hc
 unfold colsM
 split
 ·rename_i h; exact hf _ (fun k hk => hM k c (by omega) hc) r h.1
 ·have := hM r c hr hc; omega
theorem split_f (h : Nat) (hh : 2 * h ≤ 16) (B : Int) (hB : B ≤ 2305843009213693952) : LnF 48 spl (2 * h) B :=
 ⟨fun X hX cells q u off lim H hq hg => split_w (2 * h) (by omega) (by omega) X (fun c hc => by have := hX c hc; omega) cells q u off lim H hq hg⟩
theorem join_f (h : Nat) (hh : 2 * h ≤ 16) (B : Int) (hB : B ≤ 1152921504606846976) : LnF 113 joi (2 * h) B :=
 ⟨fun X hX cells q u off lim H hq hg => join_w (2 * h) (by omega) (by omega) X (fun c hc => by have := hX c hc; omega) cells q u off lim H hq hg⟩
theorem inB_bnd {m : Int} {a : List Int} (hm : 0 ≤ m) (h : inB m a = true) (s : Nat) : BndS s m (ofL s a) := by
 intro r c hr hc
 unfold ofL
 rw [if_pos ⟨hr, hc⟩]
 exact inB_getD hm h _
def sqR (m : Int) (f : Nat → Mat → Mat) (s : Int) (a : List Int) : List Int × Int :=
 if IsSide s ∧ (a.length : Int) = s * s then (if inB m a = true then (toL s.toNat (f (Nat.log2 s.toNat) (ofL s.toNat a)), 0) else ([], 5)) else ([], 1)
set_option maxRecDepth 8000 in
theorem Forward_ok (k : Nat) (hk : k ≤ 4) (a : List Int) (hl : a.length = 2 ^ k * 2 ^ k) (hi : inB 1099511627776 a = true) (H : AH) :
  ACall Tryz.prog 15 [.int .i64 (2 ^ k : Nat), .cs (iS .i64 a) a.length] H (fun y H' => y = resV (toL (2 ^ k) (fwd k (ofL (2 ^ k) a)), 0) ∧ H' = H) := by
 have hst := fun H => start_ok k hk a 1099511627776 (by omega) hl hi H
 have hS := (pow_side hk).2
 have hbd := inB_bnd (by omega) hi (2 ^ k)
 have hof := toL_ofL hl
 refine ACall.told ?_
 refine zQ zU (dok _) Tryz.func15 rfl (by decide) rfl ?_
 (repeat' ((conv => whnf); first | refine Then.mk ?_ | left | refine zd ?_ | (refine Both.mk ?_ ?_ <;> intro hc <;> try exact wX hc) | (intro c hc; (try (simp only [AH.zA] at hc; repeat (have hn := hc.1; replace hc := hc.2)))))) <;> (try (conv => whnf))
 refine (hst _).mono ?_
 rintro y H' ⟨q, u, rfl, hq, rfl⟩
 (repeat' ((conv => whnf); first | refine Then.mk ?_ | left | refine zd ?_ | (refine Both.mk ?_ ?_ <;> intro hc <;> try exact wX hc) | (intro c hc; (try (simp only [AH.zA] at hc; repeat (have hn := hc.1; replace hc := hc.2)))))) <;> (try (conv => whnf))
 have hcc : H c = none := by assumption
 have hcq : c ≠ q := by assumption
 obtain ⟨w, hw⟩ : ∃ w, w = c := ⟨_, rfl⟩
 rw [← hw] at hcc hcq ⊢
 clear hw
 have hqw : q ≠ w := Ne.symm hcq
 rw [hl]
 obtain ⟨S, hSS⟩ : ∃ S, S = 2 ^ k := ⟨_, rfl⟩
 rw [← hSS] at hS hbd hof ⊢
 have hm0 : mL S (ofL S a) = iS .i64 a := by unfold mL; rw [hof]
 refine zT (σ := Nat × Mat × Nat) (8 :: 10 :: 21 :: 22 :: 23 :: 24 :: 25 :: 26 :: 27 :: 28 :: 29 :: 30 :: 31 :: 32 :: 33 :: 34 :: 35 :: 36 :: 37 :: 38 :: []) (fun (j, N, b) => [(8, .int .i64 (2 ^ j : Nat))]) (fun (j, N, b) => (AH.set H w (.row [.int .i64 S, .sl q u 1 0 (S * S) none] 0)).set q (.row (mL S N) u))
  (fun (j, N, b) => j ≤ k ∧ BndS S b N ∧ fwd j N = fwd k (ofL S a) ∧ b * 4 ^ j ≤ 281474976710656) (fun (j, N, b) => j) (k, ofL S a, 1099511627776) rfl ?_ ?_ ?_ ?_
 ·refine ⟨Nat.le_refl _, hbd, rfl, ?_⟩
  have : 4 ^ k ≤ 4 ^ 4 := Nat.pow_le_pow_right (by omega) hk
  show 1099511627776 * 4 ^ k ≤ _
  omega
 ·exact ⟨congrArg (fun x : Nat => AV.int .i64 (x : Int)) hSS, trivial⟩
 ·refine HLe.of_eq ?_
  show (AH.set H w _).set q (.row (mL S (ofL S a)) u) = _
  rw [hm0]
  ((funext s; simp only [AH.set, AH.del]; repeat' split) <;> (first | rfl | (exfalso; omega)))
 ·rintro ⟨j, N, b⟩ ⟨hj, hN, hfw, hb⟩
  dsimp only at hj hN hfw hb ⊢
  refine AWp.of zU (dok _) rfl ?_
  cases j with
  | zero =>
   (repeat' ((conv => whnf); first | left | refine zd ?_ | (refine Both.mk ?_ ?_ <;> intro hc <;> try exact wX hc) | (intro c hc; (try (simp only [AH.zA] at hc; repeat (have hn := hc.1; replace hc := hc.2)))))) <;> (try (conv => whnf))
   refine Then.mk ?_
   (repeat' ((conv => whnf); first | left | refine zd ?_ | (refine Both.mk ?_ ?_ <;> intro hc <;> try exact wX hc) | (intro c hc; (try (simp only [AH.zA] at hc; repeat (have hn := hc.1; replace hc := hc.2)))))) <;> (try (conv => whnf))
   refine Then.mk ?_
   (repeat' ((conv => whnf); first | left | refine zd ?_ | (refine Both.mk ?_ ?_ <;> intro hc <;> try exact wX hc) | (intro c hc; (try (simp only [AH.zA] at hc; repeat (have hn := hc.1; replace hc := hc.2)))))) <;> (try (conv => whnf))
   refine Then.mk (AWq.in ?_)
   refine AWp_freeze1 (es := 1) (n := S * S) (lim := none) (cells := mL S N) 4 rfl rfl (AH.zC _ _ _) (by simp) ?_
   refine AWp.of zU (dok _) rfl ?_
   (repeat' ((conv => whnf); first | refine Then.mk ?_ | refine zd ?_ | (refine Both.mk ?_ ?_ <;> intro hc <;> try exact wX hc) | (intro c hc; (try (simp only [AH.zA] at hc; repeat (have hn := hc.1; replace hc := hc.2)))))) <;> (try (conv => whnf))
   have hN0 : N = fwd k (ofL S a) := hfw
   rw [← hN0]
   refine ⟨resV (toL S N, 0), H, ?_, HLe.del _ (HLe.set_of _ _ (HLe.fresh _ hcc) hq) hq, rfl, rfl⟩
   unfold resV
   rw [show (toL S N).length = S * S from toL_len S N]
   exact AVle.refl _
  | succ j =>
   have hP1 : 1 ≤ 2 ^ j := Nat.one_le_two_pow
   have hPS : 2 ^ (j + 1) ≤ S := by rw [hSS]; exact Nat.pow_le_pow_right (by omega) hj
   rw [pow_half] at hPS
   have hfw2 : fwd j (colsM spl (2 * 2 ^ j) (rowsM spl (2 * 2 ^ j) N)) = fwd k (ofL S a) := by rw [← pow_half]; exact hfw
   rw [pow_half]
   have hb2 : 4 * b * 4 ^ j ≤ 281474976710656 := by rw [Nat.mul_comm 4 b, Nat.mul_assoc, ← Nat.pow_succ']; exact hb
   have hb3 : 4 * b ≤ 281474976710656 := Nat.le_trans (Nat.le_mul_of_pos_right _ (Nat.pow_pos (by omega))) hb2
   have hdv : (((2 * 2 ^ j : Nat) : Int)).tdiv 2 = ((2 ^ j : Nat) : Int) := by rw [Int.tdiv_eq_ediv_of_nonneg (by omega)]; omega
   obtain ⟨P, hP⟩ : ∃ P, P = 2 ^ j := ⟨_, rfl⟩
   rw [← hP] at hP1 hPS hfw2 hdv ⊢
   (repeat' ((conv => whnf); first | refine Then.mk ?_ | left | refine zd ?_ | (refine Both.mk ?_ ?_ <;> intro hc <;> try exact wX hc) | (intro c hc; (try (simp only [AH.zA] at hc; repeat (have hn := hc.1; replace hc := hc.2)))))) <;> (try (conv => whnf))
   obtain ⟨N1, hN1⟩ : ∃ N1, N1 = rowsM spl (2 * P) N := ⟨_, rfl⟩
   obtain ⟨N2, hN2⟩ : ∃ N2, N2 = colsM spl (2 * P) N1 := ⟨_, rfl⟩
   have c1 : BndS S (2 * (b : Int)) N1 := by rw [hN1]; exact rows_bd hPS (by omega) (fun x hx c hc => spl_bd hx c hc) hN
   have c2 : BndS S ((4 * b : Nat) : Int) N2 := by
    have : ((4 * b : Nat) : Int) = 2 * (2 * (b : Int)) := by omega
    rw [hN2, this]; exact cols_bd hPS (by omega) (fun x hx c hc => spl_bd hx c hc) c1
   have call1 := fun K h => rows_c (H := K) hS.1 hPS (split_f P (by omega) (b : Int) (by omega)) N hN q u h
   have call2 := fun K h => columns_c (H := K) hS.1 hPS (split_f P (by omega) (2 * (b : Int)) (by omega)) N1 c1 q u h
   rw [← hN1] at call1
   rw [← hN2] at call2
   have hfw3 : fwd j N2 = fwd k (ofL S a) := by rw [hN2, hN1]; exact hfw2
   refine zT (σ := Nat) (10 :: 31 :: 32 :: 33 :: 34 :: 35 :: 36 :: 37 :: 38 :: []) (fun i => [(31, .int .i64 i)]) (fun i => (AH.set H w (.row [.int .i64 S, .sl q u 1 0 (S * S) none] 0)).set q (.row (mL S (if i = 0 then N else if i = 1 then N1 else N2)) u)) (fun i => i ≤ 2) (fun i => 2 - i) 0 rfl ?_ ?_ ?_ ?_
   ·exact Nat.zero_le _
   ·exact ⟨rfl, trivial⟩
   ·exact HLe.refl _
   ·rintro i hi
    refine AWp.of zU (dok _) rfl ?_
    rcases (show i = 0 ∨ i = 1 ∨ i = 2 by omega) with rfl | rfl | rfl
    ·rw [if_pos rfl]
     (repeat' ((conv => whnf); first | refine Then.mk ?_ | left | refine zg ?_ (call1 _ (AH.zC _ _ _)) | refine zgg ?_ (call1 _ (AH.zC _ _ _)) | refine zd ?_ | (refine Both.mk ?_ ?_ <;> intro hc <;> try exact wX hc) | (intro c hc; (try (simp only [AH.zA] at hc; repeat (have hn := hc.1; replace hc := hc.2)))) | (refine ACall.to (call1 _ (AH.zC _ _ _)) ?_))) <;> (try (conv => whnf))
     exact ⟨1, by omega, by omega, ⟨rfl, trivial⟩, HLe.of_eq (Eq.symm (AH.zS _ _ _ _))⟩
    ·rw [if_neg (by omega), if_pos rfl]
     (repeat' ((conv => whnf); first | refine Then.mk ?_ | left | refine zg ?_ (call2 _ (AH.zC _ _ _)) | refine zgg ?_ (call2 _ (AH.zC _ _ _)) | refine zd ?_ | (refine Both.mk ?_ ?_ <;> intro hc <;> try exact wX hc) | (intro c hc; (try (simp only [AH.zA] at hc; repeat (have hn := hc.1; replace hc := hc.2)))) | (refine ACall.to (call2 _ (AH.zC _ _ _)) ?_))) <;> (try (conv => whnf))
     exact ⟨2, by omega, by omega, ⟨rfl, trivial⟩, HLe.of_eq (Eq.symm (AH.zS _ _ _ _))⟩
    ·rw [if_neg (by omega), if_neg (by omega)]
     (repeat' ((conv => whnf); first | refine Then.mk ?_ | left | refine zd ?_ | (refine Both.mk ?_ ?_ <;> intro hc <;> try exact wX hc) | (intro c hc; (try (simp only [AH.zA] at hc; repeat (have hn := hc.1; replace hc := hc.2)))))) <;> (try (conv => whnf))
     exact ⟨(j, N2, 4 * b), ⟨by omega, c2, hfw3, hb2⟩, by show j < j + 1; omega, ⟨congrArg (AV.int .i64) (by rw [← hP]; exact hdv), trivial⟩, HLe.refl _⟩
open Go.Fw Go
theorem fwd_out : ∀ (k : Nat) (M : Mat) (r c : Nat), ¬ (r < 2 ^ k ∧ c < 2 ^ k) → fwd k M r c = M r c
 | 0, M, r, c, h => rfl
 | k + 1, M, r, c, h => by
  have h2 : ¬ (r < 2 ^ k ∧ c < 2 ^ k) := fun hh => h (by rw [pow_half]; omega)
  show fwd k _ r c = _
  rw [fwd_out k _ r c h2]
  unfold colsM rowsM
  rw [if_neg h, if_neg h]
theorem inv_out : ∀ (k : Nat) (M : Mat) (r c : Nat), ¬ (r < 2 ^ k ∧ c < 2 ^ k) → inv k M r c = M r c
 | 0, M, r, c, h => rfl
 | k + 1, M, r, c, h => by
  have h2 : ¬ (r < 2 ^ k ∧ c < 2 ^ k) := fun hh => h (by rw [pow_half]; omega)
  show rowsM joi _ (colsM joi _ (inv k M)) r c = _
  unfold rowsM
  rw [if_neg h]
  unfold colsM
  rw [if_neg h, inv_out k M r c h2]
theorem ofL_toL {s : Nat} {M : Mat} (h : ∀ r c, ¬ (r < s ∧ c < s) → M r c = 0) : ofL s (toL s M) = M := by
 funext r c
 unfold ofL
 by_cases hrc : r < s ∧ c < s
 ·rw [if_pos hrc, toL_getD M hrc.1 hrc.2]
 ·rw [if_neg hrc, h r c hrc]
theorem ofL_out (s : Nat) (a : List Int) (r c : Nat) (h : ¬ (r < s ∧ c < s)) : ofL s a r c = 0 := by unfold ofL; rw [if_neg h]
theorem fwd_ofL (k : Nat) (a : List Int) : ofL (2 ^ k) (toL (2 ^ k) (fwd k (ofL (2 ^ k) a))) = fwd k (ofL (2 ^ k) a) :=
 ofL_toL fun r c h => by rw [fwd_out k _ r c h, ofL_out _ _ _ _ h]
theorem inB_toL {s : Nat} {M : Mat} {m : Int} (h : BndS s m M) : inB m (toL s M) = true := by
 rw [inB_iff]
 intro x hx
 unfold toL at hx
 obtain ⟨p, hp, rfl⟩ := List.mem_map.1 hx
 have hp : p < s * s := by simpa using hp
 obtain ⟨h1, h2, _⟩ := place' hp
 exact h _ _ h1 h2
theorem spl_lo {h : Nat} {x : Ln} {B : Int} (hx : ∀ c, c < 2 * h → -B ≤ x c ∧ x c ≤ B) (c : Nat) (hc : c < h) : -B ≤ spl (2 * h) x c ∧ spl (2 * h) x c ≤ B := by
 unfold spl
 rw [if_pos (by omega)]
 have := hx (2 * c) (by omega); have := hx (2 * c + 1) (by omega); omega
theorem fwd_step {h s : Nat} {B : Int} (hB : 0 ≤ B) (hs : 2 * h ≤ s) {M : Mat} (h1 : ∀ r c, r < 2 * h → c < 2 * h → -B ≤ M r c ∧ M r c ≤ B) :
  (∀ r c, r < h → c < h → -B ≤ colsM spl (2 * h) (rowsM spl (2 * h) M) r c ∧ colsM spl (2 * h) (rowsM spl (2 * h) M) r c ≤ B) ∧
  (∀ r c, r < 2 * h → c < 2 * h → -(4 * B) ≤ colsM spl (2 * h) (rowsM spl (2 * h) M) r c ∧ colsM spl (2 * h) (rowsM spl (2 * h) M) r c ≤ 4 * B) := by
 have r1 : ∀ r c, r < 2 * h → c < h → -B ≤ rowsM spl (2 * h) M r c ∧ rowsM spl (2 * h) M r c ≤ B := fun r c hr hc => by
  unfold rowsM; rw [if_pos (by omega)]; exact spl_lo (fun k hk => h1 r k hr hk) c hc
 have r2 : ∀ r c, r < 2 * h → c < 2 * h → -(2 * B) ≤ rowsM spl (2 * h) M r c ∧ rowsM spl (2 * h) M r c ≤ 2 * B := fun r c hr hc => by
  unfold rowsM; rw [if_pos (by omega)]; exact spl_bd (fun k hk => h1 r k hr hk) c hc
 generalize rowsM spl (2 * h) M = N at *
 refine ⟨fun r c hr hc => ?_, fun r c hr hc => ?_⟩
 ·unfold colsM; rw [if_pos (by omega)]; exact spl_lo (x := fun k => N k c) (fun k hk => r1 k c hk hc) r hr
 ·unfold colsM; rw [if_pos (by omega)]
  have := spl_bd (x := fun k => N k c) (fun k hk => r2 k c hk hc) r hr
  omega
theorem fwd_bd {s : Nat} {B : Int} (hB : 0 ≤ B) : ∀ (k : Nat) (M : Mat), 2 ^ k ≤ s → (∀ r c, r < 2 ^ k → c < 2 ^ k → -B ≤ M r c ∧ M r c ≤ B) → BndS s (4 * B) M → BndS s (4 * B) (fwd k M)
 | 0, M, _, _, h => h
 | k + 1, M, hs, h1, h2 => by
  rw [pow_half] at hs h1
  obtain ⟨a1, a2⟩ := fwd_step hB hs h1
  show BndS s (4 * B) (fwd k (colsM spl (2 ^ (k + 1)) (rowsM spl (2 ^ (k + 1)) M)))
  rw [pow_half]
  refine fwd_bd hB k _ (by omega) a1 (fun r c hr hc => ?_)
  by_cases hrc : r < 2 * 2 ^ k ∧ c < 2 * 2 ^ k
  ·exact a2 r c hrc.1 hrc.2
  ·unfold colsM rowsM
   rw [if_neg hrc, if_neg hrc]
   exact h2 r c hr hc
open Go.Fw Go
set_option maxRecDepth 8000 in
theorem Inverse_ok (k : Nat) (hk : k ≤ 4) (a : List Int) (hl : a.length = 2 ^ k * 2 ^ k) (hi : inB 4398046511104 a = true) (H : AH) :
  ACall Tryz.prog 89 [.int .i64 (2 ^ k : Nat), .cs (iS .i64 a) a.length] H (fun y H' => y = resV (toL (2 ^ k) (inv k (ofL (2 ^ k) a)), 0) ∧ H' = H) := by
 have hst := fun H => start_ok k hk a 4398046511104 (by omega) hl hi H
 have hS := (pow_side hk).2
 have hbd := inB_bnd (by omega) hi (2 ^ k)
 have hof := toL_ofL hl
 refine ACall.told ?_
 refine zQ zU (dok _) Tryz.func89 rfl (by decide) rfl ?_
 (repeat' ((conv => whnf); first | refine Then.mk ?_ | left | refine zd ?_ | (refine Both.mk ?_ ?_ <;> intro hc <;> try exact wX hc) | (intro c hc; (try (simp only [AH.zA] at hc; repeat (have hn := hc.1; replace hc := hc.2)))))) <;> (try (conv => whnf))
 refine (hst _).mono ?_
 rintro y H' ⟨q, u, rfl, hq, rfl⟩
 (repeat' ((conv => whnf); first | refine Then.mk ?_ | left | refine zd ?_ | (refine Both.mk ?_ ?_ <;> intro hc <;> try exact wX hc) | (intro c hc; (try (simp only [AH.zA] at hc; repeat (have hn := hc.1; replace hc := hc.2)))))) <;> (try (conv => whnf))
 have hcc : H c = none := by assumption
 have hcq : c ≠ q := by assumption
 obtain ⟨w, hw⟩ : ∃ w, w = c := ⟨_, rfl⟩
 rw [← hw] at hcc hcq ⊢
 clear hw
 have hqw : q ≠ w := Ne.symm hcq
 rw [hl]
 obtain ⟨S, hSS⟩ : ∃ S, S = 2 ^ k := ⟨_, rfl⟩
 rw [← hSS] at hS hbd hof ⊢
 have hm0 : mL S (ofL S a) = iS .i64 a := by unfold mL; rw [hof]
 refine zT (σ := Nat × Mat × Nat) (8 :: 10 :: 20 :: 21 :: 22 :: 23 :: 24 :: 25 :: 26 :: 27 :: 28 :: 29 :: 30 :: 31 :: 32 :: 33 :: 34 :: 35 :: 36 :: 37 :: 38 :: []) (fun (j, N, b) => [(8, .int .i64 (2 ^ (j + 1) : Nat))]) (fun (j, N, b) => (AH.set H w (.row [.int .i64 S, .sl q u 1 0 (S * S) none] 0)).set q (.row (mL S N) u))
  (fun (j, N, b) => j ≤ k ∧ BndS S b N ∧ N = inv j (ofL S a) ∧ 1 ≤ b ∧ b * 16 ^ (k - j) ≤ 288230376151711744) (fun (j, N, b) => k - j) (0, ofL S a, 4398046511104) rfl ?_ ?_ ?_ ?_
 ·refine ⟨Nat.zero_le _, hbd, rfl, by show 1 ≤ 4398046511104; omega, ?_⟩
  have : 16 ^ (k - 0) ≤ 16 ^ 4 := Nat.pow_le_pow_right (by omega) (by omega)
  show 4398046511104 * 16 ^ (k - 0) ≤ _
  omega
 ·exact ⟨rfl, trivial⟩
 ·refine HLe.of_eq ?_
  show (AH.set H w _).set q (.row (mL S (ofL S a)) u) = _
  rw [hm0]
  ((funext s; simp only [AH.set, AH.del]; repeat' split) <;> (first | rfl | (exfalso; omega)))
 ·rintro ⟨j, N, b⟩ ⟨hj, hN, hfw, hb1, hb⟩
  dsimp only at hj hN hfw hb1 hb ⊢
  refine AWp.of zU (dok _) rfl ?_
  by_cases hjk : j = k
  ·subst hjk
   have hgt : ¬ ((2 ^ (j + 1) : Nat) : Int) ≤ (S : Int) := by rw [pow_half, ← hSS]; omega
   (repeat' ((conv => whnf); first | left | refine zd ?_ | (refine Both.mk ?_ ?_ <;> intro hc <;> try exact wX hc) | (intro c hc; (try (simp only [AH.zA] at hc; repeat (have hn := hc.1; replace hc := hc.2)))))) <;> (try (conv => whnf))
   refine Then.mk ?_
   (repeat' ((conv => whnf); first | left | refine zd ?_ | (refine Both.mk ?_ ?_ <;> intro hc <;> try exact wX hc) | (intro c hc; (try (simp only [AH.zA] at hc; repeat (have hn := hc.1; replace hc := hc.2)))))) <;> (try (conv => whnf))
   refine Then.mk ?_
   (repeat' ((conv => whnf); first | left | refine zd ?_ | (refine Both.mk ?_ ?_ <;> intro hc <;> try exact wX hc) | (intro c hc; (try (simp only [AH.zA] at hc; repeat (have hn := hc.1; replace hc := hc.2)))))) <;> (try (conv => whnf))
   refine Then.mk (AWq.in ?_)
   refine AWp_freeze1 (es := 1) (n := S * S) (lim := none) (cells := mL S N) 4 rfl rfl (AH.zC _ _ _) (by simp) ?_
   refine AWp.of zU (dok _) rfl ?_
   (repeat' ((conv => whnf); first | refine Then.mk ?_ | refine zd ?_ | (refine Both.mk ?_ ?_ <;> intro hc <;> try exact wX hc) | (intro c hc; (try (simp only [AH.zA] at hc; repeat (have hn := hc.1; replace hc := hc.2)))))) <;> (try (conv => whnf))
   rw [← hfw]
   refine ⟨resV (toL S N, 0), H, ?_, HLe.del _ (HLe.set_of _ _ (HLe.fresh _ hcc) hq) hq, rfl, rfl⟩
   unfold resV
   rw [show (toL S N).length = S * S from toL_len S N]
   exact AVle.refl _
  ·have hP1 : 1 ≤ 2 ^ j := Nat.one_le_two_pow
   have hPS : 2 ^ (j + 1) ≤ S := by rw [hSS]; exact Nat.pow_le_pow_right (by omega) (by omega)
   rw [pow_half] at hPS
   have hfw2 : rowsM joi (2 * 2 ^ j) (colsM joi (2 * 2 ^ j) N) = inv (j + 1) (ofL S a) := by rw [hfw, ← pow_half]; rfl
   rw [pow_half]
   have hb2 : 16 * b * 16 ^ (k - (j + 1)) ≤ 288230376151711744 := by rw [Nat.mul_comm 16 b, Nat.mul_assoc, ← Nat.pow_succ', show (k - (j + 1)).succ = k - j by omega]; exact hb
   have hb3 : 16 * b ≤ 288230376151711744 := Nat.le_trans (Nat.le_mul_of_pos_right _ (Nat.pow_pos (by omega))) hb2
   have hdv : ((2 ^ (j + 1 + 1) : Nat) : Int) = ((2 * 2 ^ j : Nat) : Int) * 2 := by rw [pow_half, pow_half]; omega
   obtain ⟨P, hP⟩ : ∃ P, P = 2 ^ j := ⟨_, rfl⟩
   rw [← hP] at hP1 hPS hfw2 hdv ⊢
   (repeat' ((conv => whnf); first | refine Then.mk ?_ | left | refine zd ?_ | (refine Both.mk ?_ ?_ <;> intro hc <;> try exact wX hc) | (intro c hc; (try (simp only [AH.zA] at hc; repeat (have hn := hc.1; replace hc := hc.2)))))) <;> (try (conv => whnf))
   obtain ⟨N1, hN1⟩ : ∃ N1, N1 = colsM joi (2 * P) N := ⟨_, rfl⟩
   obtain ⟨N2, hN2⟩ : ∃ N2, N2 = rowsM joi (2 * P) N1 := ⟨_, rfl⟩
   have c1 : BndS S (4 * (b : Int)) N1 := by rw [hN1]; exact cols_bd hPS (by omega) (fun x hx c hc => joi_bd (by omega) hx c hc) hN
   have c2 : BndS S ((16 * b : Nat) : Int) N2 := by
    have : ((16 * b : Nat) : Int) = 4 * (4 * (b : Int)) := by omega
    rw [hN2, this]; exact rows_bd hPS (by omega) (fun x hx c hc => joi_bd (by omega) hx c hc) c1
   have call1 := fun K h => columns_c (H := K) hS.1 hPS (join_f P (by omega) (b : Int) (by omega)) N hN q u h
   have call2 := fun K h => rows_c (H := K) hS.1 hPS (join_f P (by omega) (4 * (b : Int)) (by omega)) N1 c1 q u h
   rw [← hN1] at call1
   rw [← hN2] at call2
   have hfw3 : N2 = inv (j + 1) (ofL S a) := by rw [hN2, hN1]; exact hfw2
   refine zT (σ := Nat) (10 :: 31 :: 32 :: 33 :: 34 :: 35 :: 36 :: 37 :: 38 :: []) (fun i => [(31, .int .i64 i)]) (fun i => (AH.set H w (.row [.int .i64 S, .sl q u 1 0 (S * S) none] 0)).set q (.row (mL S (if i = 0 then N else if i = 1 then N1 else N2)) u)) (fun i => i ≤ 2) (fun i => 2 - i) 0 rfl ?_ ?_ ?_ ?_
   ·exact Nat.zero_le _
   ·exact ⟨rfl, trivial⟩
   ·exact HLe.refl _
   ·rintro i hi
    refine AWp.of zU (dok _) rfl ?_
    rcases (show i = 0 ∨ i = 1 ∨ i = 2 by omega) with rfl | rfl | rfl
    ·rw [if_pos rfl]
     (repeat' ((conv => whnf); first | refine Then.mk ?_ | left | refine zg ?_ (call1 _ (AH.zC _ _ _)) | refine zgg ?_ (call1 _ (AH.zC _ _ _)) | refine zd ?_ | (refine Both.mk ?_ ?_ <;> intro hc <;> try exact wX hc) | (intro c hc; (try (simp only [AH.zA] at hc; repeat (have hn := hc.1; replace hc := hc.2)))) | (refine ACall.to (call1 _ (AH.zC _ _ _)) ?_))) <;> (try (conv => whnf))
     exact ⟨1, by omega, by omega, ⟨rfl, trivial⟩, HLe.of_eq (Eq.symm (AH.zS _ _ _ _))⟩
    ·rw [if_neg (by omega), if_pos rfl]
     (repeat' ((conv => whnf); first | refine Then.mk ?_ | left | refine zg ?_ (call2 _ (AH.zC _ _ _)) | refine zgg ?_ (call2 _ (AH.zC _ _ _)) | refine zd ?_ | (refine Both.mk ?_ ?_ <;> intro hc <;> try exact wX hc) | (intro c hc; (try (simp only [AH.zA] at hc; repeat (have hn := hc.1; replace hc := hc.2)))) | (refine ACall.to (call2 _ (AH.zC _ _ _)) ?_))) <;> (try (conv => whnf))
     exact ⟨2, by omega, by omega, ⟨rfl, trivial⟩, HLe.of_eq (Eq.symm (AH.zS _ _ _ _))⟩
    ·rw [if_neg (by omega), if_neg (by omega)]
     (repeat' ((conv => whnf); first | refine Then.mk ?_ | left | refine zd ?_ | (refine Both.mk ?_ ?_ <;> intro hc <;> try exact wX hc) | (intro c hc; (try (simp only [AH.zA] at hc; repeat (have hn := hc.1; replace hc := hc.2)))))) <;> (try (conv => whnf))
     exact ⟨(j + 1, N2, 16 * b), ⟨by show j + 1 ≤ k; omega, c2, hfw3, by show 1 ≤ 16 * b; omega, hb2⟩, by show k - (j + 1) < k - j; omega, ⟨congrArg (AV.int .i64) hdv.symm, trivial⟩, HLe.refl _⟩
set_option maxRecDepth 8000 in
theorem Inverse_c (s : Int) (h1 : -9223372036854775808 ≤ s) (h2 : s ≤ 9223372036854775807) (a : List Int) (hb : a.length ≤ 1000000) (H : AH) :
  ACall Tryz.prog 89 [.int .i64 s, .cs (iS .i64 a) a.length] H (fun y H' => y = resV (sqR 4398046511104 inv s a) ∧ H' = H) := by
 obtain ⟨R, hR⟩ : ∃ R, R = sqR 4398046511104 inv s a := ⟨_, rfl⟩
 rw [← hR]
 unfold sqR at hR
 by_cases h : IsSide s ∧ (a.length : Int) = s * s
 ·rw [if_pos h] at hR
  obtain ⟨k, hk, rfl⟩ := side_pow h.1
  have hl : a.length = 2 ^ k * 2 ^ k := by have := h.2; rw [← Int.natCast_mul] at this; omega
  by_cases hi : inB 4398046511104 a = true
  ·rw [if_pos hi, Int.toNat_natCast, Nat.log2_two_pow] at hR
   rw [hR]
   exact Inverse_ok k hk a hl hi H
  ·rw [if_neg hi] at hR
   have hi : inB 4398046511104 a = false := by simpa using hi
   have hst := fun H => start_rng k hk a 4398046511104 (by omega) hl hi H
   generalize 2 ^ k = S at *
   refine ACall.told ?_
   refine zQ zU (dok _) Tryz.func89 rfl (by decide) rfl ?_
   (repeat' ((conv => whnf); first | refine Then.mk ?_ | refine zg ?_ (hst _) | refine zgg ?_ (hst _) | refine zd ?_ | (refine Both.mk ?_ ?_ <;> intro hc <;> try exact wX hc) | (intro c hc; (try (simp only [AH.zA] at hc; repeat (have hn := hc.1; replace hc := hc.2)))) | (refine ACall.to (hst _) ?_))) <;> (try (conv => whnf))
   have hc0 : H c = none := by assumption
   refine ⟨resV R, H, by rw [hR]; exact AVle.tup (AVles.cons AVle.nils (AVles.refl _)), HLe.set_of _ _ (HLe.fresh _ hc0) hc0, rfl, rfl⟩
 ·rw [if_neg h] at hR
  have hst := fun H => start_bad s h1 h2 a hb 4398046511104 h H
  refine ACall.told ?_
  refine zQ zU (dok _) Tryz.func89 rfl (by decide) rfl ?_
  (repeat' ((conv => whnf); first | refine Then.mk ?_ | refine zg ?_ (hst _) | refine zgg ?_ (hst _) | refine zd ?_ | (refine Both.mk ?_ ?_ <;> intro hc <;> try exact wX hc) | (intro c hc; (try (simp only [AH.zA] at hc; repeat (have hn := hc.1; replace hc := hc.2)))) | (refine ACall.to (hst _) ?_))) <;> (try (conv => whnf))
  have hc0 : H c = none := by assumption
  refine ⟨resV R, H, by rw [hR]; exact AVle.tup (AVles.cons AVle.nils (AVles.refl _)), HLe.set_of _ _ (HLe.fresh _ hc0) hc0, rfl, rfl⟩
open Go.Fw Go
set_option maxRecDepth 8000 in
theorem Half_c (n : Int) (h1 : -9223372036854775807 ≤ n) (h2 : n ≤ 9223372036854775807) (H : AH) : ACall Tryz.prog 139 [.int .i64 n] H (fun y H' => y = .int .i64 (n / 2) ∧ H' = H) := by
 by_cases hn : 0 ≤ n
 ·have e : n.tdiv 2 = n / 2 := Int.tdiv_eq_ediv_of_nonneg hn
  refine zQ zU (dok _) Tryz.func139 rfl (by decide) rfl ?_
  (repeat' ((conv => whnf); first | refine Then.mk ?_ | left | refine zd ?_ | (refine Both.mk ?_ ?_ <;> intro hc <;> try exact wX hc) | (intro c hc; (try (simp only [AH.zA] at hc; repeat (have hn := hc.1; replace hc := hc.2)))))) <;> (try (conv => whnf))
  all_goals exact ⟨congrArg (AV.int .i64) (by omega), rfl⟩
 ·obtain ⟨m, hm⟩ : ∃ m : Nat, n = -(m : Int) := ⟨(-n).toNat, by omega⟩
  have e1 : n.tdiv 2 = -((m / 2 : Nat) : Int) := by
   rw [hm, Int.neg_tdiv, Int.tdiv_eq_ediv_of_nonneg (by omega)]; omega
  have e2 : n.tmod 2 = -((m % 2 : Nat) : Int) := by
   rw [hm, Int.neg_tmod, Int.tmod_eq_emod_of_nonneg (by omega)]; omega
  refine zQ zU (dok _) Tryz.func139 rfl (by decide) rfl ?_
  (repeat' ((conv => whnf); first | refine Then.mk ?_ | left | refine zd ?_ | (refine Both.mk ?_ ?_ <;> intro hc <;> try exact wX hc) | (intro c hc; (try (simp only [AH.zA] at hc; repeat (have hn := hc.1; replace hc := hc.2)))))) <;> (try (conv => whnf))
  all_goals exact ⟨congrArg (AV.int .i64) (by omega), rfl⟩
set_option maxRecDepth 8000 in
theorem Side_c (n : Int) (h1 : -9223372036854775808 ≤ n) (h2 : n ≤ 9223372036854775807) (H : AH) : ACall Tryz.prog 125 [.int .i64 n] H (fun y H' => y = .bool (decide (IsSide n)) ∧ H' = H) := by
 by_cases hs : IsSide n
 ·rw [decide_eq_true hs]
  unfold IsSide at hs
  refine zQ zU (dok _) Tryz.func125 rfl (by decide) rfl ?_
  (repeat' ((conv => whnf); first | refine Then.mk ?_ | left | refine zd ?_ | (refine Both.mk ?_ ?_ <;> intro hc <;> try exact wX hc) | (intro c hc; (try (simp only [AH.zA] at hc; repeat (have hn := hc.1; replace hc := hc.2)))))) <;> (try (conv => whnf))
 ·rw [decide_eq_false hs]
  unfold IsSide at hs
  refine zQ zU (dok _) Tryz.func125 rfl (by decide) rfl ?_
  (repeat' ((conv => whnf); first | refine Then.mk ?_ | left | refine zd ?_ | (refine Both.mk ?_ ?_ <;> intro hc <;> try exact wX hc) | (intro c hc; (try (simp only [AH.zA] at hc; repeat (have hn := hc.1; replace hc := hc.2)))))) <;> (try (conv => whnf))
set_option maxRecDepth 8000 in
theorem rwithin_c (m : Int) (hm : 0 ≤ m ∧ m ≤ 4611686018427387904) (a : List Int) (ha : a.length ≤ 1000000) (H : AH) :
  ACall Tryz.prog 126 [.cs (iS .i64 a) a.length, .int .i64 m] H (fun y H' => y = .bool (inB m a) ∧ H' = H) := by
 refine zQ zU (dok _) Tryz.func126 rfl (by decide) rfl ?_
 (repeat' ((conv => whnf); first | refine Then.mk ?_ | left | refine zd ?_ | (refine Both.mk ?_ ?_ <;> intro hc <;> try exact wX hc) | (intro c hc; (try (simp only [AH.zA] at hc; repeat (have hn := hc.1; replace hc := hc.2)))))) <;> (try (conv => whnf))
 refine zT (σ := Nat) (4 :: 5 :: 6 :: 7 :: 8 :: 9 :: 10 :: 11 :: 12 :: 13 :: 14 :: 15 :: 16 :: 17 :: 18 :: 19 :: 20 :: 21 :: 22 :: 23 :: 24 :: 25 :: 26 :: []) (fun i => [(5, .int .i64 i)]) (fun _ => H) (fun i => i ≤ a.length ∧ inB m (a.take i) = true) (fun i => a.length - i) 0 rfl ?_ ?_ ?_ ?_
 ·exact ⟨Nat.zero_le _, rfl⟩
 ·exact ⟨rfl, trivial⟩
 ·exact HLe.refl _
 ·rintro i ⟨hi, hin⟩
  refine AWp.of zU (dok _) rfl ?_
  by_cases h : i < a.length
  ·have ht : inB m (a.take (i + 1)) = (inB m (a.take i) && decide (-m ≤ a[i] ∧ a[i] ≤ m)) := by
    rw [List.take_add_one, List.getElem?_eq_getElem h]; simp only [inB, List.all_append, Option.toList_some, List.all_cons, List.all_nil, Bool.and_true]
   have hd : a.getD (i : Int).toNat 0 = a[i] := by rw [Int.toNat_natCast]; simp [h]
   by_cases hb : -m ≤ a[i] ∧ a[i] ≤ m
   ·(repeat' ((conv => whnf); first | refine Then.mk ?_ | left | refine zd ?_ | (refine Both.mk ?_ ?_ <;> intro hc <;> try exact wX hc) | (intro c hc; (try (simp only [AH.zA] at hc; repeat (have hn := hc.1; replace hc := hc.2)))))) <;> (try (conv => whnf))
    refine ⟨i + 1, ⟨by omega, by rw [ht, hin, decide_eq_true hb]; rfl⟩, by omega, ⟨congrArg (AV.int .i64) (by omega), trivial⟩, HLe.refl _⟩
   ·have hno : inB m a = false := by
     cases hx : inB m a with
     | false => rfl
     | true => exact absurd (inB_iff.1 hx a[i] (List.getElem_mem h)) hb
    rw [hno]
    (repeat' ((conv => whnf); first | refine Then.mk ?_ | left | refine zd ?_ | (refine Both.mk ?_ ?_ <;> intro hc <;> try exact wX hc) | (intro c hc; (try (simp only [AH.zA] at hc; repeat (have hn := hc.1; replace hc := hc.2)))))) <;> (try (conv => whnf))
  ·have : a.take i = a := List.take_of_length_le (by omega)
   rw [this] at hin
   (repeat' ((conv => whnf); first | refine Then.mk ?_ | left | refine zd ?_ | (refine Both.mk ?_ ?_ <;> intro hc <;> try exact wX hc) | (intro c hc; (try (simp only [AH.zA] at hc; repeat (have hn := hc.1; replace hc := hc.2)))))) <;> (try (conv => whnf))
   all_goals exact ⟨by rw [hin], rfl⟩
set_option maxRecDepth 8000 in
theorem check_c (s : Int) (h1 : -9223372036854775808 ≤ s) (h2 : s ≤ 9223372036854775807) (m : Int) (hm : 0 ≤ m ∧ m ≤ 4611686018427387904) (a : List Int) (ha : a.length ≤ 1000000) (H : AH) :
  ACall Tryz.prog 99 [.int .i64 s, .cs (iS .i64 a) a.length, .int .i64 m] H (fun y H' => y = .int .i64 (if IsSide s ∧ (a.length : Int) = s * s then (if inB m a = true then 0 else 5) else 1) ∧ H' = H) := by
 have ss := fun H => Side_c s h1 h2 H
 have hw := fun H => rwithin_c m hm a ha H
 by_cases h : IsSide s
 ·rw [decide_eq_true h] at ss
  have hs16 : 1 ≤ s ∧ s ≤ 16 := by unfold IsSide at h; omega
  have hmul : 0 ≤ s * s ∧ s * s ≤ 256 := by
   rcases h with rfl | rfl | rfl | rfl | rfl <;> omega
  by_cases hl : (a.length : Int) = s * s
  ·rw [if_pos ⟨h, hl⟩]
   cases hb : inB m a with
   | true =>
    rw [hb] at hw
    refine zQ zU (dok _) Tryz.func99 rfl (by decide) rfl ?_
    (repeat' ((conv => whnf); first | refine Then.mk ?_ | left | refine zg ?_ (ss _) | refine zg ?_ (hw _) | refine zgg ?_ (ss _) | refine zgg ?_ (hw _) | refine zd ?_ | (refine Both.mk ?_ ?_ <;> intro hc <;> try exact wX hc) | (intro c hc; (try (simp only [AH.zA] at hc; repeat (have hn := hc.1; replace hc := hc.2)))) | (refine ACall.to (ss _) ?_) | (refine ACall.to (hw _) ?_))) <;> (try (conv => whnf))
   | false =>
    rw [hb] at hw
    refine zQ zU (dok _) Tryz.func99 rfl (by decide) rfl ?_
    (repeat' ((conv => whnf); first | refine Then.mk ?_ | left | refine zg ?_ (ss _) | refine zg ?_ (hw _) | refine zgg ?_ (ss _) | refine zgg ?_ (hw _) | refine zd ?_ | (refine Both.mk ?_ ?_ <;> intro hc <;> try exact wX hc) | (intro c hc; (try (simp only [AH.zA] at hc; repeat (have hn := hc.1; replace hc := hc.2)))) | (refine ACall.to (ss _) ?_) | (refine ACall.to (hw _) ?_))) <;> (try (conv => whnf))
  ·rw [if_neg (fun k => hl k.2)]
   refine zQ zU (dok _) Tryz.func99 rfl (by decide) rfl ?_
   (repeat' ((conv => whnf); first | refine Then.mk ?_ | left | refine zg ?_ (ss _) | refine zg ?_ (hw _) | refine zgg ?_ (ss _) | refine zgg ?_ (hw _) | refine zd ?_ | (refine Both.mk ?_ ?_ <;> intro hc <;> try exact wX hc) | (intro c hc; (try (simp only [AH.zA] at hc; repeat (have hn := hc.1; replace hc := hc.2)))) | (refine ACall.to (ss _) ?_) | (refine ACall.to (hw _) ?_))) <;> (try (conv => whnf))
 ·rw [decide_eq_false h] at ss
  rw [if_neg (fun k => h k.1)]
  refine zQ zU (dok _) Tryz.func99 rfl (by decide) rfl ?_
  (repeat' ((conv => whnf); first | refine Then.mk ?_ | left | refine zg ?_ (ss _) | refine zg ?_ (hw _) | refine zgg ?_ (ss _) | refine zgg ?_ (hw _) | refine zd ?_ | (refine Both.mk ?_ ?_ <;> intro hc <;> try exact wX hc) | (intro c hc; (try (simp only [AH.zA] at hc; repeat (have hn := hc.1; replace hc := hc.2)))) | (refine ACall.to (ss _) ?_) | (refine ACall.to (hw _) ?_))) <;> (try (conv => whnf))
open Go.Fw Go
theorem lnL_snoc (n : Nat) (X : Ln) : lnL n X ++ [X n] = lnL (n + 1) X := by simp [lnL, List.range_succ]
theorem iL_snoc (n : Nat) (X : Ln) : iL n X ++ [.int .i64 (X n)] = iL (n + 1) X := by
 unfold iL; rw [iS_snoc, lnL_snoc]
theorem iL_app (h : Nat) (X Y Z : Ln) (h1 : ∀ c, c < h → Z c = X c) (h2 : ∀ c, c < h → Z (h + c) = Y c) : iL h X ++ iL h Y = iL (2 * h) Z := by
 apply List.ext_getElem?
 intro p
 by_cases hp : p < 2 * h
 ·rw [iL_get _ hp]
  by_cases c1 : p < h
  ·rw [List.getElem?_append_left (by simp; exact c1), iL_get _ c1, h1 _ c1]
  ·rw [List.getElem?_append_right (by simp; omega), iL_len, iL_get _ (by omega), ← h2 _ (by omega), show h + (p - h) = p by omega]
 ·rw [List.getElem?_eq_none (by simp; omega), List.getElem?_eq_none (by simp; omega)]
set_option maxRecDepth 8000 in
theorem rsplit_k (h : Nat) (h1 : 1 ≤ h) (hn : h ≤ 2048) (X : Ln) (hX : ∀ c, c < 2 * h → -2305843009213693952 ≤ X c ∧ X c ≤ 2305843009213693952) (cells : List AV) (H : AH) (hlen : cells.length = 2 * h) (hg : ∀ i, i < 2 * h → cells[i]? = some (.int .i64 (X i))) :
  ACall Tryz.prog 129 [.cs cells (2 * h)] H (fun y H' => y = .cs (iL (2 * h) (spl (2 * h) X)) (2 * h) ∧ H' = H) := by
 refine ACall.back (ACall.coldX (es := 1) (Q := fun H' => HLe H H') (by rw [iL_len]; omega) ?_)
 refine zQ zU (dok _) Tryz.func129 rfl (by decide) rfl ?_
 (repeat' ((conv => whnf); first | refine Then.mk ?_ | left | refine zd ?_ | (refine Both.mk ?_ ?_ <;> intro hc <;> try exact wX hc) | (intro c hc; (try (simp only [AH.zA] at hc; repeat (have hn := hc.1; replace hc := hc.2)))))) <;> (try (conv => whnf))
 refine AWp_nilrow1 3 1 rfl rfl fun r1 hr1 => ?_
 refine AWp_nilrow1 4 1 rfl rfl fun r2 hr2 => ?_
 have hne : r2 ≠ r1 := (AH.none_set hr2).1
 have hr2 := (AH.none_set hr2).2
 obtain ⟨A, hA⟩ : ∃ A : Ln, A = fun c => (X (2 * c) + X (2 * c + 1)) / 2 := ⟨_, rfl⟩
 obtain ⟨D, hD⟩ : ∃ D : Ln, D = fun c => X (2 * c) - X (2 * c + 1) := ⟨_, rfl⟩
 refine zT (σ := Nat × Nat × Nat) (3 :: 4 :: 5 :: 6 :: 7 :: 8 :: 9 :: 10 :: 11 :: 12 :: 13 :: 14 :: 15 :: 16 :: 17 :: 18 :: 19 :: 20 :: 21 :: 22 :: 23 :: 24 :: 25 :: 26 :: 27 :: 28 :: 29 :: 30 :: 31 :: 32 :: 33 :: 34 :: 35 :: 36 :: 37 :: 38 :: []) (fun (j, v1, v2) => [(5, .int .i64 (2 * j : Nat)), (3, .sl r1 v1 1 0 j none), (4, .sl r2 v2 1 0 j none)]) (fun (j, v1, v2) => (AH.set H r1 (.row (iL j A) v1)).set r2 (.row (iL j D) v2)) (fun (j, v1, v2) => j ≤ h) (fun (j, v1, v2) => h - j) (0, 0, 0) rfl ?_ ?_ ?_ ?_
 ·exact Nat.zero_le _
 ·exact ⟨rfl, rfl, rfl, trivial⟩
 ·exact HLe.refl _
 ·rintro ⟨j, v1, v2⟩ hj
  dsimp only at hj ⊢
  refine AWp.of zU (dok _) rfl ?_
  by_cases hh : j < h
  ·have k1 : cells[((2 * j : Nat) : Int).toNat]? = some (.int .i64 (X (2 * j))) := hg _ (by omega)
   have k2 : cells[(((2 * j : Nat) : Int) + 1).toNat]? = some (.int .i64 (X (2 * j + 1))) := by rw [show (((2 * j : Nat) : Int) + 1).toNat = 2 * j + 1 by omega]; exact hg _ (by omega)
   have b1 := hX (2 * j) (by omega)
   have b2 := hX (2 * j + 1) (by omega)
   have hh2 := fun H => Half_c (X (2 * j) + X (2 * j + 1)) (by omega) (by omega) H
   have l1 := iL_len j A
   have l2 := iL_len j D
   (repeat' ((conv => whnf); first | refine Then.mk ?_ | left | refine zg ?_ (hh2 _) | refine zgg ?_ (hh2 _) | refine zd ?_ | (refine Both.mk ?_ ?_ <;> intro hc <;> try exact wX hc) | (intro c hc; (try (simp only [AH.zA] at hc; repeat (have hn := hc.1; replace hc := hc.2)))) | (refine ACall.to (hh2 _) ?_))) <;> (try (conv => whnf))
   refine ⟨(j + 1, v1 + 1, v2 + 1), by show j + 1 ≤ h; omega, by show h - (j + 1) < h - j; omega, ⟨congrArg (AV.int .i64) (by omega), rfl, rfl, trivial⟩, HLe.of_eq ?_⟩
   show (AH.set H r1 (.row (iL (j + 1) A) (v1 + 1))).set r2 (.row (iL (j + 1) D) (v2 + 1)) = _
   rw [← iL_snoc, ← iL_snoc, hA, hD]
   ((funext s; simp only [AH.set, AH.del]; repeat' split) <;> (first | rfl | (exfalso; omega)))
  ·have he : j = h := by omega
   subst he
   have l1 := iL_len j A
   have l2 := iL_len j D
   have hz : iL j A ++ iL j D = iL (2 * j) (spl (2 * j) X) := iL_app j A D _ (fun c hc => by
    rw [hA]; unfold spl; rw [if_pos (by omega)]) (fun c hc => by
    rw [hD]; unfold spl; rw [if_neg (by omega), show j + c - 2 * j / 2 = c by omega])
   (repeat' ((conv => whnf); first | refine Then.mk ?_ | refine zd ?_ | (refine Both.mk ?_ ?_ <;> intro hc <;> try exact wX hc) | (intro c hc; (try (simp only [AH.zA] at hc; repeat (have hn := hc.1; replace hc := hc.2)))))) <;> (try (conv => whnf))
   refine ⟨AH.set H r2 (.row (iL j D) v2), HLe.fresh _ hr2, .inr ⟨r1, by rw [AH.zR _ _ (Ne.symm hne)]; exact hr1, v1 + 1, congrArg (fun x => AV.sl r1 (v1 + 1) 1 0 x none) (by omega), ?_⟩⟩
   rw [← hz, show List.take (j * 1) (List.drop 0 (iL j D)) = iL j D by rw [List.drop_zero, Nat.mul_one, List.take_of_length_le (by simp)]]
   ((funext s; simp only [AH.set, AH.del]; repeat' split) <;> (first | rfl | (exfalso; omega)))
set_option maxRecDepth 8000 in
theorem part_rw (s n i : Nat) (hs : s ≤ 16) (hn : n ≤ s) (hi : i < s) (M : Mat) (cells : List AV) (q u : Nat) (H : AH) (hq : H q = some (.row cells u)) (hlen : cells.length = s * s) (hg : ∀ r c, r < s → c < s → cells[r * s + c]? = some (.int .i64 (M r c))) :
  ACall Tryz.prog 127 [.int .i64 s, .sl q u 1 0 (s * s) none, .int .i64 n, .int .i64 i, .bool false] H (fun y H' => y = .cs (iL n (fun k => M i k)) n ∧ H' = H) := by
 refine ACall.coldX (es := 1) (Q := fun H' => H' = H) (by rw [iL_len]; omega) ?_
 have hss : s * s ≤ 256 := Nat.mul_le_mul hs hs
 refine zQ zU (dok _) Tryz.func127 rfl (by decide) rfl ?_
 (repeat' ((conv => whnf); first | refine Then.mk ?_ | left | refine zd ?_ | (refine Both.mk ?_ ?_ <;> intro hc <;> try exact wX hc) | (intro c hc; (try (simp only [AH.zA] at hc; repeat (have hn := hc.1; replace hc := hc.2)))))) <;> (try (conv => whnf))
 refine AWp_nilrow1 11 1 rfl rfl fun r1 hr1 => ?_
 obtain ⟨A, hA⟩ : ∃ A : Ln, A = fun k => M i k := ⟨_, rfl⟩
 refine zT (σ := Nat × Nat) (11 :: 12 :: 13 :: 14 :: 15 :: 16 :: 17 :: 18 :: 19 :: 20 :: 21 :: 22 :: 23 :: 24 :: 25 :: 26 :: 27 :: 28 :: 29 :: 30 :: 31 :: 32 :: 33 :: 34 :: 35 :: 36 :: 37 :: 38 :: 39 :: 40 :: []) (fun (k, v) => [(12, .int .i64 k), (11, .sl r1 v 1 0 k none)]) (fun (k, v) => AH.set H r1 (.row (iL k A) v)) (fun (k, v) => k ≤ n) (fun (k, v) => n - k) (0, 0) rfl ?_ ?_ ?_ ?_
 ·exact Nat.zero_le _
 ·exact ⟨rfl, rfl, trivial⟩
 ·exact HLe.refl _
 ·rintro ⟨k, v⟩ hk
  dsimp only at hk ⊢
  refine AWp.of zU (dok _) rfl ?_
  have l1 := iL_len k A
  by_cases hkn : k < n
  ·have p1 : 0 ≤ (i : Int) * s := Int.mul_nonneg (by omega) (by omega)
   have p2 : (i : Int) * s + k < ((s * s : Nat) : Int) := by
    have := (place (s := s) (r := i) (c := k) (by omega) (by omega)).1
    rw [← Int.natCast_mul]; omega
   have e3 : ((i : Int) * s + k).toNat = i * s + k := by rw [← Int.natCast_mul]; omega
   have g1 : cells[((i : Int) * s + k).toNat]? = some (.int .i64 (M i k)) := by rw [e3]; exact hg _ _ (by omega) (by omega)
   (repeat' ((conv => whnf); first | refine Then.mk ?_ | left | refine zd ?_ | (refine Both.mk ?_ ?_ <;> intro hc <;> try exact wX hc) | (intro c hc; (try (simp only [AH.zA] at hc; repeat (have hn := hc.1; replace hc := hc.2)))))) <;> (try (conv => whnf))
   refine ⟨(k + 1, v + 1), by show k + 1 ≤ n; omega, by show n - (k + 1) < n - k; omega, ⟨congrArg (AV.int .i64) (by omega), rfl, trivial⟩, HLe.of_eq (Eq.symm ((AH.zS _ _ _ _).trans ?_))⟩
   refine congrArg (fun l => AH.set H r1 (.row l (v + 1))) ?_
   show iL k A ++ [AV.int .i64 (M i k)] = iL (k + 1) A
   rw [← iL_snoc, hA]
  ·have he : k = n := by omega
   subst he
   (repeat' ((conv => whnf); first | refine Then.mk ?_ | refine zd ?_ | (refine Both.mk ?_ ?_ <;> intro hc <;> try exact wX hc) | (intro c hc; (try (simp only [AH.zA] at hc; repeat (have hn := hc.1; replace hc := hc.2)))))) <;> (try (conv => whnf))
   exact .inr ⟨r1, hr1, v, rfl, by rw [hA]⟩
set_option maxRecDepth 8000 in
theorem part_cw (s n i : Nat) (hs : s ≤ 16) (hn : n ≤ s) (hi : i < s) (M : Mat) (cells : List AV) (q u : Nat) (H : AH) (hq : H q = some (.row cells u)) (hlen : cells.length = s * s) (hg : ∀ r c, r < s → c < s → cells[r * s + c]? = some (.int .i64 (M r c))) :
  ACall Tryz.prog 127 [.int .i64 s, .sl q u 1 0 (s * s) none, .int .i64 n, .int .i64 i, .bool true] H (fun y H' => y = .cs (iL n (fun k => M k i)) n ∧ H' = H) := by
 refine ACall.coldX (es := 1) (Q := fun H' => H' = H) (by rw [iL_len]; omega) ?_
 have hss : s * s ≤ 256 := Nat.mul_le_mul hs hs
 refine zQ zU (dok _) Tryz.func127 rfl (by decide) rfl ?_
 (repeat' ((conv => whnf); first | refine Then.mk ?_ | left | refine zd ?_ | (refine Both.mk ?_ ?_ <;> intro hc <;> try exact wX hc) | (intro c hc; (try (simp only [AH.zA] at hc; repeat (have hn := hc.1; replace hc := hc.2)))))) <;> (try (conv => whnf))
 refine AWp_nilrow1 11 1 rfl rfl fun r1 hr1 => ?_
 obtain ⟨A, hA⟩ : ∃ A : Ln, A = fun k => M k i := ⟨_, rfl⟩
 refine zT (σ := Nat × Nat) (11 :: 12 :: 13 :: 14 :: 15 :: 16 :: 17 :: 18 :: 19 :: 20 :: 21 :: 22 :: 23 :: 24 :: 25 :: 26 :: 27 :: 28 :: 29 :: 30 :: 31 :: 32 :: 33 :: 34 :: 35 :: 36 :: 37 :: 38 :: 39 :: 40 :: []) (fun (k, v) => [(12, .int .i64 k), (11, .sl r1 v 1 0 k none)]) (fun (k, v) => AH.set H r1 (.row (iL k A) v)) (fun (k, v) => k ≤ n) (fun (k, v) => n - k) (0, 0) rfl ?_ ?_ ?_ ?_
 ·exact Nat.zero_le _
 ·exact ⟨rfl, rfl, trivial⟩
 ·exact HLe.refl _
 ·rintro ⟨k, v⟩ hk
  dsimp only at hk ⊢
  refine AWp.of zU (dok _) rfl ?_
  have l1 := iL_len k A
  by_cases hkn : k < n
  ·have p1 : 0 ≤ (k : Int) * s := Int.mul_nonneg (by omega) (by omega)
   have p2 : (k : Int) * s + i < ((s * s : Nat) : Int) := by
    have := (place (s := s) (r := k) (c := i) (by omega) (by omega)).1
    rw [← Int.natCast_mul]; omega
   have e3 : ((k : Int) * s + i).toNat = k * s + i := by rw [← Int.natCast_mul]; omega
   have g1 : cells[((k : Int) * s + i).toNat]? = some (.int .i64 (M k i)) := by rw [e3]; exact hg _ _ (by omega) (by omega)
   (repeat' ((conv => whnf); first | refine Then.mk ?_ | left | refine zd ?_ | (refine Both.mk ?_ ?_ <;> intro hc <;> try exact wX hc) | (intro c hc; (try (simp only [AH.zA] at hc; repeat (have hn := hc.1; replace hc := hc.2)))))) <;> (try (conv => whnf))
   refine ⟨(k + 1, v + 1), by show k + 1 ≤ n; omega, by show n - (k + 1) < n - k; omega, ⟨congrArg (AV.int .i64) (by omega), rfl, trivial⟩, HLe.of_eq (Eq.symm ((AH.zS _ _ _ _).trans ?_))⟩
   refine congrArg (fun l => AH.set H r1 (.row l (v + 1))) ?_
   show iL k A ++ [AV.int .i64 (M k i)] = iL (k + 1) A
   rw [← iL_snoc, hA]
  ·have he : k = n := by omega
   subst he
   (repeat' ((conv => whnf); first | refine Then.mk ?_ | refine zd ?_ | (refine Both.mk ?_ ?_ <;> intro hc <;> try exact wX hc) | (intro c hc; (try (simp only [AH.zA] at hc; repeat (have hn := hc.1; replace hc := hc.2)))))) <;> (try (conv => whnf))
   exact .inr ⟨r1, hr1, v, rfl, by rw [hA]⟩
set_option maxRecDepth 8000 in
theorem lines_rs (s h : Nat) (hs : s ≤ 16) (h1 : 1 ≤ h) (hn : 2 * h ≤ s) (M : Mat) (hM : BndS s 2305843009213693952 M) (H : AH) :
  ACall Tryz.prog 100 [.int .i64 s, .cs (mL s M) (s * s), .int .i64 (2 * h : Nat), .bool false, .bool false] H (fun y H' => y = .cs (mL s (rowsM spl (2 * h) M)) (s * s) ∧ H' = H) := by
 refine ACall.coldX (es := 1) (Q := fun H' => H' = H) (by rw [mL_len]; omega) ?_
 have hss : s * s ≤ 256 := Nat.mul_le_mul hs hs
 have hml := mL_len s M
 refine zQ zU (dok _) Tryz.func100 rfl (by decide) rfl ?_
 (repeat' ((conv => whnf); first | refine Then.mk ?_ | left | refine zd ?_ | (refine Both.mk ?_ ?_ <;> intro hc <;> try exact wX hc) | (intro c hc; (try (simp only [AH.zA] at hc; repeat (have hn := hc.1; replace hc := hc.2)))))) <;> (try (conv => whnf))
 have hcc : H c = none := by assumption
 obtain ⟨q, hqq⟩ : ∃ q, q = c := ⟨_, rfl⟩
 rw [← hqq] at hcc ⊢
 clear hqq
 refine zT (σ := Nat) (12 :: 13 :: 14 :: 18 :: 19 :: 20 :: 21 :: 22 :: 23 :: 24 :: 25 :: 26 :: 27 :: 28 :: 29 :: 30 :: 31 :: 32 :: 33 :: 34 :: 35 :: 36 :: 37 :: 38 :: 39 :: 40 :: 41 :: 42 :: 43 :: 44 :: 45 :: 46 :: 47 :: 48 :: 49 :: 50 :: 51 :: 52 :: 53 :: 54 :: 55 :: 56 :: 57 :: 58 :: 59 :: 60 :: 61 :: []) (fun i => [(12, .int .i64 i)]) (fun i => AH.set H q (.row (mL s (rowsI spl (2 * h) i M)) 0)) (fun i => i ≤ 2 * h) (fun i => 2 * h - i) 0 rfl ?_ ?_ ?_ ?_
 ·exact Nat.zero_le _
 ·exact ⟨rfl, trivial⟩
 ·refine HLe.of_eq (congrArg (fun l => AH.set H q (.row l 0)) ?_)
  refine congrArg (iS .i64) (toL_congr fun r c _ _ => ?_)
  unfold rowsI
  rw [if_neg (by omega)]
 ·rintro i hi
  refine AWp.of zU (dok _) rfl ?_
  by_cases hin : i < 2 * h
  ·have hp := fun u K hq => part_rw s (2 * h) i hs hn (by omega) (rowsI spl (2 * h) i M) (mL s (rowsI spl (2 * h) i M)) q u K hq (mL_len _ _) (fun r c hr hc => mL_get _ hr hc)
   have hX : iL (2 * h) (fun k => rowsI spl (2 * h) i M i k) = iL (2 * h) (M i) := iL_congr fun k hk => by unfold rowsI; rw [if_neg (by omega)]
   rw [hX] at hp
   have hs2 := fun K => rsplit_k h h1 (by omega) (M i) (fun j hj => by have := hM i j (by omega) (by omega); omega) (iL (2 * h) (M i)) K (iL_len _ _) (fun j hj => iL_get _ hj)
   obtain ⟨F, hF⟩ : ∃ F, F = spl (2 * h) (M i) := ⟨_, rfl⟩
   rw [← hF] at hs2
   (repeat' ((conv => whnf); first | refine Then.mk ?_ | left | refine zg ?_ (hp _ _ (AH.zC _ _ _)) | refine zg ?_ (hs2 _) | refine zgg ?_ (hp _ _ (AH.zC _ _ _)) | refine zgg ?_ (hs2 _) | refine zd ?_ | (refine Both.mk ?_ ?_ <;> intro hc <;> try exact wX hc) | (intro c hc; (try (simp only [AH.zA] at hc; repeat (have hn := hc.1; replace hc := hc.2)))) | (refine ACall.to (hp _ _ (AH.zC _ _ _)) ?_) | (refine ACall.to (hs2 _) ?_))) <;> (try (conv => whnf))
   obtain ⟨cs, hcs⟩ : ∃ cs, cs = iL (2 * h) F := ⟨_, rfl⟩
   have hcl : cs.length = 2 * h := by rw [hcs]; exact iL_len _ F
   have hcg : ∀ j, j < 2 * h → cs[j]? = some (.int .i64 (F j)) := fun j hj => by rw [hcs]; exact iL_get F hj
   rw [← hcs]
   refine zT (σ := Nat) (14 :: 34 :: 35 :: 36 :: 37 :: 38 :: 39 :: 40 :: 41 :: 42 :: 43 :: 44 :: 45 :: 46 :: 47 :: 48 :: 49 :: 50 :: 51 :: 52 :: 53 :: 54 :: 55 :: 56 :: 57 :: 58 :: 59 :: 60 :: 61 :: []) (fun k => [(14, .int .i64 k)]) (fun k => AH.set H q (.row (mL s (fun r c => if r = i ∧ c < k then F c else rowsI spl (2 * h) i M r c)) 0)) (fun k => k ≤ 2 * h) (fun k => 2 * h - k) 0 rfl ?_ ?_ ?_ ?_
   ·exact Nat.zero_le _
   ·exact ⟨rfl, trivial⟩
   ·refine HLe.of_eq (congrArg (fun l => AH.set H q (.row l 0)) ?_)
    refine congrArg (iS .i64) (toL_congr fun r c _ _ => ?_)
    rw [if_neg (by omega)]
   ·rintro k hk
    refine AWp.of zU (dok _) rfl ?_
    by_cases hkn : k < 2 * h
    ·have p1 : 0 ≤ (i : Int) * s := Int.mul_nonneg (by omega) (by omega)
     have p2 : (i : Int) * s + k < ((s * s : Nat) : Int) := by
      have := (place (s := s) (r := i) (c := k) (by omega) (by omega)).1
      rw [← Int.natCast_mul]; omega
     have e3 : ((i : Int) * s + k).toNat = i * s + k := by rw [← Int.natCast_mul]; omega
     have g2 : cs[(k : Int).toNat]? = some (.int .i64 (F k)) := hcg k hkn
     have hl := mL_len s (fun r c => if r = i ∧ c < k then F c else rowsI spl (2 * h) i M r c)
     (repeat' ((conv => whnf); first | refine Then.mk ?_ | left | refine zd ?_ | (refine Both.mk ?_ ?_ <;> intro hc <;> try exact wX hc) | (intro c hc; (try (simp only [AH.zA] at hc; repeat (have hn := hc.1; replace hc := hc.2)))))) <;> (try (conv => whnf))
     refine ⟨k + 1, by omega, by omega, ⟨congrArg (AV.int .i64) (by omega), trivial⟩, HLe.of_eq (Eq.symm ((AH.zS _ _ _ _).trans ?_))⟩
     refine congrArg (fun l => AH.set H q (.row l 0)) ?_
     show wrA (mL s _) (0 + ((i : Int) * s + k).toNat * 1) [AV.int .i64 (F k)] = _
     rw [show 0 + ((i : Int) * s + k).toNat * 1 = i * s + k by omega, mL_set _ (by omega) (by omega)]
     refine congrArg (iS .i64) (toL_congr fun r c hr hc => ?_)
     unfold updM
     by_cases c1 : r = i ∧ c = k
     ·rw [if_pos c1, if_pos (by omega)]; congr 1; omega
     ·rw [if_neg c1]
      dsimp only
      by_cases c2 : r = i ∧ c < k
      ·rw [if_pos c2, if_pos (by omega)]
      ·rw [if_neg c2, if_neg (by omega)]
    ·have he2 : k = 2 * h := by omega
     (repeat' ((conv => whnf); first | refine Then.mk ?_ | left | refine zd ?_ | (refine Both.mk ?_ ?_ <;> intro hc <;> try exact wX hc) | (intro c hc; (try (simp only [AH.zA] at hc; repeat (have hn := hc.1; replace hc := hc.2)))))) <;> (try (conv => whnf))
     refine ⟨i + 1, by omega, by omega, ⟨congrArg (AV.int .i64) (by omega), trivial⟩, HLe.of_eq (congrArg (fun l => AH.set H q (.row l 0)) (congrArg (iS .i64) (toL_congr fun r c hr hc => ?_)))⟩
     rw [hF]
     unfold rowsI
     by_cases c1 : r = i ∧ c < k
     ·rw [if_pos c1, if_pos (by omega)]; rw [c1.1]
     ·rw [if_neg c1]
      by_cases c2 : r < i ∧ c < 2 * h
      ·rw [if_pos c2, if_pos (by omega)]
      ·rw [if_neg c2, if_neg (by omega)]
  ·have he : i = 2 * h := by omega
   subst he
   (repeat' ((conv => whnf); first | refine Then.mk ?_ | refine zd ?_ | (refine Both.mk ?_ ?_ <;> intro hc <;> try exact wX hc) | (intro c hc; (try (simp only [AH.zA] at hc; repeat (have hn := hc.1; replace hc := hc.2)))))) <;> (try (conv => whnf))
   exact .inr ⟨q, hcc, 0, rfl, rfl⟩
set_option maxRecDepth 8000 in
theorem lines_cs (s h : Nat) (hs : s ≤ 16) (h1 : 1 ≤ h) (hn : 2 * h ≤ s) (M : Mat) (hM : BndS s 2305843009213693952 M) (H : AH) :
  ACall Tryz.prog 100 [.int .i64 s, .cs (mL s M) (s * s), .int .i64 (2 * h : Nat), .bool true, .bool false] H (fun y H' => y = .cs (mL s (colsM spl (2 * h) M)) (s * s) ∧ H' = H) := by
 refine ACall.coldX (es := 1) (Q := fun H' => H' = H) (by rw [mL_len]; omega) ?_
 have hss : s * s ≤ 256 := Nat.mul_le_mul hs hs
 have hml := mL_len s M
 refine zQ zU (dok _) Tryz.func100 rfl (by decide) rfl ?_
 (repeat' ((conv => whnf); first | refine Then.mk ?_ | left | refine zd ?_ | (refine Both.mk ?_ ?_ <;> intro hc <;> try exact wX hc) | (intro c hc; (try (simp only [AH.zA] at hc; repeat (have hn := hc.1; replace hc := hc.2)))))) <;> (try (conv => whnf))
 have hcc : H c = none := by assumption
 obtain ⟨q, hqq⟩ : ∃ q, q = c := ⟨_, rfl⟩
 rw [← hqq] at hcc ⊢
 clear hqq
 refine zT (σ := Nat) (12 :: 13 :: 14 :: 18 :: 19 :: 20 :: 21 :: 22 :: 23 :: 24 :: 25 :: 26 :: 27 :: 28 :: 29 :: 30 :: 31 :: 32 :: 33 :: 34 :: 35 :: 36 :: 37 :: 38 :: 39 :: 40 :: 41 :: 42 :: 43 :: 44 :: 45 :: 46 :: 47 :: 48 :: 49 :: 50 :: 51 :: 52 :: 53 :: 54 :: 55 :: 56 :: 57 :: 58 :: 59 :: 60 :: 61 :: []) (fun i => [(12, .int .i64 i)]) (fun i => AH.set H q (.row (mL s (colsI spl (2 * h) i M)) 0)) (fun i => i ≤ 2 * h) (fun i => 2 * h - i) 0 rfl ?_ ?_ ?_ ?_
 ·exact Nat.zero_le _
 ·exact ⟨rfl, trivial⟩
 ·refine HLe.of_eq (congrArg (fun l => AH.set H q (.row l 0)) ?_)
  refine congrArg (iS .i64) (toL_congr fun r c _ _ => ?_)
  unfold colsI
  rw [if_neg (by omega)]
 ·rintro i hi
  refine AWp.of zU (dok _) rfl ?_
  by_cases hin : i < 2 * h
  ·have hp := fun u K hq => part_cw s (2 * h) i hs hn (by omega) (colsI spl (2 * h) i M) (mL s (colsI spl (2 * h) i M)) q u K hq (mL_len _ _) (fun r c hr hc => mL_get _ hr hc)
   have hX : iL (2 * h) (fun k => colsI spl (2 * h) i M k i) = iL (2 * h) (fun k => M k i) := iL_congr fun k hk => by unfold colsI; rw [if_neg (by omega)]
   rw [hX] at hp
   have hs2 := fun K => rsplit_k h h1 (by omega) (fun k => M k i) (fun j hj => by have := hM j i (by omega) (by omega); omega) (iL (2 * h) (fun k => M k i)) K (iL_len _ _) (fun j hj => iL_get _ hj)
   obtain ⟨F, hF⟩ : ∃ F, F = spl (2 * h) (fun k => M k i) := ⟨_, rfl⟩
   rw [← hF] at hs2
   (repeat' ((conv => whnf); first | refine Then.mk ?_ | left | refine zg ?_ (hp _ _ (AH.zC _ _ _)) | refine zg ?_ (hs2 _) | refine zgg ?_ (hp _ _ (AH.zC _ _ _)) | refine zgg ?_ (hs2 _) | refine zd ?_ | (refine Both.mk ?_ ?_ <;> intro hc <;> try exact wX hc) | (intro c hc; (try (simp only [AH.zA] at hc; repeat (have hn := hc.1; replace hc := hc.2)))) | (refine ACall.to (hp _ _ (AH.zC _ _ _)) ?_) | (refine ACall.to (hs2 _) ?_))) <;> (try (conv => whnf))
   obtain ⟨cs, hcs⟩ : ∃ cs, cs = iL (2 * h) F := ⟨_, rfl⟩
   have hcl : cs.length = 2 * h := by rw [hcs]; exact iL_len _ F
   have hcg : ∀ j, j < 2 * h → cs[j]? = some (.int .i64 (F j)) := fun j hj => by rw [hcs]; exact iL_get F hj
   rw [← hcs]
   refine zT (σ := Nat) (14 :: 34 :: 35 :: 36 :: 37 :: 38 :: 39 :: 40 :: 41 :: 42 :: 43 :: 44 :: 45 :: 46 :: 47 :: 48 :: 49 :: 50 :: 51 :: 52 :: 53 :: 54 :: 55 :: 56 :: 57 :: 58 :: 59 :: 60 :: 61 :: []) (fun k => [(14, .int .i64 k)]) (fun k => AH.set H q (.row (mL s (fun r c => if c = i ∧ r < k then F r else colsI spl (2 * h) i M r c)) 0)) (fun k => k ≤ 2 * h) (fun k => 2 * h - k) 0 rfl ?_ ?_ ?_ ?_
   ·exact Nat.zero_le _
   ·exact ⟨rfl, trivial⟩
   ·refine HLe.of_eq (congrArg (fun l => AH.set H q (.row l 0)) ?_)
    refine congrArg (iS .i64) (toL_congr fun r c _ _ => ?_)
    rw [if_neg (by omega)]
   ·rintro k hk
    refine AWp.of zU (dok _) rfl ?_
    by_cases hkn : k < 2 * h
    ·have p1 : 0 ≤ (k : Int) * s := Int.mul_nonneg (by omega) (by omega)
     have p2 : (k : Int) * s + i < ((s * s : Nat) : Int) := by
      have := (place (s := s) (r := k) (c := i) (by omega) (by omega)).1
      rw [← Int.natCast_mul]; omega
     have e3 : ((k : Int) * s + i).toNat = k * s + i := by rw [← Int.natCast_mul]; omega
     have g2 : cs[(k : Int).toNat]? = some (.int .i64 (F k)) := hcg k hkn
     have hl := mL_len s (fun r c => if c = i ∧ r < k then F r else colsI spl (2 * h) i M r c)
     (repeat' ((conv => whnf); first | refine Then.mk ?_ | left | refine zd ?_ | (refine Both.mk ?_ ?_ <;> intro hc <;> try exact wX hc) | (intro c hc; (try (simp only [AH.zA] at hc; repeat (have hn := hc.1; replace hc := hc.2)))))) <;> (try (conv => whnf))
     refine ⟨k + 1, by omega, by omega, ⟨congrArg (AV.int .i64) (by omega), trivial⟩, HLe.of_eq (Eq.symm ((AH.zS _ _ _ _).trans ?_))⟩
     refine congrArg (fun l => AH.set H q (.row l 0)) ?_
     show wrA (mL s _) (0 + ((k : Int) * s + i).toNat * 1) [AV.int .i64 (F k)] = _
     rw [show 0 + ((k : Int) * s + i).toNat * 1 = k * s + i by omega, mL_set _ (by omega) (by omega)]
     refine congrArg (iS .i64) (toL_congr fun r c hr hc => ?_)
     unfold updM
     by_cases c1 : r = k ∧ c = i
     ·rw [if_pos c1, if_pos (by omega)]; congr 1; omega
     ·rw [if_neg c1]
      dsimp only
      by_cases c2 : c = i ∧ r < k
      ·rw [if_pos c2, if_pos (by omega)]
      ·rw [if_neg c2, if_neg (by omega)]
    ·have he2 : k = 2 * h := by omega
     (repeat' ((conv => whnf); first | refine Then.mk ?_ | left | refine zd ?_ | (refine Both.mk ?_ ?_ <;> intro hc <;> try exact wX hc) | (intro c hc; (try (simp only [AH.zA] at hc; repeat (have hn := hc.1; replace hc := hc.2)))))) <;> (try (conv => whnf))
     refine ⟨i + 1, by omega, by omega, ⟨congrArg (AV.int .i64) (by omega), trivial⟩, HLe.of_eq (congrArg (fun l => AH.set H q (.row l 0)) (congrArg (iS .i64) (toL_congr fun r c hr hc => ?_)))⟩
     rw [hF]
     unfold colsI
     by_cases c1 : c = i ∧ r < k
     ·rw [if_pos c1, if_pos (by omega)]; rw [c1.1]
     ·rw [if_neg c1]
      by_cases c2 : r < 2 * h ∧ c < i
      ·rw [if_pos c2, if_pos (by omega)]
      ·rw [if_neg c2, if_neg (by omega)]
  ·have he : i = 2 * h := by omega
   subst he
   (repeat' ((conv => whnf); first | refine Then.mk ?_ | refine zd ?_ | (refine Both.mk ?_ ?_ <;> intro hc <;> try exact wX hc) | (intro c hc; (try (simp only [AH.zA] at hc; repeat (have hn := hc.1; replace hc := hc.2)))))) <;> (try (conv => whnf))
   exact .inr ⟨q, hcc, 0, rfl, rfl⟩
open Go.Fw Go
set_option maxRecDepth 8000 in
theorem rForward_ok (k : Nat) (hk : k ≤ 4) (a : List Int) (hl : a.length = 2 ^ k * 2 ^ k) (hi : inB 1099511627776 a = true) (hc : ∀ H, ACall Tryz.prog 99 [.int .i64 (2 ^ k : Nat), .cs (iS .i64 a) a.length, .int .i64 1099511627776] H (fun y H' => y = .int .i64 0 ∧ H' = H)) (H : AH) :
  ACall Tryz.prog 70 [.int .i64 (2 ^ k : Nat), .cs (iS .i64 a) a.length] H (fun y H' => y = resV (toL (2 ^ k) (fwd k (ofL (2 ^ k) a)), 0) ∧ H' = H) := by
 have hS := (pow_side hk).2
 have hbd := inB_bnd (by omega) hi (2 ^ k)
 have hof := toL_ofL hl
 refine zQ zU (dok _) Tryz.func70 rfl (by decide) rfl ?_
 (repeat' ((conv => whnf); first | refine Then.mk ?_ | left | refine zg ?_ (hc _) | refine zgg ?_ (hc _) | refine zd ?_ | (refine Both.mk ?_ ?_ <;> intro hc <;> try exact wX hc) | (intro c hc; (try (simp only [AH.zA] at hc; repeat (have hn := hc.1; replace hc := hc.2)))) | (refine ACall.to (hc _) ?_))) <;> (try (conv => whnf))
 rw [hl]
 obtain ⟨S, hSS⟩ : ∃ S, S = 2 ^ k := ⟨_, rfl⟩
 rw [← hSS] at hS hbd hof ⊢
 have hm0 : mL S (ofL S a) = iS .i64 a := by unfold mL; rw [hof]
 rw [← hm0]
 refine zT (σ := Nat × Mat × Nat) (1 :: 7 :: 15 :: 16 :: 17 :: 18 :: 19 :: 20 :: 21 :: 22 :: 23 :: 24 :: 25 :: 26 :: []) (fun (j, N, b) => [(7, .int .i64 (2 ^ j : Nat)), (1, .cs (mL S N) (S * S))]) (fun (j, N, b) => H)
  (fun (j, N, b) => j ≤ k ∧ BndS S b N ∧ fwd j N = fwd k (ofL S a) ∧ b * 4 ^ j ≤ 281474976710656) (fun (j, N, b) => j) (k, ofL S a, 1099511627776) rfl ?_ ?_ ?_ ?_
 ·refine ⟨Nat.le_refl _, hbd, rfl, ?_⟩
  have : 4 ^ k ≤ 4 ^ 4 := Nat.pow_le_pow_right (by omega) hk
  show 1099511627776 * 4 ^ k ≤ _
  omega
 ·exact ⟨congrArg (fun x : Nat => AV.int .i64 (x : Int)) hSS, rfl, trivial⟩
 ·exact HLe.refl _
 ·rintro ⟨j, N, b⟩ ⟨hj, hN, hfw, hb⟩
  dsimp only at hj hN hfw hb ⊢
  refine AWp.of zU (dok _) rfl ?_
  cases j with
  | zero =>
   (repeat' ((conv => whnf); first | refine Then.mk ?_ | left | refine zd ?_ | (refine Both.mk ?_ ?_ <;> intro hc <;> try exact wX hc) | (intro c hc; (try (simp only [AH.zA] at hc; repeat (have hn := hc.1; replace hc := hc.2)))))) <;> (try (conv => whnf))
   have hN0 : N = fwd k (ofL S a) := hfw
   rw [← hN0]
   unfold resV
   rw [show (toL S N).length = S * S from toL_len S N]
   exact ⟨rfl, rfl⟩
  | succ j =>
   have hP1 : 1 ≤ 2 ^ j := Nat.one_le_two_pow
   have hPS : 2 ^ (j + 1) ≤ S := by rw [hSS]; exact Nat.pow_le_pow_right (by omega) hj
   rw [pow_half] at hPS
   have hfw2 : fwd j (colsM spl (2 * 2 ^ j) (rowsM spl (2 * 2 ^ j) N)) = fwd k (ofL S a) := by rw [← pow_half]; exact hfw
   rw [pow_half]
   have hb2 : 4 * b * 4 ^ j ≤ 281474976710656 := by rw [Nat.mul_comm 4 b, Nat.mul_assoc, ← Nat.pow_succ']; exact hb
   have hb3 : 4 * b ≤ 281474976710656 := Nat.le_trans (Nat.le_mul_of_pos_right _ (Nat.pow_pos (by omega))) hb2
   have hdv : (((2 * 2 ^ j : Nat) : Int)).tdiv 2 = ((2 ^ j : Nat) : Int) := by rw [Int.tdiv_eq_ediv_of_nonneg (by omega)]; omega
   obtain ⟨P, hP⟩ : ∃ P, P = 2 ^ j := ⟨_, rfl⟩
   rw [← hP] at hP1 hPS hfw2 hdv ⊢
   obtain ⟨N1, hN1⟩ : ∃ N1, N1 = rowsM spl (2 * P) N := ⟨_, rfl⟩
   obtain ⟨N2, hN2⟩ : ∃ N2, N2 = colsM spl (2 * P) N1 := ⟨_, rfl⟩
   have c1 : BndS S (2 * (b : Int)) N1 := by rw [hN1]; exact rows_bd hPS (by omega) (fun x hx c hc => spl_bd hx c hc) hN
   have c2 : BndS S ((4 * b : Nat) : Int) N2 := by
    have : ((4 * b : Nat) : Int) = 2 * (2 * (b : Int)) := by omega
    rw [hN2, this]; exact cols_bd hPS (by omega) (fun x hx c hc => spl_bd hx c hc) c1
   have call1 := fun K => lines_rs S P hS.1 hP1 hPS N (fun r c hr hc => by have := hN r c hr hc; omega) K
   have call2 := fun K => lines_cs S P hS.1 hP1 hPS N1 (fun r c hr hc => by have := c1 r c hr hc; omega) K
   rw [← hN1] at call1
   rw [← hN2] at call2
   have hfw3 : fwd j N2 = fwd k (ofL S a) := by rw [hN2, hN1]; exact hfw2
   (repeat' ((conv => whnf); first | refine Then.mk ?_ | left | refine zg ?_ (call1 _) | refine zg ?_ (call2 _) | refine zgg ?_ (call1 _) | refine zgg ?_ (call2 _) | refine zd ?_ | (refine Both.mk ?_ ?_ <;> intro hc <;> try exact wX hc) | (intro c hc; (try (simp only [AH.zA] at hc; repeat (have hn := hc.1; replace hc := hc.2)))) | (refine ACall.to (call1 _) ?_) | (refine ACall.to (call2 _) ?_))) <;> (try (conv => whnf))
   exact ⟨(j, N2, 4 * b), ⟨by show j ≤ k; omega, c2, hfw3, hb2⟩, by show j < j + 1; omega, ⟨congrArg (AV.int .i64) (by rw [← hP]; exact hdv), rfl, trivial⟩, HLe.refl _⟩
set_option maxRecDepth 8000 in
theorem rForward_c (s : Int) (h1 : -9223372036854775808 ≤ s) (h2 : s ≤ 9223372036854775807) (a : List Int) (hb : a.length ≤ 1000000) (H : AH) :
  ACall Tryz.prog 70 [.int .i64 s, .cs (iS .i64 a) a.length] H (fun y H' => y = resV (sqR 1099511627776 fwd s a) ∧ H' = H) := by
 obtain ⟨R, hR⟩ : ∃ R, R = sqR 1099511627776 fwd s a := ⟨_, rfl⟩
 rw [← hR]
 unfold sqR at hR
 have hc := fun H => check_c s h1 h2 1099511627776 (by omega) a hb H
 by_cases h : IsSide s ∧ (a.length : Int) = s * s
 ·rw [if_pos h] at hR
  simp only [if_pos h] at hc
  obtain ⟨k, hk, rfl⟩ := side_pow h.1
  have hl : a.length = 2 ^ k * 2 ^ k := by have := h.2; rw [← Int.natCast_mul] at this; omega
  by_cases hi : inB 1099511627776 a = true
  ·rw [if_pos hi, Int.toNat_natCast, Nat.log2_two_pow] at hR
   simp only [if_pos hi] at hc
   rw [hR]
   exact rForward_ok k hk a hl hi hc H
  ·rw [if_neg hi] at hR
   simp only [if_neg hi] at hc
   generalize 2 ^ k = S at *
   refine ACall.told ?_
   refine zQ zU (dok _) Tryz.func70 rfl (by decide) rfl ?_
   (repeat' ((conv => whnf); first | refine Then.mk ?_ | refine zg ?_ (hc _) | refine zgg ?_ (hc _) | refine zd ?_ | (refine Both.mk ?_ ?_ <;> intro hc <;> try exact wX hc) | (intro c hc; (try (simp only [AH.zA] at hc; repeat (have hn := hc.1; replace hc := hc.2)))) | (refine ACall.to (hc _) ?_))) <;> (try (conv => whnf))
   exact res_told hR
 ·rw [if_neg h] at hR
  simp only [if_neg h] at hc
  refine ACall.told ?_
  refine zQ zU (dok _) Tryz.func70 rfl (by decide) rfl ?_
  (repeat' ((conv => whnf); first | refine Then.mk ?_ | refine zg ?_ (hc _) | refine zgg ?_ (hc _) | refine zd ?_ | (refine Both.mk ?_ ?_ <;> intro hc <;> try exact wX hc) | (intro c hc; (try (simp only [AH.zA] at hc; repeat (have hn := hc.1; replace hc := hc.2)))) | (refine ACall.to (hc _) ?_))) <;> (try (conv => whnf))
  exact res_told hR
open Go.Fw Go
def cellZ (S : Nat) (p : Nat × Nat) (i k : Nat) : Int := (((p.1 + i) * S + p.2 + k : Nat) : Int)
def lineZ (S s : Nat) (p : Nat × Nat) (i : Nat) : List Int := (List.range s).map (cellZ S p i)
def blkZ (S s : Nat) (p : Nat × Nat) (n : Nat) : List Int := (List.range n).flatMap (lineZ S s p)
def zgz (S : Nat) : Nat → List Int
 | 0 => [0]
 | j + 1 => zgz S j ++ blkZ S (2 ^ j) (0, 2 ^ j) (2 ^ j) ++ blkZ S (2 ^ j) (2 ^ j, 0) (2 ^ j) ++ blkZ S (2 ^ j) (2 ^ j, 2 ^ j) (2 ^ j)
theorem lineZ_succ (S n : Nat) (p : Nat × Nat) (i : Nat) : (List.range (n + 1)).map (cellZ S p i) = (List.range n).map (cellZ S p i) ++ [cellZ S p i n] := by simp [List.range_succ]
theorem blkZ_succ (S s n : Nat) (p : Nat × Nat) : blkZ S s p (n + 1) = blkZ S s p n ++ lineZ S s p n := by simp [blkZ, List.range_succ]
theorem blkZ_len (S s n : Nat) (p : Nat × Nat) : (blkZ S s p n).length = n * s := by
 induction n with
 | zero => simp [blkZ]
 | succ n ih => rw [blkZ_succ, List.length_append, ih]; simp [lineZ, Nat.add_mul]
open Go.Fw Go
theorem zgz_len (S j : Nat) : (zgz S j).length ≤ 4 ^ j := by
 induction j with
 | zero => simp [zgz]
 | succ j ih =>
  have e : 4 ^ (j + 1) = 4 ^ j + 3 * (2 ^ j * 2 ^ j) := by
   rw [Nat.pow_succ, show (4 : Nat) ^ j = 2 ^ j * 2 ^ j by rw [← Nat.mul_pow]]; omega
  show (zgz S j ++ _ ++ _ ++ _).length ≤ _
  simp only [List.length_append, blkZ_len]
  omega
set_option maxRecDepth 8000 in
theorem zig_ok (K : Nat) (hK : K ≤ 4) (H : AH) : ACall Tryz.prog 13 [.int .i64 (2 ^ K : Nat)] H (fun y H' => y = resV (zgz (2 ^ K) K, 0) ∧ H' = H) := by
 have hS := (pow_side hK).2
 have ss := fun H => sides_c ((2 ^ K : Nat) : Int) (by omega) (by omega) H
 rw [decide_eq_true (pow_side hK).1] at ss
 refine ACall.told ?_
 refine zQ zU (dok _) Tryz.func13 rfl (by decide) rfl ?_
 (repeat' ((conv => whnf); first | left | refine zg ?_ (ss _) | refine zgg ?_ (ss _) | refine zd ?_ | (refine Both.mk ?_ ?_ <;> intro hc <;> try exact wX hc) | (intro c hc; (try (simp only [AH.zA] at hc; repeat (have hn := hc.1; replace hc := hc.2)))) | (refine ACall.to (ss _) ?_))) <;> (try (conv => whnf))
 refine Then.mk ?_
 (repeat' ((conv => whnf); first | left | refine zg ?_ (ss _) | refine zgg ?_ (ss _) | refine zd ?_ | (refine Both.mk ?_ ?_ <;> intro hc <;> try exact wX hc) | (intro c hc; (try (simp only [AH.zA] at hc; repeat (have hn := hc.1; replace hc := hc.2)))) | (refine ACall.to (ss _) ?_))) <;> (try (conv => whnf))
 refine Then.mk ?_
 (repeat' ((conv => whnf); first | left | refine zg ?_ (ss _) | refine zgg ?_ (ss _) | refine zd ?_ | (refine Both.mk ?_ ?_ <;> intro hc <;> try exact wX hc) | (intro c hc; (try (simp only [AH.zA] at hc; repeat (have hn := hc.1; replace hc := hc.2)))) | (refine ACall.to (ss _) ?_))) <;> (try (conv => whnf))
 refine Then.mk ?_
 (repeat' ((conv => whnf); first | refine Then.mk ?_ | refine Or.inr (Or.inl ?_) | refine zd ?_ | (refine Both.mk ?_ ?_ <;> intro hc <;> try exact wX hc) | (intro c hc; (try (simp only [AH.zA] at hc; repeat (have hn := hc.1; replace hc := hc.2)))))) <;> (try (conv => whnf))
 have hcc : H c = none := by assumption
 obtain ⟨q, hqq⟩ : ∃ q, q = c := ⟨_, rfl⟩
 rw [← hqq] at hcc ⊢
 clear hqq
 obtain ⟨S, hSS⟩ : ∃ S, S = 2 ^ K := ⟨_, rfl⟩
 rw [← hSS] at hS ⊢
 refine zT (σ := Nat × Nat) (4 :: 5 :: 7 :: 8 :: 9 :: 14 :: 15 :: 16 :: 17 :: 18 :: 19 :: 20 :: 21 :: 22 :: 23 :: 24 :: 25 :: 26 :: 27 :: 28 :: 29 :: 30 :: 31 :: 32 :: 33 :: 34 :: 35 :: 36 :: 37 :: 38 :: 39 :: 40 :: 41 :: 42 :: 43 :: 44 :: 45 :: 46 :: 47 :: 48 :: 49 :: 50 :: 51 :: 52 :: 53 :: 54 :: 55 :: 56 :: []) (fun (j, v) => [(5, .int .i64 (2 ^ j : Nat)), (4, .sl q v 1 0 (zgz S j).length none)]) (fun (j, v) => AH.set H q (.row (iS .i64 (zgz S j)) v)) (fun (j, v) => j ≤ K) (fun (j, v) => K - j) (0, 0) rfl ?_ ?_ ?_ ?_
 ·exact Nat.zero_le _
 ·exact ⟨rfl, rfl, trivial⟩
 ·exact HLe.refl _
 ·rintro ⟨j, v⟩ hj
  dsimp only at hj ⊢
  refine AWp.of zU (dok _) rfl ?_
  by_cases hjK : j < K
  ·have hP1 : 1 ≤ 2 ^ j := Nat.one_le_two_pow
   have hPS : 2 ^ (j + 1) ≤ S := by rw [hSS]; exact Nat.pow_le_pow_right (by omega) hjK
   rw [pow_half] at hPS
   have hzl := zgz_len S j
   have h4 : 4 ^ j ≤ 4 ^ 3 := Nat.pow_le_pow_right (by omega) (by omega)
   have hzs : zgz S (j + 1) = zgz S j ++ blkZ S (2 ^ j) (0, 2 ^ j) (2 ^ j) ++ blkZ S (2 ^ j) (2 ^ j, 0) (2 ^ j) ++ blkZ S (2 ^ j) (2 ^ j, 2 ^ j) (2 ^ j) := rfl
   have hpw : ((2 ^ (j + 1) : Nat) : Int) = ((2 ^ j : Nat) : Int) * 2 := by rw [pow_half]; omega
   obtain ⟨P, hP⟩ : ∃ P, P = 2 ^ j := ⟨_, rfl⟩
   rw [← hP] at hP1 hPS hzs hpw ⊢
   obtain ⟨Z, hZ⟩ : ∃ Z, Z = zgz S j := ⟨_, rfl⟩
   rw [← hZ] at hzl hzs ⊢
   (repeat' ((conv => whnf); first | refine Then.mk ?_ | left | refine zd ?_ | (refine Both.mk ?_ ?_ <;> intro hc <;> try exact wX hc) | (intro c hc; (try (simp only [AH.zA] at hc; repeat (have hn := hc.1; replace hc := hc.2)))))) <;> (try (conv => whnf))
   have hbl0 := blkZ_len S P P (0, P)
   have hPP : P * P ≤ 64 := Nat.mul_le_mul (show P ≤ 8 by omega) (show P ≤ 8 by omega)
   obtain ⟨Lx, hLx⟩ : ∃ Lx : Nat → List Int, Lx = fun x => if x = 0 then Z else if x = 1 then Z ++ blkZ S P (0, P) P else if x = 2 then Z ++ blkZ S P (0, P) P ++ blkZ S P (P, 0) P else Z ++ blkZ S P (0, P) P ++ blkZ S P (P, 0) P ++ blkZ S P (P, P) P := ⟨_, rfl⟩
   have x0 : Lx 0 = Z := by rw [hLx]; rfl
   have x1 : Lx 1 = Z ++ blkZ S P (0, P) P := by rw [hLx]; rfl
   have x2 : Lx 2 = Z ++ blkZ S P (0, P) P ++ blkZ S P (P, 0) P := by rw [hLx]; rfl
   have x3 : Lx 3 = Z ++ blkZ S P (0, P) P ++ blkZ S P (P, 0) P ++ blkZ S P (P, P) P := by rw [hLx]; rfl
   clear hLx
   refine zT (σ := Nat × Nat) (4 :: 7 :: 8 :: 9 :: 28 :: 29 :: 30 :: 31 :: 32 :: 33 :: 34 :: 35 :: 36 :: 37 :: 38 :: 39 :: 40 :: 41 :: 42 :: 43 :: 44 :: 45 :: 46 :: 47 :: 48 :: 49 :: 50 :: 51 :: 52 :: 53 :: 54 :: 55 :: 56 :: []) (fun (x, v) => [(28, .int .i64 x), (4, .sl q v 1 0 (Lx x).length none)]) (fun (x, v) => AH.set H q (.row (iS .i64 (Lx x)) v)) (fun (x, v) => x ≤ 3) (fun (x, v) => 3 - x) (0, v) rfl ?_ ?_ ?_ ?_
   ·exact Nat.zero_le _
   ·exact ⟨rfl, by show AV.sl q v 1 0 Z.length none = AV.sl q v 1 0 (Lx 0).length none; rw [x0], trivial⟩
   ·refine HLe.of_eq ?_
    show AH.set H q (.row (iS .i64 (Lx 0)) v) = _
    rw [x0]
   ·rintro ⟨x, v⟩ hx
    dsimp only at hx ⊢
    refine AWp.of zU (dok _) rfl ?_
    rcases (show x = 0 ∨ x = 1 ∨ x = 2 ∨ x = 3 by omega) with rfl | rfl | rfl | rfl
    ·(repeat' ((conv => whnf); first | refine Then.mk ?_ | left | refine zd ?_ | (refine Both.mk ?_ ?_ <;> intro hc <;> try exact wX hc) | (intro c hc; (try (simp only [AH.zA] at hc; repeat (have hn := hc.1; replace hc := hc.2)))))) <;> (try (conv => whnf))
     have hc1 : H c = none := by assumption
     have hcq : c ≠ q := by assumption
     obtain ⟨w, hw⟩ : ∃ w, w = c := ⟨_, rfl⟩
     rw [← hw] at hc1 hcq ⊢
     clear hw
     have hqw : q ≠ w := Ne.symm hcq
     obtain ⟨L, hL⟩ : ∃ L, L = Lx 0 := ⟨_, rfl⟩
     have hLl : L.length ≤ 600 := by rw [hL, x0]; (try simp only [List.length_append, blkZ_len]); omega
     have hres : Lx 1 = L ++ blkZ S P (0, P) P := by rw [hL, x0, x1]
     rw [← hL]
     refine zT (σ := Nat × Nat) (4 :: 8 :: 9 :: 33 :: 34 :: 35 :: 36 :: 37 :: 38 :: 39 :: 40 :: 41 :: 42 :: 43 :: 44 :: 45 :: 46 :: 47 :: 48 :: 49 :: 50 :: 51 :: 52 :: 53 :: 54 :: 55 :: []) (fun (i, v) => [(33, .int .i64 i), (4, .sl q v 1 0 (L ++ blkZ S P (0, P) i).length none)]) (fun (i, v) => (AH.set H w (.row [.int .i64 0, .int .i64 (P : Int)] 0)).set q (.row (iS .i64 (L ++ blkZ S P (0, P) i)) v)) (fun (i, v) => i ≤ P) (fun (i, v) => P - i) (0, v) rfl ?_ ?_ ?_ ?_
     ·exact Nat.zero_le _
     ·exact ⟨rfl, by show AV.sl q v 1 0 L.length none = AV.sl q v 1 0 (L ++ blkZ S P (0, P) 0).length none; rw [show blkZ S P (0, P) 0 = [] from rfl, List.append_nil], trivial⟩
     ·refine HLe.of_eq ?_
      show (AH.set H w _).set q (.row (iS .i64 (L ++ blkZ S P (0, P) 0)) v) = _
      rw [show blkZ S P (0, P) 0 = [] from rfl, List.append_nil]
      ((funext s; simp only [AH.set, AH.del]; repeat' split) <;> (first | rfl | (exfalso; omega)))
     ·rintro ⟨i, v⟩ hi
      dsimp only at hi ⊢
      refine AWp.of zU (dok _) rfl ?_
      by_cases hiP : i < P
      ·(repeat' ((conv => whnf); first | refine Then.mk ?_ | left | refine zd ?_ | (refine Both.mk ?_ ?_ <;> intro hc <;> try exact wX hc) | (intro c hc; (try (simp only [AH.zA] at hc; repeat (have hn := hc.1; replace hc := hc.2)))))) <;> (try (conv => whnf))
       have hbs := blkZ_succ S P i (0, P)
       have hbl := blkZ_len S P i (0, P)
       have hb2 : i * P ≤ 64 := Nat.mul_le_mul (show i ≤ 8 by omega) (show P ≤ 8 by omega)
       obtain ⟨D, hD⟩ : ∃ D, D = L ++ blkZ S P (0, P) i := ⟨_, rfl⟩
       have hDl : D.length ≤ 700 := by rw [hD, List.length_append]; omega
       have hDn : L ++ blkZ S P (0, P) (i + 1) = D ++ lineZ S P (0, P) i := by rw [hbs, hD, List.append_assoc]
       rw [← hD]
       have m0 : 0 ≤ ((0 : Int) + i) * S := Int.mul_nonneg (by omega) (by omega)
       have m2 : ((0 : Int) + i) * S = (((0 + i) * S : Nat) : Int) := by rw [Int.natCast_mul]; rfl
       have m1 : (0 + i) * S ≤ 256 := Nat.mul_le_mul (show 0 + i ≤ 16 by omega) (show S ≤ 16 by omega)
       refine zT (σ := Nat × Nat) (4 :: 9 :: 37 :: 38 :: 39 :: 40 :: 41 :: 42 :: 43 :: 44 :: 45 :: 46 :: 47 :: 48 :: 49 :: 50 :: 51 :: 52 :: 53 :: 54 :: []) (fun (k, v) => [(37, .int .i64 k), (4, .sl q v 1 0 (D ++ (List.range k).map (cellZ S (0, P) i)).length none)]) (fun (k, v) => (AH.set H w (.row [.int .i64 0, .int .i64 (P : Int)] 0)).set q (.row (iS .i64 (D ++ (List.range k).map (cellZ S (0, P) i))) v)) (fun (k, v) => k ≤ P) (fun (k, v) => P - k) (0, v) rfl ?_ ?_ ?_ ?_
       ·exact Nat.zero_le _
       ·exact ⟨rfl, by show AV.sl q v 1 0 D.length none = AV.sl q v 1 0 (D ++ []).length none; rw [List.append_nil], trivial⟩
       ·refine HLe.of_eq ?_
        show (AH.set H w _).set q (.row (iS .i64 (D ++ [])) v) = _
        rw [List.append_nil]
       ·rintro ⟨k, v⟩ hk
        dsimp only at hk ⊢
        refine AWp.of zU (dok _) rfl ?_
        have hEl : (D ++ (List.range k).map (cellZ S (0, P) i)).length ≤ 800 := by simp; omega
        by_cases hkP : k < P
        ·have hls := lineZ_succ S k (0, P) i
         obtain ⟨E, hE⟩ : ∃ E, E = D ++ (List.range k).map (cellZ S (0, P) i) := ⟨_, rfl⟩
         have hEn : D ++ (List.range (k + 1)).map (cellZ S (0, P) i) = E ++ [cellZ S (0, P) i k] := by rw [hls, hE, List.append_assoc]
         rw [← hE] at hEl ⊢
         have hcell : cellZ S (0, P) i k = ((0 : Int) + i) * S + (P : Int) + k := by rw [m2]; show (((0 + i) * S + P + k : Nat) : Int) = _; generalize (0 + i) * S = W; omega
         (repeat' ((conv => whnf); first | refine Then.mk ?_ | left | refine zd ?_ | (refine Both.mk ?_ ?_ <;> intro hc <;> try exact wX hc) | (intro c hc; (try (simp only [AH.zA] at hc; repeat (have hn := hc.1; replace hc := hc.2)))))) <;> (try (conv => whnf))
         refine ⟨(k + 1, v + 1), by show k + 1 ≤ P; omega, by show P - (k + 1) < P - k; omega, ⟨congrArg (AV.int .i64) (by omega), ?_, trivial⟩, HLe.of_eq ?_⟩
         ·show AV.sl q (v + 1) 1 0 (E.length + 1) none = AV.sl q (v + 1) 1 0 (D ++ (List.range (k + 1)).map (cellZ S (0, P) i)).length none
          rw [hEn, List.length_append]; rfl
         ·show (AH.set H w _).set q (.row (iS .i64 (D ++ (List.range (k + 1)).map (cellZ S (0, P) i))) (v + 1)) = _
          rw [hEn, ← iS_snoc, hcell]
          exact (AH.zS _ _ _ _).symm
        ·have hkE : k = P := by omega
         (repeat' ((conv => whnf); first | refine Then.mk ?_ | left | refine zd ?_ | (refine Both.mk ?_ ?_ <;> intro hc <;> try exact wX hc) | (intro c hc; (try (simp only [AH.zA] at hc; repeat (have hn := hc.1; replace hc := hc.2)))))) <;> (try (conv => whnf))
         have hfin : D ++ (List.range k).map (cellZ S (0, P) i) = L ++ blkZ S P (0, P) (i + 1) := by rw [hDn, hkE]; rfl
         refine ⟨(i + 1, v), by show i + 1 ≤ P; omega, by show P - (i + 1) < P - i; omega, ⟨congrArg (AV.int .i64) (by omega), ?_, trivial⟩, HLe.of_eq ?_⟩
         ·rw [← hfin]; rfl
         ·show (AH.set H w _).set q (.row (iS .i64 (L ++ blkZ S P (0, P) (i + 1))) v) = _
          rw [← hfin]
      ·have hiE : i = P := by omega
       (repeat' ((conv => whnf); first | refine Then.mk ?_ | left | refine zd ?_ | (refine Both.mk ?_ ?_ <;> intro hc <;> try exact wX hc) | (intro c hc; (try (simp only [AH.zA] at hc; repeat (have hn := hc.1; replace hc := hc.2)))))) <;> (try (conv => whnf))
       refine ⟨(1, v), by show 1 ≤ 3; omega, by show 3 - 1 < 3 - 0; omega, ⟨rfl, ?_, trivial⟩, ?_⟩
       ·show AV.sl q v 1 0 (L ++ blkZ S P (0, P) i).length none = AV.sl q v 1 0 (Lx 1).length none
        rw [hres, hiE]
       ·show HLe (AH.set H q (.row (iS .i64 (Lx 1)) v)) _
        rw [hres, hiE]
        exact HLe.set (HLe.fresh _ hc1) _ _
    ·(repeat' ((conv => whnf); first | refine Then.mk ?_ | left | refine zd ?_ | (refine Both.mk ?_ ?_ <;> intro hc <;> try exact wX hc) | (intro c hc; (try (simp only [AH.zA] at hc; repeat (have hn := hc.1; replace hc := hc.2)))))) <;> (try (conv => whnf))
     have hc1 : H c = none := by assumption
     have hcq : c ≠ q := by assumption
     obtain ⟨w, hw⟩ : ∃ w, w = c := ⟨_, rfl⟩
     rw [← hw] at hc1 hcq ⊢
     clear hw
     have hqw : q ≠ w := Ne.symm hcq
     obtain ⟨L, hL⟩ : ∃ L, L = Lx 1 := ⟨_, rfl⟩
     have hLl : L.length ≤ 600 := by rw [hL, x1]; (try simp only [List.length_append, blkZ_len]); omega
     have hres : Lx 2 = L ++ blkZ S P (P, 0) P := by rw [hL, x1, x2]
     rw [← hL]
     refine zT (σ := Nat × Nat) (4 :: 8 :: 9 :: 33 :: 34 :: 35 :: 36 :: 37 :: 38 :: 39 :: 40 :: 41 :: 42 :: 43 :: 44 :: 45 :: 46 :: 47 :: 48 :: 49 :: 50 :: 51 :: 52 :: 53 :: 54 :: 55 :: []) (fun (i, v) => [(33, .int .i64 i), (4, .sl q v 1 0 (L ++ blkZ S P (P, 0) i).length none)]) (fun (i, v) => (AH.set H w (.row [.int .i64 (P : Int), .int .i64 0] 0)).set q (.row (iS .i64 (L ++ blkZ S P (P, 0) i)) v)) (fun (i, v) => i ≤ P) (fun (i, v) => P - i) (0, v) rfl ?_ ?_ ?_ ?_
     ·exact Nat.zero_le _
     ·exact ⟨rfl, by show AV.sl q v 1 0 L.length none = AV.sl q v 1 0 (L ++ blkZ S P (P, 0) 0).length none; rw [show blkZ S P (P, 0) 0 = [] from rfl, List.append_nil], trivial⟩
     ·refine HLe.of_eq ?_
      show (AH.set H w _).set q (.row (iS .i64 (L ++ blkZ S P (P, 0) 0)) v) = _
      rw [show blkZ S P (P, 0) 0 = [] from rfl, List.append_nil]
      ((funext s; simp only [AH.set, AH.del]; repeat' split) <;> (first | rfl | (exfalso; omega)))
     ·rintro ⟨i, v⟩ hi
      dsimp only at hi ⊢
      refine AWp.of zU (dok _) rfl ?_
      by_cases hiP : i < P
      ·(repeat' ((conv => whnf); first | refine Then.mk ?_ | left | refine zd ?_ | (refine Both.mk ?_ ?_ <;> intro hc <;> try exact wX hc) | (intro c hc; (try (simp only [AH.zA] at hc; repeat (have hn := hc.1; replace hc := hc.2)))))) <;> (try (conv => whnf))
       have hbs := blkZ_succ S P i (P, 0)
       have hbl := blkZ_len S P i (P, 0)
       have hb2 : i * P ≤ 64 := Nat.mul_le_mul (show i ≤ 8 by omega) (show P ≤ 8 by omega)
       obtain ⟨D, hD⟩ : ∃ D, D = L ++ blkZ S P (P, 0) i := ⟨_, rfl⟩
       have hDl : D.length ≤ 700 := by rw [hD, List.length_append]; omega
       have hDn : L ++ blkZ S P (P, 0) (i + 1) = D ++ lineZ S P (P, 0) i := by rw [hbs, hD, List.append_assoc]
       rw [← hD]
       have m0 : 0 ≤ (((P : Int) : Int) + i) * S := Int.mul_nonneg (by omega) (by omega)
       have m2 : (((P : Int) : Int) + i) * S = (((P + i) * S : Nat) : Int) := by rw [Int.natCast_mul]; rfl
       have m1 : (P + i) * S ≤ 256 := Nat.mul_le_mul (show P + i ≤ 16 by omega) (show S ≤ 16 by omega)
       refine zT (σ := Nat × Nat) (4 :: 9 :: 37 :: 38 :: 39 :: 40 :: 41 :: 42 :: 43 :: 44 :: 45 :: 46 :: 47 :: 48 :: 49 :: 50 :: 51 :: 52 :: 53 :: 54 :: []) (fun (k, v) => [(37, .int .i64 k), (4, .sl q v 1 0 (D ++ (List.range k).map (cellZ S (P, 0) i)).length none)]) (fun (k, v) => (AH.set H w (.row [.int .i64 (P : Int), .int .i64 0] 0)).set q (.row (iS .i64 (D ++ (List.range k).map (cellZ S (P, 0) i))) v)) (fun (k, v) => k ≤ P) (fun (k, v) => P - k) (0, v) rfl ?_ ?_ ?_ ?_
       ·exact Nat.zero_le _
       ·exact ⟨rfl, by show AV.sl q v 1 0 D.length none = AV.sl q v 1 0 (D ++ []).length none; rw [List.append_nil], trivial⟩
       ·refine HLe.of_eq ?_
        show (AH.set H w _).set q (.row (iS .i64 (D ++ [])) v) = _
        rw [List.append_nil]
       ·rintro ⟨k, v⟩ hk
        dsimp only at hk ⊢
        refine AWp.of zU (dok _) rfl ?_
        have hEl : (D ++ (List.range k).map (cellZ S (P, 0) i)).length ≤ 800 := by simp; omega
        by_cases hkP : k < P
        ·have hls := lineZ_succ S k (P, 0) i
         obtain ⟨E, hE⟩ : ∃ E, E = D ++ (List.range k).map (cellZ S (P, 0) i) := ⟨_, rfl⟩
         have hEn : D ++ (List.range (k + 1)).map (cellZ S (P, 0) i) = E ++ [cellZ S (P, 0) i k] := by rw [hls, hE, List.append_assoc]
         rw [← hE] at hEl ⊢
         have hcell : cellZ S (P, 0) i k = (((P : Int) : Int) + i) * S + 0 + k := by rw [m2]; show (((P + i) * S + 0 + k : Nat) : Int) = _; generalize (P + i) * S = W; omega
         (repeat' ((conv => whnf); first | refine Then.mk ?_ | left | refine zd ?_ | (refine Both.mk ?_ ?_ <;> intro hc <;> try exact wX hc) | (intro c hc; (try (simp only [AH.zA] at hc; repeat (have hn := hc.1; replace hc := hc.2)))))) <;> (try (conv => whnf))
         refine ⟨(k + 1, v + 1), by show k + 1 ≤ P; omega, by show P - (k + 1) < P - k; omega, ⟨congrArg (AV.int .i64) (by omega), ?_, trivial⟩, HLe.of_eq ?_⟩
         ·show AV.sl q (v + 1) 1 0 (E.length + 1) none = AV.sl q (v + 1) 1 0 (D ++ (List.range (k + 1)).map (cellZ S (P, 0) i)).length none
          rw [hEn, List.length_append]; rfl
         ·show (AH.set H w _).set q (.row (iS .i64 (D ++ (List.range (k + 1)).map (cellZ S (P, 0) i))) (v + 1)) = _
          rw [hEn, ← iS_snoc, hcell]
          exact (AH.zS _ _ _ _).symm
        ·have hkE : k = P := by omega
         (repeat' ((conv => whnf); first | refine Then.mk ?_ | left | refine zd ?_ | (refine Both.mk ?_ ?_ <;> intro hc <;> try exact wX hc) | (intro c hc; (try (simp only [AH.zA] at hc; repeat (have hn := hc.1; replace hc := hc.2)))))) <;> (try (conv => whnf))
         have hfin : D ++ (List.range k).map (cellZ S (P, 0) i) = L ++ blkZ S P (P, 0) (i + 1) := by rw [hDn, hkE]; rfl
         refine ⟨(i + 1, v), by show i + 1 ≤ P; omega, by show P - (i + 1) < P - i; omega, ⟨congrArg (AV.int .i64) (by omega), ?_, trivial⟩, HLe.of_eq ?_⟩
         ·rw [← hfin]; rfl
         ·show (AH.set H w _).set q (.row (iS .i64 (L ++ blkZ S P (P, 0) (i + 1))) v) = _
          rw [← hfin]
      ·have hiE : i = P := by omega
       (repeat' ((conv => whnf); first | refine Then.mk ?_ | left | refine zd ?_ | (refine Both.mk ?_ ?_ <;> intro hc <;> try exact wX hc) | (intro c hc; (try (simp only [AH.zA] at hc; repeat (have hn := hc.1; replace hc := hc.2)))))) <;> (try (conv => whnf))
       refine ⟨(2, v), by show 2 ≤ 3; omega, by show 3 - 2 < 3 - 1; omega, ⟨rfl, ?_, trivial⟩, ?_⟩
       ·show AV.sl q v 1 0 (L ++ blkZ S P (P, 0) i).length none = AV.sl q v 1 0 (Lx 2).length none
        rw [hres, hiE]
       ·show HLe (AH.set H q (.row (iS .i64 (Lx 2)) v)) _
        rw [hres, hiE]
        exact HLe.set (HLe.fresh _ hc1) _ _
    ·(repeat' ((conv => whnf); first | refine Then.mk ?_ | left | refine zd ?_ | (refine Both.mk ?_ ?_ <;> intro hc <;> try exact wX hc) | (intro c hc; (try (simp only [AH.zA] at hc; repeat (have hn := hc.1; replace hc := hc.2)))))) <;> (try (conv => whnf))
     have hc1 : H c = none := by assumption
     have hcq : c ≠ q := by assumption
     obtain ⟨w, hw⟩ : ∃ w, w = c := ⟨_, rfl⟩
     rw [← hw] at hc1 hcq ⊢
     clear hw
     have hqw : q ≠ w := Ne.symm hcq
     obtain ⟨L, hL⟩ : ∃ L, L = Lx 2 := ⟨_, rfl⟩
     have hLl : L.length ≤ 600 := by rw [hL, x2]; (try simp only [List.length_append, blkZ_len]); omega
     have hres : Lx 3 = L ++ blkZ S P (P, P) P := by rw [hL, x2, x3]
     rw [← hL]
     refine zT (σ := Nat × Nat) (4 :: 8 :: 9 :: 33 :: 34 :: 35 :: 36 :: 37 :: 38 :: 39 :: 40 :: 41 :: 42 :: 43 :: 44 :: 45 :: 46 :: 47 :: 48 :: 49 :: 50 :: 51 :: 52 :: 53 :: 54 :: 55 :: []) (fun (i, v) => [(33, .int .i64 i), (4, .sl q v 1 0 (L ++ blkZ S P (P, P) i).length none)]) (fun (i, v) => (AH.set H w (.row [.int .i64 (P : Int), .int .i64 (P : Int)] 0)).set q (.row (iS .i64 (L ++ blkZ S P (P, P) i)) v)) (fun (i, v) => i ≤ P) (fun (i, v) => P - i) (0, v) rfl ?_ ?_ ?_ ?_
     ·exact Nat.zero_le _
     ·exact ⟨rfl, by show AV.sl q v 1 0 L.length none = AV.sl q v 1 0 (L ++ blkZ S P (P, P) 0).length none; rw [show blkZ S P (P, P) 0 = [] from rfl, List.append_nil], trivial⟩
     ·refine HLe.of_eq ?_
      show (AH.set H w _).set q (.row (iS .i64 (L ++ blkZ S P (P, P) 0)) v) = _
      rw [show blkZ S P (P, P) 0 = [] from rfl, List.append_nil]
      ((funext s; simp only [AH.set, AH.del]; repeat' split) <;> (first | rfl | (exfalso; omega)))
     ·rintro ⟨i, v⟩ hi
      dsimp only at hi ⊢
      refine AWp.of zU (dok _) rfl ?_
      by_cases hiP : i < P
      ·(repeat' ((conv => whnf); first | refine Then.mk ?_ | left | refine zd ?_ | (refine Both.mk ?_ ?_ <;> intro hc <;> try exact wX hc) | (intro c hc; (try (simp only [AH.zA] at hc; repeat (have hn := hc.1; replace hc := hc.2)))))) <;> (try (conv => whnf))
       have hbs := blkZ_succ S P i (P, P)
       have hbl := blkZ_len S P i (P, P)
       have hb2 : i * P ≤ 64 := Nat.mul_le_mul (show i ≤ 8 by omega) (show P ≤ 8 by omega)
       obtain ⟨D, hD⟩ : ∃ D, D = L ++ blkZ S P (P, P) i := ⟨_, rfl⟩
       have hDl : D.length ≤ 700 := by rw [hD, List.length_append]; omega
       have hDn : L ++ blkZ S P (P, P) (i + 1) = D ++ lineZ S P (P, P) i := by rw [hbs, hD, List.append_assoc]
       rw [← hD]
       have m0 : 0 ≤ (((P : Int) : Int) + i) * S := Int.mul_nonneg (by omega) (by omega)
       have m2 : (((P : Int) : Int) + i) * S = (((P + i) * S : Nat) : Int) := by rw [Int.natCast_mul]; rfl
       have m1 : (P + i) * S ≤ 256 := Nat.mul_le_mul (show P + i ≤ 16 by omega) (show S ≤ 16 by omega)
       refine zT (σ := Nat × Nat) (4 :: 9 :: 37 :: 38 :: 39 :: 40 :: 41 :: 42 :: 43 :: 44 :: 45 :: 46 :: 47 :: 48 :: 49 :: 50 :: 51 :: 52 :: 53 :: 54 :: []) (fun (k, v) => [(37, .int .i64 k), (4, .sl q v 1 0 (D ++ (List.range k).map (cellZ S (P, P) i)).length none)]) (fun (k, v) => (AH.set H w (.row [.int .i64 (P : Int), .int .i64 (P : Int)] 0)).set q (.row (iS .i64 (D ++ (List.range k).map (cellZ S (P, P) i))) v)) (fun (k, v) => k ≤ P) (fun (k, v) => P - k) (0, v) rfl ?_ ?_ ?_ ?_
       ·exact Nat.zero_le _
       ·exact ⟨rfl, by show AV.sl q v 1 0 D.length none = AV.sl q v 1 0 (D ++ []).length none; rw [List.append_nil], trivial⟩
       ·refine HLe.of_eq ?_
        show (AH.set H w _).set q (.row (iS .i64 (D ++ [])) v) = _
        rw [List.append_nil]
       ·rintro ⟨k, v⟩ hk
        dsimp only at hk ⊢
        refine AWp.of zU (dok _) rfl ?_
        have hEl : (D ++ (List.range k).map (cellZ S (P, P) i)).length ≤ 800 := by simp; omega
        by_cases hkP : k < P
        ·have hls := lineZ_succ S k (P, P) i
         obtain ⟨E, hE⟩ : ∃ E, E = D ++ (List.range k).map (cellZ S (P, P) i) := ⟨_, rfl⟩
         have hEn : D ++ (List.range (k + 1)).map (cellZ S (P, P) i) = E ++ [cellZ S (P, P) i k] := by rw [hls, hE, List.append_assoc]
         rw [← hE] at hEl ⊢
         have hcell : cellZ S (P, P) i k = (((P : Int) : Int) + i) * S + (P : Int) + k := by rw [m2]; show (((P + i) * S + P + k : Nat) : Int) = _; generalize (P + i) * S = W; omega
         (repeat' ((conv => whnf); first | refine Then.mk ?_ | left | refine zd ?_ | (refine Both.mk ?_ ?_ <;> intro hc <;> try exact wX hc) | (intro c hc; (try (simp only [AH.zA] at hc; repeat (have hn := hc.1; replace hc := hc.2)))))) <;> (try (conv => whnf))
         refine ⟨(k + 1, v + 1), by show k + 1 ≤ P; omega, by show P - (k + 1) < P - k; omega, ⟨congrArg (AV.int .i64) (by omega), ?_, trivial⟩, HLe.of_eq ?_⟩
         ·show AV.sl q (v + 1) 1 0 (E.length + 1) none = AV.sl q (v + 1) 1 0 (D ++ (List.range (k + 1)).map (cellZ S (P, P) i)).length none
          rw [hEn, List.length_append]; rfl
         ·show (AH.set H w _).set q (.row (iS .i64 (D ++ (List.range (k + 1)).map (cellZ S (P, P) i))) (v + 1)) = _
          rw [hEn, ← iS_snoc, hcell]
          exact (AH.zS _ _ _ _).symm
        ·have hkE : k = P := by omega
         (repeat' ((conv => whnf); first | refine Then.mk ?_ | left | refine zd ?_ | (refine Both.mk ?_ ?_ <;> intro hc <;> try exact wX hc) | (intro c hc; (try (simp only [AH.zA] at hc; repeat (have hn := hc.1; replace hc := hc.2)))))) <;> (try (conv => whnf))
         have hfin : D ++ (List.range k).map (cellZ S (P, P) i) = L ++ blkZ S P (P, P) (i + 1) := by rw [hDn, hkE]; rfl
         refine ⟨(i + 1, v), by show i + 1 ≤ P; omega, by show P - (i + 1) < P - i; omega, ⟨congrArg (AV.int .i64) (by omega), ?_, trivial⟩, HLe.of_eq ?_⟩
         ·rw [← hfin]; rfl
         ·show (AH.set H w _).set q (.row (iS .i64 (L ++ blkZ S P (P, P) (i + 1))) v) = _
          rw [← hfin]
      ·have hiE : i = P := by omega
       (repeat' ((conv => whnf); first | refine Then.mk ?_ | left | refine zd ?_ | (refine Both.mk ?_ ?_ <;> intro hc <;> try exact wX hc) | (intro c hc; (try (simp only [AH.zA] at hc; repeat (have hn := hc.1; replace hc := hc.2)))))) <;> (try (conv => whnf))
       refine ⟨(3, v), by show 3 ≤ 3; omega, by show 3 - 3 < 3 - 2; omega, ⟨rfl, ?_, trivial⟩, ?_⟩
       ·show AV.sl q v 1 0 (L ++ blkZ S P (P, P) i).length none = AV.sl q v 1 0 (Lx 3).length none
        rw [hres, hiE]
       ·show HLe (AH.set H q (.row (iS .i64 (Lx 3)) v)) _
        rw [hres, hiE]
        exact HLe.set (HLe.fresh _ hc1) _ _
    ·(repeat' ((conv => whnf); first | refine Then.mk ?_ | left | refine zd ?_ | (refine Both.mk ?_ ?_ <;> intro hc <;> try exact wX hc) | (intro c hc; (try (simp only [AH.zA] at hc; repeat (have hn := hc.1; replace hc := hc.2)))))) <;> (try (conv => whnf))
     have hE3 : Lx 3 = zgz S (j + 1) := by rw [x3, hzs]
     refine ⟨(j + 1, v), by show j + 1 ≤ K; omega, by show K - (j + 1) < K - j; omega, ⟨congrArg (AV.int .i64) hpw.symm, ?_, trivial⟩, HLe.of_eq ?_⟩
     ·rw [hE3]; rfl
     ·show AH.set H q (.row (iS .i64 (zgz S (j + 1))) v) = _
      rw [hE3]
  ·have he : j = K := by omega
   subst he
   have hgt : ¬ ((2 ^ j : Nat) : Int) < (S : Int) := by rw [← hSS]; omega
   (repeat' ((conv => whnf); first | left | refine zd ?_ | (refine Both.mk ?_ ?_ <;> intro hc <;> try exact wX hc) | (intro c hc; (try (simp only [AH.zA] at hc; repeat (have hn := hc.1; replace hc := hc.2)))))) <;> (try (conv => whnf))
   refine Then.mk ?_
   (repeat' ((conv => whnf); first | left | refine zd ?_ | (refine Both.mk ?_ ?_ <;> intro hc <;> try exact wX hc) | (intro c hc; (try (simp only [AH.zA] at hc; repeat (have hn := hc.1; replace hc := hc.2)))))) <;> (try (conv => whnf))
   refine Then.mk ?_
   (repeat' ((conv => whnf); first | left | refine zd ?_ | (refine Both.mk ?_ ?_ <;> intro hc <;> try exact wX hc) | (intro c hc; (try (simp only [AH.zA] at hc; repeat (have hn := hc.1; replace hc := hc.2)))))) <;> (try (conv => whnf))
   refine Then.mk (AWq.in ?_)
   refine AWp_freeze1 (es := 1) (n := (zgz S j).length) (lim := none) (cells := iS .i64 (zgz S j)) 2 rfl rfl (AH.zC _ _ _) (by simp) ?_
   refine AWp.of zU (dok _) rfl ?_
   (repeat' ((conv => whnf); first | refine Then.mk ?_ | refine zd ?_ | (refine Both.mk ?_ ?_ <;> intro hc <;> try exact wX hc) | (intro c hc; (try (simp only [AH.zA] at hc; repeat (have hn := hc.1; replace hc := hc.2)))))) <;> (try (conv => whnf))
   exact ⟨_, H, AVle.refl _, HLe.del _ (HLe.fresh _ hcc) hcc, rfl, rfl⟩
open Go.Fw Go
def plc (c : Nat → Nat) : Nat → Nat
 | 0 => 0
 | k + 1 => plc c k + c k
theorem plc_le {c : Nat → Nat} {a b : Nat} (h : a ≤ b) : plc c a ≤ plc c b := by
 induction b with
 | zero => rw [Nat.le_zero.1 h]; exact Nat.le_refl _
 | succ b ih =>
  by_cases e : a = b + 1
  ·rw [e]; exact Nat.le_refl _
  ·have := ih (by omega)
   show plc c a ≤ plc c b + c b
   omega
theorem plc_one {c : Nat → Nat} {s n : Nat} (h : s < n) : plc c s + c s ≤ plc c n := plc_le (c := c) (a := s + 1) h
theorem plc_add {c : Nat → Nat} {s a : Nat} : ∀ {n : Nat}, plc (fun k => if k = s then c k + a else c k) n = plc c n + (if s < n then a else 0)
 | 0 => by simp [plc]
 | n + 1 => by
  unfold plc
  rw [plc_add (n := n)]
  by_cases h1 : n = s
  ·subst h1; simp; omega
  ·by_cases h2 : s < n
   ·rw [if_pos h2, if_neg h1, if_pos (show s < n + 1 by omega)]; omega
   ·rw [if_neg h2, if_neg h1, if_neg (show ¬ s < n + 1 by omega)]; omega
theorem plc_half {c : Nat → Nat} : ∀ {n : Nat}, 2 * plc (fun k => (c k + 1) / 2) n ≤ plc c n + n
 | 0 => by simp [plc]
 | n + 1 => by
  unfold plc
  have := plc_half (c := c) (n := n)
  omega
def upM (c : Nat → Nat) (s : Nat) : Nat → Nat := fun k => if k = s then c k + 32 else c k
def seeM (n : Nat) (c : Nat → Nat) (s : Nat) : Nat → Nat := if 32768 < plc (upM c s) n then fun k => (upM c s k + 1) / 2 else upM c s
structure MdOk (n : Nat) (c : Nat → Nat) : Prop where
 hn : n ≤ 1024
 pos : ∀ k, k < n → 1 ≤ c k
 sum : plc c n ≤ 32768
theorem MdOk.le {n : Nat} {c : Nat → Nat} (h : MdOk n c) {k : Nat} (hk : k < n) : c k ≤ 32768 := by
 have := plc_one (c := c) hk; have := h.sum; omega
theorem MdOk.tot {n : Nat} {c : Nat → Nat} (h : MdOk n c) {s : Nat} (hs : s < n) : 1 ≤ plc c n := by
 have := plc_one (c := c) hs; have := h.pos s hs; omega
theorem plc_ones : ∀ n, plc (fun _ => 1) n = n
 | 0 => rfl
 | n + 1 => by unfold plc; rw [plc_ones n]
theorem MdOk.new {n : Nat} (h : n ≤ 1024) : MdOk n fun _ => 1 := ⟨h, fun _ _ => Nat.le_refl _, by rw [plc_ones]; omega⟩
theorem MdOk.see {n : Nat} {c : Nat → Nat} (h : MdOk n c) {s : Nat} (hs : s < n) : MdOk n (seeM n c s) := by
 have hu : plc (upM c s) n = plc c n + 32 := by
  have := plc_add (c := c) (s := s) (a := 32) (n := n)
  rw [if_pos hs] at this
  exact this
 have hp : ∀ k, k < n → 1 ≤ upM c s k := fun k hk => by
  have := h.pos k hk
  unfold upM; split <;> omega
 have := h.sum; have := h.hn
 unfold seeM
 split
 ·refine ⟨h.hn, fun k hk => ?_, ?_⟩
  ·have := hp k hk
   show 1 ≤ (upM c s k + 1) / 2
   omega
  ·have := plc_half (c := upM c s) (n := n)
   omega
 ·exact ⟨h.hn, hp, by omega⟩
structure Cs where
 V : Nat
 W : Nat
 L : Nat
structure CsOk (σ : Cs) : Prop where
 lo : 16777216 ≤ σ.W
 hi : σ.W ≤ 4294967296
 room : σ.V + σ.W ≤ 4294967296 * 256 ^ σ.L
def nrw (σ : Cs) (p c t : Nat) : Cs := ⟨σ.V + σ.W / t * p, σ.W / t * c, σ.L⟩
def shf : Nat → Cs → Cs
 | 0, σ => σ
 | f + 1, σ => if σ.W < 16777216 then shf f ⟨σ.V * 256, σ.W * 256, σ.L + 1⟩ else σ
def stp (σ : Cs) (p c t : Nat) : Cs := shf 3 (nrw σ p c t)
def cs0 : Cs := ⟨0, 4294967296, 0⟩
theorem cs0_ok : CsOk cs0 := ⟨by decide, by decide, by decide⟩
theorem shf_done {σ : Cs} (h : 16777216 ≤ σ.W) : ∀ f, shf f σ = σ
 | 0 => rfl
 | f + 1 => by unfold shf; rw [if_neg (by omega)]
theorem shf_ex : ∀ (f : Nat) (σ : Cs), 16777216 ≤ σ.W * 256 ^ f → σ.W ≤ 4294967296 → ∃ d, d ≤ f ∧ shf f σ = ⟨σ.V * 256 ^ d, σ.W * 256 ^ d, σ.L + d⟩ ∧ 16777216 ≤ σ.W * 256 ^ d ∧ σ.W * 256 ^ d ≤ 4294967296
 | 0, σ, h, h2 => ⟨0, Nat.le_refl _, by simp [shf], by simpa using h, by simpa using h2⟩
 | f + 1, σ, h, h2 => by
  unfold shf
  by_cases hw : σ.W < 16777216
  ·rw [if_pos hw]
   obtain ⟨d, hd, he, h3, h4⟩ := shf_ex f ⟨σ.V * 256, σ.W * 256, σ.L + 1⟩ (by show _ ≤ σ.W * 256 * 256 ^ f; rw [Nat.mul_assoc, Nat.mul_comm 256, ← Nat.pow_succ]; exact h) (by show σ.W * 256 ≤ _; omega)
   have e : ∀ x : Nat, x * 256 * 256 ^ d = x * 256 ^ (d + 1) := fun x => by rw [Nat.mul_assoc, Nat.mul_comm 256, ← Nat.pow_succ]
   refine ⟨d + 1, by omega, ?_, ?_, ?_⟩
   ·rw [he]
    show Cs.mk (σ.V * 256 * 256 ^ d) (σ.W * 256 * 256 ^ d) (σ.L + 1 + d) = _
    rw [e, e, show σ.L + 1 + d = σ.L + (d + 1) by omega]
   ·rw [← e]; exact h3
   ·rw [← e]; exact h4
  ·rw [if_neg hw]
   exact ⟨0, by omega, by simp, by simp; omega, by simpa using h2⟩
structure StOk (p c t : Nat) : Prop where
 c1 : 1 ≤ c
 pc : p + c ≤ t
 t1 : t ≤ 32768
theorem nrw_r {σ : Cs} (h : CsOk σ) {t : Nat} (h1 : 1 ≤ t) (h2 : t ≤ 32768) : 512 ≤ σ.W / t ∧ σ.W / t * t ≤ σ.W ∧ σ.W / t ≤ 4294967296 := by
 refine ⟨?_, Nat.div_mul_le_self _ _, Nat.le_trans (Nat.div_le_self _ _) h.hi⟩
 rw [Nat.le_div_iff_mul_le (by omega)]
 have := h.lo; omega
theorem nrw_ok {σ : Cs} (h : CsOk σ) {p c t : Nat} (hs : StOk p c t) : 512 ≤ (nrw σ p c t).W ∧ (nrw σ p c t).W ≤ σ.W ∧ (nrw σ p c t).V + (nrw σ p c t).W ≤ σ.V + σ.W ∧ σ.W / t * p ≤ σ.W := by
 obtain ⟨h1, h2, h3⟩ := nrw_r h (t := t) (by have := hs.c1; have := hs.pc; omega) hs.t1
 have a1 : σ.W / t * p + σ.W / t * c ≤ σ.W / t * t := by rw [← Nat.mul_add]; exact Nat.mul_le_mul_left _ hs.pc
 have a2 : σ.W / t ≤ σ.W / t * c := Nat.le_mul_of_pos_right _ hs.c1
 show 512 ≤ σ.W / t * c ∧ σ.W / t * c ≤ σ.W ∧ σ.V + σ.W / t * p + σ.W / t * c ≤ _ ∧ _
 omega
theorem stp_ex {σ : Cs} (h : CsOk σ) {p c t : Nat} (hs : StOk p c t) : ∃ d, d ≤ 2 ∧ stp σ p c t = ⟨(σ.V + σ.W / t * p) * 256 ^ d, σ.W / t * c * 256 ^ d, σ.L + d⟩ ∧ CsOk (stp σ p c t) := by
  obtain ⟨h1, h2, h3, h4⟩ := nrw_ok h hs
  obtain ⟨d, hd, he, h5, h6⟩ := shf_ex 3 (nrw σ p c t) (by have : (256 : Nat) ^ 3 = 16777216 := by decide
                                                           rw [this]; omega) (by have := h.hi; omega)
  have hr := h.room
  have hd2 : d ≤ 2 := by
    by_cases e : d = 3
    · subst e
      have : (256 : Nat) ^ 3 = 16777216 := by decide
      rw [this] at h6
      omega
    · omega
  refine ⟨d, hd2, he, ?_⟩
  unfold stp
  rw [he]
  refine ⟨h5, h6, ?_⟩
  show (nrw σ p c t).V * 256 ^ d + (nrw σ p c t).W * 256 ^ d ≤ 4294967296 * 256 ^ (σ.L + d)
  rw [← Nat.add_mul, Nat.pow_add, ← Nat.mul_assoc]
  exact Nat.mul_le_mul_right _ (by omega)
theorem stp_ok {σ : Cs} (h : CsOk σ) {p c t : Nat} (hs : StOk p c t) : CsOk (stp σ p c t) := let ⟨_, _, _, h⟩ := stp_ex h hs; h
def dig : Nat → Nat → List UInt8
 | 0, _ => []
 | L + 1, x => dig L (x / 256) ++ [UInt8.ofNat (x % 256)]
@[simp] theorem dig_len : ∀ (L x : Nat), (dig L x).length = L
 | 0, _ => rfl
 | L + 1, x => by simp [dig, dig_len L]
theorem dig_snoc (L x b : Nat) (h : b < 256) : dig (L + 1) (x * 256 + b) = dig L x ++ [UInt8.ofNat b] := by
 show dig L ((x * 256 + b) / 256) ++ [UInt8.ofNat ((x * 256 + b) % 256)] = _
 rw [show (x * 256 + b) / 256 = x by omega, show (x * 256 + b) % 256 = b by omega]
theorem dig_snoc0 (L x : Nat) : dig (L + 1) (x * 256) = dig L x ++ [0] := by
 show dig L (x * 256 / 256) ++ [UInt8.ofNat (x * 256 % 256)] = _
 rw [Nat.mul_div_cancel _ (by decide), Nat.mul_mod_left]
 rfl
theorem dig_zeros (L x : Nat) : ∀ k, dig (L + k) (x * 256 ^ k) = dig L x ++ List.replicate k 0
 | 0 => by simp
 | k + 1 => by
  rw [← Nat.add_assoc, Nat.pow_succ, ← Nat.mul_assoc]
  rw [dig_snoc0, dig_zeros L x k, List.append_assoc, List.replicate_succ']
theorem dig_getD : ∀ (L x j : Nat), j < L → (dig L x).getD j 0 = UInt8.ofNat (x / 256 ^ (L - 1 - j) % 256)
 | 0, _, _, h => by omega
 | L + 1, x, j, h => by
  unfold dig
  by_cases e : j = L
  ·subst e
   rw [List.getD_eq_getElem?_getD, List.getElem?_append_right (by simp)]
   simp
  ·rw [List.getD_eq_getElem?_getD, List.getElem?_append_left (by simp; omega), ← List.getD_eq_getElem?_getD, dig_getD L (x / 256) j (by omega), Nat.div_div_eq_div_mul, ← Nat.pow_succ', show L + 1 - 1 - j = (L - 1 - j) + 1 by omega]
def bv (b : List UInt8) : Nat → Nat
 | 0 => 0
 | j + 1 => bv b j * 256 + (b.getD j 0).toNat
theorem bv_dig {L x : Nat} (h : x < 256 ^ L) : ∀ j, j ≤ L → bv (dig L x) j = x / 256 ^ (L - j)
 | 0, _ => by rw [Nat.sub_zero, Nat.div_eq_of_lt h]; rfl
 | j + 1, hj => by
  unfold bv
  rw [bv_dig h j (by omega), dig_getD L x j (by omega)]
  have e : L - j = (L - (j + 1)) + 1 := by omega
  rw [e, Nat.pow_succ, ← Nat.div_div_eq_div_mul, show L - 1 - j = L - (j + 1) by omega]
  generalize x / 256 ^ (L - (j + 1)) = y
  have : (UInt8.ofNat (y % 256)).toNat = y % 256 := by simp
  rw [this]; omega
theorem bv_lt (b : List UInt8) : ∀ j, bv b j < 256 ^ j
 | 0 => Nat.one_pos
 | j + 1 => by
  unfold bv
  have := bv_lt b j
  have h2 : (b.getD j 0).toNat < 256 := (b.getD j 0).toNat_lt
  rw [Nat.pow_succ]; omega
theorem bv_congr {a b : List UInt8} : ∀ j, (∀ i, i < j → a.getD i 0 = b.getD i 0) → bv a j = bv b j
 | 0, _ => rfl
 | j + 1, h => by unfold bv; rw [bv_congr j (fun i hi => h i (by omega)), h j (by omega)]
def trimN (bs : List UInt8) : Nat → Nat
 | 0 => 0
 | n + 1 => if bs.getD n 0 = 0 then trimN bs n else n + 1
theorem trimN_zero (bs : List UInt8) : ∀ n i, trimN bs n ≤ i → i < n → bs.getD i 0 = 0
 | 0, _, _, h => by omega
 | n + 1, i, h1, h2 => by
  unfold trimN at h1
  split at h1
  ·rename_i h
   by_cases e : i = n
   ·rw [e]; exact h
   ·exact trimN_zero bs n i h1 (by omega)
  ·omega
def trim (bs : List UInt8) : List UInt8 := bs.take (trimN bs bs.length)
theorem trim_getD (bs : List UInt8) (i : Nat) : (trim bs).getD i 0 = bs.getD i 0 := by
 unfold trim
 rw [List.getD_eq_getElem?_getD, List.getElem?_take]
 by_cases h : i < trimN bs bs.length
 ·rw [if_pos h, ← List.getD_eq_getElem?_getD]
 ·rw [if_neg h]
  by_cases h2 : i < bs.length
  ·exact (trimN_zero bs bs.length i (by omega) h2).symm
  ·rw [List.getD_eq_getElem?_getD, List.getElem?_eq_none (by omega)]
def codeS (σ : Cs) : List UInt8 := trim (dig (σ.L + 4) σ.V)
theorem bv_code {σ : Cs} (h : CsOk σ) {j : Nat} (hj : j ≤ σ.L + 4) : bv (codeS σ) j = σ.V / 256 ^ (σ.L + 4 - j) := by
 have hr := h.room; have hl := h.lo
 rw [← bv_dig (L := σ.L + 4) (x := σ.V) (by rw [Nat.pow_add, show (256 : Nat) ^ 4 = 4294967296 by decide]; omega) j hj]
 exact bv_congr j fun i _ => trim_getD _ _
structure Es where
 M : Nat → Nat → Nat
 σ : Cs
def es0 : Es := ⟨fun _ _ => 1, cs0⟩
structure EsOk (n : Nat) (E : Es) : Prop where
 md : ∀ k, MdOk n (E.M k)
 cs : CsOk E.σ
theorem es0_ok {n : Nat} (h : n ≤ 1024) : EsOk n es0 := ⟨fun _ => MdOk.new h, cs0_ok⟩
def symE (n : Nat) (E : Es) (k s : Nat) : Es := ⟨fun j => if j = k then seeM n (E.M k) s else E.M j, stp E.σ (plc (E.M k) s) (E.M k s) (plc (E.M k) n)⟩
theorem EsOk.st {n : Nat} {E : Es} (h : EsOk n E) (k : Nat) {s : Nat} (hs : s < n) : StOk (plc (E.M k) s) (E.M k s) (plc (E.M k) n) :=
 ⟨(h.md k).pos s hs, plc_one hs, (h.md k).sum⟩
theorem EsOk.sym {n : Nat} {E : Es} (h : EsOk n E) (k : Nat) {s : Nat} (hs : s < n) : EsOk n (symE n E k s) := by
 refine ⟨fun j => ?_, stp_ok h.cs (h.st k hs)⟩
 show MdOk n (if j = k then seeM n (E.M k) s else E.M j)
 split
 ·exact (h.md k).see hs
 ·exact h.md j
structure Lies (σ τ : Cs) : Prop where
 len : σ.L ≤ τ.L
 lo : σ.V * 256 ^ (τ.L - σ.L) ≤ τ.V
 hi : τ.V < (σ.V + σ.W) * 256 ^ (τ.L - σ.L)
theorem Lies.refl {σ : Cs} (h : CsOk σ) : Lies σ σ := ⟨Nat.le_refl _, by simp, by have := h.lo; simp; omega⟩
theorem Lies.step {σ τ : Cs} (h : CsOk σ) {p c t : Nat} (hs : StOk p c t) (hl : Lies (stp σ p c t) τ) :
  Lies σ τ ∧ (σ.V + σ.W / t * p) * 256 ^ (τ.L - σ.L) ≤ τ.V ∧ τ.V < (σ.V + σ.W / t * p + σ.W / t * c) * 256 ^ (τ.L - σ.L) := by
 obtain ⟨d, hd, he, _⟩ := stp_ex h hs
 obtain ⟨_, _, h3, _⟩ := nrw_ok h hs
 have h3 : σ.V + σ.W / t * p + σ.W / t * c ≤ σ.V + σ.W := h3
 obtain ⟨l1, l2, l3⟩ := hl
 rw [he] at l1 l2 l3
 have l1 : σ.L + d ≤ τ.L := l1
 have l2 : (σ.V + σ.W / t * p) * 256 ^ d * 256 ^ (τ.L - (σ.L + d)) ≤ τ.V := l2
 have l3 : τ.V < ((σ.V + σ.W / t * p) * 256 ^ d + σ.W / t * c * 256 ^ d) * 256 ^ (τ.L - (σ.L + d)) := l3
 have e : 256 ^ d * 256 ^ (τ.L - (σ.L + d)) = 256 ^ (τ.L - σ.L) := by rw [← Nat.pow_add]; congr 1; omega
 rw [Nat.mul_assoc, e] at l2
 rw [← Nat.add_mul, Nat.mul_assoc, e] at l3
 refine ⟨⟨by omega, Nat.le_trans (Nat.mul_le_mul_right _ (by omega)) l2, Nat.lt_of_lt_of_le l3 (Nat.mul_le_mul_right _ h3)⟩, l2, l3⟩
def k_lowR (b : List UInt8) (σ : Cs) : Nat := bv b (σ.L + 4) - σ.V
theorem Lies.low {σ τ : Cs} (ht : CsOk τ) (hl : Lies σ τ) : σ.V ≤ bv (codeS τ) (σ.L + 4) ∧ bv (codeS τ) (σ.L + 4) = τ.V / 256 ^ (τ.L - σ.L) := by
 have h1 := hl.len
 rw [bv_code ht (by omega), show τ.L + 4 - (σ.L + 4) = τ.L - σ.L by omega]
 exact ⟨(Nat.le_div_iff_mul_le (Nat.pow_pos (by decide))).2 hl.lo, rfl⟩
theorem Lies.at {σ τ : Cs} (h : CsOk σ) (ht : CsOk τ) {p c t : Nat} (hs : StOk p c t) (hl : Lies (stp σ p c t) τ) :
  p ≤ k_lowR (codeS τ) σ / (σ.W / t) ∧ k_lowR (codeS τ) σ / (σ.W / t) < p + c := by
 obtain ⟨h1, h2, h3⟩ := Lies.step h hs hl
 obtain ⟨h4, h5⟩ := Lies.low ht h1
 obtain ⟨r1, _, _⟩ := nrw_r h (t := t) (by have := hs.c1; have := hs.pc; omega) hs.t1
 have hp : 0 < 256 ^ (τ.L - σ.L) := Nat.pow_pos (by decide)
 have h2 := (Nat.le_div_iff_mul_le hp).2 h2
 have h3 := (Nat.div_lt_iff_lt_mul hp).2 h3
 unfold k_lowR
 rw [h5]
 generalize τ.V / 256 ^ (τ.L - σ.L) = x at *
 constructor
 ·rw [Nat.le_div_iff_mul_le (by omega), Nat.mul_comm]; omega
 ·rw [Nat.div_lt_iff_lt_mul (by omega), Nat.mul_comm, Nat.mul_add]; omega
open Go.Fw Go
def inN (x : Int) (n : Nat) : Prop := 0 ≤ x ∧ x < n
instance (x : Int) (n : Nat) : Decidable (inN x n) := inferInstanceAs (Decidable (_ ∧ _))
def SizesP (n many : Int) : Prop := 1 ≤ n ∧ n ≤ 1024 ∧ 1 ≤ many ∧ many ≤ 256
instance (n many : Int) : Decidable (SizesP n many) := inferInstanceAs (Decidable (_ ∧ _))
def fnd (c : Nat → Nat) (x n : Nat) : Nat := ((List.range n).find? fun s => decide (x < plc c (s + 1))).getD 0
theorem fnd_ok {c : Nat → Nat} {x n : Nat} (h : x < plc c n) : fnd c x n < n ∧ plc c (fnd c x n) ≤ x ∧ x < plc c (fnd c x n + 1) := by
 have hn : 0 < n := by
  cases n with
  | zero => simp [plc] at h
  | succ n => omega
 unfold fnd
 cases hf : (List.range n).find? fun s => decide (x < plc c (s + 1)) with
 | none =>
  rw [List.find?_eq_none] at hf
  have := hf (n - 1) (by simp; omega)
  rw [show n - 1 + 1 = n by omega] at this
  simp at this; omega
 | some s =>
  have h1 := List.find?_some hf
  have h2 := List.mem_of_find?_eq_some hf
  simp at h1 h2
  refine ⟨h2, ?_, h1⟩
  show plc c s ≤ x
  by_cases e : s = 0
  ·rw [e]; exact Nat.zero_le _
  ·rw [List.find?_eq_some_iff_append] at hf
   obtain ⟨_, xs, ys, hab, hlt⟩ := hf
   have hl : xs.length = s := by
    have := congrArg (fun l => l[xs.length]?) hab
    simp at this
    rw [List.getElem?_eq_some_iff] at this
    obtain ⟨hx, hy⟩ := this
    simpa using hy
   have hm : s - 1 ∈ xs := by
    have h3 : (List.range n)[s - 1]? = xs[s - 1]? := by rw [hab, List.getElem?_append_left (by omega)]
    rw [List.getElem?_range (by omega)] at h3
    exact List.mem_of_getElem? h3.symm
   have := hlt (s - 1) hm
   rw [show s - 1 + 1 = s by omega] at this
   simp at this; exact this
theorem fnd_eq {c : Nat → Nat} {x n s : Nat} (hs : s < n) (h1 : plc c s ≤ x) (h2 : x < plc c (s + 1)) : fnd c x n = s := by
 obtain ⟨a, b, d⟩ := fnd_ok (c := c) (x := x) (n := n) (Nat.lt_of_lt_of_le h2 (plc_le (c := c) (a := s + 1) hs))
 generalize fnd c x n = t at *
 by_cases e : t < s
 ·have := plc_le (c := c) (a := t + 1) (b := s) e; omega
 ·by_cases e2 : s < t
  ·have := plc_le (c := c) (a := s + 1) (b := t) e2; omega
  ·omega
def atR (b : List UInt8) (σ : Cs) (t : Nat) : Nat := k_lowR b σ / (σ.W / t)
def decSym (n : Nat) (b : List UInt8) (E : Es) (k : Nat) : Option (Nat × Es) :=
 if atR b E.σ (plc (E.M k) n) < plc (E.M k) n then
  some (fnd (E.M k) (atR b E.σ (plc (E.M k) n)) n, symE n E k (fnd (E.M k) (atR b E.σ (plc (E.M k) n)) n))
 else none
structure RdOk (b : List UInt8) (σ : Cs) : Prop where
 le : σ.V ≤ bv b (σ.L + 4)
 lt : bv b (σ.L + 4) < σ.V + σ.W
theorem rd0_ok (b : List UInt8) : RdOk b cs0 := by
 refine ⟨Nat.zero_le _, ?_⟩
 have := bv_lt b 4
 rw [show (256 : Nat) ^ 4 = 4294967296 by decide] at this
 show bv b 4 < 0 + 4294967296
 omega
theorem bv_more (b : List UInt8) (j : Nat) : ∀ d, bv b j * 256 ^ d ≤ bv b (j + d) ∧ bv b (j + d) < (bv b j + 1) * 256 ^ d
 | 0 => by simp
 | d + 1 => by
  obtain ⟨h1, h2⟩ := bv_more b j d
  have h3 : (b.getD (j + d) 0).toNat < 256 := (b.getD (j + d) 0).toNat_lt
  have e : ∀ x, x * 256 ^ (d + 1) = x * 256 ^ d * 256 := fun x => by rw [Nat.pow_succ, Nat.mul_assoc]
  have e2 : bv b (j + (d + 1)) = bv b (j + d) * 256 + (b.getD (j + d) 0).toNat := rfl
  rw [e, e, e2]
  omega
theorem RdOk.low {b : List UInt8} {σ : Cs} (h : RdOk b σ) : k_lowR b σ < σ.W := by
 have := h.le; have := h.lt
 unfold k_lowR; omega
theorem RdOk.step {b : List UInt8} {σ : Cs} (h : RdOk b σ) (hc : CsOk σ) {p c t : Nat} (hs : StOk p c t) (h1 : p ≤ atR b σ t) (h2 : atR b σ t < p + c) : RdOk b (stp σ p c t) ∧ σ.W / t * p ≤ k_lowR b σ ∧ k_lowR b σ < σ.W / t * p + σ.W / t * c := by
 obtain ⟨d, hd, he, _⟩ := stp_ex hc hs
 obtain ⟨r1, _, _⟩ := nrw_r hc (t := t) (by have := hs.c1; have := hs.pc; omega) hs.t1
 unfold atR at h1 h2
 rw [Nat.le_div_iff_mul_le (by omega), Nat.mul_comm] at h1
 rw [Nat.div_lt_iff_lt_mul (by omega), Nat.mul_comm, Nat.mul_add] at h2
 refine ⟨?_, h1, h2⟩
 rw [he]
 have hle := h.le
 unfold k_lowR at h1 h2
 have a1 : σ.V + σ.W / t * p ≤ bv b (σ.L + 4) := by omega
 have a2 : bv b (σ.L + 4) + 1 ≤ σ.V + σ.W / t * p + σ.W / t * c := by omega
 obtain ⟨m1, m2⟩ := bv_more b (σ.L + 4) d
 refine ⟨?_, ?_⟩
 ·show (σ.V + σ.W / t * p) * 256 ^ d ≤ bv b (σ.L + d + 4)
  rw [show σ.L + d + 4 = σ.L + 4 + d by omega]
  exact Nat.le_trans (Nat.mul_le_mul_right _ a1) m1
 ·show bv b (σ.L + d + 4) < (σ.V + σ.W / t * p) * 256 ^ d + σ.W / t * c * 256 ^ d
  rw [show σ.L + d + 4 = σ.L + 4 + d by omega, ← Nat.add_mul]
  exact Nat.lt_of_lt_of_le m2 (Nat.mul_le_mul_right _ a2)
theorem decSym_ok {n : Nat} {b : List UInt8} {E : Es} (h : EsOk n E) (hr : RdOk b E.σ) {k s : Nat} {E' : Es} (hd : decSym n b E k = some (s, E')) : s < n ∧ E' = symE n E k s ∧ RdOk b E'.σ := by
 unfold decSym at hd
 split at hd
 ·rename_i hlt
  obtain ⟨f1, f2, f3⟩ := fnd_ok hlt
  have he := Option.some.inj hd
  have e1 := congrArg Prod.fst he
  have e2 := congrArg Prod.snd he
  dsimp only at e1 e2
  rw [e1] at f1 f2 f3 e2
  refine ⟨f1, e2.symm, ?_⟩
  rw [← e2]
  exact (hr.step h.cs (h.st k f1) f2 f3).1
 ·cases hd
def ctxs (ctx : Nat → List Int → Int) (sy : List Int) : List Int := (List.range sy.length).map fun i => ctx i (sy.take i)
@[simp] theorem ctxs_len (ctx : Nat → List Int → Int) (sy : List Int) : (ctxs ctx sy).length = sy.length := by simp [ctxs]
open Go.Fw Go
def lenB (u : Nat) : Nat := if u = 0 then 0 else Nat.log2 u + 1
theorem lenB_le {u : Nat} (h : u < 2 ^ 64) : lenB u ≤ 64 := by
 unfold lenB
 split
 ·omega
 ·rename_i h0
  have := (Nat.log2_lt h0).2 h
  omega
theorem lenB_lt (u : Nat) : u < 2 ^ lenB u := by
 unfold lenB
 split
 ·rename_i h; rw [h]; decide
 ·exact Nat.lt_log2_self
theorem lenB_top {u : Nat} (h : u ≠ 0) : 2 ^ (lenB u - 1) ≤ u := by
 unfold lenB
 rw [if_neg h]
 exact Nat.log2_self_le h
def fold (x : Int) : Nat := if 0 ≤ x then (2 * x).toNat else (-2 * x - 1).toNat
def unfold' (u : Nat) : Int := if u % 2 = 0 then ((u / 2 : Nat) : Int) else -((u / 2 : Nat) : Int) - 1
theorem unfold_fold (x : Int) : unfold' (fold x) = x := by
 unfold unfold' fold
 split <;> split <;> omega
theorem fold_unfold (u : Nat) : fold (unfold' u) = u := by
 unfold unfold' fold
 split <;> split <;> omega
theorem fold_lt {x : Int} (h : -9223372036854775808 ≤ x ∧ x ≤ 9223372036854775807) : fold x < 2 ^ 64 := by
 unfold fold
 have : (2 : Nat) ^ 64 = 18446744073709551616 := by decide
 split <;> omega
def bitE (σ : Cs) (u k : Nat) : Cs := stp σ (u / 2 ^ k % 2) 1 2
def bitsE (u : Nat) : Nat → Cs → Cs
 | 0, σ => σ
 | k + 1, σ => bitsE u k (bitE σ u k)
theorem bit_st (u k : Nat) : StOk (u / 2 ^ k % 2) 1 2 := ⟨by omega, by omega, by omega⟩
theorem bitE_ok {σ : Cs} (h : CsOk σ) (u k : Nat) : CsOk (bitE σ u k) := stp_ok h (bit_st u k)
theorem bitsE_ok (u : Nat) : ∀ (k : Nat) {σ : Cs}, CsOk σ → CsOk (bitsE u k σ)
 | 0, _, h => h
 | k + 1, _, h => bitsE_ok u k (bitE_ok h u k)
structure Is where
 E : Es
 b : Nat
def is0 : Is := ⟨es0, 0⟩
structure IsOk (I : Is) : Prop where
 es : EsOk 65 I.E
 b : I.b ≤ 64
theorem is0_ok : IsOk is0 := ⟨es0_ok (by omega), by decide⟩
def intI (I : Is) (u : Nat) : Is :=
 ⟨⟨(symE 65 I.E I.b (lenB u)).M, bitsE u (lenB u - 1) (symE 65 I.E I.b (lenB u)).σ⟩, lenB u⟩
theorem IsOk.step {I : Is} (h : IsOk I) {u : Nat} (hu : u < 2 ^ 64) : IsOk (intI I u) := by
 have hl := lenB_le hu
 have := h.es.sym I.b (s := lenB u) (by omega)
 exact ⟨⟨this.md, bitsE_ok u _ this.cs⟩, hl⟩
def intsI (us : List Nat) (I : Is) : Is := us.foldl intI I
theorem intsI_ok : ∀ {us : List Nat} {I : Is}, (∀ u ∈ us, u < 2 ^ 64) → IsOk I → IsOk (intsI us I)
 | [], _, _, h => h
 | u :: us, I, hu, h => intsI_ok (us := us) (fun v hv => hu v (by simp [hv])) (h.step (hu u (by simp)))
theorem intsI_snoc (us : List Nat) (u : Nat) (I : Is) : intsI (us ++ [u]) I = intI (intsI us I) u := by
 unfold intsI; rw [List.foldl_append]; rfl
def intsS (l : List Int) : List UInt8 × Int :=
 if l.length ≤ 65536 then (codeS (intsI (l.map fold) is0).E.σ, 0) else ([], 4)
inductive Leads : Cs → Cs → Prop
 | refl {σ : Cs} : Leads σ σ
 | step {σ τ : Cs} {p c t : Nat} (h : StOk p c t) (r : Leads (stp σ p c t) τ) : Leads σ τ
theorem Leads.trans {a b c : Cs} (h : Leads a b) (k : Leads b c) : Leads a c := by
 induction h with
 | refl => exact k
 | step h _ ih => exact .step h (ih k)
theorem Leads.lies {σ τ : Cs} (h : Leads σ τ) (hc : CsOk σ) (ht : CsOk τ) : Lies σ τ := by
 induction h with
 | refl => exact Lies.refl hc
 | step h _ ih => exact (Lies.step hc h (ih (stp_ok hc h) ht)).1
theorem bitsE_leads (u : Nat) : ∀ (k : Nat) (σ : Cs), Leads σ (bitsE u k σ)
 | 0, _ => .refl
 | k + 1, σ => .step (bit_st u k) (bitsE_leads u k _)
theorem intI_leads {I : Is} (h : IsOk I) {u : Nat} (hu : u < 2 ^ 64) : Leads I.E.σ (intI I u).E.σ := by
 have hl := lenB_le hu
 exact .step (h.es.st I.b (s := lenB u) (by omega)) (bitsE_leads u _ _)
theorem intsI_leads : ∀ {us : List Nat} {I : Is}, (∀ u ∈ us, u < 2 ^ 64) → IsOk I → Leads I.E.σ (intsI us I).E.σ
 | [], _, _, _ => .refl
 | u :: us, I, hu, h => (intI_leads h (hu u (by simp))).trans (intsI_leads (us := us) (fun v hv => hu v (by simp [hv])) (h.step (hu u (by simp))))
def rdBits (b : List UInt8) : Nat → Nat × Cs → Option (Nat × Cs)
 | 0, x => some x
 | k + 1, (u, σ) => if atR b σ 2 < 2 then rdBits b k (u * 2 + atR b σ 2, stp σ (atR b σ 2) 1 2) else none
def rdInt (b : List UInt8) (I : Is) : Option (Nat × Is) :=
 match decSym 65 b I.E I.b with
 | none => none
 | some (s, E) => match rdBits b (s - 1) (min s 1, E.σ) with
  | none => none
  | some (u, σ) => some (u, ⟨⟨E.M, σ⟩, s⟩)
def rdSt (b : List UInt8) : Nat → Option (Is × List Int)
 | 0 => some (is0, [])
 | i + 1 => match rdSt b i with
  | none => none
  | some (I, out) => match rdInt b I with
   | none => none
   | some (u, I') => some (I', out ++ [unfold' u])
def readS (b : List UInt8) (count : Int) : List Int × Int :=
 if 0 ≤ count ∧ count ≤ 65536 then
  match rdSt b count.toNat with
  | none => ([], 2)
  | some (_, out) => if (intsS out).1 = b then (out, 0) else ([], 2)
 else ([], 4)
theorem rdBits_ok {b : List UInt8} : ∀ (k : Nat) {u v : Nat} {σ τ : Cs}, CsOk σ → RdOk b σ → rdBits b k (u, σ) = some (v, τ) →
  CsOk τ ∧ RdOk b τ ∧ v / 2 ^ k = u ∧ τ = bitsE v k σ
 | 0, u, v, σ, τ, hc, hr, h => by
  cases h
  exact ⟨hc, hr, by simp, rfl⟩
 | k + 1, u, v, σ, τ, hc, hr, h => by
  unfold rdBits at h
  split at h
  ·rename_i hlt
   have hs : StOk (atR b σ 2) 1 2 := ⟨by omega, by omega, by omega⟩
   obtain ⟨h1, h2, h3, h4⟩ := rdBits_ok k (stp_ok hc hs) (hr.step hc hs (Nat.le_refl _) (by omega)).1 h
   refine ⟨h1, h2, ?_, ?_⟩
   ·rw [Nat.pow_succ, ← Nat.div_div_eq_div_mul, h3]; omega
   ·rw [h4]
    show bitsE v k _ = bitsE v k (stp σ (v / 2 ^ k % 2) 1 2)
    rw [h3, show (u * 2 + atR b σ 2) % 2 = atR b σ 2 by omega]
  ·cases h
theorem lenB_of {u s : Nat} (h : u / 2 ^ (s - 1) = min s 1) : lenB u = s := by
 by_cases e : s = 0
 ·subst e
  simp at h
  rw [h]; rfl
 ·have hs : min s 1 = 1 := by omega
  rw [hs] at h
  have hp : 0 < 2 ^ (s - 1) := Nat.pow_pos (by decide)
  have h1 : 2 ^ (s - 1) ≤ u := by
   have := Nat.div_mul_le_self u (2 ^ (s - 1))
   rw [h] at this; omega
  have h2 : u < 2 ^ s := by
   have : u < (u / 2 ^ (s - 1) + 1) * 2 ^ (s - 1) := by
    rw [Nat.mul_comm]; exact Nat.lt_mul_div_succ u hp
   rw [h] at this
   rw [show s = (s - 1) + 1 by omega, Nat.pow_succ]; omega
  have h0 : u ≠ 0 := by omega
  unfold lenB
  rw [if_neg h0]
  have a1 := (Nat.le_log2 h0).2 h1
  have a2 := (Nat.log2_lt h0).2 h2
  omega
theorem rdInt_ok {b : List UInt8} {I I' : Is} {u : Nat} (h : IsOk I) (hr : RdOk b I.E.σ) (hd : rdInt b I = some (u, I')) : u < 2 ^ 64 ∧ I' = intI I u ∧ RdOk b I'.E.σ := by
 unfold rdInt at hd
 split at hd
 ·cases hd
 ·rename_i s E hs
  obtain ⟨h1, h2, h3⟩ := decSym_ok h.es hr hs
  have hE := h.es.sym I.b h1
  rw [← h2] at hE
  split at hd
  ·cases hd
  ·rename_i v σ hb
   have hd := Option.some.inj hd
   have e1 := congrArg Prod.fst hd
   have e2 := congrArg Prod.snd hd
   dsimp only at e1 e2
   subst e1
   obtain ⟨k1, k2, k3, k4⟩ := rdBits_ok (s - 1) hE.cs h3 hb
   have hl := lenB_of k3
   refine ⟨Nat.lt_of_lt_of_le (lenB_lt v) (by rw [hl]; exact Nat.pow_le_pow_right (by decide) (by omega)), ?_, ?_⟩
   ·rw [← e2]
    unfold intI
    rw [hl, ← h2, ← k4]
   ·rw [← e2]; exact k2
structure RdsOk (b : List UInt8) (i : Nat) (I : Is) (out : List Int) : Prop where
 is : IsOk I
 rd : RdOk b I.E.σ
 len : out.length = i
 run : intsI (out.map fold) is0 = I
 bd : ∀ x ∈ out, -9223372036854775808 ≤ x ∧ x ≤ 9223372036854775807
theorem unfold_bd {u : Nat} (h : u < 2 ^ 64) : -9223372036854775808 ≤ unfold' u ∧ unfold' u ≤ 9223372036854775807 := by
 have : (2 : Nat) ^ 64 = 18446744073709551616 := by decide
 unfold unfold'
 split <;> omega
theorem rdSt_ok {b : List UInt8} : ∀ {i : Nat} {I : Is} {out : List Int}, rdSt b i = some (I, out) → RdsOk b i I out
 | 0, I, out, h => by
  have h := Option.some.inj h
  have e1 := congrArg Prod.fst h
  have e2 := congrArg Prod.snd h
  dsimp only at e1 e2
  subst e1 e2
  exact ⟨is0_ok, rd0_ok b, rfl, rfl, fun x hx => by cases hx⟩
 | i + 1, I, out, h => by
  unfold rdSt at h
  split at h
  ·cases h
  ·rename_i I0 out0 h0
   have ih := rdSt_ok h0
   split at h
   ·cases h
   ·rename_i u I' hu
    obtain ⟨k1, k2, k3⟩ := rdInt_ok ih.is ih.rd hu
    have h := Option.some.inj h
    have e1 := congrArg Prod.fst h
    have e2 := congrArg Prod.snd h
    dsimp only at e1 e2
    subst e1 e2
    have hl := ih.len
    refine ⟨by rw [k2]; exact ih.is.step k1, k3, by simp [hl], ?_, ?_⟩
    ·rw [List.map_append, List.map_singleton, intsI_snoc, ih.run, fold_unfold, k2]
    ·intro x hx
     rcases List.mem_append.1 hx with h | h
     ·exact ih.bd x h
     ·have : x = unfold' u := by simpa using h
      rw [this]; exact unfold_bd k1
theorem rdBits_enc {τ : Cs} (ht : CsOk τ) (u : Nat) : ∀ (k : Nat) (σ : Cs), CsOk σ → Leads (bitsE u k σ) τ → rdBits (codeS τ) k (u / 2 ^ k, σ) = some (u, bitsE u k σ)
 | 0, σ, _, _ => by simp [rdBits, bitsE]
 | k + 1, σ, hc, hl => by
  have hs := bit_st u k
  have hl2 : Leads (stp σ (u / 2 ^ k % 2) 1 2) τ := (bitsE_leads u k _).trans hl
  obtain ⟨a1, a2⟩ := Lies.at hc ht hs (hl2.lies (stp_ok hc hs) ht)
  have hat : atR (codeS τ) σ 2 = u / 2 ^ k % 2 := by unfold atR; omega
  unfold rdBits bitsE bitE
  rw [hat, if_pos (by omega), show u / 2 ^ (k + 1) * 2 + u / 2 ^ k % 2 = u / 2 ^ k by rw [Nat.pow_succ, ← Nat.div_div_eq_div_mul]; omega]
  exact rdBits_enc ht u k _ (stp_ok hc hs) hl
theorem top_bit {u : Nat} : u / 2 ^ (lenB u - 1) = min (lenB u) 1 := by
 by_cases h : u = 0
 ·subst h; rfl
 ·have h1 := lenB_top h
  have h2 := lenB_lt u
  have h3 : 1 ≤ lenB u := by unfold lenB; rw [if_neg h]; omega
  rw [show lenB u = (lenB u - 1) + 1 by omega, Nat.pow_succ] at h2
  have hp : 0 < 2 ^ (lenB u - 1) := Nat.pow_pos (by decide)
  have a1 : 1 ≤ u / 2 ^ (lenB u - 1) := (Nat.le_div_iff_mul_le hp).2 (by omega)
  have a2 : u / 2 ^ (lenB u - 1) < 2 := (Nat.div_lt_iff_lt_mul hp).2 (by omega)
  omega
theorem rdInt_enc {τ : Cs} (ht : CsOk τ) {I : Is} (h : IsOk I) {u : Nat} (hu : u < 2 ^ 64) (hl : Leads (intI I u).E.σ τ) : rdInt (codeS τ) I = some (u, intI I u) := by
 have hb := lenB_le hu
 have hs := h.es.st I.b (s := lenB u) (by omega)
 have hE := h.es.sym I.b (s := lenB u) (by omega)
 have hl1 : Leads (symE 65 I.E I.b (lenB u)).σ τ := (bitsE_leads u _ _).trans hl
 obtain ⟨a1, a2⟩ := Lies.at h.es.cs ht hs (hl1.lies hE.cs ht)
 have hf : fnd (I.E.M I.b) (atR (codeS τ) I.E.σ (plc (I.E.M I.b) 65)) 65 = lenB u := fnd_eq (by omega) a1 a2
 have hlt : atR (codeS τ) I.E.σ (plc (I.E.M I.b) 65) < plc (I.E.M I.b) 65 := Nat.lt_of_lt_of_le a2 (plc_one (by omega))
 have hd : decSym 65 (codeS τ) I.E I.b = some (lenB u, symE 65 I.E I.b (lenB u)) := by
  unfold decSym
  rw [if_pos hlt, hf]
 unfold rdInt
 rw [hd]
 dsimp only
 rw [← top_bit, rdBits_enc ht u _ _ hE.cs hl]
 rfl
theorem rdSt_enc {us : List Nat} (hus : ∀ u ∈ us, u < 2 ^ 64) : ∀ (i : Nat), i ≤ us.length → rdSt (codeS (intsI us is0).E.σ) i = some (intsI (us.take i) is0, (us.take i).map unfold')
 | 0, _ => rfl
 | i + 1, hi => by
  have hil : i < us.length := by omega
  have ht : IsOk (intsI us is0) := intsI_ok hus is0_ok
  have htk : us.take (i + 1) = us.take i ++ [us[i]] := by rw [List.take_add_one, List.getElem?_eq_getElem hil]; rfl
  have hI : IsOk (intsI (us.take i) is0) := intsI_ok (fun u hu => hus u (List.mem_of_mem_take hu)) is0_ok
  have hI1 : IsOk (intsI (us.take (i + 1)) is0) := intsI_ok (fun u hu => hus u (List.mem_of_mem_take hu)) is0_ok
  have hall : intsI (us.drop (i + 1)) (intsI (us.take (i + 1)) is0) = intsI us is0 := by
   unfold intsI
   rw [← List.foldl_append, List.take_append_drop]
  have hl : Leads (intsI (us.take (i + 1)) is0).E.σ (intsI us is0).E.σ := by
   rw [← hall]
   exact intsI_leads (fun u hu => hus u (List.mem_of_mem_drop hu)) hI1
  rw [htk, intsI_snoc] at hl
  unfold rdSt
  rw [rdSt_enc hus i (by omega)]
  dsimp only
  rw [rdInt_enc ht.es.cs hI (hus _ (List.getElem_mem hil)) hl, htk, intsI_snoc, List.map_append, List.map_singleton]
theorem read_round {l : List Int} (hl : l.length ≤ 65536) (hb : ∀ x ∈ l, -9223372036854775808 ≤ x ∧ x ≤ 9223372036854775807) : readS (intsS l).1 l.length = (l, 0) := by
 have hus : ∀ u ∈ l.map fold, u < 2 ^ 64 := fun u hu => by
  obtain ⟨x, hx, rfl⟩ := List.mem_map.1 hu
  exact fold_lt (hb x hx)
 have h1 : (intsS l).1 = codeS (intsI (l.map fold) is0).E.σ := by unfold intsS; rw [if_pos hl]
 have h2 := rdSt_enc hus l.length (by simp)
 have h3 : ((l.map fold).take l.length).map unfold' = l := by
  rw [List.take_of_length_le (by simp), List.map_map]
  have : (unfold' ∘ fold) = id := by funext x; exact unfold_fold x
  rw [this]; simp
 unfold readS
 rw [if_pos (by omega), Int.toNat_natCast]
 rw [h1, h2]
 dsimp only
 rw [h3, h1, if_pos rfl]
open Go.Fw Go
structure ZO (z : List Int) : Prop where
 len : z.length = 256
 bd : ∀ x ∈ z, 0 ≤ x ∧ x < 256
 all : ∀ p : Nat, p < 256 → (p : Int) ∈ z
def zoB (z : List Int) : Bool := z.length == 256 && z.all (fun x => decide (0 ≤ x ∧ x < 256)) && (List.range 256).all fun p => z.contains (p : Int)
theorem zo_of {z : List Int} (h : zoB z = true) : ZO z := by
 unfold zoB at h
 simp only [Bool.and_eq_true, beq_iff_eq, List.all_eq_true, decide_eq_true_eq] at h
 obtain ⟨⟨h1, h2⟩, h4⟩ := h
 refine ⟨h1, h2, fun p hp => ?_⟩
 have := h4 p (by simpa using hp)
 simpa using this
theorem zo_16 : ZO (zgz (2 ^ 4) 4) := zo_of (by decide +kernel)
def coefL (a : List Int) : List Int := toL (2 ^ 4) (fwd 4 (ofL (2 ^ 4) a))
theorem coefL_len (a : List Int) : (coefL a).length = 256 := toL_len _ _
def sortL (Z a : List Int) : List Int := Z.map fun i => (coefL a).getD i.toNat 0
theorem sortL_len {Z : List Int} (hz : ZO Z) (a : List Int) : (sortL Z a).length = 256 := by unfold sortL; rw [List.length_map, hz.len]
theorem sortL_at {Z : List Int} (a : List Int) {k : Nat} (hk : k < Z.length) : (sortL Z a).getD k 0 = (coefL a).getD (Z.getD k 0).toNat 0 := by
 unfold sortL
 rw [List.getD_eq_getElem?_getD, List.getElem?_map, List.getD_eq_getElem?_getD (l := Z), List.getElem?_eq_getElem hk]
 rfl
def bandP (Z a : List Int) : List UInt8 := (intsS (sortL Z a)).1
def scat (Z l : List Int) : Nat → List Int
 | 0 => fnL 256 fun _ => 0
 | k + 1 => (scat Z l k).set (Z.getD k 0).toNat (l.getD k 0)
theorem scat_len (Z l : List Int) : ∀ k, (scat Z l k).length = 256
 | 0 => fnL_len _ _
 | k + 1 => by show ((scat Z l k).set _ _).length = 256; rw [List.length_set, scat_len Z l k]
theorem scat_at {Z : List Int} (hz : ZO Z) (a : List Int) : ∀ k, k ≤ 256 → ∀ p : Nat, p < 256 → (scat Z (sortL Z a) k).getD p 0 = if (p : Int) ∈ Z.take k then (coefL a).getD p 0 else 0
 | 0, _, p, hp => by
  show (fnL 256 fun _ => (0 : Int)).getD p 0 = _
  rw [List.getD_eq_getElem?_getD, fnL_get _ hp, List.take_zero, if_neg (by simp)]; rfl
 | k + 1, hk, p, hp => by
  have hkz : k < Z.length := by rw [hz.len]; omega
  have hm : Z.getD k 0 ∈ Z := getD_mem hkz
  have hb := hz.bd _ hm
  have hl := scat_len Z (sortL Z a) k
  have ht : Z.take (k + 1) = Z.take k ++ [Z.getD k 0] := take_snoc (by rw [List.getD_eq_getElem?_getD, List.getElem?_eq_getElem hkz]; rfl)
  show ((scat Z (sortL Z a) k).set (Z.getD k 0).toNat ((sortL Z a).getD k 0)).getD p 0 = _
  rw [sortL_at a hkz, ht]
  by_cases e : p = (Z.getD k 0).toNat
  ·rw [e, List.getD_eq_getElem?_getD, List.getElem?_set_self (by omega), if_pos]
   ·rfl
   ·rw [Int.toNat_of_nonneg hb.1]; simp
  ·rw [List.getD_eq_getElem?_getD, List.getElem?_set_ne (Ne.symm e), ← List.getD_eq_getElem?_getD, scat_at hz a k (by omega) p hp]
   have hne : (p : Int) ≠ Z.getD k 0 := fun h => e (by rw [← h]; rfl)
   by_cases h1 : (p : Int) ∈ Z.take k
   ·rw [if_pos h1, if_pos (List.mem_append_left _ h1)]
   ·rw [if_neg h1, if_neg]
    intro h2
    rcases List.mem_append.1 h2 with h3 | h3
    ·exact h1 h3
    ·simp only [List.mem_singleton] at h3; exact hne h3
theorem getD_ext {A B : List Int} (hl : A.length = B.length) (h : ∀ p, p < A.length → A.getD p 0 = B.getD p 0) : A = B := by
 apply List.ext_getElem hl
 intro p h1 h2
 have := h p h1
 rw [List.getD_eq_getElem?_getD, List.getD_eq_getElem?_getD, List.getElem?_eq_getElem h1, List.getElem?_eq_getElem h2] at this
 exact this
theorem scat_end {Z : List Int} (hz : ZO Z) (a : List Int) : scat Z (sortL Z a) 256 = coefL a := by
 refine getD_ext (by rw [scat_len, coefL_len]) fun p hp => ?_
 rw [scat_len] at hp
 rw [scat_at hz a 256 (Nat.le_refl _) p hp, List.take_of_length_le (by rw [hz.len]; omega), if_pos (hz.all p hp)]
structure BOk (a : List Int) : Prop where
 len : a.length = 256
 bd : ∀ x ∈ a, 0 ≤ x ∧ x ≤ 65535
theorem BOk.inA {a : List Int} (h : BOk a) : inB 1099511627776 a = true := by
 rw [inB_iff]
 intro x hx
 have := h.bd x hx
 omega
theorem BOk.inC {a : List Int} (h : BOk a) : inB 4398046511104 (coefL a) = true := by
 have bA := inB_bnd (by omega) h.inA (2 ^ 4)
 exact inB_toL (fwd_bd (B := 1099511627776) (by omega) 4 _ (Nat.le_refl _) (fun r c hr hc => bA r c hr hc) (fun r c hr hc => by have := bA r c hr hc; omega))
theorem coef_back {a : List Int} (h : a.length = 256) : toL (2 ^ 4) (inv 4 (ofL (2 ^ 4) (coefL a))) = a := by
 unfold coefL
 rw [fwd_ofL, inv_fwd, toL_ofL (by rw [h])]
theorem sortL_ok {Z a : List Int} (hz : ZO Z) (h : BOk a) : ∀ x ∈ sortL Z a, -9223372036854775808 ≤ x ∧ x ≤ 9223372036854775807 := fun x hx => by
 unfold sortL at hx
 obtain ⟨i, hi, rfl⟩ := List.mem_map.1 hx
 have hb := hz.bd i hi
 have := (inB_iff ..).1 h.inC _ (getD_mem (l := coefL a) (i := i.toNat) (by rw [coefL_len]; omega))
 omega
open Go.Fw Go
def encN (n : Nat) : List UInt8 := if h : n < 128 then [UInt8.ofNat n] else UInt8.ofNat (n % 128 + 128) :: encN (n / 128)
termination_by n
decreasing_by omega
theorem encN_lt {n : Nat} (h : n < 128) : encN n = [UInt8.ofNat n] := by rw [encN, dif_pos h]
theorem encN_ge {n : Nat} (h : ¬ n < 128) : encN n = UInt8.ofNat (n % 128 + 128) :: encN (n / 128) := by rw [encN, dif_neg h]
theorem encN_pos (n : Nat) : 0 < (encN n).length := by
 by_cases h : n < 128
 ·rw [encN_lt h]; simp
 ·rw [encN_ge h]; simp
theorem encN_len : ∀ (f n : Nat), n < 128 ^ (f + 1) → (encN n).length ≤ f + 1
 | 0, n, h => by rw [encN_lt (by simpa using h)]; simp
 | f + 1, n, h => by
  by_cases h' : n < 128
  ·rw [encN_lt h']; simp
  ·rw [encN_ge h', List.length_cons]
   have : n / 128 < 128 ^ (f + 1) := by
    rw [Nat.div_lt_iff_lt_mul (by omega)]
    rw [← Nat.pow_succ]; exact h
   have := encN_len f _ this
   omega
theorem encN_len10 {n : Nat} (h : n < 2 ^ 64) : (encN n).length ≤ 10 := encN_len 9 n (Nat.lt_of_lt_of_le h (by decide))
def rdN : Nat → Nat → List UInt8 → Except Int (Nat × List UInt8)
 | _, _, [] => .error 3
 | i, acc, c :: r => if (i = 9 ∧ 1 < c.toNat) ∨ (0 < i ∧ c.toNat = 0) then .error 2 else
  if c.toNat < 128 then .ok (acc + c.toNat * 128 ^ i, r) else rdN (i + 1) (acc + (c.toNat % 128) * 128 ^ i) r
theorem u8_ofNat {n : Nat} (h : n < 256) : (UInt8.ofNat n).toNat = n := by rw [UInt8.toNat_ofNat']; omega
theorem rdN_enc : ∀ (n i acc : Nat) (r : List UInt8), i ≤ 9 → n * 128 ^ i < 2 ^ 64 → (0 < i → 0 < n) → rdN i acc (encN n ++ r) = .ok (acc + n * 128 ^ i, r) := by
 intro n
 induction n using Nat.strongRecOn with
 | ind n ih =>
  intro i acc r hi hn h0
  have h9 : i = 9 → n ≤ 1 := by
   intro e; subst e
   rcases Nat.lt_or_ge 1 n with h | h
   ·have : 2 * 128 ^ 9 ≤ n * 128 ^ 9 := Nat.mul_le_mul_right _ h
    have : (2 : Nat) * 128 ^ 9 = 2 ^ 64 := by decide
    omega
   ·exact h
  by_cases h : n < 128
  ·rw [encN_lt h, List.cons_append, List.nil_append, rdN, u8_ofNat (by omega), if_neg (by omega), if_pos h]
  ·have h8 : i ≠ 9 := fun e => by have := h9 e; omega
   rw [encN_ge h, List.cons_append, rdN, u8_ofNat (by omega), if_neg (by omega), if_neg (by omega)]
   have hm : n / 128 * 128 ^ (i + 1) ≤ n * 128 ^ i := by
    rw [Nat.pow_succ, Nat.mul_comm (128 ^ i) 128, ← Nat.mul_assoc]
    exact Nat.mul_le_mul_right _ (Nat.div_mul_le_self n 128)
   rw [ih (n / 128) (by omega) (i + 1) _ r (by omega) (by omega) (by omega)]
   congr 2
   rw [Nat.add_assoc]
   congr 1
   rw [show (n % 128 + 128) % 128 = n % 128 by omega, Nat.pow_succ, Nat.mul_comm (128 ^ i) 128, ← Nat.mul_assoc, ← Nat.add_mul]
   congr 1
   omega
theorem rdN_uniq : ∀ (bs : List UInt8) (i acc m : Nat) (r : List UInt8), i ≤ 9 → rdN i acc bs = .ok (m, r) → ∃ n, m = acc + n * 128 ^ i ∧ bs = encN n ++ r ∧ n < 2 ^ (64 - 7 * i) ∧ (0 < i → 0 < n)
 | [], i, acc, m, r, hi, h => by simp [rdN] at h
 | c :: t, i, acc, m, r, hi, h => by
  rw [rdN] at h
  split at h
  ·cases h
  ·rename_i h1
   split at h
   ·rename_i h2
    cases h
    refine ⟨c.toNat, rfl, ?_, ?_, by omega⟩
    ·rw [encN_lt h2]; simp
    ·by_cases h9 : i = 9
     ·subst h9; have : c.toNat ≤ 1 := by omega
      omega
     ·have : 2 ^ 7 ≤ 2 ^ (64 - 7 * i) := Nat.pow_le_pow_right (by omega) (by omega)
      omega
   ·rename_i h2
    have h9 : i ≠ 9 := by omega
    obtain ⟨n, hm, ht, hn, hp⟩ := rdN_uniq t (i + 1) _ m r (by omega) h
    have hp := hp (by omega)
    have hc := c.toNat_lt
    refine ⟨c.toNat % 128 + 128 * n, ?_, ?_, ?_, by omega⟩
    ·rw [hm, Nat.add_assoc, Nat.add_mul]
     congr 2
     rw [Nat.pow_succ, Nat.mul_comm (128 ^ i) 128, ← Nat.mul_assoc, Nat.mul_comm n 128]
    ·rw [encN_ge (by omega), show (c.toNat % 128 + 128 * n) / 128 = n by omega, show (c.toNat % 128 + 128 * n) % 128 + 128 = c.toNat by omega, ht]
     simp
    ·have e : 2 ^ (64 - 7 * i) = 128 * 2 ^ (64 - 7 * (i + 1)) := by
      rw [show 64 - 7 * i = 7 + (64 - 7 * (i + 1)) by omega, Nat.pow_add]
     omega
def zz (n : Int) : Nat := if n < 0 then (-2 * n - 1).toNat else (2 * n).toNat
def unzz (z : Nat) : Int := if z % 2 = 1 then -((z / 2 : Nat) : Int) - 1 else ((z / 2 : Nat) : Int)
theorem unzz_zz (n : Int) : unzz (zz n) = n := by
 unfold zz unzz
 split <;> split <;> omega
theorem zz_lt {n : Int} (h1 : -9223372036854775808 ≤ n) (h2 : n ≤ 9223372036854775807) : zz n < 2 ^ 64 := by
 unfold zz; split <;> omega
theorem ofInt_u64 {x : Int} (h : 0 ≤ x ∧ x < 18446744073709551616) : (BitVec.ofInt 64 x).toNat = x.toNat := by
 rw [BitVec.toNat_ofInt]; omega
theorem wrap_u64' (x : Int) : IntKind.u64.wrap x = x % 18446744073709551616 := rfl
theorem zz_wire {n : Int} (h1 : -9223372036854775808 ≤ n) (h2 : n ≤ 9223372036854775807) :
  bitsA .xor .u64 (IntKind.u64.wrap (IntKind.u64.wrap n * 2 ^ (min 1 64))) (IntKind.u64.wrap (n.fdiv (2 ^ (min 63 64)))) = (zz n : Int) := by
 have e1 : IntKind.u64.wrap (IntKind.u64.wrap n * 2 ^ (min 1 64)) = (2 * n) % 18446744073709551616 := by
  simp only [wrap_u64', show min 1 64 = 1 by decide, Int.pow_one]
  omega
 rw [e1]
 show IntKind.u64.wrap ((BitVec.ofInt 64 _ ^^^ BitVec.ofInt 64 _).toNat : Int) = _
 by_cases hn : n < 0
 ·have e2 : IntKind.u64.wrap (n.fdiv (2 ^ (min 63 64))) = 18446744073709551615 := by
   rw [wrap_u64', show min 63 64 = 63 by decide, Int.fdiv_eq_ediv_of_nonneg _ (by decide)]
   have : n / 2 ^ 63 = -1 := by omega
   rw [this]; decide
  rw [e2, show BitVec.ofInt 64 18446744073709551615 = BitVec.allOnes 64 by decide, BitVec.xor_allOnes, BitVec.toNat_not, ofInt_u64 (by omega), wrap_u64']
  unfold zz
  rw [if_pos hn]
  omega
 ·have e2 : IntKind.u64.wrap (n.fdiv (2 ^ (min 63 64))) = 0 := by
   rw [wrap_u64', show min 63 64 = 63 by decide, Int.fdiv_eq_ediv_of_nonneg _ (by decide)]
   have : n / 2 ^ 63 = 0 := by omega
   rw [this]; decide
  rw [e2, show BitVec.ofInt 64 0 = 0#64 by decide, BitVec.xor_zero, ofInt_u64 (by omega), wrap_u64']
  unfold zz
  rw [if_neg hn]
  omega
open Go.Fw Go
set_option maxRecDepth 8000 in
theorem Mul64_c (n : Nat) (h : n ≤ 4294967295) (H : AH) : ACall Tryz.prog 132 [.int .u64 1, .int .u64 n] H (fun y H' => y = .tup [.int .u64 0, .int .u64 n] ∧ H' = H) := by
 have e0 : (2 : Int) ^ min (Int.toNat 32) IntKind.u64.bits = 4294967296 := by decide
 have e1 : (n : Int).fdiv 4294967296 = 0 := by rw [Int.fdiv_eq_ediv_of_nonneg _ (by omega)]; omega
 have e2 : bitsA .and .u64 (n : Int) 4294967295 = n := by
  show IntKind.u64.wrap ((BitVec.ofInt 64 (n : Int) &&& BitVec.ofInt 64 4294967295).toNat : Int) = _
  have ha : (BitVec.ofInt 64 (n : Int)).toNat = n := by rw [BitVec.toNat_ofInt]; omega
  have hb : (BitVec.ofInt 64 4294967295).toNat = 2 ^ 32 - 1 := by decide
  rw [BitVec.toNat_and, ha, hb, Nat.and_two_pow_sub_one_eq_mod, wrap_u64']
  omega
 have e3 : bitsA .and .u64 1 4294967295 = 1 := by decide
 have e4 : Int.fdiv 1 4294967296 = 0 := by decide
 have e5 : IntKind.u64.wrap (n : Int) = n := by rw [wrap_u64']; omega
 have e6 : bitsA .and .u64 0 4294967295 = 0 := by decide
 have e7 : IntKind.u64.wrap 0 = 0 := by decide
 have e8 : Int.fdiv 0 4294967296 = 0 := by decide
 refine zQ zU (dok _) Tryz.func132 rfl (by decide) rfl ?_
 (repeat' ((conv => whnf); first | refine Then.mk ?_ | left | refine zd ?_ | (refine Both.mk ?_ ?_ <;> intro hc <;> try exact wX hc) | (intro c hc; (try (simp only [AH.zA] at hc; repeat (have hn := hc.1; replace hc := hc.2)))))) <;> (try (conv => whnf))
 refine ⟨?_, rfl⟩
 simp only [e0, e1, e2, e3, e4, e5, e6, e7, e8, Int.zero_mul, Int.one_mul, Int.mul_zero, Int.add_zero]
set_option maxRecDepth 8000 in
theorem Mul_c (n : Nat) (h : n ≤ 4294967295) (H : AH) : ACall Tryz.prog 111 [.int .u64 1, .int .u64 n] H (fun y H' => y = .tup [.int .u64 0, .int .u64 n] ∧ H' = H) := by
 have hm := fun H => Mul64_c n h H
 refine zQ zU (dok _) Tryz.func111 rfl (by decide) rfl ?_
 (repeat' ((conv => whnf); first | refine Then.mk ?_ | left | refine zg ?_ (hm _) | refine zgg ?_ (hm _) | refine zd ?_ | (refine Both.mk ?_ ?_ <;> intro hc <;> try exact wX hc) | (intro c hc; (try (simp only [AH.zA] at hc; repeat (have hn := hc.1; replace hc := hc.2)))) | (refine ACall.to (hm _) ?_))) <;> (try (conv => whnf))
theorem iL_take {n m : Nat} (X : Ln) (h : m ≤ n) : (iL n X).take m = iL m X := by
 apply List.ext_getElem?
 intro i
 rw [List.getElem?_take]
 by_cases hi : i < m
 ·rw [if_pos hi, iL_get X (by omega), iL_get X hi]
 ·rw [if_neg hi, List.getElem?_eq_none (by rw [iL_len]; omega)]
theorem iL_drop {n m : Nat} (X : Ln) : (iL n X).drop m = iL (n - m) (fun k => X (m + k)) := by
 apply List.ext_getElem?
 intro i
 rw [List.getElem?_drop]
 by_cases hi : m + i < n
 ·rw [iL_get X hi, iL_get _ (by omega)]
 ·rw [List.getElem?_eq_none (by rw [iL_len]; omega), List.getElem?_eq_none (by rw [iL_len]; omega)]
theorem k_iL_app {n m : Nat} (X Y : Ln) : iL n X ++ iL m Y = iL (n + m) (fun k => if k < n then X k else Y (k - n)) := by
 apply List.ext_getElem?
 intro i
 by_cases hi : i < n
 ·rw [List.getElem?_append_left (by rw [iL_len]; exact hi), iL_get _ hi, iL_get _ (by omega), if_pos hi]
 ·rw [List.getElem?_append_right (by rw [iL_len]; omega), iL_len]
  by_cases h2 : i < n + m
  ·rw [iL_get _ (by omega), iL_get _ h2, if_neg hi]
  ·rw [List.getElem?_eq_none (by rw [iL_len]; omega), List.getElem?_eq_none (by rw [iL_len]; omega)]
theorem iL_wrs {n m c : Nat} (X Y : Ln) (h : c + m ≤ n) : wrA (iL n X) c (iL m Y) = iL n (fun k => if c ≤ k ∧ k < c + m then Y (k - c) else X k) := by
 unfold wrA
 rw [iL_take X (by omega), iL_len, iL_drop, k_iL_app, k_iL_app, show c + m + (n - (c + m)) = n by omega]
 refine iL_congr fun k hk => ?_
 by_cases h1 : k < c
 ·rw [if_pos (by omega), if_pos h1, if_neg (by omega)]
 ·by_cases h2 : k < c + m
  ·rw [if_pos h2, if_neg h1, if_pos (by omega)]
  ·rw [if_neg h2, if_neg (by omega)]
   congr 1; omega
set_option maxRecDepth 8000 in
theorem Repeat_c (n : Nat) (h1 : 1 ≤ n) (h2 : n ≤ 1000000) (H : AH) :
  ACall Tryz.prog 80 [.cs (iS .i64 [1]) 1, .int .i64 n] H (fun y H' => ∃ q, H q = none ∧ y = .sl q 0 1 0 n none ∧ H' = H.set q (.row (iL n fun _ => 1) 0)) := by
 have hm := fun H => Mul_c n (by omega) H
 refine zQ zU (dok _) Tryz.func80 rfl (by decide) rfl ?_
 (repeat' ((conv => whnf); first | refine Then.mk ?_ | left | refine zg ?_ (hm _) | refine zgg ?_ (hm _) | refine zd ?_ | (refine Both.mk ?_ ?_ <;> intro hc <;> try exact wX hc) | (intro c hc; (try (simp only [AH.zA] at hc; repeat (have hn := hc.1; replace hc := hc.2)))) | (refine ACall.to (hm _) ?_))) <;> (try (conv => whnf))
 rename_i c hc
 refine zT (σ := Nat) (8 :: 34 :: 35 :: 36 :: 37 :: 38 :: 39 :: 40 :: 41 :: 42 :: 43 :: 44 :: 45 :: 46 :: []) (fun m => [(8, .int .i64 m)]) (fun m => AH.set H c (.row (iL n fun k => if k < m then 1 else 0) 0)) (fun m => 1 ≤ m ∧ m ≤ n) (fun m => n - m) 1 rfl ?_ ?_ ?_ ?_
 ·exact ⟨Nat.le_refl _, h1⟩
 ·refine ⟨?_, trivial⟩
  have : Nat.min 1 n = 1 := Nat.min_eq_left h1
  show AV.int .i64 (Nat.min 1 n : Nat) = _
  rw [this]
 ·refine HLe.of_eq (Eq.symm ((AH.zS _ _ _ _).trans (congrArg (fun l => AH.set H c (.row l 0)) ?_)))
  show wrA ((List.replicate n [AV.int .i64 0]).flatten) 0 (List.take (Nat.min 1 n * 1) (iL 1 fun _ => 1)) = _
  rw [show Nat.min 1 n = 1 from Nat.min_eq_left h1, iL_zero, iL_take _ (by omega), iL_wrs _ _ (by omega)]
  refine iL_congr fun k hk => ?_
  by_cases h : k < 1 <;> simp [h]
 ·rintro m ⟨hm1, hm2⟩
  refine AWp.of zU (dok _) rfl ?_
  have li := iL_len n (fun k => if k < m then 1 else 0)
  by_cases hmn : m < n
  ·(repeat' ((conv => whnf); first | refine AWq.drawM ([45], []) (by decide +kernel) ?_ | refine Then.mk ?_ | left | refine zg ?_ (hm _) | refine zgg ?_ (hm _) | refine zd ?_ | (refine Both.mk ?_ ?_ <;> intro hc <;> try exact wX hc) | (intro c hc; (try (simp only [AH.zA] at hc; repeat (have hn := hc.1; replace hc := hc.2)))) | (refine ACall.to (hm _) ?_))) <;> (try (conv => whnf))
   refine ⟨.int .i64 (min m (n - m) : Nat), AH.set H c (.row (iL n fun k => if k < m + min m (n - m) then 1 else 0) 0), ?_, ?_⟩
   ·(repeat' ((conv => whnf); first | refine Then.mk ?_ | left | refine zd ?_ | (refine Both.mk ?_ ?_ <;> intro hc <;> try exact wX hc) | (intro c hc; (try (simp only [AH.zA] at hc; repeat (have hn := hc.1; replace hc := hc.2)))))) <;> (try (conv => whnf))
    refine (AH.zS _ _ _ _).trans (congrArg (fun l => AH.set H c (.row l 0)) ?_)
    have e1 : Nat.min m (n - m) = min m (n - m) := rfl
    rw [Int.toNat_natCast, Int.toNat_natCast, e1, List.drop_zero, Nat.mul_one, Nat.mul_one, iL_take _ hm2, iL_take _ (by omega), Nat.zero_add, iL_wrs _ _ (by omega)]
    refine iL_congr fun k hk => ?_
    split <;> split <;> first | rfl | omega | (split <;> first | rfl | omega)
   ·(repeat' ((conv => whnf); first | refine Then.mk ?_ | left | refine zd ?_ | (refine Both.mk ?_ ?_ <;> intro hc <;> try exact wX hc) | (intro c hc; (try (simp only [AH.zA] at hc; repeat (have hn := hc.1; replace hc := hc.2)))))) <;> (try (conv => whnf))
    exact ⟨m + min m (n - m), by omega, by omega, ⟨congrArg (AV.int .i64) (by omega), trivial⟩, HLe.refl _⟩
  ·have hme : m = n := by omega
   (repeat' ((conv => whnf); first | refine Then.mk ?_ | left | refine zd ?_ | (refine Both.mk ?_ ?_ <;> intro hc <;> try exact wX hc) | (intro c hc; (try (simp only [AH.zA] at hc; repeat (have hn := hc.1; replace hc := hc.2)))))) <;> (try (conv => whnf))
   exact congrArg (fun l => AH.set H c (.row l 0)) (iL_congr fun k hk => by rw [if_pos (by omega)])
def mdH (H : AH) (p q n : Nat) (c : Nat → Nat) : AH := (H.set q (.row (iL n fun k => (c k : Int)) 0)).set p (.row [.sl q 0 1 0 n none, .int .i64 (plc c n : Nat)] 0)
set_option maxRecDepth 8000 in
theorem fresh_c (n : Nat) (h1 : 1 ≤ n) (h2 : n ≤ 1000000) (H : AH) :
  ACall Tryz.prog 84 [.int .i64 n] H (fun y H' => ∃ p q, H p = none ∧ H q = none ∧ p ≠ q ∧ y = .ptr p 0 0 ∧ H' = mdH H p q n fun _ => 1) := by
 refine zQ zU (dok _) Tryz.func84 rfl (by decide) rfl ?_
 (repeat' ((conv => whnf); first | refine Then.mk ?_ | left | refine zd ?_ | (refine Both.mk ?_ ?_ <;> intro hc <;> try exact wX hc) | (intro c hc; (try (simp only [AH.zA] at hc; repeat (have hn := hc.1; replace hc := hc.2)))))) <;> (try (conv => whnf))
 refine (Repeat_c n h1 h2 _).mono ?_
 rintro y H' ⟨q, hq, rfl, rfl⟩
 (repeat' ((conv => whnf); first | refine Then.mk ?_ | left | refine zd ?_ | (refine Both.mk ?_ ?_ <;> intro hc <;> try exact wX hc) | (intro c hc; (try (simp only [AH.zA] at hc; repeat (have hn := hc.1; replace hc := hc.2)))))) <;> (try (conv => whnf))
 refine ⟨c, q, hc, hq, hn, rfl, ?_⟩
 unfold mdH
 rw [plc_ones]
 rfl
open Go.Fw Go
structure MdAt (H : AH) (p q n : Nat) (c : Nat → Nat) : Prop where
 hp : H p = some (.row [.sl q 0 1 0 n none, .int .i64 (plc c n : Nat)] 0)
 hq : H q = some (.row (iL n fun k => (c k : Int)) 0)
 ne : p ≠ q
 ok : MdOk n c
theorem MdAt.set {H : AH} {p q n : Nat} {c d : Nat → Nat} (h : p ≠ q) (hd : MdOk n d) : MdAt (mdH H p q n d) p q n d := by
 refine ⟨AH.zC _ _ _, ?_, h, hd⟩
 unfold mdH
 rw [AH.zR _ _ (Ne.symm h), AH.zC]
theorem iL_gi {n i : Nat} (X : Ln) (h : i < n) : (iL n X)[(i : Int).toNat]? = some (.int .i64 (X i)) := iL_get X h
set_option maxRecDepth 8000 in
theorem place_c {H : AH} {p q n : Nat} {c : Nat → Nat} (h : MdAt H p q n c) (s : Nat) (hs : s ≤ n) :
  ACall Tryz.prog 85 [.ptr p 0 0, .int .i64 s] H (fun y H' => y = .int .i64 (plc c s : Nat) ∧ H' = H) := by
 obtain ⟨hp, hq, hne, hok⟩ := h
 have hn := hok.hn
 obtain ⟨T, hT⟩ : ∃ T : Nat, T = plc c n := ⟨_, rfl⟩
 have hTb : T ≤ 32768 := by rw [hT]; exact hok.sum
 rw [← hT] at hp
 have hcell := fun i (hi : i < n) => iL_gi (fun k => (c k : Int)) hi
 have hlen : (iL n fun k => (c k : Int)).length = n := iL_len _ _
 generalize (iL n fun k => (c k : Int)) = cells at *
 refine zQ zU (dok _) Tryz.func85 rfl (by decide) rfl ?_
 (repeat' ((conv => whnf); first | refine Then.mk ?_ | left | refine zd ?_ | (refine Both.mk ?_ ?_ <;> intro hc <;> try exact wX hc) | (intro c hc; (try (simp only [AH.zA] at hc; repeat (have hn := hc.1; replace hc := hc.2)))))) <;> (try (conv => whnf))
 refine zT (σ := Nat) (5 :: 7 :: 15 :: 16 :: 17 :: 18 :: 19 :: 20 :: 21 :: 22 :: []) (fun i => [(15, .int .i64 i), (5, .int .i64 (plc c i : Nat))]) (fun _ => H) (fun i => i ≤ s) (fun i => s - i) 0 rfl ?_ ?_ ?_ ?_
 ·exact Nat.zero_le _
 ·exact ⟨rfl, rfl, trivial⟩
 ·exact HLe.refl _
 ·rintro i hi
  dsimp only at hi ⊢
  refine AWp.of zU (dok _) rfl ?_
  have hpl : plc c i ≤ T := by rw [hT]; exact plc_le (by omega)
  by_cases his : i < s
  ·have hg := hcell i (by omega)
   have hci := hok.le (show i < n by omega)
   (repeat' ((conv => whnf); first | refine Then.mk ?_ | left | refine zd ?_ | (refine Both.mk ?_ ?_ <;> intro hc <;> try exact wX hc) | (intro c hc; (try (simp only [AH.zA] at hc; repeat (have hn := hc.1; replace hc := hc.2)))))) <;> (try (conv => whnf))
   exact ⟨i + 1, by omega, by omega, ⟨congrArg (AV.int .i64) (by omega), congrArg (AV.int .i64) (by show ((plc c i : Nat) : Int) + (c i : Int) = ((plc c i + c i : Nat) : Int); omega), trivial⟩, HLe.refl _⟩
  ·have hie : i = s := by omega
   subst hie
   (repeat' ((conv => whnf); first | refine Then.mk ?_ | left | refine zd ?_ | (refine Both.mk ?_ ?_ <;> intro hc <;> try exact wX hc) | (intro c hc; (try (simp only [AH.zA] at hc; repeat (have hn := hc.1; replace hc := hc.2)))))) <;> (try (conv => whnf))
theorem wrA_same' {l : List AV} {k : Nat} (v : AV) (h : k < l.length) : (wrA l k [v])[k]? = some v := by
 unfold wrA
 rw [List.append_assoc, List.getElem?_append_right (by rw [List.length_take]; omega), List.length_take, Nat.min_eq_left (by omega), Nat.sub_self]
 rfl
set_option maxRecDepth 8000 in
theorem see_c {H : AH} {p q n : Nat} {c : Nat → Nat} (h : MdAt H p q n c) (s : Nat) (hs : s < n) :
  ACall Tryz.prog 86 [.ptr p 0 0, .int .i64 s] H (fun y H' => y = .int .i64 0 ∧ H' = mdH H p q n (seeM n c s)) := by
 obtain ⟨hp, hq, hne, hok⟩ := h
 have hn := hok.hn
 have hu : plc (upM c s) n = plc c n + 32 := by
  have := plc_add (c := c) (s := s) (a := 32) (n := n)
  rw [if_pos hs] at this
  exact this
 have hTb := hok.sum
 have hcs := hok.le hs
 have hpu : ∀ k, k < n → upM c s k ≤ 32800 := fun k hk => by
  have := hok.le hk
  unfold upM; split <;> omega
 obtain ⟨T, hT⟩ : ∃ T : Nat, T = plc c n := ⟨_, rfl⟩
 rw [← hT] at hp hTb hu
 obtain ⟨cells, hce⟩ : ∃ cells, cells = iL n fun k => (c k : Int) := ⟨_, rfl⟩
 have hg : cells[(s : Int).toNat]? = some (.int .i64 (c s)) := by rw [hce]; exact iL_gi (fun k => (c k : Int)) hs
 have hlen : cells.length = n := by rw [hce]; exact iL_len _ _
 have hw : wrA cells (0 + (s : Int).toNat * 1) [.int .i64 ((c s : Int) + 32)] = iL n fun k => (upM c s k : Int) := by
  rw [Nat.zero_add, Nat.mul_one, Int.toNat_natCast, hce, iL_wr _ hs]
  refine iL_congr fun k hk => ?_
  unfold upM
  split
  ·rename_i e; rw [e]; omega
  ·rfl
 rw [← hce] at hq
 have hqp : q ≠ p := Ne.symm hne
 refine zQ zU (dok _) Tryz.func86 rfl (by decide) rfl ?_
 by_cases hbig : 32768 < T + 32
 ·(repeat' ((conv => whnf); first | refine Then.mk ?_ | left | refine zd ?_ | (refine Both.mk ?_ ?_ <;> intro hc <;> try exact wX hc) | (intro c hc; (try (simp only [AH.zA] at hc; repeat (have hn := hc.1; replace hc := hc.2)))))) <;> (try (conv => whnf))
  refine zT (σ := Nat) (5 :: 6 :: 47 :: 48 :: 49 :: 50 :: 51 :: 52 :: 53 :: 54 :: 55 :: 56 :: 57 :: 58 :: 59 :: 60 :: 61 :: 62 :: 63 :: 64 :: 65 :: 66 :: 67 :: 68 :: 69 :: 70 :: 71 :: 72 :: 73 :: 74 :: 75 :: []) (fun i => [(47, .int .i64 i)]) (fun i => (H.set q (.row (iL n fun k => ((if k < i then (upM c s k + 1) / 2 else upM c s k : Nat) : Int)) 0)).set p (.row [.sl q 0 1 0 n none, .int .i64 (plc (fun k => (upM c s k + 1) / 2) i : Nat)] 0)) (fun i => i ≤ n) (fun i => n - i) 0 rfl ?_ ?_ ?_ ?_
  ·exact Nat.zero_le _
  ·exact ⟨rfl, trivial⟩
  ·refine HLe.of_eq ?_
   have e0 : (iL n fun k => ((if k < 0 then (upM c s k + 1) / 2 else upM c s k : Nat) : Int)) = wrA cells (0 + (s : Int).toNat * 1) [.int .i64 ((c s : Int) + 32)] := by
    rw [hw]; exact iL_congr fun k hk => by rw [if_neg (by omega)]
   rw [e0]
   ((funext s; simp only [AH.set, AH.del]; repeat' split) <;> (first | rfl | (exfalso; omega)))
  ·rintro i hi
   dsimp only at hi ⊢
   refine AWp.of zU (dok _) rfl ?_
   by_cases hin : i < n
   ·have hh : 2 * plc (fun k => (upM c s k + 1) / 2) i ≤ plc (upM c s) i + i := plc_half
    have hh2 : plc (upM c s) i ≤ plc (upM c s) n := plc_le hi
    obtain ⟨hT2, hTT⟩ : ∃ x : Nat, x = plc (fun k => (upM c s k + 1) / 2) i := ⟨_, rfl⟩
    have hui := hpu i hin
    have ht : (((upM c s i : Int) + 1)).tdiv 2 = ((upM c s i + 1) / 2 : Nat) := by
     rw [Int.tdiv_eq_ediv_of_nonneg (by omega)]; omega
    have hx : (upM c s i + 1) / 2 ≤ 16400 := by omega
    obtain ⟨z, hz⟩ : ∃ z, z = iL n fun k => ((if k < i then (upM c s k + 1) / 2 else upM c s k : Nat) : Int) := ⟨_, rfl⟩
    have g1 : z[(i : Int).toNat]? = some (.int .i64 (upM c s i)) := by
     rw [hz]; refine (iL_gi _ hin).trans ?_
     rw [if_neg (by omega)]
    have hzl : z.length = n := by rw [hz]; exact iL_len _ _
    have g2 : (wrA z (i : Int).toNat [.int .i64 (((upM c s i : Int) + 1).tdiv 2)])[(i : Int).toNat]? = some (.int .i64 (((upM c s i : Int) + 1).tdiv 2)) := by
     rw [Int.toNat_natCast]
     exact wrA_same' _ (by omega)
    have w2 : wrA z (0 + (i : Int).toNat * 1) [.int .i64 (((upM c s i : Int) + 1).tdiv 2)] = iL n fun k => ((if k < i + 1 then (upM c s k + 1) / 2 else upM c s k : Nat) : Int) := by
     rw [Nat.zero_add, Nat.mul_one, Int.toNat_natCast, hz, iL_wr _ hin, ht]
     refine iL_congr fun k hk => ?_
     by_cases e : k = i
     ·subst e; rw [if_pos rfl, if_pos (by omega)]
     ·rw [if_neg e]
      by_cases e2 : k < i
      ·rw [if_pos e2, if_pos (by omega)]
      ·rw [if_neg e2, if_neg (by omega)]
    have w1 : (plc (fun k => (upM c s k + 1) / 2) i : Int) + ((upM c s i : Int) + 1).tdiv 2 = (plc (fun k => (upM c s k + 1) / 2) (i + 1) : Nat) := by
     rw [ht]
     show _ = ((plc (fun k => (upM c s k + 1) / 2) i + (upM c s i + 1) / 2 : Nat) : Int)
     omega
    rw [← hz]
    (repeat' ((conv => whnf); first | refine Then.mk ?_ | left | refine zd ?_ | (refine Both.mk ?_ ?_ <;> intro hc <;> try exact wX hc) | (intro c hc; (try (simp only [AH.zA] at hc; repeat (have hn := hc.1; replace hc := hc.2)))))) <;> (try (conv => whnf))
    refine ⟨i + 1, by omega, by omega, ⟨congrArg (AV.int .i64) (by omega), trivial⟩, HLe.of_eq ?_⟩
    rw [← w2, ← w1]
    ((funext s; simp only [AH.set, AH.del]; repeat' split) <;> (first | rfl | (exfalso; omega)))
   ·have hie : i = n := by omega
    subst hie
    (repeat' ((conv => whnf); first | refine Then.mk ?_ | left | refine zd ?_ | (refine Both.mk ?_ ?_ <;> intro hc <;> try exact wX hc) | (intro c hc; (try (simp only [AH.zA] at hc; repeat (have hn := hc.1; replace hc := hc.2)))))) <;> (try (conv => whnf))
    have e : seeM i c s = fun k => (upM c s k + 1) / 2 := if_pos (by omega)
    unfold mdH
    rw [e]
    have e2 : (iL i fun k => ((if k < i then (upM c s k + 1) / 2 else upM c s k : Nat) : Int)) = iL i fun k => (((upM c s k + 1) / 2 : Nat) : Int) := iL_congr fun k hk => by rw [if_pos hk]
    rw [e2]
 ·(repeat' ((conv => whnf); first | refine Then.mk ?_ | left | refine zd ?_ | (refine Both.mk ?_ ?_ <;> intro hc <;> try exact wX hc) | (intro c hc; (try (simp only [AH.zA] at hc; repeat (have hn := hc.1; replace hc := hc.2)))))) <;> (try (conv => whnf))
  show (H.set q (.row (wrA cells (0 + (s : Int).toNat * 1) [.int .i64 ((c s : Int) + 32)]) 0)).set p (.row [.sl q 0 1 0 n none, .int .i64 ((T : Int) + 32)] 0) = _
  have e : seeM n c s = upM c s := if_neg (by omega)
  unfold mdH
  rw [e, hw, hu]
  rfl
end Go.Proofs.YtgpfmojlgejnhaaGreat
