/- For the law BlendLevels, part 3 of 6: the frame of the walk, the walks of the functions, the plain law, the row. No conditions. -/
import Derived.Test.YtghielfbdpkhmaaBlendLevelsM2
import Derived.Test.YtghielfbdpkhmaaProg
import Derived.KernelRfl
/- The types that the walks over this translation meet: a table, and that it tells of them what the translation tells. -/
namespace Go.Proofs.Ytghielfbdpkhmaa
open Go.Fw
def tt : TT := [
  (3, ⟨.int .i64, 1, false, [.int .i64 0]⟩),
  (22, ⟨.slice 3 1 8 [.int .i64 0], 1, false, [.nils]⟩),
  (63, ⟨.struct [(0, 1, false), (1, 1, false), (2, 1, false)], 3, true, [.int .i64 0, .nils, .nils]⟩),
  (40, ⟨.struct [(0, 1, false), (1, 1, false), (2, 1, false)], 3, true, [.int .i64 0, .int .i64 0, .int .i64 0]⟩),
  (27, ⟨.int .i64, 1, false, [.int .i64 0]⟩),
  (26, ⟨.slice 25 2 16 [.int .i64 0, .int .i64 0], 1, false, [.nils]⟩),
  (43, ⟨.array 4 40 3 true, 12, true, [.int .i64 0, .int .i64 0, .int .i64 0, .int .i64 0, .int .i64 0, .int .i64 0, .int .i64 0, .int .i64 0, .int .i64 0, .int .i64 0, .int .i64 0, .int .i64 0]⟩),
  (25, ⟨.array 2 3 1 false, 2, true, [.int .i64 0, .int .i64 0]⟩),
  (96, ⟨.int .u64, 1, false, [.int .u64 0]⟩),
  (72, ⟨.array 4 63 3 true, 12, true, [.int .i64 0, .nils, .nils, .int .i64 0, .nils, .nils, .int .i64 0, .nils, .nils, .int .i64 0, .nils, .nils]⟩),
  (58, ⟨.struct [(0, 1, false), (1, 1, false), (2, 1, false), (3, 1, false)], 4, true, [.int .i64 0, .int .i64 0, .int .i64 0, .int .i64 0]⟩),
  (79, ⟨.int .u64, 1, false, [.int .u64 0]⟩),
  (112, ⟨.int .u64, 1, false, [.int .u64 0]⟩),
  (93, ⟨.int .u32, 1, false, [.int .u32 0]⟩),
  (76, ⟨.map 3 false (.int .i64 0) 1, 1, false, [.map none]⟩),
  (116, ⟨.ptr 3, 1, false, [.nilp]⟩),
  (51, ⟨.func, 1, false, [.nilf]⟩),
  (34, ⟨.slice 22 1 24 [.nils], 1, false, [.nils]⟩),
  (5, ⟨.int .u8, 1, false, [.int .u8 0]⟩),
  (56, ⟨.slice 40 3 24 [.int .i64 0, .int .i64 0, .int .i64 0], 1, false, [.nils]⟩),
  (66, ⟨.slice 63 3 56 [.int .i64 0, .nils, .nils], 1, false, [.nils]⟩),
  (87, ⟨.func, 1, false, [.nilf]⟩),
  (83, ⟨.func, 1, false, [.nilf]⟩),
  (103, ⟨.int .i64, 1, false, [.int .i64 0]⟩),
  (9, ⟨.str, 1, false, [.str []]⟩),
  (23, ⟨.func, 1, false, [.nilf]⟩)]
set_option maxRecDepth 100000 in
theorem tt_ok : TT.ok Try.prog tt = true := by kernel_rfl
theorem mo : Try.prog.follows .mixedOrders = true := by kernel_rfl
theorem dok (N : Nat) : DrawOk Try.prog tt N := drawOk_of tt_ok (by kernel_rfl) N
end Go.Proofs.Ytghielfbdpkhmaa
/- The walks of the reference's helpers: Around, Bound, Short, Few, Ints, SameInts, SameBytes; rows changed in one place. -/
namespace Go.Proofs.Ytghielfbdpkhmaa
open Go.Fw Go
set_option linter.unusedVariables false
set_option linter.unusedSimpArgs false

set_option maxRecDepth 8000 in
theorem sameints_c (a b : List Int) (ha : a.length ≤ 1000000) (hb : b.length ≤ 1000000) (H : AH) :
    ACall Try.prog 53 [.cs (iS .i64 a) a.length, .cs (iS .i64 b) b.length] H (fun y H' => y = .bool (decide (a = b)) ∧ H' = H) := by
  refine ACall_of tt_ok (dok _) Try.func53 rfl (by decide) rfl ?_
  (repeat' ((conv => whnf); first | refine Then.mk ?_ | refine OpsA.cons ?_ | refine OpsA.nil ?_ | refine AWq.seq ?_ | refine AWq.region ?_ | refine AWq.cond ?_ | refine AWq.block ?_ | refine AWq.skip ?_ | refine AWq.ret ?_ | refine AWq.exit ?_ | refine AWq.loop ?_ | refine DrawA.consD ?_ | refine DrawA.nil ?_ | refine AWq.draw (by decide +kernel) ?_ | (refine Both.mk ?_ ?_ <;> intro hc <;> (first | exact Bool.noConfusion hc | skip)) | (intro c hc; (try (simp only [AH.none_iff] at hc; repeat (have hn := hc.1; replace hc := hc.2))); (first | (refine i64_k hc ?_ ?_ ?_ ; omega; omega; (clear hc; intro hc; subst hc)) | skip)) | (apply Exists.intro; apply And.intro; first | (with_reducible assumption) | ((try simp only [List.getElem?_drop, Nat.mul_one, Nat.add_zero, Nat.zero_add]); first | (with_reducible assumption) | (refine iS_get ?_; omega) | rfl)) | (apply And.intro; (first | rfl | (with_reducible assumption) | omega | (simp <;> omega))))) <;> (try (conv => whnf))
  · rename_i hne
    have : a ≠ b := fun e => hne (by rw [e])
    exact ⟨by rw [decide_eq_false this], rfl⟩
  · rename_i hl
    refine AWp_loop (σ := Nat) (4 :: 5 :: 11 :: 12 :: 13 :: 14 :: 15 :: 16 :: 17 :: 18 :: 19 :: 20 :: 21 :: 22 :: 23 :: 24 :: 25 :: []) (fun j => [(5, .int .i64 j)]) (fun _ => H) (fun j => j ≤ a.length ∧ ∀ i, i < j → a.getD i 0 = b.getD i 0) (fun j => a.length - j) 0 rfl ?_ ?_ ?_ ?_
    · exact ⟨Nat.zero_le _, fun i hi => absurd hi (Nat.not_lt_zero _)⟩
    · exact ⟨rfl, trivial⟩
    · exact HLe.refl _
    · rintro j ⟨hj, hs⟩
      refine AWp.of tt_ok (dok _) rfl ?_
      (repeat' ((conv => whnf); first | refine Then.mk ?_ | refine OpsA.cons ?_ | refine OpsA.nil ?_ | refine AWq.seq ?_ | refine AWq.region ?_ | refine AWq.cond ?_ | refine AWq.block ?_ | refine AWq.skip ?_ | refine AWq.ret ?_ | refine AWq.exit ?_ | refine AWq.loop ?_ | refine DrawA.consD ?_ | refine DrawA.nil ?_ | refine AWq.draw (by decide +kernel) ?_ | (refine Both.mk ?_ ?_ <;> intro hc <;> (first | exact Bool.noConfusion hc | skip)) | (intro c hc; (try (simp only [AH.none_iff] at hc; repeat (have hn := hc.1; replace hc := hc.2))); (first | (refine i64_k hc ?_ ?_ ?_ ; omega; omega; (clear hc; intro hc; subst hc)) | skip)) | (apply Exists.intro; apply And.intro; first | (with_reducible assumption) | ((try simp only [List.getElem?_drop, Nat.mul_one, Nat.add_zero, Nat.zero_add]); first | (with_reducible assumption) | (refine iS_get ?_; omega) | rfl)) | (apply And.intro; (first | rfl | (with_reducible assumption) | omega | (simp <;> omega))))) <;> (try (conv => whnf))
      · rename_i hd
        have : a ≠ b := fun e => hd (by rw [e])
        exact ⟨by rw [decide_eq_false this], rfl⟩
      · rename_i hd
        refine ⟨j + 1, ⟨by omega, fun i hi => ?_⟩, by omega, ⟨congrArg (AV.int .i64) (by omega), trivial⟩, HLe.refl _⟩
        by_cases h : i < j
        · exact hs i h
        · have : i = j := by omega
          rw [this]; simpa using hd
      · have : a = b := by
          apply List.ext_getElem (by omega)
          intro i h1 h2
          have := hs i (by omega)
          simpa [h1, h2] using this
        exact ⟨by rw [decide_eq_true this], rfl⟩

theorem wr_iS {K : IntKind} {a : List Int} {k : Nat} {v : Int} (h : k < a.length) : wrA (iS K a) k [.int K v] = iS K (a.set k v) := by
  unfold wrA
  rw [List.set_eq_take_append_cons_drop, if_pos h]
  simp [iS, List.map_take, List.map_drop]

def aro (n : Int) (m : Nat) : Nat := ((if n < 0 then -(n + 1) else n).tmod m).toNat
theorem aro_lt {n : Int} {m : Nat} (hm : 1 ≤ m) : aro n m < m := by
  unfold aro
  have hlt : ∀ x : Int, 0 ≤ x → x.tmod m < m := fun x h => Int.tmod_lt_of_pos _ (by omega)
  have := hlt (if n < 0 then -(n + 1) else n) (by split <;> omega)
  omega

set_option maxRecDepth 8000 in
theorem around_f (n : Int) (h1 : -9223372036854775808 ≤ n) (h2 : n ≤ 9223372036854775807) (m : Nat) (hm : 1 ≤ m) (hm2 : m ≤ 1000000) (H : AH) :
    ACall Try.prog 13 [.int .i64 n, .int .i64 m] H (fun y H' => y = .int .i64 (aro n m) ∧ H' = H) := by
  unfold aro
  by_cases hn : n < 0
  · have hp : 0 ≤ (-(n + 1)).tmod m := Int.tmod_nonneg _ (by omega)
    rw [if_pos hn, Int.toNat_of_nonneg hp]
    refine ACall_of tt_ok (dok _) Try.func13 rfl (by decide) rfl ?_
    (repeat' ((conv => whnf); first | refine Then.mk ?_ | refine OpsA.cons ?_ | refine OpsA.nil ?_ | refine AWq.seq ?_ | refine AWq.region ?_ | refine AWq.cond ?_ | refine AWq.skip ?_ | refine AWq.ret ?_ | (refine Both.mk ?_ ?_ <;> intro hc <;> (first | exact Bool.noConfusion hc | exact absurd (by assumption) hc | exact absurd hc (by assumption) | skip)) | (intro c hc; (try (simp only [AH.none_iff] at hc; repeat (have hn := hc.1; replace hc := hc.2))); (first | (refine i64_k hc ?_ ?_ ?_ ; omega; omega; (clear hc; intro hc; subst hc)) | subst hc | skip)) | (apply And.intro; (first | rfl | omega | (simp <;> fail))))) <;> (try (conv => whnf))
  · have hp : 0 ≤ n.tmod m := Int.tmod_nonneg _ (by omega)
    rw [if_neg hn, Int.toNat_of_nonneg hp]
    refine ACall_of tt_ok (dok _) Try.func13 rfl (by decide) rfl ?_
    (repeat' ((conv => whnf); first | refine Then.mk ?_ | refine OpsA.cons ?_ | refine OpsA.nil ?_ | refine AWq.seq ?_ | refine AWq.region ?_ | refine AWq.cond ?_ | refine AWq.skip ?_ | refine AWq.ret ?_ | (refine Both.mk ?_ ?_ <;> intro hc <;> (first | exact Bool.noConfusion hc | exact absurd (by assumption) hc | exact absurd hc (by assumption) | skip)) | (intro c hc; (try (simp only [AH.none_iff] at hc; repeat (have hn := hc.1; replace hc := hc.2))); (first | (refine i64_k hc ?_ ?_ ?_ ; omega; omega; (clear hc; intro hc; subst hc)) | subst hc | skip)) | (apply And.intro; (first | rfl | omega | (simp <;> fail))))) <;> (try (conv => whnf))

end Go.Proofs.Ytghielfbdpkhmaa
/- The walks of the reference's helpers, on: Pick, SameInts beside a row. -/
namespace Go.Proofs.Ytghielfbdpkhmaa
open Go.Fw Go
set_option linter.unusedVariables false
set_option linter.unusedSimpArgs false

def pickV (l : List Int) (i : Int) (m : Nat) : Nat := if 0 ≤ i ∧ i < l.length then aro (l.getD i.toNat 0) m else 0
theorem pickV_lt {l : List Int} {i : Int} {m : Nat} (hm : 1 ≤ m) : pickV l i m < m := by
  unfold pickV
  split
  · exact aro_lt hm
  · omega
set_option maxRecDepth 8000 in
theorem pick_f (l : List Int) (hl : ∀ n ∈ l, -9223372036854775808 ≤ n ∧ n ≤ 9223372036854775807) (hll : l.length ≤ 9223372036854775807) (i : Int) (hi : -9223372036854775808 ≤ i ∧ i ≤ 9223372036854775807) (m : Nat) (hm : 1 ≤ m) (hm2 : m ≤ 1000000) (H : AH) :
    ACall Try.prog 20 [.cs (iS .i64 l) l.length, .int .i64 i, .int .i64 m] H (fun y H' => y = .int .i64 (pickV l i m) ∧ H' = H) := by
  unfold pickV
  by_cases h0 : i < 0
  · rw [if_neg (by omega)]
    refine ACall_of tt_ok (dok _) Try.func20 rfl (by decide) rfl ?_
    (repeat' ((conv => whnf); first | refine Then.mk ?_ | refine OpsA.cons ?_ | refine OpsA.nil ?_ | refine AWq.seq ?_ | refine AWq.region ?_ | refine AWq.cond ?_ | refine AWq.skip ?_ | refine AWq.ret ?_ | (refine Both.mk ?_ ?_ <;> intro hc <;> (first | exact Bool.noConfusion hc | exact absurd (by assumption) hc | exact absurd hc (by assumption) | (exfalso; omega) | skip)) | (apply Exists.intro; apply And.intro; first | (with_reducible assumption) | ((try simp only [List.getElem?_drop, Nat.mul_one, Nat.add_zero, Nat.zero_add]); first | (with_reducible assumption) | rfl)) | (apply And.intro; (first | rfl | (with_reducible assumption) | omega)))) <;> (try (conv => whnf))
  · by_cases h1 : i < l.length
    · rw [if_pos (by omega)]
      have hg : (iS .i64 l)[i.toNat]? = some (.int .i64 (l.getD i.toNat 0)) := iS_get (by omega)
      have hb : -9223372036854775808 ≤ l.getD i.toNat 0 ∧ l.getD i.toNat 0 ≤ 9223372036854775807 := by
        have hlt : i.toNat < l.length := by omega
        have : l.getD i.toNat 0 = l[i.toNat] := by rw [List.getD_eq_getElem?_getD, List.getElem?_eq_getElem hlt]; rfl
        rw [this]; exact hl _ (List.getElem_mem hlt)
      generalize l.getD i.toNat 0 = x at *
      have ha := fun H => around_f x hb.1 hb.2 m hm hm2 H
      have hil : (iS .i64 l).length = l.length := by simp
      refine ACall_of tt_ok (dok _) Try.func20 rfl (by decide) rfl ?_
      (repeat' ((conv => whnf); first | refine Then.mk ?_ | refine OpsA.cons ?_ | refine OpsA.nil ?_ | refine AWq.seq ?_ | refine AWq.region ?_ | refine AWq.cond ?_ | refine AWq.skip ?_ | refine AWq.ret ?_ | (refine Both.mk ?_ ?_ <;> intro hc <;> (first | exact Bool.noConfusion hc | exact absurd (by assumption) hc | exact absurd hc (by assumption) | (exfalso; omega) | skip)) | (apply Exists.intro; apply And.intro; first | (with_reducible assumption) | ((try simp only [List.getElem?_drop, Nat.mul_one, Nat.add_zero, Nat.zero_add]); first | (with_reducible assumption) | rfl)) | (apply And.intro; (first | rfl | (with_reducible assumption) | omega)) | (refine ACall.to (ha _) ?_))) <;> (try (conv => whnf))
    · rw [if_neg (by omega)]
      refine ACall_of tt_ok (dok _) Try.func20 rfl (by decide) rfl ?_
      (repeat' ((conv => whnf); first | refine Then.mk ?_ | refine OpsA.cons ?_ | refine OpsA.nil ?_ | refine AWq.seq ?_ | refine AWq.region ?_ | refine AWq.cond ?_ | refine AWq.skip ?_ | refine AWq.ret ?_ | (refine Both.mk ?_ ?_ <;> intro hc <;> (first | exact Bool.noConfusion hc | exact absurd (by assumption) hc | exact absurd hc (by assumption) | (exfalso; omega) | skip)) | (apply Exists.intro; apply And.intro; first | (with_reducible assumption) | ((try simp only [List.getElem?_drop, Nat.mul_one, Nat.add_zero, Nat.zero_add]); first | (with_reducible assumption) | rfl)) | (apply And.intro; (first | rfl | (with_reducible assumption) | omega)))) <;> (try (conv => whnf))

end Go.Proofs.Ytghielfbdpkhmaa
/- Rows of structs; lists. -/
namespace Go.Proofs.Ytghielfbdpkhmaa
open Go.Fw Go
set_option linter.unusedVariables false
set_option linter.unusedSimpArgs false

/-- Cells of a list, k for each element. -/
def fL {α : Type} (f : α → List AV) (l : List α) : List AV := l.flatMap f
section flat
variable {α : Type} {f : α → List AV} {k : Nat} (hk : ∀ a, (f a).length = k)
include hk
theorem fL_len (l : List α) : (fL f l).length = l.length * k := by
  induction l with
  | nil => simp [fL]
  | cons a l ih => simp only [fL, List.flatMap_cons, List.length_append, List.length_cons] at ih ⊢; rw [ih, hk, Nat.succ_mul]; omega
end flat
theorem fL_snoc {α : Type} (f : α → List AV) (l : List α) (a : α) : fL f l ++ f a = fL f (l ++ [a]) := by simp [fL]
/-- A list of a function. -/
def fnL {β : Type} (n : Nat) (g : Nat → β) : List β := (List.range n).map g
@[simp] theorem fnL_len {β : Type} (n : Nat) (g : Nat → β) : (fnL n g).length = n := by simp [fnL]
theorem fnL_get {β : Type} {n i : Nat} (g : Nat → β) (h : i < n) : (fnL n g)[i]? = some (g i) := by simp [fnL, h]
theorem fnL_set {β : Type} {n i : Nat} (g : Nat → β) (x : β) : (fnL n g).set i x = fnL n (fun u => if u = i then x else g u) := by
  apply List.ext_getElem?
  intro j
  rw [List.getElem?_set]
  by_cases hj : j < n
  · by_cases e : i = j
    · subst e; simp [fnL, hj]
    · rw [if_neg e, fnL_get _ hj, fnL_get _ hj, if_neg (Ne.symm e)]
  · have e2 : (fnL n g)[j]? = none := List.getElem?_eq_none (by simp; omega)
    have e3 : (fnL n (fun u => if u = i then x else g u))[j]? = none := List.getElem?_eq_none (by simp; omega)
    rw [e2, e3]; split
    · rename_i e; subst e; simp [hj]
    · rfl
theorem fnL_congr {β : Type} {n : Nat} {g k : Nat → β} (h : ∀ i, i < n → g i = k i) : fnL n g = fnL n k := by
  unfold fnL; exact List.map_congr_left fun i hi => h i (by simpa using hi)
theorem fnL_rep {β : Type} (n : Nat) (x : β) : List.replicate n x = fnL n fun _ => x := by
  apply List.ext_getElem?
  intro j
  by_cases hj : j < n
  · rw [fnL_get _ hj]; simp [hj]
  · rw [List.getElem?_eq_none (by simp; omega), List.getElem?_eq_none (by simp; omega)]
theorem fnL_snoc {β : Type} (n : Nat) (g : Nat → β) : fnL (n + 1) g = fnL n g ++ [g n] := by simp [fnL, List.range_succ]

/-- Numbers of a function. -/
def dL (n : Nat) (d : Nat → Int) : List AV := iS .i64 (fnL n d)
@[simp] theorem dL_len (n : Nat) (d : Nat → Int) : (dL n d).length = n := by simp [dL]
theorem dL_get {n i : Nat} (d : Nat → Int) (h : i < n) : (dL n d)[i]? = some (.int .i64 (d i)) := by
  unfold dL iS; rw [List.getElem?_map, fnL_get d h]; rfl
theorem iS_wr1 {a : List Int} {k : Nat} {v : Int} (h : k < a.length) : wrA (iS .i64 a) k [.int .i64 v] = iS .i64 (a.set k v) := by
  unfold wrA
  rw [List.set_eq_take_append_cons_drop, if_pos h]
  simp [iS, List.map_take, List.map_drop]
theorem dL_zero (n : Nat) : (List.replicate n [AV.int .i64 0]).flatten = dL n fun _ => 0 := by
  have : (List.replicate n [AV.int .i64 0]).flatten = List.replicate n (AV.int .i64 0) := by
    induction n with
    | zero => rfl
    | succ n ih => rw [List.replicate_succ, List.flatten_cons, ih, List.replicate_succ]; rfl
  rw [this]
  unfold dL iS
  rw [← fnL_rep, List.map_replicate]

@[simp] theorem wrA1_len (l : List AV) (k : Nat) (v : AV) : (wrA l k [v]).length = min k l.length + 1 + (l.length - (k + 1)) := by simp [wrA]; omega
theorem take_snoc {α : Type} {l : List α} {i : Nat} {x : α} (h : l[i]? = some x) : l.take (i + 1) = l.take i ++ [x] := by
  rw [List.take_add_one, h]; rfl
theorem getD_mem {l : List Int} {i : Nat} (h : i < l.length) : l.getD i 0 ∈ l := by
  rw [List.getD_eq_getElem?_getD, List.getElem?_eq_getElem h]; exact List.getElem_mem h
end Go.Proofs.Ytghielfbdpkhmaa
/- The walks of slices.Sort for short lists. -/
namespace Go.Proofs.Ytghielfbdpkhmaa
open Go.Fw Go
set_option linter.unusedVariables false
set_option linter.unusedSimpArgs false

/-- A number put behind all that are not greater. -/
def insI (x : Int) : List Int → List Int
  | [] => [x]
  | y :: l => if y ≤ x then y :: insI x l else x :: y :: l
def sortI (l : List Int) : List Int := l.foldl (fun a x => insI x a) []
def Srt : List Int → Prop
  | [] => True
  | x :: l => (∀ y ∈ l, x ≤ y) ∧ Srt l
@[simp] theorem insI_len (x : Int) (l : List Int) : (insI x l).length = l.length + 1 := by
  induction l with
  | nil => rfl
  | cons y l ih => unfold insI; split <;> simp [ih]
theorem insI_mem {x z : Int} {l : List Int} : z ∈ insI x l ↔ z = x ∨ z ∈ l := by
  induction l with
  | nil => simp [insI]
  | cons y l ih =>
    unfold insI; split
    · simp only [List.mem_cons, ih]; exact ⟨fun h => by rcases h with h | h | h <;> simp [h], fun h => by rcases h with h | h | h <;> simp [h]⟩
    · simp only [List.mem_cons]
theorem insI_srt {x : Int} {l : List Int} (h : Srt l) : Srt (insI x l) := by
  induction l with
  | nil => exact ⟨fun y hy => by simp at hy, trivial⟩
  | cons y l ih =>
    unfold insI; split
    · refine ⟨fun z hz => ?_, ih h.2⟩
      rcases insI_mem.1 hz with rfl | hz
      · assumption
      · exact h.1 z hz
    · refine ⟨fun z hz => ?_, h⟩
      rcases List.mem_cons.1 hz with rfl | hz
      · omega
      · have := h.1 z hz; omega
theorem sortI_snoc (l : List Int) (x : Int) : sortI (l ++ [x]) = insI x (sortI l) := by unfold sortI; rw [List.foldl_append]; rfl
theorem sortI_all : ∀ (k : List Int), Srt (sortI k.reverse) ∧ (sortI k.reverse).length = k.length ∧ ∀ z, z ∈ sortI k.reverse ↔ z ∈ k
  | [] => ⟨trivial, rfl, fun z => by simp [sortI]⟩
  | x :: k => by
    obtain ⟨h1, h2, h3⟩ := sortI_all k
    rw [List.reverse_cons, sortI_snoc]
    refine ⟨insI_srt h1, by rw [insI_len, h2]; rfl, fun z => ?_⟩
    rw [insI_mem, h3, List.mem_cons]
theorem sortI_srt (l : List Int) : Srt (sortI l) := by have := (sortI_all l.reverse).1; rwa [List.reverse_reverse] at this
@[simp] theorem sortI_len (l : List Int) : (sortI l).length = l.length := by have := (sortI_all l.reverse).2.1; rwa [List.reverse_reverse, List.length_reverse] at this
theorem sortI_mem {l : List Int} {z : Int} : z ∈ sortI l ↔ z ∈ l := by have := (sortI_all l.reverse).2.2 z; rwa [List.reverse_reverse, List.mem_reverse] at this
/-- Where a number belongs: all before it are not greater, the next one is. -/
theorem insI_at {x : Int} : ∀ {A B : List Int}, (∀ a ∈ A, a ≤ x) → (∀ b, B.head? = some b → x < b) → insI x (A ++ B) = A ++ x :: B
  | [], [], _, _ => rfl
  | [], b :: B, _, h => by
    have := h b rfl
    show (if b ≤ x then _ else _) = _
    rw [if_neg (by omega)]; rfl
  | a :: A, B, h, k => by
    show (if a ≤ x then _ else _) = _
    rw [if_pos (h a (by simp)), show insI x (List.append A B) = A ++ x :: B from insI_at (fun y hy => h y (by simp [hy])) k]
    rfl
theorem Srt.append {A B : List Int} : Srt (A ++ B) → Srt A ∧ Srt B := by
  induction A with
  | nil => exact fun h => ⟨trivial, h⟩
  | cons a A ih => exact fun h => ⟨⟨fun y hy => h.1 y (by simp [hy]), (ih h.2).1⟩, (ih h.2).2⟩
theorem Srt.last {A : List Int} (h : Srt A) {j : Nat} (hj : j + 1 = A.length) {a : Int} (ha : A[j]? = some a) : ∀ z ∈ A, z ≤ a := by
  induction A generalizing j with
  | nil => simp at hj
  | cons b A ih =>
    intro z hz
    cases j with
    | zero =>
      have : A = [] := by simpa using hj
      subst this
      simp at ha hz; omega
    | succ j =>
      have ha' : A[j]? = some a := by simpa using ha
      rcases List.mem_cons.1 hz with rfl | hz
      · exact h.1 a (List.mem_of_getElem? ha')
      · exact ih h.2 (by simpa using hj) ha' z hz

set_option maxRecDepth 8000 in
theorem isnan_c (x : Int) (H : AH) : ACall Try.prog 86 [.int .i64 x] H (fun y H' => y = .bool false ∧ H' = H) := by
  refine ACall_of tt_ok (dok _) Try.func86 rfl (by decide) rfl ?_
  (repeat' ((conv => whnf); first | refine Then.mk ?_ | refine OpsA.cons ?_ | refine OpsA.nil ?_ | refine AWq.seq ?_ | refine AWq.region ?_ | refine AWq.ret ?_ | (refine Both.mk ?_ ?_ <;> intro hc <;> (first | exact absurd (by with_reducible rfl) hc | skip)) | (apply And.intro; (first | rfl)))) <;> (try (conv => whnf))
set_option maxRecDepth 8000 in
theorem less_c (x y : Int) (H : AH) : ACall Try.prog 76 [.int .i64 x, .int .i64 y] H (fun z H' => z = .bool (decide (x < y)) ∧ H' = H) := by
  by_cases h : x < y
  · rw [decide_eq_true h]
    refine ACall_of tt_ok (dok _) Try.func76 rfl (by decide) rfl ?_
    (repeat' ((conv => whnf); first | refine Then.mk ?_ | refine OpsA.cons ?_ | refine OpsA.nil ?_ | refine AWq.seq ?_ | refine AWq.region ?_ | refine AWq.ret ?_ | (refine Both.mk ?_ ?_ <;> intro hc <;> (first | exact absurd (by assumption) hc | exact absurd hc (by assumption) | skip)) | (apply And.intro; (first | rfl)) | (refine ACall.to (isnan_c _ _) ?_))) <;> (try (conv => whnf))
  · rw [decide_eq_false h]
    refine ACall_of tt_ok (dok _) Try.func76 rfl (by decide) rfl ?_
    (repeat' ((conv => whnf); first | refine Then.mk ?_ | refine OpsA.cons ?_ | refine OpsA.nil ?_ | refine AWq.seq ?_ | refine AWq.region ?_ | refine AWq.ret ?_ | (refine Both.mk ?_ ?_ <;> intro hc <;> (first | exact absurd (by assumption) hc | exact absurd hc (by assumption) | skip)) | (apply And.intro; (first | rfl)) | (refine ACall.to (isnan_c _ _) ?_))) <;> (try (conv => whnf))
set_option maxRecDepth 8000 in
theorem len64s_c (u : Nat) (hu : u ≤ 12) (H : AH) : ACall Try.prog 80 [.int .u64 u] H (fun y H' => ∃ k : Int, y = .int .i64 k ∧ H' = H) := by
  rcases (show u = 0 ∨ u = 1 ∨ u = 2 ∨ u = 3 ∨ u = 4 ∨ u = 5 ∨ u = 6 ∨ u = 7 ∨ u = 8 ∨ u = 9 ∨ u = 10 ∨ u = 11 ∨ u = 12 by omega) with rfl | rfl | rfl | rfl | rfl | rfl | rfl | rfl | rfl | rfl | rfl | rfl | rfl
  all_goals
    refine ACall_of tt_ok (dok _) Try.func80 rfl (by decide) rfl ?_
    (repeat' ((conv => whnf); first | refine Then.mk ?_ | refine OpsA.cons ?_ | refine OpsA.nil ?_ | refine AWq.seq ?_ | refine AWq.region ?_ | refine AWq.cond ?_ | refine AWq.skip ?_ | refine AWq.ret ?_ | (refine Both.mk ?_ ?_ <;> intro hc <;> (first | exact Bool.noConfusion hc | (exfalso; omega) | skip)) | (intro c hc; (try (simp only [AH.none_iff] at hc; repeat (have hn := hc.1; replace hc := hc.2))); (first | (refine u8_k hc ?_ ?_ ?_ ; omega; omega; (clear hc; intro hc; subst hc)) | subst hc | skip)) | (apply Exists.intro; apply And.intro; first | ((try simp only [List.getElem?_drop, Nat.mul_one, Nat.add_zero, Nat.zero_add]); first | rfl)) | (apply And.intro; (first | rfl | omega | (simp <;> fail))))) <;> (try (conv => whnf))
set_option maxRecDepth 8000 in
theorem lens_c (u : Nat) (hu : u ≤ 12) (H : AH) : ACall Try.prog 69 [.int .u64 u] H (fun y H' => ∃ k : Int, y = .int .i64 k ∧ H' = H) := by
  refine ACall_of tt_ok (dok _) Try.func69 rfl (by decide) rfl ?_
  (repeat' ((conv => whnf); first | refine Then.mk ?_ | refine OpsA.cons ?_ | refine OpsA.nil ?_ | refine AWq.seq ?_ | refine AWq.region ?_ | refine AWq.cond ?_ | refine AWq.skip ?_ | refine AWq.ret ?_ | (refine Both.mk ?_ ?_ <;> intro hc <;> (first | exact Bool.noConfusion hc | skip)) | (apply Exists.intro; apply And.intro; first | ((try simp only [List.getElem?_drop, Nat.mul_one, Nat.add_zero, Nat.zero_add]); first | rfl)) | (apply And.intro; (first | rfl)))) <;> (try (conv => whnf))
  refine (len64s_c u hu _).mono ?_
  rintro y H' ⟨k, rfl, rfl⟩
  (repeat' ((conv => whnf); first | refine Then.mk ?_ | refine OpsA.cons ?_ | refine OpsA.nil ?_ | refine AWq.seq ?_ | refine AWq.region ?_ | refine AWq.cond ?_ | refine AWq.skip ?_ | refine AWq.ret ?_ | (refine Both.mk ?_ ?_ <;> intro hc <;> (first | exact Bool.noConfusion hc | skip)) | (apply Exists.intro; apply And.intro; first | ((try simp only [List.getElem?_drop, Nat.mul_one, Nat.add_zero, Nat.zero_add]); first | rfl)) | (apply And.intro; (first | rfl)))) <;> (try (conv => whnf))

/-- A list while a number moves to its place. -/
def mvI (S : List Int) (x : Int) (R : List Int) (j : Nat) : List Int := S.take j ++ x :: (S.drop j ++ R)
theorem mvI_len {S : List Int} {x : Int} {R : List Int} {j : Nat} (hj : j ≤ S.length) : (mvI S x R j).length = S.length + 1 + R.length := by
  unfold mvI; simp only [List.length_append, List.length_cons, List.length_take, List.length_drop]; omega
theorem mvI_at {S : List Int} {x : Int} {R : List Int} {j : Nat} (hj : j ≤ S.length) : (mvI S x R j).getD j 0 = x := by
  unfold mvI
  rw [List.getD_eq_getElem?_getD, List.getElem?_append_right (by rw [List.length_take]; omega), List.length_take, Nat.min_eq_left hj, Nat.sub_self]; rfl
theorem mvI_pr {S : List Int} {x : Int} {R : List Int} {j : Nat} (hj : j + 1 ≤ S.length) : (mvI S x R (j + 1)).getD j 0 = S.getD j 0 := by
  unfold mvI
  rw [List.getD_eq_getElem?_getD, List.getElem?_append_left (by rw [List.length_take]; omega), List.getElem?_take_of_lt (by omega), List.getD_eq_getElem?_getD]
theorem mvI_step {S : List Int} {x : Int} {R : List Int} {j : Nat} (hj : j + 1 ≤ S.length) : ((mvI S x R (j + 1)).set (j + 1) (S.getD j 0)).set j x = mvI S x R j := by
  have hg : S[j]? = some (S.getD j 0) := by rw [List.getD_eq_getElem?_getD, List.getElem?_eq_getElem (show j < S.length by omega)]; rfl
  have hd : S.drop j = S.getD j 0 :: S.drop (j + 1) := by
    rw [List.drop_eq_getElem_cons (show j < S.length by omega), List.getD_eq_getElem?_getD, List.getElem?_eq_getElem (show j < S.length by omega)]; rfl
  unfold mvI
  rw [take_snoc hg, hd]
  have hl : (S.take j).length = j := by rw [List.length_take]; omega
  generalize S.take j = A at *
  generalize S.getD j 0 = z
  generalize S.drop (j + 1) = B
  subst hl
  rw [List.append_assoc, List.set_append_right (h := by omega), List.set_append_right (h := by omega)]
  simp
set_option maxHeartbeats 4000000 in
set_option maxRecDepth 8000 in
theorem insort_c (l : List Int) (hl : l.length ≤ 12) (r v : Nat) (H : AH) (hr : H r = some (.row (iS .i64 l) v)) :
    ACall Try.prog 70 [.sl r v 1 0 l.length none, .int .i64 0, .int .i64 l.length] H (fun y H' => y = .tup [] ∧ H' = H.set r (.row (iS .i64 (sortI l)) v)) := by
  refine ACall_of tt_ok (dok _) Try.func70 rfl (by decide) rfl ?_
  (repeat' ((conv => whnf); first | refine Then.mk ?_ | refine OpsA.cons ?_ | refine OpsA.nil ?_ | refine AWq.seq ?_ | refine AWq.region ?_ | refine AWq.cond ?_ | refine AWq.block ?_ | refine AWq.skip ?_ | refine AWq.exit ?_ | refine AWq.loop ?_ | refine DrawA.consD ?_ | refine DrawA.nil ?_ | refine AWq.draw (by decide +kernel) ?_ | (refine Both.mk ?_ ?_ <;> intro hc <;> (first | exact Bool.noConfusion hc | (exfalso; omega) | skip)) | (intro c hc; (try (simp only [AH.none_iff] at hc; repeat (have hn := hc.1; replace hc := hc.2))); (first | (refine i64_k hc ?_ ?_ ?_ ; omega; omega; (clear hc; intro hc; subst hc)) | skip)) | (apply Exists.intro; apply And.intro; (first | (focus (repeat (first | (with_reducible assumption) | (with_reducible exact AH.set_same _ _ _))); done))) | (apply Exists.intro; apply And.intro; first | (with_reducible assumption) | ((try simp only [List.getElem?_drop, Nat.mul_one, Nat.add_zero, Nat.zero_add]); first | (with_reducible assumption) | rfl)) | (apply And.intro; (first | rfl | (with_reducible assumption) | omega | (simp <;> omega))))) <;> (try (conv => whnf))
  refine AWp_loop (σ := Nat) (6 :: 7 :: 10 :: 11 :: 12 :: 13 :: 14 :: 15 :: 16 :: 17 :: 18 :: 19 :: 20 :: 21 :: 22 :: 23 :: 24 :: 25 :: 26 :: 27 :: 28 :: 29 :: 30 :: 31 :: 32 :: 33 :: 34 :: 35 :: 36 :: 37 :: 38 :: 39 :: 40 :: 41 :: 42 :: 43 :: 44 :: 45 :: 46 :: 47 :: 48 :: []) (fun i => [(6, .int .i64 i)]) (fun i => H.set r (.row (iS .i64 (sortI (l.take i) ++ l.drop i)) v)) (fun i => 1 ≤ i ∧ (i ≤ l.length ∨ l = [] ∧ i = 1)) (fun i => l.length - i) 1 rfl ?_ ⟨rfl, trivial⟩ ?_ ?_
  · rcases l with _ | ⟨x, l⟩
    · exact ⟨by decide, .inr ⟨rfl, rfl⟩⟩
    · exact ⟨by decide, .inl (by simp)⟩
  · have h1 : sortI (l.take 1) ++ l.drop 1 = l := by rcases l with _ | ⟨x, l⟩ <;> rfl
    rw [h1, AH.set_id hr]; exact HLe.refl _
  rintro i ⟨hi1, hi⟩
  refine AWp.of tt_ok (dok _) rfl ?_
  dsimp only at hi ⊢
  by_cases hlt : i < l.length
  · obtain ⟨x, hx⟩ : ∃ x, l[i]? = some x := ⟨_, List.getElem?_eq_getElem hlt⟩
    have hdx : l.drop i = x :: l.drop (i + 1) := by
      rw [List.drop_eq_getElem_cons hlt]; congr 1
      rw [List.getElem?_eq_getElem hlt] at hx; exact Option.some.inj hx
    have htx : l.take (i + 1) = l.take i ++ [x] := take_snoc hx
    have hSl : (sortI (l.take i)).length = i := by rw [sortI_len, List.length_take]; omega
    have hSs := sortI_srt (l.take i)
    have hfin : sortI (l.take (i + 1)) = insI x (sortI (l.take i)) := by rw [htx, sortI_snoc]
    have hRl : (l.drop (i + 1)).length = l.length - (i + 1) := List.length_drop
    rw [hdx]
    generalize sortI (l.take i) = S at *
    generalize hRd : l.drop (i + 1) = R at *
    clear htx hdx hx
    generalize hP : sortI (l.take (i + 1)) = P at *
    (repeat' ((conv => whnf); first | refine Then.mk ?_ | refine OpsA.cons ?_ | refine OpsA.nil ?_ | refine AWq.seq ?_ | refine AWq.region ?_ | refine AWq.cond ?_ | refine AWq.block ?_ | refine AWq.skip ?_ | refine AWq.exit ?_ | refine AWq.loop ?_ | refine DrawA.consD ?_ | refine DrawA.nil ?_ | refine AWq.draw (by decide +kernel) ?_ | (refine Both.mk ?_ ?_ <;> intro hc <;> (first | exact Bool.noConfusion hc | (exfalso; omega) | skip)) | (intro c hc; (try (simp only [AH.none_iff] at hc; repeat (have hn := hc.1; replace hc := hc.2))); (first | (refine i64_k hc ?_ ?_ ?_ ; omega; omega; (clear hc; intro hc; subst hc)) | skip)) | (apply Exists.intro; apply And.intro; (first | (focus (repeat (first | (with_reducible assumption) | (with_reducible exact AH.set_same _ _ _))); done))) | (apply Exists.intro; apply And.intro; first | (with_reducible assumption) | ((try simp only [List.getElem?_drop, Nat.mul_one, Nat.add_zero, Nat.zero_add]); first | (with_reducible assumption) | rfl)) | (apply And.intro; (first | rfl | (with_reducible assumption) | omega | (simp <;> omega))))) <;> (try (conv => whnf))
    refine AWp_loop (σ := Nat) (7 :: 16 :: 17 :: 18 :: 19 :: 20 :: 21 :: 22 :: 23 :: 24 :: 25 :: 26 :: 27 :: 28 :: 29 :: 30 :: 31 :: 32 :: 33 :: 34 :: 35 :: 36 :: 37 :: 38 :: 39 :: 40 :: 41 :: 42 :: 43 :: 44 :: 45 :: 46 :: 47 :: 48 :: []) (fun j => [(7, .int .i64 j), (6, .int .i64 i)]) (fun j => H.set r (.row (iS .i64 (mvI S x R j)) v)) (fun j => j ≤ i ∧ ∀ b ∈ S.drop j, x < b) (fun j => j) i rfl ⟨Nat.le_refl _, ?_⟩ ⟨rfl, rfl, trivial⟩ ?_ ?_
    · intro b hb
      rw [List.drop_of_length_le (by omega)] at hb
      simp at hb
    · unfold mvI
      rw [List.take_of_length_le (by omega), List.drop_of_length_le (by omega), List.nil_append]
      exact HLe.refl _
    rintro j ⟨hj, hjb⟩
    refine AWp.of tt_ok (dok _) rfl ?_
    dsimp only
    have hml := mvI_len (S := S) (x := x) (R := R) (j := j) (by omega)
    have hil := iS_length .i64 (mvI S x R j)
    have hgr : (H.set r (.row (iS .i64 (mvI S x R j)) v)) r = some (.row (iS .i64 (mvI S x R j)) v) := AH.set_same _ _ _
    rcases j with _ | j
    · (repeat' ((conv => whnf); first | refine Then.mk ?_ | refine OpsA.cons ?_ | refine OpsA.nil ?_ | refine AWq.seq ?_ | refine AWq.region ?_ | refine AWq.cond ?_ | refine AWq.block ?_ | refine AWq.skip ?_ | refine AWq.exit ?_ | refine AWq.loop ?_ | refine DrawA.consD ?_ | refine DrawA.nil ?_ | refine AWq.draw (by decide +kernel) ?_ | (refine Both.mk ?_ ?_ <;> intro hc <;> (first | exact Bool.noConfusion hc | (exfalso; omega) | skip)) | (intro c hc; (try (simp only [AH.none_iff] at hc; repeat (have hn := hc.1; replace hc := hc.2))); (first | (refine i64_k hc ?_ ?_ ?_ ; omega; omega; (clear hc; intro hc; subst hc)) | skip)) | (apply Exists.intro; apply And.intro; (first | (focus (repeat (first | (with_reducible assumption) | (with_reducible exact AH.set_same _ _ _))); done))) | (apply Exists.intro; apply And.intro; first | (with_reducible assumption) | ((try simp only [List.getElem?_drop, Nat.mul_one, Nat.add_zero, Nat.zero_add]); first | (with_reducible assumption) | rfl)) | (apply And.intro; (first | rfl | (with_reducible assumption) | omega | (simp <;> omega))))) <;> (try (conv => whnf))
      refine ⟨i + 1, ⟨by omega, .inl hlt⟩, show l.length - (i + 1) < l.length - i by omega, ⟨rfl, trivial⟩, HLe.of_eq ?_⟩
      rw [hP, hfin]
      have := insI_at (x := x) (A := []) (B := S) (fun a ha => by simp at ha) (fun b hb => hjb b (by rw [List.drop_zero]; exact List.mem_of_mem_head? hb))
      rw [List.nil_append] at this
      rw [this, hRd]; rfl
    · have g1 : (iS .i64 (mvI S x R (j + 1)))[((j + 1 : Nat) : Int).toNat]? = some (.int .i64 x) := by
        have := iS_get (k := .i64) (l := mvI S x R (j + 1)) (i := j + 1) (by omega)
        rw [mvI_at (by omega)] at this
        exact this
      have g2 : (iS .i64 (mvI S x R (j + 1)))[(((j + 1 : Nat) : Int) - 1).toNat]? = some (.int .i64 (S.getD j 0)) := by
        rw [show (((j + 1 : Nat) : Int) - 1).toNat = j by omega]
        have := iS_get (k := .i64) (l := mvI S x R (j + 1)) (i := j) (by omega)
        rw [mvI_pr (by omega)] at this
        exact this
      have w1 := wr_iS (K := .i64) (a := mvI S x R (j + 1)) (k := j + 1) (v := S.getD j 0) (by omega)
      have w2 := wr_iS (K := .i64) (a := (mvI S x R (j + 1)).set (j + 1) (S.getD j 0)) (k := j) (v := x) (by rw [List.length_set]; omega)
      rw [mvI_step (by omega), ← w1] at w2
      by_cases hlt2 : x < S.getD j 0
      · have ls := fun H => less_c x (S.getD j 0) H
        rw [decide_eq_true hlt2] at ls
        (repeat' ((conv => whnf); first | refine Then.mk ?_ | refine OpsA.cons ?_ | refine OpsA.nil ?_ | refine AWq.seq ?_ | refine AWq.region ?_ | refine AWq.cond ?_ | refine AWq.block ?_ | refine AWq.skip ?_ | refine AWq.exit ?_ | refine AWq.loop ?_ | refine DrawA.consD ?_ | refine DrawA.nil ?_ | refine AWq.draw (by decide +kernel) ?_ | (apply Exists.intro; apply And.intro; exact ls _) | (refine Both.mk ?_ ?_ <;> intro hc <;> (first | exact Bool.noConfusion hc | (exfalso; omega) | skip)) | (intro c hc; (try (simp only [AH.none_iff] at hc; repeat (have hn := hc.1; replace hc := hc.2))); (first | (refine i64_k hc ?_ ?_ ?_ ; omega; omega; (clear hc; intro hc; subst hc)) | skip)) | (apply Exists.intro; apply And.intro; (first | (focus (repeat (first | (with_reducible assumption) | (with_reducible exact AH.set_same _ _ _))); done))) | (apply Exists.intro; apply And.intro; first | (with_reducible assumption) | ((try simp only [List.getElem?_drop, Nat.mul_one, Nat.add_zero, Nat.zero_add]); first | (with_reducible assumption) | rfl)) | (apply And.intro; (first | rfl | (with_reducible assumption) | omega | (simp <;> omega))))) <;> (try (conv => whnf))
        refine ⟨j, ⟨by omega, fun b hb => ?_⟩, Nat.lt_succ_self j, ⟨congrArg (AV.int .i64) (by omega), rfl, trivial⟩, HLe.of_eq ?_⟩
        · rw [List.drop_eq_getElem_cons (show j < S.length by omega)] at hb
          rcases List.mem_cons.1 hb with rfl | hb
          · rw [List.getD_eq_getElem?_getD, List.getElem?_eq_getElem (show j < S.length by omega)] at hlt2; exact hlt2
          · exact hjb b hb
        · rw [AH.set_set, AH.set_set, show 0 + ((j + 1 : Nat) : Int).toNat * 1 = j + 1 by omega, show 0 + (((j + 1 : Nat) : Int) - 1).toNat * 1 = j by omega]; exact congrArg (fun z => H.set r (.row z v)) w2.symm
      · have hle : S.getD j 0 ≤ x := by omega
        have ls := fun H => less_c x (S.getD j 0) H
        rw [decide_eq_false hlt2] at ls
        (repeat' ((conv => whnf); first | refine Then.mk ?_ | refine OpsA.cons ?_ | refine OpsA.nil ?_ | refine AWq.seq ?_ | refine AWq.region ?_ | refine AWq.cond ?_ | refine AWq.block ?_ | refine AWq.skip ?_ | refine AWq.exit ?_ | refine AWq.loop ?_ | refine DrawA.consD ?_ | refine DrawA.nil ?_ | refine AWq.draw (by decide +kernel) ?_ | (apply Exists.intro; apply And.intro; exact ls _) | (refine Both.mk ?_ ?_ <;> intro hc <;> (first | exact Bool.noConfusion hc | (exfalso; omega) | skip)) | (intro c hc; (try (simp only [AH.none_iff] at hc; repeat (have hn := hc.1; replace hc := hc.2))); (first | (refine i64_k hc ?_ ?_ ?_ ; omega; omega; (clear hc; intro hc; subst hc)) | skip)) | (apply Exists.intro; apply And.intro; (first | (focus (repeat (first | (with_reducible assumption) | (with_reducible exact AH.set_same _ _ _))); done))) | (apply Exists.intro; apply And.intro; first | (with_reducible assumption) | ((try simp only [List.getElem?_drop, Nat.mul_one, Nat.add_zero, Nat.zero_add]); first | (with_reducible assumption) | rfl)) | (apply And.intro; (first | rfl | (with_reducible assumption) | omega | (simp <;> omega))))) <;> (try (conv => whnf))
        refine ⟨i + 1, ⟨by omega, .inl hlt⟩, show l.length - (i + 1) < l.length - i by omega, ⟨rfl, trivial⟩, HLe.of_eq ?_⟩
        rw [hP, hfin, hRd]
        have hTl : (S.take (j + 1)).length = j + 1 := by rw [List.length_take]; omega
        have hTs : Srt (S.take (j + 1)) := by
          have := hSs
          rw [← List.take_append_drop (j + 1) S] at this
          exact this.append.1
        have hg : (S.take (j + 1))[j]? = some (S.getD j 0) := by
          rw [List.getElem?_take_of_lt (by omega), List.getD_eq_getElem?_getD, List.getElem?_eq_getElem (show j < S.length by omega)]; rfl
        have hA := hTs.last (by omega) hg
        have := insI_at (x := x) (A := S.take (j + 1)) (B := S.drop (j + 1)) (fun a ha => by have := hA a ha; omega) (fun b hb => hjb b (List.mem_of_mem_head? hb))
        rw [List.take_append_drop] at this
        rw [this, List.append_assoc]; rfl
  · (repeat' ((conv => whnf); first | refine Then.mk ?_ | refine OpsA.cons ?_ | refine OpsA.nil ?_ | refine AWq.seq ?_ | refine AWq.region ?_ | refine AWq.cond ?_ | refine AWq.block ?_ | refine AWq.skip ?_ | refine AWq.exit ?_ | refine AWq.loop ?_ | refine DrawA.consD ?_ | refine DrawA.nil ?_ | refine AWq.draw (by decide +kernel) ?_ | (refine Both.mk ?_ ?_ <;> intro hc <;> (first | exact Bool.noConfusion hc | (exfalso; omega) | skip)) | (intro c hc; (try (simp only [AH.none_iff] at hc; repeat (have hn := hc.1; replace hc := hc.2))); (first | (refine i64_k hc ?_ ?_ ?_ ; omega; omega; (clear hc; intro hc; subst hc)) | skip)) | (apply Exists.intro; apply And.intro; (first | (focus (repeat (first | (with_reducible assumption) | (with_reducible exact AH.set_same _ _ _))); done))) | (apply Exists.intro; apply And.intro; first | (with_reducible assumption) | ((try simp only [List.getElem?_drop, Nat.mul_one, Nat.add_zero, Nat.zero_add]); first | (with_reducible assumption) | rfl)) | (apply And.intro; (first | rfl | (with_reducible assumption) | omega | (simp <;> omega))))) <;> (try (conv => whnf))
    rw [List.take_of_length_le (by omega), List.drop_of_length_le (by omega), List.append_nil]
set_option maxHeartbeats 4000000 in
set_option maxRecDepth 8000 in
theorem sort_c (l : List Int) (hl : l.length ≤ 12) (r v : Nat) (H : AH) (hr : H r = some (.row (iS .i64 l) v)) :
    ACall Try.prog 63 [.sl r v 1 0 l.length none] H (fun y H' => y = .tup [] ∧ H' = H.set r (.row (iS .i64 (sortI l)) v)) := by
  have hi := insort_c l hl r v H hr
  have hp : ∀ k : Int, ACall Try.prog 68 [.sl r v 1 0 l.length none, .int .i64 0, .int .i64 l.length, .int .i64 k] H (fun y H' => y = .tup [] ∧ H' = H.set r (.row (iS .i64 (sortI l)) v)) := by
    intro k
    refine ACall_of tt_ok (dok _) Try.func68 rfl (by decide) rfl ?_
    (repeat' ((conv => whnf); first | refine Then.mk ?_ | refine OpsA.cons ?_ | refine OpsA.nil ?_ | refine AWq.seq ?_ | refine AWq.region ?_ | refine AWq.cond ?_ | refine AWq.block ?_ | refine AWq.ret ?_ | refine AWq.loop ?_ | (refine Both.mk ?_ ?_ <;> intro hc <;> (first | exact Bool.noConfusion hc | (exfalso; omega) | skip)) | (intro c hc; (try (simp only [AH.none_iff] at hc; repeat (have hn := hc.1; replace hc := hc.2))); (first | (refine i64_k hc ?_ ?_ ?_ ; omega; omega; (clear hc; intro hc; subst hc)) | (refine u64_k hc ?_ ?_ ?_ ; omega; omega; (clear hc; intro hc; subst hc)) | skip)) | (apply And.intro; (first | rfl)))) <;> (try (conv => whnf))
    refine AWp_loop (σ := Nat) (1 :: 2 :: 3 :: 8 :: 9 :: 10 :: 11 :: 12 :: 13 :: 14 :: 15 :: 16 :: 17 :: 18 :: 19 :: 20 :: 21 :: 22 :: 23 :: 24 :: 25 :: 26 :: 27 :: 28 :: 29 :: 30 :: 31 :: 32 :: 33 :: 34 :: 35 :: 36 :: 37 :: 38 :: 39 :: 40 :: 41 :: 42 :: 43 :: 44 :: 45 :: 46 :: 47 :: 48 :: 49 :: 50 :: 51 :: 52 :: 53 :: 54 :: 55 :: 56 :: 57 :: 58 :: 59 :: 60 :: 61 :: 62 :: 63 :: 64 :: 65 :: 66 :: 67 :: 68 :: 69 :: 70 :: 71 :: 72 :: 73 :: 74 :: 75 :: 76 :: 77 :: 78 :: 79 :: 80 :: 81 :: 82 :: 83 :: 84 :: 85 :: 86 :: 87 :: 88 :: 89 :: 90 :: 91 :: 92 :: 93 :: 94 :: 95 :: 96 :: 97 :: 98 :: 99 :: 100 :: 101 :: 102 :: 103 :: 104 :: 105 :: 106 :: 107 :: 108 :: 109 :: 110 :: 111 :: 112 :: 113 :: 114 :: 115 :: 116 :: 117 :: 118 :: 119 :: 120 :: 121 :: 122 :: 123 :: 124 :: 125 :: 126 :: 127 :: 128 :: 129 :: 130 :: 131 :: 132 :: 133 :: []) (fun _ => [(0, .sl r v 1 0 l.length none), (1, .int .i64 0), (2, .int .i64 l.length)]) (fun _ => H) (fun _ => True) (fun i => i) 0 rfl trivial ⟨rfl, rfl, rfl, trivial⟩ (HLe.refl _) ?_
    intro i _
    refine AWp.of tt_ok (dok _) rfl ?_
    (repeat' ((conv => whnf); first | refine Then.mk ?_ | refine OpsA.cons ?_ | refine OpsA.nil ?_ | refine AWq.seq ?_ | refine AWq.region ?_ | refine AWq.cond ?_ | refine AWq.block ?_ | refine AWq.ret ?_ | refine AWq.loop ?_ | (refine Both.mk ?_ ?_ <;> intro hc <;> (first | exact Bool.noConfusion hc | (exfalso; omega) | skip)) | (intro c hc; (try (simp only [AH.none_iff] at hc; repeat (have hn := hc.1; replace hc := hc.2))); (first | (refine i64_k hc ?_ ?_ ?_ ; omega; omega; (clear hc; intro hc; subst hc)) | (refine u64_k hc ?_ ?_ ?_ ; omega; omega; (clear hc; intro hc; subst hc)) | skip)) | (apply And.intro; (first | rfl)) | (refine ACall.to (hi) ?_))) <;> (try (conv => whnf))
    done
  refine ACall_of tt_ok (dok _) Try.func63 rfl (by decide) rfl ?_
  (repeat' ((conv => whnf); first | refine Then.mk ?_ | refine OpsA.cons ?_ | refine OpsA.nil ?_ | refine AWq.seq ?_ | refine AWq.region ?_ | refine AWq.cond ?_ | refine AWq.block ?_ | refine AWq.ret ?_ | refine AWq.loop ?_ | (refine Both.mk ?_ ?_ <;> intro hc <;> (first | exact Bool.noConfusion hc | (exfalso; omega) | skip)) | (intro c hc; (try (simp only [AH.none_iff] at hc; repeat (have hn := hc.1; replace hc := hc.2))); (first | (refine i64_k hc ?_ ?_ ?_ ; omega; omega; (clear hc; intro hc; subst hc)) | (refine u64_k hc ?_ ?_ ?_ ; omega; omega; (clear hc; intro hc; subst hc)) | skip)) | (apply And.intro; (first | rfl)))) <;> (try (conv => whnf))
  refine (lens_c l.length (by omega) _).mono ?_
  rintro y H' ⟨k, rfl, rfl⟩
  (repeat' ((conv => whnf); first | refine Then.mk ?_ | refine OpsA.cons ?_ | refine OpsA.nil ?_ | refine AWq.seq ?_ | refine AWq.region ?_ | refine AWq.cond ?_ | refine AWq.block ?_ | refine AWq.ret ?_ | refine AWq.loop ?_ | (refine Both.mk ?_ ?_ <;> intro hc <;> (first | exact Bool.noConfusion hc | (exfalso; omega) | skip)) | (intro c hc; (try (simp only [AH.none_iff] at hc; repeat (have hn := hc.1; replace hc := hc.2))); (first | (refine i64_k hc ?_ ?_ ?_ ; omega; omega; (clear hc; intro hc; subst hc)) | (refine u64_k hc ?_ ?_ ?_ ; omega; omega; (clear hc; intro hc; subst hc)) | skip)) | (apply And.intro; (first | rfl)) | (refine ACall.to (hp _) ?_))) <;> (try (conv => whnf))
  done
end Go.Proofs.Ytghielfbdpkhmaa
/- The walks of blend: between, floor, Mix. -/
namespace Go.Proofs.Ytghielfbdpkhmaa
open Go.Fw Go
set_option linter.unusedVariables false
set_option linter.unusedSimpArgs false

def I64 (x : Int) : Prop := -9223372036854775808 ≤ x ∧ x ≤ 9223372036854775807
instance (x : Int) : Decidable (I64 x) := by unfold I64; exact inferInstance
set_option maxRecDepth 8000 in
theorem btw_c (n lo hi : Int) (H : AH) : ACall Try.prog 46 [.int .i64 n, .int .i64 lo, .int .i64 hi] H (fun y H' => y = .bool (decide (lo ≤ n ∧ n ≤ hi)) ∧ H' = H) := by
  by_cases h1 : lo ≤ n
  · by_cases h2 : n ≤ hi
    · rw [decide_eq_true ⟨h1, h2⟩]
      refine ACall_of tt_ok (dok _) Try.func46 rfl (by decide) rfl ?_
      (repeat' ((conv => whnf); first | refine Then.mk ?_ | refine OpsA.cons ?_ | refine OpsA.nil ?_ | refine AWq.seq ?_ | refine AWq.region ?_ | refine AWq.ret ?_ | (refine Both.mk ?_ ?_ <;> intro hc <;> (first | exact absurd (by assumption) hc | exact absurd hc (by assumption) | skip)) | (apply And.intro; (first | rfl)))) <;> (try (conv => whnf))
    · rw [decide_eq_false (fun h => h2 h.2)]
      refine ACall_of tt_ok (dok _) Try.func46 rfl (by decide) rfl ?_
      (repeat' ((conv => whnf); first | refine Then.mk ?_ | refine OpsA.cons ?_ | refine OpsA.nil ?_ | refine AWq.seq ?_ | refine AWq.region ?_ | refine AWq.ret ?_ | (refine Both.mk ?_ ?_ <;> intro hc <;> (first | exact absurd (by assumption) hc | exact absurd hc (by assumption) | skip)) | (apply And.intro; (first | rfl)))) <;> (try (conv => whnf))
  · rw [decide_eq_false (fun h => h1 h.1)]
    refine ACall_of tt_ok (dok _) Try.func46 rfl (by decide) rfl ?_
    (repeat' ((conv => whnf); first | refine Then.mk ?_ | refine OpsA.cons ?_ | refine OpsA.nil ?_ | refine AWq.seq ?_ | refine AWq.region ?_ | refine AWq.ret ?_ | (refine Both.mk ?_ ?_ <;> intro hc <;> (first | exact absurd (by assumption) hc | exact absurd hc (by assumption) | skip)) | (apply And.intro; (first | rfl)))) <;> (try (conv => whnf))
theorem btw_t (n lo hi : Int) (h : lo ≤ n ∧ n ≤ hi) (H : AH) : ACall Try.prog 46 [.int .i64 n, .int .i64 lo, .int .i64 hi] H (fun y H' => y = .bool true ∧ H' = H) := by
  have := btw_c n lo hi H; rwa [decide_eq_true h] at this
/-- The quotient, rounded down. -/
theorem fdiv_t {a b : Int} (hb : 0 < b) : a / b = if a.tmod b < 0 then a.tdiv b - 1 else a.tdiv b := by
  have h1 := Int.mul_tdiv_add_tmod a b
  have h2 := Int.mul_ediv_add_emod a b
  have h3 := Int.emod_nonneg a (show b ≠ 0 by omega)
  have h4 := Int.emod_lt_of_pos a hb
  have h5 := Int.tmod_lt_of_pos a hb
  have h6 : -b < a.tmod b := by
    have := Int.tmod_lt_of_pos (-a) hb
    rw [Int.neg_tmod] at this; omega
  have e : b * (a / b) - b * (a.tdiv b) = a.tmod b - a % b := by omega
  rw [← Int.mul_sub] at e
  generalize hk : a / b - a.tdiv b = k at *
  by_cases hk1 : 1 ≤ k
  · have : b * 1 ≤ b * k := Int.mul_le_mul_of_nonneg_left hk1 (by omega)
    omega
  · by_cases hk2 : k ≤ -2
    · have : b * k ≤ b * (-2) := Int.mul_le_mul_of_nonneg_left hk2 (by omega)
      omega
    · rcases (show k = 0 ∨ k = -1 by omega) with rfl | rfl
      · rw [Int.mul_zero] at e
        rw [if_neg (by omega)]; omega
      · rw [show b * -1 = -b by omega] at e
        rw [if_pos (by omega)]; omega
set_option maxRecDepth 8000 in
theorem floor_c (a b : Int) (ha : I64 a) (hb : 0 < b ∧ b ≤ 9223372036854775807) (H : AH) : ACall Try.prog 49 [.int .i64 a, .int .i64 b] H (fun y H' => y = .int .i64 (a / b) ∧ H' = H) := by
  have hd := fdiv_t (a := a) hb.1
  have hq : I64 (a.tdiv b) ∧ I64 (a.tdiv b - 1) ∨ ¬ a.tmod b < 0 ∧ I64 (a.tdiv b) := by
    have h1 := Int.ediv_le_self (a := a) (b := b)
    by_cases h0 : 0 ≤ a
    · have e : a.tdiv b = a / b := Int.tdiv_eq_ediv_of_nonneg h0
      have e2 : a.tmod b = a % b := Int.tmod_eq_emod_of_nonneg h0
      have h2 := Int.ediv_nonneg h0 (show 0 ≤ b by omega)
      have h3 := Int.ediv_le_self b h0
      have h4 := Int.emod_nonneg a (show b ≠ 0 by omega)
      unfold I64 at *
      rw [e, e2]; omega
    · obtain ⟨p, hp⟩ : ∃ p, p = -a := ⟨_, rfl⟩
      have e : a.tdiv b = -(p / b) := by
        rw [show a = -p by omega, Int.neg_tdiv, Int.tdiv_eq_ediv_of_nonneg (by omega)]
      have e2 : a.tmod b = -(p % b) := by
        rw [show a = -p by omega, Int.neg_tmod, Int.tmod_eq_emod_of_nonneg (by omega)]
      have h2 := Int.ediv_nonneg (show 0 ≤ p by omega) (show 0 ≤ b by omega)
      have h3 := Int.ediv_le_self b (show 0 ≤ p by omega)
      have h5 := Int.mul_ediv_add_emod p b
      have h6 := Int.emod_nonneg p (show b ≠ 0 by omega)
      unfold I64 at *
      rw [e, e2]
      by_cases hb1 : b = 1
      · subst hb1
        rw [Int.emod_one, Int.ediv_one]; omega
      · have : 2 * (p / b) ≤ b * (p / b) := Int.mul_le_mul_of_nonneg_right (by omega) h2
        omega
  rw [hd]
  clear hd
  have w1 : I64 (a.tdiv b) → IntKind.i64.wrap (a.tdiv b) = a.tdiv b := fun h => by rw [IntKind.wrap_i64]; unfold I64 at h; omega
  have hbne : b ≠ 0 := by omega
  have hI : I64 (a.tdiv b) := by rcases hq with h | h; exact h.1; exact h.2
  have w1 := w1 hI
  obtain ⟨q, hqq⟩ : ∃ q, q = a.tdiv b := ⟨_, rfl⟩
  obtain ⟨m, hm⟩ : ∃ m, m = a.tmod b := ⟨_, rfl⟩
  have em : a.tmod b = m := hm.symm
  rw [← hqq] at w1 hq hI ⊢
  rw [← hm] at hq ⊢
  have w2 : IntKind.i64.wrap (a.tdiv b) = q := by rw [← hqq]; exact w1
  unfold I64 at hq hI
  by_cases hneg : m < 0
  · rw [if_pos hneg]
    refine ACall_of tt_ok (dok _) Try.func49 rfl (by decide) rfl ?_
    (repeat' ((conv => whnf); first | refine Then.mk ?_ | refine OpsA.cons ?_ | refine OpsA.nil ?_ | refine AWq.seq ?_ | refine AWq.region ?_ | refine AWq.cond ?_ | refine AWq.skip ?_ | refine AWq.ret ?_ | (refine Both.mk ?_ ?_ <;> intro hc <;> (first | exact Bool.noConfusion hc | exact absurd (by assumption) hc | exact absurd hc (by assumption) | skip)) | (intro c hc; (try (simp only [AH.none_iff] at hc; repeat (have hn := hc.1; replace hc := hc.2))); (first | (have hc2 := Eq.trans hc (by with_reducible assumption); clear hc; subst hc2) | (refine i64_k hc ?_ ?_ ?_ ; omega; omega; (clear hc; intro hc; subst hc)) | skip)) | (apply And.intro; (first | rfl | (with_reducible assumption))))) <;> (try (conv => whnf))
  · rw [if_neg hneg]
    refine ACall_of tt_ok (dok _) Try.func49 rfl (by decide) rfl ?_
    (repeat' ((conv => whnf); first | refine Then.mk ?_ | refine OpsA.cons ?_ | refine OpsA.nil ?_ | refine AWq.seq ?_ | refine AWq.region ?_ | refine AWq.cond ?_ | refine AWq.skip ?_ | refine AWq.ret ?_ | (refine Both.mk ?_ ?_ <;> intro hc <;> (first | exact Bool.noConfusion hc | exact absurd (by assumption) hc | exact absurd hc (by assumption) | skip)) | (intro c hc; (try (simp only [AH.none_iff] at hc; repeat (have hn := hc.1; replace hc := hc.2))); (first | (have hc2 := Eq.trans hc (by with_reducible assumption); clear hc; subst hc2) | (refine i64_k hc ?_ ?_ ?_ ; omega; omega; (clear hc; intro hc; subst hc)) | skip)) | (apply And.intro; (first | rfl | (with_reducible assumption))))) <;> (try (conv => whnf))
end Go.Proofs.Ytghielfbdpkhmaa
/- The frame of the abstract walk, part 31: drawn regions in which rows are made and cells are taken and written, beside loads from other rows. -/
set_option linter.unusedVariables false
set_option linter.unusedSimpArgs false
namespace Go.Fw
open Go.RowKit

variable {κ : KM} {F : FM} {B : Nat} {w0 w : World} {H : AH} {P : Program} {T : TT}

/-- An operation's class: its result's, or that of the cell to which it writes. -/
def cK (cl : List (Nat × Nat)) (o : Oper) : Option Nat :=
  match o.dst with
  | some t => cOf cl (some t)
  | none => match o.op with
    | .store _ (.tmp a) _ => cOf cl (some a)
    | _ => none
theorem cOf_in {cl : List (Nat × Nat)} {d : Option Nat} {c : Nat} : cOf cl d = some c → c ∈ cl.map (·.2) := by
  cases d with
  | none => intro h; cases cl <;> simp [cOf] at h
  | some t =>
    induction cl with
    | nil => intro h; simp [cOf] at h
    | cons y l ih =>
      obtain ⟨u, c'⟩ := y
      intro h
      simp only [cOf] at h
      cases hb : Nat.beq u t with
      | true => rw [hb] at h; simp only [cond_true, Option.some.injEq] at h; subst h; simp
      | false => rw [hb] at h; simp only [cond_false] at h; exact List.mem_cons_of_mem _ (ih h)
theorem cK_in {cl : List (Nat × Nat)} {o : Oper} {c : Nat} (h : cK cl o = some c) : c ∈ cl.map (·.2) := by
  unfold cK at h
  split at h
  · exact cOf_in h
  · split at h
    · exact cOf_in h
    · cases h
/-- Alike but for the rows of the classes. -/
def OutK (cl : List (Nat × Nat)) (nm : Nat → Nat) (G H : AH) : Prop := ∀ q, (∀ c, c ∈ cl.map (·.2) → nm c ≠ q) → G q = H q
theorem OutK.refl {cl : List (Nat × Nat)} {nm : Nat → Nat} : OutK cl nm H H := fun _ _ => rfl
theorem OutK.set {cl : List (Nat × Nat)} {nm : Nat → Nat} {G : AH} {c : Nat} {o : AO} (hc : c ∈ cl.map (·.2)) (h : OutK cl nm G H) : OutK cl nm G (H.set (nm c) o) :=
  fun q hq => (h q hq).trans (AH.set_ne _ _ (fun e => hq c hc e.symm)).symm
theorem OutK.set' {cl : List (Nat × Nat)} {nm : Nat → Nat} {G : AH} {c : Nat} {o : AO} (hc : c ∈ cl.map (·.2)) (h : OutK cl nm G H) : OutK cl nm (G.set (nm c) o) H :=
  fun q hq => (AH.set_ne _ _ (fun e => hq c hc e.symm)).trans (h q hq)

theorem VR.renameP {κ κ' : KM} {r v q u off : Nat} {x : Value} {i : Inc} (hi : κ r v = some i) (hq : κ' q u = some i) (h : VR κ F (.ptr r v off) x) : VR κ' F (.ptr q u off) x := by
  cases h with
  | ptr h => rw [hi] at h; cases h; exact .ptr hq
/-- What takes a cell. -/
def TakesP (P : Program) (T : TT) (o : Op) (e : Env) (G : AH) (cells : List AV) : Prop :=
  stepA P T o e G (fun v' H' => ∃ r, G r = none ∧ v' = .ptr r 0 0 ∧ H' = G.set r (.row cells 0))
/-- One row changes. -/
def LStepK (P : Program) (T : TT) (o : Op) (e : Env) (G : AH) (q : Nat) (v : AV) (o' : AO) : Prop :=
  LStep1 P T o e G q v o' ∨ ∃ cells, v = .ptr q 1 0 ∧ o' = .row cells 1 ∧ G q = some (.row [] 0) ∧ TakesP P T o e G cells
theorem Left.namedP {x : Value} {w' : World} {cells : List AV} {q : Nat} (hq : H q = some (.row [] 0)) (h : Left κ F B w0 (fun v' H' => ∃ r, H r = none ∧ v' = .ptr r 0 0 ∧ H' = H.set r (.row cells 0)) x w') :
    Left κ F B w0 (fun v' H' => v' = .ptr q 1 0 ∧ H' = H.set q (.row cells 1)) x w' := by
  obtain ⟨y, H', κ', F', h1, h2, I, hv, r, hr, rfl, rfl⟩ := h
  have hne : q ≠ r := fun e => by rw [e, hr] at hq; cases hq
  obtain ⟨i, hi, _⟩ := I.objs _ _ (AH.set_same H r (.row cells 0))
  obtain ⟨hle, I'⟩ := I.rename (q := q) (u := 0) (AH.set_same H r (.row cells 0)) hi (by rw [AH.set_ne _ _ hne]; exact hq) hne
  rw [AH.del_set _ _ _ hr] at I'
  exact ⟨_, _, _, F', h1.trans hle, h2, I', VR.renameP hi (KM.put_same ..) hv, rfl, rfl⟩

/-- Those of one class are ordered. -/
def ordK (all : Array Oper) (cl : List (Nat × Nat)) : Bool :=
  let ah := aheadOf all
  (List.range all.size).all fun j => (List.range j).all fun i =>
    match (all[i]?).bind (cK cl), (all[j]?).bind (cK cl) with
    | some a, some b => !(Nat.beq a b) || (ah.getD j 0).testBit i
    | _, _ => true

theorem ordK_spec {all : Array Oper} {cl : List (Nat × Nat)} (h : ordK all cl = true) {i j c : Nat} (hlt : i < j) (hj : j < all.size) (h1 : (all[i]?).bind (cK cl) = some c) (h2 : (all[j]?).bind (cK cl) = some c) :
    ((aheadOf all).getD j 0).testBit i = true := by
  unfold ordK at h
  have a1 := List.all_eq_true.1 h j (by simpa using hj)
  have a2 := List.all_eq_true.1 a1 i (by simpa using hlt)
  simp only [h1, h2] at a2
  have : Nat.beq c c = true := Nat.beq_refl c
  simpa [this] using a2

def drawKS (N : Nat) (P : Program) (T : TT) (cl : List (Nat × Nat)) (nm : Nat → Nat) : List Oper → (St → AH → Prop) → St → AH → Prop
  | [], K, s, H => K s H
  | o :: rest, K, s, H => dstOk N o.dst = true ∧ o.guard = none ∧ match cK cl o with
    | none => ∃ v, (∀ G, OutK cl nm G H → LStep0 P T o.op s.e G v) ∧ drawKS N P T cl nm rest K (putS s o.dst v) H
    | some c => ∃ ob v o', H (nm c) = some ob ∧ (∀ G, OutK cl nm G H → G (nm c) = some ob → LStepK P T o.op s.e G (nm c) v o') ∧ drawKS N P T cl nm rest K (putS s o.dst v) (H.set (nm c) o')

def infK (cl : List (Nat × Nat)) (nm : Nat → Nat) (l : List Oper) (obs : List AO) (k : Nat) : Option (Nat × AO) :=
  ((l[k]?).bind (cK cl)).map fun c => (nm c, obs.getD k (.row [] 0))

theorem lookK_cons (cl : List (Nat × Nat)) (nm : Nat → Nat) (o : Oper) (l : List Oper) (x : AO) (xs : List AO) (H : AH) : ∀ k, lookG (infK cl nm (o :: l) (x :: xs)) H (fun _ => true) (k + 1) = lookG (infK cl nm l xs) (setO H (infK cl nm (o :: l) (x :: xs) 0)) (fun _ => true) k
  | 0 => rfl
  | k + 1 => by
    have ih := lookK_cons cl nm o l x xs H k
    have e : infK cl nm (o :: l) (x :: xs) (k + 1) = infK cl nm l xs k := by simp [infK]
    show setO (lookG (infK cl nm (o :: l) (x :: xs)) H (fun _ => true) (k + 1)) (infK cl nm (o :: l) (x :: xs) (k + 1)) = setO (lookG (infK cl nm l xs) _ (fun _ => true) k) (infK cl nm l xs k)
    rw [ih, e]

theorem chainK {N : Nat} {cl : List (Nat × Nat)} {nm : Nat → Nat} {K : St → AH → Prop} : ∀ (l : List Oper) (s : St) (H : AH), drawKS N P T cl nm l K s H → ∃ (vs : List AV) (obs : List AO),
    (∀ j o, l[j]? = some o → dstOk N o.dst = true ∧ o.guard = none ∧ match cK cl o with
      | none => ∀ G, OutK cl nm G H → LStep0 P T o.op (lookE (dstF l) (valF vs) s.e (fun _ => true) j) G (valF vs j)
      | some c => ∃ ob, lookG (infK cl nm l obs) H (fun _ => true) j (nm c) = some ob ∧ ∀ G, OutK cl nm G H → G (nm c) = some ob → LStepK P T o.op (lookE (dstF l) (valF vs) s.e (fun _ => true) j) G (nm c) (valF vs j) (obs.getD j (.row [] 0))) ∧
    K ⟨lookE (dstF l) (valF vs) s.e (fun _ => true) l.length, s.d⟩ (lookG (infK cl nm l obs) H (fun _ => true) l.length)
  | [], s, H, h => ⟨[], [], fun j o hj => by simp at hj, h⟩
  | o :: l, s, H, ⟨h1, h2, h3⟩ => by
    have build : ∀ (v : AV) (x : AO) (H2 : AH), (∀ G, OutK cl nm G H → OutK cl nm G H2) → (∀ obs : List AO, setO H (infK cl nm (o :: l) (x :: obs) 0) = H2) → drawKS N P T cl nm l K (putS s o.dst v) H2 →
        (match cK cl o with
          | none => ∀ G, OutK cl nm G H → LStep0 P T o.op s.e G v
          | some c => ∃ ob, H (nm c) = some ob ∧ ∀ G, OutK cl nm G H → G (nm c) = some ob → LStepK P T o.op s.e G (nm c) v x) →
        ∃ (vs : List AV) (obs : List AO), (∀ j o', (o :: l)[j]? = some o' → dstOk N o'.dst = true ∧ o'.guard = none ∧ match cK cl o' with
          | none => ∀ G, OutK cl nm G H → LStep0 P T o'.op (lookE (dstF (o :: l)) (valF vs) s.e (fun _ => true) j) G (valF vs j)
          | some c => ∃ ob, lookG (infK cl nm (o :: l) obs) H (fun _ => true) j (nm c) = some ob ∧ ∀ G, OutK cl nm G H → G (nm c) = some ob → LStepK P T o'.op (lookE (dstF (o :: l)) (valF vs) s.e (fun _ => true) j) G (nm c) (valF vs j) (obs.getD j (.row [] 0))) ∧
        K ⟨lookE (dstF (o :: l)) (valF vs) s.e (fun _ => true) (o :: l).length, s.d⟩ (lookG (infK cl nm (o :: l) obs) H (fun _ => true) (o :: l).length) := by
      intro v x H2 hout hH2 hr h0
      obtain ⟨vs, obs, ih1, ih2⟩ := chainK l _ _ hr
      refine ⟨v :: vs, x :: obs, fun j o' hj => ?_, ?_⟩
      · cases j with
        | zero =>
          simp at hj; subst hj
          exact ⟨h1, h2, h0⟩
        | succ j =>
          have := ih1 j o' (by simpa using hj)
          rw [lookE_cons, lookK_cons, hH2 obs]
          refine ⟨this.1, this.2.1, ?_⟩
          have t2 := this.2.2
          cases hc : cK cl o' with
          | none => rw [hc] at t2; exact fun G hG => by simpa [valF, putS] using t2 G (hout G hG)
          | some c => rw [hc] at t2; obtain ⟨ob, t3, t4⟩ := t2; exact ⟨ob, t3, fun G hG hq => by simpa [valF, putS] using t4 G (hout G hG) hq⟩
      · rw [List.length_cons, lookE_cons, lookK_cons, hH2 obs]
        exact ih2
    cases hc : cK cl o with
    | none =>
      rw [hc] at h3 build
      obtain ⟨v, h3, h4⟩ := h3
      exact build v (.row [] 0) H (fun _ h => h) (fun obs => by simp [infK, hc, setO]) h4 h3
    | some c =>
      rw [hc] at h3 build
      obtain ⟨ob, v, o', h3, h4, h5⟩ := h3
      exact build v o' (H.set (nm c) o') (fun _ h => h.set (cK_in hc)) (fun obs => by simp [infK, hc, setO]) h5 ⟨ob, h3, h4⟩

theorem anyK_ok (hT : T.ok P = true) (ro : Option Nat) {N : Nat} {ws : Nat → Bool} {ops : Array Oper} {cl : List (Nat × Nat)} {nm : Nat → Nat} {K R : St → AH → Prop} {X : Nat → St → AH → Prop} {s : St} {vs : List AV} {obs : List AO} (hord : orderOk ops = true) (hcls : ordK ops cl = true)
    (hnm : ∀ c c', c ∈ cl.map (·.2) → c' ∈ cl.map (·.2) → nm c = nm c' → c = c') (hws : ∀ t, t ∈ dstsOf ops.toList → ws t = true)
    (hstep : ∀ j o, ops.toList[j]? = some o → dstOk N o.dst = true ∧ o.guard = none ∧ match cK cl o with
      | none => ∀ G, OutK cl nm G H → LStep0 P T o.op (lookE (dstF ops.toList) (valF vs) s.e (fun _ => true) j) G (valF vs j)
      | some c => ∃ ob, lookG (infK cl nm ops.toList obs) H (fun _ => true) j (nm c) = some ob ∧ ∀ G, OutK cl nm G H → G (nm c) = some ob → LStepK P T o.op (lookE (dstF ops.toList) (valF vs) s.e (fun _ => true) j) G (nm c) (valF vs j) (obs.getD j (.row [] 0)))
    (hend : K ⟨lookE (dstF ops.toList) (valF vs) s.e (fun _ => true) ops.toList.length, s.d⟩ (lookG (infK cl nm ops.toList obs) H (fun _ => true) ops.toList.length)) :
    ∀ (fuel : Nat) (listed : Array Bool) (κ : KM) (F : FM) (w : World) (a : Act), listed.size = ops.size → (∀ j, doneP listed ops.size j = true → Waited ops (doneP listed ops.size) j) →
      ((List.range ops.size).filter fun k => !doneP listed ops.size k).length = fuel → Inv κ F B w0 (lookG (infK cl nm ops.toList obs) H (doneP listed ops.size) ops.size) w →
      ER κ F N ⟨lookE (dstF ops.toList) (valF vs) s.e (doneP listed ops.size) ops.size, s.d⟩ a → wpAnyIn (fence ro) 0 P .any ops (QOk κ F B w0 N ws s K R X) fuel listed a w := by
  have hinf : ∀ k q o, infK cl nm ops.toList obs k = some (q, o) → ∃ c, k < ops.size ∧ (ops[k]?).bind (cK cl) = some c ∧ q = nm c ∧ c ∈ cl.map (·.2) := by
    intro k q o h
    unfold infK at h
    rw [Array.getElem?_toList] at h
    cases hx : (ops[k]?).bind (cK cl) with
    | none => rw [hx] at h; simp at h
    | some c =>
      rw [hx] at h
      simp at h
      refine ⟨c, ?_, rfl, h.1.symm, ?_⟩
      · cases hk : ops[k]? with
        | none => rw [hk] at hx; simp at hx
        | some x => exact (Array.getElem?_eq_some_iff.1 hk).1
      · cases hk : ops[k]? with
        | none => rw [hk] at hx; simp at hx
        | some x =>
          rw [hk] at hx
          simp only [Option.bind_some] at hx
          exact cK_in hx
  have hsame : ∀ k k' q o o', infK cl nm ops.toList obs k = some (q, o) → infK cl nm ops.toList obs k' = some (q, o') → k < k' → ((aheadOf ops).getD k' 0).testBit k = true := by
    intro k k' q o o' h1 h2 hlt
    obtain ⟨c, hk, hc, e1, hm⟩ := hinf _ _ _ h1
    obtain ⟨c', hk', hc', e2, hm'⟩ := hinf _ _ _ h2
    have : c = c' := hnm c c' hm hm' (e1.symm.trans e2)
    subst this
    exact ordK_spec hcls hlt hk' hc hc'
  have hout : ∀ (p : Nat → Bool) n, OutK cl nm (lookG (infK cl nm ops.toList obs) H p n) H := by
    intro p n
    induction n with
    | zero => exact .refl
    | succ n ih =>
      simp only [lookG]
      cases p n with
      | false => exact ih
      | true =>
        simp only [cond_true]
        cases hi : infK cl nm ops.toList obs n with
        | none => exact ih
        | some x =>
          obtain ⟨q, o⟩ := x
          obtain ⟨c, _, _, e, hm⟩ := hinf _ _ _ hi
          subst e
          exact ih.set' hm
  have hlow := orderOk_low hord
  have hdst : ∀ k, dstF ops.toList k = (ops[k]?).bind (·.dst) := fun k => by simp [dstF]
  have hagree : ∀ p : Nat → Bool, Agree ws s ⟨lookE (dstF ops.toList) (valF vs) s.e p ops.size, s.d⟩ := by
    intro p t ht
    show lookE _ _ _ p ops.size t = s.e t
    have : ∀ n, lookE (dstF ops.toList) (valF vs) s.e p n t = s.e t := by
      intro n
      induction n with
      | zero => rfl
      | succ n ih =>
        simp only [lookE]
        cases p n with
        | false => exact ih
        | true =>
          have hne : dstF ops.toList n ≠ some t := by
            intro e
            have : t ∈ dstsOf ops.toList := by
              simp only [dstF] at e
              cases hx : ops.toList[n]? with
              | none => rw [hx] at e; simp at e
              | some o =>
                rw [hx] at e
                simp at e
                exact List.mem_filterMap.2 ⟨o, List.mem_of_getElem? hx, e⟩
            rw [hws t this] at ht; cases ht
          simp only [cond_true, putA_ne _ _ _ hne, ih]
    exact this _
  have ready : ∀ (listed : Array Bool), listed.size = ops.size → ∀ i, i ∈ Region.ready .any ops listed → i < ops.size ∧ doneP listed ops.size i = false ∧ Waited ops (doneP listed ops.size) i := by
    intro listed hsz i hi
    simp only [Region.ready, List.mem_filter, List.mem_range, Bool.and_eq_true, Bool.not_eq_true'] at hi
    obtain ⟨hi, hl, ha⟩ := hi
    have hdone : doneP listed ops.size i = false := by
      have e : listed.getD i false = listed.getD i true := by simp [Array.getD_eq_getD_getElem?, show i < listed.size by omega]
      simp [doneP, e, hl]
    refine ⟨hi, hdone, fun o ho e he hb => ?_⟩
    rw [ho] at ha
    simp only [Option.map_some, Option.getD_some] at ha
    have := Array.all_eq_true'.1 ha e (by simpa using he)
    simp only [hb, Bool.not_true, Bool.false_or] at this
    have hlt := hlow i o ho e he hb
    simp [doneP, this, blt_of (show e.on < ops.size by omega)]
  intro fuel
  induction fuel with
  | zero =>
    intro listed κ F w a hsz hcl hcount I hE
    have hall : ∀ k, k < ops.size → doneP listed ops.size k = true := by
      intro k hk
      cases hd : doneP listed ops.size k with
      | true => rfl
      | false =>
        have : k ∈ (List.range ops.size).filter fun k => !doneP listed ops.size k := by simp [hk, hd]
        rw [List.length_eq_zero_iff.1 hcount] at this
        cases this
    refine ⟨?_, ?_⟩
    · cases hr : Region.ready .any ops listed with
      | nil => rfl
      | cons i r =>
        obtain ⟨h1, h2, _⟩ := ready listed hsz i (by rw [hr]; simp)
        rw [hall i h1] at h2; cases h2
    · have heq : lookE (dstF ops.toList) (valF vs) s.e (doneP listed ops.size) ops.size = lookE (dstF ops.toList) (valF vs) s.e (fun _ => true) ops.size := by
        funext t; exact lookE_congr _ (fun k hk _ => hall k hk)
      have hH : lookG (infK cl nm ops.toList obs) H (doneP listed ops.size) ops.size = lookG (infK cl nm ops.toList obs) H (fun _ => true) ops.size := by
        funext q; exact lookG_at _ (fun k o hk _ => hall k hk)
      refine ⟨_, _, κ, F, KLe.refl _, FLe.refl _, I, hE, hagree _, ?_⟩
      rw [heq, hH]
      simpa using hend
  | succ fuel ih =>
    intro listed κ F w a hsz hcl hcount I hE
    refine ⟨fun hr => ?_, fun i hi => ?_⟩
    · -- somebody is ready
      exfalso
      obtain ⟨k, hk⟩ : ∃ k, k ∈ (List.range ops.size).filter fun k => !doneP listed ops.size k := by
        cases hx : (List.range ops.size).filter fun k => !doneP listed ops.size k with
        | nil => rw [hx] at hcount; simp at hcount
        | cons k _ => exact ⟨k, by simp⟩
      have key : ∀ k, k < ops.size → doneP listed ops.size k = false → False := by
        intro k
        induction k using Nat.strongRecOn with
        | _ k ih2 =>
          intro hk hd
          have : k ∈ Region.ready .any ops listed := by
            simp only [Region.ready, List.mem_filter, List.mem_range, Bool.and_eq_true, Bool.not_eq_true']
            refine ⟨hk, ?_, ?_⟩
            · simp only [doneP, blt_of hk, Bool.true_and] at hd
              have e : listed.getD k false = listed.getD k true := by simp [Array.getD_eq_getD_getElem?, show k < listed.size by omega]
              rw [← e]; exact hd
            · have ho : ops[k]? = some ops[k] := by simp [hk]
              rw [ho]
              simp only [Option.map_some, Option.getD_some]
              refine Array.all_eq_true'.2 fun e he => ?_
              cases hb : Region.binds .any e with
              | false => rfl
              | true =>
                have hlt := hlow k _ ho e (by simpa using he) hb
                cases hd' : doneP listed ops.size e.on with
                | false => exact (ih2 e.on hlt (by omega) hd').elim
                | true => simp only [doneP, Bool.and_eq_true] at hd'; simp [hd'.2]
          rw [hr] at this; cases this
      simp only [List.mem_filter, List.mem_range, Bool.not_eq_true'] at hk
      exact key k hk.1 hk.2
    · obtain ⟨hil, hdi, hwi⟩ := ready listed hsz i hi
      have ho : ops[i]? = some ops[i] := by simp [hil]
      obtain ⟨o, rfl⟩ : ∃ o, o = ops[i] := ⟨_, rfl⟩
      obtain ⟨hdst0, hgd, hg⟩ := hstep i ops[i] (by simp [hil])
      have hahead := ahead_done hlow hcl i hil hwi
      -- what the operation looks at stands there
      have sees : ∀ t, t ∈ looks ops ops[i] → lookE (dstF ops.toList) (valF vs) s.e (doneP listed ops.size) ops.size t = lookE (dstF ops.toList) (valF vs) s.e (fun _ => true) i t := by
        intro t ht
        refine lookE_lt ops.size (by omega) (fun k hk hkd => ?_)
        rw [hdst] at hkd
        by_cases hki : k = i
        · subst hki; constructor
          · intro h; rw [hdi] at h; cases h
          · intro h; omega
        · obtain ⟨h1, h2⟩ := orderOk_spec hord hkd ho (.inl ht) hki
          constructor
          · intro hp
            rcases Nat.lt_or_ge k i with hlt | hge
            · exact hlt
            · have := ahead_done hlow hcl k hk (hcl k hp) i (h2 (by omega))
              rw [hdi] at this; cases this
          · intro hlt; exact hahead k (h1 hlt)
      have hev : ∀ x, x ∈ (ops[i]).op.operands → ev (lookE (dstF ops.toList) (valF vs) s.e (fun _ => true) i) x = ev (lookE (dstF ops.toList) (valF vs) s.e (doneP listed ops.size) ops.size) x := by
        intro x hx
        cases x with
        | tmp t => exact (sees t (List.mem_append_left _ (List.mem_filterMap.2 ⟨.tmp t, by simpa using hx, rfl⟩))).symm
        | _ => rfl
      have hwt : Region.wanted ops[i] (yielded ops a.tmps) = true := wanted_of (K := fun b => b = true) hE (by rw [hgd]; rfl)
      have hlset : ∀ k, doneP (listed.setIfInBounds i true) ops.size k = (doneP listed ops.size k || Nat.beq k i) := by
        intro k
        simp only [doneP, Array.getD_eq_getD_getElem?, Array.getElem?_setIfInBounds]
        by_cases hki : i = k
        · subst hki; simp [show i < listed.size by omega, blt_of hil, Nat.beq_refl]
        · have : Nat.beq k i = false := by cases hb : Nat.beq k i with
            | false => rfl
            | true => exact absurd (Nat.eq_of_beq_eq_true hb).symm hki
          simp [hki, this]
      have hlsetf : doneP (listed.setIfInBounds i true) ops.size = fun k => doneP listed ops.size k || Nat.beq k i := funext hlset
      have hput : lookE (dstF ops.toList) (valF vs) s.e (doneP (listed.setIfInBounds i true) ops.size) ops.size = putA (lookE (dstF ops.toList) (valF vs) s.e (doneP listed ops.size) ops.size) (dstF ops.toList i) (valF vs i) := by
        rw [hlsetf]
        refine lookE_put hdi ops.size hil (fun k hk hki hkd hnn hp => ?_)
        rcases Nat.lt_or_ge k i with hlt | hge
        · exact hlt
        · exfalso
          cases hdn : dstF ops.toList i with
          | none => exact hnn hdn
          | some t =>
            rw [hdn] at hkd
            have hoi : (ops[i]).dst = some t := by rw [hdst, ho] at hdn; simpa using hdn
            obtain ⟨_, h2⟩ := orderOk_spec hord (by rw [← hdst]; exact hkd) ho (.inr hoi) hki
            have := ahead_done hlow hcl k hk (hcl k hp) i (h2 (by omega))
            rw [hdi] at this; cases this
      have hcl' : ∀ j, doneP (listed.setIfInBounds i true) ops.size j = true → Waited ops (doneP (listed.setIfInBounds i true) ops.size) j := by
        intro j hj o' ho' e he hbe
        rw [hlset] at hj ⊢
        rw [Bool.or_eq_true] at hj
        rcases hj with h | h
        · rw [hcl j h o' ho' e he hbe]; rfl
        · obtain rfl := Nat.eq_of_beq_eq_true h
          rw [hwi o' ho' e he hbe]; rfl
      have hcount' : ((List.range ops.size).filter fun k => !doneP (listed.setIfInBounds i true) ops.size k).length = fuel := by
        have key : ∀ (l : List Nat), l.Nodup → i ∈ l → (l.filter fun k => !doneP listed ops.size k).length = (l.filter fun k => !doneP (listed.setIfInBounds i true) ops.size k).length + 1 := by
          intro l
          induction l with
          | nil => intro _ h; cases h
          | cons k l ih =>
            intro hnd hm
            obtain ⟨hk, hnd⟩ := List.nodup_cons.1 hnd
            by_cases hki : k = i
            · subst hki
              have hrest : (l.filter fun k' => !doneP listed ops.size k') = l.filter fun k' => !doneP (listed.setIfInBounds k true) ops.size k' := by
                refine List.filter_congr fun k' hk' => ?_
                rw [hlset]
                have : Nat.beq k' k = false := by cases hb : Nat.beq k' k with
                  | false => rfl
                  | true => exact absurd (Nat.eq_of_beq_eq_true hb ▸ hk') hk
                simp [this]
              rw [List.filter_cons, List.filter_cons, hlset, hdi, Nat.beq_refl, hrest]
              simp
            · have hm' : i ∈ l := by rcases List.mem_cons.1 hm with h | h; · exact absurd h.symm hki
                                     · exact h
              have hb : Nat.beq k i = false := by cases hb : Nat.beq k i with
                | false => rfl
                | true => exact absurd (Nat.eq_of_beq_eq_true hb) hki
              have := ih hnd hm'
              rw [List.filter_cons, List.filter_cons, hlset, hb, Bool.or_false]
              cases doneP listed ops.size k <;> simp [this]
        have := key (List.range ops.size) List.nodup_range (by simpa using hil)
        omega
      have hdi' : dstF ops.toList i = (ops[i]).dst := by rw [hdst, ho]; rfl
      have hG : lookG (infK cl nm ops.toList obs) H (doneP (listed.setIfInBounds i true) ops.size) ops.size = setO (lookG (infK cl nm ops.toList obs) H (doneP listed ops.size) ops.size) (infK cl nm ops.toList obs i) := by
        rw [hlsetf]
        refine lookG_put hdi ops.size hil (fun k q o o' h1 h2 h3 h4 => ?_)
        cases hd : doneP listed ops.size k with
        | false => rfl
        | true =>
          have := ahead_done hlow hcl k h2 (hcl k hd) i (hsame _ _ _ _ _ h3 h4 h1)
          rw [hdi] at this; cases this
      unfold wpOpIn
      rw [ho]
      simp only
      rw [if_pos hwt]
      have go : ∀ v w', Left κ F B w0 (fun v' H' => v' = valF vs i ∧ H' = lookG (infK cl nm ops.toList obs) H (doneP (listed.setIfInBounds i true) ops.size) ops.size) v w' →
          wpAnyIn (fence ro) 0 P .any ops (QOk κ F B w0 N ws s K R X) fuel (listed.setIfInBounds i true) (a.put (ops[i]).dst v) w' := by
        rintro v w' ⟨y, H', κ', F', hk, hf, I', hv, rfl, rfl⟩
        have hE' := (hE.mono hk hf).put hdst0 hv
        have := ih (listed.setIfInBounds i true) κ' F' w' _ (by simp [hsz]) hcl' hcount' I' (by rw [hput, hdi']; exact hE')
        exact wpAnyIn_mono (fun e a w hq => QOk.from hk hf (Agree.refl _ _) hq) _ _ _ _ this
      have hinfi : infK cl nm ops.toList obs i = (cK cl ops[i]).map fun c => (nm c, obs.getD i (.row [] 0)) := by simp [infK, hil]
      rw [hG, hinfi] at go
      have hcong := fun (G : AH) (KK : AV → AH → Prop) => stepA_congr (P := P) (T := T) (H := G) (K := KK) hev
      cases hc : cK cl ops[i] with
      | none =>
        rw [hc] at hg go
        simp only [Option.map_none, setO] at go
        rcases hg (lookG (infK cl nm ops.toList obs) H (doneP listed ops.size) ops.size) (hout _ _) with h | ⟨cells, n, es, hv, hlen, h⟩
        · rw [hcong] at h
          exact stepA_ok hT ro I hE.e h go
        · unfold Makes at h
          rw [hcong] at h
          refine stepA_ok hT ro I hE.e h fun v w' hL => go v w' ?_
          rw [hv]
          exact Left.cold hlen hL
      | some c =>
        rw [hc] at hg go
        simp only [Option.map_some, setO] at go
        obtain ⟨ob, h1, h2⟩ := hg
        have hat : lookG (infK cl nm ops.toList obs) H (doneP listed ops.size) ops.size (nm c) = some ob := by
          rw [← h1]
          have hii : infK cl nm ops.toList obs i = some (nm c, obs.getD i (.row [] 0)) := by rw [hinfi, hc]; rfl
          refine (lookG_up (i := i) ops.size (by omega) (fun k o h3 h4 h5 => ?_)).trans (lookG_at i (fun k o h3 h5 => ?_))
          · by_cases e : k = i
            · rw [e]; exact hdi
            · cases hd : doneP listed ops.size k with
              | false => rfl
              | true =>
                have := ahead_done hlow hcl k h4 (hcl k hd) i (hsame _ _ _ _ _ hii h5 (by omega))
                rw [hdi] at this; cases this
          · exact hahead k (hsame _ _ _ _ _ h5 hii h3)
        rcases h2 _ (hout _ _) hat with (h | ⟨cells, n, es, hv, ho', hq, h⟩) | ⟨cells, hv, ho', hq, h⟩
        · rw [hcong] at h
          exact stepA_ok hT ro I hE.e h go
        · unfold Makes at h
          rw [hcong] at h
          refine stepA_ok hT ro I hE.e h fun v w' hL => go v w' ?_
          rw [hv, ho']
          exact Left.named hq hL
        · unfold TakesP at h
          rw [hcong] at h
          refine stepA_ok hT ro I hE.e h fun v w' hL => go v w' ?_
          rw [hv, ho']
          exact Left.namedP hq hL

theorem AWp_drawK (hT : T.ok P = true) (hm : P.follows .mixedOrders = true) {N : Nat} {ro : Option Nat} {ws : Nat → Bool} {id : Nat} {ops : Array Oper} {K R : St → AH → Prop} {X : Nat → St → AH → Prop} {s : St} (cl : List (Nat × Nat)) (nm : Nat → Nat)
    (hnm : ∀ c c', c ∈ cl.map (·.2) → c' ∈ cl.map (·.2) → nm c = nm c' → c = c') (hws : (writes (.region id ops true)).all ws = true) (hord : (orderOk ops && ordK ops cl) = true) (h : drawKS N P T cl nm ops.toList K s H) :
    AWp N P ro ws (.region id ops true) K R X s H := by
  refine ⟨fun κ F B w0 w a I hE => wpIn_region_any hm ?_⟩
  obtain ⟨vs, obs, hstep, hend⟩ := chainK _ _ _ h
  rw [Bool.and_eq_true] at hord
  have hz : ∀ k, doneP (Array.replicate ops.size false) ops.size k = false := by
    intro k
    simp only [doneP, Array.getD_eq_getD_getElem?]
    by_cases hk : k < ops.size
    · simp [hk]
    · simp [hk]
  refine anyK_ok hT ro hord.1 hord.2 hnm (all_mem hws) hstep hend ops.size _ κ F _ a (by simp) (fun j hj => by rw [hz] at hj; cases hj) ?_ ?_ ?_
  · have : ((List.range ops.size).filter fun k => !doneP (Array.replicate ops.size false) ops.size k) = List.range ops.size := List.filter_eq_self.2 fun k _ => by simp [hz]
    rw [this]; simp
  · have : ∀ n, lookG (infK cl nm ops.toList obs) H (doneP (Array.replicate ops.size false) ops.size) n = H := by
      intro n
      induction n with
      | zero => rfl
      | succ n ih => simp only [lookG, hz, cond_false, ih]
    rw [this]; exact I.drew
  · have : ∀ n, lookE (dstF ops.toList) (valF vs) s.e (doneP (Array.replicate ops.size false) ops.size) n = s.e := by
      intro n
      induction n with
      | zero => rfl
      | succ n ih => simp only [lookE, hz, cond_false, ih]
    rw [this]; exact hE

structure DrawK (N : Nat) (P : Program) (T : TT) (cl : List (Nat × Nat)) (nm : Nat → Nat) (l : List Oper) (K : St → AH → Prop) (s : St) (H : AH) : Prop where
  out : drawKS N P T cl nm l K s H

/-- The name stands for no class. -/
def offR (nm : Nat → Nat) (r : Nat) : List (Nat × Nat) → Prop
  | [] => True
  | p :: l => nm p.2 ≠ r ∧ offR nm r l
theorem offR_iff {nm : Nat → Nat} {r : Nat} : ∀ {l : List (Nat × Nat)}, offR nm r l → ∀ c, c ∈ l.map (·.2) → nm c ≠ r
  | [], _, c, hc => by cases hc
  | p :: l, ⟨h1, h2⟩, c, hc => by
    rcases List.mem_cons.1 hc with rfl | hc
    · exact h1
    · exact offR_iff h2 c hc

/-- Off the classes: no memory, or a load from a row of no class. -/
def offK (P : Program) (T : TT) (cl : List (Nat × Nat)) (nm : Nat → Nat) (o : Op) (e : Env) (H : AH) (K : AV → Prop) : Prop :=
  match o with
  | .load t a =>
    (match T.get t with
     | some tr => (match ev e a with
       | .ptr r v off => offR nm r cl ∧ loadA tr (.ptr r v off) H K
       | b => loadC tr b K)
     | none => False)
  | o => pureL P T o e K

theorem loadA_det {tr : TR} {r v off : Nat} {K : AV → Prop} (h : loadA tr (.ptr r v off) H K) : ∃ x, K x ∧ ∀ G : AH, G r = H r → loadA tr (.ptr r v off) G (fun y => y = x) := by
  unfold loadA at h
  simp only at h
  obtain ⟨cells, hH, h⟩ := h
  cases hag : tr.agg with
  | true =>
    rw [hag] at h
    obtain ⟨h1, h2⟩ := h
    refine ⟨_, h2, fun G hG => ?_⟩
    unfold loadA
    simp only
    refine ⟨cells, hG.trans hH, ?_⟩
    rw [hag]
    exact ⟨h1, rfl⟩
  | false =>
    rw [hag] at h
    obtain ⟨h1, x, h2, h3⟩ := when_iff.1 h
    refine ⟨x, h3, fun G hG => ?_⟩
    unfold loadA
    simp only
    refine ⟨cells, hG.trans hH, ?_⟩
    rw [hag]
    exact when_iff.2 ⟨h1, x, h2, rfl⟩

theorem offK_ok {cl : List (Nat × Nat)} {nm : Nat → Nat} {o : Op} {e : Env} {K : AV → Prop} (h : offK P T cl nm o e H K) : ∃ v, (∀ G, OutK cl nm G H → LStep0 P T o e G v) ∧ K v := by
  unfold offK at h
  split at h
  · rename_i t a
    split at h
    · rename_i tr hg
      split at h
      · rename_i r v off ha
        obtain ⟨h1, h2⟩ := h
        obtain ⟨x, h3, h4⟩ := loadA_det h2
        refine ⟨x, fun G hG => .inl ?_, h3⟩
        have := h4 G (hG r (offR_iff h1))
        show opA T (.load t a) e G (fun v' H' => v' = x ∧ H' = G)
        simp only [opA, hg, ha]
        simpa using this
      · obtain ⟨v, h1, h2⟩ := det_loadC _ _ _ h
        refine ⟨v, fun G _ => .inl ?_, h2⟩
        show opA T (.load t a) e G (fun v' H' => v' = v ∧ H' = G)
        simp only [opA, hg]
        simpa using loadC_ok (H := G) h1
    · exact h.elim
  · obtain ⟨v, h1, h2⟩ := pureL_ok h
    exact ⟨v, fun G _ => h1 G, h2⟩

/-- On a class. -/
def onK (P : Program) (T : TT) (q : Nat) (ob : AO) (o : Op) (e : Env) (K : AV → AO → Prop) : Prop :=
  match o with
  | .alloc t => (match T.get t with | some tr => ob = .row [] 0 ∧ K (.ptr q 1 0) (.row tr.zero 1) | none => False)
  | .store t a x =>
    (match T.get t, ev e a, cellsOf (ev e x) with
     | some tr, .ptr r v off, some l => r = q ∧ ∃ cells, ob = .row cells v ∧ off + tr.size ≤ cells.length ∧ l.length = tr.size ∧ l.all one = true ∧ K .junk (.row (wrA cells off l) v)
     | _, _, _ => False)
  | .load t a =>
    (match T.get t, ev e a with
     | some tr, .ptr r v off => r = q ∧ loadA tr (.ptr r v off) (fun _ => some ob) fun x => K x ob
     | _, _ => False)
  | .fieldAddr t x f => when (isPure T (.fieldAddr t x f) && isDet T (.fieldAddr t x f)) (opA T (.fieldAddr t x f) e (fun _ => none) fun v _ => K v ob)
  | .indexAddr t x i => when (isPure T (.indexAddr t x i) && isDet T (.indexAddr t x i)) (opA T (.indexAddr t x i) e (fun _ => none) fun v _ => K v ob)
  | o => appL T q ob o e K ∨ ∃ cells n es, ob = .row [] 0 ∧ (∀ G, Makes P T o e G cells n es) ∧ K (.sl q 1 es 0 n none) (.row cells 1)
/-- A step without memory, beside a row. -/
theorem pure_on {q : Nat} {ob : AO} {o : Op} {e : Env} {K : AV → AO → Prop} (h : when (isPure T o && isDet T o) (opA T o e (fun _ => none) fun v _ => K v ob)) : ∃ v o', (∀ G, G q = some ob → LStepK P T o e G q v o') ∧ K v o' := by
  obtain ⟨h1, h2⟩ := when_iff.1 h
  rw [Bool.and_eq_true] at h1
  obtain ⟨v, h3, h4⟩ := opA_det (H := fun _ => none) (K := fun v _ => K v ob) h1.2 h2
  obtain ⟨_, h5⟩ := opA_pure h1.1 h3
  refine ⟨v, ob, fun G hG => .inl (.inl ?_), h4⟩
  rw [stepA_pure h1.1, AH.set_id hG]
  exact h5 G

theorem onK_ok {q : Nat} {ob : AO} {o : Op} {e : Env} {K : AV → AO → Prop} (h : onK P T q ob o e K) : ∃ v o', (∀ G, G q = some ob → LStepK P T o e G q v o') ∧ K v o' := by
  unfold onK at h
  split at h
  · rename_i t
    split at h
    · rename_i tr hg
      obtain ⟨h1, h2⟩ := h
      refine ⟨_, _, fun G hG => .inr ⟨tr.zero, rfl, rfl, by rw [hG, h1], ?_⟩, h2⟩
      show opA T (.alloc t) e G (fun v' H' => ∃ r, G r = none ∧ v' = .ptr r 0 0 ∧ H' = G.set r (.row tr.zero 0))
      simp only [opA, hg]
      exact fun r hr => ⟨r, hr, rfl, rfl⟩
    · exact h.elim
  · rename_i t a x
    split at h
    · rename_i tr r v off l hg ha hx
      obtain ⟨rfl, cells, h1, h2, h3, h4, h5⟩ := h
      refine ⟨_, _, fun G hG => .inl (.inl ?_), h5⟩
      show opA T (.store t a x) e G (fun v' H' => v' = AV.junk ∧ H' = G.set r (AO.row (wrA cells off l) v))
      simp only [opA, hg, ha]
      unfold storeA
      simp only [hx]
      exact ⟨cells, by rw [hG, h1], h2, h3, h4, by simp⟩
    · exact h.elim
  · rename_i t a
    split at h
    · rename_i tr r v off hg ha
      obtain ⟨rfl, h2⟩ := h
      obtain ⟨x, h3, h4⟩ := loadA_det h2
      refine ⟨x, ob, fun G hG => .inl (.inl ?_), h3⟩
      show opA T (.load t a) e G (fun v' H' => v' = x ∧ H' = G.set r ob)
      simp only [opA, hg, ha]
      rw [AH.set_id hG]
      simpa using h4 G hG
    · exact h.elim
  · exact pure_on h
  · exact pure_on h
  · rcases h with h | ⟨cells, n, es, h1, h2, h3⟩
    · obtain ⟨v, o', h1, h2⟩ := appL_ok (P := P) h
      exact ⟨v, o', fun G hG => .inl (h1 G hG), h2⟩
    · exact ⟨_, _, fun G hG => .inl (.inr ⟨cells, n, es, rfl, rfl, by rw [hG, h1], h2 G⟩), h3⟩

def drawKD (N : Nat) (P : Program) (T : TT) (cl : List (Nat × Nat)) (nm : Nat → Nat) (o : Oper) (rest : List Oper) (K : St → AH → Prop) (e : Env) (d : List Nat) (H : AH) : Prop :=
  when (dstOk N o.dst && o.guard.isNone) (match cK cl o with
    | none => offK P T cl nm o.op e H fun v => force v fun v => DrawK N P T cl nm rest K ⟨putA e o.dst v, d⟩ H
    | some c => ∃ ob, H (nm c) = some ob ∧ onK P T (nm c) ob o.op e fun v o' => force v fun v => DrawK N P T cl nm rest K ⟨putA e o.dst v, d⟩ (H.set (nm c) o'))

theorem DrawK.nil {N : Nat} {cl : List (Nat × Nat)} {nm : Nat → Nat} {K : St → AH → Prop} {s : St} (h : K s H) : DrawK N P T cl nm [] K s H := ⟨h⟩
theorem DrawK.consD {N : Nat} {cl : List (Nat × Nat)} {nm : Nat → Nat} {o : Oper} {rest : List Oper} {K : St → AH → Prop} {e : Env} {d : List Nat} (h : drawKD N P T cl nm o rest K e d H) : DrawK N P T cl nm (o :: rest) K ⟨e, d⟩ H := by
  refine ⟨?_⟩
  unfold drawKD at h
  unfold drawKS
  obtain ⟨h1, h2⟩ := when_iff.1 h
  rw [Bool.and_eq_true] at h1
  refine ⟨h1.1, by simpa using h1.2, ?_⟩
  split at h2
  · rename_i hc
    obtain ⟨v, h3, h4⟩ := offK_ok h2
    rw [force_eq] at h4
    exact ⟨v, h3, h4.out⟩
  · rename_i c hc
    obtain ⟨ob, h3, h4⟩ := h2
    obtain ⟨v, o', h5, h6⟩ := onK_ok (P := P) h4
    rw [force_eq] at h6
    exact ⟨ob, v, o', h3, fun G _ hG => h5 G hG, h6.out⟩

theorem AWq.drawK (hm : P.follows .mixedOrders = true) {N : Nat} {ro : Option Nat} {ws : Nat → Bool} {id : Nat} {ops : Array Oper} {K R : St → AH → Prop} {X : Nat → St → AH → Prop} {s : St} (cl : List (Nat × Nat)) (nm : Nat → Nat)
    (hnm : ∀ c c', c ∈ cl.map (·.2) → c' ∈ cl.map (·.2) → nm c = nm c' → c = c') (hord : (orderOk ops && ordK ops cl) = true) (h : DrawK N P T cl nm ops.toList K s H) :
    AWq N P T ro ws (.region id ops true) K R X s H :=
  ⟨fun hT hdraw hw => AWp_drawK hT hm cl nm hnm (List.all_eq_true.2 hw) hord h.out⟩
end Go.Fw
/- The frame of the abstract walk, part 32: a cell that nobody writes any more is told as a constant. -/
set_option linter.unusedVariables false
set_option linter.unusedSimpArgs false
namespace Go.Fw
open Go.RowKit

variable {κ : KM} {F : FM} {B : Nat} {w0 w : World} {H : AH} {P : Program} {T : TT}

theorem wrA_all {z x : List AV} (h : z.length = x.length) : wrA z 0 x = x := by
  unfold wrA; rw [Nat.zero_add, List.drop_of_length_le (by omega)]; simp
theorem AVles.of_eq {a b : List AV} (h : a = b) : AVles a b := h ▸ AVles.refl _

/-- A row that nobody writes any more: all pointers to it may be told as constants. -/
theorem Inv.coolP (I : Inv κ F B w0 H w) {r v : Nat} {cells : List AV} (hH : H r = some (.row cells v)) :
    ∃ F', FLe F F' ∧ Inv κ F' B w0 (H.del r) w ∧ ∀ F2 x, VR κ F2 (.ptr r v 0) x → VR κ F' (.cp cells) x := by
  obtain ⟨i, hi, hrow, hn0⟩ := I.objs _ _ hH
  have hi' : κ r v = some i := hi
  cases hb : i.blk with
  | none =>
    refine ⟨F, FLe.refl _, I.drop r, fun F2 x hv => ?_⟩
    cases hv with
    | ptr h => rw [hi'] at h; cases h; cases hb
  | some b =>
    obtain ⟨arr, hsz, hlen', hcv, hFle, I'⟩ := I.freeze hH hi' hb
    refine ⟨_, hFle, I', fun F2 x hv => ?_⟩
    cases hv with
    | ptr h =>
      rw [hi'] at h; cases h; cases hb
      refine .cp (arr := arr) (by simp) (by omega) (fun j hj => ?_)
      have := (hcv j hj).mono (KLe.refl _) hFle
      simpa using this

theorem AWp_freezeP {N : Nat} {ro : Option Nat} {ws : Nat → Bool} {c : Code} {K R : St → AH → Prop} {X : Nat → St → AH → Prop} {s : St} {H : AH} (t : Nat) {r v : Nat} {cells : List AV} (hts : ws t = true)
    (he : s.e t = .ptr r v 0) (hH : H r = some (.row cells v)) (h : AWp N P ro ws c K R X ⟨retold [t] (.cp cells) s.e, s.d⟩ (H.del r)) : AWp N P ro ws c K R X s H := by
  refine ⟨fun κ F B w0 w a I hE => ?_⟩
  obtain ⟨F', hF, I', hall⟩ := I.coolP hH
  have hag : Agree ws s ⟨retold [t] (.cp cells) s.e, s.d⟩ := by
    intro u hu
    simp only [retold]
    cases hm : memA [t] u with
    | false => rfl
    | true =>
      have : u = t := by have := (memA_iff _ _).1 hm; simpa using this
      rw [this, hts] at hu; cases hu
  have hE' : ER κ F' N ⟨retold [t] (.cp cells) s.e, s.d⟩ a := by
    refine ⟨fun u => ?_, hE.size, hE.d⟩
    simp only [retold]
    cases hm : memA [t] u with
    | false => exact (hE.e u).mono (KLe.refl _) hF
    | true =>
      have hut : u = t := by have := (memA_iff _ _).1 hm; simpa using this
      have hx := hE.e u
      rw [hut, he] at hx
      rw [hut]
      exact hall _ _ hx
  exact wpIn_mono (h.out κ F' B w0 w a I' hE') (fun e a w hq => QOk.from (KLe.refl _) hF hag hq)
/-- A struct that is copied into a cell of its own. -/
theorem AWp_seg {N : Nat} {ro : Option Nat} {ws : Nat → Bool} {c : Code} {K R : St → AH → Prop} {X : Nat → St → AH → Prop} {s : St} {G : AH} {p u : Nat} {o : AO} {z x : List AV} (y : List AV)
    (hx : x = y) (hl : z.length = y.length) (h : AWp N P ro ws c K R X s (G.set p (.row y u))) : AWp N P ro ws c K R X s ((G.set p o).set p (.row (wrA z 0 x) u)) := by
  rw [AH.set_set, hx, wrA_all hl]; exact h
/-- The same, where nobody writes to it. -/
theorem AWp_segP {N : Nat} {ro : Option Nat} {ws : Nat → Bool} {c : Code} {K R : St → AH → Prop} {X : Nat → St → AH → Prop} {s : St} {G : AH} {p u : Nat} {o : AO} {z x : List AV} (t : Nat) (y : List AV)
    (hts : ws t = true) (he : s.e t = .ptr p u 0) (hG : G p = none) (hx : x = y) (hl : z.length = y.length) (h : AWp N P ro ws c K R X ⟨retold [t] (.cp y) s.e, s.d⟩ G) : AWp N P ro ws c K R X s ((G.set p o).set p (.row (wrA z 0 x) u)) := by
  refine AWp_seg y hx hl (AWp_freezeP t hts he (AH.set_same _ _ _) ?_)
  rw [AH.del_set _ _ _ hG]; exact h
/-- A row of the heap written anew. -/
theorem HLe.push {G H : AH} {r : Nat} {o o' : AO} (h : HLe (G.set r o) H) : HLe (G.set r o') (H.set r o') := by
  refine ⟨fun s x hs => ?_⟩
  by_cases e : s = r
  · rw [e, AH.set_same] at hs ⊢; exact hs
  · rw [AH.set_ne _ _ e] at hs ⊢
    exact h.le s x (by rw [AH.set_ne _ _ e]; exact hs)
end Go.Fw
/- The frame of the abstract walk, part 33: a call that is told of constants alone may be made with rows that are written later; it leaves them as they were. -/
set_option linter.unusedVariables false
set_option linter.unusedSimpArgs false
namespace Go.Fw
open Go.RowKit

variable {κ : KM} {F : FM} {B : Nat} {w0 w : World} {H : AH} {P : Program} {T : TT}

/-- Values without names of rows. -/
inductive Flat : AV → Prop where
  | junk : Flat .junk
  | int (k : IntKind) (n : Int) : Flat (.int k n)
  | bool (b : Bool) : Flat (.bool b)
  | str (s : List UInt8) : Flat (.str s)
  | nilp : Flat .nilp
  | nils : Flat .nils
  | cs (l : List AV) (n : Nat) (h : ∀ x, x ∈ l → Flat x) : Flat (.cs l n)
  | cp (l : List AV) (h : ∀ x, x ∈ l → Flat x) : Flat (.cp l)
  | agg (l : List AV) (h : ∀ x, x ∈ l → Flat x) : Flat (.agg l)
  | tup (l : List AV) (h : ∀ x, x ∈ l → Flat x) : Flat (.tup l)
theorem Flat.vr {κ' : KM} {F' : FM} (hF : FLe F F') {a : AV} {v : Value} (hf : Flat a) (h : VR κ F a v) : VR κ' F' a v := by
  induction h with
  | junk v => exact .junk v
  | int k n => exact .int k n
  | bool b => exact .bool b
  | str s => exact .str s
  | nilp => exact .nilp
  | ptr h => cases hf
  | cp hFb hle _ ih => cases hf with | cp _ hf => exact .cp (hF _ _ hFb) hle fun i hi => ih i hi (hf _ (List.getElem_mem hi))
  | nils a => exact .nils a
  | cs0 a c => exact .cs0 a c
  | cs hFb hle hc _ ih => cases hf with | cs _ _ hf => exact .cs (hF _ _ hFb) hle hc fun i hi => ih i hi (hf _ (List.getElem_mem hi))
  | sl h hoff hlo hc hlen ha => cases hf
  | mapNil => exact .mapNil
  | map h => cases hf
  | fn hA hC _ _ ih1 ih2 => cases hf
  | nilf => exact .nilf
  | agg hA _ ih => cases hf with | agg _ hf => exact .agg hA fun i hi => ih i hi (hf _ (List.getElem_mem hi))
  | tup hA _ ih => cases hf with | tup _ hf => exact .tup hA fun i hi => ih i hi (hf _ (List.getElem_mem hi))
/-- Values without constants in memory. -/
inductive NoF : AV → Prop where
  | junk : NoF .junk
  | int (k : IntKind) (n : Int) : NoF (.int k n)
  | bool (b : Bool) : NoF (.bool b)
  | str (s : List UInt8) : NoF (.str s)
  | nilp : NoF .nilp
  | nils : NoF .nils
  | agg (l : List AV) (h : ∀ x, x ∈ l → NoF x) : NoF (.agg l)
  | tup (l : List AV) (h : ∀ x, x ∈ l → NoF x) : NoF (.tup l)
theorem NoF.vr {κ' : KM} {F' : FM} {a : AV} {v : Value} (hf : NoF a) (h : VR κ F a v) : VR κ' F' a v := by
  induction h with
  | junk v => exact .junk v
  | int k n => exact .int k n
  | bool b => exact .bool b
  | str s => exact .str s
  | nilp => exact .nilp
  | ptr h => cases hf
  | cp hFb hle _ ih => cases hf
  | nils a => exact .nils a
  | cs0 a c => exact .cs0 a c
  | cs hFb hle hc _ ih => cases hf
  | sl h hoff hlo hc hlen ha => cases hf
  | mapNil => exact .mapNil
  | map h => cases hf
  | fn hA hC _ _ ih1 ih2 => cases hf
  | nilf => exact .nilf
  | agg hA _ ih => cases hf with | agg _ hf => exact .agg hA fun i hi => ih i hi (hf _ (List.getElem_mem hi))
  | tup hA _ ih => cases hf with | tup _ hf => exact .tup hA fun i hi => ih i hi (hf _ (List.getElem_mem hi))
/-- An argument, told as a constant. -/
inductive Frz (H : AH) : AV → AV → Prop where
  | flat (a : AV) (h : Flat a) : Frz H a a
  | sl {r v es n : Nat} {lim : Option Nat} {cells : List AV} (hr : H r = some (.row cells v)) (hl : cells.length = n * es) (h : ∀ x, x ∈ cells → Flat x) : Frz H (.sl r v es 0 n lim) (.cs cells n)
inductive Frzs (H : AH) : List AV → List AV → Prop where
  | nil : Frzs H [] []
  | cons {a b : AV} {l m : List AV} (h : Frz H a b) (k : Frzs H l m) : Frzs H (a :: l) (b :: m)
theorem Frz.vr (I : Inv κ F B w0 H w) {a b : AV} (h : Frz H a b) {x : Value} (hv : VR κ F a x) : VR (fun _ _ => none) (startF w) b x := by
  have hF : FLe F (startF w) := fun c arr hc => by
    obtain ⟨e, fr, hh⟩ := I.fz c arr hc
    unfold startF
    rw [hh]
  cases h with
  | flat _ hf => exact hf.vr hF hv
  | sl hr hl hf =>
    rename_i r v es n lim cells
    obtain ⟨i, adr, c, rfl, hi, hie, hlc, hrow, hnx, hadr, lo, hlo0, hlo, hlim⟩ := VR.slOf I hv hr
    rcases hadr with hc | ⟨b', hb', rfl⟩
    · have hn : n = 0 := by omega
      subst hn
      have : cells = [] := List.eq_nil_of_length_eq_zero (by simpa using hl)
      rw [this]; exact .cs0 _ _
    · obtain ⟨i2, hi2, hrow2, _⟩ := I.objs _ _ hr
      have hi2 : κ r v = some i2 := hi2
      rw [hi] at hi2; cases hi2
      simp only [RowOk, hb'] at hrow2
      obtain ⟨hB, hFb, arr, e, fr, hh, hlo2, hsz, hlen, hcell⟩ := hrow2
      refine .cs (arr := arr) (by unfold startF; rw [hh]) (by omega) hlc fun j hj => ?_
      have := hcell j hj
      rw [Nat.zero_add]
      exact (hf _ (List.getElem_mem hj)).vr hF this
theorem Frzs.vrs (I : Inv κ F B w0 H w) : ∀ {l m : List AV}, Frzs H l m → m.length = l.length ∧ ∀ i (hi : i < l.length) (hj : i < m.length), Frz H l[i] m[i]
  | _, _, .nil => ⟨rfl, fun i hi => by simp at hi⟩
  | _, _, .cons h k => by
    obtain ⟨k1, k2⟩ := Frzs.vrs I k
    refine ⟨by simp [k1], fun i hi hj => ?_⟩
    cases i with
    | zero => exact h
    | succ i => exact k2 i (by simpa using hi) (by simpa using hj)
theorem Frzs.cargs (I : Inv κ F B w0 H w) {args args' : List AV} {cargs : Array Value} (ha : Frzs H args args') (hA : VRs κ F args cargs) : VRs (fun _ _ => none) (startF w) args' cargs := by
  obtain ⟨k1, k2⟩ := ha.vrs I
  exact ⟨by rw [hA.1, k1], fun i hi => (k2 i (by rw [← k1]; exact hi) hi).vr I (hA.2 i (by rw [← k1]; exact hi))⟩
end Go.Fw
/- Tiles: the walks of Valid. -/
namespace Go.Proofs.Ytghielfbdpkhmaa
open Go.Fw Go
set_option linter.unusedVariables false
set_option linter.unusedSimpArgs false

def tV (b : Int) (L P : List Int) : AV := .agg [.int .i64 b, .cs (iS .i64 L) L.length, .cs (iS .i64 P) P.length]
def vOk (l v : Int) : Prop := (0 ≤ v ∧ v ≤ 65535) ∧ (l < 0 → v = 0)
def pxOk (n : Nat) (L P : List Int) (i k : Nat) : Prop := ∀ j, j < k → vOk (L.getD i 0) (P.getD (i * n + j) 0)
def lbOk (n : Nat) (L P : List Int) (i : Nat) : Prop := ∀ j, j < i → (-1 ≤ L.getD j 0 ∧ L.getD j 0 ≤ 4095) ∧ pxOk n L P j n
def tForm (b : Int) (L P : List Int) : Prop := (1 ≤ b ∧ b ≤ 4) ∧ L.length = 256 ∧ (P.length : Int) = 256 * b
open Classical in
noncomputable def tileE (b : Int) (L P : List Int) : Int := if ¬ tForm b L P then 1 else if lbOk b.toNat L P 256 then 0 else 5
def tI (L : List Int) : Prop := L.length ≤ 1000000
theorem iS_mid {P : List Int} {Q k n : Nat} (hk : k < n) (hP : Q + n ≤ P.length) :
    (List.drop ((k : Int).toNat * 1) (List.take ((((Q + n : Nat) : Int).toNat - ((Q : Nat) : Int).toNat) * 1) (List.drop (((Q : Nat) : Int).toNat * 1) (iS .i64 P))))[0]? = some (.int .i64 (P.getD (Q + k) 0)) := by
  rw [Int.toNat_natCast, Int.toNat_natCast, Int.toNat_natCast, List.getElem?_drop, List.getElem?_take_of_lt (by omega), List.getElem?_drop, show Q * 1 + (k * 1 + 0) = Q + k by omega]
  exact iS_get (by omega)
theorem pxOk_snoc {n : Nat} {L P : List Int} {i k : Nat} (h : pxOk n L P i k) (hk : vOk (L.getD i 0) (P.getD (i * n + k) 0)) : pxOk n L P i (k + 1) := fun j hj => by
  by_cases e : j = k
  · rw [e]; exact hk
  · exact h j (by omega)
theorem lbOk_snoc {n : Nat} {L P : List Int} {i : Nat} (h : lbOk n L P i) (hl : -1 ≤ L.getD i 0 ∧ L.getD i 0 ≤ 4095) (hp : pxOk n L P i n) : lbOk n L P (i + 1) := fun j hj => by
  by_cases e : j = i
  · rw [e]; exact ⟨hl, hp⟩
  · exact h j (by omega)
set_option maxHeartbeats 8000000 in
set_option maxRecDepth 8000 in
theorem valid_c (b : Int) (L P : List Int) (hb : I64 b) (hL : tI L) (hP : tI P) (H : AH) :
    ACall Try.prog 38 [tV b L P] H (fun z H' => z = .int .i64 (tileE b L P) ∧ H' = H) := by
  unfold tileE
  unfold tI at hL hP
  have b0 := fun H => btw_c b 1 4 H
  unfold I64 at hb
  by_cases hf : tForm b L P
  · rw [if_neg (fun h => h hf)]
    obtain ⟨h1, h2, h3⟩ := hf
    rw [decide_eq_true h1] at b0
    obtain ⟨n, rfl⟩ : ∃ n : Nat, b = n := ⟨b.toNat, by omega⟩
    rw [Int.toNat_natCast]
    have hn : P.length = 256 * n := by omega
    have hLl : (iS .i64 L).length = L.length := by simp
    have hPl : (iS .i64 P).length = P.length := by simp
    refine ACall_of tt_ok (dok _) Try.func38 rfl (by decide) rfl ?_
    (repeat' ((conv => whnf); first | refine OpsA.cons ?_ | refine OpsA.nil ?_ | refine AWq.seq ?_ | refine AWq.region ?_ | refine AWq.cond ?_ | refine AWq.block ?_ | refine AWq.skip ?_ | refine AWq.ret ?_ | refine AWq.exit ?_ | refine AWq.loop ?_ | (refine Both.mk ?_ ?_ <;> intro hc <;> (first | exact Bool.noConfusion hc | exact absurd (by assumption) hc | (exfalso; omega) | skip)) | (intro c hc; (try (simp only [AH.none_iff] at hc; repeat (have hn := hc.1; replace hc := hc.2))); (first | (have hc2 := Eq.trans hc (by with_reducible assumption); clear hc; subst hc2) | (refine i64_k hc ?_ ?_ ?_ ; omega; omega; (clear hc; intro hc; subst hc)) | skip)) | (apply Exists.intro; apply And.intro; (first | (focus (repeat (first | (with_reducible assumption))); done))) | (apply Exists.intro; apply And.intro; first | (with_reducible assumption) | ((try simp only [List.getElem?_drop, Nat.mul_one, Nat.add_zero, Nat.zero_add]); first | (with_reducible assumption) | rfl)) | (apply And.intro; (first | rfl | (with_reducible assumption) | exact Nat.le_of_ble_eq_true rfl | omega | (simp <;> omega))))) <;> (try (conv => whnf))
    refine Then.mk (AWq.in ?_)
    refine AWp_freezeP 1 rfl rfl (AH.set_same _ _ _) ?_
    rw [AH.del_set _ _ _ (by assumption)]
    refine AWp.of tt_ok (dok _) rfl ?_
    (repeat' ((conv => whnf); first | refine Then.mk ?_ | refine OpsA.cons ?_ | refine OpsA.nil ?_ | refine AWq.seq ?_ | refine AWq.region ?_ | refine AWq.cond ?_ | refine AWq.block ?_ | refine AWq.skip ?_ | refine AWq.ret ?_ | refine AWq.exit ?_ | refine AWq.loop ?_ | (refine Both.mk ?_ ?_ <;> intro hc <;> (first | exact Bool.noConfusion hc | exact absurd (by assumption) hc | (exfalso; omega) | skip)) | (intro c hc; (try (simp only [AH.none_iff] at hc; repeat (have hn := hc.1; replace hc := hc.2))); (first | (have hc2 := Eq.trans hc (by with_reducible assumption); clear hc; subst hc2) | (refine i64_k hc ?_ ?_ ?_ ; omega; omega; (clear hc; intro hc; subst hc)) | skip)) | (apply Exists.intro; apply And.intro; (first | (focus (repeat (first | (with_reducible assumption))); done))) | (apply Exists.intro; apply And.intro; first | (with_reducible assumption) | ((try simp only [List.getElem?_drop, Nat.mul_one, Nat.add_zero, Nat.zero_add]); first | (with_reducible assumption) | rfl)) | (apply And.intro; (first | rfl | (with_reducible assumption) | exact Nat.le_of_ble_eq_true rfl | omega | (simp <;> omega))) | (refine ACall.to (b0 _) ?_))) <;> (try (conv => whnf))
    refine AWp_loop (σ := Nat) (2 :: 3 :: 4 :: 6 :: 29 :: 30 :: 31 :: 32 :: 33 :: 34 :: 35 :: 36 :: 37 :: 38 :: 39 :: 40 :: 41 :: 42 :: 43 :: 44 :: 45 :: 46 :: 47 :: 48 :: 49 :: 50 :: 51 :: 52 :: 53 :: 54 :: 55 :: 56 :: 57 :: 58 :: 59 :: 60 :: 61 :: 62 :: 63 :: 64 :: 65 :: 66 :: []) (fun i => [(29, .int .i64 i)]) (fun _ => H) (fun i => i ≤ 256 ∧ lbOk n L P i) (fun i => 256 - i) 0 rfl ⟨Nat.zero_le _, fun j hj => absurd hj (Nat.not_lt_zero j)⟩ ⟨rfl, trivial⟩ (HLe.refl _) ?_
    rintro i ⟨hi, hio⟩
    refine AWp.of tt_ok (dok _) rfl ?_
    dsimp only at hi ⊢
    by_cases hit : i < 256
    · have gl : (iS .i64 L)[(i : Int).toNat]? = some (.int .i64 (L.getD i 0)) := iS_get (by omega)
      have b1 := fun H => btw_c (L.getD i 0) (-1) 4095 H
      by_cases hl : -1 ≤ L.getD i 0 ∧ L.getD i 0 ≤ 4095
      · rw [decide_eq_true hl] at b1
        have hq : i * n + n ≤ 256 * n := by
          have := Nat.mul_le_mul_right n (show i + 1 ≤ 256 by omega)
          rwa [Nat.add_mul, Nat.one_mul] at this
        have w1 : IntKind.i64.wrap ((i : Int) * (n : Int)) = ((i * n : Nat) : Int) := by rw [← Int.natCast_mul, IntKind.wrap_i64]; omega
        have w2 : IntKind.i64.wrap (((i : Int) + 1) * (n : Int)) = ((i * n + n : Nat) : Int) := by
          rw [show ((i : Int) + 1) * (n : Int) = ((i * n + n : Nat) : Int) by rw [Int.add_mul, Int.natCast_add, Int.natCast_mul]; omega, IntKind.wrap_i64]; omega
        have hst := fun hp => lbOk_snoc (n := n) (P := P) hio hl hp
        have hpx : ∀ k, lbOk n L P 256 → k < n → vOk (L.getD i 0) (P.getD (i * n + k) 0) := fun k h hk => (h i hit).2 k hk
        obtain ⟨Q, hQ⟩ : ∃ Q, Q = i * n := ⟨_, rfl⟩
        have hsn : ∀ k, pxOk n L P i k → vOk (L.getD i 0) (P.getD (i * n + k) 0) → pxOk n L P i (k + 1) := fun k => pxOk_snoc
        rw [← hQ] at hq w1 w2 hpx hsn
        generalize hl0 : L.getD i 0 = l at *
        (repeat' ((conv => whnf); first | refine Then.mk ?_ | refine OpsA.cons ?_ | refine OpsA.nil ?_ | refine AWq.seq ?_ | refine AWq.region ?_ | refine AWq.cond ?_ | refine AWq.block ?_ | refine AWq.skip ?_ | refine AWq.ret ?_ | refine AWq.exit ?_ | refine AWq.loop ?_ | (refine Both.mk ?_ ?_ <;> intro hc <;> (first | exact Bool.noConfusion hc | exact absurd (by assumption) hc | (exfalso; omega) | skip)) | (intro c hc; (try (simp only [AH.none_iff] at hc; repeat (have hn := hc.1; replace hc := hc.2))); (first | (have hc2 := Eq.trans hc (by with_reducible assumption); clear hc; subst hc2) | (refine i64_k hc ?_ ?_ ?_ ; omega; omega; (clear hc; intro hc; subst hc)) | skip)) | (apply Exists.intro; apply And.intro; (first | (focus (repeat (first | (with_reducible assumption))); done))) | (apply Exists.intro; apply And.intro; first | (with_reducible assumption) | ((try simp only [List.getElem?_drop, Nat.mul_one, Nat.add_zero, Nat.zero_add]); first | (with_reducible assumption) | rfl)) | (apply And.intro; (first | rfl | (with_reducible assumption) | exact Nat.le_of_ble_eq_true rfl | omega | (simp <;> omega))) | (refine ACall.to (b1 _) ?_))) <;> (try (conv => whnf))
        refine AWp_loop (σ := Nat) (2 :: 6 :: 50 :: 51 :: 52 :: 53 :: 54 :: 55 :: 56 :: 57 :: 58 :: 59 :: 60 :: 61 :: 62 :: 63 :: 64 :: 65 :: []) (fun k => [(50, .int .i64 k)]) (fun _ => H) (fun k => k ≤ n ∧ pxOk n L P i k) (fun k => n - k) 0 rfl ⟨Nat.zero_le _, fun j hj => absurd hj (Nat.not_lt_zero j)⟩ ⟨rfl, trivial⟩ (HLe.refl _) ?_
        rintro k ⟨hk, hko⟩
        refine AWp.of tt_ok (dok _) rfl ?_
        dsimp only at hk ⊢
        by_cases hkt : k < n
        · have gp := iS_mid (P := P) (Q := Q) hkt (by omega)
          have b2 := fun H => btw_c (P.getD (Q + k) 0) 0 65535 H
          have hsk := hsn k hko
          have hpk := fun h => hpx k h hkt
          unfold vOk at hsk hpk
          generalize P.getD (Q + k) 0 = v at *
          by_cases hv : 0 ≤ v ∧ v ≤ 65535
          · rw [decide_eq_true hv] at b2
            by_cases hv2 : l < 0 ∧ v ≠ 0
            · rw [if_neg (fun h => hv2.2 ((hpk h).2 hv2.1))]
              obtain ⟨hv3, hv4⟩ := hv2
              (repeat' ((conv => whnf); first | refine Then.mk ?_ | refine OpsA.cons ?_ | refine OpsA.nil ?_ | refine AWq.seq ?_ | refine AWq.region ?_ | refine AWq.cond ?_ | refine AWq.block ?_ | refine AWq.skip ?_ | refine AWq.ret ?_ | refine AWq.exit ?_ | refine AWq.loop ?_ | (refine Both.mk ?_ ?_ <;> intro hc <;> (first | exact Bool.noConfusion hc | exact absurd (by assumption) hc | (exfalso; omega) | skip)) | (intro c hc; (try (simp only [AH.none_iff] at hc; repeat (have hn := hc.1; replace hc := hc.2))); (first | (have hc2 := Eq.trans hc (by with_reducible assumption); clear hc; subst hc2) | (refine i64_k hc ?_ ?_ ?_ ; omega; omega; (clear hc; intro hc; subst hc)) | skip)) | (apply Exists.intro; apply And.intro; (first | (focus (repeat (first | (with_reducible assumption))); done))) | (apply Exists.intro; apply And.intro; first | (with_reducible assumption) | ((try simp only [List.getElem?_drop, Nat.mul_one, Nat.add_zero, Nat.zero_add]); first | (with_reducible assumption) | rfl)) | (apply And.intro; (first | rfl | (with_reducible assumption) | exact Nat.le_of_ble_eq_true rfl | omega | (simp <;> omega))) | (refine ACall.to (b2 _) ?_))) <;> (try (conv => whnf))
              done
            · have hsk2 := hsk ⟨hv, fun h => Decidable.byContradiction fun h2 => hv2 ⟨h, h2⟩⟩
              (repeat' ((conv => whnf); first | refine Then.mk ?_ | refine OpsA.cons ?_ | refine OpsA.nil ?_ | refine AWq.seq ?_ | refine AWq.region ?_ | refine AWq.cond ?_ | refine AWq.block ?_ | refine AWq.skip ?_ | refine AWq.ret ?_ | refine AWq.exit ?_ | refine AWq.loop ?_ | (refine Both.mk ?_ ?_ <;> intro hc <;> (first | exact Bool.noConfusion hc | exact absurd (by assumption) hc | (exfalso; omega) | skip)) | (intro c hc; (try (simp only [AH.none_iff] at hc; repeat (have hn := hc.1; replace hc := hc.2))); (first | (have hc2 := Eq.trans hc (by with_reducible assumption); clear hc; subst hc2) | (refine i64_k hc ?_ ?_ ?_ ; omega; omega; (clear hc; intro hc; subst hc)) | skip)) | (apply Exists.intro; apply And.intro; (first | (focus (repeat (first | (with_reducible assumption))); done))) | (apply Exists.intro; apply And.intro; first | (with_reducible assumption) | ((try simp only [List.getElem?_drop, Nat.mul_one, Nat.add_zero, Nat.zero_add]); first | (with_reducible assumption) | rfl)) | (apply And.intro; (first | rfl | (with_reducible assumption) | exact Nat.le_of_ble_eq_true rfl | omega | (simp <;> omega))) | (refine ACall.to (b2 _) ?_))) <;> (try (conv => whnf))
              all_goals exact ⟨k + 1, ⟨hkt, hsk2⟩, show n - (k + 1) < n - k by omega, ⟨congrArg (AV.int .i64) (by omega), trivial⟩, HLe.refl _⟩
          · rw [decide_eq_false hv] at b2
            rw [if_neg (fun h => hv (hpk h).1)]
            (repeat' ((conv => whnf); first | refine Then.mk ?_ | refine OpsA.cons ?_ | refine OpsA.nil ?_ | refine AWq.seq ?_ | refine AWq.region ?_ | refine AWq.cond ?_ | refine AWq.block ?_ | refine AWq.skip ?_ | refine AWq.ret ?_ | refine AWq.exit ?_ | refine AWq.loop ?_ | (refine Both.mk ?_ ?_ <;> intro hc <;> (first | exact Bool.noConfusion hc | exact absurd (by assumption) hc | (exfalso; omega) | skip)) | (intro c hc; (try (simp only [AH.none_iff] at hc; repeat (have hn := hc.1; replace hc := hc.2))); (first | (have hc2 := Eq.trans hc (by with_reducible assumption); clear hc; subst hc2) | (refine i64_k hc ?_ ?_ ?_ ; omega; omega; (clear hc; intro hc; subst hc)) | skip)) | (apply Exists.intro; apply And.intro; (first | (focus (repeat (first | (with_reducible assumption))); done))) | (apply Exists.intro; apply And.intro; first | (with_reducible assumption) | ((try simp only [List.getElem?_drop, Nat.mul_one, Nat.add_zero, Nat.zero_add]); first | (with_reducible assumption) | rfl)) | (apply And.intro; (first | rfl | (with_reducible assumption) | exact Nat.le_of_ble_eq_true rfl | omega | (simp <;> omega))) | (refine ACall.to (b2 _) ?_))) <;> (try (conv => whnf))
            done
        · have hke : k = n := by omega
          subst hke
          (repeat' ((conv => whnf); first | refine Then.mk ?_ | refine OpsA.cons ?_ | refine OpsA.nil ?_ | refine AWq.seq ?_ | refine AWq.region ?_ | refine AWq.cond ?_ | refine AWq.block ?_ | refine AWq.skip ?_ | refine AWq.ret ?_ | refine AWq.exit ?_ | refine AWq.loop ?_ | (refine Both.mk ?_ ?_ <;> intro hc <;> (first | exact Bool.noConfusion hc | exact absurd (by assumption) hc | (exfalso; omega) | skip)) | (intro c hc; (try (simp only [AH.none_iff] at hc; repeat (have hn := hc.1; replace hc := hc.2))); (first | (have hc2 := Eq.trans hc (by with_reducible assumption); clear hc; subst hc2) | (refine i64_k hc ?_ ?_ ?_ ; omega; omega; (clear hc; intro hc; subst hc)) | skip)) | (apply Exists.intro; apply And.intro; (first | (focus (repeat (first | (with_reducible assumption))); done))) | (apply Exists.intro; apply And.intro; first | (with_reducible assumption) | ((try simp only [List.getElem?_drop, Nat.mul_one, Nat.add_zero, Nat.zero_add]); first | (with_reducible assumption) | rfl)) | (apply And.intro; (first | rfl | (with_reducible assumption) | exact Nat.le_of_ble_eq_true rfl | omega | (simp <;> omega))))) <;> (try (conv => whnf))
          exact ⟨i + 1, ⟨hit, hst hko⟩, show 256 - (i + 1) < 256 - i by omega, ⟨congrArg (AV.int .i64) (by omega), trivial⟩, HLe.refl _⟩
      · rw [decide_eq_false hl] at b1
        rw [if_neg (fun h => hl (h i hit).1)]
        (repeat' ((conv => whnf); first | refine Then.mk ?_ | refine OpsA.cons ?_ | refine OpsA.nil ?_ | refine AWq.seq ?_ | refine AWq.region ?_ | refine AWq.cond ?_ | refine AWq.block ?_ | refine AWq.skip ?_ | refine AWq.ret ?_ | refine AWq.exit ?_ | refine AWq.loop ?_ | (refine Both.mk ?_ ?_ <;> intro hc <;> (first | exact Bool.noConfusion hc | exact absurd (by assumption) hc | (exfalso; omega) | skip)) | (intro c hc; (try (simp only [AH.none_iff] at hc; repeat (have hn := hc.1; replace hc := hc.2))); (first | (have hc2 := Eq.trans hc (by with_reducible assumption); clear hc; subst hc2) | (refine i64_k hc ?_ ?_ ?_ ; omega; omega; (clear hc; intro hc; subst hc)) | skip)) | (apply Exists.intro; apply And.intro; (first | (focus (repeat (first | (with_reducible assumption))); done))) | (apply Exists.intro; apply And.intro; first | (with_reducible assumption) | ((try simp only [List.getElem?_drop, Nat.mul_one, Nat.add_zero, Nat.zero_add]); first | (with_reducible assumption) | rfl)) | (apply And.intro; (first | rfl | (with_reducible assumption) | exact Nat.le_of_ble_eq_true rfl | omega | (simp <;> omega))) | (refine ACall.to (b1 _) ?_))) <;> (try (conv => whnf))
        done
    · have hie : i = 256 := by omega
      subst hie
      rw [if_pos hio]
      (repeat' ((conv => whnf); first | refine Then.mk ?_ | refine OpsA.cons ?_ | refine OpsA.nil ?_ | refine AWq.seq ?_ | refine AWq.region ?_ | refine AWq.cond ?_ | refine AWq.block ?_ | refine AWq.skip ?_ | refine AWq.ret ?_ | refine AWq.exit ?_ | refine AWq.loop ?_ | (refine Both.mk ?_ ?_ <;> intro hc <;> (first | exact Bool.noConfusion hc | exact absurd (by assumption) hc | (exfalso; omega) | skip)) | (intro c hc; (try (simp only [AH.none_iff] at hc; repeat (have hn := hc.1; replace hc := hc.2))); (first | (have hc2 := Eq.trans hc (by with_reducible assumption); clear hc; subst hc2) | (refine i64_k hc ?_ ?_ ?_ ; omega; omega; (clear hc; intro hc; subst hc)) | skip)) | (apply Exists.intro; apply And.intro; (first | (focus (repeat (first | (with_reducible assumption))); done))) | (apply Exists.intro; apply And.intro; first | (with_reducible assumption) | ((try simp only [List.getElem?_drop, Nat.mul_one, Nat.add_zero, Nat.zero_add]); first | (with_reducible assumption) | rfl)) | (apply And.intro; (first | rfl | (with_reducible assumption) | exact Nat.le_of_ble_eq_true rfl | omega | (simp <;> omega))))) <;> (try (conv => whnf))
      done
  · rw [if_pos hf]
    unfold tForm at hf
    refine ACall_of tt_ok (dok _) Try.func38 rfl (by decide) rfl ?_
    (repeat' ((conv => whnf); first | refine OpsA.cons ?_ | refine OpsA.nil ?_ | refine AWq.seq ?_ | refine AWq.region ?_ | refine AWq.cond ?_ | refine AWq.block ?_ | refine AWq.skip ?_ | refine AWq.ret ?_ | refine AWq.exit ?_ | refine AWq.loop ?_ | (refine Both.mk ?_ ?_ <;> intro hc <;> (first | exact Bool.noConfusion hc | exact absurd (by assumption) hc | (exfalso; omega) | skip)) | (intro c hc; (try (simp only [AH.none_iff] at hc; repeat (have hn := hc.1; replace hc := hc.2))); (first | (have hc2 := Eq.trans hc (by with_reducible assumption); clear hc; subst hc2) | (refine i64_k hc ?_ ?_ ?_ ; omega; omega; (clear hc; intro hc; subst hc)) | skip)) | (apply Exists.intro; apply And.intro; (first | (focus (repeat (first | (with_reducible assumption))); done))) | (apply Exists.intro; apply And.intro; first | (with_reducible assumption) | ((try simp only [List.getElem?_drop, Nat.mul_one, Nat.add_zero, Nat.zero_add]); first | (with_reducible assumption) | rfl)) | (apply And.intro; (first | rfl | (with_reducible assumption) | exact Nat.le_of_ble_eq_true rfl | omega | (simp <;> omega))))) <;> (try (conv => whnf))
    refine Then.mk (AWq.in ?_)
    refine AWp_freezeP 1 rfl rfl (AH.set_same _ _ _) ?_
    rw [AH.del_set _ _ _ (by assumption)]
    refine AWp.of tt_ok (dok _) rfl ?_
    by_cases h1 : 1 ≤ b ∧ b ≤ 4
    · rw [decide_eq_true h1] at b0
      have w1 : IntKind.i64.wrap (256 * b) = 256 * b := by rw [IntKind.wrap_i64]; omega
      by_cases h2 : L.length = 256
      · (repeat' ((conv => whnf); first | refine Then.mk ?_ | refine OpsA.cons ?_ | refine OpsA.nil ?_ | refine AWq.seq ?_ | refine AWq.region ?_ | refine AWq.cond ?_ | refine AWq.block ?_ | refine AWq.skip ?_ | refine AWq.ret ?_ | refine AWq.exit ?_ | refine AWq.loop ?_ | (refine Both.mk ?_ ?_ <;> intro hc <;> (first | exact Bool.noConfusion hc | exact absurd (by assumption) hc | (exfalso; omega) | skip)) | (intro c hc; (try (simp only [AH.none_iff] at hc; repeat (have hn := hc.1; replace hc := hc.2))); (first | (have hc2 := Eq.trans hc (by with_reducible assumption); clear hc; subst hc2) | (refine i64_k hc ?_ ?_ ?_ ; omega; omega; (clear hc; intro hc; subst hc)) | skip)) | (apply Exists.intro; apply And.intro; (first | (focus (repeat (first | (with_reducible assumption))); done))) | (apply Exists.intro; apply And.intro; first | (with_reducible assumption) | ((try simp only [List.getElem?_drop, Nat.mul_one, Nat.add_zero, Nat.zero_add]); first | (with_reducible assumption) | rfl)) | (apply And.intro; (first | rfl | (with_reducible assumption) | exact Nat.le_of_ble_eq_true rfl | omega | (simp <;> omega))) | (refine ACall.to (b0 _) ?_))) <;> (try (conv => whnf))
        done
      · (repeat' ((conv => whnf); first | refine Then.mk ?_ | refine OpsA.cons ?_ | refine OpsA.nil ?_ | refine AWq.seq ?_ | refine AWq.region ?_ | refine AWq.cond ?_ | refine AWq.block ?_ | refine AWq.skip ?_ | refine AWq.ret ?_ | refine AWq.exit ?_ | refine AWq.loop ?_ | (refine Both.mk ?_ ?_ <;> intro hc <;> (first | exact Bool.noConfusion hc | exact absurd (by assumption) hc | (exfalso; omega) | skip)) | (intro c hc; (try (simp only [AH.none_iff] at hc; repeat (have hn := hc.1; replace hc := hc.2))); (first | (have hc2 := Eq.trans hc (by with_reducible assumption); clear hc; subst hc2) | (refine i64_k hc ?_ ?_ ?_ ; omega; omega; (clear hc; intro hc; subst hc)) | skip)) | (apply Exists.intro; apply And.intro; (first | (focus (repeat (first | (with_reducible assumption))); done))) | (apply Exists.intro; apply And.intro; first | (with_reducible assumption) | ((try simp only [List.getElem?_drop, Nat.mul_one, Nat.add_zero, Nat.zero_add]); first | (with_reducible assumption) | rfl)) | (apply And.intro; (first | rfl | (with_reducible assumption) | exact Nat.le_of_ble_eq_true rfl | omega | (simp <;> omega))) | (refine ACall.to (b0 _) ?_))) <;> (try (conv => whnf))
        done
    · rw [decide_eq_false h1] at b0
      (repeat' ((conv => whnf); first | refine Then.mk ?_ | refine OpsA.cons ?_ | refine OpsA.nil ?_ | refine AWq.seq ?_ | refine AWq.region ?_ | refine AWq.cond ?_ | refine AWq.block ?_ | refine AWq.skip ?_ | refine AWq.ret ?_ | refine AWq.exit ?_ | refine AWq.loop ?_ | (refine Both.mk ?_ ?_ <;> intro hc <;> (first | exact Bool.noConfusion hc | exact absurd (by assumption) hc | (exfalso; omega) | skip)) | (intro c hc; (try (simp only [AH.none_iff] at hc; repeat (have hn := hc.1; replace hc := hc.2))); (first | (have hc2 := Eq.trans hc (by with_reducible assumption); clear hc; subst hc2) | (refine i64_k hc ?_ ?_ ?_ ; omega; omega; (clear hc; intro hc; subst hc)) | skip)) | (apply Exists.intro; apply And.intro; (first | (focus (repeat (first | (with_reducible assumption))); done))) | (apply Exists.intro; apply And.intro; first | (with_reducible assumption) | ((try simp only [List.getElem?_drop, Nat.mul_one, Nat.add_zero, Nat.zero_add]); first | (with_reducible assumption) | rfl)) | (apply And.intro; (first | rfl | (with_reducible assumption) | exact Nat.le_of_ble_eq_true rfl | omega | (simp <;> omega))) | (refine ACall.to (b0 _) ?_))) <;> (try (conv => whnf))
      done
end Go.Proofs.Ytghielfbdpkhmaa
/- Tiles: Same of equal tiles, the reference's Empty. -/
namespace Go.Proofs.Ytghielfbdpkhmaa
open Go.Fw Go
set_option linter.unusedVariables false
set_option linter.unusedSimpArgs false

set_option maxRecDepth 8000 in
theorem same_t (b : Int) (L P : List Int) (hL : tI L) (hP : tI P) (H : AH) :
    ACall Try.prog 42 [tV b L P, tV b L P] H (fun z H' => z = .bool true ∧ H' = H) := by
  have s1 := fun H => sameints_c L L hL hL H
  have s2 := fun H => sameints_c P P hP hP H
  rw [decide_eq_true rfl] at s1 s2
  refine ACall.back ?_
  refine ACall_of tt_ok (dok _) Try.func42 rfl (by decide) rfl ?_
  (repeat' ((conv => whnf); first | refine Then.mk ?_ | refine OpsA.cons ?_ | refine OpsA.nil ?_ | refine AWq.seq ?_ | refine AWq.region ?_ | refine AWq.ret ?_ | (refine Both.mk ?_ ?_ <;> intro hc <;> (first | exact absurd (by with_reducible rfl) hc | skip)) | (intro c hc; (try (simp only [AH.none_iff] at hc; repeat (have hn := hc.1; replace hc := hc.2))); (first | skip)) | (apply Exists.intro; apply And.intro; (first | (focus (repeat (first | (with_reducible assumption) | (with_reducible exact AH.set_same _ _ _) | ((first | refine AH.get_ne ?_ ?_); (first | (with_reducible assumption) | exact Ne.symm (by with_reducible assumption))))); done))) | (apply Exists.intro; apply And.intro; first | (with_reducible assumption) | ((try simp only [List.getElem?_drop, Nat.mul_one, Nat.add_zero, Nat.zero_add]); first | (with_reducible assumption) | rfl)) | (apply And.intro; (first | rfl | (with_reducible assumption))) | (refine ACall.to (s1 _) ?_) | (refine ACall.to (s2 _) ?_))) <;> (try (conv => whnf))
  all_goals (first | ((repeat' (first | (with_reducible exact HLe.refl _) | (with_reducible assumption) | refine HLe.set_of _ _ ?_ ?_)); done))
/-- A tile's row while it grows: labels and pixels of functions. -/
def grH (H : AH) (p q1 q2 : Nat) (b : Int) (A B : List Int) : AH :=
  ((H.set p (.row [.int .i64 b, .sl q1 A.length 1 0 A.length none, .sl q2 B.length 1 0 B.length none] 0)).set q1 (.row (iS .i64 A) A.length)).set q2 (.row (iS .i64 B) B.length)
structure Gr (H : AH) (p q1 q2 : Nat) : Prop where
  hp : H p = none
  ha : H q1 = none
  hb : H q2 = none
  pa : p ≠ q1
  pb : p ≠ q2
  ab : q1 ≠ q2
theorem Gr.atp {H : AH} {p q1 q2 : Nat} (g : Gr H p q1 q2) (b : Int) (A B : List Int) : grH H p q1 q2 b A B p = some (.row [.int .i64 b, .sl q1 A.length 1 0 A.length none, .sl q2 B.length 1 0 B.length none] 0) := by
  unfold grH; rw [AH.set_ne _ _ g.pb, AH.set_ne _ _ g.pa, AH.set_same]
theorem Gr.ata {H : AH} {p q1 q2 : Nat} (g : Gr H p q1 q2) (b : Int) (A B : List Int) : grH H p q1 q2 b A B q1 = some (.row (iS .i64 A) A.length) := by
  unfold grH; rw [AH.set_ne _ _ g.ab, AH.set_same]
theorem Gr.atb {H : AH} {p q1 q2 : Nat} (g : Gr H p q1 q2) (b : Int) (A B : List Int) : grH H p q1 q2 b A B q2 = some (.row (iS .i64 B) B.length) := by
  unfold grH; rw [AH.set_same]
/-- A label more. -/
theorem Gr.stepA {H : AH} {p q1 q2 : Nat} (g : Gr H p q1 q2) (b : Int) (A B : List Int) (x : Int) :
    HLe (grH H p q1 q2 b (A ++ [x]) B) (((grH H p q1 q2 b A B).set q1 (.row (iS .i64 A ++ [.int .i64 x]) (A.length + 1))).set p (.row [.int .i64 b, .sl q1 (A.length + 1) 1 0 (A.length + 1) none, .sl q2 B.length 1 0 B.length none] 0)) := by
  obtain ⟨_, _, _, n1, n2, n3⟩ := g
  unfold grH
  rw [← iS_snoc, List.length_append]
  exact HLe.of_eq (by ((funext s; simp only [AH.set, AH.del]; repeat' split) <;> (first | rfl | (exfalso; omega))))
/-- A pixel more. -/
theorem Gr.stepB {H : AH} {p q1 q2 : Nat} (g : Gr H p q1 q2) (b : Int) (A B : List Int) (x : Int) :
    HLe (grH H p q1 q2 b A (B ++ [x])) (((grH H p q1 q2 b A B).set q2 (.row (iS .i64 B ++ [.int .i64 x]) (B.length + 1))).set p (.row [.int .i64 b, .sl q1 A.length 1 0 A.length none, .sl q2 (B.length + 1) 1 0 (B.length + 1) none] 0)) := by
  obtain ⟨_, _, _, n1, n2, n3⟩ := g
  unfold grH
  rw [← iS_snoc, List.length_append]
  exact HLe.of_eq (by ((funext s; simp only [AH.set, AH.del]; repeat' split) <;> (first | rfl | (exfalso; omega))))
/-- A tile that has grown, its labels and pixels constants. -/
theorem AWp_grown {N : Nat} {P : Program} {ro : Option Nat} {ws : Nat → Bool} {c : Code} {K R : St → AH → Prop} {X : Nat → St → AH → Prop} {s : St} {H : AH} {p q1 q2 : Nat} (g : Gr H p q1 q2) (b : Int) (A B : List Int)
    (h : AWp (P := P) N ro ws c K R X s (H.set p (.row [.int .i64 b, .cs (iS .i64 A) A.length, .cs (iS .i64 B) B.length] 0))) : AWp (P := P) N ro ws c K R X s (grH H p q1 q2 b A B) := by
  refine AWp_freezeC [.int .i64 b] [.sl q2 B.length 1 0 B.length none] g.pa (g.atp b A B) (g.ata b A B) (by simp) ?_
  have n1 := g.pa
  have n2 := g.pb
  have n3 := g.ab
  have hb := g.atb b A B
  refine AWp_freezeC (p := p) (r := q2) (u := 0) (v := B.length) (es := 1) (n := B.length) (lim := none) (cells := iS .i64 B) [.int .i64 b, .cs (iS .i64 A) A.length] [] g.pb (AH.set_same _ _ _) (by rw [AH.set_ne _ _ (Ne.symm n2)]; unfold AH.del; rw [if_neg (Ne.symm n3)]; exact hb) (by simp) ?_
  refine AWp_less _ ?_ h
  refine ⟨fun r o hr => ?_⟩
  by_cases e : r = p
  · subst e; rw [AH.set_same] at hr ⊢; exact hr
  · rw [AH.set_ne _ _ e] at hr ⊢
    have e1 : r ≠ q1 := fun e1 => by rw [e1, g.ha] at hr; cases hr
    have e2 : r ≠ q2 := fun e2 => by rw [e2, g.hb] at hr; cases hr
    unfold AH.del
    rw [if_neg e2, AH.set_ne _ _ e, if_neg e1]
    unfold grH
    rw [AH.set_ne _ _ e2, AH.set_ne _ _ e1, AH.set_ne _ _ e]
    exact hr
/-- A tile begins to grow. -/
theorem AWp_grow {N : Nat} {P : Program} {ro : Option Nat} {ws : Nat → Bool} {c : Code} {K R : St → AH → Prop} {X : Nat → St → AH → Prop} {s : St} {H : AH} {p : Nat} (b : Int) (hp : H p = none)
    (h : ∀ q1 q2, Gr H p q1 q2 → AWp (P := P) N ro ws c K R X s (grH H p q1 q2 b [] [])) : AWp (P := P) N ro ws c K R X s (H.set p (.row [.int .i64 b, .nils, .nils] 0)) := by
  refine AWp_nilC 1 [.int .i64 b] [.nils] (AH.set_same _ _ _) fun q1 h1 n1 => ?_
  refine AWp_nilC 1 [.int .i64 b, .sl q1 0 1 0 0 none] [] (AH.set_same _ _ _) fun q2 h2 n2 => ?_
  have h1' : H q1 = none := (AH.none_set h1).2
  have h2a := (AH.none_set h2).2
  have n21 : q2 ≠ q1 := (AH.none_set h2a).1
  have h2' : H q2 = none := (AH.none_set (AH.none_set h2a).2).2
  refine AWp_less _ ?_ (h q1 q2 ⟨hp, h1', h2', Ne.symm n1, Ne.symm n2, Ne.symm n21⟩)
  unfold grH
  have n1' := Ne.symm n1
  have n2' := Ne.symm n2
  have n12 := Ne.symm n21
  exact HLe.of_eq (by ((funext s; simp only [AH.set, AH.del]; repeat' split) <;> (first | rfl | (exfalso; omega))))
end Go.Proofs.Ytghielfbdpkhmaa
/- slices.IndexFunc, DeleteFunc, MinFunc over whole numbers, the function known by a law of its calls. -/
namespace Go.Proofs.Ytghielfbdpkhmaa
open Go.Fw Go
set_option linter.unusedVariables false
set_option linter.unusedSimpArgs false

/-- A function value that answers p. -/
def Pred (f : FuncId) (C : List AV) (p : Int → Bool) (A : List Int) : Prop := ∀ x, x ∈ A → ∀ H, ACall Try.prog f [.int .i64 x, .cp C] H (fun y H' => y = .bool (p x) ∧ H' = H)
theorem getD_in {A : List Int} {i : Nat} (h : i < A.length) : A.getD i 0 ∈ A := getD_mem h
set_option maxHeartbeats 4000000 in
set_option maxRecDepth 8000 in
theorem index_none (f : FuncId) (C : List AV) (p : Int → Bool) (A : List Int) (hA : A.length ≤ 1000) (hf : Pred f C p A) (hp : ∀ i, i < A.length → p (A.getD i 0) = false) (c v : Nat) (lim : Option Nat) (H : AH) (hc : H c = some (.row (iS .i64 A) v)) :
    ACall Try.prog 61 [.sl c v 1 0 A.length lim, .fn (.func f) [] [.cp C]] H (fun y H' => y = .int .i64 (-1) ∧ H' = H) := by
  have hl : (iS .i64 A).length = A.length := by simp
  refine ACall_of tt_ok (dok _) Try.func61 rfl (by decide) rfl ?_
  (repeat' ((conv => whnf); first | refine Then.mk ?_ | refine OpsA.cons ?_ | refine OpsA.nil ?_ | refine AWq.seq ?_ | refine AWq.region ?_ | refine AWq.cond ?_ | refine AWq.block ?_ | refine AWq.skip ?_ | refine AWq.ret ?_ | refine AWq.exit ?_ | refine AWq.loop ?_ | (refine Both.mk ?_ ?_ <;> intro hc <;> (first | exact Bool.noConfusion hc | (exfalso; omega) | skip)) | (intro c hc; (try (simp only [AH.none_iff] at hc; repeat (have hn := hc.1; replace hc := hc.2))); (first | (refine i64_k hc ?_ ?_ ?_ ; omega; omega; (clear hc; intro hc; subst hc)) | skip)) | (apply Exists.intro; apply And.intro; (first | (focus (repeat (first | (with_reducible assumption))); done))) | (apply Exists.intro; apply And.intro; first | (with_reducible assumption) | ((try simp only [List.getElem?_drop, Nat.mul_one, Nat.add_zero, Nat.zero_add]); first | (with_reducible assumption) | rfl)) | (apply And.intro; (first | rfl | (with_reducible assumption) | omega)))) <;> (try (conv => whnf))
  refine AWp_loop (σ := Nat) (4 :: 5 :: 8 :: 9 :: 10 :: 11 :: 12 :: 13 :: 14 :: 15 :: 16 :: 17 :: 18 :: []) (fun i => [(8, .int .i64 i)]) (fun _ => H) (fun i => i ≤ A.length) (fun i => A.length - i) 0 rfl (Nat.zero_le _) ⟨rfl, trivial⟩ (HLe.refl _) ?_
  intro i hi
  refine AWp.of tt_ok (dok _) rfl ?_
  dsimp only at hi ⊢
  by_cases hit : i < A.length
  · have g : (iS .i64 A)[(i : Int).toNat]? = some (.int .i64 (A.getD i 0)) := iS_get hit
    have h1 := hf _ (getD_in hit)
    rw [hp i hit] at h1
    generalize A.getD i 0 = x at *
    (repeat' ((conv => whnf); first | refine Then.mk ?_ | refine OpsA.cons ?_ | refine OpsA.nil ?_ | refine AWq.seq ?_ | refine AWq.region ?_ | refine AWq.cond ?_ | refine AWq.block ?_ | refine AWq.skip ?_ | refine AWq.ret ?_ | refine AWq.exit ?_ | refine AWq.loop ?_ | (refine Both.mk ?_ ?_ <;> intro hc <;> (first | exact Bool.noConfusion hc | (exfalso; omega) | skip)) | (intro c hc; (try (simp only [AH.none_iff] at hc; repeat (have hn := hc.1; replace hc := hc.2))); (first | (refine i64_k hc ?_ ?_ ?_ ; omega; omega; (clear hc; intro hc; subst hc)) | skip)) | (apply Exists.intro; apply And.intro; (first | (focus (repeat (first | (with_reducible assumption))); done))) | (apply Exists.intro; apply And.intro; first | (with_reducible assumption) | ((try simp only [List.getElem?_drop, Nat.mul_one, Nat.add_zero, Nat.zero_add]); first | (with_reducible assumption) | rfl)) | (apply And.intro; (first | rfl | (with_reducible assumption) | omega)) | (refine ACall.to (h1 _) ?_))) <;> (try (conv => whnf))
    exact ⟨i + 1, hit, show A.length - (i + 1) < A.length - i by omega, ⟨congrArg (AV.int .i64) (by omega), trivial⟩, HLe.refl _⟩
  · (repeat' ((conv => whnf); first | refine Then.mk ?_ | refine OpsA.cons ?_ | refine OpsA.nil ?_ | refine AWq.seq ?_ | refine AWq.region ?_ | refine AWq.cond ?_ | refine AWq.block ?_ | refine AWq.skip ?_ | refine AWq.ret ?_ | refine AWq.exit ?_ | refine AWq.loop ?_ | (refine Both.mk ?_ ?_ <;> intro hc <;> (first | exact Bool.noConfusion hc | (exfalso; omega) | skip)) | (intro c hc; (try (simp only [AH.none_iff] at hc; repeat (have hn := hc.1; replace hc := hc.2))); (first | (refine i64_k hc ?_ ?_ ?_ ; omega; omega; (clear hc; intro hc; subst hc)) | skip)) | (apply Exists.intro; apply And.intro; (first | (focus (repeat (first | (with_reducible assumption))); done))) | (apply Exists.intro; apply And.intro; first | (with_reducible assumption) | ((try simp only [List.getElem?_drop, Nat.mul_one, Nat.add_zero, Nat.zero_add]); first | (with_reducible assumption) | rfl)) | (apply And.intro; (first | rfl | (with_reducible assumption) | omega)))) <;> (try (conv => whnf))
set_option maxHeartbeats 4000000 in
set_option maxRecDepth 8000 in
theorem index_some (f : FuncId) (C : List AV) (p : Int → Bool) (A : List Int) (hA : A.length ≤ 1000) (hf : Pred f C p A) (k : Nat) (hk : k < A.length) (hpk : p (A.getD k 0) = true) (hp : ∀ i, i < k → p (A.getD i 0) = false) (c v : Nat) (lim : Option Nat) (H : AH) (hc : H c = some (.row (iS .i64 A) v)) :
    ACall Try.prog 61 [.sl c v 1 0 A.length lim, .fn (.func f) [] [.cp C]] H (fun y H' => y = .int .i64 k ∧ H' = H) := by
  have hl : (iS .i64 A).length = A.length := by simp
  refine ACall_of tt_ok (dok _) Try.func61 rfl (by decide) rfl ?_
  (repeat' ((conv => whnf); first | refine Then.mk ?_ | refine OpsA.cons ?_ | refine OpsA.nil ?_ | refine AWq.seq ?_ | refine AWq.region ?_ | refine AWq.cond ?_ | refine AWq.block ?_ | refine AWq.skip ?_ | refine AWq.ret ?_ | refine AWq.loop ?_ | (refine Both.mk ?_ ?_ <;> intro hc <;> (first | exact Bool.noConfusion hc | (exfalso; omega) | skip)) | (intro c hc; (try (simp only [AH.none_iff] at hc; repeat (have hn := hc.1; replace hc := hc.2))); (first | (refine i64_k hc ?_ ?_ ?_ ; omega; omega; (clear hc; intro hc; subst hc)) | skip)) | (apply Exists.intro; apply And.intro; (first | (focus (repeat (first | (with_reducible assumption))); done))) | (apply Exists.intro; apply And.intro; first | (with_reducible assumption) | ((try simp only [List.getElem?_drop, Nat.mul_one, Nat.add_zero, Nat.zero_add]); first | (with_reducible assumption) | rfl)) | (apply And.intro; (first | rfl | (with_reducible assumption) | omega)))) <;> (try (conv => whnf))
  refine AWp_loop (σ := Nat) (4 :: 5 :: 8 :: 9 :: 10 :: 11 :: 12 :: 13 :: 14 :: 15 :: 16 :: 17 :: 18 :: []) (fun i => [(8, .int .i64 i)]) (fun _ => H) (fun i => i ≤ k) (fun i => k - i) 0 rfl (Nat.zero_le _) ⟨rfl, trivial⟩ (HLe.refl _) ?_
  intro i hi
  refine AWp.of tt_ok (dok _) rfl ?_
  dsimp only at hi ⊢
  have g : (iS .i64 A)[(i : Int).toNat]? = some (.int .i64 (A.getD i 0)) := iS_get (by omega)
  have h1 := hf _ (getD_in (show i < A.length by omega))
  by_cases hit : i < k
  · rw [hp i hit] at h1
    generalize A.getD i 0 = x at *
    (repeat' ((conv => whnf); first | refine Then.mk ?_ | refine OpsA.cons ?_ | refine OpsA.nil ?_ | refine AWq.seq ?_ | refine AWq.region ?_ | refine AWq.cond ?_ | refine AWq.block ?_ | refine AWq.skip ?_ | refine AWq.ret ?_ | refine AWq.loop ?_ | (refine Both.mk ?_ ?_ <;> intro hc <;> (first | exact Bool.noConfusion hc | (exfalso; omega) | skip)) | (intro c hc; (try (simp only [AH.none_iff] at hc; repeat (have hn := hc.1; replace hc := hc.2))); (first | (refine i64_k hc ?_ ?_ ?_ ; omega; omega; (clear hc; intro hc; subst hc)) | skip)) | (apply Exists.intro; apply And.intro; (first | (focus (repeat (first | (with_reducible assumption))); done))) | (apply Exists.intro; apply And.intro; first | (with_reducible assumption) | ((try simp only [List.getElem?_drop, Nat.mul_one, Nat.add_zero, Nat.zero_add]); first | (with_reducible assumption) | rfl)) | (apply And.intro; (first | rfl | (with_reducible assumption) | omega)) | (refine ACall.to (h1 _) ?_))) <;> (try (conv => whnf))
    exact ⟨i + 1, hit, show k - (i + 1) < k - i by omega, ⟨congrArg (AV.int .i64) (by omega), trivial⟩, HLe.refl _⟩
  · have hie : i = k := by omega
    subst hie
    rw [hpk] at h1
    generalize A.getD i 0 = x at *
    (repeat' ((conv => whnf); first | refine Then.mk ?_ | refine OpsA.cons ?_ | refine OpsA.nil ?_ | refine AWq.seq ?_ | refine AWq.region ?_ | refine AWq.cond ?_ | refine AWq.block ?_ | refine AWq.skip ?_ | refine AWq.ret ?_ | refine AWq.loop ?_ | (refine Both.mk ?_ ?_ <;> intro hc <;> (first | exact Bool.noConfusion hc | (exfalso; omega) | skip)) | (intro c hc; (try (simp only [AH.none_iff] at hc; repeat (have hn := hc.1; replace hc := hc.2))); (first | (refine i64_k hc ?_ ?_ ?_ ; omega; omega; (clear hc; intro hc; subst hc)) | skip)) | (apply Exists.intro; apply And.intro; (first | (focus (repeat (first | (with_reducible assumption))); done))) | (apply Exists.intro; apply And.intro; first | (with_reducible assumption) | ((try simp only [List.getElem?_drop, Nat.mul_one, Nat.add_zero, Nat.zero_add]); first | (with_reducible assumption) | rfl)) | (apply And.intro; (first | rfl | (with_reducible assumption) | omega)) | (refine ACall.to (h1 _) ?_))) <;> (try (conv => whnf))
theorem first_some (q : Nat → Bool) : ∀ n : Nat, (∀ i, i < n → q i = false) ∨ ∃ k, k < n ∧ q k = true ∧ ∀ i, i < k → q i = false
  | 0 => .inl fun i hi => absurd hi (Nat.not_lt_zero i)
  | n + 1 => by
    rcases first_some q n with h | ⟨k, h1, h2, h3⟩
    · by_cases hq : q n = true
      · exact .inr ⟨n, Nat.lt_succ_self n, hq, h⟩
      · refine .inl fun i hi => ?_
        by_cases e : i = n
        · rw [e]; exact Bool.eq_false_iff.2 hq
        · exact h i (by omega)
    · exact .inr ⟨k, Nat.lt_succ_of_lt h1, h2, h3⟩
/-- What is left, and the cells while DeleteFunc works. -/
def keep (p : Int → Bool) (A : List Int) : List Int := A.filter (fun x => !p x)
theorem keep_len (p : Int → Bool) (A : List Int) : (keep p A).length ≤ A.length := List.length_filter_le _ _
theorem keep_take (p : Int → Bool) (A : List Int) {j : Nat} (hj : j < A.length) : keep p (A.take (j + 1)) = keep p (A.take j) ++ (if p (A.getD j 0) then [] else [A.getD j 0]) := by
  have e : A.take (j + 1) = A.take j ++ [A.getD j 0] := by
    rw [List.take_add_one, List.getD_eq_getElem?_getD, List.getElem?_eq_getElem hj]; rfl
  unfold keep
  rw [e, List.filter_append]
  generalize A.getD j 0 = x
  cases h : p x <;> simp [h]
theorem keep_none {p : Int → Bool} {A : List Int} (h : ∀ i, i < A.length → p (A.getD i 0) = false) : keep p A = A := by
  unfold keep
  rw [List.filter_eq_self]
  intro x hx
  obtain ⟨i, hi, rfl⟩ := List.getElem_of_mem hx
  have := h i hi
  rw [List.getD_eq_getElem?_getD, List.getElem?_eq_getElem hi] at this
  simpa using this
def midL (p : Int → Bool) (A : List Int) (j : Nat) : List Int := keep p (A.take j) ++ A.drop (keep p (A.take j)).length
theorem midL_len {p : Int → Bool} {A : List Int} {j : Nat} (hj : j ≤ A.length) : (midL p A j).length = A.length := by
  have := keep_len p (A.take j)
  rw [List.length_take] at this
  unfold midL; rw [List.length_append, List.length_drop]; omega
theorem midL_at {p : Int → Bool} {A : List Int} {j : Nat} (hj : j < A.length) : (midL p A j).getD j 0 = A.getD j 0 := by
  have := keep_len p (A.take j)
  rw [List.length_take] at this
  unfold midL
  rw [List.getD_eq_getElem?_getD, List.getElem?_append_right (by omega), List.getElem?_drop, List.getD_eq_getElem?_getD]
  congr 2; omega
theorem midL_put {p : Int → Bool} {A : List Int} {j : Nat} (hj : j < A.length) (h : p (A.getD j 0) = false) : (midL p A j).set (keep p (A.take j)).length (A.getD j 0) = midL p A (j + 1) := by
  have hl := keep_len p (A.take j)
  rw [List.length_take] at hl
  unfold midL
  rw [keep_take p A hj, h, if_neg Bool.false_ne_true]
  generalize keep p (A.take j) = F at *
  rw [List.set_append, if_neg (Nat.lt_irrefl _), Nat.sub_self, List.length_append]
  have hd := List.drop_eq_getElem_cons (show F.length < A.length by omega)
  generalize A.getD j 0 = x at *
  rw [hd]
  show F ++ x :: A.drop (F.length + 1) = (F ++ [x]) ++ A.drop (F.length + 1)
  rw [List.append_assoc]; rfl
theorem midL_skip {p : Int → Bool} {A : List Int} {j : Nat} (hj : j < A.length) (h : p (A.getD j 0) = true) : midL p A (j + 1) = midL p A j ∧ keep p (A.take (j + 1)) = keep p (A.take j) := by
  have e : keep p (A.take (j + 1)) = keep p (A.take j) := by rw [keep_take p A hj, h]; simp
  exact ⟨by unfold midL; rw [e], e⟩
theorem zeros_rep (k : Nat) : (List.replicate k [AV.int .i64 0]).flatten = iS .i64 (List.replicate k 0) := by
  induction k with
  | zero => rfl
  | succ k ih => rw [List.replicate_succ, List.flatten_cons, ih]; rfl
theorem clear_row {A F : List Int} (h : F.length ≤ A.length) : wrA (iS .i64 (F ++ A.drop F.length)) F.length (iS .i64 (List.replicate (A.length - F.length) 0)) = iS .i64 (F ++ List.replicate (A.length - F.length) 0) := by
  unfold wrA iS
  rw [List.map_append, List.map_append, List.take_append_of_le_length (by simp), List.take_of_length_le (by simp), List.drop_of_length_le (by simp), List.append_nil]
set_option maxHeartbeats 8000000 in
set_option maxRecDepth 8000 in
theorem delete_c (f : FuncId) (C : List AV) (p : Int → Bool) (A : List Int) (hA : A.length ≤ 1000) (hf : Pred f C p A) (c v : Nat) (H : AH) (hc : H c = some (.row (iS .i64 A) v)) :
    ACall Try.prog 54 [.sl c v 1 0 A.length none, .fn (.func f) [] [.cp C]] H (fun y H' => ∃ lim, y = .sl c v 1 0 (keep p A).length lim ∧ H' = H.set c (.row (iS .i64 (keep p A ++ List.replicate (A.length - (keep p A).length) 0)) v)) := by
  have hl : (iS .i64 A).length = A.length := by simp
  by_cases hn : ∀ i, i < A.length → p (A.getD i 0) = false
  · have hi := fun H h => index_none f C p A hA hf hn c v none H h
    have e0 : H = H.set c (.row (iS .i64 A) v) := (AH.set_id hc).symm
    rw [keep_none hn, Nat.sub_self, List.replicate_zero, List.append_nil]
    refine ACall_of tt_ok (dok _) Try.func54 rfl (by decide) rfl ?_
    (repeat' ((conv => whnf); first | refine Then.mk ?_ | refine OpsA.cons ?_ | refine OpsA.nil ?_ | refine AWq.seq ?_ | refine AWq.region ?_ | refine AWq.cond ?_ | refine AWq.block ?_ | refine AWq.skip ?_ | refine AWq.ret ?_ | refine AWq.exit ?_ | refine AWq.loop ?_ | (refine Both.mk ?_ ?_ <;> intro hc <;> (first | exact Bool.noConfusion hc | exact absurd (by with_reducible rfl) hc | (exfalso; omega) | skip)) | (intro c hc; (try (simp only [AH.none_iff] at hc; repeat (have hn := hc.1; replace hc := hc.2))); (first | (refine i64_k hc ?_ ?_ ?_ ; omega; omega; (clear hc; intro hc; subst hc)) | skip)) | (apply Exists.intro; apply And.intro; (first | (focus (repeat (first | (with_reducible assumption))); done))) | (apply Exists.intro; apply And.intro; first | (with_reducible assumption) | ((try simp only [List.getElem?_drop, Nat.mul_one, Nat.add_zero, Nat.zero_add]); first | (with_reducible assumption) | rfl)) | (apply And.intro; (first | rfl | (with_reducible assumption) | omega | (simp <;> omega))) | (refine ACall.to (hi _ (by assumption)) ?_))) <;> (try (conv => whnf))
    exact e0
  · obtain ⟨k, hk, hpk, hpb⟩ : ∃ k, k < A.length ∧ p (A.getD k 0) = true ∧ ∀ i, i < k → p (A.getD i 0) = false := (first_some (fun i => p (A.getD i 0)) A.length).resolve_left hn
    have hi := fun H h => index_some f C p A hA hf k hk hpk hpb c v none H h
    have hkt : keep p (A.take k) = A.take k := keep_none fun i hi => by
      rw [List.length_take] at hi
      rw [List.getD_eq_getElem?_getD, List.getElem?_take_of_lt (by omega), ← List.getD_eq_getElem?_getD]
      exact hpb i (by omega)
    have hk1 := midL_skip hk hpk
    have hkl : (keep p (A.take (k + 1))).length = k := by rw [hk1.2, hkt, List.length_take]; omega
    have hm1 : midL p A (k + 1) = A := by
      rw [hk1.1]; unfold midL; rw [hkt, List.length_take, show min k A.length = k by omega, List.take_append_drop]
    have e0 : H.set c (.row (iS .i64 (midL p A (k + 1))) v) = H := by rw [hm1]; exact AH.set_id hc
    refine ACall_of tt_ok (dok _) Try.func54 rfl (by decide) rfl ?_
    (repeat' ((conv => whnf); first | refine Then.mk ?_ | refine OpsA.cons ?_ | refine OpsA.nil ?_ | refine AWq.seq ?_ | refine AWq.region ?_ | refine AWq.cond ?_ | refine AWq.block ?_ | refine AWq.skip ?_ | refine AWq.ret ?_ | refine AWq.exit ?_ | refine AWq.loop ?_ | (refine Both.mk ?_ ?_ <;> intro hc <;> (first | exact Bool.noConfusion hc | exact absurd (by with_reducible rfl) hc | (exfalso; omega) | skip)) | (intro c hc; (try (simp only [AH.none_iff] at hc; repeat (have hn := hc.1; replace hc := hc.2))); (first | (refine i64_k hc ?_ ?_ ?_ ; omega; omega; (clear hc; intro hc; subst hc)) | skip)) | (apply Exists.intro; apply And.intro; (first | (focus (repeat (first | (with_reducible assumption))); done))) | (apply Exists.intro; apply And.intro; first | (with_reducible assumption) | ((try simp only [List.getElem?_drop, Nat.mul_one, Nat.add_zero, Nat.zero_add]); first | (with_reducible assumption) | rfl)) | (apply And.intro; (first | rfl | (with_reducible assumption) | omega | (simp <;> omega))) | (refine ACall.to (hi _ (by assumption)) ?_))) <;> (try (conv => whnf))
    refine AWp_loop (σ := Nat) (5 :: 6 :: 7 :: 16 :: 17 :: 18 :: 19 :: 20 :: 21 :: 22 :: 23 :: 24 :: 25 :: 26 :: 27 :: 28 :: 29 :: 30 :: 31 :: 32 :: 33 :: 34 :: 35 :: []) (fun j => [(6, .int .i64 j), (5, .int .i64 (keep p (A.take j)).length)]) (fun j => H.set c (.row (iS .i64 (midL p A j)) v)) (fun j => j ≤ A.length) (fun j => A.length - j) (k + 1) rfl hk ⟨congrArg (AV.int .i64) (by omega), by rw [hkl]; rfl, trivial⟩ (HLe.of_eq e0) ?_
    intro j hj
    refine AWp.of tt_ok (dok _) rfl ?_
    dsimp only at hj ⊢
    have gc := AH.set_same H c (.row (iS .i64 (midL p A j)) v)
    have hml : (iS .i64 (midL p A j)).length = A.length := by rw [iS_length]; exact midL_len hj
    have hkj := keep_len p (A.take j)
    rw [List.length_take] at hkj
    by_cases hjt : j < A.length
    · have g : (iS .i64 (midL p A j))[(j : Int).toNat]? = some (.int .i64 (A.getD j 0)) := by rw [← midL_at (p := p) hjt]; exact iS_get (by rw [midL_len hj]; exact hjt)
      have h1 := hf _ (getD_in hjt)
      cases hp : p (A.getD j 0) with
      | true =>
        rw [hp] at h1
        obtain ⟨s1, s2⟩ := midL_skip hjt hp
        generalize A.getD j 0 = x at *
        (repeat' ((conv => whnf); first | refine Then.mk ?_ | refine OpsA.cons ?_ | refine OpsA.nil ?_ | refine AWq.seq ?_ | refine AWq.region ?_ | refine AWq.cond ?_ | refine AWq.block ?_ | refine AWq.skip ?_ | refine AWq.ret ?_ | refine AWq.exit ?_ | refine AWq.loop ?_ | (refine Both.mk ?_ ?_ <;> intro hc <;> (first | exact Bool.noConfusion hc | exact absurd (by with_reducible rfl) hc | (exfalso; omega) | skip)) | (intro c hc; (try (simp only [AH.none_iff] at hc; repeat (have hn := hc.1; replace hc := hc.2))); (first | (refine i64_k hc ?_ ?_ ?_ ; omega; omega; (clear hc; intro hc; subst hc)) | skip)) | (apply Exists.intro; apply And.intro; (first | (focus (repeat (first | (with_reducible assumption))); done))) | (apply Exists.intro; apply And.intro; first | (with_reducible assumption) | ((try simp only [List.getElem?_drop, Nat.mul_one, Nat.add_zero, Nat.zero_add]); first | (with_reducible assumption) | rfl)) | (apply And.intro; (first | rfl | (with_reducible assumption) | omega | (simp <;> omega))) | (refine ACall.to (h1 _) ?_))) <;> (try (conv => whnf))
        exact ⟨j + 1, hjt, show A.length - (j + 1) < A.length - j by omega, ⟨congrArg (AV.int .i64) (by omega), by rw [s2]; rfl, trivial⟩, HLe.of_eq (by rw [s1])⟩
      | false =>
        rw [hp] at h1
        have hput := midL_put hjt hp
        have hkk := keep_take p A hjt
        rw [hp, if_neg Bool.false_ne_true] at hkk
        have hwr : wrA (iS .i64 (midL p A j)) (0 + ((keep p (A.take j)).length : Int).toNat * 1) [.int .i64 (A.getD j 0)] = iS .i64 (midL p A (j + 1)) := by
          rw [show 0 + ((keep p (A.take j)).length : Int).toNat * 1 = (keep p (A.take j)).length by omega, iS_wr1 (by rw [midL_len hj]; omega), hput]
        have hkl2 : (keep p (A.take (j + 1))).length = (keep p (A.take j)).length + 1 := by rw [hkk, List.length_append]; rfl
        generalize A.getD j 0 = x at *
        generalize hR1 : iS .i64 (midL p A j) = R1 at *
        generalize hmm : (keep p (A.take j)).length = m at *
        (repeat' ((conv => whnf); first | refine Then.mk ?_ | refine OpsA.cons ?_ | refine OpsA.nil ?_ | refine AWq.seq ?_ | refine AWq.region ?_ | refine AWq.cond ?_ | refine AWq.block ?_ | refine AWq.skip ?_ | refine AWq.ret ?_ | refine AWq.exit ?_ | refine AWq.loop ?_ | (refine Both.mk ?_ ?_ <;> intro hc <;> (first | exact Bool.noConfusion hc | exact absurd (by with_reducible rfl) hc | (exfalso; omega) | skip)) | (intro c hc; (try (simp only [AH.none_iff] at hc; repeat (have hn := hc.1; replace hc := hc.2))); (first | (refine i64_k hc ?_ ?_ ?_ ; omega; omega; (clear hc; intro hc; subst hc)) | skip)) | (apply Exists.intro; apply And.intro; (first | (focus (repeat (first | (with_reducible assumption))); done))) | (apply Exists.intro; apply And.intro; first | (with_reducible assumption) | ((try simp only [List.getElem?_drop, Nat.mul_one, Nat.add_zero, Nat.zero_add]); first | (with_reducible assumption) | rfl)) | (apply And.intro; (first | rfl | (with_reducible assumption) | omega | (simp <;> omega))) | (refine ACall.to (h1 _) ?_))) <;> (try (conv => whnf))
        refine ⟨j + 1, hjt, show A.length - (j + 1) < A.length - j by omega, ⟨congrArg (AV.int .i64) (by omega), by rw [hkl2]; exact congrArg (AV.int .i64) (by omega), trivial⟩, HLe.of_eq ?_⟩
        rw [AH.set_set]
        exact congrArg (fun l => AH.set H c (.row l v)) hwr.symm
    · have hje : j = A.length := by omega
      subst hje
      have hmid : midL p A A.length = keep p A ++ A.drop (keep p A).length := by unfold midL; rw [List.take_length]
      rw [List.take_length] at *
      have hro := clear_row (A := A) (F := keep p A) (by omega)
      rw [← hmid] at hro
      have hz1 : (iS .i64 (List.replicate (A.length - (keep p A).length) 0)).all one = true := one_iS _ _
      have hz2 : (iS .i64 (List.replicate (A.length - (keep p A).length) 0)).length = A.length - (keep p A).length := by simp
      have hzz : (List.replicate (A.length - ((keep p A).length : Int).toNat) [AV.int .i64 0]).flatten = iS .i64 (List.replicate (A.length - (keep p A).length) 0) := by rw [Int.toNat_natCast]; exact zeros_rep _
      generalize hR1 : iS .i64 (midL p A A.length) = R1 at *
      generalize hR2 : iS .i64 (List.replicate (A.length - (keep p A).length) 0) = R2 at *
      generalize hR3 : iS .i64 (keep p A ++ List.replicate (A.length - (keep p A).length) 0) = R3 at *
      generalize hm : (keep p A).length = m at *
      (repeat' ((conv => whnf); first | refine Then.mk ?_ | refine OpsA.cons ?_ | refine OpsA.nil ?_ | refine AWq.seq ?_ | refine AWq.region ?_ | refine AWq.cond ?_ | refine AWq.block ?_ | refine AWq.skip ?_ | refine AWq.ret ?_ | refine AWq.exit ?_ | refine AWq.loop ?_ | (refine Both.mk ?_ ?_ <;> intro hc <;> (first | exact Bool.noConfusion hc | exact absurd (by with_reducible rfl) hc | (exfalso; omega) | skip)) | (intro c hc; (try (simp only [AH.none_iff] at hc; repeat (have hn := hc.1; replace hc := hc.2))); (first | (refine i64_k hc ?_ ?_ ?_ ; omega; omega; (clear hc; intro hc; subst hc)) | skip)) | (apply Exists.intro; apply And.intro; (first | (focus (repeat (first | (with_reducible assumption))); done))) | (apply Exists.intro; apply And.intro; first | (with_reducible assumption) | ((try simp only [List.getElem?_drop, Nat.mul_one, Nat.add_zero, Nat.zero_add]); first | (with_reducible assumption) | rfl)) | (apply And.intro; (first | rfl | (with_reducible assumption) | omega | (simp <;> omega))))) <;> (try (conv => whnf))
      rw [hzz]
      (repeat' ((conv => whnf); first | refine Then.mk ?_ | refine OpsA.cons ?_ | refine OpsA.nil ?_ | refine AWq.seq ?_ | refine AWq.region ?_ | refine AWq.cond ?_ | refine AWq.block ?_ | refine AWq.skip ?_ | refine AWq.ret ?_ | refine AWq.exit ?_ | refine AWq.loop ?_ | (refine Both.mk ?_ ?_ <;> intro hc <;> (first | exact Bool.noConfusion hc | exact absurd (by with_reducible rfl) hc | (exfalso; omega) | skip)) | (intro c hc; (try (simp only [AH.none_iff] at hc; repeat (have hn := hc.1; replace hc := hc.2))); (first | (refine i64_k hc ?_ ?_ ?_ ; omega; omega; (clear hc; intro hc; subst hc)) | skip)) | (apply Exists.intro; apply And.intro; (first | (focus (repeat (first | (with_reducible assumption))); done))) | (apply Exists.intro; apply And.intro; first | (with_reducible assumption) | ((try simp only [List.getElem?_drop, Nat.mul_one, Nat.add_zero, Nat.zero_add]); first | (with_reducible assumption) | rfl)) | (apply And.intro; (first | rfl | (with_reducible assumption) | omega | (simp <;> omega))))) <;> (try (conv => whnf))
      rw [AH.set_set, show 0 + (m : Int).toNat * 1 = m by omega, hro]
end Go.Proofs.Ytghielfbdpkhmaa
/- slices.MinFunc over whole numbers; the functions of Shrink. -/
namespace Go.Proofs.Ytghielfbdpkhmaa
open Go.Fw Go
set_option linter.unusedVariables false
set_option linter.unusedSimpArgs false

/-- The first element with the least value of g, among the first k + 1. -/
def leastF (g : Int → Int) (A : List Int) : Nat → Int
  | 0 => A.getD 0 0
  | k + 1 => if g (A.getD (k + 1) 0) < g (leastF g A k) then A.getD (k + 1) 0 else leastF g A k
theorem leastF_mem (g : Int → Int) (A : List Int) : ∀ k, k < A.length → leastF g A k ∈ A
  | 0, h => getD_in h
  | k + 1, h => by
    unfold leastF
    split
    · exact getD_in h
    · exact leastF_mem g A k (by omega)
theorem leastF_le (g : Int → Int) (A : List Int) : ∀ k j, j ≤ k → g (leastF g A k) ≤ g (A.getD j 0)
  | 0, j, h => by rw [show j = 0 by omega]; exact Int.le_refl _
  | k + 1, j, h => by
    unfold leastF
    split
    · rename_i hlt
      by_cases e : j = k + 1
      · rw [e]; exact Int.le_refl _
      · have := leastF_le g A k j (by omega); omega
    · rename_i hlt
      by_cases e : j = k + 1
      · rw [e]; omega
      · exact leastF_le g A k j (by omega)
/-- A function value that compares by g. -/
def Cmp (f : FuncId) (C : List AV) (g : Int → Int) (A : List Int) : Prop := ∀ x y, x ∈ A → y ∈ A → ∀ H, ACall Try.prog f [.int .i64 x, .int .i64 y, .cp C] H (fun z H' => z = .int .i64 (g x - g y) ∧ H' = H)
set_option maxHeartbeats 4000000 in
set_option maxRecDepth 8000 in
theorem min_c (f : FuncId) (C : List AV) (g : Int → Int) (A : List Int) (h0 : 0 < A.length) (hA : A.length ≤ 1000) (hf : Cmp f C g A) (H : AH) :
    ACall Try.prog 56 [.cs (iS .i64 A) A.length, .fn (.func f) [] [.cp C]] H (fun y H' => y = .int .i64 (leastF g A (A.length - 1)) ∧ H' = H) := by
  have hl : (iS .i64 A).length = A.length := by simp
  have g0 : (iS .i64 A)[0]? = some (.int .i64 (A.getD 0 0)) := iS_get h0
  have e0 : leastF g A 0 = A.getD 0 0 := rfl
  rw [← e0] at g0
  refine ACall_of tt_ok (dok _) Try.func56 rfl (by decide) rfl ?_
  (repeat' ((conv => whnf); first | refine Then.mk ?_ | refine OpsA.cons ?_ | refine OpsA.nil ?_ | refine AWq.seq ?_ | refine AWq.region ?_ | refine AWq.cond ?_ | refine AWq.block ?_ | refine AWq.skip ?_ | refine AWq.ret ?_ | refine AWq.exit ?_ | refine AWq.loop ?_ | (refine Both.mk ?_ ?_ <;> intro hc <;> (first | exact Bool.noConfusion hc | (exfalso; omega) | skip)) | (intro c hc; (try (simp only [AH.none_iff] at hc; repeat (have hn := hc.1; replace hc := hc.2))); (first | (refine i64_k hc ?_ ?_ ?_ ; omega; omega; (clear hc; intro hc; subst hc)) | skip)) | (apply Exists.intro; apply And.intro; (first | (focus (repeat (first | assumption)); done))) | (apply Exists.intro; apply And.intro; first | (with_reducible assumption) | ((try simp only [List.getElem?_drop, Nat.mul_one, Nat.add_zero, Nat.zero_add]); first | (with_reducible assumption) | assumption | rfl)) | (apply And.intro; (first | rfl | (with_reducible assumption) | exact Nat.le_of_ble_eq_true rfl | omega | assumption)))) <;> (try (conv => whnf))
  refine AWp_loop (σ := Nat) (5 :: 6 :: 14 :: 15 :: 16 :: 17 :: 18 :: 19 :: 20 :: 21 :: 22 :: 23 :: 24 :: 25 :: 26 :: 27 :: 28 :: 29 :: 30 :: 31 :: []) (fun i => [(6, .int .i64 (i + 1 : Nat)), (5, .int .i64 (leastF g A i))]) (fun _ => H) (fun i => i < A.length) (fun i => A.length - i) 0 rfl h0 ⟨rfl, rfl, trivial⟩ (HLe.refl _) ?_
  intro i hi
  refine AWp.of tt_ok (dok _) rfl ?_
  dsimp only at hi ⊢
  by_cases hit : i + 1 < A.length
  · have gi : (iS .i64 A)[((i + 1 : Nat) : Int).toNat]? = some (.int .i64 (A.getD (i + 1) 0)) := iS_get hit
    have h1 := hf _ _ (getD_in hit) (leastF_mem g A i hi)
    have hs : leastF g A (i + 1) = if g (A.getD (i + 1) 0) < g (leastF g A i) then A.getD (i + 1) 0 else leastF g A i := rfl
    generalize hn1 : i + 1 = n1 at *
    generalize A.getD n1 0 = x at *
    generalize leastF g A i = y at *
    by_cases hc1 : g x < g y
    · rw [if_pos hc1] at hs
      (repeat' ((conv => whnf); first | refine Then.mk ?_ | refine OpsA.cons ?_ | refine OpsA.nil ?_ | refine AWq.seq ?_ | refine AWq.region ?_ | refine AWq.cond ?_ | refine AWq.block ?_ | refine AWq.skip ?_ | refine AWq.ret ?_ | refine AWq.exit ?_ | refine AWq.loop ?_ | (refine Both.mk ?_ ?_ <;> intro hc <;> (first | exact Bool.noConfusion hc | (exfalso; omega) | skip)) | (intro c hc; (try (simp only [AH.none_iff] at hc; repeat (have hn := hc.1; replace hc := hc.2))); (first | (refine i64_k hc ?_ ?_ ?_ ; omega; omega; (clear hc; intro hc; subst hc)) | skip)) | (apply Exists.intro; apply And.intro; (first | (focus (repeat (first | assumption)); done))) | (apply Exists.intro; apply And.intro; first | (with_reducible assumption) | ((try simp only [List.getElem?_drop, Nat.mul_one, Nat.add_zero, Nat.zero_add]); first | (with_reducible assumption) | assumption | rfl)) | (apply And.intro; (first | rfl | (with_reducible assumption) | exact Nat.le_of_ble_eq_true rfl | omega | assumption)) | (refine ACall.to (h1 _) ?_))) <;> (try (conv => whnf))
      exact ⟨n1, hit, by omega, ⟨congrArg (AV.int .i64) (by omega), by rw [hs]; rfl, trivial⟩, HLe.refl _⟩
    · rw [if_neg hc1] at hs
      (repeat' ((conv => whnf); first | refine Then.mk ?_ | refine OpsA.cons ?_ | refine OpsA.nil ?_ | refine AWq.seq ?_ | refine AWq.region ?_ | refine AWq.cond ?_ | refine AWq.block ?_ | refine AWq.skip ?_ | refine AWq.ret ?_ | refine AWq.exit ?_ | refine AWq.loop ?_ | (refine Both.mk ?_ ?_ <;> intro hc <;> (first | exact Bool.noConfusion hc | (exfalso; omega) | skip)) | (intro c hc; (try (simp only [AH.none_iff] at hc; repeat (have hn := hc.1; replace hc := hc.2))); (first | (refine i64_k hc ?_ ?_ ?_ ; omega; omega; (clear hc; intro hc; subst hc)) | skip)) | (apply Exists.intro; apply And.intro; (first | (focus (repeat (first | assumption)); done))) | (apply Exists.intro; apply And.intro; first | (with_reducible assumption) | ((try simp only [List.getElem?_drop, Nat.mul_one, Nat.add_zero, Nat.zero_add]); first | (with_reducible assumption) | assumption | rfl)) | (apply And.intro; (first | rfl | (with_reducible assumption) | exact Nat.le_of_ble_eq_true rfl | omega | assumption)) | (refine ACall.to (h1 _) ?_))) <;> (try (conv => whnf))
      exact ⟨n1, hit, by omega, ⟨congrArg (AV.int .i64) (by omega), by rw [hs]; rfl, trivial⟩, HLe.refl _⟩
  · have hie : i = A.length - 1 := by omega
    rw [← hie]
    (repeat' ((conv => whnf); first | refine Then.mk ?_ | refine OpsA.cons ?_ | refine OpsA.nil ?_ | refine AWq.seq ?_ | refine AWq.region ?_ | refine AWq.cond ?_ | refine AWq.block ?_ | refine AWq.skip ?_ | refine AWq.ret ?_ | refine AWq.exit ?_ | refine AWq.loop ?_ | (refine Both.mk ?_ ?_ <;> intro hc <;> (first | exact Bool.noConfusion hc | (exfalso; omega) | skip)) | (intro c hc; (try (simp only [AH.none_iff] at hc; repeat (have hn := hc.1; replace hc := hc.2))); (first | (refine i64_k hc ?_ ?_ ?_ ; omega; omega; (clear hc; intro hc; subst hc)) | skip)) | (apply Exists.intro; apply And.intro; (first | (focus (repeat (first | assumption)); done))) | (apply Exists.intro; apply And.intro; first | (with_reducible assumption) | ((try simp only [List.getElem?_drop, Nat.mul_one, Nat.add_zero, Nat.zero_add]); first | (with_reducible assumption) | assumption | rfl)) | (apply And.intro; (first | rfl | (with_reducible assumption) | exact Nat.le_of_ble_eq_true rfl | omega | assumption)))) <;> (try (conv => whnf))
/-- The functions of Shrink, over a tile that nobody writes to. -/
def tC (b : Int) (L P : List Int) : List AV := [.int .i64 b, .cs (iS .i64 L) L.length, .cs (iS .i64 P) P.length]
set_option maxRecDepth 8000 in
theorem shr1_c (b : Int) (L P : List Int) (A : List Int) (hA : ∀ x, x ∈ A → 0 ≤ x ∧ x < L.length) (hL : L.length ≤ 1000000) : Pred 55 (tC b L P) (fun x => decide (L.getD x.toNat 0 < 0)) A := fun x hx H => by
  obtain ⟨h1, h2⟩ := hA x hx
  have g : (iS .i64 L)[x.toNat]? = some (.int .i64 (L.getD x.toNat 0)) := iS_get (by omega)
  have hl : (iS .i64 L).length = L.length := by simp
  unfold tC
  show ACall _ _ _ _ (fun y H' => y = .bool (decide (L.getD x.toNat 0 < 0)) ∧ H' = H)
  generalize L.getD x.toNat 0 = z at *
  by_cases hz : z < 0
  · rw [decide_eq_true hz]
    refine ACall_of tt_ok (dok _) Try.func55 rfl (by decide) rfl ?_
    (repeat' ((conv => whnf); first | refine Then.mk ?_ | refine OpsA.cons ?_ | refine OpsA.nil ?_ | refine AWq.seq ?_ | refine AWq.region ?_ | refine AWq.ret ?_ | (refine Both.mk ?_ ?_ <;> intro hc <;> (first | exact absurd (by assumption) hc | exact absurd hc (by assumption) | skip)) | (apply Exists.intro; apply And.intro; first | (with_reducible assumption) | ((try simp only [List.getElem?_drop, Nat.mul_one, Nat.add_zero, Nat.zero_add]); first | (with_reducible assumption) | rfl)) | (apply And.intro; (first | rfl | (with_reducible assumption) | exact Nat.le_of_ble_eq_true rfl | omega)))) <;> (try (conv => whnf))
  · rw [decide_eq_false hz]
    refine ACall_of tt_ok (dok _) Try.func55 rfl (by decide) rfl ?_
    (repeat' ((conv => whnf); first | refine Then.mk ?_ | refine OpsA.cons ?_ | refine OpsA.nil ?_ | refine AWq.seq ?_ | refine AWq.region ?_ | refine AWq.ret ?_ | (refine Both.mk ?_ ?_ <;> intro hc <;> (first | exact absurd (by assumption) hc | exact absurd hc (by assumption) | skip)) | (apply Exists.intro; apply And.intro; first | (with_reducible assumption) | ((try simp only [List.getElem?_drop, Nat.mul_one, Nat.add_zero, Nat.zero_add]); first | (with_reducible assumption) | rfl)) | (apply And.intro; (first | rfl | (with_reducible assumption) | exact Nat.le_of_ble_eq_true rfl | omega)))) <;> (try (conv => whnf))
set_option maxRecDepth 8000 in
theorem shr2_c (b : Int) (L P : List Int) (A : List Int) (hA : ∀ x, x ∈ A → 0 ≤ x ∧ x < L.length) (hB : ∀ x, x ∈ A → 0 ≤ L.getD x.toNat 0 ∧ L.getD x.toNat 0 ≤ 4095) (hL : L.length ≤ 1000000) : Cmp 57 (tC b L P) (fun x => L.getD x.toNat 0) A := fun x y hx hy H => by
  obtain ⟨h1, h2⟩ := hA x hx
  obtain ⟨h3, h4⟩ := hA y hy
  obtain ⟨b1, b2⟩ := hB x hx
  obtain ⟨b3, b4⟩ := hB y hy
  have g : (iS .i64 L)[x.toNat]? = some (.int .i64 (L.getD x.toNat 0)) := iS_get (by omega)
  have g' : (iS .i64 L)[y.toNat]? = some (.int .i64 (L.getD y.toNat 0)) := iS_get (by omega)
  have hl : (iS .i64 L).length = L.length := by simp
  unfold tC
  show ACall _ _ _ _ (fun w H' => w = .int .i64 (L.getD x.toNat 0 - L.getD y.toNat 0) ∧ H' = H)
  generalize L.getD x.toNat 0 = z at *
  generalize L.getD y.toNat 0 = z' at *
  refine ACall_of tt_ok (dok _) Try.func57 rfl (by decide) rfl ?_
  (repeat' ((conv => whnf); first | refine Then.mk ?_ | refine OpsA.cons ?_ | refine OpsA.nil ?_ | refine AWq.seq ?_ | refine AWq.region ?_ | refine AWq.ret ?_ | refine DrawA.consD ?_ | refine DrawA.nil ?_ | refine AWq.draw (by decide +kernel) ?_ | (intro c hc; (try (simp only [AH.none_iff] at hc; repeat (have hn := hc.1; replace hc := hc.2))); (first | (refine i64_k hc ?_ ?_ ?_ ; omega; omega; (clear hc; intro hc; subst hc)))) | (apply Exists.intro; apply And.intro; first | (with_reducible assumption) | ((try simp only [List.getElem?_drop, Nat.mul_one, Nat.add_zero, Nat.zero_add]); first | (with_reducible assumption) | rfl)) | (apply And.intro; (first | rfl | (with_reducible assumption) | exact Nat.le_of_ble_eq_true rfl | omega)))) <;> (try (conv => whnf))
end Go.Proofs.Ytghielfbdpkhmaa
/- The walks of Mix, the program's and the reference's. -/
namespace Go.Proofs.Ytghielfbdpkhmaa
open Go.Fw Go
set_option linter.unusedVariables false
set_option linter.unusedSimpArgs false

def sumN (f : Nat → Int) : Nat → Int
  | 0 => 0
  | k + 1 => sumN f k + f k
def okW (w v : Int) : Prop := (0 ≤ w ∧ w ≤ 65536) ∧ (-1073741824 ≤ v ∧ v ≤ 1073741824)
instance (w v : Int) : Decidable (okW w v) := by unfold okW; exact inferInstance
def dotA (a b : List Int) (k : Nat) : Int := sumN (fun i => a.getD i 0 * b.getD i 0) k
def allA (a : List Int) (k : Nat) : Int := sumN (fun i => a.getD i 0) k
def okN (a b : List Int) (k : Nat) : Prop := ∀ i, i < k → okW (a.getD i 0) (b.getD i 0)
open Classical in
/-- What Mix returns. -/
noncomputable def mixV (a b : List Int) : Int × Int :=
  if a.length ≠ b.length ∨ 256 < a.length then (0, 1) else if ¬ okN a b a.length then (0, 5) else if allA a a.length = 0 then (0, 9) else ((2 * dotA a b a.length + allA a a.length) / (2 * allA a a.length), 0)
theorem mul_bd {w v : Int} (h : okW w v) : -70368744177664 ≤ w * v ∧ w * v ≤ 70368744177664 := by
  obtain ⟨⟨h1, h2⟩, h3, h4⟩ := h
  have e1 : w * v ≤ w * 1073741824 := Int.mul_le_mul_of_nonneg_left h4 h1
  have e2 : w * (-1073741824) ≤ w * v := Int.mul_le_mul_of_nonneg_left h3 h1
  omega
theorem dot_bd {a b : List Int} : ∀ {k : Nat}, okN a b k → -(70368744177664 * (k : Int)) ≤ dotA a b k ∧ dotA a b k ≤ 70368744177664 * k ∧ 0 ≤ allA a k ∧ allA a k ≤ 65536 * k
  | 0, _ => by simp [dotA, allA, sumN]
  | k + 1, h => by
    obtain ⟨i1, i2, i3, i4⟩ := dot_bd (k := k) fun i hi => h i (by omega)
    have hk := h k (by omega)
    have hm := mul_bd hk
    have e1 : dotA a b (k + 1) = dotA a b k + a.getD k 0 * b.getD k 0 := rfl
    have e2 : allA a (k + 1) = allA a k + a.getD k 0 := rfl
    rw [e1, e2]
    unfold okW at hk
    generalize a.getD k 0 * b.getD k 0 = p at *
    omega
set_option maxHeartbeats 4000000 in
set_option maxRecDepth 8000 in
theorem mix_c (a b : List Int) (ha : a.length ≤ 1000000) (hb : b.length ≤ 1000000) (H : AH) :
    ACall Try.prog 21 [.cs (iS .i64 a) a.length, .cs (iS .i64 b) b.length] H (fun y H' => y = .tup [.int .i64 (mixV a b).1, .int .i64 (mixV a b).2] ∧ H' = H) := by
  unfold mixV
  by_cases hl : a.length ≠ b.length ∨ 256 < a.length
  · rw [if_pos hl]
    by_cases h1 : a.length = b.length
    · have h2 : 256 < a.length := by omega
      refine ACall_of tt_ok (dok _) Try.func21 rfl (by decide) rfl ?_
      (repeat' ((conv => whnf); first | refine Then.mk ?_ | refine OpsA.cons ?_ | refine OpsA.nil ?_ | refine AWq.seq ?_ | refine AWq.region ?_ | refine AWq.cond ?_ | refine AWq.block ?_ | refine AWq.skip ?_ | refine AWq.ret ?_ | refine AWq.exit ?_ | refine AWq.loop ?_ | (refine Both.mk ?_ ?_ <;> intro hc <;> (first | exact Bool.noConfusion hc | exact absurd (by assumption) hc | exact absurd hc (by assumption) | (exfalso; omega) | skip)) | (intro c hc; (try (simp only [AH.none_iff] at hc; repeat (have hn := hc.1; replace hc := hc.2))); (first | (have hc2 := Eq.trans hc (by with_reducible assumption); clear hc; subst hc2) | (refine i64_k hc ?_ ?_ ?_ ; omega; omega; (clear hc; intro hc; subst hc)) | skip)) | (apply Exists.intro; apply And.intro; first | (with_reducible assumption) | ((try simp only [List.getElem?_drop, Nat.mul_one, Nat.add_zero, Nat.zero_add]); first | (with_reducible assumption) | rfl)) | (apply And.intro; (first | rfl | (with_reducible assumption) | omega)))) <;> (try (conv => whnf))
    · refine ACall_of tt_ok (dok _) Try.func21 rfl (by decide) rfl ?_
      (repeat' ((conv => whnf); first | refine Then.mk ?_ | refine OpsA.cons ?_ | refine OpsA.nil ?_ | refine AWq.seq ?_ | refine AWq.region ?_ | refine AWq.cond ?_ | refine AWq.block ?_ | refine AWq.skip ?_ | refine AWq.ret ?_ | refine AWq.exit ?_ | refine AWq.loop ?_ | (refine Both.mk ?_ ?_ <;> intro hc <;> (first | exact Bool.noConfusion hc | exact absurd (by assumption) hc | exact absurd hc (by assumption) | (exfalso; omega) | skip)) | (intro c hc; (try (simp only [AH.none_iff] at hc; repeat (have hn := hc.1; replace hc := hc.2))); (first | (have hc2 := Eq.trans hc (by with_reducible assumption); clear hc; subst hc2) | (refine i64_k hc ?_ ?_ ?_ ; omega; omega; (clear hc; intro hc; subst hc)) | skip)) | (apply Exists.intro; apply And.intro; first | (with_reducible assumption) | ((try simp only [List.getElem?_drop, Nat.mul_one, Nat.add_zero, Nat.zero_add]); first | (with_reducible assumption) | rfl)) | (apply And.intro; (first | rfl | (with_reducible assumption) | omega)))) <;> (try (conv => whnf))
  rw [if_neg hl]
  have hal : (iS .i64 a).length = a.length := by simp
  have hbl : (iS .i64 b).length = b.length := by simp
  refine ACall_of tt_ok (dok _) Try.func21 rfl (by decide) rfl ?_
  (repeat' ((conv => whnf); first | refine Then.mk ?_ | refine OpsA.cons ?_ | refine OpsA.nil ?_ | refine AWq.seq ?_ | refine AWq.region ?_ | refine AWq.cond ?_ | refine AWq.block ?_ | refine AWq.skip ?_ | refine AWq.ret ?_ | refine AWq.exit ?_ | refine AWq.loop ?_ | (refine Both.mk ?_ ?_ <;> intro hc <;> (first | exact Bool.noConfusion hc | exact absurd (by assumption) hc | exact absurd hc (by assumption) | (exfalso; omega) | skip)) | (intro c hc; (try (simp only [AH.none_iff] at hc; repeat (have hn := hc.1; replace hc := hc.2))); (first | (have hc2 := Eq.trans hc (by with_reducible assumption); clear hc; subst hc2) | (refine i64_k hc ?_ ?_ ?_ ; omega; omega; (clear hc; intro hc; subst hc)) | skip)) | (apply Exists.intro; apply And.intro; first | (with_reducible assumption) | ((try simp only [List.getElem?_drop, Nat.mul_one, Nat.add_zero, Nat.zero_add]); first | (with_reducible assumption) | rfl)) | (apply And.intro; (first | rfl | (with_reducible assumption) | omega)))) <;> (try (conv => whnf))
  refine AWp_loop (σ := Nat) (4 :: 5 :: 6 :: 7 :: 8 :: 9 :: 22 :: 23 :: 24 :: 25 :: 26 :: 27 :: 28 :: 29 :: 30 :: 31 :: 32 :: 33 :: 34 :: 35 :: 36 :: 37 :: 38 :: 39 :: 40 :: 41 :: 42 :: 43 :: 44 :: 45 :: 46 :: 47 :: 48 :: 49 :: []) (fun i => [(22, .int .i64 i), (6, .int .i64 (dotA a b i)), (7, .int .i64 (allA a i))]) (fun _ => H) (fun i => i ≤ a.length ∧ okN a b i) (fun i => a.length - i) 0 rfl ⟨Nat.zero_le _, fun i hi => absurd hi (by omega)⟩ ⟨rfl, rfl, rfl, trivial⟩ (HLe.refl _) ?_
  rintro i ⟨hi, hin⟩
  refine AWp.of tt_ok (dok _) rfl ?_
  dsimp only at hi ⊢
  obtain ⟨d1, d2, d3, d4⟩ := dot_bd hin
  by_cases hlt : i < a.length
  · have g1 : (iS .i64 a)[(i : Int).toNat]? = some (.int .i64 (a.getD i 0)) := iS_get hlt
    have g2 : (iS .i64 b)[(i : Int).toNat]? = some (.int .i64 (b.getD i 0)) := iS_get (by omega)
    have s1 : dotA a b (i + 1) = dotA a b i + a.getD i 0 * b.getD i 0 := rfl
    have s2 : allA a (i + 1) = allA a i + a.getD i 0 := rfl
    by_cases hok : okW (a.getD i 0) (b.getD i 0)
    · have hin' : okN a b (i + 1) := fun j hj => by
        by_cases e : j = i
        · rw [e]; exact hok
        · exact hin j (by omega)
      have hm := mul_bd hok
      have wm : IntKind.i64.wrap (a.getD i 0 * b.getD i 0) = a.getD i 0 * b.getD i 0 := by rw [IntKind.wrap_i64]; omega
      generalize hD' : dotA a b (i + 1) = D' at *
      generalize hA' : allA a (i + 1) = A' at *
      generalize dotA a b i = D at *
      generalize allA a i = A at *
      generalize hpx : a.getD i 0 * b.getD i 0 = p at *
      unfold okW at hok
      have b1 := fun H => btw_t (a.getD i 0) 0 65536 hok.1 H
      have b2 := fun H => btw_t (b.getD i 0) (-1073741824) 1073741824 hok.2 H
      generalize a.getD i 0 = x at *
      generalize b.getD i 0 = z at *
      have wm2 : IntKind.i64.wrap (x * z) = p := by rw [hpx]; exact wm
      (repeat' ((conv => whnf); first | refine Then.mk ?_ | refine OpsA.cons ?_ | refine OpsA.nil ?_ | refine AWq.seq ?_ | refine AWq.region ?_ | refine AWq.cond ?_ | refine AWq.block ?_ | refine AWq.skip ?_ | refine AWq.ret ?_ | refine AWq.exit ?_ | refine AWq.loop ?_ | (refine Both.mk ?_ ?_ <;> intro hc <;> (first | exact Bool.noConfusion hc | exact absurd (by assumption) hc | exact absurd hc (by assumption) | (exfalso; omega) | skip)) | (intro c hc; (try (simp only [AH.none_iff] at hc; repeat (have hn := hc.1; replace hc := hc.2))); (first | (have hc2 := Eq.trans hc (by with_reducible assumption); clear hc; subst hc2) | (refine i64_k hc ?_ ?_ ?_ ; omega; omega; (clear hc; intro hc; subst hc)) | skip)) | (apply Exists.intro; apply And.intro; first | (with_reducible assumption) | ((try simp only [List.getElem?_drop, Nat.mul_one, Nat.add_zero, Nat.zero_add]); first | (with_reducible assumption) | rfl)) | (apply And.intro; (first | rfl | (with_reducible assumption) | omega)) | (refine ACall.to (b1 _) ?_) | (refine ACall.to (b2 _) ?_))) <;> (try (conv => whnf))
      exact ⟨i + 1, ⟨hlt, hin'⟩, show a.length - (i + 1) < a.length - i by omega, ⟨congrArg (AV.int .i64) (by omega), by rw [hD', s1]; rfl, by rw [hA', s2]; rfl, trivial⟩, HLe.refl _⟩
    · have hbad : ¬ okN a b a.length := fun h => hok (h i hlt)
      rw [if_pos hbad]
      have b1 := fun H => btw_c (a.getD i 0) 0 65536 H
      have b2 := fun H => btw_c (b.getD i 0) (-1073741824) 1073741824 H
      unfold okW at hok
      by_cases h1 : 0 ≤ a.getD i 0 ∧ a.getD i 0 ≤ 65536
      · rw [decide_eq_true h1] at b1
        rw [decide_eq_false (fun h => hok ⟨h1, h⟩)] at b2
        (repeat' ((conv => whnf); first | refine Then.mk ?_ | refine OpsA.cons ?_ | refine OpsA.nil ?_ | refine AWq.seq ?_ | refine AWq.region ?_ | refine AWq.cond ?_ | refine AWq.block ?_ | refine AWq.skip ?_ | refine AWq.ret ?_ | refine AWq.exit ?_ | refine AWq.loop ?_ | (refine Both.mk ?_ ?_ <;> intro hc <;> (first | exact Bool.noConfusion hc | exact absurd (by assumption) hc | exact absurd hc (by assumption) | (exfalso; omega) | skip)) | (intro c hc; (try (simp only [AH.none_iff] at hc; repeat (have hn := hc.1; replace hc := hc.2))); (first | (have hc2 := Eq.trans hc (by with_reducible assumption); clear hc; subst hc2) | (refine i64_k hc ?_ ?_ ?_ ; omega; omega; (clear hc; intro hc; subst hc)) | skip)) | (apply Exists.intro; apply And.intro; first | (with_reducible assumption) | ((try simp only [List.getElem?_drop, Nat.mul_one, Nat.add_zero, Nat.zero_add]); first | (with_reducible assumption) | rfl)) | (apply And.intro; (first | rfl | (with_reducible assumption) | omega)) | (refine ACall.to (b1 _) ?_) | (refine ACall.to (b2 _) ?_))) <;> (try (conv => whnf))
      · rw [decide_eq_false h1] at b1
        (repeat' ((conv => whnf); first | refine Then.mk ?_ | refine OpsA.cons ?_ | refine OpsA.nil ?_ | refine AWq.seq ?_ | refine AWq.region ?_ | refine AWq.cond ?_ | refine AWq.block ?_ | refine AWq.skip ?_ | refine AWq.ret ?_ | refine AWq.exit ?_ | refine AWq.loop ?_ | (refine Both.mk ?_ ?_ <;> intro hc <;> (first | exact Bool.noConfusion hc | exact absurd (by assumption) hc | exact absurd hc (by assumption) | (exfalso; omega) | skip)) | (intro c hc; (try (simp only [AH.none_iff] at hc; repeat (have hn := hc.1; replace hc := hc.2))); (first | (have hc2 := Eq.trans hc (by with_reducible assumption); clear hc; subst hc2) | (refine i64_k hc ?_ ?_ ?_ ; omega; omega; (clear hc; intro hc; subst hc)) | skip)) | (apply Exists.intro; apply And.intro; first | (with_reducible assumption) | ((try simp only [List.getElem?_drop, Nat.mul_one, Nat.add_zero, Nat.zero_add]); first | (with_reducible assumption) | rfl)) | (apply And.intro; (first | rfl | (with_reducible assumption) | omega)) | (refine ACall.to (b1 _) ?_))) <;> (try (conv => whnf))
  · have hie : i = a.length := by omega
    subst hie
    rw [if_neg (fun h => h hin)]
    generalize hD' : dotA a b a.length = D at *
    generalize hA' : allA a a.length = A at *
    by_cases h0 : A = 0
    · rw [if_pos h0]
      (repeat' ((conv => whnf); first | refine Then.mk ?_ | refine OpsA.cons ?_ | refine OpsA.nil ?_ | refine AWq.seq ?_ | refine AWq.region ?_ | refine AWq.cond ?_ | refine AWq.block ?_ | refine AWq.skip ?_ | refine AWq.ret ?_ | refine AWq.exit ?_ | refine AWq.loop ?_ | (refine Both.mk ?_ ?_ <;> intro hc <;> (first | exact Bool.noConfusion hc | exact absurd (by assumption) hc | exact absurd hc (by assumption) | (exfalso; omega) | skip)) | (intro c hc; (try (simp only [AH.none_iff] at hc; repeat (have hn := hc.1; replace hc := hc.2))); (first | (have hc2 := Eq.trans hc (by with_reducible assumption); clear hc; subst hc2) | (refine i64_k hc ?_ ?_ ?_ ; omega; omega; (clear hc; intro hc; subst hc)) | skip)) | (apply Exists.intro; apply And.intro; first | (with_reducible assumption) | ((try simp only [List.getElem?_drop, Nat.mul_one, Nat.add_zero, Nat.zero_add]); first | (with_reducible assumption) | rfl)) | (apply And.intro; (first | rfl | (with_reducible assumption) | omega)))) <;> (try (conv => whnf))
    · rw [if_neg h0]
      have hf := fun H => floor_c (2 * D + A) (2 * A) (by unfold I64; omega) (by omega) H
      (repeat' ((conv => whnf); first | refine Then.mk ?_ | refine OpsA.cons ?_ | refine OpsA.nil ?_ | refine AWq.seq ?_ | refine AWq.region ?_ | refine AWq.cond ?_ | refine AWq.block ?_ | refine AWq.skip ?_ | refine AWq.ret ?_ | refine AWq.exit ?_ | refine AWq.loop ?_ | (refine Both.mk ?_ ?_ <;> intro hc <;> (first | exact Bool.noConfusion hc | exact absurd (by assumption) hc | exact absurd hc (by assumption) | (exfalso; omega) | skip)) | (intro c hc; (try (simp only [AH.none_iff] at hc; repeat (have hn := hc.1; replace hc := hc.2))); (first | (have hc2 := Eq.trans hc (by with_reducible assumption); clear hc; subst hc2) | (refine i64_k hc ?_ ?_ ?_ ; omega; omega; (clear hc; intro hc; subst hc)) | skip)) | (apply Exists.intro; apply And.intro; first | (with_reducible assumption) | ((try simp only [List.getElem?_drop, Nat.mul_one, Nat.add_zero, Nat.zero_add]); first | (with_reducible assumption) | rfl)) | (apply And.intro; (first | rfl | (with_reducible assumption) | omega)) | (refine ACall.to (hf _) ?_))) <;> (try (conv => whnf))
end Go.Proofs.Ytghielfbdpkhmaa
/- What Mix answers, of lists made from functions: between, the order, a shift. -/
namespace Go.Proofs.Ytghielfbdpkhmaa
open Go.Fw Go
set_option linter.unusedVariables false
set_option linter.unusedSimpArgs false

theorem sumN_congr {f g : Nat → Int} : ∀ {k : Nat}, (∀ i, i < k → f i = g i) → sumN f k = sumN g k
  | 0, _ => rfl
  | k + 1, h => by show sumN f k + f k = sumN g k + g k; rw [sumN_congr (fun i hi => h i (by omega)), h k (by omega)]
theorem getD_fnL (f : Nat → Int) {n i : Nat} (h : i < n) : (fnL n f).getD i 0 = f i := by
  rw [List.getD_eq_getElem?_getD, fnL_get f h]; rfl
theorem mix_lo {D A lo : Int} (hA : 0 < A) (h : A * lo ≤ D) : lo ≤ (2 * D + A) / (2 * A) := by
  rw [Int.le_ediv_iff_mul_le (by omega), Int.mul_comm, Int.mul_assoc]
  omega
theorem mix_hi {D A hi : Int} (hA : 0 < A) (h : D ≤ A * hi) : (2 * D + A) / (2 * A) ≤ hi := by
  have : (2 * D + A) / (2 * A) < hi + 1 := by
    rw [Int.ediv_lt_iff_lt_mul (by omega), Int.add_mul, Int.mul_comm hi, Int.mul_assoc]
    omega
  omega
/-- What the law knows of the least and the greatest. -/
structure Btw (f g : Nat → Int) (k : Nat) (lo hi : Int) : Prop where
  nn : 0 ≤ sumN f k
  l : sumN f k * lo ≤ sumN (fun i => f i * g i) k
  h : sumN (fun i => f i * g i) k ≤ sumN f k * hi
theorem Btw.zero (f g : Nat → Int) : Btw f g 0 0 0 := ⟨Int.le_refl _, Int.le_refl _, Int.le_refl _⟩
end Go.Proofs.Ytghielfbdpkhmaa
/- What Shrink answers: of each place the tile, the four pixels, the label, the values. -/
namespace Go.Proofs.Ytghielfbdpkhmaa
open Go.Fw Go
set_option linter.unusedVariables false
set_option linter.unusedSimpArgs false

/-- The place of pixel i of quadrant q. -/
def shAt (q i : Nat) : Nat := (q / 2 * 8 + i / 8) * 16 + q % 2 * 8 + i % 8
def shQ (at' : Nat) : Nat := at' / 128 * 2 + at' % 16 / 8
def shI (at' : Nat) : Nat := at' / 16 % 8 * 8 + at' % 16 % 8
def shF (at' : Nat) : Nat := 2 * (at' / 16 % 8) * 16 + 2 * (at' % 16 % 8)
theorem shAt_lt {q i : Nat} (hq : q < 4) (hi : i < 64) : shAt q i < 256 := by unfold shAt; omega
theorem shQ_at {q i : Nat} (hq : q < 4) (hi : i < 64) : shQ (shAt q i) = q := by unfold shQ shAt; omega
theorem shI_at {q i : Nat} (hq : q < 4) (hi : i < 64) : shI (shAt q i) = i := by unfold shI shAt; omega
theorem shAt_qi {a : Nat} (ha : a < 256) : shAt (shQ a) (shI a) = a := by unfold shAt shQ shI; omega
theorem shF_at {q i : Nat} (hq : q < 4) (hi : i < 64) : shF (shAt q i) = 2 * (i / 8) * 16 + 2 * (i % 8) := by unfold shF shAt; omega
theorem shF_le (a : Nat) : shF a ≤ 238 := by unfold shF; omega
/-- The four pixels below a place. -/
def shA (f : Nat) : List Int := [(f : Int), f + 1, f + 16, f + 17]
theorem shA_in {f : Nat} (hf : f ≤ 238) : ∀ x, x ∈ shA f → 0 ≤ x ∧ x < 256 := fun x hx => by
  unfold shA at hx
  simp only [List.mem_cons, List.not_mem_nil, or_false] at hx
  omega
def lessP (L : List Int) (x : Int) : Bool := decide (L.getD x.toNat 0 < 0)
/-- Those with a label. -/
def frm (L : List Int) (a : Nat) : List Int := keep (lessP L) (shA (shF a))
theorem frm_len (L : List Int) (a : Nat) : (frm L a).length ≤ 4 := keep_len _ _
theorem frm_in (L : List Int) (a : Nat) : ∀ x, x ∈ frm L a → (0 ≤ x ∧ x < 256) ∧ 0 ≤ L.getD x.toNat 0 := fun x hx => by
  unfold frm keep at hx
  rw [List.mem_filter] at hx
  refine ⟨shA_in (shF_le a) x hx.1, ?_⟩
  have := hx.2
  unfold lessP at this
  simp only [Bool.not_eq_true', decide_eq_false_iff_not] at this
  omega
/-- The label. -/
def shL (L : List Int) (a : Nat) : Int := if (frm L a).length = 0 then -1 else L.getD (leastF (fun x => L.getD x.toNat 0) (frm L a) ((frm L a).length - 1)).toNat 0
/-- The sum of the values of band b over the pixels with a label. -/
def shS (n : Nat) (P : List Int) (b : Nat) (F : List Int) (k : Nat) : Int := sumN (fun j => P.getD ((F.getD j 0).toNat * n + b) 0) k
def shP (n : Nat) (L P : List Int) (a b : Nat) : Int :=
  if (frm L a).length = 0 then 0 else (2 * shS n P b (frm L a) (frm L a).length + (frm L a).length) / (2 * (frm L a).length)
end Go.Proofs.Ytghielfbdpkhmaa
/- Counts of labels; the walks of the reference's count. -/
namespace Go.Proofs.Ytghielfbdpkhmaa
open Go.Fw Go
set_option linter.unusedVariables false
set_option linter.unusedSimpArgs false

abbrev Wl := List (Int × Int)
def prA (p : Int × Int) : List AV := [.int .i64 p.1, .int .i64 p.2]
theorem prA_len (p : Int × Int) : (prA p).length = 2 := rfl
def prL (l : Wl) : List AV := fL prA l
@[simp] theorem prL_len (l : Wl) : (prL l).length = l.length * 2 := fL_len prA_len l
theorem prL_snoc (l : Wl) (x : Int × Int) : prL (l ++ [x]) = prL l ++ prA x := (fL_snoc prA l x).symm
/-- A label counted, the keys in rising order. -/
def cntI (x : Int) : Wl → Wl
  | [] => [(x, 1)]
  | p :: l => if p.1 = x then (x, p.2 + 1) :: l else if x < p.1 then (x, 1) :: p :: l else p :: cntI x l
def cnt (x : Int) (l : Wl) : Wl := if x < 0 then l else cntI x l
/-- Keys rise; keys in a range; counts of one or more, up to a bound. -/
structure WOk (m : Int) (l : Wl) : Prop where
  s : l.Pairwise (fun a b => a.1 < b.1)
  c : ∀ p ∈ l, (0 ≤ p.1 ∧ p.1 ≤ 11) ∧ (1 ≤ p.2 ∧ p.2 ≤ m)
theorem WOk.nil {m : Int} : WOk m [] := ⟨List.Pairwise.nil, fun p hp => by simp at hp⟩
theorem cntI_mem {x : Int} : ∀ {l : Wl} {p : Int × Int}, p ∈ cntI x l → p.1 = x ∧ (p.2 = 1 ∨ ∃ q ∈ l, q.1 = x ∧ p.2 = q.2 + 1) ∨ p ∈ l
  | [], p, h => by simp [cntI] at h; exact .inl (by simp [h])
  | q :: l, p, h => by
    unfold cntI at h
    split at h
    · rename_i e
      rcases List.mem_cons.1 h with rfl | h
      · exact .inl ⟨rfl, .inr ⟨q, by simp, e, rfl⟩⟩
      · exact .inr (by simp [h])
    · split at h
      · rcases List.mem_cons.1 h with rfl | h
        · exact .inl ⟨rfl, .inl rfl⟩
        · exact .inr h
      · rcases List.mem_cons.1 h with rfl | h
        · exact .inr (by simp)
        · rcases cntI_mem h with ⟨h1, h2⟩ | h
          · refine .inl ⟨h1, ?_⟩
            rcases h2 with h2 | ⟨q', hq, h2⟩
            · exact .inl h2
            · exact .inr ⟨q', by simp [hq], h2⟩
          · exact .inr (by simp [h])
theorem cntI_ok {x m : Int} (hx : 0 ≤ x ∧ x ≤ 11) (hm : 0 ≤ m) : ∀ {l : Wl}, WOk m l → WOk (m + 1) (cntI x l) := by
  intro l h
  refine ⟨?_, fun p hp => ?_⟩
  · have hs := h.s
    clear h
    induction l with
    | nil => simp [cntI]
    | cons q l ih =>
      rw [List.pairwise_cons] at hs
      unfold cntI
      split
      · rename_i e
        rw [List.pairwise_cons]
        exact ⟨fun p hp => by have := hs.1 p hp; rw [e] at this; exact this, hs.2⟩
      · split
        · rw [List.pairwise_cons, List.pairwise_cons]
          refine ⟨fun p hp => ?_, hs⟩
          rcases List.mem_cons.1 hp with rfl | hp
          · assumption
          · have := hs.1 p hp; show x < p.1; omega
        · rw [List.pairwise_cons]
          refine ⟨fun p hp => ?_, ih hs.2⟩
          rcases cntI_mem hp with ⟨e, _⟩ | hp
          · rw [e]; omega
          · exact hs.1 p hp
  · rcases cntI_mem hp with ⟨h1, h2⟩ | hp
    · rcases h2 with h2 | ⟨q, hq, _, h2⟩
      · omega
      · have := (h.c q hq).2; omega
    · have := h.c p hp; omega
theorem cnt_ok {x m : Int} (hx : x ≤ 11) (hm : 0 ≤ m) {l : Wl} (h : WOk m l) : WOk (m + 1) (cnt x l) := by
  unfold cnt
  split
  · exact ⟨h.s, fun p hp => by have := h.c p hp; omega⟩
  · exact cntI_ok ⟨by omega, hx⟩ hm h
theorem wok_len : ∀ {l : Wl} {a b : Int}, l.Pairwise (fun a b => a.1 < b.1) → (∀ p ∈ l, a ≤ p.1 ∧ p.1 ≤ b) → a ≤ b + 1 → (l.length : Int) ≤ b + 1 - a
  | [], a, b, _, _, h => by simp; omega
  | p :: l, a, b, hs, hp, h => by
    rw [List.pairwise_cons] at hs
    have h1 := hp p (by simp)
    have := wok_len (a := p.1 + 1) (b := b) hs.2 (fun q hq => by have := hs.1 q hq; have := hp q (by simp [hq]); omega) (by omega)
    simp only [List.length_cons]; omega
theorem WOk.len {m : Int} {l : Wl} (h : WOk m l) : l.length ≤ 12 := by
  have := wok_len (a := 0) (b := 11) h.s (fun p hp => (h.c p hp).1) (by decide); omega
end Go.Proofs.Ytghielfbdpkhmaa
/- Windows of labels; the walk of the reference's Weights. -/
namespace Go.Proofs.Ytghielfbdpkhmaa
open Go.Fw Go
set_option linter.unusedVariables false
set_option linter.unusedSimpArgs false

def rowW (L : List Int) (b : Nat) (W : Wl) : Nat → Wl
  | 0 => W
  | n + 1 => cnt (L.getD (b + n) 0) (rowW L b W n)
def winW (L : List Int) (w x0 nx y0 : Nat) : Nat → Wl
  | 0 => []
  | k + 1 => rowW L ((y0 + k) * w + x0) (winW L w x0 nx y0 k) nx
def winV (w h : Nat) (L : List Int) (x y r : Nat) : Wl := winW L w (x - r) (min w (x + r + 1) - (x - r)) (y - r) (min h (y + r + 1) - (y - r))
def LOk (L : List Int) : Prop := L.length ≤ 1000000 ∧ ∀ x ∈ L, -9223372036854775808 ≤ x ∧ x ≤ 11
theorem LOk.at {L : List Int} (h : LOk L) (i : Nat) : L.getD i 0 ≤ 11 := by
  by_cases hi : i < L.length
  · exact (h.2 _ (getD_mem hi)).2
  · rw [List.getD_eq_getElem?_getD, List.getElem?_eq_none (by omega)]; decide
theorem rowW_ok {L : List Int} (h : LOk L) {b : Nat} {m : Int} {W : Wl} (hW : WOk m W) (hm : 0 ≤ m) : ∀ n : Nat, WOk (m + n) (rowW L b W n)
  | 0 => by simpa [rowW] using hW
  | n + 1 => by
    have := cnt_ok (h.at (b + n)) (by omega) (rowW_ok h (b := b) hW hm n)
    rw [show m + ((n + 1 : Nat) : Int) = m + n + 1 by omega]
    exact this
theorem winW_ok {L : List Int} (h : LOk L) {w x0 nx y0 : Nat} : ∀ k : Nat, WOk ((k * nx : Nat) : Int) (winW L w x0 nx y0 k)
  | 0 => WOk.nil
  | k + 1 => by
    have := rowW_ok h (b := (y0 + k) * w + x0) (winW_ok h (w := w) (x0 := x0) (nx := nx) (y0 := y0) k) (by omega) nx
    rw [show (((k + 1) * nx : Nat) : Int) = ((k * nx : Nat) : Int) + nx by rw [Nat.succ_mul]; omega]
    exact this
/-- The arguments are in order; the errors. -/
def wBad (w h : Int) (L : List Int) : Prop := ¬ (1 ≤ w ∧ w ≤ 256) ∨ ¬ (1 ≤ h ∧ h ≤ 256) ∨ (L.length : Int) ≠ w * h
def wOut (w h x y r : Int) : Prop := ¬ (0 ≤ x ∧ x < w) ∨ ¬ (0 ≤ y ∧ y < h) ∨ ¬ (0 ≤ r ∧ r ≤ 4)
instance (w h : Int) (L : List Int) : Decidable (wBad w h L) := by unfold wBad; exact inferInstance
instance (w h x y r : Int) : Decidable (wOut w h x y r) := by unfold wOut; exact inferInstance
def wtV (w h : Int) (L : List Int) (x y r : Int) : Wl × Int :=
  if wBad w h L then ([], 1) else if wOut w h x y r then ([], 5) else (winV w.toNat h.toNat L x.toNat y.toNat r.toNat, 0)
theorem AVle.wErr (e : Int) : AVle (.tup [.nils, .int .i64 e]) (.tup [.cs (prL []) 0, .int .i64 e]) := AVle.tup (AVles.cons AVle.nils (AVles.refl _))
theorem win_in {w h y r k j u : Nat} (hw : 1 ≤ w) (hj : j < h) (hu : u < w) : j * w + u < w * h := by
  have : (j + 1) * w ≤ h * w := Nat.mul_le_mul_right w hj
  rw [Nat.succ_mul] at this
  rw [Nat.mul_comm w h]; omega
end Go.Proofs.Ytghielfbdpkhmaa
/- The walks of maps.Keys, slices.Collect, slices.Sorted. -/
namespace Go.Proofs.Ytghielfbdpkhmaa
open Go.Fw Go
set_option linter.unusedVariables false
set_option linter.unusedSimpArgs false

def IsIt (o : AO) : Prop := ∃ bi m a q st, o = .obj bi (.mapIter m a q st)
theorem nodup_len {α : Type} [DecidableEq α] : ∀ {A B : List α}, A.Nodup → (∀ a ∈ A, a ∈ B) → A.length ≤ B.length
  | [], B, _, _ => Nat.zero_le _
  | a :: A, B, hn, h => by
    rw [List.nodup_cons] at hn
    have ha := h a (by simp)
    have := nodup_len (A := A) (B := B.erase a) hn.2 fun x hx => by
      have hne : x ≠ a := fun e => hn.1 (e ▸ hx)
      exact (List.mem_erase_of_ne hne).2 (h x (by simp [hx]))
    rw [List.length_erase_of_mem ha] at this
    have := List.length_pos_of_mem ha
    simp only [List.length_cons]; omega
theorem map_inj {α β : Type} {f : α → β} : ∀ {l : List α}, (l.map f).Nodup → ∀ {a b : α}, a ∈ l → b ∈ l → f a = f b → a = b
  | [], _, a, b, ha, _, _ => by simp at ha
  | x :: l, hn, a, b, ha, hb, e => by
    rw [List.map_cons, List.nodup_cons] at hn
    rcases List.mem_cons.1 ha with e1 | ha <;> rcases List.mem_cons.1 hb with e2 | hb
    · rw [e1, e2]
    · rw [e1] at e
      exact absurd (List.mem_map.2 ⟨b, hb, e.symm⟩) hn.1
    · rw [e2] at e
      exact absurd (List.mem_map.2 ⟨a, ha, e⟩) hn.1
    · exact map_inj hn.2 ha hb e
set_option maxHeartbeats 4000000 in
set_option maxRecDepth 8000 in
theorem keys_it (l r v rm b cl : Nat) (es : List ME) (hb : ∀ x, x ∈ es → x.b < cl) (hd : (es.map (·.b)).Nodup) (J : List Int → AH → Prop) (H0 : AH) (hJ0 : J [] H0)
    (hbox : ∀ ks H, J ks H → H r = some (.row [.map (some rm)] v) ∧ H rm = some (.map b es cl))
    (hst : ∀ ks H c o, J ks H → IsIt o → H0 c = none → (H c = none ∨ ∃ o', H c = some o' ∧ IsIt o') → J ks (H.set c o))
    (hy : ∀ ks x H, J ks H → x ∈ es → ks.length < es.length → AYield Try.prog l [.int .i64 x.k] H fun y H' => y = .bool true ∧ J (ks ++ [x.k]) H' ∧ ∀ c o, H c = some o → IsIt o → H' c = some o) :
    ACall Try.prog 64 [.fn (.yield l) [] [], .ptr r v 0] H0 (fun y H' => ∃ S : List ME, (S.map (·.b)).Nodup ∧ (∀ s, s ∈ S ↔ s ∈ es) ∧ J (S.map (·.k)) H') := by
  obtain ⟨hb0, hm0⟩ := hbox _ _ hJ0
  refine ACall_of tt_ok (dok _) Try.func64 rfl (by decide) rfl ?_
  (repeat' ((conv => whnf); first | refine Then.mk ?_ | refine OpsA.cons ?_ | refine OpsA.nil ?_ | refine AWq.seq ?_ | refine AWq.region ?_ | refine AWq.cond ?_ | refine AWq.block ?_ | refine AWq.skip ?_ | refine AWq.exit ?_ | refine AWq.loop ?_ | (refine Both.mk ?_ ?_ <;> intro hc <;> (first | exact Bool.noConfusion hc | skip)) | (apply Exists.intro; apply And.intro; (first | (focus (repeat (first | (with_reducible assumption))); done))) | (apply Exists.intro; apply And.intro; first | (with_reducible assumption) | ((try simp only [List.getElem?_drop, Nat.mul_one, Nat.add_zero, Nat.zero_add]); first | (with_reducible assumption) | rfl)) | (apply And.intro; (first | rfl | (with_reducible assumption))))) <;> (try (conv => whnf))
  refine ⟨b, es, cl, hm0, fun c bi hc => ?_⟩
  have hcJ := hst [] H0 c (.obj bi (.mapIter (some b) cl #[] cl)) hJ0 ⟨_, _, _, _, _, rfl⟩ hc (.inl hc)
  (repeat' ((conv => whnf); first | refine Then.mk ?_ | refine OpsA.cons ?_ | refine OpsA.nil ?_ | refine AWq.seq ?_ | refine AWq.region ?_ | refine AWq.cond ?_ | refine AWq.block ?_ | refine AWq.skip ?_ | refine AWq.exit ?_ | refine AWq.loop ?_ | (refine Both.mk ?_ ?_ <;> intro hc <;> (first | exact Bool.noConfusion hc | skip)) | (apply Exists.intro; apply And.intro; (first | (focus (repeat (first | (with_reducible assumption))); done))) | (apply Exists.intro; apply And.intro; first | (with_reducible assumption) | ((try simp only [List.getElem?_drop, Nat.mul_one, Nat.add_zero, Nat.zero_add]); first | (with_reducible assumption) | rfl)) | (apply And.intro; (first | rfl | (with_reducible assumption))))) <;> (try (conv => whnf))
  refine AWp_loop (σ := List ME × AH) (3 :: 6 :: 7 :: 8 :: 9 :: 10 :: 11 :: 12 :: 13 :: []) (fun _ => []) (fun s => s.2) (fun s => J (s.1.map (·.k)) s.2 ∧ s.2 c = some (.obj bi (.mapIter (some b) cl (s.1.map (·.b)).toArray cl)) ∧ (s.1.map (·.b)).Nodup ∧ ∀ x, x ∈ s.1 → x ∈ es) (fun s => es.length - s.1.length) ([], H0.set c (.obj bi (.mapIter (some b) cl #[] cl))) rfl
    ⟨hcJ, AH.set_same _ _ _, List.nodup_nil, fun x hx => by simp at hx⟩ trivial (HLe.refl _) ?_
  rintro ⟨S, H⟩ ⟨hJ, hcS, hnd, hsub⟩
  refine AWp.of tt_ok (dok _) rfl ?_
  dsimp only at hJ hcS hnd hsub ⊢
  obtain ⟨hb1, hm1⟩ := hbox _ _ hJ
  have hlen : S.length ≤ es.length := by
    have := nodup_len (A := S.map (·.b)) (B := es.map (·.b)) hnd fun a ha => by
      obtain ⟨x, hx, rfl⟩ := List.mem_map.1 ha
      exact List.mem_map.2 ⟨x, hsub x hx, rfl⟩
    simpa using this
  (repeat' ((conv => whnf); first | refine Then.mk ?_ | refine OpsA.cons ?_ | refine OpsA.nil ?_ | refine AWq.seq ?_ | refine AWq.region ?_ | refine AWq.cond ?_ | refine AWq.block ?_ | refine AWq.skip ?_ | refine AWq.exit ?_ | refine AWq.loop ?_ | (refine Both.mk ?_ ?_ <;> intro hc <;> (first | exact Bool.noConfusion hc | skip)) | (apply Exists.intro; apply And.intro; (first | (focus (repeat (first | (with_reducible assumption))); done))) | (apply Exists.intro; apply And.intro; first | (with_reducible assumption) | ((try simp only [List.getElem?_drop, Nat.mul_one, Nat.add_zero, Nat.zero_add]); first | (with_reducible assumption) | rfl)) | (apply And.intro; (first | rfl | (with_reducible assumption))))) <;> (try (conv => whnf))
  refine ⟨bi, b, cl, (S.map (·.b)).toArray, cl, rm, es, cl, hcS, hm1, ?_, fun x hx hnx => ?_, fun hall => ?_⟩
  · rcases es with _ | ⟨x, es⟩
    · exact .inr (.inl rfl)
    · exact .inr (.inr ⟨x, by simp, hb x (by simp)⟩)
  · have hnx' : x.b ∉ S.map (·.b) := by simpa using hnx
    have harr : (S.map (·.b)).toArray.push x.b = ((S ++ [x]).map (·.b)).toArray := by simp
    have hlt : S.length < es.length := by
      have := nodup_len (A := x.b :: S.map (·.b)) (B := es.map (·.b)) (List.nodup_cons.2 ⟨hnx', hnd⟩) fun a ha => by
        rcases List.mem_cons.1 ha with rfl | ha
        · exact List.mem_map.2 ⟨x, hx, rfl⟩
        · obtain ⟨z, hz, rfl⟩ := List.mem_map.1 ha
          exact List.mem_map.2 ⟨z, hsub z hz, rfl⟩
      have h9 : S.length + 1 ≤ es.length := by simpa using this
      omega
    rw [harr]
    have hJ2 := hst _ H c (.obj bi (.mapIter (some b) cl ((S ++ [x]).map (·.b)).toArray cl)) hJ ⟨_, _, _, _, _, rfl⟩ hc (.inr ⟨_, hcS, _, _, _, _, _, rfl⟩)
    have hc2 : (H.set c (.obj bi (.mapIter (some b) cl ((S ++ [x]).map (·.b)).toArray cl))) c = some (.obj bi (.mapIter (some b) cl ((S ++ [x]).map (·.b)).toArray cl)) := AH.set_same _ _ _
    generalize H.set c (.obj bi (.mapIter (some b) cl ((S ++ [x]).map (·.b)).toArray cl)) = H2 at *
    obtain ⟨hb2, hm2⟩ := hbox _ _ hJ2
    (repeat' ((conv => whnf); first | refine Then.mk ?_ | refine OpsA.cons ?_ | refine OpsA.nil ?_ | refine AWq.seq ?_ | refine AWq.region ?_ | refine AWq.cond ?_ | refine AWq.block ?_ | refine AWq.skip ?_ | refine AWq.exit ?_ | refine AWq.loop ?_ | (refine Both.mk ?_ ?_ <;> intro hc <;> (first | exact Bool.noConfusion hc | skip)) | (apply Exists.intro; apply And.intro; (first | (focus (repeat (first | (with_reducible assumption))); done))) | (apply Exists.intro; apply And.intro; first | (with_reducible assumption) | ((try simp only [List.getElem?_drop, Nat.mul_one, Nat.add_zero, Nat.zero_add]); first | (with_reducible assumption) | rfl)) | (apply And.intro; (first | rfl | (with_reducible assumption))))) <;> (try (conv => whnf))
    refine ⟨bi, b, cl, ((S ++ [x]).map (·.b)).toArray, rm, es, cl, x, hc2, hm2, by simp, hx, ?_⟩
    have hyx := hy _ x H2 hJ2 hx (by simpa using hlt)
    (repeat' ((conv => whnf); first | refine Then.mk ?_ | refine OpsA.cons ?_ | refine OpsA.nil ?_ | refine AWq.seq ?_ | refine AWq.region ?_ | refine AWq.cond ?_ | refine AWq.block ?_ | refine AWq.skip ?_ | refine AWq.exit ?_ | refine AWq.loop ?_ | (refine Both.mk ?_ ?_ <;> intro hc <;> (first | exact Bool.noConfusion hc | skip)) | (apply Exists.intro; apply And.intro; (first | (focus (repeat (first | (with_reducible assumption))); done))) | (apply Exists.intro; apply And.intro; first | (with_reducible assumption) | ((try simp only [List.getElem?_drop, Nat.mul_one, Nat.add_zero, Nat.zero_add]); first | (with_reducible assumption) | rfl)) | (apply And.intro; (first | rfl | (with_reducible assumption))))) <;> (try (conv => whnf))
    refine hyx.mono ?_
    rintro y H3 ⟨rfl, hJ3, hk3⟩
    (repeat' ((conv => whnf); first | refine Then.mk ?_ | refine OpsA.cons ?_ | refine OpsA.nil ?_ | refine AWq.seq ?_ | refine AWq.region ?_ | refine AWq.cond ?_ | refine AWq.block ?_ | refine AWq.skip ?_ | refine AWq.exit ?_ | refine AWq.loop ?_ | (refine Both.mk ?_ ?_ <;> intro hc <;> (first | exact Bool.noConfusion hc | skip)) | (apply Exists.intro; apply And.intro; (first | (focus (repeat (first | (with_reducible assumption))); done))) | (apply Exists.intro; apply And.intro; first | (with_reducible assumption) | ((try simp only [List.getElem?_drop, Nat.mul_one, Nat.add_zero, Nat.zero_add]); first | (with_reducible assumption) | rfl)) | (apply And.intro; (first | rfl | (with_reducible assumption))))) <;> (try (conv => whnf))
    exact ⟨(S ++ [x], H3), ⟨by simpa using hJ3, hk3 _ _ hc2 ⟨_, _, _, _, _, rfl⟩, by
      rw [List.map_append, List.nodup_append]
      exact ⟨hnd, by simp, fun a ha z hz => by
        have : z = x.b := by simpa using hz
        rw [this]; exact fun e => hnx' (e ▸ ha)⟩, fun z hz => by
      rcases List.mem_append.1 hz with hz | hz
      · exact hsub z hz
      · rw [List.mem_singleton.1 hz]; exact hx⟩, by show es.length - (S ++ [x]).length < es.length - S.length; rw [List.length_append]; simp; omega, trivial, HLe.refl _⟩
  · (repeat' ((conv => whnf); first | refine Then.mk ?_ | refine OpsA.cons ?_ | refine OpsA.nil ?_ | refine AWq.seq ?_ | refine AWq.region ?_ | refine AWq.cond ?_ | refine AWq.block ?_ | refine AWq.skip ?_ | refine AWq.exit ?_ | refine AWq.loop ?_ | (refine Both.mk ?_ ?_ <;> intro hc <;> (first | exact Bool.noConfusion hc | skip)) | (apply Exists.intro; apply And.intro; (first | (focus (repeat (first | (with_reducible assumption))); done))) | (apply Exists.intro; apply And.intro; first | (with_reducible assumption) | ((try simp only [List.getElem?_drop, Nat.mul_one, Nat.add_zero, Nat.zero_add]); first | (with_reducible assumption) | rfl)) | (apply And.intro; (first | rfl | (with_reducible assumption))))) <;> (try (conv => whnf))
    refine ⟨fun s => ⟨hsub s, fun hs => ?_⟩, hJ⟩
    have h1 : s.b ∈ S.map (·.b) := by simpa using hall s hs (hb s hs)
    obtain ⟨z, hz, e⟩ := List.mem_map.1 h1
    rw [← map_inj hd (hsub z hz) hs e]; exact hz
set_option maxHeartbeats 4000000 in
set_option maxRecDepth 8000 in
theorem append_seq (rm b cl c1 : Nat) (es : List ME) (hes : es.length ≤ 1000) (hb : ∀ x, x ∈ es → x.b < cl) (hd : (es.map (·.b)).Nodup) (H : AH) (hc1 : H c1 = some (.row [.map (some rm)] 0)) (hrm : H rm = some (.map b es cl)) :
    ACall Try.prog 67 [.nils, .fn (.func 64) [] [.ptr c1 0 0]] H
      (fun y H' => ∃ (S : List ME) (q : Nat), (S.map (·.b)).Nodup ∧ (∀ s, s ∈ S ↔ s ∈ es) ∧ H q = none ∧ y = .sl q S.length 1 0 S.length none ∧ H' = H.set q (.row (iS .i64 (S.map (·.k))) S.length)) := by
  refine ACall.told ?_
  refine ACall_marks tt_ok (dok _) Try.func67 rfl (by decide) rfl ?_
  (repeat' ((conv => whnf); first | left | refine OpsA.cons ?_ | refine OpsA.nil ?_ | refine AWq.seq ?_ | refine AWq.region ?_ | refine AWq.block ?_ | refine AWq.ret ?_ | refine AWq.rangeFunc ?_ | (intro c hc; (try (simp only [AH.none_iff] at hc; repeat (have hn := hc.1; replace hc := hc.2))); (first | skip)) | (apply Exists.intro; apply And.intro; (first | (focus (repeat (first | (with_reducible assumption) | (with_reducible exact AH.set_same _ _ _) | ((first | refine AH.get_ne ?_ ?_ | refine AH.getd_ne ?_ ?_); (first | (with_reducible assumption) | exact Ne.symm (by with_reducible assumption))))); done) | (focus (repeat (first | assumption | exact AH.set_same _ _ _ | ((first | refine AH.get_ne ?_ ?_ | refine AH.getd_ne ?_ ?_); (first | assumption | omega)))); done))) | (apply Exists.intro; apply And.intro; first | (with_reducible assumption) | ((try simp only [List.getElem?_drop, Nat.mul_one, Nat.add_zero, Nat.zero_add]); first | (with_reducible assumption) | assumption | rfl)) | (apply And.intro; (first | rfl | (with_reducible assumption) | exact Nat.le_of_ble_eq_true rfl | omega | assumption)))) <;> (try (conv => whnf))
  (obtain ⟨c2, hq_⟩ : ∃ c2, c2 = c := ⟨_, rfl⟩); subst hq_
  have hc2 : H c2 = none := hc
  refine Then.mk (AWq.in ?_)
  refine AWp_nilC (p := c2) (u := 0) 1 [] [] (AH.set_same _ _ _) fun q hq hqc => ?_
  obtain ⟨_, hq⟩ := AH.none_set hq
  refine AWp.of tt_ok (dok _) rfl ?_
  (repeat' ((conv => whnf); first | refine Then.mk ?_ | left | refine OpsA.cons ?_ | refine OpsA.nil ?_ | refine AWq.seq ?_ | refine AWq.region ?_ | refine AWq.block ?_ | refine AWq.ret ?_ | refine AWq.rangeFunc ?_ | (intro c hc; (try (simp only [AH.none_iff] at hc; repeat (have hn := hc.1; replace hc := hc.2))); (first | skip)) | (apply Exists.intro; apply And.intro; (first | (focus (repeat (first | (with_reducible assumption) | (with_reducible exact AH.set_same _ _ _) | ((first | refine AH.get_ne ?_ ?_ | refine AH.getd_ne ?_ ?_); (first | (with_reducible assumption) | exact Ne.symm (by with_reducible assumption))))); done) | (focus (repeat (first | assumption | exact AH.set_same _ _ _ | ((first | refine AH.get_ne ?_ ?_ | refine AH.getd_ne ?_ ?_); (first | assumption | omega)))); done))) | (apply Exists.intro; apply And.intro; first | (with_reducible assumption) | ((try simp only [List.getElem?_drop, Nat.mul_one, Nat.add_zero, Nat.zero_add]); first | (with_reducible assumption) | assumption | rfl)) | (apply And.intro; (first | rfl | (with_reducible assumption) | exact Nat.le_of_ble_eq_true rfl | omega | assumption)))) <;> (try (conv => whnf))
  have h12 : c1 ≠ c2 := fun e => by rw [e, hc2] at hc1; cases hc1
  have hr2 : rm ≠ c2 := fun e => by rw [e, hc2] at hrm; cases hrm
  have h1q : c1 ≠ q := fun e => by rw [e, hq] at hc1; cases hc1
  have hrq : rm ≠ q := fun e => by rw [e, hq] at hrm; cases hrm
  refine AWp_over rfl fun e0 he0 fn d l rd rl hrd hrl hne L0 hL0 => ?_
  obtain ⟨hdc2, hrd⟩ := AH.none_set hrd
  obtain ⟨hdq, hrd⟩ := AH.none_set hrd
  obtain ⟨_, hrd⟩ := AH.none_set hrd
  obtain ⟨hlc2, hrl⟩ := AH.none_set hrl
  obtain ⟨hlq, hrl⟩ := AH.none_set hrl
  obtain ⟨_, hrl⟩ := AH.none_set hrl
  have h1d : c1 ≠ rd := fun e => by rw [e, hrd] at hc1; cases hc1
  have hmd : rm ≠ rd := fun e => by rw [e, hrd] at hrm; cases hrm
  have h1l : c1 ≠ rl := fun e => by rw [e, hrl] at hc1; cases hc1
  have hml : rm ≠ rl := fun e => by rw [e, hrl] at hrm; cases hrm
  have hle0 : HLe H (((((H.set c2 (.row [ev (argsE [.nils, .fn (.func 64) [] [.ptr c1 0 0]]) (.tmp 0)] 0)).set q (.row [] 0)).set c2 (.row ([] ++ [.sl q 0 1 0 0 none]) 0)).set rd (.obj d (.deferred (some [])))).set rl (.loop l Try.f67.ntmps e0 L0)) :=
    HLe.set_of _ _ (HLe.set_of _ _ (HLe.set_of _ _ (HLe.set_of _ _ (HLe.set_of _ _ (HLe.refl _) hc2) hq) hc2) hrd) hrl
  have ne_it : ∀ {Hh : AH} {c s : Nat} {o : AO}, Hh s = some o → ¬ IsIt o → (Hh c = none ∨ ∃ o', Hh c = some o' ∧ IsIt o') → s ≠ c := fun hs hn hc e => by
    subst e
    rcases hc with hc | ⟨o', hc, hi⟩
    · rw [hs] at hc; cases hc
    · rw [hs] at hc; cases hc; exact hn hi
  have n1 : ∀ c u, ¬ IsIt (.row c u) := fun c u ⟨_, _, _, _, _, h⟩ => by cases h
  have n2 : ∀ c u k, ¬ IsIt (.map c u k) := fun c u k ⟨_, _, _, _, _, h⟩ => by cases h
  have n3 : ∀ c k, ¬ IsIt (.obj c (.deferred k)) := fun c k ⟨_, _, _, _, _, h⟩ => by cases h
  have n4 : ∀ a b c d, ¬ IsIt (.loop a b c d) := fun a b c d ⟨_, _, _, _, _, h⟩ => by cases h
  refine (keys_it l c1 0 rm b cl es hb hd (fun ks Hh => (Hh c1 = some (.row [.map (some rm)] 0) ∧ Hh rm = some (.map b es cl)) ∧ Hh c2 = some (.row [.sl q ks.length 1 0 ks.length none] 0) ∧ Hh q = some (.row (iS .i64 ks) ks.length) ∧ Hh rd = some (.obj d (.deferred (some []))) ∧ Hh rl = some (.loop l Try.f67.ntmps e0 L0) ∧ HLe H Hh) _ ?_ ?_ ?_ ?_).mono ?_
  · refine ⟨⟨?_, ?_⟩, ?_, ?_, ?_, ?_, hle0⟩
    · exact hle0.le _ _ hc1
    · exact hle0.le _ _ hrm
    · (first | (focus (repeat (first | (with_reducible assumption) | (with_reducible exact AH.set_same _ _ _) | ((first | refine AH.get_ne ?_ ?_ | refine AH.getd_ne ?_ ?_); (first | (with_reducible assumption) | exact Ne.symm (by with_reducible assumption))))); done) | (focus (repeat (first | assumption | exact AH.set_same _ _ _ | ((first | refine AH.get_ne ?_ ?_ | refine AH.getd_ne ?_ ?_); (first | assumption | omega)))); done))
    · (first | (focus (repeat (first | (with_reducible assumption) | (with_reducible exact AH.set_same _ _ _) | ((first | refine AH.get_ne ?_ ?_ | refine AH.getd_ne ?_ ?_); (first | (with_reducible assumption) | exact Ne.symm (by with_reducible assumption))))); done) | (focus (repeat (first | assumption | exact AH.set_same _ _ _ | ((first | refine AH.get_ne ?_ ?_ | refine AH.getd_ne ?_ ?_); (first | assumption | omega)))); done))
    · (first | (focus (repeat (first | (with_reducible assumption) | (with_reducible exact AH.set_same _ _ _) | ((first | refine AH.get_ne ?_ ?_ | refine AH.getd_ne ?_ ?_); (first | (with_reducible assumption) | exact Ne.symm (by with_reducible assumption))))); done) | (focus (repeat (first | assumption | exact AH.set_same _ _ _ | ((first | refine AH.get_ne ?_ ?_ | refine AH.getd_ne ?_ ?_); (first | assumption | omega)))); done))
    · (first | (focus (repeat (first | (with_reducible assumption) | (with_reducible exact AH.set_same _ _ _) | ((first | refine AH.get_ne ?_ ?_ | refine AH.getd_ne ?_ ?_); (first | (with_reducible assumption) | exact Ne.symm (by with_reducible assumption))))); done) | (focus (repeat (first | assumption | exact AH.set_same _ _ _ | ((first | refine AH.get_ne ?_ ?_ | refine AH.getd_ne ?_ ?_); (first | assumption | omega)))); done))
  · exact fun ks Hh h => h.1
  · rintro ks Hh c o ⟨⟨h1, h2⟩, h3, h4, h5, h6, h7⟩ hio hc0 hcc
    have hHc : H c = none := by
      cases hx : H c with
      | none => rfl
      | some x => have := hle0.le _ _ hx; rw [hc0] at this; cases this
    refine ⟨⟨?_, ?_⟩, ?_, ?_, ?_, ?_, HLe.set_of _ _ h7 hHc⟩
    · rw [AH.set_ne _ _ (ne_it h1 (n1 _ _) hcc)]; exact h1
    · rw [AH.set_ne _ _ (ne_it h2 (n2 _ _ _) hcc)]; exact h2
    · rw [AH.set_ne _ _ (ne_it h3 (n1 _ _) hcc)]; exact h3
    · rw [AH.set_ne _ _ (ne_it h4 (n1 _ _) hcc)]; exact h4
    · rw [AH.set_ne _ _ (ne_it h5 (n3 _ _) hcc)]; exact h5
    · rw [AH.set_ne _ _ (ne_it h6 (n4 _ _ _ _) hcc)]; exact h6
  · rintro ks x Hh ⟨⟨h1, h2⟩, h3, h4, h5, h6, h7⟩ hx hkl
    subst hL0 he0
    have hil := iS_length .i64 ks
    refine AYield_of h6 rfl rfl rfl ?_
    refine AWp.of tt_ok (dok _) rfl ?_
    (repeat' ((conv => whnf); first | refine Then.mk ?_ | left | refine OpsA.cons ?_ | refine OpsA.nil ?_ | refine AWq.seq ?_ | refine AWq.region ?_ | refine AWq.block ?_ | refine AWq.ret ?_ | refine AWq.rangeFunc ?_ | (intro c hc; (try (simp only [AH.none_iff] at hc; repeat (have hn := hc.1; replace hc := hc.2))); (first | skip)) | (apply Exists.intro; apply And.intro; (first | (focus (repeat (first | (with_reducible assumption) | (with_reducible exact AH.set_same _ _ _) | ((first | refine AH.get_ne ?_ ?_ | refine AH.getd_ne ?_ ?_); (first | (with_reducible assumption) | exact Ne.symm (by with_reducible assumption))))); done) | (focus (repeat (first | assumption | exact AH.set_same _ _ _ | ((first | refine AH.get_ne ?_ ?_ | refine AH.getd_ne ?_ ?_); (first | assumption | omega)))); done))) | (apply Exists.intro; apply And.intro; first | (with_reducible assumption) | ((try simp only [List.getElem?_drop, Nat.mul_one, Nat.add_zero, Nat.zero_add]); first | (with_reducible assumption) | assumption | rfl)) | (apply And.intro; (first | rfl | (with_reducible assumption) | exact Nat.le_of_ble_eq_true rfl | omega | assumption)))) <;> (try (conv => whnf))
    refine AWp.of tt_ok (dok _) rfl ?_
    (repeat' ((conv => whnf); first | refine Then.mk ?_ | left | refine OpsA.cons ?_ | refine OpsA.nil ?_ | refine AWq.seq ?_ | refine AWq.region ?_ | refine AWq.block ?_ | refine AWq.ret ?_ | refine AWq.rangeFunc ?_ | (intro c hc; (try (simp only [AH.none_iff] at hc; repeat (have hn := hc.1; replace hc := hc.2))); (first | skip)) | (apply Exists.intro; apply And.intro; (first | (focus (repeat (first | (with_reducible assumption) | (with_reducible exact AH.set_same _ _ _) | ((first | refine AH.get_ne ?_ ?_ | refine AH.getd_ne ?_ ?_); (first | (with_reducible assumption) | exact Ne.symm (by with_reducible assumption))))); done) | (focus (repeat (first | assumption | exact AH.set_same _ _ _ | ((first | refine AH.get_ne ?_ ?_ | refine AH.getd_ne ?_ ?_); (first | assumption | omega)))); done))) | (apply Exists.intro; apply And.intro; first | (with_reducible assumption) | ((try simp only [List.getElem?_drop, Nat.mul_one, Nat.add_zero, Nat.zero_add]); first | (with_reducible assumption) | assumption | rfl)) | (apply And.intro; (first | rfl | (with_reducible assumption) | exact Nat.le_of_ble_eq_true rfl | omega | assumption)))) <;> (try (conv => whnf))
    have e1 : (ks ++ [x.k]).length = ks.length + 1 := by simp
    have e2 : iS .i64 (ks ++ [x.k]) = iS .i64 ks ++ [.int .i64 x.k] := (iS_snoc _ _ _).symm
    rw [e1, e2]
    refine ⟨⟨⟨?_, ?_⟩, ?_, ?_, ?_, ?_, ?_⟩, fun c o hco hio => ?_⟩
    · (first | (focus (repeat (first | (with_reducible assumption) | (with_reducible exact AH.set_same _ _ _) | ((first | refine AH.get_ne ?_ ?_ | refine AH.getd_ne ?_ ?_); (first | (with_reducible assumption) | exact Ne.symm (by with_reducible assumption))))); done) | (focus (repeat (first | assumption | exact AH.set_same _ _ _ | ((first | refine AH.get_ne ?_ ?_ | refine AH.getd_ne ?_ ?_); (first | assumption | omega)))); done))
    · (first | (focus (repeat (first | (with_reducible assumption) | (with_reducible exact AH.set_same _ _ _) | ((first | refine AH.get_ne ?_ ?_ | refine AH.getd_ne ?_ ?_); (first | (with_reducible assumption) | exact Ne.symm (by with_reducible assumption))))); done) | (focus (repeat (first | assumption | exact AH.set_same _ _ _ | ((first | refine AH.get_ne ?_ ?_ | refine AH.getd_ne ?_ ?_); (first | assumption | omega)))); done))
    · (first | (focus (repeat (first | (with_reducible assumption) | (with_reducible exact AH.set_same _ _ _) | ((first | refine AH.get_ne ?_ ?_ | refine AH.getd_ne ?_ ?_); (first | (with_reducible assumption) | exact Ne.symm (by with_reducible assumption))))); done) | (focus (repeat (first | assumption | exact AH.set_same _ _ _ | ((first | refine AH.get_ne ?_ ?_ | refine AH.getd_ne ?_ ?_); (first | assumption | omega)))); done))
    · (first | (focus (repeat (first | (with_reducible assumption) | (with_reducible exact AH.set_same _ _ _) | ((first | refine AH.get_ne ?_ ?_ | refine AH.getd_ne ?_ ?_); (first | (with_reducible assumption) | exact Ne.symm (by with_reducible assumption))))); done) | (focus (repeat (first | assumption | exact AH.set_same _ _ _ | ((first | refine AH.get_ne ?_ ?_ | refine AH.getd_ne ?_ ?_); (first | assumption | omega)))); done))
    · (first | (focus (repeat (first | (with_reducible assumption) | (with_reducible exact AH.set_same _ _ _) | ((first | refine AH.get_ne ?_ ?_ | refine AH.getd_ne ?_ ?_); (first | (with_reducible assumption) | exact Ne.symm (by with_reducible assumption))))); done) | (focus (repeat (first | assumption | exact AH.set_same _ _ _ | ((first | refine AH.get_ne ?_ ?_ | refine AH.getd_ne ?_ ?_); (first | assumption | omega)))); done))
    · (first | (focus (repeat (first | (with_reducible assumption) | (with_reducible exact AH.set_same _ _ _) | ((first | refine AH.get_ne ?_ ?_ | refine AH.getd_ne ?_ ?_); (first | (with_reducible assumption) | exact Ne.symm (by with_reducible assumption))))); done) | (focus (repeat (first | assumption | exact AH.set_same _ _ _ | ((first | refine AH.get_ne ?_ ?_ | refine AH.getd_ne ?_ ?_); (first | assumption | omega)))); done))
    · (first | ((repeat' (first | (with_reducible assumption) | refine HLe.set_of _ _ ?_ ?_)); done))
    · have hcl : c ≠ rl := Ne.symm (ne_it h6 (n4 _ _ _ _) (.inr ⟨o, hco, hio⟩))
      have hcq : c ≠ q := Ne.symm (ne_it h4 (n1 _ _) (.inr ⟨o, hco, hio⟩))
      have hc2' : c ≠ c2 := Ne.symm (ne_it h3 (n1 _ _) (.inr ⟨o, hco, hio⟩))
      (first | (focus (repeat (first | (with_reducible assumption) | (with_reducible exact AH.set_same _ _ _) | ((first | refine AH.get_ne ?_ ?_ | refine AH.getd_ne ?_ ?_); (first | (with_reducible assumption) | exact Ne.symm (by with_reducible assumption))))); done) | (focus (repeat (first | assumption | exact AH.set_same _ _ _ | ((first | refine AH.get_ne ?_ ?_ | refine AH.getd_ne ?_ ?_); (first | assumption | omega)))); done))
  · rintro y Hh ⟨S, hS1, hS2, ⟨h1, h2⟩, h3, h4, h5, h6, h7⟩
    subst hL0
    refine ⟨_, h6, rfl, ?_⟩
    (repeat' ((conv => whnf); first | refine Then.mk ?_ | left | refine OpsA.cons ?_ | refine OpsA.nil ?_ | refine AWq.seq ?_ | refine AWq.region ?_ | refine AWq.block ?_ | refine AWq.ret ?_ | refine AWq.rangeFunc ?_ | (intro c hc; (try (simp only [AH.none_iff] at hc; repeat (have hn := hc.1; replace hc := hc.2))); (first | skip)) | (apply Exists.intro; apply And.intro; (first | (focus (repeat (first | (with_reducible assumption) | (with_reducible exact AH.set_same _ _ _) | ((first | refine AH.get_ne ?_ ?_ | refine AH.getd_ne ?_ ?_); (first | (with_reducible assumption) | exact Ne.symm (by with_reducible assumption))))); done) | (focus (repeat (first | assumption | exact AH.set_same _ _ _ | ((first | refine AH.get_ne ?_ ?_ | refine AH.getd_ne ?_ ?_); (first | assumption | omega)))); done))) | (apply Exists.intro; apply And.intro; first | (with_reducible assumption) | ((try simp only [List.getElem?_drop, Nat.mul_one, Nat.add_zero, Nat.zero_add]); first | (with_reducible assumption) | assumption | rfl)) | (apply And.intro; (first | rfl | (with_reducible assumption) | exact Nat.le_of_ble_eq_true rfl | omega | assumption)))) <;> (try (conv => whnf))
    refine ⟨rd, ?_, ?_⟩
    · (first | (focus (repeat (first | (with_reducible assumption) | (with_reducible exact AH.set_same _ _ _) | ((first | refine AH.get_ne ?_ ?_ | refine AH.getd_ne ?_ ?_); (first | (with_reducible assumption) | exact Ne.symm (by with_reducible assumption))))); done) | (focus (repeat (first | assumption | exact AH.set_same _ _ _ | ((first | refine AH.get_ne ?_ ?_ | refine AH.getd_ne ?_ ?_); (first | assumption | omega)))); done))
    · (repeat' ((conv => whnf); first | refine Then.mk ?_ | left | refine OpsA.cons ?_ | refine OpsA.nil ?_ | refine AWq.seq ?_ | refine AWq.region ?_ | refine AWq.block ?_ | refine AWq.ret ?_ | refine AWq.rangeFunc ?_ | (intro c hc; (try (simp only [AH.none_iff] at hc; repeat (have hn := hc.1; replace hc := hc.2))); (first | skip)) | (apply Exists.intro; apply And.intro; (first | (focus (repeat (first | (with_reducible assumption) | (with_reducible exact AH.set_same _ _ _) | ((first | refine AH.get_ne ?_ ?_ | refine AH.getd_ne ?_ ?_); (first | (with_reducible assumption) | exact Ne.symm (by with_reducible assumption))))); done) | (focus (repeat (first | assumption | exact AH.set_same _ _ _ | ((first | refine AH.get_ne ?_ ?_ | refine AH.getd_ne ?_ ?_); (first | assumption | omega)))); done))) | (apply Exists.intro; apply And.intro; first | (with_reducible assumption) | ((try simp only [List.getElem?_drop, Nat.mul_one, Nat.add_zero, Nat.zero_add]); first | (with_reducible assumption) | assumption | rfl)) | (apply And.intro; (first | rfl | (with_reducible assumption) | exact Nat.le_of_ble_eq_true rfl | omega | assumption)))) <;> (try (conv => whnf))
      rw [List.length_map] at h3 h4 ⊢
      refine ⟨_, H.set q (.row (iS .i64 (S.map (·.k))) S.length), AVle.refl _, ⟨fun s o hs => ?_⟩, S, q, hS1, hS2, hq, rfl, rfl⟩
      by_cases e : s = q
      · subst e
        rw [AH.set_same] at hs
        rw [AH.del_ne _ (Ne.symm hdq), AH.del_ne _ (Ne.symm hlq), h4]; exact hs
      · rw [AH.set_ne _ _ e] at hs
        have hsd : s ≠ rd := fun e => by rw [e, hrd] at hs; cases hs
        have hsl : s ≠ rl := fun e => by rw [e, hrl] at hs; cases hs
        rw [AH.del_ne _ hsd, AH.del_ne _ hsl]; exact h7.le _ _ hs

theorem insI_perm (x : Int) : ∀ l : List Int, (insI x l).Perm (x :: l)
  | [] => List.Perm.refl _
  | y :: l => by
    unfold insI
    split
    · exact ((insI_perm x l).cons y).trans (List.Perm.swap _ _ _)
    · exact List.Perm.refl _
theorem sortI_permR : ∀ k : List Int, (sortI k.reverse).Perm k
  | [] => List.Perm.refl _
  | x :: k => by
    rw [List.reverse_cons, sortI_snoc]
    exact (insI_perm x _).trans ((sortI_permR k).cons x)
theorem sortI_nodup {l : List Int} (h : l.Nodup) : (sortI l).Nodup := by
  have := sortI_permR l.reverse
  rw [List.reverse_reverse] at this
  rw [this.nodup_iff]
  exact (List.reverse_perm l).nodup_iff.2 h
theorem srt_uniq : ∀ {A B : List Int}, Srt A → A.Nodup → B.Pairwise (· < ·) → (∀ z, z ∈ A ↔ z ∈ B) → A = B
  | [], [], _, _, _, _ => rfl
  | [], b :: B, _, _, _, h => by have := (h b).2 (by simp); simp at this
  | a :: A, [], _, _, _, h => by have := (h a).1 (by simp); simp at this
  | a :: A, b :: B, hs, hn, hp, h => by
    rw [List.nodup_cons] at hn
    rw [List.pairwise_cons] at hp
    have hab : a = b := by
      have h1 : a ∈ b :: B := (h a).1 (by simp)
      have h2 : b ∈ a :: A := (h b).2 (by simp)
      have l1 : b ≤ a := by
        rcases List.mem_cons.1 h1 with e | h1
        · omega
        · have := hp.1 a h1; omega
      have l2 : a ≤ b := by
        rcases List.mem_cons.1 h2 with e | h2
        · omega
        · exact hs.1 b h2
      omega
    subst hab
    rw [srt_uniq hs.2 hn.2 hp.2 fun z => ⟨fun hz => ?_, fun hz => ?_⟩]
    · rcases List.mem_cons.1 ((h z).1 (List.mem_cons_of_mem _ hz)) with e | h1
      · subst e; exact absurd hz hn.1
      · exact h1
    · rcases List.mem_cons.1 ((h z).2 (List.mem_cons_of_mem _ hz)) with e | h1
      · subst e; have := hp.1 z hz; omega
      · exact h1
set_option maxRecDepth 8000 in
theorem keys_c (rm : Nat) (H : AH) : ACall Try.prog 59 [.map (some rm)] H (fun y H' => ∃ c, H c = none ∧ y = .fn (.func 64) [] [.ptr c 0 0] ∧ H' = H.set c (.row [.map (some rm)] 0)) := by
  refine ACall_of tt_ok (dok _) Try.func59 rfl (by decide) rfl ?_
  (repeat' ((conv => whnf); first | refine Then.mk ?_ | refine OpsA.cons ?_ | refine OpsA.nil ?_ | refine AWq.seq ?_ | refine AWq.region ?_ | refine AWq.ret ?_ | (intro c hc; (try (simp only [AH.none_iff] at hc; repeat (have hn := hc.1; replace hc := hc.2))); (first | skip)) | (apply Exists.intro; apply And.intro; (first | (focus (repeat (first | (with_reducible assumption))); done))) | (apply And.intro; (first | rfl | (with_reducible assumption))))) <;> (try (conv => whnf))
  rfl
set_option maxHeartbeats 4000000 in
set_option maxRecDepth 8000 in
theorem rising_c (rm b cl : Nat) (es : List ME) (hes : es.length ≤ 12) (hb : ∀ x, x ∈ es → x.b < cl) (hd : (es.map (·.b)).Nodup) (hk : (es.map (·.k)).Nodup) (K : List Int) (hK : K.Pairwise (· < ·)) (hKm : ∀ z, z ∈ K ↔ z ∈ es.map (·.k)) (H : AH) (hrm : H rm = some (.map b es cl)) :
    ACall Try.prog 47 [.map (some rm)] H (fun y H' => y = .cs (iS .i64 K) K.length ∧ H' = H) := by
  refine ACall.cold (es := 1) (by simp) ?_
  refine ACall.told ?_
  have hcol : ∀ c1 H, H c1 = some (.row [.map (some rm)] 0) → H rm = some (.map b es cl) → ACall Try.prog 58 [.fn (.func 64) [] [.ptr c1 0 0]] H
      (fun y H' => ∃ q, H q = none ∧ y = .sl q K.length 1 0 K.length none ∧ H' = H.set q (.row (iS .i64 K) K.length)) := by
    intro c1 H hc1 hrm
    have ha := append_seq rm b cl c1 es (by omega) hb hd H hc1 hrm
    have hcl : ACall Try.prog 62 [.fn (.func 64) [] [.ptr c1 0 0]] H (fun y H' => ∃ (S : List ME) (q : Nat), (S.map (·.b)).Nodup ∧ (∀ s, s ∈ S ↔ s ∈ es) ∧ H q = none ∧ y = .sl q S.length 1 0 S.length none ∧ H' = H.set q (.row (iS .i64 (S.map (·.k))) S.length)) := by
      refine ACall_of tt_ok (dok _) Try.func62 rfl (by decide) rfl ?_
      (repeat' ((conv => whnf); first | refine Then.mk ?_ | refine OpsA.cons ?_ | refine OpsA.nil ?_ | refine AWq.seq ?_ | refine AWq.region ?_ | refine AWq.ret ?_ | (apply Exists.intro; apply And.intro; (first | (focus (repeat (first | (with_reducible assumption))); done))) | (apply And.intro; (first | rfl | (with_reducible assumption) | (simp <;> omega))))) <;> (try (conv => whnf))
      refine ha.mono ?_
      rintro y H' ⟨S, q, h1, h2, h3, rfl, rfl⟩
      (repeat' ((conv => whnf); first | refine Then.mk ?_ | refine OpsA.cons ?_ | refine OpsA.nil ?_ | refine AWq.seq ?_ | refine AWq.region ?_ | refine AWq.ret ?_ | (apply Exists.intro; apply And.intro; (first | (focus (repeat (first | (with_reducible assumption))); done))) | (apply And.intro; (first | rfl | (with_reducible assumption) | (simp <;> omega))))) <;> (try (conv => whnf))
      exact ⟨S, q, h1, h2, h3, rfl, rfl⟩
    refine ACall_of tt_ok (dok _) Try.func58 rfl (by decide) rfl ?_
    (repeat' ((conv => whnf); first | refine Then.mk ?_ | refine OpsA.cons ?_ | refine OpsA.nil ?_ | refine AWq.seq ?_ | refine AWq.region ?_ | refine AWq.ret ?_ | (apply Exists.intro; apply And.intro; (first | (focus (repeat (first | (with_reducible assumption))); done))) | (apply And.intro; (first | rfl | (with_reducible assumption) | (simp <;> omega))))) <;> (try (conv => whnf))
    refine hcl.mono ?_
    rintro y H' ⟨S, q, h1, h2, h3, rfl, rfl⟩
    have hSl : S.length ≤ 12 := by
      have := nodup_len (A := S.map (·.b)) (B := es.map (·.b)) h1 fun a ha => by
        obtain ⟨x, hx, rfl⟩ := List.mem_map.1 ha
        exact List.mem_map.2 ⟨x, (h2 x).1 hx, rfl⟩
      simp at this; omega
    have hSk : (S.map (·.k)).Nodup := by
      have : ∀ T : List ME, (T.map (·.b)).Nodup → (∀ s, s ∈ T → s ∈ es) → (T.map (·.k)).Nodup := by
        intro T
        induction T with
        | nil => intro _ _; exact List.nodup_nil
        | cons t T ih =>
          intro hn hm
          rw [List.map_cons, List.nodup_cons] at hn ⊢
          refine ⟨fun hc => ?_, ih hn.2 fun s hs => hm s (by simp [hs])⟩
          obtain ⟨z, hz, e⟩ := List.mem_map.1 hc
          have := map_inj hk (hm z (by simp [hz])) (hm t (by simp)) e
          exact hn.1 (List.mem_map.2 ⟨z, hz, by rw [this]⟩)
      exact this S h1 fun s hs => (h2 s).1 hs
    have hsort : sortI (S.map (·.k)) = K := srt_uniq (sortI_srt _) (sortI_nodup hSk) hK fun z => by
      rw [sortI_mem, hKm]
      constructor
      · intro h; obtain ⟨s, hs, e⟩ := List.mem_map.1 h; exact List.mem_map.2 ⟨s, (h2 s).1 hs, e⟩
      · intro h; obtain ⟨s, hs, e⟩ := List.mem_map.1 h; exact List.mem_map.2 ⟨s, (h2 s).2 hs, e⟩
    have hKl : K.length = S.length := by rw [← hsort, sortI_len, List.length_map]
    have hsc := sort_c (S.map (·.k)) (by simpa using hSl) q S.length (H.set q (.row (iS .i64 (S.map (·.k))) S.length)) (AH.set_same _ _ _)
    rw [hsort, List.length_map, AH.set_set] at hsc
    (repeat' ((conv => whnf); first | refine Then.mk ?_ | refine OpsA.cons ?_ | refine OpsA.nil ?_ | refine AWq.seq ?_ | refine AWq.region ?_ | refine AWq.ret ?_ | (apply Exists.intro; apply And.intro; (first | (focus (repeat (first | (with_reducible assumption))); done))) | (apply And.intro; (first | rfl | (with_reducible assumption) | (simp <;> omega))) | (refine ACall.to (hsc) ?_))) <;> (try (conv => whnf))
    rw [hKl]
  refine ACall_of tt_ok (dok _) Try.func47 rfl (by decide) rfl ?_
  (repeat' ((conv => whnf); first | refine Then.mk ?_ | refine OpsA.cons ?_ | refine OpsA.nil ?_ | refine AWq.seq ?_ | refine AWq.region ?_ | refine AWq.ret ?_ | (apply Exists.intro; apply And.intro; (first | (focus (repeat (first | (with_reducible assumption))); done))) | (apply And.intro; (first | rfl | (with_reducible assumption) | (simp <;> omega))))) <;> (try (conv => whnf))
  refine (keys_c rm _).mono ?_
  rintro y H' ⟨c, hc, rfl, rfl⟩
  (repeat' ((conv => whnf); first | refine Then.mk ?_ | refine OpsA.cons ?_ | refine OpsA.nil ?_ | refine AWq.seq ?_ | refine AWq.region ?_ | refine AWq.ret ?_ | (apply Exists.intro; apply And.intro; (first | (focus (repeat (first | (with_reducible assumption))); done))) | (apply And.intro; (first | rfl | (with_reducible assumption) | (simp <;> omega))))) <;> (try (conv => whnf))
  have hrc : rm ≠ c := fun e => by rw [e, hc] at hrm; cases hrm
  refine (hcol c _ (AH.set_same _ _ _) (by rw [AH.set_ne _ _ hrc]; exact hrm)).mono ?_
  rintro y H' ⟨q, hq, rfl, rfl⟩
  obtain ⟨hqc, hq⟩ := AH.none_set hq
  (repeat' ((conv => whnf); first | refine Then.mk ?_ | refine OpsA.cons ?_ | refine OpsA.nil ?_ | refine AWq.seq ?_ | refine AWq.region ?_ | refine AWq.ret ?_ | (apply Exists.intro; apply And.intro; (first | (focus (repeat (first | (with_reducible assumption))); done))) | (apply And.intro; (first | rfl | (with_reducible assumption) | (simp <;> omega))))) <;> (try (conv => whnf))
  exact ⟨_, H.set q (.row (iS .i64 K) K.length), AVle.refl _, HLe.set (HLe.fresh _ hc) q _, q, hq, _, rfl, rfl⟩
end Go.Proofs.Ytghielfbdpkhmaa
/- The walk of blend.Weights. -/
namespace Go.Proofs.Ytghielfbdpkhmaa
open Go.Fw Go
set_option linter.unusedVariables false
set_option linter.unusedSimpArgs false

def wget (W : Wl) (n : Int) : Option Int := match W with
  | [] => none
  | p :: l => if p.1 = n then some p.2 else wget l n
theorem wget_none {n : Int} : ∀ {W : Wl}, wget W n = none ↔ n ∉ W.map (·.1)
  | [] => by simp [wget]
  | p :: l => by
    unfold wget
    by_cases h : p.1 = n
    · rw [if_pos h]; simp [h]
    · rw [if_neg h, wget_none (W := l)]
      simp [Ne.symm h]
theorem wget_at : ∀ {W : Wl} {i : Nat} {p : Int × Int}, W.Pairwise (fun a b => a.1 < b.1) → W[i]? = some p → wget W p.1 = some p.2
  | [], i, p, _, h => by simp at h
  | q :: l, 0, p, _, h => by
    simp at h; subst h
    unfold wget; rw [if_pos rfl]
  | q :: l, i + 1, p, hp, h => by
    rw [List.pairwise_cons] at hp
    have h : l[i]? = some p := by simpa using h
    have := hp.1 p (List.mem_of_getElem? h)
    unfold wget
    rw [if_neg (by omega)]
    exact wget_at hp.2 h
theorem wget_mem {n c : Int} : ∀ {W : Wl}, wget W n = some c → (n, c) ∈ W
  | [], h => by cases h
  | p :: l, h => by
    unfold wget at h
    split at h
    · rename_i e
      cases h
      rw [← e]; exact List.mem_cons_self
    · exact List.mem_cons_of_mem _ (wget_mem h)
theorem wget_cnt {x : Int} (n : Int) : ∀ {W : Wl}, W.Pairwise (fun a b => a.1 < b.1) → wget (cntI x W) n = if n = x then some ((wget W x).getD 0 + 1) else wget W n
  | [], _ => by
    show (if x = n then some 1 else none) = _
    by_cases h : n = x
    · rw [if_pos h.symm, if_pos h]; rfl
    · rw [if_neg (Ne.symm h), if_neg h]; rfl
  | p :: l, hp => by
    rw [List.pairwise_cons] at hp
    unfold cntI
    by_cases h1 : p.1 = x
    · rw [if_pos h1]
      show (if x = n then some (p.2 + 1) else wget l n) = if n = x then some ((if p.1 = x then some p.2 else wget l x).getD 0 + 1) else if p.1 = n then some p.2 else wget l n
      rw [if_pos h1]
      by_cases h : n = x
      · rw [if_pos h.symm, if_pos h]; rfl
      · rw [if_neg (Ne.symm h), if_neg h, if_neg (by omega)]
    · rw [if_neg h1]
      have hnx : wget l x = none ∨ p.1 < x := by
        by_cases h2 : p.1 < x
        · exact .inr h2
        · refine .inl (wget_none.2 fun hm => ?_)
          obtain ⟨q, hq, e⟩ := List.mem_map.1 hm
          have := hp.1 q hq; omega
      by_cases h2 : x < p.1
      · rw [if_pos h2]
        have hn : wget l x = none := by rcases hnx with h | h; exact h; omega
        show (if x = n then some 1 else if p.1 = n then some p.2 else wget l n) = if n = x then some ((if p.1 = x then some p.2 else wget l x).getD 0 + 1) else if p.1 = n then some p.2 else wget l n
        rw [if_neg h1, hn]
        by_cases h : n = x
        · rw [if_pos h.symm, if_pos h]; rfl
        · rw [if_neg (Ne.symm h), if_neg h]
      · rw [if_neg h2]
        show (if p.1 = n then some p.2 else wget (cntI x l) n) = if n = x then some ((if p.1 = x then some p.2 else wget l x).getD 0 + 1) else if p.1 = n then some p.2 else wget l n
        rw [wget_cnt n hp.2, if_neg h1]
        by_cases h : n = x
        · rw [if_pos h, if_pos h, if_neg (by omega)]
        · rw [if_neg h, if_neg h]
theorem mget_none {n : Int} : ∀ {es : List ME}, mget es n = none ↔ n ∉ es.map (·.k)
  | [] => by simp [mget]
  | p :: l => by
    unfold mget
    by_cases h : p.k = n
    · rw [if_pos h]; simp [h]
    · rw [if_neg h, mget_none (es := l)]
      simp [Ne.symm h]
theorem mget_put {x : Int} {v : AV} (n : Int) : ∀ (es : List ME), (mget (mput es x v) n).map (·.v) = if n = x then (mget es x).map fun _ => v else (mget es n).map (·.v)
  | [] => by simp [mput, mget]
  | p :: l => by
    unfold mput
    by_cases h1 : p.k = x
    · rw [if_pos h1]
      show (if p.k = n then some (⟨p.k, v, p.b⟩ : ME) else mget l n).map (·.v) = if n = x then (if p.k = x then some p else mget l x).map (fun _ => v) else (if p.k = n then some p else mget l n).map (·.v)
      rw [if_pos h1]
      by_cases h : n = x
      · rw [if_pos (by omega), if_pos h]; rfl
      · rw [if_neg (by omega), if_neg h, if_neg (by omega)]
    · rw [if_neg h1]
      show (if p.k = n then some p else mget (mput l x v) n).map (·.v) = if n = x then (if p.k = x then some p else mget l x).map (fun _ => v) else (if p.k = n then some p else mget l n).map (·.v)
      rw [if_neg h1]
      by_cases h2 : p.k = n
      · rw [if_pos h2, if_neg (by omega), if_pos h2]
      · rw [if_neg h2, mget_put n l, if_neg h2]
theorem mget_push {y : ME} (n : Int) : ∀ (es : List ME), mget (es ++ [y]) n = (mget es n).orElse fun _ => if y.k = n then some y else none
  | [] => rfl
  | p :: l => by
    show (if p.k = n then some p else mget (l ++ [y]) n) = (if p.k = n then some p else mget l n).orElse _
    by_cases h : p.k = n
    · rw [if_pos h, if_pos h]; rfl
    · rw [if_neg h, if_neg h, mget_push n l]
theorem mput_k {x : Int} {v : AV} : ∀ (es : List ME), (mput es x v).map (·.k) = es.map (·.k)
  | [] => rfl
  | p :: l => by
    unfold mput
    split
    · rfl
    · simp [mput_k l]
/-- The map holds the counts. -/
structure MOk (es : List ME) (cl : Nat) (W : Wl) : Prop where
  b : ∀ x, x ∈ es → x.b < cl
  d : (es.map (·.b)).Nodup
  k : (es.map (·.k)).Nodup
  g : ∀ n, (mget es n).map (·.v) = (wget W n).map fun c => AV.int .i64 c
theorem MOk.nil : MOk [] 0 [] := ⟨fun x hx => by simp at hx, List.nodup_nil, List.nodup_nil, fun n => rfl⟩
theorem MOk.km {es : List ME} {cl : Nat} {W : Wl} (h : MOk es cl W) (z : Int) : z ∈ W.map (·.1) ↔ z ∈ es.map (·.k) := by
  have := h.g z
  constructor
  · intro hz
    refine Classical.byContradiction fun hn => ?_
    rw [mget_none.2 hn] at this
    cases hw : wget W z with
    | none => exact wget_none.1 hw hz
    | some c => rw [hw] at this; cases this
  · intro hz
    refine Classical.byContradiction fun hn => ?_
    rw [wget_none.2 hn] at this
    cases hw : mget es z with
    | none => exact mget_none.1 hw hz
    | some c => rw [hw] at this; cases this
theorem MOk.len {es : List ME} {cl : Nat} {W : Wl} {m : Int} (h : MOk es cl W) (hW : WOk m W) : es.length ≤ 12 := by
  have h1 := hW.len
  have := nodup_len (A := es.map (·.k)) (B := W.map (·.1)) h.k fun a ha => (h.km a).2 ha
  simp at this; omega
theorem MOk.gs {es : List ME} {cl : Nat} {W : Wl} (h : MOk es cl W) {n c : Int} (hw : wget W n = some c) : ∃ k b, mget es n = some ⟨k, .int .i64 c, b⟩ := by
  have := h.g n
  rw [hw] at this
  cases hm : mget es n with
  | none => rw [hm] at this; cases this
  | some x =>
    obtain ⟨k, v, b⟩ := x
    rw [hm] at this
    have : v = .int .i64 c := by simpa using this
    subst this
    exact ⟨k, b, rfl⟩
theorem MOk.gn {es : List ME} {cl : Nat} {W : Wl} (h : MOk es cl W) {n : Int} (hw : wget W n = none) : mget es n = none := by
  have := h.g n
  rw [hw] at this
  cases hm : mget es n with
  | none => rfl
  | some x => rw [hm] at this; cases this
theorem MOk.put {es : List ME} {cl : Nat} {W : Wl} (h : MOk es cl W) (hs : W.Pairwise (fun a b => a.1 < b.1)) {n c : Int} (hw : wget W n = some c) : MOk (mput es n (.int .i64 (c + 1))) cl (cntI n W) := by
  refine ⟨fun x hx => mput_lt h.b x hx, by rw [mput_b]; exact h.d, by rw [mput_k]; exact h.k, fun m => ?_⟩
  rw [mget_put, wget_cnt m hs, hw]
  obtain ⟨k, b, hm⟩ := h.gs hw
  by_cases e : m = n
  · rw [if_pos e, if_pos e, hm]; rfl
  · rw [if_neg e, if_neg e]; exact h.g m
theorem MOk.new {es : List ME} {cl : Nat} {W : Wl} (h : MOk es cl W) (hs : W.Pairwise (fun a b => a.1 < b.1)) {n : Int} (hw : wget W n = none) : MOk (es ++ [⟨n, .int .i64 1, cl⟩]) (cl + 1) (cntI n W) := by
  have hm := h.gn hw
  refine ⟨push_lt h.b, ?_, ?_, fun m => ?_⟩
  · rw [List.map_append, List.nodup_append]
    refine ⟨h.d, by simp, fun a ha z hz => ?_⟩
    obtain ⟨x, hx, rfl⟩ := List.mem_map.1 ha
    have : z = cl := by simpa using hz
    have := h.b x hx; omega
  · rw [List.map_append, List.nodup_append]
    refine ⟨h.k, by simp, fun a ha z hz => ?_⟩
    have : z = n := by simpa using hz
    subst this
    intro e
    exact mget_none.1 hm (e ▸ ha)
  · rw [mget_push, wget_cnt m hs, hw]
    by_cases e : m = n
    · subst e
      rw [if_pos rfl, hm]
      simp
    · rw [if_neg e]
      have := h.g m
      cases hmm : mget es m with
      | none =>
        rw [hmm] at this
        rw [← this]
        simp [Ne.symm e]
      | some x => rw [hmm] at this; exact this
end Go.Proofs.Ytghielfbdpkhmaa
