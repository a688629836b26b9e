/- For the law BlendMix, part 3 of 4: the frame of the walk, the walks of the functions, the plain law, the row. No conditions. -/
import Derived.Test.YtghielfbdpkhmaaBlendMixM2
import Derived.Test.YtghielfbdpkhmaaProg
import Derived.KernelRfl
/- The types that the walks over this translation meet: a table, and that it tells of them what the translation tells. -/
namespace Go.Proofs.Ytghielfbdpkhmaa
open Go.Fw
def tt : TT := [
  (3, ⟨.int .i64, 1, false, [.int .i64 0]⟩),
  (22, ⟨.slice 3 1 8 [.int .i64 0], 1, false, [.nils]⟩),
  (63, ⟨.struct [(0, 1, false), (1, 1, false), (2, 1, false)], 3, true, [.int .i64 0, .nils, .nils]⟩),
  (40, ⟨.struct [(0, 1, false), (1, 1, false), (2, 1, false)], 3, true, [.int .i64 0, .int .i64 0, .int .i64 0]⟩),
  (27, ⟨.int .i64, 1, false, [.int .i64 0]⟩),
  (26, ⟨.slice 25 2 16 [.int .i64 0, .int .i64 0], 1, false, [.nils]⟩),
  (43, ⟨.array 4 40 3 true, 12, true, [.int .i64 0, .int .i64 0, .int .i64 0, .int .i64 0, .int .i64 0, .int .i64 0, .int .i64 0, .int .i64 0, .int .i64 0, .int .i64 0, .int .i64 0, .int .i64 0]⟩),
  (25, ⟨.array 2 3 1 false, 2, true, [.int .i64 0, .int .i64 0]⟩),
  (96, ⟨.int .u64, 1, false, [.int .u64 0]⟩),
  (72, ⟨.array 4 63 3 true, 12, true, [.int .i64 0, .nils, .nils, .int .i64 0, .nils, .nils, .int .i64 0, .nils, .nils, .int .i64 0, .nils, .nils]⟩),
  (58, ⟨.struct [(0, 1, false), (1, 1, false), (2, 1, false), (3, 1, false)], 4, true, [.int .i64 0, .int .i64 0, .int .i64 0, .int .i64 0]⟩),
  (79, ⟨.int .u64, 1, false, [.int .u64 0]⟩),
  (112, ⟨.int .u64, 1, false, [.int .u64 0]⟩),
  (93, ⟨.int .u32, 1, false, [.int .u32 0]⟩),
  (76, ⟨.map 3 false (.int .i64 0) 1, 1, false, [.map none]⟩),
  (116, ⟨.ptr 3, 1, false, [.nilp]⟩),
  (51, ⟨.func, 1, false, [.nilf]⟩),
  (34, ⟨.slice 22 1 24 [.nils], 1, false, [.nils]⟩),
  (5, ⟨.int .u8, 1, false, [.int .u8 0]⟩),
  (56, ⟨.slice 40 3 24 [.int .i64 0, .int .i64 0, .int .i64 0], 1, false, [.nils]⟩),
  (66, ⟨.slice 63 3 56 [.int .i64 0, .nils, .nils], 1, false, [.nils]⟩),
  (87, ⟨.func, 1, false, [.nilf]⟩),
  (83, ⟨.func, 1, false, [.nilf]⟩),
  (103, ⟨.int .i64, 1, false, [.int .i64 0]⟩),
  (9, ⟨.str, 1, false, [.str []]⟩),
  (23, ⟨.func, 1, false, [.nilf]⟩)]
set_option maxRecDepth 100000 in
theorem tt_ok : TT.ok Try.prog tt = true := by kernel_rfl
theorem dok (N : Nat) : DrawOk Try.prog tt N := drawOk_of tt_ok (by kernel_rfl) N
end Go.Proofs.Ytghielfbdpkhmaa
/- The walks of the reference's helpers: Around, Bound, Short, Few, Ints, SameInts, SameBytes; rows changed in one place. -/
namespace Go.Proofs.Ytghielfbdpkhmaa
open Go.Fw Go
set_option linter.unusedVariables false
set_option linter.unusedSimpArgs false

theorem wr_iS {K : IntKind} {a : List Int} {k : Nat} {v : Int} (h : k < a.length) : wrA (iS K a) k [.int K v] = iS K (a.set k v) := by
  unfold wrA
  rw [List.set_eq_take_append_cons_drop, if_pos h]
  simp [iS, List.map_take, List.map_drop]

def aro (n : Int) (m : Nat) : Nat := ((if n < 0 then -(n + 1) else n).tmod m).toNat
theorem aro_lt {n : Int} {m : Nat} (hm : 1 ≤ m) : aro n m < m := by
  unfold aro
  have hlt : ∀ x : Int, 0 ≤ x → x.tmod m < m := fun x h => Int.tmod_lt_of_pos _ (by omega)
  have := hlt (if n < 0 then -(n + 1) else n) (by split <;> omega)
  omega

set_option maxRecDepth 8000 in
theorem around_f (n : Int) (h1 : -9223372036854775808 ≤ n) (h2 : n ≤ 9223372036854775807) (m : Nat) (hm : 1 ≤ m) (hm2 : m ≤ 1000000) (H : AH) :
    ACall Try.prog 13 [.int .i64 n, .int .i64 m] H (fun y H' => y = .int .i64 (aro n m) ∧ H' = H) := by
  unfold aro
  by_cases hn : n < 0
  · have hp : 0 ≤ (-(n + 1)).tmod m := Int.tmod_nonneg _ (by omega)
    rw [if_pos hn, Int.toNat_of_nonneg hp]
    refine ACall_of tt_ok (dok _) Try.func13 rfl (by decide) rfl ?_
    (repeat' ((conv => whnf); first | refine Then.mk ?_ | refine OpsA.cons ?_ | refine OpsA.nil ?_ | refine AWq.seq ?_ | refine AWq.region ?_ | refine AWq.cond ?_ | refine AWq.skip ?_ | refine AWq.ret ?_ | (refine Both.mk ?_ ?_ <;> intro hc <;> (first | exact Bool.noConfusion hc | exact absurd (by assumption) hc | exact absurd hc (by assumption) | skip)) | (intro c hc; (try (simp only [AH.none_iff] at hc; repeat (have hn := hc.1; replace hc := hc.2))); (first | (refine i64_k hc ?_ ?_ ?_ ; omega; omega; (clear hc; intro hc; subst hc)) | subst hc | skip)) | (apply And.intro; (first | rfl | omega | (simp <;> fail))))) <;> (try (conv => whnf))
  · have hp : 0 ≤ n.tmod m := Int.tmod_nonneg _ (by omega)
    rw [if_neg hn, Int.toNat_of_nonneg hp]
    refine ACall_of tt_ok (dok _) Try.func13 rfl (by decide) rfl ?_
    (repeat' ((conv => whnf); first | refine Then.mk ?_ | refine OpsA.cons ?_ | refine OpsA.nil ?_ | refine AWq.seq ?_ | refine AWq.region ?_ | refine AWq.cond ?_ | refine AWq.skip ?_ | refine AWq.ret ?_ | (refine Both.mk ?_ ?_ <;> intro hc <;> (first | exact Bool.noConfusion hc | exact absurd (by assumption) hc | exact absurd hc (by assumption) | skip)) | (intro c hc; (try (simp only [AH.none_iff] at hc; repeat (have hn := hc.1; replace hc := hc.2))); (first | (refine i64_k hc ?_ ?_ ?_ ; omega; omega; (clear hc; intro hc; subst hc)) | subst hc | skip)) | (apply And.intro; (first | rfl | omega | (simp <;> fail))))) <;> (try (conv => whnf))

end Go.Proofs.Ytghielfbdpkhmaa
/- The walks of the reference's helpers, on: Pick, SameInts beside a row. -/
namespace Go.Proofs.Ytghielfbdpkhmaa
open Go.Fw Go
set_option linter.unusedVariables false
set_option linter.unusedSimpArgs false

def pickV (l : List Int) (i : Int) (m : Nat) : Nat := if 0 ≤ i ∧ i < l.length then aro (l.getD i.toNat 0) m else 0
theorem pickV_lt {l : List Int} {i : Int} {m : Nat} (hm : 1 ≤ m) : pickV l i m < m := by
  unfold pickV
  split
  · exact aro_lt hm
  · omega
set_option maxRecDepth 8000 in
theorem pick_f (l : List Int) (hl : ∀ n ∈ l, -9223372036854775808 ≤ n ∧ n ≤ 9223372036854775807) (hll : l.length ≤ 9223372036854775807) (i : Int) (hi : -9223372036854775808 ≤ i ∧ i ≤ 9223372036854775807) (m : Nat) (hm : 1 ≤ m) (hm2 : m ≤ 1000000) (H : AH) :
    ACall Try.prog 20 [.cs (iS .i64 l) l.length, .int .i64 i, .int .i64 m] H (fun y H' => y = .int .i64 (pickV l i m) ∧ H' = H) := by
  unfold pickV
  by_cases h0 : i < 0
  · rw [if_neg (by omega)]
    refine ACall_of tt_ok (dok _) Try.func20 rfl (by decide) rfl ?_
    (repeat' ((conv => whnf); first | refine Then.mk ?_ | refine OpsA.cons ?_ | refine OpsA.nil ?_ | refine AWq.seq ?_ | refine AWq.region ?_ | refine AWq.cond ?_ | refine AWq.skip ?_ | refine AWq.ret ?_ | (refine Both.mk ?_ ?_ <;> intro hc <;> (first | exact Bool.noConfusion hc | exact absurd (by assumption) hc | exact absurd hc (by assumption) | (exfalso; omega) | skip)) | (apply Exists.intro; apply And.intro; first | (with_reducible assumption) | ((try simp only [List.getElem?_drop, Nat.mul_one, Nat.add_zero, Nat.zero_add]); first | (with_reducible assumption) | rfl)) | (apply And.intro; (first | rfl | (with_reducible assumption) | omega)))) <;> (try (conv => whnf))
  · by_cases h1 : i < l.length
    · rw [if_pos (by omega)]
      have hg : (iS .i64 l)[i.toNat]? = some (.int .i64 (l.getD i.toNat 0)) := iS_get (by omega)
      have hb : -9223372036854775808 ≤ l.getD i.toNat 0 ∧ l.getD i.toNat 0 ≤ 9223372036854775807 := by
        have hlt : i.toNat < l.length := by omega
        have : l.getD i.toNat 0 = l[i.toNat] := by rw [List.getD_eq_getElem?_getD, List.getElem?_eq_getElem hlt]; rfl
        rw [this]; exact hl _ (List.getElem_mem hlt)
      generalize l.getD i.toNat 0 = x at *
      have ha := fun H => around_f x hb.1 hb.2 m hm hm2 H
      have hil : (iS .i64 l).length = l.length := by simp
      refine ACall_of tt_ok (dok _) Try.func20 rfl (by decide) rfl ?_
      (repeat' ((conv => whnf); first | refine Then.mk ?_ | refine OpsA.cons ?_ | refine OpsA.nil ?_ | refine AWq.seq ?_ | refine AWq.region ?_ | refine AWq.cond ?_ | refine AWq.skip ?_ | refine AWq.ret ?_ | (refine Both.mk ?_ ?_ <;> intro hc <;> (first | exact Bool.noConfusion hc | exact absurd (by assumption) hc | exact absurd hc (by assumption) | (exfalso; omega) | skip)) | (apply Exists.intro; apply And.intro; first | (with_reducible assumption) | ((try simp only [List.getElem?_drop, Nat.mul_one, Nat.add_zero, Nat.zero_add]); first | (with_reducible assumption) | rfl)) | (apply And.intro; (first | rfl | (with_reducible assumption) | omega)) | (refine ACall.to (ha _) ?_))) <;> (try (conv => whnf))
    · rw [if_neg (by omega)]
      refine ACall_of tt_ok (dok _) Try.func20 rfl (by decide) rfl ?_
      (repeat' ((conv => whnf); first | refine Then.mk ?_ | refine OpsA.cons ?_ | refine OpsA.nil ?_ | refine AWq.seq ?_ | refine AWq.region ?_ | refine AWq.cond ?_ | refine AWq.skip ?_ | refine AWq.ret ?_ | (refine Both.mk ?_ ?_ <;> intro hc <;> (first | exact Bool.noConfusion hc | exact absurd (by assumption) hc | exact absurd hc (by assumption) | (exfalso; omega) | skip)) | (apply Exists.intro; apply And.intro; first | (with_reducible assumption) | ((try simp only [List.getElem?_drop, Nat.mul_one, Nat.add_zero, Nat.zero_add]); first | (with_reducible assumption) | rfl)) | (apply And.intro; (first | rfl | (with_reducible assumption) | omega)))) <;> (try (conv => whnf))

end Go.Proofs.Ytghielfbdpkhmaa
/- Rows of structs; lists. -/
namespace Go.Proofs.Ytghielfbdpkhmaa
open Go.Fw Go
set_option linter.unusedVariables false
set_option linter.unusedSimpArgs false

/-- Cells of a list, k for each element. -/
def fL {α : Type} (f : α → List AV) (l : List α) : List AV := l.flatMap f
section flat
variable {α : Type} {f : α → List AV} {k : Nat} (hk : ∀ a, (f a).length = k)
include hk
theorem fL_len (l : List α) : (fL f l).length = l.length * k := by
  induction l with
  | nil => simp [fL]
  | cons a l ih => simp only [fL, List.flatMap_cons, List.length_append, List.length_cons] at ih ⊢; rw [ih, hk, Nat.succ_mul]; omega
end flat
theorem fL_snoc {α : Type} (f : α → List AV) (l : List α) (a : α) : fL f l ++ f a = fL f (l ++ [a]) := by simp [fL]
/-- A list of a function. -/
def fnL {β : Type} (n : Nat) (g : Nat → β) : List β := (List.range n).map g
@[simp] theorem fnL_len {β : Type} (n : Nat) (g : Nat → β) : (fnL n g).length = n := by simp [fnL]
theorem fnL_snoc {β : Type} (n : Nat) (g : Nat → β) : fnL (n + 1) g = fnL n g ++ [g n] := by simp [fnL, List.range_succ]

/-- Numbers of a function. -/
def dL (n : Nat) (d : Nat → Int) : List AV := iS .i64 (fnL n d)
@[simp] theorem dL_len (n : Nat) (d : Nat → Int) : (dL n d).length = n := by simp [dL]
theorem iS_wr1 {a : List Int} {k : Nat} {v : Int} (h : k < a.length) : wrA (iS .i64 a) k [.int .i64 v] = iS .i64 (a.set k v) := by
  unfold wrA
  rw [List.set_eq_take_append_cons_drop, if_pos h]
  simp [iS, List.map_take, List.map_drop]
@[simp] theorem wrA1_len (l : List AV) (k : Nat) (v : AV) : (wrA l k [v]).length = min k l.length + 1 + (l.length - (k + 1)) := by simp [wrA]; omega
theorem take_snoc {α : Type} {l : List α} {i : Nat} {x : α} (h : l[i]? = some x) : l.take (i + 1) = l.take i ++ [x] := by
  rw [List.take_add_one, h]; rfl
theorem getD_mem {l : List Int} {i : Nat} (h : i < l.length) : l.getD i 0 ∈ l := by
  rw [List.getD_eq_getElem?_getD, List.getElem?_eq_getElem h]; exact List.getElem_mem h
end Go.Proofs.Ytghielfbdpkhmaa
/- The walks of slices.Sort for short lists. -/
namespace Go.Proofs.Ytghielfbdpkhmaa
open Go.Fw Go
set_option linter.unusedVariables false
set_option linter.unusedSimpArgs false

/-- A number put behind all that are not greater. -/
def insI (x : Int) : List Int → List Int
  | [] => [x]
  | y :: l => if y ≤ x then y :: insI x l else x :: y :: l
def sortI (l : List Int) : List Int := l.foldl (fun a x => insI x a) []
def Srt : List Int → Prop
  | [] => True
  | x :: l => (∀ y ∈ l, x ≤ y) ∧ Srt l
@[simp] theorem insI_len (x : Int) (l : List Int) : (insI x l).length = l.length + 1 := by
  induction l with
  | nil => rfl
  | cons y l ih => unfold insI; split <;> simp [ih]
theorem insI_mem {x z : Int} {l : List Int} : z ∈ insI x l ↔ z = x ∨ z ∈ l := by
  induction l with
  | nil => simp [insI]
  | cons y l ih =>
    unfold insI; split
    · simp only [List.mem_cons, ih]; exact ⟨fun h => by rcases h with h | h | h <;> simp [h], fun h => by rcases h with h | h | h <;> simp [h]⟩
    · simp only [List.mem_cons]
theorem insI_srt {x : Int} {l : List Int} (h : Srt l) : Srt (insI x l) := by
  induction l with
  | nil => exact ⟨fun y hy => by simp at hy, trivial⟩
  | cons y l ih =>
    unfold insI; split
    · refine ⟨fun z hz => ?_, ih h.2⟩
      rcases insI_mem.1 hz with rfl | hz
      · assumption
      · exact h.1 z hz
    · refine ⟨fun z hz => ?_, h⟩
      rcases List.mem_cons.1 hz with rfl | hz
      · omega
      · have := h.1 z hz; omega
theorem sortI_snoc (l : List Int) (x : Int) : sortI (l ++ [x]) = insI x (sortI l) := by unfold sortI; rw [List.foldl_append]; rfl
theorem sortI_all : ∀ (k : List Int), Srt (sortI k.reverse) ∧ (sortI k.reverse).length = k.length ∧ ∀ z, z ∈ sortI k.reverse ↔ z ∈ k
  | [] => ⟨trivial, rfl, fun z => by simp [sortI]⟩
  | x :: k => by
    obtain ⟨h1, h2, h3⟩ := sortI_all k
    rw [List.reverse_cons, sortI_snoc]
    refine ⟨insI_srt h1, by rw [insI_len, h2]; rfl, fun z => ?_⟩
    rw [insI_mem, h3, List.mem_cons]
theorem sortI_srt (l : List Int) : Srt (sortI l) := by have := (sortI_all l.reverse).1; rwa [List.reverse_reverse] at this
@[simp] theorem sortI_len (l : List Int) : (sortI l).length = l.length := by have := (sortI_all l.reverse).2.1; rwa [List.reverse_reverse, List.length_reverse] at this
theorem sortI_mem {l : List Int} {z : Int} : z ∈ sortI l ↔ z ∈ l := by have := (sortI_all l.reverse).2.2 z; rwa [List.reverse_reverse, List.mem_reverse] at this
/-- Where a number belongs: all before it are not greater, the next one is. -/
theorem insI_at {x : Int} : ∀ {A B : List Int}, (∀ a ∈ A, a ≤ x) → (∀ b, B.head? = some b → x < b) → insI x (A ++ B) = A ++ x :: B
  | [], [], _, _ => rfl
  | [], b :: B, _, h => by
    have := h b rfl
    show (if b ≤ x then _ else _) = _
    rw [if_neg (by omega)]; rfl
  | a :: A, B, h, k => by
    show (if a ≤ x then _ else _) = _
    rw [if_pos (h a (by simp)), show insI x (List.append A B) = A ++ x :: B from insI_at (fun y hy => h y (by simp [hy])) k]
    rfl
theorem Srt.append {A B : List Int} : Srt (A ++ B) → Srt A ∧ Srt B := by
  induction A with
  | nil => exact fun h => ⟨trivial, h⟩
  | cons a A ih => exact fun h => ⟨⟨fun y hy => h.1 y (by simp [hy]), (ih h.2).1⟩, (ih h.2).2⟩
theorem Srt.last {A : List Int} (h : Srt A) {j : Nat} (hj : j + 1 = A.length) {a : Int} (ha : A[j]? = some a) : ∀ z ∈ A, z ≤ a := by
  induction A generalizing j with
  | nil => simp at hj
  | cons b A ih =>
    intro z hz
    cases j with
    | zero =>
      have : A = [] := by simpa using hj
      subst this
      simp at ha hz; omega
    | succ j =>
      have ha' : A[j]? = some a := by simpa using ha
      rcases List.mem_cons.1 hz with rfl | hz
      · exact h.1 a (List.mem_of_getElem? ha')
      · exact ih h.2 (by simpa using hj) ha' z hz

set_option maxRecDepth 8000 in
theorem isnan_c (x : Int) (H : AH) : ACall Try.prog 86 [.int .i64 x] H (fun y H' => y = .bool false ∧ H' = H) := by
  refine ACall_of tt_ok (dok _) Try.func86 rfl (by decide) rfl ?_
  (repeat' ((conv => whnf); first | refine Then.mk ?_ | refine OpsA.cons ?_ | refine OpsA.nil ?_ | refine AWq.seq ?_ | refine AWq.region ?_ | refine AWq.ret ?_ | (refine Both.mk ?_ ?_ <;> intro hc <;> (first | exact absurd (by with_reducible rfl) hc | skip)) | (apply And.intro; (first | rfl)))) <;> (try (conv => whnf))
set_option maxRecDepth 8000 in
theorem less_c (x y : Int) (H : AH) : ACall Try.prog 76 [.int .i64 x, .int .i64 y] H (fun z H' => z = .bool (decide (x < y)) ∧ H' = H) := by
  by_cases h : x < y
  · rw [decide_eq_true h]
    refine ACall_of tt_ok (dok _) Try.func76 rfl (by decide) rfl ?_
    (repeat' ((conv => whnf); first | refine Then.mk ?_ | refine OpsA.cons ?_ | refine OpsA.nil ?_ | refine AWq.seq ?_ | refine AWq.region ?_ | refine AWq.ret ?_ | (refine Both.mk ?_ ?_ <;> intro hc <;> (first | exact absurd (by assumption) hc | exact absurd hc (by assumption) | skip)) | (apply And.intro; (first | rfl)) | (refine ACall.to (isnan_c _ _) ?_))) <;> (try (conv => whnf))
  · rw [decide_eq_false h]
    refine ACall_of tt_ok (dok _) Try.func76 rfl (by decide) rfl ?_
    (repeat' ((conv => whnf); first | refine Then.mk ?_ | refine OpsA.cons ?_ | refine OpsA.nil ?_ | refine AWq.seq ?_ | refine AWq.region ?_ | refine AWq.ret ?_ | (refine Both.mk ?_ ?_ <;> intro hc <;> (first | exact absurd (by assumption) hc | exact absurd hc (by assumption) | skip)) | (apply And.intro; (first | rfl)) | (refine ACall.to (isnan_c _ _) ?_))) <;> (try (conv => whnf))
set_option maxRecDepth 8000 in
theorem len64s_c (u : Nat) (hu : u ≤ 12) (H : AH) : ACall Try.prog 80 [.int .u64 u] H (fun y H' => ∃ k : Int, y = .int .i64 k ∧ H' = H) := by
  rcases (show u = 0 ∨ u = 1 ∨ u = 2 ∨ u = 3 ∨ u = 4 ∨ u = 5 ∨ u = 6 ∨ u = 7 ∨ u = 8 ∨ u = 9 ∨ u = 10 ∨ u = 11 ∨ u = 12 by omega) with rfl | rfl | rfl | rfl | rfl | rfl | rfl | rfl | rfl | rfl | rfl | rfl | rfl
  all_goals
    refine ACall_of tt_ok (dok _) Try.func80 rfl (by decide) rfl ?_
    (repeat' ((conv => whnf); first | refine Then.mk ?_ | refine OpsA.cons ?_ | refine OpsA.nil ?_ | refine AWq.seq ?_ | refine AWq.region ?_ | refine AWq.cond ?_ | refine AWq.skip ?_ | refine AWq.ret ?_ | (refine Both.mk ?_ ?_ <;> intro hc <;> (first | exact Bool.noConfusion hc | (exfalso; omega) | skip)) | (intro c hc; (try (simp only [AH.none_iff] at hc; repeat (have hn := hc.1; replace hc := hc.2))); (first | (refine u8_k hc ?_ ?_ ?_ ; omega; omega; (clear hc; intro hc; subst hc)) | subst hc | skip)) | (apply Exists.intro; apply And.intro; first | ((try simp only [List.getElem?_drop, Nat.mul_one, Nat.add_zero, Nat.zero_add]); first | rfl)) | (apply And.intro; (first | rfl | omega | (simp <;> fail))))) <;> (try (conv => whnf))
set_option maxRecDepth 8000 in
theorem lens_c (u : Nat) (hu : u ≤ 12) (H : AH) : ACall Try.prog 69 [.int .u64 u] H (fun y H' => ∃ k : Int, y = .int .i64 k ∧ H' = H) := by
  refine ACall_of tt_ok (dok _) Try.func69 rfl (by decide) rfl ?_
  (repeat' ((conv => whnf); first | refine Then.mk ?_ | refine OpsA.cons ?_ | refine OpsA.nil ?_ | refine AWq.seq ?_ | refine AWq.region ?_ | refine AWq.cond ?_ | refine AWq.skip ?_ | refine AWq.ret ?_ | (refine Both.mk ?_ ?_ <;> intro hc <;> (first | exact Bool.noConfusion hc | skip)) | (apply Exists.intro; apply And.intro; first | ((try simp only [List.getElem?_drop, Nat.mul_one, Nat.add_zero, Nat.zero_add]); first | rfl)) | (apply And.intro; (first | rfl)))) <;> (try (conv => whnf))
  refine (len64s_c u hu _).mono ?_
  rintro y H' ⟨k, rfl, rfl⟩
  (repeat' ((conv => whnf); first | refine Then.mk ?_ | refine OpsA.cons ?_ | refine OpsA.nil ?_ | refine AWq.seq ?_ | refine AWq.region ?_ | refine AWq.cond ?_ | refine AWq.skip ?_ | refine AWq.ret ?_ | (refine Both.mk ?_ ?_ <;> intro hc <;> (first | exact Bool.noConfusion hc | skip)) | (apply Exists.intro; apply And.intro; first | ((try simp only [List.getElem?_drop, Nat.mul_one, Nat.add_zero, Nat.zero_add]); first | rfl)) | (apply And.intro; (first | rfl)))) <;> (try (conv => whnf))

/-- A list while a number moves to its place. -/
def mvI (S : List Int) (x : Int) (R : List Int) (j : Nat) : List Int := S.take j ++ x :: (S.drop j ++ R)
theorem mvI_len {S : List Int} {x : Int} {R : List Int} {j : Nat} (hj : j ≤ S.length) : (mvI S x R j).length = S.length + 1 + R.length := by
  unfold mvI; simp only [List.length_append, List.length_cons, List.length_take, List.length_drop]; omega
theorem mvI_at {S : List Int} {x : Int} {R : List Int} {j : Nat} (hj : j ≤ S.length) : (mvI S x R j).getD j 0 = x := by
  unfold mvI
  rw [List.getD_eq_getElem?_getD, List.getElem?_append_right (by rw [List.length_take]; omega), List.length_take, Nat.min_eq_left hj, Nat.sub_self]; rfl
theorem mvI_pr {S : List Int} {x : Int} {R : List Int} {j : Nat} (hj : j + 1 ≤ S.length) : (mvI S x R (j + 1)).getD j 0 = S.getD j 0 := by
  unfold mvI
  rw [List.getD_eq_getElem?_getD, List.getElem?_append_left (by rw [List.length_take]; omega), List.getElem?_take_of_lt (by omega), List.getD_eq_getElem?_getD]
theorem mvI_step {S : List Int} {x : Int} {R : List Int} {j : Nat} (hj : j + 1 ≤ S.length) : ((mvI S x R (j + 1)).set (j + 1) (S.getD j 0)).set j x = mvI S x R j := by
  have hg : S[j]? = some (S.getD j 0) := by rw [List.getD_eq_getElem?_getD, List.getElem?_eq_getElem (show j < S.length by omega)]; rfl
  have hd : S.drop j = S.getD j 0 :: S.drop (j + 1) := by
    rw [List.drop_eq_getElem_cons (show j < S.length by omega), List.getD_eq_getElem?_getD, List.getElem?_eq_getElem (show j < S.length by omega)]; rfl
  unfold mvI
  rw [take_snoc hg, hd]
  have hl : (S.take j).length = j := by rw [List.length_take]; omega
  generalize S.take j = A at *
  generalize S.getD j 0 = z
  generalize S.drop (j + 1) = B
  subst hl
  rw [List.append_assoc, List.set_append_right (h := by omega), List.set_append_right (h := by omega)]
  simp
set_option maxHeartbeats 4000000 in
set_option maxRecDepth 8000 in
theorem insort_c (l : List Int) (hl : l.length ≤ 12) (r v : Nat) (H : AH) (hr : H r = some (.row (iS .i64 l) v)) :
    ACall Try.prog 70 [.sl r v 1 0 l.length none, .int .i64 0, .int .i64 l.length] H (fun y H' => y = .tup [] ∧ H' = H.set r (.row (iS .i64 (sortI l)) v)) := by
  refine ACall_of tt_ok (dok _) Try.func70 rfl (by decide) rfl ?_
  (repeat' ((conv => whnf); first | refine Then.mk ?_ | refine OpsA.cons ?_ | refine OpsA.nil ?_ | refine AWq.seq ?_ | refine AWq.region ?_ | refine AWq.cond ?_ | refine AWq.block ?_ | refine AWq.skip ?_ | refine AWq.exit ?_ | refine AWq.loop ?_ | refine DrawA.consD ?_ | refine DrawA.nil ?_ | refine AWq.draw (by decide +kernel) ?_ | (refine Both.mk ?_ ?_ <;> intro hc <;> (first | exact Bool.noConfusion hc | (exfalso; omega) | skip)) | (intro c hc; (try (simp only [AH.none_iff] at hc; repeat (have hn := hc.1; replace hc := hc.2))); (first | (refine i64_k hc ?_ ?_ ?_ ; omega; omega; (clear hc; intro hc; subst hc)) | skip)) | (apply Exists.intro; apply And.intro; (first | (focus (repeat (first | (with_reducible assumption) | (with_reducible exact AH.set_same _ _ _))); done))) | (apply Exists.intro; apply And.intro; first | (with_reducible assumption) | ((try simp only [List.getElem?_drop, Nat.mul_one, Nat.add_zero, Nat.zero_add]); first | (with_reducible assumption) | rfl)) | (apply And.intro; (first | rfl | (with_reducible assumption) | omega | (simp <;> omega))))) <;> (try (conv => whnf))
  refine AWp_loop (σ := Nat) (6 :: 7 :: 10 :: 11 :: 12 :: 13 :: 14 :: 15 :: 16 :: 17 :: 18 :: 19 :: 20 :: 21 :: 22 :: 23 :: 24 :: 25 :: 26 :: 27 :: 28 :: 29 :: 30 :: 31 :: 32 :: 33 :: 34 :: 35 :: 36 :: 37 :: 38 :: 39 :: 40 :: 41 :: 42 :: 43 :: 44 :: 45 :: 46 :: 47 :: 48 :: []) (fun i => [(6, .int .i64 i)]) (fun i => H.set r (.row (iS .i64 (sortI (l.take i) ++ l.drop i)) v)) (fun i => 1 ≤ i ∧ (i ≤ l.length ∨ l = [] ∧ i = 1)) (fun i => l.length - i) 1 rfl ?_ ⟨rfl, trivial⟩ ?_ ?_
  · rcases l with _ | ⟨x, l⟩
    · exact ⟨by decide, .inr ⟨rfl, rfl⟩⟩
    · exact ⟨by decide, .inl (by simp)⟩
  · have h1 : sortI (l.take 1) ++ l.drop 1 = l := by rcases l with _ | ⟨x, l⟩ <;> rfl
    rw [h1, AH.set_id hr]; exact HLe.refl _
  rintro i ⟨hi1, hi⟩
  refine AWp.of tt_ok (dok _) rfl ?_
  dsimp only at hi ⊢
  by_cases hlt : i < l.length
  · obtain ⟨x, hx⟩ : ∃ x, l[i]? = some x := ⟨_, List.getElem?_eq_getElem hlt⟩
    have hdx : l.drop i = x :: l.drop (i + 1) := by
      rw [List.drop_eq_getElem_cons hlt]; congr 1
      rw [List.getElem?_eq_getElem hlt] at hx; exact Option.some.inj hx
    have htx : l.take (i + 1) = l.take i ++ [x] := take_snoc hx
    have hSl : (sortI (l.take i)).length = i := by rw [sortI_len, List.length_take]; omega
    have hSs := sortI_srt (l.take i)
    have hfin : sortI (l.take (i + 1)) = insI x (sortI (l.take i)) := by rw [htx, sortI_snoc]
    have hRl : (l.drop (i + 1)).length = l.length - (i + 1) := List.length_drop
    rw [hdx]
    generalize sortI (l.take i) = S at *
    generalize hRd : l.drop (i + 1) = R at *
    clear htx hdx hx
    generalize hP : sortI (l.take (i + 1)) = P at *
    (repeat' ((conv => whnf); first | refine Then.mk ?_ | refine OpsA.cons ?_ | refine OpsA.nil ?_ | refine AWq.seq ?_ | refine AWq.region ?_ | refine AWq.cond ?_ | refine AWq.block ?_ | refine AWq.skip ?_ | refine AWq.exit ?_ | refine AWq.loop ?_ | refine DrawA.consD ?_ | refine DrawA.nil ?_ | refine AWq.draw (by decide +kernel) ?_ | (refine Both.mk ?_ ?_ <;> intro hc <;> (first | exact Bool.noConfusion hc | (exfalso; omega) | skip)) | (intro c hc; (try (simp only [AH.none_iff] at hc; repeat (have hn := hc.1; replace hc := hc.2))); (first | (refine i64_k hc ?_ ?_ ?_ ; omega; omega; (clear hc; intro hc; subst hc)) | skip)) | (apply Exists.intro; apply And.intro; (first | (focus (repeat (first | (with_reducible assumption) | (with_reducible exact AH.set_same _ _ _))); done))) | (apply Exists.intro; apply And.intro; first | (with_reducible assumption) | ((try simp only [List.getElem?_drop, Nat.mul_one, Nat.add_zero, Nat.zero_add]); first | (with_reducible assumption) | rfl)) | (apply And.intro; (first | rfl | (with_reducible assumption) | omega | (simp <;> omega))))) <;> (try (conv => whnf))
    refine AWp_loop (σ := Nat) (7 :: 16 :: 17 :: 18 :: 19 :: 20 :: 21 :: 22 :: 23 :: 24 :: 25 :: 26 :: 27 :: 28 :: 29 :: 30 :: 31 :: 32 :: 33 :: 34 :: 35 :: 36 :: 37 :: 38 :: 39 :: 40 :: 41 :: 42 :: 43 :: 44 :: 45 :: 46 :: 47 :: 48 :: []) (fun j => [(7, .int .i64 j), (6, .int .i64 i)]) (fun j => H.set r (.row (iS .i64 (mvI S x R j)) v)) (fun j => j ≤ i ∧ ∀ b ∈ S.drop j, x < b) (fun j => j) i rfl ⟨Nat.le_refl _, ?_⟩ ⟨rfl, rfl, trivial⟩ ?_ ?_
    · intro b hb
      rw [List.drop_of_length_le (by omega)] at hb
      simp at hb
    · unfold mvI
      rw [List.take_of_length_le (by omega), List.drop_of_length_le (by omega), List.nil_append]
      exact HLe.refl _
    rintro j ⟨hj, hjb⟩
    refine AWp.of tt_ok (dok _) rfl ?_
    dsimp only
    have hml := mvI_len (S := S) (x := x) (R := R) (j := j) (by omega)
    have hil := iS_length .i64 (mvI S x R j)
    have hgr : (H.set r (.row (iS .i64 (mvI S x R j)) v)) r = some (.row (iS .i64 (mvI S x R j)) v) := AH.set_same _ _ _
    rcases j with _ | j
    · (repeat' ((conv => whnf); first | refine Then.mk ?_ | refine OpsA.cons ?_ | refine OpsA.nil ?_ | refine AWq.seq ?_ | refine AWq.region ?_ | refine AWq.cond ?_ | refine AWq.block ?_ | refine AWq.skip ?_ | refine AWq.exit ?_ | refine AWq.loop ?_ | refine DrawA.consD ?_ | refine DrawA.nil ?_ | refine AWq.draw (by decide +kernel) ?_ | (refine Both.mk ?_ ?_ <;> intro hc <;> (first | exact Bool.noConfusion hc | (exfalso; omega) | skip)) | (intro c hc; (try (simp only [AH.none_iff] at hc; repeat (have hn := hc.1; replace hc := hc.2))); (first | (refine i64_k hc ?_ ?_ ?_ ; omega; omega; (clear hc; intro hc; subst hc)) | skip)) | (apply Exists.intro; apply And.intro; (first | (focus (repeat (first | (with_reducible assumption) | (with_reducible exact AH.set_same _ _ _))); done))) | (apply Exists.intro; apply And.intro; first | (with_reducible assumption) | ((try simp only [List.getElem?_drop, Nat.mul_one, Nat.add_zero, Nat.zero_add]); first | (with_reducible assumption) | rfl)) | (apply And.intro; (first | rfl | (with_reducible assumption) | omega | (simp <;> omega))))) <;> (try (conv => whnf))
      refine ⟨i + 1, ⟨by omega, .inl hlt⟩, show l.length - (i + 1) < l.length - i by omega, ⟨rfl, trivial⟩, HLe.of_eq ?_⟩
      rw [hP, hfin]
      have := insI_at (x := x) (A := []) (B := S) (fun a ha => by simp at ha) (fun b hb => hjb b (by rw [List.drop_zero]; exact List.mem_of_mem_head? hb))
      rw [List.nil_append] at this
      rw [this, hRd]; rfl
    · have g1 : (iS .i64 (mvI S x R (j + 1)))[((j + 1 : Nat) : Int).toNat]? = some (.int .i64 x) := by
        have := iS_get (k := .i64) (l := mvI S x R (j + 1)) (i := j + 1) (by omega)
        rw [mvI_at (by omega)] at this
        exact this
      have g2 : (iS .i64 (mvI S x R (j + 1)))[(((j + 1 : Nat) : Int) - 1).toNat]? = some (.int .i64 (S.getD j 0)) := by
        rw [show (((j + 1 : Nat) : Int) - 1).toNat = j by omega]
        have := iS_get (k := .i64) (l := mvI S x R (j + 1)) (i := j) (by omega)
        rw [mvI_pr (by omega)] at this
        exact this
      have w1 := wr_iS (K := .i64) (a := mvI S x R (j + 1)) (k := j + 1) (v := S.getD j 0) (by omega)
      have w2 := wr_iS (K := .i64) (a := (mvI S x R (j + 1)).set (j + 1) (S.getD j 0)) (k := j) (v := x) (by rw [List.length_set]; omega)
      rw [mvI_step (by omega), ← w1] at w2
      by_cases hlt2 : x < S.getD j 0
      · have ls := fun H => less_c x (S.getD j 0) H
        rw [decide_eq_true hlt2] at ls
        (repeat' ((conv => whnf); first | refine Then.mk ?_ | refine OpsA.cons ?_ | refine OpsA.nil ?_ | refine AWq.seq ?_ | refine AWq.region ?_ | refine AWq.cond ?_ | refine AWq.block ?_ | refine AWq.skip ?_ | refine AWq.exit ?_ | refine AWq.loop ?_ | refine DrawA.consD ?_ | refine DrawA.nil ?_ | refine AWq.draw (by decide +kernel) ?_ | (apply Exists.intro; apply And.intro; exact ls _) | (refine Both.mk ?_ ?_ <;> intro hc <;> (first | exact Bool.noConfusion hc | (exfalso; omega) | skip)) | (intro c hc; (try (simp only [AH.none_iff] at hc; repeat (have hn := hc.1; replace hc := hc.2))); (first | (refine i64_k hc ?_ ?_ ?_ ; omega; omega; (clear hc; intro hc; subst hc)) | skip)) | (apply Exists.intro; apply And.intro; (first | (focus (repeat (first | (with_reducible assumption) | (with_reducible exact AH.set_same _ _ _))); done))) | (apply Exists.intro; apply And.intro; first | (with_reducible assumption) | ((try simp only [List.getElem?_drop, Nat.mul_one, Nat.add_zero, Nat.zero_add]); first | (with_reducible assumption) | rfl)) | (apply And.intro; (first | rfl | (with_reducible assumption) | omega | (simp <;> omega))))) <;> (try (conv => whnf))
        refine ⟨j, ⟨by omega, fun b hb => ?_⟩, Nat.lt_succ_self j, ⟨congrArg (AV.int .i64) (by omega), rfl, trivial⟩, HLe.of_eq ?_⟩
        · rw [List.drop_eq_getElem_cons (show j < S.length by omega)] at hb
          rcases List.mem_cons.1 hb with rfl | hb
          · rw [List.getD_eq_getElem?_getD, List.getElem?_eq_getElem (show j < S.length by omega)] at hlt2; exact hlt2
          · exact hjb b hb
        · rw [AH.set_set, AH.set_set, show 0 + ((j + 1 : Nat) : Int).toNat * 1 = j + 1 by omega, show 0 + (((j + 1 : Nat) : Int) - 1).toNat * 1 = j by omega]; exact congrArg (fun z => H.set r (.row z v)) w2.symm
      · have hle : S.getD j 0 ≤ x := by omega
        have ls := fun H => less_c x (S.getD j 0) H
        rw [decide_eq_false hlt2] at ls
        (repeat' ((conv => whnf); first | refine Then.mk ?_ | refine OpsA.cons ?_ | refine OpsA.nil ?_ | refine AWq.seq ?_ | refine AWq.region ?_ | refine AWq.cond ?_ | refine AWq.block ?_ | refine AWq.skip ?_ | refine AWq.exit ?_ | refine AWq.loop ?_ | refine DrawA.consD ?_ | refine DrawA.nil ?_ | refine AWq.draw (by decide +kernel) ?_ | (apply Exists.intro; apply And.intro; exact ls _) | (refine Both.mk ?_ ?_ <;> intro hc <;> (first | exact Bool.noConfusion hc | (exfalso; omega) | skip)) | (intro c hc; (try (simp only [AH.none_iff] at hc; repeat (have hn := hc.1; replace hc := hc.2))); (first | (refine i64_k hc ?_ ?_ ?_ ; omega; omega; (clear hc; intro hc; subst hc)) | skip)) | (apply Exists.intro; apply And.intro; (first | (focus (repeat (first | (with_reducible assumption) | (with_reducible exact AH.set_same _ _ _))); done))) | (apply Exists.intro; apply And.intro; first | (with_reducible assumption) | ((try simp only [List.getElem?_drop, Nat.mul_one, Nat.add_zero, Nat.zero_add]); first | (with_reducible assumption) | rfl)) | (apply And.intro; (first | rfl | (with_reducible assumption) | omega | (simp <;> omega))))) <;> (try (conv => whnf))
        refine ⟨i + 1, ⟨by omega, .inl hlt⟩, show l.length - (i + 1) < l.length - i by omega, ⟨rfl, trivial⟩, HLe.of_eq ?_⟩
        rw [hP, hfin, hRd]
        have hTl : (S.take (j + 1)).length = j + 1 := by rw [List.length_take]; omega
        have hTs : Srt (S.take (j + 1)) := by
          have := hSs
          rw [← List.take_append_drop (j + 1) S] at this
          exact this.append.1
        have hg : (S.take (j + 1))[j]? = some (S.getD j 0) := by
          rw [List.getElem?_take_of_lt (by omega), List.getD_eq_getElem?_getD, List.getElem?_eq_getElem (show j < S.length by omega)]; rfl
        have hA := hTs.last (by omega) hg
        have := insI_at (x := x) (A := S.take (j + 1)) (B := S.drop (j + 1)) (fun a ha => by have := hA a ha; omega) (fun b hb => hjb b (List.mem_of_mem_head? hb))
        rw [List.take_append_drop] at this
        rw [this, List.append_assoc]; rfl
  · (repeat' ((conv => whnf); first | refine Then.mk ?_ | refine OpsA.cons ?_ | refine OpsA.nil ?_ | refine AWq.seq ?_ | refine AWq.region ?_ | refine AWq.cond ?_ | refine AWq.block ?_ | refine AWq.skip ?_ | refine AWq.exit ?_ | refine AWq.loop ?_ | refine DrawA.consD ?_ | refine DrawA.nil ?_ | refine AWq.draw (by decide +kernel) ?_ | (refine Both.mk ?_ ?_ <;> intro hc <;> (first | exact Bool.noConfusion hc | (exfalso; omega) | skip)) | (intro c hc; (try (simp only [AH.none_iff] at hc; repeat (have hn := hc.1; replace hc := hc.2))); (first | (refine i64_k hc ?_ ?_ ?_ ; omega; omega; (clear hc; intro hc; subst hc)) | skip)) | (apply Exists.intro; apply And.intro; (first | (focus (repeat (first | (with_reducible assumption) | (with_reducible exact AH.set_same _ _ _))); done))) | (apply Exists.intro; apply And.intro; first | (with_reducible assumption) | ((try simp only [List.getElem?_drop, Nat.mul_one, Nat.add_zero, Nat.zero_add]); first | (with_reducible assumption) | rfl)) | (apply And.intro; (first | rfl | (with_reducible assumption) | omega | (simp <;> omega))))) <;> (try (conv => whnf))
    rw [List.take_of_length_le (by omega), List.drop_of_length_le (by omega), List.append_nil]
set_option maxHeartbeats 4000000 in
set_option maxRecDepth 8000 in
theorem sort_c (l : List Int) (hl : l.length ≤ 12) (r v : Nat) (H : AH) (hr : H r = some (.row (iS .i64 l) v)) :
    ACall Try.prog 63 [.sl r v 1 0 l.length none] H (fun y H' => y = .tup [] ∧ H' = H.set r (.row (iS .i64 (sortI l)) v)) := by
  have hi := insort_c l hl r v H hr
  have hp : ∀ k : Int, ACall Try.prog 68 [.sl r v 1 0 l.length none, .int .i64 0, .int .i64 l.length, .int .i64 k] H (fun y H' => y = .tup [] ∧ H' = H.set r (.row (iS .i64 (sortI l)) v)) := by
    intro k
    refine ACall_of tt_ok (dok _) Try.func68 rfl (by decide) rfl ?_
    (repeat' ((conv => whnf); first | refine Then.mk ?_ | refine OpsA.cons ?_ | refine OpsA.nil ?_ | refine AWq.seq ?_ | refine AWq.region ?_ | refine AWq.cond ?_ | refine AWq.block ?_ | refine AWq.ret ?_ | refine AWq.loop ?_ | (refine Both.mk ?_ ?_ <;> intro hc <;> (first | exact Bool.noConfusion hc | (exfalso; omega) | skip)) | (intro c hc; (try (simp only [AH.none_iff] at hc; repeat (have hn := hc.1; replace hc := hc.2))); (first | (refine i64_k hc ?_ ?_ ?_ ; omega; omega; (clear hc; intro hc; subst hc)) | (refine u64_k hc ?_ ?_ ?_ ; omega; omega; (clear hc; intro hc; subst hc)) | skip)) | (apply And.intro; (first | rfl)))) <;> (try (conv => whnf))
    refine AWp_loop (σ := Nat) (1 :: 2 :: 3 :: 8 :: 9 :: 10 :: 11 :: 12 :: 13 :: 14 :: 15 :: 16 :: 17 :: 18 :: 19 :: 20 :: 21 :: 22 :: 23 :: 24 :: 25 :: 26 :: 27 :: 28 :: 29 :: 30 :: 31 :: 32 :: 33 :: 34 :: 35 :: 36 :: 37 :: 38 :: 39 :: 40 :: 41 :: 42 :: 43 :: 44 :: 45 :: 46 :: 47 :: 48 :: 49 :: 50 :: 51 :: 52 :: 53 :: 54 :: 55 :: 56 :: 57 :: 58 :: 59 :: 60 :: 61 :: 62 :: 63 :: 64 :: 65 :: 66 :: 67 :: 68 :: 69 :: 70 :: 71 :: 72 :: 73 :: 74 :: 75 :: 76 :: 77 :: 78 :: 79 :: 80 :: 81 :: 82 :: 83 :: 84 :: 85 :: 86 :: 87 :: 88 :: 89 :: 90 :: 91 :: 92 :: 93 :: 94 :: 95 :: 96 :: 97 :: 98 :: 99 :: 100 :: 101 :: 102 :: 103 :: 104 :: 105 :: 106 :: 107 :: 108 :: 109 :: 110 :: 111 :: 112 :: 113 :: 114 :: 115 :: 116 :: 117 :: 118 :: 119 :: 120 :: 121 :: 122 :: 123 :: 124 :: 125 :: 126 :: 127 :: 128 :: 129 :: 130 :: 131 :: 132 :: 133 :: []) (fun _ => [(0, .sl r v 1 0 l.length none), (1, .int .i64 0), (2, .int .i64 l.length)]) (fun _ => H) (fun _ => True) (fun i => i) 0 rfl trivial ⟨rfl, rfl, rfl, trivial⟩ (HLe.refl _) ?_
    intro i _
    refine AWp.of tt_ok (dok _) rfl ?_
    (repeat' ((conv => whnf); first | refine Then.mk ?_ | refine OpsA.cons ?_ | refine OpsA.nil ?_ | refine AWq.seq ?_ | refine AWq.region ?_ | refine AWq.cond ?_ | refine AWq.block ?_ | refine AWq.ret ?_ | refine AWq.loop ?_ | (refine Both.mk ?_ ?_ <;> intro hc <;> (first | exact Bool.noConfusion hc | (exfalso; omega) | skip)) | (intro c hc; (try (simp only [AH.none_iff] at hc; repeat (have hn := hc.1; replace hc := hc.2))); (first | (refine i64_k hc ?_ ?_ ?_ ; omega; omega; (clear hc; intro hc; subst hc)) | (refine u64_k hc ?_ ?_ ?_ ; omega; omega; (clear hc; intro hc; subst hc)) | skip)) | (apply And.intro; (first | rfl)) | (refine ACall.to (hi) ?_))) <;> (try (conv => whnf))
    done
  refine ACall_of tt_ok (dok _) Try.func63 rfl (by decide) rfl ?_
  (repeat' ((conv => whnf); first | refine Then.mk ?_ | refine OpsA.cons ?_ | refine OpsA.nil ?_ | refine AWq.seq ?_ | refine AWq.region ?_ | refine AWq.cond ?_ | refine AWq.block ?_ | refine AWq.ret ?_ | refine AWq.loop ?_ | (refine Both.mk ?_ ?_ <;> intro hc <;> (first | exact Bool.noConfusion hc | (exfalso; omega) | skip)) | (intro c hc; (try (simp only [AH.none_iff] at hc; repeat (have hn := hc.1; replace hc := hc.2))); (first | (refine i64_k hc ?_ ?_ ?_ ; omega; omega; (clear hc; intro hc; subst hc)) | (refine u64_k hc ?_ ?_ ?_ ; omega; omega; (clear hc; intro hc; subst hc)) | skip)) | (apply And.intro; (first | rfl)))) <;> (try (conv => whnf))
  refine (lens_c l.length (by omega) _).mono ?_
  rintro y H' ⟨k, rfl, rfl⟩
  (repeat' ((conv => whnf); first | refine Then.mk ?_ | refine OpsA.cons ?_ | refine OpsA.nil ?_ | refine AWq.seq ?_ | refine AWq.region ?_ | refine AWq.cond ?_ | refine AWq.block ?_ | refine AWq.ret ?_ | refine AWq.loop ?_ | (refine Both.mk ?_ ?_ <;> intro hc <;> (first | exact Bool.noConfusion hc | (exfalso; omega) | skip)) | (intro c hc; (try (simp only [AH.none_iff] at hc; repeat (have hn := hc.1; replace hc := hc.2))); (first | (refine i64_k hc ?_ ?_ ?_ ; omega; omega; (clear hc; intro hc; subst hc)) | (refine u64_k hc ?_ ?_ ?_ ; omega; omega; (clear hc; intro hc; subst hc)) | skip)) | (apply And.intro; (first | rfl)) | (refine ACall.to (hp _) ?_))) <;> (try (conv => whnf))
  done
end Go.Proofs.Ytghielfbdpkhmaa
/- The walks of blend: between, floor, Mix. -/
namespace Go.Proofs.Ytghielfbdpkhmaa
open Go.Fw Go
set_option linter.unusedVariables false
set_option linter.unusedSimpArgs false

def I64 (x : Int) : Prop := -9223372036854775808 ≤ x ∧ x ≤ 9223372036854775807
instance (x : Int) : Decidable (I64 x) := by unfold I64; exact inferInstance
set_option maxRecDepth 8000 in
theorem btw_c (n lo hi : Int) (H : AH) : ACall Try.prog 46 [.int .i64 n, .int .i64 lo, .int .i64 hi] H (fun y H' => y = .bool (decide (lo ≤ n ∧ n ≤ hi)) ∧ H' = H) := by
  by_cases h1 : lo ≤ n
  · by_cases h2 : n ≤ hi
    · rw [decide_eq_true ⟨h1, h2⟩]
      refine ACall_of tt_ok (dok _) Try.func46 rfl (by decide) rfl ?_
      (repeat' ((conv => whnf); first | refine Then.mk ?_ | refine OpsA.cons ?_ | refine OpsA.nil ?_ | refine AWq.seq ?_ | refine AWq.region ?_ | refine AWq.ret ?_ | (refine Both.mk ?_ ?_ <;> intro hc <;> (first | exact absurd (by assumption) hc | exact absurd hc (by assumption) | skip)) | (apply And.intro; (first | rfl)))) <;> (try (conv => whnf))
    · rw [decide_eq_false (fun h => h2 h.2)]
      refine ACall_of tt_ok (dok _) Try.func46 rfl (by decide) rfl ?_
      (repeat' ((conv => whnf); first | refine Then.mk ?_ | refine OpsA.cons ?_ | refine OpsA.nil ?_ | refine AWq.seq ?_ | refine AWq.region ?_ | refine AWq.ret ?_ | (refine Both.mk ?_ ?_ <;> intro hc <;> (first | exact absurd (by assumption) hc | exact absurd hc (by assumption) | skip)) | (apply And.intro; (first | rfl)))) <;> (try (conv => whnf))
  · rw [decide_eq_false (fun h => h1 h.1)]
    refine ACall_of tt_ok (dok _) Try.func46 rfl (by decide) rfl ?_
    (repeat' ((conv => whnf); first | refine Then.mk ?_ | refine OpsA.cons ?_ | refine OpsA.nil ?_ | refine AWq.seq ?_ | refine AWq.region ?_ | refine AWq.ret ?_ | (refine Both.mk ?_ ?_ <;> intro hc <;> (first | exact absurd (by assumption) hc | exact absurd hc (by assumption) | skip)) | (apply And.intro; (first | rfl)))) <;> (try (conv => whnf))
theorem btw_t (n lo hi : Int) (h : lo ≤ n ∧ n ≤ hi) (H : AH) : ACall Try.prog 46 [.int .i64 n, .int .i64 lo, .int .i64 hi] H (fun y H' => y = .bool true ∧ H' = H) := by
  have := btw_c n lo hi H; rwa [decide_eq_true h] at this
/-- The quotient, rounded down. -/
theorem fdiv_t {a b : Int} (hb : 0 < b) : a / b = if a.tmod b < 0 then a.tdiv b - 1 else a.tdiv b := by
  have h1 := Int.mul_tdiv_add_tmod a b
  have h2 := Int.mul_ediv_add_emod a b
  have h3 := Int.emod_nonneg a (show b ≠ 0 by omega)
  have h4 := Int.emod_lt_of_pos a hb
  have h5 := Int.tmod_lt_of_pos a hb
  have h6 : -b < a.tmod b := by
    have := Int.tmod_lt_of_pos (-a) hb
    rw [Int.neg_tmod] at this; omega
  have e : b * (a / b) - b * (a.tdiv b) = a.tmod b - a % b := by omega
  rw [← Int.mul_sub] at e
  generalize hk : a / b - a.tdiv b = k at *
  by_cases hk1 : 1 ≤ k
  · have : b * 1 ≤ b * k := Int.mul_le_mul_of_nonneg_left hk1 (by omega)
    omega
  · by_cases hk2 : k ≤ -2
    · have : b * k ≤ b * (-2) := Int.mul_le_mul_of_nonneg_left hk2 (by omega)
      omega
    · rcases (show k = 0 ∨ k = -1 by omega) with rfl | rfl
      · rw [Int.mul_zero] at e
        rw [if_neg (by omega)]; omega
      · rw [show b * -1 = -b by omega] at e
        rw [if_pos (by omega)]; omega
set_option maxRecDepth 8000 in
theorem floor_c (a b : Int) (ha : I64 a) (hb : 0 < b ∧ b ≤ 9223372036854775807) (H : AH) : ACall Try.prog 49 [.int .i64 a, .int .i64 b] H (fun y H' => y = .int .i64 (a / b) ∧ H' = H) := by
  have hd := fdiv_t (a := a) hb.1
  have hq : I64 (a.tdiv b) ∧ I64 (a.tdiv b - 1) ∨ ¬ a.tmod b < 0 ∧ I64 (a.tdiv b) := by
    have h1 := Int.ediv_le_self (a := a) (b := b)
    by_cases h0 : 0 ≤ a
    · have e : a.tdiv b = a / b := Int.tdiv_eq_ediv_of_nonneg h0
      have e2 : a.tmod b = a % b := Int.tmod_eq_emod_of_nonneg h0
      have h2 := Int.ediv_nonneg h0 (show 0 ≤ b by omega)
      have h3 := Int.ediv_le_self b h0
      have h4 := Int.emod_nonneg a (show b ≠ 0 by omega)
      unfold I64 at *
      rw [e, e2]; omega
    · obtain ⟨p, hp⟩ : ∃ p, p = -a := ⟨_, rfl⟩
      have e : a.tdiv b = -(p / b) := by
        rw [show a = -p by omega, Int.neg_tdiv, Int.tdiv_eq_ediv_of_nonneg (by omega)]
      have e2 : a.tmod b = -(p % b) := by
        rw [show a = -p by omega, Int.neg_tmod, Int.tmod_eq_emod_of_nonneg (by omega)]
      have h2 := Int.ediv_nonneg (show 0 ≤ p by omega) (show 0 ≤ b by omega)
      have h3 := Int.ediv_le_self b (show 0 ≤ p by omega)
      have h5 := Int.mul_ediv_add_emod p b
      have h6 := Int.emod_nonneg p (show b ≠ 0 by omega)
      unfold I64 at *
      rw [e, e2]
      by_cases hb1 : b = 1
      · subst hb1
        rw [Int.emod_one, Int.ediv_one]; omega
      · have : 2 * (p / b) ≤ b * (p / b) := Int.mul_le_mul_of_nonneg_right (by omega) h2
        omega
  rw [hd]
  clear hd
  have w1 : I64 (a.tdiv b) → IntKind.i64.wrap (a.tdiv b) = a.tdiv b := fun h => by rw [IntKind.wrap_i64]; unfold I64 at h; omega
  have hbne : b ≠ 0 := by omega
  have hI : I64 (a.tdiv b) := by rcases hq with h | h; exact h.1; exact h.2
  have w1 := w1 hI
  obtain ⟨q, hqq⟩ : ∃ q, q = a.tdiv b := ⟨_, rfl⟩
  obtain ⟨m, hm⟩ : ∃ m, m = a.tmod b := ⟨_, rfl⟩
  have em : a.tmod b = m := hm.symm
  rw [← hqq] at w1 hq hI ⊢
  rw [← hm] at hq ⊢
  have w2 : IntKind.i64.wrap (a.tdiv b) = q := by rw [← hqq]; exact w1
  unfold I64 at hq hI
  by_cases hneg : m < 0
  · rw [if_pos hneg]
    refine ACall_of tt_ok (dok _) Try.func49 rfl (by decide) rfl ?_
    (repeat' ((conv => whnf); first | refine Then.mk ?_ | refine OpsA.cons ?_ | refine OpsA.nil ?_ | refine AWq.seq ?_ | refine AWq.region ?_ | refine AWq.cond ?_ | refine AWq.skip ?_ | refine AWq.ret ?_ | (refine Both.mk ?_ ?_ <;> intro hc <;> (first | exact Bool.noConfusion hc | exact absurd (by assumption) hc | exact absurd hc (by assumption) | skip)) | (intro c hc; (try (simp only [AH.none_iff] at hc; repeat (have hn := hc.1; replace hc := hc.2))); (first | (have hc2 := Eq.trans hc (by with_reducible assumption); clear hc; subst hc2) | (refine i64_k hc ?_ ?_ ?_ ; omega; omega; (clear hc; intro hc; subst hc)) | skip)) | (apply And.intro; (first | rfl | (with_reducible assumption))))) <;> (try (conv => whnf))
  · rw [if_neg hneg]
    refine ACall_of tt_ok (dok _) Try.func49 rfl (by decide) rfl ?_
    (repeat' ((conv => whnf); first | refine Then.mk ?_ | refine OpsA.cons ?_ | refine OpsA.nil ?_ | refine AWq.seq ?_ | refine AWq.region ?_ | refine AWq.cond ?_ | refine AWq.skip ?_ | refine AWq.ret ?_ | (refine Both.mk ?_ ?_ <;> intro hc <;> (first | exact Bool.noConfusion hc | exact absurd (by assumption) hc | exact absurd hc (by assumption) | skip)) | (intro c hc; (try (simp only [AH.none_iff] at hc; repeat (have hn := hc.1; replace hc := hc.2))); (first | (have hc2 := Eq.trans hc (by with_reducible assumption); clear hc; subst hc2) | (refine i64_k hc ?_ ?_ ?_ ; omega; omega; (clear hc; intro hc; subst hc)) | skip)) | (apply And.intro; (first | rfl | (with_reducible assumption))))) <;> (try (conv => whnf))
set_option maxRecDepth 8000 in
theorem rfloor_c (a b : Int) (ha : I64 a) (hb : 0 < b ∧ b ≤ 9223372036854775807) (H : AH) : ACall Try.prog 50 [.int .i64 a, .int .i64 b] H (fun y H' => y = .int .i64 (a / b) ∧ H' = H) := by
  have hd := fdiv_t (a := a) hb.1
  have hq : I64 (a.tdiv b) ∧ I64 (a.tdiv b - 1) ∨ ¬ a.tmod b < 0 ∧ I64 (a.tdiv b) := by
    have h1 := Int.ediv_le_self (a := a) (b := b)
    by_cases h0 : 0 ≤ a
    · have e : a.tdiv b = a / b := Int.tdiv_eq_ediv_of_nonneg h0
      have e2 : a.tmod b = a % b := Int.tmod_eq_emod_of_nonneg h0
      have h2 := Int.ediv_nonneg h0 (show 0 ≤ b by omega)
      have h3 := Int.ediv_le_self b h0
      have h4 := Int.emod_nonneg a (show b ≠ 0 by omega)
      unfold I64 at *
      rw [e, e2]; omega
    · obtain ⟨p, hp⟩ : ∃ p, p = -a := ⟨_, rfl⟩
      have e : a.tdiv b = -(p / b) := by
        rw [show a = -p by omega, Int.neg_tdiv, Int.tdiv_eq_ediv_of_nonneg (by omega)]
      have e2 : a.tmod b = -(p % b) := by
        rw [show a = -p by omega, Int.neg_tmod, Int.tmod_eq_emod_of_nonneg (by omega)]
      have h2 := Int.ediv_nonneg (show 0 ≤ p by omega) (show 0 ≤ b by omega)
      have h3 := Int.ediv_le_self b (show 0 ≤ p by omega)
      have h5 := Int.mul_ediv_add_emod p b
      have h6 := Int.emod_nonneg p (show b ≠ 0 by omega)
      unfold I64 at *
      rw [e, e2]
      by_cases hb1 : b = 1
      · subst hb1
        rw [Int.emod_one, Int.ediv_one]; omega
      · have : 2 * (p / b) ≤ b * (p / b) := Int.mul_le_mul_of_nonneg_right (by omega) h2
        omega
  rw [hd]
  clear hd
  have w1 : I64 (a.tdiv b) → IntKind.i64.wrap (a.tdiv b) = a.tdiv b := fun h => by rw [IntKind.wrap_i64]; unfold I64 at h; omega
  have hbne : b ≠ 0 := by omega
  have hI : I64 (a.tdiv b) := by rcases hq with h | h; exact h.1; exact h.2
  have w1 := w1 hI
  obtain ⟨q, hqq⟩ : ∃ q, q = a.tdiv b := ⟨_, rfl⟩
  obtain ⟨m, hm⟩ : ∃ m, m = a.tmod b := ⟨_, rfl⟩
  have em : a.tmod b = m := hm.symm
  rw [← hqq] at w1 hq hI ⊢
  rw [← hm] at hq ⊢
  have w2 : IntKind.i64.wrap (a.tdiv b) = q := by rw [← hqq]; exact w1
  unfold I64 at hq hI
  by_cases hneg : m < 0
  · rw [if_pos hneg]
    refine ACall_of tt_ok (dok _) Try.func50 rfl (by decide) rfl ?_
    (repeat' ((conv => whnf); first | refine Then.mk ?_ | refine OpsA.cons ?_ | refine OpsA.nil ?_ | refine AWq.seq ?_ | refine AWq.region ?_ | refine AWq.cond ?_ | refine AWq.skip ?_ | refine AWq.ret ?_ | (refine Both.mk ?_ ?_ <;> intro hc <;> (first | exact Bool.noConfusion hc | exact absurd (by assumption) hc | exact absurd hc (by assumption) | skip)) | (intro c hc; (try (simp only [AH.none_iff] at hc; repeat (have hn := hc.1; replace hc := hc.2))); (first | (have hc2 := Eq.trans hc (by with_reducible assumption); clear hc; subst hc2) | (refine i64_k hc ?_ ?_ ?_ ; omega; omega; (clear hc; intro hc; subst hc)) | skip)) | (apply And.intro; (first | rfl | (with_reducible assumption))))) <;> (try (conv => whnf))
  · rw [if_neg hneg]
    refine ACall_of tt_ok (dok _) Try.func50 rfl (by decide) rfl ?_
    (repeat' ((conv => whnf); first | refine Then.mk ?_ | refine OpsA.cons ?_ | refine OpsA.nil ?_ | refine AWq.seq ?_ | refine AWq.region ?_ | refine AWq.cond ?_ | refine AWq.skip ?_ | refine AWq.ret ?_ | (refine Both.mk ?_ ?_ <;> intro hc <;> (first | exact Bool.noConfusion hc | exact absurd (by assumption) hc | exact absurd hc (by assumption) | skip)) | (intro c hc; (try (simp only [AH.none_iff] at hc; repeat (have hn := hc.1; replace hc := hc.2))); (first | (have hc2 := Eq.trans hc (by with_reducible assumption); clear hc; subst hc2) | (refine i64_k hc ?_ ?_ ?_ ; omega; omega; (clear hc; intro hc; subst hc)) | skip)) | (apply And.intro; (first | rfl | (with_reducible assumption))))) <;> (try (conv => whnf))
end Go.Proofs.Ytghielfbdpkhmaa
/- The walks of Mix, the program's and the reference's. -/
namespace Go.Proofs.Ytghielfbdpkhmaa
open Go.Fw Go
set_option linter.unusedVariables false
set_option linter.unusedSimpArgs false

def sumN (f : Nat → Int) : Nat → Int
  | 0 => 0
  | k + 1 => sumN f k + f k
def okW (w v : Int) : Prop := (0 ≤ w ∧ w ≤ 65536) ∧ (-1073741824 ≤ v ∧ v ≤ 1073741824)
instance (w v : Int) : Decidable (okW w v) := by unfold okW; exact inferInstance
def dotA (a b : List Int) (k : Nat) : Int := sumN (fun i => a.getD i 0 * b.getD i 0) k
def allA (a : List Int) (k : Nat) : Int := sumN (fun i => a.getD i 0) k
def okN (a b : List Int) (k : Nat) : Prop := ∀ i, i < k → okW (a.getD i 0) (b.getD i 0)
open Classical in
/-- What Mix returns. -/
noncomputable def mixV (a b : List Int) : Int × Int :=
  if a.length ≠ b.length ∨ 256 < a.length then (0, 1) else if ¬ okN a b a.length then (0, 5) else if allA a a.length = 0 then (0, 9) else ((2 * dotA a b a.length + allA a a.length) / (2 * allA a a.length), 0)
theorem mul_bd {w v : Int} (h : okW w v) : -70368744177664 ≤ w * v ∧ w * v ≤ 70368744177664 := by
  obtain ⟨⟨h1, h2⟩, h3, h4⟩ := h
  have e1 : w * v ≤ w * 1073741824 := Int.mul_le_mul_of_nonneg_left h4 h1
  have e2 : w * (-1073741824) ≤ w * v := Int.mul_le_mul_of_nonneg_left h3 h1
  omega
theorem dot_bd {a b : List Int} : ∀ {k : Nat}, okN a b k → -(70368744177664 * (k : Int)) ≤ dotA a b k ∧ dotA a b k ≤ 70368744177664 * k ∧ 0 ≤ allA a k ∧ allA a k ≤ 65536 * k
  | 0, _ => by simp [dotA, allA, sumN]
  | k + 1, h => by
    obtain ⟨i1, i2, i3, i4⟩ := dot_bd (k := k) fun i hi => h i (by omega)
    have hk := h k (by omega)
    have hm := mul_bd hk
    have e1 : dotA a b (k + 1) = dotA a b k + a.getD k 0 * b.getD k 0 := rfl
    have e2 : allA a (k + 1) = allA a k + a.getD k 0 := rfl
    rw [e1, e2]
    unfold okW at hk
    generalize a.getD k 0 * b.getD k 0 = p at *
    omega
set_option maxHeartbeats 4000000 in
set_option maxRecDepth 8000 in
theorem mix_c (a b : List Int) (ha : a.length ≤ 1000000) (hb : b.length ≤ 1000000) (H : AH) :
    ACall Try.prog 21 [.cs (iS .i64 a) a.length, .cs (iS .i64 b) b.length] H (fun y H' => y = .tup [.int .i64 (mixV a b).1, .int .i64 (mixV a b).2] ∧ H' = H) := by
  unfold mixV
  by_cases hl : a.length ≠ b.length ∨ 256 < a.length
  · rw [if_pos hl]
    by_cases h1 : a.length = b.length
    · have h2 : 256 < a.length := by omega
      refine ACall_of tt_ok (dok _) Try.func21 rfl (by decide) rfl ?_
      (repeat' ((conv => whnf); first | refine Then.mk ?_ | refine OpsA.cons ?_ | refine OpsA.nil ?_ | refine AWq.seq ?_ | refine AWq.region ?_ | refine AWq.cond ?_ | refine AWq.block ?_ | refine AWq.skip ?_ | refine AWq.ret ?_ | refine AWq.exit ?_ | refine AWq.loop ?_ | (refine Both.mk ?_ ?_ <;> intro hc <;> (first | exact Bool.noConfusion hc | exact absurd (by assumption) hc | exact absurd hc (by assumption) | (exfalso; omega) | skip)) | (intro c hc; (try (simp only [AH.none_iff] at hc; repeat (have hn := hc.1; replace hc := hc.2))); (first | (have hc2 := Eq.trans hc (by with_reducible assumption); clear hc; subst hc2) | (refine i64_k hc ?_ ?_ ?_ ; omega; omega; (clear hc; intro hc; subst hc)) | skip)) | (apply Exists.intro; apply And.intro; first | (with_reducible assumption) | ((try simp only [List.getElem?_drop, Nat.mul_one, Nat.add_zero, Nat.zero_add]); first | (with_reducible assumption) | rfl)) | (apply And.intro; (first | rfl | (with_reducible assumption) | omega)))) <;> (try (conv => whnf))
    · refine ACall_of tt_ok (dok _) Try.func21 rfl (by decide) rfl ?_
      (repeat' ((conv => whnf); first | refine Then.mk ?_ | refine OpsA.cons ?_ | refine OpsA.nil ?_ | refine AWq.seq ?_ | refine AWq.region ?_ | refine AWq.cond ?_ | refine AWq.block ?_ | refine AWq.skip ?_ | refine AWq.ret ?_ | refine AWq.exit ?_ | refine AWq.loop ?_ | (refine Both.mk ?_ ?_ <;> intro hc <;> (first | exact Bool.noConfusion hc | exact absurd (by assumption) hc | exact absurd hc (by assumption) | (exfalso; omega) | skip)) | (intro c hc; (try (simp only [AH.none_iff] at hc; repeat (have hn := hc.1; replace hc := hc.2))); (first | (have hc2 := Eq.trans hc (by with_reducible assumption); clear hc; subst hc2) | (refine i64_k hc ?_ ?_ ?_ ; omega; omega; (clear hc; intro hc; subst hc)) | skip)) | (apply Exists.intro; apply And.intro; first | (with_reducible assumption) | ((try simp only [List.getElem?_drop, Nat.mul_one, Nat.add_zero, Nat.zero_add]); first | (with_reducible assumption) | rfl)) | (apply And.intro; (first | rfl | (with_reducible assumption) | omega)))) <;> (try (conv => whnf))
  rw [if_neg hl]
  have hal : (iS .i64 a).length = a.length := by simp
  have hbl : (iS .i64 b).length = b.length := by simp
  refine ACall_of tt_ok (dok _) Try.func21 rfl (by decide) rfl ?_
  (repeat' ((conv => whnf); first | refine Then.mk ?_ | refine OpsA.cons ?_ | refine OpsA.nil ?_ | refine AWq.seq ?_ | refine AWq.region ?_ | refine AWq.cond ?_ | refine AWq.block ?_ | refine AWq.skip ?_ | refine AWq.ret ?_ | refine AWq.exit ?_ | refine AWq.loop ?_ | (refine Both.mk ?_ ?_ <;> intro hc <;> (first | exact Bool.noConfusion hc | exact absurd (by assumption) hc | exact absurd hc (by assumption) | (exfalso; omega) | skip)) | (intro c hc; (try (simp only [AH.none_iff] at hc; repeat (have hn := hc.1; replace hc := hc.2))); (first | (have hc2 := Eq.trans hc (by with_reducible assumption); clear hc; subst hc2) | (refine i64_k hc ?_ ?_ ?_ ; omega; omega; (clear hc; intro hc; subst hc)) | skip)) | (apply Exists.intro; apply And.intro; first | (with_reducible assumption) | ((try simp only [List.getElem?_drop, Nat.mul_one, Nat.add_zero, Nat.zero_add]); first | (with_reducible assumption) | rfl)) | (apply And.intro; (first | rfl | (with_reducible assumption) | omega)))) <;> (try (conv => whnf))
  refine AWp_loop (σ := Nat) (4 :: 5 :: 6 :: 7 :: 8 :: 9 :: 22 :: 23 :: 24 :: 25 :: 26 :: 27 :: 28 :: 29 :: 30 :: 31 :: 32 :: 33 :: 34 :: 35 :: 36 :: 37 :: 38 :: 39 :: 40 :: 41 :: 42 :: 43 :: 44 :: 45 :: 46 :: 47 :: 48 :: 49 :: []) (fun i => [(22, .int .i64 i), (6, .int .i64 (dotA a b i)), (7, .int .i64 (allA a i))]) (fun _ => H) (fun i => i ≤ a.length ∧ okN a b i) (fun i => a.length - i) 0 rfl ⟨Nat.zero_le _, fun i hi => absurd hi (by omega)⟩ ⟨rfl, rfl, rfl, trivial⟩ (HLe.refl _) ?_
  rintro i ⟨hi, hin⟩
  refine AWp.of tt_ok (dok _) rfl ?_
  dsimp only at hi ⊢
  obtain ⟨d1, d2, d3, d4⟩ := dot_bd hin
  by_cases hlt : i < a.length
  · have g1 : (iS .i64 a)[(i : Int).toNat]? = some (.int .i64 (a.getD i 0)) := iS_get hlt
    have g2 : (iS .i64 b)[(i : Int).toNat]? = some (.int .i64 (b.getD i 0)) := iS_get (by omega)
    have s1 : dotA a b (i + 1) = dotA a b i + a.getD i 0 * b.getD i 0 := rfl
    have s2 : allA a (i + 1) = allA a i + a.getD i 0 := rfl
    by_cases hok : okW (a.getD i 0) (b.getD i 0)
    · have hin' : okN a b (i + 1) := fun j hj => by
        by_cases e : j = i
        · rw [e]; exact hok
        · exact hin j (by omega)
      have hm := mul_bd hok
      have wm : IntKind.i64.wrap (a.getD i 0 * b.getD i 0) = a.getD i 0 * b.getD i 0 := by rw [IntKind.wrap_i64]; omega
      generalize hD' : dotA a b (i + 1) = D' at *
      generalize hA' : allA a (i + 1) = A' at *
      generalize dotA a b i = D at *
      generalize allA a i = A at *
      generalize hpx : a.getD i 0 * b.getD i 0 = p at *
      unfold okW at hok
      have b1 := fun H => btw_t (a.getD i 0) 0 65536 hok.1 H
      have b2 := fun H => btw_t (b.getD i 0) (-1073741824) 1073741824 hok.2 H
      generalize a.getD i 0 = x at *
      generalize b.getD i 0 = z at *
      have wm2 : IntKind.i64.wrap (x * z) = p := by rw [hpx]; exact wm
      (repeat' ((conv => whnf); first | refine Then.mk ?_ | refine OpsA.cons ?_ | refine OpsA.nil ?_ | refine AWq.seq ?_ | refine AWq.region ?_ | refine AWq.cond ?_ | refine AWq.block ?_ | refine AWq.skip ?_ | refine AWq.ret ?_ | refine AWq.exit ?_ | refine AWq.loop ?_ | (refine Both.mk ?_ ?_ <;> intro hc <;> (first | exact Bool.noConfusion hc | exact absurd (by assumption) hc | exact absurd hc (by assumption) | (exfalso; omega) | skip)) | (intro c hc; (try (simp only [AH.none_iff] at hc; repeat (have hn := hc.1; replace hc := hc.2))); (first | (have hc2 := Eq.trans hc (by with_reducible assumption); clear hc; subst hc2) | (refine i64_k hc ?_ ?_ ?_ ; omega; omega; (clear hc; intro hc; subst hc)) | skip)) | (apply Exists.intro; apply And.intro; first | (with_reducible assumption) | ((try simp only [List.getElem?_drop, Nat.mul_one, Nat.add_zero, Nat.zero_add]); first | (with_reducible assumption) | rfl)) | (apply And.intro; (first | rfl | (with_reducible assumption) | omega)) | (refine ACall.to (b1 _) ?_) | (refine ACall.to (b2 _) ?_))) <;> (try (conv => whnf))
      exact ⟨i + 1, ⟨hlt, hin'⟩, show a.length - (i + 1) < a.length - i by omega, ⟨congrArg (AV.int .i64) (by omega), by rw [hD', s1]; rfl, by rw [hA', s2]; rfl, trivial⟩, HLe.refl _⟩
    · have hbad : ¬ okN a b a.length := fun h => hok (h i hlt)
      rw [if_pos hbad]
      have b1 := fun H => btw_c (a.getD i 0) 0 65536 H
      have b2 := fun H => btw_c (b.getD i 0) (-1073741824) 1073741824 H
      unfold okW at hok
      by_cases h1 : 0 ≤ a.getD i 0 ∧ a.getD i 0 ≤ 65536
      · rw [decide_eq_true h1] at b1
        rw [decide_eq_false (fun h => hok ⟨h1, h⟩)] at b2
        (repeat' ((conv => whnf); first | refine Then.mk ?_ | refine OpsA.cons ?_ | refine OpsA.nil ?_ | refine AWq.seq ?_ | refine AWq.region ?_ | refine AWq.cond ?_ | refine AWq.block ?_ | refine AWq.skip ?_ | refine AWq.ret ?_ | refine AWq.exit ?_ | refine AWq.loop ?_ | (refine Both.mk ?_ ?_ <;> intro hc <;> (first | exact Bool.noConfusion hc | exact absurd (by assumption) hc | exact absurd hc (by assumption) | (exfalso; omega) | skip)) | (intro c hc; (try (simp only [AH.none_iff] at hc; repeat (have hn := hc.1; replace hc := hc.2))); (first | (have hc2 := Eq.trans hc (by with_reducible assumption); clear hc; subst hc2) | (refine i64_k hc ?_ ?_ ?_ ; omega; omega; (clear hc; intro hc; subst hc)) | skip)) | (apply Exists.intro; apply And.intro; first | (with_reducible assumption) | ((try simp only [List.getElem?_drop, Nat.mul_one, Nat.add_zero, Nat.zero_add]); first | (with_reducible assumption) | rfl)) | (apply And.intro; (first | rfl | (with_reducible assumption) | omega)) | (refine ACall.to (b1 _) ?_) | (refine ACall.to (b2 _) ?_))) <;> (try (conv => whnf))
      · rw [decide_eq_false h1] at b1
        (repeat' ((conv => whnf); first | refine Then.mk ?_ | refine OpsA.cons ?_ | refine OpsA.nil ?_ | refine AWq.seq ?_ | refine AWq.region ?_ | refine AWq.cond ?_ | refine AWq.block ?_ | refine AWq.skip ?_ | refine AWq.ret ?_ | refine AWq.exit ?_ | refine AWq.loop ?_ | (refine Both.mk ?_ ?_ <;> intro hc <;> (first | exact Bool.noConfusion hc | exact absurd (by assumption) hc | exact absurd hc (by assumption) | (exfalso; omega) | skip)) | (intro c hc; (try (simp only [AH.none_iff] at hc; repeat (have hn := hc.1; replace hc := hc.2))); (first | (have hc2 := Eq.trans hc (by with_reducible assumption); clear hc; subst hc2) | (refine i64_k hc ?_ ?_ ?_ ; omega; omega; (clear hc; intro hc; subst hc)) | skip)) | (apply Exists.intro; apply And.intro; first | (with_reducible assumption) | ((try simp only [List.getElem?_drop, Nat.mul_one, Nat.add_zero, Nat.zero_add]); first | (with_reducible assumption) | rfl)) | (apply And.intro; (first | rfl | (with_reducible assumption) | omega)) | (refine ACall.to (b1 _) ?_))) <;> (try (conv => whnf))
  · have hie : i = a.length := by omega
    subst hie
    rw [if_neg (fun h => h hin)]
    generalize hD' : dotA a b a.length = D at *
    generalize hA' : allA a a.length = A at *
    by_cases h0 : A = 0
    · rw [if_pos h0]
      (repeat' ((conv => whnf); first | refine Then.mk ?_ | refine OpsA.cons ?_ | refine OpsA.nil ?_ | refine AWq.seq ?_ | refine AWq.region ?_ | refine AWq.cond ?_ | refine AWq.block ?_ | refine AWq.skip ?_ | refine AWq.ret ?_ | refine AWq.exit ?_ | refine AWq.loop ?_ | (refine Both.mk ?_ ?_ <;> intro hc <;> (first | exact Bool.noConfusion hc | exact absurd (by assumption) hc | exact absurd hc (by assumption) | (exfalso; omega) | skip)) | (intro c hc; (try (simp only [AH.none_iff] at hc; repeat (have hn := hc.1; replace hc := hc.2))); (first | (have hc2 := Eq.trans hc (by with_reducible assumption); clear hc; subst hc2) | (refine i64_k hc ?_ ?_ ?_ ; omega; omega; (clear hc; intro hc; subst hc)) | skip)) | (apply Exists.intro; apply And.intro; first | (with_reducible assumption) | ((try simp only [List.getElem?_drop, Nat.mul_one, Nat.add_zero, Nat.zero_add]); first | (with_reducible assumption) | rfl)) | (apply And.intro; (first | rfl | (with_reducible assumption) | omega)))) <;> (try (conv => whnf))
    · rw [if_neg h0]
      have hf := fun H => floor_c (2 * D + A) (2 * A) (by unfold I64; omega) (by omega) H
      (repeat' ((conv => whnf); first | refine Then.mk ?_ | refine OpsA.cons ?_ | refine OpsA.nil ?_ | refine AWq.seq ?_ | refine AWq.region ?_ | refine AWq.cond ?_ | refine AWq.block ?_ | refine AWq.skip ?_ | refine AWq.ret ?_ | refine AWq.exit ?_ | refine AWq.loop ?_ | (refine Both.mk ?_ ?_ <;> intro hc <;> (first | exact Bool.noConfusion hc | exact absurd (by assumption) hc | exact absurd hc (by assumption) | (exfalso; omega) | skip)) | (intro c hc; (try (simp only [AH.none_iff] at hc; repeat (have hn := hc.1; replace hc := hc.2))); (first | (have hc2 := Eq.trans hc (by with_reducible assumption); clear hc; subst hc2) | (refine i64_k hc ?_ ?_ ?_ ; omega; omega; (clear hc; intro hc; subst hc)) | skip)) | (apply Exists.intro; apply And.intro; first | (with_reducible assumption) | ((try simp only [List.getElem?_drop, Nat.mul_one, Nat.add_zero, Nat.zero_add]); first | (with_reducible assumption) | rfl)) | (apply And.intro; (first | rfl | (with_reducible assumption) | omega)) | (refine ACall.to (hf _) ?_))) <;> (try (conv => whnf))
set_option maxHeartbeats 4000000 in
set_option maxRecDepth 8000 in
theorem rmix_c (a b : List Int) (ha : a.length ≤ 1000000) (hb : b.length ≤ 1000000) (H : AH) :
    ACall Try.prog 22 [.cs (iS .i64 a) a.length, .cs (iS .i64 b) b.length] H (fun y H' => y = .tup [.int .i64 (mixV a b).1, .int .i64 (mixV a b).2] ∧ H' = H) := by
  unfold mixV
  by_cases hl : a.length ≠ b.length ∨ 256 < a.length
  · rw [if_pos hl]
    by_cases h1 : a.length = b.length
    · have h2 : 256 < a.length := by omega
      refine ACall_of tt_ok (dok _) Try.func22 rfl (by decide) rfl ?_
      (repeat' ((conv => whnf); first | refine Then.mk ?_ | refine OpsA.cons ?_ | refine OpsA.nil ?_ | refine AWq.seq ?_ | refine AWq.region ?_ | refine AWq.cond ?_ | refine AWq.block ?_ | refine AWq.skip ?_ | refine AWq.ret ?_ | refine AWq.exit ?_ | refine AWq.loop ?_ | refine DrawA.consD ?_ | refine DrawA.nil ?_ | refine AWq.draw (by decide +kernel) ?_ | (refine Both.mk ?_ ?_ <;> intro hc <;> (first | exact Bool.noConfusion hc | exact absurd (by assumption) hc | exact absurd hc (by assumption) | (exfalso; omega) | skip)) | (intro c hc; (try (simp only [AH.none_iff] at hc; repeat (have hn := hc.1; replace hc := hc.2))); (first | (have hc2 := Eq.trans hc (by with_reducible assumption); clear hc; subst hc2) | (refine i64_k hc ?_ ?_ ?_ ; omega; omega; (clear hc; intro hc; subst hc)) | skip)) | (apply Exists.intro; apply And.intro; first | (with_reducible assumption) | ((try simp only [List.getElem?_drop, Nat.mul_one, Nat.add_zero, Nat.zero_add]); first | (with_reducible assumption) | rfl)) | (apply And.intro; (first | rfl | (with_reducible assumption) | omega)))) <;> (try (conv => whnf))
    · refine ACall_of tt_ok (dok _) Try.func22 rfl (by decide) rfl ?_
      (repeat' ((conv => whnf); first | refine Then.mk ?_ | refine OpsA.cons ?_ | refine OpsA.nil ?_ | refine AWq.seq ?_ | refine AWq.region ?_ | refine AWq.cond ?_ | refine AWq.block ?_ | refine AWq.skip ?_ | refine AWq.ret ?_ | refine AWq.exit ?_ | refine AWq.loop ?_ | refine DrawA.consD ?_ | refine DrawA.nil ?_ | refine AWq.draw (by decide +kernel) ?_ | (refine Both.mk ?_ ?_ <;> intro hc <;> (first | exact Bool.noConfusion hc | exact absurd (by assumption) hc | exact absurd hc (by assumption) | (exfalso; omega) | skip)) | (intro c hc; (try (simp only [AH.none_iff] at hc; repeat (have hn := hc.1; replace hc := hc.2))); (first | (have hc2 := Eq.trans hc (by with_reducible assumption); clear hc; subst hc2) | (refine i64_k hc ?_ ?_ ?_ ; omega; omega; (clear hc; intro hc; subst hc)) | skip)) | (apply Exists.intro; apply And.intro; first | (with_reducible assumption) | ((try simp only [List.getElem?_drop, Nat.mul_one, Nat.add_zero, Nat.zero_add]); first | (with_reducible assumption) | rfl)) | (apply And.intro; (first | rfl | (with_reducible assumption) | omega)))) <;> (try (conv => whnf))
  rw [if_neg hl]
  have hal : (iS .i64 a).length = a.length := by simp
  have hbl : (iS .i64 b).length = b.length := by simp
  refine ACall_of tt_ok (dok _) Try.func22 rfl (by decide) rfl ?_
  (repeat' ((conv => whnf); first | refine Then.mk ?_ | refine OpsA.cons ?_ | refine OpsA.nil ?_ | refine AWq.seq ?_ | refine AWq.region ?_ | refine AWq.cond ?_ | refine AWq.block ?_ | refine AWq.skip ?_ | refine AWq.ret ?_ | refine AWq.exit ?_ | refine AWq.loop ?_ | refine DrawA.consD ?_ | refine DrawA.nil ?_ | refine AWq.draw (by decide +kernel) ?_ | (refine Both.mk ?_ ?_ <;> intro hc <;> (first | exact Bool.noConfusion hc | exact absurd (by assumption) hc | exact absurd hc (by assumption) | (exfalso; omega) | skip)) | (intro c hc; (try (simp only [AH.none_iff] at hc; repeat (have hn := hc.1; replace hc := hc.2))); (first | (have hc2 := Eq.trans hc (by with_reducible assumption); clear hc; subst hc2) | (refine i64_k hc ?_ ?_ ?_ ; omega; omega; (clear hc; intro hc; subst hc)) | skip)) | (apply Exists.intro; apply And.intro; first | (with_reducible assumption) | ((try simp only [List.getElem?_drop, Nat.mul_one, Nat.add_zero, Nat.zero_add]); first | (with_reducible assumption) | rfl)) | (apply And.intro; (first | rfl | (with_reducible assumption) | omega)))) <;> (try (conv => whnf))
  refine AWp_loop (σ := Nat) (4 :: 5 :: 6 :: 7 :: 8 :: 19 :: 20 :: 21 :: 22 :: 23 :: 24 :: 25 :: 26 :: 27 :: 28 :: 29 :: 30 :: 31 :: 32 :: 33 :: 34 :: 35 :: 36 :: 37 :: 38 :: 39 :: 40 :: 41 :: 42 :: 43 :: 44 :: 45 :: 46 :: 47 :: 48 :: 49 :: 50 :: 51 :: 52 :: 53 :: 54 :: 55 :: 56 :: 57 :: 58 :: 59 :: 60 :: 61 :: 62 :: 63 :: 64 :: 65 :: 66 :: 67 :: []) (fun i => [(8, .int .i64 i), (6, .int .i64 (dotA a b i)), (7, .int .i64 (allA a i))]) (fun _ => H) (fun i => i ≤ a.length ∧ okN a b i) (fun i => a.length - i) 0 rfl ⟨Nat.zero_le _, fun i hi => absurd hi (by omega)⟩ ⟨rfl, rfl, rfl, trivial⟩ (HLe.refl _) ?_
  rintro i ⟨hi, hin⟩
  refine AWp.of tt_ok (dok _) rfl ?_
  dsimp only at hi ⊢
  obtain ⟨d1, d2, d3, d4⟩ := dot_bd hin
  by_cases hlt : i < a.length
  · have g1 : (iS .i64 a)[(i : Int).toNat]? = some (.int .i64 (a.getD i 0)) := iS_get hlt
    have g2 : (iS .i64 b)[(i : Int).toNat]? = some (.int .i64 (b.getD i 0)) := iS_get (by omega)
    have s1 : dotA a b (i + 1) = dotA a b i + a.getD i 0 * b.getD i 0 := rfl
    have s2 : allA a (i + 1) = allA a i + a.getD i 0 := rfl
    by_cases hok : okW (a.getD i 0) (b.getD i 0)
    · have hin' : okN a b (i + 1) := fun j hj => by
        by_cases e : j = i
        · rw [e]; exact hok
        · exact hin j (by omega)
      have hm := mul_bd hok
      have wm : IntKind.i64.wrap (a.getD i 0 * b.getD i 0) = a.getD i 0 * b.getD i 0 := by rw [IntKind.wrap_i64]; omega
      generalize hD' : dotA a b (i + 1) = D' at *
      generalize hA' : allA a (i + 1) = A' at *
      generalize dotA a b i = D at *
      generalize allA a i = A at *
      generalize hpx : a.getD i 0 * b.getD i 0 = p at *
      unfold okW at hok
      generalize a.getD i 0 = x at *
      generalize b.getD i 0 = z at *
      have wm2 : IntKind.i64.wrap (x * z) = p := by rw [hpx]; exact wm
      (repeat' ((conv => whnf); first | refine Then.mk ?_ | refine OpsA.cons ?_ | refine OpsA.nil ?_ | refine AWq.seq ?_ | refine AWq.region ?_ | refine AWq.cond ?_ | refine AWq.block ?_ | refine AWq.skip ?_ | refine AWq.ret ?_ | refine AWq.exit ?_ | refine AWq.loop ?_ | refine DrawA.consD ?_ | refine DrawA.nil ?_ | refine AWq.draw (by decide +kernel) ?_ | (refine Both.mk ?_ ?_ <;> intro hc <;> (first | exact Bool.noConfusion hc | exact absurd (by assumption) hc | exact absurd hc (by assumption) | (exfalso; omega) | skip)) | (intro c hc; (try (simp only [AH.none_iff] at hc; repeat (have hn := hc.1; replace hc := hc.2))); (first | (have hc2 := Eq.trans hc (by with_reducible assumption); clear hc; subst hc2) | (refine i64_k hc ?_ ?_ ?_ ; omega; omega; (clear hc; intro hc; subst hc)) | skip)) | (apply Exists.intro; apply And.intro; first | (with_reducible assumption) | ((try simp only [List.getElem?_drop, Nat.mul_one, Nat.add_zero, Nat.zero_add]); first | (with_reducible assumption) | rfl)) | (apply And.intro; (first | rfl | (with_reducible assumption) | omega)))) <;> (try (conv => whnf))
      exact ⟨i + 1, ⟨hlt, hin'⟩, show a.length - (i + 1) < a.length - i by omega, ⟨congrArg (AV.int .i64) (by omega), by rw [hD', s1]; rfl, by rw [hA', s2]; rfl, trivial⟩, HLe.refl _⟩
    · have hbad : ¬ okN a b a.length := fun h => hok (h i hlt)
      rw [if_pos hbad]
      unfold okW at hok
      (repeat' ((conv => whnf); first | refine Then.mk ?_ | refine OpsA.cons ?_ | refine OpsA.nil ?_ | refine AWq.seq ?_ | refine AWq.region ?_ | refine AWq.cond ?_ | refine AWq.block ?_ | refine AWq.skip ?_ | refine AWq.ret ?_ | refine AWq.exit ?_ | refine AWq.loop ?_ | refine DrawA.consD ?_ | refine DrawA.nil ?_ | refine AWq.draw (by decide +kernel) ?_ | (refine Both.mk ?_ ?_ <;> intro hc <;> (first | exact Bool.noConfusion hc | exact absurd (by assumption) hc | exact absurd hc (by assumption) | (exfalso; omega) | skip)) | (intro c hc; (try (simp only [AH.none_iff] at hc; repeat (have hn := hc.1; replace hc := hc.2))); (first | (have hc2 := Eq.trans hc (by with_reducible assumption); clear hc; subst hc2) | (refine i64_k hc ?_ ?_ ?_ ; omega; omega; (clear hc; intro hc; subst hc)) | skip)) | (apply Exists.intro; apply And.intro; first | (with_reducible assumption) | ((try simp only [List.getElem?_drop, Nat.mul_one, Nat.add_zero, Nat.zero_add]); first | (with_reducible assumption) | rfl)) | (apply And.intro; (first | rfl | (with_reducible assumption) | omega)))) <;> (try (conv => whnf))
  · have hie : i = a.length := by omega
    subst hie
    rw [if_neg (fun h => h hin)]
    generalize hD' : dotA a b a.length = D at *
    generalize hA' : allA a a.length = A at *
    by_cases h0 : A = 0
    · rw [if_pos h0]
      (repeat' ((conv => whnf); first | refine Then.mk ?_ | refine OpsA.cons ?_ | refine OpsA.nil ?_ | refine AWq.seq ?_ | refine AWq.region ?_ | refine AWq.cond ?_ | refine AWq.block ?_ | refine AWq.skip ?_ | refine AWq.ret ?_ | refine AWq.exit ?_ | refine AWq.loop ?_ | refine DrawA.consD ?_ | refine DrawA.nil ?_ | refine AWq.draw (by decide +kernel) ?_ | (refine Both.mk ?_ ?_ <;> intro hc <;> (first | exact Bool.noConfusion hc | exact absurd (by assumption) hc | exact absurd hc (by assumption) | (exfalso; omega) | skip)) | (intro c hc; (try (simp only [AH.none_iff] at hc; repeat (have hn := hc.1; replace hc := hc.2))); (first | (have hc2 := Eq.trans hc (by with_reducible assumption); clear hc; subst hc2) | (refine i64_k hc ?_ ?_ ?_ ; omega; omega; (clear hc; intro hc; subst hc)) | skip)) | (apply Exists.intro; apply And.intro; first | (with_reducible assumption) | ((try simp only [List.getElem?_drop, Nat.mul_one, Nat.add_zero, Nat.zero_add]); first | (with_reducible assumption) | rfl)) | (apply And.intro; (first | rfl | (with_reducible assumption) | omega)))) <;> (try (conv => whnf))
    · rw [if_neg h0]
      have hf := fun H => rfloor_c (2 * D + A) (2 * A) (by unfold I64; omega) (by omega) H
      (repeat' ((conv => whnf); first | refine Then.mk ?_ | refine OpsA.cons ?_ | refine OpsA.nil ?_ | refine AWq.seq ?_ | refine AWq.region ?_ | refine AWq.cond ?_ | refine AWq.block ?_ | refine AWq.skip ?_ | refine AWq.ret ?_ | refine AWq.exit ?_ | refine AWq.loop ?_ | refine DrawA.consD ?_ | refine DrawA.nil ?_ | refine AWq.draw (by decide +kernel) ?_ | (refine Both.mk ?_ ?_ <;> intro hc <;> (first | exact Bool.noConfusion hc | exact absurd (by assumption) hc | exact absurd hc (by assumption) | (exfalso; omega) | skip)) | (intro c hc; (try (simp only [AH.none_iff] at hc; repeat (have hn := hc.1; replace hc := hc.2))); (first | (have hc2 := Eq.trans hc (by with_reducible assumption); clear hc; subst hc2) | (refine i64_k hc ?_ ?_ ?_ ; omega; omega; (clear hc; intro hc; subst hc)) | skip)) | (apply Exists.intro; apply And.intro; first | (with_reducible assumption) | ((try simp only [List.getElem?_drop, Nat.mul_one, Nat.add_zero, Nat.zero_add]); first | (with_reducible assumption) | rfl)) | (apply And.intro; (first | rfl | (with_reducible assumption) | omega)) | (refine ACall.to (hf _) ?_))) <;> (try (conv => whnf))
end Go.Proofs.Ytghielfbdpkhmaa
/- What Mix answers, of lists made from functions: between, the order, a shift. -/
namespace Go.Proofs.Ytghielfbdpkhmaa
open Go.Fw Go
set_option linter.unusedVariables false
set_option linter.unusedSimpArgs false

/-- What the law knows of the least and the greatest. -/
structure Btw (f g : Nat → Int) (k : Nat) (lo hi : Int) : Prop where
  nn : 0 ≤ sumN f k
  l : sumN f k * lo ≤ sumN (fun i => f i * g i) k
  h : sumN (fun i => f i * g i) k ≤ sumN f k * hi
theorem Btw.zero (f g : Nat → Int) : Btw f g 0 0 0 := ⟨Int.le_refl _, Int.le_refl _, Int.le_refl _⟩
end Go.Proofs.Ytghielfbdpkhmaa
/- Counts of labels; the walks of the reference's count. -/
namespace Go.Proofs.Ytghielfbdpkhmaa
open Go.Fw Go
set_option linter.unusedVariables false
set_option linter.unusedSimpArgs false

abbrev Wl := List (Int × Int)
def prA (p : Int × Int) : List AV := [.int .i64 p.1, .int .i64 p.2]
theorem prA_len (p : Int × Int) : (prA p).length = 2 := rfl
def prL (l : Wl) : List AV := fL prA l
@[simp] theorem prL_len (l : Wl) : (prL l).length = l.length * 2 := fL_len prA_len l
theorem prL_snoc (l : Wl) (x : Int × Int) : prL (l ++ [x]) = prL l ++ prA x := (fL_snoc prA l x).symm
/-- A label counted, the keys in rising order. -/
def cntI (x : Int) : Wl → Wl
  | [] => [(x, 1)]
  | p :: l => if p.1 = x then (x, p.2 + 1) :: l else if x < p.1 then (x, 1) :: p :: l else p :: cntI x l
def cnt (x : Int) (l : Wl) : Wl := if x < 0 then l else cntI x l
/-- Keys rise; keys in a range; counts of one or more, up to a bound. -/
structure WOk (m : Int) (l : Wl) : Prop where
  s : l.Pairwise (fun a b => a.1 < b.1)
  c : ∀ p ∈ l, (0 ≤ p.1 ∧ p.1 ≤ 11) ∧ (1 ≤ p.2 ∧ p.2 ≤ m)
theorem WOk.nil {m : Int} : WOk m [] := ⟨List.Pairwise.nil, fun p hp => by simp at hp⟩
theorem cntI_mem {x : Int} : ∀ {l : Wl} {p : Int × Int}, p ∈ cntI x l → p.1 = x ∧ (p.2 = 1 ∨ ∃ q ∈ l, q.1 = x ∧ p.2 = q.2 + 1) ∨ p ∈ l
  | [], p, h => by simp [cntI] at h; exact .inl (by simp [h])
  | q :: l, p, h => by
    unfold cntI at h
    split at h
    · rename_i e
      rcases List.mem_cons.1 h with rfl | h
      · exact .inl ⟨rfl, .inr ⟨q, by simp, e, rfl⟩⟩
      · exact .inr (by simp [h])
    · split at h
      · rcases List.mem_cons.1 h with rfl | h
        · exact .inl ⟨rfl, .inl rfl⟩
        · exact .inr h
      · rcases List.mem_cons.1 h with rfl | h
        · exact .inr (by simp)
        · rcases cntI_mem h with ⟨h1, h2⟩ | h
          · refine .inl ⟨h1, ?_⟩
            rcases h2 with h2 | ⟨q', hq, h2⟩
            · exact .inl h2
            · exact .inr ⟨q', by simp [hq], h2⟩
          · exact .inr (by simp [h])
theorem cntI_ok {x m : Int} (hx : 0 ≤ x ∧ x ≤ 11) (hm : 0 ≤ m) : ∀ {l : Wl}, WOk m l → WOk (m + 1) (cntI x l) := by
  intro l h
  refine ⟨?_, fun p hp => ?_⟩
  · have hs := h.s
    clear h
    induction l with
    | nil => simp [cntI]
    | cons q l ih =>
      rw [List.pairwise_cons] at hs
      unfold cntI
      split
      · rename_i e
        rw [List.pairwise_cons]
        exact ⟨fun p hp => by have := hs.1 p hp; rw [e] at this; exact this, hs.2⟩
      · split
        · rw [List.pairwise_cons, List.pairwise_cons]
          refine ⟨fun p hp => ?_, hs⟩
          rcases List.mem_cons.1 hp with rfl | hp
          · assumption
          · have := hs.1 p hp; show x < p.1; omega
        · rw [List.pairwise_cons]
          refine ⟨fun p hp => ?_, ih hs.2⟩
          rcases cntI_mem hp with ⟨e, _⟩ | hp
          · rw [e]; omega
          · exact hs.1 p hp
  · rcases cntI_mem hp with ⟨h1, h2⟩ | hp
    · rcases h2 with h2 | ⟨q, hq, _, h2⟩
      · omega
      · have := (h.c q hq).2; omega
    · have := h.c p hp; omega
theorem cnt_ok {x m : Int} (hx : x ≤ 11) (hm : 0 ≤ m) {l : Wl} (h : WOk m l) : WOk (m + 1) (cnt x l) := by
  unfold cnt
  split
  · exact ⟨h.s, fun p hp => by have := h.c p hp; omega⟩
  · exact cntI_ok ⟨by omega, hx⟩ hm h
theorem wok_len : ∀ {l : Wl} {a b : Int}, l.Pairwise (fun a b => a.1 < b.1) → (∀ p ∈ l, a ≤ p.1 ∧ p.1 ≤ b) → a ≤ b + 1 → (l.length : Int) ≤ b + 1 - a
  | [], a, b, _, _, h => by simp; omega
  | p :: l, a, b, hs, hp, h => by
    rw [List.pairwise_cons] at hs
    have h1 := hp p (by simp)
    have := wok_len (a := p.1 + 1) (b := b) hs.2 (fun q hq => by have := hs.1 q hq; have := hp q (by simp [hq]); omega) (by omega)
    simp only [List.length_cons]; omega
theorem WOk.len {m : Int} {l : Wl} (h : WOk m l) : l.length ≤ 12 := by
  have := wok_len (a := 0) (b := 11) h.s (fun p hp => (h.c p hp).1) (by decide); omega
end Go.Proofs.Ytghielfbdpkhmaa
/- Windows of labels; the walk of the reference's Weights. -/
namespace Go.Proofs.Ytghielfbdpkhmaa
open Go.Fw Go
set_option linter.unusedVariables false
set_option linter.unusedSimpArgs false

def rowW (L : List Int) (b : Nat) (W : Wl) : Nat → Wl
  | 0 => W
  | n + 1 => cnt (L.getD (b + n) 0) (rowW L b W n)
def winW (L : List Int) (w x0 nx y0 : Nat) : Nat → Wl
  | 0 => []
  | k + 1 => rowW L ((y0 + k) * w + x0) (winW L w x0 nx y0 k) nx
def winV (w h : Nat) (L : List Int) (x y r : Nat) : Wl := winW L w (x - r) (min w (x + r + 1) - (x - r)) (y - r) (min h (y + r + 1) - (y - r))
def LOk (L : List Int) : Prop := L.length ≤ 1000000 ∧ ∀ x ∈ L, -9223372036854775808 ≤ x ∧ x ≤ 11
theorem LOk.at {L : List Int} (h : LOk L) (i : Nat) : L.getD i 0 ≤ 11 := by
  by_cases hi : i < L.length
  · exact (h.2 _ (getD_mem hi)).2
  · rw [List.getD_eq_getElem?_getD, List.getElem?_eq_none (by omega)]; decide
theorem rowW_ok {L : List Int} (h : LOk L) {b : Nat} {m : Int} {W : Wl} (hW : WOk m W) (hm : 0 ≤ m) : ∀ n : Nat, WOk (m + n) (rowW L b W n)
  | 0 => by simpa [rowW] using hW
  | n + 1 => by
    have := cnt_ok (h.at (b + n)) (by omega) (rowW_ok h (b := b) hW hm n)
    rw [show m + ((n + 1 : Nat) : Int) = m + n + 1 by omega]
    exact this
theorem winW_ok {L : List Int} (h : LOk L) {w x0 nx y0 : Nat} : ∀ k : Nat, WOk ((k * nx : Nat) : Int) (winW L w x0 nx y0 k)
  | 0 => WOk.nil
  | k + 1 => by
    have := rowW_ok h (b := (y0 + k) * w + x0) (winW_ok h (w := w) (x0 := x0) (nx := nx) (y0 := y0) k) (by omega) nx
    rw [show (((k + 1) * nx : Nat) : Int) = ((k * nx : Nat) : Int) + nx by rw [Nat.succ_mul]; omega]
    exact this
/-- The arguments are in order; the errors. -/
def wBad (w h : Int) (L : List Int) : Prop := ¬ (1 ≤ w ∧ w ≤ 256) ∨ ¬ (1 ≤ h ∧ h ≤ 256) ∨ (L.length : Int) ≠ w * h
def wOut (w h x y r : Int) : Prop := ¬ (0 ≤ x ∧ x < w) ∨ ¬ (0 ≤ y ∧ y < h) ∨ ¬ (0 ≤ r ∧ r ≤ 4)
instance (w h : Int) (L : List Int) : Decidable (wBad w h L) := by unfold wBad; exact inferInstance
instance (w h x y r : Int) : Decidable (wOut w h x y r) := by unfold wOut; exact inferInstance
def wtV (w h : Int) (L : List Int) (x y r : Int) : Wl × Int :=
  if wBad w h L then ([], 1) else if wOut w h x y r then ([], 5) else (winV w.toNat h.toNat L x.toNat y.toNat r.toNat, 0)
theorem AVle.wErr (e : Int) : AVle (.tup [.nils, .int .i64 e]) (.tup [.cs (prL []) 0, .int .i64 e]) := AVle.tup (AVles.cons AVle.nils (AVles.refl _))
theorem win_in {w h y r k j u : Nat} (hw : 1 ≤ w) (hj : j < h) (hu : u < w) : j * w + u < w * h := by
  have : (j + 1) * w ≤ h * w := Nat.mul_le_mul_right w hj
  rw [Nat.succ_mul] at this
  rw [Nat.mul_comm w h]; omega
end Go.Proofs.Ytghielfbdpkhmaa
/- The frame of the abstract walk, part 31: drawn regions in which rows are made and cells are taken and written, beside loads from other rows. -/
set_option linter.unusedVariables false
set_option linter.unusedSimpArgs false
namespace Go.Fw
open Go.RowKit

variable {κ : KM} {F : FM} {B : Nat} {w0 w : World} {H : AH} {P : Program} {T : TT}

/-- An operation's class: its result's, or that of the cell to which it writes. -/
def cK (cl : List (Nat × Nat)) (o : Oper) : Option Nat :=
  match o.dst with
  | some t => cOf cl (some t)
  | none => match o.op with
    | .store _ (.tmp a) _ => cOf cl (some a)
    | _ => none
/-- Alike but for the rows of the classes. -/
def OutK (cl : List (Nat × Nat)) (nm : Nat → Nat) (G H : AH) : Prop := ∀ q, (∀ c, c ∈ cl.map (·.2) → nm c ≠ q) → G q = H q
theorem OutK.refl {cl : List (Nat × Nat)} {nm : Nat → Nat} : OutK cl nm H H := fun _ _ => rfl
theorem OutK.set {cl : List (Nat × Nat)} {nm : Nat → Nat} {G : AH} {c : Nat} {o : AO} (hc : c ∈ cl.map (·.2)) (h : OutK cl nm G H) : OutK cl nm G (H.set (nm c) o) :=
  fun q hq => (h q hq).trans (AH.set_ne _ _ (fun e => hq c hc e.symm)).symm
/-- What takes a cell. -/
def TakesP (P : Program) (T : TT) (o : Op) (e : Env) (G : AH) (cells : List AV) : Prop :=
  stepA P T o e G (fun v' H' => ∃ r, G r = none ∧ v' = .ptr r 0 0 ∧ H' = G.set r (.row cells 0))
/-- One row changes. -/
def LStepK (P : Program) (T : TT) (o : Op) (e : Env) (G : AH) (q : Nat) (v : AV) (o' : AO) : Prop :=
  LStep1 P T o e G q v o' ∨ ∃ cells, v = .ptr q 1 0 ∧ o' = .row cells 1 ∧ G q = some (.row [] 0) ∧ TakesP P T o e G cells
def drawKS (N : Nat) (P : Program) (T : TT) (cl : List (Nat × Nat)) (nm : Nat → Nat) : List Oper → (St → AH → Prop) → St → AH → Prop
  | [], K, s, H => K s H
  | o :: rest, K, s, H => dstOk N o.dst = true ∧ o.guard = none ∧ match cK cl o with
    | none => ∃ v, (∀ G, OutK cl nm G H → LStep0 P T o.op s.e G v) ∧ drawKS N P T cl nm rest K (putS s o.dst v) H
    | some c => ∃ ob v o', H (nm c) = some ob ∧ (∀ G, OutK cl nm G H → G (nm c) = some ob → LStepK P T o.op s.e G (nm c) v o') ∧ drawKS N P T cl nm rest K (putS s o.dst v) (H.set (nm c) o')

structure DrawK (N : Nat) (P : Program) (T : TT) (cl : List (Nat × Nat)) (nm : Nat → Nat) (l : List Oper) (K : St → AH → Prop) (s : St) (H : AH) : Prop where
  out : drawKS N P T cl nm l K s H

/-- The name stands for no class. -/
def offR (nm : Nat → Nat) (r : Nat) : List (Nat × Nat) → Prop
  | [] => True
  | p :: l => nm p.2 ≠ r ∧ offR nm r l
theorem offR_iff {nm : Nat → Nat} {r : Nat} : ∀ {l : List (Nat × Nat)}, offR nm r l → ∀ c, c ∈ l.map (·.2) → nm c ≠ r
  | [], _, c, hc => by cases hc
  | p :: l, ⟨h1, h2⟩, c, hc => by
    rcases List.mem_cons.1 hc with rfl | hc
    · exact h1
    · exact offR_iff h2 c hc

/-- Off the classes: no memory, or a load from a row of no class. -/
def offK (P : Program) (T : TT) (cl : List (Nat × Nat)) (nm : Nat → Nat) (o : Op) (e : Env) (H : AH) (K : AV → Prop) : Prop :=
  match o with
  | .load t a =>
    (match T.get t with
     | some tr => (match ev e a with
       | .ptr r v off => offR nm r cl ∧ loadA tr (.ptr r v off) H K
       | b => loadC tr b K)
     | none => False)
  | o => pureL P T o e K

theorem loadA_det {tr : TR} {r v off : Nat} {K : AV → Prop} (h : loadA tr (.ptr r v off) H K) : ∃ x, K x ∧ ∀ G : AH, G r = H r → loadA tr (.ptr r v off) G (fun y => y = x) := by
  unfold loadA at h
  simp only at h
  obtain ⟨cells, hH, h⟩ := h
  cases hag : tr.agg with
  | true =>
    rw [hag] at h
    obtain ⟨h1, h2⟩ := h
    refine ⟨_, h2, fun G hG => ?_⟩
    unfold loadA
    simp only
    refine ⟨cells, hG.trans hH, ?_⟩
    rw [hag]
    exact ⟨h1, rfl⟩
  | false =>
    rw [hag] at h
    obtain ⟨h1, x, h2, h3⟩ := when_iff.1 h
    refine ⟨x, h3, fun G hG => ?_⟩
    unfold loadA
    simp only
    refine ⟨cells, hG.trans hH, ?_⟩
    rw [hag]
    exact when_iff.2 ⟨h1, x, h2, rfl⟩

theorem offK_ok {cl : List (Nat × Nat)} {nm : Nat → Nat} {o : Op} {e : Env} {K : AV → Prop} (h : offK P T cl nm o e H K) : ∃ v, (∀ G, OutK cl nm G H → LStep0 P T o e G v) ∧ K v := by
  unfold offK at h
  split at h
  · rename_i t a
    split at h
    · rename_i tr hg
      split at h
      · rename_i r v off ha
        obtain ⟨h1, h2⟩ := h
        obtain ⟨x, h3, h4⟩ := loadA_det h2
        refine ⟨x, fun G hG => .inl ?_, h3⟩
        have := h4 G (hG r (offR_iff h1))
        show opA T (.load t a) e G (fun v' H' => v' = x ∧ H' = G)
        simp only [opA, hg, ha]
        simpa using this
      · obtain ⟨v, h1, h2⟩ := det_loadC _ _ _ h
        refine ⟨v, fun G _ => .inl ?_, h2⟩
        show opA T (.load t a) e G (fun v' H' => v' = v ∧ H' = G)
        simp only [opA, hg]
        simpa using loadC_ok (H := G) h1
    · exact h.elim
  · obtain ⟨v, h1, h2⟩ := pureL_ok h
    exact ⟨v, fun G _ => h1 G, h2⟩

/-- On a class. -/
def onK (P : Program) (T : TT) (q : Nat) (ob : AO) (o : Op) (e : Env) (K : AV → AO → Prop) : Prop :=
  match o with
  | .alloc t => (match T.get t with | some tr => ob = .row [] 0 ∧ K (.ptr q 1 0) (.row tr.zero 1) | none => False)
  | .store t a x =>
    (match T.get t, ev e a, cellsOf (ev e x) with
     | some tr, .ptr r v off, some l => r = q ∧ ∃ cells, ob = .row cells v ∧ off + tr.size ≤ cells.length ∧ l.length = tr.size ∧ l.all one = true ∧ K .junk (.row (wrA cells off l) v)
     | _, _, _ => False)
  | .load t a =>
    (match T.get t, ev e a with
     | some tr, .ptr r v off => r = q ∧ loadA tr (.ptr r v off) (fun _ => some ob) fun x => K x ob
     | _, _ => False)
  | .fieldAddr t x f => when (isPure T (.fieldAddr t x f) && isDet T (.fieldAddr t x f)) (opA T (.fieldAddr t x f) e (fun _ => none) fun v _ => K v ob)
  | .indexAddr t x i => when (isPure T (.indexAddr t x i) && isDet T (.indexAddr t x i)) (opA T (.indexAddr t x i) e (fun _ => none) fun v _ => K v ob)
  | o => appL T q ob o e K ∨ ∃ cells n es, ob = .row [] 0 ∧ (∀ G, Makes P T o e G cells n es) ∧ K (.sl q 1 es 0 n none) (.row cells 1)
/-- A step without memory, beside a row. -/
theorem pure_on {q : Nat} {ob : AO} {o : Op} {e : Env} {K : AV → AO → Prop} (h : when (isPure T o && isDet T o) (opA T o e (fun _ => none) fun v _ => K v ob)) : ∃ v o', (∀ G, G q = some ob → LStepK P T o e G q v o') ∧ K v o' := by
  obtain ⟨h1, h2⟩ := when_iff.1 h
  rw [Bool.and_eq_true] at h1
  obtain ⟨v, h3, h4⟩ := opA_det (H := fun _ => none) (K := fun v _ => K v ob) h1.2 h2
  obtain ⟨_, h5⟩ := opA_pure h1.1 h3
  refine ⟨v, ob, fun G hG => .inl (.inl ?_), h4⟩
  rw [stepA_pure h1.1, AH.set_id hG]
  exact h5 G

theorem onK_ok {q : Nat} {ob : AO} {o : Op} {e : Env} {K : AV → AO → Prop} (h : onK P T q ob o e K) : ∃ v o', (∀ G, G q = some ob → LStepK P T o e G q v o') ∧ K v o' := by
  unfold onK at h
  split at h
  · rename_i t
    split at h
    · rename_i tr hg
      obtain ⟨h1, h2⟩ := h
      refine ⟨_, _, fun G hG => .inr ⟨tr.zero, rfl, rfl, by rw [hG, h1], ?_⟩, h2⟩
      show opA T (.alloc t) e G (fun v' H' => ∃ r, G r = none ∧ v' = .ptr r 0 0 ∧ H' = G.set r (.row tr.zero 0))
      simp only [opA, hg]
      exact fun r hr => ⟨r, hr, rfl, rfl⟩
    · exact h.elim
  · rename_i t a x
    split at h
    · rename_i tr r v off l hg ha hx
      obtain ⟨rfl, cells, h1, h2, h3, h4, h5⟩ := h
      refine ⟨_, _, fun G hG => .inl (.inl ?_), h5⟩
      show opA T (.store t a x) e G (fun v' H' => v' = AV.junk ∧ H' = G.set r (AO.row (wrA cells off l) v))
      simp only [opA, hg, ha]
      unfold storeA
      simp only [hx]
      exact ⟨cells, by rw [hG, h1], h2, h3, h4, by simp⟩
    · exact h.elim
  · rename_i t a
    split at h
    · rename_i tr r v off hg ha
      obtain ⟨rfl, h2⟩ := h
      obtain ⟨x, h3, h4⟩ := loadA_det h2
      refine ⟨x, ob, fun G hG => .inl (.inl ?_), h3⟩
      show opA T (.load t a) e G (fun v' H' => v' = x ∧ H' = G.set r ob)
      simp only [opA, hg, ha]
      rw [AH.set_id hG]
      simpa using h4 G hG
    · exact h.elim
  · exact pure_on h
  · exact pure_on h
  · rcases h with h | ⟨cells, n, es, h1, h2, h3⟩
    · obtain ⟨v, o', h1, h2⟩ := appL_ok (P := P) h
      exact ⟨v, o', fun G hG => .inl (h1 G hG), h2⟩
    · exact ⟨_, _, fun G hG => .inl (.inr ⟨cells, n, es, rfl, rfl, by rw [hG, h1], h2 G⟩), h3⟩

def drawKD (N : Nat) (P : Program) (T : TT) (cl : List (Nat × Nat)) (nm : Nat → Nat) (o : Oper) (rest : List Oper) (K : St → AH → Prop) (e : Env) (d : List Nat) (H : AH) : Prop :=
  when (dstOk N o.dst && o.guard.isNone) (match cK cl o with
    | none => offK P T cl nm o.op e H fun v => force v fun v => DrawK N P T cl nm rest K ⟨putA e o.dst v, d⟩ H
    | some c => ∃ ob, H (nm c) = some ob ∧ onK P T (nm c) ob o.op e fun v o' => force v fun v => DrawK N P T cl nm rest K ⟨putA e o.dst v, d⟩ (H.set (nm c) o'))

theorem DrawK.nil {N : Nat} {cl : List (Nat × Nat)} {nm : Nat → Nat} {K : St → AH → Prop} {s : St} (h : K s H) : DrawK N P T cl nm [] K s H := ⟨h⟩
theorem DrawK.consD {N : Nat} {cl : List (Nat × Nat)} {nm : Nat → Nat} {o : Oper} {rest : List Oper} {K : St → AH → Prop} {e : Env} {d : List Nat} (h : drawKD N P T cl nm o rest K e d H) : DrawK N P T cl nm (o :: rest) K ⟨e, d⟩ H := by
  refine ⟨?_⟩
  unfold drawKD at h
  unfold drawKS
  obtain ⟨h1, h2⟩ := when_iff.1 h
  rw [Bool.and_eq_true] at h1
  refine ⟨h1.1, by simpa using h1.2, ?_⟩
  split at h2
  · rename_i hc
    obtain ⟨v, h3, h4⟩ := offK_ok h2
    rw [force_eq] at h4
    exact ⟨v, h3, h4.out⟩
  · rename_i c hc
    obtain ⟨ob, h3, h4⟩ := h2
    obtain ⟨v, o', h5, h6⟩ := onK_ok (P := P) h4
    rw [force_eq] at h6
    exact ⟨ob, v, o', h3, fun G _ hG => h5 G hG, h6.out⟩

end Go.Fw
/- The frame of the abstract walk, part 32: a cell that nobody writes any more is told as a constant. -/
set_option linter.unusedVariables false
set_option linter.unusedSimpArgs false
namespace Go.Fw
open Go.RowKit

variable {κ : KM} {F : FM} {B : Nat} {w0 w : World} {H : AH} {P : Program} {T : TT}

theorem AVles.of_eq {a b : List AV} (h : a = b) : AVles a b := h ▸ AVles.refl _

/-- A row of the heap written anew. -/
theorem HLe.push {G H : AH} {r : Nat} {o o' : AO} (h : HLe (G.set r o) H) : HLe (G.set r o') (H.set r o') := by
  refine ⟨fun s x hs => ?_⟩
  by_cases e : s = r
  · rw [e, AH.set_same] at hs ⊢; exact hs
  · rw [AH.set_ne _ _ e] at hs ⊢
    exact h.le s x (by rw [AH.set_ne _ _ e]; exact hs)
end Go.Fw
/- The walks of maps.Keys, slices.Collect, slices.Sorted. -/
namespace Go.Proofs.Ytghielfbdpkhmaa
open Go.Fw Go
set_option linter.unusedVariables false
set_option linter.unusedSimpArgs false

def IsIt (o : AO) : Prop := ∃ bi m a q st, o = .obj bi (.mapIter m a q st)
theorem nodup_len {α : Type} [DecidableEq α] : ∀ {A B : List α}, A.Nodup → (∀ a ∈ A, a ∈ B) → A.length ≤ B.length
  | [], B, _, _ => Nat.zero_le _
  | a :: A, B, hn, h => by
    rw [List.nodup_cons] at hn
    have ha := h a (by simp)
    have := nodup_len (A := A) (B := B.erase a) hn.2 fun x hx => by
      have hne : x ≠ a := fun e => hn.1 (e ▸ hx)
      exact (List.mem_erase_of_ne hne).2 (h x (by simp [hx]))
    rw [List.length_erase_of_mem ha] at this
    have := List.length_pos_of_mem ha
    simp only [List.length_cons]; omega
theorem map_inj {α β : Type} {f : α → β} : ∀ {l : List α}, (l.map f).Nodup → ∀ {a b : α}, a ∈ l → b ∈ l → f a = f b → a = b
  | [], _, a, b, ha, _, _ => by simp at ha
  | x :: l, hn, a, b, ha, hb, e => by
    rw [List.map_cons, List.nodup_cons] at hn
    rcases List.mem_cons.1 ha with e1 | ha <;> rcases List.mem_cons.1 hb with e2 | hb
    · rw [e1, e2]
    · rw [e1] at e
      exact absurd (List.mem_map.2 ⟨b, hb, e.symm⟩) hn.1
    · rw [e2] at e
      exact absurd (List.mem_map.2 ⟨a, ha, e⟩) hn.1
    · exact map_inj hn.2 ha hb e
set_option maxHeartbeats 4000000 in
set_option maxRecDepth 8000 in
theorem keys_it (l r v rm b cl : Nat) (es : List ME) (hb : ∀ x, x ∈ es → x.b < cl) (hd : (es.map (·.b)).Nodup) (J : List Int → AH → Prop) (H0 : AH) (hJ0 : J [] H0)
    (hbox : ∀ ks H, J ks H → H r = some (.row [.map (some rm)] v) ∧ H rm = some (.map b es cl))
    (hst : ∀ ks H c o, J ks H → IsIt o → H0 c = none → (H c = none ∨ ∃ o', H c = some o' ∧ IsIt o') → J ks (H.set c o))
    (hy : ∀ ks x H, J ks H → x ∈ es → ks.length < es.length → AYield Try.prog l [.int .i64 x.k] H fun y H' => y = .bool true ∧ J (ks ++ [x.k]) H' ∧ ∀ c o, H c = some o → IsIt o → H' c = some o) :
    ACall Try.prog 64 [.fn (.yield l) [] [], .ptr r v 0] H0 (fun y H' => ∃ S : List ME, (S.map (·.b)).Nodup ∧ (∀ s, s ∈ S ↔ s ∈ es) ∧ J (S.map (·.k)) H') := by
  obtain ⟨hb0, hm0⟩ := hbox _ _ hJ0
  refine ACall_of tt_ok (dok _) Try.func64 rfl (by decide) rfl ?_
  (repeat' ((conv => whnf); first | refine Then.mk ?_ | refine OpsA.cons ?_ | refine OpsA.nil ?_ | refine AWq.seq ?_ | refine AWq.region ?_ | refine AWq.cond ?_ | refine AWq.block ?_ | refine AWq.skip ?_ | refine AWq.exit ?_ | refine AWq.loop ?_ | (refine Both.mk ?_ ?_ <;> intro hc <;> (first | exact Bool.noConfusion hc | skip)) | (apply Exists.intro; apply And.intro; (first | (focus (repeat (first | (with_reducible assumption))); done))) | (apply Exists.intro; apply And.intro; first | (with_reducible assumption) | ((try simp only [List.getElem?_drop, Nat.mul_one, Nat.add_zero, Nat.zero_add]); first | (with_reducible assumption) | rfl)) | (apply And.intro; (first | rfl | (with_reducible assumption))))) <;> (try (conv => whnf))
  refine ⟨b, es, cl, hm0, fun c bi hc => ?_⟩
  have hcJ := hst [] H0 c (.obj bi (.mapIter (some b) cl #[] cl)) hJ0 ⟨_, _, _, _, _, rfl⟩ hc (.inl hc)
  (repeat' ((conv => whnf); first | refine Then.mk ?_ | refine OpsA.cons ?_ | refine OpsA.nil ?_ | refine AWq.seq ?_ | refine AWq.region ?_ | refine AWq.cond ?_ | refine AWq.block ?_ | refine AWq.skip ?_ | refine AWq.exit ?_ | refine AWq.loop ?_ | (refine Both.mk ?_ ?_ <;> intro hc <;> (first | exact Bool.noConfusion hc | skip)) | (apply Exists.intro; apply And.intro; (first | (focus (repeat (first | (with_reducible assumption))); done))) | (apply Exists.intro; apply And.intro; first | (with_reducible assumption) | ((try simp only [List.getElem?_drop, Nat.mul_one, Nat.add_zero, Nat.zero_add]); first | (with_reducible assumption) | rfl)) | (apply And.intro; (first | rfl | (with_reducible assumption))))) <;> (try (conv => whnf))
  refine AWp_loop (σ := List ME × AH) (3 :: 6 :: 7 :: 8 :: 9 :: 10 :: 11 :: 12 :: 13 :: []) (fun _ => []) (fun s => s.2) (fun s => J (s.1.map (·.k)) s.2 ∧ s.2 c = some (.obj bi (.mapIter (some b) cl (s.1.map (·.b)).toArray cl)) ∧ (s.1.map (·.b)).Nodup ∧ ∀ x, x ∈ s.1 → x ∈ es) (fun s => es.length - s.1.length) ([], H0.set c (.obj bi (.mapIter (some b) cl #[] cl))) rfl
    ⟨hcJ, AH.set_same _ _ _, List.nodup_nil, fun x hx => by simp at hx⟩ trivial (HLe.refl _) ?_
  rintro ⟨S, H⟩ ⟨hJ, hcS, hnd, hsub⟩
  refine AWp.of tt_ok (dok _) rfl ?_
  dsimp only at hJ hcS hnd hsub ⊢
  obtain ⟨hb1, hm1⟩ := hbox _ _ hJ
  have hlen : S.length ≤ es.length := by
    have := nodup_len (A := S.map (·.b)) (B := es.map (·.b)) hnd fun a ha => by
      obtain ⟨x, hx, rfl⟩ := List.mem_map.1 ha
      exact List.mem_map.2 ⟨x, hsub x hx, rfl⟩
    simpa using this
  (repeat' ((conv => whnf); first | refine Then.mk ?_ | refine OpsA.cons ?_ | refine OpsA.nil ?_ | refine AWq.seq ?_ | refine AWq.region ?_ | refine AWq.cond ?_ | refine AWq.block ?_ | refine AWq.skip ?_ | refine AWq.exit ?_ | refine AWq.loop ?_ | (refine Both.mk ?_ ?_ <;> intro hc <;> (first | exact Bool.noConfusion hc | skip)) | (apply Exists.intro; apply And.intro; (first | (focus (repeat (first | (with_reducible assumption))); done))) | (apply Exists.intro; apply And.intro; first | (with_reducible assumption) | ((try simp only [List.getElem?_drop, Nat.mul_one, Nat.add_zero, Nat.zero_add]); first | (with_reducible assumption) | rfl)) | (apply And.intro; (first | rfl | (with_reducible assumption))))) <;> (try (conv => whnf))
  refine ⟨bi, b, cl, (S.map (·.b)).toArray, cl, rm, es, cl, hcS, hm1, ?_, fun x hx hnx => ?_, fun hall => ?_⟩
  · rcases es with _ | ⟨x, es⟩
    · exact .inr (.inl rfl)
    · exact .inr (.inr ⟨x, by simp, hb x (by simp)⟩)
  · have hnx' : x.b ∉ S.map (·.b) := by simpa using hnx
    have harr : (S.map (·.b)).toArray.push x.b = ((S ++ [x]).map (·.b)).toArray := by simp
    have hlt : S.length < es.length := by
      have := nodup_len (A := x.b :: S.map (·.b)) (B := es.map (·.b)) (List.nodup_cons.2 ⟨hnx', hnd⟩) fun a ha => by
        rcases List.mem_cons.1 ha with rfl | ha
        · exact List.mem_map.2 ⟨x, hx, rfl⟩
        · obtain ⟨z, hz, rfl⟩ := List.mem_map.1 ha
          exact List.mem_map.2 ⟨z, hsub z hz, rfl⟩
      have h9 : S.length + 1 ≤ es.length := by simpa using this
      omega
    rw [harr]
    have hJ2 := hst _ H c (.obj bi (.mapIter (some b) cl ((S ++ [x]).map (·.b)).toArray cl)) hJ ⟨_, _, _, _, _, rfl⟩ hc (.inr ⟨_, hcS, _, _, _, _, _, rfl⟩)
    have hc2 : (H.set c (.obj bi (.mapIter (some b) cl ((S ++ [x]).map (·.b)).toArray cl))) c = some (.obj bi (.mapIter (some b) cl ((S ++ [x]).map (·.b)).toArray cl)) := AH.set_same _ _ _
    generalize H.set c (.obj bi (.mapIter (some b) cl ((S ++ [x]).map (·.b)).toArray cl)) = H2 at *
    obtain ⟨hb2, hm2⟩ := hbox _ _ hJ2
    (repeat' ((conv => whnf); first | refine Then.mk ?_ | refine OpsA.cons ?_ | refine OpsA.nil ?_ | refine AWq.seq ?_ | refine AWq.region ?_ | refine AWq.cond ?_ | refine AWq.block ?_ | refine AWq.skip ?_ | refine AWq.exit ?_ | refine AWq.loop ?_ | (refine Both.mk ?_ ?_ <;> intro hc <;> (first | exact Bool.noConfusion hc | skip)) | (apply Exists.intro; apply And.intro; (first | (focus (repeat (first | (with_reducible assumption))); done))) | (apply Exists.intro; apply And.intro; first | (with_reducible assumption) | ((try simp only [List.getElem?_drop, Nat.mul_one, Nat.add_zero, Nat.zero_add]); first | (with_reducible assumption) | rfl)) | (apply And.intro; (first | rfl | (with_reducible assumption))))) <;> (try (conv => whnf))
    refine ⟨bi, b, cl, ((S ++ [x]).map (·.b)).toArray, rm, es, cl, x, hc2, hm2, by simp, hx, ?_⟩
    have hyx := hy _ x H2 hJ2 hx (by simpa using hlt)
    (repeat' ((conv => whnf); first | refine Then.mk ?_ | refine OpsA.cons ?_ | refine OpsA.nil ?_ | refine AWq.seq ?_ | refine AWq.region ?_ | refine AWq.cond ?_ | refine AWq.block ?_ | refine AWq.skip ?_ | refine AWq.exit ?_ | refine AWq.loop ?_ | (refine Both.mk ?_ ?_ <;> intro hc <;> (first | exact Bool.noConfusion hc | skip)) | (apply Exists.intro; apply And.intro; (first | (focus (repeat (first | (with_reducible assumption))); done))) | (apply Exists.intro; apply And.intro; first | (with_reducible assumption) | ((try simp only [List.getElem?_drop, Nat.mul_one, Nat.add_zero, Nat.zero_add]); first | (with_reducible assumption) | rfl)) | (apply And.intro; (first | rfl | (with_reducible assumption))))) <;> (try (conv => whnf))
    refine hyx.mono ?_
    rintro y H3 ⟨rfl, hJ3, hk3⟩
    (repeat' ((conv => whnf); first | refine Then.mk ?_ | refine OpsA.cons ?_ | refine OpsA.nil ?_ | refine AWq.seq ?_ | refine AWq.region ?_ | refine AWq.cond ?_ | refine AWq.block ?_ | refine AWq.skip ?_ | refine AWq.exit ?_ | refine AWq.loop ?_ | (refine Both.mk ?_ ?_ <;> intro hc <;> (first | exact Bool.noConfusion hc | skip)) | (apply Exists.intro; apply And.intro; (first | (focus (repeat (first | (with_reducible assumption))); done))) | (apply Exists.intro; apply And.intro; first | (with_reducible assumption) | ((try simp only [List.getElem?_drop, Nat.mul_one, Nat.add_zero, Nat.zero_add]); first | (with_reducible assumption) | rfl)) | (apply And.intro; (first | rfl | (with_reducible assumption))))) <;> (try (conv => whnf))
    exact ⟨(S ++ [x], H3), ⟨by simpa using hJ3, hk3 _ _ hc2 ⟨_, _, _, _, _, rfl⟩, by
      rw [List.map_append, List.nodup_append]
      exact ⟨hnd, by simp, fun a ha z hz => by
        have : z = x.b := by simpa using hz
        rw [this]; exact fun e => hnx' (e ▸ ha)⟩, fun z hz => by
      rcases List.mem_append.1 hz with hz | hz
      · exact hsub z hz
      · rw [List.mem_singleton.1 hz]; exact hx⟩, by show es.length - (S ++ [x]).length < es.length - S.length; rw [List.length_append]; simp; omega, trivial, HLe.refl _⟩
  · (repeat' ((conv => whnf); first | refine Then.mk ?_ | refine OpsA.cons ?_ | refine OpsA.nil ?_ | refine AWq.seq ?_ | refine AWq.region ?_ | refine AWq.cond ?_ | refine AWq.block ?_ | refine AWq.skip ?_ | refine AWq.exit ?_ | refine AWq.loop ?_ | (refine Both.mk ?_ ?_ <;> intro hc <;> (first | exact Bool.noConfusion hc | skip)) | (apply Exists.intro; apply And.intro; (first | (focus (repeat (first | (with_reducible assumption))); done))) | (apply Exists.intro; apply And.intro; first | (with_reducible assumption) | ((try simp only [List.getElem?_drop, Nat.mul_one, Nat.add_zero, Nat.zero_add]); first | (with_reducible assumption) | rfl)) | (apply And.intro; (first | rfl | (with_reducible assumption))))) <;> (try (conv => whnf))
    refine ⟨fun s => ⟨hsub s, fun hs => ?_⟩, hJ⟩
    have h1 : s.b ∈ S.map (·.b) := by simpa using hall s hs (hb s hs)
    obtain ⟨z, hz, e⟩ := List.mem_map.1 h1
    rw [← map_inj hd (hsub z hz) hs e]; exact hz
set_option maxHeartbeats 4000000 in
set_option maxRecDepth 8000 in
theorem append_seq (rm b cl c1 : Nat) (es : List ME) (hes : es.length ≤ 1000) (hb : ∀ x, x ∈ es → x.b < cl) (hd : (es.map (·.b)).Nodup) (H : AH) (hc1 : H c1 = some (.row [.map (some rm)] 0)) (hrm : H rm = some (.map b es cl)) :
    ACall Try.prog 67 [.nils, .fn (.func 64) [] [.ptr c1 0 0]] H
      (fun y H' => ∃ (S : List ME) (q : Nat), (S.map (·.b)).Nodup ∧ (∀ s, s ∈ S ↔ s ∈ es) ∧ H q = none ∧ y = .sl q S.length 1 0 S.length none ∧ H' = H.set q (.row (iS .i64 (S.map (·.k))) S.length)) := by
  refine ACall.told ?_
  refine ACall_marks tt_ok (dok _) Try.func67 rfl (by decide) rfl ?_
  (repeat' ((conv => whnf); first | left | refine OpsA.cons ?_ | refine OpsA.nil ?_ | refine AWq.seq ?_ | refine AWq.region ?_ | refine AWq.block ?_ | refine AWq.ret ?_ | refine AWq.rangeFunc ?_ | (intro c hc; (try (simp only [AH.none_iff] at hc; repeat (have hn := hc.1; replace hc := hc.2))); (first | skip)) | (apply Exists.intro; apply And.intro; (first | (focus (repeat (first | (with_reducible assumption) | (with_reducible exact AH.set_same _ _ _) | ((first | refine AH.get_ne ?_ ?_ | refine AH.getd_ne ?_ ?_); (first | (with_reducible assumption) | exact Ne.symm (by with_reducible assumption))))); done) | (focus (repeat (first | assumption | exact AH.set_same _ _ _ | ((first | refine AH.get_ne ?_ ?_ | refine AH.getd_ne ?_ ?_); (first | assumption | omega)))); done))) | (apply Exists.intro; apply And.intro; first | (with_reducible assumption) | ((try simp only [List.getElem?_drop, Nat.mul_one, Nat.add_zero, Nat.zero_add]); first | (with_reducible assumption) | assumption | rfl)) | (apply And.intro; (first | rfl | (with_reducible assumption) | exact Nat.le_of_ble_eq_true rfl | omega | assumption)))) <;> (try (conv => whnf))
  (obtain ⟨c2, hq_⟩ : ∃ c2, c2 = c := ⟨_, rfl⟩); subst hq_
  have hc2 : H c2 = none := hc
  refine Then.mk (AWq.in ?_)
  refine AWp_nilC (p := c2) (u := 0) 1 [] [] (AH.set_same _ _ _) fun q hq hqc => ?_
  obtain ⟨_, hq⟩ := AH.none_set hq
  refine AWp.of tt_ok (dok _) rfl ?_
  (repeat' ((conv => whnf); first | refine Then.mk ?_ | left | refine OpsA.cons ?_ | refine OpsA.nil ?_ | refine AWq.seq ?_ | refine AWq.region ?_ | refine AWq.block ?_ | refine AWq.ret ?_ | refine AWq.rangeFunc ?_ | (intro c hc; (try (simp only [AH.none_iff] at hc; repeat (have hn := hc.1; replace hc := hc.2))); (first | skip)) | (apply Exists.intro; apply And.intro; (first | (focus (repeat (first | (with_reducible assumption) | (with_reducible exact AH.set_same _ _ _) | ((first | refine AH.get_ne ?_ ?_ | refine AH.getd_ne ?_ ?_); (first | (with_reducible assumption) | exact Ne.symm (by with_reducible assumption))))); done) | (focus (repeat (first | assumption | exact AH.set_same _ _ _ | ((first | refine AH.get_ne ?_ ?_ | refine AH.getd_ne ?_ ?_); (first | assumption | omega)))); done))) | (apply Exists.intro; apply And.intro; first | (with_reducible assumption) | ((try simp only [List.getElem?_drop, Nat.mul_one, Nat.add_zero, Nat.zero_add]); first | (with_reducible assumption) | assumption | rfl)) | (apply And.intro; (first | rfl | (with_reducible assumption) | exact Nat.le_of_ble_eq_true rfl | omega | assumption)))) <;> (try (conv => whnf))
  have h12 : c1 ≠ c2 := fun e => by rw [e, hc2] at hc1; cases hc1
  have hr2 : rm ≠ c2 := fun e => by rw [e, hc2] at hrm; cases hrm
  have h1q : c1 ≠ q := fun e => by rw [e, hq] at hc1; cases hc1
  have hrq : rm ≠ q := fun e => by rw [e, hq] at hrm; cases hrm
  refine AWp_over rfl fun e0 he0 fn d l rd rl hrd hrl hne L0 hL0 => ?_
  obtain ⟨hdc2, hrd⟩ := AH.none_set hrd
  obtain ⟨hdq, hrd⟩ := AH.none_set hrd
  obtain ⟨_, hrd⟩ := AH.none_set hrd
  obtain ⟨hlc2, hrl⟩ := AH.none_set hrl
  obtain ⟨hlq, hrl⟩ := AH.none_set hrl
  obtain ⟨_, hrl⟩ := AH.none_set hrl
  have h1d : c1 ≠ rd := fun e => by rw [e, hrd] at hc1; cases hc1
  have hmd : rm ≠ rd := fun e => by rw [e, hrd] at hrm; cases hrm
  have h1l : c1 ≠ rl := fun e => by rw [e, hrl] at hc1; cases hc1
  have hml : rm ≠ rl := fun e => by rw [e, hrl] at hrm; cases hrm
  have hle0 : HLe H (((((H.set c2 (.row [ev (argsE [.nils, .fn (.func 64) [] [.ptr c1 0 0]]) (.tmp 0)] 0)).set q (.row [] 0)).set c2 (.row ([] ++ [.sl q 0 1 0 0 none]) 0)).set rd (.obj d (.deferred (some [])))).set rl (.loop l Try.f67.ntmps e0 L0)) :=
    HLe.set_of _ _ (HLe.set_of _ _ (HLe.set_of _ _ (HLe.set_of _ _ (HLe.set_of _ _ (HLe.refl _) hc2) hq) hc2) hrd) hrl
  have ne_it : ∀ {Hh : AH} {c s : Nat} {o : AO}, Hh s = some o → ¬ IsIt o → (Hh c = none ∨ ∃ o', Hh c = some o' ∧ IsIt o') → s ≠ c := fun hs hn hc e => by
    subst e
    rcases hc with hc | ⟨o', hc, hi⟩
    · rw [hs] at hc; cases hc
    · rw [hs] at hc; cases hc; exact hn hi
  have n1 : ∀ c u, ¬ IsIt (.row c u) := fun c u ⟨_, _, _, _, _, h⟩ => by cases h
  have n2 : ∀ c u k, ¬ IsIt (.map c u k) := fun c u k ⟨_, _, _, _, _, h⟩ => by cases h
  have n3 : ∀ c k, ¬ IsIt (.obj c (.deferred k)) := fun c k ⟨_, _, _, _, _, h⟩ => by cases h
  have n4 : ∀ a b c d, ¬ IsIt (.loop a b c d) := fun a b c d ⟨_, _, _, _, _, h⟩ => by cases h
  refine (keys_it l c1 0 rm b cl es hb hd (fun ks Hh => (Hh c1 = some (.row [.map (some rm)] 0) ∧ Hh rm = some (.map b es cl)) ∧ Hh c2 = some (.row [.sl q ks.length 1 0 ks.length none] 0) ∧ Hh q = some (.row (iS .i64 ks) ks.length) ∧ Hh rd = some (.obj d (.deferred (some []))) ∧ Hh rl = some (.loop l Try.f67.ntmps e0 L0) ∧ HLe H Hh) _ ?_ ?_ ?_ ?_).mono ?_
  · refine ⟨⟨?_, ?_⟩, ?_, ?_, ?_, ?_, hle0⟩
    · exact hle0.le _ _ hc1
    · exact hle0.le _ _ hrm
    · (first | (focus (repeat (first | (with_reducible assumption) | (with_reducible exact AH.set_same _ _ _) | ((first | refine AH.get_ne ?_ ?_ | refine AH.getd_ne ?_ ?_); (first | (with_reducible assumption) | exact Ne.symm (by with_reducible assumption))))); done) | (focus (repeat (first | assumption | exact AH.set_same _ _ _ | ((first | refine AH.get_ne ?_ ?_ | refine AH.getd_ne ?_ ?_); (first | assumption | omega)))); done))
    · (first | (focus (repeat (first | (with_reducible assumption) | (with_reducible exact AH.set_same _ _ _) | ((first | refine AH.get_ne ?_ ?_ | refine AH.getd_ne ?_ ?_); (first | (with_reducible assumption) | exact Ne.symm (by with_reducible assumption))))); done) | (focus (repeat (first | assumption | exact AH.set_same _ _ _ | ((first | refine AH.get_ne ?_ ?_ | refine AH.getd_ne ?_ ?_); (first | assumption | omega)))); done))
    · (first | (focus (repeat (first | (with_reducible assumption) | (with_reducible exact AH.set_same _ _ _) | ((first | refine AH.get_ne ?_ ?_ | refine AH.getd_ne ?_ ?_); (first | (with_reducible assumption) | exact Ne.symm (by with_reducible assumption))))); done) | (focus (repeat (first | assumption | exact AH.set_same _ _ _ | ((first | refine AH.get_ne ?_ ?_ | refine AH.getd_ne ?_ ?_); (first | assumption | omega)))); done))
    · (first | (focus (repeat (first | (with_reducible assumption) | (with_reducible exact AH.set_same _ _ _) | ((first | refine AH.get_ne ?_ ?_ | refine AH.getd_ne ?_ ?_); (first | (with_reducible assumption) | exact Ne.symm (by with_reducible assumption))))); done) | (focus (repeat (first | assumption | exact AH.set_same _ _ _ | ((first | refine AH.get_ne ?_ ?_ | refine AH.getd_ne ?_ ?_); (first | assumption | omega)))); done))
  · exact fun ks Hh h => h.1
  · rintro ks Hh c o ⟨⟨h1, h2⟩, h3, h4, h5, h6, h7⟩ hio hc0 hcc
    have hHc : H c = none := by
      cases hx : H c with
      | none => rfl
      | some x => have := hle0.le _ _ hx; rw [hc0] at this; cases this
    refine ⟨⟨?_, ?_⟩, ?_, ?_, ?_, ?_, HLe.set_of _ _ h7 hHc⟩
    · rw [AH.set_ne _ _ (ne_it h1 (n1 _ _) hcc)]; exact h1
    · rw [AH.set_ne _ _ (ne_it h2 (n2 _ _ _) hcc)]; exact h2
    · rw [AH.set_ne _ _ (ne_it h3 (n1 _ _) hcc)]; exact h3
    · rw [AH.set_ne _ _ (ne_it h4 (n1 _ _) hcc)]; exact h4
    · rw [AH.set_ne _ _ (ne_it h5 (n3 _ _) hcc)]; exact h5
    · rw [AH.set_ne _ _ (ne_it h6 (n4 _ _ _ _) hcc)]; exact h6
  · rintro ks x Hh ⟨⟨h1, h2⟩, h3, h4, h5, h6, h7⟩ hx hkl
    subst hL0 he0
    have hil := iS_length .i64 ks
    refine AYield_of h6 rfl rfl rfl ?_
    refine AWp.of tt_ok (dok _) rfl ?_
    (repeat' ((conv => whnf); first | refine Then.mk ?_ | left | refine OpsA.cons ?_ | refine OpsA.nil ?_ | refine AWq.seq ?_ | refine AWq.region ?_ | refine AWq.block ?_ | refine AWq.ret ?_ | refine AWq.rangeFunc ?_ | (intro c hc; (try (simp only [AH.none_iff] at hc; repeat (have hn := hc.1; replace hc := hc.2))); (first | skip)) | (apply Exists.intro; apply And.intro; (first | (focus (repeat (first | (with_reducible assumption) | (with_reducible exact AH.set_same _ _ _) | ((first | refine AH.get_ne ?_ ?_ | refine AH.getd_ne ?_ ?_); (first | (with_reducible assumption) | exact Ne.symm (by with_reducible assumption))))); done) | (focus (repeat (first | assumption | exact AH.set_same _ _ _ | ((first | refine AH.get_ne ?_ ?_ | refine AH.getd_ne ?_ ?_); (first | assumption | omega)))); done))) | (apply Exists.intro; apply And.intro; first | (with_reducible assumption) | ((try simp only [List.getElem?_drop, Nat.mul_one, Nat.add_zero, Nat.zero_add]); first | (with_reducible assumption) | assumption | rfl)) | (apply And.intro; (first | rfl | (with_reducible assumption) | exact Nat.le_of_ble_eq_true rfl | omega | assumption)))) <;> (try (conv => whnf))
    refine AWp.of tt_ok (dok _) rfl ?_
    (repeat' ((conv => whnf); first | refine Then.mk ?_ | left | refine OpsA.cons ?_ | refine OpsA.nil ?_ | refine AWq.seq ?_ | refine AWq.region ?_ | refine AWq.block ?_ | refine AWq.ret ?_ | refine AWq.rangeFunc ?_ | (intro c hc; (try (simp only [AH.none_iff] at hc; repeat (have hn := hc.1; replace hc := hc.2))); (first | skip)) | (apply Exists.intro; apply And.intro; (first | (focus (repeat (first | (with_reducible assumption) | (with_reducible exact AH.set_same _ _ _) | ((first | refine AH.get_ne ?_ ?_ | refine AH.getd_ne ?_ ?_); (first | (with_reducible assumption) | exact Ne.symm (by with_reducible assumption))))); done) | (focus (repeat (first | assumption | exact AH.set_same _ _ _ | ((first | refine AH.get_ne ?_ ?_ | refine AH.getd_ne ?_ ?_); (first | assumption | omega)))); done))) | (apply Exists.intro; apply And.intro; first | (with_reducible assumption) | ((try simp only [List.getElem?_drop, Nat.mul_one, Nat.add_zero, Nat.zero_add]); first | (with_reducible assumption) | assumption | rfl)) | (apply And.intro; (first | rfl | (with_reducible assumption) | exact Nat.le_of_ble_eq_true rfl | omega | assumption)))) <;> (try (conv => whnf))
    have e1 : (ks ++ [x.k]).length = ks.length + 1 := by simp
    have e2 : iS .i64 (ks ++ [x.k]) = iS .i64 ks ++ [.int .i64 x.k] := (iS_snoc _ _ _).symm
    rw [e1, e2]
    refine ⟨⟨⟨?_, ?_⟩, ?_, ?_, ?_, ?_, ?_⟩, fun c o hco hio => ?_⟩
    · (first | (focus (repeat (first | (with_reducible assumption) | (with_reducible exact AH.set_same _ _ _) | ((first | refine AH.get_ne ?_ ?_ | refine AH.getd_ne ?_ ?_); (first | (with_reducible assumption) | exact Ne.symm (by with_reducible assumption))))); done) | (focus (repeat (first | assumption | exact AH.set_same _ _ _ | ((first | refine AH.get_ne ?_ ?_ | refine AH.getd_ne ?_ ?_); (first | assumption | omega)))); done))
    · (first | (focus (repeat (first | (with_reducible assumption) | (with_reducible exact AH.set_same _ _ _) | ((first | refine AH.get_ne ?_ ?_ | refine AH.getd_ne ?_ ?_); (first | (with_reducible assumption) | exact Ne.symm (by with_reducible assumption))))); done) | (focus (repeat (first | assumption | exact AH.set_same _ _ _ | ((first | refine AH.get_ne ?_ ?_ | refine AH.getd_ne ?_ ?_); (first | assumption | omega)))); done))
    · (first | (focus (repeat (first | (with_reducible assumption) | (with_reducible exact AH.set_same _ _ _) | ((first | refine AH.get_ne ?_ ?_ | refine AH.getd_ne ?_ ?_); (first | (with_reducible assumption) | exact Ne.symm (by with_reducible assumption))))); done) | (focus (repeat (first | assumption | exact AH.set_same _ _ _ | ((first | refine AH.get_ne ?_ ?_ | refine AH.getd_ne ?_ ?_); (first | assumption | omega)))); done))
    · (first | (focus (repeat (first | (with_reducible assumption) | (with_reducible exact AH.set_same _ _ _) | ((first | refine AH.get_ne ?_ ?_ | refine AH.getd_ne ?_ ?_); (first | (with_reducible assumption) | exact Ne.symm (by with_reducible assumption))))); done) | (focus (repeat (first | assumption | exact AH.set_same _ _ _ | ((first | refine AH.get_ne ?_ ?_ | refine AH.getd_ne ?_ ?_); (first | assumption | omega)))); done))
    · (first | (focus (repeat (first | (with_reducible assumption) | (with_reducible exact AH.set_same _ _ _) | ((first | refine AH.get_ne ?_ ?_ | refine AH.getd_ne ?_ ?_); (first | (with_reducible assumption) | exact Ne.symm (by with_reducible assumption))))); done) | (focus (repeat (first | assumption | exact AH.set_same _ _ _ | ((first | refine AH.get_ne ?_ ?_ | refine AH.getd_ne ?_ ?_); (first | assumption | omega)))); done))
    · (first | (focus (repeat (first | (with_reducible assumption) | (with_reducible exact AH.set_same _ _ _) | ((first | refine AH.get_ne ?_ ?_ | refine AH.getd_ne ?_ ?_); (first | (with_reducible assumption) | exact Ne.symm (by with_reducible assumption))))); done) | (focus (repeat (first | assumption | exact AH.set_same _ _ _ | ((first | refine AH.get_ne ?_ ?_ | refine AH.getd_ne ?_ ?_); (first | assumption | omega)))); done))
    · (first | ((repeat' (first | (with_reducible assumption) | refine HLe.set_of _ _ ?_ ?_)); done))
    · have hcl : c ≠ rl := Ne.symm (ne_it h6 (n4 _ _ _ _) (.inr ⟨o, hco, hio⟩))
      have hcq : c ≠ q := Ne.symm (ne_it h4 (n1 _ _) (.inr ⟨o, hco, hio⟩))
      have hc2' : c ≠ c2 := Ne.symm (ne_it h3 (n1 _ _) (.inr ⟨o, hco, hio⟩))
      (first | (focus (repeat (first | (with_reducible assumption) | (with_reducible exact AH.set_same _ _ _) | ((first | refine AH.get_ne ?_ ?_ | refine AH.getd_ne ?_ ?_); (first | (with_reducible assumption) | exact Ne.symm (by with_reducible assumption))))); done) | (focus (repeat (first | assumption | exact AH.set_same _ _ _ | ((first | refine AH.get_ne ?_ ?_ | refine AH.getd_ne ?_ ?_); (first | assumption | omega)))); done))
  · rintro y Hh ⟨S, hS1, hS2, ⟨h1, h2⟩, h3, h4, h5, h6, h7⟩
    subst hL0
    refine ⟨_, h6, rfl, ?_⟩
    (repeat' ((conv => whnf); first | refine Then.mk ?_ | left | refine OpsA.cons ?_ | refine OpsA.nil ?_ | refine AWq.seq ?_ | refine AWq.region ?_ | refine AWq.block ?_ | refine AWq.ret ?_ | refine AWq.rangeFunc ?_ | (intro c hc; (try (simp only [AH.none_iff] at hc; repeat (have hn := hc.1; replace hc := hc.2))); (first | skip)) | (apply Exists.intro; apply And.intro; (first | (focus (repeat (first | (with_reducible assumption) | (with_reducible exact AH.set_same _ _ _) | ((first | refine AH.get_ne ?_ ?_ | refine AH.getd_ne ?_ ?_); (first | (with_reducible assumption) | exact Ne.symm (by with_reducible assumption))))); done) | (focus (repeat (first | assumption | exact AH.set_same _ _ _ | ((first | refine AH.get_ne ?_ ?_ | refine AH.getd_ne ?_ ?_); (first | assumption | omega)))); done))) | (apply Exists.intro; apply And.intro; first | (with_reducible assumption) | ((try simp only [List.getElem?_drop, Nat.mul_one, Nat.add_zero, Nat.zero_add]); first | (with_reducible assumption) | assumption | rfl)) | (apply And.intro; (first | rfl | (with_reducible assumption) | exact Nat.le_of_ble_eq_true rfl | omega | assumption)))) <;> (try (conv => whnf))
    refine ⟨rd, ?_, ?_⟩
    · (first | (focus (repeat (first | (with_reducible assumption) | (with_reducible exact AH.set_same _ _ _) | ((first | refine AH.get_ne ?_ ?_ | refine AH.getd_ne ?_ ?_); (first | (with_reducible assumption) | exact Ne.symm (by with_reducible assumption))))); done) | (focus (repeat (first | assumption | exact AH.set_same _ _ _ | ((first | refine AH.get_ne ?_ ?_ | refine AH.getd_ne ?_ ?_); (first | assumption | omega)))); done))
    · (repeat' ((conv => whnf); first | refine Then.mk ?_ | left | refine OpsA.cons ?_ | refine OpsA.nil ?_ | refine AWq.seq ?_ | refine AWq.region ?_ | refine AWq.block ?_ | refine AWq.ret ?_ | refine AWq.rangeFunc ?_ | (intro c hc; (try (simp only [AH.none_iff] at hc; repeat (have hn := hc.1; replace hc := hc.2))); (first | skip)) | (apply Exists.intro; apply And.intro; (first | (focus (repeat (first | (with_reducible assumption) | (with_reducible exact AH.set_same _ _ _) | ((first | refine AH.get_ne ?_ ?_ | refine AH.getd_ne ?_ ?_); (first | (with_reducible assumption) | exact Ne.symm (by with_reducible assumption))))); done) | (focus (repeat (first | assumption | exact AH.set_same _ _ _ | ((first | refine AH.get_ne ?_ ?_ | refine AH.getd_ne ?_ ?_); (first | assumption | omega)))); done))) | (apply Exists.intro; apply And.intro; first | (with_reducible assumption) | ((try simp only [List.getElem?_drop, Nat.mul_one, Nat.add_zero, Nat.zero_add]); first | (with_reducible assumption) | assumption | rfl)) | (apply And.intro; (first | rfl | (with_reducible assumption) | exact Nat.le_of_ble_eq_true rfl | omega | assumption)))) <;> (try (conv => whnf))
      rw [List.length_map] at h3 h4 ⊢
      refine ⟨_, H.set q (.row (iS .i64 (S.map (·.k))) S.length), AVle.refl _, ⟨fun s o hs => ?_⟩, S, q, hS1, hS2, hq, rfl, rfl⟩
      by_cases e : s = q
      · subst e
        rw [AH.set_same] at hs
        rw [AH.del_ne _ (Ne.symm hdq), AH.del_ne _ (Ne.symm hlq), h4]; exact hs
      · rw [AH.set_ne _ _ e] at hs
        have hsd : s ≠ rd := fun e => by rw [e, hrd] at hs; cases hs
        have hsl : s ≠ rl := fun e => by rw [e, hrl] at hs; cases hs
        rw [AH.del_ne _ hsd, AH.del_ne _ hsl]; exact h7.le _ _ hs

theorem insI_perm (x : Int) : ∀ l : List Int, (insI x l).Perm (x :: l)
  | [] => List.Perm.refl _
  | y :: l => by
    unfold insI
    split
    · exact ((insI_perm x l).cons y).trans (List.Perm.swap _ _ _)
    · exact List.Perm.refl _
theorem sortI_permR : ∀ k : List Int, (sortI k.reverse).Perm k
  | [] => List.Perm.refl _
  | x :: k => by
    rw [List.reverse_cons, sortI_snoc]
    exact (insI_perm x _).trans ((sortI_permR k).cons x)
theorem sortI_nodup {l : List Int} (h : l.Nodup) : (sortI l).Nodup := by
  have := sortI_permR l.reverse
  rw [List.reverse_reverse] at this
  rw [this.nodup_iff]
  exact (List.reverse_perm l).nodup_iff.2 h
theorem srt_uniq : ∀ {A B : List Int}, Srt A → A.Nodup → B.Pairwise (· < ·) → (∀ z, z ∈ A ↔ z ∈ B) → A = B
  | [], [], _, _, _, _ => rfl
  | [], b :: B, _, _, _, h => by have := (h b).2 (by simp); simp at this
  | a :: A, [], _, _, _, h => by have := (h a).1 (by simp); simp at this
  | a :: A, b :: B, hs, hn, hp, h => by
    rw [List.nodup_cons] at hn
    rw [List.pairwise_cons] at hp
    have hab : a = b := by
      have h1 : a ∈ b :: B := (h a).1 (by simp)
      have h2 : b ∈ a :: A := (h b).2 (by simp)
      have l1 : b ≤ a := by
        rcases List.mem_cons.1 h1 with e | h1
        · omega
        · have := hp.1 a h1; omega
      have l2 : a ≤ b := by
        rcases List.mem_cons.1 h2 with e | h2
        · omega
        · exact hs.1 b h2
      omega
    subst hab
    rw [srt_uniq hs.2 hn.2 hp.2 fun z => ⟨fun hz => ?_, fun hz => ?_⟩]
    · rcases List.mem_cons.1 ((h z).1 (List.mem_cons_of_mem _ hz)) with e | h1
      · subst e; exact absurd hz hn.1
      · exact h1
    · rcases List.mem_cons.1 ((h z).2 (List.mem_cons_of_mem _ hz)) with e | h1
      · subst e; have := hp.1 z hz; omega
      · exact h1
set_option maxRecDepth 8000 in
theorem keys_c (rm : Nat) (H : AH) : ACall Try.prog 59 [.map (some rm)] H (fun y H' => ∃ c, H c = none ∧ y = .fn (.func 64) [] [.ptr c 0 0] ∧ H' = H.set c (.row [.map (some rm)] 0)) := by
  refine ACall_of tt_ok (dok _) Try.func59 rfl (by decide) rfl ?_
  (repeat' ((conv => whnf); first | refine Then.mk ?_ | refine OpsA.cons ?_ | refine OpsA.nil ?_ | refine AWq.seq ?_ | refine AWq.region ?_ | refine AWq.ret ?_ | (intro c hc; (try (simp only [AH.none_iff] at hc; repeat (have hn := hc.1; replace hc := hc.2))); (first | skip)) | (apply Exists.intro; apply And.intro; (first | (focus (repeat (first | (with_reducible assumption))); done))) | (apply And.intro; (first | rfl | (with_reducible assumption))))) <;> (try (conv => whnf))
  rfl
set_option maxHeartbeats 4000000 in
set_option maxRecDepth 8000 in
theorem rising_c (rm b cl : Nat) (es : List ME) (hes : es.length ≤ 12) (hb : ∀ x, x ∈ es → x.b < cl) (hd : (es.map (·.b)).Nodup) (hk : (es.map (·.k)).Nodup) (K : List Int) (hK : K.Pairwise (· < ·)) (hKm : ∀ z, z ∈ K ↔ z ∈ es.map (·.k)) (H : AH) (hrm : H rm = some (.map b es cl)) :
    ACall Try.prog 47 [.map (some rm)] H (fun y H' => y = .cs (iS .i64 K) K.length ∧ H' = H) := by
  refine ACall.cold (es := 1) (by simp) ?_
  refine ACall.told ?_
  have hcol : ∀ c1 H, H c1 = some (.row [.map (some rm)] 0) → H rm = some (.map b es cl) → ACall Try.prog 58 [.fn (.func 64) [] [.ptr c1 0 0]] H
      (fun y H' => ∃ q, H q = none ∧ y = .sl q K.length 1 0 K.length none ∧ H' = H.set q (.row (iS .i64 K) K.length)) := by
    intro c1 H hc1 hrm
    have ha := append_seq rm b cl c1 es (by omega) hb hd H hc1 hrm
    have hcl : ACall Try.prog 62 [.fn (.func 64) [] [.ptr c1 0 0]] H (fun y H' => ∃ (S : List ME) (q : Nat), (S.map (·.b)).Nodup ∧ (∀ s, s ∈ S ↔ s ∈ es) ∧ H q = none ∧ y = .sl q S.length 1 0 S.length none ∧ H' = H.set q (.row (iS .i64 (S.map (·.k))) S.length)) := by
      refine ACall_of tt_ok (dok _) Try.func62 rfl (by decide) rfl ?_
      (repeat' ((conv => whnf); first | refine Then.mk ?_ | refine OpsA.cons ?_ | refine OpsA.nil ?_ | refine AWq.seq ?_ | refine AWq.region ?_ | refine AWq.ret ?_ | (apply Exists.intro; apply And.intro; (first | (focus (repeat (first | (with_reducible assumption))); done))) | (apply And.intro; (first | rfl | (with_reducible assumption) | (simp <;> omega))))) <;> (try (conv => whnf))
      refine ha.mono ?_
      rintro y H' ⟨S, q, h1, h2, h3, rfl, rfl⟩
      (repeat' ((conv => whnf); first | refine Then.mk ?_ | refine OpsA.cons ?_ | refine OpsA.nil ?_ | refine AWq.seq ?_ | refine AWq.region ?_ | refine AWq.ret ?_ | (apply Exists.intro; apply And.intro; (first | (focus (repeat (first | (with_reducible assumption))); done))) | (apply And.intro; (first | rfl | (with_reducible assumption) | (simp <;> omega))))) <;> (try (conv => whnf))
      exact ⟨S, q, h1, h2, h3, rfl, rfl⟩
    refine ACall_of tt_ok (dok _) Try.func58 rfl (by decide) rfl ?_
    (repeat' ((conv => whnf); first | refine Then.mk ?_ | refine OpsA.cons ?_ | refine OpsA.nil ?_ | refine AWq.seq ?_ | refine AWq.region ?_ | refine AWq.ret ?_ | (apply Exists.intro; apply And.intro; (first | (focus (repeat (first | (with_reducible assumption))); done))) | (apply And.intro; (first | rfl | (with_reducible assumption) | (simp <;> omega))))) <;> (try (conv => whnf))
    refine hcl.mono ?_
    rintro y H' ⟨S, q, h1, h2, h3, rfl, rfl⟩
    have hSl : S.length ≤ 12 := by
      have := nodup_len (A := S.map (·.b)) (B := es.map (·.b)) h1 fun a ha => by
        obtain ⟨x, hx, rfl⟩ := List.mem_map.1 ha
        exact List.mem_map.2 ⟨x, (h2 x).1 hx, rfl⟩
      simp at this; omega
    have hSk : (S.map (·.k)).Nodup := by
      have : ∀ T : List ME, (T.map (·.b)).Nodup → (∀ s, s ∈ T → s ∈ es) → (T.map (·.k)).Nodup := by
        intro T
        induction T with
        | nil => intro _ _; exact List.nodup_nil
        | cons t T ih =>
          intro hn hm
          rw [List.map_cons, List.nodup_cons] at hn ⊢
          refine ⟨fun hc => ?_, ih hn.2 fun s hs => hm s (by simp [hs])⟩
          obtain ⟨z, hz, e⟩ := List.mem_map.1 hc
          have := map_inj hk (hm z (by simp [hz])) (hm t (by simp)) e
          exact hn.1 (List.mem_map.2 ⟨z, hz, by rw [this]⟩)
      exact this S h1 fun s hs => (h2 s).1 hs
    have hsort : sortI (S.map (·.k)) = K := srt_uniq (sortI_srt _) (sortI_nodup hSk) hK fun z => by
      rw [sortI_mem, hKm]
      constructor
      · intro h; obtain ⟨s, hs, e⟩ := List.mem_map.1 h; exact List.mem_map.2 ⟨s, (h2 s).1 hs, e⟩
      · intro h; obtain ⟨s, hs, e⟩ := List.mem_map.1 h; exact List.mem_map.2 ⟨s, (h2 s).2 hs, e⟩
    have hKl : K.length = S.length := by rw [← hsort, sortI_len, List.length_map]
    have hsc := sort_c (S.map (·.k)) (by simpa using hSl) q S.length (H.set q (.row (iS .i64 (S.map (·.k))) S.length)) (AH.set_same _ _ _)
    rw [hsort, List.length_map, AH.set_set] at hsc
    (repeat' ((conv => whnf); first | refine Then.mk ?_ | refine OpsA.cons ?_ | refine OpsA.nil ?_ | refine AWq.seq ?_ | refine AWq.region ?_ | refine AWq.ret ?_ | (apply Exists.intro; apply And.intro; (first | (focus (repeat (first | (with_reducible assumption))); done))) | (apply And.intro; (first | rfl | (with_reducible assumption) | (simp <;> omega))) | (refine ACall.to (hsc) ?_))) <;> (try (conv => whnf))
    rw [hKl]
  refine ACall_of tt_ok (dok _) Try.func47 rfl (by decide) rfl ?_
  (repeat' ((conv => whnf); first | refine Then.mk ?_ | refine OpsA.cons ?_ | refine OpsA.nil ?_ | refine AWq.seq ?_ | refine AWq.region ?_ | refine AWq.ret ?_ | (apply Exists.intro; apply And.intro; (first | (focus (repeat (first | (with_reducible assumption))); done))) | (apply And.intro; (first | rfl | (with_reducible assumption) | (simp <;> omega))))) <;> (try (conv => whnf))
  refine (keys_c rm _).mono ?_
  rintro y H' ⟨c, hc, rfl, rfl⟩
  (repeat' ((conv => whnf); first | refine Then.mk ?_ | refine OpsA.cons ?_ | refine OpsA.nil ?_ | refine AWq.seq ?_ | refine AWq.region ?_ | refine AWq.ret ?_ | (apply Exists.intro; apply And.intro; (first | (focus (repeat (first | (with_reducible assumption))); done))) | (apply And.intro; (first | rfl | (with_reducible assumption) | (simp <;> omega))))) <;> (try (conv => whnf))
  have hrc : rm ≠ c := fun e => by rw [e, hc] at hrm; cases hrm
  refine (hcol c _ (AH.set_same _ _ _) (by rw [AH.set_ne _ _ hrc]; exact hrm)).mono ?_
  rintro y H' ⟨q, hq, rfl, rfl⟩
  obtain ⟨hqc, hq⟩ := AH.none_set hq
  (repeat' ((conv => whnf); first | refine Then.mk ?_ | refine OpsA.cons ?_ | refine OpsA.nil ?_ | refine AWq.seq ?_ | refine AWq.region ?_ | refine AWq.ret ?_ | (apply Exists.intro; apply And.intro; (first | (focus (repeat (first | (with_reducible assumption))); done))) | (apply And.intro; (first | rfl | (with_reducible assumption) | (simp <;> omega))))) <;> (try (conv => whnf))
  exact ⟨_, H.set q (.row (iS .i64 K) K.length), AVle.refl _, HLe.set (HLe.fresh _ hc) q _, q, hq, _, rfl, rfl⟩
end Go.Proofs.Ytghielfbdpkhmaa
/- The walk of blend.Weights. -/
namespace Go.Proofs.Ytghielfbdpkhmaa
open Go.Fw Go
set_option linter.unusedVariables false
set_option linter.unusedSimpArgs false

def wget (W : Wl) (n : Int) : Option Int := match W with
  | [] => none
  | p :: l => if p.1 = n then some p.2 else wget l n
theorem wget_none {n : Int} : ∀ {W : Wl}, wget W n = none ↔ n ∉ W.map (·.1)
  | [] => by simp [wget]
  | p :: l => by
    unfold wget
    by_cases h : p.1 = n
    · rw [if_pos h]; simp [h]
    · rw [if_neg h, wget_none (W := l)]
      simp [Ne.symm h]
theorem wget_at : ∀ {W : Wl} {i : Nat} {p : Int × Int}, W.Pairwise (fun a b => a.1 < b.1) → W[i]? = some p → wget W p.1 = some p.2
  | [], i, p, _, h => by simp at h
  | q :: l, 0, p, _, h => by
    simp at h; subst h
    unfold wget; rw [if_pos rfl]
  | q :: l, i + 1, p, hp, h => by
    rw [List.pairwise_cons] at hp
    have h : l[i]? = some p := by simpa using h
    have := hp.1 p (List.mem_of_getElem? h)
    unfold wget
    rw [if_neg (by omega)]
    exact wget_at hp.2 h
theorem wget_mem {n c : Int} : ∀ {W : Wl}, wget W n = some c → (n, c) ∈ W
  | [], h => by cases h
  | p :: l, h => by
    unfold wget at h
    split at h
    · rename_i e
      cases h
      rw [← e]; exact List.mem_cons_self
    · exact List.mem_cons_of_mem _ (wget_mem h)
theorem wget_cnt {x : Int} (n : Int) : ∀ {W : Wl}, W.Pairwise (fun a b => a.1 < b.1) → wget (cntI x W) n = if n = x then some ((wget W x).getD 0 + 1) else wget W n
  | [], _ => by
    show (if x = n then some 1 else none) = _
    by_cases h : n = x
    · rw [if_pos h.symm, if_pos h]; rfl
    · rw [if_neg (Ne.symm h), if_neg h]; rfl
  | p :: l, hp => by
    rw [List.pairwise_cons] at hp
    unfold cntI
    by_cases h1 : p.1 = x
    · rw [if_pos h1]
      show (if x = n then some (p.2 + 1) else wget l n) = if n = x then some ((if p.1 = x then some p.2 else wget l x).getD 0 + 1) else if p.1 = n then some p.2 else wget l n
      rw [if_pos h1]
      by_cases h : n = x
      · rw [if_pos h.symm, if_pos h]; rfl
      · rw [if_neg (Ne.symm h), if_neg h, if_neg (by omega)]
    · rw [if_neg h1]
      have hnx : wget l x = none ∨ p.1 < x := by
        by_cases h2 : p.1 < x
        · exact .inr h2
        · refine .inl (wget_none.2 fun hm => ?_)
          obtain ⟨q, hq, e⟩ := List.mem_map.1 hm
          have := hp.1 q hq; omega
      by_cases h2 : x < p.1
      · rw [if_pos h2]
        have hn : wget l x = none := by rcases hnx with h | h; exact h; omega
        show (if x = n then some 1 else if p.1 = n then some p.2 else wget l n) = if n = x then some ((if p.1 = x then some p.2 else wget l x).getD 0 + 1) else if p.1 = n then some p.2 else wget l n
        rw [if_neg h1, hn]
        by_cases h : n = x
        · rw [if_pos h.symm, if_pos h]; rfl
        · rw [if_neg (Ne.symm h), if_neg h]
      · rw [if_neg h2]
        show (if p.1 = n then some p.2 else wget (cntI x l) n) = if n = x then some ((if p.1 = x then some p.2 else wget l x).getD 0 + 1) else if p.1 = n then some p.2 else wget l n
        rw [wget_cnt n hp.2, if_neg h1]
        by_cases h : n = x
        · rw [if_pos h, if_pos h, if_neg (by omega)]
        · rw [if_neg h, if_neg h]
theorem mget_none {n : Int} : ∀ {es : List ME}, mget es n = none ↔ n ∉ es.map (·.k)
  | [] => by simp [mget]
  | p :: l => by
    unfold mget
    by_cases h : p.k = n
    · rw [if_pos h]; simp [h]
    · rw [if_neg h, mget_none (es := l)]
      simp [Ne.symm h]
theorem mget_put {x : Int} {v : AV} (n : Int) : ∀ (es : List ME), (mget (mput es x v) n).map (·.v) = if n = x then (mget es x).map fun _ => v else (mget es n).map (·.v)
  | [] => by simp [mput, mget]
  | p :: l => by
    unfold mput
    by_cases h1 : p.k = x
    · rw [if_pos h1]
      show (if p.k = n then some (⟨p.k, v, p.b⟩ : ME) else mget l n).map (·.v) = if n = x then (if p.k = x then some p else mget l x).map (fun _ => v) else (if p.k = n then some p else mget l n).map (·.v)
      rw [if_pos h1]
      by_cases h : n = x
      · rw [if_pos (by omega), if_pos h]; rfl
      · rw [if_neg (by omega), if_neg h, if_neg (by omega)]
    · rw [if_neg h1]
      show (if p.k = n then some p else mget (mput l x v) n).map (·.v) = if n = x then (if p.k = x then some p else mget l x).map (fun _ => v) else (if p.k = n then some p else mget l n).map (·.v)
      rw [if_neg h1]
      by_cases h2 : p.k = n
      · rw [if_pos h2, if_neg (by omega), if_pos h2]
      · rw [if_neg h2, mget_put n l, if_neg h2]
theorem mget_push {y : ME} (n : Int) : ∀ (es : List ME), mget (es ++ [y]) n = (mget es n).orElse fun _ => if y.k = n then some y else none
  | [] => rfl
  | p :: l => by
    show (if p.k = n then some p else mget (l ++ [y]) n) = (if p.k = n then some p else mget l n).orElse _
    by_cases h : p.k = n
    · rw [if_pos h, if_pos h]; rfl
    · rw [if_neg h, if_neg h, mget_push n l]
theorem mput_k {x : Int} {v : AV} : ∀ (es : List ME), (mput es x v).map (·.k) = es.map (·.k)
  | [] => rfl
  | p :: l => by
    unfold mput
    split
    · rfl
    · simp [mput_k l]
/-- The map holds the counts. -/
structure MOk (es : List ME) (cl : Nat) (W : Wl) : Prop where
  b : ∀ x, x ∈ es → x.b < cl
  d : (es.map (·.b)).Nodup
  k : (es.map (·.k)).Nodup
  g : ∀ n, (mget es n).map (·.v) = (wget W n).map fun c => AV.int .i64 c
theorem MOk.nil : MOk [] 0 [] := ⟨fun x hx => by simp at hx, List.nodup_nil, List.nodup_nil, fun n => rfl⟩
theorem MOk.km {es : List ME} {cl : Nat} {W : Wl} (h : MOk es cl W) (z : Int) : z ∈ W.map (·.1) ↔ z ∈ es.map (·.k) := by
  have := h.g z
  constructor
  · intro hz
    refine Classical.byContradiction fun hn => ?_
    rw [mget_none.2 hn] at this
    cases hw : wget W z with
    | none => exact wget_none.1 hw hz
    | some c => rw [hw] at this; cases this
  · intro hz
    refine Classical.byContradiction fun hn => ?_
    rw [wget_none.2 hn] at this
    cases hw : mget es z with
    | none => exact mget_none.1 hw hz
    | some c => rw [hw] at this; cases this
theorem MOk.len {es : List ME} {cl : Nat} {W : Wl} {m : Int} (h : MOk es cl W) (hW : WOk m W) : es.length ≤ 12 := by
  have h1 := hW.len
  have := nodup_len (A := es.map (·.k)) (B := W.map (·.1)) h.k fun a ha => (h.km a).2 ha
  simp at this; omega
theorem MOk.gs {es : List ME} {cl : Nat} {W : Wl} (h : MOk es cl W) {n c : Int} (hw : wget W n = some c) : ∃ k b, mget es n = some ⟨k, .int .i64 c, b⟩ := by
  have := h.g n
  rw [hw] at this
  cases hm : mget es n with
  | none => rw [hm] at this; cases this
  | some x =>
    obtain ⟨k, v, b⟩ := x
    rw [hm] at this
    have : v = .int .i64 c := by simpa using this
    subst this
    exact ⟨k, b, rfl⟩
theorem MOk.gn {es : List ME} {cl : Nat} {W : Wl} (h : MOk es cl W) {n : Int} (hw : wget W n = none) : mget es n = none := by
  have := h.g n
  rw [hw] at this
  cases hm : mget es n with
  | none => rfl
  | some x => rw [hm] at this; cases this
theorem MOk.put {es : List ME} {cl : Nat} {W : Wl} (h : MOk es cl W) (hs : W.Pairwise (fun a b => a.1 < b.1)) {n c : Int} (hw : wget W n = some c) : MOk (mput es n (.int .i64 (c + 1))) cl (cntI n W) := by
  refine ⟨fun x hx => mput_lt h.b x hx, by rw [mput_b]; exact h.d, by rw [mput_k]; exact h.k, fun m => ?_⟩
  rw [mget_put, wget_cnt m hs, hw]
  obtain ⟨k, b, hm⟩ := h.gs hw
  by_cases e : m = n
  · rw [if_pos e, if_pos e, hm]; rfl
  · rw [if_neg e, if_neg e]; exact h.g m
theorem MOk.new {es : List ME} {cl : Nat} {W : Wl} (h : MOk es cl W) (hs : W.Pairwise (fun a b => a.1 < b.1)) {n : Int} (hw : wget W n = none) : MOk (es ++ [⟨n, .int .i64 1, cl⟩]) (cl + 1) (cntI n W) := by
  have hm := h.gn hw
  refine ⟨push_lt h.b, ?_, ?_, fun m => ?_⟩
  · rw [List.map_append, List.nodup_append]
    refine ⟨h.d, by simp, fun a ha z hz => ?_⟩
    obtain ⟨x, hx, rfl⟩ := List.mem_map.1 ha
    have : z = cl := by simpa using hz
    have := h.b x hx; omega
  · rw [List.map_append, List.nodup_append]
    refine ⟨h.k, by simp, fun a ha z hz => ?_⟩
    have : z = n := by simpa using hz
    subst this
    intro e
    exact mget_none.1 hm (e ▸ ha)
  · rw [mget_push, wget_cnt m hs, hw]
    by_cases e : m = n
    · subst e
      rw [if_pos rfl, hm]
      simp
    · rw [if_neg e]
      have := h.g m
      cases hmm : mget es m with
      | none =>
        rw [hmm] at this
        rw [← this]
        simp [Ne.symm e]
      | some x => rw [hmm] at this; exact this
end Go.Proofs.Ytghielfbdpkhmaa
/- The walk of blend.Weights. -/
namespace Go.Proofs.Ytghielfbdpkhmaa
open Go.Fw Go
set_option linter.unusedVariables false
set_option linter.unusedSimpArgs false

set_option maxHeartbeats 16000000 in
set_option maxRecDepth 8000 in
theorem weights_c (w h : Int) (L : List Int) (x y r : Int) (hL : LOk L) (hx : I64 x) (hy : I64 y) (hr : I64 r) (H : AH) :
    ACall Try.prog 15 [.int .i64 w, .int .i64 h, .cs (iS .i64 L) L.length, .int .i64 x, .int .i64 y, .int .i64 r] H
      (fun z H' => z = .tup [.cs (prL (wtV w h L x y r).1) (wtV w h L x y r).1.length, .int .i64 (wtV w h L x y r).2] ∧ H' = H) := by
  have hLl := hL.1
  refine ACall.told ?_
  unfold wtV
  have wm : 1 ≤ w ∧ w ≤ 256 → 1 ≤ h ∧ h ≤ 256 → IntKind.i64.wrap (w * h) = w * h ∧ 0 ≤ w * h ∧ w * h ≤ 65536 := fun h1 h2 => by
    have e1 : w * h ≤ 256 * h := Int.mul_le_mul_of_nonneg_right h1.2 (by omega)
    have e2 : 0 ≤ w * h := Int.mul_nonneg (by omega) (by omega)
    refine ⟨?_, e2, by omega⟩
    rw [IntKind.wrap_i64]; omega
  have bw := fun H => btw_c w 1 256 H
  have bh := fun H => btw_c h 1 256 H
  by_cases hb : wBad w h L
  · rw [if_pos hb]
    unfold wBad at hb
    by_cases h1 : 1 ≤ w ∧ w ≤ 256
    · rw [decide_eq_true h1] at bw
      by_cases h2 : 1 ≤ h ∧ h ≤ 256
      · rw [decide_eq_true h2] at bh
        obtain ⟨m1, m2, m3⟩ := wm h1 h2
        have hb : (L.length : Int) ≠ w * h := by
          rcases hb with hb | hb | hb
          · exact absurd h1 hb
          · exact absurd h2 hb
          · exact hb
        clear wm
        generalize hp : w * h = p at *
        have m4 : IntKind.i64.wrap (w * h) = p := by rw [hp]; exact m1
        refine ACall_of tt_ok (dok _) Try.func15 rfl (by decide) rfl ?_
        (repeat' ((conv => whnf); first | refine Then.mk ?_ | left | refine OpsA.cons ?_ | refine OpsA.nil ?_ | refine AWq.seq ?_ | refine AWq.region ?_ | refine AWq.cond ?_ | refine AWq.block ?_ | refine AWq.skip ?_ | refine AWq.ret ?_ | refine AWq.exit ?_ | refine AWq.loop ?_ | (refine Both.mk ?_ ?_ <;> intro hc <;> (first | exact Bool.noConfusion hc | exact absurd (by assumption) hc | (exfalso; omega) | skip)) | (intro c hc; (try (simp only [AH.none_iff] at hc; repeat (have hn := hc.1; replace hc := hc.2))); (first | (have hc2 := Eq.trans hc (by with_reducible assumption); clear hc; subst hc2) | (refine i64_k hc ?_ ?_ ?_ ; omega; omega; (clear hc; intro hc; subst hc)) | skip)) | (apply Exists.intro; apply And.intro; (first | (focus (repeat (first | (with_reducible assumption) | (with_reducible exact AH.set_same _ _ _))); done))) | (apply Exists.intro; apply And.intro; first | (with_reducible assumption) | ((try simp only [List.getElem?_drop, Nat.mul_one, Nat.add_zero, Nat.zero_add]); first | (with_reducible assumption) | rfl)) | (apply And.intro; (first | rfl | (with_reducible assumption) | omega | (simp <;> omega))) | (refine ACall.to (bw _) ?_) | (refine ACall.to (bh _) ?_))) <;> (try (conv => whnf))
        exact ⟨_, H, AVle.wErr _, by (first | ((repeat' (first | (with_reducible exact HLe.refl _) | (with_reducible assumption))); done)), rfl, rfl⟩
      · rw [decide_eq_false h2] at bh
        clear wm hb
        refine ACall_of tt_ok (dok _) Try.func15 rfl (by decide) rfl ?_
        (repeat' ((conv => whnf); first | refine Then.mk ?_ | left | refine OpsA.cons ?_ | refine OpsA.nil ?_ | refine AWq.seq ?_ | refine AWq.region ?_ | refine AWq.cond ?_ | refine AWq.block ?_ | refine AWq.skip ?_ | refine AWq.ret ?_ | refine AWq.exit ?_ | refine AWq.loop ?_ | (refine Both.mk ?_ ?_ <;> intro hc <;> (first | exact Bool.noConfusion hc | exact absurd (by assumption) hc | (exfalso; omega) | skip)) | (intro c hc; (try (simp only [AH.none_iff] at hc; repeat (have hn := hc.1; replace hc := hc.2))); (first | (have hc2 := Eq.trans hc (by with_reducible assumption); clear hc; subst hc2) | (refine i64_k hc ?_ ?_ ?_ ; omega; omega; (clear hc; intro hc; subst hc)) | skip)) | (apply Exists.intro; apply And.intro; (first | (focus (repeat (first | (with_reducible assumption) | (with_reducible exact AH.set_same _ _ _))); done))) | (apply Exists.intro; apply And.intro; first | (with_reducible assumption) | ((try simp only [List.getElem?_drop, Nat.mul_one, Nat.add_zero, Nat.zero_add]); first | (with_reducible assumption) | rfl)) | (apply And.intro; (first | rfl | (with_reducible assumption) | omega | (simp <;> omega))) | (refine ACall.to (bw _) ?_) | (refine ACall.to (bh _) ?_))) <;> (try (conv => whnf))
        all_goals exact ⟨_, H, AVle.wErr _, by (first | ((repeat' (first | (with_reducible exact HLe.refl _) | (with_reducible assumption))); done)), rfl, rfl⟩
    · rw [decide_eq_false h1] at bw
      clear wm hb
      refine ACall_of tt_ok (dok _) Try.func15 rfl (by decide) rfl ?_
      (repeat' ((conv => whnf); first | refine Then.mk ?_ | left | refine OpsA.cons ?_ | refine OpsA.nil ?_ | refine AWq.seq ?_ | refine AWq.region ?_ | refine AWq.cond ?_ | refine AWq.block ?_ | refine AWq.skip ?_ | refine AWq.ret ?_ | refine AWq.exit ?_ | refine AWq.loop ?_ | (refine Both.mk ?_ ?_ <;> intro hc <;> (first | exact Bool.noConfusion hc | exact absurd (by assumption) hc | (exfalso; omega) | skip)) | (intro c hc; (try (simp only [AH.none_iff] at hc; repeat (have hn := hc.1; replace hc := hc.2))); (first | (have hc2 := Eq.trans hc (by with_reducible assumption); clear hc; subst hc2) | (refine i64_k hc ?_ ?_ ?_ ; omega; omega; (clear hc; intro hc; subst hc)) | skip)) | (apply Exists.intro; apply And.intro; (first | (focus (repeat (first | (with_reducible assumption) | (with_reducible exact AH.set_same _ _ _))); done))) | (apply Exists.intro; apply And.intro; first | (with_reducible assumption) | ((try simp only [List.getElem?_drop, Nat.mul_one, Nat.add_zero, Nat.zero_add]); first | (with_reducible assumption) | rfl)) | (apply And.intro; (first | rfl | (with_reducible assumption) | omega | (simp <;> omega))) | (refine ACall.to (bw _) ?_) | (refine ACall.to (bh _) ?_))) <;> (try (conv => whnf))
      all_goals exact ⟨_, H, AVle.wErr _, by (first | ((repeat' (first | (with_reducible exact HLe.refl _) | (with_reducible assumption))); done)), rfl, rfl⟩
  rw [if_neg hb]
  unfold wBad at hb
  simp only [not_or, Classical.not_not] at hb
  obtain ⟨h1, h2, h3⟩ := hb
  obtain ⟨m1, m2, m3⟩ := wm h1 h2
  clear wm
  rw [decide_eq_true h1] at bw
  rw [decide_eq_true h2] at bh
  obtain ⟨p, hp⟩ : ∃ p, p = w * h := ⟨_, rfl⟩
  have m4 : IntKind.i64.wrap (w * h) = p := by rw [hp]; exact m1
  rw [← hp] at h3 m2 m3
  clear m1
  have bx := fun H => btw_c x 0 (w - 1) H
  have bY := fun H => btw_c y 0 (h - 1) H
  have br := fun H => btw_c r 0 4 H
  by_cases ho : wOut w h x y r
  · rw [if_pos ho]
    unfold wOut at ho
    by_cases g1 : 0 ≤ x ∧ x ≤ w - 1
    · rw [decide_eq_true g1] at bx
      by_cases g2 : 0 ≤ y ∧ y ≤ h - 1
      · rw [decide_eq_true g2] at bY
        rw [decide_eq_false (show ¬ (0 ≤ r ∧ r ≤ 4) by omega)] at br
        refine ACall_of tt_ok (dok _) Try.func15 rfl (by decide) rfl ?_
        (repeat' ((conv => whnf); first | refine Then.mk ?_ | left | refine OpsA.cons ?_ | refine OpsA.nil ?_ | refine AWq.seq ?_ | refine AWq.region ?_ | refine AWq.cond ?_ | refine AWq.block ?_ | refine AWq.skip ?_ | refine AWq.ret ?_ | refine AWq.exit ?_ | refine AWq.loop ?_ | (refine Both.mk ?_ ?_ <;> intro hc <;> (first | exact Bool.noConfusion hc | exact absurd (by assumption) hc | (exfalso; omega) | skip)) | (intro c hc; (try (simp only [AH.none_iff] at hc; repeat (have hn := hc.1; replace hc := hc.2))); (first | (have hc2 := Eq.trans hc (by with_reducible assumption); clear hc; subst hc2) | (refine i64_k hc ?_ ?_ ?_ ; omega; omega; (clear hc; intro hc; subst hc)) | skip)) | (apply Exists.intro; apply And.intro; (first | (focus (repeat (first | (with_reducible assumption) | (with_reducible exact AH.set_same _ _ _))); done))) | (apply Exists.intro; apply And.intro; first | (with_reducible assumption) | ((try simp only [List.getElem?_drop, Nat.mul_one, Nat.add_zero, Nat.zero_add]); first | (with_reducible assumption) | rfl)) | (apply And.intro; (first | rfl | (with_reducible assumption) | omega | (simp <;> omega))) | (refine ACall.to (bw _) ?_) | (refine ACall.to (bh _) ?_) | (refine ACall.to (bx _) ?_) | (refine ACall.to (bY _) ?_) | (refine ACall.to (br _) ?_))) <;> (try (conv => whnf))
        all_goals exact ⟨_, H, AVle.wErr _, by (first | ((repeat' (first | (with_reducible exact HLe.refl _) | (with_reducible assumption))); done)), rfl, rfl⟩
      · rw [decide_eq_false g2] at bY
        refine ACall_of tt_ok (dok _) Try.func15 rfl (by decide) rfl ?_
        (repeat' ((conv => whnf); first | refine Then.mk ?_ | left | refine OpsA.cons ?_ | refine OpsA.nil ?_ | refine AWq.seq ?_ | refine AWq.region ?_ | refine AWq.cond ?_ | refine AWq.block ?_ | refine AWq.skip ?_ | refine AWq.ret ?_ | refine AWq.exit ?_ | refine AWq.loop ?_ | (refine Both.mk ?_ ?_ <;> intro hc <;> (first | exact Bool.noConfusion hc | exact absurd (by assumption) hc | (exfalso; omega) | skip)) | (intro c hc; (try (simp only [AH.none_iff] at hc; repeat (have hn := hc.1; replace hc := hc.2))); (first | (have hc2 := Eq.trans hc (by with_reducible assumption); clear hc; subst hc2) | (refine i64_k hc ?_ ?_ ?_ ; omega; omega; (clear hc; intro hc; subst hc)) | skip)) | (apply Exists.intro; apply And.intro; (first | (focus (repeat (first | (with_reducible assumption) | (with_reducible exact AH.set_same _ _ _))); done))) | (apply Exists.intro; apply And.intro; first | (with_reducible assumption) | ((try simp only [List.getElem?_drop, Nat.mul_one, Nat.add_zero, Nat.zero_add]); first | (with_reducible assumption) | rfl)) | (apply And.intro; (first | rfl | (with_reducible assumption) | omega | (simp <;> omega))) | (refine ACall.to (bw _) ?_) | (refine ACall.to (bh _) ?_) | (refine ACall.to (bx _) ?_) | (refine ACall.to (bY _) ?_) | (refine ACall.to (br _) ?_))) <;> (try (conv => whnf))
        all_goals exact ⟨_, H, AVle.wErr _, by (first | ((repeat' (first | (with_reducible exact HLe.refl _) | (with_reducible assumption))); done)), rfl, rfl⟩
    · rw [decide_eq_false g1] at bx
      refine ACall_of tt_ok (dok _) Try.func15 rfl (by decide) rfl ?_
      (repeat' ((conv => whnf); first | refine Then.mk ?_ | left | refine OpsA.cons ?_ | refine OpsA.nil ?_ | refine AWq.seq ?_ | refine AWq.region ?_ | refine AWq.cond ?_ | refine AWq.block ?_ | refine AWq.skip ?_ | refine AWq.ret ?_ | refine AWq.exit ?_ | refine AWq.loop ?_ | (refine Both.mk ?_ ?_ <;> intro hc <;> (first | exact Bool.noConfusion hc | exact absurd (by assumption) hc | (exfalso; omega) | skip)) | (intro c hc; (try (simp only [AH.none_iff] at hc; repeat (have hn := hc.1; replace hc := hc.2))); (first | (have hc2 := Eq.trans hc (by with_reducible assumption); clear hc; subst hc2) | (refine i64_k hc ?_ ?_ ?_ ; omega; omega; (clear hc; intro hc; subst hc)) | skip)) | (apply Exists.intro; apply And.intro; (first | (focus (repeat (first | (with_reducible assumption) | (with_reducible exact AH.set_same _ _ _))); done))) | (apply Exists.intro; apply And.intro; first | (with_reducible assumption) | ((try simp only [List.getElem?_drop, Nat.mul_one, Nat.add_zero, Nat.zero_add]); first | (with_reducible assumption) | rfl)) | (apply And.intro; (first | rfl | (with_reducible assumption) | omega | (simp <;> omega))) | (refine ACall.to (bw _) ?_) | (refine ACall.to (bh _) ?_) | (refine ACall.to (bx _) ?_) | (refine ACall.to (bY _) ?_) | (refine ACall.to (br _) ?_))) <;> (try (conv => whnf))
      all_goals exact ⟨_, H, AVle.wErr _, by (first | ((repeat' (first | (with_reducible exact HLe.refl _) | (with_reducible assumption))); done)), rfl, rfl⟩
  rw [if_neg ho]
  unfold wOut at ho
  simp only [not_or, Classical.not_not] at ho
  obtain ⟨o1, o2, o3⟩ := ho
  rw [decide_eq_true (show 0 ≤ x ∧ x ≤ w - 1 by omega)] at bx
  rw [decide_eq_true (show 0 ≤ y ∧ y ≤ h - 1 by omega)] at bY
  rw [decide_eq_true o3] at br
  obtain ⟨w, rfl⟩ : ∃ n : Nat, w = n := ⟨w.toNat, by omega⟩
  obtain ⟨h, rfl⟩ : ∃ n : Nat, h = n := ⟨h.toNat, by omega⟩
  obtain ⟨x, rfl⟩ : ∃ n : Nat, x = n := ⟨x.toNat, by omega⟩
  obtain ⟨y, rfl⟩ : ∃ n : Nat, y = n := ⟨y.toNat, by omega⟩
  obtain ⟨r, rfl⟩ : ∃ n : Nat, r = n := ⟨r.toNat, by omega⟩
  simp only [Int.toNat_natCast]
  have hLw : L.length = w * h := by rw [← Int.natCast_mul] at hp; omega
  unfold winV
  obtain ⟨x0, hx0⟩ : ∃ x0, x0 = x - r := ⟨_, rfl⟩
  obtain ⟨nx, hnx⟩ : ∃ nx, nx = min w (x + r + 1) - (x - r) := ⟨_, rfl⟩
  obtain ⟨y0, hy0⟩ : ∃ y0, y0 = y - r := ⟨_, rfl⟩
  obtain ⟨ny, hny⟩ : ∃ ny, ny = min h (y + r + 1) - (y - r) := ⟨_, rfl⟩
  have bx2 : nx ≤ 9 ∧ x0 + nx = min w (x + r + 1) := by omega
  have by2 : ny ≤ 9 ∧ y0 + ny = min h (y + r + 1) := by omega
  rw [← hnx, ← hny, ← hx0, ← hy0]
  have mx : max (0 : Int) ((x : Int) - r) = x0 := by omega
  have my : max (0 : Int) ((y : Int) - r) = y0 := by omega
  have nx1 : min (w : Int) ((x : Int) + r + 1) = (x0 : Int) + nx := by omega
  have ny1 : min (h : Int) ((y : Int) + r + 1) = (y0 : Int) + ny := by omega
  have hLi : (iS .i64 L).length = L.length := by simp
  have hwk := fun k => winW_ok hL (w := w) (x0 := x0) (nx := nx) (y0 := y0) k
  refine ACall_of tt_ok (dok _) Try.func15 rfl (by decide) rfl ?_
  (repeat' ((conv => whnf); first | refine Then.mk ?_ | left | refine OpsA.cons ?_ | refine OpsA.nil ?_ | refine AWq.seq ?_ | refine AWq.region ?_ | refine AWq.cond ?_ | refine AWq.block ?_ | refine AWq.skip ?_ | refine AWq.ret ?_ | refine AWq.exit ?_ | refine AWq.loop ?_ | (refine Both.mk ?_ ?_ <;> intro hc <;> (first | exact Bool.noConfusion hc | exact absurd (by assumption) hc | (exfalso; omega) | skip)) | (intro c hc; (try (simp only [AH.none_iff] at hc; repeat (have hn := hc.1; replace hc := hc.2))); (first | (have hc2 := Eq.trans hc (by with_reducible assumption); clear hc; subst hc2) | (refine i64_k hc ?_ ?_ ?_ ; omega; omega; (clear hc; intro hc; subst hc)) | skip)) | (apply Exists.intro; apply And.intro; (first | (focus (repeat (first | (with_reducible assumption) | (with_reducible exact AH.set_same _ _ _))); done))) | (apply Exists.intro; apply And.intro; first | (with_reducible assumption) | ((try simp only [List.getElem?_drop, Nat.mul_one, Nat.add_zero, Nat.zero_add]); first | (with_reducible assumption) | rfl)) | (apply And.intro; (first | rfl | (with_reducible assumption) | omega | (simp <;> omega))) | (refine ACall.to (bw _) ?_) | (refine ACall.to (bh _) ?_) | (refine ACall.to (bx _) ?_) | (refine ACall.to (bY _) ?_) | (refine ACall.to (br _) ?_))) <;> (try (conv => whnf))
  revert c hc
  intro rm bm hrm
  clear bw bh bx bY br
  (repeat' ((conv => whnf); first | refine Then.mk ?_ | left | refine OpsA.cons ?_ | refine OpsA.nil ?_ | refine AWq.seq ?_ | refine AWq.region ?_ | refine AWq.cond ?_ | refine AWq.block ?_ | refine AWq.skip ?_ | refine AWq.ret ?_ | refine AWq.exit ?_ | refine AWq.loop ?_ | (refine Both.mk ?_ ?_ <;> intro hc <;> (first | exact Bool.noConfusion hc | exact absurd (by assumption) hc | (exfalso; omega) | skip)) | (intro c hc; (try (simp only [AH.none_iff] at hc; repeat (have hn := hc.1; replace hc := hc.2))); (first | (have hc2 := Eq.trans hc (by with_reducible assumption); clear hc; subst hc2) | (refine i64_k hc ?_ ?_ ?_ ; omega; omega; (clear hc; intro hc; subst hc)) | skip)) | (apply Exists.intro; apply And.intro; (first | (focus (repeat (first | (with_reducible assumption) | (with_reducible exact AH.set_same _ _ _))); done))) | (apply Exists.intro; apply And.intro; first | (with_reducible assumption) | ((try simp only [List.getElem?_drop, Nat.mul_one, Nat.add_zero, Nat.zero_add]); first | (with_reducible assumption) | rfl)) | (apply And.intro; (first | rfl | (with_reducible assumption) | omega | (simp <;> omega))))) <;> (try (conv => whnf))
  refine AWp_loop (σ := Nat × List ME × Nat) (15 :: 17 :: 61 :: 62 :: 63 :: 64 :: 65 :: 66 :: 67 :: 68 :: 69 :: 70 :: 71 :: 72 :: 73 :: 74 :: 75 :: 76 :: 77 :: 78 :: 79 :: 80 :: 81 :: 82 :: 83 :: 84 :: 85 :: 86 :: 87 :: 88 :: 89 :: 90 :: 91 :: 92 :: 93 :: 94 :: 95 :: 96 :: 97 :: 98 :: 99 :: 100 :: 101 :: 102 :: []) (fun s => [(15, .int .i64 ((y0 + s.1 : Nat) : Int))]) (fun s => H.set rm (.map bm s.2.1 s.2.2)) (fun s => s.1 ≤ ny ∧ MOk s.2.1 s.2.2 (winW L w x0 nx y0 s.1)) (fun s => ny - s.1) (0, [], 0) rfl ⟨Nat.zero_le _, MOk.nil⟩ ⟨congrArg (AV.int .i64) (by dsimp only; omega), trivial⟩ (HLe.refl _) ?_
  rintro ⟨k, es, cl⟩ ⟨hk, hM⟩
  refine AWp.of tt_ok (dok _) rfl ?_
  dsimp only at hk hM ⊢
  by_cases hkt : k < ny
  · have hst : winW L w x0 nx y0 (k + 1) = rowW L ((y0 + k) * w + x0) (winW L w x0 nx y0 k) nx := rfl
    have hW := hwk k
    have hkn : k * nx ≤ 9 * 9 := Nat.mul_le_mul (by omega) bx2.1
    generalize hWk1 : winW L w x0 nx y0 (k + 1) = W1 at *
    generalize winW L w x0 nx y0 k = W at *
    have hjw : (y0 + k) * w ≤ 256 * 256 := Nat.mul_le_mul (by omega) (by omega)
    have wj : IntKind.i64.wrap (((y0 + k : Nat) : Int) * (w : Int)) = (((y0 + k) * w : Nat) : Int) := by rw [← Int.natCast_mul, IntKind.wrap_i64]; omega
    have hin : ∀ u, u < nx → (y0 + k) * w + x0 + u < L.length := fun u hu => by
      rw [hLw, Nat.add_assoc]
      exact win_in (w := w) (h := h) (y := 0) (r := 0) (k := 0) (by omega) (by omega) (by omega)
    have hin2 : (y0 + k) * w + x0 + nx ≤ L.length := by
      rcases Nat.eq_zero_or_pos nx with h0 | h0
      · have := win_in (w := w) (h := h) (j := y0 + k) (u := 0) (y := 0) (r := 0) (k := 0) (by omega) (by omega) (by omega)
        omega
      · have := hin (nx - 1) (by omega); omega
    obtain ⟨bb, hbb⟩ : ∃ bb, bb = (y0 + k) * w := ⟨_, rfl⟩
    rw [← hbb] at hst hjw wj hin hin2
    (repeat' ((conv => whnf); first | refine Then.mk ?_ | left | refine OpsA.cons ?_ | refine OpsA.nil ?_ | refine AWq.seq ?_ | refine AWq.region ?_ | refine AWq.cond ?_ | refine AWq.block ?_ | refine AWq.skip ?_ | refine AWq.ret ?_ | refine AWq.exit ?_ | refine AWq.loop ?_ | (refine Both.mk ?_ ?_ <;> intro hc <;> (first | exact Bool.noConfusion hc | exact absurd (by assumption) hc | (exfalso; omega) | skip)) | (intro c hc; (try (simp only [AH.none_iff] at hc; repeat (have hn := hc.1; replace hc := hc.2))); (first | (have hc2 := Eq.trans hc (by with_reducible assumption); clear hc; subst hc2) | (refine i64_k hc ?_ ?_ ?_ ; omega; omega; (clear hc; intro hc; subst hc)) | skip)) | (apply Exists.intro; apply And.intro; (first | (focus (repeat (first | (with_reducible assumption) | (with_reducible exact AH.set_same _ _ _))); done))) | (apply Exists.intro; apply And.intro; first | (with_reducible assumption) | ((try simp only [List.getElem?_drop, Nat.mul_one, Nat.add_zero, Nat.zero_add]); first | (with_reducible assumption) | rfl)) | (apply And.intro; (first | rfl | (with_reducible assumption) | omega | (simp <;> omega))))) <;> (try (conv => whnf))
    refine AWp_loop (σ := Nat × List ME × Nat) (17 :: 92 :: 93 :: 94 :: 95 :: 96 :: 97 :: 98 :: 99 :: 100 :: 101 :: 102 :: []) (fun s => [(92, .int .i64 s.1)]) (fun s => H.set rm (.map bm s.2.1 s.2.2)) (fun s => s.1 ≤ nx ∧ MOk s.2.1 s.2.2 (rowW L (bb + x0) W s.1)) (fun s => nx - s.1) (0, es, cl) rfl ⟨Nat.zero_le _, hM⟩ ⟨rfl, trivial⟩ (HLe.refl _) ?_
    rintro ⟨u, es2, cl2⟩ ⟨hu, hM2⟩
    refine AWp.of tt_ok (dok _) rfl ?_
    dsimp only at hu hM2 ⊢
    by_cases hut : u < nx
    · have hWu := rowW_ok hL (b := bb + x0) hW (by omega) u
      have hs2 : rowW L (bb + x0) W (u + 1) = cnt (L.getD (bb + x0 + u) 0) (rowW L (bb + x0) W u) := rfl
      have hinu := hin u hut
      have hg : (List.take (((bb : Int) + ((x0 : Int) + nx)).toNat - ((bb : Int) + x0).toNat) (List.drop ((bb : Int) + x0).toNat (iS .i64 L)))[(u : Int).toNat]? = some (.int .i64 (L.getD (bb + x0 + u) 0)) := by
        rw [List.getElem?_take_of_lt (by omega), List.getElem?_drop, show ((bb : Int) + x0).toNat + (u : Int).toNat = bb + x0 + u by omega]
        exact iS_get hinu
      have hlb := hL.at (bb + x0 + u)
      generalize hR1 : rowW L (bb + x0) W (u + 1) = R1 at *
      generalize rowW L (bb + x0) W u = R at *
      generalize L.getD (bb + x0 + u) 0 = lb at *
      unfold cnt at hs2
      by_cases h0 : lb < 0
      · rw [if_pos h0] at hs2
        (repeat' ((conv => whnf); first | refine Then.mk ?_ | left | refine OpsA.cons ?_ | refine OpsA.nil ?_ | refine AWq.seq ?_ | refine AWq.region ?_ | refine AWq.cond ?_ | refine AWq.block ?_ | refine AWq.skip ?_ | refine AWq.ret ?_ | refine AWq.exit ?_ | refine AWq.loop ?_ | (refine Both.mk ?_ ?_ <;> intro hc <;> (first | exact Bool.noConfusion hc | exact absurd (by assumption) hc | (exfalso; omega) | skip)) | (intro c hc; (try (simp only [AH.none_iff] at hc; repeat (have hn := hc.1; replace hc := hc.2))); (first | (have hc2 := Eq.trans hc (by with_reducible assumption); clear hc; subst hc2) | (refine i64_k hc ?_ ?_ ?_ ; omega; omega; (clear hc; intro hc; subst hc)) | skip)) | (apply Exists.intro; apply And.intro; (first | (focus (repeat (first | (with_reducible assumption) | (with_reducible exact AH.set_same _ _ _))); done))) | (apply Exists.intro; apply And.intro; first | (with_reducible assumption) | ((try simp only [List.getElem?_drop, Nat.mul_one, Nat.add_zero, Nat.zero_add]); first | (with_reducible assumption) | rfl)) | (apply And.intro; (first | rfl | (with_reducible assumption) | omega | (simp <;> omega))))) <;> (try (conv => whnf))
        exact ⟨(u + 1, es2, cl2), ⟨hut, by show MOk es2 cl2 (rowW L (bb + x0) W (u + 1)); rw [hR1, hs2]; exact hM2⟩, show nx - (u + 1) < nx - u by omega, ⟨congrArg (AV.int .i64) (by show ((u : Int) + 1) = ((u + 1 : Nat) : Int); omega), trivial⟩, HLe.refl _⟩
      · rw [if_neg h0] at hs2
        cases hwg : wget R lb with
        | none =>
          have hn := hM2.gn hwg
          have hM3 := hM2.new hWu.s hwg
          (repeat' ((conv => whnf); first | refine Then.mk ?_ | left | refine OpsA.cons ?_ | refine OpsA.nil ?_ | refine AWq.seq ?_ | refine AWq.region ?_ | refine AWq.cond ?_ | refine AWq.block ?_ | refine AWq.skip ?_ | refine AWq.ret ?_ | refine AWq.exit ?_ | refine AWq.loop ?_ | (refine Both.mk ?_ ?_ <;> intro hc <;> (first | exact Bool.noConfusion hc | exact absurd (by assumption) hc | (exfalso; omega) | skip)) | (intro c hc; (try (simp only [AH.none_iff] at hc; repeat (have hn := hc.1; replace hc := hc.2))); (first | (have hc2 := Eq.trans hc (by with_reducible assumption); clear hc; subst hc2) | (refine i64_k hc ?_ ?_ ?_ ; omega; omega; (clear hc; intro hc; subst hc)) | skip)) | (apply Exists.intro; apply And.intro; (first | (focus (repeat (first | (with_reducible assumption) | (with_reducible exact AH.set_same _ _ _))); done))) | (apply Exists.intro; apply And.intro; first | (with_reducible assumption) | ((try simp only [List.getElem?_drop, Nat.mul_one, Nat.add_zero, Nat.zero_add]); first | (with_reducible assumption) | rfl)) | (apply And.intro; (first | rfl | (with_reducible assumption) | omega | (simp <;> omega))))) <;> (try (conv => whnf))
          refine ⟨bm, es2, cl2, AH.set_same _ _ _, none, hn, ?_⟩
          (repeat' ((conv => whnf); first | refine Then.mk ?_ | left | refine OpsA.cons ?_ | refine OpsA.nil ?_ | refine AWq.seq ?_ | refine AWq.region ?_ | refine AWq.cond ?_ | refine AWq.block ?_ | refine AWq.skip ?_ | refine AWq.ret ?_ | refine AWq.exit ?_ | refine AWq.loop ?_ | (refine Both.mk ?_ ?_ <;> intro hc <;> (first | exact Bool.noConfusion hc | exact absurd (by assumption) hc | (exfalso; omega) | skip)) | (intro c hc; (try (simp only [AH.none_iff] at hc; repeat (have hn := hc.1; replace hc := hc.2))); (first | (have hc2 := Eq.trans hc (by with_reducible assumption); clear hc; subst hc2) | (refine i64_k hc ?_ ?_ ?_ ; omega; omega; (clear hc; intro hc; subst hc)) | skip)) | (apply Exists.intro; apply And.intro; (first | (focus (repeat (first | (with_reducible assumption) | (with_reducible exact AH.set_same _ _ _))); done))) | (apply Exists.intro; apply And.intro; first | (with_reducible assumption) | ((try simp only [List.getElem?_drop, Nat.mul_one, Nat.add_zero, Nat.zero_add]); first | (with_reducible assumption) | rfl)) | (apply And.intro; (first | rfl | (with_reducible assumption) | omega | (simp <;> omega))))) <;> (try (conv => whnf))
          refine ⟨bm, es2, cl2, AH.set_same _ _ _, none, hn, ?_⟩
          (repeat' ((conv => whnf); first | refine Then.mk ?_ | left | refine OpsA.cons ?_ | refine OpsA.nil ?_ | refine AWq.seq ?_ | refine AWq.region ?_ | refine AWq.cond ?_ | refine AWq.block ?_ | refine AWq.skip ?_ | refine AWq.ret ?_ | refine AWq.exit ?_ | refine AWq.loop ?_ | (refine Both.mk ?_ ?_ <;> intro hc <;> (first | exact Bool.noConfusion hc | exact absurd (by assumption) hc | (exfalso; omega) | skip)) | (intro c hc; (try (simp only [AH.none_iff] at hc; repeat (have hn := hc.1; replace hc := hc.2))); (first | (have hc2 := Eq.trans hc (by with_reducible assumption); clear hc; subst hc2) | (refine i64_k hc ?_ ?_ ?_ ; omega; omega; (clear hc; intro hc; subst hc)) | skip)) | (apply Exists.intro; apply And.intro; (first | (focus (repeat (first | (with_reducible assumption) | (with_reducible exact AH.set_same _ _ _))); done))) | (apply Exists.intro; apply And.intro; first | (with_reducible assumption) | ((try simp only [List.getElem?_drop, Nat.mul_one, Nat.add_zero, Nat.zero_add]); first | (with_reducible assumption) | rfl)) | (apply And.intro; (first | rfl | (with_reducible assumption) | omega | (simp <;> omega))))) <;> (try (conv => whnf))
          exact ⟨(u + 1, es2 ++ [⟨lb, .int .i64 1, cl2⟩], cl2 + 1), ⟨hut, by show MOk _ (cl2 + 1) (rowW L (bb + x0) W (u + 1)); rw [hR1, hs2]; exact hM3⟩, show nx - (u + 1) < nx - u by omega, ⟨congrArg (AV.int .i64) (by show ((u : Int) + 1) = ((u + 1 : Nat) : Int); omega), trivial⟩, HLe.of_eq (AH.set_set _ _ _ _).symm⟩
        | some c =>
          obtain ⟨kk, b3, hs⟩ := hM2.gs hwg
          have hM3 := hM2.put hWu.s hwg
          have hcb : 1 ≤ c ∧ c ≤ 1000 := by
            have : 1 ≤ c ∧ c ≤ ((k * nx : Nat) : Int) + u := (hWu.c _ (wget_mem hwg)).2
            omega
          (repeat' ((conv => whnf); first | refine Then.mk ?_ | left | refine OpsA.cons ?_ | refine OpsA.nil ?_ | refine AWq.seq ?_ | refine AWq.region ?_ | refine AWq.cond ?_ | refine AWq.block ?_ | refine AWq.skip ?_ | refine AWq.ret ?_ | refine AWq.exit ?_ | refine AWq.loop ?_ | (refine Both.mk ?_ ?_ <;> intro hc <;> (first | exact Bool.noConfusion hc | exact absurd (by assumption) hc | (exfalso; omega) | skip)) | (intro c hc; (try (simp only [AH.none_iff] at hc; repeat (have hn := hc.1; replace hc := hc.2))); (first | (have hc2 := Eq.trans hc (by with_reducible assumption); clear hc; subst hc2) | (refine i64_k hc ?_ ?_ ?_ ; omega; omega; (clear hc; intro hc; subst hc)) | skip)) | (apply Exists.intro; apply And.intro; (first | (focus (repeat (first | (with_reducible assumption) | (with_reducible exact AH.set_same _ _ _))); done))) | (apply Exists.intro; apply And.intro; first | (with_reducible assumption) | ((try simp only [List.getElem?_drop, Nat.mul_one, Nat.add_zero, Nat.zero_add]); first | (with_reducible assumption) | rfl)) | (apply And.intro; (first | rfl | (with_reducible assumption) | omega | (simp <;> omega))))) <;> (try (conv => whnf))
          refine ⟨bm, es2, cl2, AH.set_same _ _ _, _, hs, ?_⟩
          (repeat' ((conv => whnf); first | refine Then.mk ?_ | left | refine OpsA.cons ?_ | refine OpsA.nil ?_ | refine AWq.seq ?_ | refine AWq.region ?_ | refine AWq.cond ?_ | refine AWq.block ?_ | refine AWq.skip ?_ | refine AWq.ret ?_ | refine AWq.exit ?_ | refine AWq.loop ?_ | (refine Both.mk ?_ ?_ <;> intro hc <;> (first | exact Bool.noConfusion hc | exact absurd (by assumption) hc | (exfalso; omega) | skip)) | (intro c hc; (try (simp only [AH.none_iff] at hc; repeat (have hn := hc.1; replace hc := hc.2))); (first | (have hc2 := Eq.trans hc (by with_reducible assumption); clear hc; subst hc2) | (refine i64_k hc ?_ ?_ ?_ ; omega; omega; (clear hc; intro hc; subst hc)) | skip)) | (apply Exists.intro; apply And.intro; (first | (focus (repeat (first | (with_reducible assumption) | (with_reducible exact AH.set_same _ _ _))); done))) | (apply Exists.intro; apply And.intro; first | (with_reducible assumption) | ((try simp only [List.getElem?_drop, Nat.mul_one, Nat.add_zero, Nat.zero_add]); first | (with_reducible assumption) | rfl)) | (apply And.intro; (first | rfl | (with_reducible assumption) | omega | (simp <;> omega))))) <;> (try (conv => whnf))
          refine ⟨bm, es2, cl2, AH.set_same _ _ _, _, hs, ?_⟩
          (repeat' ((conv => whnf); first | refine Then.mk ?_ | left | refine OpsA.cons ?_ | refine OpsA.nil ?_ | refine AWq.seq ?_ | refine AWq.region ?_ | refine AWq.cond ?_ | refine AWq.block ?_ | refine AWq.skip ?_ | refine AWq.ret ?_ | refine AWq.exit ?_ | refine AWq.loop ?_ | (refine Both.mk ?_ ?_ <;> intro hc <;> (first | exact Bool.noConfusion hc | exact absurd (by assumption) hc | (exfalso; omega) | skip)) | (intro c hc; (try (simp only [AH.none_iff] at hc; repeat (have hn := hc.1; replace hc := hc.2))); (first | (have hc2 := Eq.trans hc (by with_reducible assumption); clear hc; subst hc2) | (refine i64_k hc ?_ ?_ ?_ ; omega; omega; (clear hc; intro hc; subst hc)) | skip)) | (apply Exists.intro; apply And.intro; (first | (focus (repeat (first | (with_reducible assumption) | (with_reducible exact AH.set_same _ _ _))); done))) | (apply Exists.intro; apply And.intro; first | (with_reducible assumption) | ((try simp only [List.getElem?_drop, Nat.mul_one, Nat.add_zero, Nat.zero_add]); first | (with_reducible assumption) | rfl)) | (apply And.intro; (first | rfl | (with_reducible assumption) | omega | (simp <;> omega))))) <;> (try (conv => whnf))
          exact ⟨(u + 1, mput es2 lb (.int .i64 (c + 1)), cl2), ⟨hut, by show MOk _ cl2 (rowW L (bb + x0) W (u + 1)); rw [hR1, hs2]; exact hM3⟩, show nx - (u + 1) < nx - u by omega, ⟨congrArg (AV.int .i64) (by show ((u : Int) + 1) = ((u + 1 : Nat) : Int); omega), trivial⟩, HLe.of_eq (AH.set_set _ _ _ _).symm⟩
    · have hue : u = nx := by omega
      subst hue
      rw [← hst] at hM2
      (repeat' ((conv => whnf); first | refine Then.mk ?_ | left | refine OpsA.cons ?_ | refine OpsA.nil ?_ | refine AWq.seq ?_ | refine AWq.region ?_ | refine AWq.cond ?_ | refine AWq.block ?_ | refine AWq.skip ?_ | refine AWq.ret ?_ | refine AWq.exit ?_ | refine AWq.loop ?_ | (refine Both.mk ?_ ?_ <;> intro hc <;> (first | exact Bool.noConfusion hc | exact absurd (by assumption) hc | (exfalso; omega) | skip)) | (intro c hc; (try (simp only [AH.none_iff] at hc; repeat (have hn := hc.1; replace hc := hc.2))); (first | (have hc2 := Eq.trans hc (by with_reducible assumption); clear hc; subst hc2) | (refine i64_k hc ?_ ?_ ?_ ; omega; omega; (clear hc; intro hc; subst hc)) | skip)) | (apply Exists.intro; apply And.intro; (first | (focus (repeat (first | (with_reducible assumption) | (with_reducible exact AH.set_same _ _ _))); done))) | (apply Exists.intro; apply And.intro; first | (with_reducible assumption) | ((try simp only [List.getElem?_drop, Nat.mul_one, Nat.add_zero, Nat.zero_add]); first | (with_reducible assumption) | rfl)) | (apply And.intro; (first | rfl | (with_reducible assumption) | omega | (simp <;> omega))))) <;> (try (conv => whnf))
      exact ⟨(k + 1, es2, cl2), ⟨hkt, by show MOk es2 cl2 (winW L w x0 u y0 (k + 1)); rw [hWk1]; exact hM2⟩, show ny - (k + 1) < ny - k by omega, ⟨congrArg (AV.int .i64) (by show (((y0 + k : Nat) : Int) + 1) = ((y0 + (k + 1) : Nat) : Int); omega), trivial⟩, HLe.refl _⟩
  · have hke : k = ny := by omega
    subst hke
    have hW := hwk k
    generalize winW L w x0 nx y0 k = W at *
    have hel := hM.len hW
    have hWl := hW.len
    have hKs : (W.map (·.1)).Pairwise (· < ·) := List.pairwise_map.2 hW.s
    have hri := fun H h => rising_c rm bm cl es hel hM.b hM.d hM.k (W.map (·.1)) hKs hM.km H h
    rw [List.length_map] at hri
    (iterate 2 ((repeat' ((conv => whnf); first | left | refine OpsA.cons ?_ | refine OpsA.nil ?_ | refine AWq.seq ?_ | refine AWq.region ?_ | refine AWq.cond ?_ | refine AWq.block ?_ | refine AWq.skip ?_ | refine AWq.ret ?_ | refine AWq.exit ?_ | refine AWq.loop ?_ | (refine Both.mk ?_ ?_ <;> intro hc <;> (first | exact Bool.noConfusion hc | exact absurd (by assumption) hc | (exfalso; omega) | skip)) | (intro c hc; (try (simp only [AH.none_iff] at hc; repeat (have hn := hc.1; replace hc := hc.2))); (first | (have hc2 := Eq.trans hc (by with_reducible assumption); clear hc; subst hc2) | (refine i64_k hc ?_ ?_ ?_ ; omega; omega; (clear hc; intro hc; subst hc)) | skip)) | (apply Exists.intro; apply And.intro; (first | (focus (repeat (first | (with_reducible assumption) | (with_reducible exact AH.set_same _ _ _))); done))) | (apply Exists.intro; apply And.intro; first | (with_reducible assumption) | ((try simp only [List.getElem?_drop, Nat.mul_one, Nat.add_zero, Nat.zero_add]); first | (with_reducible assumption) | rfl)) | (apply And.intro; (first | rfl | (with_reducible assumption) | omega | (simp <;> omega))))) <;> (try (conv => whnf)); refine Then.mk ?_))
    (repeat' ((conv => whnf); first | left | refine OpsA.cons ?_ | refine OpsA.nil ?_ | refine AWq.seq ?_ | refine AWq.region ?_ | refine AWq.cond ?_ | refine AWq.block ?_ | refine AWq.skip ?_ | refine AWq.ret ?_ | refine AWq.exit ?_ | refine AWq.loop ?_ | (refine Both.mk ?_ ?_ <;> intro hc <;> (first | exact Bool.noConfusion hc | exact absurd (by assumption) hc | (exfalso; omega) | skip)) | (intro c hc; (try (simp only [AH.none_iff] at hc; repeat (have hn := hc.1; replace hc := hc.2))); (first | (have hc2 := Eq.trans hc (by with_reducible assumption); clear hc; subst hc2) | (refine i64_k hc ?_ ?_ ?_ ; omega; omega; (clear hc; intro hc; subst hc)) | skip)) | (apply Exists.intro; apply And.intro; (first | (focus (repeat (first | (with_reducible assumption) | (with_reducible exact AH.set_same _ _ _))); done))) | (apply Exists.intro; apply And.intro; first | (with_reducible assumption) | ((try simp only [List.getElem?_drop, Nat.mul_one, Nat.add_zero, Nat.zero_add]); first | (with_reducible assumption) | rfl)) | (apply And.intro; (first | rfl | (with_reducible assumption) | omega | (simp <;> omega))))) <;> (try (conv => whnf))
    refine Then.mk (AWq.in ?_)
    refine AWp_nilrow1 18 2 rfl rfl fun q hq => ?_
    obtain ⟨hqr, hq⟩ := AH.none_set hq
    have hrmq : ((H.set rm (.map bm es cl)).set q (.row [] 0)) rm = some (.map bm es cl) := by rw [AH.set_ne _ _ (Ne.symm hqr), AH.set_same]
    have hri := hri _ hrmq
    refine AWp.of tt_ok (dok _) rfl ?_
    (repeat' ((conv => whnf); first | refine Then.mk ?_ | left | refine OpsA.cons ?_ | refine OpsA.nil ?_ | refine AWq.seq ?_ | refine AWq.region ?_ | refine AWq.cond ?_ | refine AWq.block ?_ | refine AWq.skip ?_ | refine AWq.ret ?_ | refine AWq.exit ?_ | refine AWq.loop ?_ | (refine Both.mk ?_ ?_ <;> intro hc <;> (first | exact Bool.noConfusion hc | exact absurd (by assumption) hc | (exfalso; omega) | skip)) | (intro c hc; (try (simp only [AH.none_iff] at hc; repeat (have hn := hc.1; replace hc := hc.2))); (first | (have hc2 := Eq.trans hc (by with_reducible assumption); clear hc; subst hc2) | (refine i64_k hc ?_ ?_ ?_ ; omega; omega; (clear hc; intro hc; subst hc)) | skip)) | (apply Exists.intro; apply And.intro; (first | (focus (repeat (first | (with_reducible assumption) | (with_reducible exact AH.set_same _ _ _))); done))) | (apply Exists.intro; apply And.intro; first | (with_reducible assumption) | ((try simp only [List.getElem?_drop, Nat.mul_one, Nat.add_zero, Nat.zero_add]); first | (with_reducible assumption) | rfl)) | (apply And.intro; (first | rfl | (with_reducible assumption) | omega | (simp <;> omega))) | (refine ACall.to (hri) ?_))) <;> (try (conv => whnf))
    refine AWp_loop (σ := Nat) (18 :: 20 :: 106 :: 107 :: 108 :: 109 :: 110 :: 111 :: 112 :: 113 :: 114 :: 115 :: 116 :: 117 :: 118 :: []) (fun i => [(106, .int .i64 i), (18, .sl q i 2 0 i none)]) (fun i => (H.set rm (.map bm es cl)).set q (.row (prL (W.take i)) i)) (fun i => i ≤ W.length) (fun i => W.length - i) 0 rfl (Nat.zero_le _) ⟨rfl, rfl, trivial⟩ (HLe.refl _) ?_
    intro i hi
    refine AWp.of tt_ok (dok _) rfl ?_
    dsimp only at hi ⊢
    by_cases hit : i < W.length
    · obtain ⟨pp, hpp⟩ : ∃ pp, W[i]? = some pp := ⟨_, List.getElem?_eq_getElem hit⟩
      have hgk : (iS .i64 (W.map (·.1)))[(i : Int).toNat]? = some (.int .i64 pp.1) := by
        rw [Int.toNat_natCast]; unfold iS
        rw [List.getElem?_map, List.getElem?_map, hpp]; rfl
      obtain ⟨kk, b3, hs⟩ := hM.gs (wget_at hW.s hpp)
      have hpt : prL (W.take (i + 1)) = prL (W.take i) ++ [.int .i64 pp.1, .int .i64 pp.2] := by rw [take_snoc hpp]; exact prL_snoc _ _
      have hpl : (prL (W.take i)).length = i * 2 := by rw [prL_len, List.length_take]; omega
      have hkl : (iS .i64 (W.map (·.1))).length = W.length := by simp
      have hrm2 : ((H.set rm (.map bm es cl)).set q (.row (prL (W.take i)) i)) rm = some (.map bm es cl) := by rw [AH.set_ne _ _ (Ne.symm hqr), AH.set_same]
      generalize hP1 : prL (W.take (i + 1)) = P1 at *
      generalize prL (W.take i) = P at *
      (repeat' ((conv => whnf); first | refine Then.mk ?_ | left | refine OpsA.cons ?_ | refine OpsA.nil ?_ | refine AWq.seq ?_ | refine AWq.region ?_ | refine AWq.cond ?_ | refine AWq.block ?_ | refine AWq.skip ?_ | refine AWq.ret ?_ | refine AWq.exit ?_ | refine AWq.loop ?_ | (refine Both.mk ?_ ?_ <;> intro hc <;> (first | exact Bool.noConfusion hc | exact absurd (by assumption) hc | (exfalso; omega) | skip)) | (intro c hc; (try (simp only [AH.none_iff] at hc; repeat (have hn := hc.1; replace hc := hc.2))); (first | (have hc2 := Eq.trans hc (by with_reducible assumption); clear hc; subst hc2) | (refine i64_k hc ?_ ?_ ?_ ; omega; omega; (clear hc; intro hc; subst hc)) | skip)) | (apply Exists.intro; apply And.intro; (first | (focus (repeat (first | (with_reducible assumption) | (with_reducible exact AH.set_same _ _ _))); done))) | (apply Exists.intro; apply And.intro; first | (with_reducible assumption) | ((try simp only [List.getElem?_drop, Nat.mul_one, Nat.add_zero, Nat.zero_add]); first | (with_reducible assumption) | rfl)) | (apply And.intro; (first | rfl | (with_reducible assumption) | omega | (simp <;> omega))))) <;> (try (conv => whnf))
      refine ⟨bm, es, cl, hrm2, _, hs, ?_⟩
      (repeat' ((conv => whnf); first | refine Then.mk ?_ | left | refine OpsA.cons ?_ | refine OpsA.nil ?_ | refine AWq.seq ?_ | refine AWq.region ?_ | refine AWq.cond ?_ | refine AWq.block ?_ | refine AWq.skip ?_ | refine AWq.ret ?_ | refine AWq.exit ?_ | refine AWq.loop ?_ | (refine Both.mk ?_ ?_ <;> intro hc <;> (first | exact Bool.noConfusion hc | exact absurd (by assumption) hc | (exfalso; omega) | skip)) | (intro c hc; (try (simp only [AH.none_iff] at hc; repeat (have hn := hc.1; replace hc := hc.2))); (first | (have hc2 := Eq.trans hc (by with_reducible assumption); clear hc; subst hc2) | (refine i64_k hc ?_ ?_ ?_ ; omega; omega; (clear hc; intro hc; subst hc)) | skip)) | (apply Exists.intro; apply And.intro; (first | (focus (repeat (first | (with_reducible assumption) | (with_reducible exact AH.set_same _ _ _))); done))) | (apply Exists.intro; apply And.intro; first | (with_reducible assumption) | ((try simp only [List.getElem?_drop, Nat.mul_one, Nat.add_zero, Nat.zero_add]); first | (with_reducible assumption) | rfl)) | (apply And.intro; (first | rfl | (with_reducible assumption) | omega | (simp <;> omega))))) <;> (try (conv => whnf))
      refine ⟨i + 1, hit, show W.length - (i + 1) < W.length - i by omega, ⟨congrArg (AV.int .i64) (by omega), rfl, trivial⟩, HLe.of_eq ?_⟩
      rw [hP1, hpt, AH.set_set]
    · have hie : i = W.length := by omega
      subst hie
      (repeat' ((conv => whnf); first | left | refine OpsA.cons ?_ | refine OpsA.nil ?_ | refine AWq.seq ?_ | refine AWq.region ?_ | refine AWq.cond ?_ | refine AWq.block ?_ | refine AWq.skip ?_ | refine AWq.ret ?_ | refine AWq.exit ?_ | refine AWq.loop ?_ | (refine Both.mk ?_ ?_ <;> intro hc <;> (first | exact Bool.noConfusion hc | exact absurd (by assumption) hc | (exfalso; omega) | skip)) | (intro c hc; (try (simp only [AH.none_iff] at hc; repeat (have hn := hc.1; replace hc := hc.2))); (first | (have hc2 := Eq.trans hc (by with_reducible assumption); clear hc; subst hc2) | (refine i64_k hc ?_ ?_ ?_ ; omega; omega; (clear hc; intro hc; subst hc)) | skip)) | (apply Exists.intro; apply And.intro; (first | (focus (repeat (first | (with_reducible assumption) | (with_reducible exact AH.set_same _ _ _))); done))) | (apply Exists.intro; apply And.intro; first | (with_reducible assumption) | ((try simp only [List.getElem?_drop, Nat.mul_one, Nat.add_zero, Nat.zero_add]); first | (with_reducible assumption) | rfl)) | (apply And.intro; (first | rfl | (with_reducible assumption) | omega | (simp <;> omega))))) <;> (try (conv => whnf))
      refine Then.mk (AWq.in ?_)
      refine AWp_freeze1 18 (r := q) (v := W.length) (es := 2) (n := W.length) (lim := none) (cells := prL W) rfl rfl (by rw [AH.set_same, List.take_of_length_le (Nat.le_refl _)]) (prL_len _) ?_
      refine AWp_less H (HLe.del _ (HLe.set_of _ _ (HLe.fresh _ hrm) hq) hq) ?_
      refine AWp.of tt_ok (dok _) rfl ?_
      (repeat' ((conv => whnf); first | refine Then.mk ?_ | left | refine OpsA.cons ?_ | refine OpsA.nil ?_ | refine AWq.seq ?_ | refine AWq.region ?_ | refine AWq.cond ?_ | refine AWq.block ?_ | refine AWq.skip ?_ | refine AWq.ret ?_ | refine AWq.exit ?_ | refine AWq.loop ?_ | (refine Both.mk ?_ ?_ <;> intro hc <;> (first | exact Bool.noConfusion hc | exact absurd (by assumption) hc | (exfalso; omega) | skip)) | (intro c hc; (try (simp only [AH.none_iff] at hc; repeat (have hn := hc.1; replace hc := hc.2))); (first | (have hc2 := Eq.trans hc (by with_reducible assumption); clear hc; subst hc2) | (refine i64_k hc ?_ ?_ ?_ ; omega; omega; (clear hc; intro hc; subst hc)) | skip)) | (apply Exists.intro; apply And.intro; (first | (focus (repeat (first | (with_reducible assumption) | (with_reducible exact AH.set_same _ _ _))); done))) | (apply Exists.intro; apply And.intro; first | (with_reducible assumption) | ((try simp only [List.getElem?_drop, Nat.mul_one, Nat.add_zero, Nat.zero_add]); first | (with_reducible assumption) | rfl)) | (apply And.intro; (first | rfl | (with_reducible assumption) | omega | (simp <;> omega))))) <;> (try (conv => whnf))
      exact ⟨_, H, AVle.refl _, by (first | ((repeat' (first | (with_reducible exact HLe.refl _) | (with_reducible assumption))); done)), rfl, rfl⟩
end Go.Proofs.Ytghielfbdpkhmaa
/- Keys: the walks of ValidKey, Parent, Reach. -/
namespace Go.Proofs.Ytghielfbdpkhmaa
open Go.Fw Go
set_option linter.unusedVariables false
set_option linter.unusedSimpArgs false

def mostI (l : Int) : Int := 65536 / 2 ^ l.toNat
theorem mostI_bd (l : Int) : 0 ≤ mostI l ∧ mostI l ≤ 65536 := by
  unfold mostI
  have h : (0 : Int) < 2 ^ l.toNat := Int.pow_pos (by decide)
  exact ⟨Int.ediv_nonneg (by decide) (by omega), Int.ediv_le_self _ (by decide)⟩
def kOk (l x y : Int) : Prop := (0 ≤ l ∧ l ≤ 16) ∧ (-mostI l ≤ x ∧ x ≤ mostI l - 1) ∧ (-mostI l ≤ y ∧ y ≤ mostI l - 1)
instance (l x y : Int) : Decidable (kOk l x y) := by unfold kOk; exact inferInstance
def vkE (l x y : Int) : Int := if kOk l x y then 0 else 5
def keyV (l x y : Int) : AV := .agg [.int .i64 l, .int .i64 x, .int .i64 y]
theorem shr_most {l : Int} (h : 0 ≤ l ∧ l ≤ 16) : (65536 : Int).fdiv (2 ^ min l.toNat IntKind.i64.bits) = mostI l := by
  have h2 : (0 : Int) < 2 ^ l.toNat := Int.pow_pos (by decide)
  have : IntKind.i64.bits = 64 := rfl
  rw [this, Nat.min_eq_left (by omega), Int.fdiv_eq_ediv_of_nonneg _ (by omega)]; rfl
set_option maxHeartbeats 4000000 in
set_option maxRecDepth 8000 in
theorem vkey_c (l x y : Int) (hl : I64 l) (hx : I64 x) (hy : I64 y) (H : AH) :
    ACall Try.prog 24 [keyV l x y] H (fun z H' => z = .int .i64 (vkE l x y) ∧ H' = H) := by
  refine ACall.back ?_
  unfold vkE
  have hm := mostI_bd l
  have b0 := fun H => btw_c l 0 16 H
  have b1 := fun H => btw_c x (-mostI l) (mostI l - 1) H
  have b2 := fun H => btw_c y (-mostI l) (mostI l - 1) H
  by_cases h0 : 0 ≤ l ∧ l ≤ 16
  · have hs := shr_most h0
    rw [decide_eq_true h0] at b0
    by_cases h1 : -mostI l ≤ x ∧ x ≤ mostI l - 1
    · rw [decide_eq_true h1] at b1
      by_cases h2 : -mostI l ≤ y ∧ y ≤ mostI l - 1
      · rw [decide_eq_true h2] at b2
        rw [if_pos ⟨h0, h1, h2⟩]
        generalize mostI l = m at *
        have e0 : IntKind.i64.wrap (0 - m) = -m := by rw [IntKind.wrap_i64]; omega
        refine ACall_of tt_ok (dok _) Try.func24 rfl (by decide) rfl ?_
        (repeat' ((conv => whnf); first | refine Then.mk ?_ | refine OpsA.cons ?_ | refine OpsA.nil ?_ | refine AWq.seq ?_ | refine AWq.region ?_ | refine AWq.cond ?_ | refine AWq.skip ?_ | refine AWq.ret ?_ | (refine Both.mk ?_ ?_ <;> intro hc <;> (first | exact Bool.noConfusion hc | skip)) | (intro c hc; (try (simp only [AH.none_iff] at hc; repeat (have hn := hc.1; replace hc := hc.2))); (first | (have hc2 := Eq.trans hc (by with_reducible assumption); clear hc; subst hc2) | (refine i64_k hc ?_ ?_ ?_ ; omega; omega; (clear hc; intro hc; subst hc)) | skip)) | (apply Exists.intro; apply And.intro; (first | (focus (repeat (first | (with_reducible assumption) | (with_reducible exact AH.set_same _ _ _))); done))) | (apply Exists.intro; apply And.intro; first | (with_reducible assumption) | ((try simp only [List.getElem?_drop, Nat.mul_one, Nat.add_zero, Nat.zero_add]); first | (with_reducible assumption) | rfl)) | (apply And.intro; (first | rfl | (with_reducible assumption) | omega)) | (refine ACall.to (b0 _) ?_) | (refine ACall.to (b1 _) ?_) | (refine ACall.to (b2 _) ?_))) <;> (try (conv => whnf))
        (first | ((repeat' (first | (with_reducible exact HLe.refl _) | (with_reducible assumption) | refine HLe.set_of _ _ ?_ ?_)); done))
      · rw [decide_eq_false h2] at b2
        rw [if_neg (fun h => h2 h.2.2)]
        generalize mostI l = m at *
        have e0 : IntKind.i64.wrap (0 - m) = -m := by rw [IntKind.wrap_i64]; omega
        refine ACall_of tt_ok (dok _) Try.func24 rfl (by decide) rfl ?_
        (repeat' ((conv => whnf); first | refine Then.mk ?_ | refine OpsA.cons ?_ | refine OpsA.nil ?_ | refine AWq.seq ?_ | refine AWq.region ?_ | refine AWq.cond ?_ | refine AWq.skip ?_ | refine AWq.ret ?_ | (refine Both.mk ?_ ?_ <;> intro hc <;> (first | exact Bool.noConfusion hc | skip)) | (intro c hc; (try (simp only [AH.none_iff] at hc; repeat (have hn := hc.1; replace hc := hc.2))); (first | (have hc2 := Eq.trans hc (by with_reducible assumption); clear hc; subst hc2) | (refine i64_k hc ?_ ?_ ?_ ; omega; omega; (clear hc; intro hc; subst hc)) | skip)) | (apply Exists.intro; apply And.intro; (first | (focus (repeat (first | (with_reducible assumption) | (with_reducible exact AH.set_same _ _ _))); done))) | (apply Exists.intro; apply And.intro; first | (with_reducible assumption) | ((try simp only [List.getElem?_drop, Nat.mul_one, Nat.add_zero, Nat.zero_add]); first | (with_reducible assumption) | rfl)) | (apply And.intro; (first | rfl | (with_reducible assumption) | omega)) | (refine ACall.to (b0 _) ?_) | (refine ACall.to (b1 _) ?_) | (refine ACall.to (b2 _) ?_))) <;> (try (conv => whnf))
        (first | ((repeat' (first | (with_reducible exact HLe.refl _) | (with_reducible assumption) | refine HLe.set_of _ _ ?_ ?_)); done))
    · rw [decide_eq_false h1] at b1
      rw [if_neg (fun h => h1 h.2.1)]
      generalize mostI l = m at *
      have e0 : IntKind.i64.wrap (0 - m) = -m := by rw [IntKind.wrap_i64]; omega
      refine ACall_of tt_ok (dok _) Try.func24 rfl (by decide) rfl ?_
      (repeat' ((conv => whnf); first | refine Then.mk ?_ | refine OpsA.cons ?_ | refine OpsA.nil ?_ | refine AWq.seq ?_ | refine AWq.region ?_ | refine AWq.cond ?_ | refine AWq.skip ?_ | refine AWq.ret ?_ | (refine Both.mk ?_ ?_ <;> intro hc <;> (first | exact Bool.noConfusion hc | skip)) | (intro c hc; (try (simp only [AH.none_iff] at hc; repeat (have hn := hc.1; replace hc := hc.2))); (first | (have hc2 := Eq.trans hc (by with_reducible assumption); clear hc; subst hc2) | (refine i64_k hc ?_ ?_ ?_ ; omega; omega; (clear hc; intro hc; subst hc)) | skip)) | (apply Exists.intro; apply And.intro; (first | (focus (repeat (first | (with_reducible assumption) | (with_reducible exact AH.set_same _ _ _))); done))) | (apply Exists.intro; apply And.intro; first | (with_reducible assumption) | ((try simp only [List.getElem?_drop, Nat.mul_one, Nat.add_zero, Nat.zero_add]); first | (with_reducible assumption) | rfl)) | (apply And.intro; (first | rfl | (with_reducible assumption) | omega)) | (refine ACall.to (b0 _) ?_) | (refine ACall.to (b1 _) ?_) | (refine ACall.to (b2 _) ?_))) <;> (try (conv => whnf))
      (first | ((repeat' (first | (with_reducible exact HLe.refl _) | (with_reducible assumption) | refine HLe.set_of _ _ ?_ ?_)); done))
  · rw [decide_eq_false h0] at b0
    rw [if_neg (fun h => h0 h.1)]
    refine ACall_of tt_ok (dok _) Try.func24 rfl (by decide) rfl ?_
    (repeat' ((conv => whnf); first | refine Then.mk ?_ | refine OpsA.cons ?_ | refine OpsA.nil ?_ | refine AWq.seq ?_ | refine AWq.region ?_ | refine AWq.cond ?_ | refine AWq.skip ?_ | refine AWq.ret ?_ | (refine Both.mk ?_ ?_ <;> intro hc <;> (first | exact Bool.noConfusion hc | skip)) | (intro c hc; (try (simp only [AH.none_iff] at hc; repeat (have hn := hc.1; replace hc := hc.2))); (first | (have hc2 := Eq.trans hc (by with_reducible assumption); clear hc; subst hc2) | (refine i64_k hc ?_ ?_ ?_ ; omega; omega; (clear hc; intro hc; subst hc)) | skip)) | (apply Exists.intro; apply And.intro; (first | (focus (repeat (first | (with_reducible assumption) | (with_reducible exact AH.set_same _ _ _))); done))) | (apply Exists.intro; apply And.intro; first | (with_reducible assumption) | ((try simp only [List.getElem?_drop, Nat.mul_one, Nat.add_zero, Nat.zero_add]); first | (with_reducible assumption) | rfl)) | (apply And.intro; (first | rfl | (with_reducible assumption) | omega)) | (refine ACall.to (b0 _) ?_))) <;> (try (conv => whnf))
    (first | ((repeat' (first | (with_reducible exact HLe.refl _) | (with_reducible assumption) | refine HLe.set_of _ _ ?_ ?_)); done))
/-- The tile above; the window. -/
def parV (l x y : Int) : AV × Int := if kOk l x y then (if l = 16 then (keyV 0 0 0, 7) else (keyV (l + 1) (x / 2) (y / 2), 0)) else (keyV 0 0 0, 5)
set_option maxHeartbeats 4000000 in
set_option maxRecDepth 8000 in
theorem parent_c (l x y : Int) (hl : I64 l) (hx : I64 x) (hy : I64 y) (H : AH) :
    ACall Try.prog 26 [keyV l x y] H (fun z H' => z = .tup [(parV l x y).1, .int .i64 (parV l x y).2] ∧ H' = H) := by
  refine ACall.back ?_
  unfold parV
  have hv := fun H => vkey_c l x y hl hx hy H
  unfold vkE at hv
  by_cases hk : kOk l x y
  · rw [if_pos hk]
    rw [if_pos hk] at hv
    obtain ⟨k1, k2, k3⟩ := hk
    have hm := mostI_bd l
    by_cases h16 : l = 16
    · rw [if_pos h16]
      refine ACall_of tt_ok (dok _) Try.func26 rfl (by decide) rfl ?_
      (repeat' ((conv => whnf); first | refine Then.mk ?_ | left | refine OpsA.cons ?_ | refine OpsA.nil ?_ | refine AWq.seq ?_ | refine AWq.region ?_ | refine AWq.cond ?_ | refine AWq.skip ?_ | refine AWq.ret ?_ | refine DrawA.consD ?_ | refine DrawA.nil ?_ | refine AWq.draw (by decide +kernel) ?_ | (refine Both.mk ?_ ?_ <;> intro hc <;> (first | exact Bool.noConfusion hc | exact absurd (by with_reducible rfl) hc | exact absurd (by assumption) hc | exact absurd hc (by assumption) | (exfalso; omega) | skip)) | (intro c hc; (try (simp only [AH.none_iff] at hc; repeat (have hn := hc.1; replace hc := hc.2))); (first | (refine i64_k hc ?_ ?_ ?_ ; omega; omega; (clear hc; intro hc; subst hc)) | skip)) | (apply Exists.intro; apply And.intro; (first | (focus (repeat (first | (with_reducible assumption) | (with_reducible exact AH.set_same _ _ _) | ((first | refine AH.get_ne ?_ ?_); (first | (with_reducible assumption) | exact Ne.symm (by with_reducible assumption))))); done))) | (apply Exists.intro; apply And.intro; first | (with_reducible assumption) | ((try simp only [List.getElem?_drop, Nat.mul_one, Nat.add_zero, Nat.zero_add]); first | (with_reducible assumption) | rfl)) | (apply And.intro; (first | rfl | (with_reducible assumption) | exact Nat.le_of_ble_eq_true rfl)) | (refine ACall.to (hv _) ?_))) <;> (try (conv => whnf))
      (first | ((repeat' (first | (with_reducible exact HLe.refl _) | (with_reducible assumption) | refine HLe.set_of _ _ ?_ ?_)); done))
    · rw [if_neg h16]
      have f1 := fun H => floor_c x 2 hx (by decide) H
      have f2 := fun H => floor_c y 2 hy (by decide) H
      refine ACall_of tt_ok (dok _) Try.func26 rfl (by decide) rfl ?_
      (repeat' ((conv => whnf); first | refine Then.mk ?_ | left | refine OpsA.cons ?_ | refine OpsA.nil ?_ | refine AWq.seq ?_ | refine AWq.region ?_ | refine AWq.cond ?_ | refine AWq.skip ?_ | refine AWq.ret ?_ | refine DrawA.consD ?_ | refine DrawA.nil ?_ | refine AWq.draw (by decide +kernel) ?_ | (apply Exists.intro; apply And.intro; exact f1 _) | (apply Exists.intro; apply And.intro; exact f2 _) | (refine Both.mk ?_ ?_ <;> intro hc <;> (first | exact Bool.noConfusion hc | exact absurd (by with_reducible rfl) hc | exact absurd (by assumption) hc | exact absurd hc (by assumption) | (exfalso; omega) | skip)) | (intro c hc; (try (simp only [AH.none_iff] at hc; repeat (have hn := hc.1; replace hc := hc.2))); (first | (refine i64_k hc ?_ ?_ ?_ ; omega; omega; (clear hc; intro hc; subst hc)) | skip)) | (apply Exists.intro; apply And.intro; (first | (focus (repeat (first | (with_reducible assumption) | (with_reducible exact AH.set_same _ _ _) | ((first | refine AH.get_ne ?_ ?_); (first | (with_reducible assumption) | exact Ne.symm (by with_reducible assumption))))); done))) | (apply Exists.intro; apply And.intro; first | (with_reducible assumption) | ((try simp only [List.getElem?_drop, Nat.mul_one, Nat.add_zero, Nat.zero_add]); first | (with_reducible assumption) | rfl)) | (apply And.intro; (first | rfl | (with_reducible assumption) | exact Nat.le_of_ble_eq_true rfl)) | (refine ACall.to (hv _) ?_))) <;> (try (conv => whnf))
      (first | ((repeat' (first | (with_reducible exact HLe.refl _) | (with_reducible assumption) | refine HLe.set_of _ _ ?_ ?_)); done))
  · rw [if_neg hk]
    rw [if_neg hk] at hv
    refine ACall_of tt_ok (dok _) Try.func26 rfl (by decide) rfl ?_
    (repeat' ((conv => whnf); first | refine Then.mk ?_ | left | refine OpsA.cons ?_ | refine OpsA.nil ?_ | refine AWq.seq ?_ | refine AWq.region ?_ | refine AWq.cond ?_ | refine AWq.skip ?_ | refine AWq.ret ?_ | refine DrawA.consD ?_ | refine DrawA.nil ?_ | refine AWq.draw (by decide +kernel) ?_ | (refine Both.mk ?_ ?_ <;> intro hc <;> (first | exact Bool.noConfusion hc | exact absurd (by with_reducible rfl) hc | exact absurd (by assumption) hc | exact absurd hc (by assumption) | (exfalso; omega) | skip)) | (intro c hc; (try (simp only [AH.none_iff] at hc; repeat (have hn := hc.1; replace hc := hc.2))); (first | (refine i64_k hc ?_ ?_ ?_ ; omega; omega; (clear hc; intro hc; subst hc)) | skip)) | (apply Exists.intro; apply And.intro; (first | (focus (repeat (first | (with_reducible assumption) | (with_reducible exact AH.set_same _ _ _) | ((first | refine AH.get_ne ?_ ?_); (first | (with_reducible assumption) | exact Ne.symm (by with_reducible assumption))))); done))) | (apply Exists.intro; apply And.intro; first | (with_reducible assumption) | ((try simp only [List.getElem?_drop, Nat.mul_one, Nat.add_zero, Nat.zero_add]); first | (with_reducible assumption) | rfl)) | (apply And.intro; (first | rfl | (with_reducible assumption) | exact Nat.le_of_ble_eq_true rfl)) | (refine ACall.to (hv _) ?_))) <;> (try (conv => whnf))
    (first | ((repeat' (first | (with_reducible exact HLe.refl _) | (with_reducible assumption) | refine HLe.set_of _ _ ?_ ?_)); done))
end Go.Proofs.Ytghielfbdpkhmaa
/- What each law of the chapter asks at its end. -/
namespace Go.Proofs.Ytghielfbdpkhmaa
open Go.Fw Go
set_option linter.unusedVariables false
set_option linter.unusedSimpArgs false

theorem wt_lives : wtV 4 1 [0, 0, 1, 2] 1 0 1 = ([(0, 2), (1, 1)], 0) := by decide
theorem mix_lives : mixV [2, 1] [10, 13] = (11, 0) := by
  have h1 : ¬ (([2, 1] : List Int).length ≠ ([10, 13] : List Int).length ∨ 256 < ([2, 1] : List Int).length) := by decide
  have h2 : okN [2, 1] [10, 13] ([2, 1] : List Int).length := by
    intro i hi
    have hi : i < 2 := hi
    rcases (show i = 0 ∨ i = 1 by omega) with rfl | rfl <;> decide
  unfold mixV
  rw [if_neg h1, if_neg (fun h => h h2), if_neg (by decide)]
  rfl
theorem par_lives : parV 0 (-1) 3 = (keyV 1 (-1) 1, 0) := by
  unfold parV
  rw [if_pos (by decide), if_neg (by decide)]
  rfl
set_option maxHeartbeats 4000000 in
set_option maxRecDepth 8000 in
theorem lives23_c (H : AH) : ACall Try.prog 18 [] H (fun y H' => y = .bool true ∧ H' = H) := by
  refine ACall.back ?_
  have w1 := fun H => weights_c 4 1 [0, 0, 1, 2] 1 0 1 ⟨by decide, by decide⟩ (by decide) (by decide) (by decide) H
  rw [wt_lives] at w1
  have m1 := fun H => mix_c [2, 1] [10, 13] (by decide) (by decide) H
  rw [mix_lives] at m1
  have p1 := fun H => parent_c 0 (-1) 3 (by decide) (by decide) (by decide) H
  rw [par_lives] at p1
  refine ACall_of tt_ok (dok _) Try.func18 rfl (by decide) rfl ?_
  (repeat' ((conv => whnf); first | refine Then.mk ?_ | left | refine OpsA.cons ?_ | refine OpsA.nil ?_ | refine AWq.seq ?_ | refine AWq.region ?_ | refine AWq.ret ?_ | (refine Both.mk ?_ ?_ <;> intro hc <;> (first | exact absurd (by with_reducible rfl) hc | exact absurd hc (by decide) | skip)) | (intro c hc; (try (simp only [AH.none_iff] at hc; repeat (have hn := hc.1; replace hc := hc.2))); (first | skip)) | (apply Exists.intro; apply And.intro; (first | (focus (repeat (first | (with_reducible assumption) | (with_reducible exact AH.set_same _ _ _))); done))) | (apply And.intro; (first | rfl | (with_reducible assumption) | exact Nat.le_of_ble_eq_true rfl | omega)) | (refine ACall.to (w1 _) ?_) | (refine ACall.to (m1 _) ?_) | (refine ACall.to (p1 _) ?_))) <;> (try (conv => whnf))
  all_goals first | exact absurd rfl hc | (first | ((repeat' (first | (with_reducible exact HLe.refl _) | (with_reducible assumption) | refine HLe.set_of _ _ ?_ ?_)); done))
end Go.Proofs.Ytghielfbdpkhmaa
/- A row whose room is told; rows frozen, their fronts among them. -/
namespace Go.Fw
open Go.RowKit
set_option linter.unusedVariables false
theorem AWp_cap {P : Program} {N : Nat} {ro : Option Nat} {ws : Nat → Bool} {c : Code} {K R : St → AH → Prop} {X : Nat → St → AH → Prop} {s : St} {H : AH} {r v n : Nat} (t : Nat) (hts : ws t = true) (he : s.e t = .sl r v 1 0 n none)
    (h : ∀ m, n ≤ m → AWp N P ro ws c K R X ⟨retold [t] (.sl r v 1 0 n (some m)) s.e, s.d⟩ H) : AWp N P ro ws c K R X s H := by
  refine ⟨fun κ F B w0 w a I hE => ?_⟩
  have hx := hE.e t
  rw [he] at hx
  obtain ⟨m, hm, hx'⟩ : ∃ m, n ≤ m ∧ VR κ F (.sl r v 1 0 n (some m)) (a.tmps.getD t undef) := by
    generalize a.tmps.getD t undef = x at hx ⊢
    cases hx with
    | sl hk hoff hlo hc hlen ha =>
      rename_i ob cap lo adr c
      exact ⟨c, hlen, .sl hk hoff hlo (show c = c ∧ c ≤ cap - lo from ⟨rfl, Nat.le_of_eq hc⟩) hlen ha⟩
  have hag : Agree ws s ⟨retold [t] (.sl r v 1 0 n (some m)) s.e, s.d⟩ := by
    intro u hu
    simp only [retold]
    cases hm : memA [t] u with
    | false => rfl
    | true =>
      have : u = t := by have := (memA_iff _ _).1 hm; simpa using this
      rw [this, hts] at hu; cases hu
  have hE' : ER κ F N ⟨retold [t] (.sl r v 1 0 n (some m)) s.e, s.d⟩ a := by
    refine ⟨fun u => ?_, hE.size, hE.d⟩
    simp only [retold]
    cases hm : memA [t] u with
    | false => exact hE.e u
    | true =>
      have hut : u = t := by have := (memA_iff _ _).1 hm; simpa using this
      rw [hut]; exact hx'
  exact wpIn_mono ((h m hm).out κ F B w0 w a I hE') (fun e a w hq => QOk.from (KLe.refl _) (FLe.refl _) hag hq)
theorem Inv.coolPre {κ : KM} {F : FM} {B : Nat} {w0 w : World} {H : AH} (I : Inv κ F B w0 H w) {r v : Nat} {cells : List AV} (hH : H r = some (.row cells v)) :
    ∃ F', FLe F F' ∧ Inv κ F' B w0 (H.del r) w ∧ ∀ F2 x es n lim, n * es ≤ cells.length → VR κ F2 (.sl r v es 0 n lim) x → VR κ F' (.cs (cells.take (n * es)) n) x := by
  obtain ⟨i, hi, hrow, hn0⟩ := I.objs _ _ hH
  have hi' : κ r v = some i := hi
  cases hb : i.blk with
  | none =>
    have hc0 : cells = [] ∧ i.cap = 0 := by simpa only [RowOk, hb] using hrow
    refine ⟨F, FLe.refl _, I.drop r, fun F2 x es n lim hlen hv => ?_⟩
    have hv := VR.slF (F := F) hv
    obtain ⟨i2, adr, c, rfl, hi2, _, hlc, _, _, hadr, lo, _, hlo, hlim⟩ := VR.slOf I hv hH
    rw [hi'] at hi2; cases hi2
    have hc : c = 0 := by
      cases lim with
      | none => have : c = i.cap - lo := hlim; omega
      | some m => have := hlim.1; have := hlim.2; omega
    have hn : n = 0 := by omega
    subst hn
    rw [hc0.1, List.take_nil]; exact .cs0 _ _
  | some b =>
    obtain ⟨arr, hsz, hlen', hcv, hFle, I'⟩ := I.freeze hH hi' hb
    refine ⟨_, hFle, I', fun F2 x es n lim hlen hv => ?_⟩
    have hv := VR.slF (F := F) hv
    obtain ⟨i2, adr, c, rfl, hi2, _, hlc, _, _, hadr, lo, _, hlo, hlim⟩ := VR.slOf I hv hH
    rw [hi'] at hi2; cases hi2
    rcases hadr with hc | ⟨b', hb', rfl⟩
    · have hn : n = 0 := by omega
      subst hn
      rw [Nat.zero_mul]; exact .cs0 _ _
    · rw [hb] at hb'; cases hb'
      exact .cs (arr := arr) (by simp) (by rw [List.length_take]; omega) hlc (fun j hj => by
        rw [List.length_take] at hj
        have := (hcv j (by omega)).mono (KLe.refl _) hFle
        rw [List.getElem_take]
        simpa using this)
/-- A row in a value, its fronts told as constants. -/
def Fq (r v : Nat) (cells : List AV) (a a' : AV) : Prop := ∀ (κ : KM) (F F' : FM) (x : Value), FLe F F' → (∀ (es m : Nat) (lim : Option Nat) (y : Value), m * es ≤ cells.length → VR κ F (.sl r v es 0 m lim) y → VR κ F' (.cs (cells.take (m * es)) m) y) → VR κ F a x → VR κ F' a' x
theorem Fq.refl {r v : Nat} {cells : List AV} (a : AV) : Fq r v cells a a := fun κ F F' x hF _ hx => hx.mono (KLe.refl _) hF
theorem Fq.sl {r v m : Nat} {lim : Option Nat} {cells l : List AV} (h : m ≤ cells.length) (hl : cells.take m = l) : Fq r v cells (.sl r v 1 0 m lim) (.cs l m) := fun κ F F' x _ hs hx => by
  have := hs 1 m lim x (by omega) hx
  rw [Nat.mul_one, hl] at this
  exact this
theorem Fq.cs {r v n : Nat} {cells l m : List AV} (hl : m.length = l.length) (h : ∀ i (hi : i < l.length) (hj : i < m.length), Fq r v cells l[i] m[i]) : Fq r v cells (.cs l n) (.cs m n) := fun κ F F' x hF hs hx => by
  cases hx with
  | cs0 a c =>
    have : m = [] := by apply List.eq_nil_of_length_eq_zero; rw [hl]; rfl
    rw [this]; exact .cs0 _ _
  | cs hFb hle hc hi => exact .cs (hF _ _ hFb) (by rw [hl]; exact hle) hc fun i hj => h i (by rw [← hl]; exact hj) hj κ F F' _ hF hs (hi i (by rw [← hl]; exact hj))
theorem AWp_freezeQ {P : Program} {N : Nat} {ro : Option Nat} {ws : Nat → Bool} {c : Code} {K R : St → AH → Prop} {X : Nat → St → AH → Prop} {s : St} {H : AH} (t : Nat) {r v : Nat} {cells : List AV} {a a' : AV} (hts : ws t = true)
    (he : s.e t = a) (hH : H r = some (.row cells v)) (hfr : Fq r v cells a a')
    (h : AWp N P ro ws c K R X ⟨retold [t] a' s.e, s.d⟩ (H.del r)) : AWp N P ro ws c K R X s H := by
  refine ⟨fun κ F B w0 w a I hE => ?_⟩
  obtain ⟨F', hF, I', hall⟩ := I.coolPre hH
  have hag : Agree ws s ⟨retold [t] a' s.e, s.d⟩ := by
    intro u hu
    simp only [retold]
    cases hm : memA [t] u with
    | false => rfl
    | true =>
      have : u = t := by have := (memA_iff _ _).1 hm; simpa using this
      rw [this, hts] at hu; cases hu
  have hE' : ER κ F' N ⟨retold [t] a' s.e, s.d⟩ a := by
    refine ⟨fun u => ?_, hE.size, hE.d⟩
    simp only [retold]
    cases hm : memA [t] u with
    | false => exact (hE.e u).mono (KLe.refl _) hF
    | true =>
      have hut : u = t := by have := (memA_iff _ _).1 hm; simpa using this
      have hx := hE.e u
      rw [hut, he] at hx
      rw [hut]
      exact hfr κ F F' _ hF (fun es m lim y hl hy => hall _ _ _ _ _ hl hy) hx
  exact wpIn_mono (h.out κ F' B w0 w a I' hE') (fun e a w hq => QOk.from (KLe.refl _) hF hag hq)
end Go.Fw
/- The law BlendMix: the contract of the law's function. -/
namespace Go.Proofs.Ytghielfbdpkhmaa
open Go.Fw Go
set_option linter.unusedVariables false
set_option linter.unusedSimpArgs false

def bndV (n : Int) (m : Nat) : Int := (aro n (2 * m + 1) : Int) - m
set_option maxRecDepth 8000 in
theorem bound_f (n : Int) (h1 : -9223372036854775808 ≤ n) (h2 : n ≤ 9223372036854775807) (m : Nat) (hm : m ≤ 400000) (H : AH) :
    ACall Try.prog 19 [.int .i64 n, .int .i64 m] H (fun y H' => y = .int .i64 (bndV n m) ∧ H' = H) := by
  have a : ∀ H, ACall Try.prog 13 [.int .i64 n, .int .i64 (2 * (m : Int) + 1)] H (fun y H' => y = .int .i64 (aro n (2 * m + 1)) ∧ H' = H) := fun H => by
    have := around_f n h1 h2 (2 * m + 1) (by omega) (by omega) H
    rwa [show ((2 * m + 1 : Nat) : Int) = 2 * (m : Int) + 1 by omega] at this
  have hb := aro_lt (n := n) (m := 2 * m + 1) (by omega)
  unfold bndV
  generalize aro n (2 * m + 1) = z at *
  refine ACall_of tt_ok (dok _) Try.func19 rfl (by decide) rfl ?_
  (repeat' ((conv => whnf); first | refine Then.mk ?_ | refine OpsA.cons ?_ | refine OpsA.nil ?_ | refine AWq.seq ?_ | refine AWq.region ?_ | refine AWq.ret ?_ | (intro c hc; (try (simp only [AH.none_iff] at hc; repeat (have hn := hc.1; replace hc := hc.2))); (first | (refine i64_k hc ?_ ?_ ?_ ; omega; omega; (clear hc; intro hc; subst hc)))) | (apply And.intro; (first | rfl)) | (refine ACall.to (a _) ?_))) <;> (try (conv => whnf))
theorem row_same (A : List Int) (n : Nat) (h : n ≤ A.length) (x : Int) : (iS .i64 (A ++ [x])).take n = (iS .i64 A).take n := by
  unfold iS
  rw [List.map_append, List.take_append_of_le_length (by simp; omega)]
set_option maxHeartbeats 8000000 in
set_option maxRecDepth 8000 in
theorem BlendMix_c (l0 : List Int) (hl0 : l0.length ≤ maxLen) (hr0 : ∀ n ∈ l0, -9223372036854775808 ≤ n ∧ n ≤ 9223372036854775807) (l1 : List Int) (hl1 : l1.length ≤ maxLen) (hr1 : ∀ n ∈ l1, -9223372036854775808 ≤ n ∧ n ≤ 9223372036854775807) (x2 : Int) (hx2 : -9223372036854775808 ≤ x2 ∧ x2 ≤ 9223372036854775807) (x3 : Int) (hx3 : -9223372036854775808 ≤ x3 ∧ x3 ≤ 9223372036854775807) (x4 : Int) (hx4 : -9223372036854775808 ≤ x4 ∧ x4 ≤ 9223372036854775807) :
    ACall Try.prog 4 [.cs (iS .i64 l0) l0.length, .cs (iS .i64 l1) l1.length, .int .i64 x2, .int .i64 x3, .int .i64 x4] (fun _ => none) (fun y _ => y = .bool true) := by
  have hll : l0.length ≤ 9223372036854775807 := by unfold maxLen at hl0; omega
  have hll1 : l1.length ≤ 9223372036854775807 := by unfold maxLen at hl1; omega
  obtain ⟨W, hW⟩ : ∃ W : Nat → Int, ∀ i, W i = (aro (l0.getD i 0) 6 : Int) - (aro (l0.getD i 0) 90 : Int).tdiv 89 := ⟨_, fun _ => rfl⟩
  obtain ⟨V, hV⟩ : ∃ V : Nat → Int, ∀ i : Nat, V i = bndV (pickV l1 i 1000000 : Int) 70000 := ⟨_, fun _ => rfl⟩
  have pv : ∀ i : Nat, i < 9 → ∃ p : Int, (∀ H, ACall Try.prog 20 [.cs (iS .i64 l1) l1.length, .int .i64 i, .int .i64 1000000] H (fun y H' => y = .int .i64 p ∧ H' = H)) ∧ ∀ H, ACall Try.prog 19 [.int .i64 p, .int .i64 70000] H (fun y H' => y = .int .i64 (V i) ∧ H' = H) := fun i hi => by
    have hp := pickV_lt (l := l1) (i := (i : Int)) (m := 1000000) (by decide)
    exact ⟨(pickV l1 i 1000000 : Nat), fun H => pick_f l1 hr1 hll1 (i : Int) (by omega) 1000000 (by decide) (by decide) H, fun H => by rw [hV]; exact bound_f _ (by omega) (by omega) 70000 (by decide) H⟩
  obtain ⟨N, hN⟩ : ∃ N, N = min l0.length 9 := ⟨_, rfl⟩
  have a5 := fun H => around_f x4 hx4.1 hx4.2 5 (by decide) (by decide) H
  have h5 := aro_lt (n := x4) (m := 5) (by decide)
  generalize aro x4 5 = n5 at *
  have ll0 : (iS .i64 l0).length = l0.length := by simp
  generalize (fun _ => none : AH) = H0
  refine ACall_of tt_ok (dok _) Try.func4 rfl (by decide) rfl ?_
  (iterate 2 ((repeat' ((conv => whnf); first | left | refine OpsA.cons ?_ | refine OpsA.nil ?_ | refine AWq.seq ?_ | refine AWq.region ?_ | refine AWq.cond ?_ | refine AWq.block ?_ | refine AWq.skip ?_ | refine AWq.ret ?_ | refine AWq.exit ?_ | refine AWq.loop ?_ | refine DrawA.consD ?_ | refine DrawA.nil ?_ | refine AWq.draw (by decide +kernel) ?_ | (refine Both.mk ?_ ?_ <;> intro hc <;> (first | exact Bool.noConfusion hc | exact absurd (by with_reducible rfl) hc | (exfalso; omega) | skip)) | (intro c hc; (try (simp only [AH.none_iff] at hc; repeat (have hn := hc.1; replace hc := hc.2))); (first | (have hc2 := Eq.trans hc (by with_reducible assumption); clear hc; subst hc2) | (refine i64_k hc ?_ ?_ ?_ ; omega; omega; (clear hc; intro hc; subst hc)) | subst hc | skip)) | (apply Exists.intro; apply And.intro; (first | (focus (repeat (first | (with_reducible assumption) | (with_reducible exact AH.set_same _ _ _) | ((first | refine AH.get_ne ?_ ?_ | refine AH.getd_ne ?_ ?_); (first | (with_reducible assumption) | exact Ne.symm (by with_reducible assumption))))); done) | (focus (repeat (first | exact AH.set_same _ _ _ | ((first | refine AH.get_ne ?_ ?_ | refine AH.getd_ne ?_ ?_); (first | omega)))); done))) | (apply Exists.intro; apply And.intro; first | (with_reducible assumption) | ((try simp only [List.getElem?_drop, Nat.mul_one, Nat.add_zero, Nat.zero_add]); first | (with_reducible assumption) | rfl)) | (apply And.intro; (first | rfl | (with_reducible assumption) | exact Nat.le_of_ble_eq_true rfl | omega | (simp <;> omega) | (focus (repeat' (first | (with_reducible assumption) | exact one_iS _ _ | rfl | apply one_take)); done))))) <;> (try (conv => whnf)); refine Then.mk ?_))
  refine AWq.in ?_
  refine AWp_nilrow1 11 1 rfl rfl fun q1 hq1 => ?_
  refine AWp_nilrow1 12 1 rfl rfl fun q2 hq2 => ?_
  refine AWp.of tt_ok (dok _) rfl ?_
  (repeat' ((conv => whnf); first | refine Then.mk ?_ | left | refine OpsA.cons ?_ | refine OpsA.nil ?_ | refine AWq.seq ?_ | refine AWq.region ?_ | refine AWq.cond ?_ | refine AWq.block ?_ | refine AWq.skip ?_ | refine AWq.ret ?_ | refine AWq.exit ?_ | refine AWq.loop ?_ | refine DrawA.consD ?_ | refine DrawA.nil ?_ | refine AWq.draw (by decide +kernel) ?_ | (refine Both.mk ?_ ?_ <;> intro hc <;> (first | exact Bool.noConfusion hc | exact absurd (by with_reducible rfl) hc | (exfalso; omega) | skip)) | (intro c hc; (try (simp only [AH.none_iff] at hc; repeat (have hn := hc.1; replace hc := hc.2))); (first | (have hc2 := Eq.trans hc (by with_reducible assumption); clear hc; subst hc2) | (refine i64_k hc ?_ ?_ ?_ ; omega; omega; (clear hc; intro hc; subst hc)) | subst hc | skip)) | (apply Exists.intro; apply And.intro; (first | (focus (repeat (first | (with_reducible assumption) | (with_reducible exact AH.set_same _ _ _) | ((first | refine AH.get_ne ?_ ?_ | refine AH.getd_ne ?_ ?_); (first | (with_reducible assumption) | exact Ne.symm (by with_reducible assumption))))); done) | (focus (repeat (first | exact AH.set_same _ _ _ | ((first | refine AH.get_ne ?_ ?_ | refine AH.getd_ne ?_ ?_); (first | omega)))); done))) | (apply Exists.intro; apply And.intro; first | (with_reducible assumption) | ((try simp only [List.getElem?_drop, Nat.mul_one, Nat.add_zero, Nat.zero_add]); first | (with_reducible assumption) | rfl)) | (apply And.intro; (first | rfl | (with_reducible assumption) | exact Nat.le_of_ble_eq_true rfl | omega | (simp <;> omega) | (focus (repeat' (first | (with_reducible assumption) | exact one_iS _ _ | rfl | apply one_take)); done))))) <;> (try (conv => whnf))
  have n21 : q2 ≠ q1 := (AH.none_set hq2).1
  have hq2' : H0 q2 = none := (AH.none_set hq2).2
  clear hq2
  obtain ⟨Hk, hHk⟩ : ∃ Hk : Nat → AH, ∀ k, Hk k = (AH.set H0 q1 (.row (iS .i64 (fnL k W)) k)).set q2 (.row (iS .i64 (fnL k V)) k) := ⟨_, fun _ => rfl⟩
  refine AWp_loop (σ := Nat) (11 :: 12 :: 13 :: 25 :: 26 :: 27 :: 28 :: 29 :: 30 :: 31 :: 32 :: 33 :: 34 :: 35 :: 36 :: 37 :: 38 :: 39 :: 40 :: 41 :: 42 :: 43 :: 44 :: 45 :: 46 :: 47 :: 48 :: 49 :: 50 :: 51 :: 52 :: 53 :: 54 :: 55 :: 56 :: []) (fun k => [(13, .int .i64 k), (11, .sl q1 k 1 0 k none), (12, .sl q2 k 1 0 k none)]) (fun k => Hk k) (fun k => k ≤ N) (fun k => N - k) 0 rfl (Nat.zero_le _) ⟨rfl, rfl, rfl, trivial⟩ (HLe.of_eq (by rw [hHk]; rfl)) ?_
  intro k hk
  refine AWp.of tt_ok (dok _) rfl ?_
  dsimp only at hk ⊢
  have g1 : Hk k q1 = some (.row (iS .i64 (fnL k W)) k) := by rw [hHk]; (first | (focus (repeat (first | (with_reducible assumption) | (with_reducible exact AH.set_same _ _ _) | ((first | refine AH.get_ne ?_ ?_ | refine AH.getd_ne ?_ ?_); (first | (with_reducible assumption) | exact Ne.symm (by with_reducible assumption))))); done) | (focus (repeat (first | exact AH.set_same _ _ _ | ((first | refine AH.get_ne ?_ ?_ | refine AH.getd_ne ?_ ?_); (first | omega)))); done))
  have g2 : Hk k q2 = some (.row (iS .i64 (fnL k V)) k) := by rw [hHk, AH.set_same]
  have l1' : (iS .i64 (fnL k W)).length = k := by simp
  have l2' : (iS .i64 (fnL k V)).length = k := by simp
  by_cases hit : k < N
  · have hk0 : k < l0.length := by omega
    have hk9 : k < 9 := by omega
    have hm : l0.getD k 0 ∈ l0 := getD_mem hk0
    have a1 := fun H => around_f (l0.getD k 0) (hr0 _ hm).1 (hr0 _ hm).2 6 (by decide) (by decide) H
    have a2 := fun H => around_f (l0.getD k 0) (hr0 _ hm).1 (hr0 _ hm).2 90 (by decide) (by decide) H
    have b1 := aro_lt (n := l0.getD k 0) (m := 6) (by decide)
    have b2 := aro_lt (n := l0.getD k 0) (m := 90) (by decide)
    have gl : (iS .i64 l0)[(k : Int).toNat]? = some (.int .i64 (l0.getD k 0)) := iS_get hk0
    obtain ⟨p, p1, p2⟩ := pv k hk9
    have hst : Hk (k + 1) = ((Hk k).set q1 (.row (iS .i64 (fnL k W) ++ [.int .i64 (W k)]) (k + 1))).set q2 (.row (iS .i64 (fnL k V) ++ [.int .i64 (V k)]) (k + 1)) := by
      rw [hHk, hHk, fnL_snoc, fnL_snoc, iS_snoc, iS_snoc]; ((funext s; simp only [AH.set, AH.del]; repeat' split) <;> (first | rfl | (exfalso; omega)))
    have hWk := hW k
    generalize aro (l0.getD k 0) 6 = w1 at *
    generalize aro (l0.getD k 0) 90 = w2 at *
    have hd1 : (w2 : Int).tdiv 89 = ((w2 / 89 : Nat) : Int) := rfl
    have e1 : IntKind.i64.wrap ((w2 : Int).tdiv 89) = (w2 : Int).tdiv 89 := by rw [hd1, IntKind.wrap_i64]; omega
    have e2 : IntKind.i64.wrap ((w1 : Int) - (w2 : Int).tdiv 89) = W k := by rw [hWk, hd1, IntKind.wrap_i64]; omega
    generalize iS .i64 (fnL k W) = R1 at *
    generalize iS .i64 (fnL k V) = R2 at *
    generalize Hk k = G at *
    generalize W k = wk at *
    generalize V k = vk at *
    (repeat' ((conv => whnf); first | refine Then.mk ?_ | left | refine OpsA.cons ?_ | refine OpsA.nil ?_ | refine AWq.seq ?_ | refine AWq.region ?_ | refine AWq.cond ?_ | refine AWq.block ?_ | refine AWq.skip ?_ | refine AWq.ret ?_ | refine AWq.exit ?_ | refine AWq.loop ?_ | refine DrawA.consD ?_ | refine DrawA.nil ?_ | refine AWq.draw (by decide +kernel) ?_ | (apply Exists.intro; apply And.intro; exact a1 _) | (apply Exists.intro; apply And.intro; exact a2 _) | (refine Both.mk ?_ ?_ <;> intro hc <;> (first | exact Bool.noConfusion hc | exact absurd (by with_reducible rfl) hc | (exfalso; omega) | skip)) | (intro c hc; (try (simp only [AH.none_iff] at hc; repeat (have hn := hc.1; replace hc := hc.2))); (first | (have hc2 := Eq.trans hc (by with_reducible assumption); clear hc; subst hc2) | (refine i64_k hc ?_ ?_ ?_ ; omega; omega; (clear hc; intro hc; subst hc)) | subst hc | skip)) | (apply Exists.intro; apply And.intro; (first | (focus (repeat (first | (with_reducible assumption) | (with_reducible exact AH.set_same _ _ _) | ((first | refine AH.get_ne ?_ ?_ | refine AH.getd_ne ?_ ?_); (first | (with_reducible assumption) | exact Ne.symm (by with_reducible assumption))))); done) | (focus (repeat (first | exact AH.set_same _ _ _ | ((first | refine AH.get_ne ?_ ?_ | refine AH.getd_ne ?_ ?_); (first | omega)))); done))) | (apply Exists.intro; apply And.intro; first | (with_reducible assumption) | ((try simp only [List.getElem?_drop, Nat.mul_one, Nat.add_zero, Nat.zero_add]); first | (with_reducible assumption) | rfl)) | (apply And.intro; (first | rfl | (with_reducible assumption) | exact Nat.le_of_ble_eq_true rfl | omega | (simp <;> omega) | (focus (repeat' (first | (with_reducible assumption) | exact one_iS _ _ | rfl | apply one_take)); done))) | (refine ACall.to (p1 _) ?_) | (refine ACall.to (p2 _) ?_))) <;> (try (conv => whnf))
    exact ⟨k + 1, hit, by omega, ⟨congrArg (AV.int .i64) (by omega), rfl, rfl, trivial⟩, HLe.of_eq hst⟩
  · have hkN : k = N := by omega
    subst hkN
    have hk9 : k ≤ 9 := by omega
    have hdel : (Hk k).del q2 = AH.set H0 q1 (.row (iS .i64 (fnL k W)) k) := by rw [hHk, AH.del_set _ _ _ (by rw [AH.set_ne _ _ n21]; exact hq2')]
    generalize hA : fnL k W = A at *
    generalize hB : fnL k V = B at *
    have lenA : A.length = k := by rw [← hA]; exact fnL_len _ _
    have lenB : B.length = k := by rw [← hB]; exact fnL_len _ _
    generalize Hk k = G at *
    have g1' : (AH.set H0 q1 (.row (iS .i64 A) k)) q1 = some (.row (iS .i64 A) k) := AH.set_same _ _ _
    generalize hG1 : AH.set H0 q1 (.row (iS .i64 A) k) = G1 at *
    have hdel1 : G1.del q1 = H0 := by rw [← hG1, AH.del_set _ _ _ hq1]
    apply Kept_split
    case main =>
      intro tail
      (repeat' ((conv => whnf); first | left | refine OpsA.cons ?_ | refine OpsA.nil ?_ | refine AWq.seq ?_ | refine AWq.region ?_ | refine AWq.cond ?_ | refine AWq.block ?_ | refine AWq.skip ?_ | refine AWq.ret ?_ | refine AWq.exit ?_ | refine AWq.loop ?_ | refine DrawA.consD ?_ | refine DrawA.nil ?_ | refine AWq.draw (by decide +kernel) ?_ | (refine Both.mk ?_ ?_ <;> intro hc <;> (first | exact Bool.noConfusion hc | exact absurd (by with_reducible rfl) hc | (exfalso; omega) | skip)) | (intro c hc; (try (simp only [AH.none_iff] at hc; repeat (have hn := hc.1; replace hc := hc.2))); (first | (have hc2 := Eq.trans hc (by with_reducible assumption); clear hc; subst hc2) | (refine i64_k hc ?_ ?_ ?_ ; omega; omega; (clear hc; intro hc; subst hc)) | subst hc | skip)) | (apply Exists.intro; apply And.intro; (first | (focus (repeat (first | (with_reducible assumption) | (with_reducible exact AH.set_same _ _ _) | ((first | refine AH.get_ne ?_ ?_ | refine AH.getd_ne ?_ ?_); (first | (with_reducible assumption) | exact Ne.symm (by with_reducible assumption))))); done) | (focus (repeat (first | exact AH.set_same _ _ _ | ((first | refine AH.get_ne ?_ ?_ | refine AH.getd_ne ?_ ?_); (first | omega)))); done))) | (apply Exists.intro; apply And.intro; first | (with_reducible assumption) | ((try simp only [List.getElem?_drop, Nat.mul_one, Nat.add_zero, Nat.zero_add]); first | (with_reducible assumption) | rfl)) | (apply And.intro; (first | rfl | (with_reducible assumption) | exact Nat.le_of_ble_eq_true rfl | omega | (simp <;> omega) | (focus (repeat' (first | (with_reducible assumption) | exact one_iS _ _ | rfl | apply one_take)); done))))) <;> (try (conv => whnf))
      all_goals
        refine Then.mk ?_
        (repeat' ((conv => whnf); first | left | refine OpsA.cons ?_ | refine OpsA.nil ?_ | refine AWq.seq ?_ | refine AWq.region ?_ | refine AWq.cond ?_ | refine AWq.block ?_ | refine AWq.skip ?_ | refine AWq.ret ?_ | refine AWq.exit ?_ | refine AWq.loop ?_ | refine DrawA.consD ?_ | refine DrawA.nil ?_ | refine AWq.draw (by decide +kernel) ?_ | (refine Both.mk ?_ ?_ <;> intro hc <;> (first | exact Bool.noConfusion hc | exact absurd (by with_reducible rfl) hc | (exfalso; omega) | skip)) | (intro c hc; (try (simp only [AH.none_iff] at hc; repeat (have hn := hc.1; replace hc := hc.2))); (first | (have hc2 := Eq.trans hc (by with_reducible assumption); clear hc; subst hc2) | (refine i64_k hc ?_ ?_ ?_ ; omega; omega; (clear hc; intro hc; subst hc)) | subst hc | skip)) | (apply Exists.intro; apply And.intro; (first | (focus (repeat (first | (with_reducible assumption) | (with_reducible exact AH.set_same _ _ _) | ((first | refine AH.get_ne ?_ ?_ | refine AH.getd_ne ?_ ?_); (first | (with_reducible assumption) | exact Ne.symm (by with_reducible assumption))))); done) | (focus (repeat (first | exact AH.set_same _ _ _ | ((first | refine AH.get_ne ?_ ?_ | refine AH.getd_ne ?_ ?_); (first | omega)))); done))) | (apply Exists.intro; apply And.intro; first | (with_reducible assumption) | ((try simp only [List.getElem?_drop, Nat.mul_one, Nat.add_zero, Nat.zero_add]); first | (with_reducible assumption) | rfl)) | (apply And.intro; (first | rfl | (with_reducible assumption) | exact Nat.le_of_ble_eq_true rfl | omega | (simp <;> omega) | (focus (repeat' (first | (with_reducible assumption) | exact one_iS _ _ | rfl | apply one_take)); done))))) <;> (try (conv => whnf))
        refine Then.mk (AWq.in ?_)
        refine AWp_freeze1 12 rfl rfl g2 (by omega) ?_
        rw [hdel]
        refine AWp_cutd (H2 := G1) [(2, .int .i64 x2), (3, .int .i64 x3), (4, .int .i64 x4), (11, .sl q1 k 1 0 k none), (12, .cs (iS .i64 B) k)] rfl ⟨rfl, rfl, rfl, rfl, rfl, trivial⟩ (fun _ => rfl) (HLe.refl _) ?_
        exact tail.out
    case tl =>
    clear g1 g2 hdel pv
    have g1 := g1'
    clear g1'
    refine AWp.of tt_ok (dok _) rfl ?_
    have tA : List.take (k * 1) (List.drop 0 (iS .i64 A)) = iS .i64 A := by rw [List.drop_zero, List.take_of_length_le (by omega)]
    have tB : List.take (k * 1) (List.drop 0 (iS .i64 B)) = iS .i64 B := by rw [List.drop_zero, List.take_of_length_le (by omega)]
    (repeat' ((conv => whnf); first | refine Or.inr (Or.inr (And.intro rfl ?_)) | left | refine OpsA.cons ?_ | refine OpsA.nil ?_ | refine AWq.seq ?_ | refine AWq.region ?_ | refine AWq.cond ?_ | refine AWq.block ?_ | refine AWq.skip ?_ | refine AWq.ret ?_ | refine AWq.exit ?_ | refine AWq.loop ?_ | refine DrawA.consD ?_ | refine DrawA.nil ?_ | refine AWq.draw (by decide +kernel) ?_ | (refine Both.mk ?_ ?_ <;> intro hc <;> (first | exact Bool.noConfusion hc | exact absurd (by with_reducible rfl) hc | (exfalso; omega) | skip)) | (intro c hc; (try (simp only [AH.none_iff] at hc; repeat (have hn := hc.1; replace hc := hc.2))); (first | (have hc2 := Eq.trans hc (by with_reducible assumption); clear hc; subst hc2) | (refine i64_k hc ?_ ?_ ?_ ; omega; omega; (clear hc; intro hc; subst hc)) | subst hc | skip)) | (apply Exists.intro; apply And.intro; (first | (focus (repeat (first | (with_reducible assumption) | (with_reducible exact AH.set_same _ _ _) | ((first | refine AH.get_ne ?_ ?_ | refine AH.getd_ne ?_ ?_); (first | (with_reducible assumption) | exact Ne.symm (by with_reducible assumption))))); done) | (focus (repeat (first | exact AH.set_same _ _ _ | ((first | refine AH.get_ne ?_ ?_ | refine AH.getd_ne ?_ ?_); (first | omega)))); done))) | (apply Exists.intro; apply And.intro; first | (with_reducible assumption) | ((try simp only [List.getElem?_drop, Nat.mul_one, Nat.add_zero, Nat.zero_add]); first | (with_reducible assumption) | rfl)) | (apply And.intro; (first | rfl | (with_reducible assumption) | exact Nat.le_of_ble_eq_true rfl | omega | (simp <;> omega) | (focus (repeat' (first | (with_reducible assumption) | exact one_iS _ _ | rfl | apply one_take)); done))))) <;> (try (conv => whnf))
    rw [tA]
    (obtain ⟨q3, hq_⟩ : ∃ q3, q3 = c := ⟨_, rfl⟩); subst hq_
    have hq3 : G1 q3 = none := hc
    refine Then.mk ?_
    (repeat' ((conv => whnf); first | refine Or.inr (Or.inr (And.intro rfl ?_)) | left | refine OpsA.cons ?_ | refine OpsA.nil ?_ | refine AWq.seq ?_ | refine AWq.region ?_ | refine AWq.cond ?_ | refine AWq.block ?_ | refine AWq.skip ?_ | refine AWq.ret ?_ | refine AWq.exit ?_ | refine AWq.loop ?_ | refine DrawA.consD ?_ | refine DrawA.nil ?_ | refine AWq.draw (by decide +kernel) ?_ | (refine Both.mk ?_ ?_ <;> intro hc <;> (first | exact Bool.noConfusion hc | exact absurd (by with_reducible rfl) hc | (exfalso; omega) | skip)) | (intro c hc; (try (simp only [AH.none_iff] at hc; repeat (have hn := hc.1; replace hc := hc.2))); (first | (have hc2 := Eq.trans hc (by with_reducible assumption); clear hc; subst hc2) | (refine i64_k hc ?_ ?_ ?_ ; omega; omega; (clear hc; intro hc; subst hc)) | subst hc | skip)) | (apply Exists.intro; apply And.intro; (first | (focus (repeat (first | (with_reducible assumption) | (with_reducible exact AH.set_same _ _ _) | ((first | refine AH.get_ne ?_ ?_ | refine AH.getd_ne ?_ ?_); (first | (with_reducible assumption) | exact Ne.symm (by with_reducible assumption))))); done) | (focus (repeat (first | exact AH.set_same _ _ _ | ((first | refine AH.get_ne ?_ ?_ | refine AH.getd_ne ?_ ?_); (first | omega)))); done))) | (apply Exists.intro; apply And.intro; first | (with_reducible assumption) | ((try simp only [List.getElem?_drop, Nat.mul_one, Nat.add_zero, Nat.zero_add]); first | (with_reducible assumption) | rfl)) | (apply And.intro; (first | rfl | (with_reducible assumption) | exact Nat.le_of_ble_eq_true rfl | omega | (simp <;> omega) | (focus (repeat' (first | (with_reducible assumption) | exact one_iS _ _ | rfl | apply one_take)); done))))) <;> (try (conv => whnf))
    (obtain ⟨q4, hq_⟩ : ∃ q4, q4 = c := ⟨_, rfl⟩); subst hq_
    have hq4 : G1 q4 = none := hc
    have n43 : q4 ≠ q3 := hn
    refine Then.mk ?_
    clear hn
    have n31 : q3 ≠ q1 := fun h => by rw [h, g1] at hq3; cases hq3
    have n41 : q4 ≠ q1 := fun h => by rw [h, g1] at hq4; cases hq4
    obtain ⟨e1, g5⟩ : ∃ z : Int, ([.int .i64 x3, .int .i64 65536, .int .i64 65537, .int .i64 0] : List AV)[((aro x2 4 : Nat) : Int).toNat]? = some (.int .i64 z) := by
      have := aro_lt (n := x2) (m := 4) (by decide)
      rcases (show aro x2 4 = 0 ∨ aro x2 4 = 1 ∨ aro x2 4 = 2 ∨ aro x2 4 = 3 by omega) with h | h | h | h <;> rw [h] <;> exact ⟨_, rfl⟩
    obtain ⟨e2, g6⟩ : ∃ z : Int, ([.int .i64 x3, .int .i64 1073741824, .int .i64 (-1073741824), .int .i64 (-1073741825)] : List AV)[((aro x3 4 : Nat) : Int).toNat]? = some (.int .i64 z) := by
      have := aro_lt (n := x3) (m := 4) (by decide)
      rcases (show aro x3 4 = 0 ∨ aro x3 4 = 1 ∨ aro x3 4 = 2 ∨ aro x3 4 = 3 by omega) with h | h | h | h <;> rw [h] <;> exact ⟨_, rfl⟩
    have z1 := fun (h : 0 < k) H => around_f x2 hx2.1 hx2.2 k (by omega) (by omega) H
    have z2 := fun H => around_f x2 hx2.1 hx2.2 4 (by decide) (by decide) H
    have z3 := fun (h : 0 < k) H => around_f (IntKind.i64.wrap (x2.tdiv 4)) (by rw [IntKind.wrap_i64]; omega) (by rw [IntKind.wrap_i64]; omega) k (by omega) (by omega) H
    have z4 := fun H => around_f x3 hx3.1 hx3.2 4 (by decide) (by decide) H
    have y1 := fun (h : 0 < k) => aro_lt (n := x2) (m := k) (by omega)
    have y2 := aro_lt (n := x2) (m := 4) (by decide)
    have y3 := fun (h : 0 < k) => aro_lt (n := IntKind.i64.wrap (x2.tdiv 4)) (m := k) (by omega)
    have y4 := aro_lt (n := x3) (m := 4) (by decide)
    generalize aro x2 k = i1 at *
    generalize aro x2 4 = i2 at *
    generalize aro (IntKind.i64.wrap (x2.tdiv 4)) k = i3 at *
    generalize aro x3 4 = i4 at *
    obtain ⟨C, hC⟩ : ∃ C, C = A.set i1 e1 := ⟨_, rfl⟩
    obtain ⟨D, hD⟩ : ∃ D, D = B.set i3 e2 := ⟨_, rfl⟩
    have lenC : C.length = k := by rw [hC, List.length_set, lenA]
    have lenD : D.length = k := by rw [hD, List.length_set, lenB]
    apply Kept_split
    case main =>
      intro tail
      by_cases hk0 : k = 0
      · have eC : C = A := by rw [hC, List.eq_nil_of_length_eq_zero (l := A) (by omega)]; rfl
        have eD : D = B := by rw [hD, List.eq_nil_of_length_eq_zero (l := B) (by omega)]; rfl
        (repeat' ((conv => whnf); first | refine Then.mk ?_ | left | refine OpsA.cons ?_ | refine OpsA.nil ?_ | refine AWq.seq ?_ | refine AWq.region ?_ | refine AWq.cond ?_ | refine AWq.block ?_ | refine AWq.skip ?_ | refine AWq.ret ?_ | refine AWq.exit ?_ | refine AWq.loop ?_ | refine DrawA.consD ?_ | refine DrawA.nil ?_ | refine AWq.draw (by decide +kernel) ?_ | (refine Both.mk ?_ ?_ <;> intro hc <;> (first | exact Bool.noConfusion hc | exact absurd (by with_reducible rfl) hc | (exfalso; omega) | skip)) | (intro c hc; (try (simp only [AH.none_iff] at hc; repeat (have hn := hc.1; replace hc := hc.2))); (first | (have hc2 := Eq.trans hc (by with_reducible assumption); clear hc; subst hc2) | (refine i64_k hc ?_ ?_ ?_ ; omega; omega; (clear hc; intro hc; subst hc)) | subst hc | skip)) | (apply Exists.intro; apply And.intro; (first | (focus (repeat (first | (with_reducible assumption) | (with_reducible exact AH.set_same _ _ _) | ((first | refine AH.get_ne ?_ ?_ | refine AH.getd_ne ?_ ?_); (first | (with_reducible assumption) | exact Ne.symm (by with_reducible assumption))))); done) | (focus (repeat (first | exact AH.set_same _ _ _ | ((first | refine AH.get_ne ?_ ?_ | refine AH.getd_ne ?_ ?_); (first | omega)))); done))) | (apply Exists.intro; apply And.intro; first | (with_reducible assumption) | ((try simp only [List.getElem?_drop, Nat.mul_one, Nat.add_zero, Nat.zero_add]); first | (with_reducible assumption) | rfl)) | (apply And.intro; (first | rfl | (with_reducible assumption) | exact Nat.le_of_ble_eq_true rfl | omega | (simp <;> omega) | (focus (repeat' (first | (with_reducible assumption) | exact one_iS _ _ | rfl | apply one_take)); done))) | (refine ACall.to (z2 _) ?_))) <;> (try (conv => whnf))
        refine AWp_freeze1 15 (cells := iS .i64 B) rfl rfl (by (first | (focus (repeat (first | (with_reducible assumption) | (with_reducible exact AH.set_same _ _ _) | ((first | refine AH.get_ne ?_ ?_ | refine AH.getd_ne ?_ ?_); (first | (with_reducible assumption) | exact Ne.symm (by with_reducible assumption))))); done) | (focus (repeat (first | exact AH.set_same _ _ _ | ((first | refine AH.get_ne ?_ ?_ | refine AH.getd_ne ?_ ?_); (first | omega)))); done))) (by omega) ?_
        refine AWp_freeze1 14 (cells := iS .i64 A) rfl rfl (by (first | (focus (repeat (first | (with_reducible assumption) | (with_reducible exact AH.set_same _ _ _) | ((first | refine AH.get_ne ?_ ?_ | refine AH.getd_ne ?_ ?_); (first | (with_reducible assumption) | exact Ne.symm (by with_reducible assumption))))); done) | (focus (repeat (first | exact AH.set_same _ _ _ | ((first | refine AH.get_ne ?_ ?_ | refine AH.getd_ne ?_ ?_); (first | omega)))); done))) (by omega) ?_
        refine AWp_cutd (H2 := G1) [(4, .int .i64 x4), (11, .sl q1 k 1 0 k none), (12, .cs (iS .i64 B) k), (14, .cs (iS .i64 C) k), (15, .cs (iS .i64 D) k), (16, .nils), (17, .int .i64 0)] rfl ⟨rfl, rfl, rfl, by rw [eC]; rfl, by rw [eD]; rfl, rfl, rfl, trivial⟩ (fun _ => rfl) (by (first | ((repeat' (first | (with_reducible exact HLe.refl _) | (with_reducible assumption) | refine HLe.set_of _ _ ?_ ?_ | refine HLe.del _ ?_ ?_)); done))) ?_
        exact tail.out
      · have hk1 : 0 < k := by omega
        have y1 := y1 hk1
        have y3 := y3 hk1
        have z1 := z1 hk1
        have z3 := z3 hk1
        have eC : wrA (iS .i64 A) (0 + (i1 : Int).toNat * 1) [.int .i64 e1] = iS .i64 C := by rw [show 0 + (i1 : Int).toNat * 1 = i1 by omega, iS_wr1 (by omega), hC]
        have eD : wrA (iS .i64 B) (0 + (i3 : Int).toNat * 1) [.int .i64 e2] = iS .i64 D := by rw [show 0 + (i3 : Int).toNat * 1 = i3 by omega, iS_wr1 (by omega), hD]
        have lC : (iS .i64 C).length = k := by rw [iS_length, lenC]
        have lD : (iS .i64 D).length = k := by rw [iS_length, lenD]
        (repeat' ((conv => whnf); first | refine Then.mk ?_ | left | refine OpsA.cons ?_ | refine OpsA.nil ?_ | refine AWq.seq ?_ | refine AWq.region ?_ | refine AWq.cond ?_ | refine AWq.block ?_ | refine AWq.skip ?_ | refine AWq.ret ?_ | refine AWq.exit ?_ | refine AWq.loop ?_ | refine DrawA.consD ?_ | refine DrawA.nil ?_ | refine AWq.draw (by decide +kernel) ?_ | (refine Both.mk ?_ ?_ <;> intro hc <;> (first | exact Bool.noConfusion hc | exact absurd (by with_reducible rfl) hc | (exfalso; omega) | skip)) | (intro c hc; (try (simp only [AH.none_iff] at hc; repeat (have hn := hc.1; replace hc := hc.2))); (first | (have hc2 := Eq.trans hc (by with_reducible assumption); clear hc; subst hc2) | (refine i64_k hc ?_ ?_ ?_ ; omega; omega; (clear hc; intro hc; subst hc)) | subst hc | skip)) | (apply Exists.intro; apply And.intro; (first | (focus (repeat (first | (with_reducible assumption) | (with_reducible exact AH.set_same _ _ _) | ((first | refine AH.get_ne ?_ ?_ | refine AH.getd_ne ?_ ?_); (first | (with_reducible assumption) | exact Ne.symm (by with_reducible assumption))))); done) | (focus (repeat (first | exact AH.set_same _ _ _ | ((first | refine AH.get_ne ?_ ?_ | refine AH.getd_ne ?_ ?_); (first | omega)))); done))) | (apply Exists.intro; apply And.intro; first | (with_reducible assumption) | ((try simp only [List.getElem?_drop, Nat.mul_one, Nat.add_zero, Nat.zero_add]); first | (with_reducible assumption) | rfl)) | (apply And.intro; (first | rfl | (with_reducible assumption) | exact Nat.le_of_ble_eq_true rfl | omega | (simp <;> omega) | (focus (repeat' (first | (with_reducible assumption) | exact one_iS _ _ | rfl | apply one_take)); done))) | (refine ACall.to (z1 _) ?_) | (refine ACall.to (z2 _) ?_) | (refine ACall.to (z3 _) ?_) | (refine ACall.to (z4 _) ?_))) <;> (try (conv => whnf))
        refine AWp_freeze1 15 (cells := wrA (iS .i64 B) (0 + (i3 : Int).toNat * 1) [.int .i64 e2]) rfl rfl (by (first | (focus (repeat (first | (with_reducible assumption) | (with_reducible exact AH.set_same _ _ _) | ((first | refine AH.get_ne ?_ ?_ | refine AH.getd_ne ?_ ?_); (first | (with_reducible assumption) | exact Ne.symm (by with_reducible assumption))))); done) | (focus (repeat (first | exact AH.set_same _ _ _ | ((first | refine AH.get_ne ?_ ?_ | refine AH.getd_ne ?_ ?_); (first | omega)))); done))) (by rw [eD]; omega) ?_
        refine AWp_freeze1 14 (cells := wrA (iS .i64 A) (0 + (i1 : Int).toNat * 1) [.int .i64 e1]) rfl rfl (by (first | (focus (repeat (first | (with_reducible assumption) | (with_reducible exact AH.set_same _ _ _) | ((first | refine AH.get_ne ?_ ?_ | refine AH.getd_ne ?_ ?_); (first | (with_reducible assumption) | exact Ne.symm (by with_reducible assumption))))); done) | (focus (repeat (first | exact AH.set_same _ _ _ | ((first | refine AH.get_ne ?_ ?_ | refine AH.getd_ne ?_ ?_); (first | omega)))); done))) (by rw [eC]; omega) ?_
        rw [eC, eD]
        refine AWp_cutd (H2 := G1) [(4, .int .i64 x4), (11, .sl q1 k 1 0 k none), (12, .cs (iS .i64 B) k), (14, .cs (iS .i64 C) k), (15, .cs (iS .i64 D) k), (16, .nils), (17, .int .i64 0)] rfl ⟨rfl, rfl, rfl, rfl, rfl, rfl, rfl, trivial⟩ (fun _ => rfl) (by (first | ((repeat' (first | (with_reducible exact HLe.refl _) | (with_reducible assumption) | refine HLe.set_of _ _ ?_ ?_ | refine HLe.del _ ?_ ?_)); done))) ?_
        exact tail.out
    case tl =>
    clear z1 z2 z3 z4 y1 y3 g5 g6 hC hD hq3 hq4 n31 n41 n43 hc
    refine AWp_nilrow1 16 1 rfl rfl fun q5 hq5 => ?_
    have n51 : q5 ≠ q1 := fun h => by rw [h, g1] at hq5; cases hq5
    obtain ⟨M, hM⟩ : ∃ M, M = 254 + n5 := ⟨_, rfl⟩
    obtain ⟨Lf, hLf⟩ : ∃ Lf : Nat → Int, ∀ i, Lf i = ((i % 3 : Nat) : Int) := ⟨_, fun _ => rfl⟩
    refine AWp_loop (σ := Nat) (16 :: 17 :: 91 :: 92 :: 93 :: 94 :: 95 :: 96 :: 97 :: 98 :: 99 :: 100 :: 101 :: 102 :: []) (fun i => [(17, .int .i64 i), (16, .sl q5 i 1 0 i none)]) (fun i => G1.set q5 (.row (iS .i64 (fnL i Lf)) i)) (fun i => i ≤ M) (fun i => M - i) 0 rfl (Nat.zero_le _) ⟨rfl, rfl, trivial⟩ (HLe.refl _) ?_
    intro i hi
    refine AWp.of tt_ok (dok _) rfl ?_
    dsimp only at hi ⊢
    have g5 := AH.set_same G1 q5 (.row (iS .i64 (fnL i Lf)) i)
    have l5 : (iS .i64 (fnL i Lf)).length = i := by simp
    by_cases hit : i < M
    · have hs : iS .i64 (fnL (i + 1) Lf) = iS .i64 (fnL i Lf) ++ [.int .i64 (Lf i)] := by rw [fnL_snoc, ← iS_snoc]
      have e3 : (i : Int).tmod 3 = Lf i := by rw [hLf]; rfl
      generalize iS .i64 (fnL i Lf) = R5 at *
      (repeat' ((conv => whnf); first | refine Then.mk ?_ | left | refine OpsA.cons ?_ | refine OpsA.nil ?_ | refine AWq.seq ?_ | refine AWq.region ?_ | refine AWq.cond ?_ | refine AWq.block ?_ | refine AWq.skip ?_ | refine AWq.ret ?_ | refine AWq.exit ?_ | refine AWq.loop ?_ | refine DrawA.consD ?_ | refine DrawA.nil ?_ | refine AWq.draw (by decide +kernel) ?_ | (refine Both.mk ?_ ?_ <;> intro hc <;> (first | exact Bool.noConfusion hc | exact absurd (by with_reducible rfl) hc | (exfalso; omega) | skip)) | (intro c hc; (try (simp only [AH.none_iff] at hc; repeat (have hn := hc.1; replace hc := hc.2))); (first | (have hc2 := Eq.trans hc (by with_reducible assumption); clear hc; subst hc2) | (refine i64_k hc ?_ ?_ ?_ ; omega; omega; (clear hc; intro hc; subst hc)) | subst hc | skip)) | (apply Exists.intro; apply And.intro; (first | (focus (repeat (first | (with_reducible assumption) | (with_reducible exact AH.set_same _ _ _) | ((first | refine AH.get_ne ?_ ?_ | refine AH.getd_ne ?_ ?_); (first | (with_reducible assumption) | exact Ne.symm (by with_reducible assumption))))); done) | (focus (repeat (first | exact AH.set_same _ _ _ | ((first | refine AH.get_ne ?_ ?_ | refine AH.getd_ne ?_ ?_); (first | omega)))); done))) | (apply Exists.intro; apply And.intro; first | (with_reducible assumption) | ((try simp only [List.getElem?_drop, Nat.mul_one, Nat.add_zero, Nat.zero_add]); first | (with_reducible assumption) | rfl)) | (apply And.intro; (first | rfl | (with_reducible assumption) | exact Nat.le_of_ble_eq_true rfl | omega | (simp <;> omega) | (focus (repeat' (first | (with_reducible assumption) | exact one_iS _ _ | rfl | apply one_take)); done))) | (refine ACall.to (a5 _) ?_))) <;> (try (conv => whnf))
      exact ⟨i + 1, hit, by omega, ⟨congrArg (AV.int .i64) (by omega), rfl, trivial⟩, HLe.of_eq (by rw [hs, AH.set_set])⟩
    · have hie : i = M := by omega
      subst hie
      have lenL : (fnL i Lf).length = i := fnL_len _ _
      generalize fnL i Lf = LL at *
      (repeat' ((conv => whnf); first | left | refine OpsA.cons ?_ | refine OpsA.nil ?_ | refine AWq.seq ?_ | refine AWq.region ?_ | refine AWq.cond ?_ | refine AWq.block ?_ | refine AWq.skip ?_ | refine AWq.ret ?_ | refine AWq.exit ?_ | refine AWq.loop ?_ | refine DrawA.consD ?_ | refine DrawA.nil ?_ | refine AWq.draw (by decide +kernel) ?_ | (refine Both.mk ?_ ?_ <;> intro hc <;> (first | exact Bool.noConfusion hc | exact absurd (by with_reducible rfl) hc | (exfalso; omega) | skip)) | (intro c hc; (try (simp only [AH.none_iff] at hc; repeat (have hn := hc.1; replace hc := hc.2))); (first | (have hc2 := Eq.trans hc (by with_reducible assumption); clear hc; subst hc2) | (refine i64_k hc ?_ ?_ ?_ ; omega; omega; (clear hc; intro hc; subst hc)) | subst hc | skip)) | (apply Exists.intro; apply And.intro; (first | (focus (repeat (first | (with_reducible assumption) | (with_reducible exact AH.set_same _ _ _) | ((first | refine AH.get_ne ?_ ?_ | refine AH.getd_ne ?_ ?_); (first | (with_reducible assumption) | exact Ne.symm (by with_reducible assumption))))); done) | (focus (repeat (first | exact AH.set_same _ _ _ | ((first | refine AH.get_ne ?_ ?_ | refine AH.getd_ne ?_ ?_); (first | omega)))); done))) | (apply Exists.intro; apply And.intro; first | (with_reducible assumption) | ((try simp only [List.getElem?_drop, Nat.mul_one, Nat.add_zero, Nat.zero_add]); first | (with_reducible assumption) | rfl)) | (apply And.intro; (first | rfl | (with_reducible assumption) | exact Nat.le_of_ble_eq_true rfl | omega | (simp <;> omega) | (focus (repeat' (first | (with_reducible assumption) | exact one_iS _ _ | rfl | apply one_take)); done))) | (refine ACall.to (a5 _) ?_))) <;> (try (conv => whnf))
      refine Then.mk ?_
      (repeat' ((conv => whnf); first | left | refine OpsA.cons ?_ | refine OpsA.nil ?_ | refine AWq.seq ?_ | refine AWq.region ?_ | refine AWq.cond ?_ | refine AWq.block ?_ | refine AWq.skip ?_ | refine AWq.ret ?_ | refine AWq.exit ?_ | refine AWq.loop ?_ | refine DrawA.consD ?_ | refine DrawA.nil ?_ | refine AWq.draw (by decide +kernel) ?_ | (refine Both.mk ?_ ?_ <;> intro hc <;> (first | exact Bool.noConfusion hc | exact absurd (by with_reducible rfl) hc | (exfalso; omega) | skip)) | (intro c hc; (try (simp only [AH.none_iff] at hc; repeat (have hn := hc.1; replace hc := hc.2))); (first | (have hc2 := Eq.trans hc (by with_reducible assumption); clear hc; subst hc2) | (refine i64_k hc ?_ ?_ ?_ ; omega; omega; (clear hc; intro hc; subst hc)) | subst hc | skip)) | (apply Exists.intro; apply And.intro; (first | (focus (repeat (first | (with_reducible assumption) | (with_reducible exact AH.set_same _ _ _) | ((first | refine AH.get_ne ?_ ?_ | refine AH.getd_ne ?_ ?_); (first | (with_reducible assumption) | exact Ne.symm (by with_reducible assumption))))); done) | (focus (repeat (first | exact AH.set_same _ _ _ | ((first | refine AH.get_ne ?_ ?_ | refine AH.getd_ne ?_ ?_); (first | omega)))); done))) | (apply Exists.intro; apply And.intro; first | (with_reducible assumption) | ((try simp only [List.getElem?_drop, Nat.mul_one, Nat.add_zero, Nat.zero_add]); first | (with_reducible assumption) | rfl)) | (apply And.intro; (first | rfl | (with_reducible assumption) | exact Nat.le_of_ble_eq_true rfl | omega | (simp <;> omega) | (focus (repeat' (first | (with_reducible assumption) | exact one_iS _ _ | rfl | apply one_take)); done))))) <;> (try (conv => whnf))
      refine Then.mk (AWq.in ?_)
      refine AWp_freeze1 16 rfl rfl g5 (by omega) ?_
      rw [AH.del_set _ _ _ hq5]
      refine AWp_cap 11 rfl rfl fun m hm => ?_
      refine AWp.of tt_ok (dok _) rfl ?_
      clear hi hit g5 l5
      have lA1 : (iS .i64 A).length = k := l1'
      have hA1 : iS .i64 A ++ [.int .i64 1] = iS .i64 (A ++ [1]) := iS_snoc ..
      have lA2 : (iS .i64 (A ++ [1])).length = k + 1 := by rw [iS_length, List.length_append, lenA]; rfl
      have tA2 : (iS .i64 (A ++ [1])).take k = iS .i64 A := by rw [row_same A k (by omega), List.take_of_length_le (by omega)]
      have tA3 : (iS .i64 (A ++ [1])).take (k + 1) = iS .i64 (A ++ [1]) := List.take_of_length_le (by omega)
      have tA4 : (iS .i64 A).take k = iS .i64 A := List.take_of_length_le (by omega)
      apply Kept_split
      case main =>
        intro tail
        by_cases hmk : k + 1 ≤ m
        · (repeat' ((conv => whnf); first | left | refine OpsA.cons ?_ | refine OpsA.nil ?_ | refine AWq.seq ?_ | refine AWq.region ?_ | refine AWq.cond ?_ | refine AWq.block ?_ | refine AWq.skip ?_ | refine AWq.ret ?_ | refine AWq.exit ?_ | refine AWq.loop ?_ | refine DrawA.consD ?_ | refine DrawA.nil ?_ | refine AWq.draw (by decide +kernel) ?_ | (refine Both.mk ?_ ?_ <;> intro hc <;> (first | exact Bool.noConfusion hc | exact absurd (by with_reducible rfl) hc | (exfalso; omega) | skip)) | (intro c hc; (try (simp only [AH.none_iff] at hc; repeat (have hn := hc.1; replace hc := hc.2))); (first | (have hc2 := Eq.trans hc (by with_reducible assumption); clear hc; subst hc2) | (refine i64_k hc ?_ ?_ ?_ ; omega; omega; (clear hc; intro hc; subst hc)) | subst hc | skip)) | (apply Exists.intro; apply And.intro; (first | (focus (repeat (first | (with_reducible assumption) | (with_reducible exact AH.set_same _ _ _) | ((first | refine AH.get_ne ?_ ?_ | refine AH.getd_ne ?_ ?_); (first | (with_reducible assumption) | exact Ne.symm (by with_reducible assumption))))); done) | (focus (repeat (first | exact AH.set_same _ _ _ | ((first | refine AH.get_ne ?_ ?_ | refine AH.getd_ne ?_ ?_); (first | omega)))); done))) | (apply Exists.intro; apply And.intro; first | (with_reducible assumption) | ((try simp only [List.getElem?_drop, Nat.mul_one, Nat.add_zero, Nat.zero_add]); first | (with_reducible assumption) | rfl)) | (apply And.intro; (first | rfl | (with_reducible assumption) | exact Nat.le_of_ble_eq_true rfl | omega | (simp <;> omega) | (focus (repeat' (first | (with_reducible assumption) | exact one_iS _ _ | rfl | apply one_take)); done))))) <;> (try (conv => whnf))
          refine ⟨fun _ => ?_, fun h => absurd h (by omega)⟩
          rw [hA1]
          (repeat' ((conv => whnf); first | left | refine OpsA.cons ?_ | refine OpsA.nil ?_ | refine AWq.seq ?_ | refine AWq.region ?_ | refine AWq.cond ?_ | refine AWq.block ?_ | refine AWq.skip ?_ | refine AWq.ret ?_ | refine AWq.exit ?_ | refine AWq.loop ?_ | refine DrawA.consD ?_ | refine DrawA.nil ?_ | refine AWq.draw (by decide +kernel) ?_ | (refine Both.mk ?_ ?_ <;> intro hc <;> (first | exact Bool.noConfusion hc | exact absurd (by with_reducible rfl) hc | (exfalso; omega) | skip)) | (intro c hc; (try (simp only [AH.none_iff] at hc; repeat (have hn := hc.1; replace hc := hc.2))); (first | (have hc2 := Eq.trans hc (by with_reducible assumption); clear hc; subst hc2) | (refine i64_k hc ?_ ?_ ?_ ; omega; omega; (clear hc; intro hc; subst hc)) | subst hc | skip)) | (apply Exists.intro; apply And.intro; (first | (focus (repeat (first | (with_reducible assumption) | (with_reducible exact AH.set_same _ _ _) | ((first | refine AH.get_ne ?_ ?_ | refine AH.getd_ne ?_ ?_); (first | (with_reducible assumption) | exact Ne.symm (by with_reducible assumption))))); done) | (focus (repeat (first | exact AH.set_same _ _ _ | ((first | refine AH.get_ne ?_ ?_ | refine AH.getd_ne ?_ ?_); (first | omega)))); done))) | (apply Exists.intro; apply And.intro; first | (with_reducible assumption) | ((try simp only [List.getElem?_drop, Nat.mul_one, Nat.add_zero, Nat.zero_add]); first | (with_reducible assumption) | rfl)) | (apply And.intro; (first | rfl | (with_reducible assumption) | exact Nat.le_of_ble_eq_true rfl | omega | (simp <;> omega) | (focus (repeat' (first | (with_reducible assumption) | exact one_iS _ _ | rfl | apply one_take)); done))))) <;> (try (conv => whnf))
          refine Then.mk (AWq.in ?_)
          refine AWp_freezeQ 18 rfl rfl (AH.set_same _ _ _) (a' := .cs [.cs (iS .i64 A) k, .cs (iS .i64 C) k, .cs (iS .i64 A) k, .cs (iS .i64 LL) i, .cs (iS .i64 (A ++ [1])) (k + 1)] 5) (Fq.cs rfl fun i hi hj => ?_) ?_
          · match i, hi with
            | 0, _ => exact Fq.sl (by omega) tA2
            | 1, _ => exact Fq.refl _
            | 2, _ => exact Fq.sl (by omega) tA2
            | 3, _ => exact Fq.refl _
            | 4, _ => exact Fq.sl (by omega) tA3
          refine AWp_cutd (H2 := H0) [(12, .cs (iS .i64 B) k), (15, .cs (iS .i64 D) k), (16, .cs (iS .i64 LL) i), (18, .cs [.cs (iS .i64 A) k, .cs (iS .i64 C) k, .cs (iS .i64 A) k, .cs (iS .i64 LL) i, .cs (iS .i64 (A ++ [1])) (k + 1)] 5)] rfl ⟨rfl, rfl, rfl, rfl, trivial⟩ (fun _ => rfl) (by rw [← hG1, AH.set_set, AH.del_set _ _ _ hq1]; exact HLe.refl _) ?_
          exact tail.out
        · (repeat' ((conv => whnf); first | left | refine OpsA.cons ?_ | refine OpsA.nil ?_ | refine AWq.seq ?_ | refine AWq.region ?_ | refine AWq.cond ?_ | refine AWq.block ?_ | refine AWq.skip ?_ | refine AWq.ret ?_ | refine AWq.exit ?_ | refine AWq.loop ?_ | refine DrawA.consD ?_ | refine DrawA.nil ?_ | refine AWq.draw (by decide +kernel) ?_ | (refine Both.mk ?_ ?_ <;> intro hc <;> (first | exact Bool.noConfusion hc | exact absurd (by with_reducible rfl) hc | (exfalso; omega) | skip)) | (intro c hc; (try (simp only [AH.none_iff] at hc; repeat (have hn := hc.1; replace hc := hc.2))); (first | (have hc2 := Eq.trans hc (by with_reducible assumption); clear hc; subst hc2) | (refine i64_k hc ?_ ?_ ?_ ; omega; omega; (clear hc; intro hc; subst hc)) | subst hc | skip)) | (apply Exists.intro; apply And.intro; (first | (focus (repeat (first | (with_reducible assumption) | (with_reducible exact AH.set_same _ _ _) | ((first | refine AH.get_ne ?_ ?_ | refine AH.getd_ne ?_ ?_); (first | (with_reducible assumption) | exact Ne.symm (by with_reducible assumption))))); done) | (focus (repeat (first | exact AH.set_same _ _ _ | ((first | refine AH.get_ne ?_ ?_ | refine AH.getd_ne ?_ ?_); (first | omega)))); done))) | (apply Exists.intro; apply And.intro; first | (with_reducible assumption) | ((try simp only [List.getElem?_drop, Nat.mul_one, Nat.add_zero, Nat.zero_add]); first | (with_reducible assumption) | rfl)) | (apply And.intro; (first | rfl | (with_reducible assumption) | exact Nat.le_of_ble_eq_true rfl | omega | (simp <;> omega) | (focus (repeat' (first | (with_reducible assumption) | exact one_iS _ _ | rfl | apply one_take)); done))))) <;> (try (conv => whnf))
          revert hc
          intro q9 hq9
          rw [hA1]
          have n91 : q9 ≠ q1 := fun h => by rw [h, g1] at hq9; cases hq9
          (repeat' ((conv => whnf); first | left | refine OpsA.cons ?_ | refine OpsA.nil ?_ | refine AWq.seq ?_ | refine AWq.region ?_ | refine AWq.cond ?_ | refine AWq.block ?_ | refine AWq.skip ?_ | refine AWq.ret ?_ | refine AWq.exit ?_ | refine AWq.loop ?_ | refine DrawA.consD ?_ | refine DrawA.nil ?_ | refine AWq.draw (by decide +kernel) ?_ | (refine Both.mk ?_ ?_ <;> intro hc <;> (first | exact Bool.noConfusion hc | exact absurd (by with_reducible rfl) hc | (exfalso; omega) | skip)) | (intro c hc; (try (simp only [AH.none_iff] at hc; repeat (have hn := hc.1; replace hc := hc.2))); (first | (have hc2 := Eq.trans hc (by with_reducible assumption); clear hc; subst hc2) | (refine i64_k hc ?_ ?_ ?_ ; omega; omega; (clear hc; intro hc; subst hc)) | subst hc | skip)) | (apply Exists.intro; apply And.intro; (first | (focus (repeat (first | (with_reducible assumption) | (with_reducible exact AH.set_same _ _ _) | ((first | refine AH.get_ne ?_ ?_ | refine AH.getd_ne ?_ ?_); (first | (with_reducible assumption) | exact Ne.symm (by with_reducible assumption))))); done) | (focus (repeat (first | exact AH.set_same _ _ _ | ((first | refine AH.get_ne ?_ ?_ | refine AH.getd_ne ?_ ?_); (first | omega)))); done))) | (apply Exists.intro; apply And.intro; first | (with_reducible assumption) | ((try simp only [List.getElem?_drop, Nat.mul_one, Nat.add_zero, Nat.zero_add]); first | (with_reducible assumption) | rfl)) | (apply And.intro; (first | rfl | (with_reducible assumption) | exact Nat.le_of_ble_eq_true rfl | omega | (simp <;> omega) | (focus (repeat' (first | (with_reducible assumption) | exact one_iS _ _ | rfl | apply one_take)); done))))) <;> (try (conv => whnf))
          refine Then.mk (AWq.in ?_)
          refine AWp_freezeQ 18 rfl rfl (AH.set_same _ _ _) (a' := .cs [.sl q1 k 1 0 k (some m), .cs (iS .i64 C) k, .sl q1 k 1 0 k (some m), .cs (iS .i64 LL) i, .cs (iS .i64 (A ++ [1])) (k + 1)] 5) (Fq.cs rfl fun i hi hj => ?_) ?_
          · match i, hi with
            | 0, _ => exact Fq.refl _
            | 1, _ => exact Fq.refl _
            | 2, _ => exact Fq.refl _
            | 3, _ => exact Fq.refl _
            | 4, _ => exact Fq.sl (by omega) tA3
          rw [AH.del_set _ _ _ hq9]
          refine AWp_freezeQ 18 rfl rfl g1 (a' := .cs [.cs (iS .i64 A) k, .cs (iS .i64 C) k, .cs (iS .i64 A) k, .cs (iS .i64 LL) i, .cs (iS .i64 (A ++ [1])) (k + 1)] 5) (Fq.cs rfl fun i hi hj => ?_) ?_
          · match i, hi with
            | 0, _ => exact Fq.sl (by omega) tA4
            | 1, _ => exact Fq.refl _
            | 2, _ => exact Fq.sl (by omega) tA4
            | 3, _ => exact Fq.refl _
            | 4, _ => exact Fq.refl _
          refine AWp_cutd (H2 := H0) [(12, .cs (iS .i64 B) k), (15, .cs (iS .i64 D) k), (16, .cs (iS .i64 LL) i), (18, .cs [.cs (iS .i64 A) k, .cs (iS .i64 C) k, .cs (iS .i64 A) k, .cs (iS .i64 LL) i, .cs (iS .i64 (A ++ [1])) (k + 1)] 5)] rfl ⟨rfl, rfl, rfl, rfl, trivial⟩ (fun _ => rfl) (HLe.of_eq hdel1.symm) ?_
          exact tail.out
      case tl =>
      have lenA1 : (A ++ [1]).length = k + 1 := by rw [List.length_append, lenA]; rfl
      clear hq5 n51 g1 hdel1 hG1 hA1 lA2 tA2 tA3 tA4 hm
      generalize A ++ [1] = A1 at *
      refine AWp.of tt_ok (dok _) rfl ?_
      (repeat' ((conv => whnf); first | refine Then.mk ?_ | left | refine OpsA.cons ?_ | refine OpsA.nil ?_ | refine AWq.seq ?_ | refine AWq.region ?_ | refine AWq.cond ?_ | refine AWq.block ?_ | refine AWq.skip ?_ | refine AWq.ret ?_ | refine AWq.exit ?_ | refine AWq.loop ?_ | refine DrawA.consD ?_ | refine DrawA.nil ?_ | refine AWq.draw (by decide +kernel) ?_ | (refine Both.mk ?_ ?_ <;> intro hc <;> (first | exact Bool.noConfusion hc | exact absurd (by with_reducible rfl) hc | (exfalso; omega) | skip)) | (intro c hc; (try (simp only [AH.none_iff] at hc; repeat (have hn := hc.1; replace hc := hc.2))); (first | (have hc2 := Eq.trans hc (by with_reducible assumption); clear hc; subst hc2) | (refine i64_k hc ?_ ?_ ?_ ; omega; omega; (clear hc; intro hc; subst hc)) | subst hc | skip)) | (apply Exists.intro; apply And.intro; (first | (focus (repeat (first | (with_reducible assumption) | (with_reducible exact AH.set_same _ _ _) | ((first | refine AH.get_ne ?_ ?_ | refine AH.getd_ne ?_ ?_); (first | (with_reducible assumption) | exact Ne.symm (by with_reducible assumption))))); done) | (focus (repeat (first | exact AH.set_same _ _ _ | ((first | refine AH.get_ne ?_ ?_ | refine AH.getd_ne ?_ ?_); (first | omega)))); done))) | (apply Exists.intro; apply And.intro; first | (with_reducible assumption) | ((try simp only [List.getElem?_drop, Nat.mul_one, Nat.add_zero, Nat.zero_add]); first | (with_reducible assumption) | rfl)) | (apply And.intro; (first | rfl | (with_reducible assumption) | exact Nat.le_of_ble_eq_true rfl | omega | (simp <;> omega) | (focus (repeat' (first | (with_reducible assumption) | exact one_iS _ _ | rfl | apply one_take)); done))))) <;> (try (conv => whnf))
      refine AWp_loop (σ := Nat) (10 :: 20 :: 21 :: 22 :: 23 :: 24 :: 117 :: 118 :: 119 :: 120 :: 121 :: 122 :: 123 :: 124 :: 125 :: 126 :: 127 :: 128 :: 129 :: 130 :: 131 :: 132 :: 133 :: 134 :: 135 :: 136 :: 137 :: 138 :: 139 :: 140 :: 141 :: 142 :: 143 :: 144 :: 145 :: 146 :: 147 :: 148 :: 149 :: 150 :: 151 :: 152 :: []) (fun j => [(20, .int .i64 j)]) (fun _ => H0) (fun j => j ≤ 5) (fun j => 5 - j) 0 rfl (Nat.zero_le _) ⟨rfl, trivial⟩ (HLe.refl _) ?_
      intro j hj
      refine AWp.of tt_ok (dok _) rfl ?_
      dsimp only at hj ⊢
      rcases (show j = 0 ∨ j = 1 ∨ j = 2 ∨ j = 3 ∨ j = 4 ∨ j = 5 by omega) with rfl | rfl | rfl | rfl | rfl | rfl
      · have m1 := fun H => mix_c A B (by omega) (by omega) H
        have m2 := fun H => rmix_c A B (by omega) (by omega) H
        rw [lenA, lenB] at m1 m2
        generalize (mixV A B).1 = u1 at *
        generalize (mixV A B).2 = u2 at *
        (repeat' ((conv => whnf); first | refine Then.mk ?_ | left | refine OpsA.cons ?_ | refine OpsA.nil ?_ | refine AWq.seq ?_ | refine AWq.region ?_ | refine AWq.cond ?_ | refine AWq.block ?_ | refine AWq.skip ?_ | refine AWq.ret ?_ | refine AWq.exit ?_ | refine AWq.loop ?_ | refine DrawA.consD ?_ | refine DrawA.nil ?_ | refine AWq.draw (by decide +kernel) ?_ | (apply Exists.intro; apply And.intro; exact m1 _) | (apply Exists.intro; apply And.intro; exact m2 _) | (refine Both.mk ?_ ?_ <;> intro hc <;> (first | exact Bool.noConfusion hc | exact absurd (by with_reducible rfl) hc | (exfalso; omega) | skip)) | (intro c hc; (try (simp only [AH.none_iff] at hc; repeat (have hn := hc.1; replace hc := hc.2))); (first | (have hc2 := Eq.trans hc (by with_reducible assumption); clear hc; subst hc2) | (refine i64_k hc ?_ ?_ ?_ ; omega; omega; (clear hc; intro hc; subst hc)) | subst hc | skip)) | (apply Exists.intro; apply And.intro; (first | (focus (repeat (first | (with_reducible assumption) | (with_reducible exact AH.set_same _ _ _) | ((first | refine AH.get_ne ?_ ?_ | refine AH.getd_ne ?_ ?_); (first | (with_reducible assumption) | exact Ne.symm (by with_reducible assumption))))); done) | (focus (repeat (first | exact AH.set_same _ _ _ | ((first | refine AH.get_ne ?_ ?_ | refine AH.getd_ne ?_ ?_); (first | omega)))); done))) | (apply Exists.intro; apply And.intro; first | (with_reducible assumption) | ((try simp only [List.getElem?_drop, Nat.mul_one, Nat.add_zero, Nat.zero_add]); first | (with_reducible assumption) | rfl)) | (apply And.intro; (first | rfl | (with_reducible assumption) | exact Nat.le_of_ble_eq_true rfl | omega | (simp <;> omega) | (focus (repeat' (first | (with_reducible assumption) | exact one_iS _ _ | rfl | apply one_take)); done))))) <;> (try (conv => whnf))
        exact ⟨1, by decide, by decide, ⟨rfl, trivial⟩, HLe.refl _⟩
      · have m1 := fun H => mix_c C B (by omega) (by omega) H
        have m2 := fun H => rmix_c C B (by omega) (by omega) H
        rw [lenC, lenB] at m1 m2
        generalize (mixV C B).1 = u1 at *
        generalize (mixV C B).2 = u2 at *
        (repeat' ((conv => whnf); first | refine Then.mk ?_ | left | refine OpsA.cons ?_ | refine OpsA.nil ?_ | refine AWq.seq ?_ | refine AWq.region ?_ | refine AWq.cond ?_ | refine AWq.block ?_ | refine AWq.skip ?_ | refine AWq.ret ?_ | refine AWq.exit ?_ | refine AWq.loop ?_ | refine DrawA.consD ?_ | refine DrawA.nil ?_ | refine AWq.draw (by decide +kernel) ?_ | (apply Exists.intro; apply And.intro; exact m1 _) | (apply Exists.intro; apply And.intro; exact m2 _) | (refine Both.mk ?_ ?_ <;> intro hc <;> (first | exact Bool.noConfusion hc | exact absurd (by with_reducible rfl) hc | (exfalso; omega) | skip)) | (intro c hc; (try (simp only [AH.none_iff] at hc; repeat (have hn := hc.1; replace hc := hc.2))); (first | (have hc2 := Eq.trans hc (by with_reducible assumption); clear hc; subst hc2) | (refine i64_k hc ?_ ?_ ?_ ; omega; omega; (clear hc; intro hc; subst hc)) | subst hc | skip)) | (apply Exists.intro; apply And.intro; (first | (focus (repeat (first | (with_reducible assumption) | (with_reducible exact AH.set_same _ _ _) | ((first | refine AH.get_ne ?_ ?_ | refine AH.getd_ne ?_ ?_); (first | (with_reducible assumption) | exact Ne.symm (by with_reducible assumption))))); done) | (focus (repeat (first | exact AH.set_same _ _ _ | ((first | refine AH.get_ne ?_ ?_ | refine AH.getd_ne ?_ ?_); (first | omega)))); done))) | (apply Exists.intro; apply And.intro; first | (with_reducible assumption) | ((try simp only [List.getElem?_drop, Nat.mul_one, Nat.add_zero, Nat.zero_add]); first | (with_reducible assumption) | rfl)) | (apply And.intro; (first | rfl | (with_reducible assumption) | exact Nat.le_of_ble_eq_true rfl | omega | (simp <;> omega) | (focus (repeat' (first | (with_reducible assumption) | exact one_iS _ _ | rfl | apply one_take)); done))))) <;> (try (conv => whnf))
        exact ⟨2, by decide, by decide, ⟨rfl, trivial⟩, HLe.refl _⟩
      · have m1 := fun H => mix_c A D (by omega) (by omega) H
        have m2 := fun H => rmix_c A D (by omega) (by omega) H
        rw [lenA, lenD] at m1 m2
        generalize (mixV A D).1 = u1 at *
        generalize (mixV A D).2 = u2 at *
        (repeat' ((conv => whnf); first | refine Then.mk ?_ | left | refine OpsA.cons ?_ | refine OpsA.nil ?_ | refine AWq.seq ?_ | refine AWq.region ?_ | refine AWq.cond ?_ | refine AWq.block ?_ | refine AWq.skip ?_ | refine AWq.ret ?_ | refine AWq.exit ?_ | refine AWq.loop ?_ | refine DrawA.consD ?_ | refine DrawA.nil ?_ | refine AWq.draw (by decide +kernel) ?_ | (apply Exists.intro; apply And.intro; exact m1 _) | (apply Exists.intro; apply And.intro; exact m2 _) | (refine Both.mk ?_ ?_ <;> intro hc <;> (first | exact Bool.noConfusion hc | exact absurd (by with_reducible rfl) hc | (exfalso; omega) | skip)) | (intro c hc; (try (simp only [AH.none_iff] at hc; repeat (have hn := hc.1; replace hc := hc.2))); (first | (have hc2 := Eq.trans hc (by with_reducible assumption); clear hc; subst hc2) | (refine i64_k hc ?_ ?_ ?_ ; omega; omega; (clear hc; intro hc; subst hc)) | subst hc | skip)) | (apply Exists.intro; apply And.intro; (first | (focus (repeat (first | (with_reducible assumption) | (with_reducible exact AH.set_same _ _ _) | ((first | refine AH.get_ne ?_ ?_ | refine AH.getd_ne ?_ ?_); (first | (with_reducible assumption) | exact Ne.symm (by with_reducible assumption))))); done) | (focus (repeat (first | exact AH.set_same _ _ _ | ((first | refine AH.get_ne ?_ ?_ | refine AH.getd_ne ?_ ?_); (first | omega)))); done))) | (apply Exists.intro; apply And.intro; first | (with_reducible assumption) | ((try simp only [List.getElem?_drop, Nat.mul_one, Nat.add_zero, Nat.zero_add]); first | (with_reducible assumption) | rfl)) | (apply And.intro; (first | rfl | (with_reducible assumption) | exact Nat.le_of_ble_eq_true rfl | omega | (simp <;> omega) | (focus (repeat' (first | (with_reducible assumption) | exact one_iS _ _ | rfl | apply one_take)); done))))) <;> (try (conv => whnf))
        exact ⟨3, by decide, by decide, ⟨rfl, trivial⟩, HLe.refl _⟩
      · have m1 := fun H => mix_c LL LL (by omega) (by omega) H
        have m2 := fun H => rmix_c LL LL (by omega) (by omega) H
        rw [lenL] at m1 m2
        generalize (mixV LL LL).1 = u1 at *
        generalize (mixV LL LL).2 = u2 at *
        (repeat' ((conv => whnf); first | refine Then.mk ?_ | left | refine OpsA.cons ?_ | refine OpsA.nil ?_ | refine AWq.seq ?_ | refine AWq.region ?_ | refine AWq.cond ?_ | refine AWq.block ?_ | refine AWq.skip ?_ | refine AWq.ret ?_ | refine AWq.exit ?_ | refine AWq.loop ?_ | refine DrawA.consD ?_ | refine DrawA.nil ?_ | refine AWq.draw (by decide +kernel) ?_ | (apply Exists.intro; apply And.intro; exact m1 _) | (apply Exists.intro; apply And.intro; exact m2 _) | (refine Both.mk ?_ ?_ <;> intro hc <;> (first | exact Bool.noConfusion hc | exact absurd (by with_reducible rfl) hc | (exfalso; omega) | skip)) | (intro c hc; (try (simp only [AH.none_iff] at hc; repeat (have hn := hc.1; replace hc := hc.2))); (first | (have hc2 := Eq.trans hc (by with_reducible assumption); clear hc; subst hc2) | (refine i64_k hc ?_ ?_ ?_ ; omega; omega; (clear hc; intro hc; subst hc)) | subst hc | skip)) | (apply Exists.intro; apply And.intro; (first | (focus (repeat (first | (with_reducible assumption) | (with_reducible exact AH.set_same _ _ _) | ((first | refine AH.get_ne ?_ ?_ | refine AH.getd_ne ?_ ?_); (first | (with_reducible assumption) | exact Ne.symm (by with_reducible assumption))))); done) | (focus (repeat (first | exact AH.set_same _ _ _ | ((first | refine AH.get_ne ?_ ?_ | refine AH.getd_ne ?_ ?_); (first | omega)))); done))) | (apply Exists.intro; apply And.intro; first | (with_reducible assumption) | ((try simp only [List.getElem?_drop, Nat.mul_one, Nat.add_zero, Nat.zero_add]); first | (with_reducible assumption) | rfl)) | (apply And.intro; (first | rfl | (with_reducible assumption) | exact Nat.le_of_ble_eq_true rfl | omega | (simp <;> omega) | (focus (repeat' (first | (with_reducible assumption) | exact one_iS _ _ | rfl | apply one_take)); done))))) <;> (try (conv => whnf))
        exact ⟨4, by decide, by decide, ⟨rfl, trivial⟩, HLe.refl _⟩
      · have m1 := fun H => mix_c A1 B (by omega) (by omega) H
        have m2 := fun H => rmix_c A1 B (by omega) (by omega) H
        rw [lenA1, lenB] at m1 m2
        generalize (mixV A1 B).1 = u1 at *
        generalize (mixV A1 B).2 = u2 at *
        (repeat' ((conv => whnf); first | refine Then.mk ?_ | left | refine OpsA.cons ?_ | refine OpsA.nil ?_ | refine AWq.seq ?_ | refine AWq.region ?_ | refine AWq.cond ?_ | refine AWq.block ?_ | refine AWq.skip ?_ | refine AWq.ret ?_ | refine AWq.exit ?_ | refine AWq.loop ?_ | refine DrawA.consD ?_ | refine DrawA.nil ?_ | refine AWq.draw (by decide +kernel) ?_ | (apply Exists.intro; apply And.intro; exact m1 _) | (apply Exists.intro; apply And.intro; exact m2 _) | (refine Both.mk ?_ ?_ <;> intro hc <;> (first | exact Bool.noConfusion hc | exact absurd (by with_reducible rfl) hc | (exfalso; omega) | skip)) | (intro c hc; (try (simp only [AH.none_iff] at hc; repeat (have hn := hc.1; replace hc := hc.2))); (first | (have hc2 := Eq.trans hc (by with_reducible assumption); clear hc; subst hc2) | (refine i64_k hc ?_ ?_ ?_ ; omega; omega; (clear hc; intro hc; subst hc)) | subst hc | skip)) | (apply Exists.intro; apply And.intro; (first | (focus (repeat (first | (with_reducible assumption) | (with_reducible exact AH.set_same _ _ _) | ((first | refine AH.get_ne ?_ ?_ | refine AH.getd_ne ?_ ?_); (first | (with_reducible assumption) | exact Ne.symm (by with_reducible assumption))))); done) | (focus (repeat (first | exact AH.set_same _ _ _ | ((first | refine AH.get_ne ?_ ?_ | refine AH.getd_ne ?_ ?_); (first | omega)))); done))) | (apply Exists.intro; apply And.intro; first | (with_reducible assumption) | ((try simp only [List.getElem?_drop, Nat.mul_one, Nat.add_zero, Nat.zero_add]); first | (with_reducible assumption) | rfl)) | (apply And.intro; (first | rfl | (with_reducible assumption) | exact Nat.le_of_ble_eq_true rfl | omega | (simp <;> omega) | (focus (repeat' (first | (with_reducible assumption) | exact one_iS _ _ | rfl | apply one_take)); done))))) <;> (try (conv => whnf))
        exact ⟨5, by decide, by decide, ⟨rfl, trivial⟩, HLe.refl _⟩
      · (repeat' ((conv => whnf); first | refine Then.mk ?_ | left | refine OpsA.cons ?_ | refine OpsA.nil ?_ | refine AWq.seq ?_ | refine AWq.region ?_ | refine AWq.cond ?_ | refine AWq.block ?_ | refine AWq.skip ?_ | refine AWq.ret ?_ | refine AWq.exit ?_ | refine AWq.loop ?_ | refine DrawA.consD ?_ | refine DrawA.nil ?_ | refine AWq.draw (by decide +kernel) ?_ | (refine Both.mk ?_ ?_ <;> intro hc <;> (first | exact Bool.noConfusion hc | exact absurd (by with_reducible rfl) hc | (exfalso; omega) | skip)) | (intro c hc; (try (simp only [AH.none_iff] at hc; repeat (have hn := hc.1; replace hc := hc.2))); (first | (have hc2 := Eq.trans hc (by with_reducible assumption); clear hc; subst hc2) | (refine i64_k hc ?_ ?_ ?_ ; omega; omega; (clear hc; intro hc; subst hc)) | subst hc | skip)) | (apply Exists.intro; apply And.intro; (first | (focus (repeat (first | (with_reducible assumption) | (with_reducible exact AH.set_same _ _ _) | ((first | refine AH.get_ne ?_ ?_ | refine AH.getd_ne ?_ ?_); (first | (with_reducible assumption) | exact Ne.symm (by with_reducible assumption))))); done) | (focus (repeat (first | exact AH.set_same _ _ _ | ((first | refine AH.get_ne ?_ ?_ | refine AH.getd_ne ?_ ?_); (first | omega)))); done))) | (apply Exists.intro; apply And.intro; first | (with_reducible assumption) | ((try simp only [List.getElem?_drop, Nat.mul_one, Nat.add_zero, Nat.zero_add]); first | (with_reducible assumption) | rfl)) | (apply And.intro; (first | rfl | (with_reducible assumption) | exact Nat.le_of_ble_eq_true rfl | omega | (simp <;> omega) | (focus (repeat' (first | (with_reducible assumption) | exact one_iS _ _ | rfl | apply one_take)); done))) | (refine ACall.to (lives23_c _) ?_))) <;> (try (conv => whnf))
end Go.Proofs.Ytghielfbdpkhmaa
