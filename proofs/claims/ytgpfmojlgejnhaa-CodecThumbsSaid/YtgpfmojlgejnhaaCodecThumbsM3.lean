/- For the law CodecThumbs, part 3 of 8: the frame of the walk, the walks of the functions, the plain law, the row. No conditions. -/
import Derived.Test.YtgpfmojlgejnhaaCodecThumbsM2
import Derived.Test.YtgpfmojlgejnhaaProg
import Derived.KernelRfl
/- The types that the walks over this translation meet: a table, and that it tells of them what the translation tells. -/
namespace Go.Proofs.Ytgpfmojlgejnhaa
open Go.Fw
def tt : TT := [
  (3, ⟨.int .i64, 1, false, [.int .i64 0]⟩),
  (22, ⟨.slice 3 1 8 [.int .i64 0], 1, false, [.nils]⟩),
  (24, ⟨.struct [(0, 1, false), (1, 1, false), (2, 1, false)], 3, true, [.int .i64 0, .nils, .nils]⟩),
  (76, ⟨.int .u64, 1, false, [.int .u64 0]⟩),
  (26, ⟨.slice 5 1 1 [.int .u8 0], 1, false, [.nils]⟩),
  (27, ⟨.int .i64, 1, false, [.int .i64 0]⟩),
  (129, ⟨.struct [(0, 1, false), (1, 1, false)], 2, true, [.int .u64 0, .int .u64 0]⟩),
  (60, ⟨.slice 26 1 24 [.nils], 1, false, [.nils]⟩),
  (5, ⟨.int .u8, 1, false, [.int .u8 0]⟩),
  (114, ⟨.struct [(0, 1, false), (1, 1, false)], 2, true, [.int .i64 0, .nils]⟩),
  (131, ⟨.struct [(0, 2, true), (2, 1, false)], 3, true, [.int .u64 0, .int .u64 0, .nils]⟩),
  (45, ⟨.struct [(0, 1, false)], 1, true, [.nils]⟩),
  (133, ⟨.struct [(0, 1, false), (1, 1, false)], 2, true, [.nils, .int .i64 0]⟩),
  (41, ⟨.ptr 74, 1, false, [.nilp]⟩),
  (74, ⟨.struct [(0, 1, false), (1, 1, false)], 2, true, [.nils, .int .i64 0]⟩),
  (142, ⟨.struct [(0, 2, true), (2, 1, false)], 3, true, [.int .u64 0, .int .u64 0, .nilf]⟩),
  (9, ⟨.str, 1, false, [.str []]⟩),
  (99, ⟨.int .u64, 1, false, [.int .u64 0]⟩),
  (69, ⟨.slice 98 2 16 [.int .i64 0, .int .i64 0], 1, false, [.nils]⟩),
  (4, ⟨.bool, 1, false, [.bool false]⟩),
  (98, ⟨.array 2 3 1 false, 2, true, [.int .i64 0, .int .i64 0]⟩),
  (136, ⟨.int .u32, 1, false, [.int .u32 0]⟩),
  (56, ⟨.array 4 24 3 true, 12, true, [.int .i64 0, .nils, .nils, .int .i64 0, .nils, .nils, .int .i64 0, .nils, .nils, .int .i64 0, .nils, .nils]⟩),
  (111, ⟨.ptr 133, 1, false, [.nilp]⟩),
  (118, ⟨.slice 117 1 8 [.nilf], 1, false, [.nils]⟩),
  (89, ⟨.func, 1, false, [.nilf]⟩),
  (105, ⟨.slice 111 1 8 [.nilp], 1, false, [.nils]⟩),
  (121, ⟨.ptr 142, 1, false, [.nilp]⟩),
  (108, ⟨.ptr 131, 1, false, [.nilp]⟩),
  (78, ⟨.ptr 45, 1, false, [.nilp]⟩),
  (77, ⟨.func, 1, false, [.nilf]⟩),
  (117, ⟨.func, 1, false, [.nilf]⟩),
  (67, ⟨.func, 1, false, [.nilf]⟩),
  (82, ⟨.func, 1, false, [.nilf]⟩),
  (30, ⟨.func, 1, false, [.nilf]⟩)]
set_option maxRecDepth 100000 in
theorem tt_ok : TT.ok Try.prog tt = true := by kernel_rfl
theorem mo : Try.prog.follows .mixedOrders = true := by kernel_rfl
theorem dok (N : Nat) : DrawOk Try.prog tt N := drawOk_of tt_ok (by kernel_rfl) N
end Go.Proofs.Ytgpfmojlgejnhaa
/- The plain law of the wavelet: squares as functions. -/
namespace Go.Proofs.Ytgpfmojlgejnhaa
set_option linter.unusedVariables false
set_option linter.unusedSimpArgs false

abbrev Ln := Nat → Int
abbrev Mat := Nat → Nat → Int

def spl (n : Nat) (x : Ln) (c : Nat) : Int := if c < n / 2 then (x (2 * c) + x (2 * c + 1)) / 2 else x (2 * (c - n / 2)) - x (2 * (c - n / 2) + 1)
def joi (n : Nat) (x : Ln) (c : Nat) : Int := if c % 2 = 0 then x (c / 2) + (x (n / 2 + c / 2) + 1) / 2 else x (c / 2) + (x (n / 2 + c / 2) + 1) / 2 - x (n / 2 + c / 2)

theorem joi_spl (h : Nat) (x y : Ln) (hy : ∀ c, c < 2 * h → y c = spl (2 * h) x c) (c : Nat) (hc : c < 2 * h) : joi (2 * h) y c = x c := by
  have e : 2 * h / 2 = h := by omega
  have h1 : y (c / 2) = (x (2 * (c / 2)) + x (2 * (c / 2) + 1)) / 2 := by
    rw [hy _ (by omega)]; unfold spl; rw [e, if_pos (by omega)]
  have h2 : y (h + c / 2) = x (2 * (c / 2)) - x (2 * (c / 2) + 1) := by
    rw [hy _ (by omega)]; unfold spl; rw [e, if_neg (by omega), show h + c / 2 - h = c / 2 by omega]
  unfold joi
  rw [e, h1, h2]
  split
  · rw [show 2 * (c / 2) = c by omega]; omega
  · rw [show 2 * (c / 2) + 1 = c by omega]; omega

def rowsM (f : Nat → Ln → Ln) (n : Nat) (M : Mat) : Mat := fun r c => if r < n ∧ c < n then f n (M r) c else M r c
def colsM (f : Nat → Ln → Ln) (n : Nat) (M : Mat) : Mat := fun r c => if r < n ∧ c < n then f n (fun k => M k c) r else M r c
def rowsI (f : Nat → Ln → Ln) (n i : Nat) (M : Mat) : Mat := fun r c => if r < i ∧ c < n then f n (M r) c else M r c
def colsI (f : Nat → Ln → Ln) (n i : Nat) (M : Mat) : Mat := fun r c => if r < n ∧ c < i then f n (fun k => M k c) r else M r c

theorem rows_rows {f g : Nat → Ln → Ln} {n : Nat} (h : ∀ x y : Ln, (∀ c, c < n → y c = f n x c) → ∀ c, c < n → g n y c = x c) (M : Mat) : rowsM g n (rowsM f n M) = M := by
  funext r c
  unfold rowsM
  by_cases hr : r < n ∧ c < n
  · rw [if_pos hr]
    exact h (M r) _ (fun c hc => by rw [if_pos ⟨hr.1, hc⟩]) c hr.2
  · rw [if_neg hr, if_neg hr]
theorem cols_cols {f g : Nat → Ln → Ln} {n : Nat} (h : ∀ x y : Ln, (∀ c, c < n → y c = f n x c) → ∀ c, c < n → g n y c = x c) (M : Mat) : colsM g n (colsM f n M) = M := by
  funext r c
  unfold colsM
  by_cases hr : r < n ∧ c < n
  · rw [if_pos hr]
    exact h (fun k => M k c) _ (fun k hk => by rw [if_pos ⟨hk, hr.2⟩]) r hr.1
  · rw [if_neg hr, if_neg hr]

def fwd : Nat → Mat → Mat
  | 0, M => M
  | k + 1, M => fwd k (colsM spl (2 ^ (k + 1)) (rowsM spl (2 ^ (k + 1)) M))
def inv : Nat → Mat → Mat
  | 0, M => M
  | k + 1, M => rowsM joi (2 ^ (k + 1)) (colsM joi (2 ^ (k + 1)) (inv k M))

theorem pow_half (k : Nat) : 2 ^ (k + 1) = 2 * 2 ^ k := by rw [Nat.pow_succ, Nat.mul_comm]

theorem inv_fwd : ∀ (k : Nat) (M : Mat), inv k (fwd k M) = M
  | 0, M => rfl
  | k + 1, M => by
    show rowsM joi _ (colsM joi _ (inv k (fwd k _))) = M
    rw [inv_fwd k, cols_cols (fun x y hy c hc => ?_), rows_rows (fun x y hy c hc => ?_)]
    · rw [pow_half] at *; exact joi_spl _ x y hy c hc
    · rw [pow_half] at *; exact joi_spl _ x y hy c hc
def toL (s : Nat) (M : Mat) : List Int := (List.range (s * s)).map fun p => M (p / s) (p % s)
def ofL (s : Nat) (a : List Int) : Mat := fun r c => if r < s ∧ c < s then a.getD (r * s + c) 0 else 0
theorem toL_len (s : Nat) (M : Mat) : (toL s M).length = s * s := by simp [toL]

theorem place {s r c : Nat} (hr : r < s) (hc : c < s) : r * s + c < s * s ∧ (r * s + c) / s = r ∧ (r * s + c) % s = c := by
  have hs : 0 < s := by omega
  refine ⟨?_, ?_, ?_⟩
  · have : (r + 1) * s ≤ s * s := Nat.mul_le_mul_right _ hr
    rw [Nat.add_mul] at this; omega
  · rw [Nat.add_comm, Nat.add_mul_div_right _ _ hs, Nat.div_eq_of_lt hc]; omega
  · rw [Nat.add_comm, Nat.add_mul_mod_self_right, Nat.mod_eq_of_lt hc]
theorem place' {s p : Nat} (hp : p < s * s) : p / s < s ∧ p % s < s ∧ p / s * s + p % s = p := by
  have hs : 0 < s := by
    rcases Nat.eq_zero_or_pos s with h | h
    · rw [h] at hp; omega
    · exact h
  exact ⟨Nat.div_lt_of_lt_mul hp, Nat.mod_lt _ hs, Nat.div_add_mod' p s⟩

theorem toL_get {s : Nat} (M : Mat) {r c : Nat} (hr : r < s) (hc : c < s) : (toL s M)[r * s + c]? = some (M r c) := by
  obtain ⟨h1, h2, h3⟩ := place hr hc
  simp [toL, h1, h2, h3]
theorem toL_getD {s : Nat} (M : Mat) {r c : Nat} (hr : r < s) (hc : c < s) : (toL s M).getD (r * s + c) 0 = M r c := by
  rw [List.getD_eq_getElem?_getD, toL_get M hr hc]; rfl
theorem toL_at {s : Nat} (M : Mat) {p : Nat} (hp : p < s * s) : (toL s M)[p]? = some (M (p / s) (p % s)) := by
  simp [toL, hp]
theorem toL_ofL {s : Nat} {a : List Int} (h : a.length = s * s) : toL s (ofL s a) = a := by
  apply List.ext_getElem?
  intro p
  by_cases hp : p < s * s
  · obtain ⟨h1, h2, h3⟩ := place' hp
    rw [toL_at _ hp]
    unfold ofL
    rw [if_pos ⟨h1, h2⟩, h3]
    simp [show p < a.length by omega]
  · rw [List.getElem?_eq_none (by rw [toL_len]; omega), List.getElem?_eq_none (by omega)]
theorem toL_congr {s : Nat} {M N : Mat} (h : ∀ r c, r < s → c < s → M r c = N r c) : toL s M = toL s N := by
  unfold toL
  refine List.map_congr_left fun p hp => ?_
  have hp : p < s * s := by simpa using hp
  obtain ⟨h1, h2, _⟩ := place' hp
  exact h _ _ h1 h2
def updM (M : Mat) (r c : Nat) (v : Int) : Mat := fun i k => if i = r ∧ k = c then v else M i k
theorem toL_set {s : Nat} (M : Mat) {r c : Nat} (hr : r < s) (hc : c < s) (v : Int) : (toL s M).set (r * s + c) v = toL s (updM M r c v) := by
  apply List.ext_getElem?
  intro p
  by_cases hp : p < s * s
  · obtain ⟨h1, h2, h3⟩ := place' hp
    obtain ⟨k1, k2, k3⟩ := place hr hc
    rw [List.getElem?_set, toL_at _ hp, toL_at _ hp]
    by_cases e : r * s + c = p
    · subst e
      rw [if_pos rfl, k2, k3]
      unfold updM
      simp [toL_len, k1]
    · rw [if_neg e]
      unfold updM
      rw [if_neg (fun h => e (by rw [← h3, h.1, h.2]))]
  · rw [List.getElem?_eq_none (by rw [List.length_set, toL_len]; omega), List.getElem?_eq_none (by rw [toL_len]; omega)]

def lnL (n : Nat) (x : Ln) : List Int := (List.range n).map x
theorem lnL_len (n : Nat) (x : Ln) : (lnL n x).length = n := by simp [lnL]
theorem lnL_get {n c : Nat} (x : Ln) (h : c < n) : (lnL n x)[c]? = some (x c) := by simp [lnL, h]
theorem lnL_congr {n : Nat} {x y : Ln} (h : ∀ c, c < n → x c = y c) : lnL n x = lnL n y := List.map_congr_left fun c hc => h c (by simpa using hc)
theorem lnL_set {n c : Nat} (x : Ln) (h : c < n) (v : Int) : (lnL n x).set c v = lnL n (fun k => if k = c then v else x k) := by
  apply List.ext_getElem?
  intro p
  by_cases hp : p < n
  · rw [List.getElem?_set, lnL_get _ hp, lnL_get _ hp]
    by_cases e : c = p
    · subst e; simp [lnL_len, h]
    · rw [if_neg e, if_neg (fun h => e h.symm)]
  · rw [List.getElem?_eq_none (by rw [List.length_set, lnL_len]; omega), List.getElem?_eq_none (by rw [lnL_len]; omega)]

theorem toL_row {s n i : Nat} (M : Mat) (hi : i < s) (hn : n ≤ s) : ((toL s M).drop (i * s)).take n = lnL n (M i) := by
  apply List.ext_getElem?
  intro c
  by_cases hc : c < n
  · rw [List.getElem?_take, if_pos hc, List.getElem?_drop, toL_get M hi (by omega), lnL_get _ hc]
  · rw [List.getElem?_eq_none (by rw [List.length_take]; omega), List.getElem?_eq_none (by rw [lnL_len]; omega)]
theorem toL_put {s n i : Nat} (M : Mat) (x : Ln) (hi : i < s) (hn : n ≤ s) : (toL s M).take (i * s) ++ lnL n x ++ (toL s M).drop (i * s + n) = toL s (fun r c => if r = i ∧ c < n then x c else M r c) := by
  have hin : i * s + n ≤ s * s := by
    have : (i + 1) * s ≤ s * s := Nat.mul_le_mul_right _ hi
    rw [Nat.add_mul] at this; omega
  apply List.ext_getElem?
  intro p
  have hL : ((toL s M).take (i * s) ++ lnL n x).length = i * s + n := by
    rw [List.length_append, List.length_take, toL_len, lnL_len]; omega
  by_cases hp : p < s * s
  · obtain ⟨h1, h2, h3⟩ := place' hp
    rw [toL_at _ hp]
    by_cases c1 : p < i * s
    · rw [List.getElem?_append_left (by omega), List.getElem?_append_left (by rw [List.length_take, toL_len]; omega), List.getElem?_take, if_pos c1, toL_at _ hp]
      have : p / s ≠ i := fun e => by rw [e] at h3; omega
      rw [if_neg (fun h => this h.1)]
    · by_cases c2 : p < i * s + n
      · rw [List.getElem?_append_left (by omega), List.getElem?_append_right (by rw [List.length_take, toL_len]; omega), List.length_take, toL_len, Nat.min_eq_left (by omega), lnL_get _ (by omega)]
        obtain ⟨k1, k2, k3⟩ := place hi (show p - i * s < s by omega)
        rw [show i * s + (p - i * s) = p by omega] at k2 k3
        rw [k2, k3, if_pos ⟨rfl, by omega⟩]
      · rw [List.getElem?_append_right (by omega), hL, List.getElem?_drop, show i * s + n + (p - (i * s + n)) = p by omega, toL_at _ hp]
        have : ¬ (p / s = i ∧ p % s < n) := fun h => by rw [h.1] at h3; omega
        rw [if_neg this]
  · rw [List.getElem?_eq_none (by rw [List.length_append, hL, List.length_drop, toL_len]; omega), List.getElem?_eq_none (by rw [toL_len]; omega)]
open Go.Fw Go

def iL (n : Nat) (X : Ln) : List AV := iS .i64 (lnL n X)
@[simp] theorem iL_len (n : Nat) (X : Ln) : (iL n X).length = n := by simp [iL, lnL]
theorem iL_get {n i : Nat} (X : Ln) (h : i < n) : (iL n X)[i]? = some (.int .i64 (X i)) := by
  unfold iL iS
  rw [List.getElem?_map, lnL_get X h]; rfl
theorem iL_congr {n : Nat} {X Y : Ln} (h : ∀ c, c < n → X c = Y c) : iL n X = iL n Y := by unfold iL; rw [lnL_congr h]
theorem iL_zero (n : Nat) : (List.replicate n [AV.int .i64 0]).flatten = iL n (fun _ => 0) := by
  apply List.ext_getElem?
  intro i
  have : (List.replicate n [AV.int .i64 0]).flatten = List.replicate n (AV.int .i64 0) := by
    induction n with
    | zero => rfl
    | succ n ih => rw [List.replicate_succ, List.flatten_cons, ih, List.replicate_succ]; rfl
  rw [this]
  by_cases h : i < n
  · rw [iL_get _ h]; simp [h]
  · rw [List.getElem?_eq_none (by simp; omega), List.getElem?_eq_none (by rw [iL_len]; omega)]
theorem iS_wr {a : List Int} {k : Nat} {v : Int} (h : k < a.length) : wrA (iS .i64 a) k [.int .i64 v] = iS .i64 (a.set k v) := by
  unfold wrA
  rw [List.set_eq_take_append_cons_drop, if_pos h]
  simp [iS, List.map_take, List.map_drop]
theorem iL_wr {n c : Nat} (X : Ln) (h : c < n) (v : Int) : wrA (iL n X) c [.int .i64 v] = iL n (fun k => if k = c then v else X k) := by
  unfold iL
  rw [iS_wr (by rw [lnL_len]; exact h), lnL_set X h]

@[simp] theorem wrA_len (l : List AV) (k : Nat) (v : AV) : (wrA l k [v]).length = min k l.length + 1 + (l.length - (k + 1)) := by simp [wrA]; omega

def inB (m : Int) (a : List Int) : Bool := a.all fun x => decide (-m ≤ x ∧ x ≤ m)
theorem inB_iff {m : Int} {a : List Int} : inB m a = true ↔ ∀ x ∈ a, -m ≤ x ∧ x ≤ m := by simp [inB]

set_option maxRecDepth 8000 in
theorem half_c (n : Int) (H : AH) : ACall Try.prog 71 [.int .i64 n] H (fun y H' => y = .int .i64 (n / 2) ∧ H' = H) := by
  have e : n.fdiv (2 ^ min (Int.toNat 1) IntKind.i64.bits) = n / 2 := by
    rw [show (2 : Int) ^ min (Int.toNat 1) IntKind.i64.bits = 2 by decide, Int.fdiv_eq_ediv_of_nonneg _ (by omega)]
  refine ACall_of tt_ok (dok _) Try.func71 rfl (by decide) rfl ?_
  (repeat' ((conv => whnf); first | refine Then.mk ?_ | refine OpsA.cons ?_ | refine OpsA.nil ?_ | refine AWq.seq ?_ | refine AWq.region ?_ | refine AWq.ret ?_ | (intro c hc; (try (simp only [AH.none_iff] at hc; repeat (have hn := hc.1; replace hc := hc.2))); (first | (have hc2 := Eq.trans hc (by with_reducible assumption); clear hc; subst hc2))) | (apply And.intro; (first | rfl | omega)))) <;> (try (conv => whnf))
  all_goals exact ⟨congrArg (AV.int .i64) e, rfl⟩

set_option maxRecDepth 8000 in
theorem outs_c (m x : Int) (hm : 0 ≤ m ∧ m ≤ 4611686018427387904) (c : Nat) (H : AH) (hc : H c = some (.row [.int .i64 m] 0)) :
    ACall Try.prog 94 [.int .i64 x, .ptr c 0 0] H (fun y H' => y = .bool (!decide (-m ≤ x ∧ x ≤ m)) ∧ H' = H) := by
  by_cases h : -m ≤ x ∧ x ≤ m
  · rw [decide_eq_true h]
    refine ACall_of tt_ok (dok _) Try.func94 rfl (by decide) rfl ?_
    (repeat' ((conv => whnf); first | refine Then.mk ?_ | refine OpsA.cons ?_ | refine OpsA.nil ?_ | refine AWq.seq ?_ | refine AWq.region ?_ | refine AWq.ret ?_ | (refine Both.mk ?_ ?_ <;> intro hc <;> (first | (exfalso; omega) | skip)) | (intro c hc; (try (simp only [AH.none_iff] at hc; repeat (have hn := hc.1; replace hc := hc.2))); (first | (refine i64_k hc ?_ ?_ ?_ ; omega; omega; (clear hc; intro hc; subst hc)) | skip)) | (apply Exists.intro; apply And.intro; (first | (focus (repeat (first | (with_reducible assumption))); done))) | (apply Exists.intro; apply And.intro; first | (with_reducible assumption) | ((try simp only [List.getElem?_drop, Nat.mul_one, Nat.add_zero, Nat.zero_add]); first | (with_reducible assumption) | rfl)) | (apply And.intro; (first | rfl | (with_reducible assumption))))) <;> (try (conv => whnf))
  · rw [decide_eq_false h]
    refine ACall_of tt_ok (dok _) Try.func94 rfl (by decide) rfl ?_
    (repeat' ((conv => whnf); first | refine Then.mk ?_ | refine OpsA.cons ?_ | refine OpsA.nil ?_ | refine AWq.seq ?_ | refine AWq.region ?_ | refine AWq.ret ?_ | (refine Both.mk ?_ ?_ <;> intro hc <;> (first | (exfalso; omega) | skip)) | (intro c hc; (try (simp only [AH.none_iff] at hc; repeat (have hn := hc.1; replace hc := hc.2))); (first | (refine i64_k hc ?_ ?_ ?_ ; omega; omega; (clear hc; intro hc; subst hc)) | skip)) | (apply Exists.intro; apply And.intro; (first | (focus (repeat (first | (with_reducible assumption))); done))) | (apply Exists.intro; apply And.intro; first | (with_reducible assumption) | ((try simp only [List.getElem?_drop, Nat.mul_one, Nat.add_zero, Nat.zero_add]); first | (with_reducible assumption) | rfl)) | (apply And.intro; (first | rfl | (with_reducible assumption))))) <;> (try (conv => whnf))

set_option maxRecDepth 8000 in
theorem index_c (m : Int) (hm : 0 ≤ m ∧ m ≤ 4611686018427387904) (a : List Int) (ha : a.length ≤ 1000000) (c : Nat) (H : AH) (hc : H c = some (.row [.int .i64 m] 0)) :
    ACall Try.prog 79 [.cs (iS .i64 a) a.length, .fn (.func 94) [] [.ptr c 0 0]] H (fun y H' => ∃ k : Int, (k < 0 ↔ inB m a = true) ∧ y = .int .i64 k ∧ H' = H) := by
  refine ACall_of tt_ok (dok _) Try.func79 rfl (by decide) rfl ?_
  (repeat' ((conv => whnf); first | refine Then.mk ?_ | refine OpsA.cons ?_ | refine OpsA.nil ?_ | refine AWq.seq ?_ | refine AWq.region ?_ | refine AWq.cond ?_ | refine AWq.block ?_ | refine AWq.skip ?_ | refine AWq.ret ?_ | refine AWq.exit ?_ | refine AWq.loop ?_ | (refine Both.mk ?_ ?_ <;> intro hc <;> (first | exact Bool.noConfusion hc | (exfalso; omega) | skip)) | (intro c hc; (try (simp only [AH.none_iff] at hc; repeat (have hn := hc.1; replace hc := hc.2))); (first | (refine i64_k hc ?_ ?_ ?_ ; omega; omega; (clear hc; intro hc; subst hc)) | skip)) | (apply Exists.intro; apply And.intro; first | (with_reducible assumption) | ((try simp only [List.getElem?_drop, Nat.mul_one, Nat.add_zero, Nat.zero_add]); first | (with_reducible assumption) | (refine iS_get ?_; omega) | rfl)) | (apply And.intro; (first | rfl | (with_reducible assumption) | omega | (simp <;> omega))))) <;> (try (conv => whnf))
  refine AWp_loop (σ := Nat) (4 :: 5 :: 8 :: 9 :: 10 :: 11 :: 12 :: 13 :: 14 :: 15 :: 16 :: 17 :: 18 :: []) (fun i => [(8, .int .i64 i)]) (fun _ => H) (fun i => i ≤ a.length ∧ inB m (a.take i) = true) (fun i => a.length - i) 0 rfl ?_ ?_ ?_ ?_
  · exact ⟨Nat.zero_le _, rfl⟩
  · exact ⟨rfl, trivial⟩
  · exact HLe.refl _
  · rintro i ⟨hi, hin⟩
    refine AWp.of tt_ok (dok _) rfl ?_
    by_cases h : i < a.length
    · have hs := fun x => outs_c m x hm c H hc
      have ht : inB m (a.take (i + 1)) = (inB m (a.take i) && decide (-m ≤ a[i] ∧ a[i] ≤ m)) := by
        rw [List.take_add_one, List.getElem?_eq_getElem h]; simp only [inB, List.all_append, Option.toList_some, List.all_cons, List.all_nil, Bool.and_true]
      have hd : a.getD (i : Int).toNat 0 = a[i] := by rw [Int.toNat_natCast]; simp [h]
      by_cases hb : -m ≤ a[i] ∧ a[i] ≤ m
      · have hs := hs a[i]
        rw [decide_eq_true hb, ← hd] at hs
        (repeat' ((conv => whnf); first | refine Then.mk ?_ | refine OpsA.cons ?_ | refine OpsA.nil ?_ | refine AWq.seq ?_ | refine AWq.region ?_ | refine AWq.cond ?_ | refine AWq.block ?_ | refine AWq.skip ?_ | refine AWq.ret ?_ | refine AWq.exit ?_ | refine AWq.loop ?_ | (refine Both.mk ?_ ?_ <;> intro hc <;> (first | exact Bool.noConfusion hc | (exfalso; omega) | skip)) | (intro c hc; (try (simp only [AH.none_iff] at hc; repeat (have hn := hc.1; replace hc := hc.2))); (first | (refine i64_k hc ?_ ?_ ?_ ; omega; omega; (clear hc; intro hc; subst hc)) | skip)) | (apply Exists.intro; apply And.intro; first | (with_reducible assumption) | ((try simp only [List.getElem?_drop, Nat.mul_one, Nat.add_zero, Nat.zero_add]); first | (with_reducible assumption) | (refine iS_get ?_; omega) | rfl)) | (apply And.intro; (first | rfl | (with_reducible assumption) | omega | (simp <;> omega))) | (refine ACall.to (hs) ?_))) <;> (try (conv => whnf))
        refine ⟨i + 1, ⟨by omega, by rw [ht, hin, decide_eq_true hb]; rfl⟩, by omega, ⟨congrArg (AV.int .i64) (by omega), trivial⟩, HLe.refl _⟩
      · have hs := hs a[i]
        rw [decide_eq_false hb, ← hd] at hs
        have hno : inB m a = false := by
          cases hx : inB m a with
          | false => rfl
          | true => exact absurd (inB_iff.1 hx a[i] (List.getElem_mem h)) hb
        (repeat' ((conv => whnf); first | refine Then.mk ?_ | refine OpsA.cons ?_ | refine OpsA.nil ?_ | refine AWq.seq ?_ | refine AWq.region ?_ | refine AWq.cond ?_ | refine AWq.block ?_ | refine AWq.skip ?_ | refine AWq.ret ?_ | refine AWq.exit ?_ | refine AWq.loop ?_ | (refine Both.mk ?_ ?_ <;> intro hc <;> (first | exact Bool.noConfusion hc | (exfalso; omega) | skip)) | (intro c hc; (try (simp only [AH.none_iff] at hc; repeat (have hn := hc.1; replace hc := hc.2))); (first | (refine i64_k hc ?_ ?_ ?_ ; omega; omega; (clear hc; intro hc; subst hc)) | skip)) | (apply Exists.intro; apply And.intro; first | (with_reducible assumption) | ((try simp only [List.getElem?_drop, Nat.mul_one, Nat.add_zero, Nat.zero_add]); first | (with_reducible assumption) | (refine iS_get ?_; omega) | rfl)) | (apply And.intro; (first | rfl | (with_reducible assumption) | omega | (simp <;> omega))) | (refine ACall.to (hs) ?_))) <;> (try (conv => whnf))
        exact ⟨_, by rw [hno]; simp, rfl, rfl⟩
    · have : a.take i = a := List.take_of_length_le (by omega)
      rw [this] at hin
      (repeat' ((conv => whnf); first | refine Then.mk ?_ | refine OpsA.cons ?_ | refine OpsA.nil ?_ | refine AWq.seq ?_ | refine AWq.region ?_ | refine AWq.cond ?_ | refine AWq.block ?_ | refine AWq.skip ?_ | refine AWq.ret ?_ | refine AWq.exit ?_ | refine AWq.loop ?_ | (refine Both.mk ?_ ?_ <;> intro hc <;> (first | exact Bool.noConfusion hc | (exfalso; omega) | skip)) | (intro c hc; (try (simp only [AH.none_iff] at hc; repeat (have hn := hc.1; replace hc := hc.2))); (first | (refine i64_k hc ?_ ?_ ?_ ; omega; omega; (clear hc; intro hc; subst hc)) | skip)) | (apply Exists.intro; apply And.intro; first | (with_reducible assumption) | ((try simp only [List.getElem?_drop, Nat.mul_one, Nat.add_zero, Nat.zero_add]); first | (with_reducible assumption) | (refine iS_get ?_; omega) | rfl)) | (apply And.intro; (first | rfl | (with_reducible assumption) | omega | (simp <;> omega))))) <;> (try (conv => whnf))
      exact ⟨_, by rw [hin]; simp, rfl, rfl⟩

set_option maxRecDepth 8000 in
theorem any_c (m : Int) (hm : 0 ≤ m ∧ m ≤ 4611686018427387904) (a : List Int) (ha : a.length ≤ 1000000) (c : Nat) (H : AH) (hc : H c = some (.row [.int .i64 m] 0)) :
    ACall Try.prog 78 [.cs (iS .i64 a) a.length, .fn (.func 94) [] [.ptr c 0 0]] H (fun y H' => y = .bool (!inB m a) ∧ H' = H) := by
  refine ACall_of tt_ok (dok _) Try.func78 rfl (by decide) rfl ?_
  (repeat' ((conv => whnf); first | refine Then.mk ?_ | refine OpsA.cons ?_ | refine OpsA.nil ?_ | refine AWq.seq ?_ | refine AWq.region ?_ | refine AWq.ret ?_ | (refine Both.mk ?_ ?_ <;> intro hc <;> (first | (exfalso; omega) | skip)) | (apply And.intro; (first | rfl)))) <;> (try (conv => whnf))
  refine (index_c m hm a ha c H hc).mono ?_
  rintro y H' ⟨k, hk, rfl, rfl⟩
  cases hb : inB m a with
  | true =>
    have := hk.2 hb
    (repeat' ((conv => whnf); first | refine Then.mk ?_ | refine OpsA.cons ?_ | refine OpsA.nil ?_ | refine AWq.seq ?_ | refine AWq.region ?_ | refine AWq.ret ?_ | (refine Both.mk ?_ ?_ <;> intro hc <;> (first | (exfalso; omega) | skip)) | (apply And.intro; (first | rfl)))) <;> (try (conv => whnf))
  | false =>
    have : ¬ k < 0 := fun h => by rw [hk.1 h] at hb; cases hb
    (repeat' ((conv => whnf); first | refine Then.mk ?_ | refine OpsA.cons ?_ | refine OpsA.nil ?_ | refine AWq.seq ?_ | refine AWq.region ?_ | refine AWq.ret ?_ | (refine Both.mk ?_ ?_ <;> intro hc <;> (first | (exfalso; omega) | skip)) | (apply And.intro; (first | rfl)))) <;> (try (conv => whnf))

set_option maxRecDepth 8000 in
theorem within_c (m : Int) (hm : 0 ≤ m ∧ m ≤ 4611686018427387904) (a : List Int) (ha : a.length ≤ 1000000) (H : AH) :
    ACall Try.prog 70 [.cs (iS .i64 a) a.length, .int .i64 m] H (fun y H' => y = .bool (inB m a) ∧ H' = H) := by
  refine ACall.back ?_
  refine ACall_of tt_ok (dok _) Try.func70 rfl (by decide) rfl ?_
  (repeat' ((conv => whnf); first | refine Then.mk ?_ | refine OpsA.cons ?_ | refine OpsA.nil ?_ | refine AWq.seq ?_ | refine AWq.region ?_ | refine AWq.ret ?_ | (intro c hc; (try (simp only [AH.none_iff] at hc; repeat (have hn := hc.1; replace hc := hc.2))); (first | skip)) | (apply And.intro; (first | rfl | (simp <;> fail))))) <;> (try (conv => whnf))
  have hc0 : H c = none := by assumption
  refine (any_c m hm a ha c _ (AH.set_same _ _ _)).mono ?_
  rintro y H' ⟨rfl, rfl⟩
  (repeat' ((conv => whnf); first | refine Then.mk ?_ | refine OpsA.cons ?_ | refine OpsA.nil ?_ | refine AWq.seq ?_ | refine AWq.region ?_ | refine AWq.ret ?_ | (intro c hc; (try (simp only [AH.none_iff] at hc; repeat (have hn := hc.1; replace hc := hc.2))); (first | skip)) | (apply And.intro; (first | rfl | (simp <;> fail))))) <;> (try (conv => whnf))
  exact HLe.fresh _ hc0

set_option maxRecDepth 8000 in
theorem sides_c (n : Int) (h1 : -9223372036854775808 ≤ n) (h2 : n ≤ 9223372036854775807) (H : AH) :
    ACall Try.prog 63 [.int .i64 n] H (fun y H' => y = .bool (decide (n = 1 ∨ n = 2 ∨ n = 4 ∨ n = 8 ∨ n = 16)) ∧ H' = H) := by
  by_cases h : 0 < n ∧ n ≤ 16
  · obtain ⟨k, rfl⟩ : ∃ k : Nat, n = k := ⟨n.toNat, by omega⟩
    have key : ∀ k : Fin 17, 0 < k.val → (bitsA .and .i64 (k.val : Int) ((k.val : Int) - 1) = 0 ↔ ((k.val : Int) = 1 ∨ (k.val : Int) = 2 ∨ (k.val : Int) = 4 ∨ (k.val : Int) = 8 ∨ (k.val : Int) = 16)) := by decide +kernel
    have key := key ⟨k, by omega⟩ (by show 0 < k; omega)
    dsimp only at key
    by_cases hs : ((k : Int) = 1 ∨ (k : Int) = 2 ∨ (k : Int) = 4 ∨ (k : Int) = 8 ∨ (k : Int) = 16)
    · have hb := key.2 hs
      rw [decide_eq_true hs]
      refine ACall_of tt_ok (dok _) Try.func63 rfl (by decide) rfl ?_
      (repeat' ((conv => whnf); first | refine Then.mk ?_ | refine OpsA.cons ?_ | refine OpsA.nil ?_ | refine AWq.seq ?_ | refine AWq.region ?_ | refine AWq.ret ?_ | (refine Both.mk ?_ ?_ <;> intro hc <;> (first | exact absurd (by with_reducible rfl) hc | exact absurd hc (by assumption) | (exfalso; omega) | skip)) | (intro c hc; (try (simp only [AH.none_iff] at hc; repeat (have hn := hc.1; replace hc := hc.2))); (first | (have hc2 := Eq.trans hc (by with_reducible assumption); clear hc; subst hc2) | (refine i64_k hc ?_ ?_ ?_ ; omega; omega; (clear hc; intro hc; subst hc)) | subst hc | skip)) | (apply And.intro; (first | rfl)))) <;> (try (conv => whnf))
    · have hb : ¬ bitsA .and .i64 (k : Int) ((k : Int) - 1) = 0 := fun e => hs (key.1 e)
      rw [decide_eq_false hs]
      refine ACall_of tt_ok (dok _) Try.func63 rfl (by decide) rfl ?_
      (repeat' ((conv => whnf); first | refine Then.mk ?_ | refine OpsA.cons ?_ | refine OpsA.nil ?_ | refine AWq.seq ?_ | refine AWq.region ?_ | refine AWq.ret ?_ | (refine Both.mk ?_ ?_ <;> intro hc <;> (first | exact absurd (by with_reducible rfl) hc | exact absurd hc (by assumption) | (exfalso; omega) | skip)) | (intro c hc; (try (simp only [AH.none_iff] at hc; repeat (have hn := hc.1; replace hc := hc.2))); (first | (have hc2 := Eq.trans hc (by with_reducible assumption); clear hc; subst hc2) | (refine i64_k hc ?_ ?_ ?_ ; omega; omega; (clear hc; intro hc; subst hc)) | subst hc | skip)) | (apply And.intro; (first | rfl)))) <;> (try (conv => whnf))
  · rw [decide_eq_false (by omega)]
    refine ACall_of tt_ok (dok _) Try.func63 rfl (by decide) rfl ?_
    (repeat' ((conv => whnf); first | refine Then.mk ?_ | refine OpsA.cons ?_ | refine OpsA.nil ?_ | refine AWq.seq ?_ | refine AWq.region ?_ | refine AWq.ret ?_ | (refine Both.mk ?_ ?_ <;> intro hc <;> (first | exact absurd (by with_reducible rfl) hc | exact absurd hc (by assumption) | (exfalso; omega) | skip)) | (intro c hc; (try (simp only [AH.none_iff] at hc; repeat (have hn := hc.1; replace hc := hc.2))); (first | (have hc2 := Eq.trans hc (by with_reducible assumption); clear hc; subst hc2) | (refine i64_k hc ?_ ?_ ?_ ; omega; omega; (clear hc; intro hc; subst hc)) | subst hc | skip)) | (apply And.intro; (first | rfl)))) <;> (try (conv => whnf))

set_option maxRecDepth 8000 in
theorem line_c (m : Int) (hm : 0 ≤ m ∧ m ≤ 4611686018427387904) (a : List Int) (ha : a.length ≤ 1000000) (H : AH) :
    ACall Try.prog 37 [.cs (iS .i64 a) a.length, .int .i64 m] H (fun y H' => y = .int .i64 (if a.length < 2 ∨ a.length % 2 ≠ 0 ∨ 4096 < a.length then 1 else if inB m a then 0 else 5) ∧ H' = H) := by
  have hw := fun H => within_c m hm a ha H
  have hmod : (a.length : Int).tmod 2 = ((a.length % 2 : Nat) : Int) := by rw [Int.tmod_eq_emod_of_nonneg (by omega)]; omega
  by_cases h : a.length < 2 ∨ a.length % 2 ≠ 0 ∨ 4096 < a.length
  · rw [if_pos h]
    refine ACall_of tt_ok (dok _) Try.func37 rfl (by decide) rfl ?_
    (repeat' ((conv => whnf); first | refine Then.mk ?_ | refine OpsA.cons ?_ | refine OpsA.nil ?_ | refine AWq.seq ?_ | refine AWq.region ?_ | refine AWq.cond ?_ | refine AWq.block ?_ | refine AWq.skip ?_ | refine AWq.ret ?_ | (refine Both.mk ?_ ?_ <;> intro hc <;> (first | exact Bool.noConfusion hc | (exfalso; omega) | skip)) | (intro c hc; (try (simp only [AH.none_iff] at hc; repeat (have hn := hc.1; replace hc := hc.2))); (first | (have hc2 := Eq.trans hc (by with_reducible assumption); clear hc; subst hc2) | skip)) | (apply And.intro; (first | rfl | omega)))) <;> (try (conv => whnf))
  · rw [if_neg h]
    cases hb : inB m a with
    | true =>
      rw [hb] at hw
      refine ACall_of tt_ok (dok _) Try.func37 rfl (by decide) rfl ?_
      (repeat' ((conv => whnf); first | refine Then.mk ?_ | refine OpsA.cons ?_ | refine OpsA.nil ?_ | refine AWq.seq ?_ | refine AWq.region ?_ | refine AWq.cond ?_ | refine AWq.block ?_ | refine AWq.skip ?_ | refine AWq.ret ?_ | (refine Both.mk ?_ ?_ <;> intro hc <;> (first | exact Bool.noConfusion hc | (exfalso; omega) | skip)) | (intro c hc; (try (simp only [AH.none_iff] at hc; repeat (have hn := hc.1; replace hc := hc.2))); (first | (have hc2 := Eq.trans hc (by with_reducible assumption); clear hc; subst hc2) | skip)) | (apply And.intro; (first | rfl | omega)) | (refine ACall.to (hw _) ?_))) <;> (try (conv => whnf))
    | false =>
      rw [hb] at hw
      refine ACall_of tt_ok (dok _) Try.func37 rfl (by decide) rfl ?_
      (repeat' ((conv => whnf); first | refine Then.mk ?_ | refine OpsA.cons ?_ | refine OpsA.nil ?_ | refine AWq.seq ?_ | refine AWq.region ?_ | refine AWq.cond ?_ | refine AWq.block ?_ | refine AWq.skip ?_ | refine AWq.ret ?_ | (refine Both.mk ?_ ?_ <;> intro hc <;> (first | exact Bool.noConfusion hc | (exfalso; omega) | skip)) | (intro c hc; (try (simp only [AH.none_iff] at hc; repeat (have hn := hc.1; replace hc := hc.2))); (first | (have hc2 := Eq.trans hc (by with_reducible assumption); clear hc; subst hc2) | skip)) | (apply And.intro; (first | rfl | omega)) | (refine ACall.to (hw _) ?_))) <;> (try (conv => whnf))
open Go.Fw Go

set_option maxRecDepth 8000 in
theorem split_k (n : Nat) (hn : n ≤ 4096) (h2 : n % 2 = 0) (X : Ln) (hX : ∀ c, c < n → -2305843009213693952 ≤ X c ∧ X c ≤ 2305843009213693952) (cells : List AV) (H : AH) (hlen : cells.length = n) (hg : ∀ i, i < n → cells[i]? = some (.int .i64 (X i))) :
    ACall Try.prog 38 [.cs cells n] H (fun y H' => y = .cs (iL n (spl n X)) n ∧ H' = H) := by
  refine ACall.coldX (es := 1) (Q := fun H' => H' = H) (by rw [iL_len]; omega) ?_
  have hdiv : (n : Int).tdiv 2 = ((n / 2 : Nat) : Int) := by rw [Int.tdiv_eq_ediv_of_nonneg (by omega)]; omega
  refine ACall_of tt_ok (dok _) Try.func38 rfl (by decide) rfl ?_
  (repeat' ((conv => whnf); first | refine Then.mk ?_ | refine OpsA.cons ?_ | refine OpsA.nil ?_ | refine AWq.seq ?_ | refine AWq.region ?_ | refine AWq.cond ?_ | refine AWq.block ?_ | refine AWq.skip ?_ | refine AWq.ret ?_ | refine AWq.exit ?_ | refine AWq.loop ?_ | refine DrawA.consD ?_ | refine DrawA.nil ?_ | refine AWq.draw (by decide +kernel) ?_ | (refine Both.mk ?_ ?_ <;> intro hc <;> (first | exact Bool.noConfusion hc | (exfalso; omega) | skip)) | (intro c hc; (try (simp only [AH.none_iff] at hc; repeat (have hn := hc.1; replace hc := hc.2))); (first | (refine i64_k hc ?_ ?_ ?_ ; omega; omega; (clear hc; intro hc; subst hc)) | skip)) | (apply Exists.intro; apply And.intro; (first | (focus (repeat (first | (with_reducible assumption) | (with_reducible exact AH.set_same _ _ _))); done))) | (apply Exists.intro; apply And.intro; first | (with_reducible assumption) | ((try simp only [List.getElem?_drop, Nat.mul_one, Nat.add_zero, Nat.zero_add]); first | (with_reducible assumption) | rfl)) | (apply And.intro; (first | rfl | (with_reducible assumption) | omega | (simp <;> omega))))) <;> (try (conv => whnf))
  have hc0 : H c = none := by assumption
  obtain ⟨w, hw⟩ : ∃ w, w = c := ⟨_, rfl⟩
  rw [← hw] at hc0 ⊢
  clear hw
  refine AWp_loop (σ := Nat) (5 :: 6 :: 7 :: 15 :: 16 :: 17 :: 18 :: 19 :: 20 :: 21 :: 22 :: 23 :: 24 :: 25 :: 26 :: 27 :: 28 :: 29 :: 30 :: 31 :: 32 :: 33 :: 34 :: 35 :: 36 :: 37 :: 38 :: 39 :: 40 :: 41 :: 42 :: 43 :: 44 :: []) (fun i => [(15, .int .i64 i)]) (fun i => H.set w (.row (iL n (fun k => if k < i ∨ (n / 2 ≤ k ∧ k < n / 2 + i) then spl n X k else 0)) 0)) (fun i => i ≤ n / 2) (fun i => n / 2 - i) 0 rfl ?_ ?_ ?_ ?_
  · exact Nat.zero_le _
  · exact ⟨rfl, trivial⟩
  · refine HLe.of_eq (congrArg (fun l => H.set w (.row l 0)) ?_)
    refine Eq.trans (iL_congr fun k hk => ?_) (iL_zero n).symm
    rw [if_neg (by omega)]
  · rintro i hi
    refine AWp.of tt_ok (dok _) rfl ?_
    by_cases h : i < n / 2
    · have k1 : cells[(2 * (i : Int)).toNat]? = some (.int .i64 (X (2 * i))) := by rw [show (2 * (i : Int)).toNat = 2 * i by omega]; exact hg _ (by omega)
      have k2 : cells[(2 * (i : Int) + 1).toNat]? = some (.int .i64 (X (2 * i + 1))) := by rw [show (2 * (i : Int) + 1).toNat = 2 * i + 1 by omega]; exact hg _ (by omega)
      have b1 := hX (2 * i) (by omega)
      have b2 := hX (2 * i + 1) (by omega)
      have hh := fun H => half_c (X (2 * i) + X (2 * i + 1)) H
      have hl : ∀ Y : Ln, (iL n Y).length = n := fun Y => iL_len n Y
      (repeat' ((conv => whnf); first | refine Then.mk ?_ | refine OpsA.cons ?_ | refine OpsA.nil ?_ | refine AWq.seq ?_ | refine AWq.region ?_ | refine AWq.cond ?_ | refine AWq.block ?_ | refine AWq.skip ?_ | refine AWq.ret ?_ | refine AWq.exit ?_ | refine AWq.loop ?_ | refine DrawA.consD ?_ | refine DrawA.nil ?_ | refine AWq.draw (by decide +kernel) ?_ | (refine Both.mk ?_ ?_ <;> intro hc <;> (first | exact Bool.noConfusion hc | (exfalso; omega) | skip)) | (intro c hc; (try (simp only [AH.none_iff] at hc; repeat (have hn := hc.1; replace hc := hc.2))); (first | (refine i64_k hc ?_ ?_ ?_ ; omega; omega; (clear hc; intro hc; subst hc)) | skip)) | (apply Exists.intro; apply And.intro; (first | (focus (repeat (first | (with_reducible assumption) | (with_reducible exact AH.set_same _ _ _))); done))) | (apply Exists.intro; apply And.intro; first | (with_reducible assumption) | ((try simp only [List.getElem?_drop, Nat.mul_one, Nat.add_zero, Nat.zero_add]); first | (with_reducible assumption) | rfl)) | (apply And.intro; (first | rfl | (with_reducible assumption) | omega | (simp <;> omega))) | (refine ACall.to (hh _) ?_))) <;> (try (conv => whnf))
      refine ⟨i + 1, by omega, by omega, ⟨congrArg (AV.int .i64) (by omega), trivial⟩, HLe.of_eq (Eq.symm ((AH.set_set _ _ _ _).trans ((AH.set_set _ _ _ _).trans ?_)))⟩
      refine congrArg (fun l => H.set w (.row l 0)) ?_
      show wrA (wrA (iL n _) (0 + (i : Int).toNat * 1) [AV.int .i64 ((X (2 * i) + X (2 * i + 1)) / 2)]) (0 + ((n : Int).tdiv 2 + (i : Int)).toNat * 1) [AV.int .i64 (X (2 * i) - X (2 * i + 1))] = _
      rw [show (0 + (i : Int).toNat * 1) = i by omega, show (0 + ((n : Int).tdiv 2 + (i : Int)).toNat * 1) = n / 2 + i by omega, iL_wr _ (by omega), iL_wr _ (by omega)]
      refine iL_congr fun k hk => ?_
      by_cases e1 : k = n / 2 + i
      · subst e1
        rw [if_pos rfl, if_pos (by omega)]
        unfold spl
        rw [if_neg (by omega), show n / 2 + i - n / 2 = i by omega]
      · rw [if_neg e1]
        by_cases e2 : k = i
        · subst e2
          rw [if_pos rfl, if_pos (by omega)]
          unfold spl
          rw [if_pos h]
        · rw [if_neg e2]
          by_cases e3 : k < i ∨ (n / 2 ≤ k ∧ k < n / 2 + i)
          · rw [if_pos e3, if_pos (by omega)]
          · rw [if_neg e3, if_neg (by omega)]
    · have he : i = n / 2 := by omega
      subst he
      (repeat' ((conv => whnf); first | refine Then.mk ?_ | refine OpsA.cons ?_ | refine OpsA.nil ?_ | refine AWq.seq ?_ | refine AWq.region ?_ | refine AWq.cond ?_ | refine AWq.block ?_ | refine AWq.skip ?_ | refine AWq.ret ?_ | refine AWq.exit ?_ | refine AWq.loop ?_ | refine DrawA.consD ?_ | refine DrawA.nil ?_ | refine AWq.draw (by decide +kernel) ?_ | (refine Both.mk ?_ ?_ <;> intro hc <;> (first | exact Bool.noConfusion hc | (exfalso; omega) | skip)) | (intro c hc; (try (simp only [AH.none_iff] at hc; repeat (have hn := hc.1; replace hc := hc.2))); (first | (refine i64_k hc ?_ ?_ ?_ ; omega; omega; (clear hc; intro hc; subst hc)) | skip)) | (apply Exists.intro; apply And.intro; (first | (focus (repeat (first | (with_reducible assumption) | (with_reducible exact AH.set_same _ _ _))); done))) | (apply Exists.intro; apply And.intro; first | (with_reducible assumption) | ((try simp only [List.getElem?_drop, Nat.mul_one, Nat.add_zero, Nat.zero_add]); first | (with_reducible assumption) | rfl)) | (apply And.intro; (first | rfl | (with_reducible assumption) | omega | (simp <;> omega))))) <;> (try (conv => whnf))
      exact .inr ⟨w, hc0, 0, rfl, congrArg (fun l => H.set w (.row l 0)) (iL_congr fun k hk => if_pos (by omega))⟩

set_option maxRecDepth 8000 in
theorem split_w (n : Nat) (hn : n ≤ 4096) (h2 : n % 2 = 0) (X : Ln) (hX : ∀ c, c < n → -2305843009213693952 ≤ X c ∧ X c ≤ 2305843009213693952) (cells : List AV) (q u off : Nat) (lim : Option Nat) (H : AH) (hq : H q = some (.row cells u)) (hg : ∀ i, i < n → cells[off + i]? = some (.int .i64 (X i))) :
    ACall Try.prog 38 [.sl q u 1 off n lim] H (fun y H' => y = .cs (iL n (spl n X)) n ∧ H' = H) := by
  refine ACall.coldX (es := 1) (Q := fun H' => H' = H) (by rw [iL_len]; omega) ?_
  have hdiv : (n : Int).tdiv 2 = ((n / 2 : Nat) : Int) := by rw [Int.tdiv_eq_ediv_of_nonneg (by omega)]; omega
  refine ACall_of tt_ok (dok _) Try.func38 rfl (by decide) rfl ?_
  (repeat' ((conv => whnf); first | refine Then.mk ?_ | refine OpsA.cons ?_ | refine OpsA.nil ?_ | refine AWq.seq ?_ | refine AWq.region ?_ | refine AWq.cond ?_ | refine AWq.block ?_ | refine AWq.skip ?_ | refine AWq.ret ?_ | refine AWq.exit ?_ | refine AWq.loop ?_ | refine DrawA.consD ?_ | refine DrawA.nil ?_ | refine AWq.draw (by decide +kernel) ?_ | (refine Both.mk ?_ ?_ <;> intro hc <;> (first | exact Bool.noConfusion hc | (exfalso; omega) | skip)) | (intro c hc; (try (simp only [AH.none_iff] at hc; repeat (have hn := hc.1; replace hc := hc.2))); (first | (refine i64_k hc ?_ ?_ ?_ ; omega; omega; (clear hc; intro hc; subst hc)) | skip)) | (apply Exists.intro; apply And.intro; (first | (focus (repeat (first | (with_reducible assumption) | (with_reducible exact AH.set_same _ _ _) | ((first | refine AH.get_ne ?_ ?_); (first | (with_reducible assumption) | exact AH.ne_none (by with_reducible assumption) (by with_reducible assumption))))); done))) | (apply Exists.intro; apply And.intro; first | (with_reducible assumption) | ((try simp only [List.getElem?_drop, Nat.mul_one, Nat.add_zero, Nat.zero_add]); first | (with_reducible assumption) | rfl)) | (apply And.intro; (first | rfl | (with_reducible assumption) | omega | (simp <;> omega))))) <;> (try (conv => whnf))
  have hc0 : H c = none := by assumption
  obtain ⟨w, hw⟩ : ∃ w, w = c := ⟨_, rfl⟩
  rw [← hw] at hc0 ⊢
  clear hw
  refine AWp_loop (σ := Nat) (5 :: 6 :: 7 :: 15 :: 16 :: 17 :: 18 :: 19 :: 20 :: 21 :: 22 :: 23 :: 24 :: 25 :: 26 :: 27 :: 28 :: 29 :: 30 :: 31 :: 32 :: 33 :: 34 :: 35 :: 36 :: 37 :: 38 :: 39 :: 40 :: 41 :: 42 :: 43 :: 44 :: []) (fun i => [(15, .int .i64 i)]) (fun i => H.set w (.row (iL n (fun k => if k < i ∨ (n / 2 ≤ k ∧ k < n / 2 + i) then spl n X k else 0)) 0)) (fun i => i ≤ n / 2) (fun i => n / 2 - i) 0 rfl ?_ ?_ ?_ ?_
  · exact Nat.zero_le _
  · exact ⟨rfl, trivial⟩
  · refine HLe.of_eq (congrArg (fun l => H.set w (.row l 0)) ?_)
    refine Eq.trans (iL_congr fun k hk => ?_) (iL_zero n).symm
    rw [if_neg (by omega)]
  · rintro i hi
    refine AWp.of tt_ok (dok _) rfl ?_
    by_cases h : i < n / 2
    · have k1 : cells[off + (2 * (i : Int)).toNat]? = some (.int .i64 (X (2 * i))) := by rw [show (2 * (i : Int)).toNat = 2 * i by omega]; exact hg _ (by omega)
      have k2 : cells[off + (2 * (i : Int) + 1).toNat]? = some (.int .i64 (X (2 * i + 1))) := by rw [show (2 * (i : Int) + 1).toNat = 2 * i + 1 by omega]; exact hg _ (by omega)
      have b1 := hX (2 * i) (by omega)
      have b2 := hX (2 * i + 1) (by omega)
      have hh := fun H => half_c (X (2 * i) + X (2 * i + 1)) H
      have hl : ∀ Y : Ln, (iL n Y).length = n := fun Y => iL_len n Y
      (repeat' ((conv => whnf); first | refine Then.mk ?_ | refine OpsA.cons ?_ | refine OpsA.nil ?_ | refine AWq.seq ?_ | refine AWq.region ?_ | refine AWq.cond ?_ | refine AWq.block ?_ | refine AWq.skip ?_ | refine AWq.ret ?_ | refine AWq.exit ?_ | refine AWq.loop ?_ | refine DrawA.consD ?_ | refine DrawA.nil ?_ | refine AWq.draw (by decide +kernel) ?_ | (refine Both.mk ?_ ?_ <;> intro hc <;> (first | exact Bool.noConfusion hc | (exfalso; omega) | skip)) | (intro c hc; (try (simp only [AH.none_iff] at hc; repeat (have hn := hc.1; replace hc := hc.2))); (first | (refine i64_k hc ?_ ?_ ?_ ; omega; omega; (clear hc; intro hc; subst hc)) | skip)) | (apply Exists.intro; apply And.intro; (first | (focus (repeat (first | (with_reducible assumption) | (with_reducible exact AH.set_same _ _ _) | ((first | refine AH.get_ne ?_ ?_); (first | (with_reducible assumption) | exact AH.ne_none (by with_reducible assumption) (by with_reducible assumption))))); done))) | (apply Exists.intro; apply And.intro; first | (with_reducible assumption) | ((try simp only [List.getElem?_drop, Nat.mul_one, Nat.add_zero, Nat.zero_add]); first | (with_reducible assumption) | rfl)) | (apply And.intro; (first | rfl | (with_reducible assumption) | omega | (simp <;> omega))) | (refine ACall.to (hh _) ?_))) <;> (try (conv => whnf))
      refine ⟨i + 1, by omega, by omega, ⟨congrArg (AV.int .i64) (by omega), trivial⟩, HLe.of_eq (Eq.symm ((AH.set_set _ _ _ _).trans ((AH.set_set _ _ _ _).trans ?_)))⟩
      refine congrArg (fun l => H.set w (.row l 0)) ?_
      show wrA (wrA (iL n _) (0 + (i : Int).toNat * 1) [AV.int .i64 ((X (2 * i) + X (2 * i + 1)) / 2)]) (0 + ((n : Int).tdiv 2 + (i : Int)).toNat * 1) [AV.int .i64 (X (2 * i) - X (2 * i + 1))] = _
      rw [show (0 + (i : Int).toNat * 1) = i by omega, show (0 + ((n : Int).tdiv 2 + (i : Int)).toNat * 1) = n / 2 + i by omega, iL_wr _ (by omega), iL_wr _ (by omega)]
      refine iL_congr fun k hk => ?_
      by_cases e1 : k = n / 2 + i
      · subst e1
        rw [if_pos rfl, if_pos (by omega)]
        unfold spl
        rw [if_neg (by omega), show n / 2 + i - n / 2 = i by omega]
      · rw [if_neg e1]
        by_cases e2 : k = i
        · subst e2
          rw [if_pos rfl, if_pos (by omega)]
          unfold spl
          rw [if_pos h]
        · rw [if_neg e2]
          by_cases e3 : k < i ∨ (n / 2 ≤ k ∧ k < n / 2 + i)
          · rw [if_pos e3, if_pos (by omega)]
          · rw [if_neg e3, if_neg (by omega)]
    · have he : i = n / 2 := by omega
      subst he
      (repeat' ((conv => whnf); first | refine Then.mk ?_ | refine OpsA.cons ?_ | refine OpsA.nil ?_ | refine AWq.seq ?_ | refine AWq.region ?_ | refine AWq.cond ?_ | refine AWq.block ?_ | refine AWq.skip ?_ | refine AWq.ret ?_ | refine AWq.exit ?_ | refine AWq.loop ?_ | refine DrawA.consD ?_ | refine DrawA.nil ?_ | refine AWq.draw (by decide +kernel) ?_ | (refine Both.mk ?_ ?_ <;> intro hc <;> (first | exact Bool.noConfusion hc | (exfalso; omega) | skip)) | (intro c hc; (try (simp only [AH.none_iff] at hc; repeat (have hn := hc.1; replace hc := hc.2))); (first | (refine i64_k hc ?_ ?_ ?_ ; omega; omega; (clear hc; intro hc; subst hc)) | skip)) | (apply Exists.intro; apply And.intro; (first | (focus (repeat (first | (with_reducible assumption) | (with_reducible exact AH.set_same _ _ _) | ((first | refine AH.get_ne ?_ ?_); (first | (with_reducible assumption) | exact AH.ne_none (by with_reducible assumption) (by with_reducible assumption))))); done))) | (apply Exists.intro; apply And.intro; first | (with_reducible assumption) | ((try simp only [List.getElem?_drop, Nat.mul_one, Nat.add_zero, Nat.zero_add]); first | (with_reducible assumption) | rfl)) | (apply And.intro; (first | rfl | (with_reducible assumption) | omega | (simp <;> omega))))) <;> (try (conv => whnf))
      exact .inr ⟨w, hc0, 0, rfl, congrArg (fun l => H.set w (.row l 0)) (iL_congr fun k hk => if_pos (by omega))⟩

set_option maxRecDepth 8000 in
theorem join_w (n : Nat) (hn : n ≤ 4096) (h2 : n % 2 = 0) (X : Ln) (hX : ∀ c, c < n → -1152921504606846976 ≤ X c ∧ X c ≤ 1152921504606846976) (cells : List AV) (q u off : Nat) (lim : Option Nat) (H : AH) (hq : H q = some (.row cells u)) (hg : ∀ i, i < n → cells[off + i]? = some (.int .i64 (X i))) :
    ACall Try.prog 90 [.sl q u 1 off n lim] H (fun y H' => y = .cs (iL n (joi n X)) n ∧ H' = H) := by
  refine ACall.coldX (es := 1) (Q := fun H' => H' = H) (by rw [iL_len]; omega) ?_
  have hdiv : (n : Int).tdiv 2 = ((n / 2 : Nat) : Int) := by rw [Int.tdiv_eq_ediv_of_nonneg (by omega)]; omega
  refine ACall_of tt_ok (dok _) Try.func90 rfl (by decide) rfl ?_
  (repeat' ((conv => whnf); first | refine Then.mk ?_ | refine OpsA.cons ?_ | refine OpsA.nil ?_ | refine AWq.seq ?_ | refine AWq.region ?_ | refine AWq.cond ?_ | refine AWq.block ?_ | refine AWq.skip ?_ | refine AWq.ret ?_ | refine AWq.exit ?_ | refine AWq.loop ?_ | refine DrawA.consD ?_ | refine DrawA.nil ?_ | refine AWq.draw (by decide +kernel) ?_ | (refine Both.mk ?_ ?_ <;> intro hc <;> (first | exact Bool.noConfusion hc | (exfalso; omega) | skip)) | (intro c hc; (try (simp only [AH.none_iff] at hc; repeat (have hn := hc.1; replace hc := hc.2))); (first | (refine i64_k hc ?_ ?_ ?_ ; omega; omega; (clear hc; intro hc; subst hc)) | skip)) | (apply Exists.intro; apply And.intro; (first | (focus (repeat (first | (with_reducible assumption) | (with_reducible exact AH.set_same _ _ _) | ((first | refine AH.get_ne ?_ ?_); (first | (with_reducible assumption) | exact AH.ne_none (by with_reducible assumption) (by with_reducible assumption))))); done))) | (apply Exists.intro; apply And.intro; first | (with_reducible assumption) | ((try simp only [List.getElem?_drop, Nat.mul_one, Nat.add_zero, Nat.zero_add]); first | (with_reducible assumption) | rfl)) | (apply And.intro; (first | rfl | (with_reducible assumption) | omega | (simp <;> omega))))) <;> (try (conv => whnf))
  have hc0 : H c = none := by assumption
  obtain ⟨w, hw⟩ : ∃ w, w = c := ⟨_, rfl⟩
  rw [← hw] at hc0 ⊢
  clear hw
  refine AWp_loop (σ := Nat) (5 :: 6 :: 14 :: 15 :: 16 :: 17 :: 18 :: 19 :: 20 :: 21 :: 22 :: 23 :: 24 :: 25 :: 26 :: 27 :: 28 :: 29 :: 30 :: 31 :: 32 :: 33 :: 34 :: 35 :: 36 :: 37 :: 38 :: 39 :: 40 :: 41 :: 42 :: 43 :: 44 :: 45 :: 46 :: 47 :: 48 :: []) (fun i => [(14, .int .i64 i)]) (fun i => H.set w (.row (iL n (fun k => if k < 2 * i then joi n X k else 0)) 0)) (fun i => i ≤ n / 2) (fun i => n / 2 - i) 0 rfl ?_ ?_ ?_ ?_
  · exact Nat.zero_le _
  · exact ⟨rfl, trivial⟩
  · refine HLe.of_eq (congrArg (fun l => H.set w (.row l 0)) ?_)
    refine Eq.trans (iL_congr fun k hk => ?_) (iL_zero n).symm
    rw [if_neg (by omega)]
  · rintro i hi
    refine AWp.of tt_ok (dok _) rfl ?_
    by_cases h : i < n / 2
    · have k1 : cells[off + (i : Int).toNat]? = some (.int .i64 (X i)) := by rw [Int.toNat_natCast]; exact hg _ (by omega)
      have k2 : cells[off + ((n : Int).tdiv 2 + (i : Int)).toNat]? = some (.int .i64 (X (n / 2 + i))) := by rw [show ((n : Int).tdiv 2 + (i : Int)).toNat = n / 2 + i by omega]; exact hg _ (by omega)
      have b1 := hX i (by omega)
      have b2 := hX (n / 2 + i) (by omega)
      have hh := fun H => half_c (X (n / 2 + i) + 1) H
      have hl : ∀ Y : Ln, (iL n Y).length = n := fun Y => iL_len n Y
      (repeat' ((conv => whnf); first | refine Then.mk ?_ | refine OpsA.cons ?_ | refine OpsA.nil ?_ | refine AWq.seq ?_ | refine AWq.region ?_ | refine AWq.cond ?_ | refine AWq.block ?_ | refine AWq.skip ?_ | refine AWq.ret ?_ | refine AWq.exit ?_ | refine AWq.loop ?_ | refine DrawA.consD ?_ | refine DrawA.nil ?_ | refine AWq.draw (by decide +kernel) ?_ | (apply Exists.intro; apply And.intro; exact hh _) | (refine Both.mk ?_ ?_ <;> intro hc <;> (first | exact Bool.noConfusion hc | (exfalso; omega) | skip)) | (intro c hc; (try (simp only [AH.none_iff] at hc; repeat (have hn := hc.1; replace hc := hc.2))); (first | (refine i64_k hc ?_ ?_ ?_ ; omega; omega; (clear hc; intro hc; subst hc)) | skip)) | (apply Exists.intro; apply And.intro; (first | (focus (repeat (first | (with_reducible assumption) | (with_reducible exact AH.set_same _ _ _) | ((first | refine AH.get_ne ?_ ?_); (first | (with_reducible assumption) | exact AH.ne_none (by with_reducible assumption) (by with_reducible assumption))))); done))) | (apply Exists.intro; apply And.intro; first | (with_reducible assumption) | ((try simp only [List.getElem?_drop, Nat.mul_one, Nat.add_zero, Nat.zero_add]); first | (with_reducible assumption) | rfl)) | (apply And.intro; (first | rfl | (with_reducible assumption) | omega | (simp <;> omega))))) <;> (try (conv => whnf))
      refine ⟨i + 1, by omega, by omega, ⟨congrArg (AV.int .i64) (by omega), trivial⟩, HLe.of_eq (Eq.symm ((AH.set_set _ _ _ _).trans ((AH.set_set _ _ _ _).trans ?_)))⟩
      refine congrArg (fun l => H.set w (.row l 0)) ?_
      show wrA (wrA (iL n _) (0 + (2 * (i : Int)).toNat * 1) [AV.int .i64 (X i + (X (n / 2 + i) + 1) / 2)]) (0 + (2 * (i : Int) + 1).toNat * 1) [AV.int .i64 (X i + (X (n / 2 + i) + 1) / 2 - X (n / 2 + i))] = _
      rw [show (0 + (2 * (i : Int)).toNat * 1) = 2 * i by omega, show (0 + (2 * (i : Int) + 1).toNat * 1) = 2 * i + 1 by omega, iL_wr _ (by omega), iL_wr _ (by omega)]
      refine iL_congr fun k hk => ?_
      by_cases e1 : k = 2 * i + 1
      · subst e1
        rw [if_pos rfl, if_pos (by omega)]
        unfold joi
        rw [if_neg (by omega), show (2 * i + 1) / 2 = i by omega]
      · rw [if_neg e1]
        by_cases e2 : k = 2 * i
        · subst e2
          rw [if_pos rfl, if_pos (by omega)]
          unfold joi
          rw [if_pos (by omega), show 2 * i / 2 = i by omega]
        · rw [if_neg e2]
          by_cases e3 : k < 2 * i
          · rw [if_pos e3, if_pos (by omega)]
          · rw [if_neg e3, if_neg (by omega)]
    · have he : i = n / 2 := by omega
      subst he
      (repeat' ((conv => whnf); first | refine Then.mk ?_ | refine OpsA.cons ?_ | refine OpsA.nil ?_ | refine AWq.seq ?_ | refine AWq.region ?_ | refine AWq.cond ?_ | refine AWq.block ?_ | refine AWq.skip ?_ | refine AWq.ret ?_ | refine AWq.exit ?_ | refine AWq.loop ?_ | refine DrawA.consD ?_ | refine DrawA.nil ?_ | refine AWq.draw (by decide +kernel) ?_ | (refine Both.mk ?_ ?_ <;> intro hc <;> (first | exact Bool.noConfusion hc | (exfalso; omega) | skip)) | (intro c hc; (try (simp only [AH.none_iff] at hc; repeat (have hn := hc.1; replace hc := hc.2))); (first | (refine i64_k hc ?_ ?_ ?_ ; omega; omega; (clear hc; intro hc; subst hc)) | skip)) | (apply Exists.intro; apply And.intro; (first | (focus (repeat (first | (with_reducible assumption) | (with_reducible exact AH.set_same _ _ _) | ((first | refine AH.get_ne ?_ ?_); (first | (with_reducible assumption) | exact AH.ne_none (by with_reducible assumption) (by with_reducible assumption))))); done))) | (apply Exists.intro; apply And.intro; first | (with_reducible assumption) | ((try simp only [List.getElem?_drop, Nat.mul_one, Nat.add_zero, Nat.zero_add]); first | (with_reducible assumption) | rfl)) | (apply And.intro; (first | rfl | (with_reducible assumption) | omega | (simp <;> omega))))) <;> (try (conv => whnf))
      exact .inr ⟨w, hc0, 0, rfl, congrArg (fun l => H.set w (.row l 0)) (iL_congr fun k hk => if_pos (by omega))⟩

def resV (R : List Int × Int) : AV := .tup [.cs (iS .i64 R.1) R.1.length, .int .i64 R.2]
def spL (a : List Int) : List Int := lnL a.length (spl a.length fun c => a.getD c 0)
def lineR (m : Int) (f : List Int → List Int) (a : List Int) : List Int × Int := if a.length < 2 ∨ a.length % 2 ≠ 0 ∨ 4096 < a.length then ([], 1) else if inB m a = true then (f a, 0) else ([], 5)

theorem inB_getD {m : Int} {a : List Int} (hm : 0 ≤ m) (h : inB m a = true) (c : Nat) : -m ≤ a.getD c 0 ∧ a.getD c 0 ≤ m := by
  by_cases hc : c < a.length
  · have : a.getD c 0 = a[c] := by simp [hc]
    rw [this]; exact inB_iff.1 h _ (List.getElem_mem hc)
  · rw [List.getD_eq_getElem?_getD, List.getElem?_eq_none (by omega)]; simp; omega

theorem split_l (a : List Int) (h1 : a.length ≤ 4096) (h2 : a.length % 2 = 0) (h : inB 1099511627776 a = true) (H : AH) : ACall Try.prog 38 [.cs (iS .i64 a) a.length] H (fun y H' => y = .cs (iS .i64 (spL a)) (spL a).length ∧ H' = H) := by
  have := split_k a.length h1 h2 (fun c => a.getD c 0) (fun c _ => by have := inB_getD (by omega) h c; omega) (iS .i64 a) H (by simp) (fun i hi => iS_get hi)
  rw [show (spL a).length = a.length from lnL_len _ _]
  exact this
theorem res_told {H : AH} {e : Int} {R : List Int × Int} (h : R = ([], e)) : ∃ y' H2, AVle (.tup [.nils, .int .i64 e]) y' ∧ HLe H2 H ∧ y' = resV R ∧ H2 = H :=
  ⟨resV R, H, by rw [h]; exact AVle.tup (AVles.cons AVle.nils (AVles.refl _)), HLe.refl _, rfl, rfl⟩
theorem res_ok {H : AH} {l : List Int} {R : List Int × Int} (h : R = (l, 0)) : ∃ y' H2, AVle (.tup [.cs (iS .i64 l) l.length, .int .i64 0]) y' ∧ HLe H2 H ∧ y' = resV R ∧ H2 = H :=
  ⟨resV R, H, by rw [h]; exact AVle.refl _, HLe.refl _, rfl, rfl⟩

set_option maxRecDepth 8000 in
theorem Step_c (a : List Int) (hn : a.length ≤ 1000000) (H : AH) : ACall Try.prog 14 [.cs (iS .i64 a) a.length] H (fun y H' => y = resV (lineR 1099511627776 spL a) ∧ H' = H) := by
  have hw := fun H => line_c 1099511627776 (by omega) a hn H
  obtain ⟨R, hR⟩ : ∃ R, R = lineR 1099511627776 spL a := ⟨_, rfl⟩
  rw [← hR]
  unfold lineR at hR
  refine ACall.told ?_
  by_cases h : a.length < 2 ∨ a.length % 2 ≠ 0 ∨ 4096 < a.length
  · simp only [if_pos h] at hw hR
    refine ACall_of tt_ok (dok _) Try.func14 rfl (by decide) rfl ?_
    (repeat' ((conv => whnf); first | refine Then.mk ?_ | refine OpsA.cons ?_ | refine OpsA.nil ?_ | refine AWq.seq ?_ | refine AWq.region ?_ | refine AWq.cond ?_ | refine AWq.skip ?_ | refine AWq.ret ?_ | (refine Both.mk ?_ ?_ <;> intro hc <;> (first | exact Bool.noConfusion hc | exact absurd (by with_reducible rfl) hc | (exfalso; omega) | skip)) | (apply And.intro; (first | rfl)) | (refine ACall.to (hw _) ?_))) <;> (try (conv => whnf))
    exact res_told hR
  · simp only [if_neg h] at hw hR
    by_cases hb : inB 1099511627776 a = true
    · simp only [if_pos hb] at hw hR
      have hs := fun H => split_l a (by omega) (by omega) hb H
      refine ACall_of tt_ok (dok _) Try.func14 rfl (by decide) rfl ?_
      (repeat' ((conv => whnf); first | refine Then.mk ?_ | refine OpsA.cons ?_ | refine OpsA.nil ?_ | refine AWq.seq ?_ | refine AWq.region ?_ | refine AWq.cond ?_ | refine AWq.skip ?_ | refine AWq.ret ?_ | (refine Both.mk ?_ ?_ <;> intro hc <;> (first | exact Bool.noConfusion hc | exact absurd (by with_reducible rfl) hc | (exfalso; omega) | skip)) | (apply And.intro; (first | rfl)) | (refine ACall.to (hw _) ?_) | (refine ACall.to (hs _) ?_))) <;> (try (conv => whnf))
      exact res_ok hR
    · simp only [if_neg hb] at hw hR
      refine ACall_of tt_ok (dok _) Try.func14 rfl (by decide) rfl ?_
      (repeat' ((conv => whnf); first | refine Then.mk ?_ | refine OpsA.cons ?_ | refine OpsA.nil ?_ | refine AWq.seq ?_ | refine AWq.region ?_ | refine AWq.cond ?_ | refine AWq.skip ?_ | refine AWq.ret ?_ | (refine Both.mk ?_ ?_ <;> intro hc <;> (first | exact Bool.noConfusion hc | exact absurd (by with_reducible rfl) hc | (exfalso; omega) | skip)) | (apply And.intro; (first | rfl)) | (refine ACall.to (hw _) ?_))) <;> (try (conv => whnf))
      exact res_told hR

open Go.Fw Go

def mL (s : Nat) (M : Mat) : List AV := iS .i64 (toL s M)
@[simp] theorem mL_len (s : Nat) (M : Mat) : (mL s M).length = s * s := by simp [mL, toL_len]
theorem mL_get {s : Nat} (M : Mat) {r c : Nat} (hr : r < s) (hc : c < s) : (mL s M)[r * s + c]? = some (.int .i64 (M r c)) := by
  unfold mL iS
  rw [List.getElem?_map, toL_get M hr hc]; rfl
theorem mL_put {s n i : Nat} (M : Mat) (x : Ln) (hi : i < s) (hn : n ≤ s) : wrA (mL s M) (i * s) (iL n x) = mL s (fun r c => if r = i ∧ c < n then x c else M r c) := by
  unfold wrA mL iL
  rw [← toL_put M x hi hn, iS_length, lnL_len, iS_take, iS_drop, iS_append, iS_append]
theorem mL_set {s : Nat} (M : Mat) {r c : Nat} (hr : r < s) (hc : c < s) (v : Int) : wrA (mL s M) (r * s + c) [.int .i64 v] = mL s (updM M r c v) := by
  unfold mL
  rw [iS_wr (by rw [toL_len]; exact (place hr hc).1), toL_set M hr hc]

structure LnF (g : FuncId) (f : Nat → Ln → Ln) (n : Nat) (B : Int) : Prop where
  w : ∀ (X : Ln), (∀ c, c < n → -B ≤ X c ∧ X c ≤ B) → ∀ (cells : List AV) (q u off : Nat) (lim : Option Nat) (H : AH), H q = some (.row cells u) → (∀ i, i < n → cells[off + i]? = some (.int .i64 (X i))) →
    ACall Try.prog g [.sl q u 1 off n lim] H (fun y H' => y = .cs (iL n (f n X)) n ∧ H' = H)

set_option maxRecDepth 8000 in
theorem rows_c {g : FuncId} {f : Nat → Ln → Ln} {s n : Nat} {B : Int} (hs : s ≤ 16) (hn : n ≤ s) (hf : LnF g f n B) (M : Mat) (hM : ∀ r c, r < s → c < s → -B ≤ M r c ∧ M r c ≤ B) (q u : Nat) (H : AH) (hq : H q = some (.row (mL s M) u)) :
    ACall Try.prog 88 [.agg [.int .i64 s, .sl q u 1 0 (s * s) none], .int .i64 n, .fn (.func g) [] []] H (fun y H' => y = .tup [] ∧ H' = H.set q (.row (mL s (rowsM f n M)) u)) := by
  refine ACall.told ?_
  refine ACall_of tt_ok (dok _) Try.func88 rfl (by decide) rfl ?_
  (repeat' ((conv => whnf); first | refine Then.mk ?_ | refine OpsA.cons ?_ | refine OpsA.nil ?_ | refine AWq.seq ?_ | refine AWq.region ?_ | refine AWq.cond ?_ | refine AWq.block ?_ | refine AWq.skip ?_ | refine AWq.exit ?_ | refine AWq.loop ?_ | (refine Both.mk ?_ ?_ <;> intro hc <;> (first | exact Bool.noConfusion hc | (exfalso; omega) | skip)) | (intro c hc; (try (simp only [AH.none_iff] at hc; repeat (have hn := hc.1; replace hc := hc.2))); (first | (refine i64_k hc ?_ ?_ ?_ ; omega; omega; (clear hc; intro hc; subst hc)) | skip)) | (apply Exists.intro; apply And.intro; (first | (focus (repeat (first | (with_reducible assumption) | (with_reducible exact AH.set_same _ _ _) | ((first | refine AH.get_ne ?_ ?_); (first | (with_reducible assumption) | exact Ne.symm (by with_reducible assumption))))); done))) | (apply Exists.intro; apply And.intro; first | (with_reducible assumption) | ((try simp only [List.getElem?_drop, Nat.mul_one, Nat.add_zero, Nat.zero_add]); first | (with_reducible assumption) | rfl)) | (apply And.intro; (first | rfl | (with_reducible assumption) | omega | (simp <;> fail) | (focus (repeat' (first | (with_reducible assumption) | exact one_iS _ _ | rfl)); done))))) <;> (try (conv => whnf))
  have hc0 : H c = none := by assumption
  have hcq : q ≠ c := AH.ne_none hc0 hq
  obtain ⟨w, hw⟩ : ∃ w, w = c := ⟨_, rfl⟩
  rw [← hw] at hc0 hcq ⊢
  clear hw
  refine AWp_loop (σ := Nat) (6 :: 7 :: 9 :: 10 :: 11 :: 12 :: 13 :: 14 :: 15 :: 16 :: 17 :: 18 :: 19 :: 20 :: 21 :: 22 :: 23 :: 24 :: 25 :: 26 :: 27 :: 28 :: 29 :: 30 :: []) (fun i => [(9, .int .i64 i)]) (fun i => (AH.set H w (.row [.int .i64 s, .sl q u 1 0 (s * s) none] 0)).set q (.row (mL s (rowsI f n i M)) u)) (fun i => i ≤ n) (fun i => n - i) 0 rfl ?_ ?_ ?_ ?_
  · exact Nat.zero_le _
  · exact ⟨rfl, trivial⟩
  · refine HLe.of_eq (AH.set_id ?_)
    rw [AH.set_ne _ _ hcq, hq]
    refine congrArg (fun l => some (AO.row (iS .i64 l) u)) (toL_congr fun r c _ _ => ?_)
    unfold rowsI
    rw [if_neg (by omega)]
  · rintro i hi
    refine AWp.of tt_ok (dok _) rfl ?_
    by_cases h : i < n
    · have p1 : 0 ≤ (i : Int) * s := Int.mul_nonneg (by omega) (by omega)
      have p2 : (i : Int) * s + n ≤ ((s * s : Nat) : Int) := by
        have : (i + 1) * s ≤ s * s := Nat.mul_le_mul_right _ (by omega)
        rw [Nat.add_mul] at this
        rw [← Int.natCast_mul]; omega
      have p3 : s * s ≤ 256 := Nat.mul_le_mul hs hs
      have p4 : ((i : Int) * s).toNat = i * s := by rw [← Int.natCast_mul]; rfl
      have e1 : ((i : Int) * s + n).toNat - ((i : Int) * s).toNat = n := by omega
      have hl := mL_len s (rowsI f n i M)
      (repeat' ((conv => whnf); first | refine Then.mk ?_ | refine OpsA.cons ?_ | refine OpsA.nil ?_ | refine AWq.seq ?_ | refine AWq.region ?_ | refine AWq.cond ?_ | refine AWq.block ?_ | refine AWq.skip ?_ | refine AWq.exit ?_ | refine AWq.loop ?_ | (refine Both.mk ?_ ?_ <;> intro hc <;> (first | exact Bool.noConfusion hc | (exfalso; omega) | skip)) | (intro c hc; (try (simp only [AH.none_iff] at hc; repeat (have hn := hc.1; replace hc := hc.2))); (first | (refine i64_k hc ?_ ?_ ?_ ; omega; omega; (clear hc; intro hc; subst hc)) | skip)) | (apply Exists.intro; apply And.intro; (first | (focus (repeat (first | (with_reducible assumption) | (with_reducible exact AH.set_same _ _ _) | ((first | refine AH.get_ne ?_ ?_); (first | (with_reducible assumption) | exact Ne.symm (by with_reducible assumption))))); done))) | (apply Exists.intro; apply And.intro; first | (with_reducible assumption) | ((try simp only [List.getElem?_drop, Nat.mul_one, Nat.add_zero, Nat.zero_add]); first | (with_reducible assumption) | rfl)) | (apply And.intro; (first | rfl | (with_reducible assumption) | omega | (simp <;> fail) | (focus (repeat' (first | (with_reducible assumption) | exact one_iS _ _ | rfl)); done))))) <;> (try (conv => whnf))
      have e2 : 0 + ((i : Int) * s).toNat * 1 = i * s := by omega
      rw [e1, e2]
      refine ACall.to (hf.w (M i) (fun c hc => hM i c (by omega) (by omega)) (mL s (rowsI f n i M)) q u (i * s) none _ (AH.set_same _ _ _) (fun c hc => ?_)) ?_
      · rw [mL_get _ (by omega) (by omega)]
        unfold rowsI
        rw [if_neg (by omega)]
      (repeat' ((conv => whnf); first | refine Then.mk ?_ | refine OpsA.cons ?_ | refine OpsA.nil ?_ | refine AWq.seq ?_ | refine AWq.region ?_ | refine AWq.cond ?_ | refine AWq.block ?_ | refine AWq.skip ?_ | refine AWq.exit ?_ | refine AWq.loop ?_ | (refine Both.mk ?_ ?_ <;> intro hc <;> (first | exact Bool.noConfusion hc | (exfalso; omega) | skip)) | (intro c hc; (try (simp only [AH.none_iff] at hc; repeat (have hn := hc.1; replace hc := hc.2))); (first | (refine i64_k hc ?_ ?_ ?_ ; omega; omega; (clear hc; intro hc; subst hc)) | skip)) | (apply Exists.intro; apply And.intro; (first | (focus (repeat (first | (with_reducible assumption) | (with_reducible exact AH.set_same _ _ _) | ((first | refine AH.get_ne ?_ ?_); (first | (with_reducible assumption) | exact Ne.symm (by with_reducible assumption))))); done))) | (apply Exists.intro; apply And.intro; first | (with_reducible assumption) | ((try simp only [List.getElem?_drop, Nat.mul_one, Nat.add_zero, Nat.zero_add]); first | (with_reducible assumption) | rfl)) | (apply And.intro; (first | rfl | (with_reducible assumption) | omega | (simp <;> fail) | (focus (repeat' (first | (with_reducible assumption) | exact one_iS _ _ | rfl)); done))))) <;> (try (conv => whnf))
      refine ⟨i + 1, by omega, by omega, ⟨congrArg (AV.int .i64) (by omega), trivial⟩, HLe.of_eq (Eq.symm ((AH.set_set _ _ _ _).trans ?_))⟩
      refine congrArg (fun l => AH.set (AH.set H w _) q (.row l u)) ?_
      show wrA (mL s (rowsI f n i M)) (i * s) (List.take (Nat.min n n * 1) (iL n (f n (M i)))) = _
      rw [show Nat.min n n = n from Nat.min_self n, List.take_of_length_le (by simp), mL_put _ _ (by omega) hn]
      refine congrArg (iS .i64) (toL_congr fun r c hr hc => ?_)
      unfold rowsI
      by_cases c1 : r = i ∧ c < n
      · rw [if_pos c1, if_pos (by omega), c1.1]
      · rw [if_neg c1]
        by_cases c2 : r < i ∧ c < n
        · rw [if_pos c2, if_pos (by omega)]
        · rw [if_neg c2, if_neg (by omega)]
    · have he : i = n := by omega
      subst he
      (repeat' ((conv => whnf); first | refine Then.mk ?_ | refine OpsA.cons ?_ | refine OpsA.nil ?_ | refine AWq.seq ?_ | refine AWq.region ?_ | refine AWq.cond ?_ | refine AWq.block ?_ | refine AWq.skip ?_ | refine AWq.exit ?_ | refine AWq.loop ?_ | (refine Both.mk ?_ ?_ <;> intro hc <;> (first | exact Bool.noConfusion hc | (exfalso; omega) | skip)) | (intro c hc; (try (simp only [AH.none_iff] at hc; repeat (have hn := hc.1; replace hc := hc.2))); (first | (refine i64_k hc ?_ ?_ ?_ ; omega; omega; (clear hc; intro hc; subst hc)) | skip)) | (apply Exists.intro; apply And.intro; (first | (focus (repeat (first | (with_reducible assumption) | (with_reducible exact AH.set_same _ _ _) | ((first | refine AH.get_ne ?_ ?_); (first | (with_reducible assumption) | exact Ne.symm (by with_reducible assumption))))); done))) | (apply Exists.intro; apply And.intro; first | (with_reducible assumption) | ((try simp only [List.getElem?_drop, Nat.mul_one, Nat.add_zero, Nat.zero_add]); first | (with_reducible assumption) | rfl)) | (apply And.intro; (first | rfl | (with_reducible assumption) | omega | (simp <;> fail) | (focus (repeat' (first | (with_reducible assumption) | exact one_iS _ _ | rfl)); done))))) <;> (try (conv => whnf))
      exact ⟨_, _, AVle.refl _, HLe.set (HLe.fresh _ hc0) _ _, rfl, rfl⟩

set_option maxRecDepth 8000 in
theorem columns_c {g : FuncId} {f : Nat → Ln → Ln} {s n : Nat} {B : Int} (hs : s ≤ 16) (hn : n ≤ s) (hf : LnF g f n B) (M : Mat) (hM : ∀ r c, r < s → c < s → -B ≤ M r c ∧ M r c ≤ B) (q u : Nat) (H : AH) (hq : H q = some (.row (mL s M) u)) :
    ACall Try.prog 89 [.agg [.int .i64 s, .sl q u 1 0 (s * s) none], .int .i64 n, .fn (.func g) [] []] H (fun y H' => y = .tup [] ∧ H' = H.set q (.row (mL s (colsM f n M)) u)) := by
  refine ACall.told ?_
  have hss : s * s ≤ 256 := Nat.mul_le_mul hs hs
  refine ACall_of tt_ok (dok _) Try.func89 rfl (by decide) rfl ?_
  (repeat' ((conv => whnf); first | refine Then.mk ?_ | refine OpsA.cons ?_ | refine OpsA.nil ?_ | refine AWq.seq ?_ | refine AWq.region ?_ | refine AWq.cond ?_ | refine AWq.block ?_ | refine AWq.skip ?_ | refine AWq.exit ?_ | refine AWq.loop ?_ | (refine Both.mk ?_ ?_ <;> intro hc <;> (first | exact Bool.noConfusion hc | (exfalso; omega) | skip)) | (intro c hc; (try (simp only [AH.none_iff] at hc; repeat (have hn := hc.1; replace hc := hc.2))); (first | (refine i64_k hc ?_ ?_ ?_ ; omega; omega; (clear hc; intro hc; subst hc)) | skip)) | (apply Exists.intro; apply And.intro; (first | (focus (repeat (first | (with_reducible assumption) | (with_reducible exact AH.set_same _ _ _) | ((first | refine AH.get_ne ?_ ?_); (first | (with_reducible assumption) | exact Ne.symm (by with_reducible assumption))))); done))) | (apply Exists.intro; apply And.intro; first | (with_reducible assumption) | ((try simp only [List.getElem?_drop, Nat.mul_one, Nat.add_zero, Nat.zero_add]); first | (with_reducible assumption) | rfl)) | (apply And.intro; (first | rfl | (with_reducible assumption) | omega | (simp <;> omega))))) <;> (try (conv => whnf))
  have hcc : H c = none := by assumption
  have hqc : q ≠ c := AH.ne_none hcc hq
  obtain ⟨t, ht⟩ : ∃ t, t = c := ⟨_, rfl⟩
  rw [← ht] at hcc hqc ⊢
  rename_i w0 hw0
  have hww : H w0 = none := by assumption
  have hqw : q ≠ w0 := AH.ne_none hww hq
  have htw : t ≠ w0 := by rw [ht]; assumption
  obtain ⟨w, hw⟩ : ∃ w, w = w0 := ⟨_, rfl⟩
  rw [← hw] at hww hqw htw ⊢
  clear ht hw
  refine AWp_loop (σ := Nat × Ln) (7 :: 8 :: 9 :: 10 :: 14 :: 15 :: 16 :: 17 :: 18 :: 19 :: 20 :: 21 :: 22 :: 23 :: 24 :: 25 :: 26 :: 27 :: 28 :: 29 :: 30 :: 31 :: 32 :: 33 :: 34 :: 35 :: 36 :: 37 :: 38 :: 39 :: 40 :: 41 :: 42 :: 43 :: 44 :: 45 :: 46 :: 47 :: 48 :: 49 :: 50 :: 51 :: 52 :: 53 :: 54 :: 55 :: []) (fun (k, Y) => [(14, .int .i64 k)]) (fun (k, Y) => ((AH.set H w (.row [.int .i64 s, .sl q u 1 0 (s * s) none] 0)).set t (.row (iL n Y) 0)).set q (.row (mL s (colsI f n k M)) u)) (fun (k, Y) => k ≤ n) (fun (k, Y) => n - k) (0, fun _ => 0) rfl ?_ ?_ ?_ ?_
  · exact Nat.zero_le _
  · exact ⟨rfl, trivial⟩
  · refine HLe.of_eq ?_
    have e : mL s (colsI f n 0 M) = mL s M := congrArg (iS .i64) (toL_congr fun r c _ _ => by unfold colsI; rw [if_neg (by omega)])
    show ((AH.set H w (.row [.int .i64 s, .sl q u 1 0 (s * s) none] 0)).set t (.row (iL n fun _ => 0) 0)).set q (.row (mL s (colsI f n 0 M)) u) = _
    rw [e, ← iL_zero]
    refine AH.set_id ?_
    rw [AH.set_ne _ _ hqc, AH.set_ne _ _ hqw, hq]
  · rintro ⟨k, Y⟩ hk
    dsimp only at hk ⊢
    refine AWp.of tt_ok (dok _) rfl ?_
    by_cases h : k < n
    · (repeat' ((conv => whnf); first | refine Then.mk ?_ | refine OpsA.cons ?_ | refine OpsA.nil ?_ | refine AWq.seq ?_ | refine AWq.region ?_ | refine AWq.cond ?_ | refine AWq.block ?_ | refine AWq.skip ?_ | refine AWq.exit ?_ | refine AWq.loop ?_ | (refine Both.mk ?_ ?_ <;> intro hc <;> (first | exact Bool.noConfusion hc | (exfalso; omega) | skip)) | (intro c hc; (try (simp only [AH.none_iff] at hc; repeat (have hn := hc.1; replace hc := hc.2))); (first | (refine i64_k hc ?_ ?_ ?_ ; omega; omega; (clear hc; intro hc; subst hc)) | skip)) | (apply Exists.intro; apply And.intro; (first | (focus (repeat (first | (with_reducible assumption) | (with_reducible exact AH.set_same _ _ _) | ((first | refine AH.get_ne ?_ ?_); (first | (with_reducible assumption) | exact Ne.symm (by with_reducible assumption))))); done))) | (apply Exists.intro; apply And.intro; first | (with_reducible assumption) | ((try simp only [List.getElem?_drop, Nat.mul_one, Nat.add_zero, Nat.zero_add]); first | (with_reducible assumption) | rfl)) | (apply And.intro; (first | rfl | (with_reducible assumption) | omega | (simp <;> omega))))) <;> (try (conv => whnf))
      obtain ⟨G, hG⟩ : ∃ G, G = ((AH.set H w (.row [.int .i64 s, .sl q u 1 0 (s * s) none] 0)).set t (.row (iL n Y) 0)).set q (.row (mL s (colsI f n k M)) u) := ⟨_, rfl⟩
      have gw : G w = some (.row [.int .i64 s, .sl q u 1 0 (s * s) none] 0) := by rw [hG]; (first | (focus (repeat (first | (with_reducible assumption) | (with_reducible exact AH.set_same _ _ _) | ((first | refine AH.get_ne ?_ ?_); (first | (with_reducible assumption) | exact Ne.symm (by with_reducible assumption))))); done))
      have gt : G t = some (.row (iL n Y) 0) := by rw [hG]; (first | (focus (repeat (first | (with_reducible assumption) | (with_reducible exact AH.set_same _ _ _) | ((first | refine AH.get_ne ?_ ?_); (first | (with_reducible assumption) | exact Ne.symm (by with_reducible assumption))))); done))
      have gq : G q = some (.row (mL s (colsI f n k M)) u) := by rw [hG]; (first | (focus (repeat (first | (with_reducible assumption) | (with_reducible exact AH.set_same _ _ _) | ((first | refine AH.get_ne ?_ ?_); (first | (with_reducible assumption) | exact Ne.symm (by with_reducible assumption))))); done))
      rw [← hG]
      have tq : t ≠ q := Ne.symm hqc
      have wt : w ≠ t := Ne.symm htw
      refine AWp_loop (σ := Nat) (8 :: 18 :: 19 :: 20 :: 21 :: 22 :: 23 :: 24 :: 25 :: 26 :: 27 :: 28 :: 29 :: 30 :: 31 :: 32 :: 33 :: 34 :: []) (fun i => [(18, .int .i64 i)]) (fun i => G.set t (.row (iL n (fun j => if j < i then M j k else Y j)) 0)) (fun i => i ≤ n) (fun i => n - i) 0 rfl ?_ ?_ ?_ ?_
      · exact Nat.zero_le _
      · exact ⟨rfl, trivial⟩
      · refine HLe.of_eq (AH.set_id ?_)
        rw [gt]
        refine congrArg (fun l => some (AO.row l 0)) (iL_congr fun j hj => ?_)
        rw [if_neg (by omega)]
      · rintro i hi
        refine AWp.of tt_ok (dok _) rfl ?_
        by_cases h2 : i < n
        · have p1 : 0 ≤ (i : Int) * s := Int.mul_nonneg (by omega) (by omega)
          have p2 : (i : Int) * s + k < ((s * s : Nat) : Int) := by
            have := (place (s := s) (r := i) (c := k) (by omega) (by omega)).1
            rw [← Int.natCast_mul]; omega
          have e3 : ((i : Int) * s + k).toNat = i * s + k := by rw [← Int.natCast_mul]; omega
          have g1 : (mL s (colsI f n k M))[((i : Int) * s + k).toNat]? = some (.int .i64 (M i k)) := by
            rw [e3, mL_get _ (by omega) (by omega)]
            unfold colsI
            rw [if_neg (by omega)]
          obtain ⟨cells, hce⟩ : ∃ cells, cells = mL s (colsI f n k M) := ⟨_, rfl⟩
          rw [← hce] at gq g1
          have hl := mL_len s (colsI f n k M)
          rw [← hce] at hl
          (repeat' ((conv => whnf); first | refine Then.mk ?_ | refine OpsA.cons ?_ | refine OpsA.nil ?_ | refine AWq.seq ?_ | refine AWq.region ?_ | refine AWq.cond ?_ | refine AWq.block ?_ | refine AWq.skip ?_ | refine AWq.exit ?_ | refine AWq.loop ?_ | (refine Both.mk ?_ ?_ <;> intro hc <;> (first | exact Bool.noConfusion hc | (exfalso; omega) | skip)) | (intro c hc; (try (simp only [AH.none_iff] at hc; repeat (have hn := hc.1; replace hc := hc.2))); (first | (refine i64_k hc ?_ ?_ ?_ ; omega; omega; (clear hc; intro hc; subst hc)) | skip)) | (apply Exists.intro; apply And.intro; (first | (focus (repeat (first | (with_reducible assumption) | (with_reducible exact AH.set_same _ _ _) | ((first | refine AH.get_ne ?_ ?_); (first | (with_reducible assumption) | exact Ne.symm (by with_reducible assumption))))); done))) | (apply Exists.intro; apply And.intro; first | (with_reducible assumption) | ((try simp only [List.getElem?_drop, Nat.mul_one, Nat.add_zero, Nat.zero_add]); first | (with_reducible assumption) | rfl)) | (apply And.intro; (first | rfl | (with_reducible assumption) | omega | (simp <;> omega))))) <;> (try (conv => whnf))
          refine ⟨i + 1, by omega, by omega, ⟨congrArg (AV.int .i64) (by omega), trivial⟩, HLe.of_eq (Eq.symm ((AH.set_set _ _ _ _).trans ?_))⟩
          refine congrArg (fun l => AH.set G t (.row l 0)) ?_
          show wrA (iL n _) (0 + (i : Int).toNat * 1) [AV.int .i64 (M i k)] = _
          rw [show 0 + (i : Int).toNat * 1 = i by omega, iL_wr _ h2]
          refine iL_congr fun j hj => ?_
          by_cases c1 : j = i
          · subst c1; rw [if_pos rfl, if_pos (by omega)]
          · rw [if_neg c1]
            by_cases c2 : j < i
            · rw [if_pos c2, if_pos (by omega)]
            · rw [if_neg c2, if_neg (by omega)]
        · have he : i = n := by omega
          have hY : iL n (fun j => if j < i then M j k else Y j) = iL n (fun j => M j k) := iL_congr fun j hj => if_pos (by omega)
          rw [hY]
          have hcall := hf.w (fun j => M j k) (fun c hc => hM c k (by omega) (by omega)) (iL n (fun j => M j k)) t 0 0 none (G.set t (.row (iL n (fun j => M j k)) 0)) (AH.set_same _ _ _) (fun c hc => by rw [Nat.zero_add]; exact iL_get _ hc)
          obtain ⟨F, hF⟩ : ∃ F, F = f n (fun j => M j k) := ⟨_, rfl⟩
          rw [← hF] at hcall
          obtain ⟨cs, hcs⟩ : ∃ cs, cs = iL n F := ⟨_, rfl⟩
          have hcl : cs.length = n := by rw [hcs]; exact iL_len n F
          have hcg : ∀ j, j < n → cs[j]? = some (.int .i64 (F j)) := fun j hj => by rw [hcs]; exact iL_get F hj
          rw [← hcs] at hcall
          (repeat' ((conv => whnf); first | refine Then.mk ?_ | refine OpsA.cons ?_ | refine OpsA.nil ?_ | refine AWq.seq ?_ | refine AWq.region ?_ | refine AWq.cond ?_ | refine AWq.block ?_ | refine AWq.skip ?_ | refine AWq.exit ?_ | refine AWq.loop ?_ | (refine Both.mk ?_ ?_ <;> intro hc <;> (first | exact Bool.noConfusion hc | (exfalso; omega) | skip)) | (intro c hc; (try (simp only [AH.none_iff] at hc; repeat (have hn := hc.1; replace hc := hc.2))); (first | (refine i64_k hc ?_ ?_ ?_ ; omega; omega; (clear hc; intro hc; subst hc)) | skip)) | (apply Exists.intro; apply And.intro; (first | (focus (repeat (first | (with_reducible assumption) | (with_reducible exact AH.set_same _ _ _) | ((first | refine AH.get_ne ?_ ?_); (first | (with_reducible assumption) | exact Ne.symm (by with_reducible assumption))))); done))) | (apply Exists.intro; apply And.intro; first | (with_reducible assumption) | ((try simp only [List.getElem?_drop, Nat.mul_one, Nat.add_zero, Nat.zero_add]); first | (with_reducible assumption) | rfl)) | (apply And.intro; (first | rfl | (with_reducible assumption) | omega | (simp <;> omega))) | (refine ACall.to (hcall) ?_))) <;> (try (conv => whnf))
          obtain ⟨D, hD⟩ : ∃ D, D = G.set t (.row (iL n (fun j => M j k)) 0) := ⟨_, rfl⟩
          have dw : D w = some (.row [.int .i64 s, .sl q u 1 0 (s * s) none] 0) := by rw [hD]; (first | (focus (repeat (first | (with_reducible assumption) | (with_reducible exact AH.set_same _ _ _) | ((first | refine AH.get_ne ?_ ?_); (first | (with_reducible assumption) | exact Ne.symm (by with_reducible assumption))))); done))
          have dq : D q = some (.row (mL s (colsI f n k M)) u) := by rw [hD]; (first | (focus (repeat (first | (with_reducible assumption) | (with_reducible exact AH.set_same _ _ _) | ((first | refine AH.get_ne ?_ ?_); (first | (with_reducible assumption) | exact Ne.symm (by with_reducible assumption))))); done))
          rw [← hD]
          refine AWp_loop (σ := Nat) (9 :: 10 :: 39 :: 40 :: 41 :: 42 :: 43 :: 44 :: 45 :: 46 :: 47 :: 48 :: 49 :: 50 :: 51 :: 52 :: 53 :: 54 :: []) (fun i => [(39, .int .i64 i)]) (fun i => D.set q (.row (mL s (fun r c => if c = k ∧ r < i then F r else colsI f n k M r c)) u)) (fun i => i ≤ n) (fun i => n - i) 0 rfl ?_ ?_ ?_ ?_
          · exact Nat.zero_le _
          · exact ⟨rfl, trivial⟩
          · refine HLe.of_eq (AH.set_id ?_)
            rw [dq]
            refine congrArg (fun l => some (AO.row (iS .i64 l) u)) (toL_congr fun r c _ _ => ?_)
            rw [if_neg (by omega)]
          · rintro i hi
            refine AWp.of tt_ok (dok _) rfl ?_
            by_cases h2 : i < n
            · have p1 : 0 ≤ (i : Int) * s := Int.mul_nonneg (by omega) (by omega)
              have p2 : (i : Int) * s + k < ((s * s : Nat) : Int) := by
                have := (place (s := s) (r := i) (c := k) (by omega) (by omega)).1
                rw [← Int.natCast_mul]; omega
              have e3 : ((i : Int) * s + k).toNat = i * s + k := by rw [← Int.natCast_mul]; omega
              have g1 := hcg i h2
              have g2 : cs[(i : Int).toNat]? = some (.int .i64 (F i)) := g1
              have hl := mL_len s (fun r c => if c = k ∧ r < i then F r else colsI f n k M r c)
              (repeat' ((conv => whnf); first | refine Then.mk ?_ | refine OpsA.cons ?_ | refine OpsA.nil ?_ | refine AWq.seq ?_ | refine AWq.region ?_ | refine AWq.cond ?_ | refine AWq.block ?_ | refine AWq.skip ?_ | refine AWq.exit ?_ | refine AWq.loop ?_ | (refine Both.mk ?_ ?_ <;> intro hc <;> (first | exact Bool.noConfusion hc | (exfalso; omega) | skip)) | (intro c hc; (try (simp only [AH.none_iff] at hc; repeat (have hn := hc.1; replace hc := hc.2))); (first | (refine i64_k hc ?_ ?_ ?_ ; omega; omega; (clear hc; intro hc; subst hc)) | skip)) | (apply Exists.intro; apply And.intro; (first | (focus (repeat (first | (with_reducible assumption) | (with_reducible exact AH.set_same _ _ _) | ((first | refine AH.get_ne ?_ ?_); (first | (with_reducible assumption) | exact Ne.symm (by with_reducible assumption))))); done))) | (apply Exists.intro; apply And.intro; first | (with_reducible assumption) | ((try simp only [List.getElem?_drop, Nat.mul_one, Nat.add_zero, Nat.zero_add]); first | (with_reducible assumption) | rfl)) | (apply And.intro; (first | rfl | (with_reducible assumption) | omega | (simp <;> omega))))) <;> (try (conv => whnf))
              refine ⟨i + 1, by omega, by omega, ⟨congrArg (AV.int .i64) (by omega), trivial⟩, HLe.of_eq (Eq.symm ((AH.set_set _ _ _ _).trans ?_))⟩
              refine congrArg (fun l => AH.set D q (.row l u)) ?_
              show wrA (mL s _) (0 + ((i : Int) * s + k).toNat * 1) [AV.int .i64 (F i)] = _
              rw [show 0 + ((i : Int) * s + k).toNat * 1 = i * s + k by omega, mL_set _ (by omega) (by omega)]
              refine congrArg (iS .i64) (toL_congr fun r c hr hc => ?_)
              unfold updM
              by_cases c1 : r = i ∧ c = k
              · rw [if_pos c1, if_pos (by omega), c1.1]
              · rw [if_neg c1]
                dsimp only
                by_cases c2 : c = k ∧ r < i
                · rw [if_pos c2, if_pos (by omega)]
                · rw [if_neg c2, if_neg (by omega)]
            · have he2 : i = n := by omega
              (repeat' ((conv => whnf); first | refine Then.mk ?_ | refine OpsA.cons ?_ | refine OpsA.nil ?_ | refine AWq.seq ?_ | refine AWq.region ?_ | refine AWq.cond ?_ | refine AWq.block ?_ | refine AWq.skip ?_ | refine AWq.exit ?_ | refine AWq.loop ?_ | (refine Both.mk ?_ ?_ <;> intro hc <;> (first | exact Bool.noConfusion hc | (exfalso; omega) | skip)) | (intro c hc; (try (simp only [AH.none_iff] at hc; repeat (have hn := hc.1; replace hc := hc.2))); (first | (refine i64_k hc ?_ ?_ ?_ ; omega; omega; (clear hc; intro hc; subst hc)) | skip)) | (apply Exists.intro; apply And.intro; (first | (focus (repeat (first | (with_reducible assumption) | (with_reducible exact AH.set_same _ _ _) | ((first | refine AH.get_ne ?_ ?_); (first | (with_reducible assumption) | exact Ne.symm (by with_reducible assumption))))); done))) | (apply Exists.intro; apply And.intro; first | (with_reducible assumption) | ((try simp only [List.getElem?_drop, Nat.mul_one, Nat.add_zero, Nat.zero_add]); first | (with_reducible assumption) | rfl)) | (apply And.intro; (first | rfl | (with_reducible assumption) | omega | (simp <;> omega))))) <;> (try (conv => whnf))
              refine ⟨(k + 1, fun j => M j k), by show k + 1 ≤ n; omega, by show n - (k + 1) < n - k; omega, ⟨congrArg (AV.int .i64) (by omega), trivial⟩, HLe.of_eq ?_⟩
              have e : mL s (fun r c => if c = k ∧ r < i then F r else colsI f n k M r c) = mL s (colsI f n (k + 1) M) := congrArg (iS .i64) (toL_congr fun r c hr hc => by
                rw [hF]
                unfold colsI
                by_cases c1 : c = k ∧ r < i
                · rw [if_pos c1, if_pos (by omega), c1.1]
                · rw [if_neg c1]
                  by_cases c2 : r < n ∧ c < k
                  · rw [if_pos c2, if_pos (by omega)]
                  · rw [if_neg c2, if_neg (by omega)])
              rw [e, hD, hG]
              ((funext s; simp only [AH.set, AH.del]; repeat' split) <;> (first | rfl | (exfalso; omega)))
    · have he : k = n := by omega
      subst he
      (repeat' ((conv => whnf); first | refine Then.mk ?_ | refine OpsA.cons ?_ | refine OpsA.nil ?_ | refine AWq.seq ?_ | refine AWq.region ?_ | refine AWq.cond ?_ | refine AWq.block ?_ | refine AWq.skip ?_ | refine AWq.exit ?_ | refine AWq.loop ?_ | (refine Both.mk ?_ ?_ <;> intro hc <;> (first | exact Bool.noConfusion hc | (exfalso; omega) | skip)) | (intro c hc; (try (simp only [AH.none_iff] at hc; repeat (have hn := hc.1; replace hc := hc.2))); (first | (refine i64_k hc ?_ ?_ ?_ ; omega; omega; (clear hc; intro hc; subst hc)) | skip)) | (apply Exists.intro; apply And.intro; (first | (focus (repeat (first | (with_reducible assumption) | (with_reducible exact AH.set_same _ _ _) | ((first | refine AH.get_ne ?_ ?_); (first | (with_reducible assumption) | exact Ne.symm (by with_reducible assumption))))); done))) | (apply Exists.intro; apply And.intro; first | (with_reducible assumption) | ((try simp only [List.getElem?_drop, Nat.mul_one, Nat.add_zero, Nat.zero_add]); first | (with_reducible assumption) | rfl)) | (apply And.intro; (first | rfl | (with_reducible assumption) | omega | (simp <;> omega))))) <;> (try (conv => whnf))
      exact ⟨_, _, AVle.refl _, HLe.set (HLe.set_of _ _ (HLe.fresh _ hww) hcc) _ _, rfl, rfl⟩
open Go.Fw Go

abbrev IsSide (n : Int) : Prop := n = 1 ∨ n = 2 ∨ n = 4 ∨ n = 8 ∨ n = 16
theorem side_pow {n : Int} (h : IsSide n) : ∃ k, k ≤ 4 ∧ n = ((2 ^ k : Nat) : Int) := by
  rcases h with h | h | h | h | h
  · exact ⟨0, by omega, h⟩
  · exact ⟨1, by omega, h⟩
  · exact ⟨2, by omega, h⟩
  · exact ⟨3, by omega, h⟩
  · exact ⟨4, by omega, h⟩
theorem pow_side {k : Nat} (h : k ≤ 4) : IsSide ((2 ^ k : Nat) : Int) ∧ 2 ^ k ≤ 16 ∧ 1 ≤ 2 ^ k := by
  rcases (show k = 0 ∨ k = 1 ∨ k = 2 ∨ k = 3 ∨ k = 4 by omega) with rfl | rfl | rfl | rfl | rfl <;> simp [IsSide]

set_option maxRecDepth 8000 in
theorem clone_i (a : List Int) (hb : a.length ≤ 1000000) (H : AH) :
    ACall Try.prog 107 [.cs (iS .i64 a) a.length] H (fun y H' => ∃ q, H q = none ∧ ∃ u, y = .sl q u 1 0 a.length none ∧ H' = H.set q (.row (iS .i64 a) u)) := by
  refine ACall.warmN (es := 1) (by simp) ?_
  refine ACall_of tt_ok (dok _) Try.func107 rfl (by decide) rfl ?_
  (repeat' ((conv => whnf); first | refine Then.mk ?_ | refine Or.inr (Or.inl ?_) | refine OpsA.cons ?_ | refine OpsA.nil ?_ | refine AWq.seq ?_ | refine AWq.region ?_ | refine AWq.cond ?_ | refine AWq.skip ?_ | refine AWq.ret ?_ | (refine Both.mk ?_ ?_ <;> intro hc <;> (first | exact Bool.noConfusion hc | skip)) | (intro c hc; (try (simp only [AH.none_iff] at hc; repeat (have hn := hc.1; replace hc := hc.2))); (first | skip)) | (apply Exists.intro; apply And.intro; (first | (focus (repeat (first | (with_reducible exact AH.set_same _ _ _))); done))) | (apply And.intro; (first | rfl | omega | (simp <;> fail) | (focus (repeat' (first | exact one_iS _ _ | rfl)); done))))) <;> (try (conv => whnf))
  · exact .inl ⟨rfl, by assumption, rfl⟩
  · refine .inr ⟨c, hc, 1, by simp only [Nat.zero_add], ?_⟩
    rw [AH.set_set]
    simp

set_option maxRecDepth 8000 in
theorem start_bad (s : Int) (h1 : -9223372036854775808 ≤ s) (h2 : s ≤ 9223372036854775807) (a : List Int) (hb : a.length ≤ 1000000) (m : Int) (hs : ¬ (IsSide s ∧ (a.length : Int) = s * s)) (H : AH) :
    ACall Try.prog 87 [.int .i64 s, .cs (iS .i64 a) a.length, .int .i64 m] H (fun y H' => y = .tup [.agg [.int .i64 0, .nils], .int .i64 1] ∧ H' = H) := by
  have ss := fun H => sides_c s h1 h2 H
  refine ACall.back ?_
  by_cases h : IsSide s
  · rw [decide_eq_true h] at ss
    obtain ⟨k, hk, rfl⟩ := side_pow h
    have := (pow_side hk).2
    have hm : ((2 ^ k : Nat) : Int) * ((2 ^ k : Nat) : Int) = ((2 ^ k * 2 ^ k : Nat) : Int) := (Int.natCast_mul _ _).symm
    have hmm : 2 ^ k * 2 ^ k ≤ 256 := Nat.mul_le_mul this.1 this.1
    generalize 2 ^ k = S at *
    refine ACall_of tt_ok (dok _) Try.func87 rfl (by decide) rfl ?_
    (repeat' ((conv => whnf); first | refine Then.mk ?_ | left | refine OpsA.cons ?_ | refine OpsA.nil ?_ | refine AWq.seq ?_ | refine AWq.region ?_ | refine AWq.cond ?_ | refine AWq.block ?_ | refine AWq.ret ?_ | (refine Both.mk ?_ ?_ <;> intro hc <;> (first | exact Bool.noConfusion hc | (exfalso; omega) | skip)) | (intro c hc; (try (simp only [AH.none_iff] at hc; repeat (have hn := hc.1; replace hc := hc.2))); (first | (refine i64_k hc ?_ ?_ ?_ ; omega; omega; (clear hc; intro hc; subst hc)) | skip)) | (apply Exists.intro; apply And.intro; (first | (focus (repeat (first | (with_reducible exact AH.set_same _ _ _))); done))) | (apply And.intro; (first | rfl | exact Nat.le_of_ble_eq_true rfl)) | (refine ACall.to (ss _) ?_))) <;> (try (conv => whnf))
    have hc0 : H c = none := by assumption
    exact HLe.set_of _ _ (HLe.fresh _ hc0) hc0
  · rw [decide_eq_false h] at ss
    refine ACall_of tt_ok (dok _) Try.func87 rfl (by decide) rfl ?_
    (repeat' ((conv => whnf); first | refine Then.mk ?_ | left | refine OpsA.cons ?_ | refine OpsA.nil ?_ | refine AWq.seq ?_ | refine AWq.region ?_ | refine AWq.cond ?_ | refine AWq.block ?_ | refine AWq.ret ?_ | (refine Both.mk ?_ ?_ <;> intro hc <;> (first | exact Bool.noConfusion hc | (exfalso; omega) | skip)) | (intro c hc; (try (simp only [AH.none_iff] at hc; repeat (have hn := hc.1; replace hc := hc.2))); (first | (refine i64_k hc ?_ ?_ ?_ ; omega; omega; (clear hc; intro hc; subst hc)) | skip)) | (apply Exists.intro; apply And.intro; (first | (focus (repeat (first | (with_reducible exact AH.set_same _ _ _))); done))) | (apply And.intro; (first | rfl | exact Nat.le_of_ble_eq_true rfl)) | (refine ACall.to (ss _) ?_))) <;> (try (conv => whnf))
    have hc0 : H c = none := by assumption
    exact HLe.set_of _ _ (HLe.fresh _ hc0) hc0

set_option maxRecDepth 8000 in
theorem start_rng (k : Nat) (hk : k ≤ 4) (a : List Int) (m : Int) (hm : 0 ≤ m ∧ m ≤ 4611686018427387904) (hl : a.length = 2 ^ k * 2 ^ k) (hi : inB m a = false) (H : AH) :
    ACall Try.prog 87 [.int .i64 (2 ^ k : Nat), .cs (iS .i64 a) a.length, .int .i64 m] H (fun y H' => y = .tup [.agg [.int .i64 0, .nils], .int .i64 5] ∧ H' = H) := by
  have this := (pow_side hk).2
  have hsd := (pow_side hk).1
  generalize 2 ^ k = S at *
  have ss := fun H => sides_c S (by omega) (by omega) H
  rw [decide_eq_true hsd] at ss
  refine ACall.back ?_
  have hm2 : (S : Int) * S = ((S * S : Nat) : Int) := (Int.natCast_mul _ _).symm
  have hmm : S * S ≤ 256 := Nat.mul_le_mul this.1 this.1
  have hw := fun H => within_c m hm a (by omega) H
  rw [hi] at hw
  refine ACall_of tt_ok (dok _) Try.func87 rfl (by decide) rfl ?_
  (repeat' ((conv => whnf); first | refine Then.mk ?_ | left | refine OpsA.cons ?_ | refine OpsA.nil ?_ | refine AWq.seq ?_ | refine AWq.region ?_ | refine AWq.cond ?_ | refine AWq.block ?_ | refine AWq.ret ?_ | (refine Both.mk ?_ ?_ <;> intro hc <;> (first | exact Bool.noConfusion hc | (exfalso; omega) | skip)) | (intro c hc; (try (simp only [AH.none_iff] at hc; repeat (have hn := hc.1; replace hc := hc.2))); (first | (refine i64_k hc ?_ ?_ ?_ ; omega; omega; (clear hc; intro hc; subst hc)) | skip)) | (apply Exists.intro; apply And.intro; (first | (focus (repeat (first | (with_reducible exact AH.set_same _ _ _))); done))) | (apply And.intro; (first | rfl | exact Nat.le_of_ble_eq_true rfl)) | (refine ACall.to (ss _) ?_) | (refine ACall.to (hw _) ?_))) <;> (try (conv => whnf))
  have hc0 : H c = none := by assumption
  exact HLe.set_of _ _ (HLe.fresh _ hc0) hc0

set_option maxRecDepth 8000 in
theorem start_ok (k : Nat) (hk : k ≤ 4) (a : List Int) (m : Int) (hm : 0 ≤ m ∧ m ≤ 4611686018427387904) (hl : a.length = 2 ^ k * 2 ^ k) (hi : inB m a = true) (H : AH) :
    ACall Try.prog 87 [.int .i64 (2 ^ k : Nat), .cs (iS .i64 a) a.length, .int .i64 m] H (fun y H' => ∃ q u, y = .tup [.agg [.int .i64 (2 ^ k : Nat), .sl q u 1 0 a.length none], .int .i64 0] ∧ H q = none ∧ H' = H.set q (.row (iS .i64 a) u)) := by
  have this := (pow_side hk).2
  have hsd := (pow_side hk).1
  generalize 2 ^ k = S at *
  have ss := fun H => sides_c S (by omega) (by omega) H
  rw [decide_eq_true hsd] at ss
  refine ACall.told ?_
  have hm2 : (S : Int) * S = ((S * S : Nat) : Int) := (Int.natCast_mul _ _).symm
  have hmm : S * S ≤ 256 := Nat.mul_le_mul this.1 this.1
  have hw := fun H => within_c m hm a (by omega) H
  rw [hi] at hw
  refine ACall_of tt_ok (dok _) Try.func87 rfl (by decide) rfl ?_
  (repeat' ((conv => whnf); first | refine Then.mk ?_ | left | refine OpsA.cons ?_ | refine OpsA.nil ?_ | refine AWq.seq ?_ | refine AWq.region ?_ | refine AWq.cond ?_ | refine AWq.block ?_ | refine AWq.skip ?_ | refine AWq.ret ?_ | (refine Both.mk ?_ ?_ <;> intro hc <;> (first | exact Bool.noConfusion hc | (exfalso; omega) | skip)) | (intro c hc; (try (simp only [AH.none_iff] at hc; repeat (have hn := hc.1; replace hc := hc.2))); (first | (refine i64_k hc ?_ ?_ ?_ ; omega; omega; (clear hc; intro hc; subst hc)) | skip)) | (apply Exists.intro; apply And.intro; (first | (focus (repeat (first | (with_reducible exact AH.set_same _ _ _) | ((first | refine AH.get_ne ?_ ?_); (first | exact Ne.symm (by with_reducible assumption))))); done))) | (apply And.intro; (first | rfl | exact Nat.le_of_ble_eq_true rfl)) | (refine ACall.to (ss _) ?_) | (refine ACall.to (hw _) ?_))) <;> (try (conv => whnf))
  have hc0 : H c = none := by assumption
  refine (clone_i a (by omega) _).mono ?_
  rintro y H' ⟨q, hq, u, rfl, rfl⟩
  have hqc : q ≠ c := (AH.none_set hq).1
  have hq0 : H q = none := (AH.none_set hq).2
  (repeat' ((conv => whnf); first | refine Then.mk ?_ | left | refine OpsA.cons ?_ | refine OpsA.nil ?_ | refine AWq.seq ?_ | refine AWq.region ?_ | refine AWq.cond ?_ | refine AWq.block ?_ | refine AWq.skip ?_ | refine AWq.ret ?_ | (refine Both.mk ?_ ?_ <;> intro hc <;> (first | exact Bool.noConfusion hc | (exfalso; omega) | skip)) | (intro c hc; (try (simp only [AH.none_iff] at hc; repeat (have hn := hc.1; replace hc := hc.2))); (first | (refine i64_k hc ?_ ?_ ?_ ; omega; omega; (clear hc; intro hc; subst hc)) | skip)) | (apply Exists.intro; apply And.intro; (first | (focus (repeat (first | (with_reducible exact AH.set_same _ _ _) | ((first | refine AH.get_ne ?_ ?_); (first | exact Ne.symm (by with_reducible assumption))))); done))) | (apply And.intro; (first | rfl | exact Nat.le_of_ble_eq_true rfl)))) <;> (try (conv => whnf))
  refine ⟨_, H.set q (.row (iS .i64 a) u), AVle.refl _, ?_, q, u, rfl, hq0, rfl⟩
  exact HLe.set_of _ _ (HLe.set (HLe.fresh _ hc0) q _) (AH.none_iff.2 ⟨Ne.symm hqc, hc0⟩)

def BndS (s : Nat) (B : Int) (M : Mat) : Prop := ∀ r c, r < s → c < s → -B ≤ M r c ∧ M r c ≤ B
theorem spl_bd {h : Nat} {x : Ln} {B : Int} (hx : ∀ c, c < 2 * h → -B ≤ x c ∧ x c ≤ B) (c : Nat) (hc : c < 2 * h) : -(2 * B) ≤ spl (2 * h) x c ∧ spl (2 * h) x c ≤ 2 * B := by
  unfold spl
  split
  · have := hx (2 * c) (by omega); have := hx (2 * c + 1) (by omega); omega
  · have := hx (2 * (c - 2 * h / 2)) (by omega); have := hx (2 * (c - 2 * h / 2) + 1) (by omega); omega
theorem joi_bd {h : Nat} {x : Ln} {B : Int} (hB : 1 ≤ B) (hx : ∀ c, c < 2 * h → -B ≤ x c ∧ x c ≤ B) (c : Nat) (hc : c < 2 * h) : -(4 * B) ≤ joi (2 * h) x c ∧ joi (2 * h) x c ≤ 4 * B := by
  unfold joi
  have := hx (c / 2) (by omega); have := hx (2 * h / 2 + c / 2) (by omega)
  split <;> omega
theorem rows_bd {f : Nat → Ln → Ln} {n s : Nat} {B C : Int} {M : Mat} (hn : n ≤ s) (hBC : B ≤ C) (hf : ∀ x : Ln, (∀ c, c < n → -B ≤ x c ∧ x c ≤ B) → ∀ c, c < n → -C ≤ f n x c ∧ f n x c ≤ C) (hM : BndS s B M) : BndS s C (rowsM f n M) := by
  intro r c hr hc
  unfold rowsM
  split
  · rename_i h; exact hf _ (fun c hc => hM r c hr (by omega)) c h.2
  · have := hM r c hr hc; omega
theorem cols_bd {f : Nat → Ln → Ln} {n s : Nat} {B C : Int} {M : Mat} (hn : n ≤ s) (hBC : B ≤ C) (hf : ∀ x : Ln, (∀ c, c < n → -B ≤ x c ∧ x c ≤ B) → ∀ c, c < n → -C ≤ f n x c ∧ f n x c ≤ C) (hM : BndS s B M) : BndS s C (colsM f n M) := by
  intro r c hr hc
  unfold colsM
  split
  · rename_i h; exact hf _ (fun k hk => hM k c (by omega) hc) r h.1
  · have := hM r c hr hc; omega

theorem split_f (h : Nat) (hh : 2 * h ≤ 16) (B : Int) (hB : B ≤ 2305843009213693952) : LnF 38 spl (2 * h) B :=
  ⟨fun X hX cells q u off lim H hq hg => split_w (2 * h) (by omega) (by omega) X (fun c hc => by have := hX c hc; omega) cells q u off lim H hq hg⟩
theorem join_f (h : Nat) (hh : 2 * h ≤ 16) (B : Int) (hB : B ≤ 1152921504606846976) : LnF 90 joi (2 * h) B :=
  ⟨fun X hX cells q u off lim H hq hg => join_w (2 * h) (by omega) (by omega) X (fun c hc => by have := hX c hc; omega) cells q u off lim H hq hg⟩

theorem inB_bnd {m : Int} {a : List Int} (hm : 0 ≤ m) (h : inB m a = true) (s : Nat) : BndS s m (ofL s a) := by
  intro r c hr hc
  unfold ofL
  rw [if_pos ⟨hr, hc⟩]
  exact inB_getD hm h _

def sqR (m : Int) (f : Nat → Mat → Mat) (s : Int) (a : List Int) : List Int × Int :=
  if IsSide s ∧ (a.length : Int) = s * s then (if inB m a = true then (toL s.toNat (f (Nat.log2 s.toNat) (ofL s.toNat a)), 0) else ([], 5)) else ([], 1)

set_option maxRecDepth 8000 in
theorem Forward_ok (k : Nat) (hk : k ≤ 4) (a : List Int) (hl : a.length = 2 ^ k * 2 ^ k) (hi : inB 1099511627776 a = true) (H : AH) :
    ACall Try.prog 61 [.int .i64 (2 ^ k : Nat), .cs (iS .i64 a) a.length] H (fun y H' => y = resV (toL (2 ^ k) (fwd k (ofL (2 ^ k) a)), 0) ∧ H' = H) := by
  have hst := fun H => start_ok k hk a 1099511627776 (by omega) hl hi H
  have hS := (pow_side hk).2
  have hbd := inB_bnd (by omega) hi (2 ^ k)
  have hof := toL_ofL hl
  refine ACall.told ?_
  refine ACall_of tt_ok (dok _) Try.func61 rfl (by decide) rfl ?_
  (repeat' ((conv => whnf); first | refine Then.mk ?_ | left | refine OpsA.cons ?_ | refine OpsA.nil ?_ | refine AWq.seq ?_ | refine AWq.region ?_ | refine AWq.cond ?_ | refine AWq.block ?_ | refine AWq.skip ?_ | refine AWq.ret ?_ | refine AWq.exit ?_ | refine AWq.loop ?_ | (refine Both.mk ?_ ?_ <;> intro hc <;> (first | exact Bool.noConfusion hc | exact absurd (by with_reducible rfl) hc | (exfalso; omega) | skip)) | (intro c hc; (try (simp only [AH.none_iff] at hc; repeat (have hn := hc.1; replace hc := hc.2))); (first | (refine i64_k hc ?_ ?_ ?_ ; omega; omega; (clear hc; intro hc; subst hc)) | skip)) | (apply Exists.intro; apply And.intro; (first | (focus (repeat (first | (with_reducible assumption) | (with_reducible exact AH.set_same _ _ _) | ((first | refine AH.get_ne ?_ ?_); (first | (with_reducible assumption))))); done))) | (apply Exists.intro; apply And.intro; first | (with_reducible assumption) | ((try simp only [List.getElem?_drop, Nat.mul_one, Nat.add_zero, Nat.zero_add]); first | (with_reducible assumption) | rfl)) | (apply And.intro; (first | rfl | (with_reducible assumption) | exact Nat.le_of_ble_eq_true rfl | omega)))) <;> (try (conv => whnf))
  refine (hst _).mono ?_
  rintro y H' ⟨q, u, rfl, hq, rfl⟩
  (repeat' ((conv => whnf); first | refine Then.mk ?_ | left | refine OpsA.cons ?_ | refine OpsA.nil ?_ | refine AWq.seq ?_ | refine AWq.region ?_ | refine AWq.cond ?_ | refine AWq.block ?_ | refine AWq.skip ?_ | refine AWq.ret ?_ | refine AWq.exit ?_ | refine AWq.loop ?_ | (refine Both.mk ?_ ?_ <;> intro hc <;> (first | exact Bool.noConfusion hc | exact absurd (by with_reducible rfl) hc | (exfalso; omega) | skip)) | (intro c hc; (try (simp only [AH.none_iff] at hc; repeat (have hn := hc.1; replace hc := hc.2))); (first | (refine i64_k hc ?_ ?_ ?_ ; omega; omega; (clear hc; intro hc; subst hc)) | skip)) | (apply Exists.intro; apply And.intro; (first | (focus (repeat (first | (with_reducible assumption) | (with_reducible exact AH.set_same _ _ _) | ((first | refine AH.get_ne ?_ ?_); (first | (with_reducible assumption))))); done))) | (apply Exists.intro; apply And.intro; first | (with_reducible assumption) | ((try simp only [List.getElem?_drop, Nat.mul_one, Nat.add_zero, Nat.zero_add]); first | (with_reducible assumption) | rfl)) | (apply And.intro; (first | rfl | (with_reducible assumption) | exact Nat.le_of_ble_eq_true rfl | omega)))) <;> (try (conv => whnf))
  have hcc : H c = none := by assumption
  have hcq : c ≠ q := by assumption
  obtain ⟨w, hw⟩ : ∃ w, w = c := ⟨_, rfl⟩
  rw [← hw] at hcc hcq ⊢
  clear hw
  have hqw : q ≠ w := Ne.symm hcq
  rw [hl]
  obtain ⟨S, hSS⟩ : ∃ S, S = 2 ^ k := ⟨_, rfl⟩
  rw [← hSS] at hS hbd hof ⊢
  have hm0 : mL S (ofL S a) = iS .i64 a := by unfold mL; rw [hof]
  refine AWp_loop (σ := Nat × Mat × Nat) (8 :: 10 :: 21 :: 22 :: 23 :: 24 :: 25 :: 26 :: 27 :: 28 :: 29 :: 30 :: 31 :: 32 :: 33 :: 34 :: 35 :: 36 :: 37 :: 38 :: []) (fun (j, N, b) => [(8, .int .i64 (2 ^ j : Nat))]) (fun (j, N, b) => (AH.set H w (.row [.int .i64 S, .sl q u 1 0 (S * S) none] 0)).set q (.row (mL S N) u))
    (fun (j, N, b) => j ≤ k ∧ BndS S b N ∧ fwd j N = fwd k (ofL S a) ∧ b * 4 ^ j ≤ 281474976710656) (fun (j, N, b) => j) (k, ofL S a, 1099511627776) rfl ?_ ?_ ?_ ?_
  · refine ⟨Nat.le_refl _, hbd, rfl, ?_⟩
    have : 4 ^ k ≤ 4 ^ 4 := Nat.pow_le_pow_right (by omega) hk
    show 1099511627776 * 4 ^ k ≤ _
    omega
  · exact ⟨congrArg (fun x : Nat => AV.int .i64 (x : Int)) hSS, trivial⟩
  · refine HLe.of_eq ?_
    show (AH.set H w _).set q (.row (mL S (ofL S a)) u) = _
    rw [hm0]
    ((funext s; simp only [AH.set, AH.del]; repeat' split) <;> (first | rfl | (exfalso; omega)))
  · rintro ⟨j, N, b⟩ ⟨hj, hN, hfw, hb⟩
    dsimp only at hj hN hfw hb ⊢
    refine AWp.of tt_ok (dok _) rfl ?_
    cases j with
    | zero =>
      (repeat' ((conv => whnf); first | left | refine OpsA.cons ?_ | refine OpsA.nil ?_ | refine AWq.seq ?_ | refine AWq.region ?_ | refine AWq.cond ?_ | refine AWq.block ?_ | refine AWq.skip ?_ | refine AWq.ret ?_ | refine AWq.exit ?_ | refine AWq.loop ?_ | (refine Both.mk ?_ ?_ <;> intro hc <;> (first | exact Bool.noConfusion hc | exact absurd (by with_reducible rfl) hc | (exfalso; omega) | skip)) | (intro c hc; (try (simp only [AH.none_iff] at hc; repeat (have hn := hc.1; replace hc := hc.2))); (first | (refine i64_k hc ?_ ?_ ?_ ; omega; omega; (clear hc; intro hc; subst hc)) | skip)) | (apply Exists.intro; apply And.intro; (first | (focus (repeat (first | (with_reducible assumption) | (with_reducible exact AH.set_same _ _ _) | ((first | refine AH.get_ne ?_ ?_); (first | (with_reducible assumption))))); done))) | (apply Exists.intro; apply And.intro; first | (with_reducible assumption) | ((try simp only [List.getElem?_drop, Nat.mul_one, Nat.add_zero, Nat.zero_add]); first | (with_reducible assumption) | rfl)) | (apply And.intro; (first | rfl | (with_reducible assumption) | exact Nat.le_of_ble_eq_true rfl | omega)))) <;> (try (conv => whnf))
      refine Then.mk ?_
      (repeat' ((conv => whnf); first | left | refine OpsA.cons ?_ | refine OpsA.nil ?_ | refine AWq.seq ?_ | refine AWq.region ?_ | refine AWq.cond ?_ | refine AWq.block ?_ | refine AWq.skip ?_ | refine AWq.ret ?_ | refine AWq.exit ?_ | refine AWq.loop ?_ | (refine Both.mk ?_ ?_ <;> intro hc <;> (first | exact Bool.noConfusion hc | exact absurd (by with_reducible rfl) hc | (exfalso; omega) | skip)) | (intro c hc; (try (simp only [AH.none_iff] at hc; repeat (have hn := hc.1; replace hc := hc.2))); (first | (refine i64_k hc ?_ ?_ ?_ ; omega; omega; (clear hc; intro hc; subst hc)) | skip)) | (apply Exists.intro; apply And.intro; (first | (focus (repeat (first | (with_reducible assumption) | (with_reducible exact AH.set_same _ _ _) | ((first | refine AH.get_ne ?_ ?_); (first | (with_reducible assumption))))); done))) | (apply Exists.intro; apply And.intro; first | (with_reducible assumption) | ((try simp only [List.getElem?_drop, Nat.mul_one, Nat.add_zero, Nat.zero_add]); first | (with_reducible assumption) | rfl)) | (apply And.intro; (first | rfl | (with_reducible assumption) | exact Nat.le_of_ble_eq_true rfl | omega)))) <;> (try (conv => whnf))
      refine Then.mk ?_
      (repeat' ((conv => whnf); first | left | refine OpsA.cons ?_ | refine OpsA.nil ?_ | refine AWq.seq ?_ | refine AWq.region ?_ | refine AWq.cond ?_ | refine AWq.block ?_ | refine AWq.skip ?_ | refine AWq.ret ?_ | refine AWq.exit ?_ | refine AWq.loop ?_ | (refine Both.mk ?_ ?_ <;> intro hc <;> (first | exact Bool.noConfusion hc | exact absurd (by with_reducible rfl) hc | (exfalso; omega) | skip)) | (intro c hc; (try (simp only [AH.none_iff] at hc; repeat (have hn := hc.1; replace hc := hc.2))); (first | (refine i64_k hc ?_ ?_ ?_ ; omega; omega; (clear hc; intro hc; subst hc)) | skip)) | (apply Exists.intro; apply And.intro; (first | (focus (repeat (first | (with_reducible assumption) | (with_reducible exact AH.set_same _ _ _) | ((first | refine AH.get_ne ?_ ?_); (first | (with_reducible assumption))))); done))) | (apply Exists.intro; apply And.intro; first | (with_reducible assumption) | ((try simp only [List.getElem?_drop, Nat.mul_one, Nat.add_zero, Nat.zero_add]); first | (with_reducible assumption) | rfl)) | (apply And.intro; (first | rfl | (with_reducible assumption) | exact Nat.le_of_ble_eq_true rfl | omega)))) <;> (try (conv => whnf))
      refine Then.mk (AWq.in ?_)
      refine AWp_freeze1 (es := 1) (n := S * S) (lim := none) (cells := mL S N) 4 rfl rfl (AH.set_same _ _ _) (by simp) ?_
      refine AWp.of tt_ok (dok _) rfl ?_
      (repeat' ((conv => whnf); first | refine Then.mk ?_ | refine OpsA.cons ?_ | refine OpsA.nil ?_ | refine AWq.seq ?_ | refine AWq.region ?_ | refine AWq.cond ?_ | refine AWq.block ?_ | refine AWq.skip ?_ | refine AWq.ret ?_ | refine AWq.exit ?_ | refine AWq.loop ?_ | (refine Both.mk ?_ ?_ <;> intro hc <;> (first | exact Bool.noConfusion hc | exact absurd (by with_reducible rfl) hc | (exfalso; omega) | skip)) | (intro c hc; (try (simp only [AH.none_iff] at hc; repeat (have hn := hc.1; replace hc := hc.2))); (first | (refine i64_k hc ?_ ?_ ?_ ; omega; omega; (clear hc; intro hc; subst hc)) | skip)) | (apply Exists.intro; apply And.intro; (first | (focus (repeat (first | (with_reducible assumption) | (with_reducible exact AH.set_same _ _ _) | ((first | refine AH.get_ne ?_ ?_); (first | (with_reducible assumption))))); done))) | (apply Exists.intro; apply And.intro; first | (with_reducible assumption) | ((try simp only [List.getElem?_drop, Nat.mul_one, Nat.add_zero, Nat.zero_add]); first | (with_reducible assumption) | rfl)) | (apply And.intro; (first | rfl | (with_reducible assumption) | exact Nat.le_of_ble_eq_true rfl | omega)))) <;> (try (conv => whnf))
      have hN0 : N = fwd k (ofL S a) := hfw
      rw [← hN0]
      refine ⟨resV (toL S N, 0), H, ?_, HLe.del _ (HLe.set_of _ _ (HLe.fresh _ hcc) hq) hq, rfl, rfl⟩
      unfold resV
      rw [show (toL S N).length = S * S from toL_len S N]
      exact AVle.refl _
    | succ j =>
      have hP1 : 1 ≤ 2 ^ j := Nat.one_le_two_pow
      have hPS : 2 ^ (j + 1) ≤ S := by rw [hSS]; exact Nat.pow_le_pow_right (by omega) hj
      rw [pow_half] at hPS
      have hfw2 : fwd j (colsM spl (2 * 2 ^ j) (rowsM spl (2 * 2 ^ j) N)) = fwd k (ofL S a) := by rw [← pow_half]; exact hfw
      rw [pow_half]
      have hb2 : 4 * b * 4 ^ j ≤ 281474976710656 := by rw [Nat.mul_comm 4 b, Nat.mul_assoc, ← Nat.pow_succ']; exact hb
      have hb3 : 4 * b ≤ 281474976710656 := Nat.le_trans (Nat.le_mul_of_pos_right _ (Nat.pow_pos (by omega))) hb2
      have hdv : (((2 * 2 ^ j : Nat) : Int)).tdiv 2 = ((2 ^ j : Nat) : Int) := by rw [Int.tdiv_eq_ediv_of_nonneg (by omega)]; omega
      obtain ⟨P, hP⟩ : ∃ P, P = 2 ^ j := ⟨_, rfl⟩
      rw [← hP] at hP1 hPS hfw2 hdv ⊢
      (repeat' ((conv => whnf); first | refine Then.mk ?_ | left | refine OpsA.cons ?_ | refine OpsA.nil ?_ | refine AWq.seq ?_ | refine AWq.region ?_ | refine AWq.cond ?_ | refine AWq.block ?_ | refine AWq.skip ?_ | refine AWq.ret ?_ | refine AWq.exit ?_ | refine AWq.loop ?_ | (refine Both.mk ?_ ?_ <;> intro hc <;> (first | exact Bool.noConfusion hc | exact absurd (by with_reducible rfl) hc | (exfalso; omega) | skip)) | (intro c hc; (try (simp only [AH.none_iff] at hc; repeat (have hn := hc.1; replace hc := hc.2))); (first | (refine i64_k hc ?_ ?_ ?_ ; omega; omega; (clear hc; intro hc; subst hc)) | skip)) | (apply Exists.intro; apply And.intro; (first | (focus (repeat (first | (with_reducible assumption) | (with_reducible exact AH.set_same _ _ _) | ((first | refine AH.get_ne ?_ ?_); (first | (with_reducible assumption))))); done))) | (apply Exists.intro; apply And.intro; first | (with_reducible assumption) | ((try simp only [List.getElem?_drop, Nat.mul_one, Nat.add_zero, Nat.zero_add]); first | (with_reducible assumption) | rfl)) | (apply And.intro; (first | rfl | (with_reducible assumption) | exact Nat.le_of_ble_eq_true rfl | omega)))) <;> (try (conv => whnf))
      obtain ⟨N1, hN1⟩ : ∃ N1, N1 = rowsM spl (2 * P) N := ⟨_, rfl⟩
      obtain ⟨N2, hN2⟩ : ∃ N2, N2 = colsM spl (2 * P) N1 := ⟨_, rfl⟩
      have c1 : BndS S (2 * (b : Int)) N1 := by rw [hN1]; exact rows_bd hPS (by omega) (fun x hx c hc => spl_bd hx c hc) hN
      have c2 : BndS S ((4 * b : Nat) : Int) N2 := by
        have : ((4 * b : Nat) : Int) = 2 * (2 * (b : Int)) := by omega
        rw [hN2, this]; exact cols_bd hPS (by omega) (fun x hx c hc => spl_bd hx c hc) c1
      have call1 := fun K h => rows_c (H := K) hS.1 hPS (split_f P (by omega) (b : Int) (by omega)) N hN q u h
      have call2 := fun K h => columns_c (H := K) hS.1 hPS (split_f P (by omega) (2 * (b : Int)) (by omega)) N1 c1 q u h
      rw [← hN1] at call1
      rw [← hN2] at call2
      have hfw3 : fwd j N2 = fwd k (ofL S a) := by rw [hN2, hN1]; exact hfw2
      refine AWp_loop (σ := Nat) (10 :: 31 :: 32 :: 33 :: 34 :: 35 :: 36 :: 37 :: 38 :: []) (fun i => [(31, .int .i64 i)]) (fun i => (AH.set H w (.row [.int .i64 S, .sl q u 1 0 (S * S) none] 0)).set q (.row (mL S (if i = 0 then N else if i = 1 then N1 else N2)) u)) (fun i => i ≤ 2) (fun i => 2 - i) 0 rfl ?_ ?_ ?_ ?_
      · exact Nat.zero_le _
      · exact ⟨rfl, trivial⟩
      · exact HLe.refl _
      · rintro i hi
        refine AWp.of tt_ok (dok _) rfl ?_
        rcases (show i = 0 ∨ i = 1 ∨ i = 2 by omega) with rfl | rfl | rfl
        · rw [if_pos rfl]
          (repeat' ((conv => whnf); first | refine Then.mk ?_ | left | refine OpsA.cons ?_ | refine OpsA.nil ?_ | refine AWq.seq ?_ | refine AWq.region ?_ | refine AWq.cond ?_ | refine AWq.block ?_ | refine AWq.skip ?_ | refine AWq.ret ?_ | refine AWq.exit ?_ | refine AWq.loop ?_ | (refine Both.mk ?_ ?_ <;> intro hc <;> (first | exact Bool.noConfusion hc | exact absurd (by with_reducible rfl) hc | (exfalso; omega) | skip)) | (intro c hc; (try (simp only [AH.none_iff] at hc; repeat (have hn := hc.1; replace hc := hc.2))); (first | (refine i64_k hc ?_ ?_ ?_ ; omega; omega; (clear hc; intro hc; subst hc)) | skip)) | (apply Exists.intro; apply And.intro; (first | (focus (repeat (first | (with_reducible assumption) | (with_reducible exact AH.set_same _ _ _) | ((first | refine AH.get_ne ?_ ?_); (first | (with_reducible assumption))))); done))) | (apply Exists.intro; apply And.intro; first | (with_reducible assumption) | ((try simp only [List.getElem?_drop, Nat.mul_one, Nat.add_zero, Nat.zero_add]); first | (with_reducible assumption) | rfl)) | (apply And.intro; (first | rfl | (with_reducible assumption) | exact Nat.le_of_ble_eq_true rfl | omega)) | (refine ACall.to (call1 _ (AH.set_same _ _ _)) ?_))) <;> (try (conv => whnf))
          exact ⟨1, by omega, by omega, ⟨rfl, trivial⟩, HLe.of_eq (Eq.symm (AH.set_set _ _ _ _))⟩
        · rw [if_neg (by omega), if_pos rfl]
          (repeat' ((conv => whnf); first | refine Then.mk ?_ | left | refine OpsA.cons ?_ | refine OpsA.nil ?_ | refine AWq.seq ?_ | refine AWq.region ?_ | refine AWq.cond ?_ | refine AWq.block ?_ | refine AWq.skip ?_ | refine AWq.ret ?_ | refine AWq.exit ?_ | refine AWq.loop ?_ | (refine Both.mk ?_ ?_ <;> intro hc <;> (first | exact Bool.noConfusion hc | exact absurd (by with_reducible rfl) hc | (exfalso; omega) | skip)) | (intro c hc; (try (simp only [AH.none_iff] at hc; repeat (have hn := hc.1; replace hc := hc.2))); (first | (refine i64_k hc ?_ ?_ ?_ ; omega; omega; (clear hc; intro hc; subst hc)) | skip)) | (apply Exists.intro; apply And.intro; (first | (focus (repeat (first | (with_reducible assumption) | (with_reducible exact AH.set_same _ _ _) | ((first | refine AH.get_ne ?_ ?_); (first | (with_reducible assumption))))); done))) | (apply Exists.intro; apply And.intro; first | (with_reducible assumption) | ((try simp only [List.getElem?_drop, Nat.mul_one, Nat.add_zero, Nat.zero_add]); first | (with_reducible assumption) | rfl)) | (apply And.intro; (first | rfl | (with_reducible assumption) | exact Nat.le_of_ble_eq_true rfl | omega)) | (refine ACall.to (call2 _ (AH.set_same _ _ _)) ?_))) <;> (try (conv => whnf))
          exact ⟨2, by omega, by omega, ⟨rfl, trivial⟩, HLe.of_eq (Eq.symm (AH.set_set _ _ _ _))⟩
        · rw [if_neg (by omega), if_neg (by omega)]
          (repeat' ((conv => whnf); first | refine Then.mk ?_ | left | refine OpsA.cons ?_ | refine OpsA.nil ?_ | refine AWq.seq ?_ | refine AWq.region ?_ | refine AWq.cond ?_ | refine AWq.block ?_ | refine AWq.skip ?_ | refine AWq.ret ?_ | refine AWq.exit ?_ | refine AWq.loop ?_ | (refine Both.mk ?_ ?_ <;> intro hc <;> (first | exact Bool.noConfusion hc | exact absurd (by with_reducible rfl) hc | (exfalso; omega) | skip)) | (intro c hc; (try (simp only [AH.none_iff] at hc; repeat (have hn := hc.1; replace hc := hc.2))); (first | (refine i64_k hc ?_ ?_ ?_ ; omega; omega; (clear hc; intro hc; subst hc)) | skip)) | (apply Exists.intro; apply And.intro; (first | (focus (repeat (first | (with_reducible assumption) | (with_reducible exact AH.set_same _ _ _) | ((first | refine AH.get_ne ?_ ?_); (first | (with_reducible assumption))))); done))) | (apply Exists.intro; apply And.intro; first | (with_reducible assumption) | ((try simp only [List.getElem?_drop, Nat.mul_one, Nat.add_zero, Nat.zero_add]); first | (with_reducible assumption) | rfl)) | (apply And.intro; (first | rfl | (with_reducible assumption) | exact Nat.le_of_ble_eq_true rfl | omega)))) <;> (try (conv => whnf))
          exact ⟨(j, N2, 4 * b), ⟨by omega, c2, hfw3, hb2⟩, by show j < j + 1; omega, ⟨congrArg (AV.int .i64) (by rw [← hP]; exact hdv), trivial⟩, HLe.refl _⟩
open Go.Fw Go

theorem fwd_out : ∀ (k : Nat) (M : Mat) (r c : Nat), ¬ (r < 2 ^ k ∧ c < 2 ^ k) → fwd k M r c = M r c
  | 0, M, r, c, h => rfl
  | k + 1, M, r, c, h => by
    have h2 : ¬ (r < 2 ^ k ∧ c < 2 ^ k) := fun hh => h (by rw [pow_half]; omega)
    show fwd k _ r c = _
    rw [fwd_out k _ r c h2]
    unfold colsM rowsM
    rw [if_neg h, if_neg h]
theorem inv_out : ∀ (k : Nat) (M : Mat) (r c : Nat), ¬ (r < 2 ^ k ∧ c < 2 ^ k) → inv k M r c = M r c
  | 0, M, r, c, h => rfl
  | k + 1, M, r, c, h => by
    have h2 : ¬ (r < 2 ^ k ∧ c < 2 ^ k) := fun hh => h (by rw [pow_half]; omega)
    show rowsM joi _ (colsM joi _ (inv k M)) r c = _
    unfold rowsM
    rw [if_neg h]
    unfold colsM
    rw [if_neg h, inv_out k M r c h2]
theorem ofL_toL {s : Nat} {M : Mat} (h : ∀ r c, ¬ (r < s ∧ c < s) → M r c = 0) : ofL s (toL s M) = M := by
  funext r c
  unfold ofL
  by_cases hrc : r < s ∧ c < s
  · rw [if_pos hrc, toL_getD M hrc.1 hrc.2]
  · rw [if_neg hrc, h r c hrc]
theorem ofL_out (s : Nat) (a : List Int) (r c : Nat) (h : ¬ (r < s ∧ c < s)) : ofL s a r c = 0 := by unfold ofL; rw [if_neg h]

theorem fwd_ofL (k : Nat) (a : List Int) : ofL (2 ^ k) (toL (2 ^ k) (fwd k (ofL (2 ^ k) a))) = fwd k (ofL (2 ^ k) a) :=
  ofL_toL fun r c h => by rw [fwd_out k _ r c h, ofL_out _ _ _ _ h]
theorem inB_toL {s : Nat} {M : Mat} {m : Int} (h : BndS s m M) : inB m (toL s M) = true := by
  rw [inB_iff]
  intro x hx
  unfold toL at hx
  obtain ⟨p, hp, rfl⟩ := List.mem_map.1 hx
  have hp : p < s * s := by simpa using hp
  obtain ⟨h1, h2, _⟩ := place' hp
  exact h _ _ h1 h2
theorem spl_lo {h : Nat} {x : Ln} {B : Int} (hx : ∀ c, c < 2 * h → -B ≤ x c ∧ x c ≤ B) (c : Nat) (hc : c < h) : -B ≤ spl (2 * h) x c ∧ spl (2 * h) x c ≤ B := by
  unfold spl
  rw [if_pos (by omega)]
  have := hx (2 * c) (by omega); have := hx (2 * c + 1) (by omega); omega
theorem fwd_step {h s : Nat} {B : Int} (hB : 0 ≤ B) (hs : 2 * h ≤ s) {M : Mat} (h1 : ∀ r c, r < 2 * h → c < 2 * h → -B ≤ M r c ∧ M r c ≤ B) :
    (∀ r c, r < h → c < h → -B ≤ colsM spl (2 * h) (rowsM spl (2 * h) M) r c ∧ colsM spl (2 * h) (rowsM spl (2 * h) M) r c ≤ B) ∧
    (∀ r c, r < 2 * h → c < 2 * h → -(4 * B) ≤ colsM spl (2 * h) (rowsM spl (2 * h) M) r c ∧ colsM spl (2 * h) (rowsM spl (2 * h) M) r c ≤ 4 * B) := by
  have r1 : ∀ r c, r < 2 * h → c < h → -B ≤ rowsM spl (2 * h) M r c ∧ rowsM spl (2 * h) M r c ≤ B := fun r c hr hc => by
    unfold rowsM; rw [if_pos (by omega)]; exact spl_lo (fun k hk => h1 r k hr hk) c hc
  have r2 : ∀ r c, r < 2 * h → c < 2 * h → -(2 * B) ≤ rowsM spl (2 * h) M r c ∧ rowsM spl (2 * h) M r c ≤ 2 * B := fun r c hr hc => by
    unfold rowsM; rw [if_pos (by omega)]; exact spl_bd (fun k hk => h1 r k hr hk) c hc
  generalize rowsM spl (2 * h) M = N at *
  refine ⟨fun r c hr hc => ?_, fun r c hr hc => ?_⟩
  · unfold colsM; rw [if_pos (by omega)]; exact spl_lo (x := fun k => N k c) (fun k hk => r1 k c hk hc) r hr
  · unfold colsM; rw [if_pos (by omega)]
    have := spl_bd (x := fun k => N k c) (fun k hk => r2 k c hk hc) r hr
    omega

theorem fwd_bd {s : Nat} {B : Int} (hB : 0 ≤ B) : ∀ (k : Nat) (M : Mat), 2 ^ k ≤ s → (∀ r c, r < 2 ^ k → c < 2 ^ k → -B ≤ M r c ∧ M r c ≤ B) → BndS s (4 * B) M → BndS s (4 * B) (fwd k M)
  | 0, M, _, _, h => h
  | k + 1, M, hs, h1, h2 => by
    rw [pow_half] at hs h1
    obtain ⟨a1, a2⟩ := fwd_step hB hs h1
    show BndS s (4 * B) (fwd k (colsM spl (2 ^ (k + 1)) (rowsM spl (2 ^ (k + 1)) M)))
    rw [pow_half]
    refine fwd_bd hB k _ (by omega) a1 (fun r c hr hc => ?_)
    by_cases hrc : r < 2 * 2 ^ k ∧ c < 2 * 2 ^ k
    · exact a2 r c hrc.1 hrc.2
    · unfold colsM rowsM
      rw [if_neg hrc, if_neg hrc]
      exact h2 r c hr hc

open Go.Fw Go

set_option maxRecDepth 8000 in
theorem Inverse_ok (k : Nat) (hk : k ≤ 4) (a : List Int) (hl : a.length = 2 ^ k * 2 ^ k) (hi : inB 4398046511104 a = true) (H : AH) :
    ACall Try.prog 64 [.int .i64 (2 ^ k : Nat), .cs (iS .i64 a) a.length] H (fun y H' => y = resV (toL (2 ^ k) (inv k (ofL (2 ^ k) a)), 0) ∧ H' = H) := by
  have hst := fun H => start_ok k hk a 4398046511104 (by omega) hl hi H
  have hS := (pow_side hk).2
  have hbd := inB_bnd (by omega) hi (2 ^ k)
  have hof := toL_ofL hl
  refine ACall.told ?_
  refine ACall_of tt_ok (dok _) Try.func64 rfl (by decide) rfl ?_
  (repeat' ((conv => whnf); first | refine Then.mk ?_ | left | refine OpsA.cons ?_ | refine OpsA.nil ?_ | refine AWq.seq ?_ | refine AWq.region ?_ | refine AWq.cond ?_ | refine AWq.block ?_ | refine AWq.skip ?_ | refine AWq.ret ?_ | refine AWq.exit ?_ | refine AWq.loop ?_ | (refine Both.mk ?_ ?_ <;> intro hc <;> (first | exact Bool.noConfusion hc | exact absurd (by with_reducible rfl) hc | exact absurd hc (by assumption) | (exfalso; omega) | skip)) | (intro c hc; (try (simp only [AH.none_iff] at hc; repeat (have hn := hc.1; replace hc := hc.2))); (first | (refine i64_k hc ?_ ?_ ?_ ; omega; omega; (clear hc; intro hc; subst hc)) | skip)) | (apply Exists.intro; apply And.intro; (first | (focus (repeat (first | (with_reducible assumption) | (with_reducible exact AH.set_same _ _ _) | ((first | refine AH.get_ne ?_ ?_); (first | (with_reducible assumption))))); done))) | (apply Exists.intro; apply And.intro; first | (with_reducible assumption) | ((try simp only [List.getElem?_drop, Nat.mul_one, Nat.add_zero, Nat.zero_add]); first | (with_reducible assumption) | rfl)) | (apply And.intro; (first | rfl | (with_reducible assumption) | exact Nat.le_of_ble_eq_true rfl | omega)))) <;> (try (conv => whnf))
  refine (hst _).mono ?_
  rintro y H' ⟨q, u, rfl, hq, rfl⟩
  (repeat' ((conv => whnf); first | refine Then.mk ?_ | left | refine OpsA.cons ?_ | refine OpsA.nil ?_ | refine AWq.seq ?_ | refine AWq.region ?_ | refine AWq.cond ?_ | refine AWq.block ?_ | refine AWq.skip ?_ | refine AWq.ret ?_ | refine AWq.exit ?_ | refine AWq.loop ?_ | (refine Both.mk ?_ ?_ <;> intro hc <;> (first | exact Bool.noConfusion hc | exact absurd (by with_reducible rfl) hc | exact absurd hc (by assumption) | (exfalso; omega) | skip)) | (intro c hc; (try (simp only [AH.none_iff] at hc; repeat (have hn := hc.1; replace hc := hc.2))); (first | (refine i64_k hc ?_ ?_ ?_ ; omega; omega; (clear hc; intro hc; subst hc)) | skip)) | (apply Exists.intro; apply And.intro; (first | (focus (repeat (first | (with_reducible assumption) | (with_reducible exact AH.set_same _ _ _) | ((first | refine AH.get_ne ?_ ?_); (first | (with_reducible assumption))))); done))) | (apply Exists.intro; apply And.intro; first | (with_reducible assumption) | ((try simp only [List.getElem?_drop, Nat.mul_one, Nat.add_zero, Nat.zero_add]); first | (with_reducible assumption) | rfl)) | (apply And.intro; (first | rfl | (with_reducible assumption) | exact Nat.le_of_ble_eq_true rfl | omega)))) <;> (try (conv => whnf))
  have hcc : H c = none := by assumption
  have hcq : c ≠ q := by assumption
  obtain ⟨w, hw⟩ : ∃ w, w = c := ⟨_, rfl⟩
  rw [← hw] at hcc hcq ⊢
  clear hw
  have hqw : q ≠ w := Ne.symm hcq
  rw [hl]
  obtain ⟨S, hSS⟩ : ∃ S, S = 2 ^ k := ⟨_, rfl⟩
  rw [← hSS] at hS hbd hof ⊢
  have hm0 : mL S (ofL S a) = iS .i64 a := by unfold mL; rw [hof]
  refine AWp_loop (σ := Nat × Mat × Nat) (8 :: 10 :: 20 :: 21 :: 22 :: 23 :: 24 :: 25 :: 26 :: 27 :: 28 :: 29 :: 30 :: 31 :: 32 :: 33 :: 34 :: 35 :: 36 :: 37 :: 38 :: []) (fun (j, N, b) => [(8, .int .i64 (2 ^ (j + 1) : Nat))]) (fun (j, N, b) => (AH.set H w (.row [.int .i64 S, .sl q u 1 0 (S * S) none] 0)).set q (.row (mL S N) u))
    (fun (j, N, b) => j ≤ k ∧ BndS S b N ∧ N = inv j (ofL S a) ∧ 1 ≤ b ∧ b * 16 ^ (k - j) ≤ 288230376151711744) (fun (j, N, b) => k - j) (0, ofL S a, 4398046511104) rfl ?_ ?_ ?_ ?_
  · refine ⟨Nat.zero_le _, hbd, rfl, by show 1 ≤ 4398046511104; omega, ?_⟩
    have : 16 ^ (k - 0) ≤ 16 ^ 4 := Nat.pow_le_pow_right (by omega) (by omega)
    show 4398046511104 * 16 ^ (k - 0) ≤ _
    omega
  · exact ⟨rfl, trivial⟩
  · refine HLe.of_eq ?_
    show (AH.set H w _).set q (.row (mL S (ofL S a)) u) = _
    rw [hm0]
    ((funext s; simp only [AH.set, AH.del]; repeat' split) <;> (first | rfl | (exfalso; omega)))
  · rintro ⟨j, N, b⟩ ⟨hj, hN, hfw, hb1, hb⟩
    dsimp only at hj hN hfw hb1 hb ⊢
    refine AWp.of tt_ok (dok _) rfl ?_
    by_cases hjk : j = k
    · subst hjk
      have hgt : ¬ ((2 ^ (j + 1) : Nat) : Int) ≤ (S : Int) := by rw [pow_half, ← hSS]; omega
      (repeat' ((conv => whnf); first | left | refine OpsA.cons ?_ | refine OpsA.nil ?_ | refine AWq.seq ?_ | refine AWq.region ?_ | refine AWq.cond ?_ | refine AWq.block ?_ | refine AWq.skip ?_ | refine AWq.ret ?_ | refine AWq.exit ?_ | refine AWq.loop ?_ | (refine Both.mk ?_ ?_ <;> intro hc <;> (first | exact Bool.noConfusion hc | exact absurd (by with_reducible rfl) hc | exact absurd hc (by assumption) | (exfalso; omega) | skip)) | (intro c hc; (try (simp only [AH.none_iff] at hc; repeat (have hn := hc.1; replace hc := hc.2))); (first | (refine i64_k hc ?_ ?_ ?_ ; omega; omega; (clear hc; intro hc; subst hc)) | skip)) | (apply Exists.intro; apply And.intro; (first | (focus (repeat (first | (with_reducible assumption) | (with_reducible exact AH.set_same _ _ _) | ((first | refine AH.get_ne ?_ ?_); (first | (with_reducible assumption))))); done))) | (apply Exists.intro; apply And.intro; first | (with_reducible assumption) | ((try simp only [List.getElem?_drop, Nat.mul_one, Nat.add_zero, Nat.zero_add]); first | (with_reducible assumption) | rfl)) | (apply And.intro; (first | rfl | (with_reducible assumption) | exact Nat.le_of_ble_eq_true rfl | omega)))) <;> (try (conv => whnf))
      refine Then.mk ?_
      (repeat' ((conv => whnf); first | left | refine OpsA.cons ?_ | refine OpsA.nil ?_ | refine AWq.seq ?_ | refine AWq.region ?_ | refine AWq.cond ?_ | refine AWq.block ?_ | refine AWq.skip ?_ | refine AWq.ret ?_ | refine AWq.exit ?_ | refine AWq.loop ?_ | (refine Both.mk ?_ ?_ <;> intro hc <;> (first | exact Bool.noConfusion hc | exact absurd (by with_reducible rfl) hc | exact absurd hc (by assumption) | (exfalso; omega) | skip)) | (intro c hc; (try (simp only [AH.none_iff] at hc; repeat (have hn := hc.1; replace hc := hc.2))); (first | (refine i64_k hc ?_ ?_ ?_ ; omega; omega; (clear hc; intro hc; subst hc)) | skip)) | (apply Exists.intro; apply And.intro; (first | (focus (repeat (first | (with_reducible assumption) | (with_reducible exact AH.set_same _ _ _) | ((first | refine AH.get_ne ?_ ?_); (first | (with_reducible assumption))))); done))) | (apply Exists.intro; apply And.intro; first | (with_reducible assumption) | ((try simp only [List.getElem?_drop, Nat.mul_one, Nat.add_zero, Nat.zero_add]); first | (with_reducible assumption) | rfl)) | (apply And.intro; (first | rfl | (with_reducible assumption) | exact Nat.le_of_ble_eq_true rfl | omega)))) <;> (try (conv => whnf))
      refine Then.mk ?_
      (repeat' ((conv => whnf); first | left | refine OpsA.cons ?_ | refine OpsA.nil ?_ | refine AWq.seq ?_ | refine AWq.region ?_ | refine AWq.cond ?_ | refine AWq.block ?_ | refine AWq.skip ?_ | refine AWq.ret ?_ | refine AWq.exit ?_ | refine AWq.loop ?_ | (refine Both.mk ?_ ?_ <;> intro hc <;> (first | exact Bool.noConfusion hc | exact absurd (by with_reducible rfl) hc | exact absurd hc (by assumption) | (exfalso; omega) | skip)) | (intro c hc; (try (simp only [AH.none_iff] at hc; repeat (have hn := hc.1; replace hc := hc.2))); (first | (refine i64_k hc ?_ ?_ ?_ ; omega; omega; (clear hc; intro hc; subst hc)) | skip)) | (apply Exists.intro; apply And.intro; (first | (focus (repeat (first | (with_reducible assumption) | (with_reducible exact AH.set_same _ _ _) | ((first | refine AH.get_ne ?_ ?_); (first | (with_reducible assumption))))); done))) | (apply Exists.intro; apply And.intro; first | (with_reducible assumption) | ((try simp only [List.getElem?_drop, Nat.mul_one, Nat.add_zero, Nat.zero_add]); first | (with_reducible assumption) | rfl)) | (apply And.intro; (first | rfl | (with_reducible assumption) | exact Nat.le_of_ble_eq_true rfl | omega)))) <;> (try (conv => whnf))
      refine Then.mk (AWq.in ?_)
      refine AWp_freeze1 (es := 1) (n := S * S) (lim := none) (cells := mL S N) 4 rfl rfl (AH.set_same _ _ _) (by simp) ?_
      refine AWp.of tt_ok (dok _) rfl ?_
      (repeat' ((conv => whnf); first | refine Then.mk ?_ | refine OpsA.cons ?_ | refine OpsA.nil ?_ | refine AWq.seq ?_ | refine AWq.region ?_ | refine AWq.cond ?_ | refine AWq.block ?_ | refine AWq.skip ?_ | refine AWq.ret ?_ | refine AWq.exit ?_ | refine AWq.loop ?_ | (refine Both.mk ?_ ?_ <;> intro hc <;> (first | exact Bool.noConfusion hc | exact absurd (by with_reducible rfl) hc | exact absurd hc (by assumption) | (exfalso; omega) | skip)) | (intro c hc; (try (simp only [AH.none_iff] at hc; repeat (have hn := hc.1; replace hc := hc.2))); (first | (refine i64_k hc ?_ ?_ ?_ ; omega; omega; (clear hc; intro hc; subst hc)) | skip)) | (apply Exists.intro; apply And.intro; (first | (focus (repeat (first | (with_reducible assumption) | (with_reducible exact AH.set_same _ _ _) | ((first | refine AH.get_ne ?_ ?_); (first | (with_reducible assumption))))); done))) | (apply Exists.intro; apply And.intro; first | (with_reducible assumption) | ((try simp only [List.getElem?_drop, Nat.mul_one, Nat.add_zero, Nat.zero_add]); first | (with_reducible assumption) | rfl)) | (apply And.intro; (first | rfl | (with_reducible assumption) | exact Nat.le_of_ble_eq_true rfl | omega)))) <;> (try (conv => whnf))
      rw [← hfw]
      refine ⟨resV (toL S N, 0), H, ?_, HLe.del _ (HLe.set_of _ _ (HLe.fresh _ hcc) hq) hq, rfl, rfl⟩
      unfold resV
      rw [show (toL S N).length = S * S from toL_len S N]
      exact AVle.refl _
    · have hP1 : 1 ≤ 2 ^ j := Nat.one_le_two_pow
      have hPS : 2 ^ (j + 1) ≤ S := by rw [hSS]; exact Nat.pow_le_pow_right (by omega) (by omega)
      rw [pow_half] at hPS
      have hfw2 : rowsM joi (2 * 2 ^ j) (colsM joi (2 * 2 ^ j) N) = inv (j + 1) (ofL S a) := by rw [hfw, ← pow_half]; rfl
      rw [pow_half]
      have hb2 : 16 * b * 16 ^ (k - (j + 1)) ≤ 288230376151711744 := by rw [Nat.mul_comm 16 b, Nat.mul_assoc, ← Nat.pow_succ', show (k - (j + 1)).succ = k - j by omega]; exact hb
      have hb3 : 16 * b ≤ 288230376151711744 := Nat.le_trans (Nat.le_mul_of_pos_right _ (Nat.pow_pos (by omega))) hb2
      have hdv : ((2 ^ (j + 1 + 1) : Nat) : Int) = ((2 * 2 ^ j : Nat) : Int) * 2 := by rw [pow_half, pow_half]; omega
      obtain ⟨P, hP⟩ : ∃ P, P = 2 ^ j := ⟨_, rfl⟩
      rw [← hP] at hP1 hPS hfw2 hdv ⊢
      (repeat' ((conv => whnf); first | refine Then.mk ?_ | left | refine OpsA.cons ?_ | refine OpsA.nil ?_ | refine AWq.seq ?_ | refine AWq.region ?_ | refine AWq.cond ?_ | refine AWq.block ?_ | refine AWq.skip ?_ | refine AWq.ret ?_ | refine AWq.exit ?_ | refine AWq.loop ?_ | (refine Both.mk ?_ ?_ <;> intro hc <;> (first | exact Bool.noConfusion hc | exact absurd (by with_reducible rfl) hc | exact absurd hc (by assumption) | (exfalso; omega) | skip)) | (intro c hc; (try (simp only [AH.none_iff] at hc; repeat (have hn := hc.1; replace hc := hc.2))); (first | (refine i64_k hc ?_ ?_ ?_ ; omega; omega; (clear hc; intro hc; subst hc)) | skip)) | (apply Exists.intro; apply And.intro; (first | (focus (repeat (first | (with_reducible assumption) | (with_reducible exact AH.set_same _ _ _) | ((first | refine AH.get_ne ?_ ?_); (first | (with_reducible assumption))))); done))) | (apply Exists.intro; apply And.intro; first | (with_reducible assumption) | ((try simp only [List.getElem?_drop, Nat.mul_one, Nat.add_zero, Nat.zero_add]); first | (with_reducible assumption) | rfl)) | (apply And.intro; (first | rfl | (with_reducible assumption) | exact Nat.le_of_ble_eq_true rfl | omega)))) <;> (try (conv => whnf))
      obtain ⟨N1, hN1⟩ : ∃ N1, N1 = colsM joi (2 * P) N := ⟨_, rfl⟩
      obtain ⟨N2, hN2⟩ : ∃ N2, N2 = rowsM joi (2 * P) N1 := ⟨_, rfl⟩
      have c1 : BndS S (4 * (b : Int)) N1 := by rw [hN1]; exact cols_bd hPS (by omega) (fun x hx c hc => joi_bd (by omega) hx c hc) hN
      have c2 : BndS S ((16 * b : Nat) : Int) N2 := by
        have : ((16 * b : Nat) : Int) = 4 * (4 * (b : Int)) := by omega
        rw [hN2, this]; exact rows_bd hPS (by omega) (fun x hx c hc => joi_bd (by omega) hx c hc) c1
      have call1 := fun K h => columns_c (H := K) hS.1 hPS (join_f P (by omega) (b : Int) (by omega)) N hN q u h
      have call2 := fun K h => rows_c (H := K) hS.1 hPS (join_f P (by omega) (4 * (b : Int)) (by omega)) N1 c1 q u h
      rw [← hN1] at call1
      rw [← hN2] at call2
      have hfw3 : N2 = inv (j + 1) (ofL S a) := by rw [hN2, hN1]; exact hfw2
      refine AWp_loop (σ := Nat) (10 :: 31 :: 32 :: 33 :: 34 :: 35 :: 36 :: 37 :: 38 :: []) (fun i => [(31, .int .i64 i)]) (fun i => (AH.set H w (.row [.int .i64 S, .sl q u 1 0 (S * S) none] 0)).set q (.row (mL S (if i = 0 then N else if i = 1 then N1 else N2)) u)) (fun i => i ≤ 2) (fun i => 2 - i) 0 rfl ?_ ?_ ?_ ?_
      · exact Nat.zero_le _
      · exact ⟨rfl, trivial⟩
      · exact HLe.refl _
      · rintro i hi
        refine AWp.of tt_ok (dok _) rfl ?_
        rcases (show i = 0 ∨ i = 1 ∨ i = 2 by omega) with rfl | rfl | rfl
        · rw [if_pos rfl]
          (repeat' ((conv => whnf); first | refine Then.mk ?_ | left | refine OpsA.cons ?_ | refine OpsA.nil ?_ | refine AWq.seq ?_ | refine AWq.region ?_ | refine AWq.cond ?_ | refine AWq.block ?_ | refine AWq.skip ?_ | refine AWq.ret ?_ | refine AWq.exit ?_ | refine AWq.loop ?_ | (refine Both.mk ?_ ?_ <;> intro hc <;> (first | exact Bool.noConfusion hc | exact absurd (by with_reducible rfl) hc | exact absurd hc (by assumption) | (exfalso; omega) | skip)) | (intro c hc; (try (simp only [AH.none_iff] at hc; repeat (have hn := hc.1; replace hc := hc.2))); (first | (refine i64_k hc ?_ ?_ ?_ ; omega; omega; (clear hc; intro hc; subst hc)) | skip)) | (apply Exists.intro; apply And.intro; (first | (focus (repeat (first | (with_reducible assumption) | (with_reducible exact AH.set_same _ _ _) | ((first | refine AH.get_ne ?_ ?_); (first | (with_reducible assumption))))); done))) | (apply Exists.intro; apply And.intro; first | (with_reducible assumption) | ((try simp only [List.getElem?_drop, Nat.mul_one, Nat.add_zero, Nat.zero_add]); first | (with_reducible assumption) | rfl)) | (apply And.intro; (first | rfl | (with_reducible assumption) | exact Nat.le_of_ble_eq_true rfl | omega)) | (refine ACall.to (call1 _ (AH.set_same _ _ _)) ?_))) <;> (try (conv => whnf))
          exact ⟨1, by omega, by omega, ⟨rfl, trivial⟩, HLe.of_eq (Eq.symm (AH.set_set _ _ _ _))⟩
        · rw [if_neg (by omega), if_pos rfl]
          (repeat' ((conv => whnf); first | refine Then.mk ?_ | left | refine OpsA.cons ?_ | refine OpsA.nil ?_ | refine AWq.seq ?_ | refine AWq.region ?_ | refine AWq.cond ?_ | refine AWq.block ?_ | refine AWq.skip ?_ | refine AWq.ret ?_ | refine AWq.exit ?_ | refine AWq.loop ?_ | (refine Both.mk ?_ ?_ <;> intro hc <;> (first | exact Bool.noConfusion hc | exact absurd (by with_reducible rfl) hc | exact absurd hc (by assumption) | (exfalso; omega) | skip)) | (intro c hc; (try (simp only [AH.none_iff] at hc; repeat (have hn := hc.1; replace hc := hc.2))); (first | (refine i64_k hc ?_ ?_ ?_ ; omega; omega; (clear hc; intro hc; subst hc)) | skip)) | (apply Exists.intro; apply And.intro; (first | (focus (repeat (first | (with_reducible assumption) | (with_reducible exact AH.set_same _ _ _) | ((first | refine AH.get_ne ?_ ?_); (first | (with_reducible assumption))))); done))) | (apply Exists.intro; apply And.intro; first | (with_reducible assumption) | ((try simp only [List.getElem?_drop, Nat.mul_one, Nat.add_zero, Nat.zero_add]); first | (with_reducible assumption) | rfl)) | (apply And.intro; (first | rfl | (with_reducible assumption) | exact Nat.le_of_ble_eq_true rfl | omega)) | (refine ACall.to (call2 _ (AH.set_same _ _ _)) ?_))) <;> (try (conv => whnf))
          exact ⟨2, by omega, by omega, ⟨rfl, trivial⟩, HLe.of_eq (Eq.symm (AH.set_set _ _ _ _))⟩
        · rw [if_neg (by omega), if_neg (by omega)]
          (repeat' ((conv => whnf); first | refine Then.mk ?_ | left | refine OpsA.cons ?_ | refine OpsA.nil ?_ | refine AWq.seq ?_ | refine AWq.region ?_ | refine AWq.cond ?_ | refine AWq.block ?_ | refine AWq.skip ?_ | refine AWq.ret ?_ | refine AWq.exit ?_ | refine AWq.loop ?_ | (refine Both.mk ?_ ?_ <;> intro hc <;> (first | exact Bool.noConfusion hc | exact absurd (by with_reducible rfl) hc | exact absurd hc (by assumption) | (exfalso; omega) | skip)) | (intro c hc; (try (simp only [AH.none_iff] at hc; repeat (have hn := hc.1; replace hc := hc.2))); (first | (refine i64_k hc ?_ ?_ ?_ ; omega; omega; (clear hc; intro hc; subst hc)) | skip)) | (apply Exists.intro; apply And.intro; (first | (focus (repeat (first | (with_reducible assumption) | (with_reducible exact AH.set_same _ _ _) | ((first | refine AH.get_ne ?_ ?_); (first | (with_reducible assumption))))); done))) | (apply Exists.intro; apply And.intro; first | (with_reducible assumption) | ((try simp only [List.getElem?_drop, Nat.mul_one, Nat.add_zero, Nat.zero_add]); first | (with_reducible assumption) | rfl)) | (apply And.intro; (first | rfl | (with_reducible assumption) | exact Nat.le_of_ble_eq_true rfl | omega)))) <;> (try (conv => whnf))
          exact ⟨(j + 1, N2, 16 * b), ⟨by show j + 1 ≤ k; omega, c2, hfw3, by show 1 ≤ 16 * b; omega, hb2⟩, by show k - (j + 1) < k - j; omega, ⟨congrArg (AV.int .i64) hdv.symm, trivial⟩, HLe.refl _⟩

set_option maxRecDepth 8000 in
theorem Inverse_c (s : Int) (h1 : -9223372036854775808 ≤ s) (h2 : s ≤ 9223372036854775807) (a : List Int) (hb : a.length ≤ 1000000) (H : AH) :
    ACall Try.prog 64 [.int .i64 s, .cs (iS .i64 a) a.length] H (fun y H' => y = resV (sqR 4398046511104 inv s a) ∧ H' = H) := by
  obtain ⟨R, hR⟩ : ∃ R, R = sqR 4398046511104 inv s a := ⟨_, rfl⟩
  rw [← hR]
  unfold sqR at hR
  by_cases h : IsSide s ∧ (a.length : Int) = s * s
  · rw [if_pos h] at hR
    obtain ⟨k, hk, rfl⟩ := side_pow h.1
    have hl : a.length = 2 ^ k * 2 ^ k := by have := h.2; rw [← Int.natCast_mul] at this; omega
    by_cases hi : inB 4398046511104 a = true
    · rw [if_pos hi, Int.toNat_natCast, Nat.log2_two_pow] at hR
      rw [hR]
      exact Inverse_ok k hk a hl hi H
    · rw [if_neg hi] at hR
      have hi : inB 4398046511104 a = false := by simpa using hi
      have hst := fun H => start_rng k hk a 4398046511104 (by omega) hl hi H
      generalize 2 ^ k = S at *
      refine ACall.told ?_
      refine ACall_of tt_ok (dok _) Try.func64 rfl (by decide) rfl ?_
      (repeat' ((conv => whnf); first | refine Then.mk ?_ | refine OpsA.cons ?_ | refine OpsA.nil ?_ | refine AWq.seq ?_ | refine AWq.region ?_ | refine AWq.cond ?_ | refine AWq.ret ?_ | (refine Both.mk ?_ ?_ <;> intro hc <;> (first | exact Bool.noConfusion hc | (exfalso; omega) | skip)) | (intro c hc; (try (simp only [AH.none_iff] at hc; repeat (have hn := hc.1; replace hc := hc.2))); (first | skip)) | (apply Exists.intro; apply And.intro; (first | (focus (repeat (first | (with_reducible exact AH.set_same _ _ _))); done))) | (apply And.intro; (first | rfl | exact Nat.le_of_ble_eq_true rfl)) | (refine ACall.to (hst _) ?_))) <;> (try (conv => whnf))
      have hc0 : H c = none := by assumption
      refine ⟨resV R, H, by rw [hR]; exact AVle.tup (AVles.cons AVle.nils (AVles.refl _)), HLe.set_of _ _ (HLe.fresh _ hc0) hc0, rfl, rfl⟩
  · rw [if_neg h] at hR
    have hst := fun H => start_bad s h1 h2 a hb 4398046511104 h H
    refine ACall.told ?_
    refine ACall_of tt_ok (dok _) Try.func64 rfl (by decide) rfl ?_
    (repeat' ((conv => whnf); first | refine Then.mk ?_ | refine OpsA.cons ?_ | refine OpsA.nil ?_ | refine AWq.seq ?_ | refine AWq.region ?_ | refine AWq.cond ?_ | refine AWq.ret ?_ | (refine Both.mk ?_ ?_ <;> intro hc <;> (first | exact Bool.noConfusion hc | (exfalso; omega) | skip)) | (intro c hc; (try (simp only [AH.none_iff] at hc; repeat (have hn := hc.1; replace hc := hc.2))); (first | skip)) | (apply Exists.intro; apply And.intro; (first | (focus (repeat (first | (with_reducible exact AH.set_same _ _ _))); done))) | (apply And.intro; (first | rfl | exact Nat.le_of_ble_eq_true rfl)) | (refine ACall.to (hst _) ?_))) <;> (try (conv => whnf))
    have hc0 : H c = none := by assumption
    refine ⟨resV R, H, by rw [hR]; exact AVle.tup (AVles.cons AVle.nils (AVles.refl _)), HLe.set_of _ _ (HLe.fresh _ hc0) hc0, rfl, rfl⟩
open Go.Fw Go

set_option maxRecDepth 8000 in
theorem Half_c (n : Int) (h1 : -9223372036854775807 ≤ n) (h2 : n ≤ 9223372036854775807) (H : AH) : ACall Try.prog 15 [.int .i64 n] H (fun y H' => y = .int .i64 (n / 2) ∧ H' = H) := by
  by_cases hn : 0 ≤ n
  · have e : n.tdiv 2 = n / 2 := Int.tdiv_eq_ediv_of_nonneg hn
    refine ACall_of tt_ok (dok _) Try.func15 rfl (by decide) rfl ?_
    (repeat' ((conv => whnf); first | refine Then.mk ?_ | refine OpsA.cons ?_ | refine OpsA.nil ?_ | refine AWq.seq ?_ | refine AWq.region ?_ | refine AWq.cond ?_ | refine AWq.skip ?_ | refine AWq.ret ?_ | (refine Both.mk ?_ ?_ <;> intro hc <;> (first | exact Bool.noConfusion hc | (exfalso; omega) | skip)) | (intro c hc; (try (simp only [AH.none_iff] at hc; repeat (have hn := hc.1; replace hc := hc.2))); (first | (have hc2 := Eq.trans hc (by with_reducible assumption); clear hc; subst hc2) | (refine i64_k hc ?_ ?_ ?_ ; omega; omega; (clear hc; intro hc; subst hc)) | skip)) | (apply And.intro; (first | rfl | omega | (simp <;> omega))))) <;> (try (conv => whnf))
    all_goals exact ⟨congrArg (AV.int .i64) (by omega), rfl⟩
  · obtain ⟨m, hm⟩ : ∃ m : Nat, n = -(m : Int) := ⟨(-n).toNat, by omega⟩
    have e1 : n.tdiv 2 = -((m / 2 : Nat) : Int) := by
      rw [hm, Int.neg_tdiv, Int.tdiv_eq_ediv_of_nonneg (by omega)]; omega
    have e2 : n.tmod 2 = -((m % 2 : Nat) : Int) := by
      rw [hm, Int.neg_tmod, Int.tmod_eq_emod_of_nonneg (by omega)]; omega
    refine ACall_of tt_ok (dok _) Try.func15 rfl (by decide) rfl ?_
    (repeat' ((conv => whnf); first | refine Then.mk ?_ | refine OpsA.cons ?_ | refine OpsA.nil ?_ | refine AWq.seq ?_ | refine AWq.region ?_ | refine AWq.cond ?_ | refine AWq.skip ?_ | refine AWq.ret ?_ | (refine Both.mk ?_ ?_ <;> intro hc <;> (first | exact Bool.noConfusion hc | (exfalso; omega) | skip)) | (intro c hc; (try (simp only [AH.none_iff] at hc; repeat (have hn := hc.1; replace hc := hc.2))); (first | (have hc2 := Eq.trans hc (by with_reducible assumption); clear hc; subst hc2) | (refine i64_k hc ?_ ?_ ?_ ; omega; omega; (clear hc; intro hc; subst hc)) | skip)) | (apply And.intro; (first | rfl | omega | (simp <;> omega))))) <;> (try (conv => whnf))
    all_goals exact ⟨congrArg (AV.int .i64) (by omega), rfl⟩

set_option maxRecDepth 8000 in
theorem Side_c (n : Int) (h1 : -9223372036854775808 ≤ n) (h2 : n ≤ 9223372036854775807) (H : AH) : ACall Try.prog 67 [.int .i64 n] H (fun y H' => y = .bool (decide (IsSide n)) ∧ H' = H) := by
  by_cases hs : IsSide n
  · rw [decide_eq_true hs]
    unfold IsSide at hs
    refine ACall_of tt_ok (dok _) Try.func67 rfl (by decide) rfl ?_
    (repeat' ((conv => whnf); first | refine Then.mk ?_ | refine OpsA.cons ?_ | refine OpsA.nil ?_ | refine AWq.seq ?_ | refine AWq.region ?_ | refine AWq.ret ?_ | (refine Both.mk ?_ ?_ <;> intro hc <;> (first | (exfalso; omega) | skip)) | (apply And.intro; (first | rfl)))) <;> (try (conv => whnf))
  · rw [decide_eq_false hs]
    unfold IsSide at hs
    refine ACall_of tt_ok (dok _) Try.func67 rfl (by decide) rfl ?_
    (repeat' ((conv => whnf); first | refine Then.mk ?_ | refine OpsA.cons ?_ | refine OpsA.nil ?_ | refine AWq.seq ?_ | refine AWq.region ?_ | refine AWq.ret ?_ | (refine Both.mk ?_ ?_ <;> intro hc <;> (first | (exfalso; omega) | skip)) | (apply And.intro; (first | rfl)))) <;> (try (conv => whnf))

set_option maxRecDepth 8000 in
theorem rwithin_c (m : Int) (hm : 0 ≤ m ∧ m ≤ 4611686018427387904) (a : List Int) (ha : a.length ≤ 1000000) (H : AH) :
    ACall Try.prog 91 [.cs (iS .i64 a) a.length, .int .i64 m] H (fun y H' => y = .bool (inB m a) ∧ H' = H) := by
  refine ACall_of tt_ok (dok _) Try.func91 rfl (by decide) rfl ?_
  (repeat' ((conv => whnf); first | refine Then.mk ?_ | refine OpsA.cons ?_ | refine OpsA.nil ?_ | refine AWq.seq ?_ | refine AWq.region ?_ | refine AWq.cond ?_ | refine AWq.block ?_ | refine AWq.skip ?_ | refine AWq.ret ?_ | refine AWq.exit ?_ | refine AWq.loop ?_ | (refine Both.mk ?_ ?_ <;> intro hc <;> (first | exact Bool.noConfusion hc | (exfalso; omega) | skip)) | (intro c hc; (try (simp only [AH.none_iff] at hc; repeat (have hn := hc.1; replace hc := hc.2))); (first | (refine i64_k hc ?_ ?_ ?_ ; omega; omega; (clear hc; intro hc; subst hc)) | skip)) | (apply Exists.intro; apply And.intro; first | (with_reducible assumption) | ((try simp only [List.getElem?_drop, Nat.mul_one, Nat.add_zero, Nat.zero_add]); first | (with_reducible assumption) | (refine iS_get ?_; omega) | rfl)) | (apply And.intro; (first | rfl | (with_reducible assumption) | omega | (simp <;> omega))))) <;> (try (conv => whnf))
  refine AWp_loop (σ := Nat) (4 :: 5 :: 6 :: 7 :: 8 :: 9 :: 10 :: 11 :: 12 :: 13 :: 14 :: 15 :: 16 :: 17 :: 18 :: 19 :: 20 :: 21 :: 22 :: 23 :: 24 :: 25 :: 26 :: []) (fun i => [(5, .int .i64 i)]) (fun _ => H) (fun i => i ≤ a.length ∧ inB m (a.take i) = true) (fun i => a.length - i) 0 rfl ?_ ?_ ?_ ?_
  · exact ⟨Nat.zero_le _, rfl⟩
  · exact ⟨rfl, trivial⟩
  · exact HLe.refl _
  · rintro i ⟨hi, hin⟩
    refine AWp.of tt_ok (dok _) rfl ?_
    by_cases h : i < a.length
    · have ht : inB m (a.take (i + 1)) = (inB m (a.take i) && decide (-m ≤ a[i] ∧ a[i] ≤ m)) := by
        rw [List.take_add_one, List.getElem?_eq_getElem h]; simp only [inB, List.all_append, Option.toList_some, List.all_cons, List.all_nil, Bool.and_true]
      have hd : a.getD (i : Int).toNat 0 = a[i] := by rw [Int.toNat_natCast]; simp [h]
      by_cases hb : -m ≤ a[i] ∧ a[i] ≤ m
      · (repeat' ((conv => whnf); first | refine Then.mk ?_ | refine OpsA.cons ?_ | refine OpsA.nil ?_ | refine AWq.seq ?_ | refine AWq.region ?_ | refine AWq.cond ?_ | refine AWq.block ?_ | refine AWq.skip ?_ | refine AWq.ret ?_ | refine AWq.exit ?_ | refine AWq.loop ?_ | (refine Both.mk ?_ ?_ <;> intro hc <;> (first | exact Bool.noConfusion hc | (exfalso; omega) | skip)) | (intro c hc; (try (simp only [AH.none_iff] at hc; repeat (have hn := hc.1; replace hc := hc.2))); (first | (refine i64_k hc ?_ ?_ ?_ ; omega; omega; (clear hc; intro hc; subst hc)) | skip)) | (apply Exists.intro; apply And.intro; first | (with_reducible assumption) | ((try simp only [List.getElem?_drop, Nat.mul_one, Nat.add_zero, Nat.zero_add]); first | (with_reducible assumption) | (refine iS_get ?_; omega) | rfl)) | (apply And.intro; (first | rfl | (with_reducible assumption) | omega | (simp <;> omega))))) <;> (try (conv => whnf))
        refine ⟨i + 1, ⟨by omega, by rw [ht, hin, decide_eq_true hb]; rfl⟩, by omega, ⟨congrArg (AV.int .i64) (by omega), trivial⟩, HLe.refl _⟩
      · have hno : inB m a = false := by
          cases hx : inB m a with
          | false => rfl
          | true => exact absurd (inB_iff.1 hx a[i] (List.getElem_mem h)) hb
        rw [hno]
        (repeat' ((conv => whnf); first | refine Then.mk ?_ | refine OpsA.cons ?_ | refine OpsA.nil ?_ | refine AWq.seq ?_ | refine AWq.region ?_ | refine AWq.cond ?_ | refine AWq.block ?_ | refine AWq.skip ?_ | refine AWq.ret ?_ | refine AWq.exit ?_ | refine AWq.loop ?_ | (refine Both.mk ?_ ?_ <;> intro hc <;> (first | exact Bool.noConfusion hc | (exfalso; omega) | skip)) | (intro c hc; (try (simp only [AH.none_iff] at hc; repeat (have hn := hc.1; replace hc := hc.2))); (first | (refine i64_k hc ?_ ?_ ?_ ; omega; omega; (clear hc; intro hc; subst hc)) | skip)) | (apply Exists.intro; apply And.intro; first | (with_reducible assumption) | ((try simp only [List.getElem?_drop, Nat.mul_one, Nat.add_zero, Nat.zero_add]); first | (with_reducible assumption) | (refine iS_get ?_; omega) | rfl)) | (apply And.intro; (first | rfl | (with_reducible assumption) | omega | (simp <;> omega))))) <;> (try (conv => whnf))
    · have : a.take i = a := List.take_of_length_le (by omega)
      rw [this] at hin
      (repeat' ((conv => whnf); first | refine Then.mk ?_ | refine OpsA.cons ?_ | refine OpsA.nil ?_ | refine AWq.seq ?_ | refine AWq.region ?_ | refine AWq.cond ?_ | refine AWq.block ?_ | refine AWq.skip ?_ | refine AWq.ret ?_ | refine AWq.exit ?_ | refine AWq.loop ?_ | (refine Both.mk ?_ ?_ <;> intro hc <;> (first | exact Bool.noConfusion hc | (exfalso; omega) | skip)) | (intro c hc; (try (simp only [AH.none_iff] at hc; repeat (have hn := hc.1; replace hc := hc.2))); (first | (refine i64_k hc ?_ ?_ ?_ ; omega; omega; (clear hc; intro hc; subst hc)) | skip)) | (apply Exists.intro; apply And.intro; first | (with_reducible assumption) | ((try simp only [List.getElem?_drop, Nat.mul_one, Nat.add_zero, Nat.zero_add]); first | (with_reducible assumption) | (refine iS_get ?_; omega) | rfl)) | (apply And.intro; (first | rfl | (with_reducible assumption) | omega | (simp <;> omega))))) <;> (try (conv => whnf))
      all_goals exact ⟨by rw [hin], rfl⟩

set_option maxRecDepth 8000 in
theorem check_c (s : Int) (h1 : -9223372036854775808 ≤ s) (h2 : s ≤ 9223372036854775807) (m : Int) (hm : 0 ≤ m ∧ m ≤ 4611686018427387904) (a : List Int) (ha : a.length ≤ 1000000) (H : AH) :
    ACall Try.prog 65 [.int .i64 s, .cs (iS .i64 a) a.length, .int .i64 m] H (fun y H' => y = .int .i64 (if IsSide s ∧ (a.length : Int) = s * s then (if inB m a = true then 0 else 5) else 1) ∧ H' = H) := by
  have ss := fun H => Side_c s h1 h2 H
  have hw := fun H => rwithin_c m hm a ha H
  by_cases h : IsSide s
  · rw [decide_eq_true h] at ss
    have hs16 : 1 ≤ s ∧ s ≤ 16 := by unfold IsSide at h; omega
    have hmul : 0 ≤ s * s ∧ s * s ≤ 256 := by
      rcases h with rfl | rfl | rfl | rfl | rfl <;> omega
    by_cases hl : (a.length : Int) = s * s
    · rw [if_pos ⟨h, hl⟩]
      cases hb : inB m a with
      | true =>
        rw [hb] at hw
        refine ACall_of tt_ok (dok _) Try.func65 rfl (by decide) rfl ?_
        (repeat' ((conv => whnf); first | refine Then.mk ?_ | refine OpsA.cons ?_ | refine OpsA.nil ?_ | refine AWq.seq ?_ | refine AWq.region ?_ | refine AWq.cond ?_ | refine AWq.skip ?_ | refine AWq.ret ?_ | (refine Both.mk ?_ ?_ <;> intro hc <;> (first | exact Bool.noConfusion hc | exact absurd (by assumption) hc | skip)) | (intro c hc; (try (simp only [AH.none_iff] at hc; repeat (have hn := hc.1; replace hc := hc.2))); (first | (refine i64_k hc ?_ ?_ ?_ ; omega; omega; (clear hc; intro hc; subst hc)) | skip)) | (apply And.intro; (first | rfl)) | (refine ACall.to (ss _) ?_) | (refine ACall.to (hw _) ?_))) <;> (try (conv => whnf))
      | false =>
        rw [hb] at hw
        refine ACall_of tt_ok (dok _) Try.func65 rfl (by decide) rfl ?_
        (repeat' ((conv => whnf); first | refine Then.mk ?_ | refine OpsA.cons ?_ | refine OpsA.nil ?_ | refine AWq.seq ?_ | refine AWq.region ?_ | refine AWq.cond ?_ | refine AWq.skip ?_ | refine AWq.ret ?_ | (refine Both.mk ?_ ?_ <;> intro hc <;> (first | exact Bool.noConfusion hc | exact absurd (by assumption) hc | skip)) | (intro c hc; (try (simp only [AH.none_iff] at hc; repeat (have hn := hc.1; replace hc := hc.2))); (first | (refine i64_k hc ?_ ?_ ?_ ; omega; omega; (clear hc; intro hc; subst hc)) | skip)) | (apply And.intro; (first | rfl)) | (refine ACall.to (ss _) ?_) | (refine ACall.to (hw _) ?_))) <;> (try (conv => whnf))
    · rw [if_neg (fun k => hl k.2)]
      refine ACall_of tt_ok (dok _) Try.func65 rfl (by decide) rfl ?_
      (repeat' ((conv => whnf); first | refine Then.mk ?_ | refine OpsA.cons ?_ | refine OpsA.nil ?_ | refine AWq.seq ?_ | refine AWq.region ?_ | refine AWq.cond ?_ | refine AWq.skip ?_ | refine AWq.ret ?_ | (refine Both.mk ?_ ?_ <;> intro hc <;> (first | exact Bool.noConfusion hc | exact absurd (by assumption) hc | skip)) | (intro c hc; (try (simp only [AH.none_iff] at hc; repeat (have hn := hc.1; replace hc := hc.2))); (first | (refine i64_k hc ?_ ?_ ?_ ; omega; omega; (clear hc; intro hc; subst hc)) | skip)) | (apply And.intro; (first | rfl)) | (refine ACall.to (ss _) ?_) | (refine ACall.to (hw _) ?_))) <;> (try (conv => whnf))
  · rw [decide_eq_false h] at ss
    rw [if_neg (fun k => h k.1)]
    refine ACall_of tt_ok (dok _) Try.func65 rfl (by decide) rfl ?_
    (repeat' ((conv => whnf); first | refine Then.mk ?_ | refine OpsA.cons ?_ | refine OpsA.nil ?_ | refine AWq.seq ?_ | refine AWq.region ?_ | refine AWq.cond ?_ | refine AWq.skip ?_ | refine AWq.ret ?_ | (refine Both.mk ?_ ?_ <;> intro hc <;> (first | exact Bool.noConfusion hc | exact absurd (by assumption) hc | skip)) | (intro c hc; (try (simp only [AH.none_iff] at hc; repeat (have hn := hc.1; replace hc := hc.2))); (first | (refine i64_k hc ?_ ?_ ?_ ; omega; omega; (clear hc; intro hc; subst hc)) | skip)) | (apply And.intro; (first | rfl)) | (refine ACall.to (ss _) ?_) | (refine ACall.to (hw _) ?_))) <;> (try (conv => whnf))
open Go.Fw Go

theorem lnL_snoc (n : Nat) (X : Ln) : lnL n X ++ [X n] = lnL (n + 1) X := by simp [lnL, List.range_succ]
theorem iL_snoc (n : Nat) (X : Ln) : iL n X ++ [.int .i64 (X n)] = iL (n + 1) X := by
  unfold iL; rw [iS_snoc, lnL_snoc]
theorem iL_app (h : Nat) (X Y Z : Ln) (h1 : ∀ c, c < h → Z c = X c) (h2 : ∀ c, c < h → Z (h + c) = Y c) : iL h X ++ iL h Y = iL (2 * h) Z := by
  apply List.ext_getElem?
  intro p
  by_cases hp : p < 2 * h
  · rw [iL_get _ hp]
    by_cases c1 : p < h
    · rw [List.getElem?_append_left (by simp; exact c1), iL_get _ c1, h1 _ c1]
    · rw [List.getElem?_append_right (by simp; omega), iL_len, iL_get _ (by omega), ← h2 _ (by omega), show h + (p - h) = p by omega]
  · rw [List.getElem?_eq_none (by simp; omega), List.getElem?_eq_none (by simp; omega)]

set_option maxRecDepth 8000 in
theorem rsplit_k (h : Nat) (h1 : 1 ≤ h) (hn : h ≤ 2048) (X : Ln) (hX : ∀ c, c < 2 * h → -2305843009213693952 ≤ X c ∧ X c ≤ 2305843009213693952) (cells : List AV) (H : AH) (hlen : cells.length = 2 * h) (hg : ∀ i, i < 2 * h → cells[i]? = some (.int .i64 (X i))) :
    ACall Try.prog 93 [.cs cells (2 * h)] H (fun y H' => y = .cs (iL (2 * h) (spl (2 * h) X)) (2 * h) ∧ H' = H) := by
  refine ACall.back (ACall.coldX (es := 1) (Q := fun H' => HLe H H') (by rw [iL_len]; omega) ?_)
  refine ACall_of tt_ok (dok _) Try.func93 rfl (by decide) rfl ?_
  (repeat' ((conv => whnf); first | refine Then.mk ?_ | refine OpsA.cons ?_ | refine OpsA.nil ?_ | refine AWq.seq ?_ | refine AWq.region ?_ | refine AWq.cond ?_ | refine AWq.block ?_ | refine AWq.skip ?_ | refine AWq.ret ?_ | refine AWq.exit ?_ | refine AWq.loop ?_ | refine DrawA.consD ?_ | refine DrawA.nil ?_ | refine AWq.draw (by decide +kernel) ?_ | (refine Both.mk ?_ ?_ <;> intro hc <;> (first | exact Bool.noConfusion hc | (exfalso; omega) | skip)) | (intro c hc; (try (simp only [AH.none_iff] at hc; repeat (have hn := hc.1; replace hc := hc.2))); (first | (refine i64_k hc ?_ ?_ ?_ ; omega; omega; (clear hc; intro hc; subst hc)) | skip)) | (apply Exists.intro; apply And.intro; (first | (focus (repeat (first | (with_reducible assumption) | (with_reducible exact AH.set_same _ _ _) | ((first | refine AH.get_ne ?_ ?_); (first | (with_reducible assumption) | exact Ne.symm (by with_reducible assumption))))); done))) | (apply Exists.intro; apply And.intro; first | (with_reducible assumption) | ((try simp only [List.getElem?_drop, Nat.mul_one, Nat.add_zero, Nat.zero_add]); first | (with_reducible assumption) | rfl)) | (apply And.intro; (first | rfl | (with_reducible assumption) | omega | (focus (repeat' (first | (with_reducible assumption) | exact one_iS _ _ | rfl | apply one_take)); done))))) <;> (try (conv => whnf))
  refine AWp_nilrow1 3 1 rfl rfl fun r1 hr1 => ?_
  refine AWp_nilrow1 4 1 rfl rfl fun r2 hr2 => ?_
  have hne : r2 ≠ r1 := (AH.none_set hr2).1
  have hr2 := (AH.none_set hr2).2
  obtain ⟨A, hA⟩ : ∃ A : Ln, A = fun c => (X (2 * c) + X (2 * c + 1)) / 2 := ⟨_, rfl⟩
  obtain ⟨D, hD⟩ : ∃ D : Ln, D = fun c => X (2 * c) - X (2 * c + 1) := ⟨_, rfl⟩
  refine AWp_loop (σ := Nat × Nat × Nat) (3 :: 4 :: 5 :: 6 :: 7 :: 8 :: 9 :: 10 :: 11 :: 12 :: 13 :: 14 :: 15 :: 16 :: 17 :: 18 :: 19 :: 20 :: 21 :: 22 :: 23 :: 24 :: 25 :: 26 :: 27 :: 28 :: 29 :: 30 :: 31 :: 32 :: 33 :: 34 :: 35 :: 36 :: 37 :: 38 :: []) (fun (j, v1, v2) => [(5, .int .i64 (2 * j : Nat)), (3, .sl r1 v1 1 0 j none), (4, .sl r2 v2 1 0 j none)]) (fun (j, v1, v2) => (AH.set H r1 (.row (iL j A) v1)).set r2 (.row (iL j D) v2)) (fun (j, v1, v2) => j ≤ h) (fun (j, v1, v2) => h - j) (0, 0, 0) rfl ?_ ?_ ?_ ?_
  · exact Nat.zero_le _
  · exact ⟨rfl, rfl, rfl, trivial⟩
  · exact HLe.refl _
  · rintro ⟨j, v1, v2⟩ hj
    dsimp only at hj ⊢
    refine AWp.of tt_ok (dok _) rfl ?_
    by_cases hh : j < h
    · have k1 : cells[((2 * j : Nat) : Int).toNat]? = some (.int .i64 (X (2 * j))) := hg _ (by omega)
      have k2 : cells[(((2 * j : Nat) : Int) + 1).toNat]? = some (.int .i64 (X (2 * j + 1))) := by rw [show (((2 * j : Nat) : Int) + 1).toNat = 2 * j + 1 by omega]; exact hg _ (by omega)
      have b1 := hX (2 * j) (by omega)
      have b2 := hX (2 * j + 1) (by omega)
      have hh2 := fun H => Half_c (X (2 * j) + X (2 * j + 1)) (by omega) (by omega) H
      have l1 := iL_len j A
      have l2 := iL_len j D
      (repeat' ((conv => whnf); first | refine Then.mk ?_ | refine OpsA.cons ?_ | refine OpsA.nil ?_ | refine AWq.seq ?_ | refine AWq.region ?_ | refine AWq.cond ?_ | refine AWq.block ?_ | refine AWq.skip ?_ | refine AWq.ret ?_ | refine AWq.exit ?_ | refine AWq.loop ?_ | refine DrawA.consD ?_ | refine DrawA.nil ?_ | refine AWq.draw (by decide +kernel) ?_ | (apply Exists.intro; apply And.intro; exact hh2 _) | (refine Both.mk ?_ ?_ <;> intro hc <;> (first | exact Bool.noConfusion hc | (exfalso; omega) | skip)) | (intro c hc; (try (simp only [AH.none_iff] at hc; repeat (have hn := hc.1; replace hc := hc.2))); (first | (refine i64_k hc ?_ ?_ ?_ ; omega; omega; (clear hc; intro hc; subst hc)) | skip)) | (apply Exists.intro; apply And.intro; (first | (focus (repeat (first | (with_reducible assumption) | (with_reducible exact AH.set_same _ _ _) | ((first | refine AH.get_ne ?_ ?_); (first | (with_reducible assumption) | exact Ne.symm (by with_reducible assumption))))); done))) | (apply Exists.intro; apply And.intro; first | (with_reducible assumption) | ((try simp only [List.getElem?_drop, Nat.mul_one, Nat.add_zero, Nat.zero_add]); first | (with_reducible assumption) | rfl)) | (apply And.intro; (first | rfl | (with_reducible assumption) | omega | (focus (repeat' (first | (with_reducible assumption) | exact one_iS _ _ | rfl | apply one_take)); done))))) <;> (try (conv => whnf))
      refine ⟨(j + 1, v1 + 1, v2 + 1), by show j + 1 ≤ h; omega, by show h - (j + 1) < h - j; omega, ⟨congrArg (AV.int .i64) (by omega), rfl, rfl, trivial⟩, HLe.of_eq ?_⟩
      show (AH.set H r1 (.row (iL (j + 1) A) (v1 + 1))).set r2 (.row (iL (j + 1) D) (v2 + 1)) = _
      rw [← iL_snoc, ← iL_snoc, hA, hD]
      ((funext s; simp only [AH.set, AH.del]; repeat' split) <;> (first | rfl | (exfalso; omega)))
    · have he : j = h := by omega
      subst he
      have l1 := iL_len j A
      have l2 := iL_len j D
      have hz : iL j A ++ iL j D = iL (2 * j) (spl (2 * j) X) := iL_app j A D _ (fun c hc => by
        rw [hA]; unfold spl; rw [if_pos (by omega)]) (fun c hc => by
        rw [hD]; unfold spl; rw [if_neg (by omega), show j + c - 2 * j / 2 = c by omega])
      (repeat' ((conv => whnf); first | refine Then.mk ?_ | refine OpsA.cons ?_ | refine OpsA.nil ?_ | refine AWq.seq ?_ | refine AWq.region ?_ | refine AWq.cond ?_ | refine AWq.block ?_ | refine AWq.skip ?_ | refine AWq.ret ?_ | refine AWq.exit ?_ | refine AWq.loop ?_ | refine DrawA.consD ?_ | refine DrawA.nil ?_ | refine AWq.draw (by decide +kernel) ?_ | (refine Both.mk ?_ ?_ <;> intro hc <;> (first | exact Bool.noConfusion hc | (exfalso; omega) | skip)) | (intro c hc; (try (simp only [AH.none_iff] at hc; repeat (have hn := hc.1; replace hc := hc.2))); (first | (refine i64_k hc ?_ ?_ ?_ ; omega; omega; (clear hc; intro hc; subst hc)) | skip)) | (apply Exists.intro; apply And.intro; (first | (focus (repeat (first | (with_reducible assumption) | (with_reducible exact AH.set_same _ _ _) | ((first | refine AH.get_ne ?_ ?_); (first | (with_reducible assumption) | exact Ne.symm (by with_reducible assumption))))); done))) | (apply Exists.intro; apply And.intro; first | (with_reducible assumption) | ((try simp only [List.getElem?_drop, Nat.mul_one, Nat.add_zero, Nat.zero_add]); first | (with_reducible assumption) | rfl)) | (apply And.intro; (first | rfl | (with_reducible assumption) | omega | (focus (repeat' (first | (with_reducible assumption) | exact one_iS _ _ | rfl | apply one_take)); done))))) <;> (try (conv => whnf))
      refine ⟨AH.set H r2 (.row (iL j D) v2), HLe.fresh _ hr2, .inr ⟨r1, by rw [AH.set_ne _ _ (Ne.symm hne)]; exact hr1, v1 + 1, congrArg (fun x => AV.sl r1 (v1 + 1) 1 0 x none) (by omega), ?_⟩⟩
      rw [← hz, show List.take (j * 1) (List.drop 0 (iL j D)) = iL j D by rw [List.drop_zero, Nat.mul_one, List.take_of_length_le (by simp)]]
      ((funext s; simp only [AH.set, AH.del]; repeat' split) <;> (first | rfl | (exfalso; omega)))

set_option maxRecDepth 8000 in
theorem rjoin_k (h : Nat) (h1 : 1 ≤ h) (hn : h ≤ 2048) (X : Ln) (hX : ∀ c, c < 2 * h → -1152921504606846976 ≤ X c ∧ X c ≤ 1152921504606846976) (cells : List AV) (H : AH) (hlen : cells.length = 2 * h) (hg : ∀ i, i < 2 * h → cells[i]? = some (.int .i64 (X i))) :
    ACall Try.prog 92 [.cs cells (2 * h)] H (fun y H' => y = .cs (iL (2 * h) (joi (2 * h) X)) (2 * h) ∧ H' = H) := by
  refine ACall.coldX (es := 1) (Q := fun H' => H' = H) (by rw [iL_len]; omega) ?_
  have hdv : (((2 * h : Nat) : Int)).tdiv 2 = (h : Int) := by rw [Int.tdiv_eq_ediv_of_nonneg (by omega)]; omega
  refine ACall_of tt_ok (dok _) Try.func92 rfl (by decide) rfl ?_
  (repeat' ((conv => whnf); first | refine Then.mk ?_ | left | refine OpsA.cons ?_ | refine OpsA.nil ?_ | refine AWq.seq ?_ | refine AWq.region ?_ | refine AWq.cond ?_ | refine AWq.block ?_ | refine AWq.skip ?_ | refine AWq.ret ?_ | refine AWq.exit ?_ | refine AWq.loop ?_ | refine DrawA.consD ?_ | refine DrawA.nil ?_ | refine AWq.draw (by decide +kernel) ?_ | (refine Both.mk ?_ ?_ <;> intro hc <;> (first | exact Bool.noConfusion hc | (exfalso; omega) | skip)) | (intro c hc; (try (simp only [AH.none_iff] at hc; repeat (have hn := hc.1; replace hc := hc.2))); (first | (refine i64_k hc ?_ ?_ ?_ ; omega; omega; (clear hc; intro hc; subst hc)) | skip)) | (apply Exists.intro; apply And.intro; (first | (focus (repeat (first | (with_reducible assumption) | (with_reducible exact AH.set_same _ _ _))); done))) | (apply Exists.intro; apply And.intro; first | (with_reducible assumption) | ((try simp only [List.getElem?_drop, Nat.mul_one, Nat.add_zero, Nat.zero_add]); first | (with_reducible assumption) | rfl)) | (apply And.intro; (first | rfl | (with_reducible assumption) | omega)))) <;> (try (conv => whnf))
  refine AWp_nilrow1 3 1 rfl rfl fun r1 hr1 => ?_
  obtain ⟨A, hA⟩ : ∃ A : Ln, A = joi (2 * h) X := ⟨_, rfl⟩
  refine AWp_loop (σ := Nat × Nat) (3 :: 5 :: 6 :: 10 :: 11 :: 12 :: 13 :: 14 :: 15 :: 16 :: 17 :: 18 :: 19 :: 20 :: 21 :: 22 :: 23 :: 24 :: 25 :: 26 :: 27 :: 28 :: 29 :: 30 :: 31 :: 32 :: 33 :: 34 :: 35 :: 36 :: 37 :: 38 :: 39 :: []) (fun (j, v1) => [(5, .int .i64 j), (3, .sl r1 v1 1 0 (2 * j) none)]) (fun (j, v1) => (AH.set H r1 (.row (iL (2 * j) A) v1))) (fun (j, v1) => j ≤ h) (fun (j, v1) => h - j) (0, 0) rfl ?_ ?_ ?_ ?_
  · exact Nat.zero_le _
  · exact ⟨rfl, rfl, trivial⟩
  · exact HLe.refl _
  · rintro ⟨j, v1⟩ hj
    dsimp only at hj ⊢
    refine AWp.of tt_ok (dok _) rfl ?_
    by_cases hh : j < h
    · have k1 : cells[(j : Int).toNat]? = some (.int .i64 (X j)) := hg _ (by omega)
      have k2 : cells[((((2 * h : Nat) : Int)).tdiv 2 + (j : Int)).toNat]? = some (.int .i64 (X (h + j))) := by rw [hdv, show ((h : Int) + (j : Int)).toNat = h + j by omega]; exact hg _ (by omega)
      have b1 := hX j (by omega)
      have b2 := hX (h + j) (by omega)
      have hh2 := fun H => Half_c (X (h + j) + 1) (by omega) (by omega) H
      have l1 := iL_len (2 * j) A
      (repeat' ((conv => whnf); first | refine Then.mk ?_ | left | refine OpsA.cons ?_ | refine OpsA.nil ?_ | refine AWq.seq ?_ | refine AWq.region ?_ | refine AWq.cond ?_ | refine AWq.block ?_ | refine AWq.skip ?_ | refine AWq.ret ?_ | refine AWq.exit ?_ | refine AWq.loop ?_ | refine DrawA.consD ?_ | refine DrawA.nil ?_ | refine AWq.draw (by decide +kernel) ?_ | (apply Exists.intro; apply And.intro; exact hh2 _) | (refine Both.mk ?_ ?_ <;> intro hc <;> (first | exact Bool.noConfusion hc | (exfalso; omega) | skip)) | (intro c hc; (try (simp only [AH.none_iff] at hc; repeat (have hn := hc.1; replace hc := hc.2))); (first | (refine i64_k hc ?_ ?_ ?_ ; omega; omega; (clear hc; intro hc; subst hc)) | skip)) | (apply Exists.intro; apply And.intro; (first | (focus (repeat (first | (with_reducible assumption) | (with_reducible exact AH.set_same _ _ _))); done))) | (apply Exists.intro; apply And.intro; first | (with_reducible assumption) | ((try simp only [List.getElem?_drop, Nat.mul_one, Nat.add_zero, Nat.zero_add]); first | (with_reducible assumption) | rfl)) | (apply And.intro; (first | rfl | (with_reducible assumption) | omega)))) <;> (try (conv => whnf))
      refine ⟨(j + 1, v1 + 1), by show j + 1 ≤ h; omega, by show h - (j + 1) < h - j; omega, ⟨congrArg (AV.int .i64) (by omega), rfl, trivial⟩, HLe.of_eq (Eq.symm ((AH.set_set _ _ _ _).trans ?_))⟩
      refine congrArg (fun l => AH.set H r1 (.row l (v1 + 1))) ?_
      show iL (2 * j) A ++ [AV.int .i64 (X j + (X (h + j) + 1) / 2), AV.int .i64 (X j + (X (h + j) + 1) / 2 - X (h + j))] = iL (2 * j + 1 + 1) A
      rw [← iL_snoc, ← iL_snoc, List.append_assoc]
      refine congrArg (fun l => iL (2 * j) A ++ l) ?_
      have e1 : A (2 * j) = X j + (X (h + j) + 1) / 2 := by rw [hA]; unfold joi; rw [if_pos (by omega), show 2 * j / 2 = j by omega, show 2 * h / 2 = h by omega]
      have e2 : A (2 * j + 1) = X j + (X (h + j) + 1) / 2 - X (h + j) := by rw [hA]; unfold joi; rw [if_neg (by omega), show (2 * j + 1) / 2 = j by omega, show 2 * h / 2 = h by omega]
      rw [e1, e2]; rfl
    · have he : j = h := by omega
      subst he
      have l1 := iL_len (2 * j) A
      (repeat' ((conv => whnf); first | refine Then.mk ?_ | refine OpsA.cons ?_ | refine OpsA.nil ?_ | refine AWq.seq ?_ | refine AWq.region ?_ | refine AWq.cond ?_ | refine AWq.block ?_ | refine AWq.skip ?_ | refine AWq.ret ?_ | refine AWq.exit ?_ | refine AWq.loop ?_ | refine DrawA.consD ?_ | refine DrawA.nil ?_ | refine AWq.draw (by decide +kernel) ?_ | (refine Both.mk ?_ ?_ <;> intro hc <;> (first | exact Bool.noConfusion hc | (exfalso; omega) | skip)) | (intro c hc; (try (simp only [AH.none_iff] at hc; repeat (have hn := hc.1; replace hc := hc.2))); (first | (refine i64_k hc ?_ ?_ ?_ ; omega; omega; (clear hc; intro hc; subst hc)) | skip)) | (apply Exists.intro; apply And.intro; (first | (focus (repeat (first | (with_reducible assumption) | (with_reducible exact AH.set_same _ _ _))); done))) | (apply Exists.intro; apply And.intro; first | (with_reducible assumption) | ((try simp only [List.getElem?_drop, Nat.mul_one, Nat.add_zero, Nat.zero_add]); first | (with_reducible assumption) | rfl)) | (apply And.intro; (first | rfl | (with_reducible assumption) | omega)))) <;> (try (conv => whnf))
      exact .inr ⟨r1, hr1, v1, rfl, by rw [hA]⟩

set_option maxRecDepth 8000 in
theorem part_rk (s n i : Nat) (hs : s ≤ 16) (hn : n ≤ s) (hi : i < s) (M : Mat) (cells : List AV)  (H : AH) (hlen : cells.length = s * s) (hg : ∀ r c, r < s → c < s → cells[r * s + c]? = some (.int .i64 (M r c))) :
    ACall Try.prog 68 [.int .i64 s, .cs cells (s * s), .int .i64 n, .int .i64 i, .bool false] H (fun y H' => y = .cs (iL n (fun k => M i k)) n ∧ H' = H) := by
  refine ACall.coldX (es := 1) (Q := fun H' => H' = H) (by rw [iL_len]; omega) ?_
  have hss : s * s ≤ 256 := Nat.mul_le_mul hs hs
  refine ACall_of tt_ok (dok _) Try.func68 rfl (by decide) rfl ?_
  (repeat' ((conv => whnf); first | refine Then.mk ?_ | left | refine OpsA.cons ?_ | refine OpsA.nil ?_ | refine AWq.seq ?_ | refine AWq.region ?_ | refine AWq.cond ?_ | refine AWq.block ?_ | refine AWq.skip ?_ | refine AWq.ret ?_ | refine AWq.exit ?_ | refine AWq.loop ?_ | (refine Both.mk ?_ ?_ <;> intro hc <;> (first | exact Bool.noConfusion hc | (exfalso; omega) | skip)) | (intro c hc; (try (simp only [AH.none_iff] at hc; repeat (have hn := hc.1; replace hc := hc.2))); (first | (refine i64_k hc ?_ ?_ ?_ ; omega; omega; (clear hc; intro hc; subst hc)) | skip)) | (apply Exists.intro; apply And.intro; (first | (focus (repeat (first | (with_reducible assumption) | (with_reducible exact AH.set_same _ _ _))); done))) | (apply Exists.intro; apply And.intro; first | (with_reducible assumption) | ((try simp only [List.getElem?_drop, Nat.mul_one, Nat.add_zero, Nat.zero_add]); first | (with_reducible assumption) | rfl)) | (apply And.intro; (first | rfl | (with_reducible assumption) | omega)))) <;> (try (conv => whnf))
  refine AWp_nilrow1 11 1 rfl rfl fun r1 hr1 => ?_
  obtain ⟨A, hA⟩ : ∃ A : Ln, A = fun k => M i k := ⟨_, rfl⟩
  refine AWp_loop (σ := Nat × Nat) (11 :: 12 :: 13 :: 14 :: 15 :: 16 :: 17 :: 18 :: 19 :: 20 :: 21 :: 22 :: 23 :: 24 :: 25 :: 26 :: 27 :: 28 :: 29 :: 30 :: 31 :: 32 :: 33 :: 34 :: 35 :: 36 :: 37 :: 38 :: 39 :: 40 :: []) (fun (k, v) => [(12, .int .i64 k), (11, .sl r1 v 1 0 k none)]) (fun (k, v) => AH.set H r1 (.row (iL k A) v)) (fun (k, v) => k ≤ n) (fun (k, v) => n - k) (0, 0) rfl ?_ ?_ ?_ ?_
  · exact Nat.zero_le _
  · exact ⟨rfl, rfl, trivial⟩
  · exact HLe.refl _
  · rintro ⟨k, v⟩ hk
    dsimp only at hk ⊢
    refine AWp.of tt_ok (dok _) rfl ?_
    have l1 := iL_len k A
    by_cases hkn : k < n
    · have p1 : 0 ≤ (i : Int) * s := Int.mul_nonneg (by omega) (by omega)
      have p2 : (i : Int) * s + k < ((s * s : Nat) : Int) := by
        have := (place (s := s) (r := i) (c := k) (by omega) (by omega)).1
        rw [← Int.natCast_mul]; omega
      have e3 : ((i : Int) * s + k).toNat = i * s + k := by rw [← Int.natCast_mul]; omega
      have g1 : cells[((i : Int) * s + k).toNat]? = some (.int .i64 (M i k)) := by rw [e3]; exact hg _ _ (by omega) (by omega)
      (repeat' ((conv => whnf); first | refine Then.mk ?_ | left | refine OpsA.cons ?_ | refine OpsA.nil ?_ | refine AWq.seq ?_ | refine AWq.region ?_ | refine AWq.cond ?_ | refine AWq.block ?_ | refine AWq.skip ?_ | refine AWq.ret ?_ | refine AWq.exit ?_ | refine AWq.loop ?_ | (refine Both.mk ?_ ?_ <;> intro hc <;> (first | exact Bool.noConfusion hc | (exfalso; omega) | skip)) | (intro c hc; (try (simp only [AH.none_iff] at hc; repeat (have hn := hc.1; replace hc := hc.2))); (first | (refine i64_k hc ?_ ?_ ?_ ; omega; omega; (clear hc; intro hc; subst hc)) | skip)) | (apply Exists.intro; apply And.intro; (first | (focus (repeat (first | (with_reducible assumption) | (with_reducible exact AH.set_same _ _ _))); done))) | (apply Exists.intro; apply And.intro; first | (with_reducible assumption) | ((try simp only [List.getElem?_drop, Nat.mul_one, Nat.add_zero, Nat.zero_add]); first | (with_reducible assumption) | rfl)) | (apply And.intro; (first | rfl | (with_reducible assumption) | omega)))) <;> (try (conv => whnf))
      refine ⟨(k + 1, v + 1), by show k + 1 ≤ n; omega, by show n - (k + 1) < n - k; omega, ⟨congrArg (AV.int .i64) (by omega), rfl, trivial⟩, HLe.of_eq (Eq.symm ((AH.set_set _ _ _ _).trans ?_))⟩
      refine congrArg (fun l => AH.set H r1 (.row l (v + 1))) ?_
      show iL k A ++ [AV.int .i64 (M i k)] = iL (k + 1) A
      rw [← iL_snoc, hA]
    · have he : k = n := by omega
      subst he
      (repeat' ((conv => whnf); first | refine Then.mk ?_ | refine OpsA.cons ?_ | refine OpsA.nil ?_ | refine AWq.seq ?_ | refine AWq.region ?_ | refine AWq.cond ?_ | refine AWq.block ?_ | refine AWq.skip ?_ | refine AWq.ret ?_ | refine AWq.exit ?_ | refine AWq.loop ?_ | (refine Both.mk ?_ ?_ <;> intro hc <;> (first | exact Bool.noConfusion hc | (exfalso; omega) | skip)) | (intro c hc; (try (simp only [AH.none_iff] at hc; repeat (have hn := hc.1; replace hc := hc.2))); (first | (refine i64_k hc ?_ ?_ ?_ ; omega; omega; (clear hc; intro hc; subst hc)) | skip)) | (apply Exists.intro; apply And.intro; (first | (focus (repeat (first | (with_reducible assumption) | (with_reducible exact AH.set_same _ _ _))); done))) | (apply Exists.intro; apply And.intro; first | (with_reducible assumption) | ((try simp only [List.getElem?_drop, Nat.mul_one, Nat.add_zero, Nat.zero_add]); first | (with_reducible assumption) | rfl)) | (apply And.intro; (first | rfl | (with_reducible assumption) | omega)))) <;> (try (conv => whnf))
      exact .inr ⟨r1, hr1, v, rfl, by rw [hA]⟩

set_option maxRecDepth 8000 in
theorem part_rw (s n i : Nat) (hs : s ≤ 16) (hn : n ≤ s) (hi : i < s) (M : Mat) (cells : List AV) (q u : Nat) (H : AH) (hq : H q = some (.row cells u)) (hlen : cells.length = s * s) (hg : ∀ r c, r < s → c < s → cells[r * s + c]? = some (.int .i64 (M r c))) :
    ACall Try.prog 68 [.int .i64 s, .sl q u 1 0 (s * s) none, .int .i64 n, .int .i64 i, .bool false] H (fun y H' => y = .cs (iL n (fun k => M i k)) n ∧ H' = H) := by
  refine ACall.coldX (es := 1) (Q := fun H' => H' = H) (by rw [iL_len]; omega) ?_
  have hss : s * s ≤ 256 := Nat.mul_le_mul hs hs
  refine ACall_of tt_ok (dok _) Try.func68 rfl (by decide) rfl ?_
  (repeat' ((conv => whnf); first | refine Then.mk ?_ | left | refine OpsA.cons ?_ | refine OpsA.nil ?_ | refine AWq.seq ?_ | refine AWq.region ?_ | refine AWq.cond ?_ | refine AWq.block ?_ | refine AWq.skip ?_ | refine AWq.ret ?_ | refine AWq.exit ?_ | refine AWq.loop ?_ | (refine Both.mk ?_ ?_ <;> intro hc <;> (first | exact Bool.noConfusion hc | (exfalso; omega) | skip)) | (intro c hc; (try (simp only [AH.none_iff] at hc; repeat (have hn := hc.1; replace hc := hc.2))); (first | (refine i64_k hc ?_ ?_ ?_ ; omega; omega; (clear hc; intro hc; subst hc)) | skip)) | (apply Exists.intro; apply And.intro; (first | (focus (repeat (first | (with_reducible assumption) | (with_reducible exact AH.set_same _ _ _) | ((first | refine AH.get_ne ?_ ?_); (first | (with_reducible assumption) | exact AH.ne_none (by with_reducible assumption) (by with_reducible assumption))))); done))) | (apply Exists.intro; apply And.intro; first | (with_reducible assumption) | ((try simp only [List.getElem?_drop, Nat.mul_one, Nat.add_zero, Nat.zero_add]); first | (with_reducible assumption) | rfl)) | (apply And.intro; (first | rfl | (with_reducible assumption) | omega)))) <;> (try (conv => whnf))
  refine AWp_nilrow1 11 1 rfl rfl fun r1 hr1 => ?_
  obtain ⟨A, hA⟩ : ∃ A : Ln, A = fun k => M i k := ⟨_, rfl⟩
  refine AWp_loop (σ := Nat × Nat) (11 :: 12 :: 13 :: 14 :: 15 :: 16 :: 17 :: 18 :: 19 :: 20 :: 21 :: 22 :: 23 :: 24 :: 25 :: 26 :: 27 :: 28 :: 29 :: 30 :: 31 :: 32 :: 33 :: 34 :: 35 :: 36 :: 37 :: 38 :: 39 :: 40 :: []) (fun (k, v) => [(12, .int .i64 k), (11, .sl r1 v 1 0 k none)]) (fun (k, v) => AH.set H r1 (.row (iL k A) v)) (fun (k, v) => k ≤ n) (fun (k, v) => n - k) (0, 0) rfl ?_ ?_ ?_ ?_
  · exact Nat.zero_le _
  · exact ⟨rfl, rfl, trivial⟩
  · exact HLe.refl _
  · rintro ⟨k, v⟩ hk
    dsimp only at hk ⊢
    refine AWp.of tt_ok (dok _) rfl ?_
    have l1 := iL_len k A
    by_cases hkn : k < n
    · have p1 : 0 ≤ (i : Int) * s := Int.mul_nonneg (by omega) (by omega)
      have p2 : (i : Int) * s + k < ((s * s : Nat) : Int) := by
        have := (place (s := s) (r := i) (c := k) (by omega) (by omega)).1
        rw [← Int.natCast_mul]; omega
      have e3 : ((i : Int) * s + k).toNat = i * s + k := by rw [← Int.natCast_mul]; omega
      have g1 : cells[((i : Int) * s + k).toNat]? = some (.int .i64 (M i k)) := by rw [e3]; exact hg _ _ (by omega) (by omega)
      (repeat' ((conv => whnf); first | refine Then.mk ?_ | left | refine OpsA.cons ?_ | refine OpsA.nil ?_ | refine AWq.seq ?_ | refine AWq.region ?_ | refine AWq.cond ?_ | refine AWq.block ?_ | refine AWq.skip ?_ | refine AWq.ret ?_ | refine AWq.exit ?_ | refine AWq.loop ?_ | (refine Both.mk ?_ ?_ <;> intro hc <;> (first | exact Bool.noConfusion hc | (exfalso; omega) | skip)) | (intro c hc; (try (simp only [AH.none_iff] at hc; repeat (have hn := hc.1; replace hc := hc.2))); (first | (refine i64_k hc ?_ ?_ ?_ ; omega; omega; (clear hc; intro hc; subst hc)) | skip)) | (apply Exists.intro; apply And.intro; (first | (focus (repeat (first | (with_reducible assumption) | (with_reducible exact AH.set_same _ _ _) | ((first | refine AH.get_ne ?_ ?_); (first | (with_reducible assumption) | exact AH.ne_none (by with_reducible assumption) (by with_reducible assumption))))); done))) | (apply Exists.intro; apply And.intro; first | (with_reducible assumption) | ((try simp only [List.getElem?_drop, Nat.mul_one, Nat.add_zero, Nat.zero_add]); first | (with_reducible assumption) | rfl)) | (apply And.intro; (first | rfl | (with_reducible assumption) | omega)))) <;> (try (conv => whnf))
      refine ⟨(k + 1, v + 1), by show k + 1 ≤ n; omega, by show n - (k + 1) < n - k; omega, ⟨congrArg (AV.int .i64) (by omega), rfl, trivial⟩, HLe.of_eq (Eq.symm ((AH.set_set _ _ _ _).trans ?_))⟩
      refine congrArg (fun l => AH.set H r1 (.row l (v + 1))) ?_
      show iL k A ++ [AV.int .i64 (M i k)] = iL (k + 1) A
      rw [← iL_snoc, hA]
    · have he : k = n := by omega
      subst he
      (repeat' ((conv => whnf); first | refine Then.mk ?_ | refine OpsA.cons ?_ | refine OpsA.nil ?_ | refine AWq.seq ?_ | refine AWq.region ?_ | refine AWq.cond ?_ | refine AWq.block ?_ | refine AWq.skip ?_ | refine AWq.ret ?_ | refine AWq.exit ?_ | refine AWq.loop ?_ | (refine Both.mk ?_ ?_ <;> intro hc <;> (first | exact Bool.noConfusion hc | (exfalso; omega) | skip)) | (intro c hc; (try (simp only [AH.none_iff] at hc; repeat (have hn := hc.1; replace hc := hc.2))); (first | (refine i64_k hc ?_ ?_ ?_ ; omega; omega; (clear hc; intro hc; subst hc)) | skip)) | (apply Exists.intro; apply And.intro; (first | (focus (repeat (first | (with_reducible assumption) | (with_reducible exact AH.set_same _ _ _) | ((first | refine AH.get_ne ?_ ?_); (first | (with_reducible assumption) | exact AH.ne_none (by with_reducible assumption) (by with_reducible assumption))))); done))) | (apply Exists.intro; apply And.intro; first | (with_reducible assumption) | ((try simp only [List.getElem?_drop, Nat.mul_one, Nat.add_zero, Nat.zero_add]); first | (with_reducible assumption) | rfl)) | (apply And.intro; (first | rfl | (with_reducible assumption) | omega)))) <;> (try (conv => whnf))
      exact .inr ⟨r1, hr1, v, rfl, by rw [hA]⟩

set_option maxRecDepth 8000 in
theorem part_cw (s n i : Nat) (hs : s ≤ 16) (hn : n ≤ s) (hi : i < s) (M : Mat) (cells : List AV) (q u : Nat) (H : AH) (hq : H q = some (.row cells u)) (hlen : cells.length = s * s) (hg : ∀ r c, r < s → c < s → cells[r * s + c]? = some (.int .i64 (M r c))) :
    ACall Try.prog 68 [.int .i64 s, .sl q u 1 0 (s * s) none, .int .i64 n, .int .i64 i, .bool true] H (fun y H' => y = .cs (iL n (fun k => M k i)) n ∧ H' = H) := by
  refine ACall.coldX (es := 1) (Q := fun H' => H' = H) (by rw [iL_len]; omega) ?_
  have hss : s * s ≤ 256 := Nat.mul_le_mul hs hs
  refine ACall_of tt_ok (dok _) Try.func68 rfl (by decide) rfl ?_
  (repeat' ((conv => whnf); first | refine Then.mk ?_ | left | refine OpsA.cons ?_ | refine OpsA.nil ?_ | refine AWq.seq ?_ | refine AWq.region ?_ | refine AWq.cond ?_ | refine AWq.block ?_ | refine AWq.skip ?_ | refine AWq.ret ?_ | refine AWq.exit ?_ | refine AWq.loop ?_ | (refine Both.mk ?_ ?_ <;> intro hc <;> (first | exact Bool.noConfusion hc | (exfalso; omega) | skip)) | (intro c hc; (try (simp only [AH.none_iff] at hc; repeat (have hn := hc.1; replace hc := hc.2))); (first | (refine i64_k hc ?_ ?_ ?_ ; omega; omega; (clear hc; intro hc; subst hc)) | skip)) | (apply Exists.intro; apply And.intro; (first | (focus (repeat (first | (with_reducible assumption) | (with_reducible exact AH.set_same _ _ _) | ((first | refine AH.get_ne ?_ ?_); (first | (with_reducible assumption) | exact AH.ne_none (by with_reducible assumption) (by with_reducible assumption))))); done))) | (apply Exists.intro; apply And.intro; first | (with_reducible assumption) | ((try simp only [List.getElem?_drop, Nat.mul_one, Nat.add_zero, Nat.zero_add]); first | (with_reducible assumption) | rfl)) | (apply And.intro; (first | rfl | (with_reducible assumption) | omega)))) <;> (try (conv => whnf))
  refine AWp_nilrow1 11 1 rfl rfl fun r1 hr1 => ?_
  obtain ⟨A, hA⟩ : ∃ A : Ln, A = fun k => M k i := ⟨_, rfl⟩
  refine AWp_loop (σ := Nat × Nat) (11 :: 12 :: 13 :: 14 :: 15 :: 16 :: 17 :: 18 :: 19 :: 20 :: 21 :: 22 :: 23 :: 24 :: 25 :: 26 :: 27 :: 28 :: 29 :: 30 :: 31 :: 32 :: 33 :: 34 :: 35 :: 36 :: 37 :: 38 :: 39 :: 40 :: []) (fun (k, v) => [(12, .int .i64 k), (11, .sl r1 v 1 0 k none)]) (fun (k, v) => AH.set H r1 (.row (iL k A) v)) (fun (k, v) => k ≤ n) (fun (k, v) => n - k) (0, 0) rfl ?_ ?_ ?_ ?_
  · exact Nat.zero_le _
  · exact ⟨rfl, rfl, trivial⟩
  · exact HLe.refl _
  · rintro ⟨k, v⟩ hk
    dsimp only at hk ⊢
    refine AWp.of tt_ok (dok _) rfl ?_
    have l1 := iL_len k A
    by_cases hkn : k < n
    · have p1 : 0 ≤ (k : Int) * s := Int.mul_nonneg (by omega) (by omega)
      have p2 : (k : Int) * s + i < ((s * s : Nat) : Int) := by
        have := (place (s := s) (r := k) (c := i) (by omega) (by omega)).1
        rw [← Int.natCast_mul]; omega
      have e3 : ((k : Int) * s + i).toNat = k * s + i := by rw [← Int.natCast_mul]; omega
      have g1 : cells[((k : Int) * s + i).toNat]? = some (.int .i64 (M k i)) := by rw [e3]; exact hg _ _ (by omega) (by omega)
      (repeat' ((conv => whnf); first | refine Then.mk ?_ | left | refine OpsA.cons ?_ | refine OpsA.nil ?_ | refine AWq.seq ?_ | refine AWq.region ?_ | refine AWq.cond ?_ | refine AWq.block ?_ | refine AWq.skip ?_ | refine AWq.ret ?_ | refine AWq.exit ?_ | refine AWq.loop ?_ | (refine Both.mk ?_ ?_ <;> intro hc <;> (first | exact Bool.noConfusion hc | (exfalso; omega) | skip)) | (intro c hc; (try (simp only [AH.none_iff] at hc; repeat (have hn := hc.1; replace hc := hc.2))); (first | (refine i64_k hc ?_ ?_ ?_ ; omega; omega; (clear hc; intro hc; subst hc)) | skip)) | (apply Exists.intro; apply And.intro; (first | (focus (repeat (first | (with_reducible assumption) | (with_reducible exact AH.set_same _ _ _) | ((first | refine AH.get_ne ?_ ?_); (first | (with_reducible assumption) | exact AH.ne_none (by with_reducible assumption) (by with_reducible assumption))))); done))) | (apply Exists.intro; apply And.intro; first | (with_reducible assumption) | ((try simp only [List.getElem?_drop, Nat.mul_one, Nat.add_zero, Nat.zero_add]); first | (with_reducible assumption) | rfl)) | (apply And.intro; (first | rfl | (with_reducible assumption) | omega)))) <;> (try (conv => whnf))
      refine ⟨(k + 1, v + 1), by show k + 1 ≤ n; omega, by show n - (k + 1) < n - k; omega, ⟨congrArg (AV.int .i64) (by omega), rfl, trivial⟩, HLe.of_eq (Eq.symm ((AH.set_set _ _ _ _).trans ?_))⟩
      refine congrArg (fun l => AH.set H r1 (.row l (v + 1))) ?_
      show iL k A ++ [AV.int .i64 (M k i)] = iL (k + 1) A
      rw [← iL_snoc, hA]
    · have he : k = n := by omega
      subst he
      (repeat' ((conv => whnf); first | refine Then.mk ?_ | refine OpsA.cons ?_ | refine OpsA.nil ?_ | refine AWq.seq ?_ | refine AWq.region ?_ | refine AWq.cond ?_ | refine AWq.block ?_ | refine AWq.skip ?_ | refine AWq.ret ?_ | refine AWq.exit ?_ | refine AWq.loop ?_ | (refine Both.mk ?_ ?_ <;> intro hc <;> (first | exact Bool.noConfusion hc | (exfalso; omega) | skip)) | (intro c hc; (try (simp only [AH.none_iff] at hc; repeat (have hn := hc.1; replace hc := hc.2))); (first | (refine i64_k hc ?_ ?_ ?_ ; omega; omega; (clear hc; intro hc; subst hc)) | skip)) | (apply Exists.intro; apply And.intro; (first | (focus (repeat (first | (with_reducible assumption) | (with_reducible exact AH.set_same _ _ _) | ((first | refine AH.get_ne ?_ ?_); (first | (with_reducible assumption) | exact AH.ne_none (by with_reducible assumption) (by with_reducible assumption))))); done))) | (apply Exists.intro; apply And.intro; first | (with_reducible assumption) | ((try simp only [List.getElem?_drop, Nat.mul_one, Nat.add_zero, Nat.zero_add]); first | (with_reducible assumption) | rfl)) | (apply And.intro; (first | rfl | (with_reducible assumption) | omega)))) <;> (try (conv => whnf))
      exact .inr ⟨r1, hr1, v, rfl, by rw [hA]⟩

set_option maxRecDepth 8000 in
theorem lines_rs (s h : Nat) (hs : s ≤ 16) (h1 : 1 ≤ h) (hn : 2 * h ≤ s) (M : Mat) (hM : BndS s 2305843009213693952 M) (H : AH) :
    ACall Try.prog 66 [.int .i64 s, .cs (mL s M) (s * s), .int .i64 (2 * h : Nat), .bool false, .bool false] H (fun y H' => y = .cs (mL s (rowsM spl (2 * h) M)) (s * s) ∧ H' = H) := by
  refine ACall.coldX (es := 1) (Q := fun H' => H' = H) (by rw [mL_len]; omega) ?_
  have hss : s * s ≤ 256 := Nat.mul_le_mul hs hs
  have hml := mL_len s M
  refine ACall_of tt_ok (dok _) Try.func66 rfl (by decide) rfl ?_
  (repeat' ((conv => whnf); first | refine Then.mk ?_ | refine OpsA.cons ?_ | refine OpsA.nil ?_ | refine AWq.seq ?_ | refine AWq.region ?_ | refine AWq.cond ?_ | refine AWq.block ?_ | refine AWq.skip ?_ | refine AWq.ret ?_ | refine AWq.exit ?_ | refine AWq.loop ?_ | (refine Both.mk ?_ ?_ <;> intro hc <;> (first | exact Bool.noConfusion hc | (exfalso; omega) | skip)) | (intro c hc; (try (simp only [AH.none_iff] at hc; repeat (have hn := hc.1; replace hc := hc.2))); (first | (refine i64_k hc ?_ ?_ ?_ ; omega; omega; (clear hc; intro hc; subst hc)) | skip)) | (apply Exists.intro; apply And.intro; (first | (focus (repeat (first | (with_reducible assumption) | (with_reducible exact AH.set_same _ _ _))); done))) | (apply Exists.intro; apply And.intro; first | (with_reducible assumption) | ((try simp only [List.getElem?_drop, Nat.mul_one, Nat.add_zero, Nat.zero_add]); first | (with_reducible assumption) | rfl)) | (apply And.intro; (first | rfl | (with_reducible assumption) | omega | (simp <;> omega) | (focus (repeat' (first | (with_reducible assumption) | exact one_iS _ _ | rfl)); done))))) <;> (try (conv => whnf))
  have hcc : H c = none := by assumption
  obtain ⟨q, hqq⟩ : ∃ q, q = c := ⟨_, rfl⟩
  rw [← hqq] at hcc ⊢
  clear hqq
  refine AWp_loop (σ := Nat) (12 :: 13 :: 14 :: 18 :: 19 :: 20 :: 21 :: 22 :: 23 :: 24 :: 25 :: 26 :: 27 :: 28 :: 29 :: 30 :: 31 :: 32 :: 33 :: 34 :: 35 :: 36 :: 37 :: 38 :: 39 :: 40 :: 41 :: 42 :: 43 :: 44 :: 45 :: 46 :: 47 :: 48 :: 49 :: 50 :: 51 :: 52 :: 53 :: 54 :: 55 :: 56 :: 57 :: 58 :: 59 :: 60 :: 61 :: []) (fun i => [(12, .int .i64 i)]) (fun i => AH.set H q (.row (mL s (rowsI spl (2 * h) i M)) 0)) (fun i => i ≤ 2 * h) (fun i => 2 * h - i) 0 rfl ?_ ?_ ?_ ?_
  · exact Nat.zero_le _
  · exact ⟨rfl, trivial⟩
  · refine HLe.of_eq (congrArg (fun l => AH.set H q (.row l 0)) ?_)
    refine congrArg (iS .i64) (toL_congr fun r c _ _ => ?_)
    unfold rowsI
    rw [if_neg (by omega)]
  · rintro i hi
    refine AWp.of tt_ok (dok _) rfl ?_
    by_cases hin : i < 2 * h
    · have hp := fun u K hq => part_rw s (2 * h) i hs hn (by omega) (rowsI spl (2 * h) i M) (mL s (rowsI spl (2 * h) i M)) q u K hq (mL_len _ _) (fun r c hr hc => mL_get _ hr hc)
      have hX : iL (2 * h) (fun k => rowsI spl (2 * h) i M i k) = iL (2 * h) (M i) := iL_congr fun k hk => by unfold rowsI; rw [if_neg (by omega)]
      rw [hX] at hp
      have hs2 := fun K => rsplit_k h h1 (by omega) (M i) (fun j hj => by have := hM i j (by omega) (by omega); omega) (iL (2 * h) (M i)) K (iL_len _ _) (fun j hj => iL_get _ hj)
      obtain ⟨F, hF⟩ : ∃ F, F = spl (2 * h) (M i) := ⟨_, rfl⟩
      rw [← hF] at hs2
      (repeat' ((conv => whnf); first | refine Then.mk ?_ | refine OpsA.cons ?_ | refine OpsA.nil ?_ | refine AWq.seq ?_ | refine AWq.region ?_ | refine AWq.cond ?_ | refine AWq.block ?_ | refine AWq.skip ?_ | refine AWq.ret ?_ | refine AWq.exit ?_ | refine AWq.loop ?_ | (refine Both.mk ?_ ?_ <;> intro hc <;> (first | exact Bool.noConfusion hc | (exfalso; omega) | skip)) | (intro c hc; (try (simp only [AH.none_iff] at hc; repeat (have hn := hc.1; replace hc := hc.2))); (first | (refine i64_k hc ?_ ?_ ?_ ; omega; omega; (clear hc; intro hc; subst hc)) | skip)) | (apply Exists.intro; apply And.intro; (first | (focus (repeat (first | (with_reducible assumption) | (with_reducible exact AH.set_same _ _ _))); done))) | (apply Exists.intro; apply And.intro; first | (with_reducible assumption) | ((try simp only [List.getElem?_drop, Nat.mul_one, Nat.add_zero, Nat.zero_add]); first | (with_reducible assumption) | rfl)) | (apply And.intro; (first | rfl | (with_reducible assumption) | omega | (simp <;> omega) | (focus (repeat' (first | (with_reducible assumption) | exact one_iS _ _ | rfl)); done))) | (refine ACall.to (hp _ _ (AH.set_same _ _ _)) ?_) | (refine ACall.to (hs2 _) ?_))) <;> (try (conv => whnf))
      obtain ⟨cs, hcs⟩ : ∃ cs, cs = iL (2 * h) F := ⟨_, rfl⟩
      have hcl : cs.length = 2 * h := by rw [hcs]; exact iL_len _ F
      have hcg : ∀ j, j < 2 * h → cs[j]? = some (.int .i64 (F j)) := fun j hj => by rw [hcs]; exact iL_get F hj
      rw [← hcs]
      refine AWp_loop (σ := Nat) (14 :: 34 :: 35 :: 36 :: 37 :: 38 :: 39 :: 40 :: 41 :: 42 :: 43 :: 44 :: 45 :: 46 :: 47 :: 48 :: 49 :: 50 :: 51 :: 52 :: 53 :: 54 :: 55 :: 56 :: 57 :: 58 :: 59 :: 60 :: 61 :: []) (fun k => [(14, .int .i64 k)]) (fun k => AH.set H q (.row (mL s (fun r c => if r = i ∧ c < k then F c else rowsI spl (2 * h) i M r c)) 0)) (fun k => k ≤ 2 * h) (fun k => 2 * h - k) 0 rfl ?_ ?_ ?_ ?_
      · exact Nat.zero_le _
      · exact ⟨rfl, trivial⟩
      · refine HLe.of_eq (congrArg (fun l => AH.set H q (.row l 0)) ?_)
        refine congrArg (iS .i64) (toL_congr fun r c _ _ => ?_)
        rw [if_neg (by omega)]
      · rintro k hk
        refine AWp.of tt_ok (dok _) rfl ?_
        by_cases hkn : k < 2 * h
        · have p1 : 0 ≤ (i : Int) * s := Int.mul_nonneg (by omega) (by omega)
          have p2 : (i : Int) * s + k < ((s * s : Nat) : Int) := by
            have := (place (s := s) (r := i) (c := k) (by omega) (by omega)).1
            rw [← Int.natCast_mul]; omega
          have e3 : ((i : Int) * s + k).toNat = i * s + k := by rw [← Int.natCast_mul]; omega
          have g2 : cs[(k : Int).toNat]? = some (.int .i64 (F k)) := hcg k hkn
          have hl := mL_len s (fun r c => if r = i ∧ c < k then F c else rowsI spl (2 * h) i M r c)
          (repeat' ((conv => whnf); first | refine Then.mk ?_ | refine OpsA.cons ?_ | refine OpsA.nil ?_ | refine AWq.seq ?_ | refine AWq.region ?_ | refine AWq.cond ?_ | refine AWq.block ?_ | refine AWq.skip ?_ | refine AWq.ret ?_ | refine AWq.exit ?_ | refine AWq.loop ?_ | (refine Both.mk ?_ ?_ <;> intro hc <;> (first | exact Bool.noConfusion hc | (exfalso; omega) | skip)) | (intro c hc; (try (simp only [AH.none_iff] at hc; repeat (have hn := hc.1; replace hc := hc.2))); (first | (refine i64_k hc ?_ ?_ ?_ ; omega; omega; (clear hc; intro hc; subst hc)) | skip)) | (apply Exists.intro; apply And.intro; (first | (focus (repeat (first | (with_reducible assumption) | (with_reducible exact AH.set_same _ _ _))); done))) | (apply Exists.intro; apply And.intro; first | (with_reducible assumption) | ((try simp only [List.getElem?_drop, Nat.mul_one, Nat.add_zero, Nat.zero_add]); first | (with_reducible assumption) | rfl)) | (apply And.intro; (first | rfl | (with_reducible assumption) | omega | (simp <;> omega) | (focus (repeat' (first | (with_reducible assumption) | exact one_iS _ _ | rfl)); done))))) <;> (try (conv => whnf))
          refine ⟨k + 1, by omega, by omega, ⟨congrArg (AV.int .i64) (by omega), trivial⟩, HLe.of_eq (Eq.symm ((AH.set_set _ _ _ _).trans ?_))⟩
          refine congrArg (fun l => AH.set H q (.row l 0)) ?_
          show wrA (mL s _) (0 + ((i : Int) * s + k).toNat * 1) [AV.int .i64 (F k)] = _
          rw [show 0 + ((i : Int) * s + k).toNat * 1 = i * s + k by omega, mL_set _ (by omega) (by omega)]
          refine congrArg (iS .i64) (toL_congr fun r c hr hc => ?_)
          unfold updM
          by_cases c1 : r = i ∧ c = k
          · rw [if_pos c1, if_pos (by omega)]; congr 1; omega
          · rw [if_neg c1]
            dsimp only
            by_cases c2 : r = i ∧ c < k
            · rw [if_pos c2, if_pos (by omega)]
            · rw [if_neg c2, if_neg (by omega)]
        · have he2 : k = 2 * h := by omega
          (repeat' ((conv => whnf); first | refine Then.mk ?_ | refine OpsA.cons ?_ | refine OpsA.nil ?_ | refine AWq.seq ?_ | refine AWq.region ?_ | refine AWq.cond ?_ | refine AWq.block ?_ | refine AWq.skip ?_ | refine AWq.ret ?_ | refine AWq.exit ?_ | refine AWq.loop ?_ | (refine Both.mk ?_ ?_ <;> intro hc <;> (first | exact Bool.noConfusion hc | (exfalso; omega) | skip)) | (intro c hc; (try (simp only [AH.none_iff] at hc; repeat (have hn := hc.1; replace hc := hc.2))); (first | (refine i64_k hc ?_ ?_ ?_ ; omega; omega; (clear hc; intro hc; subst hc)) | skip)) | (apply Exists.intro; apply And.intro; (first | (focus (repeat (first | (with_reducible assumption) | (with_reducible exact AH.set_same _ _ _))); done))) | (apply Exists.intro; apply And.intro; first | (with_reducible assumption) | ((try simp only [List.getElem?_drop, Nat.mul_one, Nat.add_zero, Nat.zero_add]); first | (with_reducible assumption) | rfl)) | (apply And.intro; (first | rfl | (with_reducible assumption) | omega | (simp <;> omega) | (focus (repeat' (first | (with_reducible assumption) | exact one_iS _ _ | rfl)); done))))) <;> (try (conv => whnf))
          refine ⟨i + 1, by omega, by omega, ⟨congrArg (AV.int .i64) (by omega), trivial⟩, HLe.of_eq (congrArg (fun l => AH.set H q (.row l 0)) (congrArg (iS .i64) (toL_congr fun r c hr hc => ?_)))⟩
          rw [hF]
          unfold rowsI
          by_cases c1 : r = i ∧ c < k
          · rw [if_pos c1, if_pos (by omega)]; rw [c1.1]
          · rw [if_neg c1]
            by_cases c2 : r < i ∧ c < 2 * h
            · rw [if_pos c2, if_pos (by omega)]
            · rw [if_neg c2, if_neg (by omega)]
    · have he : i = 2 * h := by omega
      subst he
      (repeat' ((conv => whnf); first | refine Then.mk ?_ | refine OpsA.cons ?_ | refine OpsA.nil ?_ | refine AWq.seq ?_ | refine AWq.region ?_ | refine AWq.cond ?_ | refine AWq.block ?_ | refine AWq.skip ?_ | refine AWq.ret ?_ | refine AWq.exit ?_ | refine AWq.loop ?_ | (refine Both.mk ?_ ?_ <;> intro hc <;> (first | exact Bool.noConfusion hc | (exfalso; omega) | skip)) | (intro c hc; (try (simp only [AH.none_iff] at hc; repeat (have hn := hc.1; replace hc := hc.2))); (first | (refine i64_k hc ?_ ?_ ?_ ; omega; omega; (clear hc; intro hc; subst hc)) | skip)) | (apply Exists.intro; apply And.intro; (first | (focus (repeat (first | (with_reducible assumption) | (with_reducible exact AH.set_same _ _ _))); done))) | (apply Exists.intro; apply And.intro; first | (with_reducible assumption) | ((try simp only [List.getElem?_drop, Nat.mul_one, Nat.add_zero, Nat.zero_add]); first | (with_reducible assumption) | rfl)) | (apply And.intro; (first | rfl | (with_reducible assumption) | omega | (simp <;> omega) | (focus (repeat' (first | (with_reducible assumption) | exact one_iS _ _ | rfl)); done))))) <;> (try (conv => whnf))
      exact .inr ⟨q, hcc, 0, rfl, rfl⟩

set_option maxRecDepth 8000 in
theorem lines_cs (s h : Nat) (hs : s ≤ 16) (h1 : 1 ≤ h) (hn : 2 * h ≤ s) (M : Mat) (hM : BndS s 2305843009213693952 M) (H : AH) :
    ACall Try.prog 66 [.int .i64 s, .cs (mL s M) (s * s), .int .i64 (2 * h : Nat), .bool true, .bool false] H (fun y H' => y = .cs (mL s (colsM spl (2 * h) M)) (s * s) ∧ H' = H) := by
  refine ACall.coldX (es := 1) (Q := fun H' => H' = H) (by rw [mL_len]; omega) ?_
  have hss : s * s ≤ 256 := Nat.mul_le_mul hs hs
  have hml := mL_len s M
  refine ACall_of tt_ok (dok _) Try.func66 rfl (by decide) rfl ?_
  (repeat' ((conv => whnf); first | refine Then.mk ?_ | refine OpsA.cons ?_ | refine OpsA.nil ?_ | refine AWq.seq ?_ | refine AWq.region ?_ | refine AWq.cond ?_ | refine AWq.block ?_ | refine AWq.skip ?_ | refine AWq.ret ?_ | refine AWq.exit ?_ | refine AWq.loop ?_ | (refine Both.mk ?_ ?_ <;> intro hc <;> (first | exact Bool.noConfusion hc | (exfalso; omega) | skip)) | (intro c hc; (try (simp only [AH.none_iff] at hc; repeat (have hn := hc.1; replace hc := hc.2))); (first | (refine i64_k hc ?_ ?_ ?_ ; omega; omega; (clear hc; intro hc; subst hc)) | skip)) | (apply Exists.intro; apply And.intro; (first | (focus (repeat (first | (with_reducible assumption) | (with_reducible exact AH.set_same _ _ _))); done))) | (apply Exists.intro; apply And.intro; first | (with_reducible assumption) | ((try simp only [List.getElem?_drop, Nat.mul_one, Nat.add_zero, Nat.zero_add]); first | (with_reducible assumption) | rfl)) | (apply And.intro; (first | rfl | (with_reducible assumption) | omega | (simp <;> omega) | (focus (repeat' (first | (with_reducible assumption) | exact one_iS _ _ | rfl)); done))))) <;> (try (conv => whnf))
  have hcc : H c = none := by assumption
  obtain ⟨q, hqq⟩ : ∃ q, q = c := ⟨_, rfl⟩
  rw [← hqq] at hcc ⊢
  clear hqq
  refine AWp_loop (σ := Nat) (12 :: 13 :: 14 :: 18 :: 19 :: 20 :: 21 :: 22 :: 23 :: 24 :: 25 :: 26 :: 27 :: 28 :: 29 :: 30 :: 31 :: 32 :: 33 :: 34 :: 35 :: 36 :: 37 :: 38 :: 39 :: 40 :: 41 :: 42 :: 43 :: 44 :: 45 :: 46 :: 47 :: 48 :: 49 :: 50 :: 51 :: 52 :: 53 :: 54 :: 55 :: 56 :: 57 :: 58 :: 59 :: 60 :: 61 :: []) (fun i => [(12, .int .i64 i)]) (fun i => AH.set H q (.row (mL s (colsI spl (2 * h) i M)) 0)) (fun i => i ≤ 2 * h) (fun i => 2 * h - i) 0 rfl ?_ ?_ ?_ ?_
  · exact Nat.zero_le _
  · exact ⟨rfl, trivial⟩
  · refine HLe.of_eq (congrArg (fun l => AH.set H q (.row l 0)) ?_)
    refine congrArg (iS .i64) (toL_congr fun r c _ _ => ?_)
    unfold colsI
    rw [if_neg (by omega)]
  · rintro i hi
    refine AWp.of tt_ok (dok _) rfl ?_
    by_cases hin : i < 2 * h
    · have hp := fun u K hq => part_cw s (2 * h) i hs hn (by omega) (colsI spl (2 * h) i M) (mL s (colsI spl (2 * h) i M)) q u K hq (mL_len _ _) (fun r c hr hc => mL_get _ hr hc)
      have hX : iL (2 * h) (fun k => colsI spl (2 * h) i M k i) = iL (2 * h) (fun k => M k i) := iL_congr fun k hk => by unfold colsI; rw [if_neg (by omega)]
      rw [hX] at hp
      have hs2 := fun K => rsplit_k h h1 (by omega) (fun k => M k i) (fun j hj => by have := hM j i (by omega) (by omega); omega) (iL (2 * h) (fun k => M k i)) K (iL_len _ _) (fun j hj => iL_get _ hj)
      obtain ⟨F, hF⟩ : ∃ F, F = spl (2 * h) (fun k => M k i) := ⟨_, rfl⟩
      rw [← hF] at hs2
      (repeat' ((conv => whnf); first | refine Then.mk ?_ | refine OpsA.cons ?_ | refine OpsA.nil ?_ | refine AWq.seq ?_ | refine AWq.region ?_ | refine AWq.cond ?_ | refine AWq.block ?_ | refine AWq.skip ?_ | refine AWq.ret ?_ | refine AWq.exit ?_ | refine AWq.loop ?_ | (refine Both.mk ?_ ?_ <;> intro hc <;> (first | exact Bool.noConfusion hc | (exfalso; omega) | skip)) | (intro c hc; (try (simp only [AH.none_iff] at hc; repeat (have hn := hc.1; replace hc := hc.2))); (first | (refine i64_k hc ?_ ?_ ?_ ; omega; omega; (clear hc; intro hc; subst hc)) | skip)) | (apply Exists.intro; apply And.intro; (first | (focus (repeat (first | (with_reducible assumption) | (with_reducible exact AH.set_same _ _ _))); done))) | (apply Exists.intro; apply And.intro; first | (with_reducible assumption) | ((try simp only [List.getElem?_drop, Nat.mul_one, Nat.add_zero, Nat.zero_add]); first | (with_reducible assumption) | rfl)) | (apply And.intro; (first | rfl | (with_reducible assumption) | omega | (simp <;> omega) | (focus (repeat' (first | (with_reducible assumption) | exact one_iS _ _ | rfl)); done))) | (refine ACall.to (hp _ _ (AH.set_same _ _ _)) ?_) | (refine ACall.to (hs2 _) ?_))) <;> (try (conv => whnf))
      obtain ⟨cs, hcs⟩ : ∃ cs, cs = iL (2 * h) F := ⟨_, rfl⟩
      have hcl : cs.length = 2 * h := by rw [hcs]; exact iL_len _ F
      have hcg : ∀ j, j < 2 * h → cs[j]? = some (.int .i64 (F j)) := fun j hj => by rw [hcs]; exact iL_get F hj
      rw [← hcs]
      refine AWp_loop (σ := Nat) (14 :: 34 :: 35 :: 36 :: 37 :: 38 :: 39 :: 40 :: 41 :: 42 :: 43 :: 44 :: 45 :: 46 :: 47 :: 48 :: 49 :: 50 :: 51 :: 52 :: 53 :: 54 :: 55 :: 56 :: 57 :: 58 :: 59 :: 60 :: 61 :: []) (fun k => [(14, .int .i64 k)]) (fun k => AH.set H q (.row (mL s (fun r c => if c = i ∧ r < k then F r else colsI spl (2 * h) i M r c)) 0)) (fun k => k ≤ 2 * h) (fun k => 2 * h - k) 0 rfl ?_ ?_ ?_ ?_
      · exact Nat.zero_le _
      · exact ⟨rfl, trivial⟩
      · refine HLe.of_eq (congrArg (fun l => AH.set H q (.row l 0)) ?_)
        refine congrArg (iS .i64) (toL_congr fun r c _ _ => ?_)
        rw [if_neg (by omega)]
      · rintro k hk
        refine AWp.of tt_ok (dok _) rfl ?_
        by_cases hkn : k < 2 * h
        · have p1 : 0 ≤ (k : Int) * s := Int.mul_nonneg (by omega) (by omega)
          have p2 : (k : Int) * s + i < ((s * s : Nat) : Int) := by
            have := (place (s := s) (r := k) (c := i) (by omega) (by omega)).1
            rw [← Int.natCast_mul]; omega
          have e3 : ((k : Int) * s + i).toNat = k * s + i := by rw [← Int.natCast_mul]; omega
          have g2 : cs[(k : Int).toNat]? = some (.int .i64 (F k)) := hcg k hkn
          have hl := mL_len s (fun r c => if c = i ∧ r < k then F r else colsI spl (2 * h) i M r c)
          (repeat' ((conv => whnf); first | refine Then.mk ?_ | refine OpsA.cons ?_ | refine OpsA.nil ?_ | refine AWq.seq ?_ | refine AWq.region ?_ | refine AWq.cond ?_ | refine AWq.block ?_ | refine AWq.skip ?_ | refine AWq.ret ?_ | refine AWq.exit ?_ | refine AWq.loop ?_ | (refine Both.mk ?_ ?_ <;> intro hc <;> (first | exact Bool.noConfusion hc | (exfalso; omega) | skip)) | (intro c hc; (try (simp only [AH.none_iff] at hc; repeat (have hn := hc.1; replace hc := hc.2))); (first | (refine i64_k hc ?_ ?_ ?_ ; omega; omega; (clear hc; intro hc; subst hc)) | skip)) | (apply Exists.intro; apply And.intro; (first | (focus (repeat (first | (with_reducible assumption) | (with_reducible exact AH.set_same _ _ _))); done))) | (apply Exists.intro; apply And.intro; first | (with_reducible assumption) | ((try simp only [List.getElem?_drop, Nat.mul_one, Nat.add_zero, Nat.zero_add]); first | (with_reducible assumption) | rfl)) | (apply And.intro; (first | rfl | (with_reducible assumption) | omega | (simp <;> omega) | (focus (repeat' (first | (with_reducible assumption) | exact one_iS _ _ | rfl)); done))))) <;> (try (conv => whnf))
          refine ⟨k + 1, by omega, by omega, ⟨congrArg (AV.int .i64) (by omega), trivial⟩, HLe.of_eq (Eq.symm ((AH.set_set _ _ _ _).trans ?_))⟩
          refine congrArg (fun l => AH.set H q (.row l 0)) ?_
          show wrA (mL s _) (0 + ((k : Int) * s + i).toNat * 1) [AV.int .i64 (F k)] = _
          rw [show 0 + ((k : Int) * s + i).toNat * 1 = k * s + i by omega, mL_set _ (by omega) (by omega)]
          refine congrArg (iS .i64) (toL_congr fun r c hr hc => ?_)
          unfold updM
          by_cases c1 : r = k ∧ c = i
          · rw [if_pos c1, if_pos (by omega)]; congr 1; omega
          · rw [if_neg c1]
            dsimp only
            by_cases c2 : c = i ∧ r < k
            · rw [if_pos c2, if_pos (by omega)]
            · rw [if_neg c2, if_neg (by omega)]
        · have he2 : k = 2 * h := by omega
          (repeat' ((conv => whnf); first | refine Then.mk ?_ | refine OpsA.cons ?_ | refine OpsA.nil ?_ | refine AWq.seq ?_ | refine AWq.region ?_ | refine AWq.cond ?_ | refine AWq.block ?_ | refine AWq.skip ?_ | refine AWq.ret ?_ | refine AWq.exit ?_ | refine AWq.loop ?_ | (refine Both.mk ?_ ?_ <;> intro hc <;> (first | exact Bool.noConfusion hc | (exfalso; omega) | skip)) | (intro c hc; (try (simp only [AH.none_iff] at hc; repeat (have hn := hc.1; replace hc := hc.2))); (first | (refine i64_k hc ?_ ?_ ?_ ; omega; omega; (clear hc; intro hc; subst hc)) | skip)) | (apply Exists.intro; apply And.intro; (first | (focus (repeat (first | (with_reducible assumption) | (with_reducible exact AH.set_same _ _ _))); done))) | (apply Exists.intro; apply And.intro; first | (with_reducible assumption) | ((try simp only [List.getElem?_drop, Nat.mul_one, Nat.add_zero, Nat.zero_add]); first | (with_reducible assumption) | rfl)) | (apply And.intro; (first | rfl | (with_reducible assumption) | omega | (simp <;> omega) | (focus (repeat' (first | (with_reducible assumption) | exact one_iS _ _ | rfl)); done))))) <;> (try (conv => whnf))
          refine ⟨i + 1, by omega, by omega, ⟨congrArg (AV.int .i64) (by omega), trivial⟩, HLe.of_eq (congrArg (fun l => AH.set H q (.row l 0)) (congrArg (iS .i64) (toL_congr fun r c hr hc => ?_)))⟩
          rw [hF]
          unfold colsI
          by_cases c1 : c = i ∧ r < k
          · rw [if_pos c1, if_pos (by omega)]; rw [c1.1]
          · rw [if_neg c1]
            by_cases c2 : r < 2 * h ∧ c < i
            · rw [if_pos c2, if_pos (by omega)]
            · rw [if_neg c2, if_neg (by omega)]
    · have he : i = 2 * h := by omega
      subst he
      (repeat' ((conv => whnf); first | refine Then.mk ?_ | refine OpsA.cons ?_ | refine OpsA.nil ?_ | refine AWq.seq ?_ | refine AWq.region ?_ | refine AWq.cond ?_ | refine AWq.block ?_ | refine AWq.skip ?_ | refine AWq.ret ?_ | refine AWq.exit ?_ | refine AWq.loop ?_ | (refine Both.mk ?_ ?_ <;> intro hc <;> (first | exact Bool.noConfusion hc | (exfalso; omega) | skip)) | (intro c hc; (try (simp only [AH.none_iff] at hc; repeat (have hn := hc.1; replace hc := hc.2))); (first | (refine i64_k hc ?_ ?_ ?_ ; omega; omega; (clear hc; intro hc; subst hc)) | skip)) | (apply Exists.intro; apply And.intro; (first | (focus (repeat (first | (with_reducible assumption) | (with_reducible exact AH.set_same _ _ _))); done))) | (apply Exists.intro; apply And.intro; first | (with_reducible assumption) | ((try simp only [List.getElem?_drop, Nat.mul_one, Nat.add_zero, Nat.zero_add]); first | (with_reducible assumption) | rfl)) | (apply And.intro; (first | rfl | (with_reducible assumption) | omega | (simp <;> omega) | (focus (repeat' (first | (with_reducible assumption) | exact one_iS _ _ | rfl)); done))))) <;> (try (conv => whnf))
      exact .inr ⟨q, hcc, 0, rfl, rfl⟩

set_option maxRecDepth 8000 in
theorem lines_rj (s h : Nat) (hs : s ≤ 16) (h1 : 1 ≤ h) (hn : 2 * h ≤ s) (M : Mat) (hM : BndS s 1152921504606846976 M) (H : AH) :
    ACall Try.prog 66 [.int .i64 s, .cs (mL s M) (s * s), .int .i64 (2 * h : Nat), .bool false, .bool true] H (fun y H' => y = .cs (mL s (rowsM joi (2 * h) M)) (s * s) ∧ H' = H) := by
  refine ACall.coldX (es := 1) (Q := fun H' => H' = H) (by rw [mL_len]; omega) ?_
  have hss : s * s ≤ 256 := Nat.mul_le_mul hs hs
  have hml := mL_len s M
  refine ACall_of tt_ok (dok _) Try.func66 rfl (by decide) rfl ?_
  (repeat' ((conv => whnf); first | refine Then.mk ?_ | refine OpsA.cons ?_ | refine OpsA.nil ?_ | refine AWq.seq ?_ | refine AWq.region ?_ | refine AWq.cond ?_ | refine AWq.block ?_ | refine AWq.skip ?_ | refine AWq.ret ?_ | refine AWq.exit ?_ | refine AWq.loop ?_ | (refine Both.mk ?_ ?_ <;> intro hc <;> (first | exact Bool.noConfusion hc | (exfalso; omega) | skip)) | (intro c hc; (try (simp only [AH.none_iff] at hc; repeat (have hn := hc.1; replace hc := hc.2))); (first | (refine i64_k hc ?_ ?_ ?_ ; omega; omega; (clear hc; intro hc; subst hc)) | skip)) | (apply Exists.intro; apply And.intro; (first | (focus (repeat (first | (with_reducible assumption) | (with_reducible exact AH.set_same _ _ _))); done))) | (apply Exists.intro; apply And.intro; first | (with_reducible assumption) | ((try simp only [List.getElem?_drop, Nat.mul_one, Nat.add_zero, Nat.zero_add]); first | (with_reducible assumption) | rfl)) | (apply And.intro; (first | rfl | (with_reducible assumption) | omega | (simp <;> omega) | (focus (repeat' (first | (with_reducible assumption) | exact one_iS _ _ | rfl)); done))))) <;> (try (conv => whnf))
  have hcc : H c = none := by assumption
  obtain ⟨q, hqq⟩ : ∃ q, q = c := ⟨_, rfl⟩
  rw [← hqq] at hcc ⊢
  clear hqq
  refine AWp_loop (σ := Nat) (12 :: 13 :: 14 :: 18 :: 19 :: 20 :: 21 :: 22 :: 23 :: 24 :: 25 :: 26 :: 27 :: 28 :: 29 :: 30 :: 31 :: 32 :: 33 :: 34 :: 35 :: 36 :: 37 :: 38 :: 39 :: 40 :: 41 :: 42 :: 43 :: 44 :: 45 :: 46 :: 47 :: 48 :: 49 :: 50 :: 51 :: 52 :: 53 :: 54 :: 55 :: 56 :: 57 :: 58 :: 59 :: 60 :: 61 :: []) (fun i => [(12, .int .i64 i)]) (fun i => AH.set H q (.row (mL s (rowsI joi (2 * h) i M)) 0)) (fun i => i ≤ 2 * h) (fun i => 2 * h - i) 0 rfl ?_ ?_ ?_ ?_
  · exact Nat.zero_le _
  · exact ⟨rfl, trivial⟩
  · refine HLe.of_eq (congrArg (fun l => AH.set H q (.row l 0)) ?_)
    refine congrArg (iS .i64) (toL_congr fun r c _ _ => ?_)
    unfold rowsI
    rw [if_neg (by omega)]
  · rintro i hi
    refine AWp.of tt_ok (dok _) rfl ?_
    by_cases hin : i < 2 * h
    · have hp := fun u K hq => part_rw s (2 * h) i hs hn (by omega) (rowsI joi (2 * h) i M) (mL s (rowsI joi (2 * h) i M)) q u K hq (mL_len _ _) (fun r c hr hc => mL_get _ hr hc)
      have hX : iL (2 * h) (fun k => rowsI joi (2 * h) i M i k) = iL (2 * h) (M i) := iL_congr fun k hk => by unfold rowsI; rw [if_neg (by omega)]
      rw [hX] at hp
      have hs2 := fun K => rjoin_k h h1 (by omega) (M i) (fun j hj => by have := hM i j (by omega) (by omega); omega) (iL (2 * h) (M i)) K (iL_len _ _) (fun j hj => iL_get _ hj)
      obtain ⟨F, hF⟩ : ∃ F, F = joi (2 * h) (M i) := ⟨_, rfl⟩
      rw [← hF] at hs2
      (repeat' ((conv => whnf); first | refine Then.mk ?_ | refine OpsA.cons ?_ | refine OpsA.nil ?_ | refine AWq.seq ?_ | refine AWq.region ?_ | refine AWq.cond ?_ | refine AWq.block ?_ | refine AWq.skip ?_ | refine AWq.ret ?_ | refine AWq.exit ?_ | refine AWq.loop ?_ | (refine Both.mk ?_ ?_ <;> intro hc <;> (first | exact Bool.noConfusion hc | (exfalso; omega) | skip)) | (intro c hc; (try (simp only [AH.none_iff] at hc; repeat (have hn := hc.1; replace hc := hc.2))); (first | (refine i64_k hc ?_ ?_ ?_ ; omega; omega; (clear hc; intro hc; subst hc)) | skip)) | (apply Exists.intro; apply And.intro; (first | (focus (repeat (first | (with_reducible assumption) | (with_reducible exact AH.set_same _ _ _))); done))) | (apply Exists.intro; apply And.intro; first | (with_reducible assumption) | ((try simp only [List.getElem?_drop, Nat.mul_one, Nat.add_zero, Nat.zero_add]); first | (with_reducible assumption) | rfl)) | (apply And.intro; (first | rfl | (with_reducible assumption) | omega | (simp <;> omega) | (focus (repeat' (first | (with_reducible assumption) | exact one_iS _ _ | rfl)); done))) | (refine ACall.to (hp _ _ (AH.set_same _ _ _)) ?_) | (refine ACall.to (hs2 _) ?_))) <;> (try (conv => whnf))
      obtain ⟨cs, hcs⟩ : ∃ cs, cs = iL (2 * h) F := ⟨_, rfl⟩
      have hcl : cs.length = 2 * h := by rw [hcs]; exact iL_len _ F
      have hcg : ∀ j, j < 2 * h → cs[j]? = some (.int .i64 (F j)) := fun j hj => by rw [hcs]; exact iL_get F hj
      rw [← hcs]
      refine AWp_loop (σ := Nat) (14 :: 34 :: 35 :: 36 :: 37 :: 38 :: 39 :: 40 :: 41 :: 42 :: 43 :: 44 :: 45 :: 46 :: 47 :: 48 :: 49 :: 50 :: 51 :: 52 :: 53 :: 54 :: 55 :: 56 :: 57 :: 58 :: 59 :: 60 :: 61 :: []) (fun k => [(14, .int .i64 k)]) (fun k => AH.set H q (.row (mL s (fun r c => if r = i ∧ c < k then F c else rowsI joi (2 * h) i M r c)) 0)) (fun k => k ≤ 2 * h) (fun k => 2 * h - k) 0 rfl ?_ ?_ ?_ ?_
      · exact Nat.zero_le _
      · exact ⟨rfl, trivial⟩
      · refine HLe.of_eq (congrArg (fun l => AH.set H q (.row l 0)) ?_)
        refine congrArg (iS .i64) (toL_congr fun r c _ _ => ?_)
        rw [if_neg (by omega)]
      · rintro k hk
        refine AWp.of tt_ok (dok _) rfl ?_
        by_cases hkn : k < 2 * h
        · have p1 : 0 ≤ (i : Int) * s := Int.mul_nonneg (by omega) (by omega)
          have p2 : (i : Int) * s + k < ((s * s : Nat) : Int) := by
            have := (place (s := s) (r := i) (c := k) (by omega) (by omega)).1
            rw [← Int.natCast_mul]; omega
          have e3 : ((i : Int) * s + k).toNat = i * s + k := by rw [← Int.natCast_mul]; omega
          have g2 : cs[(k : Int).toNat]? = some (.int .i64 (F k)) := hcg k hkn
          have hl := mL_len s (fun r c => if r = i ∧ c < k then F c else rowsI joi (2 * h) i M r c)
          (repeat' ((conv => whnf); first | refine Then.mk ?_ | refine OpsA.cons ?_ | refine OpsA.nil ?_ | refine AWq.seq ?_ | refine AWq.region ?_ | refine AWq.cond ?_ | refine AWq.block ?_ | refine AWq.skip ?_ | refine AWq.ret ?_ | refine AWq.exit ?_ | refine AWq.loop ?_ | (refine Both.mk ?_ ?_ <;> intro hc <;> (first | exact Bool.noConfusion hc | (exfalso; omega) | skip)) | (intro c hc; (try (simp only [AH.none_iff] at hc; repeat (have hn := hc.1; replace hc := hc.2))); (first | (refine i64_k hc ?_ ?_ ?_ ; omega; omega; (clear hc; intro hc; subst hc)) | skip)) | (apply Exists.intro; apply And.intro; (first | (focus (repeat (first | (with_reducible assumption) | (with_reducible exact AH.set_same _ _ _))); done))) | (apply Exists.intro; apply And.intro; first | (with_reducible assumption) | ((try simp only [List.getElem?_drop, Nat.mul_one, Nat.add_zero, Nat.zero_add]); first | (with_reducible assumption) | rfl)) | (apply And.intro; (first | rfl | (with_reducible assumption) | omega | (simp <;> omega) | (focus (repeat' (first | (with_reducible assumption) | exact one_iS _ _ | rfl)); done))))) <;> (try (conv => whnf))
          refine ⟨k + 1, by omega, by omega, ⟨congrArg (AV.int .i64) (by omega), trivial⟩, HLe.of_eq (Eq.symm ((AH.set_set _ _ _ _).trans ?_))⟩
          refine congrArg (fun l => AH.set H q (.row l 0)) ?_
          show wrA (mL s _) (0 + ((i : Int) * s + k).toNat * 1) [AV.int .i64 (F k)] = _
          rw [show 0 + ((i : Int) * s + k).toNat * 1 = i * s + k by omega, mL_set _ (by omega) (by omega)]
          refine congrArg (iS .i64) (toL_congr fun r c hr hc => ?_)
          unfold updM
          by_cases c1 : r = i ∧ c = k
          · rw [if_pos c1, if_pos (by omega)]; congr 1; omega
          · rw [if_neg c1]
            dsimp only
            by_cases c2 : r = i ∧ c < k
            · rw [if_pos c2, if_pos (by omega)]
            · rw [if_neg c2, if_neg (by omega)]
        · have he2 : k = 2 * h := by omega
          (repeat' ((conv => whnf); first | refine Then.mk ?_ | refine OpsA.cons ?_ | refine OpsA.nil ?_ | refine AWq.seq ?_ | refine AWq.region ?_ | refine AWq.cond ?_ | refine AWq.block ?_ | refine AWq.skip ?_ | refine AWq.ret ?_ | refine AWq.exit ?_ | refine AWq.loop ?_ | (refine Both.mk ?_ ?_ <;> intro hc <;> (first | exact Bool.noConfusion hc | (exfalso; omega) | skip)) | (intro c hc; (try (simp only [AH.none_iff] at hc; repeat (have hn := hc.1; replace hc := hc.2))); (first | (refine i64_k hc ?_ ?_ ?_ ; omega; omega; (clear hc; intro hc; subst hc)) | skip)) | (apply Exists.intro; apply And.intro; (first | (focus (repeat (first | (with_reducible assumption) | (with_reducible exact AH.set_same _ _ _))); done))) | (apply Exists.intro; apply And.intro; first | (with_reducible assumption) | ((try simp only [List.getElem?_drop, Nat.mul_one, Nat.add_zero, Nat.zero_add]); first | (with_reducible assumption) | rfl)) | (apply And.intro; (first | rfl | (with_reducible assumption) | omega | (simp <;> omega) | (focus (repeat' (first | (with_reducible assumption) | exact one_iS _ _ | rfl)); done))))) <;> (try (conv => whnf))
          refine ⟨i + 1, by omega, by omega, ⟨congrArg (AV.int .i64) (by omega), trivial⟩, HLe.of_eq (congrArg (fun l => AH.set H q (.row l 0)) (congrArg (iS .i64) (toL_congr fun r c hr hc => ?_)))⟩
          rw [hF]
          unfold rowsI
          by_cases c1 : r = i ∧ c < k
          · rw [if_pos c1, if_pos (by omega)]; rw [c1.1]
          · rw [if_neg c1]
            by_cases c2 : r < i ∧ c < 2 * h
            · rw [if_pos c2, if_pos (by omega)]
            · rw [if_neg c2, if_neg (by omega)]
    · have he : i = 2 * h := by omega
      subst he
      (repeat' ((conv => whnf); first | refine Then.mk ?_ | refine OpsA.cons ?_ | refine OpsA.nil ?_ | refine AWq.seq ?_ | refine AWq.region ?_ | refine AWq.cond ?_ | refine AWq.block ?_ | refine AWq.skip ?_ | refine AWq.ret ?_ | refine AWq.exit ?_ | refine AWq.loop ?_ | (refine Both.mk ?_ ?_ <;> intro hc <;> (first | exact Bool.noConfusion hc | (exfalso; omega) | skip)) | (intro c hc; (try (simp only [AH.none_iff] at hc; repeat (have hn := hc.1; replace hc := hc.2))); (first | (refine i64_k hc ?_ ?_ ?_ ; omega; omega; (clear hc; intro hc; subst hc)) | skip)) | (apply Exists.intro; apply And.intro; (first | (focus (repeat (first | (with_reducible assumption) | (with_reducible exact AH.set_same _ _ _))); done))) | (apply Exists.intro; apply And.intro; first | (with_reducible assumption) | ((try simp only [List.getElem?_drop, Nat.mul_one, Nat.add_zero, Nat.zero_add]); first | (with_reducible assumption) | rfl)) | (apply And.intro; (first | rfl | (with_reducible assumption) | omega | (simp <;> omega) | (focus (repeat' (first | (with_reducible assumption) | exact one_iS _ _ | rfl)); done))))) <;> (try (conv => whnf))
      exact .inr ⟨q, hcc, 0, rfl, rfl⟩

set_option maxRecDepth 8000 in
theorem lines_cj (s h : Nat) (hs : s ≤ 16) (h1 : 1 ≤ h) (hn : 2 * h ≤ s) (M : Mat) (hM : BndS s 1152921504606846976 M) (H : AH) :
    ACall Try.prog 66 [.int .i64 s, .cs (mL s M) (s * s), .int .i64 (2 * h : Nat), .bool true, .bool true] H (fun y H' => y = .cs (mL s (colsM joi (2 * h) M)) (s * s) ∧ H' = H) := by
  refine ACall.coldX (es := 1) (Q := fun H' => H' = H) (by rw [mL_len]; omega) ?_
  have hss : s * s ≤ 256 := Nat.mul_le_mul hs hs
  have hml := mL_len s M
  refine ACall_of tt_ok (dok _) Try.func66 rfl (by decide) rfl ?_
  (repeat' ((conv => whnf); first | refine Then.mk ?_ | refine OpsA.cons ?_ | refine OpsA.nil ?_ | refine AWq.seq ?_ | refine AWq.region ?_ | refine AWq.cond ?_ | refine AWq.block ?_ | refine AWq.skip ?_ | refine AWq.ret ?_ | refine AWq.exit ?_ | refine AWq.loop ?_ | (refine Both.mk ?_ ?_ <;> intro hc <;> (first | exact Bool.noConfusion hc | (exfalso; omega) | skip)) | (intro c hc; (try (simp only [AH.none_iff] at hc; repeat (have hn := hc.1; replace hc := hc.2))); (first | (refine i64_k hc ?_ ?_ ?_ ; omega; omega; (clear hc; intro hc; subst hc)) | skip)) | (apply Exists.intro; apply And.intro; (first | (focus (repeat (first | (with_reducible assumption) | (with_reducible exact AH.set_same _ _ _))); done))) | (apply Exists.intro; apply And.intro; first | (with_reducible assumption) | ((try simp only [List.getElem?_drop, Nat.mul_one, Nat.add_zero, Nat.zero_add]); first | (with_reducible assumption) | rfl)) | (apply And.intro; (first | rfl | (with_reducible assumption) | omega | (simp <;> omega) | (focus (repeat' (first | (with_reducible assumption) | exact one_iS _ _ | rfl)); done))))) <;> (try (conv => whnf))
  have hcc : H c = none := by assumption
  obtain ⟨q, hqq⟩ : ∃ q, q = c := ⟨_, rfl⟩
  rw [← hqq] at hcc ⊢
  clear hqq
  refine AWp_loop (σ := Nat) (12 :: 13 :: 14 :: 18 :: 19 :: 20 :: 21 :: 22 :: 23 :: 24 :: 25 :: 26 :: 27 :: 28 :: 29 :: 30 :: 31 :: 32 :: 33 :: 34 :: 35 :: 36 :: 37 :: 38 :: 39 :: 40 :: 41 :: 42 :: 43 :: 44 :: 45 :: 46 :: 47 :: 48 :: 49 :: 50 :: 51 :: 52 :: 53 :: 54 :: 55 :: 56 :: 57 :: 58 :: 59 :: 60 :: 61 :: []) (fun i => [(12, .int .i64 i)]) (fun i => AH.set H q (.row (mL s (colsI joi (2 * h) i M)) 0)) (fun i => i ≤ 2 * h) (fun i => 2 * h - i) 0 rfl ?_ ?_ ?_ ?_
  · exact Nat.zero_le _
  · exact ⟨rfl, trivial⟩
  · refine HLe.of_eq (congrArg (fun l => AH.set H q (.row l 0)) ?_)
    refine congrArg (iS .i64) (toL_congr fun r c _ _ => ?_)
    unfold colsI
    rw [if_neg (by omega)]
  · rintro i hi
    refine AWp.of tt_ok (dok _) rfl ?_
    by_cases hin : i < 2 * h
    · have hp := fun u K hq => part_cw s (2 * h) i hs hn (by omega) (colsI joi (2 * h) i M) (mL s (colsI joi (2 * h) i M)) q u K hq (mL_len _ _) (fun r c hr hc => mL_get _ hr hc)
      have hX : iL (2 * h) (fun k => colsI joi (2 * h) i M k i) = iL (2 * h) (fun k => M k i) := iL_congr fun k hk => by unfold colsI; rw [if_neg (by omega)]
      rw [hX] at hp
      have hs2 := fun K => rjoin_k h h1 (by omega) (fun k => M k i) (fun j hj => by have := hM j i (by omega) (by omega); omega) (iL (2 * h) (fun k => M k i)) K (iL_len _ _) (fun j hj => iL_get _ hj)
      obtain ⟨F, hF⟩ : ∃ F, F = joi (2 * h) (fun k => M k i) := ⟨_, rfl⟩
      rw [← hF] at hs2
      (repeat' ((conv => whnf); first | refine Then.mk ?_ | refine OpsA.cons ?_ | refine OpsA.nil ?_ | refine AWq.seq ?_ | refine AWq.region ?_ | refine AWq.cond ?_ | refine AWq.block ?_ | refine AWq.skip ?_ | refine AWq.ret ?_ | refine AWq.exit ?_ | refine AWq.loop ?_ | (refine Both.mk ?_ ?_ <;> intro hc <;> (first | exact Bool.noConfusion hc | (exfalso; omega) | skip)) | (intro c hc; (try (simp only [AH.none_iff] at hc; repeat (have hn := hc.1; replace hc := hc.2))); (first | (refine i64_k hc ?_ ?_ ?_ ; omega; omega; (clear hc; intro hc; subst hc)) | skip)) | (apply Exists.intro; apply And.intro; (first | (focus (repeat (first | (with_reducible assumption) | (with_reducible exact AH.set_same _ _ _))); done))) | (apply Exists.intro; apply And.intro; first | (with_reducible assumption) | ((try simp only [List.getElem?_drop, Nat.mul_one, Nat.add_zero, Nat.zero_add]); first | (with_reducible assumption) | rfl)) | (apply And.intro; (first | rfl | (with_reducible assumption) | omega | (simp <;> omega) | (focus (repeat' (first | (with_reducible assumption) | exact one_iS _ _ | rfl)); done))) | (refine ACall.to (hp _ _ (AH.set_same _ _ _)) ?_) | (refine ACall.to (hs2 _) ?_))) <;> (try (conv => whnf))
      obtain ⟨cs, hcs⟩ : ∃ cs, cs = iL (2 * h) F := ⟨_, rfl⟩
      have hcl : cs.length = 2 * h := by rw [hcs]; exact iL_len _ F
      have hcg : ∀ j, j < 2 * h → cs[j]? = some (.int .i64 (F j)) := fun j hj => by rw [hcs]; exact iL_get F hj
      rw [← hcs]
      refine AWp_loop (σ := Nat) (14 :: 34 :: 35 :: 36 :: 37 :: 38 :: 39 :: 40 :: 41 :: 42 :: 43 :: 44 :: 45 :: 46 :: 47 :: 48 :: 49 :: 50 :: 51 :: 52 :: 53 :: 54 :: 55 :: 56 :: 57 :: 58 :: 59 :: 60 :: 61 :: []) (fun k => [(14, .int .i64 k)]) (fun k => AH.set H q (.row (mL s (fun r c => if c = i ∧ r < k then F r else colsI joi (2 * h) i M r c)) 0)) (fun k => k ≤ 2 * h) (fun k => 2 * h - k) 0 rfl ?_ ?_ ?_ ?_
      · exact Nat.zero_le _
      · exact ⟨rfl, trivial⟩
      · refine HLe.of_eq (congrArg (fun l => AH.set H q (.row l 0)) ?_)
        refine congrArg (iS .i64) (toL_congr fun r c _ _ => ?_)
        rw [if_neg (by omega)]
      · rintro k hk
        refine AWp.of tt_ok (dok _) rfl ?_
        by_cases hkn : k < 2 * h
        · have p1 : 0 ≤ (k : Int) * s := Int.mul_nonneg (by omega) (by omega)
          have p2 : (k : Int) * s + i < ((s * s : Nat) : Int) := by
            have := (place (s := s) (r := k) (c := i) (by omega) (by omega)).1
            rw [← Int.natCast_mul]; omega
          have e3 : ((k : Int) * s + i).toNat = k * s + i := by rw [← Int.natCast_mul]; omega
          have g2 : cs[(k : Int).toNat]? = some (.int .i64 (F k)) := hcg k hkn
          have hl := mL_len s (fun r c => if c = i ∧ r < k then F r else colsI joi (2 * h) i M r c)
          (repeat' ((conv => whnf); first | refine Then.mk ?_ | refine OpsA.cons ?_ | refine OpsA.nil ?_ | refine AWq.seq ?_ | refine AWq.region ?_ | refine AWq.cond ?_ | refine AWq.block ?_ | refine AWq.skip ?_ | refine AWq.ret ?_ | refine AWq.exit ?_ | refine AWq.loop ?_ | (refine Both.mk ?_ ?_ <;> intro hc <;> (first | exact Bool.noConfusion hc | (exfalso; omega) | skip)) | (intro c hc; (try (simp only [AH.none_iff] at hc; repeat (have hn := hc.1; replace hc := hc.2))); (first | (refine i64_k hc ?_ ?_ ?_ ; omega; omega; (clear hc; intro hc; subst hc)) | skip)) | (apply Exists.intro; apply And.intro; (first | (focus (repeat (first | (with_reducible assumption) | (with_reducible exact AH.set_same _ _ _))); done))) | (apply Exists.intro; apply And.intro; first | (with_reducible assumption) | ((try simp only [List.getElem?_drop, Nat.mul_one, Nat.add_zero, Nat.zero_add]); first | (with_reducible assumption) | rfl)) | (apply And.intro; (first | rfl | (with_reducible assumption) | omega | (simp <;> omega) | (focus (repeat' (first | (with_reducible assumption) | exact one_iS _ _ | rfl)); done))))) <;> (try (conv => whnf))
          refine ⟨k + 1, by omega, by omega, ⟨congrArg (AV.int .i64) (by omega), trivial⟩, HLe.of_eq (Eq.symm ((AH.set_set _ _ _ _).trans ?_))⟩
          refine congrArg (fun l => AH.set H q (.row l 0)) ?_
          show wrA (mL s _) (0 + ((k : Int) * s + i).toNat * 1) [AV.int .i64 (F k)] = _
          rw [show 0 + ((k : Int) * s + i).toNat * 1 = k * s + i by omega, mL_set _ (by omega) (by omega)]
          refine congrArg (iS .i64) (toL_congr fun r c hr hc => ?_)
          unfold updM
          by_cases c1 : r = k ∧ c = i
          · rw [if_pos c1, if_pos (by omega)]; congr 1; omega
          · rw [if_neg c1]
            dsimp only
            by_cases c2 : c = i ∧ r < k
            · rw [if_pos c2, if_pos (by omega)]
            · rw [if_neg c2, if_neg (by omega)]
        · have he2 : k = 2 * h := by omega
          (repeat' ((conv => whnf); first | refine Then.mk ?_ | refine OpsA.cons ?_ | refine OpsA.nil ?_ | refine AWq.seq ?_ | refine AWq.region ?_ | refine AWq.cond ?_ | refine AWq.block ?_ | refine AWq.skip ?_ | refine AWq.ret ?_ | refine AWq.exit ?_ | refine AWq.loop ?_ | (refine Both.mk ?_ ?_ <;> intro hc <;> (first | exact Bool.noConfusion hc | (exfalso; omega) | skip)) | (intro c hc; (try (simp only [AH.none_iff] at hc; repeat (have hn := hc.1; replace hc := hc.2))); (first | (refine i64_k hc ?_ ?_ ?_ ; omega; omega; (clear hc; intro hc; subst hc)) | skip)) | (apply Exists.intro; apply And.intro; (first | (focus (repeat (first | (with_reducible assumption) | (with_reducible exact AH.set_same _ _ _))); done))) | (apply Exists.intro; apply And.intro; first | (with_reducible assumption) | ((try simp only [List.getElem?_drop, Nat.mul_one, Nat.add_zero, Nat.zero_add]); first | (with_reducible assumption) | rfl)) | (apply And.intro; (first | rfl | (with_reducible assumption) | omega | (simp <;> omega) | (focus (repeat' (first | (with_reducible assumption) | exact one_iS _ _ | rfl)); done))))) <;> (try (conv => whnf))
          refine ⟨i + 1, by omega, by omega, ⟨congrArg (AV.int .i64) (by omega), trivial⟩, HLe.of_eq (congrArg (fun l => AH.set H q (.row l 0)) (congrArg (iS .i64) (toL_congr fun r c hr hc => ?_)))⟩
          rw [hF]
          unfold colsI
          by_cases c1 : c = i ∧ r < k
          · rw [if_pos c1, if_pos (by omega)]; rw [c1.1]
          · rw [if_neg c1]
            by_cases c2 : r < 2 * h ∧ c < i
            · rw [if_pos c2, if_pos (by omega)]
            · rw [if_neg c2, if_neg (by omega)]
    · have he : i = 2 * h := by omega
      subst he
      (repeat' ((conv => whnf); first | refine Then.mk ?_ | refine OpsA.cons ?_ | refine OpsA.nil ?_ | refine AWq.seq ?_ | refine AWq.region ?_ | refine AWq.cond ?_ | refine AWq.block ?_ | refine AWq.skip ?_ | refine AWq.ret ?_ | refine AWq.exit ?_ | refine AWq.loop ?_ | (refine Both.mk ?_ ?_ <;> intro hc <;> (first | exact Bool.noConfusion hc | (exfalso; omega) | skip)) | (intro c hc; (try (simp only [AH.none_iff] at hc; repeat (have hn := hc.1; replace hc := hc.2))); (first | (refine i64_k hc ?_ ?_ ?_ ; omega; omega; (clear hc; intro hc; subst hc)) | skip)) | (apply Exists.intro; apply And.intro; (first | (focus (repeat (first | (with_reducible assumption) | (with_reducible exact AH.set_same _ _ _))); done))) | (apply Exists.intro; apply And.intro; first | (with_reducible assumption) | ((try simp only [List.getElem?_drop, Nat.mul_one, Nat.add_zero, Nat.zero_add]); first | (with_reducible assumption) | rfl)) | (apply And.intro; (first | rfl | (with_reducible assumption) | omega | (simp <;> omega) | (focus (repeat' (first | (with_reducible assumption) | exact one_iS _ _ | rfl)); done))))) <;> (try (conv => whnf))
      exact .inr ⟨q, hcc, 0, rfl, rfl⟩
open Go.Fw Go

set_option maxRecDepth 8000 in
theorem rForward_ok (k : Nat) (hk : k ≤ 4) (a : List Int) (hl : a.length = 2 ^ k * 2 ^ k) (hi : inB 1099511627776 a = true) (hc : ∀ H, ACall Try.prog 65 [.int .i64 (2 ^ k : Nat), .cs (iS .i64 a) a.length, .int .i64 1099511627776] H (fun y H' => y = .int .i64 0 ∧ H' = H)) (H : AH) :
    ACall Try.prog 35 [.int .i64 (2 ^ k : Nat), .cs (iS .i64 a) a.length] H (fun y H' => y = resV (toL (2 ^ k) (fwd k (ofL (2 ^ k) a)), 0) ∧ H' = H) := by
  have hS := (pow_side hk).2
  have hbd := inB_bnd (by omega) hi (2 ^ k)
  have hof := toL_ofL hl
  refine ACall_of tt_ok (dok _) Try.func35 rfl (by decide) rfl ?_
  (repeat' ((conv => whnf); first | refine Then.mk ?_ | refine OpsA.cons ?_ | refine OpsA.nil ?_ | refine AWq.seq ?_ | refine AWq.region ?_ | refine AWq.cond ?_ | refine AWq.block ?_ | refine AWq.skip ?_ | refine AWq.ret ?_ | refine AWq.exit ?_ | refine AWq.loop ?_ | (refine Both.mk ?_ ?_ <;> intro hc <;> (first | exact Bool.noConfusion hc | exact absurd (by with_reducible rfl) hc | (exfalso; omega) | skip)) | (intro c hc; (try (simp only [AH.none_iff] at hc; repeat (have hn := hc.1; replace hc := hc.2))); (first | (refine i64_k hc ?_ ?_ ?_ ; omega; omega; (clear hc; intro hc; subst hc)) | skip)) | (apply And.intro; (first | rfl | omega)) | (refine ACall.to (hc _) ?_))) <;> (try (conv => whnf))
  rw [hl]
  obtain ⟨S, hSS⟩ : ∃ S, S = 2 ^ k := ⟨_, rfl⟩
  rw [← hSS] at hS hbd hof ⊢
  have hm0 : mL S (ofL S a) = iS .i64 a := by unfold mL; rw [hof]
  rw [← hm0]
  refine AWp_loop (σ := Nat × Mat × Nat) (1 :: 7 :: 15 :: 16 :: 17 :: 18 :: 19 :: 20 :: 21 :: 22 :: 23 :: 24 :: 25 :: 26 :: []) (fun (j, N, b) => [(7, .int .i64 (2 ^ j : Nat)), (1, .cs (mL S N) (S * S))]) (fun (j, N, b) => H)
    (fun (j, N, b) => j ≤ k ∧ BndS S b N ∧ fwd j N = fwd k (ofL S a) ∧ b * 4 ^ j ≤ 281474976710656) (fun (j, N, b) => j) (k, ofL S a, 1099511627776) rfl ?_ ?_ ?_ ?_
  · refine ⟨Nat.le_refl _, hbd, rfl, ?_⟩
    have : 4 ^ k ≤ 4 ^ 4 := Nat.pow_le_pow_right (by omega) hk
    show 1099511627776 * 4 ^ k ≤ _
    omega
  · exact ⟨congrArg (fun x : Nat => AV.int .i64 (x : Int)) hSS, rfl, trivial⟩
  · exact HLe.refl _
  · rintro ⟨j, N, b⟩ ⟨hj, hN, hfw, hb⟩
    dsimp only at hj hN hfw hb ⊢
    refine AWp.of tt_ok (dok _) rfl ?_
    cases j with
    | zero =>
      (repeat' ((conv => whnf); first | refine Then.mk ?_ | refine OpsA.cons ?_ | refine OpsA.nil ?_ | refine AWq.seq ?_ | refine AWq.region ?_ | refine AWq.cond ?_ | refine AWq.block ?_ | refine AWq.skip ?_ | refine AWq.ret ?_ | refine AWq.exit ?_ | refine AWq.loop ?_ | (refine Both.mk ?_ ?_ <;> intro hc <;> (first | exact Bool.noConfusion hc | exact absurd (by with_reducible rfl) hc | (exfalso; omega) | skip)) | (intro c hc; (try (simp only [AH.none_iff] at hc; repeat (have hn := hc.1; replace hc := hc.2))); (first | (refine i64_k hc ?_ ?_ ?_ ; omega; omega; (clear hc; intro hc; subst hc)) | skip)) | (apply And.intro; (first | rfl | omega)))) <;> (try (conv => whnf))
      have hN0 : N = fwd k (ofL S a) := hfw
      rw [← hN0]
      unfold resV
      rw [show (toL S N).length = S * S from toL_len S N]
      exact ⟨rfl, rfl⟩
    | succ j =>
      have hP1 : 1 ≤ 2 ^ j := Nat.one_le_two_pow
      have hPS : 2 ^ (j + 1) ≤ S := by rw [hSS]; exact Nat.pow_le_pow_right (by omega) hj
      rw [pow_half] at hPS
      have hfw2 : fwd j (colsM spl (2 * 2 ^ j) (rowsM spl (2 * 2 ^ j) N)) = fwd k (ofL S a) := by rw [← pow_half]; exact hfw
      rw [pow_half]
      have hb2 : 4 * b * 4 ^ j ≤ 281474976710656 := by rw [Nat.mul_comm 4 b, Nat.mul_assoc, ← Nat.pow_succ']; exact hb
      have hb3 : 4 * b ≤ 281474976710656 := Nat.le_trans (Nat.le_mul_of_pos_right _ (Nat.pow_pos (by omega))) hb2
      have hdv : (((2 * 2 ^ j : Nat) : Int)).tdiv 2 = ((2 ^ j : Nat) : Int) := by rw [Int.tdiv_eq_ediv_of_nonneg (by omega)]; omega
      obtain ⟨P, hP⟩ : ∃ P, P = 2 ^ j := ⟨_, rfl⟩
      rw [← hP] at hP1 hPS hfw2 hdv ⊢
      obtain ⟨N1, hN1⟩ : ∃ N1, N1 = rowsM spl (2 * P) N := ⟨_, rfl⟩
      obtain ⟨N2, hN2⟩ : ∃ N2, N2 = colsM spl (2 * P) N1 := ⟨_, rfl⟩
      have c1 : BndS S (2 * (b : Int)) N1 := by rw [hN1]; exact rows_bd hPS (by omega) (fun x hx c hc => spl_bd hx c hc) hN
      have c2 : BndS S ((4 * b : Nat) : Int) N2 := by
        have : ((4 * b : Nat) : Int) = 2 * (2 * (b : Int)) := by omega
        rw [hN2, this]; exact cols_bd hPS (by omega) (fun x hx c hc => spl_bd hx c hc) c1
      have call1 := fun K => lines_rs S P hS.1 hP1 hPS N (fun r c hr hc => by have := hN r c hr hc; omega) K
      have call2 := fun K => lines_cs S P hS.1 hP1 hPS N1 (fun r c hr hc => by have := c1 r c hr hc; omega) K
      rw [← hN1] at call1
      rw [← hN2] at call2
      have hfw3 : fwd j N2 = fwd k (ofL S a) := by rw [hN2, hN1]; exact hfw2
      (repeat' ((conv => whnf); first | refine Then.mk ?_ | refine OpsA.cons ?_ | refine OpsA.nil ?_ | refine AWq.seq ?_ | refine AWq.region ?_ | refine AWq.cond ?_ | refine AWq.block ?_ | refine AWq.skip ?_ | refine AWq.ret ?_ | refine AWq.exit ?_ | refine AWq.loop ?_ | (refine Both.mk ?_ ?_ <;> intro hc <;> (first | exact Bool.noConfusion hc | exact absurd (by with_reducible rfl) hc | (exfalso; omega) | skip)) | (intro c hc; (try (simp only [AH.none_iff] at hc; repeat (have hn := hc.1; replace hc := hc.2))); (first | (refine i64_k hc ?_ ?_ ?_ ; omega; omega; (clear hc; intro hc; subst hc)) | skip)) | (apply And.intro; (first | rfl | omega)) | (refine ACall.to (call1 _) ?_) | (refine ACall.to (call2 _) ?_))) <;> (try (conv => whnf))
      exact ⟨(j, N2, 4 * b), ⟨by show j ≤ k; omega, c2, hfw3, hb2⟩, by show j < j + 1; omega, ⟨congrArg (AV.int .i64) (by rw [← hP]; exact hdv), rfl, trivial⟩, HLe.refl _⟩

set_option maxRecDepth 8000 in
theorem rInverse_ok (k : Nat) (hk : k ≤ 4) (a : List Int) (hl : a.length = 2 ^ k * 2 ^ k) (hi : inB 4398046511104 a = true) (hc : ∀ H, ACall Try.prog 65 [.int .i64 (2 ^ k : Nat), .cs (iS .i64 a) a.length, .int .i64 4398046511104] H (fun y H' => y = .int .i64 0 ∧ H' = H)) (H : AH) :
    ACall Try.prog 69 [.int .i64 (2 ^ k : Nat), .cs (iS .i64 a) a.length] H (fun y H' => y = resV (toL (2 ^ k) (inv k (ofL (2 ^ k) a)), 0) ∧ H' = H) := by
  have hS := (pow_side hk).2
  have hbd := inB_bnd (by omega) hi (2 ^ k)
  have hof := toL_ofL hl
  refine ACall_of tt_ok (dok _) Try.func69 rfl (by decide) rfl ?_
  (repeat' ((conv => whnf); first | refine Then.mk ?_ | refine OpsA.cons ?_ | refine OpsA.nil ?_ | refine AWq.seq ?_ | refine AWq.region ?_ | refine AWq.cond ?_ | refine AWq.block ?_ | refine AWq.skip ?_ | refine AWq.ret ?_ | refine AWq.exit ?_ | refine AWq.loop ?_ | (refine Both.mk ?_ ?_ <;> intro hc <;> (first | exact Bool.noConfusion hc | exact absurd (by with_reducible rfl) hc | exact absurd hc (by assumption) | (exfalso; omega) | skip)) | (intro c hc; (try (simp only [AH.none_iff] at hc; repeat (have hn := hc.1; replace hc := hc.2))); (first | (refine i64_k hc ?_ ?_ ?_ ; omega; omega; (clear hc; intro hc; subst hc)) | skip)) | (apply And.intro; (first | rfl)) | (refine ACall.to (hc _) ?_))) <;> (try (conv => whnf))
  rw [hl]
  obtain ⟨S, hSS⟩ : ∃ S, S = 2 ^ k := ⟨_, rfl⟩
  rw [← hSS] at hS hbd hof ⊢
  have hm0 : mL S (ofL S a) = iS .i64 a := by unfold mL; rw [hof]
  rw [← hm0]
  refine AWp_loop (σ := Nat × Mat × Nat) (1 :: 7 :: 14 :: 15 :: 16 :: 17 :: 18 :: 19 :: 20 :: 21 :: 22 :: 23 :: 24 :: 25 :: 26 :: []) (fun (j, N, b) => [(7, .int .i64 (2 ^ (j + 1) : Nat)), (1, .cs (mL S N) (S * S))]) (fun (j, N, b) => H)
    (fun (j, N, b) => j ≤ k ∧ BndS S b N ∧ N = inv j (ofL S a) ∧ 1 ≤ b ∧ b * 16 ^ (k - j) ≤ 288230376151711744) (fun (j, N, b) => k - j) (0, ofL S a, 4398046511104) rfl ?_ ?_ ?_ ?_
  · refine ⟨Nat.zero_le _, hbd, rfl, by show 1 ≤ 4398046511104; omega, ?_⟩
    have : 16 ^ (k - 0) ≤ 16 ^ 4 := Nat.pow_le_pow_right (by omega) (by omega)
    show 4398046511104 * 16 ^ (k - 0) ≤ _
    omega
  · exact ⟨rfl, rfl, trivial⟩
  · exact HLe.refl _
  · rintro ⟨j, N, b⟩ ⟨hj, hN, hfw, hb1, hb⟩
    dsimp only at hj hN hfw hb1 hb ⊢
    refine AWp.of tt_ok (dok _) rfl ?_
    by_cases hjk : j = k
    · subst hjk
      have hgt : ¬ ((2 ^ (j + 1) : Nat) : Int) ≤ (S : Int) := by rw [pow_half, ← hSS]; omega
      (repeat' ((conv => whnf); first | refine Then.mk ?_ | refine OpsA.cons ?_ | refine OpsA.nil ?_ | refine AWq.seq ?_ | refine AWq.region ?_ | refine AWq.cond ?_ | refine AWq.block ?_ | refine AWq.skip ?_ | refine AWq.ret ?_ | refine AWq.exit ?_ | refine AWq.loop ?_ | (refine Both.mk ?_ ?_ <;> intro hc <;> (first | exact Bool.noConfusion hc | exact absurd (by with_reducible rfl) hc | exact absurd hc (by assumption) | (exfalso; omega) | skip)) | (intro c hc; (try (simp only [AH.none_iff] at hc; repeat (have hn := hc.1; replace hc := hc.2))); (first | (refine i64_k hc ?_ ?_ ?_ ; omega; omega; (clear hc; intro hc; subst hc)) | skip)) | (apply And.intro; (first | rfl)))) <;> (try (conv => whnf))
      rw [← hfw]
      unfold resV
      rw [show (toL S N).length = S * S from toL_len S N]
      exact ⟨rfl, rfl⟩
    · have hP1 : 1 ≤ 2 ^ j := Nat.one_le_two_pow
      have hPS : 2 ^ (j + 1) ≤ S := by rw [hSS]; exact Nat.pow_le_pow_right (by omega) (by omega)
      rw [pow_half] at hPS
      have hfw2 : rowsM joi (2 * 2 ^ j) (colsM joi (2 * 2 ^ j) N) = inv (j + 1) (ofL S a) := by rw [hfw, ← pow_half]; rfl
      rw [pow_half]
      have hb2 : 16 * b * 16 ^ (k - (j + 1)) ≤ 288230376151711744 := by rw [Nat.mul_comm 16 b, Nat.mul_assoc, ← Nat.pow_succ', show (k - (j + 1)).succ = k - j by omega]; exact hb
      have hb3 : 16 * b ≤ 288230376151711744 := Nat.le_trans (Nat.le_mul_of_pos_right _ (Nat.pow_pos (by omega))) hb2
      have hdv : ((2 ^ (j + 1 + 1) : Nat) : Int) = ((2 * 2 ^ j : Nat) : Int) * 2 := by rw [pow_half, pow_half]; omega
      obtain ⟨P, hP⟩ : ∃ P, P = 2 ^ j := ⟨_, rfl⟩
      rw [← hP] at hP1 hPS hfw2 hdv ⊢
      obtain ⟨N1, hN1⟩ : ∃ N1, N1 = colsM joi (2 * P) N := ⟨_, rfl⟩
      obtain ⟨N2, hN2⟩ : ∃ N2, N2 = rowsM joi (2 * P) N1 := ⟨_, rfl⟩
      have c1 : BndS S (4 * (b : Int)) N1 := by rw [hN1]; exact cols_bd hPS (by omega) (fun x hx c hc => joi_bd (by omega) hx c hc) hN
      have c2 : BndS S ((16 * b : Nat) : Int) N2 := by
        have : ((16 * b : Nat) : Int) = 4 * (4 * (b : Int)) := by omega
        rw [hN2, this]; exact rows_bd hPS (by omega) (fun x hx c hc => joi_bd (by omega) hx c hc) c1
      have call1 := fun K => lines_cj S P hS.1 hP1 hPS N (fun r c hr hc => by have := hN r c hr hc; omega) K
      have call2 := fun K => lines_rj S P hS.1 hP1 hPS N1 (fun r c hr hc => by have := c1 r c hr hc; omega) K
      rw [← hN1] at call1
      rw [← hN2] at call2
      have hfw3 : N2 = inv (j + 1) (ofL S a) := by rw [hN2, hN1]; exact hfw2
      (repeat' ((conv => whnf); first | refine Then.mk ?_ | refine OpsA.cons ?_ | refine OpsA.nil ?_ | refine AWq.seq ?_ | refine AWq.region ?_ | refine AWq.cond ?_ | refine AWq.block ?_ | refine AWq.skip ?_ | refine AWq.ret ?_ | refine AWq.exit ?_ | refine AWq.loop ?_ | (refine Both.mk ?_ ?_ <;> intro hc <;> (first | exact Bool.noConfusion hc | exact absurd (by with_reducible rfl) hc | exact absurd hc (by assumption) | (exfalso; omega) | skip)) | (intro c hc; (try (simp only [AH.none_iff] at hc; repeat (have hn := hc.1; replace hc := hc.2))); (first | (refine i64_k hc ?_ ?_ ?_ ; omega; omega; (clear hc; intro hc; subst hc)) | skip)) | (apply And.intro; (first | rfl)) | (refine ACall.to (call1 _) ?_) | (refine ACall.to (call2 _) ?_))) <;> (try (conv => whnf))
      exact ⟨(j + 1, N2, 16 * b), ⟨by show j + 1 ≤ k; omega, c2, hfw3, by show 1 ≤ 16 * b; omega, hb2⟩, by show k - (j + 1) < k - j; omega, ⟨congrArg (AV.int .i64) hdv.symm, rfl, trivial⟩, HLe.refl _⟩

set_option maxRecDepth 8000 in
theorem rForward_c (s : Int) (h1 : -9223372036854775808 ≤ s) (h2 : s ≤ 9223372036854775807) (a : List Int) (hb : a.length ≤ 1000000) (H : AH) :
    ACall Try.prog 35 [.int .i64 s, .cs (iS .i64 a) a.length] H (fun y H' => y = resV (sqR 1099511627776 fwd s a) ∧ H' = H) := by
  obtain ⟨R, hR⟩ : ∃ R, R = sqR 1099511627776 fwd s a := ⟨_, rfl⟩
  rw [← hR]
  unfold sqR at hR
  have hc := fun H => check_c s h1 h2 1099511627776 (by omega) a hb H
  by_cases h : IsSide s ∧ (a.length : Int) = s * s
  · rw [if_pos h] at hR
    simp only [if_pos h] at hc
    obtain ⟨k, hk, rfl⟩ := side_pow h.1
    have hl : a.length = 2 ^ k * 2 ^ k := by have := h.2; rw [← Int.natCast_mul] at this; omega
    by_cases hi : inB 1099511627776 a = true
    · rw [if_pos hi, Int.toNat_natCast, Nat.log2_two_pow] at hR
      simp only [if_pos hi] at hc
      rw [hR]
      exact rForward_ok k hk a hl hi hc H
    · rw [if_neg hi] at hR
      simp only [if_neg hi] at hc
      generalize 2 ^ k = S at *
      refine ACall.told ?_
      refine ACall_of tt_ok (dok _) Try.func35 rfl (by decide) rfl ?_
      (repeat' ((conv => whnf); first | refine Then.mk ?_ | refine OpsA.cons ?_ | refine OpsA.nil ?_ | refine AWq.seq ?_ | refine AWq.region ?_ | refine AWq.cond ?_ | refine AWq.ret ?_ | (refine Both.mk ?_ ?_ <;> intro hc <;> (first | exact Bool.noConfusion hc | (exfalso; omega) | skip)) | (apply And.intro; (first | rfl)) | (refine ACall.to (hc _) ?_))) <;> (try (conv => whnf))
      exact res_told hR
  · rw [if_neg h] at hR
    simp only [if_neg h] at hc
    refine ACall.told ?_
    refine ACall_of tt_ok (dok _) Try.func35 rfl (by decide) rfl ?_
    (repeat' ((conv => whnf); first | refine Then.mk ?_ | refine OpsA.cons ?_ | refine OpsA.nil ?_ | refine AWq.seq ?_ | refine AWq.region ?_ | refine AWq.cond ?_ | refine AWq.ret ?_ | (refine Both.mk ?_ ?_ <;> intro hc <;> (first | exact Bool.noConfusion hc | (exfalso; omega) | skip)) | (apply And.intro; (first | rfl)) | (refine ACall.to (hc _) ?_))) <;> (try (conv => whnf))
    exact res_told hR

set_option maxRecDepth 8000 in
theorem rInverse_c (s : Int) (h1 : -9223372036854775808 ≤ s) (h2 : s ≤ 9223372036854775807) (a : List Int) (hb : a.length ≤ 1000000) (H : AH) :
    ACall Try.prog 69 [.int .i64 s, .cs (iS .i64 a) a.length] H (fun y H' => y = resV (sqR 4398046511104 inv s a) ∧ H' = H) := by
  obtain ⟨R, hR⟩ : ∃ R, R = sqR 4398046511104 inv s a := ⟨_, rfl⟩
  rw [← hR]
  unfold sqR at hR
  have hc := fun H => check_c s h1 h2 4398046511104 (by omega) a hb H
  by_cases h : IsSide s ∧ (a.length : Int) = s * s
  · rw [if_pos h] at hR
    simp only [if_pos h] at hc
    obtain ⟨k, hk, rfl⟩ := side_pow h.1
    have hl : a.length = 2 ^ k * 2 ^ k := by have := h.2; rw [← Int.natCast_mul] at this; omega
    by_cases hi : inB 4398046511104 a = true
    · rw [if_pos hi, Int.toNat_natCast, Nat.log2_two_pow] at hR
      simp only [if_pos hi] at hc
      rw [hR]
      exact rInverse_ok k hk a hl hi hc H
    · rw [if_neg hi] at hR
      simp only [if_neg hi] at hc
      generalize 2 ^ k = S at *
      refine ACall.told ?_
      refine ACall_of tt_ok (dok _) Try.func69 rfl (by decide) rfl ?_
      (repeat' ((conv => whnf); first | refine Then.mk ?_ | refine OpsA.cons ?_ | refine OpsA.nil ?_ | refine AWq.seq ?_ | refine AWq.region ?_ | refine AWq.cond ?_ | refine AWq.ret ?_ | (refine Both.mk ?_ ?_ <;> intro hc <;> (first | exact Bool.noConfusion hc | (exfalso; omega) | skip)) | (apply And.intro; (first | rfl)) | (refine ACall.to (hc _) ?_))) <;> (try (conv => whnf))
      exact res_told hR
  · rw [if_neg h] at hR
    simp only [if_neg h] at hc
    refine ACall.told ?_
    refine ACall_of tt_ok (dok _) Try.func69 rfl (by decide) rfl ?_
    (repeat' ((conv => whnf); first | refine Then.mk ?_ | refine OpsA.cons ?_ | refine OpsA.nil ?_ | refine AWq.seq ?_ | refine AWq.region ?_ | refine AWq.cond ?_ | refine AWq.ret ?_ | (refine Both.mk ?_ ?_ <;> intro hc <;> (first | exact Bool.noConfusion hc | (exfalso; omega) | skip)) | (apply And.intro; (first | rfl)) | (refine ACall.to (hc _) ?_))) <;> (try (conv => whnf))
    exact res_told hR
open Go.Fw Go

def cellZ (S : Nat) (p : Nat × Nat) (i k : Nat) : Int := (((p.1 + i) * S + p.2 + k : Nat) : Int)
def lineZ (S s : Nat) (p : Nat × Nat) (i : Nat) : List Int := (List.range s).map (cellZ S p i)
def blkZ (S s : Nat) (p : Nat × Nat) (n : Nat) : List Int := (List.range n).flatMap (lineZ S s p)
def zgz (S : Nat) : Nat → List Int
  | 0 => [0]
  | j + 1 => zgz S j ++ blkZ S (2 ^ j) (0, 2 ^ j) (2 ^ j) ++ blkZ S (2 ^ j) (2 ^ j, 0) (2 ^ j) ++ blkZ S (2 ^ j) (2 ^ j, 2 ^ j) (2 ^ j)
theorem lineZ_succ (S n : Nat) (p : Nat × Nat) (i : Nat) : (List.range (n + 1)).map (cellZ S p i) = (List.range n).map (cellZ S p i) ++ [cellZ S p i n] := by simp [List.range_succ]
theorem blkZ_succ (S s n : Nat) (p : Nat × Nat) : blkZ S s p (n + 1) = blkZ S s p n ++ lineZ S s p n := by simp [blkZ, List.range_succ]
theorem blkZ_len (S s n : Nat) (p : Nat × Nat) : (blkZ S s p n).length = n * s := by
  induction n with
  | zero => simp [blkZ]
  | succ n ih => rw [blkZ_succ, List.length_append, ih]; simp [lineZ, Nat.add_mul]

end Go.Proofs.Ytgpfmojlgejnhaa
