/- For the law BalanceOverlaps, part 3 of 6: the frame of the walk, the walks of the functions, the plain law, the row. No conditions. -/
import Derived.Test.YtebflkgpbbjhnaaBalanceOverlapsM2
import Derived.Test.YtebflkgpbbjhnaaProg
import Derived.KernelRfl
/- The types that the walks over this translation meet: a table, and that it tells of them what the translation tells. -/
namespace Go.Proofs.Ytebflkgpbbjhnaa
open Go.Fw
def tt : TT := [
  (3, ⟨.int .i64, 1, false, [.int .i64 0]⟩),
  (22, ⟨.slice 3 1 8 [.int .i64 0], 1, false, [.nils]⟩),
  (33, ⟨.struct [(0, 1, false), (1, 1, false), (2, 1, false), (3, 1, false)], 4, true, [.nils, .nils, .nils, .int .i64 0]⟩),
  (38, ⟨.struct [(0, 1, false), (1, 1, false), (2, 1, false), (3, 1, false)], 4, true, [.nils, .nils, .nils, .int .i64 0]⟩),
  (24, ⟨.slice 58 4 32 [.int .i64 0, .int .i64 0, .int .i64 0, .int .i64 0], 1, false, [.nils]⟩),
  (64, ⟨.slice 5 1 1 [.int .u8 0], 1, false, [.nils]⟩),
  (124, ⟨.int .u64, 1, false, [.int .u64 0]⟩),
  (25, ⟨.slice 60 3 24 [.int .i64 0, .int .i64 0, .int .i64 0], 1, false, [.nils]⟩),
  (28, ⟨.slice 63 4 32 [.int .i64 0, .int .i64 0, .int .i64 0, .int .i64 0], 1, false, [.nils]⟩),
  (34, ⟨.int .i64, 1, false, [.int .i64 0]⟩),
  (92, ⟨.struct [(0, 1, false), (1, 1, false), (2, 1, false), (3, 1, false), (4, 1, false)], 5, true, [.int .i64 0, .int .i64 0, .int .i64 0, .int .i64 0, .int .i64 0]⟩),
  (54, ⟨.slice 22 1 24 [.nils], 1, false, [.nils]⟩),
  (58, ⟨.struct [(0, 1, false), (1, 1, false), (2, 1, false), (3, 1, false)], 4, true, [.int .i64 0, .int .i64 0, .int .i64 0, .int .i64 0]⟩),
  (29, ⟨.slice 62 3 24 [.int .i64 0, .int .i64 0, .int .i64 0], 1, false, [.nils]⟩),
  (63, ⟨.struct [(0, 1, false), (1, 1, false), (2, 1, false), (3, 1, false)], 4, true, [.int .i64 0, .int .i64 0, .int .i64 0, .int .i64 0]⟩),
  (60, ⟨.struct [(0, 1, false), (1, 1, false), (2, 1, false)], 3, true, [.int .i64 0, .int .i64 0, .int .i64 0]⟩),
  (62, ⟨.struct [(0, 1, false), (1, 1, false), (2, 1, false)], 3, true, [.int .i64 0, .int .i64 0, .int .i64 0]⟩),
  (88, ⟨.slice 92 5 40 [.int .i64 0, .int .i64 0, .int .i64 0, .int .i64 0, .int .i64 0], 1, false, [.nils]⟩),
  (132, ⟨.int .u64, 1, false, [.int .u64 0]⟩),
  (149, ⟨.int .u64, 1, false, [.int .u64 0]⟩),
  (110, ⟨.struct [(0, 1, false), (1, 1, false)], 2, true, [.nils, .int .i64 0]⟩),
  (144, ⟨.int .u32, 1, false, [.int .u32 0]⟩),
  (4, ⟨.bool, 1, false, [.bool false]⟩),
  (5, ⟨.int .u8, 1, false, [.int .u8 0]⟩),
  (56, ⟨.slice 4 1 1 [.bool false], 1, false, [.nils]⟩),
  (81, ⟨.ptr 90, 1, false, [.nilp]⟩),
  (90, ⟨.struct [(0, 1, false), (1, 1, false)], 2, true, [.int .i64 0, .nils]⟩),
  (9, ⟨.str, 1, false, [.str []]⟩),
  (67, ⟨.ptr 110, 1, false, [.nilp]⟩),
  (102, ⟨.struct [(0, 1, false)], 1, true, [.nils]⟩),
  (120, ⟨.struct [(0, 1, false), (1, 1, false)], 2, true, [.int .i64 0, .bool false]⟩),
  (152, ⟨.ptr 3, 1, false, [.nilp]⟩),
  (86, ⟨.slice 120 2 16 [.int .i64 0, .bool false], 1, false, [.nils]⟩),
  (51, ⟨.slice 38 4 80 [.nils, .nils, .nils, .int .i64 0], 1, false, [.nils]⟩),
  (84, ⟨.func, 1, false, [.nilf]⟩),
  (74, ⟨.slice 54 1 24 [.nils], 1, false, [.nils]⟩),
  (72, ⟨.slice 64 1 24 [.nils], 1, false, [.nils]⟩),
  (122, ⟨.ptr 102, 1, false, [.nilp]⟩),
  (118, ⟨.func, 1, false, [.nilf]⟩),
  (137, ⟨.int .i64, 1, false, [.int .i64 0]⟩),
  (106, ⟨.func, 1, false, [.nilf]⟩),
  (97, ⟨.ptr 92, 1, false, [.nilp]⟩)]
set_option maxRecDepth 100000 in
theorem tt_ok : TT.ok Try.prog tt = true := by kernel_rfl
theorem mo : Try.prog.follows .mixedOrders = true := by kernel_rfl
theorem dok (N : Nat) : DrawOk Try.prog tt N := drawOk_of tt_ok (by kernel_rfl) N
end Go.Proofs.Ytebflkgpbbjhnaa
/- The plain law of balance: networks, potentials. -/
namespace Go.Proofs.Ytebflkgpbbjhnaa
open Go.Fw Go
set_option linter.unusedVariables false
set_option linter.unusedSimpArgs false

/-- An edge, or a fix as an edge to a further node, with its flow. -/
structure Ac where
  a : Nat
  b : Nat
  d : Int
  w : Int
  f : Int
/-- Offsets for which no flow should be moved. -/
def Feas (A : List Ac) (p : Nat → Int) : Prop := ∀ x ∈ A, (-x.w < x.f → p x.b ≤ p x.a - x.d) ∧ (x.f < x.w → p x.a ≤ p x.b + x.d)
/-- The arcs lie between the nodes 0 to n, and are small. -/
structure AcOk (n : Nat) (x : Ac) : Prop where
  a : x.a ≤ n
  b : x.b ≤ n
  d1 : -65535 ≤ x.d
  d2 : x.d ≤ 65535
  w1 : 1 ≤ x.w
  w2 : x.w ≤ 65536
  f1 : -x.w ≤ x.f
  f2 : x.f ≤ x.w

theorem hit_len : ∀ (m : Nat) (l : List Nat), (∀ j, j < m → j ∈ l) → m ≤ l.length
  | 0, _, _ => Nat.zero_le _
  | m + 1, l, h => by
    have hm := h m (Nat.lt_succ_self m)
    have h2 := hit_len m (l.erase m) (fun j hj => (List.mem_erase_of_ne (by omega)).2 (h j (by omega)))
    rw [List.length_erase_of_mem hm] at h2
    have : 0 < l.length := List.length_pos_of_mem hm
    omega
theorem php {n : Nat} {g : Nat → Nat} {v : Nat} (hv : v ≤ n) (hg : n < g v) : ∃ j, j ≤ n ∧ ∀ u, u ≤ n → g u ≠ j := by
  apply Classical.byContradiction
  intro hno
  have hall : ∀ j, j ≤ n → ∃ u, u ≤ n ∧ g u = j := fun j hj => by
    apply Classical.byContradiction
    intro h
    exact hno ⟨j, hj, fun u hu e => h ⟨u, hu, e⟩⟩
  have hmem : g v ∈ (List.range (n + 1)).map g := List.mem_map.2 ⟨v, by simp; omega, rfl⟩
  have h := hit_len (n + 1) (((List.range (n + 1)).map g).erase (g v)) (fun j hj => by
    obtain ⟨u, hu, e⟩ := hall j (by omega)
    exact (List.mem_erase_of_ne (by omega)).2 (List.mem_map.2 ⟨u, by simp; omega, e⟩))
  rw [List.length_erase_of_mem hmem] at h
  simp at h
  omega

/-- The sum over the nodes. -/
def sumN (g : Nat → Nat) : Nat → Nat
  | 0 => g 0
  | n + 1 => sumN g n + g (n + 1)
theorem sumN_le {g k : Nat → Nat} : ∀ {n : Nat}, (∀ u, u ≤ n → g u ≤ k u) → sumN g n ≤ sumN k n
  | 0, h => h 0 (Nat.le_refl _)
  | n + 1, h => by
    have := sumN_le (n := n) (fun u hu => h u (by omega))
    have := h (n + 1) (Nat.le_refl _)
    simp only [sumN]; omega
theorem sumN_lt {g k : Nat → Nat} {v : Nat} : ∀ {n : Nat}, v ≤ n → (∀ u, u ≤ n → g u ≤ k u) → g v < k v → sumN g n < sumN k n
  | 0, hv, h, hl => by
    have : v = 0 := by omega
    subst this; exact hl
  | n + 1, hv, h, hl => by
    by_cases e : v = n + 1
    · subst e
      have := sumN_le (n := n) (fun u hu => h u (by omega))
      simp only [sumN]; omega
    · have := sumN_lt (n := n) (by omega) (fun u hu => h u (by omega)) hl
      have := h (n + 1) (Nat.le_refl _)
      simp only [sumN]; omega

theorem feas_down {n : Nat} {A : List Ac} (hA : ∀ x ∈ A, AcOk n x) : ∀ (S : Nat) (p : Nat → Int), sumN (fun v => (p v).toNat) n = S → Feas A p → (∀ v, v ≤ n → 0 ≤ p v) → ∃ q, Feas A q ∧ ∀ v, v ≤ n → 0 ≤ q v ∧ q v ≤ 65536 * (n + 1) := by
  intro S
  induction S using Nat.strongRecOn with
  | _ S ih =>
    intro p hS hp h0
    by_cases hbig : ∀ v, v ≤ n → p v ≤ 65536 * (n + 1)
    · exact ⟨p, hp, fun v hv => ⟨h0 v hv, hbig v hv⟩⟩
    · have ⟨v, hv, hpv⟩ : ∃ v, v ≤ n ∧ 65536 * ((n : Int) + 1) < p v := by
        apply Classical.byContradiction
        intro h
        exact hbig fun v hv => by
          apply Classical.byContradiction
          intro h2
          exact h ⟨v, hv, by omega⟩
      obtain ⟨j, hj, hno⟩ := php (n := n) (g := fun u => (p u).toNat / 65536) hv (by
        show n < (p v).toNat / 65536
        rw [Nat.lt_div_iff_mul_lt (by decide)]
        omega)
      have hgap : ∀ u, u ≤ n → p u < 65536 * (j : Int) ∨ 65536 * ((j : Int) + 1) ≤ p u := fun u hu => by
        have h1 := hno u hu
        have h2 := h0 u hu
        have h1 : (p u).toNat / 65536 ≠ j := h1
        omega
      obtain ⟨q, hq⟩ : ∃ q : Nat → Int, q = fun u => if 65536 * ((j : Int) + 1) ≤ p u then p u - 1 else p u := ⟨_, rfl⟩
      have hqu : ∀ u, q u = if 65536 * ((j : Int) + 1) ≤ p u then p u - 1 else p u := fun u => by rw [hq]
      refine ih _ ?_ q rfl ?_ ?_
      · rw [← hS]
        refine sumN_lt hv (fun u hu => ?_) ?_
        · show (q u).toNat ≤ (p u).toNat
          rw [hqu]; split <;> omega
        · show (q v).toNat < (p v).toNat
          rw [hqu, if_pos (by omega)]; omega
      · intro x hx
        obtain ⟨xa, xb, d1, d2, _, _, _, _⟩ := hA x hx
        obtain ⟨k1, k2⟩ := hp x hx
        have ga := hgap x.a xa
        have gb := hgap x.b xb
        refine ⟨fun h => ?_, fun h => ?_⟩
        · have := k1 h
          rw [hqu, hqu]; split <;> split <;> omega
        · have := k2 h
          rw [hqu, hqu]; split <;> split <;> omega
      · intro u hu
        have := h0 u hu
        rw [hqu]; split <;> omega
theorem low_bound (p : Nat → Int) : ∀ n : Nat, ∃ m : Int, ∀ v, v ≤ n → m ≤ p v
  | 0 => ⟨p 0, fun v hv => by have : v = 0 := by omega
                              rw [this]; exact Int.le_refl _⟩
  | n + 1 => by
    obtain ⟨m, h⟩ := low_bound p n
    refine ⟨min m (p (n + 1)), fun v hv => ?_⟩
    by_cases e : v = n + 1
    · rw [e]; omega
    · have := h v (by omega); omega
theorem feas_small {n : Nat} {A : List Ac} (hA : ∀ x ∈ A, AcOk n x) {p : Nat → Int} (hp : Feas A p) : ∃ q, Feas A q ∧ ∀ v, v ≤ n → 0 ≤ q v ∧ q v ≤ 65536 * (n + 1) := by
  obtain ⟨m, hm⟩ := low_bound p n
  refine feas_down hA _ (fun v => p v - m) rfl (fun x hx => ?_) (fun v hv => ?_)
  · obtain ⟨k1, k2⟩ := hp x hx
    exact ⟨fun h => by have := k1 h; dsimp only; omega, fun h => by have := k2 h; dsimp only; omega⟩
  · have := hm v hv
    show 0 ≤ p v - m
    omega
end Go.Proofs.Ytebflkgpbbjhnaa
/- The plain law of balance: relaxing. -/
namespace Go.Proofs.Ytebflkgpbbjhnaa
open Go.Fw Go
set_option linter.unusedVariables false
set_option linter.unusedSimpArgs false

/-- An arc as a way: up, from b to a at the cost d; else from a to b at the cost -d. -/
def hd (x : Ac) (up : Bool) : Nat := if up = true then x.a else x.b
def tl (x : Ac) (up : Bool) : Nat := if up = true then x.b else x.a
def cs (x : Ac) (up : Bool) : Int := if up = true then x.d else -x.d
def Rs (x : Ac) (up : Bool) : Prop := if up = true then x.f < x.w else -x.w < x.f
instance (x : Ac) (up : Bool) : Decidable (Rs x up) := by unfold Rs; cases up <;> exact inferInstance
theorem feas_iff {A : List Ac} {p : Nat → Int} : Feas A p ↔ ∀ x ∈ A, ∀ up, Rs x up → p (hd x up) ≤ p (tl x up) + cs x up := by
  constructor
  · intro h x hx up hr
    obtain ⟨k1, k2⟩ := h x hx
    cases up with
    | true => exact k2 hr
    | false => have := k1 hr; show p x.b ≤ p x.a + -x.d; omega
  · intro h x hx
    refine ⟨fun hr => ?_, fun hr => h x hx true hr⟩
    have : p x.b ≤ p x.a + -x.d := h x hx false hr
    omega
def far : Int := 1125899906842624
/-- Distances and the last steps. -/
structure Ds where
  d : Nat → Int
  s : Nat → Nat × Bool
def putD (g : Nat → Int) (v : Nat) (x : Int) : Nat → Int := fun u => if u = v then x else g u
def putS' (g : Nat → Nat × Bool) (v : Nat) (x : Nat × Bool) : Nat → Nat × Bool := fun u => if u = v then x else g u
/-- A way is shorter. -/
def Rlx (σ : Ds) (x : Ac) (up : Bool) : Prop := Rs x up ∧ σ.d (tl x up) < far ∧ σ.d (tl x up) + cs x up < σ.d (hd x up)
def rlx (σ : Ds) (i : Nat) (x : Ac) (up : Bool) : Ds := ⟨putD σ.d (hd x up) (σ.d (tl x up) + cs x up), putS' σ.s (hd x up) (i, up)⟩

def isR (d : Nat → Int) (v : Nat) : Nat := if d v < far then 1 else 0
/-- How many are reached. -/
def cnt (d : Nat → Int) (n : Nat) : Nat := sumN (isR d) n
/-- The steps lead from a node to the first one, so many of them. -/
def Chn (A : List Ac) (s : Nat → Nat × Bool) (from' : Nat) : Nat → Nat → Prop
  | 0, v => v = from'
  | k + 1, v => v ≠ from' ∧ ∃ x, A[(s v).1]? = some x ∧ hd x (s v).2 = v ∧ Rs x (s v).2 ∧ Chn A s from' k (tl x (s v).2)

/-- What holds while distances go down. -/
structure DI (A : List Ac) (n : Nat) (p : Nat → Int) (d0 : Nat → Int) (mu : Int) (σ : Ds) : Prop where
  low : ∀ v, v ≤ n → mu ≤ σ.d v - p v
  dec : ∀ v, v ≤ n → σ.d v ≤ d0 v
  upp : ∀ v, v ≤ n → σ.d v < far → σ.d v ≤ 65536 * cnt σ.d n
  stp : ∀ v, v ≤ n → σ.d v = d0 v ∨ ∃ x, A[(σ.s v).1]? = some x ∧ hd x (σ.s v).2 = v ∧ Rs x (σ.s v).2 ∧ σ.d (tl x (σ.s v).2) < far ∧ σ.d (tl x (σ.s v).2) + cs x (σ.s v).2 ≤ σ.d v
theorem hd_le {n : Nat} {x : Ac} (h : AcOk n x) (up : Bool) : hd x up ≤ n := by cases up; exact h.b; exact h.a
theorem tl_le {n : Nat} {x : Ac} (h : AcOk n x) (up : Bool) : tl x up ≤ n := by cases up; exact h.a; exact h.b
theorem cs_bd {n : Nat} {x : Ac} (h : AcOk n x) (up : Bool) : -65535 ≤ cs x up ∧ cs x up ≤ 65535 := by
  have := h.d1; have := h.d2
  cases up
  · show -65535 ≤ -x.d ∧ -x.d ≤ 65535; omega
  · show -65535 ≤ x.d ∧ x.d ≤ 65535; omega
theorem cnt_le (d : Nat → Int) : ∀ n, cnt d n ≤ n + 1
  | 0 => by show isR d 0 ≤ 1; unfold isR; split <;> omega
  | n + 1 => by
    have := cnt_le d n
    have h : isR d (n + 1) ≤ 1 := by unfold isR; split <;> omega
    show sumN (isR d) n + isR d (n + 1) ≤ _
    unfold cnt at this
    omega
theorem isR_le {d e : Nat → Int} {u : Nat} (h : e u ≤ d u) : isR d u ≤ isR e u := by
  unfold isR
  split <;> split <;> omega
theorem DI.rlx {A : List Ac} {n : Nat} {p d0 : Nat → Int} {mu : Int} {σ : Ds} (h : DI A n p d0 mu σ) (hA : ∀ x ∈ A, AcOk n x) (hp : Feas A p) (hn : n ≤ 100) {i : Nat} {x : Ac} {up : Bool} (hi : A[i]? = some x) (hr : Rlx σ x up) :
    DI A n p d0 mu (rlx σ i x up) := by
  have hx := List.mem_of_getElem? hi
  have hok := hA x hx
  obtain ⟨r1, r2, r3⟩ := hr
  have hh := hd_le hok up
  have ht := tl_le hok up
  obtain ⟨c1, c2⟩ := cs_bd hok up
  have hf := feas_iff.1 hp x hx up r1
  have hne : hd x up ≠ tl x up := fun e => by
    rw [e] at r3 hf; omega
  have hlt := h.low _ ht
  have hup := h.upp _ ht r2
  have hcl := cnt_le σ.d n
  have hdv : ∀ v, (Proofs.Ytebflkgpbbjhnaa.rlx σ i x up).d v = if v = hd x up then σ.d (tl x up) + cs x up else σ.d v := fun v => rfl
  have hsv : ∀ v, (Proofs.Ytebflkgpbbjhnaa.rlx σ i x up).s v = if v = hd x up then (i, up) else σ.s v := fun v => rfl
  have hmo : ∀ u, (Proofs.Ytebflkgpbbjhnaa.rlx σ i x up).d u ≤ σ.d u := fun u => by
    rw [hdv]; split
    · rename_i e; rw [e]; omega
    · exact Int.le_refl _
  have hfar : far = 1125899906842624 := rfl
  refine ⟨fun v hv => ?_, fun v hv => ?_, fun v hv hl => ?_, fun v hv => ?_⟩
  · rw [hdv]
    split
    · rename_i e; rw [e]; omega
    · exact h.low v hv
  · rw [hdv]
    split
    · rename_i e; rw [e]; have := h.dec _ hh; omega
    · exact h.dec v hv
  · have hge : cnt σ.d n ≤ cnt (Proofs.Ytebflkgpbbjhnaa.rlx σ i x up).d n := sumN_le fun u hu => isR_le (hmo u)
    rw [hdv] at hl ⊢
    by_cases e : v = hd x up
    · rw [if_pos e]
      by_cases hrd : σ.d (hd x up) < far
      · have := h.upp _ hh hrd
        omega
      · have hgt : cnt σ.d n < cnt (Proofs.Ytebflkgpbbjhnaa.rlx σ i x up).d n := sumN_lt (v := hd x up) hh (fun u hu => isR_le (hmo u)) (by
          have h1 : isR σ.d (hd x up) = 0 := if_neg hrd
          have h2 : isR (Proofs.Ytebflkgpbbjhnaa.rlx σ i x up).d (hd x up) = 1 := if_pos (by rw [hdv, if_pos rfl]; omega)
          rw [h1, h2]; exact Nat.zero_lt_one)
        omega
    · rw [if_neg e] at hl ⊢
      have := h.upp v hv hl
      omega
  · by_cases e : v = hd x up
    · refine .inr ⟨x, ?_, ?_, ?_, ?_, ?_⟩
      · rw [hsv, if_pos e]; exact hi
      · rw [hsv, if_pos e]; exact e.symm
      · rw [hsv, if_pos e]; exact r1
      · rw [hsv, if_pos e, hdv, if_neg (Ne.symm hne)]; exact r2
      · rw [hsv, if_pos e, hdv, hdv, if_neg (Ne.symm hne), if_pos e]; exact Int.le_refl _
    · rw [hsv, hdv, if_neg e, if_neg e]
      rcases h.stp v hv with h1 | ⟨y, h1, h2, h3, h4, h5⟩
      · exact .inl h1
      · have := hmo (tl y (σ.s v).2)
        exact .inr ⟨y, h1, h2, h3, by omega, by omega⟩
/-- Every change makes the sum of the distances less. -/
def wgt (p : Nat → Int) (mu : Int) (d : Nat → Int) (n : Nat) : Nat := sumN (fun v => (d v - p v - mu).toNat) n
theorem DI.less {A : List Ac} {n : Nat} {p d0 : Nat → Int} {mu : Int} {σ : Ds} (h : DI A n p d0 mu σ) (hA : ∀ x ∈ A, AcOk n x) (hp : Feas A p) {i : Nat} {x : Ac} {up : Bool} (hi : A[i]? = some x) (hr : Rlx σ x up) :
    wgt p mu (Proofs.Ytebflkgpbbjhnaa.rlx σ i x up).d n < wgt p mu σ.d n := by
  have hx := List.mem_of_getElem? hi
  have hok := hA x hx
  obtain ⟨r1, r2, r3⟩ := hr
  have hh := hd_le hok up
  have ht := tl_le hok up
  have hf := feas_iff.1 hp x hx up r1
  have hlt := h.low _ ht
  have hdv : ∀ v, (Proofs.Ytebflkgpbbjhnaa.rlx σ i x up).d v = if v = hd x up then σ.d (tl x up) + cs x up else σ.d v := fun v => rfl
  refine sumN_lt hh (fun u hu => ?_) ?_
  · show ((Proofs.Ytebflkgpbbjhnaa.rlx σ i x up).d u - p u - mu).toNat ≤ (σ.d u - p u - mu).toNat
    rw [hdv]; split
    · rename_i e; rw [e]; omega
    · exact Nat.le_refl _
  · show ((Proofs.Ytebflkgpbbjhnaa.rlx σ i x up).d (hd x up) - p (hd x up) - mu).toNat < (σ.d (hd x up) - p (hd x up) - mu).toNat
    rw [hdv, if_pos rfl]
    have := h.low _ hh
    omega
/-- Nothing is left to do. -/
def Stab (A : List Ac) (σ : Ds) : Prop := ∀ x ∈ A, ∀ up, ¬ Rlx σ x up
theorem DI.tight {A : List Ac} {n : Nat} {p d0 : Nat → Int} {mu : Int} {σ : Ds} (h : DI A n p d0 mu σ) (hs : Stab A σ) {v : Nat} (hv : v ≤ n) (hne : σ.d v ≠ d0 v) :
    ∃ x, A[(σ.s v).1]? = some x ∧ hd x (σ.s v).2 = v ∧ Rs x (σ.s v).2 ∧ σ.d (tl x (σ.s v).2) < far ∧ σ.d (tl x (σ.s v).2) + cs x (σ.s v).2 = σ.d v := by
  rcases h.stp v hv with h1 | ⟨x, h1, h2, h3, h4, h5⟩
  · exact absurd h1 hne
  · refine ⟨x, h1, h2, h3, h4, ?_⟩
    have := hs x (List.mem_of_getElem? h1) (σ.s v).2
    unfold Rlx at this
    rw [h2] at this
    have : ¬ (σ.d (tl x (σ.s v).2) + cs x (σ.s v).2 < σ.d v) := fun hl => this ⟨h3, h4, hl⟩
    omega
end Go.Proofs.Ytebflkgpbbjhnaa
/- The plain law of balance: the last steps lead back. -/
namespace Go.Proofs.Ytebflkgpbbjhnaa
open Go.Fw Go
set_option linter.unusedVariables false
set_option linter.unusedSimpArgs false

/-- From one node. -/
def one0 (r : Nat) : Nat → Int := fun v => if v = r then 0 else far
theorem DI.step1 {A : List Ac} {n r : Nat} {p : Nat → Int} {mu : Int} {σ : Ds} (h : DI A n p (one0 r) mu σ) {v : Nat} (hv : v ≤ n) (hl : σ.d v < far) (hne : v ≠ r) :
    ∃ x, A[(σ.s v).1]? = some x ∧ hd x (σ.s v).2 = v ∧ Rs x (σ.s v).2 ∧ σ.d (tl x (σ.s v).2) < far ∧ σ.d (tl x (σ.s v).2) + cs x (σ.s v).2 ≤ σ.d v := by
  rcases h.stp v hv with h1 | h1
  · have : one0 r v = far := if_neg hne
    omega
  · exact h1
theorem chn_keep {A : List Ac} {n r : Nat} {p : Nat → Int} {mu : Int} {σ : Ds} (h : DI A n p (one0 r) mu σ) (hA : ∀ x ∈ A, AcOk n x) (hp : Feas A p) {w : Nat} {z : Nat × Bool} : ∀ (k v : Nat), Chn A σ.s r k v → v ≤ n → σ.d v < far → σ.d v - p v < σ.d w - p w → Chn A (putS' σ.s w z) r k v
  | 0, v, hc, _, _, _ => hc
  | k + 1, v, hc, hv, hl, he => by
    obtain ⟨hne, x, h1, h2, h3, h4⟩ := hc
    obtain ⟨y, g1, g2, g3, g4, g5⟩ := h.step1 hv hl hne
    rw [h1] at g1; cases g1
    have hx := List.mem_of_getElem? h1
    have hf := feas_iff.1 hp x hx _ h3
    rw [h2] at hf
    have hvw : v ≠ w := fun e => by rw [e] at he; omega
    have hs : putS' σ.s w z v = σ.s v := if_neg hvw
    have ht := tl_le (hA x hx) (σ.s v).2
    have ih := chn_keep h hA hp (w := w) (z := z) k _ h4 ht g4 (by omega)
    exact ⟨hne, x, by rw [hs]; exact h1, by rw [hs]; exact h2, by rw [hs]; exact h3, by rw [hs]; exact ih⟩
theorem chn_rlx {A : List Ac} {n r : Nat} {p : Nat → Int} {mu : Int} {σ : Ds} (h : DI A n p (one0 r) mu σ) (hA : ∀ x ∈ A, AcOk n x) (hp : Feas A p) (hmu : mu = -p r) (hn : n ≤ 100) {i : Nat} {x : Ac} {up : Bool} (hi : A[i]? = some x) (hr : Rlx σ x up)
    (hall : ∀ v, v ≤ n → σ.d v < far → ∃ k, Chn A σ.s r k v) : ∀ v, v ≤ n → (rlx σ i x up).d v < far → ∃ k, Chn A (rlx σ i x up).s r k v := by
  have hx := List.mem_of_getElem? hi
  have hok := hA x hx
  obtain ⟨r1, r2, r3⟩ := hr
  have hh := hd_le hok up
  have ht := tl_le hok up
  have hf := feas_iff.1 hp x hx up r1
  have hlt := h.low _ ht
  have hhr : hd x up ≠ r := fun e => by
    have h0 := h.dec _ hh
    have h1 := h.low _ hh
    have : one0 r (hd x up) = 0 := if_pos e
    have h2 := hlt
    rw [e] at hf r3 h1
    have hd0 : σ.d r ≤ 0 := by rw [e] at h0 this; omega
    omega
  obtain ⟨kt, hkt⟩ := hall _ ht r2
  have hct : Chn A (rlx σ i x up).s r kt (tl x up) := chn_keep h hA hp kt _ hkt ht r2 (by omega)
  have hch : Chn A (rlx σ i x up).s r (kt + 1) (hd x up) := by
    have hs : (rlx σ i x up).s (hd x up) = (i, up) := if_pos rfl
    exact ⟨hhr, x, by rw [hs]; exact hi, by rw [hs], by rw [hs]; exact r1, by rw [hs]; exact hct⟩
  have main : ∀ (k v : Nat), v ≤ n → σ.d v < far → Chn A σ.s r k v → ∃ k', Chn A (rlx σ i x up).s r k' v := by
    intro k
    induction k with
    | zero => intro v _ _ hc; exact ⟨0, hc⟩
    | succ k ih =>
      intro v hv hl hc
      by_cases e : v = hd x up
      · exact ⟨_, by rw [e]; exact hch⟩
      · obtain ⟨hne, y, h1, h2, h3, h4⟩ := hc
        obtain ⟨z, g1, g2, g3, g4, g5⟩ := h.step1 hv hl hne
        rw [h1] at g1; cases g1
        obtain ⟨k', hk'⟩ := ih _ (tl_le (hA y (List.mem_of_getElem? h1)) _) g4 h4
        have hs : (rlx σ i x up).s v = σ.s v := if_neg e
        exact ⟨k' + 1, hne, y, by rw [hs]; exact h1, by rw [hs]; exact h2, by rw [hs]; exact h3, by rw [hs]; exact hk'⟩
  intro v hv hl
  by_cases e : v = hd x up
  · exact ⟨_, by rw [e]; exact hch⟩
  · have hdv : (rlx σ i x up).d v = σ.d v := if_neg e
    rw [hdv] at hl
    obtain ⟨k, hk⟩ := hall v hv hl
    exact main k v hv hl hk
end Go.Proofs.Ytebflkgpbbjhnaa
/- The plain law of balance: new potentials; the reached set. -/
namespace Go.Proofs.Ytebflkgpbbjhnaa
open Go.Fw Go
set_option linter.unusedVariables false
set_option linter.unusedSimpArgs false

/-- The distances as offsets. -/
def newP (p d : Nat → Int) : Nat → Int := fun v => if d v < far then d v else p v + 100000000
theorem stab_reach {A : List Ac} {σ : Ds} (hs : Stab A σ) {x : Ac} (hx : x ∈ A) {up : Bool} (hr : Rs x up) (hl : σ.d (tl x up) < far) : σ.d (hd x up) ≤ σ.d (tl x up) + cs x up := by
  have h := hs x hx up
  unfold Rlx at h
  apply Classical.byContradiction
  intro h2
  exact h ⟨hr, hl, by omega⟩
theorem feas_new {A : List Ac} {n r : Nat} {p : Nat → Int} {mu : Int} {σ : Ds} (h : DI A n p (one0 r) mu σ) (hA : ∀ x ∈ A, AcOk n x) (hp : Feas A p) (hp0 : ∀ v, v ≤ n → 0 ≤ p v) (hn : n ≤ 100) (hs : Stab A σ) : Feas A (newP p σ.d) := by
  refine feas_iff.2 fun x hx up hr => ?_
  have hok := hA x hx
  have hh := hd_le hok up
  have ht := tl_le hok up
  obtain ⟨c1, c2⟩ := cs_bd hok up
  have hfar : far = 1125899906842624 := rfl
  have hcl := cnt_le σ.d n
  unfold newP
  by_cases h1 : σ.d (tl x up) < far
  · have h2 := stab_reach hs hx hr h1
    have h3 := h.upp _ ht h1
    rw [if_pos h1, if_pos (by omega)]
    exact h2
  · rw [if_neg h1]
    have h4 := hp0 _ ht
    by_cases h2 : σ.d (hd x up) < far
    · rw [if_pos h2]
      have h3 := h.upp _ hh h2
      omega
    · rw [if_neg h2]
      have := feas_iff.1 hp x hx up hr
      omega

/-- What flows out of a node. -/
def netN (A : List Ac) (v : Nat) : Int := (A.map fun x => (if x.a = v then x.f else 0) - (if x.b = v then x.f else 0)).sum
/-- What flows out of a set. -/
def sumS (g : Nat → Int) (S : Nat → Bool) : Nat → Int
  | 0 => if S 0 = true then g 0 else 0
  | n + 1 => sumS g S n + if S (n + 1) = true then g (n + 1) else 0
theorem sumS_add {g k : Nat → Int} {S : Nat → Bool} : ∀ n, sumS (fun v => g v + k v) S n = sumS g S n + sumS k S n
  | 0 => by simp only [sumS]; split <;> omega
  | n + 1 => by simp only [sumS, sumS_add n]; split <;> omega
theorem sumS_zero {S : Nat → Bool} : ∀ n, sumS (fun _ => 0) S n = 0
  | 0 => by simp [sumS]
  | n + 1 => by simp [sumS, sumS_zero n]
theorem sumS_pt {S : Nat → Bool} {a : Nat} {f : Int} : ∀ {n : Nat}, sumS (fun v => if a = v then f else 0) S n = if a ≤ n ∧ S a = true then f else 0
  | 0 => by
    simp only [sumS]
    by_cases h : a = 0
    · subst h; by_cases h2 : S 0 = true <;> simp [h2]
    · simp [h]
  | n + 1 => by
    simp only [sumS, sumS_pt (n := n)]
    by_cases h : a = n + 1
    · subst h
      have h1 : ¬ n + 1 ≤ n := by omega
      by_cases h2 : S (n + 1) = true <;> simp [h2, h1]
    · have h0 : (if S (n + 1) = true then (if a = n + 1 then f else 0) else 0) = 0 := by rw [if_neg h]; simp
      rw [h0, Int.add_zero]
      by_cases h1 : a ≤ n
      · have h2 : a ≤ n + 1 := by omega
        simp [h1, h2]
      · have h2 : ¬ a ≤ n + 1 := by omega
        simp [h1, h2]
/-- What an arc carries out of a set. -/
def outS (S : Nat → Bool) (x : Ac) : Int := (if S x.a = true then x.f else 0) - (if S x.b = true then x.f else 0)
theorem sumS_net {n : Nat} {S : Nat → Bool} : ∀ {A : List Ac}, (∀ x ∈ A, AcOk n x) → sumS (netN A) S n = (A.map (outS S)).sum
  | [], _ => by
    have : netN [] = fun _ => 0 := rfl
    rw [this, sumS_zero]; rfl
  | x :: A, h => by
    have ih := sumS_net (S := S) (A := A) (fun y hy => h y (by simp [hy]))
    obtain ⟨xa, xb, _, _, _, _, _, _⟩ := h x (by simp)
    have e : netN (x :: A) = fun v => ((fun v => if x.a = v then x.f else 0) v + (fun v => if x.b = v then -x.f else 0) v) + netN A v := by
      funext v
      show ((if x.a = v then x.f else 0) - (if x.b = v then x.f else 0)) + netN A v = _
      dsimp only
      split <;> split <;> omega
    rw [e, sumS_add (g := fun v => (fun v => if x.a = v then x.f else 0) v + (fun v => if x.b = v then -x.f else 0) v) (k := netN A), ih,
      sumS_add (g := fun v => if x.a = v then x.f else 0) (k := fun v => if x.b = v then -x.f else 0), sumS_pt, sumS_pt]
    show _ = outS S x + _
    unfold outS
    congr 1
    by_cases h1 : S x.a = true <;> by_cases h2 : S x.b = true <;> simp [h1, h2, xa, xb] <;> omega
theorem sum_nonpos : ∀ {l : List Int}, (∀ z ∈ l, z ≤ 0) → l.sum ≤ 0
  | [], _ => Int.le_refl _
  | z :: l, h => by
    have h1 := h z (by simp)
    have h2 := sum_nonpos (l := l) (fun y hy => h y (by simp [hy]))
    show z + l.sum ≤ 0
    omega
theorem sumS_nn {g : Nat → Int} {S : Nat → Bool} : ∀ {n : Nat}, (∀ v, v ≤ n → S v = true → 0 ≤ g v) → 0 ≤ sumS g S n
  | 0, h => by
    simp only [sumS]; split
    · rename_i h2; exact h 0 (Nat.le_refl _) h2
    · exact Int.le_refl _
  | n + 1, h => by
    have h1 := sumS_nn (n := n) (fun v hv => h v (by omega))
    simp only [sumS]; split
    · rename_i h2; have := h (n + 1) (Nat.le_refl _) h2; omega
    · omega
theorem sumS_pos {g : Nat → Int} {S : Nat → Bool} {r : Nat} : ∀ {n : Nat}, r ≤ n → S r = true → 0 < g r → (∀ v, v ≤ n → S v = true → 0 ≤ g v) → 0 < sumS g S n
  | 0, hr, hS, hg, h => by
    have : r = 0 := by omega
    subst this
    simp only [sumS, if_pos hS]; exact hg
  | n + 1, hr, hS, hg, h => by
    simp only [sumS]
    by_cases e : r = n + 1
    · subst e
      rw [if_pos hS]
      have : 0 ≤ sumS g S n := sumS_nn fun v hv hs => h v (by omega) hs
      omega
    · have h1 := sumS_pos (n := n) (by omega) hS hg (fun v hv => h v (by omega))
      by_cases h2 : S (n + 1) = true
      · rw [if_pos h2]; have := h (n + 1) (Nat.le_refl _) h2; omega
      · rw [if_neg h2]; omega
theorem to_ex {A : List Ac} {n r : Nat} {p : Nat → Int} {mu : Int} {σ : Ds} (h : DI A n p (one0 r) mu σ) (hA : ∀ x ∈ A, AcOk n x) (hn : n ≤ 100) (hs : Stab A σ) (hr : r ≤ n) (hrp : 0 < netN A r) : ∃ v, v ≤ n ∧ σ.d v < far ∧ netN A v < 0 := by
  apply Classical.byContradiction
  intro hno
  obtain ⟨S, hS⟩ : ∃ S : Nat → Bool, S = fun v => decide (σ.d v < far) := ⟨_, rfl⟩
  have hSv : ∀ v, S v = true ↔ σ.d v < far := fun v => by rw [hS]; simp
  have hfar : far = 1125899906842624 := rfl
  have hcl := cnt_le σ.d n
  have h1 : 0 < sumS (netN A) S n := sumS_pos hr ((hSv r).2 (by
    have := h.dec r hr
    have e : one0 r r = 0 := if_pos rfl
    rw [e] at this; omega)) hrp (fun v hv hs => by
      apply Classical.byContradiction
      intro h2
      exact hno ⟨v, hv, (hSv v).1 hs, by omega⟩)
  rw [sumS_net hA] at h1
  have h2 : (A.map (outS S)).sum ≤ 0 := sum_nonpos fun z hz => by
    obtain ⟨x, hx, rfl⟩ := List.mem_map.1 hz
    obtain ⟨xa, xb, d1, d2, w1, w2, f1, f2⟩ := hA x hx
    have k : ∀ up, Rs x up → S (tl x up) = true → S (hd x up) = true := fun up hr ht => by
      have h3 := stab_reach hs hx hr ((hSv _).1 ht)
      have h4 := h.upp _ (tl_le (hA x hx) up) ((hSv _).1 ht)
      have h5 := (cs_bd (hA x hx) up).2
      exact (hSv _).2 (by omega)
    have kt : x.f < x.w → S x.b = true → S x.a = true := k true
    have kf : -x.w < x.f → S x.a = true → S x.b = true := k false
    unfold outS
    by_cases ha : S x.a = true <;> by_cases hb : S x.b = true
    · rw [if_pos ha, if_pos hb]; omega
    · rw [if_pos ha, if_neg hb]
      have : ¬ -x.w < x.f := fun h => hb (kf h ha)
      omega
    · rw [if_neg ha, if_pos hb]
      have : ¬ x.f < x.w := fun h => ha (kt h hb)
      omega
    · rw [if_neg ha, if_neg hb]; omega
  omega
end Go.Proofs.Ytebflkgpbbjhnaa
/- The plain law of balance: moving flow. -/
namespace Go.Proofs.Ytebflkgpbbjhnaa
open Go.Fw Go
set_option linter.unusedVariables false
set_option linter.unusedSimpArgs false

theorem chn_fun {A : List Ac} {s : Nat → Nat × Bool} {r : Nat} : ∀ {k k' v : Nat}, Chn A s r k v → Chn A s r k' v → k = k'
  | 0, 0, _, _, _ => rfl
  | 0, k' + 1, v, h1, h2 => absurd h1 h2.1
  | k + 1, 0, v, h1, h2 => absurd h2 h1.1
  | k + 1, k' + 1, v, h1, h2 => by
    obtain ⟨_, x, a1, a2, a3, a4⟩ := h1
    obtain ⟨_, y, b1, b2, b3, b4⟩ := h2
    rw [a1] at b1; cases b1
    rw [chn_fun a4 b4]
/-- An arc with more flow. -/
def addF (x : Ac) (z : Int) : Ac := ⟨x.a, x.b, x.d, x.w, x.f + z⟩
/-- What a flow along a way adds to an arc. -/
def sgn (up : Bool) (z : Int) : Int := if up = true then z else -z
theorem net_set {A : List Ac} {i : Nat} {x : Ac} {up : Bool} {z : Int} (hi : A[i]? = some x) (v : Nat) :
    netN (A.set i (addF x (sgn up z))) v = netN A v + (if hd x up = v then z else 0) - (if tl x up = v then z else 0) := by
  induction A generalizing i with
  | nil => simp at hi
  | cons y A ih =>
    cases i with
    | zero =>
      simp at hi
      subst hi
      show ((if y.a = v then y.f + sgn up z else 0) - (if y.b = v then y.f + sgn up z else 0)) + netN A v = (((if y.a = v then y.f else 0) - (if y.b = v then y.f else 0)) + netN A v) + _ - _
      cases up
      · show _ = _ + (if y.b = v then z else 0) - (if y.a = v then z else 0)
        show ((if y.a = v then y.f + -z else 0) - (if y.b = v then y.f + -z else 0)) + netN A v = _
        split <;> split <;> omega
      · show _ = _ + (if y.a = v then z else 0) - (if y.b = v then z else 0)
        show ((if y.a = v then y.f + z else 0) - (if y.b = v then y.f + z else 0)) + netN A v = _
        split <;> split <;> omega
    | succ i =>
      have := ih (i := i) (by simpa using hi)
      show ((if y.a = v then y.f else 0) - (if y.b = v then y.f else 0)) + netN (A.set i _) v = (((if y.a = v then y.f else 0) - (if y.b = v then y.f else 0)) + netN A v) + _ - _
      omega
theorem feas_set {A : List Ac} {q : Nat → Int} (hq : Feas A q) {i : Nat} {x : Ac} {up : Bool} (hi : A[i]? = some x) (ht : q (hd x up) = q (tl x up) + cs x up) (z : Int) : Feas (A.set i (addF x z)) q := by
  intro y hy
  rcases List.mem_or_eq_of_mem_set hy with h | h
  · exact hq y h
  · subst h
    show (-x.w < x.f + z → q x.b ≤ q x.a - x.d) ∧ (x.f + z < x.w → q x.a ≤ q x.b + x.d)
    cases up
    · have ht : q x.b = q x.a + -x.d := ht
      exact ⟨fun _ => by omega, fun _ => by omega⟩
    · have ht : q x.a = q x.b + x.d := ht
      exact ⟨fun _ => by omega, fun _ => by omega⟩

/-- Flow is moved along the steps. -/
def mvF (s : Nat → Nat × Bool) (z : Int) : Nat → Nat → List Ac → List Ac
  | 0, _, A => A
  | k + 1, v, A => match A[(s v).1]? with
    | some x => mvF s z k (tl x (s v).2) (A.set (s v).1 (addF x (sgn (s v).2 z)))
    | none => A
/-- Arcs alike but for their flows. -/
def Alk (A B : List Ac) : Prop := ∀ i : Nat, (∀ x, A[i]? = some x → ∃ g, B[i]? = some (addF x g)) ∧ (A[i]? = none → B[i]? = none)
theorem addF_z (x : Ac) : addF x 0 = x := by
  show Ac.mk x.a x.b x.d x.w (x.f + 0) = x
  rw [Int.add_zero]
theorem addF_add (x : Ac) (g h : Int) : addF (addF x g) h = addF x (g + h) := by
  show Ac.mk x.a x.b x.d x.w (x.f + g + h) = Ac.mk x.a x.b x.d x.w (x.f + (g + h))
  rw [Int.add_assoc]
theorem Alk.refl (A : List Ac) : Alk A A := fun i => ⟨fun x hx => ⟨0, by rw [addF_z]; exact hx⟩, fun h => h⟩
theorem Alk.trans {A B C : List Ac} (h : Alk A B) (k : Alk B C) : Alk A C := fun i => by
  refine ⟨fun x hx => ?_, fun hn => (k i).2 ((h i).2 hn)⟩
  obtain ⟨g, hg⟩ := (h i).1 x hx
  obtain ⟨g', hg'⟩ := (k i).1 _ hg
  exact ⟨g + g', by rw [hg', addF_add]⟩
theorem Alk.set {A : List Ac} {i : Nat} {x : Ac} (hi : A[i]? = some x) (z : Int) : Alk A (A.set i (addF x z)) := fun j => by
  have hl : i < A.length := (List.getElem?_eq_some_iff.1 hi).1
  by_cases e : i = j
  · subst e
    refine ⟨fun y hy => ?_, fun hn => ?_⟩
    · rw [hi] at hy; cases hy
      exact ⟨z, by rw [List.getElem?_set_self hl]⟩
    · rw [hi] at hn; cases hn
  · refine ⟨fun y hy => ⟨0, ?_⟩, fun hn => ?_⟩
    · rw [List.getElem?_set_ne e, addF_z]; exact hy
    · rw [List.getElem?_set_ne e]; exact hn
theorem hd_addF (x : Ac) (g : Int) (up : Bool) : hd (addF x g) up = hd x up := rfl
theorem tl_addF (x : Ac) (g : Int) (up : Bool) : tl (addF x g) up = tl x up := rfl
theorem cs_addF (x : Ac) (g : Int) (up : Bool) : cs (addF x g) up = cs x up := rfl
theorem mvF_ok {A0 : List Ac} {s : Nat → Nat × Bool} {r : Nat} {z : Int} {q : Nat → Int} (ht : ∀ k v x, Chn A0 s r (k + 1) v → A0[(s v).1]? = some x → q v = q (tl x (s v).2) + cs x (s v).2) : ∀ (k v : Nat) (A : List Ac), Alk A0 A → Chn A0 s r k v → Feas A q →
    Feas (mvF s z k v A) q ∧ Alk A0 (mvF s z k v A) ∧ ∀ u, netN (mvF s z k v A) u = netN A u + (if v = u then z else 0) - (if r = u then z else 0)
  | 0, v, A, hA, hc, hq => by
    have hc : v = r := hc
    subst hc
    exact ⟨hq, hA, fun u => by show netN A u = _; omega⟩
  | k + 1, v, A, hA, hc, hq => by
    have hc0 := hc
    obtain ⟨hne, x, h1, h2, h3, h4⟩ := hc
    obtain ⟨g, hg⟩ := (hA _).1 x h1
    have e : mvF s z (k + 1) v A = mvF s z k (tl x (s v).2) (A.set (s v).1 (addF (addF x g) (sgn (s v).2 z))) := by
      show (match A[(s v).1]? with | some x => _ | none => _) = _
      rw [hg]; rfl
    have hti := ht k v x hc0 h1
    obtain ⟨m1, m2, m3⟩ := mvF_ok ht k (tl x (s v).2) _ (hA.trans (Alk.set hg _)) h4 (feas_set hq hg (up := (s v).2) (by rw [hd_addF, tl_addF, cs_addF, h2]; exact hti) _)
    rw [e]
    refine ⟨m1, m2, fun u => ?_⟩
    rw [m3, net_set hg, hd_addF, tl_addF, h2]
    omega
end Go.Proofs.Ytebflkgpbbjhnaa
/- The plain law of balance: flows stay within their bounds. -/
namespace Go.Proofs.Ytebflkgpbbjhnaa
open Go.Fw Go
set_option linter.unusedVariables false
set_option linter.unusedSimpArgs false

/-- How much more flow a way bears. -/
def rsd (x : Ac) (up : Bool) : Int := if up = true then x.w - x.f else x.f + x.w
def Cap (A : List Ac) (s : Nat → Nat × Bool) (z : Int) : Nat → Nat → Prop
  | 0, _ => True
  | k + 1, v => ∀ x, A[(s v).1]? = some x → z ≤ rsd x (s v).2 ∧ Cap A s z k (tl x (s v).2)
theorem chn_arc {A : List Ac} {s : Nat → Nat × Bool} {r k j u v : Nat} (h1 : Chn A s r (k + 1) v) (h2 : Chn A s r (j + 1) u) (hj : j < k) : (s u).1 ≠ (s v).1 := by
  intro e
  have hv := h1
  have hu := h2
  obtain ⟨_, x, a1, a2, a3, a4⟩ := h1
  obtain ⟨_, y, b1, b2, b3, b4⟩ := h2
  rw [e, a1] at b1; cases b1
  by_cases hup : (s u).2 = (s v).2
  · rw [hup] at b2
    rw [a2] at b2
    subst b2
    have := chn_fun hv hu
    omega
  · have hx : tl x (s u).2 = v := by
      rw [← a2]
      cases h3 : (s u).2 <;> cases h4 : (s v).2 <;> first | exact absurd (h3.trans h4.symm) hup | rfl
    rw [hx] at b4
    have := chn_fun b4 hv
    omega
theorem mvF_bd {n : Nat} {A0 : List Ac} {s : Nat → Nat × Bool} {r : Nat} {z : Int} (hz : 0 ≤ z) : ∀ (k v : Nat) (A : List Ac), Alk A0 A → Chn A0 s r k v → (∀ x ∈ A, AcOk n x) → Cap A0 s z k v →
    (∀ j u, j < k → Chn A0 s r (j + 1) u → A[(s u).1]? = A0[(s u).1]?) → ∀ x ∈ mvF s z k v A, AcOk n x
  | 0, v, A, hA, hc, hb, hcap, hf => hb
  | k + 1, v, A, hA, hc, hb, hcap, hf => by
    have hc0 := hc
    obtain ⟨hne, x, h1, h2, h3, h4⟩ := hc
    have hAx : A[(s v).1]? = some x := (hf k v (Nat.lt_succ_self _) hc0).trans h1
    obtain ⟨c1, c2⟩ := hcap x h1
    have e : mvF s z (k + 1) v A = mvF s z k (tl x (s v).2) (A.set (s v).1 (addF x (sgn (s v).2 z))) := by
      show (match A[(s v).1]? with | some x => _ | none => _) = _
      rw [hAx]
    rw [e]
    refine mvF_bd hz k _ _ (hA.trans (Alk.set hAx _)) h4 (fun y hy => ?_) c2 (fun j u hj hu => ?_)
    · rcases List.mem_or_eq_of_mem_set hy with h | h
      · exact hb y h
      · subst h
        obtain ⟨xa, xb, d1, d2, w1, w2, f1, f2⟩ := hb x (List.mem_of_getElem? hAx)
        refine ⟨xa, xb, d1, d2, w1, w2, ?_, ?_⟩
        · show -x.w ≤ x.f + sgn (s v).2 z
          unfold rsd at c1; unfold sgn
          split <;> rename_i hh <;> simp only [hh, if_true] at c1 <;> first | omega | (rw [if_neg (by simp)] at c1; omega)
        · show x.f + sgn (s v).2 z ≤ x.w
          unfold rsd at c1; unfold sgn
          split <;> rename_i hh <;> simp only [hh, if_true] at c1 <;> first | omega | (rw [if_neg (by simp)] at c1; omega)
    · rw [List.getElem?_set_ne (chn_arc hc0 hu hj).symm]
      exact hf j u (by omega) hu
end Go.Proofs.Ytebflkgpbbjhnaa
/- The plain law of balance: costs and values. -/
namespace Go.Proofs.Ytebflkgpbbjhnaa
open Go.Fw Go
set_option linter.unusedVariables false
set_option linter.unusedSimpArgs false

/-- How far offsets are from an arc's difference. -/
def off (o : Nat → Int) (x : Ac) : Int := o x.a - o x.b - x.d
def absI (z : Int) : Int := if z < 0 then -z else z
def costA (o : Nat → Int) (A : List Ac) : Int := (A.map fun x => x.w * absI (off o x)).sum
def valA (A : List Ac) : Int := (A.map fun x => -(x.f * x.d)).sum
/-- What the offsets are worth. -/
def dotN (o g : Nat → Int) : Nat → Int
  | 0 => o 0 * g 0
  | n + 1 => dotN o g n + o (n + 1) * g (n + 1)
theorem dot_add (o g k : Nat → Int) : ∀ n, dotN o (fun v => g v + k v) n = dotN o g n + dotN o k n
  | 0 => by simp only [dotN, Int.mul_add]
  | n + 1 => by simp only [dotN, dot_add o g k n, Int.mul_add]; omega
theorem dot_zero (o : Nat → Int) : ∀ n, dotN o (fun _ => 0) n = 0
  | 0 => by simp [dotN]
  | n + 1 => by simp [dotN, dot_zero o n]
theorem dot_pt (o : Nat → Int) {a : Nat} {f : Int} : ∀ {n : Nat}, dotN o (fun v => if a = v then f else 0) n = if a ≤ n then o a * f else 0
  | 0 => by
    simp only [dotN]
    by_cases h : a = 0
    · subst h; simp
    · simp [h]
  | n + 1 => by
    show dotN o (fun v => if a = v then f else 0) n + o (n + 1) * (if a = n + 1 then f else 0) = _
    rw [dot_pt o (a := a) (f := f) (n := n)]
    by_cases h : a = n + 1
    · subst h
      have h1 : ¬ n + 1 ≤ n := by omega
      simp [h1]
    · by_cases h1 : a ≤ n
      · have h2 : a ≤ n + 1 := by omega
        simp [h, h1, h2]
      · have h2 : ¬ a ≤ n + 1 := by omega
        simp [h, h1, h2]
theorem dot_net {n : Nat} (o : Nat → Int) : ∀ {A : List Ac}, (∀ x ∈ A, AcOk n x) → dotN o (netN A) n = (A.map fun x => x.f * (o x.a - o x.b)).sum
  | [], _ => by
    have : netN [] = fun _ => 0 := rfl
    rw [this, dot_zero]; rfl
  | x :: A, h => by
    have ih := dot_net o (A := A) (fun y hy => h y (by simp [hy]))
    obtain ⟨xa, xb, _, _, _, _, _, _⟩ := h x (by simp)
    have e : netN (x :: A) = fun v => ((fun v => if x.a = v then x.f else 0) v + (fun v => if x.b = v then -x.f else 0) v) + netN A v := by
      funext v
      show ((if x.a = v then x.f else 0) - (if x.b = v then x.f else 0)) + netN A v = _
      dsimp only
      split <;> split <;> omega
    rw [e, dot_add o (fun v => (fun v => if x.a = v then x.f else 0) v + (fun v => if x.b = v then -x.f else 0) v) (netN A), ih,
      dot_add o (fun v => if x.a = v then x.f else 0) (fun v => if x.b = v then -x.f else 0), dot_pt, dot_pt, if_pos xa, if_pos xb]
    rw [List.map_cons, List.sum_cons, Int.mul_sub, Int.mul_neg, Int.mul_comm x.f, Int.mul_comm x.f]
    omega
theorem dot_null {o g : Nat → Int} : ∀ {n : Nat}, (∀ v, v ≤ n → o v * g v = 0) → dotN o g n = 0
  | 0, h => h 0 (Nat.le_refl _)
  | n + 1, h => by
    have h1 := dot_null (n := n) (fun v hv => h v (by omega))
    have h2 := h (n + 1) (Nat.le_refl _)
    simp only [dotN]; omega
theorem map_le {l : List Ac} {g k : Ac → Int} (h : ∀ x ∈ l, g x ≤ k x) : (l.map g).sum ≤ (l.map k).sum := by
  induction l with
  | nil => exact Int.le_refl _
  | cons x l ih =>
    have h1 := h x (by simp)
    have h2 := ih (fun y hy => h y (by simp [hy]))
    rw [List.map_cons, List.sum_cons, List.map_cons, List.sum_cons]
    omega
theorem map_add {l : List Ac} {g k : Ac → Int} : (l.map fun x => g x + k x).sum = (l.map g).sum + (l.map k).sum := by
  induction l with
  | nil => rfl
  | cons x l ih => simp only [List.map_cons, List.sum_cons, ih]; omega
/-- With flows that stay within the network, the value is a sum over the arcs. -/
theorem val_off {n : Nat} {A : List Ac} (hA : ∀ x ∈ A, AcOk n x) {o : Nat → Int} (h0 : ∀ v, v ≤ n → o v * netN A v = 0) : valA A = (A.map fun x => x.f * off o x).sum := by
  have h1 := dot_net o hA
  rw [dot_null h0] at h1
  have h2 : (A.map fun x => x.f * off o x) = A.map fun x => -(x.f * x.d) + x.f * (o x.a - o x.b) := by
    refine List.map_congr_left fun x _ => ?_
    unfold off
    rw [Int.mul_sub]; omega
  rw [h2, map_add, ← h1]
  unfold valA
  omega
theorem weak1 {f w z : Int} (h1 : -w ≤ f) (h2 : f ≤ w) : f * z ≤ w * absI z := by
  unfold absI
  split
  · have := Int.mul_nonneg (show 0 ≤ f + w by omega) (show 0 ≤ -z by omega)
    rw [Int.mul_neg, Int.add_mul] at this
    rw [Int.mul_neg]; omega
  · have := Int.mul_nonneg (show 0 ≤ w - f by omega) (show 0 ≤ z by omega)
    rw [Int.sub_mul] at this
    omega
theorem equal1 {f w z : Int} (h1 : -w ≤ f) (h2 : f ≤ w) (k1 : -w < f → 0 ≤ z) (k2 : f < w → z ≤ 0) : f * z = w * absI z := by
  unfold absI
  by_cases hz : z = 0
  · subst hz; simp
  · split
    · have : f = -w := by
        by_cases h : -w < f
        · have := k1 h; omega
        · omega
      rw [this, Int.neg_mul, Int.mul_neg]
    · have : f = w := by
        by_cases h : f < w
        · have := k2 h; omega
        · omega
      rw [this]
theorem weak {n : Nat} {A : List Ac} (hA : ∀ x ∈ A, AcOk n x) {o : Nat → Int} (h0 : ∀ v, v ≤ n → o v * netN A v = 0) : valA A ≤ costA o A := by
  rw [val_off hA h0]
  exact map_le fun x hx => weak1 (hA x hx).f1 (hA x hx).f2
theorem equal {n : Nat} {A : List Ac} (hA : ∀ x ∈ A, AcOk n x) {o : Nat → Int} (h0 : ∀ v, v ≤ n → o v * netN A v = 0) (hp : Feas A o) : valA A = costA o A := by
  rw [val_off hA h0]
  unfold costA
  refine congrArg List.sum (List.map_congr_left fun x hx => ?_)
  obtain ⟨k1, k2⟩ := hp x hx
  exact equal1 (hA x hx).f1 (hA x hx).f2 (fun h => by have := k1 h; unfold off; omega) (fun h => by have := k2 h; unfold off; omega)
end Go.Proofs.Ytebflkgpbbjhnaa
/- The plain law of balance: a step of Solve. -/
namespace Go.Proofs.Ytebflkgpbbjhnaa
open Go.Fw Go
set_option linter.unusedVariables false
set_option linter.unusedSimpArgs false

/-- How much can be moved along the steps. -/
def mnF (A : List Ac) (s : Nat → Nat × Bool) : Nat → Nat → Int → Int
  | 0, _, b => b
  | k + 1, v, b => match A[(s v).1]? with
    | some x => mnF A s k (tl x (s v).2) (min b (rsd x (s v).2))
    | none => b
theorem mnF_le {A : List Ac} {s : Nat → Nat × Bool} : ∀ {k v : Nat} {b : Int}, mnF A s k v b ≤ b
  | 0, v, b => Int.le_refl _
  | k + 1, v, b => by
    simp only [mnF]
    split
    · rename_i x hx
      have := mnF_le (A := A) (s := s) (k := k) (v := tl x (s v).2) (b := min b (rsd x (s v).2))
      omega
    · exact Int.le_refl _
theorem mnF_cap {A : List Ac} {s : Nat → Nat × Bool} {z : Int} : ∀ {k v : Nat} {b : Int}, z ≤ mnF A s k v b → Cap A s z k v
  | 0, v, b, _ => trivial
  | k + 1, v, b, h => by
    intro x hx
    simp only [mnF, hx] at h
    have := mnF_le (A := A) (s := s) (k := k) (v := tl x (s v).2) (b := min b (rsd x (s v).2))
    exact ⟨by omega, mnF_cap h⟩
theorem rsd_pos {x : Ac} {up : Bool} (h : Rs x up) : 1 ≤ rsd x up := by
  unfold Rs at h; unfold rsd
  split <;> rename_i hh
  · rw [if_pos hh] at h; omega
  · rw [if_neg hh] at h; omega
theorem mnF_pos {A : List Ac} {s : Nat → Nat × Bool} {r : Nat} : ∀ {k v : Nat} {b : Int}, Chn A s r k v → 1 ≤ b → 1 ≤ mnF A s k v b
  | 0, v, b, _, h => h
  | k + 1, v, b, hc, h => by
    obtain ⟨hne, x, h1, h2, h3, h4⟩ := hc
    simp only [mnF, h1]
    have := rsd_pos h3
    exact mnF_pos h4 (by omega)

/-- What holds between the moves. -/
structure J (n : Nat) (A : List Ac) : Prop where
  ok : ∀ x ∈ A, AcOk n x
  fe : ∃ p, Feas A p ∧ ∀ v, v ≤ n → 0 ≤ p v ∧ p v ≤ 65536 * (n + 1)
/-- How much is left to move. -/
def posN (A : List Ac) (n : Nat) : Nat := sumN (fun v => (netN A v).toNat) n
theorem move_ok {A : List Ac} {n r to : Nat} {p : Nat → Int} {mu : Int} {σ : Ds} (hJ : ∀ x ∈ A, AcOk n x) (hn : n ≤ 100) (hp : Feas A p) (hp0 : ∀ v, v ≤ n → 0 ≤ p v) (h : DI A n p (one0 r) mu σ) (hs : Stab A σ)
    (hr : r ≤ n) (hrp : 0 < netN A r) (ht : to ≤ n) (htl : σ.d to < far) (htn : netN A to < 0) {k : Nat} (hk : Chn A σ.s r k to) {by' : Int} (hby : by' = mnF A σ.s k to (min (netN A r) (-netN A to))) :
    J n (mvF σ.s by' k to A) ∧ posN (mvF σ.s by' k to A) n < posN A n ∧ Alk A (mvF σ.s by' k to A) := by
  have h1 : 1 ≤ by' := by rw [hby]; exact mnF_pos hk (by omega)
  have h2 : by' ≤ min (netN A r) (-netN A to) := by rw [hby]; exact mnF_le
  have hcap : Cap A σ.s by' k to := mnF_cap (b := min (netN A r) (-netN A to)) (by rw [hby]; exact Int.le_refl _)
  have hfn := feas_new h hJ hp hp0 hn hs
  have htight : ∀ k v x, Chn A σ.s r (k + 1) v → A[(σ.s v).1]? = some x → newP p σ.d v = newP p σ.d (tl x (σ.s v).2) + cs x (σ.s v).2 := by
    intro k v x hc hx
    obtain ⟨hne, y, a1, a2, a3, a4⟩ := hc
    rw [hx] at a1; cases a1
    have hxm := List.mem_of_getElem? hx
    have hv : v ≤ n := by rw [← a2]; exact hd_le (hJ x hxm) _
    -- all nodes of a way are reached
    have hreach : ∀ (k v : Nat), v ≤ n → Chn A σ.s r k v → σ.d v < far := by
      intro k
      induction k with
      | zero =>
        intro v hv hc
        have hc : v = r := hc
        subst hc
        have := h.dec _ hv
        have h0 : one0 v v = 0 := if_pos rfl
        have hfar : far = 1125899906842624 := rfl
        omega
      | succ k ih =>
        intro v hv hc
        obtain ⟨hne, y, a1, a2, a3, a4⟩ := hc
        have hym := List.mem_of_getElem? a1
        have hl := ih _ (tl_le (hJ y hym) _) a4
        have := stab_reach hs hym a3 hl
        have h5 := h.upp _ (tl_le (hJ y hym) _) hl
        have h6 := (cs_bd (hJ y hym) (σ.s v).2).2
        have h7 := cnt_le σ.d n
        have hfar : far = 1125899906842624 := rfl
        rw [a2] at this
        omega
    have hl := hreach _ _ (tl_le (hJ x hxm) _) a4
    have hlv := hreach (k + 1) v hv ⟨hne, x, hx, a2, a3, a4⟩
    have hnd : σ.d v ≠ one0 r v := by
      have : one0 r v = far := if_neg hne
      omega
    obtain ⟨y, b1, b2, b3, b4, b5⟩ := h.tight hs hv hnd
    rw [hx] at b1; cases b1
    unfold newP
    rw [if_pos hlv, if_pos hl]
    exact b5.symm
  obtain ⟨m1, m2, m3⟩ := mvF_ok (z := by') htight k to A (Alk.refl A) hk hfn
  have m4 := mvF_bd (n := n) (z := by') (by omega) k to A (Alk.refl A) hk hJ hcap (fun _ _ _ _ => rfl)
  obtain ⟨q, hq1, hq2⟩ := feas_small m4 m1
  have hne : to ≠ r := fun e => by rw [e] at htn; omega
  refine ⟨⟨m4, q, hq1, hq2⟩, ?_, m2⟩
  refine sumN_lt hr (fun u hu => ?_) ?_
  · show (netN (mvF σ.s by' k to A) u).toNat ≤ (netN A u).toNat
    rw [m3]
    by_cases e1 : to = u
    · by_cases e2 : r = u
      · exact absurd (e1.trans e2.symm) hne
      · subst e1; rw [if_pos rfl, if_neg e2]; omega
    · rw [if_neg e1]; split <;> omega
  · show (netN (mvF σ.s by' k to A) r).toNat < (netN A r).toNat
    rw [m3, if_neg hne, if_pos rfl]
    omega
/-- The flows at the start. -/
def flow0 (d w : Int) : Int := if 0 < d then -w else if d < 0 then w else 0
theorem start_J {n : Nat} {A : List Ac} (h : ∀ x ∈ A, x.a ≤ n ∧ x.b ≤ n ∧ -65535 ≤ x.d ∧ x.d ≤ 65535 ∧ 1 ≤ x.w ∧ x.w ≤ 65536 ∧ x.f = flow0 x.d x.w) : J n A := by
  refine ⟨fun x hx => ?_, fun _ => 0, fun x hx => ?_, fun v _ => ⟨Int.le_refl _, by dsimp only; omega⟩⟩
  · obtain ⟨a, b, d1, d2, w1, w2, f⟩ := h x hx
    unfold flow0 at f
    refine ⟨a, b, d1, d2, w1, w2, ?_, ?_⟩ <;> split at f <;> (try split at f) <;> omega
  · obtain ⟨a, b, d1, d2, w1, w2, f⟩ := h x hx
    unfold flow0 at f
    constructor <;> intro hf <;> dsimp only <;> split at f <;> (try split at f) <;> omega
/-- Nothing is left to move: all sums are zero. -/
theorem net_zero {n : Nat} {A : List Ac} (hA : ∀ x ∈ A, AcOk n x) (h : ∀ v, v ≤ n → netN A v ≤ 0) : ∀ v, v ≤ n → netN A v = 0 := by
  have h0 : sumS (netN A) (fun _ => true) n = 0 := by
    rw [sumS_net hA]
    have : A.map (outS fun _ => true) = A.map fun _ => 0 := by
      refine List.map_congr_left fun x _ => ?_
      unfold outS; simp
    rw [this]
    clear this h hA
    induction A with
    | nil => rfl
    | cons x A ih => rw [List.map_cons, List.sum_cons, ih]; rfl
  have key : ∀ m, m ≤ n → sumS (netN A) (fun _ => true) m ≤ 0 ∧ (sumS (netN A) (fun _ => true) m = 0 → ∀ v, v ≤ m → netN A v = 0) := by
    intro m
    induction m with
    | zero =>
      intro hm
      have := h 0 hm
      simp only [sumS, if_true]
      refine ⟨this, fun e v hv => ?_⟩
      have : v = 0 := by omega
      rw [this]; exact e
    | succ m ih =>
      intro hm
      obtain ⟨i1, i2⟩ := ih (by omega)
      have := h (m + 1) hm
      simp only [sumS, if_true]
      refine ⟨by omega, fun e v hv => ?_⟩
      by_cases hv2 : v = m + 1
      · rw [hv2]; omega
      · exact i2 (by omega) v (by omega)
  exact (key n (Nat.le_refl _)).2 h0
end Go.Proofs.Ytebflkgpbbjhnaa
/- The walks of balance: rows of structs. -/
namespace Go.Proofs.Ytebflkgpbbjhnaa
open Go.Fw Go
set_option linter.unusedVariables false
set_option linter.unusedSimpArgs false

/-- Cells of a list, k for each element. -/
def fL {α : Type} (f : α → List AV) (l : List α) : List AV := l.flatMap f
section flat
variable {α : Type} {f : α → List AV} {k : Nat} (hk : ∀ a, (f a).length = k)
include hk
theorem fL_len (l : List α) : (fL f l).length = l.length * k := by
  induction l with
  | nil => simp [fL]
  | cons a l ih => simp only [fL, List.flatMap_cons, List.length_append, List.length_cons] at ih ⊢; rw [ih, hk, Nat.succ_mul]; omega
theorem fL_drop (l : List α) : ∀ i, (fL f l).drop (i * k) = fL f (l.drop i) := by
  induction l with
  | nil => intro i; simp [fL]
  | cons a l ih =>
    intro i
    cases i with
    | zero => simp
    | succ i =>
      have h1 : (i + 1) * k = (f a).length + i * k := by rw [hk, Nat.succ_mul]; omega
      have h2 : fL f (a :: l) = f a ++ fL f l := rfl
      rw [h1, h2, List.drop_append, List.drop_of_length_le (by omega), List.nil_append, Nat.add_sub_cancel_left]
      exact ih i
theorem fL_take (l : List α) : ∀ i, (fL f l).take (i * k) = fL f (l.take i) := by
  induction l with
  | nil => intro i; simp [fL]
  | cons a l ih =>
    intro i
    cases i with
    | zero => simp [fL]
    | succ i =>
      have h1 : (i + 1) * k = (f a).length + i * k := by rw [hk, Nat.succ_mul]; omega
      have h2 : fL f (a :: l) = f a ++ fL f l := rfl
      rw [h1, h2, List.take_append, List.take_of_length_le (by omega), Nat.add_sub_cancel_left, ih i]
      rfl
theorem fL_seg {l : List α} {i : Nat} {a : α} (h : l[i]? = some a) : ((fL f l).drop (i * k)).take k = f a := by
  obtain ⟨hi, rfl⟩ := List.getElem?_eq_some_iff.1 h
  rw [fL_drop hk, List.drop_eq_getElem_cons hi]
  show (f l[i] ++ fL f (l.drop (i + 1))).take k = _
  rw [List.take_append, List.take_of_length_le (by rw [hk]; omega), hk, Nat.sub_self]
  simp
theorem fL_get {l : List α} {i : Nat} {a : α} (h : l[i]? = some a) {j : Nat} (hj : j < k) : (fL f l)[i * k + j]? = (f a)[j]? := by
  rw [← fL_seg hk h, List.getElem?_take_of_lt hj, List.getElem?_drop]
theorem fL_wr {l : List α} {i : Nat} (h : i < l.length) {b : α} : wrA (fL f l) (i * k) (f b) = fL f (l.set i b) := by
  unfold wrA
  rw [fL_take hk, hk, show i * k + k = (i + 1) * k by rw [Nat.succ_mul], fL_drop hk, List.set_eq_take_append_cons_drop, if_pos h]
  unfold fL
  rw [List.flatMap_append, List.flatMap_cons, List.append_assoc]
theorem fL_wr1 {l : List α} {i : Nat} {a b : α} (h : l[i]? = some a) {j : Nat} {x : AV} (hj : j < k) (hb : f b = (f a).set j x) : wrA (fL f l) (i * k + j) [x] = fL f (l.set i b) := by
  obtain ⟨hi, he⟩ := List.getElem?_eq_some_iff.1 h
  rw [← fL_wr hk hi, hb]
  have hl := fL_len hk l
  have hik : i * k + k ≤ l.length * k := by rw [← Nat.succ_mul]; exact Nat.mul_le_mul_right k hi
  have hkl : j < (f a).length := by rw [hk]; exact hj
  unfold wrA
  rw [List.set_eq_take_append_cons_drop, if_pos hkl]
  have hs := fL_seg hk h
  have e1 : (fL f l).take (i * k + j) = (fL f l).take (i * k) ++ (f a).take j := by
    rw [← hs, List.take_take, Nat.min_eq_left (by omega), List.take_add]
  have e2 : (fL f l).drop (i * k + j + 1) = (f a).drop (j + 1) ++ (fL f l).drop (i * k + k) := by
    rw [← hs]
    apply List.ext_getElem?
    intro m
    rw [List.getElem?_drop, List.getElem?_append]
    simp only [List.length_drop, List.length_take, hl]
    split
    · rw [List.getElem?_drop, List.getElem?_take_of_lt (by omega), List.getElem?_drop]
      congr 1; omega
    · rw [List.getElem?_drop]; congr 1; omega
  have hlen : ((f a).take j ++ x :: (f a).drop (j + 1)).length = k := by simp [hk]; omega
  rw [hlen, show [x].length = 1 from rfl, e1, e2]
  simp only [List.append_assoc, List.cons_append, List.nil_append]
end flat
theorem fL_snoc {α : Type} (f : α → List AV) (l : List α) (a : α) : fL f l ++ f a = fL f (l ++ [a]) := by simp [fL]
theorem fL_one {α : Type} {f : α → List AV} (h : ∀ a, (f a).all one = true) (l : List α) : (fL f l).all one = true := by
  induction l with
  | nil => rfl
  | cons a l ih => show (f a ++ fL f l).all one = true; rw [List.all_append, h a, ih]; rfl
theorem fL_rep {α : Type} (f : α → List AV) (a : α) (n : Nat) : (List.replicate n (f a)).flatten = fL f (List.replicate n a) := by
  induction n with
  | zero => rfl
  | succ n ih => rw [List.replicate_succ, List.flatten_cons, ih, List.replicate_succ]; rfl

/-- A list of a function. -/
def fnL {β : Type} (n : Nat) (g : Nat → β) : List β := (List.range n).map g
@[simp] theorem fnL_len {β : Type} (n : Nat) (g : Nat → β) : (fnL n g).length = n := by simp [fnL]
theorem fnL_get {β : Type} {n i : Nat} (g : Nat → β) (h : i < n) : (fnL n g)[i]? = some (g i) := by simp [fnL, h]
theorem fnL_set {β : Type} {n i : Nat} (g : Nat → β) (x : β) : (fnL n g).set i x = fnL n (fun u => if u = i then x else g u) := by
  apply List.ext_getElem?
  intro j
  rw [List.getElem?_set]
  by_cases hj : j < n
  · by_cases e : i = j
    · subst e; simp [fnL, hj]
    · rw [if_neg e, fnL_get _ hj, fnL_get _ hj, if_neg (Ne.symm e)]
  · have e2 : (fnL n g)[j]? = none := List.getElem?_eq_none (by simp; omega)
    have e3 : (fnL n (fun u => if u = i then x else g u))[j]? = none := List.getElem?_eq_none (by simp; omega)
    rw [e2, e3]; split
    · rename_i e; subst e; simp [hj]
    · rfl
theorem fnL_congr {β : Type} {n : Nat} {g k : Nat → β} (h : ∀ i, i < n → g i = k i) : fnL n g = fnL n k := by
  unfold fnL; exact List.map_congr_left fun i hi => h i (by simpa using hi)
theorem fnL_rep {β : Type} (n : Nat) (x : β) : List.replicate n x = fnL n fun _ => x := by
  apply List.ext_getElem?
  intro j
  by_cases hj : j < n
  · rw [fnL_get _ hj]; simp [hj]
  · rw [List.getElem?_eq_none (by simp; omega), List.getElem?_eq_none (by simp; omega)]
theorem fnL_snoc {β : Type} (n : Nat) (g : Nat → β) : fnL (n + 1) g = fnL n g ++ [g n] := by simp [fnL, List.range_succ]

/-- Numbers of a function. -/
def dL (n : Nat) (d : Nat → Int) : List AV := iS .i64 (fnL n d)
@[simp] theorem dL_len (n : Nat) (d : Nat → Int) : (dL n d).length = n := by simp [dL]
theorem dL_get {n i : Nat} (d : Nat → Int) (h : i < n) : (dL n d)[i]? = some (.int .i64 (d i)) := by
  unfold dL iS; rw [List.getElem?_map, fnL_get d h]; rfl
theorem iS_wr1 {a : List Int} {k : Nat} {v : Int} (h : k < a.length) : wrA (iS .i64 a) k [.int .i64 v] = iS .i64 (a.set k v) := by
  unfold wrA
  rw [List.set_eq_take_append_cons_drop, if_pos h]
  simp [iS, List.map_take, List.map_drop]
theorem dL_wr {n i : Nat} (d : Nat → Int) (h : i < n) (x : Int) : wrA (dL n d) i [.int .i64 x] = dL n (putD d i x) := by
  unfold dL
  rw [iS_wr1 (by simpa using h), fnL_set]; rfl
theorem dL_zero (n : Nat) : (List.replicate n [AV.int .i64 0]).flatten = dL n fun _ => 0 := by
  have : (List.replicate n [AV.int .i64 0]).flatten = List.replicate n (AV.int .i64 0) := by
    induction n with
    | zero => rfl
    | succ n ih => rw [List.replicate_succ, List.flatten_cons, ih, List.replicate_succ]; rfl
  rw [this]
  unfold dL iS
  rw [← fnL_rep, List.map_replicate]

/-- Arcs. -/
def acA (x : Ac) : List AV := [.int .i64 x.a, .int .i64 x.b, .int .i64 x.d, .int .i64 x.w, .int .i64 x.f]
theorem acA_len (x : Ac) : (acA x).length = 5 := rfl
def acL (A : List Ac) : List AV := fL acA A
@[simp] theorem acL_len (A : List Ac) : (acL A).length = A.length * 5 := fL_len acA_len A
theorem acL_seg {A : List Ac} {i : Nat} {x : Ac} (h : A[i]? = some x) : ((acL A).drop (i * 5)).take 5 = acA x := fL_seg acA_len h
theorem acL_segZ {A : List Ac} {i : Nat} {x : Ac} (h : A[i]? = some x) : ((acL A).drop (0 + (i : Int).toNat * 5)).take 5 = acA x := by
  rw [Nat.zero_add]; exact acL_seg h
theorem acL_get {A : List Ac} {i : Nat} {x : Ac} (h : A[i]? = some x) (j : Nat) (hj : j < 5) : (acL A)[i * 5 + j]? = (acA x)[j]? := fL_get acA_len h hj
theorem acL_one (A : List Ac) : (acL A).all one = true := fL_one (fun _ => rfl) A
theorem acL_wrF {A : List Ac} {i : Nat} {x : Ac} (h : A[i]? = some x) (z : Int) : wrA (acL A) (i * 5 + 4) [.int .i64 z] = acL (A.set i ⟨x.a, x.b, x.d, x.w, z⟩) := fL_wr1 acA_len h (by decide) rfl

/-- Steps. -/
def stA (p : Nat × Bool) : List AV := [.int .i64 p.1, .bool p.2]
theorem stA_len (p : Nat × Bool) : (stA p).length = 2 := rfl
def stL (n : Nat) (s : Nat → Nat × Bool) : List AV := fL stA (fnL n s)
@[simp] theorem stL_len (n : Nat) (s : Nat → Nat × Bool) : (stL n s).length = n * 2 := by unfold stL; rw [fL_len stA_len, fnL_len]
theorem stL_seg {n i : Nat} (s : Nat → Nat × Bool) (h : i < n) : ((stL n s).drop (i * 2)).take 2 = stA (s i) := fL_seg stA_len (fnL_get s h)
theorem stL_segZ {n i : Nat} (s : Nat → Nat × Bool) (h : i < n) : ((stL n s).drop (0 + (i : Int).toNat * 2)).take 2 = stA (s i) := by
  rw [Nat.zero_add]; exact stL_seg s h
theorem stL_one (n : Nat) (s : Nat → Nat × Bool) : (stL n s).all one = true := fL_one (fun _ => rfl) _
theorem stL_wr {n i : Nat} (s : Nat → Nat × Bool) (h : i < n) (x : Nat × Bool) : wrA (stL n s) (i * 2) (stA x) = stL n (putS' s i x) := by
  unfold stL
  rw [fL_wr stA_len (by simpa using h), fnL_set]; rfl
theorem stL_zero (n : Nat) : (List.replicate n [AV.int .i64 0, AV.bool false]).flatten = stL n fun _ => (0, false) := by
  have := fL_rep stA (0, false) n
  unfold stL
  rw [← fnL_rep, ← this]; rfl
end Go.Proofs.Ytebflkgpbbjhnaa
/- The walks of balance: small functions. -/
namespace Go.Proofs.Ytebflkgpbbjhnaa
open Go.Fw Go
set_option linter.unusedVariables false
set_option linter.unusedSimpArgs false

structure Ed where
  a : Int
  b : Int
  d : Int
  w : Int
structure Fx where
  a : Int
  v : Int
  w : Int
def edA (x : Ed) : List AV := [.int .i64 x.a, .int .i64 x.b, .int .i64 x.d, .int .i64 x.w]
def fxA (x : Fx) : List AV := [.int .i64 x.a, .int .i64 x.v, .int .i64 x.w]
theorem edA_len (x : Ed) : (edA x).length = 4 := rfl
theorem fxA_len (x : Fx) : (fxA x).length = 3 := rfl
def edL (l : List Ed) : List AV := fL edA l
def fxL (l : List Fx) : List AV := fL fxA l
@[simp] theorem edL_len (l : List Ed) : (edL l).length = l.length * 4 := fL_len edA_len l
@[simp] theorem fxL_len (l : List Fx) : (fxL l).length = l.length * 3 := fL_len fxA_len l
theorem edL_seg {l : List Ed} {i : Nat} {x : Ed} (h : l[i]? = some x) : ((edL l).drop (i * 4)).take 4 = edA x := fL_seg edA_len h
theorem fxL_seg {l : List Fx} {i : Nat} {x : Fx} (h : l[i]? = some x) : ((fxL l).drop (i * 3)).take 3 = fxA x := fL_seg fxA_len h
theorem edL_one (l : List Ed) : (edL l).all one = true := fL_one (fun _ => rfl) l
theorem fxL_one (l : List Fx) : (fxL l).all one = true := fL_one (fun _ => rfl) l
/-- A problem that is valid. -/
def vE (n : Int) (x : Ed) : Prop := (0 ≤ x.a ∧ x.a < n) ∧ (0 ≤ x.b ∧ x.b < n) ∧ x.a ≠ x.b ∧ (-65535 ≤ x.d ∧ x.d ≤ 65535) ∧ (1 ≤ x.w ∧ x.w ≤ 65536)
def vF (n : Int) (x : Fx) : Prop := (0 ≤ x.a ∧ x.a < n) ∧ (-65535 ≤ x.v ∧ x.v ≤ 65535) ∧ (1 ≤ x.w ∧ x.w ≤ 65536)
instance (n : Int) (x : Ed) : Decidable (vE n x) := by unfold vE; exact inferInstance
instance (n : Int) (x : Fx) : Decidable (vF n x) := by unfold vF; exact inferInstance
def validV (n : Int) (es : List Ed) (fs : List Fx) : Int :=
  if n < 0 ∨ 64 < n then 1 else if 8192 < es.length ∨ 8192 < fs.length then 4 else if (∀ x ∈ es, vE n x) ∧ (∀ x ∈ fs, vF n x) then 0 else 1
set_option maxRecDepth 8000 in
theorem babs_c (x : Int) (hx : -9223372036854775807 ≤ x ∧ x ≤ 9223372036854775807) (H : AH) : ACall Try.prog 50 [.int .i64 x] H (fun y H' => y = .int .i64 (absI x) ∧ H' = H) := by
  unfold absI
  by_cases h : x < 0
  · rw [if_pos h]
    refine ACall_of tt_ok (dok _) Try.func50 rfl (by decide) rfl ?_
    (repeat' ((conv => whnf); first | refine Then.mk ?_ | refine OpsA.cons ?_ | refine OpsA.nil ?_ | refine AWq.seq ?_ | refine AWq.region ?_ | refine AWq.ret ?_ | (intro c hc; (try (simp only [AH.none_iff] at hc; repeat (have hn := hc.1; replace hc := hc.2))); (first | (refine i64_k hc ?_ ?_ ?_ ; omega; omega; (clear hc; intro hc; subst hc)) | subst hc)) | (apply And.intro; (first | rfl | (simp <;> omega))))) <;> (try (conv => whnf))
  · rw [if_neg h]
    refine ACall_of tt_ok (dok _) Try.func50 rfl (by decide) rfl ?_
    (repeat' ((conv => whnf); first | refine Then.mk ?_ | refine OpsA.cons ?_ | refine OpsA.nil ?_ | refine AWq.seq ?_ | refine AWq.region ?_ | refine AWq.ret ?_ | (intro c hc; (try (simp only [AH.none_iff] at hc; repeat (have hn := hc.1; replace hc := hc.2))); (first | (refine i64_k hc ?_ ?_ ?_ ; omega; omega; (clear hc; intro hc; subst hc)) | subst hc)) | (apply And.intro; (first | rfl | (simp <;> omega))))) <;> (try (conv => whnf))

set_option maxRecDepth 8000 in
theorem sol1_c (x : Int) (H : AH) : ACall Try.prog 39 [.int .i64 x] H (fun y H' => y = .bool (decide (0 < x)) ∧ H' = H) := by
  by_cases h : 0 < x
  · rw [decide_eq_true h]
    refine ACall_of tt_ok (dok _) Try.func39 rfl (by decide) rfl ?_
    (repeat' ((conv => whnf); first | refine Then.mk ?_ | refine OpsA.cons ?_ | refine OpsA.nil ?_ | refine AWq.seq ?_ | refine AWq.region ?_ | refine AWq.ret ?_ | (refine Both.mk ?_ ?_ <;> intro hc <;> (first | exact absurd (by assumption) hc | exact absurd hc (by assumption) | skip)) | (apply And.intro; (first | rfl)))) <;> (try (conv => whnf))
  · rw [decide_eq_false h]
    refine ACall_of tt_ok (dok _) Try.func39 rfl (by decide) rfl ?_
    (repeat' ((conv => whnf); first | refine Then.mk ?_ | refine OpsA.cons ?_ | refine OpsA.nil ?_ | refine AWq.seq ?_ | refine AWq.region ?_ | refine AWq.ret ?_ | (refine Both.mk ?_ ?_ <;> intro hc <;> (first | exact absurd (by assumption) hc | exact absurd hc (by assumption) | skip)) | (apply And.intro; (first | rfl)))) <;> (try (conv => whnf))
set_option maxRecDepth 8000 in
theorem chk1_c (x : Int) (H : AH) : ACall Try.prog 48 [.int .i64 x] H (fun y H' => y = .bool (decide (x ≠ 0)) ∧ H' = H) := by
  by_cases h : x ≠ 0
  · rw [decide_eq_true h]
    refine ACall_of tt_ok (dok _) Try.func48 rfl (by decide) rfl ?_
    (repeat' ((conv => whnf); first | refine Then.mk ?_ | refine OpsA.cons ?_ | refine OpsA.nil ?_ | refine AWq.seq ?_ | refine AWq.region ?_ | refine AWq.ret ?_ | (refine Both.mk ?_ ?_ <;> intro hc <;> (first | exact absurd (by assumption) hc | exact absurd hc (by assumption) | skip)) | (apply And.intro; (first | rfl)))) <;> (try (conv => whnf))
  · rw [decide_eq_false h]
    refine ACall_of tt_ok (dok _) Try.func48 rfl (by decide) rfl ?_
    (repeat' ((conv => whnf); first | refine Then.mk ?_ | refine OpsA.cons ?_ | refine OpsA.nil ?_ | refine AWq.seq ?_ | refine AWq.region ?_ | refine AWq.ret ?_ | (refine Both.mk ?_ ?_ <;> intro hc <;> (first | exact absurd (by assumption) hc | exact absurd hc (by assumption) | skip)) | (apply And.intro; (first | rfl)))) <;> (try (conv => whnf))
set_option maxRecDepth 8000 in
theorem wit1_c (m x : Int) (hm : 0 ≤ m ∧ m ≤ 4611686018427387904) (c : Nat) (H : AH) (hc : H c = some (.row [.int .i64 m] 0)) :
    ACall Try.prog 73 [.int .i64 x, .ptr c 0 0] H (fun y H' => y = .bool (!decide (-m ≤ x ∧ x ≤ m)) ∧ H' = H) := by
  by_cases h : -m ≤ x ∧ x ≤ m
  · rw [decide_eq_true h]
    refine ACall_of tt_ok (dok _) Try.func73 rfl (by decide) rfl ?_
    (repeat' ((conv => whnf); first | refine Then.mk ?_ | refine OpsA.cons ?_ | refine OpsA.nil ?_ | refine AWq.seq ?_ | refine AWq.region ?_ | refine AWq.ret ?_ | (refine Both.mk ?_ ?_ <;> intro hc <;> (first | (exfalso; omega) | skip)) | (intro c hc; (try (simp only [AH.none_iff] at hc; repeat (have hn := hc.1; replace hc := hc.2))); (first | (refine i64_k hc ?_ ?_ ?_ ; omega; omega; (clear hc; intro hc; subst hc)) | skip)) | (apply Exists.intro; apply And.intro; (first | (focus (repeat (first | (with_reducible assumption))); done))) | (apply Exists.intro; apply And.intro; first | (with_reducible assumption) | ((try simp only [List.getElem?_drop, Nat.mul_one, Nat.add_zero, Nat.zero_add]); first | (with_reducible assumption) | rfl)) | (apply And.intro; (first | rfl | (with_reducible assumption))))) <;> (try (conv => whnf))
  · rw [decide_eq_false h]
    refine ACall_of tt_ok (dok _) Try.func73 rfl (by decide) rfl ?_
    (repeat' ((conv => whnf); first | refine Then.mk ?_ | refine OpsA.cons ?_ | refine OpsA.nil ?_ | refine AWq.seq ?_ | refine AWq.region ?_ | refine AWq.ret ?_ | (refine Both.mk ?_ ?_ <;> intro hc <;> (first | (exfalso; omega) | skip)) | (intro c hc; (try (simp only [AH.none_iff] at hc; repeat (have hn := hc.1; replace hc := hc.2))); (first | (refine i64_k hc ?_ ?_ ?_ ; omega; omega; (clear hc; intro hc; subst hc)) | skip)) | (apply Exists.intro; apply And.intro; (first | (focus (repeat (first | (with_reducible assumption))); done))) | (apply Exists.intro; apply And.intro; first | (with_reducible assumption) | ((try simp only [List.getElem?_drop, Nat.mul_one, Nat.add_zero, Nat.zero_add]); first | (with_reducible assumption) | rfl)) | (apply And.intro; (first | rfl | (with_reducible assumption))))) <;> (try (conv => whnf))
/-- The first number with a property. -/
def fstI (q : Int → Bool) (l : List Int) (k : Int) : Prop := (k = -1 ∧ ∀ x ∈ l, q x = false) ∨ ∃ i, i < l.length ∧ k = i ∧ q (l.getD i 0) = true
set_option maxRecDepth 8000 in
theorem index0_c (q : Int → Bool) (g : Nat) (l : List Int) (hl : l.length ≤ 1000000000) (H : AH) (hf : ∀ x, x ∈ l → ACall Try.prog g [.int .i64 x] H (fun y H' => y = .bool (q x) ∧ H' = H)) :
    ACall Try.prog 38 [.cs (iS .i64 l) l.length, .fn (.func g) [] []] H (fun y H' => ∃ k : Int, fstI q l k ∧ y = .int .i64 k ∧ H' = H) := by
  refine ACall_of tt_ok (dok _) Try.func38 rfl (by decide) rfl ?_
  (repeat' ((conv => whnf); first | refine Then.mk ?_ | refine OpsA.cons ?_ | refine OpsA.nil ?_ | refine AWq.seq ?_ | refine AWq.region ?_ | refine AWq.cond ?_ | refine AWq.block ?_ | refine AWq.skip ?_ | refine AWq.ret ?_ | refine AWq.exit ?_ | refine AWq.loop ?_ | (refine Both.mk ?_ ?_ <;> intro hc <;> (first | exact Bool.noConfusion hc | (exfalso; omega) | skip)) | (intro c hc; (try (simp only [AH.none_iff] at hc; repeat (have hn := hc.1; replace hc := hc.2))); (first | (refine i64_k hc ?_ ?_ ?_ ; omega; omega; (clear hc; intro hc; subst hc)) | skip)) | (apply Exists.intro; apply And.intro; first | (with_reducible assumption) | ((try simp only [List.getElem?_drop, Nat.mul_one, Nat.add_zero, Nat.zero_add]); first | (with_reducible assumption) | rfl)) | (apply And.intro; (first | rfl | (with_reducible assumption) | omega)))) <;> (try (conv => whnf))
  refine AWp_loop (σ := Nat) (4 :: 5 :: 8 :: 9 :: 10 :: 11 :: 12 :: 13 :: 14 :: 15 :: 16 :: 17 :: 18 :: []) (fun i => [(8, .int .i64 i)]) (fun _ => H) (fun i => i ≤ l.length ∧ ∀ x ∈ l.take i, q x = false) (fun i => l.length - i) 0 rfl ⟨Nat.zero_le _, fun x hx => by simp at hx⟩ ⟨rfl, trivial⟩ (HLe.refl _) ?_
  rintro i ⟨hi, hin⟩
  refine AWp.of tt_ok (dok _) rfl ?_
  have hil : (iS .i64 l).length = l.length := by simp
  by_cases h : i < l.length
  · have hg : (iS .i64 l)[(i : Int).toNat]? = some (.int .i64 (l.getD i 0)) := iS_get h
    have hmem : l.getD i 0 ∈ l := by rw [List.getD_eq_getElem?_getD, List.getElem?_eq_getElem h]; exact List.getElem_mem h
    have hs := hf _ hmem
    have htk : l.take (i + 1) = l.take i ++ [l.getD i 0] := by
      rw [List.take_add_one, List.getElem?_eq_getElem h, List.getD_eq_getElem?_getD, List.getElem?_eq_getElem h]; rfl
    cases hb : q (l.getD i 0) with
    | true =>
      rw [hb] at hs
      (repeat' ((conv => whnf); first | refine Then.mk ?_ | refine OpsA.cons ?_ | refine OpsA.nil ?_ | refine AWq.seq ?_ | refine AWq.region ?_ | refine AWq.cond ?_ | refine AWq.block ?_ | refine AWq.skip ?_ | refine AWq.ret ?_ | refine AWq.exit ?_ | refine AWq.loop ?_ | (refine Both.mk ?_ ?_ <;> intro hc <;> (first | exact Bool.noConfusion hc | (exfalso; omega) | skip)) | (intro c hc; (try (simp only [AH.none_iff] at hc; repeat (have hn := hc.1; replace hc := hc.2))); (first | (refine i64_k hc ?_ ?_ ?_ ; omega; omega; (clear hc; intro hc; subst hc)) | skip)) | (apply Exists.intro; apply And.intro; first | (with_reducible assumption) | ((try simp only [List.getElem?_drop, Nat.mul_one, Nat.add_zero, Nat.zero_add]); first | (with_reducible assumption) | rfl)) | (apply And.intro; (first | rfl | (with_reducible assumption) | omega)) | (refine ACall.to (hs) ?_))) <;> (try (conv => whnf))
      exact ⟨i, .inr ⟨i, h, rfl, hb⟩, rfl, rfl⟩
    | false =>
      rw [hb] at hs
      (repeat' ((conv => whnf); first | refine Then.mk ?_ | refine OpsA.cons ?_ | refine OpsA.nil ?_ | refine AWq.seq ?_ | refine AWq.region ?_ | refine AWq.cond ?_ | refine AWq.block ?_ | refine AWq.skip ?_ | refine AWq.ret ?_ | refine AWq.exit ?_ | refine AWq.loop ?_ | (refine Both.mk ?_ ?_ <;> intro hc <;> (first | exact Bool.noConfusion hc | (exfalso; omega) | skip)) | (intro c hc; (try (simp only [AH.none_iff] at hc; repeat (have hn := hc.1; replace hc := hc.2))); (first | (refine i64_k hc ?_ ?_ ?_ ; omega; omega; (clear hc; intro hc; subst hc)) | skip)) | (apply Exists.intro; apply And.intro; first | (with_reducible assumption) | ((try simp only [List.getElem?_drop, Nat.mul_one, Nat.add_zero, Nat.zero_add]); first | (with_reducible assumption) | rfl)) | (apply And.intro; (first | rfl | (with_reducible assumption) | omega)) | (refine ACall.to (hs) ?_))) <;> (try (conv => whnf))
      refine ⟨i + 1, ⟨by omega, fun x hx => ?_⟩, by omega, ⟨congrArg (AV.int .i64) (by omega), trivial⟩, HLe.refl _⟩
      rw [htk] at hx
      rcases List.mem_append.1 hx with hx | hx
      · exact hin x hx
      · rw [List.mem_singleton.1 hx]; exact hb
  · (repeat' ((conv => whnf); first | refine Then.mk ?_ | refine OpsA.cons ?_ | refine OpsA.nil ?_ | refine AWq.seq ?_ | refine AWq.region ?_ | refine AWq.cond ?_ | refine AWq.block ?_ | refine AWq.skip ?_ | refine AWq.ret ?_ | refine AWq.exit ?_ | refine AWq.loop ?_ | (refine Both.mk ?_ ?_ <;> intro hc <;> (first | exact Bool.noConfusion hc | (exfalso; omega) | skip)) | (intro c hc; (try (simp only [AH.none_iff] at hc; repeat (have hn := hc.1; replace hc := hc.2))); (first | (refine i64_k hc ?_ ?_ ?_ ; omega; omega; (clear hc; intro hc; subst hc)) | skip)) | (apply Exists.intro; apply And.intro; first | (with_reducible assumption) | ((try simp only [List.getElem?_drop, Nat.mul_one, Nat.add_zero, Nat.zero_add]); first | (with_reducible assumption) | rfl)) | (apply And.intro; (first | rfl | (with_reducible assumption) | omega)))) <;> (try (conv => whnf))
    have hie : i = l.length := by omega
    rw [hie, List.take_of_length_le (Nat.le_refl _)] at hin
    exact ⟨-1, .inl ⟨rfl, hin⟩, rfl, rfl⟩
set_option maxRecDepth 8000 in
theorem index1_c (q : Int → Bool) (g c : Nat) (l : List Int) (hl : l.length ≤ 1000000000) (H : AH) (hf : ∀ x, x ∈ l → ACall Try.prog g [.int .i64 x, .ptr c 0 0] H (fun y H' => y = .bool (q x) ∧ H' = H)) :
    ACall Try.prog 38 [.cs (iS .i64 l) l.length, .fn (.func g) [] [.ptr c 0 0]] H (fun y H' => ∃ k : Int, fstI q l k ∧ y = .int .i64 k ∧ H' = H) := by
  refine ACall_of tt_ok (dok _) Try.func38 rfl (by decide) rfl ?_
  (repeat' ((conv => whnf); first | refine Then.mk ?_ | refine OpsA.cons ?_ | refine OpsA.nil ?_ | refine AWq.seq ?_ | refine AWq.region ?_ | refine AWq.cond ?_ | refine AWq.block ?_ | refine AWq.skip ?_ | refine AWq.ret ?_ | refine AWq.exit ?_ | refine AWq.loop ?_ | (refine Both.mk ?_ ?_ <;> intro hc <;> (first | exact Bool.noConfusion hc | (exfalso; omega) | skip)) | (intro c hc; (try (simp only [AH.none_iff] at hc; repeat (have hn := hc.1; replace hc := hc.2))); (first | (refine i64_k hc ?_ ?_ ?_ ; omega; omega; (clear hc; intro hc; subst hc)) | skip)) | (apply Exists.intro; apply And.intro; first | (with_reducible assumption) | ((try simp only [List.getElem?_drop, Nat.mul_one, Nat.add_zero, Nat.zero_add]); first | (with_reducible assumption) | rfl)) | (apply And.intro; (first | rfl | (with_reducible assumption) | omega)))) <;> (try (conv => whnf))
  refine AWp_loop (σ := Nat) (4 :: 5 :: 8 :: 9 :: 10 :: 11 :: 12 :: 13 :: 14 :: 15 :: 16 :: 17 :: 18 :: []) (fun i => [(8, .int .i64 i)]) (fun _ => H) (fun i => i ≤ l.length ∧ ∀ x ∈ l.take i, q x = false) (fun i => l.length - i) 0 rfl ⟨Nat.zero_le _, fun x hx => by simp at hx⟩ ⟨rfl, trivial⟩ (HLe.refl _) ?_
  rintro i ⟨hi, hin⟩
  refine AWp.of tt_ok (dok _) rfl ?_
  have hil : (iS .i64 l).length = l.length := by simp
  by_cases h : i < l.length
  · have hg : (iS .i64 l)[(i : Int).toNat]? = some (.int .i64 (l.getD i 0)) := iS_get h
    have hmem : l.getD i 0 ∈ l := by rw [List.getD_eq_getElem?_getD, List.getElem?_eq_getElem h]; exact List.getElem_mem h
    have hs := hf _ hmem
    have htk : l.take (i + 1) = l.take i ++ [l.getD i 0] := by
      rw [List.take_add_one, List.getElem?_eq_getElem h, List.getD_eq_getElem?_getD, List.getElem?_eq_getElem h]; rfl
    cases hb : q (l.getD i 0) with
    | true =>
      rw [hb] at hs
      (repeat' ((conv => whnf); first | refine Then.mk ?_ | refine OpsA.cons ?_ | refine OpsA.nil ?_ | refine AWq.seq ?_ | refine AWq.region ?_ | refine AWq.cond ?_ | refine AWq.block ?_ | refine AWq.skip ?_ | refine AWq.ret ?_ | refine AWq.exit ?_ | refine AWq.loop ?_ | (refine Both.mk ?_ ?_ <;> intro hc <;> (first | exact Bool.noConfusion hc | (exfalso; omega) | skip)) | (intro c hc; (try (simp only [AH.none_iff] at hc; repeat (have hn := hc.1; replace hc := hc.2))); (first | (refine i64_k hc ?_ ?_ ?_ ; omega; omega; (clear hc; intro hc; subst hc)) | skip)) | (apply Exists.intro; apply And.intro; first | (with_reducible assumption) | ((try simp only [List.getElem?_drop, Nat.mul_one, Nat.add_zero, Nat.zero_add]); first | (with_reducible assumption) | rfl)) | (apply And.intro; (first | rfl | (with_reducible assumption) | omega)) | (refine ACall.to (hs) ?_))) <;> (try (conv => whnf))
      exact ⟨i, .inr ⟨i, h, rfl, hb⟩, rfl, rfl⟩
    | false =>
      rw [hb] at hs
      (repeat' ((conv => whnf); first | refine Then.mk ?_ | refine OpsA.cons ?_ | refine OpsA.nil ?_ | refine AWq.seq ?_ | refine AWq.region ?_ | refine AWq.cond ?_ | refine AWq.block ?_ | refine AWq.skip ?_ | refine AWq.ret ?_ | refine AWq.exit ?_ | refine AWq.loop ?_ | (refine Both.mk ?_ ?_ <;> intro hc <;> (first | exact Bool.noConfusion hc | (exfalso; omega) | skip)) | (intro c hc; (try (simp only [AH.none_iff] at hc; repeat (have hn := hc.1; replace hc := hc.2))); (first | (refine i64_k hc ?_ ?_ ?_ ; omega; omega; (clear hc; intro hc; subst hc)) | skip)) | (apply Exists.intro; apply And.intro; first | (with_reducible assumption) | ((try simp only [List.getElem?_drop, Nat.mul_one, Nat.add_zero, Nat.zero_add]); first | (with_reducible assumption) | rfl)) | (apply And.intro; (first | rfl | (with_reducible assumption) | omega)) | (refine ACall.to (hs) ?_))) <;> (try (conv => whnf))
      refine ⟨i + 1, ⟨by omega, fun x hx => ?_⟩, by omega, ⟨congrArg (AV.int .i64) (by omega), trivial⟩, HLe.refl _⟩
      rw [htk] at hx
      rcases List.mem_append.1 hx with hx | hx
      · exact hin x hx
      · rw [List.mem_singleton.1 hx]; exact hb
  · (repeat' ((conv => whnf); first | refine Then.mk ?_ | refine OpsA.cons ?_ | refine OpsA.nil ?_ | refine AWq.seq ?_ | refine AWq.region ?_ | refine AWq.cond ?_ | refine AWq.block ?_ | refine AWq.skip ?_ | refine AWq.ret ?_ | refine AWq.exit ?_ | refine AWq.loop ?_ | (refine Both.mk ?_ ?_ <;> intro hc <;> (first | exact Bool.noConfusion hc | (exfalso; omega) | skip)) | (intro c hc; (try (simp only [AH.none_iff] at hc; repeat (have hn := hc.1; replace hc := hc.2))); (first | (refine i64_k hc ?_ ?_ ?_ ; omega; omega; (clear hc; intro hc; subst hc)) | skip)) | (apply Exists.intro; apply And.intro; first | (with_reducible assumption) | ((try simp only [List.getElem?_drop, Nat.mul_one, Nat.add_zero, Nat.zero_add]); first | (with_reducible assumption) | rfl)) | (apply And.intro; (first | rfl | (with_reducible assumption) | omega)))) <;> (try (conv => whnf))
    have hie : i = l.length := by omega
    rw [hie, List.take_of_length_le (Nat.le_refl _)] at hin
    exact ⟨-1, .inl ⟨rfl, hin⟩, rfl, rfl⟩
set_option maxRecDepth 8000 in
theorem contains0_c (q : Int → Bool) (g : Nat) (l : List Int) (hl : l.length ≤ 1000000000) (H : AH) (hf : ∀ x, x ∈ l → ACall Try.prog g [.int .i64 x] H (fun y H' => y = .bool (q x) ∧ H' = H)) :
    ACall Try.prog 47 [.cs (iS .i64 l) l.length, .fn (.func g) [] []] H (fun y H' => y = .bool (l.any q) ∧ H' = H) := by
  refine ACall_of tt_ok (dok _) Try.func47 rfl (by decide) rfl ?_
  (repeat' ((conv => whnf); first | refine Then.mk ?_ | refine OpsA.cons ?_ | refine OpsA.nil ?_ | refine AWq.seq ?_ | refine AWq.region ?_ | refine AWq.ret ?_ | (refine Both.mk ?_ ?_ <;> intro hc <;> (first | exact absurd (by assumption) hc | (exfalso; omega) | skip)) | (apply And.intro; (first | rfl)))) <;> (try (conv => whnf))
  refine (index0_c q g l hl H hf).mono ?_
  rintro y H' ⟨k, hk, rfl, rfl⟩
  cases ha : l.any q with
  | false =>
    have hk0 : k < 0 := by
      rcases hk with ⟨rfl, _⟩ | ⟨i, hi, rfl, hq⟩
      · decide
      · rw [List.any_eq_false] at ha
        have hmem : l.getD i 0 ∈ l := by rw [List.getD_eq_getElem?_getD, List.getElem?_eq_getElem hi]; exact List.getElem_mem hi
        exact absurd hq (ha _ hmem)
    (repeat' ((conv => whnf); first | refine Then.mk ?_ | refine OpsA.cons ?_ | refine OpsA.nil ?_ | refine AWq.seq ?_ | refine AWq.region ?_ | refine AWq.ret ?_ | (refine Both.mk ?_ ?_ <;> intro hc <;> (first | exact absurd (by assumption) hc | (exfalso; omega) | skip)) | (apply And.intro; (first | rfl)))) <;> (try (conv => whnf))
  | true =>
    have hk0 : 0 ≤ k := by
      rcases hk with ⟨rfl, hno⟩ | ⟨i, hi, rfl, hq⟩
      · obtain ⟨x, hx, hq⟩ := List.any_eq_true.1 ha
        rw [hno x hx] at hq; cases hq
      · omega
    (repeat' ((conv => whnf); first | refine Then.mk ?_ | refine OpsA.cons ?_ | refine OpsA.nil ?_ | refine AWq.seq ?_ | refine AWq.region ?_ | refine AWq.ret ?_ | (refine Both.mk ?_ ?_ <;> intro hc <;> (first | exact absurd (by assumption) hc | (exfalso; omega) | skip)) | (apply And.intro; (first | rfl)))) <;> (try (conv => whnf))
set_option maxRecDepth 8000 in
theorem contains1_c (q : Int → Bool) (g c : Nat) (l : List Int) (hl : l.length ≤ 1000000000) (H : AH) (hf : ∀ x, x ∈ l → ACall Try.prog g [.int .i64 x, .ptr c 0 0] H (fun y H' => y = .bool (q x) ∧ H' = H)) :
    ACall Try.prog 47 [.cs (iS .i64 l) l.length, .fn (.func g) [] [.ptr c 0 0]] H (fun y H' => y = .bool (l.any q) ∧ H' = H) := by
  refine ACall_of tt_ok (dok _) Try.func47 rfl (by decide) rfl ?_
  (repeat' ((conv => whnf); first | refine Then.mk ?_ | refine OpsA.cons ?_ | refine OpsA.nil ?_ | refine AWq.seq ?_ | refine AWq.region ?_ | refine AWq.ret ?_ | (refine Both.mk ?_ ?_ <;> intro hc <;> (first | exact absurd (by assumption) hc | (exfalso; omega) | skip)) | (apply And.intro; (first | rfl)))) <;> (try (conv => whnf))
  refine (index1_c q g c l hl H hf).mono ?_
  rintro y H' ⟨k, hk, rfl, rfl⟩
  cases ha : l.any q with
  | false =>
    have hk0 : k < 0 := by
      rcases hk with ⟨rfl, _⟩ | ⟨i, hi, rfl, hq⟩
      · decide
      · rw [List.any_eq_false] at ha
        have hmem : l.getD i 0 ∈ l := by rw [List.getD_eq_getElem?_getD, List.getElem?_eq_getElem hi]; exact List.getElem_mem hi
        exact absurd hq (ha _ hmem)
    (repeat' ((conv => whnf); first | refine Then.mk ?_ | refine OpsA.cons ?_ | refine OpsA.nil ?_ | refine AWq.seq ?_ | refine AWq.region ?_ | refine AWq.ret ?_ | (refine Both.mk ?_ ?_ <;> intro hc <;> (first | exact absurd (by assumption) hc | (exfalso; omega) | skip)) | (apply And.intro; (first | rfl)))) <;> (try (conv => whnf))
  | true =>
    have hk0 : 0 ≤ k := by
      rcases hk with ⟨rfl, hno⟩ | ⟨i, hi, rfl, hq⟩
      · obtain ⟨x, hx, hq⟩ := List.any_eq_true.1 ha
        rw [hno x hx] at hq; cases hq
      · omega
    (repeat' ((conv => whnf); first | refine Then.mk ?_ | refine OpsA.cons ?_ | refine OpsA.nil ?_ | refine AWq.seq ?_ | refine AWq.region ?_ | refine AWq.ret ?_ | (refine Both.mk ?_ ?_ <;> intro hc <;> (first | exact absurd (by assumption) hc | (exfalso; omega) | skip)) | (apply And.intro; (first | rfl)))) <;> (try (conv => whnf))
set_option maxRecDepth 8000 in
theorem within_c (m : Int) (hm : 0 ≤ m ∧ m ≤ 4611686018427387904) (l : List Int) (hl : l.length ≤ 1000000000) (H : AH) :
    ACall Try.prog 46 [.int .i64 m, .cs (iS .i64 l) l.length] H (fun y H' => y = .bool (l.all fun x => decide (-m ≤ x ∧ x ≤ m)) ∧ H' = H) := by
  refine ACall.back ?_
  refine ACall_of tt_ok (dok _) Try.func46 rfl (by decide) rfl ?_
  (repeat' ((conv => whnf); first | refine Then.mk ?_ | refine OpsA.cons ?_ | refine OpsA.nil ?_ | refine AWq.seq ?_ | refine AWq.region ?_ | refine AWq.ret ?_ | (intro c hc; (try (simp only [AH.none_iff] at hc; repeat (have hn := hc.1; replace hc := hc.2))); (first | skip)) | (apply And.intro; (first | rfl)))) <;> (try (conv => whnf))
  have hc0 : H c = none := by assumption
  refine (contains1_c (fun x => !decide (-m ≤ x ∧ x ≤ m)) _ c l hl _ (fun x _ => wit1_c m x hm c _ (AH.set_same _ _ _))).mono ?_
  rintro y H' ⟨rfl, rfl⟩
  (repeat' ((conv => whnf); first | refine Then.mk ?_ | refine OpsA.cons ?_ | refine OpsA.nil ?_ | refine AWq.seq ?_ | refine AWq.region ?_ | refine AWq.ret ?_ | (intro c hc; (try (simp only [AH.none_iff] at hc; repeat (have hn := hc.1; replace hc := hc.2))); (first | skip)) | (apply And.intro; (first | rfl)))) <;> (try (conv => whnf))
  refine ⟨?_, HLe.fresh _ hc0⟩
  rw [List.not_any_eq_all_not]; simp
theorem within1_c (m : Int) (hm : 0 ≤ m ∧ m ≤ 4611686018427387904) (x : Int) (b : Bool) (hb : decide (-m ≤ x ∧ x ≤ m) = b) (H : AH) :
    ACall Try.prog 46 [.int .i64 m, .cs [.int .i64 x] 1] H (fun y H' => y = .bool b ∧ H' = H) := by
  refine (within_c m hm [x] (by simp) _).mono ?_
  rintro y H' ⟨rfl, rfl⟩
  refine ⟨?_, rfl⟩
  rw [← hb]; simp
end Go.Proofs.Ytebflkgpbbjhnaa
/- The walks of the reference's helpers: Around, Bound, Short, Few, Ints, SameInts, SameBytes; rows changed in one place. -/
namespace Go.Proofs.Ytebflkgpbbjhnaa
open Go.Fw Go
set_option linter.unusedVariables false
set_option linter.unusedSimpArgs false

theorem wr_iS {K : IntKind} {a : List Int} {k : Nat} {v : Int} (h : k < a.length) : wrA (iS K a) k [.int K v] = iS K (a.set k v) := by
  unfold wrA
  rw [List.set_eq_take_append_cons_drop, if_pos h]
  simp [iS, List.map_take, List.map_drop]

def aro (n : Int) (m : Nat) : Nat := ((if n < 0 then -(n + 1) else n).tmod m).toNat
theorem aro_lt {n : Int} {m : Nat} (hm : 1 ≤ m) : aro n m < m := by
  unfold aro
  have hlt : ∀ x : Int, 0 ≤ x → x.tmod m < m := fun x h => Int.tmod_lt_of_pos _ (by omega)
  have := hlt (if n < 0 then -(n + 1) else n) (by split <;> omega)
  omega

set_option maxRecDepth 8000 in
theorem around_f (n : Int) (h1 : -9223372036854775808 ≤ n) (h2 : n ≤ 9223372036854775807) (m : Nat) (hm : 1 ≤ m) (hm2 : m ≤ 1000000) (H : AH) :
    ACall Try.prog 11 [.int .i64 n, .int .i64 m] H (fun y H' => y = .int .i64 (aro n m) ∧ H' = H) := by
  unfold aro
  by_cases hn : n < 0
  · have hp : 0 ≤ (-(n + 1)).tmod m := Int.tmod_nonneg _ (by omega)
    rw [if_pos hn, Int.toNat_of_nonneg hp]
    refine ACall_of tt_ok (dok _) Try.func11 rfl (by decide) rfl ?_
    (repeat' ((conv => whnf); first | refine Then.mk ?_ | refine OpsA.cons ?_ | refine OpsA.nil ?_ | refine AWq.seq ?_ | refine AWq.region ?_ | refine AWq.cond ?_ | refine AWq.skip ?_ | refine AWq.ret ?_ | (refine Both.mk ?_ ?_ <;> intro hc <;> (first | exact Bool.noConfusion hc | exact absurd (by assumption) hc | exact absurd hc (by assumption) | skip)) | (intro c hc; (try (simp only [AH.none_iff] at hc; repeat (have hn := hc.1; replace hc := hc.2))); (first | (refine i64_k hc ?_ ?_ ?_ ; omega; omega; (clear hc; intro hc; subst hc)) | subst hc | skip)) | (apply And.intro; (first | rfl | omega | (simp <;> fail))))) <;> (try (conv => whnf))
  · have hp : 0 ≤ n.tmod m := Int.tmod_nonneg _ (by omega)
    rw [if_neg hn, Int.toNat_of_nonneg hp]
    refine ACall_of tt_ok (dok _) Try.func11 rfl (by decide) rfl ?_
    (repeat' ((conv => whnf); first | refine Then.mk ?_ | refine OpsA.cons ?_ | refine OpsA.nil ?_ | refine AWq.seq ?_ | refine AWq.region ?_ | refine AWq.cond ?_ | refine AWq.skip ?_ | refine AWq.ret ?_ | (refine Both.mk ?_ ?_ <;> intro hc <;> (first | exact Bool.noConfusion hc | exact absurd (by assumption) hc | exact absurd hc (by assumption) | skip)) | (intro c hc; (try (simp only [AH.none_iff] at hc; repeat (have hn := hc.1; replace hc := hc.2))); (first | (refine i64_k hc ?_ ?_ ?_ ; omega; omega; (clear hc; intro hc; subst hc)) | subst hc | skip)) | (apply And.intro; (first | rfl | omega | (simp <;> fail))))) <;> (try (conv => whnf))

end Go.Proofs.Ytebflkgpbbjhnaa
/- The walks of the reference's helpers, on: Pick, SameInts beside a row. -/
namespace Go.Proofs.Ytebflkgpbbjhnaa
open Go.Fw Go
set_option linter.unusedVariables false
set_option linter.unusedSimpArgs false

def pickV (l : List Int) (i : Int) (m : Nat) : Nat := if 0 ≤ i ∧ i < l.length then aro (l.getD i.toNat 0) m else 0
theorem pickV_lt {l : List Int} {i : Int} {m : Nat} (hm : 1 ≤ m) : pickV l i m < m := by
  unfold pickV
  split
  · exact aro_lt hm
  · omega
set_option maxRecDepth 8000 in
theorem pick_f (l : List Int) (hl : ∀ n ∈ l, -9223372036854775808 ≤ n ∧ n ≤ 9223372036854775807) (hll : l.length ≤ 9223372036854775807) (i : Int) (hi : -9223372036854775808 ≤ i ∧ i ≤ 9223372036854775807) (m : Nat) (hm : 1 ≤ m) (hm2 : m ≤ 1000000) (H : AH) :
    ACall Try.prog 25 [.cs (iS .i64 l) l.length, .int .i64 i, .int .i64 m] H (fun y H' => y = .int .i64 (pickV l i m) ∧ H' = H) := by
  unfold pickV
  by_cases h0 : i < 0
  · rw [if_neg (by omega)]
    refine ACall_of tt_ok (dok _) Try.func25 rfl (by decide) rfl ?_
    (repeat' ((conv => whnf); first | refine Then.mk ?_ | refine OpsA.cons ?_ | refine OpsA.nil ?_ | refine AWq.seq ?_ | refine AWq.region ?_ | refine AWq.cond ?_ | refine AWq.skip ?_ | refine AWq.ret ?_ | (refine Both.mk ?_ ?_ <;> intro hc <;> (first | exact Bool.noConfusion hc | exact absurd (by assumption) hc | exact absurd hc (by assumption) | (exfalso; omega) | skip)) | (apply Exists.intro; apply And.intro; first | (with_reducible assumption) | ((try simp only [List.getElem?_drop, Nat.mul_one, Nat.add_zero, Nat.zero_add]); first | (with_reducible assumption) | rfl)) | (apply And.intro; (first | rfl | (with_reducible assumption) | omega)))) <;> (try (conv => whnf))
  · by_cases h1 : i < l.length
    · rw [if_pos (by omega)]
      have hg : (iS .i64 l)[i.toNat]? = some (.int .i64 (l.getD i.toNat 0)) := iS_get (by omega)
      have hb : -9223372036854775808 ≤ l.getD i.toNat 0 ∧ l.getD i.toNat 0 ≤ 9223372036854775807 := by
        have hlt : i.toNat < l.length := by omega
        have : l.getD i.toNat 0 = l[i.toNat] := by rw [List.getD_eq_getElem?_getD, List.getElem?_eq_getElem hlt]; rfl
        rw [this]; exact hl _ (List.getElem_mem hlt)
      generalize l.getD i.toNat 0 = x at *
      have ha := fun H => around_f x hb.1 hb.2 m hm hm2 H
      have hil : (iS .i64 l).length = l.length := by simp
      refine ACall_of tt_ok (dok _) Try.func25 rfl (by decide) rfl ?_
      (repeat' ((conv => whnf); first | refine Then.mk ?_ | refine OpsA.cons ?_ | refine OpsA.nil ?_ | refine AWq.seq ?_ | refine AWq.region ?_ | refine AWq.cond ?_ | refine AWq.skip ?_ | refine AWq.ret ?_ | (refine Both.mk ?_ ?_ <;> intro hc <;> (first | exact Bool.noConfusion hc | exact absurd (by assumption) hc | exact absurd hc (by assumption) | (exfalso; omega) | skip)) | (apply Exists.intro; apply And.intro; first | (with_reducible assumption) | ((try simp only [List.getElem?_drop, Nat.mul_one, Nat.add_zero, Nat.zero_add]); first | (with_reducible assumption) | rfl)) | (apply And.intro; (first | rfl | (with_reducible assumption) | omega)) | (refine ACall.to (ha _) ?_))) <;> (try (conv => whnf))
    · rw [if_neg (by omega)]
      refine ACall_of tt_ok (dok _) Try.func25 rfl (by decide) rfl ?_
      (repeat' ((conv => whnf); first | refine Then.mk ?_ | refine OpsA.cons ?_ | refine OpsA.nil ?_ | refine AWq.seq ?_ | refine AWq.region ?_ | refine AWq.cond ?_ | refine AWq.skip ?_ | refine AWq.ret ?_ | (refine Both.mk ?_ ?_ <;> intro hc <;> (first | exact Bool.noConfusion hc | exact absurd (by assumption) hc | exact absurd hc (by assumption) | (exfalso; omega) | skip)) | (apply Exists.intro; apply And.intro; first | (with_reducible assumption) | ((try simp only [List.getElem?_drop, Nat.mul_one, Nat.add_zero, Nat.zero_add]); first | (with_reducible assumption) | rfl)) | (apply And.intro; (first | rfl | (with_reducible assumption) | omega)))) <;> (try (conv => whnf))

end Go.Proofs.Ytebflkgpbbjhnaa
/- The walks of balance: valid. -/
namespace Go.Proofs.Ytebflkgpbbjhnaa
open Go.Fw Go
set_option linter.unusedVariables false
set_option linter.unusedSimpArgs false

set_option maxRecDepth 8000 in
theorem tooE_c (es : List Ed) (n : Nat) (hn : es.length = n) (H : AH) : ACall Try.prog 63 [.cs (edL es) n] H (fun y H' => y = .bool (decide (8192 < n)) ∧ H' = H) := by
  by_cases h : 8192 < n
  · rw [decide_eq_true h]
    refine ACall_of tt_ok (dok _) Try.func63 rfl (by decide) rfl ?_
    (repeat' ((conv => whnf); first | refine Then.mk ?_ | refine OpsA.cons ?_ | refine OpsA.nil ?_ | refine AWq.seq ?_ | refine AWq.region ?_ | refine AWq.ret ?_ | (refine Both.mk ?_ ?_ <;> intro hc <;> (first | (exfalso; omega) | skip)) | (apply And.intro; (first | rfl)))) <;> (try (conv => whnf))
  · rw [decide_eq_false h]
    refine ACall_of tt_ok (dok _) Try.func63 rfl (by decide) rfl ?_
    (repeat' ((conv => whnf); first | refine Then.mk ?_ | refine OpsA.cons ?_ | refine OpsA.nil ?_ | refine AWq.seq ?_ | refine AWq.region ?_ | refine AWq.ret ?_ | (refine Both.mk ?_ ?_ <;> intro hc <;> (first | (exfalso; omega) | skip)) | (apply And.intro; (first | rfl)))) <;> (try (conv => whnf))
set_option maxRecDepth 8000 in
theorem tooF_c (fs : List Fx) (n : Nat) (hn : fs.length = n) (H : AH) : ACall Try.prog 64 [.cs (fxL fs) n] H (fun y H' => y = .bool (decide (8192 < n)) ∧ H' = H) := by
  by_cases h : 8192 < n
  · rw [decide_eq_true h]
    refine ACall_of tt_ok (dok _) Try.func64 rfl (by decide) rfl ?_
    (repeat' ((conv => whnf); first | refine Then.mk ?_ | refine OpsA.cons ?_ | refine OpsA.nil ?_ | refine AWq.seq ?_ | refine AWq.region ?_ | refine AWq.ret ?_ | (refine Both.mk ?_ ?_ <;> intro hc <;> (first | (exfalso; omega) | skip)) | (apply And.intro; (first | rfl)))) <;> (try (conv => whnf))
  · rw [decide_eq_false h]
    refine ACall_of tt_ok (dok _) Try.func64 rfl (by decide) rfl ?_
    (repeat' ((conv => whnf); first | refine Then.mk ?_ | refine OpsA.cons ?_ | refine OpsA.nil ?_ | refine AWq.seq ?_ | refine AWq.region ?_ | refine AWq.ret ?_ | (refine Both.mk ?_ ?_ <;> intro hc <;> (first | (exfalso; omega) | skip)) | (apply And.intro; (first | rfl)))) <;> (try (conv => whnf))
set_option maxRecDepth 8000 in
theorem scene_c (x n : Int) (b : Bool) (hb : decide (0 ≤ x ∧ x < n) = b) (c : Nat) (H : AH) (hc : H c = some (.row [.int .i64 n] 0)) : ACall Try.prog 65 [.int .i64 x, .ptr c 0 0] H (fun y H' => y = .bool b ∧ H' = H) := by
  rw [← hb]
  by_cases h : 0 ≤ x ∧ x < n
  · rw [decide_eq_true h]
    refine ACall_of tt_ok (dok _) Try.func65 rfl (by decide) rfl ?_
    (repeat' ((conv => whnf); first | refine Then.mk ?_ | refine OpsA.cons ?_ | refine OpsA.nil ?_ | refine AWq.seq ?_ | refine AWq.region ?_ | refine AWq.ret ?_ | (refine Both.mk ?_ ?_ <;> intro hc <;> (first | (exfalso; omega) | skip)) | (apply Exists.intro; apply And.intro; (first | (focus (repeat (first | (with_reducible assumption))); done))) | (apply Exists.intro; apply And.intro; first | (with_reducible assumption) | ((try simp only [List.getElem?_drop, Nat.mul_one, Nat.add_zero, Nat.zero_add]); first | (with_reducible assumption) | rfl)) | (apply And.intro; (first | rfl | (with_reducible assumption))))) <;> (try (conv => whnf))
  · rw [decide_eq_false h]
    refine ACall_of tt_ok (dok _) Try.func65 rfl (by decide) rfl ?_
    (repeat' ((conv => whnf); first | refine Then.mk ?_ | refine OpsA.cons ?_ | refine OpsA.nil ?_ | refine AWq.seq ?_ | refine AWq.region ?_ | refine AWq.ret ?_ | (refine Both.mk ?_ ?_ <;> intro hc <;> (first | (exfalso; omega) | skip)) | (apply Exists.intro; apply And.intro; (first | (focus (repeat (first | (with_reducible assumption))); done))) | (apply Exists.intro; apply And.intro; first | (with_reducible assumption) | ((try simp only [List.getElem?_drop, Nat.mul_one, Nat.add_zero, Nat.zero_add]); first | (with_reducible assumption) | rfl)) | (apply And.intro; (first | rfl | (with_reducible assumption))))) <;> (try (conv => whnf))
set_option maxRecDepth 8000 in
theorem weight_c (x : Int) (b : Bool) (hb : decide (1 ≤ x ∧ x ≤ 65536) = b) (H : AH) : ACall Try.prog 66 [.int .i64 x] H (fun y H' => y = .bool b ∧ H' = H) := by
  rw [← hb]
  by_cases h : 1 ≤ x ∧ x ≤ 65536
  · rw [decide_eq_true h]
    refine ACall_of tt_ok (dok _) Try.func66 rfl (by decide) rfl ?_
    (repeat' ((conv => whnf); first | refine Then.mk ?_ | refine OpsA.cons ?_ | refine OpsA.nil ?_ | refine AWq.seq ?_ | refine AWq.region ?_ | refine AWq.ret ?_ | (refine Both.mk ?_ ?_ <;> intro hc <;> (first | (exfalso; omega) | skip)) | (apply And.intro; (first | rfl)))) <;> (try (conv => whnf))
  · rw [decide_eq_false h]
    refine ACall_of tt_ok (dok _) Try.func66 rfl (by decide) rfl ?_
    (repeat' ((conv => whnf); first | refine Then.mk ?_ | refine OpsA.cons ?_ | refine OpsA.nil ?_ | refine AWq.seq ?_ | refine AWq.region ?_ | refine AWq.ret ?_ | (refine Both.mk ?_ ?_ <;> intro hc <;> (first | (exfalso; omega) | skip)) | (apply And.intro; (first | rfl)))) <;> (try (conv => whnf))
theorem take_snoc {α : Type} {l : List α} {i : Nat} {x : α} (h : l[i]? = some x) : l.take (i + 1) = l.take i ++ [x] := by
  rw [List.take_add_one, h]; rfl
theorem all_take {α : Type} {l : List α} {q : α → Prop} {i : Nat} {x : α} (h : l[i]? = some x) (h1 : ∀ y ∈ l.take i, q y) (hx : q x) : ∀ y ∈ l.take (i + 1), q y := by
  rw [take_snoc h]
  intro y hy
  rcases List.mem_append.1 hy with hy | hy
  · exact h1 y hy
  · rw [List.mem_singleton.1 hy]; exact hx
set_option maxHeartbeats 4000000 in
set_option maxRecDepth 8000 in
theorem valid_c (n : Int) (es : List Ed) (fs : List Fx) (he : es.length ≤ 1000000000) (hf : fs.length ≤ 1000000000) (H : AH) :
    ACall Try.prog 35 [.int .i64 n, .cs (edL es) es.length, .cs (fxL fs) fs.length] H (fun y H' => y = .int .i64 (validV n es fs) ∧ H' = H) := by
  refine ACall.back ?_
  unfold validV
  have t1 := fun H => tooE_c es es.length rfl H
  have t2 := fun H => tooF_c fs fs.length rfl H
  by_cases h1 : n < 0 ∨ 64 < n
  · rw [if_pos h1]
    refine ACall_of tt_ok (dok _) Try.func35 rfl (by decide) rfl ?_
    (repeat' ((conv => whnf); first | refine Then.mk ?_ | left | refine OpsA.cons ?_ | refine OpsA.nil ?_ | refine AWq.seq ?_ | refine AWq.region ?_ | refine AWq.cond ?_ | refine AWq.block ?_ | refine AWq.skip ?_ | refine AWq.ret ?_ | refine AWq.exit ?_ | refine AWq.loop ?_ | (refine Both.mk ?_ ?_ <;> intro hc <;> (first | exact Bool.noConfusion hc | exact absurd hc (by assumption) | (exfalso; omega) | skip)) | (intro c hc; (try (simp only [AH.none_iff] at hc; repeat (have hn := hc.1; replace hc := hc.2))); (first | (refine i64_k hc ?_ ?_ ?_ ; omega; omega; (clear hc; intro hc; subst hc)) | skip)) | (apply Exists.intro; apply And.intro; (first | (focus (repeat (first | (with_reducible assumption) | (with_reducible exact AH.set_same _ _ _))); done))) | (apply Exists.intro; apply And.intro; first | (with_reducible assumption) | ((try simp only [List.getElem?_drop, Nat.mul_one, Nat.add_zero, Nat.zero_add]); first | (with_reducible assumption) | rfl)) | (apply And.intro; (first | rfl | (with_reducible assumption) | exact Nat.le_of_ble_eq_true rfl | omega | (simp <;> omega) | (focus (repeat' (first | (with_reducible assumption) | rfl | apply one_take | apply one_drop)); done))))) <;> (try (conv => whnf))
    all_goals exact HLe.fresh _ (by assumption)
  rw [if_neg h1]
  by_cases h2 : 8192 < es.length
  · rw [if_pos (.inl h2)]
    rw [decide_eq_true h2] at t1
    refine ACall_of tt_ok (dok _) Try.func35 rfl (by decide) rfl ?_
    (repeat' ((conv => whnf); first | refine Then.mk ?_ | left | refine OpsA.cons ?_ | refine OpsA.nil ?_ | refine AWq.seq ?_ | refine AWq.region ?_ | refine AWq.cond ?_ | refine AWq.block ?_ | refine AWq.skip ?_ | refine AWq.ret ?_ | refine AWq.exit ?_ | refine AWq.loop ?_ | (refine Both.mk ?_ ?_ <;> intro hc <;> (first | exact Bool.noConfusion hc | exact absurd hc (by assumption) | (exfalso; omega) | skip)) | (intro c hc; (try (simp only [AH.none_iff] at hc; repeat (have hn := hc.1; replace hc := hc.2))); (first | (refine i64_k hc ?_ ?_ ?_ ; omega; omega; (clear hc; intro hc; subst hc)) | skip)) | (apply Exists.intro; apply And.intro; (first | (focus (repeat (first | (with_reducible assumption) | (with_reducible exact AH.set_same _ _ _))); done))) | (apply Exists.intro; apply And.intro; first | (with_reducible assumption) | ((try simp only [List.getElem?_drop, Nat.mul_one, Nat.add_zero, Nat.zero_add]); first | (with_reducible assumption) | rfl)) | (apply And.intro; (first | rfl | (with_reducible assumption) | exact Nat.le_of_ble_eq_true rfl | omega | (simp <;> omega) | (focus (repeat' (first | (with_reducible assumption) | rfl | apply one_take | apply one_drop)); done))) | (refine ACall.to (t1 _) ?_))) <;> (try (conv => whnf))
    all_goals exact HLe.fresh _ (by assumption)
  rw [decide_eq_false h2] at t1
  by_cases h3 : 8192 < fs.length
  · rw [if_pos (.inr h3)]
    rw [decide_eq_true h3] at t2
    refine ACall_of tt_ok (dok _) Try.func35 rfl (by decide) rfl ?_
    (repeat' ((conv => whnf); first | refine Then.mk ?_ | left | refine OpsA.cons ?_ | refine OpsA.nil ?_ | refine AWq.seq ?_ | refine AWq.region ?_ | refine AWq.cond ?_ | refine AWq.block ?_ | refine AWq.skip ?_ | refine AWq.ret ?_ | refine AWq.exit ?_ | refine AWq.loop ?_ | (refine Both.mk ?_ ?_ <;> intro hc <;> (first | exact Bool.noConfusion hc | exact absurd hc (by assumption) | (exfalso; omega) | skip)) | (intro c hc; (try (simp only [AH.none_iff] at hc; repeat (have hn := hc.1; replace hc := hc.2))); (first | (refine i64_k hc ?_ ?_ ?_ ; omega; omega; (clear hc; intro hc; subst hc)) | skip)) | (apply Exists.intro; apply And.intro; (first | (focus (repeat (first | (with_reducible assumption) | (with_reducible exact AH.set_same _ _ _))); done))) | (apply Exists.intro; apply And.intro; first | (with_reducible assumption) | ((try simp only [List.getElem?_drop, Nat.mul_one, Nat.add_zero, Nat.zero_add]); first | (with_reducible assumption) | rfl)) | (apply And.intro; (first | rfl | (with_reducible assumption) | exact Nat.le_of_ble_eq_true rfl | omega | (simp <;> omega) | (focus (repeat' (first | (with_reducible assumption) | rfl | apply one_take | apply one_drop)); done))) | (refine ACall.to (t1 _) ?_) | (refine ACall.to (t2 _) ?_))) <;> (try (conv => whnf))
    all_goals exact HLe.fresh _ (by assumption)
  rw [decide_eq_false h3] at t2
  rw [if_neg (by omega)]
  refine ACall_of tt_ok (dok _) Try.func35 rfl (by decide) rfl ?_
  (repeat' ((conv => whnf); first | refine Then.mk ?_ | left | refine OpsA.cons ?_ | refine OpsA.nil ?_ | refine AWq.seq ?_ | refine AWq.region ?_ | refine AWq.cond ?_ | refine AWq.block ?_ | refine AWq.skip ?_ | refine AWq.ret ?_ | refine AWq.exit ?_ | refine AWq.loop ?_ | (refine Both.mk ?_ ?_ <;> intro hc <;> (first | exact Bool.noConfusion hc | exact absurd hc (by assumption) | (exfalso; omega) | skip)) | (intro c hc; (try (simp only [AH.none_iff] at hc; repeat (have hn := hc.1; replace hc := hc.2))); (first | (refine i64_k hc ?_ ?_ ?_ ; omega; omega; (clear hc; intro hc; subst hc)) | skip)) | (apply Exists.intro; apply And.intro; (first | (focus (repeat (first | (with_reducible assumption) | (with_reducible exact AH.set_same _ _ _))); done))) | (apply Exists.intro; apply And.intro; first | (with_reducible assumption) | ((try simp only [List.getElem?_drop, Nat.mul_one, Nat.add_zero, Nat.zero_add]); first | (with_reducible assumption) | rfl)) | (apply And.intro; (first | rfl | (with_reducible assumption) | exact Nat.le_of_ble_eq_true rfl | omega | (simp <;> omega) | (focus (repeat' (first | (with_reducible assumption) | rfl | apply one_take | apply one_drop)); done))) | (refine ACall.to (t1 _) ?_) | (refine ACall.to (t2 _) ?_))) <;> (try (conv => whnf))
  obtain ⟨q, hq⟩ : ∃ q, q = c := ⟨_, rfl⟩
  subst hq
  have hc0 : H q = none := by assumption
  refine AWp_loop (σ := Nat) (6 :: 10 :: 30 :: 31 :: 32 :: 33 :: 34 :: 35 :: 36 :: 37 :: 38 :: 39 :: 40 :: 41 :: 42 :: 43 :: 44 :: 45 :: 46 :: 47 :: 48 :: 49 :: 50 :: 51 :: 52 :: 53 :: 54 :: 55 :: 56 :: 57 :: 58 :: 59 :: 60 :: 61 :: 62 :: 63 :: 64 :: 65 :: 66 :: 67 :: []) (fun i => [(30, .int .i64 i)]) (fun _ => H.set q (.row [.int .i64 n] 0)) (fun i => i ≤ es.length ∧ ∀ x ∈ es.take i, vE n x) (fun i => es.length - i) 0 rfl ⟨Nat.zero_le _, fun x hx => by simp at hx⟩ ⟨rfl, trivial⟩ (HLe.refl _) ?_
  rintro i ⟨hi, hin⟩
  refine AWp.of tt_ok (dok _) rfl ?_
  by_cases hil : i < es.length
  · obtain ⟨x, hx⟩ : ∃ x, es[i]? = some x := ⟨_, List.getElem?_eq_getElem hil⟩
    have hmem := List.mem_of_getElem? hx
    have hcl := edL_len es
    have ho := edL_one es
    (iterate 3 ((repeat' ((conv => whnf); first | left | refine OpsA.cons ?_ | refine OpsA.nil ?_ | refine AWq.seq ?_ | refine AWq.region ?_ | refine AWq.cond ?_ | refine AWq.block ?_ | refine AWq.skip ?_ | refine AWq.ret ?_ | refine AWq.exit ?_ | refine AWq.loop ?_ | (refine Both.mk ?_ ?_ <;> intro hc <;> (first | exact Bool.noConfusion hc | exact absurd hc (by assumption) | (exfalso; omega) | skip)) | (intro c hc; (try (simp only [AH.none_iff] at hc; repeat (have hn := hc.1; replace hc := hc.2))); (first | (refine i64_k hc ?_ ?_ ?_ ; omega; omega; (clear hc; intro hc; subst hc)) | skip)) | (apply Exists.intro; apply And.intro; (first | (focus (repeat (first | (with_reducible assumption) | (with_reducible exact AH.set_same _ _ _))); done))) | (apply Exists.intro; apply And.intro; first | (with_reducible assumption) | ((try simp only [List.getElem?_drop, Nat.mul_one, Nat.add_zero, Nat.zero_add]); first | (with_reducible assumption) | rfl)) | (apply And.intro; (first | rfl | (with_reducible assumption) | exact Nat.le_of_ble_eq_true rfl | omega | (simp <;> omega) | (focus (repeat' (first | (with_reducible assumption) | rfl | apply one_take | apply one_drop)); done))))) <;> (try (conv => whnf)); refine Then.mk ?_))
    refine AWq.in ?_
    refine AWp_segP 10 (edA x) rfl rfl (by (first | assumption | (simp only [AH.none_iff]; (repeat' (first | assumption | (refine And.intro ?_ ?_)))))) (edL_seg hx) rfl ?_
    refine AWp.of tt_ok (dok _) rfl ?_
    by_cases hv : vE n x
    · obtain ⟨v1, v2, v3, v4, v5⟩ := id hv
      (repeat' ((conv => whnf); first | refine Then.mk ?_ | left | refine OpsA.cons ?_ | refine OpsA.nil ?_ | refine AWq.seq ?_ | refine AWq.region ?_ | refine AWq.cond ?_ | refine AWq.block ?_ | refine AWq.skip ?_ | refine AWq.ret ?_ | refine AWq.exit ?_ | refine AWq.loop ?_ | (refine Both.mk ?_ ?_ <;> intro hc <;> (first | exact Bool.noConfusion hc | exact absurd hc (by assumption) | (exfalso; omega) | skip)) | (intro c hc; (try (simp only [AH.none_iff] at hc; repeat (have hn := hc.1; replace hc := hc.2))); (first | (refine i64_k hc ?_ ?_ ?_ ; omega; omega; (clear hc; intro hc; subst hc)) | skip)) | (apply Exists.intro; apply And.intro; (first | (focus (repeat (first | (with_reducible assumption) | (with_reducible exact AH.set_same _ _ _))); done))) | (apply Exists.intro; apply And.intro; first | (with_reducible assumption) | ((try simp only [List.getElem?_drop, Nat.mul_one, Nat.add_zero, Nat.zero_add]); first | (with_reducible assumption) | rfl)) | (apply And.intro; (first | rfl | (with_reducible assumption) | exact Nat.le_of_ble_eq_true rfl | omega | (simp <;> omega) | (focus (repeat' (first | (with_reducible assumption) | rfl | apply one_take | apply one_drop)); done))) | (refine ACall.to (scene_c _ _ true (decide_eq_true (by assumption)) _ _ (by (first | (focus (repeat (first | (with_reducible assumption) | (with_reducible exact AH.set_same _ _ _))); done)))) ?_) | (refine ACall.to (within1_c _ (by decide) _ true (decide_eq_true (by assumption)) _) ?_) | (refine ACall.to (weight_c _ true (decide_eq_true (by assumption)) _) ?_))) <;> (try (conv => whnf))
      exact ⟨i + 1, ⟨hil, all_take hx hin hv⟩, by omega, ⟨congrArg (AV.int .i64) (by omega), trivial⟩, by (first | ((repeat' (first | (with_reducible exact HLe.refl _) | (with_reducible assumption) | refine HLe.set_of _ _ ?_ ?_)); done))⟩
    · have hbad : ¬((∀ x ∈ es, vE n x) ∧ (∀ x ∈ fs, vF n x)) := fun h => hv (h.1 x hmem)
      unfold vE at hv
      by_cases v1 : 0 ≤ x.a ∧ x.a < n
      · by_cases v2 : 0 ≤ x.b ∧ x.b < n
        · by_cases v3 : x.a ≠ x.b
          · by_cases v4 : -65535 ≤ x.d ∧ x.d ≤ 65535
            · have v5 : ¬(1 ≤ x.w ∧ x.w ≤ 65536) := fun v5 => hv ⟨v1, v2, v3, v4, v5⟩
              (repeat' ((conv => whnf); first | refine Then.mk ?_ | left | refine OpsA.cons ?_ | refine OpsA.nil ?_ | refine AWq.seq ?_ | refine AWq.region ?_ | refine AWq.cond ?_ | refine AWq.block ?_ | refine AWq.skip ?_ | refine AWq.ret ?_ | refine AWq.exit ?_ | refine AWq.loop ?_ | (refine Both.mk ?_ ?_ <;> intro hc <;> (first | exact Bool.noConfusion hc | exact absurd hc (by assumption) | (exfalso; omega) | skip)) | (intro c hc; (try (simp only [AH.none_iff] at hc; repeat (have hn := hc.1; replace hc := hc.2))); (first | (refine i64_k hc ?_ ?_ ?_ ; omega; omega; (clear hc; intro hc; subst hc)) | skip)) | (apply Exists.intro; apply And.intro; (first | (focus (repeat (first | (with_reducible assumption) | (with_reducible exact AH.set_same _ _ _))); done))) | (apply Exists.intro; apply And.intro; first | (with_reducible assumption) | ((try simp only [List.getElem?_drop, Nat.mul_one, Nat.add_zero, Nat.zero_add]); first | (with_reducible assumption) | rfl)) | (apply And.intro; (first | rfl | (with_reducible assumption) | exact Nat.le_of_ble_eq_true rfl | omega | (simp <;> omega) | (focus (repeat' (first | (with_reducible assumption) | rfl | apply one_take | apply one_drop)); done))) | (refine ACall.to (scene_c _ _ true (decide_eq_true (by assumption)) _ _ (by (first | (focus (repeat (first | (with_reducible assumption) | (with_reducible exact AH.set_same _ _ _))); done)))) ?_) | (refine ACall.to (within1_c _ (by decide) _ true (decide_eq_true (by assumption)) _) ?_) | (refine ACall.to (weight_c _ false (decide_eq_false (by assumption)) _) ?_))) <;> (try (conv => whnf))
              exact ⟨congrArg (AV.int .i64) (if_neg hbad).symm, by (first | ((repeat' (first | (with_reducible exact HLe.refl _) | (with_reducible assumption) | refine HLe.set_of _ _ ?_ ?_)); done))⟩
            · (repeat' ((conv => whnf); first | refine Then.mk ?_ | left | refine OpsA.cons ?_ | refine OpsA.nil ?_ | refine AWq.seq ?_ | refine AWq.region ?_ | refine AWq.cond ?_ | refine AWq.block ?_ | refine AWq.skip ?_ | refine AWq.ret ?_ | refine AWq.exit ?_ | refine AWq.loop ?_ | (refine Both.mk ?_ ?_ <;> intro hc <;> (first | exact Bool.noConfusion hc | exact absurd hc (by assumption) | (exfalso; omega) | skip)) | (intro c hc; (try (simp only [AH.none_iff] at hc; repeat (have hn := hc.1; replace hc := hc.2))); (first | (refine i64_k hc ?_ ?_ ?_ ; omega; omega; (clear hc; intro hc; subst hc)) | skip)) | (apply Exists.intro; apply And.intro; (first | (focus (repeat (first | (with_reducible assumption) | (with_reducible exact AH.set_same _ _ _))); done))) | (apply Exists.intro; apply And.intro; first | (with_reducible assumption) | ((try simp only [List.getElem?_drop, Nat.mul_one, Nat.add_zero, Nat.zero_add]); first | (with_reducible assumption) | rfl)) | (apply And.intro; (first | rfl | (with_reducible assumption) | exact Nat.le_of_ble_eq_true rfl | omega | (simp <;> omega) | (focus (repeat' (first | (with_reducible assumption) | rfl | apply one_take | apply one_drop)); done))) | (refine ACall.to (scene_c _ _ true (decide_eq_true (by assumption)) _ _ (by (first | (focus (repeat (first | (with_reducible assumption) | (with_reducible exact AH.set_same _ _ _))); done)))) ?_) | (refine ACall.to (within1_c _ (by decide) _ false (decide_eq_false (by assumption)) _) ?_))) <;> (try (conv => whnf))
              exact ⟨congrArg (AV.int .i64) (if_neg hbad).symm, by (first | ((repeat' (first | (with_reducible exact HLe.refl _) | (with_reducible assumption) | refine HLe.set_of _ _ ?_ ?_)); done))⟩
          · (repeat' ((conv => whnf); first | refine Then.mk ?_ | left | refine OpsA.cons ?_ | refine OpsA.nil ?_ | refine AWq.seq ?_ | refine AWq.region ?_ | refine AWq.cond ?_ | refine AWq.block ?_ | refine AWq.skip ?_ | refine AWq.ret ?_ | refine AWq.exit ?_ | refine AWq.loop ?_ | (refine Both.mk ?_ ?_ <;> intro hc <;> (first | exact Bool.noConfusion hc | exact absurd hc (by assumption) | (exfalso; omega) | skip)) | (intro c hc; (try (simp only [AH.none_iff] at hc; repeat (have hn := hc.1; replace hc := hc.2))); (first | (refine i64_k hc ?_ ?_ ?_ ; omega; omega; (clear hc; intro hc; subst hc)) | skip)) | (apply Exists.intro; apply And.intro; (first | (focus (repeat (first | (with_reducible assumption) | (with_reducible exact AH.set_same _ _ _))); done))) | (apply Exists.intro; apply And.intro; first | (with_reducible assumption) | ((try simp only [List.getElem?_drop, Nat.mul_one, Nat.add_zero, Nat.zero_add]); first | (with_reducible assumption) | rfl)) | (apply And.intro; (first | rfl | (with_reducible assumption) | exact Nat.le_of_ble_eq_true rfl | omega | (simp <;> omega) | (focus (repeat' (first | (with_reducible assumption) | rfl | apply one_take | apply one_drop)); done))) | (refine ACall.to (scene_c _ _ true (decide_eq_true (by assumption)) _ _ (by (first | (focus (repeat (first | (with_reducible assumption) | (with_reducible exact AH.set_same _ _ _))); done)))) ?_))) <;> (try (conv => whnf))
            exact ⟨congrArg (AV.int .i64) (if_neg hbad).symm, by (first | ((repeat' (first | (with_reducible exact HLe.refl _) | (with_reducible assumption) | refine HLe.set_of _ _ ?_ ?_)); done))⟩
        · (repeat' ((conv => whnf); first | refine Then.mk ?_ | left | refine OpsA.cons ?_ | refine OpsA.nil ?_ | refine AWq.seq ?_ | refine AWq.region ?_ | refine AWq.cond ?_ | refine AWq.block ?_ | refine AWq.skip ?_ | refine AWq.ret ?_ | refine AWq.exit ?_ | refine AWq.loop ?_ | (refine Both.mk ?_ ?_ <;> intro hc <;> (first | exact Bool.noConfusion hc | exact absurd hc (by assumption) | (exfalso; omega) | skip)) | (intro c hc; (try (simp only [AH.none_iff] at hc; repeat (have hn := hc.1; replace hc := hc.2))); (first | (refine i64_k hc ?_ ?_ ?_ ; omega; omega; (clear hc; intro hc; subst hc)) | skip)) | (apply Exists.intro; apply And.intro; (first | (focus (repeat (first | (with_reducible assumption) | (with_reducible exact AH.set_same _ _ _))); done))) | (apply Exists.intro; apply And.intro; first | (with_reducible assumption) | ((try simp only [List.getElem?_drop, Nat.mul_one, Nat.add_zero, Nat.zero_add]); first | (with_reducible assumption) | rfl)) | (apply And.intro; (first | rfl | (with_reducible assumption) | exact Nat.le_of_ble_eq_true rfl | omega | (simp <;> omega) | (focus (repeat' (first | (with_reducible assumption) | rfl | apply one_take | apply one_drop)); done))) | (refine ACall.to (scene_c x.a _ true (decide_eq_true v1) _ _ (by (first | (focus (repeat (first | (with_reducible assumption) | (with_reducible exact AH.set_same _ _ _))); done)))) ?_) | (refine ACall.to (scene_c x.b _ false (decide_eq_false v2) _ _ (by (first | (focus (repeat (first | (with_reducible assumption) | (with_reducible exact AH.set_same _ _ _))); done)))) ?_))) <;> (try (conv => whnf))
          exact ⟨congrArg (AV.int .i64) (if_neg hbad).symm, by (first | ((repeat' (first | (with_reducible exact HLe.refl _) | (with_reducible assumption) | refine HLe.set_of _ _ ?_ ?_)); done))⟩
      · (repeat' ((conv => whnf); first | refine Then.mk ?_ | left | refine OpsA.cons ?_ | refine OpsA.nil ?_ | refine AWq.seq ?_ | refine AWq.region ?_ | refine AWq.cond ?_ | refine AWq.block ?_ | refine AWq.skip ?_ | refine AWq.ret ?_ | refine AWq.exit ?_ | refine AWq.loop ?_ | (refine Both.mk ?_ ?_ <;> intro hc <;> (first | exact Bool.noConfusion hc | exact absurd hc (by assumption) | (exfalso; omega) | skip)) | (intro c hc; (try (simp only [AH.none_iff] at hc; repeat (have hn := hc.1; replace hc := hc.2))); (first | (refine i64_k hc ?_ ?_ ?_ ; omega; omega; (clear hc; intro hc; subst hc)) | skip)) | (apply Exists.intro; apply And.intro; (first | (focus (repeat (first | (with_reducible assumption) | (with_reducible exact AH.set_same _ _ _))); done))) | (apply Exists.intro; apply And.intro; first | (with_reducible assumption) | ((try simp only [List.getElem?_drop, Nat.mul_one, Nat.add_zero, Nat.zero_add]); first | (with_reducible assumption) | rfl)) | (apply And.intro; (first | rfl | (with_reducible assumption) | exact Nat.le_of_ble_eq_true rfl | omega | (simp <;> omega) | (focus (repeat' (first | (with_reducible assumption) | rfl | apply one_take | apply one_drop)); done))) | (refine ACall.to (scene_c _ _ false (decide_eq_false v1) _ _ (by (first | (focus (repeat (first | (with_reducible assumption) | (with_reducible exact AH.set_same _ _ _))); done)))) ?_))) <;> (try (conv => whnf))
        exact ⟨congrArg (AV.int .i64) (if_neg hbad).symm, by (first | ((repeat' (first | (with_reducible exact HLe.refl _) | (with_reducible assumption) | refine HLe.set_of _ _ ?_ ?_)); done))⟩
  · have hie : i = es.length := by omega
    rw [hie, List.take_of_length_le (Nat.le_refl _)] at hin
    (repeat' ((conv => whnf); first | refine Then.mk ?_ | left | refine OpsA.cons ?_ | refine OpsA.nil ?_ | refine AWq.seq ?_ | refine AWq.region ?_ | refine AWq.cond ?_ | refine AWq.block ?_ | refine AWq.skip ?_ | refine AWq.ret ?_ | refine AWq.exit ?_ | refine AWq.loop ?_ | (refine Both.mk ?_ ?_ <;> intro hc <;> (first | exact Bool.noConfusion hc | exact absurd hc (by assumption) | (exfalso; omega) | skip)) | (intro c hc; (try (simp only [AH.none_iff] at hc; repeat (have hn := hc.1; replace hc := hc.2))); (first | (refine i64_k hc ?_ ?_ ?_ ; omega; omega; (clear hc; intro hc; subst hc)) | skip)) | (apply Exists.intro; apply And.intro; (first | (focus (repeat (first | (with_reducible assumption) | (with_reducible exact AH.set_same _ _ _))); done))) | (apply Exists.intro; apply And.intro; first | (with_reducible assumption) | ((try simp only [List.getElem?_drop, Nat.mul_one, Nat.add_zero, Nat.zero_add]); first | (with_reducible assumption) | rfl)) | (apply And.intro; (first | rfl | (with_reducible assumption) | exact Nat.le_of_ble_eq_true rfl | omega | (simp <;> omega) | (focus (repeat' (first | (with_reducible assumption) | rfl | apply one_take | apply one_drop)); done))))) <;> (try (conv => whnf))
    refine AWp_loop (σ := Nat) (6 :: 12 :: 70 :: 71 :: 72 :: 73 :: 74 :: 75 :: 76 :: 77 :: 78 :: 79 :: 80 :: 81 :: 82 :: 83 :: 84 :: 85 :: 86 :: 87 :: 88 :: 89 :: 90 :: 91 :: 92 :: 93 :: []) (fun i => [(70, .int .i64 i)]) (fun _ => H.set q (.row [.int .i64 n] 0)) (fun i => i ≤ fs.length ∧ ∀ x ∈ fs.take i, vF n x) (fun i => fs.length - i) 0 rfl ⟨Nat.zero_le _, fun x hx => by simp at hx⟩ ⟨rfl, trivial⟩ (HLe.refl _) ?_
    rintro i ⟨hi, hin2⟩
    refine AWp.of tt_ok (dok _) rfl ?_
    by_cases hil : i < fs.length
    · obtain ⟨x, hx⟩ : ∃ x, fs[i]? = some x := ⟨_, List.getElem?_eq_getElem hil⟩
      have hmem := List.mem_of_getElem? hx
      have hcl := fxL_len fs
      have ho := fxL_one fs
      (iterate 3 ((repeat' ((conv => whnf); first | left | refine OpsA.cons ?_ | refine OpsA.nil ?_ | refine AWq.seq ?_ | refine AWq.region ?_ | refine AWq.cond ?_ | refine AWq.block ?_ | refine AWq.skip ?_ | refine AWq.ret ?_ | refine AWq.exit ?_ | refine AWq.loop ?_ | (refine Both.mk ?_ ?_ <;> intro hc <;> (first | exact Bool.noConfusion hc | exact absurd hc (by assumption) | (exfalso; omega) | skip)) | (intro c hc; (try (simp only [AH.none_iff] at hc; repeat (have hn := hc.1; replace hc := hc.2))); (first | (refine i64_k hc ?_ ?_ ?_ ; omega; omega; (clear hc; intro hc; subst hc)) | skip)) | (apply Exists.intro; apply And.intro; (first | (focus (repeat (first | (with_reducible assumption) | (with_reducible exact AH.set_same _ _ _))); done))) | (apply Exists.intro; apply And.intro; first | (with_reducible assumption) | ((try simp only [List.getElem?_drop, Nat.mul_one, Nat.add_zero, Nat.zero_add]); first | (with_reducible assumption) | rfl)) | (apply And.intro; (first | rfl | (with_reducible assumption) | exact Nat.le_of_ble_eq_true rfl | omega | (simp <;> omega) | (focus (repeat' (first | (with_reducible assumption) | rfl | apply one_take | apply one_drop)); done))))) <;> (try (conv => whnf)); refine Then.mk ?_))
      refine AWq.in ?_
      refine AWp_segP 12 (fxA x) rfl rfl (by (first | assumption | (simp only [AH.none_iff]; (repeat' (first | assumption | (refine And.intro ?_ ?_)))))) (fxL_seg hx) rfl ?_
      refine AWp.of tt_ok (dok _) rfl ?_
      by_cases hv : vF n x
      · obtain ⟨v1, v2, v3⟩ := id hv
        (repeat' ((conv => whnf); first | refine Then.mk ?_ | left | refine OpsA.cons ?_ | refine OpsA.nil ?_ | refine AWq.seq ?_ | refine AWq.region ?_ | refine AWq.cond ?_ | refine AWq.block ?_ | refine AWq.skip ?_ | refine AWq.ret ?_ | refine AWq.exit ?_ | refine AWq.loop ?_ | (refine Both.mk ?_ ?_ <;> intro hc <;> (first | exact Bool.noConfusion hc | exact absurd hc (by assumption) | (exfalso; omega) | skip)) | (intro c hc; (try (simp only [AH.none_iff] at hc; repeat (have hn := hc.1; replace hc := hc.2))); (first | (refine i64_k hc ?_ ?_ ?_ ; omega; omega; (clear hc; intro hc; subst hc)) | skip)) | (apply Exists.intro; apply And.intro; (first | (focus (repeat (first | (with_reducible assumption) | (with_reducible exact AH.set_same _ _ _))); done))) | (apply Exists.intro; apply And.intro; first | (with_reducible assumption) | ((try simp only [List.getElem?_drop, Nat.mul_one, Nat.add_zero, Nat.zero_add]); first | (with_reducible assumption) | rfl)) | (apply And.intro; (first | rfl | (with_reducible assumption) | exact Nat.le_of_ble_eq_true rfl | omega | (simp <;> omega) | (focus (repeat' (first | (with_reducible assumption) | rfl | apply one_take | apply one_drop)); done))) | (refine ACall.to (scene_c _ _ true (decide_eq_true (by assumption)) _ _ (by (first | (focus (repeat (first | (with_reducible assumption) | (with_reducible exact AH.set_same _ _ _))); done)))) ?_) | (refine ACall.to (within1_c _ (by decide) _ true (decide_eq_true (by assumption)) _) ?_) | (refine ACall.to (weight_c _ true (decide_eq_true (by assumption)) _) ?_))) <;> (try (conv => whnf))
        exact ⟨i + 1, ⟨hil, all_take hx hin2 hv⟩, by omega, ⟨congrArg (AV.int .i64) (by omega), trivial⟩, by (first | ((repeat' (first | (with_reducible exact HLe.refl _) | (with_reducible assumption) | refine HLe.set_of _ _ ?_ ?_)); done))⟩
      · have hbad : ¬((∀ x ∈ es, vE n x) ∧ (∀ x ∈ fs, vF n x)) := fun h => hv (h.2 x hmem)
        unfold vF at hv
        by_cases v1 : 0 ≤ x.a ∧ x.a < n
        · by_cases v4 : -65535 ≤ x.v ∧ x.v ≤ 65535
          · have v5 : ¬(1 ≤ x.w ∧ x.w ≤ 65536) := fun v5 => hv ⟨v1, v4, v5⟩
            (repeat' ((conv => whnf); first | refine Then.mk ?_ | left | refine OpsA.cons ?_ | refine OpsA.nil ?_ | refine AWq.seq ?_ | refine AWq.region ?_ | refine AWq.cond ?_ | refine AWq.block ?_ | refine AWq.skip ?_ | refine AWq.ret ?_ | refine AWq.exit ?_ | refine AWq.loop ?_ | (refine Both.mk ?_ ?_ <;> intro hc <;> (first | exact Bool.noConfusion hc | exact absurd hc (by assumption) | (exfalso; omega) | skip)) | (intro c hc; (try (simp only [AH.none_iff] at hc; repeat (have hn := hc.1; replace hc := hc.2))); (first | (refine i64_k hc ?_ ?_ ?_ ; omega; omega; (clear hc; intro hc; subst hc)) | skip)) | (apply Exists.intro; apply And.intro; (first | (focus (repeat (first | (with_reducible assumption) | (with_reducible exact AH.set_same _ _ _))); done))) | (apply Exists.intro; apply And.intro; first | (with_reducible assumption) | ((try simp only [List.getElem?_drop, Nat.mul_one, Nat.add_zero, Nat.zero_add]); first | (with_reducible assumption) | rfl)) | (apply And.intro; (first | rfl | (with_reducible assumption) | exact Nat.le_of_ble_eq_true rfl | omega | (simp <;> omega) | (focus (repeat' (first | (with_reducible assumption) | rfl | apply one_take | apply one_drop)); done))) | (refine ACall.to (scene_c _ _ true (decide_eq_true (by assumption)) _ _ (by (first | (focus (repeat (first | (with_reducible assumption) | (with_reducible exact AH.set_same _ _ _))); done)))) ?_) | (refine ACall.to (within1_c _ (by decide) _ true (decide_eq_true (by assumption)) _) ?_) | (refine ACall.to (weight_c _ false (decide_eq_false (by assumption)) _) ?_))) <;> (try (conv => whnf))
            exact ⟨congrArg (AV.int .i64) (if_neg hbad).symm, by (first | ((repeat' (first | (with_reducible exact HLe.refl _) | (with_reducible assumption) | refine HLe.set_of _ _ ?_ ?_)); done))⟩
          · (repeat' ((conv => whnf); first | refine Then.mk ?_ | left | refine OpsA.cons ?_ | refine OpsA.nil ?_ | refine AWq.seq ?_ | refine AWq.region ?_ | refine AWq.cond ?_ | refine AWq.block ?_ | refine AWq.skip ?_ | refine AWq.ret ?_ | refine AWq.exit ?_ | refine AWq.loop ?_ | (refine Both.mk ?_ ?_ <;> intro hc <;> (first | exact Bool.noConfusion hc | exact absurd hc (by assumption) | (exfalso; omega) | skip)) | (intro c hc; (try (simp only [AH.none_iff] at hc; repeat (have hn := hc.1; replace hc := hc.2))); (first | (refine i64_k hc ?_ ?_ ?_ ; omega; omega; (clear hc; intro hc; subst hc)) | skip)) | (apply Exists.intro; apply And.intro; (first | (focus (repeat (first | (with_reducible assumption) | (with_reducible exact AH.set_same _ _ _))); done))) | (apply Exists.intro; apply And.intro; first | (with_reducible assumption) | ((try simp only [List.getElem?_drop, Nat.mul_one, Nat.add_zero, Nat.zero_add]); first | (with_reducible assumption) | rfl)) | (apply And.intro; (first | rfl | (with_reducible assumption) | exact Nat.le_of_ble_eq_true rfl | omega | (simp <;> omega) | (focus (repeat' (first | (with_reducible assumption) | rfl | apply one_take | apply one_drop)); done))) | (refine ACall.to (scene_c _ _ true (decide_eq_true (by assumption)) _ _ (by (first | (focus (repeat (first | (with_reducible assumption) | (with_reducible exact AH.set_same _ _ _))); done)))) ?_) | (refine ACall.to (within1_c _ (by decide) _ false (decide_eq_false (by assumption)) _) ?_))) <;> (try (conv => whnf))
            exact ⟨congrArg (AV.int .i64) (if_neg hbad).symm, by (first | ((repeat' (first | (with_reducible exact HLe.refl _) | (with_reducible assumption) | refine HLe.set_of _ _ ?_ ?_)); done))⟩
        · (repeat' ((conv => whnf); first | refine Then.mk ?_ | left | refine OpsA.cons ?_ | refine OpsA.nil ?_ | refine AWq.seq ?_ | refine AWq.region ?_ | refine AWq.cond ?_ | refine AWq.block ?_ | refine AWq.skip ?_ | refine AWq.ret ?_ | refine AWq.exit ?_ | refine AWq.loop ?_ | (refine Both.mk ?_ ?_ <;> intro hc <;> (first | exact Bool.noConfusion hc | exact absurd hc (by assumption) | (exfalso; omega) | skip)) | (intro c hc; (try (simp only [AH.none_iff] at hc; repeat (have hn := hc.1; replace hc := hc.2))); (first | (refine i64_k hc ?_ ?_ ?_ ; omega; omega; (clear hc; intro hc; subst hc)) | skip)) | (apply Exists.intro; apply And.intro; (first | (focus (repeat (first | (with_reducible assumption) | (with_reducible exact AH.set_same _ _ _))); done))) | (apply Exists.intro; apply And.intro; first | (with_reducible assumption) | ((try simp only [List.getElem?_drop, Nat.mul_one, Nat.add_zero, Nat.zero_add]); first | (with_reducible assumption) | rfl)) | (apply And.intro; (first | rfl | (with_reducible assumption) | exact Nat.le_of_ble_eq_true rfl | omega | (simp <;> omega) | (focus (repeat' (first | (with_reducible assumption) | rfl | apply one_take | apply one_drop)); done))) | (refine ACall.to (scene_c _ _ false (decide_eq_false v1) _ _ (by (first | (focus (repeat (first | (with_reducible assumption) | (with_reducible exact AH.set_same _ _ _))); done)))) ?_))) <;> (try (conv => whnf))
          exact ⟨congrArg (AV.int .i64) (if_neg hbad).symm, by (first | ((repeat' (first | (with_reducible exact HLe.refl _) | (with_reducible assumption) | refine HLe.set_of _ _ ?_ ?_)); done))⟩
    · have hie : i = fs.length := by omega
      rw [hie, List.take_of_length_le (Nat.le_refl _)] at hin2
      (repeat' ((conv => whnf); first | refine Then.mk ?_ | left | refine OpsA.cons ?_ | refine OpsA.nil ?_ | refine AWq.seq ?_ | refine AWq.region ?_ | refine AWq.cond ?_ | refine AWq.block ?_ | refine AWq.skip ?_ | refine AWq.ret ?_ | refine AWq.exit ?_ | refine AWq.loop ?_ | (refine Both.mk ?_ ?_ <;> intro hc <;> (first | exact Bool.noConfusion hc | exact absurd hc (by assumption) | (exfalso; omega) | skip)) | (intro c hc; (try (simp only [AH.none_iff] at hc; repeat (have hn := hc.1; replace hc := hc.2))); (first | (refine i64_k hc ?_ ?_ ?_ ; omega; omega; (clear hc; intro hc; subst hc)) | skip)) | (apply Exists.intro; apply And.intro; (first | (focus (repeat (first | (with_reducible assumption) | (with_reducible exact AH.set_same _ _ _))); done))) | (apply Exists.intro; apply And.intro; first | (with_reducible assumption) | ((try simp only [List.getElem?_drop, Nat.mul_one, Nat.add_zero, Nat.zero_add]); first | (with_reducible assumption) | rfl)) | (apply And.intro; (first | rfl | (with_reducible assumption) | exact Nat.le_of_ble_eq_true rfl | omega | (simp <;> omega) | (focus (repeat' (first | (with_reducible assumption) | rfl | apply one_take | apply one_drop)); done))))) <;> (try (conv => whnf))
      exact ⟨congrArg (AV.int .i64) (if_pos ⟨hin, hin2⟩).symm, by (first | ((repeat' (first | (with_reducible exact HLe.refl _) | (with_reducible assumption) | refine HLe.set_of _ _ ?_ ?_)); done))⟩
end Go.Proofs.Ytebflkgpbbjhnaa
/- The walks of balance: sums of the flows. -/
namespace Go.Proofs.Ytebflkgpbbjhnaa
open Go.Fw Go
set_option linter.unusedVariables false
set_option linter.unusedSimpArgs false

theorem netN_snoc (A : List Ac) (x : Ac) (v : Nat) : netN (A ++ [x]) v = netN A v + ((if x.a = v then x.f else 0) - (if x.b = v then x.f else 0)) := by
  unfold netN; rw [List.map_append, List.sum_append]; simp
theorem netN_bd {n : Nat} : ∀ {A : List Ac}, (∀ x ∈ A, AcOk n x) → ∀ v, -(65536 * (A.length : Int)) ≤ netN A v ∧ netN A v ≤ 65536 * (A.length : Int)
  | [], _, v => by
    have : netN [] v = 0 := rfl
    rw [this]; simp
  | x :: A, h, v => by
    have ih := netN_bd (A := A) (fun y hy => h y (by simp [hy])) v
    obtain ⟨xa, xb, d1, d2, w1, w2, f1, f2⟩ := h x (by simp)
    have e : netN (x :: A) v = ((if x.a = v then x.f else 0) - (if x.b = v then x.f else 0)) + netN A v := rfl
    rw [e, List.length_cons]
    have : -65536 ≤ (if x.a = v then x.f else 0) - (if x.b = v then x.f else 0) ∧ (if x.a = v then x.f else 0) - (if x.b = v then x.f else 0) ≤ 65536 := by
      split <;> split <;> omega
    omega
theorem dL_wrZ {n i : Nat} (d : Nat → Int) (h : i < n) (x : Int) : wrA (dL n d) (0 + (i : Int).toNat * 1) [.int .i64 x] = dL n (putD d i x) := by
  rw [show 0 + (i : Int).toNat * 1 = i by omega]; exact dL_wr d h x
theorem dL_getZ {n i : Nat} (d : Nat → Int) (h : i < n) : (dL n d)[(i : Int).toNat]? = some (.int .i64 (d i)) := dL_get d h
theorem dL_congr {n : Nat} {d e : Nat → Int} (h : ∀ i, i < n → d i = e i) : dL n d = dL n e := by unfold dL; rw [fnL_congr h]
theorem AH.none_ne' {H : AH} {r s : Nat} {o : AO} (h : H r = none) (k : H s = some o) : s ≠ r := fun e => by rw [e, h] at k; cases k
/-- A network in memory. -/
structure NetAt (H : AH) (n : Nat) (A : List Ac) (g vg ra va : Nat) (lim : Option Nat) : Prop where
  hg : H g = some (.row [.int .i64 n, .sl ra va 5 0 A.length lim] vg)
  ha : H ra = some (.row (acL A) va)
  ne : g ≠ ra
set_option maxRecDepth 8000 in
theorem net_c (n : Nat) (hn : n ≤ 100) (A : List Ac) (hA : ∀ x ∈ A, AcOk n x) (hl : A.length ≤ 100000) (H : AH) (g vg ra va : Nat) (lim : Option Nat) (hN : NetAt H n A g vg ra va lim) :
    ACall Try.prog 37 [.ptr g vg 0] H (fun y H' => y = .cs (dL (n + 1) (netN A)) (n + 1) ∧ H' = H) := by
  refine ACall.cold (es := 1) (by simp) ?_
  obtain ⟨hg, ha, hne⟩ := hN
  refine ACall_of tt_ok (dok _) Try.func37 rfl (by decide) rfl ?_
  (repeat' ((conv => whnf); first | refine Then.mk ?_ | refine OpsA.cons ?_ | refine OpsA.nil ?_ | refine AWq.seq ?_ | refine AWq.region ?_ | refine AWq.cond ?_ | refine AWq.block ?_ | refine AWq.skip ?_ | refine AWq.ret ?_ | refine AWq.exit ?_ | refine AWq.loop ?_ | refine DrawA.consD ?_ | refine DrawA.nil ?_ | refine AWq.draw (by decide +kernel) ?_ | (refine Both.mk ?_ ?_ <;> intro hc <;> (first | exact Bool.noConfusion hc | (exfalso; omega) | skip)) | (intro c hc; (try (simp only [AH.none_iff] at hc; repeat (have hn := hc.1; replace hc := hc.2))); (first | (refine i64_k hc ?_ ?_ ?_ ; omega; omega; (clear hc; intro hc; subst hc)) | skip)) | (apply Exists.intro; apply And.intro; (first | (focus (repeat (first | (with_reducible assumption) | (with_reducible exact AH.set_same _ _ _) | ((first | refine AH.get_ne ?_ ?_); (first | (with_reducible assumption) | exact AH.ne_none (by with_reducible assumption) (by with_reducible assumption))))); done) | (focus (repeat (first | exact AH.set_same _ _ _)); done))) | (apply Exists.intro; apply And.intro; first | (with_reducible assumption) | ((try simp only [List.getElem?_drop, Nat.mul_one, Nat.add_zero, Nat.zero_add]); first | (with_reducible assumption) | rfl)) | (apply And.intro; (first | rfl | (with_reducible assumption) | exact Nat.le_of_ble_eq_true rfl | omega | (simp <;> omega) | (focus (repeat' (first | (with_reducible assumption) | rfl | apply one_take | apply one_drop)); done))))) <;> (try (conv => whnf))
  (obtain ⟨r, hq_⟩ : ∃ r, r = c := ⟨_, rfl⟩); subst hq_
  have hr : H r = none := by assumption
  have ngr : g ≠ r := AH.none_ne' hr hg
  have nar : ra ≠ r := AH.none_ne' hr ha
  have hg' : ∀ o, H.set r o g = some (.row [.int .i64 n, .sl ra va 5 0 A.length lim] vg) := fun o => by rw [AH.set_ne _ _ ngr]; exact hg
  have ha' : ∀ o, H.set r o ra = some (.row (acL A) va) := fun o => by rw [AH.set_ne _ _ nar]; exact ha
  refine AWp_loop (σ := Nat) (5 :: 17 :: 18 :: 19 :: 20 :: 21 :: 22 :: 23 :: 24 :: 25 :: 26 :: 27 :: 28 :: 29 :: 30 :: 31 :: 32 :: 33 :: 34 :: 35 :: 36 :: 37 :: 38 :: 39 :: []) (fun i => [(17, .int .i64 i)]) (fun i => H.set r (.row (dL (n + 1) (netN (A.take i))) 0)) (fun i => i ≤ A.length) (fun i => A.length - i) 0 rfl (Nat.zero_le _) ⟨rfl, trivial⟩ ?_ ?_
  · refine HLe.of_eq ?_
    rw [show ((n : Int) + 1).toNat = n + 1 by omega, dL_zero]
    rfl
  rintro i hi
  refine AWp.of tt_ok (dok _) rfl ?_
  dsimp only at hi ⊢
  by_cases hil : i < A.length
  · obtain ⟨x, hx⟩ : ∃ x, A[i]? = some x := ⟨_, List.getElem?_eq_getElem hil⟩
    have hok := hA x (List.mem_of_getElem? hx)
    obtain ⟨xa, xb, d1, d2, w1, w2, f1, f2⟩ := hok
    have hcl := acL_len A
    have ho := acL_one A
    have hbd := netN_bd (n := n) (A := A.take i) (fun x hx => hA x (List.mem_of_mem_take hx))
    have htl : ((A.take i).length : Int) ≤ 100000 := by rw [List.length_take]; omega
    have hnx : netN (A.take (i + 1)) = putD (putD (netN (A.take i)) x.a (netN (A.take i) x.a + x.f)) x.b (putD (netN (A.take i)) x.a (netN (A.take i) x.a + x.f) x.b - x.f) := by
      funext v
      rw [take_snoc hx, netN_snoc]
      unfold putD
      by_cases e1 : v = x.b
      · by_cases e2 : v = x.a
        · subst e1; simp [e2] <;> omega
        · subst e1; simp [Ne.symm e2, e2] <;> omega
      · by_cases e2 : v = x.a
        · subst e2; simp [e1, Ne.symm e1]
        · simp [e1, e2, Ne.symm e1, Ne.symm e2]
    generalize netN (A.take i) = N at *
    have b1 := hbd x.a
    have b2 := hbd x.b
    have g1 : (dL (n + 1) N)[(x.a : Int).toNat]? = some (.int .i64 (N x.a)) := dL_getZ N (by omega)
    have c2 : -9000000000 ≤ putD N x.a (N x.a + x.f) x.b ∧ putD N x.a (N x.a + x.f) x.b ≤ 9000000000 := by unfold putD; split <;> omega
    have g2 := dL_getZ (n := n + 1) (putD N x.a (N x.a + x.f)) (show x.b < n + 1 by omega)
    have w1' := fun z => dL_wrZ (n := n + 1) N (show x.a < n + 1 by omega) z
    have w2' := fun z => dL_wrZ (n := n + 1) (putD N x.a (N x.a + x.f)) (show x.b < n + 1 by omega) z
    have hdl := dL_len (n + 1) N
    have hdl2 := dL_len (n + 1) (putD N x.a (N x.a + x.f))
    (iterate 3 ((repeat' ((conv => whnf); first | refine OpsA.cons ?_ | refine OpsA.nil ?_ | refine AWq.seq ?_ | refine AWq.region ?_ | refine AWq.cond ?_ | refine AWq.block ?_ | refine AWq.skip ?_ | refine AWq.ret ?_ | refine AWq.exit ?_ | refine AWq.loop ?_ | refine DrawA.consD ?_ | refine DrawA.nil ?_ | refine AWq.draw (by decide +kernel) ?_ | (refine Both.mk ?_ ?_ <;> intro hc <;> (first | exact Bool.noConfusion hc | (exfalso; omega) | skip)) | (intro c hc; (try (simp only [AH.none_iff] at hc; repeat (have hn := hc.1; replace hc := hc.2))); (first | (refine i64_k hc ?_ ?_ ?_ ; omega; omega; (clear hc; intro hc; subst hc)) | skip)) | (apply Exists.intro; apply And.intro; (first | (focus (repeat (first | (with_reducible assumption) | (with_reducible exact AH.set_same _ _ _) | ((first | refine AH.get_ne ?_ ?_); (first | (with_reducible assumption) | exact AH.ne_none (by with_reducible assumption) (by with_reducible assumption))))); done) | (focus (repeat (first | exact AH.set_same _ _ _)); done))) | (apply Exists.intro; apply And.intro; first | (with_reducible assumption) | ((try simp only [List.getElem?_drop, Nat.mul_one, Nat.add_zero, Nat.zero_add]); first | (with_reducible assumption) | rfl)) | (apply And.intro; (first | rfl | (with_reducible assumption) | exact Nat.le_of_ble_eq_true rfl | omega | (simp <;> omega) | (focus (repeat' (first | (with_reducible assumption) | rfl | apply one_take | apply one_drop)); done))))) <;> (try (conv => whnf)); refine Then.mk ?_))
    refine AWq.in ?_
    refine AWp_segP 5 (acA x) rfl rfl (by (first | assumption | (simp only [AH.none_iff]; (repeat' (first | assumption | (refine And.intro ?_ ?_)))))) (acL_segZ hx) rfl ?_
    refine AWp.of tt_ok (dok _) rfl ?_
    (repeat' ((conv => whnf); first | refine OpsA.cons ?_ | refine OpsA.nil ?_ | refine AWq.seq ?_ | refine AWq.region ?_ | refine AWq.cond ?_ | refine AWq.block ?_ | refine AWq.skip ?_ | refine AWq.ret ?_ | refine AWq.exit ?_ | refine AWq.loop ?_ | refine DrawA.consD ?_ | refine DrawA.nil ?_ | refine AWq.draw (by decide +kernel) ?_ | (refine Both.mk ?_ ?_ <;> intro hc <;> (first | exact Bool.noConfusion hc | (exfalso; omega) | skip)) | (intro c hc; (try (simp only [AH.none_iff] at hc; repeat (have hn := hc.1; replace hc := hc.2))); (first | (refine i64_k hc ?_ ?_ ?_ ; omega; omega; (clear hc; intro hc; subst hc)) | skip)) | (apply Exists.intro; apply And.intro; (first | (focus (repeat (first | (with_reducible assumption) | (with_reducible exact AH.set_same _ _ _) | ((first | refine AH.get_ne ?_ ?_); (first | (with_reducible assumption) | exact AH.ne_none (by with_reducible assumption) (by with_reducible assumption))))); done) | (focus (repeat (first | exact AH.set_same _ _ _)); done))) | (apply Exists.intro; apply And.intro; first | (with_reducible assumption) | ((try simp only [List.getElem?_drop, Nat.mul_one, Nat.add_zero, Nat.zero_add]); first | (with_reducible assumption) | rfl)) | (apply And.intro; (first | rfl | (with_reducible assumption) | exact Nat.le_of_ble_eq_true rfl | omega | (simp <;> omega) | (focus (repeat' (first | (with_reducible assumption) | rfl | apply one_take | apply one_drop)); done))))) <;> (try (conv => whnf))
    refine Then.mk (AWq.in ?_)
    refine AWp_rowTo (p := r) (dL (n + 1) (putD N x.a (N x.a + x.f))) (by (first | (focus (repeat (first | (with_reducible assumption) | (with_reducible exact AH.set_same _ _ _) | ((first | refine AH.get_ne ?_ ?_); (first | (with_reducible assumption) | exact AH.ne_none (by with_reducible assumption) (by with_reducible assumption))))); done) | (focus (repeat (first | exact AH.set_same _ _ _)); done))) (AVles.of_eq (w1' _)) ?_
    refine AWp.of tt_ok (dok _) rfl ?_
    (repeat' ((conv => whnf); first | refine OpsA.cons ?_ | refine OpsA.nil ?_ | refine AWq.seq ?_ | refine AWq.region ?_ | refine AWq.cond ?_ | refine AWq.block ?_ | refine AWq.skip ?_ | refine AWq.ret ?_ | refine AWq.exit ?_ | refine AWq.loop ?_ | refine DrawA.consD ?_ | refine DrawA.nil ?_ | refine AWq.draw (by decide +kernel) ?_ | (refine Both.mk ?_ ?_ <;> intro hc <;> (first | exact Bool.noConfusion hc | (exfalso; omega) | skip)) | (intro c hc; (try (simp only [AH.none_iff] at hc; repeat (have hn := hc.1; replace hc := hc.2))); (first | (refine i64_k hc ?_ ?_ ?_ ; omega; omega; (clear hc; intro hc; subst hc)) | skip)) | (apply Exists.intro; apply And.intro; (first | (focus (repeat (first | (with_reducible assumption) | (with_reducible exact AH.set_same _ _ _) | ((first | refine AH.get_ne ?_ ?_); (first | (with_reducible assumption) | exact AH.ne_none (by with_reducible assumption) (by with_reducible assumption))))); done) | (focus (repeat (first | exact AH.set_same _ _ _)); done))) | (apply Exists.intro; apply And.intro; first | (with_reducible assumption) | ((try simp only [List.getElem?_drop, Nat.mul_one, Nat.add_zero, Nat.zero_add]); first | (with_reducible assumption) | rfl)) | (apply And.intro; (first | rfl | (with_reducible assumption) | exact Nat.le_of_ble_eq_true rfl | omega | (simp <;> omega) | (focus (repeat' (first | (with_reducible assumption) | rfl | apply one_take | apply one_drop)); done))))) <;> (try (conv => whnf))
    refine Then.mk (AWq.in ?_)
    refine AWp_rowTo (p := r) (dL (n + 1) (putD (putD N x.a (N x.a + x.f)) x.b (putD N x.a (N x.a + x.f) x.b - x.f))) (by (first | (focus (repeat (first | (with_reducible assumption) | (with_reducible exact AH.set_same _ _ _) | ((first | refine AH.get_ne ?_ ?_); (first | (with_reducible assumption) | exact AH.ne_none (by with_reducible assumption) (by with_reducible assumption))))); done) | (focus (repeat (first | exact AH.set_same _ _ _)); done))) (AVles.of_eq (w2' _)) ?_
    refine AWp.of tt_ok (dok _) rfl ?_
    (repeat' ((conv => whnf); first | refine Then.mk ?_ | refine OpsA.cons ?_ | refine OpsA.nil ?_ | refine AWq.seq ?_ | refine AWq.region ?_ | refine AWq.cond ?_ | refine AWq.block ?_ | refine AWq.skip ?_ | refine AWq.ret ?_ | refine AWq.exit ?_ | refine AWq.loop ?_ | refine DrawA.consD ?_ | refine DrawA.nil ?_ | refine AWq.draw (by decide +kernel) ?_ | (refine Both.mk ?_ ?_ <;> intro hc <;> (first | exact Bool.noConfusion hc | (exfalso; omega) | skip)) | (intro c hc; (try (simp only [AH.none_iff] at hc; repeat (have hn := hc.1; replace hc := hc.2))); (first | (refine i64_k hc ?_ ?_ ?_ ; omega; omega; (clear hc; intro hc; subst hc)) | skip)) | (apply Exists.intro; apply And.intro; (first | (focus (repeat (first | (with_reducible assumption) | (with_reducible exact AH.set_same _ _ _) | ((first | refine AH.get_ne ?_ ?_); (first | (with_reducible assumption) | exact AH.ne_none (by with_reducible assumption) (by with_reducible assumption))))); done) | (focus (repeat (first | exact AH.set_same _ _ _)); done))) | (apply Exists.intro; apply And.intro; first | (with_reducible assumption) | ((try simp only [List.getElem?_drop, Nat.mul_one, Nat.add_zero, Nat.zero_add]); first | (with_reducible assumption) | rfl)) | (apply And.intro; (first | rfl | (with_reducible assumption) | exact Nat.le_of_ble_eq_true rfl | omega | (simp <;> omega) | (focus (repeat' (first | (with_reducible assumption) | rfl | apply one_take | apply one_drop)); done))))) <;> (try (conv => whnf))
    refine ⟨i + 1, hil, by omega, ⟨congrArg (AV.int .i64) (by omega), trivial⟩, ?_⟩
    dsimp only
    rw [hnx]
    ((repeat' (first | (with_reducible exact HLe.refl _) | (with_reducible assumption) | apply HLe.push)))
    done
  · (repeat' ((conv => whnf); first | refine Then.mk ?_ | refine OpsA.cons ?_ | refine OpsA.nil ?_ | refine AWq.seq ?_ | refine AWq.region ?_ | refine AWq.cond ?_ | refine AWq.block ?_ | refine AWq.skip ?_ | refine AWq.ret ?_ | refine AWq.exit ?_ | refine AWq.loop ?_ | refine DrawA.consD ?_ | refine DrawA.nil ?_ | refine AWq.draw (by decide +kernel) ?_ | (refine Both.mk ?_ ?_ <;> intro hc <;> (first | exact Bool.noConfusion hc | (exfalso; omega) | skip)) | (intro c hc; (try (simp only [AH.none_iff] at hc; repeat (have hn := hc.1; replace hc := hc.2))); (first | (refine i64_k hc ?_ ?_ ?_ ; omega; omega; (clear hc; intro hc; subst hc)) | skip)) | (apply Exists.intro; apply And.intro; (first | (focus (repeat (first | (with_reducible assumption) | (with_reducible exact AH.set_same _ _ _) | ((first | refine AH.get_ne ?_ ?_); (first | (with_reducible assumption) | exact AH.ne_none (by with_reducible assumption) (by with_reducible assumption))))); done) | (focus (repeat (first | exact AH.set_same _ _ _)); done))) | (apply Exists.intro; apply And.intro; first | (with_reducible assumption) | ((try simp only [List.getElem?_drop, Nat.mul_one, Nat.add_zero, Nat.zero_add]); first | (with_reducible assumption) | rfl)) | (apply And.intro; (first | rfl | (with_reducible assumption) | exact Nat.le_of_ble_eq_true rfl | omega | (simp <;> omega) | (focus (repeat' (first | (with_reducible assumption) | rfl | apply one_take | apply one_drop)); done))))) <;> (try (conv => whnf))
    rw [List.take_of_length_le (by omega)]
end Go.Proofs.Ytebflkgpbbjhnaa
/- The walks of balance: distances. -/
namespace Go.Proofs.Ytebflkgpbbjhnaa
open Go.Fw Go
set_option linter.unusedVariables false
set_option linter.unusedSimpArgs false

theorem rlxF (σ : Ds) (x : Ac) : Rlx σ x false ↔ -x.w < x.f ∧ σ.d x.a < 1125899906842624 ∧ σ.d x.a - x.d < σ.d x.b := by
  unfold Rlx Rs far
  show (_ ∧ σ.d x.a < _ ∧ σ.d x.a + -x.d < σ.d x.b) ↔ _
  simp only [Bool.false_eq_true, if_false]
  constructor <;> (intro h; omega)
theorem rlxT (σ : Ds) (x : Ac) : Rlx σ x true ↔ x.f < x.w ∧ σ.d x.b < 1125899906842624 ∧ σ.d x.b + x.d < σ.d x.a := by
  unfold Rlx Rs far
  show (_ ∧ σ.d x.b < _ ∧ σ.d x.b + x.d < σ.d x.a) ↔ _
  simp only [if_true]
theorem stL_wrZ {n i : Nat} (s : Nat → Nat × Bool) (h : i < n) (x : Nat × Bool) : wrA (stL n s) (0 + (i : Int).toNat * 2) (stA x) = stL n (putS' s i x) := by
  rw [show 0 + (i : Int).toNat * 2 = i * 2 by omega]; exact stL_wr s h x
/-- The heap in which distances are made. -/
def dsH (H : AH) (n rd vd rs : Nat) (σ : Ds) : AH := (H.set rd (.row (dL (n + 1) σ.d) vd)).set rs (.row (stL (n + 1) σ.s) 0)
theorem dsH_put {H : AH} {n rd vd rs : Nat} {σ : Ds} (hne : rd ≠ rs) {b : Nat} (hb : b ≤ n) (z : Int) (i : Nat) (up : Bool) :
    dsH H n rd vd rs ⟨putD σ.d b z, putS' σ.s b (i, up)⟩ = ((dsH H n rd vd rs σ).set rd (.row (wrA (dL (n + 1) σ.d) (0 + (b : Int).toNat * 1) [.int .i64 z]) vd)).set rs (.row (wrA (stL (n + 1) σ.s) (0 + (b : Int).toNat * 2) (stA (i, up))) 0) := by
  rw [dL_wrZ σ.d (by omega), stL_wrZ σ.s (by omega)]
  unfold dsH
  rw [AH.set_comm (H.set rd _) _ _ (Ne.symm hne), AH.set_set, AH.set_set]
theorem dsH_F {H : AH} {n rd vd rs : Nat} {σ : Ds} (hne : rd ≠ rs) {x : Ac} (hb : x.b ≤ n) (i : Nat) :
    dsH H n rd vd rs (rlx σ i x false) = ((dsH H n rd vd rs σ).set rd (.row (wrA (dL (n + 1) σ.d) (0 + (x.b : Int).toNat * 1) [.int .i64 (σ.d x.a - x.d)]) vd)).set rs (.row (wrA (stL (n + 1) σ.s) (0 + (x.b : Int).toNat * 2) [.int .i64 i, .bool false]) 0) :=
  dsH_put hne hb _ i false
theorem dsH_T {H : AH} {n rd vd rs : Nat} {σ : Ds} (hne : rd ≠ rs) {x : Ac} (hb : x.a ≤ n) (i : Nat) :
    dsH H n rd vd rs (rlx σ i x true) = ((dsH H n rd vd rs σ).set rd (.row (wrA (dL (n + 1) σ.d) (0 + (x.a : Int).toNat * 1) [.int .i64 (σ.d x.b + x.d)]) vd)).set rs (.row (wrA (stL (n + 1) σ.s) (0 + (x.a : Int).toNat * 2) [.int .i64 i, .bool true]) 0) :=
  dsH_put hne hb _ i true
set_option maxHeartbeats 4000000 in
set_option maxRecDepth 8000 in
theorem distances_c (n : Nat) (hn : n ≤ 100) (A : List Ac) (hA : ∀ x ∈ A, AcOk n x) (hl : A.length ≤ 100000) (Q : Ds → Prop) (wt : Ds → Nat)
    (hQ : ∀ σ i x up, Q σ → A[i]? = some x → Rlx σ x up → Q (rlx σ i x up) ∧ wt (rlx σ i x up) < wt σ) (hB : ∀ σ, Q σ → ∀ v, v ≤ n → -1152921504606846976 ≤ σ.d v ∧ σ.d v ≤ 1152921504606846976)
    (d0 : Nat → Int) (h0 : Q ⟨d0, fun _ => (0, false)⟩) (H : AH) (g vg ra va : Nat) (lim lim' : Option Nat) (hN : NetAt H n A g vg ra va lim) (rd vd : Nat) (hd : H rd = some (.row (dL (n + 1) d0) vd)) (hdg : rd ≠ g) (hda : rd ≠ ra) :
    ACall Try.prog 41 [.ptr g vg 0, .sl rd vd 1 0 (n + 1) lim'] H (fun y H' => ∃ σ rs, Q σ ∧ Stab A σ ∧ H rs = none ∧ y = .sl rs 0 2 0 (n + 1) none ∧ H' = dsH H n rd vd rs σ) := by
  obtain ⟨hg, ha, hne⟩ := hN
  refine ACall_of tt_ok (dok _) Try.func41 rfl (by decide) rfl ?_
  (repeat' ((conv => whnf); first | refine Then.mk ?_ | refine OpsA.cons ?_ | refine OpsA.nil ?_ | refine AWq.seq ?_ | refine AWq.region ?_ | refine AWq.cond ?_ | refine AWq.block ?_ | refine AWq.skip ?_ | refine AWq.ret ?_ | refine AWq.exit ?_ | refine AWq.loop ?_ | refine DrawA.consD ?_ | refine DrawA.nil ?_ | refine AWq.draw (by decide +kernel) ?_ | (refine Both.mk ?_ ?_ <;> intro hc <;> (first | exact Bool.noConfusion hc | (exfalso; omega) | skip)) | (intro c hc; (try (simp only [AH.none_iff] at hc; repeat (have hn := hc.1; replace hc := hc.2))); (first | (refine i64_k hc ?_ ?_ ?_ ; omega; omega; (clear hc; intro hc; subst hc)) | skip)) | (apply Exists.intro; apply And.intro; (first | (focus (repeat (first | (with_reducible assumption) | (with_reducible exact AH.set_same _ _ _) | ((first | refine AH.get_ne ?_ ?_); (first | (with_reducible assumption) | exact Ne.symm (by with_reducible assumption))))); done))) | (apply Exists.intro; apply And.intro; first | (with_reducible assumption) | ((try simp only [List.getElem?_drop, Nat.mul_one, Nat.add_zero, Nat.zero_add]); first | (with_reducible assumption) | rfl)) | (apply Exists.intro; apply And.intro; (focus (intro G; ((conv => whnf); (try left); (conv => whnf); first | exact And.intro rfl rfl)))) | (apply And.intro; (first | rfl | (with_reducible assumption) | exact Nat.le_of_ble_eq_true rfl | omega | (simp <;> omega) | (focus (repeat' (first | (with_reducible assumption) | rfl | apply one_take | apply one_drop)); done))))) <;> (try (conv => whnf))
  (obtain ⟨r, hq_⟩ : ∃ r, r = c := ⟨_, rfl⟩); subst hq_
  have hr : H r = none := by assumption
  have ngr : g ≠ r := AH.none_ne' hr hg
  have nar : ra ≠ r := AH.none_ne' hr ha
  have ndr : rd ≠ r := AH.none_ne' hr hd
  have hG : ∀ σ, dsH H n rd vd r σ g = some (.row [.int .i64 n, .sl ra va 5 0 A.length lim] vg) := fun σ => by
    unfold dsH; rw [AH.set_ne _ _ ngr, AH.set_ne _ _ (Ne.symm hdg)]; exact hg
  have hGa : ∀ σ, dsH H n rd vd r σ ra = some (.row (acL A) va) := fun σ => by
    unfold dsH; rw [AH.set_ne _ _ nar, AH.set_ne _ _ (Ne.symm hda)]; exact ha
  have hGd : ∀ σ, dsH H n rd vd r σ rd = some (.row (dL (n + 1) σ.d) vd) := fun σ => by
    unfold dsH; rw [AH.set_ne _ _ ndr, AH.set_same]
  have hGs : ∀ σ, dsH H n rd vd r σ r = some (.row (stL (n + 1) σ.s) 0) := fun σ => by
    unfold dsH; rw [AH.set_same]
  have hcl := acL_len A
  have ho := acL_one A
  refine AWp_loop (σ := Ds × Bool) (6 :: 7 :: 8 :: 12 :: 13 :: 14 :: 15 :: 16 :: 17 :: 18 :: 19 :: 20 :: 21 :: 22 :: 23 :: 24 :: 25 :: 26 :: 27 :: 28 :: 29 :: 30 :: 31 :: 32 :: 33 :: 34 :: 35 :: 36 :: 37 :: 38 :: 39 :: 40 :: 41 :: 42 :: 43 :: 44 :: 45 :: 46 :: 47 :: 48 :: 49 :: 50 :: 51 :: 52 :: 53 :: 54 :: 55 :: 56 :: 57 :: 58 :: 59 :: 60 :: 61 :: 62 :: 63 :: 64 :: 65 :: 66 :: 67 :: 68 :: 69 :: 70 :: 71 :: 72 :: 73 :: 74 :: 75 :: 76 :: 77 :: 78 :: 79 :: 80 :: 81 :: 82 :: 83 :: 84 :: 85 :: 86 :: 87 :: 88 :: 89 :: 90 :: 91 :: 92 :: 93 :: 94 :: 95 :: 96 :: 97 :: 98 :: 99 :: 100 :: 101 :: 102 :: 103 :: 104 :: 105 :: 106 :: 107 :: 108 :: 109 :: 110 :: 111 :: 112 :: 113 :: 114 :: 115 :: 116 :: 117 :: 118 :: []) (fun s => [(6, .bool s.2)]) (fun s => dsH H n rd vd r s.1) (fun s => Q s.1 ∧ (s.2 = false → Stab A s.1)) (fun s => 2 * wt s.1 + cond s.2 1 0) (⟨d0, fun _ => (0, false)⟩, true) rfl ⟨h0, fun h => by cases h⟩ ⟨rfl, trivial⟩ ?_ ?_
  · refine HLe.of_eq ?_
    show _ = H.set r (.row (List.replicate (((n + 1 : Nat) : Int)).toNat [AV.int .i64 0, AV.bool false]).flatten 0)
    rw [Int.toNat_natCast, stL_zero]
    unfold dsH
    rw [AH.set_id hd]
  rintro ⟨σ, ch⟩ ⟨hq, hst⟩
  dsimp only at hq hst ⊢
  refine AWp.of tt_ok (dok _) rfl ?_
  cases ch with
  | false =>
    (repeat' ((conv => whnf); first | refine Then.mk ?_ | refine OpsA.cons ?_ | refine OpsA.nil ?_ | refine AWq.seq ?_ | refine AWq.region ?_ | refine AWq.cond ?_ | refine AWq.block ?_ | refine AWq.skip ?_ | refine AWq.ret ?_ | refine AWq.exit ?_ | refine AWq.loop ?_ | refine DrawA.consD ?_ | refine DrawA.nil ?_ | refine AWq.draw (by decide +kernel) ?_ | (refine Both.mk ?_ ?_ <;> intro hc <;> (first | exact Bool.noConfusion hc | (exfalso; omega) | skip)) | (intro c hc; (try (simp only [AH.none_iff] at hc; repeat (have hn := hc.1; replace hc := hc.2))); (first | (refine i64_k hc ?_ ?_ ?_ ; omega; omega; (clear hc; intro hc; subst hc)) | skip)) | (apply Exists.intro; apply And.intro; (first | (focus (repeat (first | (with_reducible assumption) | (with_reducible exact AH.set_same _ _ _) | ((first | refine AH.get_ne ?_ ?_); (first | (with_reducible assumption) | exact Ne.symm (by with_reducible assumption))))); done))) | (apply Exists.intro; apply And.intro; first | (with_reducible assumption) | ((try simp only [List.getElem?_drop, Nat.mul_one, Nat.add_zero, Nat.zero_add]); first | (with_reducible assumption) | rfl)) | (apply Exists.intro; apply And.intro; (focus (intro G; ((conv => whnf); (try left); (conv => whnf); first | exact And.intro rfl rfl)))) | (apply And.intro; (first | rfl | (with_reducible assumption) | exact Nat.le_of_ble_eq_true rfl | omega | (simp <;> omega) | (focus (repeat' (first | (with_reducible assumption) | rfl | apply one_take | apply one_drop)); done))))) <;> (try (conv => whnf))
    exact ⟨σ, r, hq, hst rfl, hr, rfl, rfl⟩
  | true =>
    have hG1 := hG σ
    (repeat' ((conv => whnf); first | refine Then.mk ?_ | refine OpsA.cons ?_ | refine OpsA.nil ?_ | refine AWq.seq ?_ | refine AWq.region ?_ | refine AWq.cond ?_ | refine AWq.block ?_ | refine AWq.skip ?_ | refine AWq.ret ?_ | refine AWq.exit ?_ | refine AWq.loop ?_ | refine DrawA.consD ?_ | refine DrawA.nil ?_ | refine AWq.draw (by decide +kernel) ?_ | (refine Both.mk ?_ ?_ <;> intro hc <;> (first | exact Bool.noConfusion hc | (exfalso; omega) | skip)) | (intro c hc; (try (simp only [AH.none_iff] at hc; repeat (have hn := hc.1; replace hc := hc.2))); (first | (refine i64_k hc ?_ ?_ ?_ ; omega; omega; (clear hc; intro hc; subst hc)) | skip)) | (apply Exists.intro; apply And.intro; (first | (focus (repeat (first | (with_reducible assumption) | (with_reducible exact AH.set_same _ _ _) | ((first | refine AH.get_ne ?_ ?_); (first | (with_reducible assumption) | exact Ne.symm (by with_reducible assumption))))); done))) | (apply Exists.intro; apply And.intro; first | (with_reducible assumption) | ((try simp only [List.getElem?_drop, Nat.mul_one, Nat.add_zero, Nat.zero_add]); first | (with_reducible assumption) | rfl)) | (apply Exists.intro; apply And.intro; (focus (intro G; ((conv => whnf); (try left); (conv => whnf); first | exact And.intro rfl rfl)))) | (apply And.intro; (first | rfl | (with_reducible assumption) | exact Nat.le_of_ble_eq_true rfl | omega | (simp <;> omega) | (focus (repeat' (first | (with_reducible assumption) | rfl | apply one_take | apply one_drop)); done))))) <;> (try (conv => whnf))
    refine AWp_loop (σ := Ds × Bool × Nat) (6 :: 7 :: 8 :: 18 :: 19 :: 20 :: 21 :: 22 :: 23 :: 24 :: 25 :: 26 :: 27 :: 28 :: 29 :: 30 :: 31 :: 32 :: 33 :: 34 :: 35 :: 36 :: 37 :: 38 :: 39 :: 40 :: 41 :: 42 :: 43 :: 44 :: 45 :: 46 :: 47 :: 48 :: 49 :: 50 :: 51 :: 52 :: 53 :: 54 :: 55 :: 56 :: 57 :: 58 :: 59 :: 60 :: 61 :: 62 :: 63 :: 64 :: 65 :: 66 :: 67 :: 68 :: 69 :: 70 :: 71 :: 72 :: 73 :: 74 :: 75 :: 76 :: 77 :: 78 :: 79 :: 80 :: 81 :: 82 :: 83 :: 84 :: 85 :: 86 :: 87 :: 88 :: 89 :: 90 :: 91 :: 92 :: 93 :: 94 :: 95 :: 96 :: 97 :: 98 :: 99 :: 100 :: 101 :: 102 :: 103 :: 104 :: 105 :: 106 :: 107 :: 108 :: 109 :: 110 :: 111 :: 112 :: 113 :: 114 :: 115 :: 116 :: 117 :: 118 :: []) (fun s => [(6, .bool s.2.1), (18, .int .i64 s.2.2)]) (fun s => dsH H n rd vd r s.1)
      (fun s => s.2.2 ≤ A.length ∧ Q s.1 ∧ (s.2.1 = false → s.1 = σ ∧ ∀ j x up, j < s.2.2 → A[j]? = some x → ¬ Rlx σ x up) ∧ (s.2.1 = true → wt s.1 < wt σ)) (fun s => A.length - s.2.2) (σ, false, 0) rfl ⟨Nat.zero_le _, hq, fun _ => ⟨rfl, fun j x up hj => absurd hj (Nat.not_lt_zero j)⟩, fun h => by cases h⟩ ⟨rfl, rfl, trivial⟩ (HLe.refl _) ?_
    rintro ⟨τ, ch, i⟩ ⟨hi, hqt, hf, ht⟩
    dsimp only at hi hqt hf ht ⊢
    refine AWp.of tt_ok (dok _) rfl ?_
    by_cases hil : i < A.length
    · obtain ⟨x, hx⟩ : ∃ x, A[i]? = some x := ⟨_, List.getElem?_eq_getElem hil⟩
      have hok := hA x (List.mem_of_getElem? hx)
      obtain ⟨xa, xb, d1, d2, w1, w2, f1, f2⟩ := hok
      have hGa1 := hGa τ
      have hdl := fun σ : Ds => dL_len (n + 1) σ.d
      have hsl := fun σ : Ds => stL_len (n + 1) σ.s
      have hfin : ∀ {τ : Ds}, (ch = false → τ = σ ∧ ∀ (j : Nat) (x : Ac) (up : Bool), j < i → A[j]? = some x → ¬ Rlx σ x up) → ¬ Rlx τ x false → ¬ Rlx τ x true → (ch = false → τ = σ ∧ ∀ (j : Nat) (x : Ac) (up : Bool), j < i + 1 → A[j]? = some x → ¬ Rlx σ x up) := by
        intro τ hf h1 h2 hc
        obtain ⟨rfl, hno⟩ := hf hc
        refine ⟨rfl, fun j y up hj hy => ?_⟩
        by_cases e : j = i
        · subst e
          rw [hx] at hy; cases hy
          cases up
          · exact h1
          · exact h2
        · exact hno j y up (by omega) hy
      by_cases hR1 : Rlx τ x false
      · have hr1 := (rlxF τ x).1 hR1
        obtain ⟨hq1, hlt1⟩ := hQ τ i x false hqt hx hR1
        have hGd1 := hGd τ
        have hGs1 := hGs τ
        have hBa := hB τ hqt x.a xa
        have hBb := hB τ hqt x.b xb
        have ga := dL_getZ (n := n + 1) τ.d (show x.a < n + 1 by omega)
        have gb := dL_getZ (n := n + 1) τ.d (show x.b < n + 1 by omega)
        have hd1 := hdl τ
        have hs1 := hsl τ
        have hall1 : wt (rlx τ i x false) < wt σ := by
          cases ch with
          | false => obtain ⟨rfl, _⟩ := hf rfl; exact hlt1
          | true => exact Nat.lt_trans hlt1 (ht rfl)
        (iterate 3 ((repeat' ((conv => whnf); first | refine OpsA.cons ?_ | refine OpsA.nil ?_ | refine AWq.seq ?_ | refine AWq.region ?_ | refine AWq.cond ?_ | refine AWq.block ?_ | refine AWq.skip ?_ | refine AWq.ret ?_ | refine AWq.exit ?_ | refine AWq.loop ?_ | refine DrawA.consD ?_ | refine DrawA.nil ?_ | refine AWq.draw (by decide +kernel) ?_ | (refine Both.mk ?_ ?_ <;> intro hc <;> (first | exact Bool.noConfusion hc | (exfalso; omega) | skip)) | (intro c hc; (try (simp only [AH.none_iff] at hc; repeat (have hn := hc.1; replace hc := hc.2))); (first | (refine i64_k hc ?_ ?_ ?_ ; omega; omega; (clear hc; intro hc; subst hc)) | skip)) | (apply Exists.intro; apply And.intro; (first | (focus (repeat (first | (with_reducible assumption) | (with_reducible exact AH.set_same _ _ _) | ((first | refine AH.get_ne ?_ ?_); (first | (with_reducible assumption) | exact Ne.symm (by with_reducible assumption))))); done))) | (apply Exists.intro; apply And.intro; first | (with_reducible assumption) | ((try simp only [List.getElem?_drop, Nat.mul_one, Nat.add_zero, Nat.zero_add]); first | (with_reducible assumption) | rfl)) | (apply Exists.intro; apply And.intro; (focus (intro G; ((conv => whnf); (try left); (conv => whnf); first | exact And.intro rfl rfl)))) | (apply And.intro; (first | rfl | (with_reducible assumption) | exact Nat.le_of_ble_eq_true rfl | omega | (simp <;> omega) | (focus (repeat' (first | (with_reducible assumption) | rfl | apply one_take | apply one_drop)); done))))) <;> (try (conv => whnf)); refine Then.mk ?_))
        refine AWq.in ?_
        refine AWp_segP 8 (acA x) rfl rfl (by (first | assumption | (simp only [AH.none_iff]; (repeat' (first | assumption | (refine And.intro ?_ ?_)))))) (acL_segZ hx) rfl ?_
        refine AWp.of tt_ok (dok _) rfl ?_
        (iterate 1 ((repeat' ((conv => whnf); first | refine OpsA.cons ?_ | refine OpsA.nil ?_ | refine AWq.seq ?_ | refine AWq.region ?_ | refine AWq.cond ?_ | refine AWq.block ?_ | refine AWq.skip ?_ | refine AWq.ret ?_ | refine AWq.exit ?_ | refine AWq.loop ?_ | refine DrawA.consD ?_ | refine DrawA.nil ?_ | refine AWq.draw (by decide +kernel) ?_ | (refine Both.mk ?_ ?_ <;> intro hc <;> (first | exact Bool.noConfusion hc | (exfalso; omega) | skip)) | (intro c hc; (try (simp only [AH.none_iff] at hc; repeat (have hn := hc.1; replace hc := hc.2))); (first | (refine i64_k hc ?_ ?_ ?_ ; omega; omega; (clear hc; intro hc; subst hc)) | skip)) | (apply Exists.intro; apply And.intro; (first | (focus (repeat (first | (with_reducible assumption) | (with_reducible exact AH.set_same _ _ _) | ((first | refine AH.get_ne ?_ ?_); (first | (with_reducible assumption) | exact Ne.symm (by with_reducible assumption))))); done))) | (apply Exists.intro; apply And.intro; first | (with_reducible assumption) | ((try simp only [List.getElem?_drop, Nat.mul_one, Nat.add_zero, Nat.zero_add]); first | (with_reducible assumption) | rfl)) | (apply Exists.intro; apply And.intro; (focus (intro G; ((conv => whnf); (try left); (conv => whnf); first | exact And.intro rfl rfl)))) | (apply And.intro; (first | rfl | (with_reducible assumption) | exact Nat.le_of_ble_eq_true rfl | omega | (simp <;> omega) | (focus (repeat' (first | (with_reducible assumption) | rfl | apply one_take | apply one_drop)); done))))) <;> (try (conv => whnf)); refine Then.mk ?_))
        (repeat' ((conv => whnf); first | refine OpsA.cons ?_ | refine OpsA.nil ?_ | refine AWq.seq ?_ | refine AWq.region ?_ | refine AWq.cond ?_ | refine AWq.block ?_ | refine AWq.skip ?_ | refine AWq.ret ?_ | refine AWq.exit ?_ | refine AWq.loop ?_ | refine DrawA.consD ?_ | refine DrawA.nil ?_ | refine AWq.draw (by decide +kernel) ?_ | (refine Both.mk ?_ ?_ <;> intro hc <;> (first | exact Bool.noConfusion hc | (exfalso; omega) | skip)) | (intro c hc; (try (simp only [AH.none_iff] at hc; repeat (have hn := hc.1; replace hc := hc.2))); (first | (refine i64_k hc ?_ ?_ ?_ ; omega; omega; (clear hc; intro hc; subst hc)) | skip)) | (apply Exists.intro; apply And.intro; (first | (focus (repeat (first | (with_reducible assumption) | (with_reducible exact AH.set_same _ _ _) | ((first | refine AH.get_ne ?_ ?_); (first | (with_reducible assumption) | exact Ne.symm (by with_reducible assumption))))); done))) | (apply Exists.intro; apply And.intro; first | (with_reducible assumption) | ((try simp only [List.getElem?_drop, Nat.mul_one, Nat.add_zero, Nat.zero_add]); first | (with_reducible assumption) | rfl)) | (apply Exists.intro; apply And.intro; (focus (intro G; ((conv => whnf); (try left); (conv => whnf); first | exact And.intro rfl rfl)))) | (apply And.intro; (first | rfl | (with_reducible assumption) | exact Nat.le_of_ble_eq_true rfl | omega | (simp <;> omega) | (focus (repeat' (first | (with_reducible assumption) | rfl | apply one_take | apply one_drop)); done))))) <;> (try (conv => whnf))
        refine AWq.drawM ([], [58, 68]) (by decide +kernel) ?_
        (repeat' ((conv => whnf); first | refine OpsA.cons ?_ | refine OpsA.nil ?_ | refine AWq.seq ?_ | refine AWq.region ?_ | refine AWq.cond ?_ | refine AWq.block ?_ | refine AWq.skip ?_ | refine AWq.ret ?_ | refine AWq.exit ?_ | refine AWq.loop ?_ | refine DrawA.consD ?_ | refine DrawA.nil ?_ | refine AWq.draw (by decide +kernel) ?_ | (refine Both.mk ?_ ?_ <;> intro hc <;> (first | exact Bool.noConfusion hc | (exfalso; omega) | skip)) | (intro c hc; (try (simp only [AH.none_iff] at hc; repeat (have hn := hc.1; replace hc := hc.2))); (first | (refine i64_k hc ?_ ?_ ?_ ; omega; omega; (clear hc; intro hc; subst hc)) | skip)) | (apply Exists.intro; apply And.intro; (first | (focus (repeat (first | (with_reducible assumption) | (with_reducible exact AH.set_same _ _ _) | ((first | refine AH.get_ne ?_ ?_); (first | (with_reducible assumption) | exact Ne.symm (by with_reducible assumption))))); done))) | (apply Exists.intro; apply And.intro; first | (with_reducible assumption) | ((try simp only [List.getElem?_drop, Nat.mul_one, Nat.add_zero, Nat.zero_add]); first | (with_reducible assumption) | rfl)) | (apply Exists.intro; apply And.intro; (focus (intro G; ((conv => whnf); (try left); (conv => whnf); first | exact And.intro rfl rfl)))) | (apply And.intro; (first | rfl | (with_reducible assumption) | exact Nat.le_of_ble_eq_true rfl | omega | (simp <;> omega) | (focus (repeat' (first | (with_reducible assumption) | rfl | apply one_take | apply one_drop)); done))))) <;> (try (conv => whnf))
        refine Then.mk (AWq.in ?_)
        refine AWp_less (dsH H n rd vd r (rlx τ i x false)) (HLe.of_eq (dsH_F ndr xb i)) ?_
        refine AWp.of tt_ok (dok _) rfl ?_
        (iterate 1 ((repeat' ((conv => whnf); first | refine OpsA.cons ?_ | refine OpsA.nil ?_ | refine AWq.seq ?_ | refine AWq.region ?_ | refine AWq.cond ?_ | refine AWq.block ?_ | refine AWq.skip ?_ | refine AWq.ret ?_ | refine AWq.exit ?_ | refine AWq.loop ?_ | refine DrawA.consD ?_ | refine DrawA.nil ?_ | refine AWq.draw (by decide +kernel) ?_ | (refine Both.mk ?_ ?_ <;> intro hc <;> (first | exact Bool.noConfusion hc | (exfalso; omega) | skip)) | (intro c hc; (try (simp only [AH.none_iff] at hc; repeat (have hn := hc.1; replace hc := hc.2))); (first | (refine i64_k hc ?_ ?_ ?_ ; omega; omega; (clear hc; intro hc; subst hc)) | skip)) | (apply Exists.intro; apply And.intro; (first | (focus (repeat (first | (with_reducible assumption) | (with_reducible exact AH.set_same _ _ _) | ((first | refine AH.get_ne ?_ ?_); (first | (with_reducible assumption) | exact Ne.symm (by with_reducible assumption))))); done))) | (apply Exists.intro; apply And.intro; first | (with_reducible assumption) | ((try simp only [List.getElem?_drop, Nat.mul_one, Nat.add_zero, Nat.zero_add]); first | (with_reducible assumption) | rfl)) | (apply Exists.intro; apply And.intro; (focus (intro G; ((conv => whnf); (try left); (conv => whnf); first | exact And.intro rfl rfl)))) | (apply And.intro; (first | rfl | (with_reducible assumption) | exact Nat.le_of_ble_eq_true rfl | omega | (simp <;> omega) | (focus (repeat' (first | (with_reducible assumption) | rfl | apply one_take | apply one_drop)); done))))) <;> (try (conv => whnf)); refine Then.mk ?_))
        clear hGd1 hGs1 hBa hBb ga gb hd1 hs1 hGa1
        have hGd2 := hGd (rlx τ i x false)
        have hGs2 := hGs (rlx τ i x false)
        have hGa2 := hGa (rlx τ i x false)
        have hd2 := hdl (rlx τ i x false)
        have hs2 := hsl (rlx τ i x false)
        have hCa := hB (rlx τ i x false) hq1 x.a xa
        have hCb := hB (rlx τ i x false) hq1 x.b xb
        have ha2 := dL_getZ (n := n + 1) ((rlx τ i x false)).d (show x.a < n + 1 by omega)
        have hb2 := dL_getZ (n := n + 1) ((rlx τ i x false)).d (show x.b < n + 1 by omega)
        by_cases hR2 : Rlx (rlx τ i x false) x true
        · have hr2 := (rlxT (rlx τ i x false) x).1 hR2
          obtain ⟨hq2, hlt2⟩ := hQ (rlx τ i x false) i x true hq1 hx hR2
          have hall : wt (rlx (rlx τ i x false) i x true) < wt σ := by exact Nat.lt_trans hlt2 hall1
          generalize hτ2 : (rlx τ i x false) = τ2 at *
          (iterate 1 ((repeat' ((conv => whnf); first | refine OpsA.cons ?_ | refine OpsA.nil ?_ | refine AWq.seq ?_ | refine AWq.region ?_ | refine AWq.cond ?_ | refine AWq.block ?_ | refine AWq.skip ?_ | refine AWq.ret ?_ | refine AWq.exit ?_ | refine AWq.loop ?_ | refine DrawA.consD ?_ | refine DrawA.nil ?_ | refine AWq.draw (by decide +kernel) ?_ | (refine Both.mk ?_ ?_ <;> intro hc <;> (first | exact Bool.noConfusion hc | (exfalso; omega) | skip)) | (intro c hc; (try (simp only [AH.none_iff] at hc; repeat (have hn := hc.1; replace hc := hc.2))); (first | (refine i64_k hc ?_ ?_ ?_ ; omega; omega; (clear hc; intro hc; subst hc)) | skip)) | (apply Exists.intro; apply And.intro; (first | (focus (repeat (first | (with_reducible assumption) | (with_reducible exact AH.set_same _ _ _) | ((first | refine AH.get_ne ?_ ?_); (first | (with_reducible assumption) | exact Ne.symm (by with_reducible assumption))))); done))) | (apply Exists.intro; apply And.intro; first | (with_reducible assumption) | ((try simp only [List.getElem?_drop, Nat.mul_one, Nat.add_zero, Nat.zero_add]); first | (with_reducible assumption) | rfl)) | (apply Exists.intro; apply And.intro; (focus (intro G; ((conv => whnf); (try left); (conv => whnf); first | exact And.intro rfl rfl)))) | (apply And.intro; (first | rfl | (with_reducible assumption) | exact Nat.le_of_ble_eq_true rfl | omega | (simp <;> omega) | (focus (repeat' (first | (with_reducible assumption) | rfl | apply one_take | apply one_drop)); done))))) <;> (try (conv => whnf)); refine Then.mk ?_))
          (repeat' ((conv => whnf); first | refine OpsA.cons ?_ | refine OpsA.nil ?_ | refine AWq.seq ?_ | refine AWq.region ?_ | refine AWq.cond ?_ | refine AWq.block ?_ | refine AWq.skip ?_ | refine AWq.ret ?_ | refine AWq.exit ?_ | refine AWq.loop ?_ | refine DrawA.consD ?_ | refine DrawA.nil ?_ | refine AWq.draw (by decide +kernel) ?_ | (refine Both.mk ?_ ?_ <;> intro hc <;> (first | exact Bool.noConfusion hc | (exfalso; omega) | skip)) | (intro c hc; (try (simp only [AH.none_iff] at hc; repeat (have hn := hc.1; replace hc := hc.2))); (first | (refine i64_k hc ?_ ?_ ?_ ; omega; omega; (clear hc; intro hc; subst hc)) | skip)) | (apply Exists.intro; apply And.intro; (first | (focus (repeat (first | (with_reducible assumption) | (with_reducible exact AH.set_same _ _ _) | ((first | refine AH.get_ne ?_ ?_); (first | (with_reducible assumption) | exact Ne.symm (by with_reducible assumption))))); done))) | (apply Exists.intro; apply And.intro; first | (with_reducible assumption) | ((try simp only [List.getElem?_drop, Nat.mul_one, Nat.add_zero, Nat.zero_add]); first | (with_reducible assumption) | rfl)) | (apply Exists.intro; apply And.intro; (focus (intro G; ((conv => whnf); (try left); (conv => whnf); first | exact And.intro rfl rfl)))) | (apply And.intro; (first | rfl | (with_reducible assumption) | exact Nat.le_of_ble_eq_true rfl | omega | (simp <;> omega) | (focus (repeat' (first | (with_reducible assumption) | rfl | apply one_take | apply one_drop)); done))))) <;> (try (conv => whnf))
          refine AWq.drawM ([], [105, 115]) (by decide +kernel) ?_
          (repeat' ((conv => whnf); first | refine OpsA.cons ?_ | refine OpsA.nil ?_ | refine AWq.seq ?_ | refine AWq.region ?_ | refine AWq.cond ?_ | refine AWq.block ?_ | refine AWq.skip ?_ | refine AWq.ret ?_ | refine AWq.exit ?_ | refine AWq.loop ?_ | refine DrawA.consD ?_ | refine DrawA.nil ?_ | refine AWq.draw (by decide +kernel) ?_ | (refine Both.mk ?_ ?_ <;> intro hc <;> (first | exact Bool.noConfusion hc | (exfalso; omega) | skip)) | (intro c hc; (try (simp only [AH.none_iff] at hc; repeat (have hn := hc.1; replace hc := hc.2))); (first | (refine i64_k hc ?_ ?_ ?_ ; omega; omega; (clear hc; intro hc; subst hc)) | skip)) | (apply Exists.intro; apply And.intro; (first | (focus (repeat (first | (with_reducible assumption) | (with_reducible exact AH.set_same _ _ _) | ((first | refine AH.get_ne ?_ ?_); (first | (with_reducible assumption) | exact Ne.symm (by with_reducible assumption))))); done))) | (apply Exists.intro; apply And.intro; first | (with_reducible assumption) | ((try simp only [List.getElem?_drop, Nat.mul_one, Nat.add_zero, Nat.zero_add]); first | (with_reducible assumption) | rfl)) | (apply Exists.intro; apply And.intro; (focus (intro G; ((conv => whnf); (try left); (conv => whnf); first | exact And.intro rfl rfl)))) | (apply And.intro; (first | rfl | (with_reducible assumption) | exact Nat.le_of_ble_eq_true rfl | omega | (simp <;> omega) | (focus (repeat' (first | (with_reducible assumption) | rfl | apply one_take | apply one_drop)); done))))) <;> (try (conv => whnf))
          refine Then.mk (AWq.in ?_)
          refine AWp_less (dsH H n rd vd r (rlx τ2 i x true)) (HLe.of_eq (dsH_T ndr xa i)) ?_
          refine AWp.of tt_ok (dok _) rfl ?_
          (repeat' ((conv => whnf); first | refine Then.mk ?_ | refine OpsA.cons ?_ | refine OpsA.nil ?_ | refine AWq.seq ?_ | refine AWq.region ?_ | refine AWq.cond ?_ | refine AWq.block ?_ | refine AWq.skip ?_ | refine AWq.ret ?_ | refine AWq.exit ?_ | refine AWq.loop ?_ | refine DrawA.consD ?_ | refine DrawA.nil ?_ | refine AWq.draw (by decide +kernel) ?_ | (refine Both.mk ?_ ?_ <;> intro hc <;> (first | exact Bool.noConfusion hc | (exfalso; omega) | skip)) | (intro c hc; (try (simp only [AH.none_iff] at hc; repeat (have hn := hc.1; replace hc := hc.2))); (first | (refine i64_k hc ?_ ?_ ?_ ; omega; omega; (clear hc; intro hc; subst hc)) | skip)) | (apply Exists.intro; apply And.intro; (first | (focus (repeat (first | (with_reducible assumption) | (with_reducible exact AH.set_same _ _ _) | ((first | refine AH.get_ne ?_ ?_); (first | (with_reducible assumption) | exact Ne.symm (by with_reducible assumption))))); done))) | (apply Exists.intro; apply And.intro; first | (with_reducible assumption) | ((try simp only [List.getElem?_drop, Nat.mul_one, Nat.add_zero, Nat.zero_add]); first | (with_reducible assumption) | rfl)) | (apply Exists.intro; apply And.intro; (focus (intro G; ((conv => whnf); (try left); (conv => whnf); first | exact And.intro rfl rfl)))) | (apply And.intro; (first | rfl | (with_reducible assumption) | exact Nat.le_of_ble_eq_true rfl | omega | (simp <;> omega) | (focus (repeat' (first | (with_reducible assumption) | rfl | apply one_take | apply one_drop)); done))))) <;> (try (conv => whnf))
          exact ⟨(rlx τ2 i x true, true, i + 1), ⟨hil, hq2, fun h => Bool.noConfusion h, fun _ => hall⟩, by dsimp only; omega, ⟨rfl, congrArg (AV.int .i64) (by dsimp only; omega), trivial⟩, HLe.refl _⟩
        · have hr2 := mt (rlxT (rlx τ i x false) x).2 hR2
          skip
          generalize hτ2 : (rlx τ i x false) = τ2 at *
          (repeat' ((conv => whnf); first | refine Then.mk ?_ | refine OpsA.cons ?_ | refine OpsA.nil ?_ | refine AWq.seq ?_ | refine AWq.region ?_ | refine AWq.cond ?_ | refine AWq.block ?_ | refine AWq.skip ?_ | refine AWq.ret ?_ | refine AWq.exit ?_ | refine AWq.loop ?_ | refine DrawA.consD ?_ | refine DrawA.nil ?_ | refine AWq.draw (by decide +kernel) ?_ | (refine Both.mk ?_ ?_ <;> intro hc <;> (first | exact Bool.noConfusion hc | (exfalso; omega) | skip)) | (intro c hc; (try (simp only [AH.none_iff] at hc; repeat (have hn := hc.1; replace hc := hc.2))); (first | (refine i64_k hc ?_ ?_ ?_ ; omega; omega; (clear hc; intro hc; subst hc)) | skip)) | (apply Exists.intro; apply And.intro; (first | (focus (repeat (first | (with_reducible assumption) | (with_reducible exact AH.set_same _ _ _) | ((first | refine AH.get_ne ?_ ?_); (first | (with_reducible assumption) | exact Ne.symm (by with_reducible assumption))))); done))) | (apply Exists.intro; apply And.intro; first | (with_reducible assumption) | ((try simp only [List.getElem?_drop, Nat.mul_one, Nat.add_zero, Nat.zero_add]); first | (with_reducible assumption) | rfl)) | (apply Exists.intro; apply And.intro; (focus (intro G; ((conv => whnf); (try left); (conv => whnf); first | exact And.intro rfl rfl)))) | (apply And.intro; (first | rfl | (with_reducible assumption) | exact Nat.le_of_ble_eq_true rfl | omega | (simp <;> omega) | (focus (repeat' (first | (with_reducible assumption) | rfl | apply one_take | apply one_drop)); done))))) <;> (try (conv => whnf))
          all_goals exact ⟨(τ2, true, i + 1), ⟨hil, hq1, fun h => Bool.noConfusion h, fun _ => hall1⟩, by dsimp only; omega, ⟨rfl, congrArg (AV.int .i64) (by dsimp only; omega), trivial⟩, HLe.refl _⟩
      · have hr1 := mt (rlxF τ x).2 hR1
        have hGd1 := hGd τ
        have hGs1 := hGs τ
        have hBa := hB τ hqt x.a xa
        have hBb := hB τ hqt x.b xb
        have ga := dL_getZ (n := n + 1) τ.d (show x.a < n + 1 by omega)
        have gb := dL_getZ (n := n + 1) τ.d (show x.b < n + 1 by omega)
        have hd1 := hdl τ
        have hs1 := hsl τ
        (iterate 3 ((repeat' ((conv => whnf); first | refine OpsA.cons ?_ | refine OpsA.nil ?_ | refine AWq.seq ?_ | refine AWq.region ?_ | refine AWq.cond ?_ | refine AWq.block ?_ | refine AWq.skip ?_ | refine AWq.ret ?_ | refine AWq.exit ?_ | refine AWq.loop ?_ | refine DrawA.consD ?_ | refine DrawA.nil ?_ | refine AWq.draw (by decide +kernel) ?_ | (refine Both.mk ?_ ?_ <;> intro hc <;> (first | exact Bool.noConfusion hc | (exfalso; omega) | skip)) | (intro c hc; (try (simp only [AH.none_iff] at hc; repeat (have hn := hc.1; replace hc := hc.2))); (first | (refine i64_k hc ?_ ?_ ?_ ; omega; omega; (clear hc; intro hc; subst hc)) | skip)) | (apply Exists.intro; apply And.intro; (first | (focus (repeat (first | (with_reducible assumption) | (with_reducible exact AH.set_same _ _ _) | ((first | refine AH.get_ne ?_ ?_); (first | (with_reducible assumption) | exact Ne.symm (by with_reducible assumption))))); done))) | (apply Exists.intro; apply And.intro; first | (with_reducible assumption) | ((try simp only [List.getElem?_drop, Nat.mul_one, Nat.add_zero, Nat.zero_add]); first | (with_reducible assumption) | rfl)) | (apply Exists.intro; apply And.intro; (focus (intro G; ((conv => whnf); (try left); (conv => whnf); first | exact And.intro rfl rfl)))) | (apply And.intro; (first | rfl | (with_reducible assumption) | exact Nat.le_of_ble_eq_true rfl | omega | (simp <;> omega) | (focus (repeat' (first | (with_reducible assumption) | rfl | apply one_take | apply one_drop)); done))))) <;> (try (conv => whnf)); refine Then.mk ?_))
        refine AWq.in ?_
        refine AWp_segP 8 (acA x) rfl rfl (by (first | assumption | (simp only [AH.none_iff]; (repeat' (first | assumption | (refine And.intro ?_ ?_)))))) (acL_segZ hx) rfl ?_
        refine AWp.of tt_ok (dok _) rfl ?_
        (repeat' ((conv => whnf); first | refine OpsA.cons ?_ | refine OpsA.nil ?_ | refine AWq.seq ?_ | refine AWq.region ?_ | refine AWq.cond ?_ | refine AWq.block ?_ | refine AWq.skip ?_ | refine AWq.ret ?_ | refine AWq.exit ?_ | refine AWq.loop ?_ | refine DrawA.consD ?_ | refine DrawA.nil ?_ | refine AWq.draw (by decide +kernel) ?_ | (refine Both.mk ?_ ?_ <;> intro hc <;> (first | exact Bool.noConfusion hc | (exfalso; omega) | skip)) | (intro c hc; (try (simp only [AH.none_iff] at hc; repeat (have hn := hc.1; replace hc := hc.2))); (first | (refine i64_k hc ?_ ?_ ?_ ; omega; omega; (clear hc; intro hc; subst hc)) | skip)) | (apply Exists.intro; apply And.intro; (first | (focus (repeat (first | (with_reducible assumption) | (with_reducible exact AH.set_same _ _ _) | ((first | refine AH.get_ne ?_ ?_); (first | (with_reducible assumption) | exact Ne.symm (by with_reducible assumption))))); done))) | (apply Exists.intro; apply And.intro; first | (with_reducible assumption) | ((try simp only [List.getElem?_drop, Nat.mul_one, Nat.add_zero, Nat.zero_add]); first | (with_reducible assumption) | rfl)) | (apply Exists.intro; apply And.intro; (focus (intro G; ((conv => whnf); (try left); (conv => whnf); first | exact And.intro rfl rfl)))) | (apply And.intro; (first | rfl | (with_reducible assumption) | exact Nat.le_of_ble_eq_true rfl | omega | (simp <;> omega) | (focus (repeat' (first | (with_reducible assumption) | rfl | apply one_take | apply one_drop)); done))))) <;> (try (conv => whnf))
        all_goals (refine Then.mk ?_; (repeat' ((conv => whnf); first | refine OpsA.cons ?_ | refine OpsA.nil ?_ | refine AWq.seq ?_ | refine AWq.region ?_ | refine AWq.cond ?_ | refine AWq.block ?_ | refine AWq.skip ?_ | refine AWq.ret ?_ | refine AWq.exit ?_ | refine AWq.loop ?_ | refine DrawA.consD ?_ | refine DrawA.nil ?_ | refine AWq.draw (by decide +kernel) ?_ | (refine Both.mk ?_ ?_ <;> intro hc <;> (first | exact Bool.noConfusion hc | (exfalso; omega) | skip)) | (intro c hc; (try (simp only [AH.none_iff] at hc; repeat (have hn := hc.1; replace hc := hc.2))); (first | (refine i64_k hc ?_ ?_ ?_ ; omega; omega; (clear hc; intro hc; subst hc)) | skip)) | (apply Exists.intro; apply And.intro; (first | (focus (repeat (first | (with_reducible assumption) | (with_reducible exact AH.set_same _ _ _) | ((first | refine AH.get_ne ?_ ?_); (first | (with_reducible assumption) | exact Ne.symm (by with_reducible assumption))))); done))) | (apply Exists.intro; apply And.intro; first | (with_reducible assumption) | ((try simp only [List.getElem?_drop, Nat.mul_one, Nat.add_zero, Nat.zero_add]); first | (with_reducible assumption) | rfl)) | (apply Exists.intro; apply And.intro; (focus (intro G; ((conv => whnf); (try left); (conv => whnf); first | exact And.intro rfl rfl)))) | (apply And.intro; (first | rfl | (with_reducible assumption) | exact Nat.le_of_ble_eq_true rfl | omega | (simp <;> omega) | (focus (repeat' (first | (with_reducible assumption) | rfl | apply one_take | apply one_drop)); done))))) <;> (try (conv => whnf)); refine Then.mk ?_)
        all_goals clear hGd1 hGs1 hBa hBb ga gb hd1 hs1 hGa1
        all_goals
          have hGd2 := hGd τ
          have hGs2 := hGs τ
          have hGa2 := hGa τ
          have hd2 := hdl τ
          have hs2 := hsl τ
          have hCa := hB τ hqt x.a xa
          have hCb := hB τ hqt x.b xb
          have ha2 := dL_getZ (n := n + 1) (τ).d (show x.a < n + 1 by omega)
          have hb2 := dL_getZ (n := n + 1) (τ).d (show x.b < n + 1 by omega)
          by_cases hR2 : Rlx τ x true
          · have hr2 := (rlxT τ x).1 hR2
            obtain ⟨hq2, hlt2⟩ := hQ τ i x true hqt hx hR2
            have hall : wt (rlx τ i x true) < wt σ := by (cases ch with | false => (obtain ⟨rfl, _⟩ := hf rfl; exact hlt2) | true => exact Nat.lt_trans hlt2 (ht rfl))
            generalize hτ2 : τ = τ2 at *
            (iterate 1 ((repeat' ((conv => whnf); first | refine OpsA.cons ?_ | refine OpsA.nil ?_ | refine AWq.seq ?_ | refine AWq.region ?_ | refine AWq.cond ?_ | refine AWq.block ?_ | refine AWq.skip ?_ | refine AWq.ret ?_ | refine AWq.exit ?_ | refine AWq.loop ?_ | refine DrawA.consD ?_ | refine DrawA.nil ?_ | refine AWq.draw (by decide +kernel) ?_ | (refine Both.mk ?_ ?_ <;> intro hc <;> (first | exact Bool.noConfusion hc | (exfalso; omega) | skip)) | (intro c hc; (try (simp only [AH.none_iff] at hc; repeat (have hn := hc.1; replace hc := hc.2))); (first | (refine i64_k hc ?_ ?_ ?_ ; omega; omega; (clear hc; intro hc; subst hc)) | skip)) | (apply Exists.intro; apply And.intro; (first | (focus (repeat (first | (with_reducible assumption) | (with_reducible exact AH.set_same _ _ _) | ((first | refine AH.get_ne ?_ ?_); (first | (with_reducible assumption) | exact Ne.symm (by with_reducible assumption))))); done))) | (apply Exists.intro; apply And.intro; first | (with_reducible assumption) | ((try simp only [List.getElem?_drop, Nat.mul_one, Nat.add_zero, Nat.zero_add]); first | (with_reducible assumption) | rfl)) | (apply Exists.intro; apply And.intro; (focus (intro G; ((conv => whnf); (try left); (conv => whnf); first | exact And.intro rfl rfl)))) | (apply And.intro; (first | rfl | (with_reducible assumption) | exact Nat.le_of_ble_eq_true rfl | omega | (simp <;> omega) | (focus (repeat' (first | (with_reducible assumption) | rfl | apply one_take | apply one_drop)); done))))) <;> (try (conv => whnf)); refine Then.mk ?_))
            (repeat' ((conv => whnf); first | refine OpsA.cons ?_ | refine OpsA.nil ?_ | refine AWq.seq ?_ | refine AWq.region ?_ | refine AWq.cond ?_ | refine AWq.block ?_ | refine AWq.skip ?_ | refine AWq.ret ?_ | refine AWq.exit ?_ | refine AWq.loop ?_ | refine DrawA.consD ?_ | refine DrawA.nil ?_ | refine AWq.draw (by decide +kernel) ?_ | (refine Both.mk ?_ ?_ <;> intro hc <;> (first | exact Bool.noConfusion hc | (exfalso; omega) | skip)) | (intro c hc; (try (simp only [AH.none_iff] at hc; repeat (have hn := hc.1; replace hc := hc.2))); (first | (refine i64_k hc ?_ ?_ ?_ ; omega; omega; (clear hc; intro hc; subst hc)) | skip)) | (apply Exists.intro; apply And.intro; (first | (focus (repeat (first | (with_reducible assumption) | (with_reducible exact AH.set_same _ _ _) | ((first | refine AH.get_ne ?_ ?_); (first | (with_reducible assumption) | exact Ne.symm (by with_reducible assumption))))); done))) | (apply Exists.intro; apply And.intro; first | (with_reducible assumption) | ((try simp only [List.getElem?_drop, Nat.mul_one, Nat.add_zero, Nat.zero_add]); first | (with_reducible assumption) | rfl)) | (apply Exists.intro; apply And.intro; (focus (intro G; ((conv => whnf); (try left); (conv => whnf); first | exact And.intro rfl rfl)))) | (apply And.intro; (first | rfl | (with_reducible assumption) | exact Nat.le_of_ble_eq_true rfl | omega | (simp <;> omega) | (focus (repeat' (first | (with_reducible assumption) | rfl | apply one_take | apply one_drop)); done))))) <;> (try (conv => whnf))
            refine AWq.drawM ([], [105, 115]) (by decide +kernel) ?_
            (repeat' ((conv => whnf); first | refine OpsA.cons ?_ | refine OpsA.nil ?_ | refine AWq.seq ?_ | refine AWq.region ?_ | refine AWq.cond ?_ | refine AWq.block ?_ | refine AWq.skip ?_ | refine AWq.ret ?_ | refine AWq.exit ?_ | refine AWq.loop ?_ | refine DrawA.consD ?_ | refine DrawA.nil ?_ | refine AWq.draw (by decide +kernel) ?_ | (refine Both.mk ?_ ?_ <;> intro hc <;> (first | exact Bool.noConfusion hc | (exfalso; omega) | skip)) | (intro c hc; (try (simp only [AH.none_iff] at hc; repeat (have hn := hc.1; replace hc := hc.2))); (first | (refine i64_k hc ?_ ?_ ?_ ; omega; omega; (clear hc; intro hc; subst hc)) | skip)) | (apply Exists.intro; apply And.intro; (first | (focus (repeat (first | (with_reducible assumption) | (with_reducible exact AH.set_same _ _ _) | ((first | refine AH.get_ne ?_ ?_); (first | (with_reducible assumption) | exact Ne.symm (by with_reducible assumption))))); done))) | (apply Exists.intro; apply And.intro; first | (with_reducible assumption) | ((try simp only [List.getElem?_drop, Nat.mul_one, Nat.add_zero, Nat.zero_add]); first | (with_reducible assumption) | rfl)) | (apply Exists.intro; apply And.intro; (focus (intro G; ((conv => whnf); (try left); (conv => whnf); first | exact And.intro rfl rfl)))) | (apply And.intro; (first | rfl | (with_reducible assumption) | exact Nat.le_of_ble_eq_true rfl | omega | (simp <;> omega) | (focus (repeat' (first | (with_reducible assumption) | rfl | apply one_take | apply one_drop)); done))))) <;> (try (conv => whnf))
            refine Then.mk (AWq.in ?_)
            refine AWp_less (dsH H n rd vd r (rlx τ2 i x true)) (HLe.of_eq (dsH_T ndr xa i)) ?_
            refine AWp.of tt_ok (dok _) rfl ?_
            (repeat' ((conv => whnf); first | refine Then.mk ?_ | refine OpsA.cons ?_ | refine OpsA.nil ?_ | refine AWq.seq ?_ | refine AWq.region ?_ | refine AWq.cond ?_ | refine AWq.block ?_ | refine AWq.skip ?_ | refine AWq.ret ?_ | refine AWq.exit ?_ | refine AWq.loop ?_ | refine DrawA.consD ?_ | refine DrawA.nil ?_ | refine AWq.draw (by decide +kernel) ?_ | (refine Both.mk ?_ ?_ <;> intro hc <;> (first | exact Bool.noConfusion hc | (exfalso; omega) | skip)) | (intro c hc; (try (simp only [AH.none_iff] at hc; repeat (have hn := hc.1; replace hc := hc.2))); (first | (refine i64_k hc ?_ ?_ ?_ ; omega; omega; (clear hc; intro hc; subst hc)) | skip)) | (apply Exists.intro; apply And.intro; (first | (focus (repeat (first | (with_reducible assumption) | (with_reducible exact AH.set_same _ _ _) | ((first | refine AH.get_ne ?_ ?_); (first | (with_reducible assumption) | exact Ne.symm (by with_reducible assumption))))); done))) | (apply Exists.intro; apply And.intro; first | (with_reducible assumption) | ((try simp only [List.getElem?_drop, Nat.mul_one, Nat.add_zero, Nat.zero_add]); first | (with_reducible assumption) | rfl)) | (apply Exists.intro; apply And.intro; (focus (intro G; ((conv => whnf); (try left); (conv => whnf); first | exact And.intro rfl rfl)))) | (apply And.intro; (first | rfl | (with_reducible assumption) | exact Nat.le_of_ble_eq_true rfl | omega | (simp <;> omega) | (focus (repeat' (first | (with_reducible assumption) | rfl | apply one_take | apply one_drop)); done))))) <;> (try (conv => whnf))
            exact ⟨(rlx τ2 i x true, true, i + 1), ⟨hil, hq2, fun h => Bool.noConfusion h, fun _ => hall⟩, by dsimp only; omega, ⟨rfl, congrArg (AV.int .i64) (by dsimp only; omega), trivial⟩, HLe.refl _⟩
          · have hr2 := mt (rlxT τ x).2 hR2
            have hf' := hfin hf hR1 hR2
            generalize hτ2 : τ = τ2 at *
            (repeat' ((conv => whnf); first | refine Then.mk ?_ | refine OpsA.cons ?_ | refine OpsA.nil ?_ | refine AWq.seq ?_ | refine AWq.region ?_ | refine AWq.cond ?_ | refine AWq.block ?_ | refine AWq.skip ?_ | refine AWq.ret ?_ | refine AWq.exit ?_ | refine AWq.loop ?_ | refine DrawA.consD ?_ | refine DrawA.nil ?_ | refine AWq.draw (by decide +kernel) ?_ | (refine Both.mk ?_ ?_ <;> intro hc <;> (first | exact Bool.noConfusion hc | (exfalso; omega) | skip)) | (intro c hc; (try (simp only [AH.none_iff] at hc; repeat (have hn := hc.1; replace hc := hc.2))); (first | (refine i64_k hc ?_ ?_ ?_ ; omega; omega; (clear hc; intro hc; subst hc)) | skip)) | (apply Exists.intro; apply And.intro; (first | (focus (repeat (first | (with_reducible assumption) | (with_reducible exact AH.set_same _ _ _) | ((first | refine AH.get_ne ?_ ?_); (first | (with_reducible assumption) | exact Ne.symm (by with_reducible assumption))))); done))) | (apply Exists.intro; apply And.intro; first | (with_reducible assumption) | ((try simp only [List.getElem?_drop, Nat.mul_one, Nat.add_zero, Nat.zero_add]); first | (with_reducible assumption) | rfl)) | (apply Exists.intro; apply And.intro; (focus (intro G; ((conv => whnf); (try left); (conv => whnf); first | exact And.intro rfl rfl)))) | (apply And.intro; (first | rfl | (with_reducible assumption) | exact Nat.le_of_ble_eq_true rfl | omega | (simp <;> omega) | (focus (repeat' (first | (with_reducible assumption) | rfl | apply one_take | apply one_drop)); done))))) <;> (try (conv => whnf))
            all_goals exact ⟨(τ2, ch, i + 1), ⟨hil, hqt, hf', ht⟩, by dsimp only; omega, ⟨rfl, congrArg (AV.int .i64) (by dsimp only; omega), trivial⟩, HLe.refl _⟩
    · have hie : i = A.length := by omega
      (repeat' ((conv => whnf); first | refine Then.mk ?_ | refine OpsA.cons ?_ | refine OpsA.nil ?_ | refine AWq.seq ?_ | refine AWq.region ?_ | refine AWq.cond ?_ | refine AWq.block ?_ | refine AWq.skip ?_ | refine AWq.ret ?_ | refine AWq.exit ?_ | refine AWq.loop ?_ | refine DrawA.consD ?_ | refine DrawA.nil ?_ | refine AWq.draw (by decide +kernel) ?_ | (refine Both.mk ?_ ?_ <;> intro hc <;> (first | exact Bool.noConfusion hc | (exfalso; omega) | skip)) | (intro c hc; (try (simp only [AH.none_iff] at hc; repeat (have hn := hc.1; replace hc := hc.2))); (first | (refine i64_k hc ?_ ?_ ?_ ; omega; omega; (clear hc; intro hc; subst hc)) | skip)) | (apply Exists.intro; apply And.intro; (first | (focus (repeat (first | (with_reducible assumption) | (with_reducible exact AH.set_same _ _ _) | ((first | refine AH.get_ne ?_ ?_); (first | (with_reducible assumption) | exact Ne.symm (by with_reducible assumption))))); done))) | (apply Exists.intro; apply And.intro; first | (with_reducible assumption) | ((try simp only [List.getElem?_drop, Nat.mul_one, Nat.add_zero, Nat.zero_add]); first | (with_reducible assumption) | rfl)) | (apply Exists.intro; apply And.intro; (focus (intro G; ((conv => whnf); (try left); (conv => whnf); first | exact And.intro rfl rfl)))) | (apply And.intro; (first | rfl | (with_reducible assumption) | exact Nat.le_of_ble_eq_true rfl | omega | (simp <;> omega) | (focus (repeat' (first | (with_reducible assumption) | rfl | apply one_take | apply one_drop)); done))))) <;> (try (conv => whnf))
      refine ⟨(τ, ch), ⟨hqt, fun h => ?_⟩, ?_, ⟨rfl, trivial⟩, HLe.refl _⟩
      · obtain ⟨rfl, hno⟩ := hf h
        intro y hy up hR
        obtain ⟨j, hj, rfl⟩ := List.mem_iff_getElem.1 hy
        exact hno j _ up (by rw [hie]; exact hj) (List.getElem?_eq_getElem hj) hR
      · cases ch with
        | false => obtain ⟨rfl, _⟩ := hf rfl; show 2 * wt τ + 0 < 2 * wt τ + 1; omega
        | true => have := ht rfl; show 2 * wt τ + 1 < 2 * wt σ + 1; omega
end Go.Proofs.Ytebflkgpbbjhnaa
/- The walks of balance: the connected parts. -/
namespace Go.Proofs.Ytebflkgpbbjhnaa
open Go.Fw Go
set_option linter.unusedVariables false
set_option linter.unusedSimpArgs false

@[simp] theorem wrA1_len (l : List AV) (k : Nat) (v : AV) : (wrA l k [v]).length = min k l.length + 1 + (l.length - (k + 1)) := by simp [wrA]; omega
/-- Labels of the connected parts, under way. -/
structure BI (n : Nat) (A : List Ac) (o : Nat → Int) : Prop where
  last : o n = -1
  lo : ∀ v, v ≤ n → -1 ≤ o v
  up : ∀ v, v ≤ n → o v ≤ v
  cl : ∀ S : Nat → Prop, ¬ S n → (∀ x ∈ A, S x.a ↔ S x.b) → ∀ v, v ≤ n → S v → ∃ u : Nat, o v = u ∧ S u
def bsP (o : Nat → Int) (x : Ac) : Nat → Int := putD (putD o x.a (min (o x.a) (o x.b))) x.b (min (o x.a) (o x.b))
def bsW (n : Nat) (o : Nat → Int) : Nat := sumN (fun v => (o v + 1).toNat) n
theorem bsP_at (o : Nat → Int) (x : Ac) (v : Nat) : bsP o x v = if v = x.b ∨ v = x.a then min (o x.a) (o x.b) else o v := by
  unfold bsP putD
  by_cases h1 : v = x.b
  · simp [h1]
  · by_cases h2 : v = x.a
    · simp [h2]
    · simp [h1, h2]
theorem BI.step {n : Nat} {A : List Ac} {o : Nat → Int} (h : BI n A o) {x : Ac} (hx : x ∈ A) (hok : AcOk n x) : BI n A (bsP o x) := by
  obtain ⟨xa, xb, _, _, _, _, _, _⟩ := hok
  have la := h.lo _ xa
  have lb := h.lo _ xb
  have ua := h.up _ xa
  have ub := h.up _ xb
  have hl := h.last
  refine ⟨?_, fun v hv => ?_, fun v hv => ?_, fun S hn hc v hv hS => ?_⟩
  · rw [bsP_at]
    split
    · rename_i e
      rcases e with e | e
      · rw [e] at hl; omega
      · rw [e] at hl; omega
    · exact hl
  · rw [bsP_at]; split
    · omega
    · exact h.lo v hv
  · rw [bsP_at]; split
    · rename_i e
      rcases e with e | e <;> rw [e] <;> omega
    · exact h.up v hv
  · rw [bsP_at]; split
    · rename_i e
      have hab : S x.a ∧ S x.b := by
        rcases e with e | e
        · rw [e] at hS; exact ⟨(hc x hx).2 hS, hS⟩
        · rw [e] at hS; exact ⟨hS, (hc x hx).1 hS⟩
      obtain ⟨u, hu, hSu⟩ := h.cl S hn hc _ xa hab.1
      obtain ⟨w, hw, hSw⟩ := h.cl S hn hc _ xb hab.2
      by_cases hle : o x.a ≤ o x.b
      · exact ⟨u, by omega, hSu⟩
      · exact ⟨w, by omega, hSw⟩
    · exact h.cl S hn hc v hv hS
theorem bsW_lt {n : Nat} {A : List Ac} {o : Nat → Int} (h : BI n A o) {x : Ac} (hok : AcOk n x) (hne : o x.a ≠ min (o x.a) (o x.b) ∨ o x.b ≠ min (o x.a) (o x.b)) : bsW n (bsP o x) < bsW n o := by
  obtain ⟨xa, xb, _, _, _, _, _, _⟩ := hok
  have la := h.lo _ xa
  have lb := h.lo _ xb
  have hmo : ∀ u, u ≤ n → (bsP o x u + 1).toNat ≤ (o u + 1).toNat := fun u hu => by
    rw [bsP_at]; split
    · rename_i e
      rcases e with e | e <;> rw [e] <;> omega
    · exact Nat.le_refl _
  rcases hne with e | e
  · refine sumN_lt xa hmo ?_
    show (bsP o x x.a + 1).toNat < (o x.a + 1).toNat
    rw [bsP_at, if_pos (.inr rfl)]; omega
  · refine sumN_lt xb hmo ?_
    show (bsP o x x.b + 1).toNat < (o x.b + 1).toNat
    rw [bsP_at, if_pos (.inl rfl)]; omega
def bs0 (n : Nat) : Nat → Int := fun v => if v = n then -1 else v
theorem bs0_ok (n : Nat) (A : List Ac) : BI n A (bs0 n) := by
  unfold bs0
  refine ⟨if_pos rfl, fun v hv => ?_, fun v hv => ?_, fun S hn hc v hv hS => ⟨v, ?_, hS⟩⟩
  · split <;> omega
  · split <;> omega
  · rw [if_neg (fun e => hn (by rw [← e]; exact hS))]
/-- The nodes whose offsets are 0. -/
def bsN (n : Nat) (o : Nat → Int) (v : Nat) : Int := if o v < 0 then n else o v
set_option maxHeartbeats 4000000 in
set_option maxRecDepth 8000 in
theorem bases_c (n : Nat) (hnn : n ≤ 100) (A : List Ac) (hA : ∀ x ∈ A, AcOk n x) (hl : A.length ≤ 100000) (H : AH) (g vg ra va : Nat) (lim : Option Nat) (hN : NetAt H n A g vg ra va lim) :
    ACall Try.prog 42 [.ptr g vg 0] H (fun y H' => ∃ o rs, BI n A o ∧ (∀ x ∈ A, o x.a = o x.b) ∧ H rs = none ∧ y = .sl rs 0 1 0 (n + 1) none ∧ H' = H.set rs (.row (dL (n + 1) (bsN n o)) 0)) := by
  obtain ⟨hg, ha, hne⟩ := hN
  refine ACall_of tt_ok (dok _) Try.func42 rfl (by decide) rfl ?_
  (repeat' ((conv => whnf); first | refine Then.mk ?_ | refine OpsA.cons ?_ | refine OpsA.nil ?_ | refine AWq.seq ?_ | refine AWq.region ?_ | refine AWq.cond ?_ | refine AWq.block ?_ | refine AWq.skip ?_ | refine AWq.ret ?_ | refine AWq.exit ?_ | refine AWq.loop ?_ | refine DrawA.consD ?_ | refine DrawA.nil ?_ | refine AWq.draw (by decide +kernel) ?_ | (refine Both.mk ?_ ?_ <;> intro hc <;> (first | exact Bool.noConfusion hc | exact absurd (by assumption) hc | exact absurd hc (by assumption) | (exfalso; omega) | skip)) | (intro c hc; (try (simp only [AH.none_iff] at hc; repeat (have hn := hc.1; replace hc := hc.2))); (first | (refine i64_k hc ?_ ?_ ?_ ; omega; omega; (clear hc; intro hc; subst hc)) | skip)) | (apply Exists.intro; apply And.intro; (first | (focus (repeat (first | (with_reducible assumption) | (with_reducible exact AH.set_same _ _ _) | ((first | refine AH.get_ne ?_ ?_); (first | (with_reducible assumption))))); done))) | (apply Exists.intro; apply And.intro; first | (with_reducible assumption) | ((try simp only [List.getElem?_drop, Nat.mul_one, Nat.add_zero, Nat.zero_add]); first | (with_reducible assumption) | rfl)) | (apply Exists.intro; apply And.intro; (focus ((conv => whnf); first | (intro c hc; subst hc; exact And.intro rfl rfl)))) | (apply And.intro; (first | rfl | (with_reducible assumption) | exact Nat.le_of_ble_eq_true rfl | omega | (simp <;> fail) | (simp <;> omega) | (focus (repeat' (first | (with_reducible assumption) | rfl | apply one_take | apply one_drop)); done))))) <;> (try (conv => whnf))
  (obtain ⟨r, hq_⟩ : ∃ r, r = c := ⟨_, rfl⟩); subst hq_
  have hr : H r = none := hc
  have ngr : g ≠ r := AH.none_ne' hr hg
  have nar : ra ≠ r := AH.none_ne' hr ha
  have hG : ∀ o, H.set r o g = some (.row [.int .i64 n, .sl ra va 5 0 A.length lim] vg) := fun o => by rw [AH.set_ne _ _ ngr]; exact hg
  have hGa : ∀ o, H.set r o ra = some (.row (acL A) va) := fun o => by rw [AH.set_ne _ _ nar]; exact ha
  have hcl := acL_len A
  have ho := acL_one A
  refine AWp_loop (σ := Nat) (4 :: 18 :: 19 :: 20 :: 21 :: 22 :: 23 :: 24 :: 25 :: []) (fun i => [(18, .int .i64 i)]) (fun i => H.set r (.row (dL (n + 1) fun v => if v < i then v else 0) 0)) (fun i => i ≤ n + 1) (fun i => n + 1 - i) 0 rfl (Nat.zero_le _) ⟨rfl, trivial⟩ ?_ ?_
  · refine HLe.of_eq (congrArg (fun l => H.set r (.row l 0)) ?_)
    rw [show ((n : Int) + 1).toNat = n + 1 by omega, dL_zero]
    exact dL_congr fun v hv => by simp
  rintro i hi
  refine AWp.of tt_ok (dok _) rfl ?_
  dsimp only at hi ⊢
  have hdl := dL_len (n + 1) fun v => if v < i then (v : Int) else 0
  by_cases hil : i < n + 1
  · have hw := dL_wrZ (n := n + 1) (fun v => if v < i then (v : Int) else 0) hil i
    (repeat' ((conv => whnf); first | refine Then.mk ?_ | refine OpsA.cons ?_ | refine OpsA.nil ?_ | refine AWq.seq ?_ | refine AWq.region ?_ | refine AWq.cond ?_ | refine AWq.block ?_ | refine AWq.skip ?_ | refine AWq.ret ?_ | refine AWq.exit ?_ | refine AWq.loop ?_ | refine DrawA.consD ?_ | refine DrawA.nil ?_ | refine AWq.draw (by decide +kernel) ?_ | (refine Both.mk ?_ ?_ <;> intro hc <;> (first | exact Bool.noConfusion hc | exact absurd (by assumption) hc | exact absurd hc (by assumption) | (exfalso; omega) | skip)) | (intro c hc; (try (simp only [AH.none_iff] at hc; repeat (have hn := hc.1; replace hc := hc.2))); (first | (refine i64_k hc ?_ ?_ ?_ ; omega; omega; (clear hc; intro hc; subst hc)) | skip)) | (apply Exists.intro; apply And.intro; (first | (focus (repeat (first | (with_reducible assumption) | (with_reducible exact AH.set_same _ _ _) | ((first | refine AH.get_ne ?_ ?_); (first | (with_reducible assumption))))); done))) | (apply Exists.intro; apply And.intro; first | (with_reducible assumption) | ((try simp only [List.getElem?_drop, Nat.mul_one, Nat.add_zero, Nat.zero_add]); first | (with_reducible assumption) | rfl)) | (apply Exists.intro; apply And.intro; (focus ((conv => whnf); first | (intro c hc; subst hc; exact And.intro rfl rfl)))) | (apply And.intro; (first | rfl | (with_reducible assumption) | exact Nat.le_of_ble_eq_true rfl | omega | (simp <;> fail) | (simp <;> omega) | (focus (repeat' (first | (with_reducible assumption) | rfl | apply one_take | apply one_drop)); done))))) <;> (try (conv => whnf))
    refine ⟨i + 1, hil, by omega, ⟨congrArg (AV.int .i64) (by omega), trivial⟩, HLe.of_eq ?_⟩
    have e : dL (n + 1) (fun v => if v < i + 1 then (v : Int) else 0) = wrA (dL (n + 1) fun v => if v < i then (v : Int) else 0) (0 + (i : Int).toNat * 1) [.int .i64 i] := by
      rw [hw]
      refine dL_congr fun v hv => ?_
      unfold putD
      by_cases h1 : v = i
      · rw [if_pos (by omega), if_pos h1, h1]
      · rw [if_neg h1]
        show (if v < i + 1 then (v : Int) else 0) = if v < i then (v : Int) else 0
        by_cases h2 : v < i
        · rw [if_pos h2, if_pos (by omega)]
        · rw [if_neg h2, if_neg (by omega)]
    rw [e]
    exact (AH.set_set _ _ _ _).symm
  · have hie : i = n + 1 := by omega
    have hdl2 : ((dL (n + 1) fun v => if v < i then (v : Int) else 0)).length = n + 1 := dL_len _ _
    (iterate 2 ((repeat' ((conv => whnf); first | refine OpsA.cons ?_ | refine OpsA.nil ?_ | refine AWq.seq ?_ | refine AWq.region ?_ | refine AWq.cond ?_ | refine AWq.block ?_ | refine AWq.skip ?_ | refine AWq.ret ?_ | refine AWq.exit ?_ | refine AWq.loop ?_ | refine DrawA.consD ?_ | refine DrawA.nil ?_ | refine AWq.draw (by decide +kernel) ?_ | (refine Both.mk ?_ ?_ <;> intro hc <;> (first | exact Bool.noConfusion hc | exact absurd (by assumption) hc | exact absurd hc (by assumption) | (exfalso; omega) | skip)) | (intro c hc; (try (simp only [AH.none_iff] at hc; repeat (have hn := hc.1; replace hc := hc.2))); (first | (refine i64_k hc ?_ ?_ ?_ ; omega; omega; (clear hc; intro hc; subst hc)) | skip)) | (apply Exists.intro; apply And.intro; (first | (focus (repeat (first | (with_reducible assumption) | (with_reducible exact AH.set_same _ _ _) | ((first | refine AH.get_ne ?_ ?_); (first | (with_reducible assumption))))); done))) | (apply Exists.intro; apply And.intro; first | (with_reducible assumption) | ((try simp only [List.getElem?_drop, Nat.mul_one, Nat.add_zero, Nat.zero_add]); first | (with_reducible assumption) | rfl)) | (apply Exists.intro; apply And.intro; (focus ((conv => whnf); first | (intro c hc; subst hc; exact And.intro rfl rfl)))) | (apply And.intro; (first | rfl | (with_reducible assumption) | exact Nat.le_of_ble_eq_true rfl | omega | (simp <;> fail) | (simp <;> omega) | (focus (repeat' (first | (with_reducible assumption) | rfl | apply one_take | apply one_drop)); done))))) <;> (try (conv => whnf)); refine Then.mk ?_))
    (repeat' ((conv => whnf); first | refine OpsA.cons ?_ | refine OpsA.nil ?_ | refine AWq.seq ?_ | refine AWq.region ?_ | refine AWq.cond ?_ | refine AWq.block ?_ | refine AWq.skip ?_ | refine AWq.ret ?_ | refine AWq.exit ?_ | refine AWq.loop ?_ | refine DrawA.consD ?_ | refine DrawA.nil ?_ | refine AWq.draw (by decide +kernel) ?_ | (refine Both.mk ?_ ?_ <;> intro hc <;> (first | exact Bool.noConfusion hc | exact absurd (by assumption) hc | exact absurd hc (by assumption) | (exfalso; omega) | skip)) | (intro c hc; (try (simp only [AH.none_iff] at hc; repeat (have hn := hc.1; replace hc := hc.2))); (first | (refine i64_k hc ?_ ?_ ?_ ; omega; omega; (clear hc; intro hc; subst hc)) | skip)) | (apply Exists.intro; apply And.intro; (first | (focus (repeat (first | (with_reducible assumption) | (with_reducible exact AH.set_same _ _ _) | ((first | refine AH.get_ne ?_ ?_); (first | (with_reducible assumption))))); done))) | (apply Exists.intro; apply And.intro; first | (with_reducible assumption) | ((try simp only [List.getElem?_drop, Nat.mul_one, Nat.add_zero, Nat.zero_add]); first | (with_reducible assumption) | rfl)) | (apply Exists.intro; apply And.intro; (focus ((conv => whnf); first | (intro c hc; subst hc; exact And.intro rfl rfl)))) | (apply And.intro; (first | rfl | (with_reducible assumption) | exact Nat.le_of_ble_eq_true rfl | omega | (simp <;> fail) | (simp <;> omega) | (focus (repeat' (first | (with_reducible assumption) | rfl | apply one_take | apply one_drop)); done))))) <;> (try (conv => whnf))
    refine Then.mk (AWq.in ?_)
    have hbz : wrA (dL (n + 1) fun v => if v < i then (v : Int) else 0) (0 + (n : Int).toNat * 1) [.int .i64 (-1)] = dL (n + 1) (bs0 n) := by
      refine (dL_wrZ (n := n + 1) (fun v => if v < i then (v : Int) else 0) (show n < n + 1 by omega) (-1)).trans (dL_congr fun v hv => ?_)
      unfold bs0 putD
      by_cases h1 : v = n
      · rw [if_pos h1, if_pos h1]
      · rw [if_neg h1, if_neg h1]; exact if_pos (by omega)
    refine AWp_less (H.set r (.row (dL (n + 1) (bs0 n)) 0)) (HLe.of_eq (by rw [← hbz]; exact (AH.set_set _ _ _ _).symm)) ?_
    refine AWp.of tt_ok (dok _) rfl ?_
    clear hbz hdl hdl2
    (repeat' ((conv => whnf); first | refine Then.mk ?_ | refine OpsA.cons ?_ | refine OpsA.nil ?_ | refine AWq.seq ?_ | refine AWq.region ?_ | refine AWq.cond ?_ | refine AWq.block ?_ | refine AWq.skip ?_ | refine AWq.ret ?_ | refine AWq.exit ?_ | refine AWq.loop ?_ | refine DrawA.consD ?_ | refine DrawA.nil ?_ | refine AWq.draw (by decide +kernel) ?_ | (refine Both.mk ?_ ?_ <;> intro hc <;> (first | exact Bool.noConfusion hc | exact absurd (by assumption) hc | exact absurd hc (by assumption) | (exfalso; omega) | skip)) | (intro c hc; (try (simp only [AH.none_iff] at hc; repeat (have hn := hc.1; replace hc := hc.2))); (first | (refine i64_k hc ?_ ?_ ?_ ; omega; omega; (clear hc; intro hc; subst hc)) | skip)) | (apply Exists.intro; apply And.intro; (first | (focus (repeat (first | (with_reducible assumption) | (with_reducible exact AH.set_same _ _ _) | ((first | refine AH.get_ne ?_ ?_); (first | (with_reducible assumption))))); done))) | (apply Exists.intro; apply And.intro; first | (with_reducible assumption) | ((try simp only [List.getElem?_drop, Nat.mul_one, Nat.add_zero, Nat.zero_add]); first | (with_reducible assumption) | rfl)) | (apply Exists.intro; apply And.intro; (focus ((conv => whnf); first | (intro c hc; subst hc; exact And.intro rfl rfl)))) | (apply And.intro; (first | rfl | (with_reducible assumption) | exact Nat.le_of_ble_eq_true rfl | omega | (simp <;> fail) | (simp <;> omega) | (focus (repeat' (first | (with_reducible assumption) | rfl | apply one_take | apply one_drop)); done))))) <;> (try (conv => whnf))
    refine AWp_loop (σ := (Nat → Int) × Bool) (5 :: 7 :: 8 :: 32 :: 33 :: 34 :: 35 :: 36 :: 37 :: 38 :: 39 :: 40 :: 41 :: 42 :: 43 :: 44 :: 45 :: 46 :: 47 :: 48 :: 49 :: 50 :: 51 :: 52 :: 53 :: 54 :: 55 :: 56 :: 57 :: 58 :: 59 :: 60 :: 61 :: 62 :: 63 :: 64 :: 65 :: 66 :: 67 :: 68 :: 69 :: 70 :: 71 :: 72 :: 73 :: 74 :: 75 :: 76 :: 77 :: 78 :: 79 :: []) (fun s => [(5, .bool s.2)]) (fun s => H.set r (.row (dL (n + 1) s.1) 0)) (fun s => BI n A s.1 ∧ (s.2 = false → ∀ x ∈ A, s.1 x.a = s.1 x.b)) (fun s => 2 * bsW n s.1 + cond s.2 1 0) (bs0 n, true) rfl ⟨bs0_ok n A, fun h => by cases h⟩ ⟨rfl, trivial⟩ (HLe.refl _) ?_
    clear hi hil hie
    rintro ⟨o, ch⟩ ⟨hq, hst⟩
    dsimp only at hq hst ⊢
    refine AWp.of tt_ok (dok _) rfl ?_
    cases ch with
    | false =>
      (repeat' ((conv => whnf); first | refine Then.mk ?_ | refine OpsA.cons ?_ | refine OpsA.nil ?_ | refine AWq.seq ?_ | refine AWq.region ?_ | refine AWq.cond ?_ | refine AWq.block ?_ | refine AWq.skip ?_ | refine AWq.ret ?_ | refine AWq.exit ?_ | refine AWq.loop ?_ | refine DrawA.consD ?_ | refine DrawA.nil ?_ | refine AWq.draw (by decide +kernel) ?_ | (refine Both.mk ?_ ?_ <;> intro hc <;> (first | exact Bool.noConfusion hc | exact absurd (by assumption) hc | exact absurd hc (by assumption) | (exfalso; omega) | skip)) | (intro c hc; (try (simp only [AH.none_iff] at hc; repeat (have hn := hc.1; replace hc := hc.2))); (first | (refine i64_k hc ?_ ?_ ?_ ; omega; omega; (clear hc; intro hc; subst hc)) | skip)) | (apply Exists.intro; apply And.intro; (first | (focus (repeat (first | (with_reducible assumption) | (with_reducible exact AH.set_same _ _ _) | ((first | refine AH.get_ne ?_ ?_); (first | (with_reducible assumption))))); done))) | (apply Exists.intro; apply And.intro; first | (with_reducible assumption) | ((try simp only [List.getElem?_drop, Nat.mul_one, Nat.add_zero, Nat.zero_add]); first | (with_reducible assumption) | rfl)) | (apply Exists.intro; apply And.intro; (focus ((conv => whnf); first | (intro c hc; subst hc; exact And.intro rfl rfl)))) | (apply And.intro; (first | rfl | (with_reducible assumption) | exact Nat.le_of_ble_eq_true rfl | omega | (simp <;> fail) | (simp <;> omega) | (focus (repeat' (first | (with_reducible assumption) | rfl | apply one_take | apply one_drop)); done))))) <;> (try (conv => whnf))
      refine AWp_loop (σ := Nat) (9 :: 82 :: 83 :: 84 :: 85 :: 86 :: 87 :: 88 :: 89 :: 90 :: 91 :: 92 :: 93 :: 94 :: 95 :: 96 :: 97 :: []) (fun i => [(82, .int .i64 i)]) (fun i => H.set r (.row (dL (n + 1) fun v => if v < i then bsN n o v else o v) 0)) (fun i => i ≤ n + 1) (fun i => n + 1 - i) 0 rfl (Nat.zero_le _) ⟨rfl, trivial⟩ (HLe.of_eq (congrArg (fun l => H.set r (.row l 0)) (dL_congr fun v hv => if_neg (Nat.not_lt_zero v)))) ?_
      intro i hi
      refine AWp.of tt_ok (dok _) rfl ?_
      have hdl := dL_len (n + 1) fun v => if v < i then bsN n o v else o v
      by_cases hil : i < n + 1
      · have hgi := dL_getZ (n := n + 1) (fun v => if v < i then bsN n o v else o v) hil
        have hoi : (if i < i then bsN n o i else o i) = o i := if_neg (Nat.lt_irrefl i)
        rw [hoi] at hgi
        have hstep : dL (n + 1) (fun v => if v < i + 1 then bsN n o v else o v) = wrA (dL (n + 1) fun v => if v < i then bsN n o v else o v) (0 + (i : Int).toNat * 1) [.int .i64 (bsN n o i)] := by
          refine ((dL_wrZ (n := n + 1) (fun v => if v < i then bsN n o v else o v) hil _).trans (dL_congr fun v hv => ?_)).symm
          unfold putD
          by_cases h1 : v = i
          · rw [if_pos h1, if_pos (by omega), h1]
          · rw [if_neg h1]
            by_cases h2 : v < i
            · rw [if_pos (show v < i + 1 by omega)]; exact if_pos h2
            · rw [if_neg (show ¬ v < i + 1 by omega)]; exact if_neg h2
        by_cases hneg : o i < 0
        · have hbe : bsN n o i = n := if_pos hneg
          (repeat' ((conv => whnf); first | refine Then.mk ?_ | refine OpsA.cons ?_ | refine OpsA.nil ?_ | refine AWq.seq ?_ | refine AWq.region ?_ | refine AWq.cond ?_ | refine AWq.block ?_ | refine AWq.skip ?_ | refine AWq.ret ?_ | refine AWq.exit ?_ | refine AWq.loop ?_ | refine DrawA.consD ?_ | refine DrawA.nil ?_ | refine AWq.draw (by decide +kernel) ?_ | (refine Both.mk ?_ ?_ <;> intro hc <;> (first | exact Bool.noConfusion hc | exact absurd (by assumption) hc | exact absurd hc (by assumption) | (exfalso; omega) | skip)) | (intro c hc; (try (simp only [AH.none_iff] at hc; repeat (have hn := hc.1; replace hc := hc.2))); (first | (refine i64_k hc ?_ ?_ ?_ ; omega; omega; (clear hc; intro hc; subst hc)) | skip)) | (apply Exists.intro; apply And.intro; (first | (focus (repeat (first | (with_reducible assumption) | (with_reducible exact AH.set_same _ _ _) | ((first | refine AH.get_ne ?_ ?_); (first | (with_reducible assumption))))); done))) | (apply Exists.intro; apply And.intro; first | (with_reducible assumption) | ((try simp only [List.getElem?_drop, Nat.mul_one, Nat.add_zero, Nat.zero_add]); first | (with_reducible assumption) | rfl)) | (apply Exists.intro; apply And.intro; (focus ((conv => whnf); first | (intro c hc; subst hc; exact And.intro rfl rfl)))) | (apply And.intro; (first | rfl | (with_reducible assumption) | exact Nat.le_of_ble_eq_true rfl | omega | (simp <;> fail) | (simp <;> omega) | (focus (repeat' (first | (with_reducible assumption) | rfl | apply one_take | apply one_drop)); done))))) <;> (try (conv => whnf))
          refine ⟨i + 1, hil, by omega, ⟨congrArg (AV.int .i64) (by omega), trivial⟩, HLe.of_eq ?_⟩
          rw [hstep, hbe]
          exact (AH.set_set _ _ _ _).symm
        · have hbe : bsN n o i = o i := if_neg hneg
          have hstep2 : dL (n + 1) (fun v => if v < i + 1 then bsN n o v else o v) = dL (n + 1) fun v => if v < i then bsN n o v else o v := by
            refine dL_congr fun v hv => ?_
            by_cases h1 : v = i
            · rw [h1, if_pos (by omega), if_neg (Nat.lt_irrefl i), hbe]
            · by_cases h2 : v < i
              · rw [if_pos (show v < i + 1 by omega), if_pos h2]
              · rw [if_neg (show ¬ v < i + 1 by omega), if_neg h2]
          (repeat' ((conv => whnf); first | refine Then.mk ?_ | refine OpsA.cons ?_ | refine OpsA.nil ?_ | refine AWq.seq ?_ | refine AWq.region ?_ | refine AWq.cond ?_ | refine AWq.block ?_ | refine AWq.skip ?_ | refine AWq.ret ?_ | refine AWq.exit ?_ | refine AWq.loop ?_ | refine DrawA.consD ?_ | refine DrawA.nil ?_ | refine AWq.draw (by decide +kernel) ?_ | (refine Both.mk ?_ ?_ <;> intro hc <;> (first | exact Bool.noConfusion hc | exact absurd (by assumption) hc | exact absurd hc (by assumption) | (exfalso; omega) | skip)) | (intro c hc; (try (simp only [AH.none_iff] at hc; repeat (have hn := hc.1; replace hc := hc.2))); (first | (refine i64_k hc ?_ ?_ ?_ ; omega; omega; (clear hc; intro hc; subst hc)) | skip)) | (apply Exists.intro; apply And.intro; (first | (focus (repeat (first | (with_reducible assumption) | (with_reducible exact AH.set_same _ _ _) | ((first | refine AH.get_ne ?_ ?_); (first | (with_reducible assumption))))); done))) | (apply Exists.intro; apply And.intro; first | (with_reducible assumption) | ((try simp only [List.getElem?_drop, Nat.mul_one, Nat.add_zero, Nat.zero_add]); first | (with_reducible assumption) | rfl)) | (apply Exists.intro; apply And.intro; (focus ((conv => whnf); first | (intro c hc; subst hc; exact And.intro rfl rfl)))) | (apply And.intro; (first | rfl | (with_reducible assumption) | exact Nat.le_of_ble_eq_true rfl | omega | (simp <;> fail) | (simp <;> omega) | (focus (repeat' (first | (with_reducible assumption) | rfl | apply one_take | apply one_drop)); done))))) <;> (try (conv => whnf))
          refine ⟨i + 1, hil, by omega, ⟨congrArg (AV.int .i64) (by omega), trivial⟩, HLe.of_eq ?_⟩
          rw [hstep2]
      · (repeat' ((conv => whnf); first | refine Then.mk ?_ | refine OpsA.cons ?_ | refine OpsA.nil ?_ | refine AWq.seq ?_ | refine AWq.region ?_ | refine AWq.cond ?_ | refine AWq.block ?_ | refine AWq.skip ?_ | refine AWq.ret ?_ | refine AWq.exit ?_ | refine AWq.loop ?_ | refine DrawA.consD ?_ | refine DrawA.nil ?_ | refine AWq.draw (by decide +kernel) ?_ | (refine Both.mk ?_ ?_ <;> intro hc <;> (first | exact Bool.noConfusion hc | exact absurd (by assumption) hc | exact absurd hc (by assumption) | (exfalso; omega) | skip)) | (intro c hc; (try (simp only [AH.none_iff] at hc; repeat (have hn := hc.1; replace hc := hc.2))); (first | (refine i64_k hc ?_ ?_ ?_ ; omega; omega; (clear hc; intro hc; subst hc)) | skip)) | (apply Exists.intro; apply And.intro; (first | (focus (repeat (first | (with_reducible assumption) | (with_reducible exact AH.set_same _ _ _) | ((first | refine AH.get_ne ?_ ?_); (first | (with_reducible assumption))))); done))) | (apply Exists.intro; apply And.intro; first | (with_reducible assumption) | ((try simp only [List.getElem?_drop, Nat.mul_one, Nat.add_zero, Nat.zero_add]); first | (with_reducible assumption) | rfl)) | (apply Exists.intro; apply And.intro; (focus ((conv => whnf); first | (intro c hc; subst hc; exact And.intro rfl rfl)))) | (apply And.intro; (first | rfl | (with_reducible assumption) | exact Nat.le_of_ble_eq_true rfl | omega | (simp <;> fail) | (simp <;> omega) | (focus (repeat' (first | (with_reducible assumption) | rfl | apply one_take | apply one_drop)); done))))) <;> (try (conv => whnf))
        refine ⟨o, r, hq, hst rfl, hr, rfl, congrArg (fun l => H.set r (.row l 0)) (dL_congr fun v hv => if_pos (by omega))⟩
    | true =>
      (repeat' ((conv => whnf); first | refine Then.mk ?_ | refine OpsA.cons ?_ | refine OpsA.nil ?_ | refine AWq.seq ?_ | refine AWq.region ?_ | refine AWq.cond ?_ | refine AWq.block ?_ | refine AWq.skip ?_ | refine AWq.ret ?_ | refine AWq.exit ?_ | refine AWq.loop ?_ | refine DrawA.consD ?_ | refine DrawA.nil ?_ | refine AWq.draw (by decide +kernel) ?_ | (refine Both.mk ?_ ?_ <;> intro hc <;> (first | exact Bool.noConfusion hc | exact absurd (by assumption) hc | exact absurd hc (by assumption) | (exfalso; omega) | skip)) | (intro c hc; (try (simp only [AH.none_iff] at hc; repeat (have hn := hc.1; replace hc := hc.2))); (first | (refine i64_k hc ?_ ?_ ?_ ; omega; omega; (clear hc; intro hc; subst hc)) | skip)) | (apply Exists.intro; apply And.intro; (first | (focus (repeat (first | (with_reducible assumption) | (with_reducible exact AH.set_same _ _ _) | ((first | refine AH.get_ne ?_ ?_); (first | (with_reducible assumption))))); done))) | (apply Exists.intro; apply And.intro; first | (with_reducible assumption) | ((try simp only [List.getElem?_drop, Nat.mul_one, Nat.add_zero, Nat.zero_add]); first | (with_reducible assumption) | rfl)) | (apply Exists.intro; apply And.intro; (focus ((conv => whnf); first | (intro c hc; subst hc; exact And.intro rfl rfl)))) | (apply And.intro; (first | rfl | (with_reducible assumption) | exact Nat.le_of_ble_eq_true rfl | omega | (simp <;> fail) | (simp <;> omega) | (focus (repeat' (first | (with_reducible assumption) | rfl | apply one_take | apply one_drop)); done))))) <;> (try (conv => whnf))
      refine AWp_loop (σ := (Nat → Int) × Bool × Nat) (5 :: 7 :: 8 :: 38 :: 39 :: 40 :: 41 :: 42 :: 43 :: 44 :: 45 :: 46 :: 47 :: 48 :: 49 :: 50 :: 51 :: 52 :: 53 :: 54 :: 55 :: 56 :: 57 :: 58 :: 59 :: 60 :: 61 :: 62 :: 63 :: 64 :: 65 :: 66 :: 67 :: 68 :: 69 :: 70 :: 71 :: 72 :: 73 :: 74 :: 75 :: 76 :: 77 :: 78 :: 79 :: []) (fun s => [(5, .bool s.2.1), (38, .int .i64 s.2.2)]) (fun s => H.set r (.row (dL (n + 1) s.1) 0))
        (fun s => s.2.2 ≤ A.length ∧ BI n A s.1 ∧ (s.2.1 = false → s.1 = o ∧ ∀ x ∈ A.take s.2.2, o x.a = o x.b) ∧ (s.2.1 = true → bsW n s.1 < bsW n o)) (fun s => A.length - s.2.2) (o, false, 0) rfl ⟨Nat.zero_le _, hq, fun _ => ⟨rfl, fun x hx => by simp at hx⟩, fun h => by cases h⟩ ⟨rfl, rfl, trivial⟩ (HLe.refl _) ?_
      rintro ⟨q, ch, i⟩ ⟨hi, hqt, hf, ht⟩
      dsimp only at hi hqt hf ht ⊢
      refine AWp.of tt_ok (dok _) rfl ?_
      by_cases hil : i < A.length
      · obtain ⟨x, hx⟩ : ∃ x, A[i]? = some x := ⟨_, List.getElem?_eq_getElem hil⟩
        have hxm := List.mem_of_getElem? hx
        have hok := hA x hxm
        have hok2 := hok
        obtain ⟨xa, xb, d1, d2, w1, w2, f1, f2⟩ := hok
        have hGa1 := hGa (.row (dL (n + 1) q) 0)
        have ga := dL_getZ (n := n + 1) q (show x.a < n + 1 by omega)
        have gb := dL_getZ (n := n + 1) q (show x.b < n + 1 by omega)
        have hdl := dL_len (n + 1) q
        obtain ⟨m, hm⟩ : ∃ m, m = min (q x.a) (q x.b) := ⟨_, rfl⟩
        (iterate 3 ((repeat' ((conv => whnf); first | refine OpsA.cons ?_ | refine OpsA.nil ?_ | refine AWq.seq ?_ | refine AWq.region ?_ | refine AWq.cond ?_ | refine AWq.block ?_ | refine AWq.skip ?_ | refine AWq.ret ?_ | refine AWq.exit ?_ | refine AWq.loop ?_ | refine DrawA.consD ?_ | refine DrawA.nil ?_ | refine AWq.draw (by decide +kernel) ?_ | (refine Both.mk ?_ ?_ <;> intro hc <;> (first | exact Bool.noConfusion hc | exact absurd (by assumption) hc | exact absurd hc (by assumption) | (exfalso; omega) | skip)) | (intro c hc; (try (simp only [AH.none_iff] at hc; repeat (have hn := hc.1; replace hc := hc.2))); (first | (refine i64_k hc ?_ ?_ ?_ ; omega; omega; (clear hc; intro hc; subst hc)) | skip)) | (apply Exists.intro; apply And.intro; (first | (focus (repeat (first | (with_reducible assumption) | (with_reducible exact AH.set_same _ _ _) | ((first | refine AH.get_ne ?_ ?_); (first | (with_reducible assumption))))); done))) | (apply Exists.intro; apply And.intro; first | (with_reducible assumption) | ((try simp only [List.getElem?_drop, Nat.mul_one, Nat.add_zero, Nat.zero_add]); first | (with_reducible assumption) | rfl)) | (apply Exists.intro; apply And.intro; (focus ((conv => whnf); first | (intro c hc; subst hc; exact And.intro rfl rfl)))) | (apply And.intro; (first | rfl | (with_reducible assumption) | exact Nat.le_of_ble_eq_true rfl | omega | (simp <;> fail) | (simp <;> omega) | (focus (repeat' (first | (with_reducible assumption) | rfl | apply one_take | apply one_drop)); done))))) <;> (try (conv => whnf)); refine Then.mk ?_))
        refine AWq.in ?_
        refine AWp_segP 7 (acA x) rfl rfl (by (first | assumption | (simp only [AH.none_iff]; (repeat' (first | assumption | (refine And.intro ?_ ?_)))))) (acL_segZ hx) rfl ?_
        refine AWp.of tt_ok (dok _) rfl ?_
        (repeat' ((conv => whnf); first | refine OpsA.cons ?_ | refine OpsA.nil ?_ | refine AWq.seq ?_ | refine AWq.region ?_ | refine AWq.cond ?_ | refine AWq.block ?_ | refine AWq.skip ?_ | refine AWq.ret ?_ | refine AWq.exit ?_ | refine AWq.loop ?_ | refine DrawA.consD ?_ | refine DrawA.nil ?_ | refine AWq.draw (by decide +kernel) ?_ | (refine Both.mk ?_ ?_ <;> intro hc <;> (first | exact Bool.noConfusion hc | exact absurd (by assumption) hc | exact absurd hc (by assumption) | (exfalso; omega) | skip)) | (intro c hc; (try (simp only [AH.none_iff] at hc; repeat (have hn := hc.1; replace hc := hc.2))); (first | (refine i64_k hc ?_ ?_ ?_ ; omega; omega; (clear hc; intro hc; subst hc)) | skip)) | (apply Exists.intro; apply And.intro; (first | (focus (repeat (first | (with_reducible assumption) | (with_reducible exact AH.set_same _ _ _) | ((first | refine AH.get_ne ?_ ?_); (first | (with_reducible assumption))))); done))) | (apply Exists.intro; apply And.intro; first | (with_reducible assumption) | ((try simp only [List.getElem?_drop, Nat.mul_one, Nat.add_zero, Nat.zero_add]); first | (with_reducible assumption) | rfl)) | (apply Exists.intro; apply And.intro; (focus ((conv => whnf); first | (intro c hc; subst hc; exact And.intro rfl rfl)))) | (apply And.intro; (first | rfl | (with_reducible assumption) | exact Nat.le_of_ble_eq_true rfl | omega | (simp <;> fail) | (simp <;> omega) | (focus (repeat' (first | (with_reducible assumption) | rfl | apply one_take | apply one_drop)); done))))) <;> (try (conv => whnf))
        refine Then.mk ?_
        rw [← hm]
        by_cases hne : q x.a ≠ m ∨ q x.b ≠ m
        · have hq1 := hqt.step hxm hok2
          have hlt := bsW_lt hqt hok2 (by rw [← hm]; exact hne)
          have hall : bsW n (bsP q x) < bsW n o := by
            cases ch with
            | false => obtain ⟨rfl, _⟩ := hf rfl; exact hlt
            | true => exact Nat.lt_trans hlt (ht rfl)
          have hw1 := dL_wrZ (n := n + 1) q (show x.a < n + 1 by omega) m
          have hw2 := dL_wrZ (n := n + 1) (putD q x.a m) (show x.b < n + 1 by omega) m
          have hdl2 : (wrA (dL (n + 1) q) (0 + (x.a : Int).toNat * 1) [.int .i64 m]).length = n + 1 := by rw [hw1]; simp
          have hbs : dL (n + 1) (bsP q x) = wrA (wrA (dL (n + 1) q) (0 + (x.a : Int).toNat * 1) [.int .i64 m]) (0 + (x.b : Int).toNat * 1) [.int .i64 m] := by
            rw [hw1, hw2]
            unfold bsP
            rw [← hm]
          (repeat' ((conv => whnf); first | refine OpsA.cons ?_ | refine OpsA.nil ?_ | refine AWq.seq ?_ | refine AWq.region ?_ | refine AWq.cond ?_ | refine AWq.block ?_ | refine AWq.skip ?_ | refine AWq.ret ?_ | refine AWq.exit ?_ | refine AWq.loop ?_ | refine DrawA.consD ?_ | refine DrawA.nil ?_ | refine AWq.draw (by decide +kernel) ?_ | (refine Both.mk ?_ ?_ <;> intro hc <;> (first | exact Bool.noConfusion hc | exact absurd (by assumption) hc | exact absurd hc (by assumption) | (exfalso; omega) | skip)) | (intro c hc; (try (simp only [AH.none_iff] at hc; repeat (have hn := hc.1; replace hc := hc.2))); (first | (refine i64_k hc ?_ ?_ ?_ ; omega; omega; (clear hc; intro hc; subst hc)) | skip)) | (apply Exists.intro; apply And.intro; (first | (focus (repeat (first | (with_reducible assumption) | (with_reducible exact AH.set_same _ _ _) | ((first | refine AH.get_ne ?_ ?_); (first | (with_reducible assumption))))); done))) | (apply Exists.intro; apply And.intro; first | (with_reducible assumption) | ((try simp only [List.getElem?_drop, Nat.mul_one, Nat.add_zero, Nat.zero_add]); first | (with_reducible assumption) | rfl)) | (apply Exists.intro; apply And.intro; (focus ((conv => whnf); first | (intro c hc; subst hc; exact And.intro rfl rfl)))) | (apply And.intro; (first | rfl | (with_reducible assumption) | exact Nat.le_of_ble_eq_true rfl | omega | (simp <;> fail) | (simp <;> omega) | (focus (repeat' (first | (with_reducible assumption) | rfl | apply one_take | apply one_drop)); done))))) <;> (try (conv => whnf))
          all_goals
            refine Then.mk ?_
            (repeat' ((conv => whnf); first | refine OpsA.cons ?_ | refine OpsA.nil ?_ | refine AWq.seq ?_ | refine AWq.region ?_ | refine AWq.cond ?_ | refine AWq.block ?_ | refine AWq.skip ?_ | refine AWq.ret ?_ | refine AWq.exit ?_ | refine AWq.loop ?_ | refine DrawA.consD ?_ | refine DrawA.nil ?_ | refine AWq.draw (by decide +kernel) ?_ | (refine Both.mk ?_ ?_ <;> intro hc <;> (first | exact Bool.noConfusion hc | exact absurd (by assumption) hc | exact absurd hc (by assumption) | (exfalso; omega) | skip)) | (intro c hc; (try (simp only [AH.none_iff] at hc; repeat (have hn := hc.1; replace hc := hc.2))); (first | (refine i64_k hc ?_ ?_ ?_ ; omega; omega; (clear hc; intro hc; subst hc)) | skip)) | (apply Exists.intro; apply And.intro; (first | (focus (repeat (first | (with_reducible assumption) | (with_reducible exact AH.set_same _ _ _) | ((first | refine AH.get_ne ?_ ?_); (first | (with_reducible assumption))))); done))) | (apply Exists.intro; apply And.intro; first | (with_reducible assumption) | ((try simp only [List.getElem?_drop, Nat.mul_one, Nat.add_zero, Nat.zero_add]); first | (with_reducible assumption) | rfl)) | (apply Exists.intro; apply And.intro; (focus ((conv => whnf); first | (intro c hc; subst hc; exact And.intro rfl rfl)))) | (apply And.intro; (first | rfl | (with_reducible assumption) | exact Nat.le_of_ble_eq_true rfl | omega | (simp <;> fail) | (simp <;> omega) | (focus (repeat' (first | (with_reducible assumption) | rfl | apply one_take | apply one_drop)); done))))) <;> (try (conv => whnf))
            refine AWq.drawM ([], [74]) (by decide +kernel) ?_
            (repeat' ((conv => whnf); first | refine OpsA.cons ?_ | refine OpsA.nil ?_ | refine AWq.seq ?_ | refine AWq.region ?_ | refine AWq.cond ?_ | refine AWq.block ?_ | refine AWq.skip ?_ | refine AWq.ret ?_ | refine AWq.exit ?_ | refine AWq.loop ?_ | refine DrawA.consD ?_ | refine DrawA.nil ?_ | refine AWq.draw (by decide +kernel) ?_ | (refine Both.mk ?_ ?_ <;> intro hc <;> (first | exact Bool.noConfusion hc | exact absurd (by assumption) hc | exact absurd hc (by assumption) | (exfalso; omega) | skip)) | (intro c hc; (try (simp only [AH.none_iff] at hc; repeat (have hn := hc.1; replace hc := hc.2))); (first | (refine i64_k hc ?_ ?_ ?_ ; omega; omega; (clear hc; intro hc; subst hc)) | skip)) | (apply Exists.intro; apply And.intro; (first | (focus (repeat (first | (with_reducible assumption) | (with_reducible exact AH.set_same _ _ _) | ((first | refine AH.get_ne ?_ ?_); (first | (with_reducible assumption))))); done))) | (apply Exists.intro; apply And.intro; first | (with_reducible assumption) | ((try simp only [List.getElem?_drop, Nat.mul_one, Nat.add_zero, Nat.zero_add]); first | (with_reducible assumption) | rfl)) | (apply Exists.intro; apply And.intro; (focus ((conv => whnf); first | (intro c hc; subst hc; exact And.intro rfl rfl)))) | (apply And.intro; (first | rfl | (with_reducible assumption) | exact Nat.le_of_ble_eq_true rfl | omega | (simp <;> fail) | (simp <;> omega) | (focus (repeat' (first | (with_reducible assumption) | rfl | apply one_take | apply one_drop)); done))))) <;> (try (conv => whnf))
            refine Then.mk (AWq.in ?_)
            refine AWp_less (H.set r (.row (dL (n + 1) (bsP q x)) 0)) (HLe.of_eq (by rw [hbs]; exact ((AH.set_set _ _ _ _).trans (AH.set_set _ _ _ _)).symm)) ?_
            refine AWp.of tt_ok (dok _) rfl ?_
            (repeat' ((conv => whnf); first | refine Then.mk ?_ | refine OpsA.cons ?_ | refine OpsA.nil ?_ | refine AWq.seq ?_ | refine AWq.region ?_ | refine AWq.cond ?_ | refine AWq.block ?_ | refine AWq.skip ?_ | refine AWq.ret ?_ | refine AWq.exit ?_ | refine AWq.loop ?_ | refine DrawA.consD ?_ | refine DrawA.nil ?_ | refine AWq.draw (by decide +kernel) ?_ | (refine Both.mk ?_ ?_ <;> intro hc <;> (first | exact Bool.noConfusion hc | exact absurd (by assumption) hc | exact absurd hc (by assumption) | (exfalso; omega) | skip)) | (intro c hc; (try (simp only [AH.none_iff] at hc; repeat (have hn := hc.1; replace hc := hc.2))); (first | (refine i64_k hc ?_ ?_ ?_ ; omega; omega; (clear hc; intro hc; subst hc)) | skip)) | (apply Exists.intro; apply And.intro; (first | (focus (repeat (first | (with_reducible assumption) | (with_reducible exact AH.set_same _ _ _) | ((first | refine AH.get_ne ?_ ?_); (first | (with_reducible assumption))))); done))) | (apply Exists.intro; apply And.intro; first | (with_reducible assumption) | ((try simp only [List.getElem?_drop, Nat.mul_one, Nat.add_zero, Nat.zero_add]); first | (with_reducible assumption) | rfl)) | (apply Exists.intro; apply And.intro; (focus ((conv => whnf); first | (intro c hc; subst hc; exact And.intro rfl rfl)))) | (apply And.intro; (first | rfl | (with_reducible assumption) | exact Nat.le_of_ble_eq_true rfl | omega | (simp <;> fail) | (simp <;> omega) | (focus (repeat' (first | (with_reducible assumption) | rfl | apply one_take | apply one_drop)); done))))) <;> (try (conv => whnf))
            exact ⟨(bsP q x, true, i + 1), ⟨hil, hq1, fun h => Bool.noConfusion h, fun _ => hall⟩, by dsimp only; omega, ⟨rfl, congrArg (AV.int .i64) (by dsimp only; omega), trivial⟩, HLe.refl _⟩
        · have hab : q x.a = q x.b := by omega
          have hfin : ch = false → q = o ∧ ∀ x ∈ A.take (i + 1), o x.a = o x.b := fun h => by
            obtain ⟨rfl, hno⟩ := hf h
            exact ⟨rfl, all_take hx hno hab⟩
          (repeat' ((conv => whnf); first | refine Then.mk ?_ | refine OpsA.cons ?_ | refine OpsA.nil ?_ | refine AWq.seq ?_ | refine AWq.region ?_ | refine AWq.cond ?_ | refine AWq.block ?_ | refine AWq.skip ?_ | refine AWq.ret ?_ | refine AWq.exit ?_ | refine AWq.loop ?_ | refine DrawA.consD ?_ | refine DrawA.nil ?_ | refine AWq.draw (by decide +kernel) ?_ | (refine Both.mk ?_ ?_ <;> intro hc <;> (first | exact Bool.noConfusion hc | exact absurd (by assumption) hc | exact absurd hc (by assumption) | (exfalso; omega) | skip)) | (intro c hc; (try (simp only [AH.none_iff] at hc; repeat (have hn := hc.1; replace hc := hc.2))); (first | (refine i64_k hc ?_ ?_ ?_ ; omega; omega; (clear hc; intro hc; subst hc)) | skip)) | (apply Exists.intro; apply And.intro; (first | (focus (repeat (first | (with_reducible assumption) | (with_reducible exact AH.set_same _ _ _) | ((first | refine AH.get_ne ?_ ?_); (first | (with_reducible assumption))))); done))) | (apply Exists.intro; apply And.intro; first | (with_reducible assumption) | ((try simp only [List.getElem?_drop, Nat.mul_one, Nat.add_zero, Nat.zero_add]); first | (with_reducible assumption) | rfl)) | (apply Exists.intro; apply And.intro; (focus ((conv => whnf); first | (intro c hc; subst hc; exact And.intro rfl rfl)))) | (apply And.intro; (first | rfl | (with_reducible assumption) | exact Nat.le_of_ble_eq_true rfl | omega | (simp <;> fail) | (simp <;> omega) | (focus (repeat' (first | (with_reducible assumption) | rfl | apply one_take | apply one_drop)); done))))) <;> (try (conv => whnf))
          all_goals exact ⟨(q, ch, i + 1), ⟨hil, hqt, hfin, ht⟩, by dsimp only; omega, ⟨rfl, congrArg (AV.int .i64) (by dsimp only; omega), trivial⟩, HLe.refl _⟩
      · have hie : i = A.length := by omega
        (repeat' ((conv => whnf); first | refine Then.mk ?_ | refine OpsA.cons ?_ | refine OpsA.nil ?_ | refine AWq.seq ?_ | refine AWq.region ?_ | refine AWq.cond ?_ | refine AWq.block ?_ | refine AWq.skip ?_ | refine AWq.ret ?_ | refine AWq.exit ?_ | refine AWq.loop ?_ | refine DrawA.consD ?_ | refine DrawA.nil ?_ | refine AWq.draw (by decide +kernel) ?_ | (refine Both.mk ?_ ?_ <;> intro hc <;> (first | exact Bool.noConfusion hc | exact absurd (by assumption) hc | exact absurd hc (by assumption) | (exfalso; omega) | skip)) | (intro c hc; (try (simp only [AH.none_iff] at hc; repeat (have hn := hc.1; replace hc := hc.2))); (first | (refine i64_k hc ?_ ?_ ?_ ; omega; omega; (clear hc; intro hc; subst hc)) | skip)) | (apply Exists.intro; apply And.intro; (first | (focus (repeat (first | (with_reducible assumption) | (with_reducible exact AH.set_same _ _ _) | ((first | refine AH.get_ne ?_ ?_); (first | (with_reducible assumption))))); done))) | (apply Exists.intro; apply And.intro; first | (with_reducible assumption) | ((try simp only [List.getElem?_drop, Nat.mul_one, Nat.add_zero, Nat.zero_add]); first | (with_reducible assumption) | rfl)) | (apply Exists.intro; apply And.intro; (focus ((conv => whnf); first | (intro c hc; subst hc; exact And.intro rfl rfl)))) | (apply And.intro; (first | rfl | (with_reducible assumption) | exact Nat.le_of_ble_eq_true rfl | omega | (simp <;> fail) | (simp <;> omega) | (focus (repeat' (first | (with_reducible assumption) | rfl | apply one_take | apply one_drop)); done))))) <;> (try (conv => whnf))
        refine ⟨(q, ch), ⟨hqt, fun h => ?_⟩, ?_, ⟨rfl, trivial⟩, HLe.refl _⟩
        · obtain ⟨rfl, hno⟩ := hf h
          rw [hie, List.take_of_length_le (Nat.le_refl _)] at hno
          exact hno
        · cases ch with
          | false => obtain ⟨rfl, _⟩ := hf rfl; show 2 * bsW n q + 0 < 2 * bsW n q + 1; omega
          | true => have := ht rfl; show 2 * bsW n q + 1 < 2 * bsW n o + 1; omega
end Go.Proofs.Ytebflkgpbbjhnaa
/- The walks of balance: the network at the start; costs. -/
namespace Go.Proofs.Ytebflkgpbbjhnaa
open Go.Fw Go
set_option linter.unusedVariables false
set_option linter.unusedSimpArgs false

set_option maxRecDepth 8000 in
theorem add_c (n : Nat) (A : List Ac) (hl : A.length ≤ 100000) (x : Ac) (hf : x.f = flow0 x.d x.w) (hw : 1 ≤ x.w ∧ x.w ≤ 65536) (H : AH) (c7 g ra v : Nat) (hc7 : H c7 = some (.row [.ptr g 0 0] 0)) (hg : H g = some (.row [.int .i64 n, .sl ra v 5 0 A.length none] 0)) (ha : H ra = some (.row (acL A) v)) (n1 : c7 ≠ g) (n2 : c7 ≠ ra) (n3 : g ≠ ra) :
    ACall Try.prog 67 [.int .i64 x.a, .int .i64 x.b, .int .i64 x.d, .int .i64 x.w, .ptr c7 0 0] H (fun y H' => y = .tup [] ∧ H' = (H.set ra (.row (acL (A ++ [x])) (v + 1))).set g (.row [.int .i64 n, .sl ra (v + 1) 5 0 (A.length + 1) none] 0)) := by
  have hcl := acL_len A
  have hsn : acL A ++ acA x = acL (A ++ [x]) := fL_snoc acA A x
  obtain ⟨a, b, d, w, f⟩ := x
  dsimp only at hf hw ⊢
  unfold flow0 at hf
  rw [← hsn]
  obtain ⟨nm, k0, k1⟩ : ∃ nm : Nat → Nat, nm 0 = ra ∧ nm 1 = g := ⟨fun k => if k = 0 then ra else g, rfl, rfl⟩
  subst k0 k1
  have hnm : ∀ c c', c ∈ [((31 : Nat), 0), (23, 1), (33, 1)].map (·.2) → c' ∈ [((31 : Nat), 0), (23, 1), (33, 1)].map (·.2) → nm c = nm c' → c = c' := by
    intro a b ha hb hab
    simp at ha hb
    rcases ha with rfl | rfl <;> rcases hb with rfl | rfl <;> first | rfl | exact absurd hab n3 | exact absurd hab (Ne.symm n3)
  subst hf
  by_cases h1 : 0 < d
  · rw [if_pos h1]
    refine ACall_of tt_ok (dok _) Try.func67 rfl (by decide) rfl ?_
    (repeat' ((conv => whnf); first | refine Then.mk ?_ | refine OpsA.cons ?_ | refine OpsA.nil ?_ | refine AWq.seq ?_ | refine AWq.region ?_ | refine AWq.cond ?_ | refine AWq.block ?_ | refine AWq.skip ?_ | (refine Both.mk ?_ ?_ <;> intro hc <;> (first | exact Bool.noConfusion hc | exact absurd (by assumption) hc | exact absurd hc (by assumption) | skip)) | (intro c hc; (try (simp only [AH.none_iff] at hc; repeat (have hn := hc.1; replace hc := hc.2))); (first | (refine i64_k hc ?_ ?_ ?_ ; omega; omega; (clear hc; intro hc; subst hc)) | skip)) | (apply Exists.intro; apply And.intro; (first | (focus (repeat (first | (with_reducible assumption) | (with_reducible exact AH.set_same _ _ _) | ((first | refine AH.get_ne ?_ ?_); (first | (with_reducible assumption) | exact Ne.symm (by with_reducible assumption))))); done))) | (apply Exists.intro; apply And.intro; first | (with_reducible assumption) | ((try simp only [List.getElem?_drop, Nat.mul_one, Nat.add_zero, Nat.zero_add]); first | (with_reducible assumption) | rfl)) | (apply Exists.intro; apply And.intro; (focus (intro G; ((conv => whnf); (try left); (conv => whnf); first | exact And.intro rfl rfl)))) | (apply And.intro; (first | rfl | (with_reducible assumption) | exact Nat.le_of_ble_eq_true rfl | omega)))) <;> (try (conv => whnf))
    refine AWq.drawK mo [(31, 0), (23, 1), (33, 1)] nm hnm (by decide +kernel) ?_
    (repeat' ((conv => whnf); first | refine DrawK.consD ?_ | refine DrawK.nil ?_ | (apply And.intro; (focus (repeat (first | exact trivial | (refine And.intro (a := _ ≠ _) (b := offR _ _ _) ?_ ?_; (first | omega | exact Ne.symm (by assumption))))); done)) | refine Then.mk ?_ | refine OpsA.cons ?_ | refine OpsA.nil ?_ | refine AWq.seq ?_ | refine AWq.region ?_ | refine AWq.cond ?_ | refine AWq.block ?_ | refine AWq.skip ?_ | (refine Both.mk ?_ ?_ <;> intro hc <;> (first | exact Bool.noConfusion hc | exact absurd (by assumption) hc | exact absurd hc (by assumption) | skip)) | (intro c hc; (try (simp only [AH.none_iff] at hc; repeat (have hn := hc.1; replace hc := hc.2))); (first | (refine i64_k hc ?_ ?_ ?_ ; omega; omega; (clear hc; intro hc; subst hc)) | skip)) | (apply Exists.intro; apply And.intro; (first | (focus (repeat (first | (with_reducible assumption) | (with_reducible exact AH.set_same _ _ _) | ((first | refine AH.get_ne ?_ ?_); (first | (with_reducible assumption) | exact Ne.symm (by with_reducible assumption))))); done))) | (apply Exists.intro; apply And.intro; first | (with_reducible assumption) | ((try simp only [List.getElem?_drop, Nat.mul_one, Nat.add_zero, Nat.zero_add]); first | (with_reducible assumption) | rfl)) | (apply Exists.intro; apply And.intro; (focus (intro G; ((conv => whnf); (try left); (conv => whnf); first | exact And.intro rfl rfl)))) | (apply And.intro; (first | rfl | (with_reducible assumption) | exact Nat.le_of_ble_eq_true rfl | omega)))) <;> (try (conv => whnf))
    rw [AH.set_id hg, AH.set_set]
    (try rw [Int.zero_sub])
    rfl
  · by_cases h2 : d < 0
    · rw [if_neg h1, if_pos h2]
      refine ACall_of tt_ok (dok _) Try.func67 rfl (by decide) rfl ?_
      (repeat' ((conv => whnf); first | refine Then.mk ?_ | refine OpsA.cons ?_ | refine OpsA.nil ?_ | refine AWq.seq ?_ | refine AWq.region ?_ | refine AWq.cond ?_ | refine AWq.block ?_ | refine AWq.skip ?_ | (refine Both.mk ?_ ?_ <;> intro hc <;> (first | exact Bool.noConfusion hc | exact absurd (by assumption) hc | exact absurd hc (by assumption) | skip)) | (intro c hc; (try (simp only [AH.none_iff] at hc; repeat (have hn := hc.1; replace hc := hc.2))); (first | (refine i64_k hc ?_ ?_ ?_ ; omega; omega; (clear hc; intro hc; subst hc)) | skip)) | (apply Exists.intro; apply And.intro; (first | (focus (repeat (first | (with_reducible assumption) | (with_reducible exact AH.set_same _ _ _) | ((first | refine AH.get_ne ?_ ?_); (first | (with_reducible assumption) | exact Ne.symm (by with_reducible assumption))))); done))) | (apply Exists.intro; apply And.intro; first | (with_reducible assumption) | ((try simp only [List.getElem?_drop, Nat.mul_one, Nat.add_zero, Nat.zero_add]); first | (with_reducible assumption) | rfl)) | (apply Exists.intro; apply And.intro; (focus (intro G; ((conv => whnf); (try left); (conv => whnf); first | exact And.intro rfl rfl)))) | (apply And.intro; (first | rfl | (with_reducible assumption) | exact Nat.le_of_ble_eq_true rfl | omega)))) <;> (try (conv => whnf))
      refine AWq.drawK mo [(31, 0), (23, 1), (33, 1)] nm hnm (by decide +kernel) ?_
      (repeat' ((conv => whnf); first | refine DrawK.consD ?_ | refine DrawK.nil ?_ | (apply And.intro; (focus (repeat (first | exact trivial | (refine And.intro (a := _ ≠ _) (b := offR _ _ _) ?_ ?_; (first | omega | exact Ne.symm (by assumption))))); done)) | refine Then.mk ?_ | refine OpsA.cons ?_ | refine OpsA.nil ?_ | refine AWq.seq ?_ | refine AWq.region ?_ | refine AWq.cond ?_ | refine AWq.block ?_ | refine AWq.skip ?_ | (refine Both.mk ?_ ?_ <;> intro hc <;> (first | exact Bool.noConfusion hc | exact absurd (by assumption) hc | exact absurd hc (by assumption) | skip)) | (intro c hc; (try (simp only [AH.none_iff] at hc; repeat (have hn := hc.1; replace hc := hc.2))); (first | (refine i64_k hc ?_ ?_ ?_ ; omega; omega; (clear hc; intro hc; subst hc)) | skip)) | (apply Exists.intro; apply And.intro; (first | (focus (repeat (first | (with_reducible assumption) | (with_reducible exact AH.set_same _ _ _) | ((first | refine AH.get_ne ?_ ?_); (first | (with_reducible assumption) | exact Ne.symm (by with_reducible assumption))))); done))) | (apply Exists.intro; apply And.intro; first | (with_reducible assumption) | ((try simp only [List.getElem?_drop, Nat.mul_one, Nat.add_zero, Nat.zero_add]); first | (with_reducible assumption) | rfl)) | (apply Exists.intro; apply And.intro; (focus (intro G; ((conv => whnf); (try left); (conv => whnf); first | exact And.intro rfl rfl)))) | (apply And.intro; (first | rfl | (with_reducible assumption) | exact Nat.le_of_ble_eq_true rfl | omega)))) <;> (try (conv => whnf))
      rw [AH.set_id hg, AH.set_set]
      (try rw [Int.zero_sub])
      rfl
    · rw [if_neg h1, if_neg h2]
      refine ACall_of tt_ok (dok _) Try.func67 rfl (by decide) rfl ?_
      (repeat' ((conv => whnf); first | refine Then.mk ?_ | refine OpsA.cons ?_ | refine OpsA.nil ?_ | refine AWq.seq ?_ | refine AWq.region ?_ | refine AWq.cond ?_ | refine AWq.block ?_ | refine AWq.skip ?_ | (refine Both.mk ?_ ?_ <;> intro hc <;> (first | exact Bool.noConfusion hc | exact absurd (by assumption) hc | exact absurd hc (by assumption) | skip)) | (intro c hc; (try (simp only [AH.none_iff] at hc; repeat (have hn := hc.1; replace hc := hc.2))); (first | (refine i64_k hc ?_ ?_ ?_ ; omega; omega; (clear hc; intro hc; subst hc)) | skip)) | (apply Exists.intro; apply And.intro; (first | (focus (repeat (first | (with_reducible assumption) | (with_reducible exact AH.set_same _ _ _) | ((first | refine AH.get_ne ?_ ?_); (first | (with_reducible assumption) | exact Ne.symm (by with_reducible assumption))))); done))) | (apply Exists.intro; apply And.intro; first | (with_reducible assumption) | ((try simp only [List.getElem?_drop, Nat.mul_one, Nat.add_zero, Nat.zero_add]); first | (with_reducible assumption) | rfl)) | (apply Exists.intro; apply And.intro; (focus (intro G; ((conv => whnf); (try left); (conv => whnf); first | exact And.intro rfl rfl)))) | (apply And.intro; (first | rfl | (with_reducible assumption) | exact Nat.le_of_ble_eq_true rfl | omega)))) <;> (try (conv => whnf))
      refine AWq.drawK mo [(31, 0), (23, 1), (33, 1)] nm hnm (by decide +kernel) ?_
      (repeat' ((conv => whnf); first | refine DrawK.consD ?_ | refine DrawK.nil ?_ | (apply And.intro; (focus (repeat (first | exact trivial | (refine And.intro (a := _ ≠ _) (b := offR _ _ _) ?_ ?_; (first | omega | exact Ne.symm (by assumption))))); done)) | refine Then.mk ?_ | refine OpsA.cons ?_ | refine OpsA.nil ?_ | refine AWq.seq ?_ | refine AWq.region ?_ | refine AWq.cond ?_ | refine AWq.block ?_ | refine AWq.skip ?_ | (refine Both.mk ?_ ?_ <;> intro hc <;> (first | exact Bool.noConfusion hc | exact absurd (by assumption) hc | exact absurd hc (by assumption) | skip)) | (intro c hc; (try (simp only [AH.none_iff] at hc; repeat (have hn := hc.1; replace hc := hc.2))); (first | (refine i64_k hc ?_ ?_ ?_ ; omega; omega; (clear hc; intro hc; subst hc)) | skip)) | (apply Exists.intro; apply And.intro; (first | (focus (repeat (first | (with_reducible assumption) | (with_reducible exact AH.set_same _ _ _) | ((first | refine AH.get_ne ?_ ?_); (first | (with_reducible assumption) | exact Ne.symm (by with_reducible assumption))))); done))) | (apply Exists.intro; apply And.intro; first | (with_reducible assumption) | ((try simp only [List.getElem?_drop, Nat.mul_one, Nat.add_zero, Nat.zero_add]); first | (with_reducible assumption) | rfl)) | (apply Exists.intro; apply And.intro; (focus (intro G; ((conv => whnf); (try left); (conv => whnf); first | exact And.intro rfl rfl)))) | (apply And.intro; (first | rfl | (with_reducible assumption) | exact Nat.le_of_ble_eq_true rfl | omega)))) <;> (try (conv => whnf))
      rw [AH.set_id hg, AH.set_set]
      (try rw [Int.zero_sub])
      rfl
def edAc (x : Ed) : Ac := ⟨x.a.toNat, x.b.toNat, x.d, x.w, flow0 x.d x.w⟩
def fxAc (n : Nat) (x : Fx) : Ac := ⟨x.a.toNat, n, x.v, x.w, flow0 x.v x.w⟩
def net0 (n : Nat) (es : List Ed) (fs : List Fx) : List Ac := es.map edAc ++ fs.map (fxAc n)
/-- A network in memory, under way. -/
def stH (H : AH) (n g ra : Nat) (A : List Ac) : AH := (H.set ra (.row (acL A) A.length)).set g (.row [.int .i64 n, .sl ra A.length 5 0 A.length none] 0)
theorem stH_add {H : AH} {n g ra : Nat} {A : List Ac} (hne : g ≠ ra) (x : Ac) : stH H n g ra (A ++ [x]) = ((stH H n g ra A).set ra (.row (acL (A ++ [x])) (A.length + 1))).set g (.row [.int .i64 n, .sl ra (A.length + 1) 5 0 (A.length + 1) none] 0) := by
  unfold stH
  rw [AH.set_comm (H.set ra _) _ _ hne, AH.set_set, AH.set_set]
  simp only [List.length_append, List.length_cons, List.length_nil, Nat.zero_add]
theorem stAdd_c (n : Nat) (A : List Ac) (hl : A.length ≤ 100000) (x : Ac) (hf : x.f = flow0 x.d x.w) (hw : 1 ≤ x.w ∧ x.w ≤ 65536) (H : AH) (c7 g ra : Nat) (hc7 : H c7 = some (.row [.ptr g 0 0] 0)) (n1 : c7 ≠ g) (n2 : c7 ≠ ra) (n3 : g ≠ ra) :
    ACall Try.prog 67 [.int .i64 x.a, .int .i64 x.b, .int .i64 x.d, .int .i64 x.w, .ptr c7 0 0] (stH H n g ra A) (fun y H' => y = .tup [] ∧ H' = stH H n g ra (A ++ [x])) := by
  rw [stH_add n3]
  exact add_c n A hl x hf hw _ c7 g ra A.length (by unfold stH; rw [AH.set_ne _ _ n1, AH.set_ne _ _ n2]; exact hc7) (by unfold stH; exact AH.set_same _ _ _) (by unfold stH; rw [AH.set_ne _ _ (Ne.symm n3)]; exact AH.set_same _ _ _) n1 n2 n3
set_option maxRecDepth 8000 in
theorem start_c (n : Nat) (hnn : n ≤ 64) (es : List Ed) (fs : List Fx) (he : es.length ≤ 8192) (hf : fs.length ≤ 8192) (hE : ∀ x ∈ es, vE n x) (hF : ∀ x ∈ fs, vF n x) (H : AH) :
    ACall Try.prog 36 [.int .i64 n, .cs (edL es) es.length, .cs (fxL fs) fs.length] H (fun y H' => ∃ g ra, H g = none ∧ H ra = none ∧ g ≠ ra ∧ y = .ptr g 0 0 ∧ H' = stH H n g ra (net0 n es fs)) := by
  refine ACall.told ?_
  have hel := edL_len es
  have hfl := fxL_len fs
  have heo := edL_one es
  have hfo := fxL_one fs
  refine ACall_of tt_ok (dok _) Try.func36 rfl (by decide) rfl ?_
  (iterate 1 ((repeat' ((conv => whnf); first | left | refine OpsA.cons ?_ | refine OpsA.nil ?_ | refine AWq.seq ?_ | refine AWq.region ?_ | refine AWq.cond ?_ | refine AWq.block ?_ | refine AWq.skip ?_ | refine AWq.ret ?_ | refine AWq.exit ?_ | refine AWq.loop ?_ | (refine Both.mk ?_ ?_ <;> intro hc <;> (first | exact Bool.noConfusion hc | (exfalso; omega) | skip)) | (intro c hc; (try (simp only [AH.none_iff] at hc; repeat (have hn := hc.1; replace hc := hc.2))); (first | (refine i64_k hc ?_ ?_ ?_ ; omega; omega; (clear hc; intro hc; subst hc)) | skip)) | (apply Exists.intro; apply And.intro; (first | (focus (repeat (first | (with_reducible assumption) | (with_reducible exact AH.set_same _ _ _))); done))) | (apply Exists.intro; apply And.intro; first | (with_reducible assumption) | ((try simp only [List.getElem?_drop, Nat.mul_one, Nat.add_zero, Nat.zero_add]); first | (with_reducible assumption) | rfl)) | (apply And.intro; (first | rfl | (with_reducible assumption) | exact Nat.le_of_ble_eq_true rfl | omega | (simp <;> omega) | (focus (repeat' (first | (with_reducible assumption) | rfl | apply one_take | apply one_drop)); done))))) <;> (try (conv => whnf)); refine Then.mk ?_))
  (repeat' ((conv => whnf); first | left | refine OpsA.cons ?_ | refine OpsA.nil ?_ | refine AWq.seq ?_ | refine AWq.region ?_ | refine AWq.cond ?_ | refine AWq.block ?_ | refine AWq.skip ?_ | refine AWq.ret ?_ | refine AWq.exit ?_ | refine AWq.loop ?_ | (refine Both.mk ?_ ?_ <;> intro hc <;> (first | exact Bool.noConfusion hc | (exfalso; omega) | skip)) | (intro c hc; (try (simp only [AH.none_iff] at hc; repeat (have hn := hc.1; replace hc := hc.2))); (first | (refine i64_k hc ?_ ?_ ?_ ; omega; omega; (clear hc; intro hc; subst hc)) | skip)) | (apply Exists.intro; apply And.intro; (first | (focus (repeat (first | (with_reducible assumption) | (with_reducible exact AH.set_same _ _ _))); done))) | (apply Exists.intro; apply And.intro; first | (with_reducible assumption) | ((try simp only [List.getElem?_drop, Nat.mul_one, Nat.add_zero, Nat.zero_add]); first | (with_reducible assumption) | rfl)) | (apply And.intro; (first | rfl | (with_reducible assumption) | exact Nat.le_of_ble_eq_true rfl | omega | (simp <;> omega) | (focus (repeat' (first | (with_reducible assumption) | rfl | apply one_take | apply one_drop)); done))))) <;> (try (conv => whnf))
  rename_i g hg
  (obtain ⟨c7, hq_⟩ : ∃ c7, c7 = c := ⟨_, rfl⟩); subst hq_
  have hcg : c7 ≠ g := hn
  have hc7 : H c7 = none := hc
  refine Then.mk (AWq.in ?_)
  refine AWp_less ((H.set c7 (.row [.ptr g 0 0] 0)).set g (.row [.int .i64 n, .nils] 0)) (HLe.of_eq (by rw [AH.set_set, AH.set_comm _ _ _ hcg]; rfl)) ?_
  refine AWp_nilC (p := g) 5 [.int .i64 n] [] (AH.set_same _ _ _) fun ra hra hrg => ?_
  obtain ⟨hrg, hra⟩ := AH.none_set hra
  obtain ⟨hr7, hra⟩ := AH.none_set hra
  have hgra := Ne.symm hrg
  have h7r := Ne.symm hr7
  refine AWp_less (stH (H.set c7 (.row [.ptr g 0 0] 0)) n g ra []) (HLe.of_eq (by unfold stH; rw [AH.set_comm _ _ _ hgra, AH.set_set]; rfl)) ?_
  obtain ⟨G, hG⟩ : ∃ G, G = H.set c7 (.row [.ptr g 0 0] 0) := ⟨_, rfl⟩
  rw [← hG]
  have hG7 : G c7 = some (.row [.ptr g 0 0] 0) := by rw [hG]; exact AH.set_same _ _ _
  have hs7 : ∀ A, stH G n g ra A c7 = some (.row [.ptr g 0 0] 0) := fun A => by unfold stH; rw [AH.set_ne _ _ hcg, AH.set_ne _ _ h7r]; exact hG7
  refine AWp.of tt_ok (dok _) rfl ?_
  (repeat' ((conv => whnf); first | refine Then.mk ?_ | left | refine OpsA.cons ?_ | refine OpsA.nil ?_ | refine AWq.seq ?_ | refine AWq.region ?_ | refine AWq.cond ?_ | refine AWq.block ?_ | refine AWq.skip ?_ | refine AWq.ret ?_ | refine AWq.exit ?_ | refine AWq.loop ?_ | (refine Both.mk ?_ ?_ <;> intro hc <;> (first | exact Bool.noConfusion hc | (exfalso; omega) | skip)) | (intro c hc; (try (simp only [AH.none_iff] at hc; repeat (have hn := hc.1; replace hc := hc.2))); (first | (refine i64_k hc ?_ ?_ ?_ ; omega; omega; (clear hc; intro hc; subst hc)) | skip)) | (apply Exists.intro; apply And.intro; (first | (focus (repeat (first | (with_reducible assumption) | (with_reducible exact AH.set_same _ _ _))); done))) | (apply Exists.intro; apply And.intro; first | (with_reducible assumption) | ((try simp only [List.getElem?_drop, Nat.mul_one, Nat.add_zero, Nat.zero_add]); first | (with_reducible assumption) | rfl)) | (apply And.intro; (first | rfl | (with_reducible assumption) | exact Nat.le_of_ble_eq_true rfl | omega | (simp <;> omega) | (focus (repeat' (first | (with_reducible assumption) | rfl | apply one_take | apply one_drop)); done))))) <;> (try (conv => whnf))
  refine AWp_loop (σ := Nat) (10 :: 19 :: 20 :: 21 :: 22 :: 23 :: 24 :: 25 :: 26 :: 27 :: 28 :: 29 :: 30 :: 31 :: 32 :: 33 :: []) (fun i => [(19, .int .i64 i)]) (fun i => stH G n g ra ((es.take i).map edAc)) (fun i => i ≤ es.length) (fun i => es.length - i) 0 rfl (Nat.zero_le _) ⟨rfl, trivial⟩ (HLe.refl _) ?_
  intro i hi
  refine AWp.of tt_ok (dok _) rfl ?_
  dsimp only at hi ⊢
  by_cases hil : i < es.length
  · obtain ⟨x, hx⟩ : ∃ x, es[i]? = some x := ⟨_, List.getElem?_eq_getElem hil⟩
    obtain ⟨v1, v2, v3, v4, v5⟩ := hE x (List.mem_of_getElem? hx)
    have hs := stAdd_c n ((es.take i).map edAc) (by rw [List.length_map, List.length_take]; omega) (edAc x) rfl v5 G c7 g ra hG7 hcg h7r hgra
    have htk : (es.take (i + 1)).map edAc = (es.take i).map edAc ++ [edAc x] := by rw [take_snoc hx]; simp
    rw [← htk] at hs
    have ea : ((edAc x).a : Int) = x.a := by show ((x.a.toNat : Nat) : Int) = x.a; omega
    have eb : ((edAc x).b : Int) = x.b := by show ((x.b.toNat : Nat) : Int) = x.b; omega
    rw [ea, eb] at hs
    have hs : ACall Try.prog 67 [.int .i64 x.a, .int .i64 x.b, .int .i64 x.d, .int .i64 x.w, .ptr c7 0 0] (stH G n g ra ((es.take i).map edAc)) (fun y H' => y = .tup [] ∧ H' = stH G n g ra ((es.take (i + 1)).map edAc)) := hs
    have hs1 := hs7 ((es.take i).map edAc)
    generalize stH G n g ra ((es.take i).map edAc) = G1 at *
    generalize hG2 : stH G n g ra ((es.take (i + 1)).map edAc) = G2 at *
    (iterate 3 ((repeat' ((conv => whnf); first | left | refine OpsA.cons ?_ | refine OpsA.nil ?_ | refine AWq.seq ?_ | refine AWq.region ?_ | refine AWq.cond ?_ | refine AWq.block ?_ | refine AWq.skip ?_ | refine AWq.ret ?_ | refine AWq.exit ?_ | refine AWq.loop ?_ | (refine Both.mk ?_ ?_ <;> intro hc <;> (first | exact Bool.noConfusion hc | (exfalso; omega) | skip)) | (intro c hc; (try (simp only [AH.none_iff] at hc; repeat (have hn := hc.1; replace hc := hc.2))); (first | (refine i64_k hc ?_ ?_ ?_ ; omega; omega; (clear hc; intro hc; subst hc)) | skip)) | (apply Exists.intro; apply And.intro; (first | (focus (repeat (first | (with_reducible assumption) | (with_reducible exact AH.set_same _ _ _))); done))) | (apply Exists.intro; apply And.intro; first | (with_reducible assumption) | ((try simp only [List.getElem?_drop, Nat.mul_one, Nat.add_zero, Nat.zero_add]); first | (with_reducible assumption) | rfl)) | (apply And.intro; (first | rfl | (with_reducible assumption) | exact Nat.le_of_ble_eq_true rfl | omega | (simp <;> omega) | (focus (repeat' (first | (with_reducible assumption) | rfl | apply one_take | apply one_drop)); done))))) <;> (try (conv => whnf)); refine Then.mk ?_))
    refine AWq.in ?_
    refine AWp_segP 10 (edA x) rfl rfl (by (first | assumption | (simp only [AH.none_iff]; (repeat' (first | assumption | (refine And.intro ?_ ?_)))))) (edL_seg hx) rfl ?_
    refine AWp.of tt_ok (dok _) rfl ?_
    (repeat' ((conv => whnf); first | refine Then.mk ?_ | left | refine OpsA.cons ?_ | refine OpsA.nil ?_ | refine AWq.seq ?_ | refine AWq.region ?_ | refine AWq.cond ?_ | refine AWq.block ?_ | refine AWq.skip ?_ | refine AWq.ret ?_ | refine AWq.exit ?_ | refine AWq.loop ?_ | (refine Both.mk ?_ ?_ <;> intro hc <;> (first | exact Bool.noConfusion hc | (exfalso; omega) | skip)) | (intro c hc; (try (simp only [AH.none_iff] at hc; repeat (have hn := hc.1; replace hc := hc.2))); (first | (refine i64_k hc ?_ ?_ ?_ ; omega; omega; (clear hc; intro hc; subst hc)) | skip)) | (apply Exists.intro; apply And.intro; (first | (focus (repeat (first | (with_reducible assumption) | (with_reducible exact AH.set_same _ _ _))); done))) | (apply Exists.intro; apply And.intro; first | (with_reducible assumption) | ((try simp only [List.getElem?_drop, Nat.mul_one, Nat.add_zero, Nat.zero_add]); first | (with_reducible assumption) | rfl)) | (apply And.intro; (first | rfl | (with_reducible assumption) | exact Nat.le_of_ble_eq_true rfl | omega | (simp <;> omega) | (focus (repeat' (first | (with_reducible assumption) | rfl | apply one_take | apply one_drop)); done))) | (refine ACall.to (hs) ?_))) <;> (try (conv => whnf))
    refine ⟨i + 1, hil, by omega, ⟨congrArg (AV.int .i64) (by omega), trivial⟩, HLe.of_eq hG2⟩
  · have hie : i = es.length := by omega
    have hte : (es.take i).map edAc = es.map edAc := by rw [List.take_of_length_le (by omega)]
    rw [hte]
    (repeat' ((conv => whnf); first | refine Then.mk ?_ | left | refine OpsA.cons ?_ | refine OpsA.nil ?_ | refine AWq.seq ?_ | refine AWq.region ?_ | refine AWq.cond ?_ | refine AWq.block ?_ | refine AWq.skip ?_ | refine AWq.ret ?_ | refine AWq.exit ?_ | refine AWq.loop ?_ | (refine Both.mk ?_ ?_ <;> intro hc <;> (first | exact Bool.noConfusion hc | (exfalso; omega) | skip)) | (intro c hc; (try (simp only [AH.none_iff] at hc; repeat (have hn := hc.1; replace hc := hc.2))); (first | (refine i64_k hc ?_ ?_ ?_ ; omega; omega; (clear hc; intro hc; subst hc)) | skip)) | (apply Exists.intro; apply And.intro; (first | (focus (repeat (first | (with_reducible assumption) | (with_reducible exact AH.set_same _ _ _))); done))) | (apply Exists.intro; apply And.intro; first | (with_reducible assumption) | ((try simp only [List.getElem?_drop, Nat.mul_one, Nat.add_zero, Nat.zero_add]); first | (with_reducible assumption) | rfl)) | (apply And.intro; (first | rfl | (with_reducible assumption) | exact Nat.le_of_ble_eq_true rfl | omega | (simp <;> omega) | (focus (repeat' (first | (with_reducible assumption) | rfl | apply one_take | apply one_drop)); done))))) <;> (try (conv => whnf))
    refine AWp_loop (σ := Nat) (12 :: 36 :: 37 :: 38 :: 39 :: 40 :: 41 :: 42 :: 43 :: 44 :: 45 :: 46 :: 47 :: 48 :: 49 :: []) (fun i => [(36, .int .i64 i)]) (fun i => stH G n g ra (es.map edAc ++ (fs.take i).map (fxAc n))) (fun i => i ≤ fs.length) (fun i => fs.length - i) 0 rfl (Nat.zero_le _) ⟨rfl, trivial⟩ (HLe.of_eq (by simp)) ?_
    intro j hj
    refine AWp.of tt_ok (dok _) rfl ?_
    dsimp only at hj ⊢
    by_cases hjl : j < fs.length
    · obtain ⟨x, hx⟩ : ∃ x, fs[j]? = some x := ⟨_, List.getElem?_eq_getElem hjl⟩
      obtain ⟨v1, v4, v5⟩ := hF x (List.mem_of_getElem? hx)
      have hs := stAdd_c n (es.map edAc ++ (fs.take j).map (fxAc n)) (by rw [List.length_append, List.length_map, List.length_map, List.length_take]; omega) (fxAc n x) rfl v5 G c7 g ra hG7 hcg h7r hgra
      have htk : es.map edAc ++ (fs.take (j + 1)).map (fxAc n) = es.map edAc ++ (fs.take j).map (fxAc n) ++ [fxAc n x] := by rw [take_snoc hx]; simp
      rw [← htk] at hs
      have ea : ((fxAc n x).a : Int) = x.a := by show ((x.a.toNat : Nat) : Int) = x.a; omega
      rw [ea] at hs
      have hs : ACall Try.prog 67 [.int .i64 x.a, .int .i64 n, .int .i64 x.v, .int .i64 x.w, .ptr c7 0 0] (stH G n g ra (es.map edAc ++ (fs.take j).map (fxAc n))) (fun y H' => y = .tup [] ∧ H' = stH G n g ra (es.map edAc ++ (fs.take (j + 1)).map (fxAc n))) := hs
      have hs1 := hs7 (es.map edAc ++ (fs.take j).map (fxAc n))
      generalize stH G n g ra (es.map edAc ++ (fs.take j).map (fxAc n)) = G1 at *
      generalize hG2 : stH G n g ra (es.map edAc ++ (fs.take (j + 1)).map (fxAc n)) = G2 at *
      (iterate 3 ((repeat' ((conv => whnf); first | left | refine OpsA.cons ?_ | refine OpsA.nil ?_ | refine AWq.seq ?_ | refine AWq.region ?_ | refine AWq.cond ?_ | refine AWq.block ?_ | refine AWq.skip ?_ | refine AWq.ret ?_ | refine AWq.exit ?_ | refine AWq.loop ?_ | (refine Both.mk ?_ ?_ <;> intro hc <;> (first | exact Bool.noConfusion hc | (exfalso; omega) | skip)) | (intro c hc; (try (simp only [AH.none_iff] at hc; repeat (have hn := hc.1; replace hc := hc.2))); (first | (refine i64_k hc ?_ ?_ ?_ ; omega; omega; (clear hc; intro hc; subst hc)) | skip)) | (apply Exists.intro; apply And.intro; (first | (focus (repeat (first | (with_reducible assumption) | (with_reducible exact AH.set_same _ _ _))); done))) | (apply Exists.intro; apply And.intro; first | (with_reducible assumption) | ((try simp only [List.getElem?_drop, Nat.mul_one, Nat.add_zero, Nat.zero_add]); first | (with_reducible assumption) | rfl)) | (apply And.intro; (first | rfl | (with_reducible assumption) | exact Nat.le_of_ble_eq_true rfl | omega | (simp <;> omega) | (focus (repeat' (first | (with_reducible assumption) | rfl | apply one_take | apply one_drop)); done))))) <;> (try (conv => whnf)); refine Then.mk ?_))
      refine AWq.in ?_
      refine AWp_segP 12 (fxA x) rfl rfl (by (first | assumption | (simp only [AH.none_iff]; (repeat' (first | assumption | (refine And.intro ?_ ?_)))))) (fxL_seg hx) rfl ?_
      refine AWp.of tt_ok (dok _) rfl ?_
      (repeat' ((conv => whnf); first | refine Then.mk ?_ | left | refine OpsA.cons ?_ | refine OpsA.nil ?_ | refine AWq.seq ?_ | refine AWq.region ?_ | refine AWq.cond ?_ | refine AWq.block ?_ | refine AWq.skip ?_ | refine AWq.ret ?_ | refine AWq.exit ?_ | refine AWq.loop ?_ | (refine Both.mk ?_ ?_ <;> intro hc <;> (first | exact Bool.noConfusion hc | (exfalso; omega) | skip)) | (intro c hc; (try (simp only [AH.none_iff] at hc; repeat (have hn := hc.1; replace hc := hc.2))); (first | (refine i64_k hc ?_ ?_ ?_ ; omega; omega; (clear hc; intro hc; subst hc)) | skip)) | (apply Exists.intro; apply And.intro; (first | (focus (repeat (first | (with_reducible assumption) | (with_reducible exact AH.set_same _ _ _))); done))) | (apply Exists.intro; apply And.intro; first | (with_reducible assumption) | ((try simp only [List.getElem?_drop, Nat.mul_one, Nat.add_zero, Nat.zero_add]); first | (with_reducible assumption) | rfl)) | (apply And.intro; (first | rfl | (with_reducible assumption) | exact Nat.le_of_ble_eq_true rfl | omega | (simp <;> omega) | (focus (repeat' (first | (with_reducible assumption) | rfl | apply one_take | apply one_drop)); done))) | (refine ACall.to (hs) ?_))) <;> (try (conv => whnf))
      refine ⟨j + 1, hjl, by omega, ⟨congrArg (AV.int .i64) (by omega), trivial⟩, HLe.of_eq hG2⟩
    · have hte2 : (fs.take j).map (fxAc n) = fs.map (fxAc n) := by rw [List.take_of_length_le (by omega)]
      rw [hte2]
      have hs1 := hs7 (es.map edAc ++ fs.map (fxAc n))
      (repeat' ((conv => whnf); first | refine Then.mk ?_ | left | refine OpsA.cons ?_ | refine OpsA.nil ?_ | refine AWq.seq ?_ | refine AWq.region ?_ | refine AWq.cond ?_ | refine AWq.block ?_ | refine AWq.skip ?_ | refine AWq.ret ?_ | refine AWq.exit ?_ | refine AWq.loop ?_ | (refine Both.mk ?_ ?_ <;> intro hc <;> (first | exact Bool.noConfusion hc | (exfalso; omega) | skip)) | (intro c hc; (try (simp only [AH.none_iff] at hc; repeat (have hn := hc.1; replace hc := hc.2))); (first | (refine i64_k hc ?_ ?_ ?_ ; omega; omega; (clear hc; intro hc; subst hc)) | skip)) | (apply Exists.intro; apply And.intro; (first | (focus (repeat (first | (with_reducible assumption) | (with_reducible exact AH.set_same _ _ _))); done))) | (apply Exists.intro; apply And.intro; first | (with_reducible assumption) | ((try simp only [List.getElem?_drop, Nat.mul_one, Nat.add_zero, Nat.zero_add]); first | (with_reducible assumption) | rfl)) | (apply And.intro; (first | rfl | (with_reducible assumption) | exact Nat.le_of_ble_eq_true rfl | omega | (simp <;> omega) | (focus (repeat' (first | (with_reducible assumption) | rfl | apply one_take | apply one_drop)); done))))) <;> (try (conv => whnf))
      refine ⟨_, stH H n g ra (net0 n es fs), AVle.refl _, ?_, g, ra, hg, hra, hgra, rfl, rfl⟩
      rw [hG]
      unfold net0 stH
      exact HLe.set (HLe.set (HLe.fresh _ hc7) _ _) _ _
end Go.Proofs.Ytebflkgpbbjhnaa
