/- Plain law: sums of lists and labels that differ in one place. -/
import Derived.Test.YtlelhddchgipeaaHashX
import Derived.Test.YtlelhddchgipeaaHashB
namespace Go.Proofs.Ytlelhddchgipeaa
open Go.Fw Go
set_option linter.unusedVariables false

theorem wordsI_in {s : List UInt8} {x : Int} (h : x ∈ wordsI s) : InW x := ⟨(wordsI_range s x h).1, (wordsI_range s x h).2⟩

theorem wordsI_getE {s : List UInt8} {j : Nat} : (wordsI s)[j]? = if 8 * j < s.length then some (wordOf ((s.drop (8 * j)).take 8)) else none := by
  by_cases h : 8 * j < s.length
  · rw [if_pos h]
    have : j < (s.length + 7) / 8 := by omega
    simp [wordsI, this]
  · rw [if_neg h]
    have : ¬ j < (s.length + 7) / 8 := by omega
    simp [wordsI, this]

theorem wordsI_group {x y : List UInt8} {g : Nat} (hl : y.length = x.length) (hg : 8 * g < x.length) (h : ∀ i, i / 8 ≠ g → y[i]? = x[i]?) : wordsI y = (wordsI x).set g (wordOf ((y.drop (8 * g)).take 8)) := by
  apply List.ext_getElem?
  intro j
  have hgl : g < (wordsI x).length := by rw [wordsI_length]; omega
  by_cases hj : g = j
  · subst hj
    rw [List.getElem?_set_self hgl, wordsI_getE, if_pos (by omega)]
  · rw [List.getElem?_set_ne hj, wordsI_getE, wordsI_getE, hl]
    have e : (y.drop (8 * j)).take 8 = (x.drop (8 * j)).take 8 := by
      apply List.ext_getElem?
      intro i
      rw [List.getElem?_take, List.getElem?_take]
      by_cases hi : i < 8
      · rw [if_pos hi, if_pos hi, List.getElem?_drop, List.getElem?_drop]
        exact h _ (by omega)
      · rw [if_neg hi, if_neg hi]
    rw [e]

theorem group_eq {x y : List UInt8} {g : Nat} (hl : y.length = x.length) (hg : 8 * g < x.length) (h : ∀ i, i / 8 ≠ g → y[i]? = x[i]?) (e : wordOf ((y.drop (8 * g)).take 8) = wordOf ((x.drop (8 * g)).take 8)) : y = x := by
  have e := wordOf_inj (by rw [List.length_take, List.length_take, List.length_drop, List.length_drop, hl]) e
  apply List.ext_getElem?
  intro i
  by_cases hi : i / 8 = g
  · have := congrArg (·[i - 8 * g]?) e
    simp only [List.getElem?_take, if_pos (show i - 8 * g < 8 by omega), List.getElem?_drop] at this
    rw [show 8 * g + (i - 8 * g) = i by omega] at this
    exact this
  · exact h i hi

theorem words_group {x y t : List UInt8} {g : Nat} {p q : List Int} (hl : y.length = x.length) (hg : 8 * g < x.length) (h : ∀ i, i / 8 ≠ g → y[i]? = x[i]?) {s : Int}
    (e : (p ++ wordsI y ++ q).foldl mixI s = (p ++ wordsI x ++ q).foldl mixI s) : y = x := by
  rw [List.foldl_append, List.foldl_append, List.foldl_append, List.foldl_append] at e
  have hgl : g < (wordsI x).length := by rw [wordsI_length]; omega
  have hin : InW ((wordsI x).getD g 0) := by
    have : (wordsI x).getD g 0 = (wordsI x)[g] := by simp [hgl]
    rw [this]; exact wordsI_in (List.getElem_mem hgl)
  have hin2 : InW (wordOf ((y.drop (8 * g)).take 8)) := by
    have h2 : g < (wordsI y).length := by rw [wordsI_length, hl, ← wordsI_length]; exact hgl
    have : wordOf ((y.drop (8 * g)).take 8) = (wordsI y)[g] := by
      have := wordsI_get (s := y) (j := g) (by omega)
      rw [← this]; simp [h2]
    rw [this]; exact wordsI_in (List.getElem_mem h2)
  have hq : (wordsI y).foldl mixI (p.foldl mixI s) = (wordsI x).foldl mixI (p.foldl mixI s) := by
    cases hw : wordsI x with
    | nil => rw [hw] at hgl; simp at hgl
    | cons a r =>
      cases hv : wordsI y with
      | nil =>
        have := wordsI_length y
        rw [hv, hl, ← wordsI_length, hw] at this; simp at this
      | cons b u =>
        rw [hw, hv] at e
        exact fold_start q (fold_in u (mixI_in _ _)) (fold_in r (mixI_in _ _)) e
  rw [wordsI_group hl hg h] at hq
  have := fold_set hgl hin2 hin hq
  rw [wordsI_get hg] at this
  exact group_eq hl hg h this

theorem bytesI_eq (s : List UInt8) (b : List UInt8) (hb : b.length ≤ 1000000) : bytesI s b = mixI ((wordsI b ++ [(b.length : Int)]).foldl mixI (mixI (mixI ((wordsI s).foldl mixI 0) s.length) ((b.length + 7) / 8 + 1 : Nat))) 0 := by
  unfold bytesI sumI
  have e : ((wordsI b).map IntKind.i64.wrap ++ [(b.length : Int)]).map IntKind.u64.wrap = wordsI b ++ [(b.length : Int)] := by
    rw [List.map_append, List.map_map]
    congr 1
    · conv => rhs; rw [← List.map_id (wordsI b)]
      exact List.map_congr_left fun x hx => wrap_i64_u64 (wordsI_in hx)
    · simp only [List.map_cons, List.map_nil, wrap_u64]
      congr 1
      omega
  rw [e, List.length_append, List.length_map, wordsI_length]
  rfl

theorem bytesI_group {s x y : List UInt8} {g : Nat} (hx : x.length ≤ 1000000) (hl : y.length = x.length) (hg : 8 * g < x.length) (h : ∀ i, i / 8 ≠ g → y[i]? = x[i]?) (e : bytesI s x = bytesI s y) : x = y := by
  rw [bytesI_eq s x hx, bytesI_eq s y (by omega), hl] at e
  have e := mixI_left (fold_in _ (mixI_in _ _)) (fold_in _ (mixI_in _ _)) e
  exact (words_group (t := []) (p := []) (q := [(x.length : Int)]) hl hg h e.symm).symm

theorem bytesI_longer {s b : List UInt8} (hb : b.length ≤ 1000) (h8 : b.length % 8 ≠ 0) : bytesI s (b ++ [0]) ≠ bytesI s b := by
  intro e
  have hl : (b ++ [(0 : UInt8)]).length = b.length + 1 := by simp
  rw [bytesI_eq s b (by omega), bytesI_eq s _ (by omega), hl] at e
  have hw : wordsI (b ++ [0]) = wordsI b := by
    apply List.ext_getElem?
    intro j
    rw [wordsI_getE, wordsI_getE, hl]
    by_cases hj : 8 * j < b.length
    · rw [if_pos (by omega), if_pos hj, List.drop_append_of_le_length (by omega)]
      by_cases h9 : 8 * j + 8 ≤ b.length
      · rw [List.take_append_of_le_length (by rw [List.length_drop]; omega)]
      · rw [List.take_of_length_le (l := b.drop (8 * j)) (by rw [List.length_drop]; omega), List.take_of_length_le (by rw [List.length_append, List.length_drop]; simp; omega), wordOf_snoc]
        simp
    · rw [if_neg (by omega), if_neg hj]
  rw [hw, show (b.length + 1 + 7) / 8 + 1 = (b.length + 7) / 8 + 1 by omega] at e
  have e := mixI_left (fold_in _ (mixI_in _ _)) (fold_in _ (mixI_in _ _)) e
  rw [List.foldl_append, List.foldl_append] at e
  have := mixI_right (a := ((b.length + 1 : Nat) : Int)) (b := (b.length : Int)) (by unfold InW; omega) (by unfold InW; omega) e
  omega

theorem sumI_set {s : List UInt8} {l : List Int} {k : Nat} {v : Int} (hk : k < l.length) (hv : -9223372036854775808 ≤ v ∧ v ≤ 9223372036854775807) (hl : -9223372036854775808 ≤ l.getD k 0 ∧ l.getD k 0 ≤ 9223372036854775807)
    (e : sumI s l = sumI s (l.set k v)) : l.getD k 0 = v := by
  unfold sumI at e
  rw [List.length_set] at e
  have e := mixI_left (fold_in _ (mixI_in _ _)) (fold_in _ (mixI_in _ _)) e
  rw [List.map_set] at e
  have hg : (l.map IntKind.u64.wrap).getD k 0 = IntKind.u64.wrap (l.getD k 0) := by simp [hk]
  have := fold_set (by rw [List.length_map]; exact hk) (wrap_u64_in v) (by rw [hg]; exact wrap_u64_in _) e.symm
  rw [hg] at this
  exact (wrap_u64_inj hv hl this).symm

theorem sumI_label {x y : List UInt8} {l : List Int} {g : Nat} (hl : y.length = x.length) (hg : 8 * g < x.length) (h : ∀ i, i / 8 ≠ g → y[i]? = x[i]?) (e : sumI x l = sumI y l) : x = y := by
  unfold sumI at e
  have e := mixI_left (fold_in _ (mixI_in _ _)) (fold_in _ (mixI_in _ _)) e
  have e := mixI_left (mixI_in _ _) (mixI_in _ _) (fold_start _ (mixI_in _ _) (mixI_in _ _) e)
  rw [hl] at e
  have hz : InW 0 := by unfold InW; omega
  have e := mixI_left (fold_in _ hz) (fold_in _ hz) e
  exact (words_group (t := []) (p := []) (q := []) hl hg h (s := 0) (by simpa using e.symm)).symm
end Go.Proofs.Ytlelhddchgipeaa
