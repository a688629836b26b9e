/- The frame of the abstract walk, part 16: words for the walks: numbers, lists. -/
import Derived.Test.YtgmooalikccbiaaFw15
set_option linter.unusedVariables false
set_option linter.unusedSimpArgs false
namespace Go.Fw
open Go.RowKit

theorem i64_k {c x : Int} {G : Prop} (h : c = IntKind.i64.wrap x) (h1 : -9223372036854775808 ≤ x) (h2 : x ≤ 9223372036854775807) (k : c = x → G) : G := k (by rw [IntKind.wrap_i64] at h; omega)
theorem u64_k {c x : Int} {G : Prop} (h : c = IntKind.u64.wrap x) (h1 : 0 ≤ x) (h2 : x ≤ 18446744073709551615) (k : c = x → G) : G := k (by
  have : IntKind.u64.wrap x = x % 18446744073709551616 := rfl
  omega)
theorem u8_k {c x : Int} {G : Prop} (h : c = IntKind.u8.wrap x) (h1 : 0 ≤ x) (h2 : x ≤ 255) (k : c = x → G) : G := k (by
  have : IntKind.u8.wrap x = x % 256 := rfl
  omega)

/-- Whole numbers of a kind. -/
def iS (k : IntKind) (l : List Int) : List AV := l.map (AV.int k)

@[simp] theorem u8s_length (l : List UInt8) : (u8s l).length = l.length := by simp [u8s]
@[simp] theorem iS_length (k : IntKind) (l : List Int) : (iS k l).length = l.length := by simp [iS]
theorem u8s_take (l : List UInt8) (n : Nat) : (u8s l).take n = u8s (l.take n) := by simp [u8s, List.map_take]
theorem u8s_drop (l : List UInt8) (n : Nat) : (u8s l).drop n = u8s (l.drop n) := by simp [u8s, List.map_drop]
theorem u8s_append (l m : List UInt8) : u8s l ++ u8s m = u8s (l ++ m) := by simp [u8s]
theorem iS_take (k : IntKind) (l : List Int) (n : Nat) : (iS k l).take n = iS k (l.take n) := by simp [iS, List.map_take]
theorem iS_drop (k : IntKind) (l : List Int) (n : Nat) : (iS k l).drop n = iS k (l.drop n) := by simp [iS, List.map_drop]
theorem iS_append (k : IntKind) (l m : List Int) : iS k l ++ iS k m = iS k (l ++ m) := by simp [iS]
theorem iS_snoc (k : IntKind) (l : List Int) (x : Int) : iS k l ++ [.int k x] = iS k (l ++ [x]) := by simp [iS]
theorem u8s_get {bs : List UInt8} {i : Nat} (h : i < bs.length) : (u8s bs)[i]? = some (.int .u8 (bs.getD i 0).toNat) := by
  simp [u8s, h]
theorem iS_get {k : IntKind} {l : List Int} {i : Nat} (h : i < l.length) : (iS k l)[i]? = some (.int k (l.getD i 0)) := by
  simp [iS, h]

theorem one_u8s (l : List UInt8) : (u8s l).all one = true := by simp [u8s, one]
theorem one_iS (k : IntKind) (l : List Int) : (iS k l).all one = true := by simp [iS, one]
theorem one_take {l : List AV} (n : Nat) (h : l.all one = true) : (l.take n).all one = true := List.all_eq_true.2 fun x hx => List.all_eq_true.1 h x (List.mem_of_mem_take hx)
theorem one_drop {l : List AV} (n : Nat) (h : l.all one = true) : (l.drop n).all one = true := List.all_eq_true.2 fun x hx => List.all_eq_true.1 h x (List.mem_of_mem_drop hx)
theorem one_append {l m : List AV} (h : l.all one = true) (k : m.all one = true) : (l ++ m).all one = true := by rw [List.all_append, h, k]; rfl

theorem u8_range (b : UInt8) : 0 ≤ (b.toNat : Int) ∧ (b.toNat : Int) ≤ 255 := by
  have := b.toNat_lt; omega

/-- Less of a heap. -/
theorem HLe.set {H H' : AH} (h : HLe H H') (r : Nat) (o : AO) : HLe (H.set r o) (H'.set r o) := by
  refine ⟨fun s x hs => ?_⟩
  simp only [AH.set] at hs ⊢
  split at hs
  · rename_i e; rw [if_pos e]; exact hs
  · rename_i e; rw [if_neg e]; exact h.le s x hs
theorem HLe.fresh {H : AH} {r : Nat} (o : AO) (h : H r = none) : HLe H (H.set r o) := by
  refine ⟨fun s x hs => ?_⟩
  simp only [AH.set]
  split
  · rename_i e; rw [e, h] at hs; cases hs
  · exact hs
theorem HLe.trans {a b c : AH} (h : HLe a b) (k : HLe b c) : HLe a c := ⟨fun s x hs => k.le s x (h.le s x hs)⟩

theorem AWp_nilrow1 {P : Program} {N : Nat} {ro : Option Nat} {ws : Nat → Bool} {c : Code} {K R : St → AH → Prop} {X : Nat → St → AH → Prop} {s : St} {H : AH} (t es : Nat) (hts : ws t = true) (he : s.e t = .nils)
    (h : ∀ r, H r = none → AWp N P ro ws c K R X ⟨retold [t] (.sl r 0 es 0 0 none) s.e, s.d⟩ (H.set r (.row [] 0))) : AWp N P ro ws c K R X s H :=
  AWp_nilrow [t] es (by simp [hts]) (fun u hu => by
    have : u = t := by have := (memA_iff _ _).1 hu; simpa using this
    rw [this]; exact he) h

theorem AWp_freeze1 {P : Program} {N : Nat} {ro : Option Nat} {ws : Nat → Bool} {c : Code} {K R : St → AH → Prop} {X : Nat → St → AH → Prop} {s : St} {H : AH} (t : Nat) {r v es n : Nat} {lim : Option Nat} {cells : List AV} (hts : ws t = true)
    (he : s.e t = .sl r v es 0 n lim) (hH : H r = some (.row cells v)) (hlen : cells.length = n * es)
    (h : AWp N P ro ws c K R X ⟨retold [t] (.cs cells n) s.e, s.d⟩ (H.del r)) : AWp N P ro ws c K R X s H :=
  AWp_freeze [t] (by simp [hts]) hH (fun u hu => by
    have : u = t := by have := (memA_iff _ _).1 hu; simpa using this
    rw [this]; exact he) (by omega) (by rw [List.take_of_length_le (by omega)]; exact h)

/-- A call may be told less. -/
theorem ACall.less {P : Program} {g : FuncId} {args : List AV} {H H' : AH} {K : AV → AH → Prop} (hH : HLe H' H) (h : ACall P g args H' K) : ACall P g args H K :=
  ⟨h.ent, fun κ F B w0 w cargs hI hA => h.run κ F B w0 w cargs (hI.less hH.le) hA⟩

end Go.Fw
