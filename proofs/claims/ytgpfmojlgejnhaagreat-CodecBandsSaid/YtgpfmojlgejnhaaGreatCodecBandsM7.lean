/- For the law CodecBands, part 7 of 7: the frame of the walk, the walks of the functions, the plain law, the row. No conditions. -/
import Derived.Test.YtgpfmojlgejnhaaGreatCodecBandsM6
import Derived.Test.YtgpfmojlgejnhaaGreatRows
import Derived.WalkKit
import Derived.ProofKit
import Derived.OpenShut
import Derived.ShutString
import Derived.ChangeOld
import Derived.Below
import Derived.SizedLaws
/- The row of the law CodecBands: for every input the law returns true, and each argument reads afterwards as it read before. Out of the contract CodecBands_c. -/
set_option linter.unusedVariables false
namespace Go.Proofs.YtgpfmojlgejnhaaGreat.codecBands
open Go.ChangeShapes Go.WideShapes Go.ChangeAt Go.RowKit
open Go.ChangeMaps (open_string shut_string)
theorem own : ownKnob Tryz.prog.godebug = none := by kernel_rfl
theorem laidOut : laidOutB Tryz.prog = true := by kernel_rfl
theorem weight_of {H : Type} {P : Program} {q : Nat → Bool} : ∀ {ts : List TypeId} {ds : List (DataW H)} (i : Nat) {t : TypeId} {d : DataW H}, ts[i]? = some t → ds[i]? = some d → (DataW.weightsEach P ts ds).all q = true → (d.weights P t).all q = true
 | [], _, i, _, _, h, _, _ => by simp at h
 | _ :: _, [], i, _, _, _, h, _ => by simp at h
 | t0 :: ts, d0 :: ds, 0, t, d, h1, h2, h => by
  simp only [List.getElem?_cons_zero, Option.some.injEq] at h1 h2
  subst h1; subst h2
  simp only [DataW.weightsEach, List.all_append, Bool.and_eq_true] at h
  exact h.1
 | t0 :: ts, d0 :: ds, i + 1, t, d, h1, h2, h => by
  simp only [List.getElem?_cons_succ] at h1 h2
  simp only [DataW.weightsEach, List.all_append, Bool.and_eq_true] at h
  exact weight_of i h1 h2 h.2
theorem weight_ints {H : Type} {P : Program} {t e : TypeId} {zs : List Int} {l c : Nat} (hu : P.underlying t = some (.slice e)) (hb : P.bytesOf e = 8) (hr : reachBytes = 140737488351232) (hl : l ≤ c) (hz : zs.length = c)
  (h : ((DataW.slice (lits (H := H) .i64 (zs.take l)) (lits .i64 (zs.drop l))).weights P t).all (· ≤ reachBytes) = true) : l * 8 ≤ 140737488351232 := by
 simp only [DataW.weights, hu, List.all_cons, Bool.and_eq_true, decide_eq_true_eq, hb, hr] at h
 have h := h.1
 have e1 : (lits (H := H) .i64 (zs.take l)).length = (zs.take l).length := by simp [lits]
 have e2 : (lits (H := H) .i64 (zs.drop l)).length = (zs.drop l).length := by simp [lits]
 rw [e1, e2, List.length_take, List.length_drop] at h
 omega
theorem walk (a0 : Option Addr) (len0 cap0 : Nat) (z0 : List Int) (a1 : Int) (a2 : Int) (w : World) (w0 : Fw.IsRow .i64 w a0 len0 cap0 z0) (b0 : len0 * 8 ≤ 140737488351232) (w1 : (Lit.int .i64 a1).wf = true) (w2 : (Lit.int .i64 a2).wf = true) :
  Calls Tryz.prog 3 #[.slice a0 len0 cap0, .int .i64 a1, .int .i64 a2] w fun e w' => e = .returned (.bool true) ∧ Below w.heap.size w w' := by
 obtain ⟨v0, l0, m0, r0⟩ := Fw.start_row w0
 have hc := CodecBands_c (z0.take len0) (by rw [l0]; exact m0) (by rw [l0]; exact b0) (fun n hn => by have h : (decide ((-9223372036854775808 : Int) ≤ n) && decide (n ≤ 9223372036854775807)) = true := r0 n hn; simpa using h) a1 (by have h : (decide ((-9223372036854775808 : Int) ≤ a1) && decide (a1 ≤ 9223372036854775807)) = true := w1; simpa using h) a2 (by have h : (decide ((-9223372036854775808 : Int) ≤ a2) && decide (a2 ≤ 9223372036854775807)) = true := w2; simpa using h)
 rw [l0] at hc
 exact Fw.law_calls hc (((Fw.VRs.one v0).append (Fw.VRs.one (.int _ a1))).append (Fw.VRs.one (.int _ a2)))
set_option maxRecDepth 100000 in
theorem lifted (os : Os) (started : os.Started) (H : Type) (enc : TypeId × Value → H) :
  ReturnsInHanded {} Tryz.checked os 3 .any (Rows.codecBandsSpec.pre6 enc Tryz.prog Tryz.f3 Rows.codecBandsRow.domain false) (Rows.codecBandsSpec.post enc Tryz.prog Tryz.f3 false true false false) := by
 refine returnsInHanded_of_change_sized (C := Tryz.checked) own started (by kernel_rfl) Tryz.func3
  (ChangeSpec.witness6 (enc := enc) (C := Tryz.checked) false ⟨#[], #[.slice none 0 0, .int .i64 0, .int .i64 0], []⟩ 8 (by kernel_rfl) (by kernel_rfl) (by kernel_rfl) (by kernel_rfl)) ?_
 intro W base args ds gs before hval0 hW hcnd hsz0 _
 have hval : ∀ (j : Nat) t v, Tryz.f3.params[j]? = some t → args[j]? = some v → Value.okWide Tryz.prog W .any base t v := hval0
 have hW' := hW
 obtain ⟨p, q, hA0, hV, rfl, hfz, hnd⟩ := hW
 have hA : DataW.TrodAll enc Tryz.prog W 0 (fun _ => true) true Tryz.f3.params.toList args.toList ds p := hA0
 rw [Tryz.params3] at hA hval
 obtain ⟨v0, vs0, d0, ds0, p0, q0, hargs, rfl, rfl, h0, r0⟩ := trodAll_cons hA
 obtain ⟨v1, vs1, d1, ds1, p1, q1, rfl, rfl, rfl, h1, r1⟩ := trodAll_cons r0
 obtain ⟨v2, vs2, d2, ds2, p2, q2, rfl, rfl, rfl, h2, r2⟩ := trodAll_cons r1
 obtain ⟨rfl, rfl, rfl⟩ := trodAll_nil r2
 obtain rfl : args = #[v0, v1, v2] := by cases args; simp_all
 obtain ⟨rfl, rfl⟩ := trodVars_none hV
 obtain ⟨a0, len0, cap0, rfl⟩ := okWide_slice Tryz.underlying22 (hval 0 22 v0 rfl rfl)
 have k0 := h0
 have lt0 : ∀ x ∈ p0, x.block < W.heap.size := by obtain ⟨m, hm⟩ := k0; exact DataW.trod_lt m _ _ _ hm
 obtain ⟨z0, w0⟩ : ∃ zs, Fw.IsRow .i64 W a0 len0 cap0 zs := by
  obtain ⟨fuel, hf⟩ := h0
  rcases open_ints Tryz.underlying22 Tryz.underlying3 (by kernel_rfl) hf with ⟨hcs, _⟩ | ⟨x, l, c, zs, hcs, _, hl, hm, hz, _, hcell, hwz⟩
  ·simp [Value.cells] at hcs
   obtain ⟨rfl, rfl, rfl⟩ := hcs
   exact ⟨[], .inl ⟨rfl, rfl, rfl, rfl⟩⟩
  ·simp [Value.cells] at hcs
   obtain ⟨rfl, rfl, rfl⟩ := hcs
   exact ⟨zs, .inr ⟨_, rfl, hl, hm, by simpa using hz, hcell, hwz⟩⟩
 have b0 : len0 * 8 ≤ 140737488351232 := by
  obtain ⟨fuel, hf⟩ := k0
  rcases open_ints Tryz.underlying22 Tryz.underlying3 (by kernel_rfl) hf with ⟨hcs, _⟩ | ⟨x, l, c, zs, hcs, _, hl, hm, hz, hd, hcell, hwz⟩
  ·simp [Value.cells] at hcs
   obtain ⟨rfl, rfl, rfl⟩ := hcs
   decide
  ·simp [Value.cells] at hcs
   obtain ⟨rfl, rfl, rfl⟩ := hcs
   have hwt := weight_of 0 (t := 22) (d := d0) rfl rfl hsz0
   rw [show d0 = _ from congrArg Prod.fst hd] at hwt
   exact weight_ints Tryz.underlying22 (by kernel_rfl) (by kernel_rfl) hl (by simpa using hz) hwt
 obtain ⟨a1, rfl, rfl, rfl, w1⟩ := open_int Tryz.underlying3 (hval 1 3 v1 rfl rfl) h1
 obtain ⟨a2, rfl, rfl, rfl, w2⟩ := open_int Tryz.underlying3 (hval 2 3 v2 rfl rfl) h2
 clear hA0 hval0
 refine (walk a0 len0 cap0 z0 a1 a2 W w0 b0 w1 w2).mono fun e W' ⟨he, bel⟩ => ?_
 subst he
 exact ⟨_, rfl, _, _, _, [], _, [], hW', trodAll_mk1 (shut_bool Tryz.underlying4 _), (trodAll_cons_mk (Below.trod laidOut (by kernel_rfl) (of_decide_eq_true (by kernel_rfl)) k0 bel lt0) (trodAll_cons_mk (shut_int Tryz.underlying3 w1) (trodAll_cons_mk (shut_int Tryz.underlying3 w2) trodAll_mk0))), rfl, bel.frame _, fun h => by cases h⟩
theorem over : Rows.codecBandsRow.holds Tryz.pinned (OpenSpec.ofChange Rows.codecBandsSpec) :=
 OpenClaim.holds_of_wide 3 Tryz.f3 rfl rfl rfl rfl rfl rfl rfl ⟨rfl, rfl, rfl, rfl, rfl⟩ rfl rfl rfl rfl rfl (by kernel_rfl) Tryz.func3 (by kernel_rfl)
  (of_decide_eq_true (by kernel_rfl)) (by unfold Func.isWrapper; first | (rw [if_pos (by decide +kernel)]; kernel_rfl) | (rw [if_neg (by decide +kernel)]; exact ⟨rfl, rfl⟩))
  (fun os started H enc _ => lifted os started H enc)
end Go.Proofs.YtgpfmojlgejnhaaGreat.codecBands
namespace Go.Proofs.YtgpfmojlgejnhaaGreat
theorem codecBands_holds : Rows.CodecBandsSaid := codecBands.over
#print axioms codecBands_holds
end Go.Proofs.YtgpfmojlgejnhaaGreat
