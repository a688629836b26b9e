/- The frame of the abstract walk, part 27: drawn regions in which rows are made (the end). -/
import Derived.Test.YtgmooalikccbiaaFw26
set_option linter.unusedVariables false
set_option linter.unusedSimpArgs false
namespace Go.Fw
open Go.RowKit

variable {κ : KM} {F : FM} {B : Nat} {w0 w : World} {H : AH} {P : Program} {T : TT}

theorem anyL_ok (hT : T.ok P = true) (ro : Option Nat) {N : Nat} {ws : Nat → Bool} {ops : Array Oper} {cl : List (Nat × Nat)} {nm : Nat → Nat} {K R : St → AH → Prop} {X : Nat → St → AH → Prop} {s : St} {vs : List AV} {obs : List AO} (hord : orderOk ops = true) (hcls : ordC ops cl = true)
    (hnm : ∀ c c', c ∈ cl.map (·.2) → c' ∈ cl.map (·.2) → nm c = nm c' → c = c') (hws : ∀ t, t ∈ dstsOf ops.toList → ws t = true)
    (hstep : ∀ j o, ops.toList[j]? = some o → dstOk N o.dst = true ∧ o.guard = none ∧ match cOf cl o.dst with
      | none => ∀ G, LStep0 P T o.op (lookE (dstF ops.toList) (valF vs) s.e (fun _ => true) j) G (valF vs j)
      | some c => ∃ ob, lookG (infF cl nm ops.toList obs) H (fun _ => true) j (nm c) = some ob ∧ ∀ G, G (nm c) = some ob → LStep1 P T o.op (lookE (dstF ops.toList) (valF vs) s.e (fun _ => true) j) G (nm c) (valF vs j) (obs.getD j (.row [] 0)))
    (hend : K ⟨lookE (dstF ops.toList) (valF vs) s.e (fun _ => true) ops.toList.length, s.d⟩ (lookG (infF cl nm ops.toList obs) H (fun _ => true) ops.toList.length)) :
    ∀ (fuel : Nat) (listed : Array Bool) (κ : KM) (F : FM) (w : World) (a : Act), listed.size = ops.size → (∀ j, doneP listed ops.size j = true → Waited ops (doneP listed ops.size) j) →
      ((List.range ops.size).filter fun k => !doneP listed ops.size k).length = fuel → Inv κ F B w0 (lookG (infF cl nm ops.toList obs) H (doneP listed ops.size) ops.size) w →
      ER κ F N ⟨lookE (dstF ops.toList) (valF vs) s.e (doneP listed ops.size) ops.size, s.d⟩ a → wpAnyIn (fence ro) 0 P .any ops (QOk κ F B w0 N ws s K R X) fuel listed a w := by
  have hinf : ∀ k q o, infF cl nm ops.toList obs k = some (q, o) → ∃ c, k < ops.size ∧ (ops[k]?).bind (fun o => cOf cl o.dst) = some c ∧ q = nm c ∧ c ∈ cl.map (·.2) := by
    intro k q o h
    unfold infF at h
    rw [Array.getElem?_toList] at h
    cases hx : (ops[k]?).bind (fun o => cOf cl o.dst) with
    | none => rw [hx] at h; simp at h
    | some c =>
      rw [hx] at h
      simp at h
      refine ⟨c, ?_, rfl, h.1.symm, ?_⟩
      · cases hk : ops[k]? with
        | none => rw [hk] at hx; simp at hx
        | some x => exact (Array.getElem?_eq_some_iff.1 hk).1
      · cases hk : ops[k]? with
        | none => rw [hk] at hx; simp at hx
        | some x =>
          rw [hk] at hx
          simp only [Option.bind_some] at hx
          have cin : ∀ (l : List (Nat × Nat)) (d : Option Nat), cOf l d = some c → c ∈ l.map (·.2) := by
            intro l d
            cases d with
            | none => intro h; cases l <;> simp [cOf] at h
            | some t =>
              induction l with
              | nil => intro h; simp [cOf] at h
              | cons y l ih =>
                obtain ⟨u, c'⟩ := y
                intro h
                simp only [cOf] at h
                cases hb : Nat.beq u t with
                | true => rw [hb] at h; simp only [cond_true, Option.some.injEq] at h; subst h; simp
                | false => rw [hb] at h; simp only [cond_false] at h; exact List.mem_cons_of_mem _ (ih h)
          exact cin _ _ hx
  have hsame : ∀ k k' q o o', infF cl nm ops.toList obs k = some (q, o) → infF cl nm ops.toList obs k' = some (q, o') → k < k' → ((aheadOf ops).getD k' 0).testBit k = true := by
    intro k k' q o o' h1 h2 hlt
    obtain ⟨c, hk, hc, e1, hm⟩ := hinf _ _ _ h1
    obtain ⟨c', hk', hc', e2, hm'⟩ := hinf _ _ _ h2
    have : c = c' := hnm c c' hm hm' (e1.symm.trans e2)
    subst this
    exact ordC_spec hcls hlt hk' hc hc'
  have hlow := orderOk_low hord
  have hdst : ∀ k, dstF ops.toList k = (ops[k]?).bind (·.dst) := fun k => by simp [dstF]
  have hagree : ∀ p : Nat → Bool, Agree ws s ⟨lookE (dstF ops.toList) (valF vs) s.e p ops.size, s.d⟩ := by
    intro p t ht
    show lookE _ _ _ p ops.size t = s.e t
    have : ∀ n, lookE (dstF ops.toList) (valF vs) s.e p n t = s.e t := by
      intro n
      induction n with
      | zero => rfl
      | succ n ih =>
        simp only [lookE]
        cases p n with
        | false => exact ih
        | true =>
          have hne : dstF ops.toList n ≠ some t := by
            intro e
            have : t ∈ dstsOf ops.toList := by
              simp only [dstF] at e
              cases hx : ops.toList[n]? with
              | none => rw [hx] at e; simp at e
              | some o =>
                rw [hx] at e
                simp at e
                exact List.mem_filterMap.2 ⟨o, List.mem_of_getElem? hx, e⟩
            rw [hws t this] at ht; cases ht
          simp only [cond_true, putA_ne _ _ _ hne, ih]
    exact this _
  have ready : ∀ (listed : Array Bool), listed.size = ops.size → ∀ i, i ∈ Region.ready .any ops listed → i < ops.size ∧ doneP listed ops.size i = false ∧ Waited ops (doneP listed ops.size) i := by
    intro listed hsz i hi
    simp only [Region.ready, List.mem_filter, List.mem_range, Bool.and_eq_true, Bool.not_eq_true'] at hi
    obtain ⟨hi, hl, ha⟩ := hi
    have hdone : doneP listed ops.size i = false := by
      have e : listed.getD i false = listed.getD i true := by simp [Array.getD_eq_getD_getElem?, show i < listed.size by omega]
      simp [doneP, e, hl]
    refine ⟨hi, hdone, fun o ho e he hb => ?_⟩
    rw [ho] at ha
    simp only [Option.map_some, Option.getD_some] at ha
    have := Array.all_eq_true'.1 ha e (by simpa using he)
    simp only [hb, Bool.not_true, Bool.false_or] at this
    have hlt := hlow i o ho e he hb
    simp [doneP, this, blt_of (show e.on < ops.size by omega)]
  intro fuel
  induction fuel with
  | zero =>
    intro listed κ F w a hsz hcl hcount I hE
    have hall : ∀ k, k < ops.size → doneP listed ops.size k = true := by
      intro k hk
      cases hd : doneP listed ops.size k with
      | true => rfl
      | false =>
        have : k ∈ (List.range ops.size).filter fun k => !doneP listed ops.size k := by simp [hk, hd]
        rw [List.length_eq_zero_iff.1 hcount] at this
        cases this
    refine ⟨?_, ?_⟩
    · cases hr : Region.ready .any ops listed with
      | nil => rfl
      | cons i r =>
        obtain ⟨h1, h2, _⟩ := ready listed hsz i (by rw [hr]; simp)
        rw [hall i h1] at h2; cases h2
    · have heq : lookE (dstF ops.toList) (valF vs) s.e (doneP listed ops.size) ops.size = lookE (dstF ops.toList) (valF vs) s.e (fun _ => true) ops.size := by
        funext t; exact lookE_congr _ (fun k hk _ => hall k hk)
      have hH : lookG (infF cl nm ops.toList obs) H (doneP listed ops.size) ops.size = lookG (infF cl nm ops.toList obs) H (fun _ => true) ops.size := by
        funext q; exact lookG_at _ (fun k o hk _ => hall k hk)
      refine ⟨_, _, κ, F, KLe.refl _, FLe.refl _, I, hE, hagree _, ?_⟩
      rw [heq, hH]
      simpa using hend
  | succ fuel ih =>
    intro listed κ F w a hsz hcl hcount I hE
    refine ⟨fun hr => ?_, fun i hi => ?_⟩
    · -- somebody is ready
      exfalso
      obtain ⟨k, hk⟩ : ∃ k, k ∈ (List.range ops.size).filter fun k => !doneP listed ops.size k := by
        cases hx : (List.range ops.size).filter fun k => !doneP listed ops.size k with
        | nil => rw [hx] at hcount; simp at hcount
        | cons k _ => exact ⟨k, by simp⟩
      have key : ∀ k, k < ops.size → doneP listed ops.size k = false → False := by
        intro k
        induction k using Nat.strongRecOn with
        | _ k ih2 =>
          intro hk hd
          have : k ∈ Region.ready .any ops listed := by
            simp only [Region.ready, List.mem_filter, List.mem_range, Bool.and_eq_true, Bool.not_eq_true']
            refine ⟨hk, ?_, ?_⟩
            · simp only [doneP, blt_of hk, Bool.true_and] at hd
              have e : listed.getD k false = listed.getD k true := by simp [Array.getD_eq_getD_getElem?, show k < listed.size by omega]
              rw [← e]; exact hd
            · have ho : ops[k]? = some ops[k] := by simp [hk]
              rw [ho]
              simp only [Option.map_some, Option.getD_some]
              refine Array.all_eq_true'.2 fun e he => ?_
              cases hb : Region.binds .any e with
              | false => rfl
              | true =>
                have hlt := hlow k _ ho e (by simpa using he) hb
                cases hd' : doneP listed ops.size e.on with
                | false => exact (ih2 e.on hlt (by omega) hd').elim
                | true => simp only [doneP, Bool.and_eq_true] at hd'; simp [hd'.2]
          rw [hr] at this; cases this
      simp only [List.mem_filter, List.mem_range, Bool.not_eq_true'] at hk
      exact key k hk.1 hk.2
    · obtain ⟨hil, hdi, hwi⟩ := ready listed hsz i hi
      have ho : ops[i]? = some ops[i] := by simp [hil]
      obtain ⟨o, rfl⟩ : ∃ o, o = ops[i] := ⟨_, rfl⟩
      obtain ⟨hdst0, hgd, hg⟩ := hstep i ops[i] (by simp [hil])
      have hahead := ahead_done hlow hcl i hil hwi
      -- what the operation looks at stands there
      have sees : ∀ t, t ∈ looks ops ops[i] → lookE (dstF ops.toList) (valF vs) s.e (doneP listed ops.size) ops.size t = lookE (dstF ops.toList) (valF vs) s.e (fun _ => true) i t := by
        intro t ht
        refine lookE_lt ops.size (by omega) (fun k hk hkd => ?_)
        rw [hdst] at hkd
        by_cases hki : k = i
        · subst hki; constructor
          · intro h; rw [hdi] at h; cases h
          · intro h; omega
        · obtain ⟨h1, h2⟩ := orderOk_spec hord hkd ho (.inl ht) hki
          constructor
          · intro hp
            rcases Nat.lt_or_ge k i with hlt | hge
            · exact hlt
            · have := ahead_done hlow hcl k hk (hcl k hp) i (h2 (by omega))
              rw [hdi] at this; cases this
          · intro hlt; exact hahead k (h1 hlt)
      have hev : ∀ x, x ∈ (ops[i]).op.operands → ev (lookE (dstF ops.toList) (valF vs) s.e (fun _ => true) i) x = ev (lookE (dstF ops.toList) (valF vs) s.e (doneP listed ops.size) ops.size) x := by
        intro x hx
        cases x with
        | tmp t => exact (sees t (List.mem_append_left _ (List.mem_filterMap.2 ⟨.tmp t, by simpa using hx, rfl⟩))).symm
        | _ => rfl
      have hwt : Region.wanted ops[i] (yielded ops a.tmps) = true := wanted_of (K := fun b => b = true) hE (by rw [hgd]; rfl)
      have hlset : ∀ k, doneP (listed.setIfInBounds i true) ops.size k = (doneP listed ops.size k || Nat.beq k i) := by
        intro k
        simp only [doneP, Array.getD_eq_getD_getElem?, Array.getElem?_setIfInBounds]
        by_cases hki : i = k
        · subst hki; simp [show i < listed.size by omega, blt_of hil, Nat.beq_refl]
        · have : Nat.beq k i = false := by cases hb : Nat.beq k i with
            | false => rfl
            | true => exact absurd (Nat.eq_of_beq_eq_true hb).symm hki
          simp [hki, this]
      have hlsetf : doneP (listed.setIfInBounds i true) ops.size = fun k => doneP listed ops.size k || Nat.beq k i := funext hlset
      have hput : lookE (dstF ops.toList) (valF vs) s.e (doneP (listed.setIfInBounds i true) ops.size) ops.size = putA (lookE (dstF ops.toList) (valF vs) s.e (doneP listed ops.size) ops.size) (dstF ops.toList i) (valF vs i) := by
        rw [hlsetf]
        refine lookE_put hdi ops.size hil (fun k hk hki hkd hnn hp => ?_)
        rcases Nat.lt_or_ge k i with hlt | hge
        · exact hlt
        · exfalso
          cases hdn : dstF ops.toList i with
          | none => exact hnn hdn
          | some t =>
            rw [hdn] at hkd
            have hoi : (ops[i]).dst = some t := by rw [hdst, ho] at hdn; simpa using hdn
            obtain ⟨_, h2⟩ := orderOk_spec hord (by rw [← hdst]; exact hkd) ho (.inr hoi) hki
            have := ahead_done hlow hcl k hk (hcl k hp) i (h2 (by omega))
            rw [hdi] at this; cases this
      have hcl' : ∀ j, doneP (listed.setIfInBounds i true) ops.size j = true → Waited ops (doneP (listed.setIfInBounds i true) ops.size) j := by
        intro j hj o' ho' e he hbe
        rw [hlset] at hj ⊢
        rw [Bool.or_eq_true] at hj
        rcases hj with h | h
        · rw [hcl j h o' ho' e he hbe]; rfl
        · obtain rfl := Nat.eq_of_beq_eq_true h
          rw [hwi o' ho' e he hbe]; rfl
      have hcount' : ((List.range ops.size).filter fun k => !doneP (listed.setIfInBounds i true) ops.size k).length = fuel := by
        have key : ∀ (l : List Nat), l.Nodup → i ∈ l → (l.filter fun k => !doneP listed ops.size k).length = (l.filter fun k => !doneP (listed.setIfInBounds i true) ops.size k).length + 1 := by
          intro l
          induction l with
          | nil => intro _ h; cases h
          | cons k l ih =>
            intro hnd hm
            obtain ⟨hk, hnd⟩ := List.nodup_cons.1 hnd
            by_cases hki : k = i
            · subst hki
              have hrest : (l.filter fun k' => !doneP listed ops.size k') = l.filter fun k' => !doneP (listed.setIfInBounds k true) ops.size k' := by
                refine List.filter_congr fun k' hk' => ?_
                rw [hlset]
                have : Nat.beq k' k = false := by cases hb : Nat.beq k' k with
                  | false => rfl
                  | true => exact absurd (Nat.eq_of_beq_eq_true hb ▸ hk') hk
                simp [this]
              rw [List.filter_cons, List.filter_cons, hlset, hdi, Nat.beq_refl, hrest]
              simp
            · have hm' : i ∈ l := by rcases List.mem_cons.1 hm with h | h; · exact absurd h.symm hki
                                     · exact h
              have hb : Nat.beq k i = false := by cases hb : Nat.beq k i with
                | false => rfl
                | true => exact absurd (Nat.eq_of_beq_eq_true hb) hki
              have := ih hnd hm'
              rw [List.filter_cons, List.filter_cons, hlset, hb, Bool.or_false]
              cases doneP listed ops.size k <;> simp [this]
        have := key (List.range ops.size) List.nodup_range (by simpa using hil)
        omega
      have hdi' : dstF ops.toList i = (ops[i]).dst := by rw [hdst, ho]; rfl
      have hG : lookG (infF cl nm ops.toList obs) H (doneP (listed.setIfInBounds i true) ops.size) ops.size = setO (lookG (infF cl nm ops.toList obs) H (doneP listed ops.size) ops.size) (infF cl nm ops.toList obs i) := by
        rw [hlsetf]
        refine lookG_put hdi ops.size hil (fun k q o o' h1 h2 h3 h4 => ?_)
        cases hd : doneP listed ops.size k with
        | false => rfl
        | true =>
          have := ahead_done hlow hcl k h2 (hcl k hd) i (hsame _ _ _ _ _ h3 h4 h1)
          rw [hdi] at this; cases this
      unfold wpOpIn
      rw [ho]
      simp only
      rw [if_pos hwt]
      have go : ∀ v w', Left κ F B w0 (fun v' H' => v' = valF vs i ∧ H' = lookG (infF cl nm ops.toList obs) H (doneP (listed.setIfInBounds i true) ops.size) ops.size) v w' →
          wpAnyIn (fence ro) 0 P .any ops (QOk κ F B w0 N ws s K R X) fuel (listed.setIfInBounds i true) (a.put (ops[i]).dst v) w' := by
        rintro v w' ⟨y, H', κ', F', hk, hf, I', hv, rfl, rfl⟩
        have hE' := (hE.mono hk hf).put hdst0 hv
        have := ih (listed.setIfInBounds i true) κ' F' w' _ (by simp [hsz]) hcl' hcount' I' (by rw [hput, hdi']; exact hE')
        exact wpAnyIn_mono (fun e a w hq => QOk.from hk hf (Agree.refl _ _) hq) _ _ _ _ this
      have hinfi : infF cl nm ops.toList obs i = (cOf cl (ops[i]).dst).map fun c => (nm c, obs.getD i (.row [] 0)) := by simp [infF, hil]
      rw [hG, hinfi] at go
      have hcong := fun (G : AH) (KK : AV → AH → Prop) => stepA_congr (P := P) (T := T) (H := G) (K := KK) hev
      cases hc : cOf cl (ops[i]).dst with
      | none =>
        rw [hc] at hg go
        simp only [Option.map_none, setO] at go
        rcases hg (lookG (infF cl nm ops.toList obs) H (doneP listed ops.size) ops.size) with h | ⟨cells, n, es, hv, hlen, h⟩
        · rw [hcong] at h
          exact stepA_ok hT ro I hE.e h go
        · unfold Makes at h
          rw [hcong] at h
          refine stepA_ok hT ro I hE.e h fun v w' hL => go v w' ?_
          rw [hv]
          exact Left.cold hlen hL
      | some c =>
        rw [hc] at hg go
        simp only [Option.map_some, setO] at go
        obtain ⟨ob, h1, h2⟩ := hg
        have hat : lookG (infF cl nm ops.toList obs) H (doneP listed ops.size) ops.size (nm c) = some ob := by
          rw [← h1]
          have hii : infF cl nm ops.toList obs i = some (nm c, obs.getD i (.row [] 0)) := by rw [hinfi, hc]; rfl
          refine (lookG_up (i := i) ops.size (by omega) (fun k o h3 h4 h5 => ?_)).trans (lookG_at i (fun k o h3 h5 => ?_))
          · by_cases e : k = i
            · rw [e]; exact hdi
            · cases hd : doneP listed ops.size k with
              | false => rfl
              | true =>
                have := ahead_done hlow hcl k h4 (hcl k hd) i (hsame _ _ _ _ _ hii h5 (by omega))
                rw [hdi] at this; cases this
          · exact hahead k (hsame _ _ _ _ _ h5 hii h3)
        rcases h2 _ hat with h | ⟨cells, n, es, hv, ho', hq, h⟩
        · rw [hcong] at h
          exact stepA_ok hT ro I hE.e h go
        · unfold Makes at h
          rw [hcong] at h
          refine stepA_ok hT ro I hE.e h fun v w' hL => go v w' ?_
          rw [hv, ho']
          exact Left.named hq hL

theorem AWp_drawL (hT : T.ok P = true) (hm : P.follows .mixedOrders = true) {N : Nat} {ro : Option Nat} {ws : Nat → Bool} {id : Nat} {ops : Array Oper} {K R : St → AH → Prop} {X : Nat → St → AH → Prop} {s : St} (cl : List (Nat × Nat)) (nm : Nat → Nat)
    (hnm : ∀ c c', c ∈ cl.map (·.2) → c' ∈ cl.map (·.2) → nm c = nm c' → c = c') (hws : (writes (.region id ops true)).all ws = true) (hord : (orderOk ops && ordC ops cl) = true) (h : drawLS N P T cl nm ops.toList K s H) :
    AWp N P ro ws (.region id ops true) K R X s H := by
  refine ⟨fun κ F B w0 w a I hE => wpIn_region_any hm ?_⟩
  obtain ⟨vs, obs, hstep, hend⟩ := chainL _ _ _ h
  rw [Bool.and_eq_true] at hord
  have hz : ∀ k, doneP (Array.replicate ops.size false) ops.size k = false := by
    intro k
    simp only [doneP, Array.getD_eq_getD_getElem?]
    by_cases hk : k < ops.size
    · simp [hk]
    · simp [hk]
  refine anyL_ok hT ro hord.1 hord.2 hnm (all_mem hws) hstep hend ops.size _ κ F _ a (by simp) (fun j hj => by rw [hz] at hj; cases hj) ?_ ?_ ?_
  · have : ((List.range ops.size).filter fun k => !doneP (Array.replicate ops.size false) ops.size k) = List.range ops.size := List.filter_eq_self.2 fun k _ => by simp [hz]
    rw [this]; simp
  · have : ∀ n, lookG (infF cl nm ops.toList obs) H (doneP (Array.replicate ops.size false) ops.size) n = H := by
      intro n
      induction n with
      | zero => rfl
      | succ n ih => simp only [lookG, hz, cond_false, ih]
    rw [this]; exact I.drew
  · have : ∀ n, lookE (dstF ops.toList) (valF vs) s.e (doneP (Array.replicate ops.size false) ops.size) n = s.e := by
      intro n
      induction n with
      | zero => rfl
      | succ n ih => simp only [lookE, hz, cond_false, ih]
    rw [this]; exact hE
end Go.Fw
