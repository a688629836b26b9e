/- The frame of the abstract walk, part 26: drawn regions in which rows are made: each row in its own order, the rows among themselves in any. -/
import Derived.Test.YtgmooalikccbiaaFw25
set_option linter.unusedVariables false
set_option linter.unusedSimpArgs false
namespace Go.Fw
open Go.RowKit

variable {κ : KM} {F : FM} {B : Nat} {w0 w : World} {H : AH} {P : Program} {T : TT}

/-- A row takes the name of an empty one. -/
theorem Inv.rename (I : Inv κ F B w0 H w) {r v q u : Nat} {cells : List AV} {i : Inc} (hr : H r = some (.row cells v)) (hi : κ r v = some i) (hq : H q = some (.row [] u)) (hne : q ≠ r) :
    KLe κ (κ.put q (u + 1) i) ∧ Inv (κ.put q (u + 1) i) F B w0 ((H.del r).set q (.row cells (u + 1))) w := by
  obtain ⟨i', hi', hrow, hn⟩ := I.objs _ _ hr
  rw [hi] at hi'; cases hi'
  obtain ⟨j', hj', _, hnq⟩ := I.objs _ _ hq
  have hle := KM.put_le (i := i) (hnq (u + 1) (by omega))
  have hqn : ((H.del r).del q) q = none := AH.del_same _ _
  have := ((I.drop r).drop q).put (r := q) (i := i) (o := .row cells (u + 1)) hqn (fun k hk => hnq k (by have hk : u + 1 ≤ k := hk; omega))
    (fun b hb s os j hs hj hjb => by
      by_cases e : s = q
      · subst e; rw [AH.del_same] at hs; cases hs
      · rw [AH.del_ne _ e] at hs
        by_cases e2 : s = r
        · subst e2; rw [AH.del_same] at hs; cases hs
        · rw [AH.del_ne _ e2] at hs
          exact I.apart _ _ _ _ _ _ _ hr hs (fun x => e2 x.symm) hi hj hb hjb)
    ⟨i, KM.put_same .., (by
      unfold RowOk at hrow ⊢
      cases hb : i.blk with
      | none => rw [hb] at hrow; exact hrow
      | some b =>
        rw [hb] at hrow
        obtain ⟨h1, h2, arr, e, fr, h3, h4, h5, h6, h7⟩ := hrow
        exact ⟨h1, h2, arr, e, fr, h3, h4, h5, h6, fun j hj => (h7 j hj).mono hle (FLe.refl _)⟩),
     fun k hk => by have hk : u + 1 < k := hk; simp only [KM.put, AO.ver]; rw [if_neg (by omega)]; exact hnq k (by omega)⟩
  rw [show ((H.del r).del q).set q (.row cells (u + 1)) = (H.del r).set q (.row cells (u + 1)) from by funext s; simp only [AH.set, AH.del]; split <;> rfl] at this
  exact this

theorem VR.rename {κ κ' : KM} {r v q u es n : Nat} {x : Value} {i : Inc} (hi : κ r v = some i) (hq : κ' q u = some i) (h : VR κ F (.sl r v es 0 n none) x) : VR κ' F (.sl q u es 0 n none) x := by
  cases h with
  | sl h hoff hlo hc hlen ha =>
    rw [hi] at h; cases h
    exact .sl hq hoff hlo hc hlen ha

/-- What makes a row. -/
def Makes (P : Program) (T : TT) (o : Op) (e : Env) (G : AH) (cells : List AV) (n es : Nat) : Prop :=
  stepA P T o e G (fun v' H' => ∃ r, G r = none ∧ v' = .sl r 0 es 0 n none ∧ H' = G.set r (.row cells 0))
/-- Memory stays; a row that is made is not written later. -/
def LStep0 (P : Program) (T : TT) (o : Op) (e : Env) (G : AH) (v : AV) : Prop :=
  stepA P T o e G (fun v' H' => v' = v ∧ H' = G) ∨ ∃ cells n es, v = .cs cells n ∧ cells.length = n * es ∧ Makes P T o e G cells n es
/-- One row changes. -/
def LStep1 (P : Program) (T : TT) (o : Op) (e : Env) (G : AH) (q : Nat) (v : AV) (o' : AO) : Prop :=
  stepA P T o e G (fun v' H' => v' = v ∧ H' = G.set q o') ∨ ∃ cells n es, v = .sl q 1 es 0 n none ∧ o' = .row cells 1 ∧ G q = some (.row [] 0) ∧ Makes P T o e G cells n es

/-- What an operation leaves, told anew. -/
theorem Left.cold {x : Value} {w' : World} {cells : List AV} {n es : Nat} (hlen : cells.length = n * es) (h : Left κ F B w0 (fun v' H' => ∃ r, H r = none ∧ v' = .sl r 0 es 0 n none ∧ H' = H.set r (.row cells 0)) x w') :
    Left κ F B w0 (fun v' H' => v' = .cs cells n ∧ H' = H) x w' := by
  obtain ⟨y, H', κ', F', h1, h2, I, hv, r, hr, rfl, rfl⟩ := h
  obtain ⟨F'', hF, I', hv'⟩ := I.cool hv (AH.set_same _ _ _) hlen
  rw [AH.del_set _ _ _ hr] at I'
  exact ⟨_, H, κ', F'', h1, h2.trans hF, I', hv', rfl, rfl⟩
theorem Left.named {x : Value} {w' : World} {cells : List AV} {n es q : Nat} (hq : H q = some (.row [] 0)) (h : Left κ F B w0 (fun v' H' => ∃ r, H r = none ∧ v' = .sl r 0 es 0 n none ∧ H' = H.set r (.row cells 0)) x w') :
    Left κ F B w0 (fun v' H' => v' = .sl q 1 es 0 n none ∧ H' = H.set q (.row cells 1)) x w' := by
  obtain ⟨y, H', κ', F', h1, h2, I, hv, r, hr, rfl, rfl⟩ := h
  have hne : q ≠ r := fun e => by rw [e, hr] at hq; cases hq
  obtain ⟨i, hi, _⟩ := I.objs _ _ (AH.set_same H r (.row cells 0))
  obtain ⟨hle, I'⟩ := I.rename (q := q) (u := 0) (AH.set_same H r (.row cells 0)) hi (by rw [AH.set_ne _ _ hne]; exact hq) hne
  rw [AH.del_set _ _ _ hr] at I'
  exact ⟨_, _, _, F', h1.trans hle, h2, I', VR.rename hi (KM.put_same ..) hv, rfl, rfl⟩

def cOf (cl : List (Nat × Nat)) : Option Nat → Option Nat
  | none => none
  | some t => match cl with
    | [] => none
    | (u, c) :: rest => cond (Nat.beq u t) (some c) (cOf rest (some t))

/-- Those of one class are ordered. -/
def ordC (all : Array Oper) (cl : List (Nat × Nat)) : Bool :=
  let ah := aheadOf all
  (List.range all.size).all fun j => (List.range j).all fun i =>
    match (all[i]?).bind (fun o => cOf cl o.dst), (all[j]?).bind (fun o => cOf cl o.dst) with
    | some a, some b => !(Nat.beq a b) || (ah.getD j 0).testBit i
    | _, _ => true

theorem ordC_spec {all : Array Oper} {cl : List (Nat × Nat)} (h : ordC all cl = true) {i j c : Nat} (hlt : i < j) (hj : j < all.size) (h1 : (all[i]?).bind (fun o => cOf cl o.dst) = some c) (h2 : (all[j]?).bind (fun o => cOf cl o.dst) = some c) :
    ((aheadOf all).getD j 0).testBit i = true := by
  unfold ordC at h
  have a1 := List.all_eq_true.1 h j (by simpa using hj)
  have a2 := List.all_eq_true.1 a1 i (by simpa using hlt)
  simp only [h1, h2] at a2
  have : Nat.beq c c = true := Nat.beq_refl c
  simpa [this] using a2

def drawLS (N : Nat) (P : Program) (T : TT) (cl : List (Nat × Nat)) (nm : Nat → Nat) : List Oper → (St → AH → Prop) → St → AH → Prop
  | [], K, s, H => K s H
  | o :: rest, K, s, H => dstOk N o.dst = true ∧ o.guard = none ∧ match cOf cl o.dst with
    | none => ∃ v, (∀ G, LStep0 P T o.op s.e G v) ∧ drawLS N P T cl nm rest K (putS s o.dst v) H
    | some c => ∃ ob v o', H (nm c) = some ob ∧ (∀ G, G (nm c) = some ob → LStep1 P T o.op s.e G (nm c) v o') ∧ drawLS N P T cl nm rest K (putS s o.dst v) (H.set (nm c) o')

def setO (H : AH) : Option (Nat × AO) → AH
  | none => H
  | some (q, o) => H.set q o
def infF (cl : List (Nat × Nat)) (nm : Nat → Nat) (l : List Oper) (obs : List AO) (k : Nat) : Option (Nat × AO) :=
  ((l[k]?).bind fun o => cOf cl o.dst).map fun c => (nm c, obs.getD k (.row [] 0))
def lookG (inf : Nat → Option (Nat × AO)) (H : AH) (p : Nat → Bool) : Nat → AH
  | 0 => H
  | k + 1 => cond (p k) (setO (lookG inf H p k) (inf k)) (lookG inf H p k)

theorem lookG_cons (cl : List (Nat × Nat)) (nm : Nat → Nat) (o : Oper) (l : List Oper) (x : AO) (xs : List AO) (H : AH) : ∀ k, lookG (infF cl nm (o :: l) (x :: xs)) H (fun _ => true) (k + 1) = lookG (infF cl nm l xs) (setO H (infF cl nm (o :: l) (x :: xs) 0)) (fun _ => true) k
  | 0 => rfl
  | k + 1 => by
    have ih := lookG_cons cl nm o l x xs H k
    have e : infF cl nm (o :: l) (x :: xs) (k + 1) = infF cl nm l xs k := by simp [infF]
    show setO (lookG (infF cl nm (o :: l) (x :: xs)) H (fun _ => true) (k + 1)) (infF cl nm (o :: l) (x :: xs) (k + 1)) = setO (lookG (infF cl nm l xs) _ (fun _ => true) k) (infF cl nm l xs k)
    rw [ih, e]

theorem chainL {N : Nat} {cl : List (Nat × Nat)} {nm : Nat → Nat} {K : St → AH → Prop} : ∀ (l : List Oper) (s : St) (H : AH), drawLS N P T cl nm l K s H → ∃ (vs : List AV) (obs : List AO),
    (∀ j o, l[j]? = some o → dstOk N o.dst = true ∧ o.guard = none ∧ match cOf cl o.dst with
      | none => ∀ G, LStep0 P T o.op (lookE (dstF l) (valF vs) s.e (fun _ => true) j) G (valF vs j)
      | some c => ∃ ob, lookG (infF cl nm l obs) H (fun _ => true) j (nm c) = some ob ∧ ∀ G, G (nm c) = some ob → LStep1 P T o.op (lookE (dstF l) (valF vs) s.e (fun _ => true) j) G (nm c) (valF vs j) (obs.getD j (.row [] 0))) ∧
    K ⟨lookE (dstF l) (valF vs) s.e (fun _ => true) l.length, s.d⟩ (lookG (infF cl nm l obs) H (fun _ => true) l.length)
  | [], s, H, h => ⟨[], [], fun j o hj => by simp at hj, h⟩
  | o :: l, s, H, ⟨h1, h2, h3⟩ => by
    have build : ∀ (v : AV) (x : AO) (H2 : AH), (∀ obs : List AO, setO H (infF cl nm (o :: l) (x :: obs) 0) = H2) → drawLS N P T cl nm l K (putS s o.dst v) H2 →
        (match cOf cl o.dst with
          | none => ∀ G, LStep0 P T o.op s.e G v
          | some c => ∃ ob, H (nm c) = some ob ∧ ∀ G, G (nm c) = some ob → LStep1 P T o.op s.e G (nm c) v x) →
        ∃ (vs : List AV) (obs : List AO), (∀ j o', (o :: l)[j]? = some o' → dstOk N o'.dst = true ∧ o'.guard = none ∧ match cOf cl o'.dst with
          | none => ∀ G, LStep0 P T o'.op (lookE (dstF (o :: l)) (valF vs) s.e (fun _ => true) j) G (valF vs j)
          | some c => ∃ ob, lookG (infF cl nm (o :: l) obs) H (fun _ => true) j (nm c) = some ob ∧ ∀ G, G (nm c) = some ob → LStep1 P T o'.op (lookE (dstF (o :: l)) (valF vs) s.e (fun _ => true) j) G (nm c) (valF vs j) (obs.getD j (.row [] 0))) ∧
        K ⟨lookE (dstF (o :: l)) (valF vs) s.e (fun _ => true) (o :: l).length, s.d⟩ (lookG (infF cl nm (o :: l) obs) H (fun _ => true) (o :: l).length) := by
      intro v x H2 hH2 hr h0
      obtain ⟨vs, obs, ih1, ih2⟩ := chainL l _ _ hr
      refine ⟨v :: vs, x :: obs, fun j o' hj => ?_, ?_⟩
      · cases j with
        | zero =>
          simp at hj; subst hj
          exact ⟨h1, h2, h0⟩
        | succ j =>
          have := ih1 j o' (by simpa using hj)
          rw [lookE_cons, lookG_cons, hH2 obs]
          simpa [valF, putS] using this
      · rw [List.length_cons, lookE_cons, lookG_cons, hH2 obs]
        exact ih2
    cases hc : cOf cl o.dst with
    | none =>
      rw [hc] at h3 build
      obtain ⟨v, h3, h4⟩ := h3
      exact build v (.row [] 0) H (fun obs => by simp [infF, hc, setO]) h4 h3
    | some c =>
      rw [hc] at h3 build
      obtain ⟨ob, v, o', h3, h4, h5⟩ := h3
      exact build v o' (H.set (nm c) o') (fun obs => by simp [infF, hc, setO]) h5 ⟨ob, h3, h4⟩

theorem lookG_at {inf : Nat → Option (Nat × AO)} {H : AH} {p p' : Nat → Bool} {q : Nat} : ∀ n, (∀ k o, k < n → inf k = some (q, o) → p k = p' k) → lookG inf H p n q = lookG inf H p' n q
  | 0, _ => rfl
  | n + 1, h => by
    have ih := lookG_at n (fun k o hk => h k o (by omega)) (inf := inf) (H := H)
    simp only [lookG]
    cases hi : inf n with
    | none => cases p n <;> cases p' n <;> exact ih
    | some x =>
      obtain ⟨q', o⟩ := x
      by_cases e : q' = q
      · subst e
        rw [h n o (by omega) hi]
        cases p' n with
        | true => simp only [cond_true, setO, AH.set_same]
        | false => exact ih
      · have e' : q ≠ q' := fun x => e x.symm
        cases p n <;> cases p' n <;> simp only [cond_true, cond_false, setO, AH.set_ne _ _ e', ih]

theorem lookG_up {inf : Nat → Option (Nat × AO)} {H : AH} {p : Nat → Bool} {q i : Nat} : ∀ n, i ≤ n → (∀ k o, i ≤ k → k < n → inf k = some (q, o) → p k = false) → lookG inf H p n q = lookG inf H p i q
  | 0, hi, _ => by have : i = 0 := by omega
                   rw [this]
  | n + 1, hi, h => by
    by_cases e : i = n + 1
    · rw [e]
    · have ih := lookG_up n (by omega) (fun k o h1 h2 => h k o h1 (by omega)) (inf := inf) (H := H)
      simp only [lookG]
      cases hp : p n with
      | false => exact ih
      | true =>
        cases hi' : inf n with
        | none => exact ih
        | some x =>
          obtain ⟨q', o⟩ := x
          by_cases e2 : q' = q
          · subst e2; rw [h n o (by omega) (by omega) hi'] at hp; cases hp
          · simp only [cond_true, setO, AH.set_ne _ _ (fun x => e2 x.symm)]; exact ih

/-- One more is carried out. -/
theorem lookG_put {inf : Nat → Option (Nat × AO)} {H : AH} {p : Nat → Bool} {j : Nat} (hpj : p j = false) : ∀ n, j < n → (∀ k q o o', j < k → k < n → inf j = some (q, o) → inf k = some (q, o') → p k = false) →
    lookG inf H (fun k => p k || Nat.beq k j) n = setO (lookG inf H p n) (inf j)
  | 0, hj, _ => by omega
  | n + 1, hj, h => by
    funext t
    have off : ∀ m, m ≤ j → lookG inf H (fun k => p k || Nat.beq k j) m = lookG inf H p m := by
      intro m hm
      funext u
      refine lookG_at m (fun k o hk _ => ?_)
      have : Nat.beq k j = false := by cases hb : Nat.beq k j with
        | false => rfl
        | true => have := Nat.eq_of_beq_eq_true hb; omega
      simp [this]
    by_cases hjn : j = n
    · subst hjn
      simp only [lookG, hpj, Bool.false_or, Nat.beq_refl, cond_true, cond_false]
      rw [off j (Nat.le_refl _)]
    · have ih := lookG_put hpj n (by omega) (fun k q o o' h1 h2 => h k q o o' h1 (by omega)) (inf := inf) (H := H)
      have hb : Nat.beq n j = false := by cases hb : Nat.beq n j with
        | false => rfl
        | true => have := Nat.eq_of_beq_eq_true hb; omega
      simp only [lookG, hb, Bool.or_false]
      cases hp : p n with
      | false => simp only [cond_false]; rw [ih]
      | true =>
        simp only [cond_true]
        rw [ih]
        cases hij : inf j with
        | none => rfl
        | some x =>
          obtain ⟨q, o⟩ := x
          cases hin : inf n with
          | none => rfl
          | some y =>
            obtain ⟨q', o'⟩ := y
            have hne : q ≠ q' := fun e => by
              subst e
              rw [h n q o o' (by omega) (by omega) hij hin] at hp; cases hp
            simp only [setO]
            rw [AH.set_comm _ _ _ hne]
end Go.Fw
