/- Regions that draw their order: the theorem. Own work; no condition. -/
import Derived.Test.YtjmklialkjncaaaEngR
set_option linter.unusedVariables false
set_option linter.unusedSimpArgs false
namespace Go.Proofs.Ytjmklialkjncaaa.Eng

variable {P : Program} {base : Nat} {ι : Lay} {w w' : World}

/-- Operation `t`'s writers that have been carried out. -/
def Wr (ops : Array Oper) (listed : Array Bool) (t i : Nat) : Prop := listed.getD i false = true ∧ ∃ o, ops[i]? = some o ∧ o.dst = some t

def Np (ops : Array Oper) (st : Nat → ASt) (late : Nat → Bool) (i : Nat) : Prop := ∃ o, ops[i]? = some o ∧ wantedA ops o (st i) = true ∧ isPureOp o.op = false ∧ late i = false

def StepOk (P : Program) (ops : Array Oper) (mq lz : Nat → Bool) (late : Bool) (i : Nat) (o : Oper) (s : ASt) (v : Value) (b : Nat) (s' : ASt) : Prop :=
  (wantedA ops o s = false ∧ v = undef ∧ s' = s.put o.dst undef s.h) ∨
  (wantedA ops o s = true ∧ ∃ h', s' = s.put o.dst v h' ∧ ((late = false ∧ lz i = false ∧ OpSem P (fun x y _ => y = x) o s v h' ∧ (mq i = true → Quiet s.h h' ∧ OpSem P Untouched o s v h') ∧ (WF s.h → WF h' ∧ s.h.n ≤ h'.n) ∧
    (isPureOp o.op = true → h' = s.h ∧ ∀ g, OpSem P Untouched o { s with h := g } v g)) ∨
    (late = true ∧ h' = s.h ∧ isPureOp o.op = false ∧ plainC v = true ∧ ∀ g : AHeap, g.o b = s.h.o b → OpSem P Untouched o { s with h := g } v g)))

theorem VRel.plainC_eq {v v' : Value} (r : VRel ι v v') (h : plainC v = true) : v' = v := by
  have key : ∀ {xs ys : Array Value}, xs.size = ys.size → (∀ (i : Nat) u u', xs[i]? = some u → ys[i]? = some u' → VRel ι u u') → xs.all plain1 = true → ys = xs := by
    intro xs ys h1 h2 h3
    apply Array.ext
    · exact h1.symm
    · intro i hi hj
      have h4 := h2 i xs[i] ys[i] (Array.getElem?_eq_getElem hj) (Array.getElem?_eq_getElem hi)
      exact h4.plain (Array.all_eq_true_iff_forall_mem.1 h3 _ (Array.getElem_mem hj))
  cases r with
  | atom _ => rfl
  | agg h1 h2 => rw [key h1 h2 h]
  | tuple h1 h2 => rw [key h1 h2 h]
  | ptr _ => simp [plainC, plain1] at h
  | slice _ _ _ => simp [plainC, plain1] at h
  | slice0 _ => simp [plainC, plain1] at h
  | func _ _ _ _ => simp [plainC, plain1] at h
  | iface _ => simp [plainC, plain1] at h

structure Temps (ops : Array Oper) (st : Nat → ASt) (vv : Nat → Value) (listed : Array Bool) (ι : Lay) (a : Act) : Prop where
  some : ∀ t i, Wr ops listed t i → (∀ k, Wr ops listed t k → k ≤ i) → VRel (ι.cut (st (i + 1)).h.n) (vv i) (a.tmps.getD t undef)
  none : ∀ t, (∀ i, ¬ Wr ops listed t i) → VRel (ι.cut (st 0).h.n) ((st 0).t t) (a.tmps.getD t undef)

/-- The last of the numbers below `n` that fulfill something. -/
theorem last_below (p : Nat → Prop) : ∀ n, (∃ i, i < n ∧ p i ∧ ∀ k, k < n → p k → k ≤ i) ∨ ∀ k, k < n → ¬ p k := by
  intro n
  induction n with
  | zero => exact .inr fun k h => by omega
  | succ n ih =>
    by_cases h : p n
    · exact .inl ⟨n, by omega, h, fun k hk _ => by omega⟩
    · rcases ih with ⟨i, h1, h2, h3⟩ | h1
      · refine .inl ⟨i, by omega, h2, fun k hk hp => ?_⟩
        rcases Nat.lt_or_ge k n with q | q
        · exact h3 k q hp
        · have : k = n := by omega
          subst this; exact absurd hp h
      · refine .inr fun k hk hp => ?_
        rcases Nat.lt_or_ge k n with q | q
        · exact h1 k q hp
        · have : k = n := by omega
          subst this; exact h hp

theorem first_from (p : Nat → Prop) (n : Nat) : ∀ d m, m + d = n → ∃ R, m ≤ R ∧ R ≤ n ∧ (∀ i, m ≤ i → i < R → ¬ p i) ∧ (R < n → p R) := by
  intro d
  induction d with
  | zero => intro m h; exact ⟨m, Nat.le_refl _, by omega, fun i h1 h2 => by omega, fun h => by omega⟩
  | succ d ih =>
    intro m h
    by_cases hp : p m
    · exact ⟨m, Nat.le_refl _, by omega, fun i h1 h2 => by omega, fun _ => hp⟩
    · obtain ⟨R, h1, h2, h3, h4⟩ := ih (m + 1) (by omega)
      refine ⟨R, by omega, h2, fun i h5 h6 => ?_, h4⟩
      rcases Nat.lt_or_ge m i with q | q
      · exact h3 i q h6
      · have : i = m := by omega
        subst this; exact hp

/-- How many have not been carried out. -/
def left (n : Nat) (listed : Array Bool) : Nat := ((List.range n).filter fun i => !listed.getD i true).length

theorem left_set {n i : Nat} {listed : Array Bool} (hi : i < n) (hs : listed.size = n) (hl : listed.getD i true = false) : left n (listed.setIfInBounds i true) < left n listed := by
  unfold left
  have key : ∀ (l : List Nat), i ∈ l → l.Nodup → (l.filter fun j => !(listed.setIfInBounds i true).getD j true).length < (l.filter fun j => !listed.getD j true).length := by
    have le : ∀ (l : List Nat), (l.filter fun j => !(listed.setIfInBounds i true).getD j true).length ≤ (l.filter fun j => !listed.getD j true).length := by
      intro l
      induction l with
      | nil => simp
      | cons x l ih =>
        by_cases hx : x = i
        · subst hx
          have e1 : (listed.setIfInBounds x true).getD x true = true := by simp [hs, hi]
          rw [List.filter_cons, List.filter_cons, e1, hl]
          simp only [Bool.not_true, Bool.not_false, Bool.false_eq_true, if_false, if_true, List.length_cons]
          omega
        · have e1 : (listed.setIfInBounds i true).getD x true = listed.getD x true := getD_set_ne true (fun e => hx e.symm)
          rw [List.filter_cons, List.filter_cons, e1]
          split <;> (try simp only [List.length_cons]) <;> omega
    intro l
    induction l with
    | nil => intro h; simp at h
    | cons x l ih =>
      intro hm hd
      by_cases hx : x = i
      · subst hx
        have e1 : (listed.setIfInBounds x true).getD x true = true := by simp [hs, hi]
        rw [List.filter_cons, List.filter_cons, e1, hl]
        simp only [Bool.not_true, Bool.not_false, Bool.false_eq_true, if_false, if_true, List.length_cons]
        have := le l
        omega
      · have e1 : (listed.setIfInBounds i true).getD x true = listed.getD x true := getD_set_ne true (fun e => hx e.symm)
        have := ih (by simpa [Ne.symm hx] using hm) (List.nodup_cons.1 hd).2
        rw [List.filter_cons, List.filter_cons, e1]
        split <;> (try simp only [List.length_cons]) <;> omega
  exact key _ (List.mem_range.2 hi) List.nodup_range

theorem left_zero {n : Nat} {listed : Array Bool} (h : left n listed = 0) (i : Nat) (hi : i < n) : listed.getD i true = true := by
  unfold left at h
  have := List.length_eq_zero_iff.1 h
  cases hx : listed.getD i true with
  | true => rfl
  | false =>
    have hm : i ∈ (List.range n).filter fun i => !listed.getD i true := List.mem_filter.2 ⟨List.mem_range.2 hi, by rw [hx]; rfl⟩
    rw [this] at hm
    cases hm

theorem getD_both {listed : Array Bool} {i : Nat} (hi : i < listed.size) : listed.getD i true = listed.getD i false := by
  simp [Array.getD_eq_getD_getElem?, Array.getElem?_eq_getElem hi]

/-- The state while a region is carried out in some order. -/
structure DInv (P : Program) (ops : Array Oper) (mq : Nat → Bool) (st : Nat → ASt) (late : Nat → Bool) (vv : Nat → Value) (base : Nat) (ι0 : Lay) (a0 : Act) (w0 : World) (listed : Array Bool) (a : Act) (w : World) : Prop where
  size : listed.size = ops.size
  closed : Closed ops listed
  tmps : a.tmps.size = (st 0).m
  defers : a.defers = a0.defers
  wsize : w0.heap.size ≤ w.heap.size
  inv : ∃ m R ιm wm ι, m ≤ R ∧ R ≤ ops.size ∧ (∀ i, i < m → Np ops st late i → listed.getD i false = true) ∧ (∀ i, R ≤ i → Np ops st late i → listed.getD i false = false) ∧
    (∀ i, m ≤ i → i < R → Np ops st late i → mq i = true) ∧ (R < ops.size → Np ops st late R ∧ mq R = false) ∧
    QInv base (fun i => (st i).h) m R (fun i => Np ops st late i ∧ listed.getD i false = true) ιm wm ι w ∧
    HRel base ιm (st m).h wm ∧ More base ι0 ιm (st 0).h (st m).h w0 ∧ Keep0 ι0 (st 0).h (st m).h w0 wm ∧ Temps ops st vv listed ι a

theorem draw_ok {ops : Array Oper} {mq lz : Nat → Bool} (hm : P.follows .mixedOrders = true) (hok : drawOk ops mq lz = true) : DrawSem P ops mq lz := by
  intro s s' hreg htr id base ι0 a0 w0 Q hs hq
  obtain ⟨back, pair⟩ := drawFacts hok
  obtain ⟨st, vv, bb, late, hst0, hstn, hsteps, _, hlate⟩ := trace htr
  rw [List.length_range] at hstn hlate
  have step : ∀ i, i < ops.size → ∃ o, ops[i]? = some o ∧ StepOk P ops mq lz (late i) i o (st i) (vv i) (bb i) (st (i + 1)) := by
    intro i hi
    obtain ⟨o, ho, h⟩ := hsteps i i (by rw [List.getElem?_range hi])
    refine ⟨o, ho, ?_⟩
    rcases h with ⟨hl, ⟨q1, q2, q3⟩ | ⟨q1, q2, h', q3, q4⟩⟩ | ⟨hl, q1, q2, q3⟩
    · exact .inl ⟨q1, q2, q3⟩
    · exact .inr ⟨q1, h', q3, .inl ⟨hl, q2, q4⟩⟩
    · exact .inr ⟨q1, _, q2, .inr ⟨hl, rfl, q3⟩⟩
  -- what a step does to the state
  have stepT : ∀ i o, ops[i]? = some o → ∀ t, (st (i + 1)).t t = if o.dst = some t then vv i else (st i).t t := by
    intro i o ho t
    have hi := (Array.getElem?_eq_some_iff.1 ho).1
    obtain ⟨o', ho', hk⟩ := step i hi
    obtain rfl := Option.some.inj (ho.symm.trans ho')
    have key : ∀ v h', st (i + 1) = (st i).put o.dst v h' → (st (i + 1)).t t = if o.dst = some t then v else (st i).t t := by
      intro v h' e
      rw [e]
      cases hd : o.dst with
      | none => simp [ASt.put]
      | some d =>
        simp only [ASt.put, Option.some.injEq]
        by_cases h : t = d
        · rw [if_pos h, if_pos h.symm]
        · rw [if_neg h, if_neg fun e => h e.symm]
    rcases hk with ⟨_, h1, h2⟩ | ⟨_, h', h2, _⟩
    · rw [h1]; exact key _ _ h2
    · exact key _ _ h2
  have stepM : ∀ i, i ≤ ops.size → (st i).m = (st 0).m := by
    intro i
    induction i with
    | zero => intro _; rfl
    | succ i ih =>
      intro hi
      obtain ⟨o, ho, hk⟩ := step i (by omega)
      rcases hk with ⟨_, _, h2⟩ | ⟨_, h', h2, _⟩ <;> rw [h2, put_m, ih (by omega)]
  have stepWG : ∀ i, i ≤ ops.size → WF (st i).h ∧ ∀ k, k ≤ i → (st k).h.n ≤ (st i).h.n := by
    intro i
    induction i with
    | zero =>
      intro _
      refine ⟨by rw [hst0]; exact hs.heap.heapWF, fun k hk => ?_⟩
      have e : k = 0 := by omega
      rw [e]
      exact Nat.le_refl _
    | succ i ih =>
      intro hi
      obtain ⟨i1, i2⟩ := ih (by omega)
      have key : WF (st (i + 1)).h ∧ (st i).h.n ≤ (st (i + 1)).h.n := by
        obtain ⟨o, ho, hk⟩ := step i (by omega)
        rcases hk with ⟨_, _, h2⟩ | ⟨_, h', h2, ⟨_, _, _, _, h3, _⟩ | ⟨_, h3, _⟩⟩
        · rw [h2, put_h]; exact ⟨i1, Nat.le_refl _⟩
        · rw [h2, put_h]; exact h3 i1
        · rw [h2, put_h, h3]; exact ⟨i1, Nat.le_refl _⟩
      refine ⟨key.1, fun k hk => ?_⟩
      rcases Nat.lt_or_ge k (i + 1) with q | q
      · exact Nat.le_trans (i2 k (by omega)) key.2
      · have e : k = i + 1 := by omega
        rw [e]; exact Nat.le_refl _
  have stepWF : ∀ i, i ≤ ops.size → WF (st i).h := fun i hi => (stepWG i hi).1
  have stepN : ∀ i j, i ≤ j → j ≤ ops.size → (st i).h.n ≤ (st j).h.n := fun i j h1 h2 => (stepWG j h2).2 i h1
  have notNp : ∀ i, i < ops.size → ¬ Np ops st late i → (st (i + 1)).h = (st i).h := by
    intro i hi hn
    obtain ⟨o, ho, hk⟩ := step i hi
    rcases hk with ⟨_, _, h2⟩ | ⟨hw, h', h2, ⟨hlt, _, _, _, _, h3⟩ | ⟨_, h3, _⟩⟩
    · rw [h2, put_h]
    · rw [h2, put_h]
      cases hp : isPureOp o.op with
      | true => exact (h3 hp).1
      | false => exact absurd ⟨o, ho, hw, hp, hlt⟩ hn
    · rw [h2, put_h, h3]
  have npLt : ∀ i, Np ops st late i → i < ops.size := fun i ⟨o, ho, _⟩ => (Array.getElem?_eq_some_iff.1 ho).1
  have npLz : ∀ i, Np ops st late i → lz i = false := by
    rintro i ⟨o, ho, hw, hp, hl⟩
    obtain ⟨o', ho', hk⟩ := step i (Array.getElem?_eq_some_iff.1 ho).1
    obtain rfl := Option.some.inj (ho.symm.trans ho')
    rcases hk with ⟨q1, _⟩ | ⟨_, h', _, ⟨_, q2, _⟩ | ⟨q2, _⟩⟩
    · rw [hw] at q1; cases q1
    · exact q2
    · rw [hl] at q2; cases q2
  have quietOf : ∀ i, i < ops.size → (Np ops st late i → mq i = true) → Quiet (st i).h (st (i + 1)).h := by
    intro i hi hmq
    by_cases hn : Np ops st late i
    · obtain ⟨o, ho, hk⟩ := step i hi
      rcases hk with ⟨hw, _, _⟩ | ⟨hw, h', h2, ⟨_, _, _, h3, _⟩ | ⟨_, h3, _⟩⟩
      · obtain ⟨o', ho', hw', _⟩ := hn
        obtain rfl := Option.some.inj (ho.symm.trans ho')
        rw [hw] at hw'; cases hw'
      · rw [h2, put_h]; exact (h3 (hmq hn)).1
      · rw [h2, put_h, h3]; exact Quiet.refl _
    · rw [notNp i hi hn]; exact Quiet.refl _
  have loudAt : ∀ m, m ≤ ops.size → ∃ R, m ≤ R ∧ R ≤ ops.size ∧ (∀ i, m ≤ i → i < R → Np ops st late i → mq i = true) ∧ (R < ops.size → Np ops st late R ∧ mq R = false) := by
    intro m hm
    obtain ⟨R, h1, h2, h3, h4⟩ := first_from (fun i => Np ops st late i ∧ mq i = false) ops.size (ops.size - m) m (by omega)
    refine ⟨R, h1, h2, fun i a b c => ?_, h4⟩
    cases hx : mq i with
    | true => rfl
    | false => exact absurd ⟨c, hx⟩ (h3 i a b)
  -- the walk
  have walk : ∀ fuel listed a w, left ops.size listed ≤ fuel → DInv P ops mq st late vv base ι0 a0 w0 listed a w → wpAny P .any ops Q fuel listed a w := by
    intro fuel
    -- the end
    have fin : ∀ listed a w, (∀ i, i < ops.size → listed.getD i false = true) → DInv P ops mq st late vv base ι0 a0 w0 listed a w → Q .normal a w := by
      intro listed a w hall hD
      obtain ⟨m, R, ιm, wm, ι, d1, d2, d3, d4, d5, d6, hQ, d7, d8, d9, hT⟩ := hD.inv
      have hR : R = ops.size := by
        rcases Nat.lt_or_ge R ops.size with q | q
        · have := d4 R (Nat.le_refl _) (d6 q).1
          rw [hall R q] at this; cases this
        · omega
      subst hR
      have hquiet : ∀ i, m ≤ i → i < ops.size → Quiet (st i).h (st (i + 1)).h := fun i a b => quietOf i b (d5 i a b)
      obtain ⟨hr, hm⟩ := hQ.done hquiet d1 fun q h1 h2 => by
        by_cases hn : Np ops st late q
        · exact .inl ⟨hn, hall q h2⟩
        · exact .inr (notNp q h2 hn)
      refine hq ι a w ⟨?_, fun t => ?_, ?_, Nat.le_trans hs.base hD.wsize⟩ ?_ ?_ hD.defers
      · rw [hD.tmps, ← hstn, stepM ops.size (Nat.le_refl _)]
      · -- the slots
        have tval : ∀ n, n ≤ ops.size → ((∃ i o, i < n ∧ ops[i]? = some o ∧ o.dst = some t ∧ (∀ k, i < k → k < n → ∀ o', ops[k]? = some o' → o'.dst ≠ some t) ∧ (st n).t t = vv i) ∨
            ((∀ k, k < n → ∀ o', ops[k]? = some o' → o'.dst ≠ some t) ∧ (st n).t t = (st 0).t t)) := by
          intro n
          induction n with
          | zero => intro _; exact .inr ⟨fun k h => by omega, rfl⟩
          | succ n ih =>
            intro hn
            obtain ⟨o, ho, _⟩ := step n (by omega)
            have e1 := stepT n o ho t
            by_cases hd : o.dst = some t
            · rw [if_pos hd] at e1
              exact .inl ⟨n, o, by omega, ho, hd, fun k h1 h2 => by omega, e1⟩
            · rw [if_neg hd] at e1
              rcases ih (by omega) with ⟨i, o2, h1, h2, h3, h4, h5⟩ | ⟨h1, h2⟩
              · refine .inl ⟨i, o2, by omega, h2, h3, fun k k1 k2 o' ho' => ?_, by rw [e1, h5]⟩
                rcases Nat.lt_or_ge k n with q | q
                · exact h4 k k1 q o' ho'
                · have : k = n := by omega
                  subst this
                  obtain rfl := Option.some.inj (ho.symm.trans ho')
                  exact hd
              · refine .inr ⟨fun k k2 o' ho' => ?_, by rw [e1, h2]⟩
                rcases Nat.lt_or_ge k n with q | q
                · exact h1 k q o' ho'
                · have : k = n := by omega
                  subst this
                  obtain rfl := Option.some.inj (ho.symm.trans ho')
                  exact hd
        rw [← hstn]
        rcases tval ops.size (Nat.le_refl _) with ⟨i, o, h1, h2, h3, h4, h5⟩ | ⟨h1, h2⟩
        · rw [h5]
          refine (hT.some t i ⟨hall i h1, o, h2, h3⟩ fun k ⟨_, o', ho', hd'⟩ => ?_).mono fun b e hb => (cut_some hb).2
          rcases Nat.lt_or_ge i k with q | q
          · exact absurd hd' (h4 k q (Array.getElem?_eq_some_iff.1 ho').1 o' ho')
          · exact q
        · rw [h2]
          exact (hT.none t fun i ⟨_, o', ho', hd'⟩ => h1 i (Array.getElem?_eq_some_iff.1 ho').1 o' ho' hd').mono fun b e hb => (cut_some hb).2
      · rw [← hstn]; exact hr
      · rw [← hstn, ← hst0]; exact More.trans (by rw [hst0]; exact hs.heap) d7 d8 hm d9.size
      · rw [← hstn, ← hst0]; exact Keep0.trans (by rw [hst0]; exact hs.heap) d8 hm d9 hQ.keep
    -- one operation
    have one : ∀ listed a w j, DInv P ops mq st late vv base ι0 a0 w0 listed a w → j ∈ Region.ready .any ops listed →
        ∀ K : Act → World → Prop, (∀ a' w', DInv P ops mq st late vv base ι0 a0 w0 (listed.setIfInBounds j true) a' w' → K a' w') → wpOp P ops Q j K a w := by
      intro listed a w j hD hj K hK
      obtain ⟨hjun, o, ho, hpre⟩ := mem_ready.1 hj
      have hjn : j < ops.size := (Array.getElem?_eq_some_iff.1 ho).1
      have hjl : listed.getD j false = false := by rw [← getD_both (by rw [hD.size]; exact hjn)]; exact hjun
      have hpre' : ∀ o' e, ops[j]? = some o' → e ∈ o'.after → Region.binds .any e = true → listed.getD e.on false = true := fun o' e ho' he hb => by
        obtain rfl := Option.some.inj (ho.symm.trans ho'); exact hpre e he hb
      have before : ∀ i, Reach ops i j → listed.getD i false = true := fun i hr => hr.listed hD.closed hpre'
      have notAfter : ∀ k, listed.getD k false = true → ¬ Reach ops j k := fun k hk hr => by
        have := hr.listed hD.closed fun o' e ho' he hb => hD.closed k o' e ho' hk he hb
        rw [hjl] at this; cases this
      obtain ⟨m, R, ιm, wm, ι, d1, d2, d3, d4, d5, d6, hQ, d7, d8, d9, hT⟩ := hD.inv
      have hquiet : ∀ i, m ≤ i → i < R → Quiet (st i).h (st (i + 1)).h := fun i a b => quietOf i (by omega) (d5 i a b)
      obtain ⟨k1, k2⟩ := regOk_mem hreg ho
      -- the new set
      have hset : ∀ i, (listed.setIfInBounds j true).getD i false = true ↔ listed.getD i false = true ∨ i = j := by
        intro i
        by_cases e : i = j
        · subst e; simp [hD.size, hjn]
        · rw [getD_set_ne false (fun e' => e e'.symm)]; simp [e]
      have hclosed' : Closed ops (listed.setIfInBounds j true) := by
        intro i o' e ho' hi he hb
        rw [hset] at hi ⊢
        rcases hi with hi | rfl
        · exact .inl (hD.closed i o' e ho' hi he hb)
        · exact .inl (hpre' o' e ho' he hb)
      have hsize' : (listed.setIfInBounds j true).size = ops.size := by simp [hD.size]
      have hWr' : ∀ t i, Wr ops (listed.setIfInBounds j true) t i ↔ Wr ops listed t i ∨ (i = j ∧ o.dst = some t) := by
        intro t i
        unfold Wr
        rw [hset]
        constructor
        · rintro ⟨h1 | rfl, o', h2, h3⟩
          · exact .inl ⟨h1, o', h2, h3⟩
          · obtain rfl := Option.some.inj (ho.symm.trans h2)
            exact .inr ⟨rfl, h3⟩
        · rintro (⟨h1, h2⟩ | ⟨rfl, h2⟩)
          · exact ⟨.inl h1, h2⟩
          · exact ⟨.inr rfl, o, ho, h2⟩
      -- the slots that it reads
      have reads : ∀ t, t ∈ readsOf ops o → VRel (ι.cut (st j).h.n) ((st j).t t) (a.tmps.getD t undef) := by
        intro t ht
        have tval : ∀ n, n ≤ j → ((∃ i o, i < n ∧ ops[i]? = some o ∧ o.dst = some t ∧ (∀ k, i < k → k < n → ∀ o', ops[k]? = some o' → o'.dst ≠ some t) ∧ (st n).t t = vv i) ∨
            ((∀ k, k < n → ∀ o', ops[k]? = some o' → o'.dst ≠ some t) ∧ (st n).t t = (st 0).t t)) := by
          intro n
          induction n with
          | zero => intro _; exact .inr ⟨fun k h => by omega, rfl⟩
          | succ n ih =>
            intro hn
            obtain ⟨o, ho, _⟩ := step n (by omega)
            have e1 := stepT n o ho t
            by_cases hd : o.dst = some t
            · rw [if_pos hd] at e1
              exact .inl ⟨n, o, by omega, ho, hd, fun k h1 h2 => by omega, e1⟩
            · rw [if_neg hd] at e1
              rcases ih (by omega) with ⟨i, o2, h1, h2, h3, h4, h5⟩ | ⟨h1, h2⟩
              · refine .inl ⟨i, o2, by omega, h2, h3, fun k k1 k2 o' ho' => ?_, by rw [e1, h5]⟩
                rcases Nat.lt_or_ge k n with q | q
                · exact h4 k k1 q o' ho'
                · have : k = n := by omega
                  subst this
                  obtain rfl := Option.some.inj (ho.symm.trans ho')
                  exact hd
              · refine .inr ⟨fun k k2 o' ho' => ?_, by rw [e1, h2]⟩
                rcases Nat.lt_or_ge k n with q | q
                · exact h1 k q o' ho'
                · have : k = n := by omega
                  subst this
                  obtain rfl := Option.some.inj (ho.symm.trans ho')
                  exact hd
        -- a listed writer is below j
        have below : ∀ k, Wr ops listed t k → k < j := by
          rintro k ⟨h1, o', h2, h3⟩
          rcases Nat.lt_trichotomy k j with q | q | q
          · exact q
          · subst q; rw [hjl] at h1; cases h1
          · rcases pair j k o o' q ho h2 with r | ⟨_, r, _⟩
            · exact absurd r (notAfter k h1)
            · exact absurd ht (r t h3)
        have mono : ∀ i, i < j → (st (i + 1)).h.n ≤ (st j).h.n := by
          intro i hi
          exact stepN (i + 1) j hi (by omega)
        rcases tval j (Nat.le_refl _) with ⟨i, oi, h1, h2, h3, h4, h5⟩ | ⟨h1, h2⟩
        · rw [h5]
          have hl : listed.getD i false = true := by
            rcases pair i j oi o h1 h2 ho with r | ⟨r, _⟩
            · exact before i r
            · exact absurd ht (r t h3).1
          refine (hT.some t i ⟨hl, oi, h2, h3⟩ fun k hk => ?_).mono fun b e hb => ?_
          · have hkj := below k hk
            rcases Nat.lt_or_ge i k with q | q
            · obtain ⟨_, o', ho', hd'⟩ := hk
              exact absurd hd' (h4 k q hkj o' ho')
            · exact q
          · exact cut_mk (Nat.lt_of_lt_of_le (cut_some hb).1 (mono i h1)) (cut_some hb).2
        · rw [h2]
          refine (hT.none t fun k hk => ?_).mono fun b e hb => ?_
          · have hkj := below k hk
            obtain ⟨_, o', ho', hd'⟩ := hk
            exact h1 k hkj o' ho' hd'
          · exact cut_mk (Nat.lt_of_lt_of_le (cut_some hb).1 (stepN 0 j (by omega) (by omega))) (cut_some hb).2
      have operands : ∀ x ∈ o.op.operands, VRel (ι.cut (st j).h.n) ((st j).ev x) (a.eval x) := by
        intro x hx
        cases x with
        | tmp t => exact reads t (by
            unfold readsOf
            refine List.mem_append_left _ (List.mem_filterMap.2 ⟨.tmp t, Array.mem_toList_iff.2 hx, rfl⟩))
        | const v => exact .const (k2 _ hx)
        | global g => cases k2 _ hx
        | func f => exact .func rfl (fun i v v' a _ => by simp at a) rfl (fun i v v' a _ => by simp at a)
      have hwant : Region.wanted o (yielded ops a.tmps) = wantedA ops o (st j) := wanted_eq fun g want d hg hd => reads d (by
        unfold readsOf
        refine List.mem_append_right _ ?_
        rw [hg]
        simp [hd])
      -- the slots behind it
      have temps' : ∀ (ι' : Lay) (v' : Value), (∀ b e, ι b = some e → ι' b = some e) → VRel (ι'.cut (st (j + 1)).h.n) (vv j) v' → Temps ops st vv (listed.setIfInBounds j true) ι' (a.put o.dst v') := by
        intro ι' v' hsub hv
        have kd : ∀ d, o.dst = some d → d < a.tmps.size := fun d hd => by rw [hD.tmps, hst0]; exact k1 d hd
        have cutsub : ∀ n b e, ι.cut n b = some e → ι'.cut n b = some e := fun n b e hb => cut_mk (cut_some hb).1 (hsub b e (cut_some hb).2)
        refine ⟨fun t i hi hmax => ?_, fun t hno => ?_⟩
        · rw [put_getD rfl kd]
          rcases (hWr' t i).1 hi with h | ⟨rfl, h⟩
          · by_cases hd : o.dst = some t
            · exfalso
              have hji := hmax j ((hWr' t j).2 (.inr ⟨rfl, hd⟩))
              obtain ⟨hl, oi, hoi, hdi⟩ := h
              rcases Nat.lt_or_ge j i with q | q
              · rcases pair j i o oi q ho hoi with r | ⟨r, _⟩
                · exact notAfter i hl r
                · exact (r t hd).2 hdi
              · have e : i = j := by omega
                subst e; rw [hjl] at hl; cases hl
            · rw [if_neg hd]
              exact (hT.some t i h fun k hk => hmax k ((hWr' t k).2 (.inl hk))).mono (cutsub _)
          · rw [if_pos h]; exact hv
        · rw [put_getD rfl kd]
          have hd : o.dst ≠ some t := fun hd => hno j ((hWr' t j).2 (.inr ⟨rfl, hd⟩))
          rw [if_neg hd]
          exact (hT.none t fun i hi => hno i ((hWr' t i).2 (.inl hi))).mono (cutsub _)
      have tm' : ∀ v', (a.put o.dst v').tmps.size = (st 0).m := fun v' => by
        rw [← hD.tmps]; cases o.dst <;> simp [Act.put]
      have dv' : ∀ v', (a.put o.dst v').defers = a0.defers := fun v' => by rw [act_put_defers]; exact hD.defers
      have hrR := hQ.rel R d1 (Nat.le_refl _)
      have hιR : ∀ b e, ι b = some e → b < (st R).h.n := fun b e hb => hQ.lt hquiet d1 hb
      have hιb : ∀ b e, ι b = some e → e.block < w.heap.size := fun b e hb => hrR.blk b e (cut_mk (hιR b e hb) hb)
      have hbase := Nat.le_trans hs.base hD.wsize
      have hunl : ∀ i, i ≠ j → listed.getD i false = false → (listed.setIfInBounds j true).getD i false = false := fun i hi hl => by
        cases hx : (listed.setIfInBounds j true).getD i false with
        | false => rfl
        | true => rcases (hset i).1 hx with h | h
                  · rw [hl] at h; cases h
                  · exact absurd h hi
      -- an operation that is not of the memory: the same stretch
      have same : ∀ w1 v', ¬ Np ops st late j → Calm w w1 → VRel (ι.cut (st (j + 1)).h.n) (vv j) v' → K (a.put o.dst v') w1 := by
        intro w1 v' hn hc hv
        refine hK _ _ ⟨hsize', hclosed', tm' v', dv' v', Nat.le_trans hD.wsize hc.size, m, R, ιm, wm, ι, d1, d2, fun i h1 h2 => (hset i).2 (.inl (d3 i h1 h2)), fun i h1 h2 => ?_, d5, d6,
          (hQ.calm hc).congr fun q _ _ => ?_, d7, d8, d9, temps' ι v' (fun _ _ h => h) hv⟩
        · exact hunl i (fun e => hn (e ▸ h2)) (d4 i h1 h2)
        · constructor
          · rintro ⟨h1, h2⟩; exact ⟨h1, (hset q).2 (.inl h2)⟩
          · rintro ⟨h1, h2⟩
            refine ⟨h1, ?_⟩
            rcases (hset q).1 h2 with h | h
            · exact h
            · exact absurd (h ▸ h1) hn
      unfold wpOp
      simp only [ho]
      rw [hwant]
      obtain ⟨o', ho', hk⟩ := step j hjn
      obtain rfl := Option.some.inj (ho.symm.trans ho')
      rcases hk with ⟨e1, e2, e3⟩ | ⟨e1, h', e2, ⟨hlt, hlz, s1, s2, s3, s4⟩ | ⟨hlt, e3, hp, hpl, hsem⟩⟩
      · rw [e1]
        simp only [Bool.false_eq_true, if_false]
        refine same w undef (fun ⟨o2, q1, q2, _⟩ => ?_) ⟨rfl, rfl, rfl, Nat.le_refl _, fun _ _ => rfl, fun _ _ _ h => h, fun _ _ _ _ => rfl⟩ (by rw [e2]; exact VRel.undef)
        obtain rfl := Option.some.inj (ho.symm.trans q1)
        rw [e1] at q2; cases q2
      · rw [e1, if_pos rfl]
        left
        have hh' : (st (j + 1)).h = h' := by rw [e2, put_h]
        cases hp : isPureOp o.op with
        | true =>
          have hnn : ¬ Np ops st late j := fun ⟨o2, q1, _, q3, _⟩ => by
            obtain rfl := Option.some.inj (ho.symm.trans q1)
            rw [hp] at q3; cases q3
          refine (s4 hp).2 (deadHeap (st j).h.n) base (ι.cut (st j).h.n) a w K Q (deadRel (fun b e hb => (cut_some hb).1) fun b e hb => hιb b e (cut_some hb).2) hbase (fun x hx => by rw [ev_with]; exact operands x hx)
            fun ι' v' w1 m1 m2 m3 m4 => same w1 v' hnn (Keeps.calm m4) (m2.mono fun b e hb => ?_)
          have hlt := m3.lt b e hb
          have h2 := m1.old b hlt
          rw [hb] at h2
          have h3 := (notNp j hjn hnn)
          rw [h3]
          exact h2.symm
        | false =>
          have hn : Np ops st late j := ⟨o, ho, e1, hp, hlt⟩
          have hmj : m ≤ j := by
            rcases Nat.lt_or_ge j m with q | q
            · have := d3 j q hn; rw [hjl] at this; cases this
            · exact q
          rcases Nat.lt_or_ge j R with hjR | hjR
          · -- in the stretch
            refine (s2 (d5 j hmj hjR hn)).2 base (ι.cut (st j).h.n) a w K Q (hQ.rel j hmj (by omega)) hbase operands fun κ v' w1 m1 m2 m3 m4 => ?_
            rw [← hh'] at m1 m3 m4
            have hE : ¬ (Np ops st late j ∧ listed.getD j false = true) := fun h => by rw [hjl] at h; cases h.2
            have hQ' := QInv.step hQ hquiet (fun i h1 h2 => stepWF i (by omega)) hmj hjR hE m1 m3 m4
            refine hK _ _ ⟨hsize', hclosed', tm' v', dv' v', Nat.le_trans hD.wsize m4.size, m, R, ιm, wm, _, d1, d2, fun i h1 h2 => (hset i).2 (.inl (d3 i h1 h2)), fun i h1 h2 => hunl i (by omega) (d4 i h1 h2), d5, d6,
              hQ'.congr fun q _ _ => ?_, d7, d8, d9, temps' _ v' (fun b e hb => with_old hQ hquiet hmj hjR hE κ hb) (m2.mono fun b e hb => cut_mk (m3.lt b e hb) (with_new (G := fun i => (st i).h) (q := j) m1 m3 hb))⟩
            constructor
            · rintro (⟨h1, h2⟩ | rfl)
              · exact ⟨h1, (hset q).2 (.inl h2)⟩
              · exact ⟨hn, (hset q).2 (.inr rfl)⟩
            · rintro ⟨h1, h2⟩
              rcases (hset q).1 h2 with h | h
              · exact .inl ⟨h1, h⟩
              · exact .inr h
          · -- the one that ends the stretch
            have hRn : R < ops.size := by omega
            obtain ⟨nR, mR⟩ := d6 hRn
            have hjR' : j = R := by
              rcases Nat.lt_or_ge R j with q | q
              · exfalso
                have nR' := nR
                obtain ⟨oR, r1, r2, r3, r4⟩ := nR
                have hRl := d4 R (Nat.le_refl _) ⟨oR, r1, r2, r3, r4⟩
                rcases pair R j oR o q r1 ho with r | ⟨_, _, r⟩
                · rw [before R r] at hRl; cases hRl
                · rcases r r3 hp with r | r
                  · have := r.1; rw [mR] at this; cases this
                  · rw [npLz R nR'] at r; cases r
              · omega
            subst hjR'
            have hall : ∀ q, m ≤ q → q < j → Np ops st late q → listed.getD q false = true := by
              intro q h1 h2 nq
              obtain ⟨oq, r1, r2, r3, r4⟩ := nq
              rcases pair q j oq o h2 r1 ho with r | ⟨_, _, r⟩
              · exact before q r
              · rcases r r3 hp with r | r
                · have := r.2; rw [mR] at this; cases this
                · rw [npLz q ⟨oq, r1, r2, r3, r4⟩] at r; cases r
            obtain ⟨hrj, hmj2⟩ := hQ.done hquiet d1 fun q h1 h2 => by
              by_cases hnq : Np ops st late q
              · exact .inl ⟨hnq, hall q h1 h2 hnq⟩
              · exact .inr (notNp q (by omega) hnq)
            have hs0 : HRel base ι0 (st 0).h w0 := by rw [hst0]; exact hs.heap
            have M1 := More.trans hs0 d7 d8 hmj2 d9.size
            have K1 := Keep0.trans hs0 d8 hmj2 d9 hQ.keep
            refine s1 base ι a w K Q hrj hbase (fun x hx => (operands x hx).mono fun b e hb => (cut_some hb).2) fun κ v' w1 m1 m2 m3 m4 => ?_
            rw [← hh'] at m1 m3 m4
            obtain ⟨R', l1, l2, l3, l4⟩ := loudAt (j + 1) (by omega)
            have hQ' : QInv base (fun i => (st i).h) (j + 1) R' (fun _ => False) κ w1 κ w1 := QInv.start m3 (fun i h1 h2 => quietOf i (by omega) (l3 i h1 h2)) l1 fun i h1 h2 => stepWF i (by omega)
            refine hK _ _ ⟨hsize', hclosed', tm' v', dv' v', Nat.le_trans hD.wsize m4.size, j + 1, R', κ, w1, κ, l1, l2, fun i h1 h2 => ?_, fun i h1 h2 => hunl i (by omega) (d4 i (by omega) h2), l3, l4,
              hQ'.congr fun q h1 h2 => ?_, m3, More.trans hs0 hrj M1 m1 K1.size, Keep0.trans hs0 M1 m1 K1 m4, temps' κ v' (More.lay hrj m1) (m2.mono fun b e hb => cut_mk (m3.lt b e hb) hb)⟩
            · rw [hset]
              rcases Nat.lt_or_ge i m with q | q
              · exact .inl (d3 i q h2)
              · rcases Nat.lt_or_ge i j with r | r
                · exact .inl (hall i q r h2)
                · exact .inr (by omega)
            · constructor
              · exact fun h => h.elim
              · rintro ⟨h3, h4⟩
                rw [hunl q (by omega) (d4 q (by omega) h3)] at h4
                cases h4
      · -- it is read late
        rw [e1, if_pos rfl]
        left
        have hnn : ¬ Np ops st late j := fun ⟨o2, _, _, _, q4⟩ => by rw [hlt] at q4; cases q4
        have hjR : j ≤ R := by
          rcases Nat.lt_or_ge R j with q | q
          · exfalso
            have hRn : R < ops.size := by omega
            obtain ⟨nR, mR⟩ := d6 hRn
            have nR' := nR
            obtain ⟨oR, r1, r2, r3, r4⟩ := nR
            have hRl := d4 R (Nat.le_refl _) ⟨oR, r1, r2, r3, r4⟩
            rcases pair R j oR o q r1 ho with r | ⟨_, _, r⟩
            · rw [before R r] at hRl; cases hRl
            · rcases r r3 hp with r | r
              · have := r.1; rw [mR] at this; cases this
              · rw [npLz R nR'] at r; cases r
          · exact q
        have hmj : m ≤ max m j := Nat.le_max_left _ _
        have hjm : j ≤ max m j := Nat.le_max_right _ _
        have hmR : max m j ≤ R := by omega
        have hst := hlate j hjn hlt (max m j) hjm (by omega)
        have hrj := hQ.rel (max m j) hmj hmR
        refine hsem (st (max m j)).h hst base (ι.cut (st (max m j)).h.n) a w K Q hrj hbase (fun x hx => ?_) fun ι' v' w1 m1 m2 m3 m4 => same w1 v' hnn (Keeps.calm m4) ?_
        · rw [ev_with]
          exact (operands x hx).mono fun b e hb => cut_mk (Nat.lt_of_lt_of_le (cut_some hb).1 (stepN j (max m j) hjm (by omega))) (cut_some hb).2
        · rw [m2.plainC_eq hpl]
          exact .const hpl
    induction fuel with
    | zero =>
      intro listed a w hl hD
      have hall : ∀ i, i < ops.size → listed.getD i true = true := left_zero (by omega)
      refine ⟨?_, fin listed a w (fun i hi => by rw [← getD_both (by rw [hD.size]; exact hi)]; exact hall i hi) hD⟩
      cases hr : Region.ready .any ops listed with
      | nil => rfl
      | cons j l =>
        obtain ⟨hjun, o, ho, _⟩ := mem_ready.1 (show j ∈ Region.ready .any ops listed by rw [hr]; simp)
        rw [hall j (Array.getElem?_eq_some_iff.1 ho).1] at hjun
        cases hjun
    | succ fuel ih =>
      intro listed a w hl hD
      refine ⟨fun hr => ?_, fun j hj => ?_⟩
      · -- nothing is ready: all have been carried out
        refine fin listed a w (fun i hi => ?_) hD
        induction i using Nat.strongRecOn with
        | _ i ihi =>
          cases hx : listed.getD i false with
          | true => rfl
          | false =>
            exfalso
            have hir : i ∈ Region.ready .any ops listed := mem_ready.2 ⟨by rw [getD_both (by rw [hD.size]; exact hi)]; exact hx, ops[i], Array.getElem?_eq_getElem hi, fun e he hb => by
              have hlt := back i _ e (Array.getElem?_eq_getElem hi) he hb
              exact ihi e.on hlt (by omega)⟩
            rw [hr] at hir
            cases hir
      · have hjl := (mem_ready.1 hj).1
        obtain ⟨o, ho, _⟩ := (mem_ready.1 hj).2
        have hjn := (Array.getElem?_eq_some_iff.1 ho).1
        exact one listed a w j hD hj _ fun a' w' hD' => ih _ a' w' (by have := left_set hjn hD.size hjl; omega) hD'
  have hf : ∀ i, (Array.replicate ops.size false).getD i false = false := fun i => by
    rw [Array.getD_eq_getD_getElem?, Array.getElem?_replicate]
    split <;> rfl
  refine wp_region_any hm (walk ops.size _ a0 _ ?_ ?_)
  · unfold left
    exact Nat.le_trans (List.length_filter_le _ _) (by simp)
  · obtain ⟨R, l1, l2, l3, l4⟩ := loudAt 0 (by omega)
    have hs0 : HRel base ι0 (st 0).h w0 := by rw [hst0]; exact hs.heap
    have hcalm := Calm.drawn w0 (w0.drawn + 1)
    have hQ0 : QInv base (fun i => (st i).h) 0 R (fun _ => False) ι0 { w0 with drawn := w0.drawn + 1 } ι0 { w0 with drawn := w0.drawn + 1 } :=
      QInv.start (hs0.calm hcalm) (fun i h1 h2 => quietOf i (by omega) (l3 i h1 h2)) l1 fun i h1 h2 => stepWF i (by omega)
    refine ⟨by simp, fun j o e ho hl => (by rw [hf] at hl; cases hl), by rw [hst0]; exact hs.size, rfl, Nat.le_refl _, 0, R, ι0, _, ι0, l1, l2, fun i h => by omega, fun i _ _ => hf i, l3, l4,
      hQ0.congr fun q _ _ => ⟨fun h => h.elim, fun h => by rw [hf] at h; cases h.2⟩, hs0.calm hcalm, More.refl hs0, Keep0.calm (KeepsBy.zero (Keeps.refl ι0 _ w0)) hcalm, ⟨fun t i hi => (by
        have := hi.1; rw [hf] at this; cases this), fun t _ => ?_⟩⟩
    have h1 := hs.tmps t
    rw [← hst0] at h1
    exact h1.mono fun b e hb => cut_mk (hs0.lt b e hb) hb

end Go.Proofs.Ytjmklialkjncaaa.Eng
