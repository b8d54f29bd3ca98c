/- Regions that draw their order: the theorem. Own work; no condition. | Symbolic runs of the abstract machine: what is known of the slots and of the objects, and the rules of code. Own work; no condition. | Symbolic runs: the rules of code, regions, loops and calls. Own work; no condition. | Symbolic runs: the rules of operations on numbers, slots and rows. Own work; no condition. | Symbolic runs: the rules of operations on the memory. Own work; no condition. | Lists in cells: what the rules' side conditions want. Own work; no condition. | Symbolic runs: rows of which only their elements are known. Own work; no condition. | Symbolic runs: rows that grow, results that lie in cells. Own work; no condition. | What came in is never written, and no run looks at whether it could be: functions that write to objects of their own leave all others alone. Own work; no condition. | From a contract over abstract memory to the call in the world: rows that came in. Own work; no condition. | The rules of operations in short form: what a side condition wants is found by itself. Own work; no condition. | Short rules, continued: appends to a row of one's own, the first elements of a row; contracts that leave all as it was. Own work; no condition. | What this program's types are to the abstract machine. Printed by a program of this work; no condition. | The small functions of the house. Own work; no condition. | Networks: those made from numbers, and their copies. Own work; no condition. | A network's copy; what is valid. Own work; no condition. -/
import Derived.Test.YtjmklialkjncaaaFlowWaysM1
import Derived.WalkKit
import Derived.ProofKit
import Derived.OpenShut
import Derived.ShutString
import Derived.ChangeOld
import Derived.Below
import Derived.SizedLaws
import Derived.ChangeSlices
import Derived.Carry
import Derived.Test.YtjmklialkjncaaaChecked
set_option linter.unusedVariables false
set_option linter.unusedSimpArgs false
namespace Go.Proofs.Ytjmklialkjncaaa.Eng

variable {P : Program} {base : Nat} {ι : Lay} {w w' : World}

/-- Operation `t`'s writers that have been carried out. -/
def Wr (ops : Array Oper) (listed : Array Bool) (t i : Nat) : Prop := listed.getD i false = true ∧ ∃ o, ops[i]? = some o ∧ o.dst = some t

def Np (ops : Array Oper) (st : Nat → ASt) (late : Nat → Bool) (i : Nat) : Prop := ∃ o, ops[i]? = some o ∧ wantedA ops o (st i) = true ∧ isPureOp o.op = false ∧ late i = false

def StepOk (P : Program) (ops : Array Oper) (mq lz : Nat → Bool) (late : Bool) (i : Nat) (o : Oper) (s : ASt) (v : Value) (b : Nat) (s' : ASt) : Prop :=
  (wantedA ops o s = false ∧ v = undef ∧ s' = s.put o.dst undef s.h) ∨
  (wantedA ops o s = true ∧ ∃ h', s' = s.put o.dst v h' ∧ ((late = false ∧ lz i = false ∧ OpSem P (fun x y _ => y = x) o s v h' ∧ (mq i = true → Quiet s.h h' ∧ OpSem P Untouched o s v h') ∧ (WF s.h → WF h' ∧ s.h.n ≤ h'.n) ∧
    (isPureOp o.op = true → h' = s.h ∧ ∀ g, OpSem P Untouched o { s with h := g } v g)) ∨
    (late = true ∧ h' = s.h ∧ isPureOp o.op = false ∧ plainC v = true ∧ ∀ g : AHeap, g.o b = s.h.o b → OpSem P Untouched o { s with h := g } v g)))

theorem VRel.plainC_eq {v v' : Value} (r : VRel ι v v') (h : plainC v = true) : v' = v := by
  have key : ∀ {xs ys : Array Value}, xs.size = ys.size → (∀ (i : Nat) u u', xs[i]? = some u → ys[i]? = some u' → VRel ι u u') → xs.all plain1 = true → ys = xs := by
    intro xs ys h1 h2 h3
    apply Array.ext
    · exact h1.symm
    · intro i hi hj
      have h4 := h2 i xs[i] ys[i] (Array.getElem?_eq_getElem hj) (Array.getElem?_eq_getElem hi)
      exact h4.plain (Array.all_eq_true_iff_forall_mem.1 h3 _ (Array.getElem_mem hj))
  cases r with
  | atom _ => rfl
  | agg h1 h2 => rw [key h1 h2 h]
  | tuple h1 h2 => rw [key h1 h2 h]
  | ptr _ => simp [plainC, plain1] at h
  | slice _ _ _ => simp [plainC, plain1] at h
  | slice0 _ => simp [plainC, plain1] at h
  | func _ _ _ _ => simp [plainC, plain1] at h
  | iface _ => simp [plainC, plain1] at h

structure Temps (ops : Array Oper) (st : Nat → ASt) (vv : Nat → Value) (listed : Array Bool) (ι : Lay) (a : Act) : Prop where
  some : ∀ t i, Wr ops listed t i → (∀ k, Wr ops listed t k → k ≤ i) → VRel (ι.cut (st (i + 1)).h.n) (vv i) (a.tmps.getD t undef)
  none : ∀ t, (∀ i, ¬ Wr ops listed t i) → VRel (ι.cut (st 0).h.n) ((st 0).t t) (a.tmps.getD t undef)

/-- The last of the numbers below `n` that fulfill something. -/
theorem last_below (p : Nat → Prop) : ∀ n, (∃ i, i < n ∧ p i ∧ ∀ k, k < n → p k → k ≤ i) ∨ ∀ k, k < n → ¬ p k := by
  intro n
  induction n with
  | zero => exact .inr fun k h => by omega
  | succ n ih =>
    by_cases h : p n
    · exact .inl ⟨n, by omega, h, fun k hk _ => by omega⟩
    · rcases ih with ⟨i, h1, h2, h3⟩ | h1
      · refine .inl ⟨i, by omega, h2, fun k hk hp => ?_⟩
        rcases Nat.lt_or_ge k n with q | q
        · exact h3 k q hp
        · have : k = n := by omega
          subst this; exact absurd hp h
      · refine .inr fun k hk hp => ?_
        rcases Nat.lt_or_ge k n with q | q
        · exact h1 k q hp
        · have : k = n := by omega
          subst this; exact h hp

theorem first_from (p : Nat → Prop) (n : Nat) : ∀ d m, m + d = n → ∃ R, m ≤ R ∧ R ≤ n ∧ (∀ i, m ≤ i → i < R → ¬ p i) ∧ (R < n → p R) := by
  intro d
  induction d with
  | zero => intro m h; exact ⟨m, Nat.le_refl _, by omega, fun i h1 h2 => by omega, fun h => by omega⟩
  | succ d ih =>
    intro m h
    by_cases hp : p m
    · exact ⟨m, Nat.le_refl _, by omega, fun i h1 h2 => by omega, fun _ => hp⟩
    · obtain ⟨R, h1, h2, h3, h4⟩ := ih (m + 1) (by omega)
      refine ⟨R, by omega, h2, fun i h5 h6 => ?_, h4⟩
      rcases Nat.lt_or_ge m i with q | q
      · exact h3 i q h6
      · have : i = m := by omega
        subst this; exact hp

/-- How many have not been carried out. -/
def left (n : Nat) (listed : Array Bool) : Nat := ((List.range n).filter fun i => !listed.getD i true).length

theorem left_set {n i : Nat} {listed : Array Bool} (hi : i < n) (hs : listed.size = n) (hl : listed.getD i true = false) : left n (listed.setIfInBounds i true) < left n listed := by
  unfold left
  have key : ∀ (l : List Nat), i ∈ l → l.Nodup → (l.filter fun j => !(listed.setIfInBounds i true).getD j true).length < (l.filter fun j => !listed.getD j true).length := by
    have le : ∀ (l : List Nat), (l.filter fun j => !(listed.setIfInBounds i true).getD j true).length ≤ (l.filter fun j => !listed.getD j true).length := by
      intro l
      induction l with
      | nil => simp
      | cons x l ih =>
        by_cases hx : x = i
        · subst hx
          have e1 : (listed.setIfInBounds x true).getD x true = true := by simp [hs, hi]
          rw [List.filter_cons, List.filter_cons, e1, hl]
          simp only [Bool.not_true, Bool.not_false, Bool.false_eq_true, if_false, if_true, List.length_cons]
          omega
        · have e1 : (listed.setIfInBounds i true).getD x true = listed.getD x true := getD_set_ne true (fun e => hx e.symm)
          rw [List.filter_cons, List.filter_cons, e1]
          split <;> (try simp only [List.length_cons]) <;> omega
    intro l
    induction l with
    | nil => intro h; simp at h
    | cons x l ih =>
      intro hm hd
      by_cases hx : x = i
      · subst hx
        have e1 : (listed.setIfInBounds x true).getD x true = true := by simp [hs, hi]
        rw [List.filter_cons, List.filter_cons, e1, hl]
        simp only [Bool.not_true, Bool.not_false, Bool.false_eq_true, if_false, if_true, List.length_cons]
        have := le l
        omega
      · have e1 : (listed.setIfInBounds i true).getD x true = listed.getD x true := getD_set_ne true (fun e => hx e.symm)
        have := ih (by simpa [Ne.symm hx] using hm) (List.nodup_cons.1 hd).2
        rw [List.filter_cons, List.filter_cons, e1]
        split <;> (try simp only [List.length_cons]) <;> omega
  exact key _ (List.mem_range.2 hi) List.nodup_range

theorem left_zero {n : Nat} {listed : Array Bool} (h : left n listed = 0) (i : Nat) (hi : i < n) : listed.getD i true = true := by
  unfold left at h
  have := List.length_eq_zero_iff.1 h
  cases hx : listed.getD i true with
  | true => rfl
  | false =>
    have hm : i ∈ (List.range n).filter fun i => !listed.getD i true := List.mem_filter.2 ⟨List.mem_range.2 hi, by rw [hx]; rfl⟩
    rw [this] at hm
    cases hm

theorem getD_both {listed : Array Bool} {i : Nat} (hi : i < listed.size) : listed.getD i true = listed.getD i false := by
  simp [Array.getD_eq_getD_getElem?, Array.getElem?_eq_getElem hi]

/-- The state while a region is carried out in some order. -/
structure DInv (P : Program) (ops : Array Oper) (mq : Nat → Bool) (st : Nat → ASt) (late : Nat → Bool) (vv : Nat → Value) (base : Nat) (ι0 : Lay) (a0 : Act) (w0 : World) (listed : Array Bool) (a : Act) (w : World) : Prop where
  size : listed.size = ops.size
  closed : Closed ops listed
  tmps : a.tmps.size = (st 0).m
  defers : a.defers = a0.defers
  wsize : w0.heap.size ≤ w.heap.size
  inv : ∃ m R ιm wm ι, m ≤ R ∧ R ≤ ops.size ∧ (∀ i, i < m → Np ops st late i → listed.getD i false = true) ∧ (∀ i, R ≤ i → Np ops st late i → listed.getD i false = false) ∧
    (∀ i, m ≤ i → i < R → Np ops st late i → mq i = true) ∧ (R < ops.size → Np ops st late R ∧ mq R = false) ∧
    QInv base (fun i => (st i).h) m R (fun i => Np ops st late i ∧ listed.getD i false = true) ιm wm ι w ∧
    HRel base ιm (st m).h wm ∧ More base ι0 ιm (st 0).h (st m).h w0 ∧ Keep0 ι0 (st 0).h (st m).h w0 wm ∧ Temps ops st vv listed ι a

theorem draw_ok {ops : Array Oper} {mq lz : Nat → Bool} (hm : P.follows .mixedOrders = true) (hok : drawOk ops mq lz = true) : DrawSem P ops mq lz := by
  intro s s' hreg htr id base ι0 a0 w0 Q hs hq
  obtain ⟨back, pair⟩ := drawFacts hok
  obtain ⟨st, vv, bb, late, hst0, hstn, hsteps, _, hlate⟩ := trace htr
  rw [List.length_range] at hstn hlate
  have step : ∀ i, i < ops.size → ∃ o, ops[i]? = some o ∧ StepOk P ops mq lz (late i) i o (st i) (vv i) (bb i) (st (i + 1)) := by
    intro i hi
    obtain ⟨o, ho, h⟩ := hsteps i i (by rw [List.getElem?_range hi])
    refine ⟨o, ho, ?_⟩
    rcases h with ⟨hl, ⟨q1, q2, q3⟩ | ⟨q1, q2, h', q3, q4⟩⟩ | ⟨hl, q1, q2, q3⟩
    · exact .inl ⟨q1, q2, q3⟩
    · exact .inr ⟨q1, h', q3, .inl ⟨hl, q2, q4⟩⟩
    · exact .inr ⟨q1, _, q2, .inr ⟨hl, rfl, q3⟩⟩
  -- what a step does to the state
  have stepT : ∀ i o, ops[i]? = some o → ∀ t, (st (i + 1)).t t = if o.dst = some t then vv i else (st i).t t := by
    intro i o ho t
    have hi := (Array.getElem?_eq_some_iff.1 ho).1
    obtain ⟨o', ho', hk⟩ := step i hi
    obtain rfl := Option.some.inj (ho.symm.trans ho')
    have key : ∀ v h', st (i + 1) = (st i).put o.dst v h' → (st (i + 1)).t t = if o.dst = some t then v else (st i).t t := by
      intro v h' e
      rw [e]
      cases hd : o.dst with
      | none => simp [ASt.put]
      | some d =>
        simp only [ASt.put, Option.some.injEq]
        by_cases h : t = d
        · rw [if_pos h, if_pos h.symm]
        · rw [if_neg h, if_neg fun e => h e.symm]
    rcases hk with ⟨_, h1, h2⟩ | ⟨_, h', h2, _⟩
    · rw [h1]; exact key _ _ h2
    · exact key _ _ h2
  have stepM : ∀ i, i ≤ ops.size → (st i).m = (st 0).m := by
    intro i
    induction i with
    | zero => intro _; rfl
    | succ i ih =>
      intro hi
      obtain ⟨o, ho, hk⟩ := step i (by omega)
      rcases hk with ⟨_, _, h2⟩ | ⟨_, h', h2, _⟩ <;> rw [h2, put_m, ih (by omega)]
  have stepWG : ∀ i, i ≤ ops.size → WF (st i).h ∧ ∀ k, k ≤ i → (st k).h.n ≤ (st i).h.n := by
    intro i
    induction i with
    | zero =>
      intro _
      refine ⟨by rw [hst0]; exact hs.heap.heapWF, fun k hk => ?_⟩
      have e : k = 0 := by omega
      rw [e]
      exact Nat.le_refl _
    | succ i ih =>
      intro hi
      obtain ⟨i1, i2⟩ := ih (by omega)
      have key : WF (st (i + 1)).h ∧ (st i).h.n ≤ (st (i + 1)).h.n := by
        obtain ⟨o, ho, hk⟩ := step i (by omega)
        rcases hk with ⟨_, _, h2⟩ | ⟨_, h', h2, ⟨_, _, _, _, h3, _⟩ | ⟨_, h3, _⟩⟩
        · rw [h2, put_h]; exact ⟨i1, Nat.le_refl _⟩
        · rw [h2, put_h]; exact h3 i1
        · rw [h2, put_h, h3]; exact ⟨i1, Nat.le_refl _⟩
      refine ⟨key.1, fun k hk => ?_⟩
      rcases Nat.lt_or_ge k (i + 1) with q | q
      · exact Nat.le_trans (i2 k (by omega)) key.2
      · have e : k = i + 1 := by omega
        rw [e]; exact Nat.le_refl _
  have stepWF : ∀ i, i ≤ ops.size → WF (st i).h := fun i hi => (stepWG i hi).1
  have stepN : ∀ i j, i ≤ j → j ≤ ops.size → (st i).h.n ≤ (st j).h.n := fun i j h1 h2 => (stepWG j h2).2 i h1
  have notNp : ∀ i, i < ops.size → ¬ Np ops st late i → (st (i + 1)).h = (st i).h := by
    intro i hi hn
    obtain ⟨o, ho, hk⟩ := step i hi
    rcases hk with ⟨_, _, h2⟩ | ⟨hw, h', h2, ⟨hlt, _, _, _, _, h3⟩ | ⟨_, h3, _⟩⟩
    · rw [h2, put_h]
    · rw [h2, put_h]
      cases hp : isPureOp o.op with
      | true => exact (h3 hp).1
      | false => exact absurd ⟨o, ho, hw, hp, hlt⟩ hn
    · rw [h2, put_h, h3]
  have npLt : ∀ i, Np ops st late i → i < ops.size := fun i ⟨o, ho, _⟩ => (Array.getElem?_eq_some_iff.1 ho).1
  have npLz : ∀ i, Np ops st late i → lz i = false := by
    rintro i ⟨o, ho, hw, hp, hl⟩
    obtain ⟨o', ho', hk⟩ := step i (Array.getElem?_eq_some_iff.1 ho).1
    obtain rfl := Option.some.inj (ho.symm.trans ho')
    rcases hk with ⟨q1, _⟩ | ⟨_, h', _, ⟨_, q2, _⟩ | ⟨q2, _⟩⟩
    · rw [hw] at q1; cases q1
    · exact q2
    · rw [hl] at q2; cases q2
  have quietOf : ∀ i, i < ops.size → (Np ops st late i → mq i = true) → Quiet (st i).h (st (i + 1)).h := by
    intro i hi hmq
    by_cases hn : Np ops st late i
    · obtain ⟨o, ho, hk⟩ := step i hi
      rcases hk with ⟨hw, _, _⟩ | ⟨hw, h', h2, ⟨_, _, _, h3, _⟩ | ⟨_, h3, _⟩⟩
      · obtain ⟨o', ho', hw', _⟩ := hn
        obtain rfl := Option.some.inj (ho.symm.trans ho')
        rw [hw] at hw'; cases hw'
      · rw [h2, put_h]; exact (h3 (hmq hn)).1
      · rw [h2, put_h, h3]; exact Quiet.refl _
    · rw [notNp i hi hn]; exact Quiet.refl _
  have loudAt : ∀ m, m ≤ ops.size → ∃ R, m ≤ R ∧ R ≤ ops.size ∧ (∀ i, m ≤ i → i < R → Np ops st late i → mq i = true) ∧ (R < ops.size → Np ops st late R ∧ mq R = false) := by
    intro m hm
    obtain ⟨R, h1, h2, h3, h4⟩ := first_from (fun i => Np ops st late i ∧ mq i = false) ops.size (ops.size - m) m (by omega)
    refine ⟨R, h1, h2, fun i a b c => ?_, h4⟩
    cases hx : mq i with
    | true => rfl
    | false => exact absurd ⟨c, hx⟩ (h3 i a b)
  -- the walk
  have walk : ∀ fuel listed a w, left ops.size listed ≤ fuel → DInv P ops mq st late vv base ι0 a0 w0 listed a w → wpAny P .any ops Q fuel listed a w := by
    intro fuel
    -- the end
    have fin : ∀ listed a w, (∀ i, i < ops.size → listed.getD i false = true) → DInv P ops mq st late vv base ι0 a0 w0 listed a w → Q .normal a w := by
      intro listed a w hall hD
      obtain ⟨m, R, ιm, wm, ι, d1, d2, d3, d4, d5, d6, hQ, d7, d8, d9, hT⟩ := hD.inv
      have hR : R = ops.size := by
        rcases Nat.lt_or_ge R ops.size with q | q
        · have := d4 R (Nat.le_refl _) (d6 q).1
          rw [hall R q] at this; cases this
        · omega
      subst hR
      have hquiet : ∀ i, m ≤ i → i < ops.size → Quiet (st i).h (st (i + 1)).h := fun i a b => quietOf i b (d5 i a b)
      obtain ⟨hr, hm⟩ := hQ.done hquiet d1 fun q h1 h2 => by
        by_cases hn : Np ops st late q
        · exact .inl ⟨hn, hall q h2⟩
        · exact .inr (notNp q h2 hn)
      refine hq ι a w ⟨?_, fun t => ?_, ?_, Nat.le_trans hs.base hD.wsize⟩ ?_ ?_ hD.defers
      · rw [hD.tmps, ← hstn, stepM ops.size (Nat.le_refl _)]
      · -- the slots
        have tval : ∀ n, n ≤ ops.size → ((∃ i o, i < n ∧ ops[i]? = some o ∧ o.dst = some t ∧ (∀ k, i < k → k < n → ∀ o', ops[k]? = some o' → o'.dst ≠ some t) ∧ (st n).t t = vv i) ∨
            ((∀ k, k < n → ∀ o', ops[k]? = some o' → o'.dst ≠ some t) ∧ (st n).t t = (st 0).t t)) := by
          intro n
          induction n with
          | zero => intro _; exact .inr ⟨fun k h => by omega, rfl⟩
          | succ n ih =>
            intro hn
            obtain ⟨o, ho, _⟩ := step n (by omega)
            have e1 := stepT n o ho t
            by_cases hd : o.dst = some t
            · rw [if_pos hd] at e1
              exact .inl ⟨n, o, by omega, ho, hd, fun k h1 h2 => by omega, e1⟩
            · rw [if_neg hd] at e1
              rcases ih (by omega) with ⟨i, o2, h1, h2, h3, h4, h5⟩ | ⟨h1, h2⟩
              · refine .inl ⟨i, o2, by omega, h2, h3, fun k k1 k2 o' ho' => ?_, by rw [e1, h5]⟩
                rcases Nat.lt_or_ge k n with q | q
                · exact h4 k k1 q o' ho'
                · have : k = n := by omega
                  subst this
                  obtain rfl := Option.some.inj (ho.symm.trans ho')
                  exact hd
              · refine .inr ⟨fun k k2 o' ho' => ?_, by rw [e1, h2]⟩
                rcases Nat.lt_or_ge k n with q | q
                · exact h1 k q o' ho'
                · have : k = n := by omega
                  subst this
                  obtain rfl := Option.some.inj (ho.symm.trans ho')
                  exact hd
        rw [← hstn]
        rcases tval ops.size (Nat.le_refl _) with ⟨i, o, h1, h2, h3, h4, h5⟩ | ⟨h1, h2⟩
        · rw [h5]
          refine (hT.some t i ⟨hall i h1, o, h2, h3⟩ fun k ⟨_, o', ho', hd'⟩ => ?_).mono fun b e hb => (cut_some hb).2
          rcases Nat.lt_or_ge i k with q | q
          · exact absurd hd' (h4 k q (Array.getElem?_eq_some_iff.1 ho').1 o' ho')
          · exact q
        · rw [h2]
          exact (hT.none t fun i ⟨_, o', ho', hd'⟩ => h1 i (Array.getElem?_eq_some_iff.1 ho').1 o' ho' hd').mono fun b e hb => (cut_some hb).2
      · rw [← hstn]; exact hr
      · rw [← hstn, ← hst0]; exact More.trans (by rw [hst0]; exact hs.heap) d7 d8 hm d9.size
      · rw [← hstn, ← hst0]; exact Keep0.trans (by rw [hst0]; exact hs.heap) d8 hm d9 hQ.keep
    -- one operation
    have one : ∀ listed a w j, DInv P ops mq st late vv base ι0 a0 w0 listed a w → j ∈ Region.ready .any ops listed →
        ∀ K : Act → World → Prop, (∀ a' w', DInv P ops mq st late vv base ι0 a0 w0 (listed.setIfInBounds j true) a' w' → K a' w') → wpOp P ops Q j K a w := by
      intro listed a w j hD hj K hK
      obtain ⟨hjun, o, ho, hpre⟩ := mem_ready.1 hj
      have hjn : j < ops.size := (Array.getElem?_eq_some_iff.1 ho).1
      have hjl : listed.getD j false = false := by rw [← getD_both (by rw [hD.size]; exact hjn)]; exact hjun
      have hpre' : ∀ o' e, ops[j]? = some o' → e ∈ o'.after → Region.binds .any e = true → listed.getD e.on false = true := fun o' e ho' he hb => by
        obtain rfl := Option.some.inj (ho.symm.trans ho'); exact hpre e he hb
      have before : ∀ i, Reach ops i j → listed.getD i false = true := fun i hr => hr.listed hD.closed hpre'
      have notAfter : ∀ k, listed.getD k false = true → ¬ Reach ops j k := fun k hk hr => by
        have := hr.listed hD.closed fun o' e ho' he hb => hD.closed k o' e ho' hk he hb
        rw [hjl] at this; cases this
      obtain ⟨m, R, ιm, wm, ι, d1, d2, d3, d4, d5, d6, hQ, d7, d8, d9, hT⟩ := hD.inv
      have hquiet : ∀ i, m ≤ i → i < R → Quiet (st i).h (st (i + 1)).h := fun i a b => quietOf i (by omega) (d5 i a b)
      obtain ⟨k1, k2⟩ := regOk_mem hreg ho
      -- the new set
      have hset : ∀ i, (listed.setIfInBounds j true).getD i false = true ↔ listed.getD i false = true ∨ i = j := by
        intro i
        by_cases e : i = j
        · subst e; simp [hD.size, hjn]
        · rw [getD_set_ne false (fun e' => e e'.symm)]; simp [e]
      have hclosed' : Closed ops (listed.setIfInBounds j true) := by
        intro i o' e ho' hi he hb
        rw [hset] at hi ⊢
        rcases hi with hi | rfl
        · exact .inl (hD.closed i o' e ho' hi he hb)
        · exact .inl (hpre' o' e ho' he hb)
      have hsize' : (listed.setIfInBounds j true).size = ops.size := by simp [hD.size]
      have hWr' : ∀ t i, Wr ops (listed.setIfInBounds j true) t i ↔ Wr ops listed t i ∨ (i = j ∧ o.dst = some t) := by
        intro t i
        unfold Wr
        rw [hset]
        constructor
        · rintro ⟨h1 | rfl, o', h2, h3⟩
          · exact .inl ⟨h1, o', h2, h3⟩
          · obtain rfl := Option.some.inj (ho.symm.trans h2)
            exact .inr ⟨rfl, h3⟩
        · rintro (⟨h1, h2⟩ | ⟨rfl, h2⟩)
          · exact ⟨.inl h1, h2⟩
          · exact ⟨.inr rfl, o, ho, h2⟩
      -- the slots that it reads
      have reads : ∀ t, t ∈ readsOf ops o → VRel (ι.cut (st j).h.n) ((st j).t t) (a.tmps.getD t undef) := by
        intro t ht
        have tval : ∀ n, n ≤ j → ((∃ i o, i < n ∧ ops[i]? = some o ∧ o.dst = some t ∧ (∀ k, i < k → k < n → ∀ o', ops[k]? = some o' → o'.dst ≠ some t) ∧ (st n).t t = vv i) ∨
            ((∀ k, k < n → ∀ o', ops[k]? = some o' → o'.dst ≠ some t) ∧ (st n).t t = (st 0).t t)) := by
          intro n
          induction n with
          | zero => intro _; exact .inr ⟨fun k h => by omega, rfl⟩
          | succ n ih =>
            intro hn
            obtain ⟨o, ho, _⟩ := step n (by omega)
            have e1 := stepT n o ho t
            by_cases hd : o.dst = some t
            · rw [if_pos hd] at e1
              exact .inl ⟨n, o, by omega, ho, hd, fun k h1 h2 => by omega, e1⟩
            · rw [if_neg hd] at e1
              rcases ih (by omega) with ⟨i, o2, h1, h2, h3, h4, h5⟩ | ⟨h1, h2⟩
              · refine .inl ⟨i, o2, by omega, h2, h3, fun k k1 k2 o' ho' => ?_, by rw [e1, h5]⟩
                rcases Nat.lt_or_ge k n with q | q
                · exact h4 k k1 q o' ho'
                · have : k = n := by omega
                  subst this
                  obtain rfl := Option.some.inj (ho.symm.trans ho')
                  exact hd
              · refine .inr ⟨fun k k2 o' ho' => ?_, by rw [e1, h2]⟩
                rcases Nat.lt_or_ge k n with q | q
                · exact h1 k q o' ho'
                · have : k = n := by omega
                  subst this
                  obtain rfl := Option.some.inj (ho.symm.trans ho')
                  exact hd
        -- a listed writer is below j
        have below : ∀ k, Wr ops listed t k → k < j := by
          rintro k ⟨h1, o', h2, h3⟩
          rcases Nat.lt_trichotomy k j with q | q | q
          · exact q
          · subst q; rw [hjl] at h1; cases h1
          · rcases pair j k o o' q ho h2 with r | ⟨_, r, _⟩
            · exact absurd r (notAfter k h1)
            · exact absurd ht (r t h3)
        have mono : ∀ i, i < j → (st (i + 1)).h.n ≤ (st j).h.n := by
          intro i hi
          exact stepN (i + 1) j hi (by omega)
        rcases tval j (Nat.le_refl _) with ⟨i, oi, h1, h2, h3, h4, h5⟩ | ⟨h1, h2⟩
        · rw [h5]
          have hl : listed.getD i false = true := by
            rcases pair i j oi o h1 h2 ho with r | ⟨r, _⟩
            · exact before i r
            · exact absurd ht (r t h3).1
          refine (hT.some t i ⟨hl, oi, h2, h3⟩ fun k hk => ?_).mono fun b e hb => ?_
          · have hkj := below k hk
            rcases Nat.lt_or_ge i k with q | q
            · obtain ⟨_, o', ho', hd'⟩ := hk
              exact absurd hd' (h4 k q hkj o' ho')
            · exact q
          · exact cut_mk (Nat.lt_of_lt_of_le (cut_some hb).1 (mono i h1)) (cut_some hb).2
        · rw [h2]
          refine (hT.none t fun k hk => ?_).mono fun b e hb => ?_
          · have hkj := below k hk
            obtain ⟨_, o', ho', hd'⟩ := hk
            exact h1 k hkj o' ho' hd'
          · exact cut_mk (Nat.lt_of_lt_of_le (cut_some hb).1 (stepN 0 j (by omega) (by omega))) (cut_some hb).2
      have operands : ∀ x ∈ o.op.operands, VRel (ι.cut (st j).h.n) ((st j).ev x) (a.eval x) := by
        intro x hx
        cases x with
        | tmp t => exact reads t (by
            unfold readsOf
            refine List.mem_append_left _ (List.mem_filterMap.2 ⟨.tmp t, Array.mem_toList_iff.2 hx, rfl⟩))
        | const v => exact .const (k2 _ hx)
        | global g => cases k2 _ hx
        | func f => exact .func rfl (fun i v v' a _ => by simp at a) rfl (fun i v v' a _ => by simp at a)
      have hwant : Region.wanted o (yielded ops a.tmps) = wantedA ops o (st j) := wanted_eq fun g want d hg hd => reads d (by
        unfold readsOf
        refine List.mem_append_right _ ?_
        rw [hg]
        simp [hd])
      -- the slots behind it
      have temps' : ∀ (ι' : Lay) (v' : Value), (∀ b e, ι b = some e → ι' b = some e) → VRel (ι'.cut (st (j + 1)).h.n) (vv j) v' → Temps ops st vv (listed.setIfInBounds j true) ι' (a.put o.dst v') := by
        intro ι' v' hsub hv
        have kd : ∀ d, o.dst = some d → d < a.tmps.size := fun d hd => by rw [hD.tmps, hst0]; exact k1 d hd
        have cutsub : ∀ n b e, ι.cut n b = some e → ι'.cut n b = some e := fun n b e hb => cut_mk (cut_some hb).1 (hsub b e (cut_some hb).2)
        refine ⟨fun t i hi hmax => ?_, fun t hno => ?_⟩
        · rw [put_getD rfl kd]
          rcases (hWr' t i).1 hi with h | ⟨rfl, h⟩
          · by_cases hd : o.dst = some t
            · exfalso
              have hji := hmax j ((hWr' t j).2 (.inr ⟨rfl, hd⟩))
              obtain ⟨hl, oi, hoi, hdi⟩ := h
              rcases Nat.lt_or_ge j i with q | q
              · rcases pair j i o oi q ho hoi with r | ⟨r, _⟩
                · exact notAfter i hl r
                · exact (r t hd).2 hdi
              · have e : i = j := by omega
                subst e; rw [hjl] at hl; cases hl
            · rw [if_neg hd]
              exact (hT.some t i h fun k hk => hmax k ((hWr' t k).2 (.inl hk))).mono (cutsub _)
          · rw [if_pos h]; exact hv
        · rw [put_getD rfl kd]
          have hd : o.dst ≠ some t := fun hd => hno j ((hWr' t j).2 (.inr ⟨rfl, hd⟩))
          rw [if_neg hd]
          exact (hT.none t fun i hi => hno i ((hWr' t i).2 (.inl hi))).mono (cutsub _)
      have tm' : ∀ v', (a.put o.dst v').tmps.size = (st 0).m := fun v' => by
        rw [← hD.tmps]; cases o.dst <;> simp [Act.put]
      have dv' : ∀ v', (a.put o.dst v').defers = a0.defers := fun v' => by rw [act_put_defers]; exact hD.defers
      have hrR := hQ.rel R d1 (Nat.le_refl _)
      have hιR : ∀ b e, ι b = some e → b < (st R).h.n := fun b e hb => hQ.lt hquiet d1 hb
      have hιb : ∀ b e, ι b = some e → e.block < w.heap.size := fun b e hb => hrR.blk b e (cut_mk (hιR b e hb) hb)
      have hbase := Nat.le_trans hs.base hD.wsize
      have hunl : ∀ i, i ≠ j → listed.getD i false = false → (listed.setIfInBounds j true).getD i false = false := fun i hi hl => by
        cases hx : (listed.setIfInBounds j true).getD i false with
        | false => rfl
        | true => rcases (hset i).1 hx with h | h
                  · rw [hl] at h; cases h
                  · exact absurd h hi
      -- an operation that is not of the memory: the same stretch
      have same : ∀ w1 v', ¬ Np ops st late j → Calm w w1 → VRel (ι.cut (st (j + 1)).h.n) (vv j) v' → K (a.put o.dst v') w1 := by
        intro w1 v' hn hc hv
        refine hK _ _ ⟨hsize', hclosed', tm' v', dv' v', Nat.le_trans hD.wsize hc.size, m, R, ιm, wm, ι, d1, d2, fun i h1 h2 => (hset i).2 (.inl (d3 i h1 h2)), fun i h1 h2 => ?_, d5, d6,
          (hQ.calm hc).congr fun q _ _ => ?_, d7, d8, d9, temps' ι v' (fun _ _ h => h) hv⟩
        · exact hunl i (fun e => hn (e ▸ h2)) (d4 i h1 h2)
        · constructor
          · rintro ⟨h1, h2⟩; exact ⟨h1, (hset q).2 (.inl h2)⟩
          · rintro ⟨h1, h2⟩
            refine ⟨h1, ?_⟩
            rcases (hset q).1 h2 with h | h
            · exact h
            · exact absurd (h ▸ h1) hn
      unfold wpOp
      simp only [ho]
      rw [hwant]
      obtain ⟨o', ho', hk⟩ := step j hjn
      obtain rfl := Option.some.inj (ho.symm.trans ho')
      rcases hk with ⟨e1, e2, e3⟩ | ⟨e1, h', e2, ⟨hlt, hlz, s1, s2, s3, s4⟩ | ⟨hlt, e3, hp, hpl, hsem⟩⟩
      · rw [e1]
        simp only [Bool.false_eq_true, if_false]
        refine same w undef (fun ⟨o2, q1, q2, _⟩ => ?_) ⟨rfl, rfl, rfl, Nat.le_refl _, fun _ _ => rfl, fun _ _ _ h => h, fun _ _ _ _ => rfl⟩ (by rw [e2]; exact VRel.undef)
        obtain rfl := Option.some.inj (ho.symm.trans q1)
        rw [e1] at q2; cases q2
      · rw [e1, if_pos rfl]
        left
        have hh' : (st (j + 1)).h = h' := by rw [e2, put_h]
        cases hp : isPureOp o.op with
        | true =>
          have hnn : ¬ Np ops st late j := fun ⟨o2, q1, _, q3, _⟩ => by
            obtain rfl := Option.some.inj (ho.symm.trans q1)
            rw [hp] at q3; cases q3
          refine (s4 hp).2 (deadHeap (st j).h.n) base (ι.cut (st j).h.n) a w K Q (deadRel (fun b e hb => (cut_some hb).1) fun b e hb => hιb b e (cut_some hb).2) hbase (fun x hx => by rw [ev_with]; exact operands x hx)
            fun ι' v' w1 m1 m2 m3 m4 => same w1 v' hnn (Keeps.calm m4) (m2.mono fun b e hb => ?_)
          have hlt := m3.lt b e hb
          have h2 := m1.old b hlt
          rw [hb] at h2
          have h3 := (notNp j hjn hnn)
          rw [h3]
          exact h2.symm
        | false =>
          have hn : Np ops st late j := ⟨o, ho, e1, hp, hlt⟩
          have hmj : m ≤ j := by
            rcases Nat.lt_or_ge j m with q | q
            · have := d3 j q hn; rw [hjl] at this; cases this
            · exact q
          rcases Nat.lt_or_ge j R with hjR | hjR
          · -- in the stretch
            refine (s2 (d5 j hmj hjR hn)).2 base (ι.cut (st j).h.n) a w K Q (hQ.rel j hmj (by omega)) hbase operands fun κ v' w1 m1 m2 m3 m4 => ?_
            rw [← hh'] at m1 m3 m4
            have hE : ¬ (Np ops st late j ∧ listed.getD j false = true) := fun h => by rw [hjl] at h; cases h.2
            have hQ' := QInv.step hQ hquiet (fun i h1 h2 => stepWF i (by omega)) hmj hjR hE m1 m3 m4
            refine hK _ _ ⟨hsize', hclosed', tm' v', dv' v', Nat.le_trans hD.wsize m4.size, m, R, ιm, wm, _, d1, d2, fun i h1 h2 => (hset i).2 (.inl (d3 i h1 h2)), fun i h1 h2 => hunl i (by omega) (d4 i h1 h2), d5, d6,
              hQ'.congr fun q _ _ => ?_, d7, d8, d9, temps' _ v' (fun b e hb => with_old hQ hquiet hmj hjR hE κ hb) (m2.mono fun b e hb => cut_mk (m3.lt b e hb) (with_new (G := fun i => (st i).h) (q := j) m1 m3 hb))⟩
            constructor
            · rintro (⟨h1, h2⟩ | rfl)
              · exact ⟨h1, (hset q).2 (.inl h2)⟩
              · exact ⟨hn, (hset q).2 (.inr rfl)⟩
            · rintro ⟨h1, h2⟩
              rcases (hset q).1 h2 with h | h
              · exact .inl ⟨h1, h⟩
              · exact .inr h
          · -- the one that ends the stretch
            have hRn : R < ops.size := by omega
            obtain ⟨nR, mR⟩ := d6 hRn
            have hjR' : j = R := by
              rcases Nat.lt_or_ge R j with q | q
              · exfalso
                have nR' := nR
                obtain ⟨oR, r1, r2, r3, r4⟩ := nR
                have hRl := d4 R (Nat.le_refl _) ⟨oR, r1, r2, r3, r4⟩
                rcases pair R j oR o q r1 ho with r | ⟨_, _, r⟩
                · rw [before R r] at hRl; cases hRl
                · rcases r r3 hp with r | r
                  · have := r.1; rw [mR] at this; cases this
                  · rw [npLz R nR'] at r; cases r
              · omega
            subst hjR'
            have hall : ∀ q, m ≤ q → q < j → Np ops st late q → listed.getD q false = true := by
              intro q h1 h2 nq
              obtain ⟨oq, r1, r2, r3, r4⟩ := nq
              rcases pair q j oq o h2 r1 ho with r | ⟨_, _, r⟩
              · exact before q r
              · rcases r r3 hp with r | r
                · have := r.2; rw [mR] at this; cases this
                · rw [npLz q ⟨oq, r1, r2, r3, r4⟩] at r; cases r
            obtain ⟨hrj, hmj2⟩ := hQ.done hquiet d1 fun q h1 h2 => by
              by_cases hnq : Np ops st late q
              · exact .inl ⟨hnq, hall q h1 h2 hnq⟩
              · exact .inr (notNp q (by omega) hnq)
            have hs0 : HRel base ι0 (st 0).h w0 := by rw [hst0]; exact hs.heap
            have M1 := More.trans hs0 d7 d8 hmj2 d9.size
            have K1 := Keep0.trans hs0 d8 hmj2 d9 hQ.keep
            refine s1 base ι a w K Q hrj hbase (fun x hx => (operands x hx).mono fun b e hb => (cut_some hb).2) fun κ v' w1 m1 m2 m3 m4 => ?_
            rw [← hh'] at m1 m3 m4
            obtain ⟨R', l1, l2, l3, l4⟩ := loudAt (j + 1) (by omega)
            have hQ' : QInv base (fun i => (st i).h) (j + 1) R' (fun _ => False) κ w1 κ w1 := QInv.start m3 (fun i h1 h2 => quietOf i (by omega) (l3 i h1 h2)) l1 fun i h1 h2 => stepWF i (by omega)
            refine hK _ _ ⟨hsize', hclosed', tm' v', dv' v', Nat.le_trans hD.wsize m4.size, j + 1, R', κ, w1, κ, l1, l2, fun i h1 h2 => ?_, fun i h1 h2 => hunl i (by omega) (d4 i (by omega) h2), l3, l4,
              hQ'.congr fun q h1 h2 => ?_, m3, More.trans hs0 hrj M1 m1 K1.size, Keep0.trans hs0 M1 m1 K1 m4, temps' κ v' (More.lay hrj m1) (m2.mono fun b e hb => cut_mk (m3.lt b e hb) hb)⟩
            · rw [hset]
              rcases Nat.lt_or_ge i m with q | q
              · exact .inl (d3 i q h2)
              · rcases Nat.lt_or_ge i j with r | r
                · exact .inl (hall i q r h2)
                · exact .inr (by omega)
            · constructor
              · exact fun h => h.elim
              · rintro ⟨h3, h4⟩
                rw [hunl q (by omega) (d4 q (by omega) h3)] at h4
                cases h4
      · -- it is read late
        rw [e1, if_pos rfl]
        left
        have hnn : ¬ Np ops st late j := fun ⟨o2, _, _, _, q4⟩ => by rw [hlt] at q4; cases q4
        have hjR : j ≤ R := by
          rcases Nat.lt_or_ge R j with q | q
          · exfalso
            have hRn : R < ops.size := by omega
            obtain ⟨nR, mR⟩ := d6 hRn
            have nR' := nR
            obtain ⟨oR, r1, r2, r3, r4⟩ := nR
            have hRl := d4 R (Nat.le_refl _) ⟨oR, r1, r2, r3, r4⟩
            rcases pair R j oR o q r1 ho with r | ⟨_, _, r⟩
            · rw [before R r] at hRl; cases hRl
            · rcases r r3 hp with r | r
              · have := r.1; rw [mR] at this; cases this
              · rw [npLz R nR'] at r; cases r
          · exact q
        have hmj : m ≤ max m j := Nat.le_max_left _ _
        have hjm : j ≤ max m j := Nat.le_max_right _ _
        have hmR : max m j ≤ R := by omega
        have hst := hlate j hjn hlt (max m j) hjm (by omega)
        have hrj := hQ.rel (max m j) hmj hmR
        refine hsem (st (max m j)).h hst base (ι.cut (st (max m j)).h.n) a w K Q hrj hbase (fun x hx => ?_) fun ι' v' w1 m1 m2 m3 m4 => same w1 v' hnn (Keeps.calm m4) ?_
        · rw [ev_with]
          exact (operands x hx).mono fun b e hb => cut_mk (Nat.lt_of_lt_of_le (cut_some hb).1 (stepN j (max m j) hjm (by omega))) (cut_some hb).2
        · rw [m2.plainC_eq hpl]
          exact .const hpl
    induction fuel with
    | zero =>
      intro listed a w hl hD
      have hall : ∀ i, i < ops.size → listed.getD i true = true := left_zero (by omega)
      refine ⟨?_, fin listed a w (fun i hi => by rw [← getD_both (by rw [hD.size]; exact hi)]; exact hall i hi) hD⟩
      cases hr : Region.ready .any ops listed with
      | nil => rfl
      | cons j l =>
        obtain ⟨hjun, o, ho, _⟩ := mem_ready.1 (show j ∈ Region.ready .any ops listed by rw [hr]; simp)
        rw [hall j (Array.getElem?_eq_some_iff.1 ho).1] at hjun
        cases hjun
    | succ fuel ih =>
      intro listed a w hl hD
      refine ⟨fun hr => ?_, fun j hj => ?_⟩
      · -- nothing is ready: all have been carried out
        refine fin listed a w (fun i hi => ?_) hD
        induction i using Nat.strongRecOn with
        | _ i ihi =>
          cases hx : listed.getD i false with
          | true => rfl
          | false =>
            exfalso
            have hir : i ∈ Region.ready .any ops listed := mem_ready.2 ⟨by rw [getD_both (by rw [hD.size]; exact hi)]; exact hx, ops[i], Array.getElem?_eq_getElem hi, fun e he hb => by
              have hlt := back i _ e (Array.getElem?_eq_getElem hi) he hb
              exact ihi e.on hlt (by omega)⟩
            rw [hr] at hir
            cases hir
      · have hjl := (mem_ready.1 hj).1
        obtain ⟨o, ho, _⟩ := (mem_ready.1 hj).2
        have hjn := (Array.getElem?_eq_some_iff.1 ho).1
        exact one listed a w j hD hj _ fun a' w' hD' => ih _ a' w' (by have := left_set hjn hD.size hjl; omega) hD'
  have hf : ∀ i, (Array.replicate ops.size false).getD i false = false := fun i => by
    rw [Array.getD_eq_getD_getElem?, Array.getElem?_replicate]
    split <;> rfl
  refine wp_region_any hm (walk ops.size _ a0 _ ?_ ?_)
  · unfold left
    exact Nat.le_trans (List.length_filter_le _ _) (by simp)
  · obtain ⟨R, l1, l2, l3, l4⟩ := loudAt 0 (by omega)
    have hs0 : HRel base ι0 (st 0).h w0 := by rw [hst0]; exact hs.heap
    have hcalm := Calm.drawn w0 (w0.drawn + 1)
    have hQ0 : QInv base (fun i => (st i).h) 0 R (fun _ => False) ι0 { w0 with drawn := w0.drawn + 1 } ι0 { w0 with drawn := w0.drawn + 1 } :=
      QInv.start (hs0.calm hcalm) (fun i h1 h2 => quietOf i (by omega) (l3 i h1 h2)) l1 fun i h1 h2 => stepWF i (by omega)
    refine ⟨by simp, fun j o e ho hl => (by rw [hf] at hl; cases hl), by rw [hst0]; exact hs.size, rfl, Nat.le_refl _, 0, R, ι0, _, ι0, l1, l2, fun i h => by omega, fun i _ _ => hf i, l3, l4,
      hQ0.congr fun q _ _ => ⟨fun h => h.elim, fun h => by rw [hf] at h; cases h.2⟩, hs0.calm hcalm, More.refl hs0, Keep0.calm (KeepsBy.zero (Keeps.refl ι0 _ w0)) hcalm, ⟨fun t i hi => (by
        have := hi.1; rw [hf] at this; cases this), fun t _ => ?_⟩⟩
    have h1 := hs.tmps t
    rw [← hst0] at h1
    exact h1.mono fun b e hb => cut_mk (hs0.lt b e hb) hb

end Go.Proofs.Ytjmklialkjncaaa.Eng

set_option linter.unusedVariables false
set_option linter.unusedSimpArgs false
namespace Go.Proofs.Ytjmklialkjncaaa.Eng

variable {P : Program}

/-! ### 1. The checks of a text, made once -/
def isStoreOp : Op → Bool
  | .store .. => true
  | _ => false

def isLoadOp : Op → Bool
  | .load .. => true
  | _ => false

/-- `j` need not wait for `i`. -/
def free (ops : Array Oper) (i j : Nat) : Bool := !(((tab ops.toList []).getD j 0).testBit i)

/-- Loads that a later store may come ahead of. -/
def lazyOf (ops : Array Oper) (i : Nat) : Bool := match ops[i]? with
  | none => false
  | some a => isLoadOp a.op && (List.range ops.size).any fun j => Nat.blt i j && match ops[j]? with
    | none => false
    | some b => isStoreOp b.op && free ops i j

/-- What is not of a fixed order with others that are of the memory. -/
def needs (ops : Array Oper) (i : Nat) : Bool := match ops[i]? with
  | none => false
  | some a => !isPureOp a.op && (List.range ops.size).any fun j => !(Nat.beq j i) && match ops[j]? with
    | none => false
    | some b => !isPureOp b.op && free ops i j && free ops j i && !(lazyOf ops (min i j))

/-- What is flagged in a region, and the objects that are read late. -/
structure Mk where
  q : Nat → Bool
  lz : Nat → Bool
  Z : List Nat

def flagsOk (ops : Array Oper) (q lz : Nat → Bool) : Bool := (List.range ops.size).all fun i => match ops[i]? with
  | some o => (!(q i) || !isStoreOp o.op) && (!(lz i) || isLoadOp o.op)
  | none => true

def codeOk (m : Nat) : Code → Bool
  | .region _ ops false => regOk ops m
  | .region _ ops true => regOk ops m && drawOk ops (needs ops) (lazyOf ops) && flagsOk ops (needs ops) (lazyOf ops)
  | .seq a b => codeOk m a && codeOk m b
  | .cond c a b => okOperand c && codeOk m a && codeOk m b
  | .block _ c => codeOk m c
  | .loop c => codeOk m c
  | .scope c => codeOk m c
  | .skip | .ret | .exit _ | .label _ => true
  | _ => false

def drv (ops : Array Oper) (mq lz : Nat → Bool) : Prop := drawOk ops mq lz = true

theorem call_sound (hm : P.follows .mixedOrders = true) {f : FuncId} {args : Array Value} {h h' : AHeap} {v : Value} (hb : Big P drv (.call f args h v h')) : CallSem P f args h v h' :=
  sound (fun _ _ _ h => draw_ok hm h) hb

/-! ### 2. What is known of a state -/
structure Ent where
  sz : Nat
  ro : Bool
  c : List Value

abbrev Tmps := List (Nat × Value)
abbrev Objs := List (Nat × Ent)

def getT : Tmps → Nat → Option Value
  | [], _ => none
  | (d, v) :: L, i => bif Nat.beq d i then some v else getT L i

def Has (t : Nat → Value) (L : Tmps) : Prop := ∀ d v, getT L d = some v → t d = v

def Is (h : AHeap) (b : Nat) (x : Ent) : Prop := ∃ f k, h.o b = .cells x.sz x.ro f none k x.c

structure Sat (h : AHeap) (O : Objs) : Prop where
  nd : (O.map (·.1)).Nodup
  is : ∀ p ∈ O, Is h p.1 p.2
  wf : WF h

structure Cx where
  m : Nat
  q : Bool
  h0 : AHeap

structure St (x : Cx) (L : Tmps) (O : Objs) (s : ASt) : Prop where
  m : s.m = x.m
  t : Has s.t L
  sat : Sat s.h O
  old : x.q = true → Old x.h0 s.h

theorem Has.nil {t : Nat → Value} : Has t [] := fun _ _ h => by cases h
theorem Has.cons {t : Nat → Value} {L : Tmps} {d : Nat} {v : Value} (h1 : t d = v) (h : Has t L) : Has t ((d, v) :: L) := by
  intro e u he
  unfold getT at he
  cases hb : Nat.beq d e with
  | true =>
    rw [hb] at he
    have := Nat.eq_of_beq_eq_true hb
    subst this
    exact h1.trans (Option.some.inj he)
  | false => rw [hb] at he; exact h e u he

theorem Has.put {s : ASt} {L : Tmps} (h : Has s.t L) (d : Nat) (v : Value) (g : AHeap) : Has (s.put (some d) v g).t ((d, v) :: L) := by
  intro e u he
  unfold getT at he
  show (if e = d then v else s.t e) = u
  cases hb : Nat.beq d e with
  | true =>
    rw [hb] at he
    rw [if_pos (Nat.eq_of_beq_eq_true hb).symm]
    exact Option.some.inj he
  | false =>
    rw [hb] at he
    rw [if_neg fun e' => by subst e'; simp at hb]
    exact h e u he

def evL (L : Tmps) : Operand → Option Value
  | .tmp t => getT L t
  | .const v => some v
  | .func f => some (.func (.func f) #[] #[])
  | .global _ => none

theorem Has.ev {s : ASt} {L : Tmps} (h : Has s.t L) {y : Operand} {v : Value} (hy : evL L y = some v) : s.ev y = v := by
  cases y with
  | tmp t => exact h t v hy
  | const c => exact Option.some.inj hy
  | func f => exact Option.some.inj hy
  | global g => cases hy

/-! ### 3. Objects -/
theorem Sat.lt {h : AHeap} {O : Objs} (hs : Sat h O) {p : Nat × Ent} (hp : p ∈ O) : p.1 < h.n := by
  obtain ⟨f, k, e⟩ := hs.is p hp
  exact hs.wf.lt e

theorem Sat.at {h : AHeap} {O : Objs} (hs : Sat h O) {j b : Nat} {x : Ent} (hj : O[j]? = some (b, x)) : Is h b x := hs.is (b, x) (List.mem_of_getElem? hj)

theorem Sat.mem {h : AHeap} {O : Objs} (hs : Sat h O) {b : Nat} {x : Ent} (hj : (b, x) ∈ O) : Is h b x := hs.is (b, x) hj

theorem Is.rd {h : AHeap} {b : Nat} {x : Ent} (hi : Is h b x) : h.rd b = some x.c := by
  obtain ⟨f, k, e⟩ := hi
  unfold AHeap.rd
  rw [e]

theorem inj_of_nodup {O : Objs} (hn : (O.map (·.1)).Nodup) {i j : Nat} {p q : Nat × Ent} (hi : O[i]? = some p) (hj : O[j]? = some q) (he : p.1 = q.1) : i = j := by
  have h1 := List.pairwise_iff_getElem.1 hn
  obtain ⟨li, ei⟩ := List.getElem?_eq_some_iff.1 hi
  obtain ⟨lj, ej⟩ := List.getElem?_eq_some_iff.1 hj
  rcases Nat.lt_trichotomy i j with q1 | q1 | q1
  · have := h1 i j (by simpa using li) (by simpa using lj) q1
    simp [ei, ej, he] at this
  · exact q1
  · have := h1 j i (by simpa using lj) (by simpa using li) q1
    simp [ei, ej, he] at this

/-- Objects by their places. -/
def pick (O : Objs) : List Nat → Objs
  | [] => []
  | i :: is => match O[i]? with
    | some p => p :: pick O is
    | none => pick O is

theorem mem_pick {O : Objs} {p : Nat × Ent} : ∀ {is : List Nat}, p ∈ pick O is → ∃ i ∈ is, O[i]? = some p
  | i :: is, h => by
    unfold pick at h
    split at h
    · rename_i q hq
      rcases List.mem_cons.1 h with h | h
      · exact ⟨i, by simp, by rw [h]; exact hq⟩
      · obtain ⟨j, h1, h2⟩ := mem_pick h
        exact ⟨j, by simp [h1], h2⟩
    · obtain ⟨j, h1, h2⟩ := mem_pick h
      exact ⟨j, by simp [h1], h2⟩

/-- What is known of the objects of some places, in another order, and of the rest behind the first ones. -/
theorem Sat.pick {h : AHeap} {O : Objs} (hs : Sat h O) (is : List Nat) (n : Nat) (hnd : is.Nodup) (hlt : ∀ i ∈ is, i < n) : Sat h (pick O is ++ O.drop n) := by
  have hmem : ∀ {p : Nat × Ent}, p ∈ Eng.pick O is ++ O.drop n → p ∈ O := by
    intro p hp
    rcases List.mem_append.1 hp with hp | hp
    · obtain ⟨i, _, h2⟩ := mem_pick hp
      exact List.mem_of_getElem? h2
    · exact List.mem_of_mem_drop hp
  refine ⟨?_, fun p hp => hs.is p (hmem hp), hs.wf⟩
  rw [List.map_append, List.nodup_append]
  refine ⟨?_, ?_, ?_⟩
  · clear hlt hmem
    induction is with
    | nil => simp [Eng.pick]
    | cons i is ih =>
      obtain ⟨h1, h2⟩ := List.nodup_cons.1 hnd
      unfold Eng.pick
      split
      · rename_i q hq
        rw [List.map_cons, List.nodup_cons]
        refine ⟨fun hm => ?_, ih h2⟩
        obtain ⟨p, hp, he⟩ := List.mem_map.1 hm
        obtain ⟨j, hj, hj2⟩ := mem_pick hp
        have := inj_of_nodup hs.nd hq hj2 he.symm
        subst this
        exact h1 hj
      · exact ih h2
  · rw [List.map_drop]
    exact List.Sublist.nodup (List.drop_sublist _ _) hs.nd
  · intro a ha b hb he
    subst he
    obtain ⟨p, hp, e1⟩ := List.mem_map.1 ha
    obtain ⟨q, hq, e2⟩ := List.mem_map.1 hb
    obtain ⟨i, hi, hi2⟩ := mem_pick hp
    obtain ⟨k, hk⟩ := List.getElem?_of_mem hq
    rw [List.getElem?_drop] at hk
    have := inj_of_nodup hs.nd hi2 hk (by rw [e1, e2])
    have := hlt i hi
    omega

theorem Sat.perm {h : AHeap} {O O' : Objs} (hs : Sat h O) (hp : O.Perm O') : Sat h O' :=
  ⟨(hp.map (·.1)).nodup_iff.1 hs.nd, fun p h => hs.is p (hp.mem_iff.2 h), hs.wf⟩

theorem Sat.nil {h : AHeap} (hw : WF h) : Sat h [] := ⟨by simp, fun p hp => by simp at hp, hw⟩

theorem Is.same {h h' : AHeap} {b : Nat} {x : Ent} (hi : Is h b x) (he : h'.o b = h.o b) : Is h' b x := by
  obtain ⟨f, k, e⟩ := hi
  exact ⟨f, k, by rw [he]; exact e⟩

/-- A new object. -/
theorem Sat.new {h : AHeap} {O : Objs} (hs : Sat h O) (sz : Nat) (c : List Value) : Sat (h.new (.cells sz false h.n none 0 c)) ((h.n, ⟨sz, false, c⟩) :: O) := by
  refine ⟨?_, ?_, hs.wf.new sz false c⟩
  · rw [List.map_cons, List.nodup_cons]
    refine ⟨fun hm => ?_, hs.nd⟩
    obtain ⟨p, hp, he⟩ := List.mem_map.1 hm
    have := hs.lt hp
    omega
  · intro p hp
    rcases List.mem_cons.1 hp with rfl | hp
    · exact ⟨h.n, 0, by simp [AHeap.new]⟩
    · refine (hs.is p hp).same ?_
      have := hs.lt hp
      simp only [AHeap.new]
      rw [if_neg (by omega)]

theorem AHeap.old_new (h : AHeap) (x : AObj) : Old h (h.new x) := ⟨Nat.le_succ _, fun b hb => by simp only [AHeap.new]; rw [if_neg (by omega)]⟩

theorem Old.refl (h : AHeap) : Old h h := ⟨Nat.le_refl _, fun _ _ => rfl⟩
theorem Old.trans {a b c : AHeap} (h1 : Old a b) (h2 : Old b c) : Old a c := ⟨Nat.le_trans h1.1 h2.1, fun x hx => (h2.2 x (Nat.lt_of_lt_of_le hx h1.1)).trans (h1.2 x hx)⟩
theorem Old.quiet {a b : AHeap} (h : Old a b) : Quiet a b := ⟨h.1, fun x hx => .inl (h.2 x hx)⟩

/-- An object is written. -/
theorem Sat.set {h : AHeap} {O : Objs} (hs : Sat h O) {j b sz : Nat} {c c' : List Value} (hj : O[j]? = some (b, ⟨sz, false, c⟩)) {f k : Nat} (hb : h.o b = .cells sz false f none k c) :
    Sat (h.set b (.cells sz false f none (k + 1) c')) (O.set j (b, ⟨sz, false, c'⟩)) := by
  obtain ⟨lj, ej⟩ := List.getElem?_eq_some_iff.1 hj
  refine ⟨?_, ?_, hs.wf.set hb (k + 1) c'⟩
  · have : (O.set j (b, ⟨sz, false, c'⟩)).map (·.1) = O.map (·.1) := by
      rw [List.map_set]
      apply List.ext_getElem?
      intro i
      rw [List.getElem?_set]
      split
      · rename_i e
        subst e
        rw [List.getElem?_map, hj]
        simp [lj]
      · rfl
    rw [this]
    exact hs.nd
  · intro p hp
    obtain ⟨i, hi⟩ := List.getElem?_of_mem hp
    rw [List.getElem?_set] at hi
    split at hi
    · rename_i e
      subst e
      obtain rfl := Option.some.inj hi
      exact ⟨f, k + 1, by simp [AHeap.set]⟩
    · rename_i e
      refine (hs.is p (List.mem_of_getElem? hi)).same ?_
      simp only [AHeap.set]
      rw [if_neg]
      intro e2
      exact e (inj_of_nodup hs.nd hj hi e2.symm)

/-- An object is appended to: the new one stands in its place. -/
theorem Sat.app {h : AHeap} {O : Objs} (hs : Sat h O) {j b sz : Nat} {c : List Value} (hj : O[j]? = some (b, ⟨sz, false, c⟩)) {f k : Nat} (hb : h.o b = .cells sz false f none k c) (cn : List Value) :
    Sat ((h.set b (.cells sz false f (some h.n) k c)).new (.cells sz false f none 0 cn)) (O.set j (h.n, ⟨sz, false, cn⟩)) := by
  obtain ⟨lj, ej⟩ := List.getElem?_eq_some_iff.1 hj
  have hlt : ∀ {p : Nat × Ent}, p ∈ O → p.1 < h.n := fun hp => hs.lt hp
  refine ⟨?_, ?_, hs.wf.app hb cn⟩
  · rw [List.map_set]
    refine List.pairwise_iff_getElem.2 fun i i2 hi hi2 hlt2 => ?_
    have h1 := List.pairwise_iff_getElem.1 hs.nd
    rw [List.length_set, List.length_map] at hi hi2
    rw [List.getElem_set, List.getElem_set]
    have a1 : (O.map (·.1))[i]'(by simpa using hi) < h.n := by simp only [List.getElem_map]; exact hlt (List.getElem_mem hi)
    have a2 : (O.map (·.1))[i2]'(by simpa using hi2) < h.n := by simp only [List.getElem_map]; exact hlt (List.getElem_mem hi2)
    split
    · split
      · omega
      · show h.n ≠ _; omega
    · split
      · show _ ≠ h.n; omega
      · exact h1 i i2 (by simpa using hi) (by simpa using hi2) hlt2
  · intro p hp
    obtain ⟨i, hi⟩ := List.getElem?_of_mem hp
    rw [List.getElem?_set] at hi
    split at hi
    · rename_i e
      subst e
      obtain rfl := Option.some.inj hi
      exact ⟨f, 0, by simp [AHeap.new, AHeap.set]⟩
    · rename_i e
      have hm := List.mem_of_getElem? hi
      refine (hs.is p hm).same ?_
      have := hlt hm
      show (if p.1 = h.n then _ else if p.1 = b then _ else h.o p.1) = h.o p.1
      rw [if_neg (by omega), if_neg]
      intro e2
      exact e (inj_of_nodup hs.nd hj hi e2.symm)

end Go.Proofs.Ytjmklialkjncaaa.Eng

set_option linter.unusedVariables false
set_option linter.unusedSimpArgs false
namespace Go.Proofs.Ytjmklialkjncaaa.Eng

variable {P : Program} {x : Cx} {L L' : Tmps} {O O' : Objs}

def W (P : Program) (c : Code) (s : ASt) (Q : Exit → ASt → Prop) : Prop := codeOk s.m c = true → ∃ e s', Big P drv (.code c s e s') ∧ s'.m = s.m ∧ Q e s'

/-- The rest of a run from every state of which this is known. -/
def WX (P : Program) (x : Cx) (c : Code) (L : Tmps) (O : Objs) (Q : Exit → ASt → Prop) : Prop := ∀ s, St x L O s → W P c s Q

def Fin (x : Cx) (L : Tmps) (O : Objs) (e : Exit) (Q : Exit → ASt → Prop) : Prop := ∀ s, St x L O s → Q e s

def thenW (P : Program) (b : Code) (Q : Exit → ASt → Prop) : Exit → ASt → Prop
  | .normal, s => W P b s Q
  | .ret, s => Q .ret s
  | .exit i, s => Q (.exit i) s
  | e, s => Q e s

def blockW (id : Nat) (Q : Exit → ASt → Prop) : Exit → ASt → Prop
  | .exit i, s => bif Nat.beq i id then Q .normal s else Q (.exit i) s
  | .normal, s => Q .normal s
  | .ret, s => Q .ret s
  | e, s => Q e s

def loopW {α : Type} (x : Cx) (LI : α → Tmps) (OI : α → Objs) (Iv : α → Prop) (μ : α → Nat) (a : α) (Q : Exit → ASt → Prop) : Exit → ASt → Prop
  | .normal, s => ∃ a', Iv a' ∧ μ a' < μ a ∧ St x (LI a') (OI a') s
  | .ret, s => Q .ret s
  | .exit i, s => Q (.exit i) s
  | e, s => Q e s

/-! ### 1. Ends -/
theorem Fin.then_normal {b : Code} {Q : Exit → ASt → Prop} (h : WX P x b L O Q) : Fin x L O .normal (thenW P b Q) := h
theorem Fin.then_ret {b : Code} {Q : Exit → ASt → Prop} (h : Fin x L O .ret Q) : Fin x L O .ret (thenW P b Q) := h
theorem Fin.then_exit {b : Code} {Q : Exit → ASt → Prop} {i : Nat} (h : Fin x L O (.exit i) Q) : Fin x L O (.exit i) (thenW P b Q) := h
theorem Fin.block_hit {Q : Exit → ASt → Prop} {i id : Nat} (hb : Nat.beq i id = true) (h : Fin x L O .normal Q) : Fin x L O (.exit i) (blockW id Q) := by
  intro s hs
  show (bif Nat.beq i id then _ else _)
  rw [hb]
  exact h s hs
theorem Fin.block_miss {Q : Exit → ASt → Prop} {i id : Nat} (hb : Nat.beq i id = false) (h : Fin x L O (.exit i) Q) : Fin x L O (.exit i) (blockW id Q) := by
  intro s hs
  show (bif Nat.beq i id then _ else _)
  rw [hb]
  exact h s hs
theorem Fin.block_normal {Q : Exit → ASt → Prop} {id : Nat} (h : Fin x L O .normal Q) : Fin x L O .normal (blockW id Q) := h
theorem Fin.block_ret {Q : Exit → ASt → Prop} {id : Nat} (h : Fin x L O .ret Q) : Fin x L O .ret (blockW id Q) := h
theorem Fin.loop_ret {α : Type} {LI : α → Tmps} {OI : α → Objs} {Iv : α → Prop} {μ : α → Nat} {a : α} {Q : Exit → ASt → Prop} (h : Fin x L O .ret Q) : Fin x L O .ret (loopW x LI OI Iv μ a Q) := h
theorem Fin.loop_exit {α : Type} {LI : α → Tmps} {OI : α → Objs} {Iv : α → Prop} {μ : α → Nat} {a : α} {Q : Exit → ASt → Prop} {i : Nat} (h : Fin x L O (.exit i) Q) : Fin x L O (.exit i) (loopW x LI OI Iv μ a Q) := h
theorem Fin.loop_next {α : Type} {LI : α → Tmps} {OI : α → Objs} {Iv : α → Prop} {μ : α → Nat} {a : α} {Q : Exit → ASt → Prop} (a' : α) (hi : Iv a') (hm : μ a' < μ a)
    (h : ∀ s, St x L O s → St x (LI a') (OI a') s) : Fin x L O .normal (loopW x LI OI Iv μ a Q) := fun s hs => ⟨a', hi, hm, h s hs⟩

/-! ### 2. Codes -/
theorem WX.skip {Q : Exit → ASt → Prop} (h : Fin x L O .normal Q) : WX P x .skip L O Q := fun s hs _ => ⟨_, _, .skip, rfl, h s hs⟩
theorem WX.label {l : Nat} {Q : Exit → ASt → Prop} (h : Fin x L O .normal Q) : WX P x (.label l) L O Q := fun s hs _ => ⟨_, _, .label, rfl, h s hs⟩
theorem WX.exit {i : Nat} {Q : Exit → ASt → Prop} (h : Fin x L O (.exit i) Q) : WX P x (.exit i) L O Q := fun s hs _ => ⟨_, _, .exit, rfl, h s hs⟩
theorem WX.ret {Q : Exit → ASt → Prop} (h : Fin x L O .ret Q) : WX P x .ret L O Q := fun s hs _ => ⟨_, _, .ret, rfl, h s hs⟩

theorem WX.seq {a b : Code} {Q : Exit → ASt → Prop} (h : WX P x a L O (thenW P b Q)) : WX P x (.seq a b) L O Q := by
  intro s hs hk
  simp only [codeOk, Bool.and_eq_true] at hk
  obtain ⟨e, s', h1, h2, h3⟩ := h s hs hk.1
  by_cases he : e = .normal
  · subst he
    obtain ⟨e2, s2, g1, g2, g3⟩ := (show W P b s' Q from h3) (by rw [h2]; exact hk.2)
    exact ⟨e2, s2, .seq_n h1 g1, g2.trans h2, g3⟩
  · refine ⟨e, s', .seq_x h1 he, h2, ?_⟩
    cases e <;> first | exact h3 | exact absurd rfl he

theorem WX.cond {c : Operand} {a b : Code} {Q : Exit → ASt → Prop} {t : Bool} (hc : evL L c = some (.bool t)) (h1 : t = true → WX P x a L O Q) (h2 : t = false → WX P x b L O Q) : WX P x (.cond c a b) L O Q := by
  intro s hs hk
  simp only [codeOk, Bool.and_eq_true] at hk
  cases t with
  | true =>
    obtain ⟨e, s', g1, g2, g3⟩ := h1 rfl s hs hk.1.2
    exact ⟨e, s', .cond_t (hs.t.ev hc) hk.1.1 g1, g2, g3⟩
  | false =>
    obtain ⟨e, s', g1, g2, g3⟩ := h2 rfl s hs hk.2
    exact ⟨e, s', .cond_f (hs.t.ev hc) hk.1.1 g1, g2, g3⟩

theorem WX.block {id : Nat} {c : Code} {Q : Exit → ASt → Prop} (h : WX P x c L O (blockW id Q)) : WX P x (.block id c) L O Q := by
  intro s hs hk
  obtain ⟨e, s', h1, h2, h3⟩ := h s hs hk
  by_cases he : e = .exit id
  · subst he
    refine ⟨.normal, s', .block_x h1, h2, ?_⟩
    have h4 : (bif Nat.beq id id then Q .normal s' else Q (.exit id) s') := h3
    rw [Nat.beq_refl] at h4
    exact h4
  · refine ⟨e, s', .block_n h1 he, h2, ?_⟩
    cases e with
    | exit i =>
      have h4 : (bif Nat.beq i id then Q .normal s' else Q (.exit i) s') := h3
      cases hb : Nat.beq i id with
      | true => exact absurd (by rw [Nat.eq_of_beq_eq_true hb]) he
      | false => rw [hb] at h4; exact h4
    | _ => exact h3

theorem WX.scope {c : Code} {Q : Exit → ASt → Prop} (h : WX P x c L O Q) : WX P x (.scope c) L O Q := by
  intro s hs hk
  obtain ⟨e, s', h1, h2, h3⟩ := h s hs hk
  exact ⟨e, s', .scope h1, h2, h3⟩

/-- A loop: what holds at each of its rounds, and a measure. -/
theorem WX.loop {α : Type} (LI : α → Tmps) (OI : α → Objs) (Iv : α → Prop) (μ : α → Nat) (a : α) {c : Code} {Q : Exit → ASt → Prop} (hi : Iv a) (hs0 : ∀ s, St x L O s → St x (LI a) (OI a) s)
    (h : ∀ a, Iv a → WX P x c (LI a) (OI a) (loopW x LI OI Iv μ a Q)) : WX P x (.loop c) L O Q := by
  have key : ∀ n a, μ a < n → Iv a → ∀ s, St x (LI a) (OI a) s → W P (.loop c) s Q := by
    intro n
    induction n with
    | zero => intro a ha; omega
    | succ n ih =>
      intro a ha hi s hs hk
      obtain ⟨e, s', h1, h2, h3⟩ := h a hi s hs hk
      by_cases he : e = .normal
      · subst he
        obtain ⟨a', i1, i2, i3⟩ := h3
        obtain ⟨e2, s2, g1, g2, g3⟩ := ih a' (by omega) i1 s' i3 (by rw [h2]; exact hk)
        exact ⟨e2, s2, .loop_n h1 g1, g2.trans h2, g3⟩
      · refine ⟨e, s', .loop_x h1 he, h2, ?_⟩
        cases e <;> first | exact h3 | exact absurd rfl he
  exact fun s hs => key (μ a + 1) a (Nat.lt_succ_self _) hi s (hs0 s hs)

/-- What is known is told anew. -/
theorem WX.of {c : Code} {Q : Exit → ASt → Prop} (h0 : ∀ s, St x L O s → St x L' O' s) (h : WX P x c L' O' Q) : WX P x c L O Q := fun s hs => h s (h0 s hs)
theorem Fin.of {e : Exit} {Q : Exit → ASt → Prop} (h0 : ∀ s, St x L O s → St x L' O' s) (h : Fin x L' O' e Q) : Fin x L O e Q := fun s hs => h s (h0 s hs)

/-! ### 3. Regions -/
def WXL (P : Program) (x : Cx) (ops : Array Oper) (mq : Mk) (i : Nat) (l : List Oper) (L : Tmps) (O : Objs) (K : ASt → Prop) : Prop :=
  ops.toList.drop i = l → flagsOk ops mq.q mq.lz = true → ∀ s, St x L O s → (∀ z ∈ mq.Z, z < s.h.n) → ∃ s', Big P drv (.ops ops mq.q mq.lz mq.Z (List.range' i l.length) s s') ∧ s'.m = s.m ∧ K s'

def noMk : Mk := ⟨fun _ => false, fun _ => false, []⟩
def mkOf (ops : Array Oper) : Mk := ⟨needs ops, lazyOf ops, []⟩

theorem flagsFalse (ops : Array Oper) : flagsOk ops (fun _ => false) (fun _ => false) = true := by
  unfold flagsOk
  rw [List.all_eq_true]
  intro i _
  cases ops[i]? <;> rfl

theorem flags_at {ops : Array Oper} {q lz : Nat → Bool} (h : flagsOk ops q lz = true) {i : Nat} {o : Oper} (ho : ops[i]? = some o) : (q i = true → isStoreOp o.op = false) ∧ (lz i = true → isLoadOp o.op = true) := by
  unfold flagsOk at h
  have := List.all_eq_true.1 h i (List.mem_range.2 (Array.getElem?_eq_some_iff.1 ho).1)
  rw [ho] at this
  simp only [Bool.and_eq_true, Bool.or_eq_true, Bool.not_eq_true'] at this
  exact ⟨fun hq => by rcases this.1 with h1 | h1; · rw [hq] at h1; cases h1
                      · exact h1, fun hq => by rcases this.2 with h1 | h1; · rw [hq] at h1; cases h1
                                               · exact h1⟩

theorem WX.region {id : Nat} {ops : Array Oper} {l : List Oper} {Q : Exit → ASt → Prop} (hl : ops.toList = l) (h : WXL P x ops noMk 0 l L O (Q .normal)) : WX P x (.region id ops false) L O Q := by
  intro s hs hk
  obtain ⟨s', h1, h2, h3⟩ := h (by simpa using hl) (flagsFalse ops) s hs (fun z hz => by simp [noMk] at hz)
  refine ⟨_, s', .region hk ?_, h2, h3⟩
  rw [List.range_eq_range', show ops.size = l.length from by rw [← hl]; simp]
  exact h1

theorem WX.draw {id : Nat} {ops : Array Oper} {l : List Oper} {Q : Exit → ASt → Prop} (hl : ops.toList = l) (h : WXL P x ops (mkOf ops) 0 l L O (Q .normal)) : WX P x (.region id ops true) L O Q := by
  intro s hs hk
  simp only [codeOk, Bool.and_eq_true] at hk
  obtain ⟨s', h1, h2, h3⟩ := h (by simpa using hl) hk.2 s hs (fun z hz => by simp [mkOf] at hz)
  refine ⟨_, s', .draw hk.1.1 hk.1.2 ?_, h2, h3⟩
  rw [List.range_eq_range', show ops.size = l.length from by rw [← hl]; simp]
  exact h1

theorem WXL.nil {ops : Array Oper} {mq : Mk} {i : Nat} {e : Exit} {Q : Exit → ASt → Prop} (h : Fin x L O e Q) : WXL P x ops mq i [] L O (Q e) :=
  fun _ _ s hs _ => ⟨s, .nil, rfl, h s hs⟩

theorem drop_head {ops : Array Oper} {i : Nat} {o : Oper} {l : List Oper} (h : ops.toList.drop i = o :: l) : ops[i]? = some o ∧ ops.toList.drop (i + 1) = l := by
  have hlt : i < ops.toList.length := by
    rcases Nat.lt_or_ge i ops.toList.length with q | q
    · exact q
    · rw [List.drop_eq_nil_of_le q] at h; cases h
  rw [List.drop_eq_getElem_cons hlt] at h
  injection h with h1 h2
  refine ⟨?_, h2⟩
  rw [← Array.getElem?_toList, List.getElem?_eq_getElem hlt, h1]

/-- A guarded operation that is not carried out. -/
theorem WXL.miss {ops : Array Oper} {mq : Mk} {i j d : Nat} {b want : Bool} {dst : Tmp} {op : Op} {t : TypeId} {p : String} {af : Array Edge} {l : List Oper} {K : ASt → Prop} (hj : (ops[j]?).bind (·.dst) = some d) (hd : getT L d = some (.bool b))
    (hb : (b == want) = false) (h : WXL P x ops mq (i + 1) l ((dst, undef) :: L) O K) : WXL P x ops mq i ({ dst := some dst, op := op, type := t, pos := p, after := af, guard := some (j, want) } :: l) L O K := by
  intro hdr hq s hs hz
  obtain ⟨ho, hd'⟩ := drop_head hdr
  obtain ⟨s', g1, g2, g3⟩ := h hd' hq (s.put (some dst) undef s.h) ⟨hs.m, hs.t.put _ _ _, hs.sat, hs.old⟩ hz
  refine ⟨s', .opskip ho ?_ g1, by rw [g2, put_m], g3⟩
  unfold wantedA Region.wanted
  simp only [hj, hs.t d _ hd]
  simpa using hb

theorem wanted_none {ops : Array Oper} {o : Oper} {s : ASt} (h : o.guard = none) : wantedA ops o s = true := by
  unfold wantedA Region.wanted
  rw [h]

theorem wanted_some {ops : Array Oper} {o : Oper} {s : ASt} {j d : Nat} {b want : Bool} (h : o.guard = some (j, want)) (hj : (ops[j]?).bind (·.dst) = some d) (hd : s.t d = .bool b) (hb : (b == want) = true) : wantedA ops o s = true := by
  unfold wantedA Region.wanted
  rw [h]
  simp only [hj, hd]
  simpa using hb

/-- The operation is carried out: it bears no guard, or one that is met. -/
def Met (x : Cx) (L : Tmps) (ops : Array Oper) (gd : Option (Nat × Bool)) : Prop := ∀ s : ASt, Has s.t L → ∀ o : Oper, o.guard = gd → wantedA ops o s = true

theorem Met.none {ops : Array Oper} : Met x L ops none := fun s _ o h => wanted_none h
theorem Met.some {ops : Array Oper} {j e : Nat} {b want : Bool} (hj : (ops[j]?).bind (·.dst) = some e) (he : getT L e = some (.bool b)) (hb : (b == want) = true) : Met x L ops (some (j, want)) := fun s hs o h => wanted_some h hj (hs e _ he) hb

/-! ### 4. Calls -/
/-- A function's contract: from objects of which this is known it comes to a value and objects of which that is known. -/
def Spec (P : Program) (q : Bool) (f : FuncId) (args : Array Value) (O : Objs) (Post : Value → Objs → Prop) : Prop :=
  ∀ h, Sat h O → ∃ v h' O', Big P drv (.call f args h v h') ∧ Post v O' ∧ Sat h' O' ∧ (q = true → Old h h')

theorem Spec.weak {q : Bool} {f : FuncId} {args : Array Value} {Post : Value → Objs → Prop} (h : Spec P true f args O Post) : Spec P q f args O Post := fun g hg => by
  obtain ⟨v, h', O', a, b, c, d⟩ := h g hg
  exact ⟨v, h', O', a, b, c, fun _ => d rfl⟩

theorem Spec.mono {q : Bool} {f : FuncId} {args : Array Value} {Post Post' : Value → Objs → Prop} (h : Spec P q f args O Post) (hp : ∀ v O', Post v O' → Post' v O') : Spec P q f args O Post' := fun g hg => by
  obtain ⟨v, h', O', a, b, c, d⟩ := h g hg
  exact ⟨v, h', O', a, hp v O' b, c, d⟩

def putL : Option Tmp → Value → Tmps → Tmps
  | some d, v, L => (d, v) :: L
  | none, _, L => L

def fnOk (P : Program) (f : FuncId) : Bool := match P.funcs[f]? with
  | some fn => fn.body.isSome && fn.name != "runtime.NumGoroutine"
  | none => false

def evArgs (L : Tmps) : List Operand → Option (List Value)
  | [] => some []
  | y :: ys => match evL L y, evArgs L ys with
    | some v, some vs => some (v :: vs)
    | _, _ => none

theorem fnOk_of {f : FuncId} {fn : Func} (hf : P.funcs[f]? = some fn) (h : (fn.body.isSome && fn.name != "runtime.NumGoroutine") = true) : fnOk P f = true := by
  unfold fnOk
  rw [hf]
  exact h

/-- A call, whose objects stand after a rearrangement; flagged ones leave all aas it was. -/
theorem WXL.call {ops : Array Oper} {mq : Mk} {i : Nat} {g : Operand} {aas : Array Operand} {ts : Array TypeId} {dst : Option Tmp} {t : TypeId} {p : String} {af : Array Edge} {gd : Option (Nat × Bool)} {l : List Oper} {K : ASt → Prop}
    {f : FuncId} {first cap : Array Value} {vs : List Value} {q : Bool} {O1 : Objs} {Post : Value → Objs → Prop}
    (hw : Met x L ops gd)
    (hf : evL L g = some (.func (.func f) first cap)) (hok : fnOk P f = true) (ha : evArgs L aas.toList = some vs) (hO : ∀ h, Sat h O → Sat h O1)
    (hq : q = true ∨ (mq.q i = false ∧ x.q = false ∧ mq.Z = [])) (hspec : Spec P q f (first.toList ++ vs ++ cap.toList).toArray O1 Post)
    (h : ∀ v O', Post v O' → WXL P x ops mq (i + 1) l (putL dst v L) O' K) :
    WXL P x ops mq i ({ dst := dst, op := .call { callee := .value g, args := aas, argTypes := ts }, type := t, pos := p, after := af, guard := gd } :: l) L O K := by
  intro hdr hqk s hs hz
  obtain ⟨ho, hd'⟩ := drop_head hdr
  obtain ⟨v, h', O', b1, b2, b3, b4⟩ := hspec s.h (hO _ hs.sat)
  have hargs : aas.map s.ev = vs.toArray := by
    have key : ∀ (l : List Operand) (vs : List Value), evArgs L l = some vs → l.map s.ev = vs := by
      intro l
      induction l with
      | nil => intro vs h; simp [evArgs] at h; subst h; rfl
      | cons y l ih =>
        intro vs h
        unfold evArgs at h
        split at h
        · rename_i v us h1 h2
          obtain rfl := Option.some.inj h
          rw [List.map_cons, ih us h2, hs.t.ev h1]
        · cases h
    apply Array.toList_inj.1
    rw [Array.toList_map, key _ _ ha]
  have hcal : acallee P { dst := dst, op := .call { callee := .value g, args := aas, argTypes := ts }, type := t, pos := p, after := af, guard := gd } s = some (f, (first.toList ++ vs ++ cap.toList).toArray) := by
    have harr : first ++ vs.toArray ++ cap = (first.toList ++ vs ++ cap.toList).toArray := by apply Array.toList_inj.1; simp
    unfold acallee
    simp only [hs.t.ev hf, hargs, harr]
    unfold fnOk at hok
    split at hok
    · rename_i fn hfn
      rw [hfn]
      simp only [Bool.and_eq_true, bne_iff_ne, ne_eq] at hok
      simp only [hok.1, ne_eq, hok.2, not_false_eq_true, and_self, if_true]
    · cases hok
  have hold : q = true → Old s.h h' := b4
  have hst : St x (putL dst v L) O' (s.put dst v h') := by
    refine ⟨by rw [put_m]; exact hs.m, ?_, by rw [put_h]; exact b3, fun hx => ?_⟩
    · cases dst with
      | some d => exact hs.t.put _ _ _
      | none => exact hs.t
    · rw [put_h]
      rcases hq with hq | hq
      · exact (hs.old hx).trans (hold hq)
      · rw [hq.2.1] at hx; cases hx
  have hgrow := (wfJ b1 hs.sat.wf).2
  obtain ⟨s', g1, g2, g3⟩ := h v O' b2 hd' hqk _ hst (fun z hm => by rw [put_h]; exact Nat.lt_of_lt_of_le (hz z hm) hgrow)
  refine ⟨s', .opcall ho (hw s hs.t _ rfl) hcal b1 (fun hm => ?_) ?_ (fun z hm => ?_) g1, by rw [g2, put_m], g3⟩
  · rcases hq with hq | hq
    · exact hold hq
    · rw [hq.1] at hm; cases hm
  · cases hl : mq.lz i with
    | false => rfl
    | true => exact absurd ((flags_at hqk ho).2 hl) (by simp [isLoadOp])
  · rcases hq with hq | hq
    · exact (hold hq).2 z (hz z hm)
    · rw [hq.2.2] at hm; simp at hm

/-! ### 5. Functions -/
def argsL (args : List Value) (i : Nat) : Tmps := match args with
  | [] => []
  | v :: vs => (i, v) :: argsL vs (i + 1)

theorem has_args {t : Nat → Value} : ∀ (args : List Value) (i : Nat), (∀ j v, args[j]? = some v → t (i + j) = v) → Has t (argsL args i)
  | [], _, _ => .nil
  | v :: vs, i, h => .cons (h 0 v rfl) (has_args vs (i + 1) fun j u hu => by have := h (j + 1) u (by simpa using hu); rw [← this]; congr 1; omega)

def bodyW (P : Program) (fn : Func) (x : Cx) (Post : Value → Objs → Prop) : Exit → ASt → Prop
  | .normal, s | .ret, s => ∃ vs O', resultsA P fn s = some vs ∧ Post (tupleA vs) O' ∧ Sat s.h O' ∧ (x.q = true → Old x.h0 s.h)
  | _, _ => False

theorem Spec.enter {q : Bool} {f : FuncId} {fn : Func} {c : Code} {args : List Value} {m : Nat} {Post : Value → Objs → Prop} (hf : P.funcs[f]? = some fn) (hb : fn.body = some c) (hm : max fn.ntmps args.length = m) (hok : codeOk m c = true)
    (h : ∀ h0, WX P ⟨m, q, h0⟩ c (argsL args 0) O (bodyW P fn ⟨m, q, h0⟩ Post)) : Spec P q f args.toArray O Post := by
  intro g hg
  obtain ⟨e, s', h1, h2, h3⟩ := h g (enterA fn args.toArray g) ⟨by simpa [enterA] using hm, has_args args 0 fun j v hj => by simp [enterA, Array.getD_eq_getD_getElem?, hj], hg, fun _ => Old.refl g⟩ (by rw [show (enterA fn args.toArray g).m = m from by simpa [enterA] using hm]; exact hok)
  have key : (e = .normal ∨ e = .ret) ∧ ∃ vs O', resultsA P fn s' = some vs ∧ Post (tupleA vs) O' ∧ Sat s'.h O' ∧ (q = true → Old g s'.h) := by
    cases e with
    | normal => exact ⟨.inl rfl, h3⟩
    | ret => exact ⟨.inr rfl, h3⟩
    | _ => exact h3.elim
  obtain ⟨he, vs, O', k1, k2, k3, k4⟩ := key
  exact ⟨tupleA vs, s'.h, O', .call hf hb h1 he k1, k2, k3, k4⟩

def resL (L : Tmps) : List ResultVar → Option (List Value)
  | [] => some []
  | .tmp t :: rs => match getT L t, resL L rs with
    | some v, some vs => some (v :: vs)
    | _, _ => none
  | _ => none

theorem Has.res {s : ASt} (h : Has s.t L) : ∀ {rs : List ResultVar} {vs : List Value}, resL L rs = some vs → rs.mapM (resF P s) = some vs
  | [], vs, hr => by simp [resL] at hr; subst hr; rfl
  | .tmp t :: rs, vs, hr => by
    unfold resL at hr
    split at hr
    · rename_i v us h1 h2
      obtain rfl := Option.some.inj hr
      rw [List.mapM_cons, Has.res h h2]
      show (some (s.t t)).bind _ = _
      rw [h t v h1]
      rfl
    · cases hr
  | .cell _ _ :: rs, vs, hr => by simp [resL] at hr

theorem Fin.result {fn : Func} {Post : Value → Objs → Prop} {rs : List ResultVar} {vs : List Value} {e : Exit} (he : e = .normal ∨ e = .ret) (hr : fn.results.toList = rs) (hv : resL L rs = some vs) (hO : ∀ h, Sat h O → Sat h O') (hp : Post (tupleA vs) O') :
    Fin x L O e (bodyW P fn x Post) := by
  intro s hs
  have : ∃ vs O', resultsA P fn s = some vs ∧ Post (tupleA vs) O' ∧ Sat s.h O' ∧ (x.q = true → Old x.h0 s.h) :=
    ⟨vs, O', by unfold resultsA; rw [hr]; exact hs.t.res hv, hp, hO _ hs.sat, hs.old⟩
  rcases he with rfl | rfl <;> exact this

/-- Less is known: slots by their values, objects by their places. -/
theorem St.less {s : ASt} {L' : Tmps} (hs : St x L O s) (hL : ∀ t, Has t L → Has t L') (is : List Nat) (n : Nat) (hnd : is.Nodup) (hlt : ∀ i ∈ is, i < n) (hO : Eng.pick O is ++ O.drop n = O') : St x L' O' s :=
  ⟨hs.m, hL _ hs.t, by rw [← hO]; exact hs.sat.pick is n hnd hlt, hs.old⟩

def Told (L : Tmps) : Tmps → Prop
  | [] => True
  | q :: L' => getT L q.1 = some q.2 ∧ Told L L'

theorem Has.told {t : Nat → Value} {L : Tmps} (h : Has t L) : ∀ {L' : Tmps}, Told L L' → Has t L'
  | [], _ => .nil
  | (d, v) :: L', ht => .cons (h d v ht.1) (Has.told h ht.2)

theorem St.told {s : ASt} (hs : St x L O s) {L' : Tmps} (hL : Told L L') (is : List Nat) (n : Nat) (hnd : is.Nodup) (hlt : ∀ i ∈ is, i < n) (hO : Eng.pick O is ++ O.drop n = O') : St x L' O' s :=
  ⟨hs.m, hs.t.told hL, by rw [← hO]; exact hs.sat.pick is n hnd hlt, hs.old⟩

theorem Has.take {t : Nat → Value} {L L' : Tmps} {d : Nat} {v : Value} (h : Has t L) (hd : getT L d = some v) (h' : Has t L') : Has t ((d, v) :: L') := .cons (h d v hd) h'

end Go.Proofs.Ytjmklialkjncaaa.Eng

set_option linter.unusedVariables false
set_option linter.unusedSimpArgs false
namespace Go.Proofs.Ytjmklialkjncaaa.Eng

variable {P : Program} {x : Cx} {L L' : Tmps} {O O' : Objs} {ops : Array Oper} {mq : Mk} {i : Nat} {l : List Oper} {K : ASt → Prop}
  {t u : TypeId} {p : String} {af : Array Edge} {gd : Option (Nat × Bool)} {d : Tmp}

/-! ### 1. The frame of the rules -/
theorem WXL.stepG {o : Oper} (hl : isLoadOp o.op = false ∨ mq.lz i = false) (hw : Met x L ops o.guard)
    (ha : ∀ s, St x L O s → (∀ z ∈ mq.Z, z < s.h.n) → ∃ v h', aop P o s = some (v, h') ∧ ((isStoreOp o.op = false) → Quiet s.h h') ∧ (∀ z ∈ mq.Z, h'.o z = s.h.o z) ∧ ∃ L' O', St x L' O' (s.put o.dst v h') ∧ WXL P x ops mq (i + 1) l L' O' K) : WXL P x ops mq i (o :: l) L O K := by
  intro hd hq s hs hz
  obtain ⟨ho, hd'⟩ := drop_head hd
  obtain ⟨v, h', h1, h2, h2z, L', O', h3, h⟩ := ha s hs hz
  have hgrow := (aop_WF h1 hs.sat.wf).2
  obtain ⟨s', g1, g2, g3⟩ := h hd' hq _ h3 (fun z hm => by rw [put_h]; exact Nat.lt_of_lt_of_le (hz z hm) hgrow)
  refine ⟨s', .op ho (hw s hs.t o rfl) h1 (fun hm => h2 ((flags_at hq ho).1 hm)) ?_ h2z g1, by rw [g2, put_m], g3⟩
  rcases hl with hl | hl
  · cases hx : mq.lz i with
    | false => rfl
    | true => rw [(flags_at hq ho).2 hx] at hl; cases hl
  · exact hl

/-- An operation that yields a value and leaves the memory alone. -/
theorem WXL.val {op : Op} {v : Value} (hl : isLoadOp op = false ∨ mq.lz i = false) (hw : Met x L ops gd) (ha : ∀ s, St x L O s → aop P { dst := some d, op := op, type := t, pos := p, after := af, guard := gd } s = some (v, s.h)) (h : WXL P x ops mq (i + 1) l ((d, v) :: L) O K) :
    WXL P x ops mq i ({ dst := some d, op := op, type := t, pos := p, after := af, guard := gd } :: l) L O K :=
  WXL.stepG hl hw fun s hs _ => ⟨v, s.h, ha s hs, fun _ => Quiet.refl _, fun _ _ => rfl, _, _, ⟨hs.m, hs.t.put _ _ _, hs.sat, hs.old⟩, h⟩

/-- A load that a later store may come ahead of: its object stays as it is, its value names no memory. -/
theorem WXL.lazy {y : Operand} {ty : TypeId} {v : Value} {b off : Nat} {e : Ent} (hw : Met x L ops gd) (hy : evL L y = some (.pointer (some ⟨b, off, none⟩))) (hk : ∀ h, Sat h O → Is h b e)
    (ha : ∀ s, St x L O s → aop P { dst := some d, op := .load ty y, type := t, pos := p, after := af, guard := gd } s = some (v, s.h)) (hp : plainC v = true) (h : WXL P x ops ⟨mq.q, mq.lz, b :: mq.Z⟩ (i + 1) l ((d, v) :: L) O K) :
    WXL P x ops mq i ({ dst := some d, op := .load ty y, type := t, pos := p, after := af, guard := gd } :: l) L O K := by
  intro hd hq s hs hz
  obtain ⟨ho, hd'⟩ := drop_head hd
  obtain ⟨f, k, hb⟩ := hk _ hs.sat
  obtain ⟨s', g1, g2, g3⟩ := h hd' hq (s.put (some d) v s.h) ⟨hs.m, hs.t.put _ _ _, hs.sat, hs.old⟩ (fun z hm => by
    rw [put_h]
    rcases List.mem_cons.1 hm with rfl | hm
    · exact hs.sat.wf.lt hb
    · exact hz z hm)
  exact ⟨s', .oplazy ho (hw s hs.t _ rfl) rfl (hs.t.ev hy) hb (ha s hs) hp g1, by rw [g2, put_m], g3⟩

/-- A case on a bool that a slot holds. -/
theorem WXL.split {b : Bool} (hd : getT L d = some (.bool b)) (h1 : b = true → WXL P x ops mq i l ((d, .bool true) :: L) O K) (h2 : b = false → WXL P x ops mq i l ((d, .bool false) :: L) O K) : WXL P x ops mq i l L O K := by
  intro hl hq s hs hz
  have hd' := hs.t d _ hd
  cases b with
  | true => exact h1 rfl hl hq s ⟨hs.m, .cons hd' hs.t, hs.sat, hs.old⟩ hz
  | false => exact h2 rfl hl hq s ⟨hs.m, .cons hd' hs.t, hs.sat, hs.old⟩ hz

/-- What is known is told anew, in the middle of a region. -/
theorem WXL.of (h0 : ∀ s, St x L O s → St x L' O' s) (h : WXL P x ops mq i l L' O' K) : WXL P x ops mq i l L O K := fun a b s hs hz => h a b s (h0 s hs) hz

/-! ### 2. Slots -/
theorem WXL.move {y : Operand} {v : Value} (hw : Met x L ops gd) (hy : evL L y = some v) (h : WXL P x ops mq (i + 1) l ((d, v) :: L) O K) : WXL P x ops mq i ({ dst := some d, op := .move y, type := t, pos := p, after := af, guard := gd } :: l) L O K :=
  WXL.val (.inl rfl) hw (fun s hs => by simp only [aop, hs.t.ev hy]) h
theorem WXL.assign {y : Operand} {v : Value} (hw : Met x L ops gd) (hy : evL L y = some v) (h : WXL P x ops mq (i + 1) l ((d, v) :: L) O K) : WXL P x ops mq i ({ dst := some d, op := .assign y, type := t, pos := p, after := af, guard := gd } :: l) L O K :=
  WXL.val (.inl rfl) hw (fun s hs => by simp only [aop, hs.t.ev hy]) h
theorem WXL.pick_t {c y z : Operand} {v : Value} (hw : Met x L ops gd) (hc : evL L c = some (.bool true)) (hy : evL L y = some v) (h : WXL P x ops mq (i + 1) l ((d, v) :: L) O K) : WXL P x ops mq i ({ dst := some d, op := .pick c y z, type := t, pos := p, after := af, guard := gd } :: l) L O K :=
  WXL.val (.inl rfl) hw (fun s hs => by simp only [aop, hs.t.ev hc, hs.t.ev hy]) h
theorem WXL.pick_f {c y z : Operand} {v : Value} (hw : Met x L ops gd) (hc : evL L c = some (.bool false)) (hy : evL L z = some v) (h : WXL P x ops mq (i + 1) l ((d, v) :: L) O K) : WXL P x ops mq i ({ dst := some d, op := .pick c y z, type := t, pos := p, after := af, guard := gd } :: l) L O K :=
  WXL.val (.inl rfl) hw (fun s hs => by simp only [aop, hs.t.ev hc, hs.t.ev hy]) h
theorem WXL.extract {y : Operand} {vs : Array Value} {n : Nat} {v : Value} (hw : Met x L ops gd) (hy : evL L y = some (.tuple vs)) (hv : vs[n]? = some v) (h : WXL P x ops mq (i + 1) l ((d, v) :: L) O K) :
    WXL P x ops mq i ({ dst := some d, op := .extract y n, type := t, pos := p, after := af, guard := gd } :: l) L O K :=
  WXL.val (.inl rfl) hw (fun s hs => by simp only [aop, hs.t.ev hy, hv, Option.map_some]) h

/-! ### 3. Numbers -/
theorem scalar2 {op : BinOp} {y z : Operand} {a b v : Value} {w : TypeId} {s : ASt} (hy : s.ev y = a) (hz : s.ev z = b) (ha : plain1 a = true) (hb : plain1 b = true) (hv : purely P (do eqGuard op t y z a b; binOp op t a b) = some v) (hp : plain1 v = true) :
    aop P { dst := some d, op := .binOp op t y z w, type := u, pos := p, after := af, guard := gd } s = some (v, s.h) := by
  have e : purely P (execOp s.ev { dst := some d, op := .binOp op t y z w, type := u, pos := p, after := af, guard := gd }) = some (.value v) := by
    show purely P ((do eqGuard op t y z (s.ev y) (s.ev z); binOp op t (s.ev y) (s.ev z)) >>= fun v => pure (Next.value v)) = _
    rw [purely_bind, hy, hz, hv]
    rfl
  unfold aop
  simp only
  unfold scalarA
  have hall : (#[y, z].all fun x => plain1 (s.ev x)) = true := by simp [hy, hz, ha, hb]
  simp only [Op.operands, hall, e, hp, if_true, Option.map_some]

/-- A value of two numbers. -/
def binV : BinOp → IntKind → Int → Int → Option Value
  | .add, k, a, b => some (.int k (k.wrap (a + b)))
  | .sub, k, a, b => some (.int k (k.wrap (a - b)))
  | .mul, k, a, b => some (.int k (k.wrap (a * b)))
  | .eql, _, a, b => some (.bool (decide (a = b)))
  | .neq, _, a, b => some (.bool (!decide (a = b)))
  | .lss, _, a, b => some (.bool (decide (a < b)))
  | .leq, _, a, b => some (.bool (decide (a ≤ b)))
  | .gtr, _, a, b => some (.bool (decide (b < a)))
  | .geq, _, a, b => some (.bool (decide (b ≤ a)))
  | .and, k, a, b => some (.int k (k.wrap ((BitVec.ofInt k.bits a) &&& (BitVec.ofInt k.bits b)).toNat))
  | .or, k, a, b => some (.int k (k.wrap ((BitVec.ofInt k.bits a) ||| (BitVec.ofInt k.bits b)).toNat))
  | .xor, k, a, b => some (.int k (k.wrap ((BitVec.ofInt k.bits a) ^^^ (BitVec.ofInt k.bits b)).toNat))
  | .andNot, k, a, b => some (.int k (k.wrap ((BitVec.ofInt k.bits a) &&& ~~~(BitVec.ofInt k.bits b)).toNat))
  | _, _, _, _ => none

theorem binV_ok {op : BinOp} {y z : Operand} {k : IntKind} {a b : Int} {v : Value} (hv : binV op k a b = some v) : purely P (do eqGuard op t y z (.int k a) (.int k b); binOp op t (.int k a) (.int k b)) = some v ∧ plain1 v = true := by
  cases op <;> simp only [binV, Option.some.injEq, reduceCtorEq] at hv <;> subst hv <;> refine ⟨?_, rfl⟩ <;> simp [eqGuard, binOp, Op.intArith, Op.intCmp, Op.intBits, purely, bind, Sem.bind, pure] <;> rfl

theorem WXL.bin {op : BinOp} {y z : Operand} {k : IntKind} {a b : Int} {v : Value} {w : TypeId} (hw : Met x L ops gd) (hy : evL L y = some (.int k a)) (hz : evL L z = some (.int k b)) (hv : binV op k a b = some v) (h : WXL P x ops mq (i + 1) l ((d, v) :: L) O K) :
    WXL P x ops mq i ({ dst := some d, op := .binOp op u y z w, type := t, pos := p, after := af, guard := gd } :: l) L O K :=
  WXL.val (.inl rfl) hw (fun s hs => scalar2 (hs.t.ev hy) (hs.t.ev hz) rfl rfl (binV_ok hv).1 (binV_ok (P := P) (t := u) (y := y) (z := z) hv).2) h

theorem WXL.quo {y z : Operand} {k : IntKind} {a b r : Int} {w : TypeId} (hw : Met x L ops gd) (hy : evL L y = some (.int k a)) (hz : evL L z = some (.int k b)) (hb : b ≠ 0) (hr : k.wrap (a.tdiv b) = r) (h : WXL P x ops mq (i + 1) l ((d, .int k r) :: L) O K) :
    WXL P x ops mq i ({ dst := some d, op := .binOp .quo u y z w, type := t, pos := p, after := af, guard := gd } :: l) L O K :=
  WXL.val (.inl rfl) hw (fun s hs => scalar2 (hs.t.ev hy) (hs.t.ev hz) rfl rfl (by subst hr; simp [eqGuard, binOp, Op.intDiv, hb, purely, bind, Sem.bind, pure]) rfl) h

theorem WXL.rem {y z : Operand} {k : IntKind} {a b : Int} {w : TypeId} (hw : Met x L ops gd) (hy : evL L y = some (.int k a)) (hz : evL L z = some (.int k b)) (hb : b ≠ 0) (h : WXL P x ops mq (i + 1) l ((d, .int k (a.tmod b)) :: L) O K) :
    WXL P x ops mq i ({ dst := some d, op := .binOp .rem u y z w, type := t, pos := p, after := af, guard := gd } :: l) L O K :=
  WXL.val (.inl rfl) hw (fun s hs => scalar2 (hs.t.ev hy) (hs.t.ev hz) rfl rfl (by simp [eqGuard, binOp, Op.intDiv, hb, purely, bind, Sem.bind, pure]) rfl) h

theorem WXL.shl {y z : Operand} {k k' : IntKind} {a b : Int} {w : TypeId} (hw : Met x L ops gd) (hy : evL L y = some (.int k a)) (hz : evL L z = some (.int k' b)) (hb : 0 ≤ b) (h : WXL P x ops mq (i + 1) l ((d, .int k (k.wrap (a * 2 ^ (min b.toNat k.bits)))) :: L) O K) :
    WXL P x ops mq i ({ dst := some d, op := .binOp .shl u y z w, type := t, pos := p, after := af, guard := gd } :: l) L O K :=
  WXL.val (.inl rfl) hw (fun s hs => scalar2 (hs.t.ev hy) (hs.t.ev hz) rfl rfl (by simp [eqGuard, binOp, Op.shift, Int.not_lt.2 hb, purely, bind, Sem.bind, pure]) rfl) h

theorem WXL.shr {y z : Operand} {k k' : IntKind} {a b : Int} {w : TypeId} (hw : Met x L ops gd) (hy : evL L y = some (.int k a)) (hz : evL L z = some (.int k' b)) (hb : 0 ≤ b) (h : WXL P x ops mq (i + 1) l ((d, .int k (a.fdiv (2 ^ (min b.toNat k.bits)))) :: L) O K) :
    WXL P x ops mq i ({ dst := some d, op := .binOp .shr u y z w, type := t, pos := p, after := af, guard := gd } :: l) L O K :=
  WXL.val (.inl rfl) hw (fun s hs => scalar2 (hs.t.ev hy) (hs.t.ev hz) rfl rfl (by simp [eqGuard, binOp, Op.shift, Int.not_lt.2 hb, purely, bind, Sem.bind, pure]) rfl) h

theorem underlying_of {t : TypeId} {td : TypeDesc} (hu : P.underlying t = some td) : purely P (underlying t) = some td := by
  unfold underlying
  rw [purely_bind]
  show (some P).bind _ = _
  simp only [Option.bind_some, hu]
  rfl

theorem equal_bool {t : TypeId} {n : Nat} {a b : Bool} (hu : P.underlying t = some .bool) : purely P (Op.equalIn (n + 1) t (.bool a) (.bool b)) = some (a == b) := by
  unfold Op.equalIn
  rw [purely_bind, underlying_of hu]
  rfl

theorem eq_bool {t : TypeId} {a b : Bool} {y z : Operand} (hu : P.underlying t = some .bool) : purely P (do eqGuard .eql t y z (.bool a) (.bool b); binOp .eql t (.bool a) (.bool b)) = some (.bool (a == b)) := by
  have e : binOp .eql t (.bool a) (.bool b) = (Op.equalIn (9999 + 1) t (.bool a) (.bool b) >>= fun r => pure (.bool r)) := rfl
  rw [purely_bind, e, purely_bind, equal_bool hu]
  rfl

theorem ne_bool {t : TypeId} {a b : Bool} {y z : Operand} (hu : P.underlying t = some .bool) : purely P (do eqGuard .neq t y z (.bool a) (.bool b); binOp .neq t (.bool a) (.bool b)) = some (.bool (!(a == b))) := by
  have e : binOp .neq t (.bool a) (.bool b) = (Op.equalIn (9999 + 1) t (.bool a) (.bool b) >>= fun r => pure (.bool (!r))) := rfl
  rw [purely_bind, e, purely_bind, equal_bool hu]
  rfl

theorem WXL.eqB {y z : Operand} {a b : Bool} {w : TypeId} (hw : Met x L ops gd) (hy : evL L y = some (.bool a)) (hz : evL L z = some (.bool b)) (hu : P.underlying u = some .bool) (h : WXL P x ops mq (i + 1) l ((d, .bool (a == b)) :: L) O K) :
    WXL P x ops mq i ({ dst := some d, op := .binOp .eql u y z w, type := t, pos := p, after := af, guard := gd } :: l) L O K :=
  WXL.val (.inl rfl) hw (fun s hs => scalar2 (hs.t.ev hy) (hs.t.ev hz) rfl rfl (eq_bool hu) rfl) h

theorem WXL.neB {y z : Operand} {a b : Bool} {w : TypeId} (hw : Met x L ops gd) (hy : evL L y = some (.bool a)) (hz : evL L z = some (.bool b)) (hu : P.underlying u = some .bool) (h : WXL P x ops mq (i + 1) l ((d, .bool (!(a == b))) :: L) O K) :
    WXL P x ops mq i ({ dst := some d, op := .binOp .neq u y z w, type := t, pos := p, after := af, guard := gd } :: l) L O K :=
  WXL.val (.inl rfl) hw (fun s hs => scalar2 (hs.t.ev hy) (hs.t.ev hz) rfl rfl (ne_bool hu) rfl) h

theorem scalar1 {o : Op} {y : Operand} {a v : Value} {s : ASt} {g : Value → Sem Value} (ho : o.operands = #[y]) (hx : ∀ (o' : Oper) (ρ : Operand → Value), o'.op = o → execOp ρ o' = (g (ρ y) >>= fun v => pure (Next.value v)))
    (hd : ∀ o' : Oper, o'.op = o → aop P o' s = (scalarA P o' s.ev).map (·, s.h)) (hy : s.ev y = a) (ha : plain1 a = true) (hv : purely P (g a) = some v) (hp : plain1 v = true) :
    aop P { dst := some d, op := o, type := u, pos := p, after := af, guard := gd } s = some (v, s.h) := by
  rw [hd _ rfl]
  unfold scalarA
  have hall : (#[y].all fun x => plain1 (s.ev x)) = true := by simp [hy, ha]
  simp only [ho, hall, if_true]
  rw [hx _ _ rfl, purely_bind, hy, hv]
  simp [purely, pure, hp]

theorem WXL.not {y : Operand} {b : Bool} {ty : TypeId} (hw : Met x L ops gd) (hy : evL L y = some (.bool b)) (h : WXL P x ops mq (i + 1) l ((d, .bool (!b)) :: L) O K) :
    WXL P x ops mq i ({ dst := some d, op := .unOp .not ty y, type := t, pos := p, after := af, guard := gd } :: l) L O K :=
  WXL.val (.inl rfl) hw (fun s hs => scalar1 (g := Op.unary .not) rfl (fun o' ρ h => by unfold execOp; rw [h]) (fun o' h => by unfold aop; rw [h]) (hs.t.ev hy) rfl rfl rfl) h

theorem WXL.neg {y : Operand} {k : IntKind} {a r : Int} {ty : TypeId} (hw : Met x L ops gd) (hy : evL L y = some (.int k a)) (hr : k.wrap (0 - a) = r) (h : WXL P x ops mq (i + 1) l ((d, .int k r) :: L) O K) :
    WXL P x ops mq i ({ dst := some d, op := .unOp .neg ty y, type := t, pos := p, after := af, guard := gd } :: l) L O K :=
  WXL.val (.inl rfl) hw (fun s hs => scalar1 (g := Op.unary .neg) rfl (fun o' ρ h => by unfold execOp; rw [h]) (fun o' h => by unfold aop; rw [h]) (hs.t.ev hy) rfl (by subst hr; rfl) rfl) h

theorem wrap_i64 {n : Int} (h1 : -9223372036854775808 ≤ n) (h2 : n ≤ 9223372036854775807) : IntKind.wrap .i64 n = n := by
  unfold IntKind.wrap
  have e1 : (2 : Int) ^ IntKind.bits .i64 = 18446744073709551616 := rfl
  have e2 : (2 : Int) ^ (IntKind.bits .i64 - 1) = 9223372036854775808 := rfl
  have e3 : IntKind.signed .i64 = true := rfl
  simp only [e1, e2, e3, Bool.true_and, decide_eq_true_eq]
  split <;> omega

theorem tdiv_bound {a b : Int} (hb : 0 < b) : (0 ≤ a → 0 ≤ a.tdiv b ∧ a.tdiv b ≤ a) ∧ (a ≤ 0 → a ≤ a.tdiv b ∧ a.tdiv b ≤ 0) := by
  refine ⟨fun h => ⟨Int.tdiv_nonneg h (Int.le_of_lt hb), ?_⟩, fun h => ?_⟩
  · rw [Int.tdiv_eq_ediv_of_nonneg h]
    exact Int.ediv_le_self b h
  · have e : a.tdiv b = -((-a).tdiv b) := by rw [Int.neg_tdiv]; omega
    have h1 : 0 ≤ (-a).tdiv b := Int.tdiv_nonneg (by omega) (Int.le_of_lt hb)
    have h2 : (-a).tdiv b ≤ -a := by
      rw [Int.tdiv_eq_ediv_of_nonneg (by omega)]
      exact Int.ediv_le_self b (by omega)
    omega

theorem wrap_quo {a b : Int} (h1 : -9223372036854775808 ≤ a) (h2 : a ≤ 9223372036854775807) (hb : 0 < b) : IntKind.wrap .i64 (a.tdiv b) = a.tdiv b := by
  obtain ⟨p, q⟩ := tdiv_bound (a := a) hb
  rcases Int.le_total 0 a with h | h
  · obtain ⟨p1, p2⟩ := p h
    exact wrap_i64 (by omega) (by omega)
  · obtain ⟨p1, p2⟩ := q h
    exact wrap_i64 (by omega) (by omega)

theorem wrap_neg {n : Int} (h1 : -9223372036854775807 ≤ n) (h2 : n ≤ 9223372036854775807) : IntKind.wrap .i64 (0 - n) = -n := by
  rw [wrap_i64 (by omega) (by omega)]
  omega

theorem scalarC {b : Builtin} {y z : Operand} {k : IntKind} {a c : Int} {v : Value} {ts : Array TypeId} {s : ASt} (hb : b = .min ∨ b = .max) (hy : s.ev y = .int k a) (hz : s.ev z = .int k c) (hv : v = .int k (if b = .max then max a c else min a c)) :
    aop P { dst := some d, op := .call { callee := .builtin b, args := #[y, z], argTypes := ts }, type := u, pos := p, after := af, guard := gd } s = some (v, s.h) := by
  have hall : (#[y, z].all fun x => plain1 (s.ev x)) = true := by simp [hy, hz, plain1]
  have e : purely P (execOp s.ev { dst := some d, op := .call { callee := .builtin b, args := #[y, z], argTypes := ts }, type := u, pos := p, after := af, guard := gd }) = some (.value v) := by
    subst hv
    have hm : #[y, z].map s.ev = #[.int k a, .int k c] := by simp [hy, hz]
    rcases hb with rfl | rfl
    · show purely P (Builtin.min_ ts u (#[y, z].map s.ev) >>= fun v => pure (Next.value v)) = _
      rw [hm]
      show some (Next.value (.int k (if c < a then c else a))) = _
      simp only [reduceCtorEq, if_false, Option.some.injEq, Next.value.injEq, Value.int.injEq, true_and]
      omega
    · show purely P (Builtin.max_ ts u (#[y, z].map s.ev) >>= fun v => pure (Next.value v)) = _
      rw [hm]
      show some (Next.value (.int k (if c > a then c else a))) = _
      simp only [if_true, Option.some.injEq, Next.value.injEq, Value.int.injEq, true_and]
      omega
  have hp : plain1 v = true := by subst hv; rfl
  rcases hb with rfl | rfl <;> (unfold aop; simp only; unfold scalarA; simp only [Op.operands, Call.operands, Array.empty_append, hall, e, hp, if_true, Option.map_some])

theorem WXL.min {y z : Operand} {k : IntKind} {a c : Int} {ts : Array TypeId} (hw : Met x L ops gd) (hy : evL L y = some (.int k a)) (hz : evL L z = some (.int k c)) (h : WXL P x ops mq (i + 1) l ((d, .int k (Min.min a c)) :: L) O K) :
    WXL P x ops mq i ({ dst := some d, op := .call { callee := .builtin .min, args := #[y, z], argTypes := ts }, type := t, pos := p, after := af, guard := gd } :: l) L O K :=
  WXL.val (.inl rfl) hw (fun s hs => scalarC (.inl rfl) (hs.t.ev hy) (hs.t.ev hz) rfl) h
theorem WXL.max {y z : Operand} {k : IntKind} {a c : Int} {ts : Array TypeId} (hw : Met x L ops gd) (hy : evL L y = some (.int k a)) (hz : evL L z = some (.int k c)) (h : WXL P x ops mq (i + 1) l ((d, .int k (Max.max a c)) :: L) O K) :
    WXL P x ops mq i ({ dst := some d, op := .call { callee := .builtin .max, args := #[y, z], argTypes := ts }, type := t, pos := p, after := af, guard := gd } :: l) L O K :=
  WXL.val (.inl rfl) hw (fun s hs => scalarC (.inr rfl) (hs.t.ev hy) (hs.t.ev hz) rfl) h

/-! ### 4. Rows -/
theorem WXL.len {y : Operand} {ty e : TypeId} {a : Option Addr} {n c : Nat} (hw : Met x L ops gd) (hy : evL L y = some (.slice a n c)) (hu : P.underlying ty = some (.slice e)) (h : WXL P x ops mq (i + 1) l ((d, .int .i64 n) :: L) O K) :
    WXL P x ops mq i ({ dst := some d, op := .call { callee := .builtin .len, args := #[y], argTypes := #[ty] }, type := t, pos := p, after := af, guard := gd } :: l) L O K :=
  WXL.val (.inl rfl) hw (fun s hs => by simp [aop, lenA, hu, hs.t.ev hy]) h

end Go.Proofs.Ytjmklialkjncaaa.Eng

set_option linter.unusedVariables false
set_option linter.unusedSimpArgs false
namespace Go.Proofs.Ytjmklialkjncaaa.Eng

variable {P : Program} {x : Cx} {L L' : Tmps} {O O' : Objs} {ops : Array Oper} {mq : Mk} {i : Nat} {l : List Oper} {K : ASt → Prop}
  {t u : TypeId} {p : String} {af : Array Edge} {gd : Option (Nat × Bool)} {d : Tmp}

abbrev Ptr (b off : Nat) : Value := .pointer (some ⟨b, off, none⟩)
abbrev Row (b off n c : Nat) : Value := .slice (some ⟨b, off, none⟩) n c
abbrev I (n : Int) : Value := .int .i64 n

/-- This object is known. -/
def Knows (O : Objs) (b : Nat) (y : Ent) : Prop := ∀ h, Sat h O → Is h b y
theorem Knows.at (j : Nat) {b : Nat} {y : Ent} (h : O[j]? = some (b, y)) : Knows O b y := fun _ hs => hs.at h
theorem Knows.mem {b : Nat} {y : Ent} (h : (b, y) ∈ O) : Knows O b y := fun _ hs => hs.mem h

/-- The cells of a row's elements. -/
def Src (O : Objs) (sz : Nat) (v : Value) (n : Nat) (cs : List Value) : Prop := ∀ h, Sat h O → srcA h sz v = some (n, cs)
theorem Src.nil {sz : Nat} : Src O sz (.slice none 0 0) 0 [] := fun _ _ => rfl
theorem Src.of {b off n c sz : Nat} {y : Ent} {cs : List Value} (hk : Knows O b y) (hl : off + n * sz ≤ y.c.length) (he : (y.c.drop off).take (n * sz) = cs) : Src O sz (Row b off n c) n cs := by
  intro h hs
  have := (hk h hs).rd
  unfold srcA
  simp only [this]
  rw [if_pos hl, he]

theorem Src.str {s : ByteArray} : Src O 1 (.string s) s.size (s.data.toList.map fun b => .int .u8 b.toNat) := fun _ _ => rfl

/-! ### Addresses -/
theorem WXL.indexAddr {y z : Operand} {ty e : TypeId} {b off n c sz : Nat} {k : IntKind} {j : Int} {off' : Nat} (hw : Met x L ops gd) (hy : evL L y = some (Row b off n c)) (hz : evL L z = some (.int k j))
    (he : elemOf P ty = some e) (hs : szOf P e = some sz) (h0 : 0 ≤ j) (h1 : j < n) (ho : off + j.toNat * sz = off') (h : WXL P x ops mq (i + 1) l ((d, Ptr b off') :: L) O K) :
    WXL P x ops mq i ({ dst := some d, op := .indexAddr ty y z, type := t, pos := p, after := af, guard := gd } :: l) L O K :=
  WXL.val (.inl rfl) hw (fun s hst => by
    subst ho
    simp only [aop, hst.t.ev hy, hst.t.ev hz, indexA, he, hs, Option.bind_some]
    rw [if_pos ⟨h0, h1⟩]
    rfl) h

theorem WXL.fieldAddr {y : Operand} {ty : TypeId} {b off f sz : Nat} {fs : Array Field} {g : Field} {off' : Nat} (hw : Met x L ops gd) (hy : evL L y = some (Ptr b off)) (hu : P.underlying ty = some (.struct fs)) (hg : fs[f]? = some g)
    (hs : szOf P g.type = some (sz + 1)) (ho : off + g.offset = off') (h : WXL P x ops mq (i + 1) l ((d, Ptr b off') :: L) O K) :
    WXL P x ops mq i ({ dst := some d, op := .fieldAddr ty y f, type := t, pos := p, after := af, guard := gd } :: l) L O K :=
  WXL.val (.inl rfl) hw (fun s hst => by
    subst ho
    simp only [aop, hst.t.ev hy, fieldA, hu, hg, hs]
    rfl) h

/-! ### Loads -/
theorem WXL.load1 {y : Operand} {ty : TypeId} {b off : Nat} {e : Ent} {v : Value} (hlz : mq.lz i = false) (hw : Met x L ops gd) (hy : evL L y = some (Ptr b off)) (hk : Knows O b e) (ht : isAggT P ty = some false) (hv : e.c[off]? = some v)
    (h : WXL P x ops mq (i + 1) l ((d, v) :: L) O K) : WXL P x ops mq i ({ dst := some d, op := .load ty y, type := t, pos := p, after := af, guard := gd } :: l) L O K :=
  WXL.val (.inr hlz) hw (fun s hst => by
    simp only [aop, hst.t.ev hy, loadA, (hk _ hst.sat).rd, ht, hv]
    rfl) h

def cellsAt (c : List Value) (off n : Nat) : Option (List Value) := if off + n ≤ c.length then some ((c.drop off).take n) else none

theorem WXL.loadN {y : Operand} {ty : TypeId} {b off n : Nat} {e : Ent} {vs : List Value} (hlz : mq.lz i = false) (hw : Met x L ops gd) (hy : evL L y = some (Ptr b off)) (hk : Knows O b e) (ht : isAggT P ty = some true) (hn : szOf P ty = some n) (hv : cellsAt e.c off n = some vs)
    (h : WXL P x ops mq (i + 1) l ((d, .agg vs.toArray) :: L) O K) : WXL P x ops mq i ({ dst := some d, op := .load ty y, type := t, pos := p, after := af, guard := gd } :: l) L O K :=
  WXL.val (.inr hlz) hw (fun s hst => by
    unfold cellsAt at hv
    split at hv
    · rename_i hlen
      obtain rfl := Option.some.inj hv
      simp only [aop, hst.t.ev hy, loadA, (hk _ hst.sat).rd, ht, hn]
      rw [if_pos hlen]
      rfl
    · cases hv) h

/-- Loads that a later store may come ahead of. -/
theorem WXL.lazy1 {y : Operand} {ty : TypeId} {b off : Nat} {e : Ent} {v : Value} (hw : Met x L ops gd) (hy : evL L y = some (Ptr b off)) (hk : Knows O b e) (ht : isAggT P ty = some false) (hv : e.c[off]? = some v) (hp : plainC v = true)
    (h : WXL P x ops ⟨mq.q, mq.lz, b :: mq.Z⟩ (i + 1) l ((d, v) :: L) O K) : WXL P x ops mq i ({ dst := some d, op := .load ty y, type := t, pos := p, after := af, guard := gd } :: l) L O K :=
  WXL.lazy hw hy hk (fun s hst => by
    simp only [aop, hst.t.ev hy, loadA, (hk _ hst.sat).rd, ht, hv]
    rfl) hp h

theorem WXL.lazyN {y : Operand} {ty : TypeId} {b off n : Nat} {e : Ent} {vs : List Value} (hw : Met x L ops gd) (hy : evL L y = some (Ptr b off)) (hk : Knows O b e) (ht : isAggT P ty = some true) (hn : szOf P ty = some n) (hv : cellsAt e.c off n = some vs) (hp : vs.all plain1 = true)
    (h : WXL P x ops ⟨mq.q, mq.lz, b :: mq.Z⟩ (i + 1) l ((d, .agg vs.toArray) :: L) O K) : WXL P x ops mq i ({ dst := some d, op := .load ty y, type := t, pos := p, after := af, guard := gd } :: l) L O K :=
  WXL.lazy hw hy hk (fun s hst => by
    unfold cellsAt at hv
    split at hv
    · rename_i hlen
      obtain rfl := Option.some.inj hv
      simp only [aop, hst.t.ev hy, loadA, (hk _ hst.sat).rd, ht, hn]
      rw [if_pos hlen]
      rfl
    · cases hv) (by show vs.toArray.all plain1 = true; rw [← Array.all_toList]; exact hp) h

/-- The objects that are read late lie in other places. -/
def Clear (O : Objs) (j : Nat) (Z : List Nat) : Prop := ∀ z ∈ Z, ∃ j' y, j' ≠ j ∧ O[j']? = some (z, y)
theorem Clear.nil {j : Nat} : Clear O j [] := fun _ h => by simp at h
theorem Clear.cons {j z : Nat} {Z : List Nat} (j' : Nat) {y : Ent} (hn : Nat.beq j' j = false) (h : O[j']? = some (z, y)) (hr : Clear O j Z) : Clear O j (z :: Z) := by
  intro z' hz
  rcases List.mem_cons.1 hz with rfl | hz
  · exact ⟨j', y, fun e => by subst e; simp at hn, h⟩
  · exact hr z' hz
theorem Clear.ne {j b : Nat} {y : Ent} {Z : List Nat} {h : AHeap} (hc : Clear O j Z) (hs : Sat h O) (hj : O[j]? = some (b, y)) : ∀ z ∈ Z, z ≠ b := by
  intro z hz e
  subst e
  obtain ⟨j', y', h1, h2⟩ := hc z hz
  exact h1 (inj_of_nodup hs.nd h2 hj rfl)

/-! ### New objects -/
theorem WXL.fresh {op : Op} {c : List Value} {sz : Nat} {V : Nat → Value} (hno : isLoadOp op = false) (hw : Met x L ops gd) (ha : ∀ s, St x L O s → aop P { dst := some d, op := op, type := t, pos := p, after := af, guard := gd } s = some (V s.h.n, s.h.new (.cells sz false s.h.n none 0 c)))
    (h : ∀ b, WXL P x ops mq (i + 1) l ((d, V b) :: L) ((b, ⟨sz, false, c⟩) :: O) K) : WXL P x ops mq i ({ dst := some d, op := op, type := t, pos := p, after := af, guard := gd } :: l) L O K :=
  WXL.stepG (.inl hno) hw fun s hs hz => ⟨_, _, ha s hs, fun _ => (AHeap.old_new _ _).quiet, fun z hm => (AHeap.old_new _ _).2 z (hz z hm), _, _, ⟨hs.m, hs.t.put _ _ _, hs.sat.new sz c, fun hq => (hs.old hq).trans (AHeap.old_new _ _)⟩, h s.h.n⟩

theorem WXL.alloc {ty : TypeId} {z : Value} {c : List Value} (hw : Met x L ops gd) (hz : zeroOf P ty = some z) (hc : z.cells.toList = c) (h : ∀ b, WXL P x ops mq (i + 1) l ((d, Ptr b 0) :: L) ((b, ⟨0, false, c⟩) :: O) K) :
    WXL P x ops mq i ({ dst := some d, op := .alloc ty, type := t, pos := p, after := af, guard := gd } :: l) L O K :=
  WXL.fresh (V := fun b => Ptr b 0) rfl hw (fun s hs => by subst hc; simp only [aop, hz, Option.map_some, newA]) h

theorem WXL.box {y : Operand} {ty : TypeId} {v : Value} {c : List Value} (hw : Met x L ops gd) (hy : evL L y = some v) (hc : v.cells.toList = c) (hk : c.all isCell = true) (h : ∀ b, WXL P x ops mq (i + 1) l ((d, Ptr b 0) :: L) ((b, ⟨0, false, c⟩) :: O) K) :
    WXL P x ops mq i ({ dst := some d, op := .box ty y, type := t, pos := p, after := af, guard := gd } :: l) L O K :=
  WXL.fresh (V := fun b => Ptr b 0) rfl hw (fun s hs => by
    subst hc
    rw [Array.all_toList] at hk
    simp only [aop, hs.t.ev hy, hk, if_true, newA]) h

theorem WXL.makeSlice {y z : Operand} {ty e : TypeId} {j : Int} {sz by_ : Nat} {zv : Value} {c : List Value} {n : Nat} (hw : Met x L ops gd) (hy : evL L y = some (I j)) (hz : evL L z = some (I j)) (he : elemOf P ty = some e) (hs : szOf P e = some sz) (hb : byOf P e = some by_)
    (hv : zeroOf P e = some zv) (h0 : 0 ≤ j) (h1 : j < 4611686018427387904) (h2 : j * by_ ≤ 140737488355328) (h3 : zv.cells.size = sz) (h4 : 0 < sz) (hn : j.toNat = n) (hc : zerosL zv.cells.toList n = c)
    (h : ∀ b, WXL P x ops mq (i + 1) l ((d, Row b 0 n n) :: L) ((b, ⟨sz, false, c⟩) :: O) K) : WXL P x ops mq i ({ dst := some d, op := .makeSlice ty y z, type := t, pos := p, after := af, guard := gd } :: l) L O K :=
  WXL.fresh (V := fun b => Row b 0 n n) rfl hw (fun s hst => by
    subst hn hc
    simp only [aop, hst.t.ev hy, hst.t.ev hz, if_true, makeA, he, hs, hb, hv]
    rw [if_pos ⟨h0, h1, h2, h3, h4⟩]) h

/-- The parts of a literal. -/
def evParts (L : Tmps) : List (Nat × Operand) → Option (List (Nat × Value))
  | [] => some []
  | (n, y) :: r => match evL L y, evParts L r with
    | some v, some vs => some ((n, v) :: vs)
    | _, _ => none

theorem Has.parts {s : ASt} (h : Has s.t L) : ∀ {ps : List (Nat × Operand)} {vs : List (Nat × Value)}, evParts L ps = some vs → ps.map (fun q => (q.1, s.ev q.2)) = vs
  | [], vs, hp => by simp [evParts] at hp; subst hp; rfl
  | (n, y) :: r, vs, hp => by
    unfold evParts at hp
    split at hp
    · rename_i v us h1 h2
      obtain rfl := Option.some.inj hp
      rw [List.map_cons, Has.parts h h2, h.ev h1]
    · cases hp

theorem parts_arr {s : ASt} {ps : Array (Nat × Operand)} {vs : List (Nat × Value)} (h : Has s.t L) (hp : evParts L ps.toList = some vs) : (ps.map fun (q : Nat × Operand) => (q.1, s.ev q.2)) = vs.toArray := by
  apply Array.toList_inj.1
  rw [Array.toList_map, h.parts hp]

theorem WXL.buildSlice {ty e : TypeId} {len : Nat} {ps : Array (Nat × Operand)} {vs : List (Nat × Value)} {sz : Nat} {z : Value} {c : List Value} (hw : Met x L ops gd) (hp : evParts L ps.toList = some vs) (he : elemOf P ty = some e) (hs : szOf P e = some sz) (hz : zeroOf P e = some z)
    (h1 : len * sz ≤ 16777216) (h2 : 0 < sz) (h3 : z.cells.size = sz) (h4 : vs.map (·.1) = List.range len) (h5' : (vs.all fun q => Nat.beq q.2.cells.toList.length sz && q.2.cells.toList.all isCell) = true) (hc : (vs.map fun q => q.2.cells.toList).flatten = c)
    (h : ∀ b, WXL P x ops mq (i + 1) l ((d, Row b 0 len len) :: L) ((b, ⟨sz, false, c⟩) :: O) K) : WXL P x ops mq i ({ dst := some d, op := .buildSlice ty len ps, type := t, pos := p, after := af, guard := gd } :: l) L O K :=
  WXL.fresh (V := fun b => Row b 0 len len) rfl hw (fun s hst => by
    subst hc
    have h5 : (vs.all fun q => q.2.cells.size == sz && q.2.cells.all isCell) = true := by
      rw [List.all_eq_true] at h5' ⊢
      intro q hq
      have := h5' q hq
      rw [← Array.all_toList]
      simp only [Bool.and_eq_true] at this ⊢
      exact ⟨beq_iff_eq.2 (Nat.eq_of_beq_eq_true this.1), this.2⟩
    have e1 : (ps.map fun (q : Nat × Operand) => (q.1, s.ev q.2)) = vs.toArray := parts_arr hst.t hp
    simp only [aop]
    rw [show (ps.map fun (q : Nat × Operand) => match q with | (i, x) => (i, s.ev x)) = vs.toArray from e1]
    unfold litA
    simp only [he, hs, hz]
    rw [if_pos ⟨h1, h2, h3, h4, h5⟩]) h

theorem WXL.build {ty : TypeId} {ps : Array (Nat × Operand)} {vs : List (Nat × Value)} {z : Value} {pl : List (Nat × Nat)} {c : List Value} (hw : Met x L ops gd) (hp : evParts L ps.toList = some vs) (hz : zeroOf P ty = some z) (hpl : placesOf P ty = some pl)
    (hc : fillL (pl[·]?) z.cells.toList vs = some c) (h : WXL P x ops mq (i + 1) l ((d, .agg c.toArray) :: L) O K) : WXL P x ops mq i ({ dst := some d, op := .build ty ps, type := t, pos := p, after := af, guard := gd } :: l) L O K :=
  WXL.val (.inl rfl) hw (fun s hst => by
    have e1 : (ps.map fun (q : Nat × Operand) => (q.1, s.ev q.2)) = vs.toArray := parts_arr hst.t hp
    simp only [aop]
    rw [show (ps.map fun (q : Nat × Operand) => match q with | (i, x) => (i, s.ev x)) = vs.toArray from e1]
    unfold buildA
    simp only [hz, hpl, hc, Option.map_some]) h

/-! ### Stores and appends -/
theorem WXL.store {y z : Operand} {ty : TypeId} (j : Nat) {b off sz : Nat} {c vs c' : List Value} {v : Value} (hw : Met x L ops gd) (hq : x.q = false) (hy : evL L y = some (Ptr b off)) (hz : evL L z = some v) (hj : O[j]? = some (b, ⟨sz, false, c⟩)) (hv : v.cells.toList = vs)
    (hs : szOf P ty = some vs.length) (hl : off + vs.length ≤ c.length) (ha : vs.all isCell = true) (hc : splice c off vs = c') (hcl : Clear O j mq.Z) (hO : O.set j (b, ⟨sz, false, c'⟩) = O') (h : WXL P x ops mq (i + 1) l L O' K) :
    WXL P x ops mq i ({ dst := none, op := .store ty y z, type := t, pos := p, after := af, guard := gd } :: l) L O K :=
  WXL.stepG (.inl rfl) hw fun s hst hzz => by
    have hne := hcl.ne hst.sat hj
    obtain ⟨f, k, hb⟩ := hst.sat.at hj
    subst hv hc hO
    have hlen : v.cells.toList.length = v.cells.size := rfl
    rw [hlen] at hs hl
    rw [Array.all_toList] at ha
    refine ⟨undef, s.h.set b (.cells sz false f none (k + 1) (splice c off v.cells.toList)), ?_, fun hn => (by simp [isStoreOp] at hn), fun z hm => (by simp only [AHeap.set]; rw [if_neg (hne z hm)]), L, O.set j (b, ⟨sz, false, splice c off v.cells.toList⟩), ⟨hst.m, hst.t, hst.sat.set hj hb, fun hx => (by rw [hq] at hx; cases hx)⟩, h⟩
    simp only [aop, hst.t.ev hy, hst.t.ev hz]
    unfold storeA
    have hb' : s.h.o b = .cells sz false f none k c := hb
    rw [hb']
    simp only
    rw [if_pos ⟨hs, hl, ha⟩]
    rfl

theorem Quiet.app {h : AHeap} {b sz f k : Nat} {c cn : List Value} (hb : h.o b = .cells sz false f none k c) : Quiet h ((h.set b (.cells sz false f (some h.n) k c)).new (.cells sz false f none 0 cn)) := by
  refine ⟨Nat.le_succ _, fun b' hb' => ?_⟩
  show (if b' = h.n then _ else if b' = b then _ else h.o b') = h.o b' ∨ ∃ sz0 f0 k0 c0 m, h.o b' = .cells sz0 false f0 none k0 c0 ∧ (if b' = h.n then _ else if b' = b then _ else h.o b') = .cells sz0 false f0 (some m) k0 c0 ∧ h.n ≤ m
  rw [if_neg (by omega)]
  by_cases e : b' = b
  · subst e
    right
    exact ⟨sz, f, k, c, h.n, hb, by rw [if_pos rfl], Nat.le_refl _⟩
  · left
    rw [if_neg e]

/-- `append` to a row that ends where its object does. -/
theorem WXL.append {y z : Operand} {ty tz e : TypeId} (j : Nat) {b off n cp sz by_ m : Nat} {c cs c' : List Value} {v zv : Value} (hw : Met x L ops gd) (hq : x.q = false) (hy : evL L y = some (Row b off n cp)) (hz : evL L z = some v) (hr : isRowT P tz = true)
    (hj : O[j]? = some (b, ⟨sz, false, c⟩)) (hsrc : Src O sz v m cs) (he : elemOf P ty = some e) (hs : szOf P e = some sz) (hby : byOf P e = some by_) (hzv : zeroOf P e = some zv) (h3 : zv.cells.size = sz)
    (hl : off + n * sz = c.length) (hf : (n + m) * by_ ≤ 140737488355328) (h1 : 0 < sz) (h2 : 0 < by_) (hc : c.drop off ++ cs = c') (hcl : Clear O j mq.Z) {OO : Nat → Objs} (hO : ∀ b, O.set j (b, ⟨sz, false, c'⟩) = OO b)
    (h : ∀ b, WXL P x ops mq (i + 1) l ((d, Row b 0 (n + m) (n + m)) :: L) (OO b) K) :
    WXL P x ops mq i ({ dst := some d, op := .call { callee := .builtin .append, args := #[y, z], argTypes := #[ty, tz] }, type := t, pos := p, after := af, guard := gd } :: l) L O K :=
  WXL.stepG (.inl rfl) hw fun s hst hzz => by
    have hne := hcl.ne hst.sat hj
    obtain ⟨f, k, hb⟩ := hst.sat.at hj
    subst hc
    refine ⟨Row s.h.n 0 (n + m) (n + m), (s.h.set b (.cells sz false f (some s.h.n) k c)).new (.cells sz false f none 0 (c.drop off ++ cs)), ?_, fun _ => Quiet.app hb, fun z hm => (by
      have := hzz z hm
      show (if z = s.h.n then _ else if z = b then _ else s.h.o z) = s.h.o z
      rw [if_neg (by omega), if_neg (hne z hm)]), (d, Row s.h.n 0 (n + m) (n + m)) :: L, _,
      ⟨hst.m, hst.t.put _ _ _, hst.sat.app hj hb _, fun hx => (by rw [hq] at hx; cases hx)⟩, by rw [hO]; exact h s.h.n⟩
    have hb' : s.h.o b = .cells sz false f none k c := hb
    have hfit : fitsA by_ (n + m) = true := by unfold fitsA; exact decide_eq_true hf
    simp only [aop, hst.t.ev hy, hst.t.ev hz, hr, if_true]
    unfold appendA
    simp only [he, hs, hby, hzv, Option.map_some, hsrc _ hst.sat, h3, hb', ne_eq, not_true_eq_false, if_false]
    rw [if_pos ⟨trivial, hl, hfit, h1, h2⟩]

/-- `append` to nil: a new row. -/
theorem WXL.append0 {y z : Operand} {ty tz e : TypeId} {sz by_ m : Nat} {cs : List Value} {v zv : Value} (hw : Met x L ops gd) (hy : evL L y = some (.slice none 0 0)) (hz : evL L z = some v) (hr : isRowT P tz = true)
    (hsrc : Src O sz v m cs) (he : elemOf P ty = some e) (hs : szOf P e = some sz) (hby : byOf P e = some by_) (hzv : zeroOf P e = some zv) (h3 : zv.cells.size = sz)
    (hm : 0 < m) (hf : m * by_ ≤ 140737488355328) (h1 : 0 < sz) (h2 : 0 < by_)
    (h : ∀ b, WXL P x ops mq (i + 1) l ((d, Row b 0 m m) :: L) ((b, ⟨sz, false, cs⟩) :: O) K) :
    WXL P x ops mq i ({ dst := some d, op := .call { callee := .builtin .append, args := #[y, z], argTypes := #[ty, tz] }, type := t, pos := p, after := af, guard := gd } :: l) L O K :=
  WXL.fresh (V := fun b => Row b 0 m m) rfl hw (fun s hst => by
    have hfit : fitsA by_ m = true := by unfold fitsA; exact decide_eq_true hf
    simp only [aop, hst.t.ev hy, hst.t.ev hz, hr, if_true]
    unfold appendA
    simp only [he, hs, hby, hzv, Option.map_some, hsrc _ hst.sat, h3, ne_eq, not_true_eq_false, if_false]
    rw [if_neg (by omega), if_pos ⟨hfit, h1, h2⟩]) h

/-- `append` of nothing to nil. -/
theorem WXL.append00 {y z : Operand} {ty tz e : TypeId} {sz by_ : Nat} {cs : List Value} {v zv : Value} (hw : Met x L ops gd) (hy : evL L y = some (.slice none 0 0)) (hz : evL L z = some v) (hr : isRowT P tz = true)
    (hsrc : Src O sz v 0 cs) (he : elemOf P ty = some e) (hs : szOf P e = some sz) (hby : byOf P e = some by_) (hzv : zeroOf P e = some zv) (h3 : zv.cells.size = sz)
    (h : WXL P x ops mq (i + 1) l ((d, .slice none 0 0) :: L) O K) :
    WXL P x ops mq i ({ dst := some d, op := .call { callee := .builtin .append, args := #[y, z], argTypes := #[ty, tz] }, type := t, pos := p, after := af, guard := gd } :: l) L O K :=
  WXL.val (.inl rfl) hw (fun s hst => by
    simp only [aop, hst.t.ev hy, hst.t.ev hz, hr, if_true]
    unfold appendA
    simp only [he, hs, hby, hzv, Option.map_some, hsrc _ hst.sat, h3, ne_eq, not_true_eq_false, if_false, if_true]) h

end Go.Proofs.Ytjmklialkjncaaa.Eng

set_option linter.unusedVariables false
set_option linter.unusedSimpArgs false
namespace Go.Proofs.Ytjmklialkjncaaa.Eng

def nth {α : Type} [Inhabited α] (l : List α) (i : Nat) : α := l.getD i default

theorem nth_eq {α : Type} [Inhabited α] {l : List α} {i : Nat} (h : i < l.length) : l[i]? = some (nth l i) := by
  unfold nth
  rw [List.getD_eq_getElem?_getD, List.getElem?_eq_getElem h]
  rfl

theorem nth_get {α : Type} [Inhabited α] {l : List α} {i : Nat} (h : i < l.length) : nth l i = l[i] := by
  unfold nth
  rw [List.getD_eq_getElem?_getD, List.getElem?_eq_getElem h]
  rfl

theorem nth_append_left {α : Type} [Inhabited α] {l m : List α} {i : Nat} (h : i < l.length) : nth (l ++ m) i = nth l i := by
  rw [nth_get h, nth_get (by rw [List.length_append]; omega), List.getElem_append_left h]

theorem nth_append_len {α : Type} [Inhabited α] {l : List α} {a : α} : nth (l ++ [a]) l.length = a := by
  rw [nth_get (by simp), List.getElem_append_right (Nat.le_refl _)]
  simp

theorem nth_set {α : Type} [Inhabited α] {l : List α} {i j : Nat} {a : α} (hi : i < l.length) (hj : j < l.length) : nth (l.set i a) j = if i = j then a else nth l j := by
  rw [nth_get (by simpa using hj), List.getElem_set, nth_get hj]

theorem nth_mem {α : Type} [Inhabited α] {l : List α} {i : Nat} (h : i < l.length) : nth l i ∈ l := by rw [nth_get h]; exact List.getElem_mem h

theorem nth_map {α β : Type} [Inhabited α] [Inhabited β] {f : α → β} {l : List α} {i : Nat} (h : i < l.length) : nth (l.map f) i = f (nth l i) := by
  rw [nth_get (by simpa using h), nth_get h, List.getElem_map]

theorem ext_nth {α : Type} [Inhabited α] {l m : List α} (hl : l.length = m.length) (h : ∀ i, i < l.length → nth l i = nth m i) : l = m :=
  List.ext_getElem hl fun i h1 h2 => by rw [← nth_get h1, ← nth_get h2]; exact h i h1

/-! ### Rows of one cell an element -/
theorem cell_map {α : Type} [Inhabited α] (V : α → Value) (l : List α) (k : Nat) (h : k < l.length) : (l.map V)[k]? = some (V (nth l k)) := by
  rw [List.getElem?_map, nth_eq h]; rfl

theorem splice_map {α : Type} (V : α → Value) (l : List α) (k : Nat) (a : α) (h : k < l.length) : splice (l.map V) k [V a] = (l.set k a).map V := by
  unfold splice
  rw [List.map_set, List.set_eq_take_append_cons_drop, if_pos (by simpa using h)]
  simp

theorem zerosL_map {α : Type} (V : α → Value) (a : α) (n : Nat) : zerosL [V a] n = (List.replicate n a).map V := by
  induction n with
  | zero => rfl
  | succ n ih => simp only [zerosL, ih, List.replicate_succ, List.map_cons, List.cons_append, List.nil_append]

/-! ### Rows of more cells an element -/
def flat {α : Type} (E : α → List Value) (l : List α) : List Value := (l.map E).flatten

theorem flat_length {α : Type} {E : α → List Value} {n : Nat} (hE : ∀ a, (E a).length = n) (l : List α) : (flat E l).length = l.length * n := by
  unfold flat
  induction l with
  | nil => simp
  | cons a l ih => rw [List.map_cons, List.flatten_cons, List.length_append, hE, ih, List.length_cons, Nat.succ_mul]; omega

theorem flat_drop {α : Type} {E : α → List Value} {n : Nat} (hE : ∀ a, (E a).length = n) (l : List α) (k : Nat) : (flat E l).drop (k * n) = flat E (l.drop k) := by
  unfold flat
  induction l generalizing k with
  | nil => simp
  | cons a l ih =>
    cases k with
    | zero => simp
    | succ k =>
      rw [List.map_cons, List.flatten_cons, List.drop_append, hE]
      have e1 : (E a).drop ((k + 1) * n) = [] := List.drop_eq_nil_of_le (by rw [hE, Nat.succ_mul]; omega)
      have e2 : (k + 1) * n - n = k * n := by rw [Nat.succ_mul]; omega
      rw [e1, e2, List.nil_append, ih]
      simp

theorem flat_append {α : Type} {E : α → List Value} (l m : List α) : flat E (l ++ m) = flat E l ++ flat E m := by simp [flat]

theorem cellsAt_flat {α : Type} [Inhabited α] {E : α → List Value} {n : Nat} (hE : ∀ a, (E a).length = n) (l : List α) (k : Nat) (h : k < l.length) : cellsAt (flat E l) (k * n) n = some (E (nth l k)) := by
  unfold cellsAt
  rw [flat_length hE, flat_drop hE]
  have h1 : (k + 1) * n ≤ l.length * n := Nat.mul_le_mul_right _ h
  rw [Nat.succ_mul] at h1
  rw [if_pos h1, List.drop_eq_getElem_cons h, nth_get h]
  unfold flat
  rw [List.map_cons, List.flatten_cons, List.take_append, hE, Nat.sub_self, List.take_zero, List.append_nil, List.take_of_length_le (Nat.le_of_eq (hE _))]

theorem cell_flat {α : Type} [Inhabited α] {E : α → List Value} {n : Nat} (hE : ∀ a, (E a).length = n) (l : List α) (k j : Nat) (h : k < l.length) (hj : j < n) : (flat E l)[k * n + j]? = (E (nth l k))[j]? := by
  have e : (flat E l)[k * n + j]? = ((flat E l).drop (k * n))[j]? := by rw [List.getElem?_drop]
  rw [e, flat_drop hE, List.drop_eq_getElem_cons h, nth_get h]
  unfold flat
  rw [List.map_cons, List.flatten_cons, List.getElem?_append_left (by rw [hE]; exact hj)]

theorem splice_flat {α : Type} {E : α → List Value} {n : Nat} (hE : ∀ a, (E a).length = n) (l : List α) (k : Nat) (a : α) (h : k < l.length) : splice (flat E l) (k * n) (E a) = flat E (l.set k a) := by
  unfold splice
  rw [hE, show k * n + n = (k + 1) * n from by rw [Nat.succ_mul], flat_drop hE]
  have e1 : (flat E l).take (k * n) = flat E (l.take k) := by
    have : flat E l = flat E (l.take k) ++ flat E (l.drop k) := by rw [← flat_append, List.take_append_drop]
    rw [this, List.take_append_of_le_length (by rw [flat_length hE, List.length_take]; exact Nat.mul_le_mul_right _ (by omega)), List.take_of_length_le (by rw [flat_length hE, List.length_take]; exact Nat.mul_le_mul_right _ (by omega))]
  rw [e1, List.set_eq_take_append_cons_drop, if_pos h, flat_append]
  unfold flat
  simp

theorem zerosL_flat {α : Type} {E : α → List Value} (a : α) (n : Nat) : zerosL (E a) n = flat E (List.replicate n a) := by
  unfold flat
  induction n with
  | zero => rfl
  | succ n ih => simp only [zerosL, ih, List.replicate_succ, List.map_cons, List.flatten_cons]

/-! ### Whole numbers within their kind -/
theorem binV_add {a b : Int} (h1 : -9223372036854775808 ≤ a + b) (h2 : a + b ≤ 9223372036854775807) : binV .add .i64 a b = some (I (a + b)) := by
  show some (Value.int .i64 (IntKind.wrap .i64 (a + b))) = _
  rw [wrap_i64 h1 h2]
theorem binV_sub {a b : Int} (h1 : -9223372036854775808 ≤ a - b) (h2 : a - b ≤ 9223372036854775807) : binV .sub .i64 a b = some (I (a - b)) := by
  show some (Value.int .i64 (IntKind.wrap .i64 (a - b))) = _
  rw [wrap_i64 h1 h2]
theorem binV_mul {a b : Int} (h1 : -9223372036854775808 ≤ a * b) (h2 : a * b ≤ 9223372036854775807) : binV .mul .i64 a b = some (I (a * b)) := by
  show some (Value.int .i64 (IntKind.wrap .i64 (a * b))) = _
  rw [wrap_i64 h1 h2]

theorem Src.ints {O : Objs} {b n c : Nat} {ro : Bool} {l : List Int} (hk : Knows O b ⟨1, ro, l.map I⟩) (hn : n = l.length) : Src O 1 (Row b 0 n c) n (l.map I) := by
  subst hn
  refine Src.of hk (by simp) ?_
  simp only [List.drop_zero, Nat.mul_one]
  exact List.take_of_length_le (by simp)

end Go.Proofs.Ytjmklialkjncaaa.Eng

set_option linter.unusedVariables false
set_option linter.unusedSimpArgs false
namespace Go.Proofs.Ytjmklialkjncaaa.Eng

variable {P : Program} {x : Cx} {L L' : Tmps} {O O' : Objs} {ops : Array Oper} {mq : Mk} {i : Nat} {l : List Oper} {K : ASt → Prop}
  {t u : TypeId} {p : String} {af : Array Edge} {gd : Option (Nat × Bool)} {d : Tmp}

theorem Sat.tail {h : AHeap} {q : Nat × Ent} (hs : Sat h (q :: O)) : Sat h O :=
  ⟨(List.nodup_cons.1 hs.nd).2, fun r hr => hs.is r (List.mem_cons_of_mem _ hr), hs.wf⟩

theorem Src.cons {q : Nat × Ent} {sz n : Nat} {v : Value} {cs : List Value} (h : Src O sz v n cs) : Src (q :: O) sz v n cs := fun g hg => h g hg.tail
theorem Knows.cons {q : Nat × Ent} {b : Nat} {y : Ent} (h : Knows O b y) : Knows (q :: O) b y := fun g hg => h g hg.tail
theorem Sat.app_right {h : AHeap} {N : Objs} (hs : Sat h (N ++ O)) : Sat h O := by
  induction N with
  | nil => exact hs
  | cons q N ih => exact ih hs.tail
theorem Src.app {N : Objs} {sz n : Nat} {v : Value} {cs : List Value} (h : Src O sz v n cs) : Src (N ++ O) sz v n cs := fun g hg => h g hg.app_right

/-- An element's address, in a row of which only the elements are known. -/
def ePtr (a : Option Addr) (k : Nat) : Value := match a with
  | some ⟨b, off, none⟩ => .pointer (some ⟨b, off + k, none⟩)
  | _ => undef

theorem srcA_some {h : AHeap} {sz : Nat} {a : Option Addr} {n c m : Nat} {cs : List Value} (hs : srcA h sz (.slice a n c) = some (m, cs)) :
    m = n ∧ ((a = none ∧ n = 0 ∧ cs = []) ∨ ∃ b off cc, a = some ⟨b, off, none⟩ ∧ h.rd b = some cc ∧ off + n * sz ≤ cc.length ∧ cs = (cc.drop off).take (n * sz)) := by
  cases a with
  | none =>
    cases n with
    | zero =>
      cases c with
      | zero =>
        simp only [srcA, Option.some.injEq, Prod.mk.injEq] at hs
        exact ⟨hs.1.symm, .inl ⟨rfl, rfl, hs.2.symm⟩⟩
      | succ c => simp [srcA] at hs
    | succ n => simp [srcA] at hs
  | some ad =>
    obtain ⟨b, off, sp⟩ := ad
    cases sp with
    | some q => simp [srcA] at hs
    | none =>
      unfold srcA at hs
      simp only at hs
      split at hs
      · rename_i cc hcc
        split at hs
        · rename_i hl
          simp only [Option.some.injEq, Prod.mk.injEq] at hs
          exact ⟨hs.1.symm, .inr ⟨b, off, cc, rfl, hcc, hl, hs.2.symm⟩⟩
        · cases hs
      · cases hs

theorem Src.length {sz : Nat} {a : Option Addr} {n c m : Nat} {cs : List Value} {h : AHeap} (hs : Src O sz (.slice a n c) m cs) (hh : Sat h O) : m = n ∧ cs.length = n * sz := by
  obtain ⟨h1, h2 | ⟨b, off, cc, _, _, h3, h4⟩⟩ := srcA_some (hs h hh)
  · obtain ⟨_, h3, h4⟩ := h2; subst h1 h3 h4; exact ⟨rfl, by simp⟩
  · subst h1 h4; exact ⟨rfl, by rw [List.length_take, List.length_drop]; omega⟩

theorem WXL.indexS {y z : Operand} {ty e : TypeId} {a : Option Addr} {n c m sz : Nat} {cs : List Value} {k : IntKind} {j : Int} {off' : Nat} (hw : Met x L ops gd) (hy : evL L y = some (.slice a n c)) (hz : evL L z = some (.int k j))
    (he : elemOf P ty = some e) (hs : szOf P e = some sz) (hsrc : Src O sz (.slice a n c) m cs) (h0 : 0 ≤ j) (h1 : j < n) (ho : j.toNat * sz = off') (h : WXL P x ops mq (i + 1) l ((d, ePtr a off') :: L) O K) :
    WXL P x ops mq i ({ dst := some d, op := .indexAddr ty y z, type := t, pos := p, after := af, guard := gd } :: l) L O K :=
  WXL.val (.inl rfl) hw (fun s hst => by
    subst ho
    obtain ⟨_, ⟨_, h2, _⟩ | ⟨b, off, cc, ha, _⟩⟩ := srcA_some (hsrc _ hst.sat)
    · omega
    · subst ha
      simp only [aop, hst.t.ev hy, hst.t.ev hz, indexA, he, hs, Option.bind_some]
      rw [if_pos ⟨h0, h1⟩]
      rfl) h

theorem WXL.fieldS {y : Operand} {ty : TypeId} {a : Option Addr} {n c m sz k f g0 : Nat} {cs : List Value} {fs : Array Field} {g : Field} {off' : Nat} (hw : Met x L ops gd) (hy : evL L y = some (ePtr a k)) (hu : P.underlying ty = some (.struct fs)) (hg : fs[f]? = some g)
    (hs : szOf P g.type = some (g0 + 1)) (hsrc : Src O sz (.slice a n c) m cs) (hn : k < cs.length) (ho : k + g.offset = off') (h : WXL P x ops mq (i + 1) l ((d, ePtr a off') :: L) O K) :
    WXL P x ops mq i ({ dst := some d, op := .fieldAddr ty y f, type := t, pos := p, after := af, guard := gd } :: l) L O K :=
  WXL.val (.inl rfl) hw (fun s hst => by
    subst ho
    obtain ⟨_, ⟨_, _, h2⟩ | ⟨b, off, cc, ha, _⟩⟩ := srcA_some (hsrc _ hst.sat)
    · subst h2; simp at hn
    · subst ha
      have hy' : s.ev y = Ptr b (off + k) := hst.t.ev hy
      simp only [aop, hy', fieldA, hu, hg, hs, ePtr, Nat.add_assoc]
      rfl) h

theorem WXL.load1S {y : Operand} {ty : TypeId} {a : Option Addr} {n c m sz k : Nat} {cs : List Value} {v : Value} (hlz : mq.lz i = false) (hw : Met x L ops gd) (hy : evL L y = some (ePtr a k)) (hsrc : Src O sz (.slice a n c) m cs) (ht : isAggT P ty = some false) (hv : cs[k]? = some v)
    (h : WXL P x ops mq (i + 1) l ((d, v) :: L) O K) : WXL P x ops mq i ({ dst := some d, op := .load ty y, type := t, pos := p, after := af, guard := gd } :: l) L O K :=
  WXL.val (.inr hlz) hw (fun s hst => by
    obtain ⟨_, ⟨_, _, h2⟩ | ⟨b, off, cc, ha, hrd, hl, hcs⟩⟩ := srcA_some (hsrc _ hst.sat)
    · subst h2; simp at hv
    · subst ha hcs
      have hy' : s.ev y = Ptr b (off + k) := hst.t.ev hy
      rw [List.getElem?_take] at hv
      split at hv
      · rw [List.getElem?_drop] at hv
        simp only [aop, hy', loadA, hrd, ht, hv]
        rfl
      · cases hv) h

theorem WXL.loadNS {y : Operand} {ty : TypeId} {a : Option Addr} {n c m sz k w : Nat} {cs vs : List Value} (hlz : mq.lz i = false) (hw : Met x L ops gd) (hy : evL L y = some (ePtr a k)) (hsrc : Src O sz (.slice a n c) m cs) (ht : isAggT P ty = some true) (hn : szOf P ty = some (w + 1)) (hv : cellsAt cs k (w + 1) = some vs)
    (h : WXL P x ops mq (i + 1) l ((d, .agg vs.toArray) :: L) O K) : WXL P x ops mq i ({ dst := some d, op := .load ty y, type := t, pos := p, after := af, guard := gd } :: l) L O K :=
  WXL.val (.inr hlz) hw (fun s hst => by
    unfold cellsAt at hv
    split at hv
    · rename_i hlen
      obtain rfl := Option.some.inj hv
      obtain ⟨_, ⟨_, _, h2⟩ | ⟨b, off, cc, ha, hrd, hl, hcs⟩⟩ := srcA_some (hsrc _ hst.sat)
      · subst h2; simp at hlen
      · subst ha hcs
        have hy' : s.ev y = Ptr b (off + k) := hst.t.ev hy
        rw [List.length_take, List.length_drop] at hlen
        have hlen2 : off + k + (w + 1) ≤ cc.length := by omega
        simp only [aop, hy', loadA, hrd, ht, hn]
        rw [if_pos hlen2, List.drop_take, List.drop_drop, List.take_take, Nat.min_eq_left (by omega)]
        rfl
    · cases hv) h

end Go.Proofs.Ytjmklialkjncaaa.Eng

set_option linter.unusedVariables false
set_option linter.unusedSimpArgs false
namespace Go.Proofs.Ytjmklialkjncaaa.Eng

variable {P : Program} {x : Cx} {L L' : Tmps} {O O' : Objs} {ops : Array Oper} {mq : Mk} {i : Nat} {l : List Oper} {K : ASt → Prop}
  {t u : TypeId} {p : String} {af : Array Edge} {gd : Option (Nat × Bool)} {d : Tmp}

/-- A row of one's own, nil or not, and its object. -/
def Grow (sz : Nat) (a : Option Addr) (n c : Nat) (cs : List Value) (G : Objs) : Prop :=
  (a = none ∧ n = 0 ∧ c = 0 ∧ cs = [] ∧ G = []) ∨ (∃ b, a = some ⟨b, 0, none⟩ ∧ G = [(b, ⟨sz, false, cs⟩)] ∧ cs.length = n * sz)

theorem Grow.nil {sz : Nat} : Grow sz none 0 0 [] [] := .inl ⟨rfl, rfl, rfl, rfl, rfl⟩
theorem Grow.row {sz b n c : Nat} {cs : List Value} (h : cs.length = n * sz) : Grow sz (some ⟨b, 0, none⟩) n c cs [(b, ⟨sz, false, cs⟩)] := .inr ⟨b, rfl, rfl, h⟩

theorem Grow.src {sz : Nat} {a : Option Addr} {n c : Nat} {cs : List Value} {G R : Objs} (hg : Grow sz a n c cs G) : Src (G ++ R) sz (.slice a n c) n cs := by
  rcases hg with ⟨rfl, rfl, rfl, rfl, rfl⟩ | ⟨b, rfl, rfl, hl⟩
  · exact Src.nil
  · refine Src.of (Knows.at 0 rfl) ?_ ?_
    · show 0 + n * sz ≤ cs.length
      omega
    · show (cs.drop 0).take (n * sz) = cs
      rw [List.drop_zero, List.take_of_length_le (by omega)]

theorem Grow.src0 {sz : Nat} {a : Option Addr} {n c : Nat} {cs : List Value} {G : Objs} (hg : Grow sz a n c cs G) : Src G sz (.slice a n c) n cs := by
  have := hg.src (R := [])
  rw [List.append_nil] at this
  exact this

theorem Sat.swap {h : AHeap} {G A R : Objs} (hs : Sat h (G ++ (A ++ R))) : Sat h (A ++ (G ++ R)) := by
  refine hs.perm ?_
  rw [← List.append_assoc, ← List.append_assoc]
  exact (List.perm_append_comm (l₁ := G) (l₂ := A)).append_right R

theorem St.swap {s : ASt} {G R : Objs} (A : Objs) (hs : St x L (G ++ (A ++ R)) s) : St x L (A ++ (G ++ R)) s := ⟨hs.m, hs.t, hs.sat.swap, hs.old⟩

/-- `append` to a row that grows. -/
theorem WXL.appendG {y z : Operand} {ty tz e : TypeId} {a : Option Addr} {n c sz by_ m : Nat} {cs new : List Value} {v zv : Value} {G : Objs} (A : Objs) {R : Objs} (hw : Met x L ops gd) (hq : x.q = false) (hy : evL L y = some (.slice a n c)) (hz : evL L z = some v) (hr : isRowT P tz = true)
    (hcl : mq.Z = []) (hO : O = A ++ (G ++ R)) (hg : Grow sz a n c cs G) (hsrc : Src O sz v m new) (he : elemOf P ty = some e) (hs : szOf P e = some sz) (hby : byOf P e = some by_) (hzv : zeroOf P e = some zv) (h3 : zv.cells.size = sz)
    (hf : (n + m) * by_ ≤ 140737488355328) (h1 : 0 < sz) (h2 : 0 < by_) (hm : new.length = m * sz)
    (h : ∀ a' c' G', Grow sz a' (n + m) c' (cs ++ new) G' → WXL P x ops mq (i + 1) l ((d, .slice a' (n + m) c') :: L) (A ++ (G' ++ R)) K) :
    WXL P x ops mq i ({ dst := some d, op := .call { callee := .builtin .append, args := #[y, z], argTypes := #[ty, tz] }, type := t, pos := p, after := af, guard := gd } :: l) L O K := by
  have hfit : fitsA by_ (n + m) = true := by unfold fitsA; exact decide_eq_true hf
  rcases hg with ⟨rfl, rfl, rfl, rfl, rfl⟩ | ⟨b, rfl, rfl, hl⟩
  · rcases Nat.eq_zero_or_pos m with hm0 | hm0
    · subst hm0
      have hnew : new = [] := List.length_eq_zero_iff.1 (by rw [hm, Nat.zero_mul])
      subst hnew
      refine WXL.append00 hw hy hz hr hsrc he hs hby hzv h3 ?_
      rw [hO]
      exact h none 0 [] (.inl ⟨rfl, rfl, rfl, rfl, rfl⟩)
    · refine WXL.append0 hw hy hz hr hsrc he hs hby hzv h3 hm0 (by rw [Nat.zero_add] at hf; exact hf) h1 h2 fun b => ?_
      have := h (some ⟨b, 0, none⟩) m [(b, ⟨sz, false, new⟩)] (.inr ⟨b, rfl, rfl, by rw [Nat.zero_add]; exact hm⟩)
      simp only [Nat.zero_add, List.nil_append] at this
      rw [hO]
      refine WXL.of (fun s hs => ?_) this
      exact St.swap (G := [(b, ⟨sz, false, new⟩)]) A hs
  · refine WXL.stepG (.inl rfl) hw fun s hst hzz => ?_
    have hj : O[A.length]? = some (b, ⟨sz, false, cs⟩) := by rw [hO, List.getElem?_append_right (Nat.le_refl _), Nat.sub_self]; rfl
    obtain ⟨f, k, hb⟩ := hst.sat.at hj
    have hb' : s.h.o b = .cells sz false f none k cs := hb
    have hset : O.set A.length (s.h.n, ⟨sz, false, cs ++ new⟩) = A ++ ([(s.h.n, ⟨sz, false, cs ++ new⟩)] ++ R) := by
      rw [hO, List.set_append_right _ _ (Nat.le_refl _), Nat.sub_self]; rfl
    refine ⟨Row s.h.n 0 (n + m) (n + m), (s.h.set b (.cells sz false f (some s.h.n) k cs)).new (.cells sz false f none 0 (cs ++ new)), ?_, fun _ => Quiet.app hb', fun z hm => (by rw [hcl] at hm; simp at hm), (d, Row s.h.n 0 (n + m) (n + m)) :: L, _,
      ⟨hst.m, hst.t.put _ _ _, hst.sat.app hj hb _, fun hx => (by rw [hq] at hx; cases hx)⟩, ?_⟩
    · simp only [aop, hst.t.ev hy, hst.t.ev hz, hr, if_true]
      unfold appendA
      simp only [he, hs, hby, hzv, Option.map_some, hsrc _ hst.sat, h3, hb', ne_eq, not_true_eq_false, if_false]
      rw [if_pos ⟨trivial, by omega, hfit, h1, h2⟩, List.drop_zero]
    · rw [hset]
      exact h (some ⟨s.h.n, 0, none⟩) (n + m) [(s.h.n, ⟨sz, false, cs ++ new⟩)] (.inr ⟨s.h.n, rfl, rfl, by rw [List.length_append, hl, hm, Nat.add_mul]⟩)

theorem off_succ (n : Nat) : ((n : Int) + 1).toNat = n + 1 := by omega

theorem tmod_range {a b : Int} (ha : 0 ≤ a) (hb : 0 < b) : 0 ≤ a.tmod b ∧ a.tmod b < b := by
  rw [Int.tmod_eq_emod_of_nonneg ha]
  exact ⟨Int.emod_nonneg _ (by omega), Int.emod_lt_of_pos _ hb⟩

theorem Knows.app {N : Objs} {b : Nat} {y : Ent} (h : Knows O b y) : Knows (N ++ O) b y := fun g hg => h g hg.app_right

def evs (L : Tmps) : List Operand → Option (List Value)
  | [] => some []
  | y :: ys => match evL L y, evs L ys with
    | some v, some vs => some (v :: vs)
    | _, _ => none

theorem Has.evs {s : ASt} (h : Has s.t L) : ∀ {ys : List Operand} {vs : List Value}, Eng.evs L ys = some vs → ys.map s.ev = vs
  | [], vs, hp => by simp [Eng.evs] at hp; subst hp; rfl
  | y :: r, vs, hp => by
    unfold Eng.evs at hp
    split at hp
    · rename_i v us h1 h2
      obtain rfl := Option.some.inj hp
      rw [List.map_cons, Has.evs h h2, h.ev h1]
    · cases hp

theorem WXL.makeFunc {f : FuncId} {aas cs : Array Operand} {vs us : List Value} (hw : Met x L ops gd) (ha : evs L aas.toList = some vs) (hc : evs L cs.toList = some us) (h : WXL P x ops mq (i + 1) l ((d, .func (.func f) vs.toArray us.toArray) :: L) O K) :
    WXL P x ops mq i ({ dst := some d, op := .makeFunc (.func f) aas cs, type := t, pos := p, after := af, guard := gd } :: l) L O K :=
  WXL.val (.inl rfl) hw (fun s hs => by
    have e1 : aas.map s.ev = vs.toArray := by apply Array.toList_inj.1; rw [Array.toList_map, hs.t.evs ha]
    have e2 : cs.map s.ev = us.toArray := by apply Array.toList_inj.1; rw [Array.toList_map, hs.t.evs hc]
    simp only [aop, e1, e2]) h

/-! ### Results that lie in cells -/
def ResOk (P : Program) (L : Tmps) (O : Objs) : List ResultVar → List Value → Prop
  | [], [] => True
  | .tmp t :: rs, v :: vs => getT L t = some v ∧ ResOk P L O rs vs
  | .cell a t :: rs, v :: vs => (∃ b off, getT L a = some (Ptr b off) ∧ ∀ h, Sat h O → loadA P h t b off = some v) ∧ ResOk P L O rs vs
  | _, _ => False

theorem ResOk.ok {s : ASt} (hs : St x L O s) : ∀ {rs : List ResultVar} {vs : List Value}, ResOk P L O rs vs → rs.mapM (resF P s) = some vs
  | [], [], _ => rfl
  | .tmp t :: rs, v :: vs, h => by
    rw [List.mapM_cons, ResOk.ok hs h.2]
    show (some (s.t t)).bind _ = _
    rw [hs.t t v h.1]; rfl
  | .cell a t :: rs, v :: vs, h => by
    obtain ⟨⟨b, off, h1, h2⟩, h3⟩ := h
    rw [List.mapM_cons, ResOk.ok hs h3]
    have : resF P s (.cell a t) = some v := by
      unfold resF
      simp only [hs.t a _ h1]
      exact h2 _ hs.sat
    rw [this]; rfl
  | [], _ :: _, h => h.elim
  | .tmp _ :: _, [], h => h.elim
  | .cell _ _ :: _, [], h => h.elim

theorem Fin.results {fn : Func} {Post : Value → Objs → Prop} {rs : List ResultVar} {vs : List Value} {e : Exit} (he : e = .normal ∨ e = .ret) (hr : fn.results.toList = rs) (hv : ResOk P L O rs vs) (hO : ∀ h, Sat h O → Sat h O') (hp : Post (tupleA vs) O') :
    Fin x L O e (bodyW P fn x Post) := by
  intro s hs
  have : ∃ vs O', resultsA P fn s = some vs ∧ Post (tupleA vs) O' ∧ Sat s.h O' ∧ (x.q = true → Old x.h0 s.h) :=
    ⟨vs, O', by unfold resultsA; rw [hr]; exact hv.ok hs, hp, hO _ hs.sat, hs.old⟩
  rcases he with rfl | rfl <;> exact this

theorem load_agg {b off n : Nat} {e : Ent} {vs : List Value} (hk : Knows O b e) (ht : isAggT P t = some true) (hn : szOf P t = some n) (hv : cellsAt e.c off n = some vs) : ∀ h, Sat h O → loadA P h t b off = some (.agg vs.toArray) := by
  intro h hh
  unfold cellsAt at hv
  split at hv
  · rename_i hlen
    obtain rfl := Option.some.inj hv
    unfold loadA
    simp only [(hk h hh).rd, ht, hn]
    rw [if_pos hlen]
  · cases hv

theorem load_one {b off : Nat} {e : Ent} {v : Value} (hk : Knows O b e) (ht : isAggT P t = some false) (hv : e.c[off]? = some v) : ∀ h, Sat h O → loadA P h t b off = some v := by
  intro h hh
  unfold loadA
  simp only [(hk h hh).rd, ht, hv]

/-- What is known of the objects of some places, in another order, and of the rest behind the first ones. -/
theorem Sat.told {h : AHeap} (is : List Nat) (n : Nat) (hnd : is.Nodup) (hlt : ∀ i ∈ is, i < n) (hO : Eng.pick O is ++ O.drop n = O') (hs : Sat h O) : Sat h O' := hO ▸ hs.pick is n hnd hlt

end Go.Proofs.Ytjmklialkjncaaa.Eng

set_option linter.unusedVariables false
set_option linter.unusedSimpArgs false
namespace Go.Proofs.Ytjmklialkjncaaa.Eng

variable {P : Program}

/-! ### 1. What an operation does to the heap -/
theorem aop_cases {o : Oper} {s : ASt} {v : Value} {h' : AHeap} (hv : aop P o s = some (v, h')) : h' = s.h ∨ (∃ sz c, h' = s.h.new (.cells sz false s.h.n none 0 c)) ∨
    (∃ b sz f k c c', s.h.o b = .cells sz false f none k c ∧ h' = s.h.set b (.cells sz false f none (k + 1) c')) ∨
    (∃ b sz f k c cn, s.h.o b = .cells sz false f none k c ∧ h' = (s.h.set b (.cells sz false f (some s.h.n) k c)).new (.cells sz false f none 0 cn)) := by
  unfold aop at hv
  simp only at hv
  have mp : ∀ {α : Type} {x : Option α} {u : α} {g : AHeap}, x.map (·, s.h) = some (u, g) → g = s.h := fun hx => by
    obtain ⟨_, rfl⟩ := map_pair hx; rfl
  split at hv
  all_goals first
    | exact .inl (mp hv)
    | (injection hv with hv; injection hv with h1 h2; exact .inl h2.symm)
    | skip
  · split at hv
    · injection hv with hv; injection hv with h1 h2; exact .inl h2.symm
    · injection hv with hv; injection hv with h1 h2; exact .inl h2.symm
    · cases hv
  · rename_i t _
    cases hz : zeroOf P t with
    | none => rw [hz] at hv; cases hv
    | some z => rw [hz] at hv; injection hv with hv; injection hv with h1 h2; exact .inr (.inl ⟨_, _, h2.symm⟩)
  · split at hv
    · injection hv with hv; injection hv with h1 h2; exact .inr (.inl ⟨_, _, h2.symm⟩)
    · cases hv
  · unfold litA at hv
    split at hv
    · split at hv
      · split at hv
        · injection hv with hv; injection hv with h1 h2; exact .inr (.inl ⟨_, _, h2.symm⟩)
        · cases hv
      · cases hv
    · cases hv
  · split at hv
    · exact .inl (mp hv)
    · cases hv
  · rename_i t x y _
    split at hv
    · rename_i b off _
      cases hs : storeA P s.h t b off (s.ev y) with
      | none => rw [hs] at hv; cases hv
      | some g =>
        rw [hs] at hv; injection hv with hv; injection hv with h1 h2; subst h2
        unfold storeA at hs
        split at hs
        · rename_i sz f k c ho
          split at hs
          · injection hs with hs; exact .inr (.inr (.inl ⟨_, _, _, _, _, _, ho, hs.symm⟩))
          · cases hs
        · cases hs
    · cases hv
  · split at hv
    · injection hv with hv; injection hv with h1 h2; exact .inl h2.symm
    · cases hv
  · split at hv
    · split at hv
      · unfold makeA at hv
        split at hv
        · split at hv
          · split at hv
            · injection hv with hv; injection hv with h1 h2; exact .inr (.inl ⟨_, _, h2.symm⟩)
            · cases hv
          · cases hv
        · cases hv
      · cases hv
    · cases hv
  · split at hv
    · exact .inl (mp hv)
    · cases hv
  · split at hv
    · exact .inl (mp hv)
    · cases hv
  · split at hv
    · split at hv
      · unfold appendA at hv
        split at hv
        · cases hv
        split at hv
        case h_2 => cases hv
        split at hv
        case h_2 => cases hv
        split at hv
        · cases hv
        split at hv
        · split at hv
          · injection hv with hv; injection hv with h1 h2; exact .inl h2.symm
          · split at hv
            · injection hv with hv; injection hv with h1 h2; exact .inr (.inl ⟨_, _, h2.symm⟩)
            · cases hv
        · split at hv
          · rename_i ho
            split at hv
            · rename_i hc
              obtain rfl := hc.1
              injection hv with hv; injection hv with h1 h2; exact .inr (.inr (.inr ⟨_, _, _, _, _, _, ho, h2.symm⟩))
            · cases hv
          · cases hv
        · cases hv
      · cases hv
    · cases hv
  all_goals cases hv

def isRo : AObj → Bool
  | .cells _ true _ _ _ _ => true
  | .dead => true
  | _ => false

def Stay (h h' : AHeap) : Prop := h.n ≤ h'.n ∧ ∀ b, b < h.n → isRo (h.o b) = true → h'.o b = h.o b

theorem Stay.refl (h : AHeap) : Stay h h := ⟨Nat.le_refl _, fun _ _ _ => rfl⟩
theorem Stay.trans {a b c : AHeap} (h1 : Stay a b) (h2 : Stay b c) : Stay a c := ⟨Nat.le_trans h1.1 h2.1, fun x hx hr => by
  have e := h1.2 x hx hr
  rw [h2.2 x (Nat.lt_of_lt_of_le hx h1.1) (by rw [e]; exact hr), e]⟩

theorem aop_stay {o : Oper} {s : ASt} {v : Value} {h' : AHeap} (hv : aop P o s = some (v, h')) : Stay s.h h' := by
  rcases aop_cases hv with rfl | ⟨sz, c, rfl⟩ | ⟨b, sz, f, k, c, c', ho, rfl⟩ | ⟨b, sz, f, k, c, cn, ho, rfl⟩
  · exact Stay.refl _
  · exact ⟨Nat.le_succ _, fun x hx _ => by simp only [AHeap.new]; rw [if_neg (by omega)]⟩
  · refine ⟨Nat.le_refl _, fun x hx hr => ?_⟩
    simp only [AHeap.set]
    rw [if_neg]
    intro e
    rw [e, ho] at hr
    cases hr
  · refine ⟨Nat.le_succ _, fun x hx hr => ?_⟩
    show (if x = s.h.n then _ else if x = b then _ else s.h.o x) = s.h.o x
    rw [if_neg (by omega), if_neg]
    intro e
    rw [e, ho] at hr
    cases hr

def StayJ : J → Prop
  | .code _ s _ s' => Stay s.h s'.h
  | .ops _ _ _ _ _ s s' => Stay s.h s'.h
  | .call _ _ h _ h' => Stay h h'

theorem stayJ {dr : Array Oper → (Nat → Bool) → (Nat → Bool) → Prop} {j : J} (hb : Big P dr j) : StayJ j := by
  induction hb with
  | skip | label | exit | ret | nil => exact Stay.refl _
  | region _ _ ih => exact ih
  | draw _ _ _ ih => exact ih
  | seq_n _ _ ih1 ih2 => exact Stay.trans ih1 ih2
  | seq_x _ _ ih => exact ih
  | cond_t _ _ _ ih => exact ih
  | cond_f _ _ _ ih => exact ih
  | block_n _ _ ih => exact ih
  | block_x _ ih => exact ih
  | loop_n _ _ ih1 ih2 => exact Stay.trans ih1 ih2
  | loop_x _ _ ih => exact ih
  | scope _ ih => exact ih
  | op _ _ ha _ _ _ _ ih =>
    have h2 : Stay _ _ := ih
    rw [put_h] at h2
    exact (aop_stay ha).trans h2
  | oplazy _ _ _ _ _ _ _ _ ih =>
    have h2 : Stay _ _ := ih
    rw [put_h] at h2
    exact h2
  | opcall _ _ _ _ _ _ _ _ ih1 ih2 =>
    have h2 : Stay _ _ := ih2
    rw [put_h] at h2
    exact Stay.trans ih1 h2
  | opskip _ _ _ ih =>
    have h2 : Stay _ _ := ih
    rw [put_h] at h2
    exact h2
  | call _ _ _ _ _ ih => exact ih

/-! ### 2. A run from a heap of which less may be written -/
def unro : AObj → AObj
  | .dead => .dead
  | .cells sz _ f st k c => .cells sz false f st k c

def AHeap.un (F : Nat → Bool) (h : AHeap) : AHeap := { n := h.n, o := fun b => bif F b then unro (h.o b) else h.o b }

variable {F : Nat → Bool} {h h' : AHeap}

theorem un_cells {b sz ro f st k c} (ho : h.o b = .cells sz ro f st k c) : ∃ ro', (h.un F).o b = .cells sz ro' f st k c := by
  simp only [AHeap.un, ho]
  cases F b
  · exact ⟨ro, rfl⟩
  · exact ⟨false, rfl⟩

theorem un_own {b sz f st k c} (ho : h.o b = .cells sz false f st k c) : (h.un F).o b = .cells sz false f st k c := by
  simp only [AHeap.un, ho]
  cases F b <;> rfl

theorem un_dead {b} (ho : h.o b = .dead) : (h.un F).o b = .dead := by
  simp only [AHeap.un, ho]
  cases F b <;> rfl

theorem un_same {b} (he : h'.o b = h.o b) : (h'.un F).o b = (h.un F).o b := by simp only [AHeap.un, he]

theorem un_rd (b : Nat) : (h.un F).rd b = h.rd b := by
  unfold AHeap.rd
  cases ho : h.o b with
  | dead => rw [un_dead ho]
  | cells sz ro f st k c =>
    obtain ⟨ro', e⟩ := un_cells (F := F) ho
    rw [e]
    cases st with
    | none => rfl
    | some m =>
      simp only
      cases hm : h.o m with
      | dead => rw [un_dead hm]
      | cells sz2 ro2 f2 st2 k2 c2 =>
        obtain ⟨ro3, e2⟩ := un_cells (F := F) hm
        rw [e2]
        cases st2 <;> cases k2 <;> rfl

theorem un_new {sz f st k c} : (h.new (.cells sz false f st k c)).un F = (h.un F).new (.cells sz false f st k c) := by
  unfold AHeap.un AHeap.new
  simp only [AHeap.mk.injEq, true_and]
  funext b
  by_cases e : b = h.n
  · rw [if_pos e, if_pos e]; cases F b <;> rfl
  · rw [if_neg e, if_neg e]

theorem un_set {b sz f st k c} : (h.set b (.cells sz false f st k c)).un F = (h.un F).set b (.cells sz false f st k c) := by
  unfold AHeap.un AHeap.set
  simp only [AHeap.mk.injEq, true_and]
  funext x
  by_cases e : x = b
  · rw [if_pos e, if_pos e]; cases F x <;> rfl
  · rw [if_neg e, if_neg e]

theorem un_n : (h.un F).n = h.n := rfl

theorem un_load {t : TypeId} {b off : Nat} : loadA P (h.un F) t b off = loadA P h t b off := by unfold loadA; rw [un_rd]

theorem un_src {sz : Nat} {v : Value} : srcA (h.un F) sz v = srcA h sz v := by
  unfold srcA
  split <;> first | rfl | rw [un_rd]

theorem un_slice {t : TypeId} {x : Value} {lo hi : Option Value} : sliceA P (h.un F) t x lo hi = sliceA P h t x lo hi := by
  unfold sliceA
  split
  · rfl
  · rfl
  · rename_i b off n c
    cases ho : h.o b with
    | dead => rw [un_dead ho]
    | cells sz ro f st k c =>
      obtain ⟨ro', e⟩ := un_cells (F := F) ho
      rw [e]
      cases (elemOf P t).bind (szOf P) <;> cases boundA lo 0 <;> cases boundA hi n <;> rfl
  · rfl

theorem un_store {t : TypeId} {b off : Nat} {v : Value} {g : AHeap} (hs : storeA P h t b off v = some g) : storeA P (h.un F) t b off v = some (g.un F) := by
  unfold storeA at hs
  split at hs
  · rename_i sz f k c ho
    split at hs
    · rename_i hc
      injection hs with hs
      unfold storeA
      rw [un_own ho]
      simp only
      rw [if_pos hc, ← hs, un_set]
    · cases hs
  · cases hs

theorem un_append {t : TypeId} {s x v : Value} {g : AHeap} (hs : appendA P h t s x = some (v, g)) : appendA P (h.un F) t s x = some (v, g.un F) := by
  unfold appendA at hs ⊢
  simp only [un_src]
  split at hs
  · cases hs
  split at hs
  case h_2 => cases hs
  split at hs
  case h_2 => cases hs
  split at hs
  · cases hs
  rename_i hz
  simp only [if_neg hz]
  split at hs
  · split at hs
    · rename_i h0
      rw [if_pos h0]
      injection hs with hs; injection hs with h1 h2
      rw [h1, h2]
    · rename_i h0
      rw [if_neg h0]
      split at hs
      · rename_i hc
        rw [if_pos hc]
        injection hs with hs; injection hs with h1 h2
        rw [← h1, ← h2, un_new]
        rfl
      · cases hs
  · split at hs
    · rename_i ho
      split at hs
      · rename_i hc
        rw [un_own ho]
        simp only
        rw [if_pos hc]
        injection hs with hs; injection hs with h1 h2
        rw [← h1, ← h2, un_new, un_set]
        rfl
      · cases hs
    · cases hs
  · cases hs

theorem un_make {t : TypeId} {n v : Value} {g : AHeap} (hs : makeA P h t n = some (v, g)) : makeA P (h.un F) t n = some (v, g.un F) := by
  unfold makeA at hs ⊢
  split at hs
  · split at hs
    · split at hs
      · rename_i hc
        rw [if_pos hc]
        injection hs with hs; injection hs with h1 h2
        rw [← h1, ← h2, un_new]
        rfl
      · cases hs
    · cases hs
  · cases hs

theorem un_lit {t : TypeId} {len : Nat} {ps : Array (Nat × Value)} {v : Value} {g : AHeap} (hs : litA P h t len ps = some (v, g)) : litA P (h.un F) t len ps = some (v, g.un F) := by
  unfold litA at hs ⊢
  split at hs
  · split at hs
    · split at hs
      · rename_i hc
        rw [if_pos hc]
        injection hs with hs; injection hs with h1 h2
        rw [← h1, ← h2, un_new]
        rfl
      · cases hs
    · cases hs
  · cases hs

theorem un_newA {cs : Array Value} : newA (h.un F) cs = ((newA h cs).1, (newA h cs).2.un F) := by
  unfold newA
  simp only [un_new]
  rfl

def ASt.un (F : Nat → Bool) (s : ASt) : ASt := { s with h := s.h.un F }

theorem un_ev (s : ASt) : (s.un F).ev = s.ev := ev_with s _
theorem un_put (s : ASt) (dst : Option Tmp) (v : Value) (g : AHeap) : (s.put dst v g).un F = (s.un F).put dst v (g.un F) := by cases dst <;> rfl

theorem un_aop {o : Oper} {s : ASt} {v : Value} (hv : aop P o s = some (v, h')) : aop P o (s.un F) = some (v, h'.un F) := by
  have mp : ∀ {α : Type} {x : Option α} {u : α} {g : AHeap}, x.map (·, s.h) = some (u, g) → x.map (·, s.h.un F) = some (u, g.un F) := fun hx => by
    obtain ⟨h1, h2⟩ := map_pair hx; subst h2; rw [h1]; rfl
  obtain ⟨dst, op, type, pos, after, guard⟩ := o
  unfold aop at hv ⊢
  simp only [un_ev] at hv ⊢
  have hh : (s.un F).h = s.h.un F := rfl
  rw [hh]
  cases op with
  | call c =>
    obtain ⟨callee, args, argTypes⟩ := c
    cases callee with
    | builtin b =>
      cases b <;> first
        | exact mp hv
        | (simp only at hv ⊢
           split at hv
           · first
             | exact mp hv
             | (split at hv
                · rename_i hc
                  simp only [if_pos hc]
                  exact un_append hv
                · cases hv)
           · cases hv)
    | _ => first | exact mp hv | cases hv
  | makeFunc fn first captured =>
    cases fn <;> first
      | exact mp hv
      | (injection hv with hv; injection hv with h1 h2; subst h1 h2; rfl)
  | pick c a b => simp only at hv ⊢; split at hv <;> first | (injection hv with hv; injection hv with h1 h2; subst h1 h2; rfl) | cases hv
  | nilCheck x => simp only at hv ⊢; split at hv <;> first | (injection hv with hv; injection hv with h1 h2; subst h1 h2; rfl) | cases hv
  | extract x i => simp only at hv ⊢; split at hv <;> first | exact mp hv | cases hv
  | move x => injection hv with hv; injection hv with h1 h2; subst h1 h2; rfl
  | assign x => injection hv with hv; injection hv with h1 h2; subst h1 h2; rfl
  | alloc t =>
    simp only at hv ⊢
    obtain ⟨z, hz, e⟩ := Option.map_eq_some_iff.1 hv
    rw [hz, Option.map_some, un_newA, e]
  | box t x =>
    simp only at hv ⊢
    split at hv
    · rename_i hc
      rw [if_pos hc, un_newA]
      injection hv with hv
      rw [hv]
    · cases hv
  | buildSlice t len parts => exact un_lit hv
  | load t x =>
    simp only at hv ⊢
    split at hv
    · rw [un_load]; exact mp hv
    · cases hv
  | store t x y =>
    simp only at hv ⊢
    split at hv
    · obtain ⟨g, hg, e⟩ := Option.map_eq_some_iff.1 hv
      injection e with e1 e2
      subst e1 e2
      rw [un_store hg]
      rfl
    · cases hv
  | makeSlice t n c =>
    simp only at hv ⊢
    split at hv
    · split at hv
      · rename_i hc
        rw [if_pos hc]
        exact un_make hv
      · cases hv
    · cases hv
  | slice t x lo hi mx =>
    cases mx with
    | none => simp only at hv ⊢; rw [un_slice]; exact mp hv
    | some _ => exact mp hv
  | _ => exact mp hv

def J.un (F : Nat → Bool) : J → J
  | .code c s e s' => .code c (s.un F) e (s'.un F)
  | .ops o q l Z t s s' => .ops o q l Z t (s.un F) (s'.un F)
  | .call f a h v h' => .call f a (h.un F) v (h'.un F)

theorem un_quiet (hq : Quiet h h') : Quiet (h.un F) (h'.un F) := ⟨hq.1, fun b hb => by
  rcases hq.2 b hb with q | ⟨sz, f, k, c, m, q1, q2, q3⟩
  · exact .inl (un_same q)
  · exact .inr ⟨sz, f, k, c, m, un_own q1, un_own q2, q3⟩⟩

theorem un_old (hq : Old h h') : Old (h.un F) (h'.un F) := ⟨hq.1, fun b hb => un_same (hq.2 b hb)⟩

theorem un_results {fn : Func} {s : ASt} : resultsA P fn (s.un F) = resultsA P fn s := by
  unfold resultsA
  congr 1
  funext r
  cases r with
  | tmp t => rfl
  | cell a t =>
    have e : ∀ x : Value, (match x with | .pointer (some ⟨b, off, none⟩) => loadA P (s.h.un F) t b off | _ => none) = (match x with | .pointer (some ⟨b, off, none⟩) => loadA P s.h t b off | _ => none) := by
      intro x
      split
      · exact un_load
      · rfl
    exact e (s.t a)

theorem un_callee {o : Oper} {s : ASt} : acallee P o (s.un F) = acallee P o s := by
  unfold acallee
  simp only [un_ev]

theorem big_un (F : Nat → Bool) {dr : Array Oper → (Nat → Bool) → (Nat → Bool) → Prop} {j : J} (hb : Big P dr j) : Big P dr (j.un F) := by
  induction hb with
  | skip => exact .skip
  | label => exact .label
  | exit => exact .exit
  | ret => exact .ret
  | region h1 _ ih => exact .region h1 ih
  | draw h1 h2 _ ih => exact .draw h1 h2 ih
  | seq_n _ _ ih1 ih2 => exact .seq_n ih1 ih2
  | seq_x _ h ih => exact .seq_x ih h
  | cond_t h1 h2 _ ih => exact .cond_t (by rw [un_ev]; exact h1) h2 ih
  | cond_f h1 h2 _ ih => exact .cond_f (by rw [un_ev]; exact h1) h2 ih
  | block_n _ h ih => exact .block_n ih h
  | block_x _ ih => exact .block_x ih
  | loop_n _ _ ih1 ih2 => exact .loop_n ih1 ih2
  | loop_x _ h ih => exact .loop_x ih h
  | scope _ ih => exact .scope ih
  | nil => exact .nil
  | op h1 h2 ha h3 h4 h5 _ ih =>
    refine .op h1 h2 (un_aop ha) (fun hm => un_quiet (h3 hm)) h4 (fun b hb => un_same (h5 b hb)) ?_
    rw [← un_put]
    exact ih
  | oplazy h1 h2 h3 h4 h5 h6 h7 _ ih =>
    obtain ⟨ro', e⟩ := un_cells (F := F) h5
    refine .oplazy h1 h2 h3 (by rw [un_ev]; exact h4) e (un_aop h6) h7 ?_
    have := ih
    simp only [J.un, un_put] at this
    exact this
  | opcall h1 h2 h3 _ h4 h5 h6 _ ih1 ih2 =>
    refine .opcall h1 h2 (by rw [un_callee]; exact h3) ih1 (fun hm => un_old (h4 hm)) h5 (fun b hb => un_same (h6 b hb)) ?_
    rw [← un_put]
    exact ih2
  | opskip h1 h2 _ ih =>
    refine .opskip h1 h2 ?_
    have := ih
    simp only [J.un, un_put] at this
    exact this
  | call h1 h2 _ h3 h4 ih => exact .call h1 h2 ih h3 (by rw [un_results]; exact h4)

/-! ### 3. Functions that write to objects of their own alone -/
def roE (y : Ent) : Ent := ⟨y.sz, true, y.c⟩
def roO (O : Objs) : Objs := O.map fun p => (p.1, roE p.2)
def mkro : AObj → AObj
  | .dead => .dead
  | .cells sz _ f st k c => .cells sz true f st k c
def AHeap.ro (h : AHeap) : AHeap := { n := h.n, o := fun b => mkro (h.o b) }
def wasOwn (h : AHeap) (b : Nat) : Bool := match h.o b with
  | .cells _ false _ _ _ _ => true
  | _ => false

theorem ro_un (h : AHeap) : h.ro.un (wasOwn h) = h := by
  obtain ⟨n, o⟩ := h
  unfold AHeap.un AHeap.ro wasOwn
  simp only [AHeap.mk.injEq, true_and]
  funext b
  cases o b with
  | dead => rfl
  | cells sz ro f st k c => cases ro <;> rfl

theorem mkro_inv {x : AObj} {sz ro f st k c} (h : mkro x = .cells sz ro f st k c) : ∃ ro', x = .cells sz ro' f st k c := by
  cases x with
  | dead => cases h
  | cells sz1 ro1 f1 st1 k1 c1 =>
    injection h with e1 e2 e3 e4 e5 e6
    subst e1 e3 e4 e5 e6
    exact ⟨ro1, rfl⟩

theorem WF.roh (hw : WF h) : WF h.ro := by
  refine ⟨fun b sz ro f m k c ho => ?_, fun b sz ro f st k c ho => ?_, fun y z f sz1 ro1 st1 k1 c1 sz2 ro2 k2 c2 o1 o2 => ?_, fun b hb => ?_⟩
  · obtain ⟨ro', e⟩ := mkro_inv ho
    obtain ⟨q1, a1, a2, a3, a4, a5, q2⟩ := hw.wf b _ _ _ _ _ _ e
    exact ⟨q1, a1, true, a3, a4, a5, by show mkro (h.o m) = _; rw [q2]; rfl⟩
  · obtain ⟨ro', e⟩ := mkro_inv ho
    exact hw.fam b _ _ _ _ _ _ e
  · obtain ⟨r1, e1⟩ := mkro_inv o1
    obtain ⟨r2, e2⟩ := mkro_inv o2
    exact hw.uniq y z _ _ _ _ _ _ _ _ _ _ e1 e2
  · show mkro (h.o b) = _
    rw [hw.out b hb]; rfl

theorem un_inv {b sz ro f st k c} (ho : (h.un F).o b = .cells sz ro f st k c) : ∃ ro', h.o b = .cells sz ro' f st k c := by
  cases hx : h.o b with
  | dead => rw [un_dead hx] at ho; cases ho
  | cells sz1 ro1 f1 st1 k1 c1 =>
    obtain ⟨ro', e⟩ := un_cells (F := F) hx
    rw [e] at ho
    injection ho with e1 e2 e3 e4 e5 e6
    subst e1 e3 e4 e5 e6
    exact ⟨ro1, rfl⟩

theorem WF.un (hw : WF h) (F : Nat → Bool) : WF (h.un F) := by
  refine ⟨fun b sz ro f m k c ho => ?_, fun b sz ro f st k c ho => ?_, fun y z f sz1 ro1 st1 k1 c1 sz2 ro2 k2 c2 o1 o2 => ?_, fun b hb => un_dead (hw.out b hb)⟩
  · obtain ⟨ro', e⟩ := un_inv ho
    obtain ⟨q1, a1, a2, a3, a4, a5, q2⟩ := hw.wf b _ _ _ _ _ _ e
    obtain ⟨r, q3⟩ := un_cells (F := F) q2
    exact ⟨q1, a1, r, a3, a4, a5, q3⟩
  · obtain ⟨ro', e⟩ := un_inv ho
    exact hw.fam b _ _ _ _ _ _ e
  · obtain ⟨r1, e1⟩ := un_inv o1
    obtain ⟨r2, e2⟩ := un_inv o2
    exact hw.uniq y z _ _ _ _ _ _ _ _ _ _ e1 e2

theorem ro_keys (O : Objs) : (roO O).map (·.1) = O.map (·.1) := by unfold roO; rw [List.map_map]; rfl

theorem Sat.roh {O : Objs} (hs : Sat h O) : Sat h.ro (roO O) := by
  refine ⟨by rw [ro_keys]; exact hs.nd, fun p hp => ?_, hs.wf.roh⟩
  obtain ⟨q, hq, rfl⟩ := List.mem_map.1 hp
  obtain ⟨f, k, e⟩ := hs.is q hq
  exact ⟨f, k, by show mkro (h.o q.1) = _; rw [e]; rfl⟩

def ownIn (O : Objs) (b : Nat) : Bool := O.any fun p => Nat.beq p.1 b && !p.2.ro

theorem Sat.unO {O : Objs} (hs : Sat h (roO O)) : Sat (h.un (ownIn O)) O := by
  have hnd : (O.map (·.1)).Nodup := by rw [← ro_keys]; exact hs.nd
  refine ⟨hnd, fun p hp => ?_, hs.wf.un _⟩
  obtain ⟨f, k, e⟩ := hs.is (p.1, roE p.2) (List.mem_map.2 ⟨p, hp, rfl⟩)
  refine ⟨f, k, ?_⟩
  have e' : h.o p.1 = .cells p.2.sz true f none k p.2.c := e
  show (bif ownIn O p.1 then unro (h.o p.1) else h.o p.1) = _
  rw [e']
  cases hro : p.2.ro with
  | false =>
    have : ownIn O p.1 = true := List.any_eq_true.2 ⟨p, hp, by rw [hro]; simp⟩
    rw [this]; rfl
  | true =>
    have : ownIn O p.1 = false := by
      rw [Bool.eq_false_iff]
      intro ht
      obtain ⟨q, hq, hb⟩ := List.any_eq_true.1 ht
      simp only [Bool.and_eq_true, Bool.not_eq_true'] at hb
      have e1 := Nat.eq_of_beq_eq_true hb.1
      obtain ⟨i, hi⟩ := List.getElem?_of_mem hq
      obtain ⟨j, hj⟩ := List.getElem?_of_mem hp
      have := inj_of_nodup hnd hi hj e1
      subst this
      rw [hi] at hj
      obtain rfl := Option.some.inj hj
      rw [hro] at hb
      cases hb.2
    rw [this]; rfl

theorem Src.roh {O : Objs} {sz n : Nat} {v : Value} {cs : List Value} (hs : Src O sz v n cs) : Src (roO O) sz v n cs := fun h hh => by
  have := hs _ hh.unO
  rw [un_src] at this
  exact this

/-- A function that is told of all that came in as of things that it cannot write. -/
theorem Spec.frame {f : FuncId} {args : Array Value} {O : Objs} {Post : Value → Objs → Prop}
    (hf : Spec P false f args (roO O) fun v O' => ∃ N, Post v N ∧ (∀ p ∈ N, p.2.ro = false) ∧ O' = N ++ roO O) : Spec P true f args O fun v O' => ∃ N, Post v N ∧ O' = N ++ O := by
  intro g hg
  obtain ⟨v, h', O', b1, ⟨N, p1, p2, rfl⟩, s', _⟩ := hf g.ro hg.roh
  have st : Stay g.ro h' := stayJ b1
  have b2 : Big P drv (.call f args g v (h'.un (wasOwn g))) := by
    have := big_un (wasOwn g) b1
    simp only [J.un, ro_un] at this
    exact this
  have hold : ∀ b, b < g.n → h'.o b = g.ro.o b := fun b hb => st.2 b hb (by
    show isRo (mkro (g.o b)) = true
    cases g.o b <;> rfl)
  have hold2 : ∀ b, b < g.n → (h'.un (wasOwn g)).o b = g.o b := fun b hb => by
    have e := un_same (F := wasOwn g) (hold b hb)
    rw [ro_un] at e
    exact e
  refine ⟨v, h'.un (wasOwn g), N ++ O, b2, ⟨N, p1, rfl⟩, ⟨?_, fun p hp => ?_, s'.wf.un _⟩, fun _ => ⟨st.1, hold2⟩⟩
  · have := s'.nd
    rw [List.map_append, ro_keys] at this
    rw [List.map_append]
    exact this
  · rcases List.mem_append.1 hp with hp | hp
    · obtain ⟨f0, k, e⟩ := s'.is p (List.mem_append_left _ hp)
      rw [p2 p hp] at e
      exact ⟨f0, k, by rw [p2 p hp]; exact un_own e⟩
    · obtain ⟨f0, k, e⟩ := hg.is p hp
      exact ⟨f0, k, by rw [hold2 p.1 (hg.lt hp)]; exact e⟩

theorem Grow.own {sz : Nat} {a : Option Addr} {n c : Nat} {cs : List Value} {G : Objs} (hg : Grow sz a n c cs G) : ∀ p ∈ G, p.2.ro = false := by
  rcases hg with ⟨_, _, _, _, rfl⟩ | ⟨b, _, rfl, _⟩
  · intro p hp; simp at hp
  · intro p hp
    rw [List.mem_singleton] at hp
    subst hp; rfl

end Go.Proofs.Ytjmklialkjncaaa.Eng

set_option linter.unusedVariables false
set_option linter.unusedSimpArgs false
namespace Go.Proofs.Ytjmklialkjncaaa.Eng
open Go.ChangeShapes Go.WideShapes Go.RowKit

variable {P : Program}

/-- A row of whole numbers that came in. -/
structure Inp where
  k : IntKind
  x : Option Addr
  len : Nat
  cap : Nat
  zs : List Int

structure InpOk (w : World) (n : Inp) : Prop where
  nil : n.x = none → n.len = 0 ∧ n.cap = 0 ∧ n.zs = []
  row : ∀ x, n.x = some x → x.spot = none ∧ x.block < w.heap.size ∧ n.len ≤ n.cap ∧ n.zs.length = n.len ∧ ∀ (i : Nat) z, n.zs[i]? = some z → w.cell? (x.add i) = some (.int n.k z)

def Inp.cs (n : Inp) : List Value := n.zs.map (Value.int n.k)
def Inp.obj (i : Nat) (n : Inp) : AObj := match n.x with
  | none => .dead
  | some _ => .cells 1 true i none 0 n.cs
def Inp.lay (n : Inp) : Option Ext := n.x.map fun x => ⟨x.block, x.off, n.cap, 1⟩
def heapIn (ins : List Inp) : AHeap := ⟨ins.length, fun b => match ins[b]? with
  | some n => n.obj b
  | none => .dead⟩
def layIn (ins : List Inp) : Lay := fun b => (ins[b]?).bind Inp.lay
def Inp.val (i : Nat) (n : Inp) : Value := .slice (n.x.map fun _ => ⟨i, 0, none⟩) n.len n.cap
def Inp.real (n : Inp) : Value := .slice n.x n.len n.cap

theorem heapIn_cells {ins : List Inp} {b sz ro f st k c} (h : (heapIn ins).o b = .cells sz ro f st k c) : ∃ n x, ins[b]? = some n ∧ n.x = some x ∧ sz = 1 ∧ ro = true ∧ f = b ∧ st = none ∧ k = 0 ∧ c = n.cs := by
  have h' : (match ins[b]? with | some n => n.obj b | none => AObj.dead) = .cells sz ro f st k c := h
  cases hn : ins[b]? with
  | none => rw [hn] at h'; cases h'
  | some n =>
    rw [hn] at h'
    simp only [Inp.obj] at h'
    cases hx : n.x with
    | none => rw [hx] at h'; cases h'
    | some x =>
      rw [hx] at h'
      simp only [AObj.cells.injEq] at h'
      obtain ⟨h1, h2, h3, h4, h5, h6⟩ := h'
      exact ⟨n, x, rfl, hx, h1.symm, h2.symm, h3.symm, h4.symm, h5.symm, h6.symm⟩

theorem layIn_some {ins : List Inp} {b : Nat} {e : Ext} (h : layIn ins b = some e) : ∃ n x, ins[b]? = some n ∧ n.x = some x ∧ e = ⟨x.block, x.off, n.cap, 1⟩ := by
  unfold layIn Inp.lay at h
  cases hn : ins[b]? with
  | none => rw [hn] at h; cases h
  | some n =>
    rw [hn] at h
    simp only [Option.bind_some] at h
    cases hx : n.x with
    | none => rw [hx] at h; cases h
    | some x => rw [hx] at h; exact ⟨n, x, rfl, hx, (Option.some.inj h).symm⟩

theorem heapIn_wf (ins : List Inp) : WF (heapIn ins) := by
  refine ⟨fun b sz ro f m k c h => ?_, fun b sz ro f st k c h => ?_, fun y z f sz1 ro1 st1 k1 c1 sz2 ro2 k2 c2 h1 h2 => ?_, fun b hb => ?_⟩
  · obtain ⟨n, x, _, _, _, _, _, e, _⟩ := heapIn_cells h
    cases e
  · obtain ⟨n, x, _, _, _, _, e, _⟩ := heapIn_cells h
    exact Nat.le_of_eq e
  · obtain ⟨n, x, _, _, _, _, e, _⟩ := heapIn_cells h1
    obtain ⟨n', x', _, _, _, _, e', _⟩ := heapIn_cells h2
    exact Nat.le_of_eq (e.symm.trans e')
  · show (match ins[b]? with | some n => n.obj b | none => AObj.dead) = .dead
    rw [List.getElem?_eq_none hb]

theorem heapIn_rel {ins : List Inp} {w : World} (hok : ∀ n ∈ ins, InpOk w n) : HRel w.heap.size (layIn ins) (heapIn ins) w := by
  have hin : ∀ {b n}, ins[b]? = some n → InpOk w n := fun h => hok _ (List.mem_of_getElem? h)
  have hw := heapIn_wf ins
  refine ⟨fun b e h => ?_, fun b e h => ?_, fun b e sz ro f st k c h ho => ?_, fun b e c i v h hc hv => ?_, fun b e sz f st k c i h ho => ?_, fun b1 e1 b2 e2 sz1 ro1 f1 st1 k1 c1 sz2 f2 st2 k2 c2 _ _ _ ho => ?_, fun b1 e1 b2 e2 f sz1 ro1 st1 k1 c1 sz2 ro2 st2 k2 c2 _ _ o1 o2 hlt => ?_, hw.wf, hw.fam, hw.uniq, hw.out⟩
  · obtain ⟨n, x, hn, _⟩ := layIn_some h
    exact (List.getElem?_eq_some_iff.1 hn).1
  · obtain ⟨n, x, hn, hx, rfl⟩ := layIn_some h
    exact ((hin hn).row x hx).2.1
  · obtain ⟨n, x, hn, hx, rfl⟩ := layIn_some h
    obtain ⟨n', x', hn', hx', rfl, rfl, _, _, _, rfl⟩ := heapIn_cells ho
    rw [hn] at hn'
    obtain rfl := Option.some.inj hn'
    obtain ⟨r1, r2, r3, r4, r5⟩ := (hin hn).row x hx
    refine ⟨rfl, ?_, (fun q => nomatch q), fun y hy => ?_⟩
    · show n.cs.length ≤ n.cap
      unfold Inp.cs
      rw [List.length_map]
      omega
    · obtain ⟨z, _, rfl⟩ := List.mem_map.1 hy
      rfl
  · obtain ⟨n, x, hn, hx, rfl⟩ := layIn_some h
    obtain ⟨r1, r2, r3, r4, r5⟩ := (hin hn).row x hx
    have ho : (heapIn ins).o b = .cells 1 true b none 0 n.cs := by
      show (match ins[b]? with | some n => n.obj b | none => AObj.dead) = _
      rw [hn]
      simp only [Inp.obj, hx]
    unfold AHeap.rd at hc
    rw [ho] at hc
    obtain rfl := Option.some.inj hc
    unfold Inp.cs at hv
    rw [List.getElem?_map] at hv
    obtain ⟨z, hz, rfl⟩ := Option.map_eq_some_iff.1 hv
    refine ⟨_, ?_, .atom rfl⟩
    have := r5 i z hz
    rw [← this]
    congr 1
    obtain ⟨B, o, sp⟩ := x
    simp only at r1
    subst r1
    exact (addr_add B o i).symm
  · obtain ⟨_, _, _, _, _, e, _⟩ := heapIn_cells ho
    cases e
  · obtain ⟨_, _, _, _, _, e, _⟩ := heapIn_cells ho
    cases e
  · obtain ⟨_, _, _, _, _, _, e, _⟩ := heapIn_cells o1
    obtain ⟨_, _, _, _, _, _, e', _⟩ := heapIn_cells o2
    omega

def objsFrom : Nat → List Inp → Objs
  | _, [] => []
  | i, n :: r => match n.x with
    | none => objsFrom (i + 1) r
    | some _ => (i, ⟨1, true, n.cs⟩) :: objsFrom (i + 1) r

theorem objsFrom_mem : ∀ {ins : List Inp} {i : Nat} {p : Nat × Ent}, p ∈ objsFrom i ins → ∃ j n x, ins[j]? = some n ∧ n.x = some x ∧ p = (i + j, ⟨1, true, n.cs⟩)
  | n :: r, i, p, h => by
    unfold objsFrom at h
    cases hx : n.x with
    | none =>
      rw [hx] at h
      obtain ⟨j, m, x, h1, h2, h3⟩ := objsFrom_mem h
      exact ⟨j + 1, m, x, h1, h2, by rw [h3]; congr 1; omega⟩
    | some y =>
      rw [hx] at h
      rcases List.mem_cons.1 h with h | h
      · exact ⟨0, n, y, rfl, hx, h⟩
      · obtain ⟨j, m, x, h1, h2, h3⟩ := objsFrom_mem h
        exact ⟨j + 1, m, x, h1, h2, by rw [h3]; congr 1; omega⟩

theorem mem_objsFrom : ∀ {ins : List Inp} {i j : Nat} {n : Inp} {x : Addr}, ins[j]? = some n → n.x = some x → (i + j, (⟨1, true, n.cs⟩ : Ent)) ∈ objsFrom i ins
  | m :: r, i, 0, n, x, h1, h2 => by
    obtain rfl := Option.some.inj h1
    unfold objsFrom
    rw [h2]
    exact List.mem_cons_self ..
  | m :: r, i, j + 1, n, x, h1, h2 => by
    have := mem_objsFrom (i := i + 1) (j := j) (ins := r) h1 h2
    rw [show i + 1 + j = i + (j + 1) by omega] at this
    unfold objsFrom
    cases m.x with
    | none => exact this
    | some y => exact List.mem_cons_of_mem _ this

theorem objsFrom_nodup : ∀ (ins : List Inp) (i : Nat), ((objsFrom i ins).map (·.1)).Nodup
  | [], _ => by simp [objsFrom]
  | n :: r, i => by
    unfold objsFrom
    have ih := objsFrom_nodup r (i + 1)
    cases n.x with
    | none => exact ih
    | some x =>
      rw [List.map_cons, List.nodup_cons]
      refine ⟨fun hm => ?_, ih⟩
      obtain ⟨p, hp, he⟩ := List.mem_map.1 hm
      obtain ⟨j, m, y, _, _, rfl⟩ := objsFrom_mem hp
      simp only at he
      omega

abbrev objsIn (ins : List Inp) : Objs := objsFrom 0 ins

theorem heapIn_sat (ins : List Inp) : Sat (heapIn ins) (objsIn ins) := by
  refine ⟨objsFrom_nodup ins 0, fun p hp => ?_, heapIn_wf ins⟩
  obtain ⟨j, n, x, h1, h2, rfl⟩ := objsFrom_mem hp
  refine ⟨j, 0, ?_⟩
  show (match ins[0 + j]? with | some n => n.obj (0 + j) | none => AObj.dead) = _
  rw [Nat.zero_add, h1]
  simp only [Inp.obj, h2]

theorem src_in {ins : List Inp} {w : World} (hok : ∀ n ∈ ins, InpOk w n) (j : Nat) {n : Inp} (hn : ins[j]? = some n) : Src (objsIn ins) 1 (n.val j) n.len n.cs := by
  have ho := hok n (List.mem_of_getElem? hn)
  unfold Inp.val
  cases hx : n.x with
  | none =>
    obtain ⟨h1, h2, h3⟩ := ho.nil hx
    unfold Inp.cs
    rw [h1, h2, h3]
    exact Src.nil
  | some x =>
    obtain ⟨r1, r2, r3, r4, r5⟩ := ho.row x hx
    have hm := mem_objsFrom (i := 0) hn hx
    rw [Nat.zero_add] at hm
    refine Src.of (y := ⟨1, true, n.cs⟩) (Knows.mem hm) ?_ ?_
    · show 0 + n.len * 1 ≤ n.cs.length
      unfold Inp.cs
      rw [List.length_map]
      omega
    · show (n.cs.drop 0).take (n.len * 1) = n.cs
      rw [List.drop_zero, List.take_of_length_le]
      unfold Inp.cs
      rw [List.length_map]
      omega

theorem val_rel {ins : List Inp} {w : World} (hok : ∀ n ∈ ins, InpOk w n) (j : Nat) {n : Inp} (hn : ins[j]? = some n) : VRel (layIn ins) (n.val j) n.real := by
  have ho := hok n (List.mem_of_getElem? hn)
  unfold Inp.val Inp.real
  cases hx : n.x with
  | none => exact .atom rfl
  | some x =>
    obtain ⟨r1, r2, r3, r4, r5⟩ := ho.row x hx
    have hl : layIn ins j = some ⟨x.block, x.off, n.cap, 1⟩ := by
      unfold layIn Inp.lay
      rw [hn, Option.bind_some, hx]
      rfl
    have := VRel.slice (ι := layIn ins) (b := j) (o := 0) (l := n.len) (c := n.cap) (c' := n.cap) hl r3 (by simp)
    obtain ⟨B, o, sp⟩ := x
    simp only at r1
    subst r1
    exact this

def RelL (ι : Lay) : List Value → List Value → Prop
  | [], [] => True
  | x :: xs, y :: ys => VRel ι x y ∧ RelL ι xs ys
  | _, _ => False

theorem RelL.arr {ι : Lay} : ∀ {xs ys : List Value}, RelL ι xs ys → ARel ι xs.toArray ys.toArray := by
  have key : ∀ {xs ys : List Value}, RelL ι xs ys → ys.length = xs.length ∧ ∀ (i : Nat) x y, xs[i]? = some x → ys[i]? = some y → VRel ι x y := by
    intro xs
    induction xs with
    | nil =>
      intro ys h
      cases ys with
      | nil => exact ⟨rfl, fun i x y hx _ => by simp at hx⟩
      | cons y ys => exact h.elim
    | cons x xs ih =>
      intro ys h
      cases ys with
      | nil => exact h.elim
      | cons y ys =>
        obtain ⟨h1, h2⟩ := h
        obtain ⟨g1, g2⟩ := ih h2
        refine ⟨by simp [g1], fun i a b ha hb => ?_⟩
        cases i with
        | zero =>
          obtain rfl := Option.some.inj ha
          obtain rfl := Option.some.inj hb
          exact h1
        | succ i => exact g2 i a b (by simpa using ha) (by simpa using hb)
  intro xs ys h
  obtain ⟨h1, h2⟩ := key h
  exact ⟨by simpa using h1, fun i x y hx hy => h2 i x y (by simpa using hx) (by simpa using hy)⟩

/-- The call of a law. -/
theorem law_calls (hm : P.follows .mixedOrders = true) {W : World} {ins : List Inp} (hok : ∀ n ∈ ins, InpOk W n) {f : FuncId} {args args' : List Value} (hs : Spec P false f args.toArray (objsIn ins) fun v _ => v = .bool true)
    (ha : RelL (layIn ins) args args') : Calls P f args'.toArray W fun e W' => e = .returned (.bool true) ∧ Below W.heap.size W W' := by
  obtain ⟨v, h', O', b1, rfl, s', _⟩ := hs (heapIn ins) (heapIn_sat ins)
  refine (call_sound hm b1 W.heap.size (layIn ins) W args'.toArray (heapIn_rel hok) (Nat.le_refl _) ha.arr).mono fun e w' ⟨ι', v', e1, m, vr, hr, k⟩ => ?_
  have hst : Stay (heapIn ins) h' := stayJ b1
  refine ⟨by rw [e1, vr.plain rfl], ⟨k.os, k.tape, k.output, k.size, fun B hB => k.block B hB fun b e hb _ => ?_⟩⟩
  obtain ⟨n, x, hn, hx, _⟩ := layIn_some hb
  refine hst.2 b (List.getElem?_eq_some_iff.1 hn).1 ?_
  show isRo (match ins[b]? with | some n => n.obj b | none => AObj.dead) = true
  rw [hn]
  simp only [Inp.obj, hx]
  rfl

/-- A row of whole numbers that came in, out of what is told of the arguments. -/
theorem inp_of {H : Type} {enc : TypeId × Value → H} {W : World} {base b0 : Nat} {held : Bool} {t e : TypeId} {k : IntKind} {a : Option Addr} {len cap : Nat} {d : DataW H} {ps : List MemPlace}
    (hu : P.underlying t = some (.slice e)) (he : P.underlying e = some (.int k)) (hc : P.cellsOf e = 1) (hv : Value.okWide P W .any b0 t (.slice a len cap)) (h : DataW.Trod enc P W base (fun _ => true) held t (.slice a len cap) d ps) :
    ∃ zs : List Int, InpOk W ⟨k, a, len, cap, zs⟩ ∧ zs.length = len ∧ ∀ n ∈ zs, (Lit.int k n).wf = true := by
  obtain ⟨fuel, hf⟩ := h
  rcases open_ints hu he hc hf with ⟨hcs, _⟩ | ⟨x, l, c, zs, hcs, _, hl, hm, hz, _, hcell, hwz⟩
  · simp [Value.cells] at hcs
    obtain ⟨rfl, rfl, rfl⟩ := hcs
    exact ⟨[], ⟨fun _ => ⟨rfl, rfl, rfl⟩, fun x hx => (by cases hx)⟩, rfl, fun n hn => by simp at hn⟩
  · simp [Value.cells] at hcs
    obtain ⟨rfl, rfl, rfl⟩ := hcs
    have hz' : zs.length = cap := by simpa using hz
    have hhas : len ≤ cap ∧ (cap : Int) ≤ IntKind.i64.max ∧ W.has P .any b0 x e cap := by
      simpa only [Value.okWide, hu, Cell.okWide, Cell.ok] using hv
    obtain ⟨_, _, _, hsp, row, cells, hsh, _⟩ := hhas
    have hblk : x.block < W.heap.size := by
      unfold World.shape? at hsh
      split at hsh
      · rename_i q
        exact (Array.getElem?_eq_some_iff.1 q).1
      · cases hsh
    refine ⟨zs.take len, ⟨fun q => (by cases q), fun y hy => ?_⟩, by rw [List.length_take]; omega, fun n hn => hwz n (List.mem_of_mem_take hn)⟩
    obtain rfl := Option.some.inj hy
    refine ⟨hsp, hblk, hl, by show (zs.take len).length = len; rw [List.length_take]; omega, fun i z hiz => ?_⟩
    simp only at hiz
    rw [List.getElem?_take] at hiz
    split at hiz
    · have hi := (List.getElem?_eq_some_iff.1 hiz).1
      have := hcell i hi
      rw [this, List.getD_eq_getElem?_getD, hiz]
      rfl
    · cases hiz

theorem sized_in {H : Type} {enc : TypeId × Value → H} {W : World} {base : Nat} {spare : Nat → Bool} {held : Bool} {t e : TypeId} {k : IntKind} {a : Option Addr} {len cap : Nat} {d : DataW H} {ps : List MemPlace} {ts : List TypeId} {ds : List (DataW H)} {j : Nat}
    (hsz : (DataW.weightsEach P ts ds).all (· ≤ reachBytes) = true) (ht : ts[j]? = some t) (hd : ds[j]? = some d) (hu : P.underlying t = some (.slice e)) (he : P.underlying e = some (.int k)) (hc : P.cellsOf e = 1) {B : Nat} (hB : P.bytesOf e = B)
    (h : DataW.Trod enc P W base spare held t (.slice a len cap) d ps) : len * B ≤ 140737488351232 := by
  obtain ⟨fuel, hf⟩ := h
  rcases open_ints hu he hc hf with ⟨hcs, _⟩ | ⟨x, l, c, zs, hcs, _, hl, _, hz, hx, _, _⟩
  · simp [Value.cells] at hcs
    obtain ⟨rfl, rfl, rfl⟩ := hcs
    simp
  · simp [Value.cells] at hcs
    obtain ⟨rfl, rfl, rfl⟩ := hcs
    obtain ⟨hx, _⟩ := Prod.mk.inj hx
    subst hx
    have z := sized_slice hsz ht hd hu
    rw [hB] at z
    have hl2 : len ≤ zs.length := by
      rw [hz]
      split
      · exact hl
      · exact Nat.le_refl _
    have h1 : (lits (H := H) k (zs.take len)).length + (lits (H := H) k (zs.drop len)).length = zs.length := by
      simp [lits]
      omega
    rw [h1] at z
    exact Nat.le_trans (Nat.mul_le_mul_right _ hl2) z

theorem wf64 {n : Int} (h : (Lit.int .i64 n).wf = true) : -9223372036854775808 ≤ n ∧ n ≤ 9223372036854775807 := by
  simp only [Lit.wf, Bool.and_eq_true, decide_eq_true_eq] at h
  exact h

theorem wf8 {n : Int} (h : (Lit.int .u8 n).wf = true) : 0 ≤ n ∧ n ≤ 255 := by
  simp only [Lit.wf, Bool.and_eq_true, decide_eq_true_eq] at h
  exact h

end Go.Proofs.Ytjmklialkjncaaa.Eng

set_option linter.unusedVariables false
set_option linter.unusedSimpArgs false
namespace Go.Proofs.Ytjmklialkjncaaa.Eng

variable {P : Program} {x : Cx} {L L' : Tmps} {O O' : Objs} {ops : Array Oper} {mq : Mk} {i : Nat} {l : List Oper} {K : ASt → Prop}
  {t u : TypeId} {p : String} {af : Array Edge} {gd : Option (Nat × Bool)} {d : Tmp}

theorem flat_hits {α : Type} [Inhabited α] {E : α → List Value} {m : Nat} (hE : ∀ a, (E a).length = m) (l : List α) (k j : Nat) {v : Value} (h : k < l.length) (hv : (E (nth l k))[j]? = some v) : (flat E l)[k * m + j]? = some v := by
  rw [cell_flat hE l k j h, hv]
  have := (List.getElem?_eq_some_iff.1 hv).1
  rw [hE] at this
  exact this

/-- How a bool that was found tells its proposition. -/
theorem cnd : (∀ (q : Prop) [Decidable q], (decide q = true) = q) ∧ (∀ (q : Prop) [Decidable q], (decide q = false) = ¬ q) ∧ (∀ b : Bool, ((!b) = true) = (b = false)) ∧ (∀ b : Bool, ((!b) = false) = (b = true)) ∧
    (∀ b : Bool, (true = b) = (b = true)) ∧ (∀ b : Bool, (false = b) = (b = false)) ∧ (∀ a b : Int, (¬ a < b) = (b ≤ a)) ∧ (∀ a b : Int, (¬ a ≤ b) = (b < a)) ∧ (∀ q : Prop, (¬ ¬ q) = q) := by
  refine ⟨fun q _ => by simp, fun q _ => by simp, fun b => by simp, fun b => by simp, fun b => by cases b <;> simp, fun b => by cases b <;> simp, fun a b => by simp, fun a b => by simp, fun q => by simp⟩

theorem St.tl {s : ASt} (is : List Nat) (n : Nat) (hs : St x L O s)
    (hL : Told L L' := by repeat (first | exact trivial | refine ⟨by first | exact rfl | exact congrArg (fun n => some (I n)) (by omega) | (simp only [List.length_append, List.length_set, List.length_cons, List.length_nil]; exact rfl), ?_⟩))
    (hnd : is.Nodup := by decide) (hlt : ∀ i ∈ is, i < n := by decide) (hO : Eng.pick O is ++ O.drop n = O' := by exact rfl) : St x L' O' s := hs.told hL is n hnd hlt hO

theorem Sat.tl {h : AHeap} (is : List Nat) (n : Nat) (hs : Sat h O) (hnd : is.Nodup := by decide) (hlt : ∀ i ∈ is, i < n := by decide) (hO : Eng.pick O is ++ O.drop n = O' := by exact rfl) : Sat h O' := hs.told is n hnd hlt hO

theorem bool_false {p : Prop} [Decidable p] (h : ¬ p) : Value.bool false = .bool (decide p) := by rw [decide_eq_false h]
theorem bool_true {p : Prop} [Decidable p] (h : p) : Value.bool true = .bool (decide p) := by rw [decide_eq_true h]

/-! What is found by itself. -/
theorem at_ {b : Nat} {e : Ent} (h : Knows O b e := by first | exact Knows.at 0 rfl | exact Knows.at 1 rfl | exact Knows.at 2 rfl | exact Knows.at 3 rfl | exact Knows.at 4 rfl | exact Knows.at 5 rfl | exact Knows.at 6 rfl | exact Knows.at 7 rfl | exact Knows.mem (by assumption) | (repeat (first | assumption | apply Knows.cons))) : Knows O b e := h
theorem src_ {sz n : Nat} {v : Value} {cs : List Value} (h : Src O sz v n cs := by repeat (first | assumption | exact Grow.src (by assumption) | exact Grow.src0 (by assumption) | apply Src.cons | apply Src.app)) : Src O sz v n cs := h
theorem eq_ {α : Type} {a b : α} (h : a = b := by first | exact rfl | exact congrArg (fun n => some (I n)) (by omega)) : a = b := h
theorem drop_ (h : ∀ g, Sat g O → Sat g O' := by intro g hs; first | exact hs | exact hs.tail | exact hs.tail.tail | exact hs.tail.tail.tail | exact hs.tail.tail.tail.tail | exact hs.tail.tail.tail.tail.tail | exact hs.tail.tail.tail.tail.tail.tail) : ∀ g, Sat g O → Sat g O' := h
theorem bl_ {a b : Value} (h : a = b := by first | exact rfl | exact bool_true (by first | assumption | omega) | exact bool_false (by first | assumption | omega) | exact congrArg Value.bool (decide_eq_decide.2 (by omega)) | exact congrArg Value.bool (Bool.eq_iff_iff.2 (by simp only [Bool.not_eq_true', decide_eq_false_iff_not, decide_eq_true_eq]; omega))) : a = b := h
theorem lz_ {a b : Bool} (h : a = b := by first | exact rfl | exact (show lazyOf _ _ = false from by decide +kernel)) : a = b := h
theorem Src.lit {b off n c sz : Nat} {y : Ent} {cs : List Value} (hk : Knows O b y := by first | exact Knows.at 0 rfl | exact Knows.at 1 rfl | exact Knows.at 2 rfl | exact Knows.at 3 rfl | exact Knows.at 4 rfl | exact Knows.at 5 rfl | exact Knows.at 6 rfl | exact Knows.at 7 rfl | exact Knows.mem (by assumption) | (repeat (first | assumption | apply Knows.cons))) (hl : off + n * sz ≤ y.c.length := by exact Nat.le_of_ble_eq_true rfl) (he : (y.c.drop off).take (n * sz) = cs := by exact rfl) : Src O sz (Row b off n c) n cs := Src.of hk hl he

theorem WXL.ld {y : Operand} {ty : TypeId} {b off : Nat} {e : Ent} {v : Value} (hw : Met x L ops gd) (hy : evL L y = some (Ptr b off)) (ht : isAggT P ty = some false)
    (h : WXL P x ops mq (i + 1) l ((d, v) :: L) O K)
    (hlz : mq.lz i = false := by first | exact rfl | exact (show lazyOf _ _ = false from by decide +kernel))
    (hk : Knows O b e := by first | exact Knows.at 0 rfl | exact Knows.at 1 rfl | exact Knows.at 2 rfl | exact Knows.at 3 rfl | exact Knows.at 4 rfl | exact Knows.at 5 rfl | exact Knows.at 6 rfl | exact Knows.at 7 rfl | exact Knows.mem (by assumption) | (repeat (first | assumption | apply Knows.cons)))
    (hv : e.c[off]? = some v := by first | exact rfl | exact cell_map _ _ _ (by first | assumption | omega) | exact flat_hits (by exact fun _ => rfl) _ _ _ (by omega) (by exact rfl)) :
    WXL P x ops mq i ({ dst := some d, op := .load ty y, type := t, pos := p, after := af, guard := gd } :: l) L O K := WXL.load1 hlz hw hy hk ht hv h

theorem WXL.ldS {y : Operand} {ty : TypeId} {a : Option Addr} {n c m sz k : Nat} {cs : List Value} {v : Value} (hw : Met x L ops gd) (hy : evL L y = some (ePtr a k)) (ht : isAggT P ty = some false)
    (h : WXL P x ops mq (i + 1) l ((d, v) :: L) O K)
    (hlz : mq.lz i = false := by first | exact rfl | exact (show lazyOf _ _ = false from by decide +kernel))
    (hsrc : Src O sz (.slice a n c) m cs := by repeat (first | assumption | exact Grow.src (by assumption) | exact Grow.src0 (by assumption) | apply Src.cons | apply Src.app))
    (hv : cs[k]? = some v := by first | exact rfl | exact cell_map _ _ _ (by first | assumption | omega) | exact flat_hits (by exact fun _ => rfl) _ _ _ (by omega) (by exact rfl)) :
    WXL P x ops mq i ({ dst := some d, op := .load ty y, type := t, pos := p, after := af, guard := gd } :: l) L O K := WXL.load1S hlz hw hy hsrc ht hv h

theorem WXL.lz1 {y : Operand} {ty : TypeId} {b off : Nat} {e : Ent} {v : Value} (hw : Met x L ops gd) (hy : evL L y = some (Ptr b off)) (ht : isAggT P ty = some false)
    (h : WXL P x ops ⟨mq.q, mq.lz, b :: mq.Z⟩ (i + 1) l ((d, v) :: L) O K)
    (hk : Knows O b e := by first | exact Knows.at 0 rfl | exact Knows.at 1 rfl | exact Knows.at 2 rfl | exact Knows.at 3 rfl | exact Knows.at 4 rfl | exact Knows.at 5 rfl | exact Knows.at 6 rfl | exact Knows.at 7 rfl | exact Knows.mem (by assumption) | (repeat (first | assumption | apply Knows.cons)))
    (hv : e.c[off]? = some v := by first | exact rfl | exact cell_map _ _ _ (by first | assumption | omega) | exact flat_hits (by exact fun _ => rfl) _ _ _ (by omega) (by exact rfl))
    (hp : plainC v = true := by exact rfl) :
    WXL P x ops mq i ({ dst := some d, op := .load ty y, type := t, pos := p, after := af, guard := gd } :: l) L O K := WXL.lazy1 hw hy hk ht hv hp h

theorem WXL.ldN {y : Operand} {ty : TypeId} {b off n : Nat} {e : Ent} {vs : List Value} (hw : Met x L ops gd) (hy : evL L y = some (Ptr b off)) (ht : isAggT P ty = some true) (hn : szOf P ty = some n)
    (h : WXL P x ops mq (i + 1) l ((d, .agg vs.toArray) :: L) O K)
    (hlz : mq.lz i = false := by first | exact rfl | exact (show lazyOf _ _ = false from by decide +kernel))
    (hk : Knows O b e := by first | exact Knows.at 0 rfl | exact Knows.at 1 rfl | exact Knows.at 2 rfl | exact Knows.at 3 rfl | exact Knows.at 4 rfl | exact Knows.at 5 rfl | exact Knows.at 6 rfl | exact Knows.at 7 rfl | exact Knows.mem (by assumption) | (repeat (first | assumption | apply Knows.cons)))
    (hv : cellsAt e.c off n = some vs := by first | exact rfl | exact cellsAt_flat (by exact fun _ => rfl) _ _ (by first | assumption | omega)) :
    WXL P x ops mq i ({ dst := some d, op := .load ty y, type := t, pos := p, after := af, guard := gd } :: l) L O K := WXL.loadN hlz hw hy hk ht hn hv h

theorem WXL.ldNS {y : Operand} {ty : TypeId} {a : Option Addr} {n c m sz k w : Nat} {cs vs : List Value} (hw : Met x L ops gd) (hy : evL L y = some (ePtr a k)) (ht : isAggT P ty = some true) (hn : szOf P ty = some (w + 1))
    (h : WXL P x ops mq (i + 1) l ((d, .agg vs.toArray) :: L) O K)
    (hlz : mq.lz i = false := by first | exact rfl | exact (show lazyOf _ _ = false from by decide +kernel))
    (hsrc : Src O sz (.slice a n c) m cs := by repeat (first | assumption | exact Grow.src (by assumption) | exact Grow.src0 (by assumption) | apply Src.cons | apply Src.app))
    (hv : cellsAt cs k (w + 1) = some vs := by first | exact rfl | exact cellsAt_flat (by exact fun _ => rfl) _ _ (by first | assumption | omega)) :
    WXL P x ops mq i ({ dst := some d, op := .load ty y, type := t, pos := p, after := af, guard := gd } :: l) L O K := WXL.loadNS hlz hw hy hsrc ht hn hv h

theorem WXL.lzN {y : Operand} {ty : TypeId} {b off n : Nat} {e : Ent} {vs : List Value} (hw : Met x L ops gd) (hy : evL L y = some (Ptr b off)) (ht : isAggT P ty = some true) (hn : szOf P ty = some n)
    (h : WXL P x ops ⟨mq.q, mq.lz, b :: mq.Z⟩ (i + 1) l ((d, .agg vs.toArray) :: L) O K)
    (hk : Knows O b e := by first | exact Knows.at 0 rfl | exact Knows.at 1 rfl | exact Knows.at 2 rfl | exact Knows.at 3 rfl | exact Knows.at 4 rfl | exact Knows.at 5 rfl | exact Knows.at 6 rfl | exact Knows.at 7 rfl | exact Knows.mem (by assumption) | (repeat (first | assumption | apply Knows.cons)))
    (hv : cellsAt e.c off n = some vs := by exact rfl) (hp : vs.all plain1 = true := by exact rfl) :
    WXL P x ops mq i ({ dst := some d, op := .load ty y, type := t, pos := p, after := af, guard := gd } :: l) L O K := WXL.lazyN hw hy hk ht hn hv hp h

theorem WXL.ix {y z : Operand} {ty e : TypeId} {b off n c sz : Nat} {k : IntKind} {j : Int} {off' : Nat} (hw : Met x L ops gd) (hy : evL L y = some (Row b off n c)) (hz : evL L z = some (.int k j))
    (he : elemOf P ty = some e) (hs : szOf P e = some sz) (h : WXL P x ops mq (i + 1) l ((d, Ptr b off') :: L) O K)
    (h0 : 0 ≤ j := by omega) (h1 : j < n := by omega) (ho : off + j.toNat * sz = off' := by first | (simp only [off_succ, Int.toNat_natCast, Nat.mul_one, Nat.zero_add]; exact rfl) | exact rfl) :
    WXL P x ops mq i ({ dst := some d, op := .indexAddr ty y z, type := t, pos := p, after := af, guard := gd } :: l) L O K := WXL.indexAddr hw hy hz he hs h0 h1 ho h

theorem WXL.ixS {y z : Operand} {ty e : TypeId} {a : Option Addr} {n c m sz : Nat} {cs : List Value} {k : IntKind} {j : Int} {off' : Nat} (hw : Met x L ops gd) (hy : evL L y = some (.slice a n c)) (hz : evL L z = some (.int k j))
    (he : elemOf P ty = some e) (hs : szOf P e = some sz) (h : WXL P x ops mq (i + 1) l ((d, ePtr a off') :: L) O K)
    (hsrc : Src O sz (.slice a n c) m cs := by repeat (first | assumption | exact Grow.src (by assumption) | exact Grow.src0 (by assumption) | apply Src.cons | apply Src.app))
    (h0 : 0 ≤ j := by omega) (h1 : j < n := by omega) (ho : j.toNat * sz = off' := by first | (simp only [off_succ, Int.toNat_natCast, Nat.mul_one, Nat.zero_add]; exact rfl) | exact rfl) :
    WXL P x ops mq i ({ dst := some d, op := .indexAddr ty y z, type := t, pos := p, after := af, guard := gd } :: l) L O K := WXL.indexS hw hy hz he hs hsrc h0 h1 ho h

theorem WXL.faS {y : Operand} {ty : TypeId} {a : Option Addr} {n c m sz k f g0 : Nat} {cs : List Value} {fs : Array Field} {g : Field} {off' : Nat} (hw : Met x L ops gd) (hy : evL L y = some (ePtr a k)) (hu : P.underlying ty = some (.struct fs)) (hg : fs[f]? = some g)
    (hs : szOf P g.type = some (g0 + 1)) (h : WXL P x ops mq (i + 1) l ((d, ePtr a off') :: L) O K)
    (hsrc : Src O sz (.slice a n c) m cs := by repeat (first | assumption | exact Grow.src (by assumption) | exact Grow.src0 (by assumption) | apply Src.cons | apply Src.app))
    (hn : k < cs.length := by first | (rw [flat_encE_len]; omega) | (simp; omega)) (ho : k + g.offset = off' := by exact rfl) :
    WXL P x ops mq i ({ dst := some d, op := .fieldAddr ty y f, type := t, pos := p, after := af, guard := gd } :: l) L O K := WXL.fieldS hw hy hu hg hs hsrc hn ho h

theorem ob_ (j : Nat) {q : Option (Nat × Ent)} (h : O[j]? = q) : O[j]? = q := h

theorem WXL.st {y z : Operand} {ty : TypeId} {j b off sz : Nat} {c vs c' : List Value} {v : Value} (hw : Met x L ops gd) (hy : evL L y = some (Ptr b off)) (hz : evL L z = some v) (hv : v.cells.toList = vs) (hs : szOf P ty = some vs.length)
    (h : WXL P x ops mq (i + 1) l L O' K) (hq : x.q = false := by exact rfl)
    (hj : O[j]? = some (b, ⟨sz, false, c⟩) := by first | exact ob_ 0 rfl | exact ob_ 1 rfl | exact ob_ 2 rfl | exact ob_ 3 rfl | exact ob_ 4 rfl | exact ob_ 5 rfl | exact ob_ 6 rfl | exact ob_ 7 rfl)
    (hl : off + vs.length ≤ c.length := by first | exact (Nat.le_of_ble_eq_true rfl) | (simp; done) | (simp; omega) | omega) (ha : vs.all isCell = true := by exact rfl)
    (hc : splice c off vs = c' := by first | exact splice_map _ _ _ _ (by first | assumption | omega) | exact rfl)
    (hcl : Clear O j mq.Z := by repeat (first | exact Clear.nil | refine Clear.cons 0 rfl rfl ?_ | refine Clear.cons 1 rfl rfl ?_ | refine Clear.cons 2 rfl rfl ?_ | refine Clear.cons 3 rfl rfl ?_ | refine Clear.cons 4 rfl rfl ?_))
    (hO : O.set j (b, ⟨sz, false, c'⟩) = O' := by simp only [List.cons_append, List.nil_append, List.set_cons_zero, List.set_cons_succ]; exact rfl) :
    WXL P x ops mq i ({ dst := none, op := .store ty y z, type := t, pos := p, after := af, guard := gd } :: l) L O K := WXL.store j hw hq hy hz hj hv hs hl ha hc hcl hO h

theorem WXL.cl {ops : Array Oper} {mq : Mk} {i : Nat} {g : Operand} {aas : Array Operand} {ts : Array TypeId} {dst : Option Tmp} {t : TypeId} {p : String} {af : Array Edge} {gd : Option (Nat × Bool)} {l : List Oper} {K : ASt → Prop}
    {f : FuncId} {first cap : Array Value} {vs : List Value} {q : Bool} {O1 : Objs} {Post : Value → Objs → Prop}
    (hw : Met x L ops gd) (hf : evL L g = some (.func (.func f) first cap)) (hok : fnOk P f = true) (ha : evArgs L aas.toList = some vs) (hO : ∀ h, Sat h O → Sat h O1)
    (hspec : Spec P q f (first.toList ++ vs ++ cap.toList).toArray O1 Post)
    (h : ∀ v O', Post v O' → WXL P x ops mq (i + 1) l (putL dst v L) O' K)
    (hq : q = true ∨ (mq.q i = false ∧ x.q = false ∧ mq.Z = []) := by first | exact .inl rfl | exact .inr ⟨rfl, rfl, rfl⟩ | exact .inr ⟨(show needs _ _ = false from by decide +kernel), rfl, rfl⟩) :
    WXL P x ops mq i ({ dst := dst, op := .call { callee := .value g, args := aas, argTypes := ts }, type := t, pos := p, after := af, guard := gd } :: l) L O K := WXL.call hw hf hok ha hO hq hspec h

theorem WXL.apG {y z : Operand} {ty tz e : TypeId} {a : Option Addr} {n c sz by_ m : Nat} {cs new : List Value} {v zv : Value} {G : Objs} (A : Objs) {R : Objs} (hw : Met x L ops gd) (hy : evL L y = some (.slice a n c)) (hz : evL L z = some v) (hr : isRowT P tz = true)
    (he : elemOf P ty = some e) (hs : szOf P e = some sz) (hby : byOf P e = some by_) (hzv : zeroOf P e = some zv)
    (hsrc : Src O sz v m new)
    (h : ∀ a' c' G', Grow sz a' (n + m) c' (cs ++ new) G' → WXL P x ops mq (i + 1) l ((d, .slice a' (n + m) c') :: L) (A ++ (G' ++ R)) K)
    (hf : (n + m) * by_ ≤ 140737488355328 := by omega) (hm : new.length = m * sz := by exact rfl)
    (hg : Grow sz a n c cs G := by assumption) (hq : x.q = false := by exact rfl) (hcl : mq.Z = [] := by exact rfl) (hO : O = A ++ (G ++ R) := by exact rfl) (h3 : zv.cells.size = sz := by exact rfl) (h1 : 0 < sz := by decide) (h2 : 0 < by_ := by decide) :
    WXL P x ops mq i ({ dst := some d, op := .call { callee := .builtin .append, args := #[y, z], argTypes := #[ty, tz] }, type := t, pos := p, after := af, guard := gd } :: l) L O K :=
  WXL.appendG A hw hq hy hz hr hcl hO hg hsrc he hs hby hzv h3 hf h1 h2 hm h

theorem WXL.qu {y z : Operand} {k : IntKind} {a b r : Int} {w : TypeId} (hw : Met x L ops gd) (hy : evL L y = some (.int k a)) (hz : evL L z = some (.int k b)) (h : WXL P x ops mq (i + 1) l ((d, .int k r) :: L) O K)
    (hb : b ≠ 0 := by omega) (hr : k.wrap (a.tdiv b) = r := by first | exact wrap_quo (by omega) (by omega) (by omega) | exact rfl) :
    WXL P x ops mq i ({ dst := some d, op := .binOp .quo u y z w, type := t, pos := p, after := af, guard := gd } :: l) L O K := WXL.quo hw hy hz hb hr h

theorem bvA {k : IntKind} {a b : Int} {v : Value} (h : binV .add k a b = some v := by first | exact binV_add (by omega) (by omega) | exact rfl) : binV .add k a b = some v := h
theorem bvS {k : IntKind} {a b : Int} {v : Value} (h : binV .sub k a b = some v := by first | exact binV_sub (by omega) (by omega) | exact rfl) : binV .sub k a b = some v := h
theorem bvM {k : IntKind} {a b : Int} {v : Value} (h : binV .mul k a b = some v := by first | exact binV_mul (by omega) (by omega) | exact rfl) : binV .mul k a b = some v := h

end Go.Proofs.Ytjmklialkjncaaa.Eng

set_option linter.unusedVariables false
set_option linter.unusedSimpArgs false
namespace Go.Proofs.Ytjmklialkjncaaa.Eng

variable {P : Program} {x : Cx} {L L' : Tmps} {O O' : Objs} {ops : Array Oper} {mq : Mk} {i : Nat} {l : List Oper} {K : ASt → Prop}
  {t u : TypeId} {p : String} {af : Array Edge} {gd : Option (Nat × Bool)} {d : Tmp}

theorem WXL.ap {y z : Operand} {ty tz e : TypeId} {j b off n cp sz by_ m : Nat} {c cs c' : List Value} {v zv : Value} (hw : Met x L ops gd) (hy : evL L y = some (Row b off n cp)) (hz : evL L z = some v) (hr : isRowT P tz = true)
    (he : elemOf P ty = some e) (hs : szOf P e = some sz) (hby : byOf P e = some by_) (hzv : zeroOf P e = some zv) (hsrc : Src O sz v m cs)
    {OO : Nat → Objs} (h : ∀ b, WXL P x ops mq (i + 1) l ((d, Row b 0 (n + m) (n + m)) :: L) (OO b) K)
    (hj : O[j]? = some (b, ⟨sz, false, c⟩) := by first | exact ob_ 0 rfl | exact ob_ 1 rfl | exact ob_ 2 rfl | exact ob_ 3 rfl | exact ob_ 4 rfl | exact ob_ 5 rfl | exact ob_ 6 rfl | exact ob_ 7 rfl)
    (hl : off + n * sz = c.length := by simp) (hf : (n + m) * by_ ≤ 140737488355328 := by omega) (hc : c.drop off ++ cs = c' := by exact rfl)
    (hcl : Clear O j mq.Z := by repeat (first | exact Clear.nil | refine Clear.cons 0 rfl rfl ?_ | refine Clear.cons 1 rfl rfl ?_ | refine Clear.cons 2 rfl rfl ?_ | refine Clear.cons 3 rfl rfl ?_ | refine Clear.cons 4 rfl rfl ?_))
    (hO : ∀ b, O.set j (b, ⟨sz, false, c'⟩) = OO b := by intro b; simp only [List.cons_append, List.nil_append, List.set_cons_zero, List.set_cons_succ]; exact rfl)
    (hq : x.q = false := by exact rfl) (h3 : zv.cells.size = sz := by exact rfl) (h1 : 0 < sz := by decide) (h2 : 0 < by_ := by decide) :
    WXL P x ops mq i ({ dst := some d, op := .call { callee := .builtin .append, args := #[y, z], argTypes := #[ty, tz] }, type := t, pos := p, after := af, guard := gd } :: l) L O K :=
  WXL.append j hw hq hy hz hr hj hsrc he hs hby hzv h3 hl hf h1 h2 hc hcl hO h

/-- A guarded operation whose guard was not computed. -/
theorem WXL.missU {j e : Nat} {want : Bool} {dst : Tmp} {op : Op} (hj : (ops[j]?).bind (·.dst) = some e) (hd : getT L e = some undef)
    (h : WXL P x ops mq (i + 1) l ((dst, undef) :: L) O K) : WXL P x ops mq i ({ dst := some dst, op := op, type := t, pos := p, after := af, guard := some (j, want) } :: l) L O K := by
  intro hdr hq s hs hz
  obtain ⟨ho, hd'⟩ := drop_head hdr
  obtain ⟨s', g1, g2, g3⟩ := h hd' hq (s.put (some dst) undef s.h) ⟨hs.m, hs.t.put _ _ _, hs.sat, hs.old⟩ hz
  refine ⟨s', .opskip ho ?_ g1, by rw [g2, put_m], g3⟩
  unfold wantedA Region.wanted
  simp only [hj, hs.t e _ hd]
  rfl

/-! Is it nil? -/
theorem nilA {o : BinOp} {u : TypeId} {y z : Operand} {w : TypeId} {s : ASt} {a b : Value} {r : Bool} (ho : (o = .eql ∧ r = false) ∨ (o = .neq ∧ r = true)) (hy : s.ev y = a) (hz : s.ev z = b) (hn : (plain1 a && plain1 b) = false) (hq : nilEq P u a b = true) :
    aop P { dst := some d, op := .binOp o u y z w, type := t, pos := p, after := af, guard := gd } s = some (.bool r, s.h) := by
  have hall : (#[y, z].all fun x => plain1 (s.ev x)) = false := by simp only [← Array.all_toList, List.all_cons, List.all_nil, hy, hz, Bool.and_true]; exact hn
  unfold aop
  simp only
  unfold scalarA
  simp only [Op.operands, hall, Bool.false_eq_true, if_false]
  unfold nilCmp
  rcases ho with ⟨rfl, rfl⟩ | ⟨rfl, rfl⟩ <;> simp only [hy, hz, hq, if_true, Option.map_some]

theorem nilP {o : BinOp} {y z : Operand} {a b : Value} {r : Bool} (ho : o = .eql ∨ o = .neq) (hp : (∃ n c m k, a = .slice none n c ∧ b = .slice none m k ∧ ∃ e, P.underlying u = some (.slice e)) ∨ (a = .pointer none ∧ b = .pointer none ∧ ∃ e, P.underlying u = some (.pointer e))) (hr : r = decide (o = .eql)) :
    purely P (do eqGuard o u y z a b; binOp o u a b) = some (.bool r) := by
  subst hr
  have heq : ∀ x y : Value, ((∃ n c m k, x = .slice none n c ∧ y = .slice none m k ∧ ∃ e, P.underlying u = some (.slice e)) ∨ (x = .pointer none ∧ y = .pointer none ∧ ∃ e, P.underlying u = some (.pointer e))) → purely P (Op.equalIn (9999 + 1) u x y) = some true := by
    intro x y hx
    rcases hx with ⟨n, c, m, k, rfl, rfl, e, hu⟩ | ⟨rfl, rfl, e, hu⟩ <;> (unfold Op.equalIn; rw [purely_bind, underlying_of hu]; rfl)
  have h := heq a b hp
  rcases hp with ⟨n, c, m, k, rfl, rfl, e, hu⟩ | ⟨rfl, rfl, e, hu⟩
  · rcases ho with rfl | rfl
    · show purely P (Op.equalIn (9999 + 1) u _ _ >>= fun r => (pure (Value.bool r) : Sem Value)) = _
      rw [purely_bind, h]; rfl
    · show purely P (Op.equalIn (9999 + 1) u _ _ >>= fun r => (pure (Value.bool (!r)) : Sem Value)) = _
      rw [purely_bind, h]; rfl
  · rcases ho with rfl | rfl
    · show purely P (Op.equalIn (9999 + 1) u _ _ >>= fun r => (pure (Value.bool r) : Sem Value)) = _
      rw [purely_bind, h]; rfl
    · show purely P (Op.equalIn (9999 + 1) u _ _ >>= fun r => (pure (Value.bool (!r)) : Sem Value)) = _
      rw [purely_bind, h]; rfl

theorem WXL.eqNil {y z : Operand} {a : Option Addr} {n c m k : Nat} {w e : TypeId} (hw : Met x L ops gd) (hy : evL L y = some (.slice a n c)) (hz : evL L z = some (.slice none m k)) (hu : P.underlying u = some (.slice e)) (h : WXL P x ops mq (i + 1) l ((d, .bool a.isNone) :: L) O K) :
    WXL P x ops mq i ({ dst := some d, op := .binOp .eql u y z w, type := t, pos := p, after := af, guard := gd } :: l) L O K := by
  cases a with
  | none => exact WXL.val (.inl rfl) hw (fun s hs => scalar2 (hs.t.ev hy) (hs.t.ev hz) rfl rfl (nilP (.inl rfl) (.inl ⟨_, _, _, _, rfl, rfl, e, hu⟩) rfl) rfl) h
  | some a => exact WXL.val (.inl rfl) hw (fun s hs => nilA (.inl ⟨rfl, rfl⟩) (hs.t.ev hy) (hs.t.ev hz) rfl (by unfold nilEq; rw [hu])) h

theorem WXL.neNil {y z : Operand} {a : Option Addr} {n c m k : Nat} {w e : TypeId} (hw : Met x L ops gd) (hy : evL L y = some (.slice a n c)) (hz : evL L z = some (.slice none m k)) (hu : P.underlying u = some (.slice e)) (h : WXL P x ops mq (i + 1) l ((d, .bool (!a.isNone)) :: L) O K) :
    WXL P x ops mq i ({ dst := some d, op := .binOp .neq u y z w, type := t, pos := p, after := af, guard := gd } :: l) L O K := by
  cases a with
  | none => exact WXL.val (.inl rfl) hw (fun s hs => scalar2 (hs.t.ev hy) (hs.t.ev hz) rfl rfl (nilP (.inr rfl) (.inl ⟨_, _, _, _, rfl, rfl, e, hu⟩) rfl) rfl) h
  | some a => exact WXL.val (.inl rfl) hw (fun s hs => nilA (.inr ⟨rfl, rfl⟩) (hs.t.ev hy) (hs.t.ev hz) rfl (by unfold nilEq; rw [hu])) h

theorem WXL.eqNilP {y z : Operand} {a : Option Addr} {w e : TypeId} (hw : Met x L ops gd) (hy : evL L y = some (.pointer a)) (hz : evL L z = some (.pointer none)) (hu : P.underlying u = some (.pointer e)) (h : WXL P x ops mq (i + 1) l ((d, .bool a.isNone) :: L) O K) :
    WXL P x ops mq i ({ dst := some d, op := .binOp .eql u y z w, type := t, pos := p, after := af, guard := gd } :: l) L O K := by
  cases a with
  | none => exact WXL.val (.inl rfl) hw (fun s hs => scalar2 (hs.t.ev hy) (hs.t.ev hz) rfl rfl (nilP (.inl rfl) (.inr ⟨rfl, rfl, e, hu⟩) rfl) rfl) h
  | some a => exact WXL.val (.inl rfl) hw (fun s hs => nilA (.inl ⟨rfl, rfl⟩) (hs.t.ev hy) (hs.t.ev hz) rfl (by unfold nilEq; rw [hu])) h

theorem WXL.neNilP {y z : Operand} {a : Option Addr} {w e : TypeId} (hw : Met x L ops gd) (hy : evL L y = some (.pointer a)) (hz : evL L z = some (.pointer none)) (hu : P.underlying u = some (.pointer e)) (h : WXL P x ops mq (i + 1) l ((d, .bool (!a.isNone)) :: L) O K) :
    WXL P x ops mq i ({ dst := some d, op := .binOp .neq u y z w, type := t, pos := p, after := af, guard := gd } :: l) L O K := by
  cases a with
  | none => exact WXL.val (.inl rfl) hw (fun s hs => scalar2 (hs.t.ev hy) (hs.t.ev hz) rfl rfl (nilP (.inr rfl) (.inr ⟨rfl, rfl, e, hu⟩) rfl) rfl) h
  | some a => exact WXL.val (.inl rfl) hw (fun s hs => nilA (.inr ⟨rfl, rfl⟩) (hs.t.ev hy) (hs.t.ev hz) rfl (by unfold nilEq; rw [hu])) h

/-- `x[lo:]` -/
theorem WXL.suf {y z : Operand} {ty e : TypeId} {a : Option Addr} {n c sz m : Nat} {cs : List Value} {k : IntKind} {j : Int} (hw : Met x L ops gd) (hy : evL L y = some (.slice a n c)) (hz : evL L z = some (.int k j))
    (he : elemOf P ty = some e) (hs : szOf P e = some sz) {b off : Nat} {q : Ent} (ha : a = some ⟨b, off, none⟩) (hk : Knows O b q) (hq : q.sz = sz) (h : WXL P x ops mq (i + 1) l ((d, .slice (some ⟨b, off + m * sz, none⟩) (n - m) (n - m)) :: L) O K) (hj : j = m := by omega) (hm : m ≤ n := by omega) :
    WXL P x ops mq i ({ dst := some d, op := .slice ty y (some z) none none, type := t, pos := p, after := af, guard := gd } :: l) L O K :=
  WXL.val (.inl rfl) hw (fun s hst => by
    subst hj ha
    have hb : boundA (some (Value.int k (m : Int))) 0 = some m := by simp [boundA]
    obtain ⟨f, kk, ho⟩ := hk _ hst.sat
    simp only [aop, hst.t.ev hy, Option.map_none, Option.map_some, hst.t.ev hz, sliceA, he, Option.bind_some, hs, hb, ho]
    rw [show boundA none n = some n from rfl]
    simp only [Nat.le_refl, hm, hq, and_self, if_true, Option.map_some]) h

/-- A row whose object is known, or nil. -/
def Rowy (O : Objs) (sz : Nat) (a : Option Addr) (n : Nat) (cs : List Value) : Prop :=
  (a = none ∧ n = 0 ∧ cs = []) ∨ ∃ b off y, a = some ⟨b, off, none⟩ ∧ Knows O b y ∧ y.sz = sz ∧ off + n * sz ≤ y.c.length ∧ (y.c.drop off).take (n * sz) = cs

theorem Rowy.src {sz : Nat} {a : Option Addr} {n : Nat} {cs : List Value} (h : Rowy O sz a n cs) {c : Nat} (hc : a = none → c = 0) : Src O sz (.slice a n c) n cs := by
  rcases h with ⟨rfl, rfl, rfl⟩ | ⟨b, off, y, rfl, hk, hs, hl, hcs⟩
  · rw [hc rfl]; exact Src.nil
  · exact Src.of hk hl hcs

theorem Rowy.pre {sz : Nat} {a : Option Addr} {n m : Nat} {cs : List Value} (h : Rowy O sz a n cs) (hm : m ≤ n) : Rowy O sz a m (cs.take (m * sz)) := by
  have hmn : m * sz ≤ n * sz := Nat.mul_le_mul_right _ hm
  rcases h with ⟨rfl, rfl, rfl⟩ | ⟨b, off, y, rfl, hk, hs, hl, hcs⟩
  · exact .inl ⟨rfl, by omega, by simp⟩
  · refine .inr ⟨b, off, y, rfl, hk, hs, by omega, ?_⟩
    rw [← hcs, List.take_take, Nat.min_eq_left hmn]

theorem Grow.rowy {sz : Nat} {a : Option Addr} {n c : Nat} {cs : List Value} {G R : Objs} (hg : Grow sz a n c cs G) : Rowy (G ++ R) sz a n cs := by
  rcases hg with ⟨rfl, rfl, rfl, rfl, rfl⟩ | ⟨b, rfl, rfl, hl⟩
  · exact .inl ⟨rfl, rfl, rfl⟩
  · refine .inr ⟨b, 0, ⟨sz, false, cs⟩, rfl, Knows.at 0 rfl, rfl, ?_, ?_⟩
    · show 0 + n * sz ≤ cs.length
      omega
    · show (cs.drop 0).take (n * sz) = cs
      rw [List.drop_zero, List.take_of_length_le (by omega)]

theorem Grow.nil0 {sz : Nat} {a : Option Addr} {n c : Nat} {cs : List Value} {G : Objs} (hg : Grow sz a n c cs G) (h : a = none) : c = 0 ∧ n = 0 := by
  rcases hg with ⟨_, q1, q2, _⟩ | ⟨b, q, _⟩
  · exact ⟨q2, q1⟩
  · rw [h] at q; cases q

theorem Rowy.nil0 {sz : Nat} {a : Option Addr} {n : Nat} {cs : List Value} (hr : Rowy O sz a n cs) (h : a = none) : n = 0 := by
  rcases hr with ⟨_, q1, _⟩ | ⟨b, off, y, q, _⟩
  · exact q1
  · rw [h] at q; cases q

theorem Rowy.cons {q : Nat × Ent} {sz n : Nat} {a : Option Addr} {cs : List Value} (h : Rowy O sz a n cs) : Rowy (q :: O) sz a n cs := by
  rcases h with h | ⟨b, off, y, h1, h2, h3⟩
  · exact .inl h
  · exact .inr ⟨b, off, y, h1, h2.cons, h3⟩
theorem Rowy.app {N : Objs} {sz n : Nat} {a : Option Addr} {cs : List Value} (h : Rowy O sz a n cs) : Rowy (N ++ O) sz a n cs := by
  rcases h with h | ⟨b, off, y, h1, h2, h3⟩
  · exact .inl h
  · exact .inr ⟨b, off, y, h1, Knows.app h2, h3⟩

theorem rowy_ {sz n : Nat} {a : Option Addr} {cs : List Value} (h : Rowy O sz a n cs := by repeat (first | assumption | exact Grow.rowy (by assumption) | apply Rowy.cons | apply Rowy.app)) : Rowy O sz a n cs := h

/-- `x[:hi]` -/
theorem WXL.pre {y z : Operand} {ty e : TypeId} {a : Option Addr} {n c sz m : Nat} {cs : List Value} {k : IntKind} {j : Int} (hw : Met x L ops gd) (hy : evL L y = some (.slice a n c)) (hz : evL L z = some (.int k j))
    (he : elemOf P ty = some e) (hs : szOf P e = some sz) (hr : Rowy O sz a n cs) (hc : a = none → c = 0) (h : WXL P x ops mq (i + 1) l ((d, .slice a m m) :: L) O K) (hj : j = m := by omega) (hm : m ≤ n := by omega) :
    WXL P x ops mq i ({ dst := some d, op := .slice ty y none (some z) none, type := t, pos := p, after := af, guard := gd } :: l) L O K :=
  WXL.val (.inl rfl) hw (fun s hst => by
    subst hj
    have hb : boundA (some (Value.int k (m : Int))) n = some m := by simp [boundA]
    rcases hr with ⟨rfl, rfl, rfl⟩ | ⟨b, off, q, rfl, hk, hq, hl, hcs⟩
    · have hm0 : m = 0 := by omega
      subst hm0
      have hc0 := hc rfl
      subst hc0
      simp only [aop, hst.t.ev hy, Option.map_none, Option.map_some, hst.t.ev hz, sliceA, he, Option.bind_some, hs, hb]
      rfl
    · obtain ⟨f, kk, ho⟩ := hk _ hst.sat
      simp only [aop, hst.t.ev hy, Option.map_none, Option.map_some, hst.t.ev hz, sliceA, he, Option.bind_some, hs, hb, ho]
      rw [show boundA none 0 = some 0 from rfl]
      simp only [Nat.zero_le, hm, hq, and_self, if_true, Nat.zero_mul, Nat.add_zero, Nat.sub_zero, Option.map_some]) h

theorem Spec.frame0 {f : FuncId} {args : Array Value} {Post : Value → Prop} (hf : Spec P false f args (roO O) fun v O' => Post v ∧ O' = roO O) : Spec P true f args O fun v O' => Post v ∧ O' = O :=
  (Spec.frame (Post := fun v N => Post v ∧ N = []) (hf.mono fun v O' ⟨h1, h2⟩ => ⟨[], ⟨h1, rfl⟩, fun p hp => (by simp at hp), h2⟩)).mono fun v O' ⟨N, ⟨h1, h2⟩, h3⟩ => ⟨h1, by rw [h3, h2]; rfl⟩

end Go.Proofs.Ytjmklialkjncaaa.Eng

namespace Go.Proofs.Ytjmklialkjncaaa.Eng

theorem agg1 : isAggT Try.prog 1 = some false := by kernel_rfl
theorem sz1 : szOf Try.prog 1 = some 1 := by kernel_rfl
theorem by1 : byOf Try.prog 1 = some 8 := by kernel_rfl
theorem zero1 : zeroOf Try.prog 1 = some (.nilFunc) := by kernel_rfl
-- kind 1 : func
theorem agg2 : isAggT Try.prog 2 = some false := by kernel_rfl
theorem sz2 : szOf Try.prog 2 = some 1 := by kernel_rfl
theorem by2 : byOf Try.prog 2 = some 8 := by kernel_rfl
theorem zero2 : zeroOf Try.prog 2 = some (.int .i64 0) := by kernel_rfl
-- kind 2 : int
theorem agg3 : isAggT Try.prog 3 = some false := by kernel_rfl
theorem sz3 : szOf Try.prog 3 = some 1 := by kernel_rfl
theorem by3 : byOf Try.prog 3 = some 8 := by kernel_rfl
theorem zero3 : zeroOf Try.prog 3 = some (.int .i64 0) := by kernel_rfl
-- kind 3 : int
theorem agg4 : isAggT Try.prog 4 = some false := by kernel_rfl
theorem sz4 : szOf Try.prog 4 = some 1 := by kernel_rfl
theorem by4 : byOf Try.prog 4 = some 1 := by kernel_rfl
theorem zero4 : zeroOf Try.prog 4 = some (.bool false) := by kernel_rfl
-- kind 4 : bool
theorem agg5 : isAggT Try.prog 5 = some false := by kernel_rfl
theorem sz5 : szOf Try.prog 5 = some 1 := by kernel_rfl
theorem by5 : byOf Try.prog 5 = some 1 := by kernel_rfl
theorem zero5 : zeroOf Try.prog 5 = some (.int .u8 0) := by kernel_rfl
-- kind 5 : int
theorem agg6 : isAggT Try.prog 6 = some false := by kernel_rfl
theorem sz6 : szOf Try.prog 6 = some 1 := by kernel_rfl
theorem by6 : byOf Try.prog 6 = some 1 := by kernel_rfl
theorem zero6 : zeroOf Try.prog 6 = some (.int .u8 0) := by kernel_rfl
-- kind 6 : int
theorem agg7 : isAggT Try.prog 7 = some true := by kernel_rfl
theorem sz7 : szOf Try.prog 7 = some 4 := by kernel_rfl
theorem by7 : byOf Try.prog 7 = some 24 := by kernel_rfl
theorem zero7 : zeroOf Try.prog 7 = some (.agg #[.int .i64 0, .int .i64 0, .bool false, .int .u8 0]) := by kernel_rfl
-- kind 7 : struct
-- struct 7 : 2 3 4 6
theorem places7 : placesOf Try.prog 7 = some [(0, 1), (1, 1), (2, 1), (3, 1)] := by kernel_rfl
theorem agg8 : isAggT Try.prog 8 = some true := by kernel_rfl
theorem sz8 : szOf Try.prog 8 = some 4 := by kernel_rfl
theorem by8 : byOf Try.prog 8 = some 24 := by kernel_rfl
theorem zero8 : zeroOf Try.prog 8 = some (.agg #[.int .i64 0, .int .i64 0, .bool false, .int .u8 0]) := by kernel_rfl
-- kind 8 : struct
-- struct 8 : 2 3 4 6
theorem places8 : placesOf Try.prog 8 = some [(0, 1), (1, 1), (2, 1), (3, 1)] := by kernel_rfl
theorem agg9 : isAggT Try.prog 9 = some false := by kernel_rfl
theorem sz9 : szOf Try.prog 9 = some 1 := by kernel_rfl
theorem by9 : byOf Try.prog 9 = some 16 := by kernel_rfl
theorem zero9 : zeroOf Try.prog 9 = some (.string ByteArray.empty) := by kernel_rfl
-- kind 9 : string
theorem agg10 : isAggT Try.prog 10 = some false := by kernel_rfl
theorem sz10 : szOf Try.prog 10 = some 1 := by kernel_rfl
theorem by10 : byOf Try.prog 10 = some 16 := by kernel_rfl
theorem zero10 : zeroOf Try.prog 10 = some (.string ByteArray.empty) := by kernel_rfl
-- kind 10 : string
theorem agg11 : isAggT Try.prog 11 = some false := by kernel_rfl
theorem sz11 : szOf Try.prog 11 = some 1 := by kernel_rfl
theorem by11 : byOf Try.prog 11 = some 16 := by kernel_rfl
theorem zero11 : zeroOf Try.prog 11 = some (.string ByteArray.empty) := by kernel_rfl
-- kind 11 : string
theorem agg12 : isAggT Try.prog 12 = some false := by kernel_rfl
theorem sz12 : szOf Try.prog 12 = some 1 := by kernel_rfl
theorem by12 : byOf Try.prog 12 = some 8 := by kernel_rfl
theorem zero12 : zeroOf Try.prog 12 = some (.int .u64 0) := by kernel_rfl
-- kind 12 : int
theorem agg13 : isAggT Try.prog 13 = some true := by kernel_rfl
theorem sz13 : szOf Try.prog 13 = some 2 := by kernel_rfl
theorem by13 : byOf Try.prog 13 = some 24 := by kernel_rfl
theorem zero13 : zeroOf Try.prog 13 = some (.agg #[.string ByteArray.empty, .int .u64 0]) := by kernel_rfl
-- kind 13 : struct
-- struct 13 : 9 12
theorem places13 : placesOf Try.prog 13 = some [(0, 1), (1, 1)] := by kernel_rfl
theorem agg14 : isAggT Try.prog 14 = some true := by kernel_rfl
theorem sz14 : szOf Try.prog 14 = some 2 := by kernel_rfl
theorem by14 : byOf Try.prog 14 = some 24 := by kernel_rfl
theorem zero14 : zeroOf Try.prog 14 = some (.agg #[.string ByteArray.empty, .int .u64 0]) := by kernel_rfl
-- kind 14 : struct
-- struct 14 : 9 12
theorem places14 : placesOf Try.prog 14 = some [(0, 1), (1, 1)] := by kernel_rfl
theorem agg15 : isAggT Try.prog 15 = some false := by kernel_rfl
theorem sz15 : szOf Try.prog 15 = some 1 := by kernel_rfl
theorem by15 : byOf Try.prog 15 = some 8 := by kernel_rfl
theorem zero15 : zeroOf Try.prog 15 = some (.pointer none) := by kernel_rfl
-- kind 15 : pointer
theorem agg16 : isAggT Try.prog 16 = some false := by kernel_rfl
theorem sz16 : szOf Try.prog 16 = some 1 := by kernel_rfl
theorem by16 : byOf Try.prog 16 = some 8 := by kernel_rfl
theorem zero16 : zeroOf Try.prog 16 = some (.pointer none) := by kernel_rfl
-- kind 16 : pointer
theorem agg17 : isAggT Try.prog 17 = some false := by kernel_rfl
theorem sz17 : szOf Try.prog 17 = some 1 := by kernel_rfl
theorem by17 : byOf Try.prog 17 = some 8 := by kernel_rfl
theorem zero17 : zeroOf Try.prog 17 = some (.pointer none) := by kernel_rfl
-- kind 17 : pointer
theorem agg18 : isAggT Try.prog 18 = some true := by kernel_rfl
theorem sz18 : szOf Try.prog 18 = some 1 := by kernel_rfl
theorem by18 : byOf Try.prog 18 = some 8 := by kernel_rfl
theorem zero18 : zeroOf Try.prog 18 = some (.agg #[.pointer none]) := by kernel_rfl
-- kind 18 : struct
-- struct 18 : 17
theorem places18 : placesOf Try.prog 18 = some [(0, 1)] := by kernel_rfl
theorem agg19 : isAggT Try.prog 19 = some true := by kernel_rfl
theorem sz19 : szOf Try.prog 19 = some 1 := by kernel_rfl
theorem by19 : byOf Try.prog 19 = some 8 := by kernel_rfl
theorem zero19 : zeroOf Try.prog 19 = some (.agg #[.pointer none]) := by kernel_rfl
-- kind 19 : struct
-- struct 19 : 17
theorem places19 : placesOf Try.prog 19 = some [(0, 1)] := by kernel_rfl
theorem agg20 : isAggT Try.prog 20 = some false := by kernel_rfl
theorem sz20 : szOf Try.prog 20 = some 1 := by kernel_rfl
theorem by20 : byOf Try.prog 20 = some 16 := by kernel_rfl
theorem zero20 : zeroOf Try.prog 20 = some (.nilIface) := by kernel_rfl
-- kind 20 : interface
theorem agg21 : isAggT Try.prog 21 = some false := by kernel_rfl
theorem sz21 : szOf Try.prog 21 = some 1 := by kernel_rfl
theorem by21 : byOf Try.prog 21 = some 4 := by kernel_rfl
theorem zero21 : zeroOf Try.prog 21 = some (.int .i32 0) := by kernel_rfl
-- kind 21 : int
theorem agg22 : isAggT Try.prog 22 = some false := by kernel_rfl
theorem sz22 : szOf Try.prog 22 = some 1 := by kernel_rfl
theorem by22 : byOf Try.prog 22 = some 24 := by kernel_rfl
theorem zero22 : zeroOf Try.prog 22 = some (.slice none 0 0) := by kernel_rfl
theorem elem22 : elemOf Try.prog 22 = some 3 := by kernel_rfl
theorem isrow22 : isRowT Try.prog 22 = true := by kernel_rfl
-- kind 22 : slice
theorem agg23 : isAggT Try.prog 23 = some false := by kernel_rfl
theorem sz23 : szOf Try.prog 23 = some 1 := by kernel_rfl
theorem by23 : byOf Try.prog 23 = some 24 := by kernel_rfl
theorem zero23 : zeroOf Try.prog 23 = some (.slice none 0 0) := by kernel_rfl
theorem elem23 : elemOf Try.prog 23 = some 63 := by kernel_rfl
theorem isrow23 : isRowT Try.prog 23 = true := by kernel_rfl
-- kind 23 : slice
theorem agg24 : isAggT Try.prog 24 = some true := by kernel_rfl
theorem sz24 : szOf Try.prog 24 = some 4 := by kernel_rfl
theorem by24 : byOf Try.prog 24 = some 48 := by kernel_rfl
theorem zero24 : zeroOf Try.prog 24 = some (.agg #[.int .i64 0, .int .i64 0, .int .i64 0, .slice none 0 0]) := by kernel_rfl
-- kind 24 : struct
-- struct 24 : 3 3 3 23
theorem places24 : placesOf Try.prog 24 = some [(0, 1), (1, 1), (2, 1), (3, 1)] := by kernel_rfl
theorem agg25 : isAggT Try.prog 25 = some true := by kernel_rfl
theorem sz25 : szOf Try.prog 25 = some 4 := by kernel_rfl
theorem by25 : byOf Try.prog 25 = some 48 := by kernel_rfl
theorem zero25 : zeroOf Try.prog 25 = some (.agg #[.int .i64 0, .int .i64 0, .int .i64 0, .slice none 0 0]) := by kernel_rfl
-- kind 25 : struct
-- struct 25 : 3 3 3 23
theorem places25 : placesOf Try.prog 25 = some [(0, 1), (1, 1), (2, 1), (3, 1)] := by kernel_rfl
theorem agg26 : isAggT Try.prog 26 = some false := by kernel_rfl
theorem sz26 : szOf Try.prog 26 = some 1 := by kernel_rfl
theorem by26 : byOf Try.prog 26 = some 8 := by kernel_rfl
theorem zero26 : zeroOf Try.prog 26 = some (.nilFunc) := by kernel_rfl
-- kind 26 : func
theorem agg27 : isAggT Try.prog 27 = some false := by kernel_rfl
theorem sz27 : szOf Try.prog 27 = some 1 := by kernel_rfl
theorem by27 : byOf Try.prog 27 = some 8 := by kernel_rfl
theorem zero27 : zeroOf Try.prog 27 = some (.nilFunc) := by kernel_rfl
-- kind 27 : func
theorem agg28 : isAggT Try.prog 28 = some false := by kernel_rfl
theorem sz28 : szOf Try.prog 28 = some 1 := by kernel_rfl
theorem by28 : byOf Try.prog 28 = some 8 := by kernel_rfl
theorem zero28 : zeroOf Try.prog 28 = some (.nilFunc) := by kernel_rfl
-- kind 28 : func
theorem agg29 : isAggT Try.prog 29 = some false := by kernel_rfl
theorem sz29 : szOf Try.prog 29 = some 1 := by kernel_rfl
theorem by29 : byOf Try.prog 29 = some 24 := by kernel_rfl
theorem zero29 : zeroOf Try.prog 29 = some (.slice none 0 0) := by kernel_rfl
theorem elem29 : elemOf Try.prog 29 = some 25 := by kernel_rfl
theorem isrow29 : isRowT Try.prog 29 = true := by kernel_rfl
-- kind 29 : slice
theorem agg30 : isAggT Try.prog 30 = some false := by kernel_rfl
theorem sz30 : szOf Try.prog 30 = some 1 := by kernel_rfl
theorem by30 : byOf Try.prog 30 = some 8 := by kernel_rfl
theorem zero30 : zeroOf Try.prog 30 = some (.int .i64 0) := by kernel_rfl
-- kind 30 : int
theorem agg31 : isAggT Try.prog 31 = some false := by kernel_rfl
theorem sz31 : szOf Try.prog 31 = some 1 := by kernel_rfl
theorem by31 : byOf Try.prog 31 = some 8 := by kernel_rfl
theorem zero31 : zeroOf Try.prog 31 = some (.nilFunc) := by kernel_rfl
-- kind 31 : func
theorem agg33 : isAggT Try.prog 33 = some false := by kernel_rfl
theorem sz33 : szOf Try.prog 33 = some 1 := by kernel_rfl
theorem by33 : byOf Try.prog 33 = some 8 := by kernel_rfl
theorem zero33 : zeroOf Try.prog 33 = some (.nilFunc) := by kernel_rfl
-- kind 33 : func
theorem agg34 : isAggT Try.prog 34 = some false := by kernel_rfl
theorem sz34 : szOf Try.prog 34 = some 1 := by kernel_rfl
theorem by34 : byOf Try.prog 34 = some 24 := by kernel_rfl
theorem zero34 : zeroOf Try.prog 34 = some (.slice none 0 0) := by kernel_rfl
theorem elem34 : elemOf Try.prog 34 = some 44 := by kernel_rfl
theorem isrow34 : isRowT Try.prog 34 = true := by kernel_rfl
-- kind 34 : slice
theorem agg35 : isAggT Try.prog 35 = some true := by kernel_rfl
theorem sz35 : szOf Try.prog 35 = some 4 := by kernel_rfl
theorem by35 : byOf Try.prog 35 = some 48 := by kernel_rfl
theorem zero35 : zeroOf Try.prog 35 = some (.agg #[.int .i64 0, .int .i64 0, .int .i64 0, .slice none 0 0]) := by kernel_rfl
-- kind 35 : struct
-- struct 35 : 3 3 3 34
theorem places35 : placesOf Try.prog 35 = some [(0, 1), (1, 1), (2, 1), (3, 1)] := by kernel_rfl
theorem agg36 : isAggT Try.prog 36 = some true := by kernel_rfl
theorem sz36 : szOf Try.prog 36 = some 4 := by kernel_rfl
theorem by36 : byOf Try.prog 36 = some 48 := by kernel_rfl
theorem zero36 : zeroOf Try.prog 36 = some (.agg #[.int .i64 0, .int .i64 0, .int .i64 0, .slice none 0 0]) := by kernel_rfl
-- kind 36 : struct
-- struct 36 : 3 3 3 34
theorem places36 : placesOf Try.prog 36 = some [(0, 1), (1, 1), (2, 1), (3, 1)] := by kernel_rfl
theorem agg37 : isAggT Try.prog 37 = some false := by kernel_rfl
theorem sz37 : szOf Try.prog 37 = some 1 := by kernel_rfl
theorem by37 : byOf Try.prog 37 = some 8 := by kernel_rfl
theorem zero37 : zeroOf Try.prog 37 = some (.nilFunc) := by kernel_rfl
-- kind 37 : func
theorem agg39 : isAggT Try.prog 39 = some false := by kernel_rfl
theorem sz39 : szOf Try.prog 39 = some 1 := by kernel_rfl
theorem by39 : byOf Try.prog 39 = some 8 := by kernel_rfl
theorem zero39 : zeroOf Try.prog 39 = some (.nilFunc) := by kernel_rfl
-- kind 39 : func
theorem agg40 : isAggT Try.prog 40 = some false := by kernel_rfl
theorem sz40 : szOf Try.prog 40 = some 1 := by kernel_rfl
theorem by40 : byOf Try.prog 40 = some 8 := by kernel_rfl
theorem zero40 : zeroOf Try.prog 40 = some (.nilFunc) := by kernel_rfl
-- kind 40 : func
theorem agg41 : isAggT Try.prog 41 = some false := by kernel_rfl
theorem sz41 : szOf Try.prog 41 = some 1 := by kernel_rfl
theorem by41 : byOf Try.prog 41 = some 8 := by kernel_rfl
theorem zero41 : zeroOf Try.prog 41 = some (.nilFunc) := by kernel_rfl
-- kind 41 : func
theorem agg42 : isAggT Try.prog 42 = some false := by kernel_rfl
theorem sz42 : szOf Try.prog 42 = some 1 := by kernel_rfl
theorem by42 : byOf Try.prog 42 = some 8 := by kernel_rfl
theorem zero42 : zeroOf Try.prog 42 = some (.nilFunc) := by kernel_rfl
-- kind 42 : func
theorem agg43 : isAggT Try.prog 43 = some true := by kernel_rfl
theorem sz43 : szOf Try.prog 43 = some 4 := by kernel_rfl
theorem by43 : byOf Try.prog 43 = some 32 := by kernel_rfl
theorem zero43 : zeroOf Try.prog 43 = some (.agg #[.int .i64 0, .int .i64 0, .int .i64 0, .int .i64 0]) := by kernel_rfl
-- kind 43 : struct
-- struct 43 : 3 3 3 3
theorem places43 : placesOf Try.prog 43 = some [(0, 1), (1, 1), (2, 1), (3, 1)] := by kernel_rfl
theorem agg44 : isAggT Try.prog 44 = some true := by kernel_rfl
theorem sz44 : szOf Try.prog 44 = some 4 := by kernel_rfl
theorem by44 : byOf Try.prog 44 = some 32 := by kernel_rfl
theorem zero44 : zeroOf Try.prog 44 = some (.agg #[.int .i64 0, .int .i64 0, .int .i64 0, .int .i64 0]) := by kernel_rfl
-- kind 44 : struct
-- struct 44 : 3 3 3 3
theorem places44 : placesOf Try.prog 44 = some [(0, 1), (1, 1), (2, 1), (3, 1)] := by kernel_rfl
theorem agg45 : isAggT Try.prog 45 = some false := by kernel_rfl
theorem sz45 : szOf Try.prog 45 = some 1 := by kernel_rfl
theorem by45 : byOf Try.prog 45 = some 8 := by kernel_rfl
theorem zero45 : zeroOf Try.prog 45 = some (.nilFunc) := by kernel_rfl
-- kind 45 : func
theorem agg46 : isAggT Try.prog 46 = some false := by kernel_rfl
theorem sz46 : szOf Try.prog 46 = some 1 := by kernel_rfl
theorem by46 : byOf Try.prog 46 = some 24 := by kernel_rfl
theorem zero46 : zeroOf Try.prog 46 = some (.slice none 0 0) := by kernel_rfl
theorem elem46 : elemOf Try.prog 46 = some 4 := by kernel_rfl
theorem isrow46 : isRowT Try.prog 46 = true := by kernel_rfl
-- kind 46 : slice
theorem agg48 : isAggT Try.prog 48 = some false := by kernel_rfl
theorem sz48 : szOf Try.prog 48 = some 1 := by kernel_rfl
theorem by48 : byOf Try.prog 48 = some 8 := by kernel_rfl
theorem zero48 : zeroOf Try.prog 48 = some (.nilFunc) := by kernel_rfl
-- kind 48 : func
theorem agg49 : isAggT Try.prog 49 = some false := by kernel_rfl
theorem sz49 : szOf Try.prog 49 = some 1 := by kernel_rfl
theorem by49 : byOf Try.prog 49 = some 24 := by kernel_rfl
theorem zero49 : zeroOf Try.prog 49 = some (.slice none 0 0) := by kernel_rfl
theorem elem49 : elemOf Try.prog 49 = some 46 := by kernel_rfl
theorem isrow49 : isRowT Try.prog 49 = true := by kernel_rfl
-- kind 49 : slice
theorem agg50 : isAggT Try.prog 50 = some false := by kernel_rfl
theorem sz50 : szOf Try.prog 50 = some 1 := by kernel_rfl
theorem by50 : byOf Try.prog 50 = some 24 := by kernel_rfl
theorem zero50 : zeroOf Try.prog 50 = some (.slice none 0 0) := by kernel_rfl
theorem elem50 : elemOf Try.prog 50 = some 22 := by kernel_rfl
theorem isrow50 : isRowT Try.prog 50 = true := by kernel_rfl
-- kind 50 : slice
theorem agg51 : isAggT Try.prog 51 = some false := by kernel_rfl
theorem sz51 : szOf Try.prog 51 = some 1 := by kernel_rfl
theorem by51 : byOf Try.prog 51 = some 8 := by kernel_rfl
theorem zero51 : zeroOf Try.prog 51 = some (.nilFunc) := by kernel_rfl
-- kind 51 : func
theorem agg53 : isAggT Try.prog 53 = some false := by kernel_rfl
theorem sz53 : szOf Try.prog 53 = some 1 := by kernel_rfl
theorem by53 : byOf Try.prog 53 = some 8 := by kernel_rfl
theorem zero53 : zeroOf Try.prog 53 = some (.nilFunc) := by kernel_rfl
-- kind 53 : func
theorem agg54 : isAggT Try.prog 54 = some false := by kernel_rfl
theorem sz54 : szOf Try.prog 54 = some 1 := by kernel_rfl
theorem by54 : byOf Try.prog 54 = some 8 := by kernel_rfl
theorem zero54 : zeroOf Try.prog 54 = some (.nilFunc) := by kernel_rfl
-- kind 54 : func
theorem agg55 : isAggT Try.prog 55 = some false := by kernel_rfl
theorem sz55 : szOf Try.prog 55 = some 1 := by kernel_rfl
theorem by55 : byOf Try.prog 55 = some 8 := by kernel_rfl
theorem zero55 : zeroOf Try.prog 55 = some (.nilFunc) := by kernel_rfl
-- kind 55 : func
theorem agg56 : isAggT Try.prog 56 = some false := by kernel_rfl
theorem sz56 : szOf Try.prog 56 = some 1 := by kernel_rfl
theorem by56 : byOf Try.prog 56 = some 8 := by kernel_rfl
theorem zero56 : zeroOf Try.prog 56 = some (.nilFunc) := by kernel_rfl
-- kind 56 : func
theorem agg57 : isAggT Try.prog 57 = some false := by kernel_rfl
theorem sz57 : szOf Try.prog 57 = some 1 := by kernel_rfl
theorem by57 : byOf Try.prog 57 = some 8 := by kernel_rfl
theorem zero57 : zeroOf Try.prog 57 = some (.nilFunc) := by kernel_rfl
-- kind 57 : func
theorem agg58 : isAggT Try.prog 58 = some false := by kernel_rfl
theorem sz58 : szOf Try.prog 58 = some 1 := by kernel_rfl
theorem by58 : byOf Try.prog 58 = some 8 := by kernel_rfl
theorem zero58 : zeroOf Try.prog 58 = some (.nilFunc) := by kernel_rfl
-- kind 58 : func
theorem agg59 : isAggT Try.prog 59 = some false := by kernel_rfl
theorem sz59 : szOf Try.prog 59 = some 1 := by kernel_rfl
theorem by59 : byOf Try.prog 59 = some 8 := by kernel_rfl
theorem zero59 : zeroOf Try.prog 59 = some (.nilFunc) := by kernel_rfl
-- kind 59 : func
theorem agg60 : isAggT Try.prog 60 = some false := by kernel_rfl
theorem sz60 : szOf Try.prog 60 = some 1 := by kernel_rfl
theorem by60 : byOf Try.prog 60 = some 8 := by kernel_rfl
theorem zero60 : zeroOf Try.prog 60 = some (.nilFunc) := by kernel_rfl
-- kind 60 : func
theorem agg61 : isAggT Try.prog 61 = some false := by kernel_rfl
theorem sz61 : szOf Try.prog 61 = some 1 := by kernel_rfl
theorem by61 : byOf Try.prog 61 = some 8 := by kernel_rfl
theorem zero61 : zeroOf Try.prog 61 = some (.nilFunc) := by kernel_rfl
-- kind 61 : func
theorem agg62 : isAggT Try.prog 62 = some false := by kernel_rfl
theorem sz62 : szOf Try.prog 62 = some 1 := by kernel_rfl
theorem by62 : byOf Try.prog 62 = some 8 := by kernel_rfl
theorem zero62 : zeroOf Try.prog 62 = some (.nilFunc) := by kernel_rfl
-- kind 62 : func
theorem agg63 : isAggT Try.prog 63 = some true := by kernel_rfl
theorem sz63 : szOf Try.prog 63 = some 4 := by kernel_rfl
theorem by63 : byOf Try.prog 63 = some 32 := by kernel_rfl
theorem zero63 : zeroOf Try.prog 63 = some (.agg #[.int .i64 0, .int .i64 0, .int .i64 0, .int .i64 0]) := by kernel_rfl
-- kind 63 : struct
-- struct 63 : 3 3 3 3
theorem places63 : placesOf Try.prog 63 = some [(0, 1), (1, 1), (2, 1), (3, 1)] := by kernel_rfl
theorem agg65 : isAggT Try.prog 65 = some false := by kernel_rfl
theorem sz65 : szOf Try.prog 65 = some 1 := by kernel_rfl
theorem by65 : byOf Try.prog 65 = some 8 := by kernel_rfl
theorem zero65 : zeroOf Try.prog 65 = some (.nilFunc) := by kernel_rfl
-- kind 65 : func
theorem agg66 : isAggT Try.prog 66 = some false := by kernel_rfl
theorem sz66 : szOf Try.prog 66 = some 1 := by kernel_rfl
theorem by66 : byOf Try.prog 66 = some 8 := by kernel_rfl
theorem zero66 : zeroOf Try.prog 66 = some (.nilFunc) := by kernel_rfl
-- kind 66 : func
theorem agg67 : isAggT Try.prog 67 = some false := by kernel_rfl
theorem sz67 : szOf Try.prog 67 = some 1 := by kernel_rfl
theorem by67 : byOf Try.prog 67 = some 8 := by kernel_rfl
theorem zero67 : zeroOf Try.prog 67 = some (.nilFunc) := by kernel_rfl
-- kind 67 : func
theorem agg68 : isAggT Try.prog 68 = some false := by kernel_rfl
theorem sz68 : szOf Try.prog 68 = some 1 := by kernel_rfl
theorem by68 : byOf Try.prog 68 = some 8 := by kernel_rfl
theorem zero68 : zeroOf Try.prog 68 = some (.nilFunc) := by kernel_rfl
-- kind 68 : func
theorem agg69 : isAggT Try.prog 69 = some false := by kernel_rfl
theorem sz69 : szOf Try.prog 69 = some 1 := by kernel_rfl
theorem by69 : byOf Try.prog 69 = some 8 := by kernel_rfl
theorem zero69 : zeroOf Try.prog 69 = some (.nilFunc) := by kernel_rfl
-- kind 69 : func
theorem agg70 : isAggT Try.prog 70 = some false := by kernel_rfl
theorem sz70 : szOf Try.prog 70 = some 1 := by kernel_rfl
theorem by70 : byOf Try.prog 70 = some 8 := by kernel_rfl
theorem zero70 : zeroOf Try.prog 70 = some (.nilFunc) := by kernel_rfl
-- kind 70 : func
theorem agg71 : isAggT Try.prog 71 = some false := by kernel_rfl
theorem sz71 : szOf Try.prog 71 = some 1 := by kernel_rfl
theorem by71 : byOf Try.prog 71 = some 8 := by kernel_rfl
theorem zero71 : zeroOf Try.prog 71 = some (.nilFunc) := by kernel_rfl
-- kind 71 : func
theorem agg72 : isAggT Try.prog 72 = some false := by kernel_rfl
theorem sz72 : szOf Try.prog 72 = some 1 := by kernel_rfl
theorem by72 : byOf Try.prog 72 = some 24 := by kernel_rfl
theorem zero72 : zeroOf Try.prog 72 = some (.slice none 0 0) := by kernel_rfl
theorem elem72 : elemOf Try.prog 72 = some 74 := by kernel_rfl
theorem isrow72 : isRowT Try.prog 72 = true := by kernel_rfl
-- kind 72 : slice
theorem agg73 : isAggT Try.prog 73 = some false := by kernel_rfl
theorem sz73 : szOf Try.prog 73 = some 1 := by kernel_rfl
theorem by73 : byOf Try.prog 73 = some 8 := by kernel_rfl
theorem zero73 : zeroOf Try.prog 73 = some (.nilFunc) := by kernel_rfl
-- kind 73 : func
theorem agg74 : isAggT Try.prog 74 = some false := by kernel_rfl
theorem sz74 : szOf Try.prog 74 = some 1 := by kernel_rfl
theorem by74 : byOf Try.prog 74 = some 24 := by kernel_rfl
theorem zero74 : zeroOf Try.prog 74 = some (.slice none 0 0) := by kernel_rfl
theorem elem74 : elemOf Try.prog 74 = some 79 := by kernel_rfl
theorem isrow74 : isRowT Try.prog 74 = true := by kernel_rfl
-- kind 74 : slice
theorem agg76 : isAggT Try.prog 76 = some false := by kernel_rfl
theorem sz76 : szOf Try.prog 76 = some 1 := by kernel_rfl
theorem by76 : byOf Try.prog 76 = some 8 := by kernel_rfl
theorem zero76 : zeroOf Try.prog 76 = some (.nilFunc) := by kernel_rfl
-- kind 76 : func
theorem agg77 : isAggT Try.prog 77 = some false := by kernel_rfl
theorem sz77 : szOf Try.prog 77 = some 1 := by kernel_rfl
theorem by77 : byOf Try.prog 77 = some 8 := by kernel_rfl
theorem zero77 : zeroOf Try.prog 77 = some (.nilFunc) := by kernel_rfl
-- kind 77 : func
theorem agg78 : isAggT Try.prog 78 = some true := by kernel_rfl
theorem sz78 : szOf Try.prog 78 = some 3 := by kernel_rfl
theorem by78 : byOf Try.prog 78 = some 24 := by kernel_rfl
theorem zero78 : zeroOf Try.prog 78 = some (.agg #[.int .i64 0, .int .i64 0, .bool false]) := by kernel_rfl
-- kind 78 : struct
-- struct 78 : 3 3 4
theorem places78 : placesOf Try.prog 78 = some [(0, 1), (1, 1), (2, 1)] := by kernel_rfl
theorem agg79 : isAggT Try.prog 79 = some true := by kernel_rfl
theorem sz79 : szOf Try.prog 79 = some 3 := by kernel_rfl
theorem by79 : byOf Try.prog 79 = some 24 := by kernel_rfl
theorem zero79 : zeroOf Try.prog 79 = some (.agg #[.int .i64 0, .int .i64 0, .bool false]) := by kernel_rfl
-- kind 79 : struct
-- struct 79 : 3 3 4
theorem places79 : placesOf Try.prog 79 = some [(0, 1), (1, 1), (2, 1)] := by kernel_rfl
theorem agg80 : isAggT Try.prog 80 = some false := by kernel_rfl
theorem sz80 : szOf Try.prog 80 = some 1 := by kernel_rfl
theorem by80 : byOf Try.prog 80 = some 8 := by kernel_rfl
theorem zero80 : zeroOf Try.prog 80 = some (.nilFunc) := by kernel_rfl
-- kind 80 : func
theorem agg81 : isAggT Try.prog 81 = some false := by kernel_rfl
theorem sz81 : szOf Try.prog 81 = some 1 := by kernel_rfl
theorem by81 : byOf Try.prog 81 = some 8 := by kernel_rfl
theorem zero81 : zeroOf Try.prog 81 = some (.nilFunc) := by kernel_rfl
-- kind 81 : func
theorem agg82 : isAggT Try.prog 82 = some false := by kernel_rfl
theorem sz82 : szOf Try.prog 82 = some 1 := by kernel_rfl
theorem by82 : byOf Try.prog 82 = some 8 := by kernel_rfl
theorem zero82 : zeroOf Try.prog 82 = some (.nilFunc) := by kernel_rfl
-- kind 82 : func
theorem agg84 : isAggT Try.prog 84 = some false := by kernel_rfl
theorem sz84 : szOf Try.prog 84 = some 1 := by kernel_rfl
theorem by84 : byOf Try.prog 84 = some 8 := by kernel_rfl
theorem zero84 : zeroOf Try.prog 84 = some (.nilFunc) := by kernel_rfl
-- kind 84 : func
theorem agg85 : isAggT Try.prog 85 = some false := by kernel_rfl
theorem sz85 : szOf Try.prog 85 = some 1 := by kernel_rfl
theorem by85 : byOf Try.prog 85 = some 8 := by kernel_rfl
theorem zero85 : zeroOf Try.prog 85 = some (.nilFunc) := by kernel_rfl
-- kind 85 : func
theorem agg86 : isAggT Try.prog 86 = some false := by kernel_rfl
theorem sz86 : szOf Try.prog 86 = some 1 := by kernel_rfl
theorem by86 : byOf Try.prog 86 = some 8 := by kernel_rfl
theorem zero86 : zeroOf Try.prog 86 = some (.nilFunc) := by kernel_rfl
-- kind 86 : func
theorem agg87 : isAggT Try.prog 87 = some false := by kernel_rfl
theorem sz87 : szOf Try.prog 87 = some 1 := by kernel_rfl
theorem by87 : byOf Try.prog 87 = some 8 := by kernel_rfl
theorem zero87 : zeroOf Try.prog 87 = some (.nilFunc) := by kernel_rfl
-- kind 87 : func
theorem agg88 : isAggT Try.prog 88 = some false := by kernel_rfl
theorem sz88 : szOf Try.prog 88 = some 1 := by kernel_rfl
theorem by88 : byOf Try.prog 88 = some 8 := by kernel_rfl
theorem zero88 : zeroOf Try.prog 88 = some (.nilFunc) := by kernel_rfl
-- kind 88 : func
theorem agg89 : isAggT Try.prog 89 = some false := by kernel_rfl
theorem sz89 : szOf Try.prog 89 = some 1 := by kernel_rfl
theorem by89 : byOf Try.prog 89 = some 8 := by kernel_rfl
theorem zero89 : zeroOf Try.prog 89 = some (.nilFunc) := by kernel_rfl
-- kind 89 : func
theorem agg90 : isAggT Try.prog 90 = some false := by kernel_rfl
theorem sz90 : szOf Try.prog 90 = some 1 := by kernel_rfl
theorem by90 : byOf Try.prog 90 = some 8 := by kernel_rfl
theorem zero90 : zeroOf Try.prog 90 = some (.nilFunc) := by kernel_rfl
-- kind 90 : func
theorem agg91 : isAggT Try.prog 91 = some false := by kernel_rfl
theorem sz91 : szOf Try.prog 91 = some 1 := by kernel_rfl
theorem by91 : byOf Try.prog 91 = some 8 := by kernel_rfl
theorem zero91 : zeroOf Try.prog 91 = some (.nilFunc) := by kernel_rfl
-- kind 91 : func
theorem agg92 : isAggT Try.prog 92 = some false := by kernel_rfl
theorem sz92 : szOf Try.prog 92 = some 1 := by kernel_rfl
theorem by92 : byOf Try.prog 92 = some 8 := by kernel_rfl
theorem zero92 : zeroOf Try.prog 92 = some (.nilFunc) := by kernel_rfl
-- kind 92 : func
theorem agg94 : isAggT Try.prog 94 = some false := by kernel_rfl
theorem sz94 : szOf Try.prog 94 = some 1 := by kernel_rfl
theorem by94 : byOf Try.prog 94 = some 8 := by kernel_rfl
theorem zero94 : zeroOf Try.prog 94 = some (.nilFunc) := by kernel_rfl
-- kind 94 : func
theorem agg95 : isAggT Try.prog 95 = some false := by kernel_rfl
theorem sz95 : szOf Try.prog 95 = some 1 := by kernel_rfl
theorem by95 : byOf Try.prog 95 = some 8 := by kernel_rfl
theorem zero95 : zeroOf Try.prog 95 = some (.nilFunc) := by kernel_rfl
-- kind 95 : func
theorem agg96 : isAggT Try.prog 96 = some false := by kernel_rfl
theorem sz96 : szOf Try.prog 96 = some 1 := by kernel_rfl
theorem by96 : byOf Try.prog 96 = some 8 := by kernel_rfl
theorem zero96 : zeroOf Try.prog 96 = some (.nilFunc) := by kernel_rfl
-- kind 96 : func
theorem agg97 : isAggT Try.prog 97 = some false := by kernel_rfl
theorem sz97 : szOf Try.prog 97 = some 1 := by kernel_rfl
theorem by97 : byOf Try.prog 97 = some 8 := by kernel_rfl
theorem zero97 : zeroOf Try.prog 97 = some (.nilFunc) := by kernel_rfl
-- kind 97 : func
theorem agg98 : isAggT Try.prog 98 = some false := by kernel_rfl
theorem sz98 : szOf Try.prog 98 = some 1 := by kernel_rfl
theorem by98 : byOf Try.prog 98 = some 8 := by kernel_rfl
theorem zero98 : zeroOf Try.prog 98 = some (.nilFunc) := by kernel_rfl
-- kind 98 : func
theorem agg99 : isAggT Try.prog 99 = some false := by kernel_rfl
theorem sz99 : szOf Try.prog 99 = some 1 := by kernel_rfl
theorem by99 : byOf Try.prog 99 = some 8 := by kernel_rfl
theorem zero99 : zeroOf Try.prog 99 = some (.nilFunc) := by kernel_rfl
-- kind 99 : func
theorem agg100 : isAggT Try.prog 100 = some true := by kernel_rfl
theorem sz100 : szOf Try.prog 100 = some 4 := by kernel_rfl
theorem by100 : byOf Try.prog 100 = some 40 := by kernel_rfl
theorem zero100 : zeroOf Try.prog 100 = some (.agg #[.pointer none, .pointer none, .pointer none, .string ByteArray.empty]) := by kernel_rfl
-- kind 100 : struct
-- struct 100 : 17 17 17 9
theorem places100 : placesOf Try.prog 100 = some [(0, 1), (1, 1), (2, 1), (3, 1)] := by kernel_rfl
theorem agg101 : isAggT Try.prog 101 = some true := by kernel_rfl
theorem sz101 : szOf Try.prog 101 = some 4 := by kernel_rfl
theorem by101 : byOf Try.prog 101 = some 40 := by kernel_rfl
theorem zero101 : zeroOf Try.prog 101 = some (.agg #[.pointer none, .pointer none, .pointer none, .string ByteArray.empty]) := by kernel_rfl
-- kind 101 : struct
-- struct 101 : 17 17 17 9
theorem places101 : placesOf Try.prog 101 = some [(0, 1), (1, 1), (2, 1), (3, 1)] := by kernel_rfl
theorem agg102 : isAggT Try.prog 102 = some true := by kernel_rfl
theorem sz102 : szOf Try.prog 102 = some 0 := by kernel_rfl
theorem by102 : byOf Try.prog 102 = some 0 := by kernel_rfl
theorem zero102 : zeroOf Try.prog 102 = some (.agg #[]) := by kernel_rfl
-- kind 102 : array
theorem agg103 : isAggT Try.prog 103 = some true := by kernel_rfl
theorem sz103 : szOf Try.prog 103 = some 0 := by kernel_rfl
theorem by103 : byOf Try.prog 103 = some 0 := by kernel_rfl
theorem zero103 : zeroOf Try.prog 103 = some (.agg #[]) := by kernel_rfl
-- kind 103 : struct
-- struct 103 : 102
theorem places103 : placesOf Try.prog 103 = some [(0, 0)] := by kernel_rfl
theorem agg104 : isAggT Try.prog 104 = some true := by kernel_rfl
theorem sz104 : szOf Try.prog 104 = some 0 := by kernel_rfl
theorem by104 : byOf Try.prog 104 = some 0 := by kernel_rfl
theorem zero104 : zeroOf Try.prog 104 = some (.agg #[]) := by kernel_rfl
-- kind 104 : struct
-- struct 104 : 102
theorem places104 : placesOf Try.prog 104 = some [(0, 0)] := by kernel_rfl
theorem agg105 : isAggT Try.prog 105 = some false := by kernel_rfl
theorem sz105 : szOf Try.prog 105 = some 1 := by kernel_rfl
theorem by105 : byOf Try.prog 105 = some 8 := by kernel_rfl
theorem zero105 : zeroOf Try.prog 105 = some (.nilFunc) := by kernel_rfl
-- kind 105 : func
theorem agg106 : isAggT Try.prog 106 = some false := by kernel_rfl
theorem sz106 : szOf Try.prog 106 = some 1 := by kernel_rfl
theorem by106 : byOf Try.prog 106 = some 4 := by kernel_rfl
theorem zero106 : zeroOf Try.prog 106 = some (.int .u32 0) := by kernel_rfl
-- kind 106 : int
theorem agg107 : isAggT Try.prog 107 = some false := by kernel_rfl
theorem sz107 : szOf Try.prog 107 = some 1 := by kernel_rfl
theorem by107 : byOf Try.prog 107 = some 1 := by kernel_rfl
theorem zero107 : zeroOf Try.prog 107 = some (.int .u8 0) := by kernel_rfl
-- kind 107 : int
theorem agg108 : isAggT Try.prog 108 = some false := by kernel_rfl
theorem sz108 : szOf Try.prog 108 = some 1 := by kernel_rfl
theorem by108 : byOf Try.prog 108 = some 1 := by kernel_rfl
theorem zero108 : zeroOf Try.prog 108 = some (.int .u8 0) := by kernel_rfl
-- kind 108 : int
theorem agg109 : isAggT Try.prog 109 = some false := by kernel_rfl
theorem sz109 : szOf Try.prog 109 = some 1 := by kernel_rfl
theorem by109 : byOf Try.prog 109 = some 8 := by kernel_rfl
theorem zero109 : zeroOf Try.prog 109 = some (.nilFunc) := by kernel_rfl
-- kind 109 : func
theorem agg110 : isAggT Try.prog 110 = some false := by kernel_rfl
theorem sz110 : szOf Try.prog 110 = some 1 := by kernel_rfl
theorem by110 : byOf Try.prog 110 = some 8 := by kernel_rfl
theorem zero110 : zeroOf Try.prog 110 = some (.pointer none) := by kernel_rfl
-- kind 110 : pointer
theorem agg111 : isAggT Try.prog 111 = some false := by kernel_rfl
theorem sz111 : szOf Try.prog 111 = some 1 := by kernel_rfl
theorem by111 : byOf Try.prog 111 = some 4 := by kernel_rfl
theorem zero111 : zeroOf Try.prog 111 = some (.int .i32 0) := by kernel_rfl
-- kind 111 : int
theorem agg112 : isAggT Try.prog 112 = some false := by kernel_rfl
theorem sz112 : szOf Try.prog 112 = some 1 := by kernel_rfl
theorem by112 : byOf Try.prog 112 = some 4 := by kernel_rfl
theorem zero112 : zeroOf Try.prog 112 = some (.int .i32 0) := by kernel_rfl
-- kind 112 : int
theorem agg113 : isAggT Try.prog 113 = some true := by kernel_rfl
theorem sz113 : szOf Try.prog 113 = some 11 := by kernel_rfl
theorem by113 : byOf Try.prog 113 = some 48 := by kernel_rfl
theorem zero113 : zeroOf Try.prog 113 = some (.agg #[.int .u64 0, .int .u64 0, .int .u32 0, .int .u8 0, .int .u8 0, .int .u8 0, .int .u8 0, .nilFunc, .pointer none, .int .i32 0, .int .i32 0]) := by kernel_rfl
-- kind 113 : struct
-- struct 113 : 12 12 106 107 5 5 108 109 110 111 112
theorem places113 : placesOf Try.prog 113 = some [(0, 1), (1, 1), (2, 1), (3, 1), (4, 1), (5, 1), (6, 1), (7, 1), (8, 1), (9, 1), (10, 1)] := by kernel_rfl
theorem agg114 : isAggT Try.prog 114 = some true := by kernel_rfl
theorem sz114 : szOf Try.prog 114 = some 11 := by kernel_rfl
theorem by114 : byOf Try.prog 114 = some 48 := by kernel_rfl
theorem zero114 : zeroOf Try.prog 114 = some (.agg #[.int .u64 0, .int .u64 0, .int .u32 0, .int .u8 0, .int .u8 0, .int .u8 0, .int .u8 0, .nilFunc, .pointer none, .int .i32 0, .int .i32 0]) := by kernel_rfl
-- kind 114 : struct
-- struct 114 : 12 12 106 107 5 5 108 109 110 111 112
theorem places114 : placesOf Try.prog 114 = some [(0, 1), (1, 1), (2, 1), (3, 1), (4, 1), (5, 1), (6, 1), (7, 1), (8, 1), (9, 1), (10, 1)] := by kernel_rfl

end Go.Proofs.Ytjmklialkjncaaa.Eng

set_option linter.unusedVariables false
set_option linter.unusedSimpArgs false
namespace Go.Proofs.Ytjmklialkjncaaa.Eng

def around (n : Int) (most : Int) : Int := if n < 0 then (-(n + 1)).tmod most else n.tmod most

def In64 (n : Int) : Prop := -9223372036854775808 ≤ n ∧ n ≤ 9223372036854775807

theorem around_ok (O : Objs) (n most : Int) (hn : In64 n) (hm : most ≠ 0) : Spec Try.prog true 13 #[I n, I most] O fun v O' => v = I (around n most) ∧ O' = O := by
  unfold In64 at hn
  refine Spec.enter (args := [_, _]) (m := 13) Try.func13 rfl rfl (by decide +kernel) fun h0 => ?_
  refine WX.seq ?_
  refine WX.region rfl ?_
  refine WXL.assign Met.none rfl ?_
  refine WXL.nil ?_
  refine Fin.then_normal ?_
  refine WX.seq ?_
  refine WX.seq ?_
  refine WX.region rfl ?_
  refine WXL.move Met.none rfl ?_
  refine WXL.bin Met.none rfl rfl rfl ?_
  refine WXL.nil ?_
  refine Fin.then_normal ?_
  refine WX.cond rfl (fun hc0 => ?_) (fun hc0 => ?_)
  · try simp only [cnd] at hc0
    refine WX.region rfl ?_
    refine WXL.move Met.none rfl ?_
    refine WXL.bin Met.none rfl rfl bvA ?_
    refine WXL.neg Met.none rfl (by first | exact wrap_neg (by omega) (by omega) | exact rfl) ?_
    refine WXL.assign Met.none rfl ?_
    refine WXL.nil ?_
    refine Fin.then_normal ?_
    refine WX.seq ?_
    refine WX.region rfl ?_
    refine WXL.move Met.none rfl ?_
    refine WXL.move Met.none rfl ?_
    refine WXL.rem Met.none rfl rfl (by omega) ?_
    refine WXL.assign Met.none rfl ?_
    refine WXL.nil ?_
    refine Fin.then_normal ?_
    refine WX.ret ?_
    exact Fin.result (.inr rfl) rfl rfl (fun _ h => h) ⟨by unfold around; first | (rw [if_pos (by assumption)]; exact rfl) | (rw [if_neg (by omega)]; exact rfl), rfl⟩
  · try simp only [cnd] at hc0
    refine WX.skip ?_
    refine Fin.then_normal ?_
    refine WX.seq ?_
    refine WX.region rfl ?_
    refine WXL.move Met.none rfl ?_
    refine WXL.move Met.none rfl ?_
    refine WXL.rem Met.none rfl rfl (by omega) ?_
    refine WXL.assign Met.none rfl ?_
    refine WXL.nil ?_
    refine Fin.then_normal ?_
    refine WX.ret ?_
    exact Fin.result (.inr rfl) rfl rfl (fun _ h => h) ⟨by unfold around; first | (rw [if_pos (by assumption)]; exact rfl) | (rw [if_neg (by omega)]; exact rfl), rfl⟩

/-- A list of numbers, each of its kind. -/
def All64 (l : List Int) : Prop := ∀ n ∈ l, In64 n

def pickI (l : List Int) (i : Int) (most : Int) : Int := if i < 0 ∨ l.length ≤ i then 0 else around (nth l i.toNat) most

theorem pick_ok (O : Objs) (l : List Int) (a : Option Addr) (c : Nat) (i most : Int) (hl : Src O 1 (.slice a l.length c) l.length (l.map I)) (h64 : All64 l) (hm : most ≠ 0) :
    Spec Try.prog true 35 #[.slice a l.length c, I i, I most] O fun v O' => v = I (pickI l i most) ∧ O' = O := by
  refine Spec.enter (args := [_, _, _]) (m := 21) Try.func35 rfl rfl (by decide +kernel) fun h0 => ?_
  refine WX.seq ?_
  refine WX.region rfl ?_
  refine WXL.assign Met.none rfl ?_
  refine WXL.nil ?_
  refine Fin.then_normal ?_
  refine WX.seq ?_
  refine WX.seq ?_
  refine WX.region rfl ?_
  refine WXL.move Met.none rfl ?_
  refine WXL.bin Met.none rfl rfl rfl ?_
  refine WXL.move Met.none rfl ?_
  refine WXL.split (d := 9) rfl (fun hg9 => ?_) (fun hg9 => ?_)
  · try simp only [cnd] at hg9
    refine WXL.miss (j := 2) (d := 9) rfl rfl rfl ?_
    refine WXL.miss (j := 2) (d := 9) rfl rfl rfl ?_
    refine WXL.miss (j := 2) (d := 9) rfl rfl rfl ?_
    refine WXL.miss (j := 2) (d := 9) rfl rfl rfl ?_
    refine WXL.pick_t Met.none rfl rfl ?_
    refine WXL.nil ?_
    refine Fin.then_normal ?_
    refine WX.cond rfl (fun hc0 => ?_) (fun hc0 => nomatch hc0)
    refine WX.seq ?_
    refine WX.region rfl ?_
    refine WXL.assign Met.none rfl ?_
    refine WXL.nil ?_
    refine Fin.then_normal ?_
    refine WX.ret ?_
    refine Fin.then_ret ?_
    exact Fin.result (.inr rfl) rfl rfl (fun _ h => h) ⟨by unfold pickI; first | (rw [if_pos (by omega)]; exact rfl) | (rw [if_neg (by omega)]; exact rfl), rfl⟩
  · try simp only [cnd] at hg9
    refine WXL.move (Met.some rfl rfl rfl) rfl ?_
    refine WXL.move (Met.some rfl rfl rfl) rfl ?_
    refine WXL.len (Met.some rfl rfl rfl) rfl Try.underlying22 ?_
    refine WXL.bin (Met.some rfl rfl rfl) rfl rfl rfl ?_
    refine WXL.pick_f Met.none rfl rfl ?_
    refine WXL.nil ?_
    refine Fin.then_normal ?_
    refine WX.cond rfl (fun hc0 => ?_) (fun hc0 => ?_)
    · try simp only [cnd] at hc0
      refine WX.seq ?_
      refine WX.region rfl ?_
      refine WXL.assign Met.none rfl ?_
      refine WXL.nil ?_
      refine Fin.then_normal ?_
      refine WX.ret ?_
      refine Fin.then_ret ?_
      exact Fin.result (.inr rfl) rfl rfl (fun _ h => h) ⟨by unfold pickI; first | (rw [if_pos (by omega)]; exact rfl) | (rw [if_neg (by omega)]; exact rfl), rfl⟩
    · try simp only [cnd] at hc0
      refine WX.skip ?_
      refine Fin.then_normal ?_
      refine WX.seq ?_
      refine WX.region rfl ?_
      refine WXL.move Met.none rfl ?_
      refine WXL.move Met.none rfl ?_
      first | refine WXL.ix Met.none rfl rfl elem22 sz3 ?_ | refine WXL.ixS Met.none rfl rfl elem22 sz3 ?_
      first | refine WXL.ld Met.none rfl agg3 ?_ | refine WXL.ldS Met.none rfl agg3 ?_
      refine WXL.move Met.none rfl ?_
      refine WXL.cl (O1 := _) Met.none rfl (fnOk_of Try.func13 (by decide +kernel)) rfl (fun _ h => h) (around_ok _ _ _ (h64 _ (nth_mem (by omega))) hm) (fun v O' hp => ?_)
      obtain ⟨rfl, hO⟩ := hp
      subst O'
      refine WXL.assign Met.none rfl ?_
      refine WXL.nil ?_
      refine Fin.then_normal ?_
      refine WX.ret ?_
      exact Fin.result (.inr rfl) rfl rfl (fun _ h => h) ⟨by unfold pickI; first | (rw [if_pos (by omega)]; exact rfl) | (rw [if_neg (by omega)]; exact rfl), rfl⟩

theorem take_succ_nth {α : Type} [Inhabited α] {l : List α} {k : Nat} (h : k < l.length) : l.take (k + 1) = l.take k ++ [nth l k] := by
  rw [List.take_add_one, nth_eq h]; rfl

abbrev Short {α : Type} (l : List α) : Prop := l.length ≤ 4611686018427387904

theorem same_ok (O : Objs) (l m : List Int) (a b : Option Addr) (c e : Nat) (hlen : Short l) (hl : Src O 1 (.slice a l.length c) l.length (l.map I)) (hm : Src O 1 (.slice b m.length e) m.length (m.map I)) :
    Spec Try.prog true 18 #[.slice a l.length c, .slice b m.length e] O fun v O' => v = .bool (decide (l = m)) ∧ O' = O := by
  unfold Short at hlen
  refine Spec.enter (args := [_, _]) (m := 26) Try.func18 rfl rfl (by decide +kernel) fun h0 => ?_
  refine WX.seq ?_
  refine WX.region rfl ?_
  refine WXL.assign Met.none rfl ?_
  refine WXL.nil ?_
  refine Fin.then_normal ?_
  refine WX.seq ?_
  refine WX.seq ?_
  refine WX.region rfl ?_
  refine WXL.move Met.none rfl ?_
  refine WXL.len Met.none rfl Try.underlying22 ?_
  refine WXL.move Met.none rfl ?_
  refine WXL.len Met.none rfl Try.underlying22 ?_
  refine WXL.bin Met.none rfl rfl rfl ?_
  refine WXL.nil ?_
  refine Fin.then_normal ?_
  refine WX.cond rfl (fun hc0 => ?_) (fun hc0 => ?_)
  · try simp only [cnd] at hc0
    refine WX.seq ?_
    refine WX.region rfl ?_
    refine WXL.assign Met.none rfl ?_
    refine WXL.nil ?_
    refine Fin.then_normal ?_
    refine WX.ret ?_
    refine Fin.then_ret ?_
    refine Fin.result (.inr rfl) rfl rfl (fun _ h => h) ⟨?_, rfl⟩
    first
    | exact bool_false (fun h => hc0 (by rw [h]))
    | exact bool_false (fun h => hc2 (by rw [h]))
    | exact bool_true (by
        have e1 : k = l.length := by omega
        have e2 := hk.2
        rw [e1, List.take_length, List.take_of_length_le (by omega)] at e2
        exact e2)
  · try simp only [cnd] at hc0
    refine WX.skip ?_
    refine Fin.then_normal ?_
    refine WX.seq ?_
    refine WX.seq ?_
    refine WX.region rfl ?_
    refine WXL.assign Met.none rfl ?_
    refine WXL.nil ?_
    refine Fin.then_normal ?_
    refine WX.block ?_
    refine WX.loop (fun k : Nat => [(0, .slice a l.length c), (1, .slice b m.length e), (5, I k)]) (fun _ => O) (fun k => k ≤ l.length ∧ l.take k = m.take k) (fun k => l.length - k) 0 ⟨Nat.zero_le _, rfl⟩ (fun s hs => hs.tl [] 0) (fun k hk => ?_)
    refine WX.seq ?_
    refine WX.seq ?_
    refine WX.region rfl ?_
    refine WXL.move Met.none rfl ?_
    refine WXL.move Met.none rfl ?_
    refine WXL.len Met.none rfl Try.underlying22 ?_
    refine WXL.bin Met.none rfl rfl rfl ?_
    refine WXL.nil ?_
    refine Fin.then_normal ?_
    refine WX.cond rfl (fun hc1 => ?_) (fun hc1 => ?_)
    · try simp only [cnd] at hc1
      refine WX.skip ?_
      refine Fin.then_normal ?_
      refine WX.seq ?_
      refine WX.block ?_
      refine WX.seq ?_
      refine WX.draw rfl ?_
      refine WXL.move Met.none rfl ?_
      refine WXL.move Met.none rfl ?_
      first | refine WXL.ix Met.none rfl rfl elem22 sz3 ?_ | refine WXL.ixS Met.none rfl rfl elem22 sz3 ?_
      first | refine WXL.ld Met.none rfl agg3 ?_ | refine WXL.ldS Met.none rfl agg3 ?_
      refine WXL.move Met.none rfl ?_
      refine WXL.move Met.none rfl ?_
      first | refine WXL.ix Met.none rfl rfl elem22 sz3 ?_ | refine WXL.ixS Met.none rfl rfl elem22 sz3 ?_
      first | refine WXL.ld Met.none rfl agg3 ?_ | refine WXL.ldS Met.none rfl agg3 ?_
      refine WXL.bin Met.none rfl rfl rfl ?_
      refine WXL.nil ?_
      refine Fin.then_normal ?_
      refine WX.cond rfl (fun hc2 => ?_) (fun hc2 => ?_)
      · try simp only [cnd] at hc2
        refine WX.seq ?_
        refine WX.region rfl ?_
        refine WXL.assign Met.none rfl ?_
        refine WXL.nil ?_
        refine Fin.then_normal ?_
        refine WX.ret ?_
        refine Fin.block_ret ?_
        refine Fin.then_ret ?_
        refine Fin.loop_ret ?_
        refine Fin.block_ret ?_
        refine Fin.then_ret ?_
        refine Fin.result (.inr rfl) rfl rfl (fun _ h => h) ⟨?_, rfl⟩
        first
        | exact bool_false (fun h => hc0 (by rw [h]))
        | exact bool_false (fun h => hc2 (by rw [h]))
        | exact bool_true (by
            have e1 : k = l.length := by omega
            have e2 := hk.2
            rw [e1, List.take_length, List.take_of_length_le (by omega)] at e2
            exact e2)
      · try simp only [cnd] at hc2
        refine WX.skip ?_
        refine Fin.block_normal ?_
        refine Fin.then_normal ?_
        refine WX.region rfl ?_
        refine WXL.move Met.none rfl ?_
        refine WXL.bin Met.none rfl rfl bvA ?_
        refine WXL.assign Met.none rfl ?_
        refine WXL.nil ?_
        refine Fin.loop_next (k + 1) ⟨by omega, ?_⟩ (by omega) (fun s hs => hs.tl [] 0)
        rw [take_succ_nth (by omega), take_succ_nth (by omega), hk.2, hc2]
    · try simp only [cnd] at hc1
      refine WX.exit ?_
      refine Fin.then_exit ?_
      refine Fin.loop_exit ?_
      refine Fin.block_hit rfl ?_
      refine Fin.then_normal ?_
      refine WX.seq ?_
      refine WX.region rfl ?_
      refine WXL.assign Met.none rfl ?_
      refine WXL.nil ?_
      refine Fin.then_normal ?_
      refine WX.ret ?_
      refine Fin.result (.inr rfl) rfl rfl (fun _ h => h) ⟨?_, rfl⟩
      first
      | exact bool_false (fun h => hc0 (by rw [h]))
      | exact bool_false (fun h => hc2 (by rw [h]))
      | exact bool_true (by
          have e1 : k = l.length := by omega
          have e2 := hk.2
          rw [e1, List.take_length, List.take_of_length_le (by omega)] at e2
          exact e2)

end Go.Proofs.Ytjmklialkjncaaa.Eng

set_option linter.unusedVariables false
set_option linter.unusedSimpArgs false
namespace Go.Proofs.Ytjmklialkjncaaa.Eng

structure E4 where
  a : Int
  b : Int
  cap : Int
  back : Int
  deriving Inhabited

def encE (e : E4) : List Value := [I e.a, I e.b, I e.cap, I e.back]
theorem encE_len (e : E4) : (encE e).length = 4 := rfl

structure Net4 where
  nodes : Int
  source : Int
  sink : Int
  edges : List E4

def netV (n : Net4) (a : Option Addr) (c : Nat) : Value := .agg #[I n.nodes, I n.source, I n.sink, .slice a n.edges.length c]

theorem around_range {n m : Int} (hm : 0 < m) : 0 ≤ around n m ∧ around n m < m := by
  unfold around
  split
  · exact tmod_range (by omega) hm
  · exact tmod_range (by omega) hm

theorem pickI_range {l : List Int} {i m : Int} (hm : 0 < m) : 0 ≤ pickI l i m ∧ pickI l i m < m := by
  unfold pickI
  split
  · omega
  · exact around_range hm

def mkEdge (l : List Int) (nodes : Int) (k : Nat) : E4 :=
  let a := pickI l (3 + 2 * k : Nat) nodes
  let r := around (nth l (3 + 2 * k + 1)) 1000
  { a := a, b := (a + 1 + around ((nth l (3 + 2 * k)).tdiv 8) (nodes - 1)).tmod nodes, cap := r.tmod 7, back := if r.tmod 3 = 0 then (r.tdiv 7).tmod 6 else 0 }

def mkEdges (l : List Int) (nodes : Int) (k : Nat) : List E4 := (List.range k).map (mkEdge l nodes)

def netOf (l : List Int) : Net4 :=
  let nodes := 2 + pickI l 0 7
  let source := pickI l 1 nodes
  { nodes := nodes, source := source, sink := (source + 1 + pickI l 2 (nodes - 1)).tmod nodes, edges := mkEdges l nodes (min 16 ((l.length - 3) / 2)) }

theorem mkEdges_succ (l : List Int) (nodes : Int) (k : Nat) : mkEdges l nodes (k + 1) = mkEdges l nodes k ++ [mkEdge l nodes k] := by
  unfold mkEdges
  rw [List.range_succ, List.map_append]
  rfl

theorem In64.quo {n b : Int} (h : In64 n) (hb : 0 < b) : In64 (n.tdiv b) := by
  obtain ⟨p, q⟩ := tdiv_bound (a := n) hb
  unfold In64 at *
  rcases Int.le_total 0 n with h0 | h0
  · obtain ⟨p1, p2⟩ := p h0; omega
  · obtain ⟨p1, p2⟩ := q h0; omega

theorem network_ok (O : Objs) (l : List Int) (a : Option Addr) (c : Nat) (hl : Src O 1 (.slice a l.length c) l.length (l.map I)) (h64 : All64 l) (hlen : Short l) :
    Spec Try.prog false 11 #[.slice a l.length c] O fun v O' => ∃ a' c' G, v = netV (netOf l) a' c' ∧ Grow 4 a' (netOf l).edges.length c' (flat encE (netOf l).edges) G ∧ O' = G ++ O := by
  unfold Short at hlen
  have hp0 := pickI_range (l := l) (i := 0) (m := 7) (by omega)
  have hp1 := pickI_range (l := l) (i := 1) (m := 2 + pickI l 0 7) (by omega)
  have hp2 := pickI_range (l := l) (i := 2) (m := 2 + pickI l 0 7 - 1) (by omega)
  refine Spec.enter (args := [_]) (m := 87) Try.func11 rfl rfl (by decide +kernel) fun h0 => ?_
  refine WX.seq ?_
  refine WX.region rfl ?_
  refine WXL.alloc (c := [_, _, _, _]) Met.none zero25 rfl (fun b2 => ?_)
  refine WXL.nil ?_
  refine Fin.then_normal ?_
  refine WX.seq ?_
  refine WX.region rfl ?_
  refine WXL.move Met.none rfl ?_
  refine WXL.cl (O1 := _) Met.none rfl (fnOk_of Try.func35 (by decide +kernel)) rfl (fun _ h => h) (pick_ok _ l _ _ _ _ src_ h64 (by omega)) (fun v O' hp => ?_)
  obtain ⟨rfl, hO⟩ := hp
  subst O'
  refine WXL.bin Met.none rfl rfl bvA ?_
  refine WXL.build (c := [_, _, _, _]) Met.none rfl zero25 places25 rfl ?_
  refine WXL.alloc (c := [_, _, _, _]) Met.none zero25 rfl (fun b3 => ?_)
  refine WXL.st (vs := [_, _, _, _]) (c' := [_, _, _, _]) (j := 0) Met.none rfl rfl rfl sz25 ?_ (hj := rfl)
  refine WXL.nil ?_
  refine Fin.then_normal ?_
  refine WX.seq ?_
  refine WX.region rfl ?_
  refine WXL.move Met.none rfl ?_
  refine WXL.fieldAddr (off' := 0) Met.none rfl Try.underlying25 rfl sz3 rfl ?_
  first | refine WXL.ld Met.none rfl agg3 ?_ | refine WXL.ldS Met.none rfl agg3 ?_
  refine WXL.cl (O1 := _) Met.none rfl (fnOk_of Try.func35 (by decide +kernel)) rfl (fun _ h => h) (pick_ok _ l _ _ _ _ src_ h64 (by omega)) (fun v O' hp => ?_)
  obtain ⟨rfl, hO⟩ := hp
  subst O'
  refine WXL.fieldAddr (off' := 1) Met.none rfl Try.underlying25 rfl sz3 rfl ?_
  refine WXL.st (vs := [_]) (c' := [_, _, _, _]) Met.none rfl rfl rfl sz3 ?_
  refine WXL.nil ?_
  refine Fin.then_normal ?_
  refine WX.seq ?_
  refine WX.draw rfl ?_
  refine WXL.fieldAddr (off' := 1) Met.none rfl Try.underlying25 rfl sz3 rfl ?_
  first | refine WXL.ld Met.none rfl agg3 ?_ | refine WXL.ldS Met.none rfl agg3 ?_
  refine WXL.bin Met.none rfl rfl bvA ?_
  refine WXL.move Met.none rfl ?_
  refine WXL.fieldAddr (off' := 0) Met.none rfl Try.underlying25 rfl sz3 rfl ?_
  first | refine WXL.ld Met.none rfl agg3 ?_ | refine WXL.ldS Met.none rfl agg3 ?_
  refine WXL.bin Met.none rfl rfl bvS ?_
  refine WXL.cl (O1 := _) Met.none rfl (fnOk_of Try.func35 (by decide +kernel)) rfl (fun _ h => h) (pick_ok _ l _ _ _ _ src_ h64 (by omega)) (fun v O' hp => ?_)
  obtain ⟨rfl, hO⟩ := hp
  subst O'
  refine WXL.bin Met.none rfl rfl bvA ?_
  refine WXL.fieldAddr (off' := 0) Met.none rfl Try.underlying25 rfl sz3 rfl ?_
  first | refine WXL.ld Met.none rfl agg3 ?_ | refine WXL.ldS Met.none rfl agg3 ?_
  refine WXL.rem Met.none rfl rfl (by omega) ?_
  refine WXL.fieldAddr (off' := 2) Met.none rfl Try.underlying25 rfl sz3 rfl ?_
  refine WXL.st (vs := [_]) (c' := [_, _, _, _]) Met.none rfl rfl rfl sz3 ?_
  refine WXL.nil ?_
  refine Fin.then_normal ?_
  refine WX.seq ?_
  refine WX.seq ?_
  refine WX.region rfl ?_
  refine WXL.assign Met.none rfl ?_
  refine WXL.nil ?_
  refine Fin.then_normal ?_
  refine WX.block ?_
  refine WX.loop (fun q : Nat × Option Addr × Nat × Objs => [(0, .slice a l.length c), (2, Ptr b2 0), (3, Ptr b3 0), (4, I ((3 + 2 * q.1 : Nat) : Int))]) (fun q => (b3, ⟨0, false, [I (2 + pickI l 0 7), I (pickI l 1 (2 + pickI l 0 7)), I ((pickI l 1 (2 + pickI l 0 7) + 1 + pickI l 2 (2 + pickI l 0 7 - 1)).tmod (2 + pickI l 0 7)), .slice q.2.1 q.1 q.2.2.1]⟩) :: (b2, ⟨0, false, [I 0, I 0, I 0, .slice none 0 0]⟩) :: (q.2.2.2 ++ O)) (fun q => q.1 ≤ 16 ∧ 3 + 2 * q.1 ≤ max 3 l.length ∧ Grow 4 q.2.1 q.1 q.2.2.1 (flat encE (mkEdges l (2 + pickI l 0 7) q.1)) q.2.2.2) (fun q => 16 - q.1) (0, none, 0, []) ⟨by omega, by omega, .nil⟩ (fun s hs => hs.tl [0, 1] 2) (fun q hq => ?_)
  obtain ⟨k, ga, gc, G⟩ := q
  obtain ⟨hk1, hk2, hG⟩ := hq
  simp only at hk1 hk2 hG
  dsimp only
  refine WX.seq ?_
  refine WX.seq ?_
  refine WX.region rfl ?_
  refine WXL.move Met.none rfl ?_
  refine WXL.bin Met.none rfl rfl bvA ?_
  refine WXL.move Met.none rfl ?_
  refine WXL.len Met.none rfl Try.underlying22 ?_
  refine WXL.bin Met.none rfl rfl rfl ?_
  refine WXL.move Met.none rfl ?_
  refine WXL.split (d := 36) rfl (fun hg36 => ?_) (fun hg36 => ?_)
  · try simp only [cnd] at hg36
    refine WXL.move (Met.some rfl rfl rfl) rfl ?_
    refine WXL.bin (Met.some rfl rfl rfl) rfl rfl rfl ?_
    refine WXL.pick_t Met.none rfl rfl ?_
    refine WXL.nil ?_
    refine Fin.then_normal ?_
    refine WX.cond rfl (fun hc0 => ?_) (fun hc0 => ?_)
    · try simp only [cnd] at hc0
      refine WX.skip ?_
      refine Fin.then_normal ?_
      refine WX.seq ?_
      refine WX.block ?_
      refine WX.seq ?_
      refine WX.region rfl ?_
      refine WXL.move Met.none rfl ?_
      refine WXL.move Met.none rfl ?_
      refine WXL.fieldAddr (off' := 0) Met.none rfl Try.underlying25 rfl sz3 rfl ?_
      first | refine WXL.ld Met.none rfl agg3 ?_ | refine WXL.ldS Met.none rfl agg3 ?_
      refine WXL.cl (O1 := _) Met.none rfl (fnOk_of Try.func35 (by decide +kernel)) rfl (fun _ h => h) (pick_ok _ l _ _ _ _ src_ h64 (by omega)) (fun v O' hp => ?_)
      obtain ⟨rfl, hO⟩ := hp
      subst O'
      have hpa := pickI_range (l := l) (i := ((3 + 2 * k : Nat) : Int)) (m := 2 + pickI l 0 7) (by omega)
      refine WXL.assign Met.none rfl ?_
      refine WXL.nil ?_
      refine Fin.then_normal ?_
      refine WX.seq ?_
      have hx := h64 (nth l (3 + 2 * k)) (nth_mem (by omega))
      have hxq := In64.quo hx (b := 8) (by omega)
      unfold In64 at hx
      refine WX.draw rfl ?_
      refine WXL.move Met.none rfl ?_
      refine WXL.bin Met.none rfl rfl bvA ?_
      refine WXL.move Met.none rfl ?_
      refine WXL.move Met.none rfl ?_
      first | refine WXL.ix Met.none rfl rfl elem22 sz3 ?_ | refine WXL.ixS Met.none rfl rfl elem22 sz3 ?_
      first | refine WXL.ld Met.none rfl agg3 ?_ | refine WXL.ldS Met.none rfl agg3 ?_
      refine WXL.qu Met.none rfl rfl ?_
      refine WXL.fieldAddr (off' := 0) Met.none rfl Try.underlying25 rfl sz3 rfl ?_
      first | refine WXL.ld Met.none rfl agg3 ?_ | refine WXL.ldS Met.none rfl agg3 ?_
      refine WXL.bin Met.none rfl rfl bvS ?_
      refine WXL.cl (O1 := _) Met.none rfl (fnOk_of Try.func13 (by decide +kernel)) rfl (fun _ h => h) (around_ok _ _ _ hxq (by omega)) (fun v O' hp => ?_)
      obtain ⟨rfl, hO⟩ := hp
      subst O'
      have hpb := around_range (n := (nth l (3 + 2 * k)).tdiv 8) (m := 2 + pickI l 0 7 - 1) (by omega)
      refine WXL.bin Met.none rfl rfl bvA ?_
      refine WXL.fieldAddr (off' := 0) Met.none rfl Try.underlying25 rfl sz3 rfl ?_
      first | refine WXL.ld Met.none rfl agg3 ?_ | refine WXL.ldS Met.none rfl agg3 ?_
      refine WXL.rem Met.none rfl rfl (by omega) ?_
      refine WXL.assign Met.none rfl ?_
      refine WXL.nil ?_
      refine Fin.then_normal ?_
      refine WX.seq ?_
      refine WX.region rfl ?_
      refine WXL.move Met.none rfl ?_
      refine WXL.move Met.none rfl ?_
      refine WXL.bin Met.none rfl rfl bvA ?_
      first | refine WXL.ix Met.none rfl rfl elem22 sz3 ?_ | refine WXL.ixS Met.none rfl rfl elem22 sz3 ?_
      first | refine WXL.ld Met.none rfl agg3 ?_ | refine WXL.ldS Met.none rfl agg3 ?_
      refine WXL.cl (O1 := _) Met.none rfl (fnOk_of Try.func13 (by decide +kernel)) rfl (fun _ h => h) (around_ok _ _ _ (h64 _ (nth_mem (by omega))) (by omega)) (fun v O' hp => ?_)
      obtain ⟨rfl, hO⟩ := hp
      subst O'
      have hpr := around_range (n := nth l (3 + 2 * k + 1)) (m := 1000) (by omega)
      refine WXL.assign Met.none rfl ?_
      refine WXL.nil ?_
      refine Fin.then_normal ?_
      refine WX.seq ?_
      refine WX.region rfl ?_
      refine WXL.move Met.none rfl ?_
      refine WXL.move Met.none rfl ?_
      refine WXL.move Met.none rfl ?_
      refine WXL.rem Met.none rfl rfl (by omega) ?_
      refine WXL.build (c := [_, _, _, _]) Met.none rfl zero63 places63 rfl ?_
      refine WXL.alloc (c := [_, _, _, _]) Met.none zero63 rfl (fun b8 => ?_)
      refine WXL.st (vs := [_, _, _, _]) (c' := [_, _, _, _]) Met.none rfl rfl rfl sz63 ?_
      refine WXL.nil ?_
      refine Fin.then_normal ?_
      refine WX.seq ?_
      refine WX.seq ?_
      refine WX.region rfl ?_
      refine WXL.move Met.none rfl ?_
      refine WXL.rem Met.none rfl rfl (by omega) ?_
      refine WXL.bin Met.none rfl rfl rfl ?_
      refine WXL.nil ?_
      refine Fin.then_normal ?_
      refine WX.cond rfl (fun hc1 => ?_) (fun hc1 => ?_)
      · try simp only [cnd] at hc1
        refine WX.region rfl ?_
        refine WXL.move Met.none rfl ?_
        refine WXL.qu Met.none rfl rfl ?_
        refine WXL.rem Met.none rfl rfl (by omega) ?_
        refine WXL.fieldAddr (off' := 3) Met.none rfl Try.underlying63 rfl sz3 rfl ?_
        refine WXL.st (vs := [_]) (c' := [_, _, _, _]) Met.none rfl rfl rfl sz3 ?_
        refine WXL.nil ?_
        refine Fin.then_normal ?_
        refine WX.region rfl ?_
        refine WXL.fieldAddr (off' := 3) Met.none rfl Try.underlying25 rfl sz23 rfl ?_
        first | refine WXL.ld Met.none rfl agg23 ?_ | refine WXL.ldS Met.none rfl agg23 ?_
        refine WXL.ldN (vs := [_, _, _, _]) Met.none rfl agg63 sz63 ?_
        refine WXL.buildSlice (c := [_, _, _, _]) Met.none rfl elem23 sz63 zero63 (by decide) (by decide) rfl rfl rfl rfl (fun b83 => ?_)
        refine WXL.apG [_, _, _, _] Met.none rfl rfl isrow23 elem23 sz63 by63 zero63 (Src.lit (cs := [_, _, _, _])) (fun a84 c84 G84 hG84 => ?_)
        refine WXL.fieldAddr (off' := 3) Met.none rfl Try.underlying25 rfl sz23 rfl ?_
        refine WXL.st (vs := [_]) (c' := [_, _, _, _]) Met.none rfl rfl rfl sz23 ?_
        refine WXL.nil ?_
        refine Fin.block_normal ?_
        refine Fin.then_normal ?_
        refine WX.region rfl ?_
        refine WXL.move Met.none rfl ?_
        refine WXL.bin Met.none rfl rfl bvA ?_
        refine WXL.assign Met.none rfl ?_
        refine WXL.nil ?_
        refine Fin.loop_next (k + 1, a84, c84, G84) ⟨by omega, by omega, ?_⟩ (by simp only; omega) (fun s hs => hs.tl [2, 3] 4)
        have hE : flat encE [mkEdge l (2 + pickI l 0 7) k] = encE (mkEdge l (2 + pickI l 0 7) k) := by simp [flat]
        rw [mkEdges_succ, flat_append, hE]
        unfold mkEdge
        dsimp only
        first | rw [if_pos hc1] | rw [if_neg hc1]
        exact hG84
      · try simp only [cnd] at hc1
        refine WX.skip ?_
        refine Fin.then_normal ?_
        refine WX.region rfl ?_
        refine WXL.fieldAddr (off' := 3) Met.none rfl Try.underlying25 rfl sz23 rfl ?_
        first | refine WXL.ld Met.none rfl agg23 ?_ | refine WXL.ldS Met.none rfl agg23 ?_
        refine WXL.ldN (vs := [_, _, _, _]) Met.none rfl agg63 sz63 ?_
        refine WXL.buildSlice (c := [_, _, _, _]) Met.none rfl elem23 sz63 zero63 (by decide) (by decide) rfl rfl rfl rfl (fun b83 => ?_)
        refine WXL.apG [_, _, _, _] Met.none rfl rfl isrow23 elem23 sz63 by63 zero63 (Src.lit (cs := [_, _, _, _])) (fun a84 c84 G84 hG84 => ?_)
        refine WXL.fieldAddr (off' := 3) Met.none rfl Try.underlying25 rfl sz23 rfl ?_
        refine WXL.st (vs := [_]) (c' := [_, _, _, _]) Met.none rfl rfl rfl sz23 ?_
        refine WXL.nil ?_
        refine Fin.block_normal ?_
        refine Fin.then_normal ?_
        refine WX.region rfl ?_
        refine WXL.move Met.none rfl ?_
        refine WXL.bin Met.none rfl rfl bvA ?_
        refine WXL.assign Met.none rfl ?_
        refine WXL.nil ?_
        refine Fin.loop_next (k + 1, a84, c84, G84) ⟨by omega, by omega, ?_⟩ (by simp only; omega) (fun s hs => hs.tl [2, 3] 4)
        have hE : flat encE [mkEdge l (2 + pickI l 0 7) k] = encE (mkEdge l (2 + pickI l 0 7) k) := by simp [flat]
        rw [mkEdges_succ, flat_append, hE]
        unfold mkEdge
        dsimp only
        first | rw [if_pos hc1] | rw [if_neg hc1]
        exact hG84
    · try simp only [cnd] at hc0
      refine WX.exit ?_
      refine Fin.then_exit ?_
      refine Fin.loop_exit ?_
      refine Fin.block_hit rfl ?_
      refine Fin.then_normal ?_
      refine WX.seq ?_
      refine WX.region rfl ?_
      refine WXL.ldN (vs := [_, _, _, _]) Met.none rfl agg25 sz25 ?_
      refine WXL.st (vs := [_, _, _, _]) (c' := [_, _, _, _]) Met.none rfl rfl rfl sz25 ?_
      refine WXL.nil ?_
      refine Fin.then_normal ?_
      refine WX.ret ?_
      refine Fin.results (O' := G ++ O) (.inr rfl) rfl (vs := [netV (netOf l) ga gc]) ⟨⟨b2, 0, rfl, ?_⟩, trivial⟩ (fun _ => Sat.told [] 2 (by decide) (by decide) rfl) ⟨ga, gc, G, rfl, ?_, rfl⟩
      · have hk : k = min 16 ((l.length - 3) / 2) := by omega
        rw [hk]
        refine load_agg (n := 4) (vs := [_, _, _, _]) at_ agg25 sz25 ?_
        unfold netOf mkEdges
        simp only [List.length_map, List.length_range]
        rfl
      · have hk : k = min 16 ((l.length - 3) / 2) := by omega
        have e1 : (netOf l).edges = mkEdges l (2 + pickI l 0 7) k := by rw [hk]; rfl
        have e2 : (mkEdges l (2 + pickI l 0 7) k).length = k := by unfold mkEdges; simp
        rw [e1, e2]
        exact hG
  · try simp only [cnd] at hg36
    refine WXL.miss (j := 5) (d := 36) rfl rfl rfl ?_
    refine WXL.miss (j := 5) (d := 36) rfl rfl rfl ?_
    refine WXL.pick_f Met.none rfl rfl ?_
    refine WXL.nil ?_
    refine Fin.then_normal ?_
    refine WX.cond rfl (fun hc0 => nomatch hc0) (fun hc0 => ?_)
    refine WX.exit ?_
    refine Fin.then_exit ?_
    refine Fin.loop_exit ?_
    refine Fin.block_hit rfl ?_
    refine Fin.then_normal ?_
    refine WX.seq ?_
    refine WX.region rfl ?_
    refine WXL.ldN (vs := [_, _, _, _]) Met.none rfl agg25 sz25 ?_
    refine WXL.st (vs := [_, _, _, _]) (c' := [_, _, _, _]) Met.none rfl rfl rfl sz25 ?_
    refine WXL.nil ?_
    refine Fin.then_normal ?_
    refine WX.ret ?_
    refine Fin.results (O' := G ++ O) (.inr rfl) rfl (vs := [netV (netOf l) ga gc]) ⟨⟨b2, 0, rfl, ?_⟩, trivial⟩ (fun _ => Sat.told [] 2 (by decide) (by decide) rfl) ⟨ga, gc, G, rfl, ?_, rfl⟩
    · have hk : k = min 16 ((l.length - 3) / 2) := by omega
      rw [hk]
      refine load_agg (n := 4) (vs := [_, _, _, _]) at_ agg25 sz25 ?_
      unfold netOf mkEdges
      simp only [List.length_map, List.length_range]
      rfl
    · have hk : k = min 16 ((l.length - 3) / 2) := by omega
      have e1 : (netOf l).edges = mkEdges l (2 + pickI l 0 7) k := by rw [hk]; rfl
      have e2 : (mkEdges l (2 + pickI l 0 7) k).length = k := by unfold mkEdges; simp
      rw [e1, e2]
      exact hG

end Go.Proofs.Ytjmklialkjncaaa.Eng

set_option linter.unusedVariables false
set_option linter.unusedSimpArgs false
namespace Go.Proofs.Ytjmklialkjncaaa.Eng

/-- A network's row of edges lies in the memory. -/
abbrev Edges (O : Objs) (n : Net4) (a : Option Addr) (c : Nat) : Prop := Src O 4 (.slice a n.edges.length c) n.edges.length (flat encE n.edges)

theorem flat_encE_len (l : List E4) : (flat encE l).length = l.length * 4 := flat_length encE_len l

theorem own_ok (O : Objs) (n : Net4) (a : Option Addr) (c : Nat) (hl : Edges O n a c) (hlen : n.edges.length ≤ 1000000) :
    Spec Try.prog false 16 #[netV n a c] O fun v O' => ∃ a' c' G, v = netV n a' c' ∧ Grow 4 a' n.edges.length c' (flat encE n.edges) G ∧ O' = G ++ O := by
  refine Spec.enter (args := [_]) (m := 40) Try.func16 rfl rfl (by decide +kernel) fun h0 => ?_
  refine WX.seq ?_
  refine WX.region rfl ?_
  refine WXL.box (c := [_, _, _, _]) Met.none rfl rfl rfl (fun b1 => ?_)
  refine WXL.alloc (c := [_, _, _, _]) Met.none zero36 rfl (fun b2 => ?_)
  refine WXL.nil ?_
  refine Fin.then_normal ?_
  refine WX.seq ?_
  refine WX.region rfl ?_
  refine WXL.fieldAddr (off' := 0) Met.none rfl Try.underlying25 rfl sz3 rfl ?_
  first | refine WXL.ld Met.none rfl agg3 ?_ | refine WXL.ldS Met.none rfl agg3 ?_
  refine WXL.fieldAddr (off' := 1) Met.none rfl Try.underlying25 rfl sz3 rfl ?_
  first | refine WXL.ld Met.none rfl agg3 ?_ | refine WXL.ldS Met.none rfl agg3 ?_
  refine WXL.fieldAddr (off' := 2) Met.none rfl Try.underlying25 rfl sz3 rfl ?_
  first | refine WXL.ld Met.none rfl agg3 ?_ | refine WXL.ldS Met.none rfl agg3 ?_
  refine WXL.build (c := [_, _, _, _]) Met.none rfl zero36 places36 rfl ?_
  refine WXL.alloc (c := [_, _, _, _]) Met.none zero36 rfl (fun b3 => ?_)
  refine WXL.st (vs := [_, _, _, _]) (c' := [_, _, _, _]) Met.none rfl rfl rfl sz36 ?_
  refine WXL.nil ?_
  refine Fin.then_normal ?_
  refine WX.seq ?_
  refine WX.seq ?_
  refine WX.region rfl ?_
  refine WXL.assign Met.none rfl ?_
  refine WXL.nil ?_
  refine Fin.then_normal ?_
  refine WX.block ?_
  refine WX.loop (fun q : Nat × Option Addr × Nat × Objs => [(1, Ptr b1 0), (2, Ptr b2 0), (3, Ptr b3 0), (4, I (q.1 : Int))]) (fun q => (b3, ⟨0, false, [I n.nodes, I n.source, I n.sink, .slice q.2.1 q.1 q.2.2.1]⟩) :: (b2, ⟨0, false, [I 0, I 0, I 0, .slice none 0 0]⟩) :: (b1, ⟨0, false, [I n.nodes, I n.source, I n.sink, .slice a n.edges.length c]⟩) :: (q.2.2.2 ++ O)) (fun q => q.1 ≤ n.edges.length ∧ Grow 4 q.2.1 q.1 q.2.2.1 (flat encE (n.edges.take q.1)) q.2.2.2) (fun q => n.edges.length - q.1) (0, none, 0, []) ⟨by omega, .nil⟩ (fun s hs => hs.tl [0, 1, 2] 3) (fun q hq => ?_)
  obtain ⟨k, ga, gc, G⟩ := q
  obtain ⟨hk1, hG⟩ := hq
  simp only at hk1 hG
  dsimp only
  refine WX.seq ?_
  refine WX.seq ?_
  refine WX.region rfl ?_
  refine WXL.move Met.none rfl ?_
  refine WXL.fieldAddr (off' := 3) Met.none rfl Try.underlying25 rfl sz23 rfl ?_
  first | refine WXL.ld Met.none rfl agg23 ?_ | refine WXL.ldS Met.none rfl agg23 ?_
  refine WXL.len Met.none rfl Try.underlying23 ?_
  refine WXL.bin Met.none rfl rfl rfl ?_
  refine WXL.nil ?_
  refine Fin.then_normal ?_
  refine WX.cond rfl (fun hc0 => ?_) (fun hc0 => ?_)
  · try simp only [cnd] at hc0
    refine WX.skip ?_
    refine Fin.then_normal ?_
    refine WX.seq ?_
    refine WX.block ?_
    refine WX.seq ?_
    refine WX.region rfl ?_
    refine WXL.fieldAddr (off' := 3) Met.none rfl Try.underlying25 rfl sz23 rfl ?_
    first | refine WXL.ld Met.none rfl agg23 ?_ | refine WXL.ldS Met.none rfl agg23 ?_
    refine WXL.move Met.none rfl ?_
    first | refine WXL.ix Met.none rfl rfl elem23 sz63 ?_ | refine WXL.ixS Met.none rfl rfl elem23 sz63 ?_
    first | refine WXL.ldN Met.none rfl agg63 sz63 ?_ (hv := (cellsAt_flat encE_len _ _ (by omega))) | refine WXL.ldNS Met.none rfl agg63 sz63 ?_ (hv := (cellsAt_flat encE_len _ _ (by omega)))
    refine WXL.alloc (c := [_, _, _, _]) Met.none zero63 rfl (fun b5 => ?_)
    refine WXL.st (vs := [_, _, _, _]) (c' := [_, _, _, _]) Met.none rfl rfl rfl sz63 ?_
    refine WXL.nil ?_
    refine Fin.then_normal ?_
    refine WX.region rfl ?_
    refine WXL.fieldAddr (off' := 3) Met.none rfl Try.underlying36 rfl sz34 rfl ?_
    first | refine WXL.ld Met.none rfl agg34 ?_ | refine WXL.ldS Met.none rfl agg34 ?_
    refine WXL.fieldAddr (off' := 0) Met.none rfl Try.underlying63 rfl sz3 rfl ?_
    first | refine WXL.ld Met.none rfl agg3 ?_ | refine WXL.ldS Met.none rfl agg3 ?_
    refine WXL.fieldAddr (off' := 1) Met.none rfl Try.underlying63 rfl sz3 rfl ?_
    first | refine WXL.ld Met.none rfl agg3 ?_ | refine WXL.ldS Met.none rfl agg3 ?_
    refine WXL.fieldAddr (off' := 2) Met.none rfl Try.underlying63 rfl sz3 rfl ?_
    first | refine WXL.ld Met.none rfl agg3 ?_ | refine WXL.ldS Met.none rfl agg3 ?_
    refine WXL.fieldAddr (off' := 3) Met.none rfl Try.underlying63 rfl sz3 rfl ?_
    first | refine WXL.ld Met.none rfl agg3 ?_ | refine WXL.ldS Met.none rfl agg3 ?_
    refine WXL.build (c := [_, _, _, _]) Met.none rfl zero44 places44 rfl ?_
    refine WXL.buildSlice (c := [_, _, _, _]) Met.none rfl elem34 sz44 zero44 (by decide) (by decide) rfl rfl rfl rfl (fun b36 => ?_)
    refine WXL.apG [_, _, _, _, _] Met.none rfl rfl isrow34 elem34 sz44 by44 zero44 (Src.lit (cs := [_, _, _, _])) (fun a37 c37 G37 hG37 => ?_)
    refine WXL.fieldAddr (off' := 3) Met.none rfl Try.underlying36 rfl sz34 rfl ?_
    refine WXL.st (vs := [_]) (c' := [_, _, _, _]) Met.none rfl rfl rfl sz34 ?_
    refine WXL.nil ?_
    refine Fin.block_normal ?_
    refine Fin.then_normal ?_
    refine WX.region rfl ?_
    refine WXL.move Met.none rfl ?_
    refine WXL.bin Met.none rfl rfl bvA ?_
    refine WXL.assign Met.none rfl ?_
    refine WXL.nil ?_
    refine Fin.loop_next (k + 1, a37, c37, G37) ⟨by simp only; omega, ?_⟩ (by simp only; omega) (fun s hs => hs.tl [2, 3, 4] 5)
    rw [take_succ_nth (by omega), flat_append]
    have hE : flat encE [nth n.edges k] = encE (nth n.edges k) := by simp [flat]
    rw [hE]
    exact hG37
  · try simp only [cnd] at hc0
    refine WX.exit ?_
    refine Fin.then_exit ?_
    refine Fin.loop_exit ?_
    refine Fin.block_hit rfl ?_
    refine Fin.then_normal ?_
    refine WX.seq ?_
    refine WX.region rfl ?_
    refine WXL.ldN (vs := [_, _, _, _]) Met.none rfl agg36 sz36 ?_
    refine WXL.st (vs := [_, _, _, _]) (c' := [_, _, _, _]) Met.none rfl rfl rfl sz36 ?_
    refine WXL.nil ?_
    refine Fin.then_normal ?_
    refine WX.ret ?_
    have hk : k = n.edges.length := by omega
    subst hk
    rw [List.take_length] at hG
    exact Fin.results (O' := G ++ O) (.inr rfl) rfl (vs := [netV n ga gc]) ⟨⟨b2, 0, rfl, load_agg (n := 4) (vs := [_, _, _, _]) at_ agg36 sz36 rfl⟩, trivial⟩ (fun _ => Sat.told [] 3 (by decide) (by decide) rfl) ⟨ga, gc, G, rfl, hG, rfl⟩

end Go.Proofs.Ytjmklialkjncaaa.Eng
