/- Regions that draw their order: what is checked of them, and the walk over all orders. Own work; no condition. -/
import Derived.Test.YtjmklialkjncaaaEngP
set_option linter.unusedVariables false
set_option linter.unusedSimpArgs false
namespace Go.Proofs.Ytjmklialkjncaaa.Eng

/-! ### The check -/
def readsOf (ops : Array Oper) (o : Oper) : List Nat :=
  (o.op.operands.toList.filterMap fun | .tmp t => some t | _ => none) ++ (match o.guard with | some (j, _) => ((ops[j]?).bind (·.dst)).toList | none => [])

def tabStep (acc : List Nat) (o : Oper) : Nat := o.after.toList.foldl (fun s e => if Region.binds .any e then s ||| (1 <<< e.on) ||| (acc.getD e.on 0) else s) 0
def tab : List Oper → List Nat → List Nat
  | [], acc => acc
  | o :: os, acc => tab os (acc ++ [tabStep acc o])

def pairOk (ops : Array Oper) (mq lz : Nat → Bool) (before : Bool) (i j : Nat) (a b : Oper) : Bool :=
  before || ((match a.dst with | some d => !((readsOf ops b).contains d) && b.dst != some d | none => true) &&
    (match b.dst with | some d => !((readsOf ops a).contains d) | none => true) && (isPureOp a.op || isPureOp b.op || (mq i && mq j) || lz i))

def drawOk (ops : Array Oper) (mq lz : Nat → Bool) : Bool :=
  (List.range ops.size).all fun j => match ops[j]? with
    | none => true
    | some b => (b.after.toList.all fun e => !Region.binds .any e || decide (e.on < j)) &&
      (List.range j).all fun i => match ops[i]? with
        | none => true
        | some a => pairOk ops mq lz (((tab ops.toList []).getD j 0).testBit i) i j a b

inductive Reach (ops : Array Oper) : Nat → Nat → Prop
  | one {i j o e} : ops[j]? = some o → e ∈ o.after → Region.binds .any e = true → e.on = i → Reach ops i j
  | more {i j o e} : ops[j]? = some o → e ∈ o.after → Region.binds .any e = true → Reach ops i e.on → Reach ops i j

theorem tabStep_bit {acc : List Nat} {o : Oper} {i : Nat} (h : (tabStep acc o).testBit i = true) : ∃ e ∈ o.after, Region.binds .any e = true ∧ (e.on = i ∨ (acc.getD e.on 0).testBit i = true) := by
  unfold tabStep at h
  have key : ∀ (l : List Edge) (s : Nat), (l.foldl (fun s e => if Region.binds .any e then s ||| (1 <<< e.on) ||| (acc.getD e.on 0) else s) s).testBit i = true →
      s.testBit i = true ∨ ∃ e ∈ l, Region.binds .any e = true ∧ (e.on = i ∨ (acc.getD e.on 0).testBit i = true) := by
    intro l
    induction l with
    | nil => intro s h; exact .inl h
    | cons e l ih =>
      intro s h
      rw [List.foldl_cons] at h
      rcases ih _ h with h | ⟨e', h1, h2⟩
      · split at h
        · rename_i hb
          rw [Nat.testBit_or, Nat.testBit_or, Bool.or_eq_true, Bool.or_eq_true] at h
          rcases h with (h | h) | h
          · exact .inl h
          · refine .inr ⟨e, by simp, hb, .inl ?_⟩
            rw [Nat.testBit_shiftLeft] at h
            simp only [Bool.and_eq_true, decide_eq_true_eq] at h
            have h2 := Nat.testBit_one_eq_true_iff_self_eq_zero.1 h.2
            omega
          · exact .inr ⟨e, by simp, hb, .inr h⟩
        · exact .inl h
      · exact .inr ⟨e', List.mem_cons_of_mem _ h1, h2⟩
  rcases key _ 0 h with h | ⟨e, h1, h2⟩
  · simp at h
  · exact ⟨e, Array.mem_toList_iff.1 h1, h2⟩

theorem tab_reach {ops : Array Oper} : ∀ (os : List Oper) (acc : List Nat), ops.toList.drop acc.length = os → (∀ j i, (acc.getD j 0).testBit i = true → Reach ops i j) →
    ∀ j i, ((tab os acc).getD j 0).testBit i = true → Reach ops i j := by
  intro os
  induction os with
  | nil => intro acc _ h; exact h
  | cons o os ih =>
    intro acc hd h
    have hlt : acc.length < ops.toList.length := by
      rcases Nat.lt_or_ge acc.length ops.toList.length with q | q
      · exact q
      · rw [List.drop_eq_nil_of_le q] at hd; cases hd
    have ho : ops[acc.length]? = some o := by
      have : ops.toList[acc.length]? = some o := by
        rw [List.drop_eq_getElem_cons hlt] at hd
        injection hd with hd _
        rw [List.getElem?_eq_getElem hlt, hd]
      simpa using this
    refine ih (acc ++ [tabStep acc o]) ?_ ?_
    · rw [List.length_append, List.length_singleton, ← List.drop_drop, hd]; rfl
    · intro j i hb
      rcases Nat.lt_trichotomy j acc.length with q | q | q
      · refine h j i ?_
        rw [List.getD_eq_getElem?_getD, List.getElem?_append_left q, ← List.getD_eq_getElem?_getD] at hb
        exact hb
      · subst q
        rw [List.getD_eq_getElem?_getD, List.getElem?_append_right (Nat.le_refl _), Nat.sub_self] at hb
        obtain ⟨e, h1, h2, h3⟩ := tabStep_bit (acc := acc) (o := o) (i := i) hb
        rcases h3 with h3 | h3
        · exact .one ho h1 h2 h3
        · exact .more ho h1 h2 (h _ _ h3)
      · rw [List.getD_eq_getElem?_getD, List.getElem?_eq_none (by simp; omega)] at hb
        simp at hb

/-- What has been carried out is closed under what must come before. -/
def Closed (ops : Array Oper) (listed : Array Bool) : Prop := ∀ j o e, ops[j]? = some o → listed.getD j false = true → e ∈ o.after → Region.binds .any e = true → listed.getD e.on false = true

theorem Reach.listed {ops : Array Oper} {listed : Array Bool} (hc : Closed ops listed) {i j : Nat} (hr : Reach ops i j) :
    (∀ o e, ops[j]? = some o → e ∈ o.after → Region.binds .any e = true → listed.getD e.on false = true) → listed.getD i false = true := by
  induction hr with
  | one ho he hb hi => intro h; rw [← hi]; exact h _ _ ho he hb
  | more ho he hb _ ih => intro h; exact ih fun o' e' ho' he' hb' => hc _ o' e' ho' (h _ _ ho he hb) he' hb'

structure DrawFacts (ops : Array Oper) (mq lz : Nat → Bool) : Prop where
  back : ∀ j o e, ops[j]? = some o → e ∈ o.after → Region.binds .any e = true → e.on < j
  pair : ∀ i j a b, i < j → ops[i]? = some a → ops[j]? = some b → Reach ops i j ∨
    ((∀ d, a.dst = some d → d ∉ readsOf ops b ∧ b.dst ≠ some d) ∧ (∀ d, b.dst = some d → d ∉ readsOf ops a) ∧ (isPureOp a.op = false → isPureOp b.op = false → (mq i = true ∧ mq j = true) ∨ lz i = true))

theorem drawFacts {ops : Array Oper} {mq lz : Nat → Bool} (h : drawOk ops mq lz = true) : DrawFacts ops mq lz := by
  unfold drawOk at h
  rw [List.all_eq_true] at h
  have at_ : ∀ j b, ops[j]? = some b → (b.after.toList.all fun e => !Region.binds .any e || decide (e.on < j)) = true ∧
      ∀ i a, i < j → ops[i]? = some a → pairOk ops mq lz (((tab ops.toList []).getD j 0).testBit i) i j a b = true := by
    intro j b hb
    have hj := (Array.getElem?_eq_some_iff.1 hb).1
    have := h j (List.mem_range.2 hj)
    rw [hb] at this
    simp only [Bool.and_eq_true] at this
    refine ⟨this.1, fun i a hi ha => ?_⟩
    have h2 := List.all_eq_true.1 this.2 i (List.mem_range.2 hi)
    rw [ha] at h2
    exact h2
  refine ⟨fun j o e ho he hb => ?_, fun i j a b hij ha hb => ?_⟩
  · have := List.all_eq_true.1 (at_ j o ho).1 e (Array.mem_toList_iff.2 he)
    rw [hb] at this
    simpa using this
  · have := (at_ j b hb).2 i a hij ha
    unfold pairOk at this
    rw [Bool.or_eq_true] at this
    rcases this with this | this
    · exact .inl (tab_reach ops.toList [] rfl (fun j i h => by simp at h) j i this)
    · right
      simp only [Bool.and_eq_true] at this
      obtain ⟨⟨h1, h2⟩, h3⟩ := this
      refine ⟨fun d hd => ?_, fun d hd => ?_, fun p1 p2 => ?_⟩
      · rw [hd] at h1
        simp only [Bool.and_eq_true, Bool.not_eq_true', bne_iff_ne, ne_eq] at h1
        exact ⟨fun hm => by rw [List.contains_iff_mem.2 hm] at h1; exact absurd h1.1 (by simp), h1.2⟩
      · rw [hd] at h2
        intro hm
        simp only [Bool.not_eq_true'] at h2
        rw [List.contains_iff_mem.2 hm] at h2
        cases h2
      · rw [p1, p2] at h3
        simpa using h3

/-! ### The trace by numbers -/
variable {P : Program} {base : Nat} {ι : Lay} {w w' : World}

theorem trace {ops : Array Oper} {mq lz : Nat → Bool} {Z todo : List Nat} {s s' : ASt} (ht : OpsTr P ops mq lz Z todo s s') :
    ∃ (st : Nat → ASt) (vv : Nat → Value) (bb : Nat → Nat) (late : Nat → Bool), st 0 = s ∧ st todo.length = s' ∧
      (∀ p i, todo[p]? = some i → ∃ o, ops[i]? = some o ∧
        ((late p = false ∧ ((wantedA ops o (st p) = false ∧ vv p = undef ∧ st (p + 1) = (st p).put o.dst undef (st p).h) ∨
          (wantedA ops o (st p) = true ∧ lz i = false ∧ ∃ h', st (p + 1) = (st p).put o.dst (vv p) h' ∧ OpSem P (fun x y _ => y = x) o (st p) (vv p) h' ∧ (mq i = true → Quiet (st p).h h' ∧ OpSem P Untouched o (st p) (vv p) h') ∧ (WF (st p).h → WF h' ∧ (st p).h.n ≤ h'.n) ∧
            (isPureOp o.op = true → h' = (st p).h ∧ ∀ g, OpSem P Untouched o { st p with h := g } (vv p) g)))) ∨
        (late p = true ∧ wantedA ops o (st p) = true ∧ st (p + 1) = (st p).put o.dst (vv p) (st p).h ∧ isPureOp o.op = false ∧ plainC (vv p) = true ∧ ∀ g : AHeap, g.o (bb p) = (st p).h.o (bb p) → OpSem P Untouched o { st p with h := g } (vv p) g))) ∧
      (∀ b ∈ Z, ∀ p, p ≤ todo.length → (st p).h.o b = s.h.o b) ∧
      (∀ p, p < todo.length → late p = true → ∀ p', p ≤ p' → p' ≤ todo.length → (st p').h.o (bb p) = (st p).h.o (bb p)) := by
  induction ht with
  | @nil Z s => exact ⟨fun _ => s, fun _ => undef, fun _ => 0, fun _ => false, rfl, rfl, fun p i h => by simp at h, fun _ _ _ _ => rfl, fun p h => by simp at h⟩
  | @op Z i o rest s v h' s' ho hw h1 h2 h3 h4 hl hz _ ih =>
    obtain ⟨st, vv, bb, late, e1, e2, e3, e4, e5⟩ := ih
    refine ⟨fun p => match p with | 0 => s | p + 1 => st p, fun p => match p with | 0 => v | p + 1 => vv p, fun p => match p with | 0 => 0 | p + 1 => bb p, fun p => match p with | 0 => false | p + 1 => late p, rfl, e2, fun p j hp => ?_, fun b hb p hp => ?_, fun p hp hlt p' h5 h6 => ?_⟩
    · cases p with
      | zero =>
        simp at hp; subst hp
        exact ⟨o, ho, .inl ⟨rfl, .inr ⟨hw, hl, h', e1, h1, h2, h3, h4⟩⟩⟩
      | succ p => exact e3 p j (by simpa using hp)
    · cases p with
      | zero => rfl
      | succ p =>
        have := e4 b hb p (by simpa using hp)
        rw [put_h, hz b hb] at this
        exact this
    · cases p with
      | zero => cases hlt
      | succ p =>
        cases p' with
        | zero => omega
        | succ p' => exact e5 p (by simpa using hp) hlt p' (by omega) (by simpa using h6)
  | @lazy Z i o rest s v s' b ho hw h1 hp1 hpl hg _ ih =>
    obtain ⟨st, vv, bb, late, e1, e2, e3, e4, e5⟩ := ih
    refine ⟨fun p => match p with | 0 => s | p + 1 => st p, fun p => match p with | 0 => v | p + 1 => vv p, fun p => match p with | 0 => b | p + 1 => bb p, fun p => match p with | 0 => true | p + 1 => late p, rfl, e2, fun p j hp => ?_, fun b' hb p hp => ?_, fun p hp hlt p' h5 h6 => ?_⟩
    · cases p with
      | zero =>
        simp at hp; subst hp
        exact ⟨o, ho, .inr ⟨rfl, hw, e1, hp1, hpl, hg⟩⟩
      | succ p => exact e3 p j (by simpa using hp)
    · cases p with
      | zero => rfl
      | succ p =>
        have := e4 b' (List.mem_cons_of_mem _ hb) p (by simpa using hp)
        rw [put_h] at this
        exact this
    · cases p with
      | zero =>
        cases p' with
        | zero => rfl
        | succ p' =>
          have := e4 b (by simp) p' (by simpa using h6)
          rw [put_h] at this
          exact this
      | succ p =>
        cases p' with
        | zero => omega
        | succ p' => exact e5 p (by simpa using hp) hlt p' (by omega) (by simpa using h6)
  | @skip Z i o rest s s' ho hw _ ih =>
    obtain ⟨st, vv, bb, late, e1, e2, e3, e4, e5⟩ := ih
    refine ⟨fun p => match p with | 0 => s | p + 1 => st p, fun p => match p with | 0 => undef | p + 1 => vv p, fun p => match p with | 0 => 0 | p + 1 => bb p, fun p => match p with | 0 => false | p + 1 => late p, rfl, e2, fun p j hp => ?_, fun b hb p hp => ?_, fun p hp hlt p' h5 h6 => ?_⟩
    · cases p with
      | zero =>
        simp at hp; subst hp
        exact ⟨o, ho, .inl ⟨rfl, .inl ⟨hw, rfl, e1⟩⟩⟩
      | succ p => exact e3 p j (by simpa using hp)
    · cases p with
      | zero => rfl
      | succ p =>
        have := e4 b hb p (by simpa using hp)
        rw [put_h] at this
        exact this
    · cases p with
      | zero => cases hlt
      | succ p =>
        cases p' with
        | zero => omega
        | succ p' => exact e5 p (by simpa using hp) hlt p' (by omega) (by simpa using h6)

end Go.Proofs.Ytjmklialkjncaaa.Eng
