/- A run of the abstract machine is a run of the model. Own work; no condition. -/
import Derived.Test.YtjmklialkjncaaaEngK
import Derived.LoopN
import Derived.Scope
set_option linter.unusedVariables false
set_option linter.unusedSimpArgs false
namespace Go.Proofs.Ytjmklialkjncaaa.Eng

variable {P : Program} {base : Nat} {ι ι1 ι2 : Lay} {h h' h1 h2 : AHeap} {w w1 w2 : World}

theorem Evo.back {x y : AObj} (a : Evo x y) (b : Evo y x) : y = x := by
  cases x with
  | dead => exact a
  | cells sz ro f st k c =>
    obtain ⟨st1, k1, c1, rfl, hk, hc, hl, hm⟩ := a
    obtain ⟨st2, k2, c2, he, hk2, hc2, hl2, hm2⟩ := b
    injection he with _ _ _ e1 e2 e3
    subst e1 e2 e3
    have e4 : k1 = k := by omega
    have e5 := hc e4
    cases st with
    | none =>
      cases st1 with
      | none => rw [e4, e5]
      | some m => obtain ⟨h1, _, _⟩ := hm2 m rfl; cases h1
    | some m => obtain ⟨h1, h2, h3⟩ := hm m rfl; rw [h1, h2, h3]

theorem Evo.mid {x y z : AObj} (a : Evo x y) (b : Evo y z) (e : z = x) : y = x := by subst e; exact a.back b

/-- What an object was. -/
theorem Evo.was {x : AObj} {sz ro f st k c} (a : Evo x (.cells sz ro f st k c)) : ∃ st0 k0 c0, x = .cells sz ro f st0 k0 c0 := by
  cases x with
  | dead => cases a
  | cells sz1 ro1 f1 st1 k1 c1 =>
    obtain ⟨st', k', c', he, _⟩ := a
    injection he with e1 e2 e3
    subst e1 e2 e3
    exact ⟨_, _, _, rfl⟩

theorem Evo.is {y : AObj} {sz ro f st k c} (a : Evo (.cells sz ro f st k c) y) : ∃ st0 k0 c0, y = .cells sz ro f st0 k0 c0 := by
  obtain ⟨st', k', c', he, _⟩ := a
  exact ⟨_, _, _, he⟩

theorem KeepsBy.zero {h h' : AHeap} {w w' : World} (k : Keeps ι h h' w w') : Keep0 ι h h' w w' :=
  ⟨k.os, k.tape, k.output, k.size, k.block, fun B off v hc hall => k.cell B off v hc fun b e q1 q2 q3 q4 => .inl (hall b e q1 q2 q3 q4), k.there⟩

theorem More.trans (hr : HRel base ι h w) (hr1 : HRel base ι1 h1 w1) (a : More base ι ι1 h h1 w) (b : More base ι1 ι2 h1 h2 w1) (hs : w.heap.size ≤ w1.heap.size) : More base ι ι2 h h2 w := by
  have hne : ∀ y, y < h.n → h1.o y ≠ h.o y → h2.o y ≠ h.o y := fun y hy hn he => hn ((a.evo y hy).mid (b.evo y (Nat.lt_of_lt_of_le hy a.grow)) he)
  have first : ∀ y e, h.n ≤ y → ι1 y = some e → w.heap.size ≤ e.block ∨ ∃ b0 e0 sz ro f st k c, ι b0 = some e0 ∧ h2.o b0 ≠ h.o b0 ∧ e.block = e0.block ∧ e0.off ≤ e.off ∧ e.off + e.cap ≤ e0.off + e0.cap ∧
      h.o b0 = .cells sz ro f st k c ∧ ∃ sz' ro' st' k' c', h2.o y = .cells sz' ro' f st' k' c' := by
    intro y e hy he
    rcases a.new y e hy he with q | ⟨b0, e0, sz, ro, f, st, k, c, q1, q2, q3, q4, q5, q6, sz', ro', st', k', c', q7⟩
    · exact .inl q
    · obtain ⟨s1, s2, s3, s4⟩ := (q7 ▸ b.evo y (hr1.lt y e he)).is
      exact .inr ⟨b0, e0, sz, ro, f, st, k, c, q1, hne b0 (hr.lt b0 e0 q1) q2, q3, q4, q5, q6, _, _, _, _, _, s4⟩
  refine ⟨fun y hy => by rw [b.old y (Nat.lt_of_lt_of_le hy a.grow), a.old y hy], fun y e hy he => ?_, fun y sz ro f st k c hy hoy => ?_, fun y q1 q2 => ?_, fun y hy => (a.evo y hy).trans (b.evo y (Nat.lt_of_lt_of_le hy a.grow)), Nat.le_trans a.grow b.grow⟩
  · rcases Nat.lt_or_ge y h1.n with hy1 | hy1
    · exact first y e hy (by rw [← b.old y hy1]; exact he)
    · rcases b.new y e hy1 he with q | ⟨b0, e0, sz, ro, f, st, k, c, q1, q2, q3, q4, q5, q6, q7⟩
      · left; omega
      · rcases Nat.lt_or_ge b0 h.n with hb | hb
        · obtain ⟨s1, s2, s3, s4⟩ := (q6 ▸ a.evo b0 hb).was
          refine .inr ⟨b0, e0, sz, ro, f, s1, s2, s3, by rw [← a.old b0 hb]; exact q1, fun he2 => q2 ?_, q3, q4, q5, s4, q7⟩
          have := (a.evo b0 hb).mid (b.evo b0 (Nat.lt_of_lt_of_le hb a.grow)) he2
          rw [he2, this]
        · rcases first b0 e0 hb q1 with r | ⟨b1, e1, sz1, ro1, f1, st1, k1, c1, r1, r2, r3, r4, r5, r6, sz2, ro2, st2, k2, c2, r7⟩
          · left; rw [q3]; exact r
          · obtain ⟨s1, s2, s3, s4⟩ := (q6 ▸ b.evo b0 (hr1.lt b0 e0 q1)).is
            rw [s4] at r7
            injection r7 with _ _ r7
            subst r7
            exact .inr ⟨b1, e1, sz1, ro1, f, st1, k1, c1, r1, r2, by omega, by omega, by omega, r6, q7⟩
  · rcases Nat.lt_or_ge y h1.n with hy1 | hy1
    · obtain ⟨s1, s2, s3, s4⟩ := (hoy ▸ b.evo y hy1).was
      rcases a.famn y _ _ _ _ _ _ hy s4 with q | ⟨b0, e0, sz0, ro0, st0, k0, c0, q1, q2, q3⟩
      · exact .inl q
      · exact .inr ⟨b0, e0, sz0, ro0, st0, k0, c0, q1, q2, hne b0 (hr.lt b0 e0 q1) q3⟩
    · rcases b.famn y _ _ _ _ _ _ hy1 hoy with q | ⟨b0, e0, sz0, ro0, st0, k0, c0, q1, q2, q3⟩
      · exact .inl (Nat.le_trans a.grow q)
      · rcases Nat.lt_or_ge b0 h.n with hb | hb
        · obtain ⟨s1, s2, s3, s4⟩ := (q2 ▸ a.evo b0 hb).was
          refine .inr ⟨b0, e0, _, _, _, _, _, by rw [← a.old b0 hb]; exact q1, s4, fun he2 => q3 ?_⟩
          have := (a.evo b0 hb).mid (b.evo b0 (Nat.lt_of_lt_of_le hb a.grow)) he2
          rw [he2, this]
        · rcases a.famn b0 _ _ _ _ _ _ hb q2 with q | ⟨b1, e1, sz1, ro1, st1, k1, c1, r1, r2, r3⟩
          · exact .inl q
          · exact .inr ⟨b1, e1, _, _, _, _, _, r1, r2, hne b1 (hr.lt b1 e1 r1) r3⟩
  · rcases Nat.lt_or_ge y h1.n with hy1 | hy1
    · obtain ⟨e, he⟩ := a.full y q1 hy1
      exact ⟨e, by rw [b.old y hy1]; exact he⟩
    · exact b.full y hy1 q2

theorem Keep0.trans (hr : HRel base ι h w) (a : More base ι ι1 h h1 w) (b : More base ι1 ι2 h1 h2 w1) (k : Keep0 ι h h1 w w1) (l : Keep0 ι1 h1 h2 w1 w2) : Keep0 ι h h2 w w2 := by
  have hmid : ∀ y, y < h.n → h2.o y = h.o y → h1.o y = h.o y := fun y hy he => (a.evo y hy).mid (b.evo y (Nat.lt_of_lt_of_le hy a.grow)) he
  refine ⟨l.os.trans k.os, l.tape.trans k.tape, l.output.trans k.output, Nat.le_trans k.size l.size, fun B hB hall => ?_, fun B off v hc hall => ?_, fun B off v hc => ?_⟩
  · have e1 := k.block B hB fun b e q1 q2 => hmid b (hr.lt b e q1) (hall b e q1 q2)
    rw [← e1]
    refine l.block B (Nat.lt_of_lt_of_le hB k.size) fun b e q1 q2 => ?_
    rcases Nat.lt_or_ge b h.n with hb | hb
    · have q3 : ι b = some e := by rw [← a.old b hb]; exact q1
      have q4 := hall b e q3 q2
      rw [q4, hmid b hb q4]
    · exfalso
      rcases a.new b e hb q1 with q | ⟨b0, e0, _, _, _, _, _, _, r1, r2, r3, r4, r5, _⟩
      · omega
      · exact r2 (hmid b0 (hr.lt b0 e0 r1) (hall b0 e0 r1 (by omega)))
  · have hB := cell_lt hc
    have e1 := k.cell B off v hc fun b e q1 q2 q3 q4 => hmid b (hr.lt b e q1) (hall b e q1 q2 q3 q4)
    refine l.cell B off v e1 fun b e q1 q2 q3 q4 => ?_
    rcases Nat.lt_or_ge b h.n with hb | hb
    · have q5 : ι b = some e := by rw [← a.old b hb]; exact q1
      have q6 := hall b e q5 q2 q3 q4
      rw [q6, hmid b hb q6]
    · exfalso
      rcases a.new b e hb q1 with q | ⟨b0, e0, _, _, _, _, _, _, r1, r2, r3, r4, r5, _⟩
      · omega
      · exact r2 (hmid b0 (hr.lt b0 e0 r1) (hall b0 e0 r1 (by omega) (by omega) (by omega)))
  · obtain ⟨⟨v', hv'⟩, hf⟩ := k.there B off v hc
    obtain ⟨h3, h4⟩ := l.there B off v' hv'
    exact ⟨h3, by rw [h4, hf]⟩

/-! ### States -/
structure SRel (base : Nat) (ι : Lay) (s : ASt) (a : Act) (w : World) : Prop where
  size : a.tmps.size = s.m
  tmps : ∀ i, VRel ι (s.t i) (a.tmps.getD i undef)
  heap : HRel base ι s.h w
  base : base ≤ w.heap.size

theorem operand_rel {s : ASt} {a : Act} (ht : ∀ i, VRel ι (s.t i) (a.tmps.getD i undef)) {x : Operand} (hx : okOperand x = true) : VRel ι (s.ev x) (a.eval x) := by
  cases x with
  | tmp t => exact ht t
  | const v => exact .const hx
  | global g => cases hx
  | func f => exact .func rfl (fun i v v' a _ => by simp at a) rfl (fun i v v' a _ => by simp at a)

theorem More.lay (hr : HRel base ι h w) (a : More base ι ι1 h h1 w) : ∀ b e, ι b = some e → ι1 b = some e := fun b e hb => by rw [a.old b (hr.lt b e hb)]; exact hb

theorem put_getD {a : Act} {dst : Option Tmp} {v : Value} {m : Nat} (hm : a.tmps.size = m) (hd : ∀ d, dst = some d → d < m) (i : Nat) :
    (a.put dst v).tmps.getD i undef = if dst = some i then v else a.tmps.getD i undef := by
  cases dst with
  | none => simp [Act.put]
  | some d =>
    have := hd d rfl
    simp only [Act.put, Option.some.injEq]
    rw [Array.getD_eq_getD_getElem?, Array.getD_eq_getD_getElem?, Array.getElem?_setIfInBounds]
    by_cases e : d = i
    · subst e; rw [if_pos rfl, if_pos rfl, if_pos (show d < a.tmps.size by rw [hm]; exact this)]; rfl
    · rw [if_neg e, if_neg e]

theorem SRel.put {s : ASt} {a : Act} (hs : SRel base ι s a w) {dst : Option Tmp} {v v' : Value} (hd : ∀ d, dst = some d → d < s.m) (hm : More base ι ι1 s.h h1 w) (hv : VRel ι1 v v') (hr : HRel base ι1 h1 w1) (hw : w.heap.size ≤ w1.heap.size) :
    SRel base ι1 (s.put dst v h1) (a.put dst v') w1 := by
  refine ⟨?_, fun i => ?_, ?_, Nat.le_trans hs.base hw⟩
  · cases dst <;> simp [Act.put, ASt.put, hs.size]
  · rw [put_getD hs.size hd]
    have hold := (hs.tmps i).mono (More.lay hs.heap hm)
    cases dst with
    | none => simpa [ASt.put] using hold
    | some d =>
      simp only [ASt.put, Option.some.injEq]
      by_cases e : i = d
      · subst e; rw [if_pos rfl, if_pos rfl]; exact hv
      · rw [if_neg e, if_neg (fun q => e q.symm)]; exact hold
  · cases dst <;> exact hr

/-! ### One operation -/
def OpSem (P : Program) (U : AObj → AObj → Nat → Prop) (o : Oper) (s : ASt) (v : Value) (h' : AHeap) : Prop :=
  ∀ base ι (a : Act) (w : World) (K : Act → World → Prop) (Q : Exit → Act → World → Prop), HRel base ι s.h w → base ≤ w.heap.size → (∀ x ∈ o.op.operands, VRel ι (s.ev x) (a.eval x)) →
    (∀ ι' v' w', More base ι ι' s.h h' w → VRel ι' v v' → HRel base ι' h' w' → KeepsBy U ι s.h h' w w' → K (a.put o.dst v') w') → o.wp P a w K Q

theorem OpSem.simple {o : Oper} {s : ASt} {v : Value} (hv : aop P o s = some (v, h')) : OpSem P Untouched o s v h' := by
  intro base ι a w K Q hr hb hx hk
  obtain ⟨v', w', nx, hrun, hnx, ι', d1, d2, d3, d4⟩ := aop_ok hv hr hb hx
  unfold Oper.wp
  rw [hrun]
  rcases hnx with rfl | ⟨rfl, rfl⟩
  · exact hk ι' v' w' d1 d2 d3 d4
  · exact hk ι' _ w' d1 d2 d3 d4

theorem OpSem.zero {o : Oper} {s : ASt} {v : Value} (hs : OpSem P Untouched o s v h') : OpSem P (fun x y _ => y = x) o s v h' :=
  fun base ι a w K Q hr hb hx hk => hs base ι a w K Q hr hb hx fun ι' v' w' d1 d2 d3 d4 => hk ι' v' w' d1 d2 d3 d4.zero

theorem OpSem.untouched {o : Oper} {s : ASt} {v : Value} (hs : OpSem P (fun x y _ => y = x) o s v h') (hq : Old s.h h') : OpSem P Untouched o s v h' :=
  fun base ι a w K Q hr hb hx hk => hs base ι a w K Q hr hb hx fun ι' v' w' d1 d2 d3 d4 => hk ι' v' w' d1 d2 d3
    ⟨d4.os, d4.tape, d4.output, d4.size, d4.block, fun B off u hc hall => d4.cell B off u hc fun b e q1 _ _ _ => hq.2 b (hr.lt b e q1), d4.there⟩

def CallSem (P : Program) (f : FuncId) (args : Array Value) (h : AHeap) (v : Value) (h' : AHeap) : Prop :=
  ∀ base ι (w : World) (args' : Array Value), HRel base ι h w → base ≤ w.heap.size → ARel ι args args' →
    Calls P f args' w fun e w' => ∃ ι' v', e = .returned v' ∧ More base ι ι' h h' w ∧ VRel ι' v v' ∧ HRel base ι' h' w' ∧ Keep0 ι h h' w w'

theorem ARel.append {xs ys xs' ys' : Array Value} (a : ARel ι xs xs') (b : ARel ι ys ys') : ARel ι (xs ++ ys) (xs' ++ ys') := by
  refine ⟨by simp [a.1, b.1], fun i x y hx hy => ?_⟩
  rcases Nat.lt_or_ge i xs.size with hi | hi
  · rw [Array.getElem?_append_left hi] at hx
    rw [Array.getElem?_append_left (by rw [a.1]; exact hi)] at hy
    exact a.2 i x y hx hy
  · rw [Array.getElem?_append_right hi] at hx
    rw [Array.getElem?_append_right (by rw [a.1]; exact hi), a.1] at hy
    exact b.2 _ x y hx hy

theorem OpSem.call {o : Oper} {s : ASt} {f : FuncId} {args : Array Value} {v : Value} (hc : acallee P o s = some (f, args)) (hs : CallSem P f args s.h v h') : OpSem P (fun x y _ => y = x) o s v h' := by
  intro base ι a w K Q hr hb hx hk
  unfold acallee at hc
  obtain ⟨dst, op, type, pos, after, guard⟩ := o
  simp only at hc hx
  split at hc
  · rename_i g gargs gt
    split at hc
    · rename_i f0 first captured hg
      split at hc
      · rename_i fn hfn
        split at hc
        · rename_i hbody
          injection hc with hc; injection hc with e1 e2; subst e1 e2
          have hrel := hx g (by simp [Op.operands, Call.operands])
          rw [hg] at hrel
          generalize hga : a.eval g = vg at hrel
          cases hrel with
          | atom q => simp [plain1] at q
          | func q1 q2 q3 q4 =>
            rename_i ys ws
            have hargs : ARel ι (first ++ gargs.map s.ev ++ captured) (ys ++ gargs.map a.eval ++ ws) :=
              ARel.append (ARel.append ⟨q1.symm, q2⟩ (ARel.map fun x hxx => hx x (by simp [Op.operands, Call.operands, hxx]))) ⟨q3.symm, q4⟩
            have hcalls := hs base ι w _ hr hb hargs
            unfold Oper.wp
            have hrun : (execOp a.eval { dst := dst, op := .call { callee := .value g, args := gargs, argTypes := gt }, type := type, pos := pos, after := after, guard := guard }).run P w = .ok (.enter f0 (ys ++ gargs.map a.eval ++ ws)) w := by
              simp only [execOp, resolve, hga, Deferred.ofValue, Sem.run_bind, Sem.run_pure, Result.andThen_ok, invoke, callFunc, run_program, hfn]
              have e1 : (fn.name == "runtime.NumGoroutine") = false := by simpa using hbody.2
              have e2 : fn.body.isNone = false := by
                have := hbody.1
                cases hb0 : fn.body with
                | none => rw [hb0] at this; cases this
                | some c => rfl
              rw [e1, e2]
              rfl
            rw [hrun]
            simp only [Oper.upon]
            refine hcalls.mono fun e w' ⟨ι', v', he, d1, d2, d3, d4⟩ => ?_
            subst he
            exact hk ι' v' w' d1 d2 d3 d4
        · cases hc
      · cases hc
    · cases hc
  · cases hc

/-! ### The abstract heap by itself -/
structure WF (h : AHeap) : Prop where
  wf : ∀ b sz ro f m k c, h.o b = .cells sz ro f (some m) k c → m < h.n ∧ ∃ sz' ro' st' k' c', h.o m = .cells sz' ro' f st' k' c'
  fam : ∀ b sz ro f st k c, h.o b = .cells sz ro f st k c → f ≤ b
  uniq : ∀ y z f sz1 ro1 st1 k1 c1 sz2 ro2 k2 c2, h.o y = .cells sz1 ro1 f st1 k1 c1 → h.o z = .cells sz2 ro2 f none k2 c2 → y ≤ z
  out : ∀ b, h.n ≤ b → h.o b = .dead

theorem HRel.heapWF (hr : HRel base ι h w) : WF h := ⟨hr.wf, hr.fam, hr.uniq, hr.out⟩

theorem WF.lt (hh : WF h) {b sz ro f st k c} (hb : h.o b = .cells sz ro f st k c) : b < h.n := by
  rcases Nat.lt_or_ge b h.n with q | q
  · exact q
  · rw [hh.out b q] at hb; cases hb

theorem WF.new (hh : WF h) (sz : Nat) (ro : Bool) (c : List Value) : WF (h.new (.cells sz ro h.n none 0 c)) := by
  generalize hg : h.new (.cells sz ro h.n none 0 c) = h'
  have hnew : ∀ b, h'.o b = if b = h.n then .cells sz ro h.n none 0 c else h.o b := fun b => by rw [← hg]; rfl
  have hn' : h'.n = h.n + 1 := by rw [← hg]; rfl
  have hcase : ∀ b sz1 ro1 f1 st1 k1 c1, h'.o b = .cells sz1 ro1 f1 st1 k1 c1 → (b = h.n ∧ f1 = h.n ∧ st1 = none) ∨ (b < h.n ∧ h.o b = .cells sz1 ro1 f1 st1 k1 c1) := by
    intro b sz1 ro1 f1 st1 k1 c1 ho
    rw [hnew] at ho
    split at ho
    · rename_i e1; injection ho with e2 e3 e4 e5 e6 e7; exact .inl ⟨e1, e4.symm, e5.symm⟩
    · exact .inr ⟨hh.lt ho, ho⟩
  refine ⟨?_, ?_, ?_, ?_⟩
  · intro b sz1 ro1 f1 m k1 c1 ho
    rcases hcase _ _ _ _ _ _ _ ho with ⟨_, _, q⟩ | ⟨_, q⟩
    · cases q
    · obtain ⟨q1, sz3, ro3, st3, k3, c3, q2⟩ := hh.wf b _ _ _ _ _ _ q
      exact ⟨by omega, sz3, ro3, st3, k3, c3, by rw [hnew, if_neg (by omega)]; exact q2⟩
  · intro b sz1 ro1 f1 st1 k1 c1 ho
    rcases hcase _ _ _ _ _ _ _ ho with ⟨q1, q2, _⟩ | ⟨_, q⟩
    · omega
    · exact hh.fam b _ _ _ _ _ _ q
  · intro y z f1 sz1 ro1 st1 k1 c1 sz2 ro2 k2 c2 o1 o2
    rcases hcase _ _ _ _ _ _ _ o1 with ⟨q1, q2, _⟩ | ⟨q1, q2⟩ <;> rcases hcase _ _ _ _ _ _ _ o2 with ⟨q3, q4, _⟩ | ⟨q3, q4⟩
    · omega
    · have := hh.fam z _ _ _ _ _ _ q4; omega
    · omega
    · exact hh.uniq y z _ _ _ _ _ _ _ _ _ _ q2 q4
  · intro b hb
    rw [hnew, if_neg (by omega)]; exact hh.out b (by omega)

theorem WF.set (hh : WF h) {b sz ro f k c} (hb : h.o b = .cells sz ro f none k c) (k' : Nat) (c' : List Value) : WF (h.set b (.cells sz ro f none k' c')) := by
  generalize hg : h.set b (.cells sz ro f none k' c') = h'
  have hset : ∀ y, h'.o y = if y = b then .cells sz ro f none k' c' else h.o y := fun y => by rw [← hg]; rfl
  have hn' : h'.n = h.n := by rw [← hg]; rfl
  have hsame : ∀ y sz1 ro1 f1 st1 k1 c1, h'.o y = .cells sz1 ro1 f1 st1 k1 c1 → ∃ k0 c0, h.o y = .cells sz1 ro1 f1 st1 k0 c0 := by
    intro y sz1 ro1 f1 st1 k1 c1 hy
    rw [hset] at hy
    split at hy
    · rename_i e1; subst e1
      injection hy with e1 e2 e3 e4 e5 e6
      subst e1 e2 e3 e4
      exact ⟨k, c, hb⟩
    · exact ⟨k1, c1, hy⟩
  refine ⟨?_, ?_, ?_, ?_⟩
  · intro y sz1 ro1 f1 m k1 c1 ho
    obtain ⟨_, _, q⟩ := hsame _ _ _ _ _ _ _ ho
    obtain ⟨q1, sz3, ro3, st3, k3, c3, q2⟩ := hh.wf y _ _ _ _ _ _ q
    refine ⟨by omega, ?_⟩
    rw [hset]
    split
    · rename_i e1; subst e1
      rw [hb] at q2; injection q2 with _ _ q2; subst q2
      exact ⟨_, _, _, _, _, rfl⟩
    · exact ⟨_, _, _, _, _, q2⟩
  · intro y sz1 ro1 f1 st1 k1 c1 ho
    obtain ⟨_, _, q⟩ := hsame _ _ _ _ _ _ _ ho
    exact hh.fam y _ _ _ _ _ _ q
  · intro y z f1 sz1 ro1 st1 k1 c1 sz2 ro2 k2 c2 o1 o2
    obtain ⟨_, _, q1⟩ := hsame _ _ _ _ _ _ _ o1
    obtain ⟨_, _, q2⟩ := hsame _ _ _ _ _ _ _ o2
    exact hh.uniq y z _ _ _ _ _ _ _ _ _ _ q1 q2
  · intro y hy
    rw [hset, if_neg (by have := hh.lt hb; omega)]; exact hh.out y (by omega)

theorem WF.app (hh : WF h) {b sz f k c} (hb : h.o b = .cells sz false f none k c) (cn : List Value) : WF ((h.set b (.cells sz false f (some h.n) k c)).new (.cells sz false f none 0 cn)) := by
  have hbn := hh.lt hb
  have hfb := hh.fam b _ _ _ _ _ _ hb
  generalize hg : (h.set b (.cells sz false f (some h.n) k c)).new (.cells sz false f none 0 cn) = h'
  have hnew : ∀ y, h'.o y = if y = h.n then .cells sz false f none 0 cn else if y = b then .cells sz false f (some h.n) k c else h.o y := fun y => by rw [← hg]; rfl
  have hn' : h'.n = h.n + 1 := by rw [← hg]; rfl
  have hcase : ∀ y sz1 ro1 f1 st1 k1 c1, h'.o y = .cells sz1 ro1 f1 st1 k1 c1 → (y = h.n ∧ f1 = f ∧ st1 = none) ∨
      (y < h.n ∧ ∃ st0, h.o y = .cells sz1 ro1 f1 st0 k1 c1 ∧ ((y = b ∧ st1 = some h.n) ∨ (y ≠ b ∧ st0 = st1))) := by
    intro y sz1 ro1 f1 st1 k1 c1 hoy
    rw [hnew] at hoy
    split at hoy
    · rename_i e1; injection hoy with e2 e3 e4 e5 e6 e7; exact .inl ⟨e1, e4.symm, e5.symm⟩
    · split at hoy
      · rename_i e1; subst e1
        injection hoy with e2 e3 e4 e5 e6 e7
        subst e2 e3 e4 e5 e6 e7
        exact .inr ⟨hbn, none, hb, .inl ⟨rfl, rfl⟩⟩
      · rename_i e1; exact .inr ⟨hh.lt hoy, st1, hoy, .inr ⟨e1, rfl⟩⟩
  refine ⟨?_, ?_, ?_, ?_⟩
  · intro y sz1 ro1 f1 m k1 c1 hoy
    rcases hcase _ _ _ _ _ _ _ hoy with ⟨_, _, q⟩ | ⟨q0, st0, q, ⟨r1, r2⟩ | ⟨r1, r2⟩⟩
    · cases q
    · injection r2 with r2
      subst r1 r2
      rw [hb] at q; injection q with _ _ q; subst q
      exact ⟨by omega, _, _, _, _, _, by rw [hnew, if_pos rfl]⟩
    · subst r2
      obtain ⟨q1, sz3, ro3, st3, k3, c3, q2⟩ := hh.wf y _ _ _ _ _ _ q
      refine ⟨by omega, ?_⟩
      rw [hnew, if_neg (by omega)]
      split
      · rename_i e1; subst e1
        rw [hb] at q2; injection q2 with _ _ q2; subst q2
        exact ⟨_, _, _, _, _, rfl⟩
      · exact ⟨_, _, _, _, _, q2⟩
  · intro y sz1 ro1 f1 st1 k1 c1 hoy
    rcases hcase _ _ _ _ _ _ _ hoy with ⟨q1, q2, _⟩ | ⟨_, st0, q, _⟩
    · omega
    · exact hh.fam y _ _ _ _ _ _ q
  · intro y z f1 sz1 ro1 st1 k1 c1 sz2 ro2 k2 c2 o1 o2
    rcases hcase _ _ _ _ _ _ _ o2 with ⟨q3, _⟩ | ⟨q3, st0, q4, ⟨_, q5⟩ | ⟨q5, q6⟩⟩
    · rcases hcase _ _ _ _ _ _ _ o1 with ⟨q1, _⟩ | ⟨q1, _⟩ <;> omega
    · cases q5
    · subst q6
      rcases hcase _ _ _ _ _ _ _ o1 with ⟨q1, q2, _⟩ | ⟨q1, st1', q2, _⟩
      · exfalso
        subst q2
        have := hh.uniq b z _ _ _ _ _ _ _ _ _ _ hb q4
        have := hh.uniq z b _ _ _ _ _ _ _ _ _ _ q4 hb
        omega
      · exact hh.uniq y z _ _ _ _ _ _ _ _ _ _ q2 q4
  · intro y hy
    rw [hnew, if_neg (by omega), if_neg (by omega)]; exact hh.out y (by omega)

theorem aop_WF {o : Oper} {s : ASt} {v : Value} (hv : aop P o s = some (v, h')) (hh : WF s.h) : WF h' ∧ s.h.n ≤ h'.n := by
  unfold aop at hv
  simp only at hv
  have mp : ∀ {α : Type} {x : Option α} {u : α} {g : AHeap}, x.map (·, s.h) = some (u, g) → WF g ∧ s.h.n ≤ g.n := fun hx => by
    obtain ⟨_, rfl⟩ := map_pair hx; exact ⟨hh, Nat.le_refl _⟩
  split at hv
  all_goals first
    | exact mp hv
    | (injection hv with hv; injection hv with h1 h2; subst h2; exact ⟨hh, Nat.le_refl _⟩)
    | skip
  · split at hv
    · injection hv with hv; injection hv with h1 h2; subst h2; exact ⟨hh, Nat.le_refl _⟩
    · injection hv with hv; injection hv with h1 h2; subst h2; exact ⟨hh, Nat.le_refl _⟩
    · cases hv
  · rename_i t _
    cases hz : zeroOf P t with
    | none => rw [hz] at hv; cases hv
    | some z => rw [hz] at hv; injection hv with hv; injection hv with h1 h2; subst h2; exact ⟨hh.new _ _ _, Nat.le_succ _⟩
  · split at hv
    · injection hv with hv; injection hv with h1 h2; subst h2; exact ⟨hh.new _ _ _, Nat.le_succ _⟩
    · cases hv
  · unfold litA at hv
    split at hv
    · split at hv
      · split at hv
        · injection hv with hv; injection hv with h1 h2; subst h2; exact ⟨hh.new _ _ _, Nat.le_succ _⟩
        · cases hv
      · cases hv
    · cases hv
  · split at hv
    · exact mp hv
    · cases hv
  · rename_i t x y _
    split at hv
    · rename_i b off _
      cases hs : storeA P s.h t b off (s.ev y) with
      | none => rw [hs] at hv; cases hv
      | some g =>
        rw [hs] at hv; injection hv with hv; injection hv with h1 h2; subst h2
        unfold storeA at hs
        split at hs
        · rename_i sz f k c ho
          split at hs
          · injection hs with hs; subst hs; exact ⟨hh.set ho _ _, Nat.le_refl _⟩
          · cases hs
        · cases hs
    · cases hv
  · split at hv
    · injection hv with hv; injection hv with h1 h2; subst h2; exact ⟨hh, Nat.le_refl _⟩
    · cases hv
  · split at hv
    · split at hv
      · unfold makeA at hv
        split at hv
        · split at hv
          · split at hv
            · injection hv with hv; injection hv with h1 h2; subst h2; exact ⟨hh.new _ _ _, Nat.le_succ _⟩
            · cases hv
          · cases hv
        · cases hv
      · cases hv
    · cases hv
  · split at hv
    · exact mp hv
    · cases hv
  · split at hv
    · exact mp hv
    · cases hv
  · split at hv
    · split at hv
      · unfold appendA at hv
        split at hv
        · cases hv
        split at hv
        case h_2 => cases hv
        split at hv
        case h_2 => cases hv
        split at hv
        · cases hv
        split at hv
        · split at hv
          · injection hv with hv; injection hv with h1 h2; subst h2; exact ⟨hh, Nat.le_refl _⟩
          · split at hv
            · injection hv with hv; injection hv with h1 h2; subst h2; exact ⟨hh.new _ _ _, Nat.le_succ _⟩
            · cases hv
        · split at hv
          · rename_i ho
            split at hv
            · rename_i hc
              obtain rfl := hc.1
              injection hv with hv; injection hv with h1 h2; subst h2; exact ⟨hh.app ho _, Nat.le_succ _⟩
            · cases hv
          · cases hv
        · cases hv
      · cases hv
    · cases hv
  all_goals cases hv


/-! ### Operations that touch no memory -/
def isPureOp : Op → Bool
  | .move _ | .assign _ | .pick .. | .binOp .. | .unOp .. | .build .. | .nilCheck _ | .makeFunc (.func _) _ _ | .fieldAddr .. | .field .. | .indexAddr .. | .index .. | .extract .. | .convert .. => true
  | .call { callee := .builtin .len, .. } | .call { callee := .builtin .min, .. } | .call { callee := .builtin .max, .. } => true
  | _ => false

theorem ev_with (s : ASt) (g : AHeap) : ({ s with h := g } : ASt).ev = s.ev := by funext x; cases x <;> rfl

theorem pure_aop {o : Oper} {s : ASt} {v : Value} (hp : isPureOp o.op = true) (hv : aop P o s = some (v, h')) : h' = s.h ∧ ∀ g, aop P o { s with h := g } = some (v, g) := by
  have mp : ∀ {α : Type} {x : Option α} {u : α}, x.map (·, s.h) = some (u, h') → h' = s.h ∧ ∀ g : AHeap, x.map (·, g) = some (u, g) := fun hx => by
    obtain ⟨h1, h2⟩ := map_pair hx; subst h1; exact ⟨h2, fun _ => rfl⟩
  obtain ⟨dst, op, type, pos, after, guard⟩ := o
  unfold aop at hv ⊢
  simp only [ev_with] at hv ⊢
  cases op with
  | call c =>
    obtain ⟨callee, args, argTypes⟩ := c
    cases callee with
    | builtin b =>
      cases b <;> first
        | (simp [isPureOp] at hp; done)
        | exact mp hv
        | (simp only at hv ⊢; split at hv <;> first | exact mp hv | cases hv)
    | _ => simp [isPureOp] at hp
  | makeFunc fn first captured =>
    cases fn <;> first
      | (simp [isPureOp] at hp; done)
      | (injection hv with hv; injection hv with h1 h2; subst h1 h2; exact ⟨rfl, fun _ => rfl⟩)
  | pick c a b => simp only at hv ⊢; split at hv <;> first | (injection hv with hv; injection hv with h1 h2; subst h1 h2; exact ⟨rfl, fun _ => rfl⟩) | cases hv
  | nilCheck x => simp only at hv ⊢; split at hv <;> first | (injection hv with hv; injection hv with h1 h2; subst h1 h2; exact ⟨rfl, fun _ => rfl⟩) | cases hv
  | extract x i => simp only at hv ⊢; split at hv <;> first | exact mp hv | cases hv
  | move x => injection hv with hv; injection hv with h1 h2; subst h1 h2; exact ⟨rfl, fun _ => rfl⟩
  | assign x => injection hv with hv; injection hv with h1 h2; subst h1 h2; exact ⟨rfl, fun _ => rfl⟩
  | _ => first | (simp [isPureOp] at hp; done) | exact mp hv

end Go.Proofs.Ytjmklialkjncaaa.Eng
