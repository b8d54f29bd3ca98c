/- Symbolic runs of the abstract machine: what is known of the slots and of the objects, and the rules of code. Own work; no condition. -/
import Derived.Test.YtjmklialkjncaaaEngS
set_option linter.unusedVariables false
set_option linter.unusedSimpArgs false
namespace Go.Proofs.Ytjmklialkjncaaa.Eng

variable {P : Program}

/-! ### 1. The checks of a text, made once -/
def isStoreOp : Op → Bool
  | .store .. => true
  | _ => false

def isLoadOp : Op → Bool
  | .load .. => true
  | _ => false

/-- `j` need not wait for `i`. -/
def free (ops : Array Oper) (i j : Nat) : Bool := !(((tab ops.toList []).getD j 0).testBit i)

/-- Loads that a later store may come ahead of. -/
def lazyOf (ops : Array Oper) (i : Nat) : Bool := match ops[i]? with
  | none => false
  | some a => isLoadOp a.op && (List.range ops.size).any fun j => Nat.blt i j && match ops[j]? with
    | none => false
    | some b => isStoreOp b.op && free ops i j

/-- What is not of a fixed order with others that are of the memory. -/
def needs (ops : Array Oper) (i : Nat) : Bool := match ops[i]? with
  | none => false
  | some a => !isPureOp a.op && (List.range ops.size).any fun j => !(Nat.beq j i) && match ops[j]? with
    | none => false
    | some b => !isPureOp b.op && free ops i j && free ops j i && !(lazyOf ops (min i j))

/-- What is flagged in a region, and the objects that are read late. -/
structure Mk where
  q : Nat → Bool
  lz : Nat → Bool
  Z : List Nat

def flagsOk (ops : Array Oper) (q lz : Nat → Bool) : Bool := (List.range ops.size).all fun i => match ops[i]? with
  | some o => (!(q i) || !isStoreOp o.op) && (!(lz i) || isLoadOp o.op)
  | none => true

def codeOk (m : Nat) : Code → Bool
  | .region _ ops false => regOk ops m
  | .region _ ops true => regOk ops m && drawOk ops (needs ops) (lazyOf ops) && flagsOk ops (needs ops) (lazyOf ops)
  | .seq a b => codeOk m a && codeOk m b
  | .cond c a b => okOperand c && codeOk m a && codeOk m b
  | .block _ c => codeOk m c
  | .loop c => codeOk m c
  | .scope c => codeOk m c
  | .skip | .ret | .exit _ | .label _ => true
  | _ => false

def drv (ops : Array Oper) (mq lz : Nat → Bool) : Prop := drawOk ops mq lz = true

theorem call_sound (hm : P.follows .mixedOrders = true) {f : FuncId} {args : Array Value} {h h' : AHeap} {v : Value} (hb : Big P drv (.call f args h v h')) : CallSem P f args h v h' :=
  sound (fun _ _ _ h => draw_ok hm h) hb

/-! ### 2. What is known of a state -/
structure Ent where
  sz : Nat
  ro : Bool
  c : List Value

abbrev Tmps := List (Nat × Value)
abbrev Objs := List (Nat × Ent)

def getT : Tmps → Nat → Option Value
  | [], _ => none
  | (d, v) :: L, i => bif Nat.beq d i then some v else getT L i

def Has (t : Nat → Value) (L : Tmps) : Prop := ∀ d v, getT L d = some v → t d = v

def Is (h : AHeap) (b : Nat) (x : Ent) : Prop := ∃ f k, h.o b = .cells x.sz x.ro f none k x.c

structure Sat (h : AHeap) (O : Objs) : Prop where
  nd : (O.map (·.1)).Nodup
  is : ∀ p ∈ O, Is h p.1 p.2
  wf : WF h

structure Cx where
  m : Nat
  q : Bool
  h0 : AHeap

structure St (x : Cx) (L : Tmps) (O : Objs) (s : ASt) : Prop where
  m : s.m = x.m
  t : Has s.t L
  sat : Sat s.h O
  old : x.q = true → Old x.h0 s.h

theorem Has.nil {t : Nat → Value} : Has t [] := fun _ _ h => by cases h
theorem Has.cons {t : Nat → Value} {L : Tmps} {d : Nat} {v : Value} (h1 : t d = v) (h : Has t L) : Has t ((d, v) :: L) := by
  intro e u he
  unfold getT at he
  cases hb : Nat.beq d e with
  | true =>
    rw [hb] at he
    have := Nat.eq_of_beq_eq_true hb
    subst this
    exact h1.trans (Option.some.inj he)
  | false => rw [hb] at he; exact h e u he

theorem Has.put {s : ASt} {L : Tmps} (h : Has s.t L) (d : Nat) (v : Value) (g : AHeap) : Has (s.put (some d) v g).t ((d, v) :: L) := by
  intro e u he
  unfold getT at he
  show (if e = d then v else s.t e) = u
  cases hb : Nat.beq d e with
  | true =>
    rw [hb] at he
    rw [if_pos (Nat.eq_of_beq_eq_true hb).symm]
    exact Option.some.inj he
  | false =>
    rw [hb] at he
    rw [if_neg fun e' => by subst e'; simp at hb]
    exact h e u he

def evL (L : Tmps) : Operand → Option Value
  | .tmp t => getT L t
  | .const v => some v
  | .func f => some (.func (.func f) #[] #[])
  | .global _ => none

theorem Has.ev {s : ASt} {L : Tmps} (h : Has s.t L) {y : Operand} {v : Value} (hy : evL L y = some v) : s.ev y = v := by
  cases y with
  | tmp t => exact h t v hy
  | const c => exact Option.some.inj hy
  | func f => exact Option.some.inj hy
  | global g => cases hy

/-! ### 3. Objects -/
theorem Sat.lt {h : AHeap} {O : Objs} (hs : Sat h O) {p : Nat × Ent} (hp : p ∈ O) : p.1 < h.n := by
  obtain ⟨f, k, e⟩ := hs.is p hp
  exact hs.wf.lt e

theorem Sat.at {h : AHeap} {O : Objs} (hs : Sat h O) {j b : Nat} {x : Ent} (hj : O[j]? = some (b, x)) : Is h b x := hs.is (b, x) (List.mem_of_getElem? hj)

theorem Sat.mem {h : AHeap} {O : Objs} (hs : Sat h O) {b : Nat} {x : Ent} (hj : (b, x) ∈ O) : Is h b x := hs.is (b, x) hj

theorem Is.rd {h : AHeap} {b : Nat} {x : Ent} (hi : Is h b x) : h.rd b = some x.c := by
  obtain ⟨f, k, e⟩ := hi
  unfold AHeap.rd
  rw [e]

theorem inj_of_nodup {O : Objs} (hn : (O.map (·.1)).Nodup) {i j : Nat} {p q : Nat × Ent} (hi : O[i]? = some p) (hj : O[j]? = some q) (he : p.1 = q.1) : i = j := by
  have h1 := List.pairwise_iff_getElem.1 hn
  obtain ⟨li, ei⟩ := List.getElem?_eq_some_iff.1 hi
  obtain ⟨lj, ej⟩ := List.getElem?_eq_some_iff.1 hj
  rcases Nat.lt_trichotomy i j with q1 | q1 | q1
  · have := h1 i j (by simpa using li) (by simpa using lj) q1
    simp [ei, ej, he] at this
  · exact q1
  · have := h1 j i (by simpa using lj) (by simpa using li) q1
    simp [ei, ej, he] at this

/-- Objects by their places. -/
def pick (O : Objs) : List Nat → Objs
  | [] => []
  | i :: is => match O[i]? with
    | some p => p :: pick O is
    | none => pick O is

theorem mem_pick {O : Objs} {p : Nat × Ent} : ∀ {is : List Nat}, p ∈ pick O is → ∃ i ∈ is, O[i]? = some p
  | i :: is, h => by
    unfold pick at h
    split at h
    · rename_i q hq
      rcases List.mem_cons.1 h with h | h
      · exact ⟨i, by simp, by rw [h]; exact hq⟩
      · obtain ⟨j, h1, h2⟩ := mem_pick h
        exact ⟨j, by simp [h1], h2⟩
    · obtain ⟨j, h1, h2⟩ := mem_pick h
      exact ⟨j, by simp [h1], h2⟩

/-- What is known of the objects of some places, in another order, and of the rest behind the first ones. -/
theorem Sat.pick {h : AHeap} {O : Objs} (hs : Sat h O) (is : List Nat) (n : Nat) (hnd : is.Nodup) (hlt : ∀ i ∈ is, i < n) : Sat h (pick O is ++ O.drop n) := by
  have hmem : ∀ {p : Nat × Ent}, p ∈ Eng.pick O is ++ O.drop n → p ∈ O := by
    intro p hp
    rcases List.mem_append.1 hp with hp | hp
    · obtain ⟨i, _, h2⟩ := mem_pick hp
      exact List.mem_of_getElem? h2
    · exact List.mem_of_mem_drop hp
  refine ⟨?_, fun p hp => hs.is p (hmem hp), hs.wf⟩
  rw [List.map_append, List.nodup_append]
  refine ⟨?_, ?_, ?_⟩
  · clear hlt hmem
    induction is with
    | nil => simp [Eng.pick]
    | cons i is ih =>
      obtain ⟨h1, h2⟩ := List.nodup_cons.1 hnd
      unfold Eng.pick
      split
      · rename_i q hq
        rw [List.map_cons, List.nodup_cons]
        refine ⟨fun hm => ?_, ih h2⟩
        obtain ⟨p, hp, he⟩ := List.mem_map.1 hm
        obtain ⟨j, hj, hj2⟩ := mem_pick hp
        have := inj_of_nodup hs.nd hq hj2 he.symm
        subst this
        exact h1 hj
      · exact ih h2
  · rw [List.map_drop]
    exact List.Sublist.nodup (List.drop_sublist _ _) hs.nd
  · intro a ha b hb he
    subst he
    obtain ⟨p, hp, e1⟩ := List.mem_map.1 ha
    obtain ⟨q, hq, e2⟩ := List.mem_map.1 hb
    obtain ⟨i, hi, hi2⟩ := mem_pick hp
    obtain ⟨k, hk⟩ := List.getElem?_of_mem hq
    rw [List.getElem?_drop] at hk
    have := inj_of_nodup hs.nd hi2 hk (by rw [e1, e2])
    have := hlt i hi
    omega

theorem Sat.perm {h : AHeap} {O O' : Objs} (hs : Sat h O) (hp : O.Perm O') : Sat h O' :=
  ⟨(hp.map (·.1)).nodup_iff.1 hs.nd, fun p h => hs.is p (hp.mem_iff.2 h), hs.wf⟩

theorem Sat.nil {h : AHeap} (hw : WF h) : Sat h [] := ⟨by simp, fun p hp => by simp at hp, hw⟩

theorem Is.same {h h' : AHeap} {b : Nat} {x : Ent} (hi : Is h b x) (he : h'.o b = h.o b) : Is h' b x := by
  obtain ⟨f, k, e⟩ := hi
  exact ⟨f, k, by rw [he]; exact e⟩

/-- A new object. -/
theorem Sat.new {h : AHeap} {O : Objs} (hs : Sat h O) (sz : Nat) (c : List Value) : Sat (h.new (.cells sz false h.n none 0 c)) ((h.n, ⟨sz, false, c⟩) :: O) := by
  refine ⟨?_, ?_, hs.wf.new sz false c⟩
  · rw [List.map_cons, List.nodup_cons]
    refine ⟨fun hm => ?_, hs.nd⟩
    obtain ⟨p, hp, he⟩ := List.mem_map.1 hm
    have := hs.lt hp
    omega
  · intro p hp
    rcases List.mem_cons.1 hp with rfl | hp
    · exact ⟨h.n, 0, by simp [AHeap.new]⟩
    · refine (hs.is p hp).same ?_
      have := hs.lt hp
      simp only [AHeap.new]
      rw [if_neg (by omega)]

theorem AHeap.old_new (h : AHeap) (x : AObj) : Old h (h.new x) := ⟨Nat.le_succ _, fun b hb => by simp only [AHeap.new]; rw [if_neg (by omega)]⟩

theorem Old.refl (h : AHeap) : Old h h := ⟨Nat.le_refl _, fun _ _ => rfl⟩
theorem Old.trans {a b c : AHeap} (h1 : Old a b) (h2 : Old b c) : Old a c := ⟨Nat.le_trans h1.1 h2.1, fun x hx => (h2.2 x (Nat.lt_of_lt_of_le hx h1.1)).trans (h1.2 x hx)⟩
theorem Old.quiet {a b : AHeap} (h : Old a b) : Quiet a b := ⟨h.1, fun x hx => .inl (h.2 x hx)⟩

/-- An object is written. -/
theorem Sat.set {h : AHeap} {O : Objs} (hs : Sat h O) {j b sz : Nat} {c c' : List Value} (hj : O[j]? = some (b, ⟨sz, false, c⟩)) {f k : Nat} (hb : h.o b = .cells sz false f none k c) :
    Sat (h.set b (.cells sz false f none (k + 1) c')) (O.set j (b, ⟨sz, false, c'⟩)) := by
  obtain ⟨lj, ej⟩ := List.getElem?_eq_some_iff.1 hj
  refine ⟨?_, ?_, hs.wf.set hb (k + 1) c'⟩
  · have : (O.set j (b, ⟨sz, false, c'⟩)).map (·.1) = O.map (·.1) := by
      rw [List.map_set]
      apply List.ext_getElem?
      intro i
      rw [List.getElem?_set]
      split
      · rename_i e
        subst e
        rw [List.getElem?_map, hj]
        simp [lj]
      · rfl
    rw [this]
    exact hs.nd
  · intro p hp
    obtain ⟨i, hi⟩ := List.getElem?_of_mem hp
    rw [List.getElem?_set] at hi
    split at hi
    · rename_i e
      subst e
      obtain rfl := Option.some.inj hi
      exact ⟨f, k + 1, by simp [AHeap.set]⟩
    · rename_i e
      refine (hs.is p (List.mem_of_getElem? hi)).same ?_
      simp only [AHeap.set]
      rw [if_neg]
      intro e2
      exact e (inj_of_nodup hs.nd hj hi e2.symm)

/-- An object is appended to: the new one stands in its place. -/
theorem Sat.app {h : AHeap} {O : Objs} (hs : Sat h O) {j b sz : Nat} {c : List Value} (hj : O[j]? = some (b, ⟨sz, false, c⟩)) {f k : Nat} (hb : h.o b = .cells sz false f none k c) (cn : List Value) :
    Sat ((h.set b (.cells sz false f (some h.n) k c)).new (.cells sz false f none 0 cn)) (O.set j (h.n, ⟨sz, false, cn⟩)) := by
  obtain ⟨lj, ej⟩ := List.getElem?_eq_some_iff.1 hj
  have hlt : ∀ {p : Nat × Ent}, p ∈ O → p.1 < h.n := fun hp => hs.lt hp
  refine ⟨?_, ?_, hs.wf.app hb cn⟩
  · rw [List.map_set]
    refine List.pairwise_iff_getElem.2 fun i i2 hi hi2 hlt2 => ?_
    have h1 := List.pairwise_iff_getElem.1 hs.nd
    rw [List.length_set, List.length_map] at hi hi2
    rw [List.getElem_set, List.getElem_set]
    have a1 : (O.map (·.1))[i]'(by simpa using hi) < h.n := by simp only [List.getElem_map]; exact hlt (List.getElem_mem hi)
    have a2 : (O.map (·.1))[i2]'(by simpa using hi2) < h.n := by simp only [List.getElem_map]; exact hlt (List.getElem_mem hi2)
    split
    · split
      · omega
      · show h.n ≠ _; omega
    · split
      · show _ ≠ h.n; omega
      · exact h1 i i2 (by simpa using hi) (by simpa using hi2) hlt2
  · intro p hp
    obtain ⟨i, hi⟩ := List.getElem?_of_mem hp
    rw [List.getElem?_set] at hi
    split at hi
    · rename_i e
      subst e
      obtain rfl := Option.some.inj hi
      exact ⟨f, 0, by simp [AHeap.new, AHeap.set]⟩
    · rename_i e
      have hm := List.mem_of_getElem? hi
      refine (hs.is p hm).same ?_
      have := hlt hm
      show (if p.1 = h.n then _ else if p.1 = b then _ else h.o p.1) = h.o p.1
      rw [if_neg (by omega), if_neg]
      intro e2
      exact e (inj_of_nodup hs.nd hj hi e2.symm)

end Go.Proofs.Ytjmklialkjncaaa.Eng
