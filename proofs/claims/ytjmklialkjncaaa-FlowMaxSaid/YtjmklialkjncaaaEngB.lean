/- The runs of the abstract machine, and how its states stand to the model's. Own work; no condition. -/
import Derived.Test.YtjmklialkjncaaaEngA
namespace Go.Proofs.Ytjmklialkjncaaa.Eng

def regOk (ops : Array Oper) (m : Nat) : Bool :=
  ops.toList.all fun o => (match o.dst with | some d => decide (d < m) | none => true) && o.op.operands.toList.all okOperand

/-! ### 1. The runs -/
inductive Big (P : Program) (dr : Array Oper → (Nat → Bool) → (Nat → Bool) → Prop) : J → Prop where
  | skip {s} : Big P dr (.code .skip s .normal s)
  | label {l s} : Big P dr (.code (.label l) s .normal s)
  | exit {id s} : Big P dr (.code (.exit id) s (.exit id) s)
  | ret {s} : Big P dr (.code .ret s .ret s)
  | region {id ops s s'} : regOk ops s.m = true → Big P dr (.ops ops (fun _ => false) (fun _ => false) [] (List.range ops.size) s s') → Big P dr (.code (.region id ops false) s .normal s')
  | draw {id ops mq lz s s'} : regOk ops s.m = true → dr ops mq lz → Big P dr (.ops ops mq lz [] (List.range ops.size) s s') → Big P dr (.code (.region id ops true) s .normal s')
  | seq_n {a b s s1 e s'} : Big P dr (.code a s .normal s1) → Big P dr (.code b s1 e s') → Big P dr (.code (.seq a b) s e s')
  | seq_x {a b s e s'} : Big P dr (.code a s e s') → e ≠ .normal → Big P dr (.code (.seq a b) s e s')
  | cond_t {c x y s e s'} : s.ev c = .bool true → okOperand c = true → Big P dr (.code x s e s') → Big P dr (.code (.cond c x y) s e s')
  | cond_f {c x y s e s'} : s.ev c = .bool false → okOperand c = true → Big P dr (.code y s e s') → Big P dr (.code (.cond c x y) s e s')
  | block_n {id c s e s'} : Big P dr (.code c s e s') → e ≠ .exit id → Big P dr (.code (.block id c) s e s')
  | block_x {id c s s'} : Big P dr (.code c s (.exit id) s') → Big P dr (.code (.block id c) s .normal s')
  | loop_n {c s s1 e s'} : Big P dr (.code c s .normal s1) → Big P dr (.code (.loop c) s1 e s') → Big P dr (.code (.loop c) s e s')
  | loop_x {c s e s'} : Big P dr (.code c s e s') → e ≠ .normal → Big P dr (.code (.loop c) s e s')
  | scope {c s e s'} : Big P dr (.code c s e s') → Big P dr (.code (.scope c) s e s')
  | nil {ops mq lz Z s} : Big P dr (.ops ops mq lz Z [] s s)
  | op {ops mq lz Z i o rest s v h' s'} : ops[i]? = some o → wantedA ops o s = true → aop P o s = some (v, h') → (mq i = true → Quiet s.h h') → lz i = false → (∀ b ∈ Z, h'.o b = s.h.o b) →
      Big P dr (.ops ops mq lz Z rest (s.put o.dst v h') s') → Big P dr (.ops ops mq lz Z (i :: rest) s s')
  | oplazy {ops mq lz Z i o rest s v s' t x b off sz ro f k c} : ops[i]? = some o → wantedA ops o s = true → o.op = .load t x → s.ev x = .pointer (some ⟨b, off, none⟩) → s.h.o b = .cells sz ro f none k c → aop P o s = some (v, s.h) → plainC v = true →
      Big P dr (.ops ops mq lz (b :: Z) rest (s.put o.dst v s.h) s') → Big P dr (.ops ops mq lz Z (i :: rest) s s')
  | opcall {ops mq lz Z i o rest s f args v h' s'} : ops[i]? = some o → wantedA ops o s = true → acallee P o s = some (f, args) → Big P dr (.call f args s.h v h') →
      (mq i = true → Old s.h h') → lz i = false → (∀ b ∈ Z, h'.o b = s.h.o b) → Big P dr (.ops ops mq lz Z rest (s.put o.dst v h') s') → Big P dr (.ops ops mq lz Z (i :: rest) s s')
  | opskip {ops mq lz Z i o rest s s'} : ops[i]? = some o → wantedA ops o s = false →
      Big P dr (.ops ops mq lz Z rest (s.put o.dst undef s.h) s') → Big P dr (.ops ops mq lz Z (i :: rest) s s')
  | call {f fn c args h e s' vs} : P.funcs[f]? = some fn → fn.body = some c → Big P dr (.code c (enterA fn args h) e s') → (e = .normal ∨ e = .ret) →
      resultsA P fn s' = some vs → Big P dr (.call f args h (tupleA vs) s'.h)

/-! ### 2. How abstract memory lies -/
structure Ext where
  block : Nat
  off : Nat
  cap : Nat
  sz : Nat

abbrev Lay := Nat → Option Ext

inductive VRel (ι : Lay) : Value → Value → Prop
  | atom {v} : plain1 v = true → VRel ι v v
  | ptr {b o e} : ι b = some e → VRel ι (.pointer (some ⟨b, o, none⟩)) (.pointer (some ⟨e.block, e.off + o, none⟩))
  | slice {b o l c c' e} : ι b = some e → l ≤ c' → o + c' * e.sz ≤ e.cap → VRel ι (.slice (some ⟨b, o, none⟩) l c) (.slice (some ⟨e.block, e.off + o, none⟩) l c')
  | slice0 {b o c A e} : ι b = some e → VRel ι (.slice (some ⟨b, o, none⟩) 0 c) (.slice (some A) 0 0)
  | agg {xs ys : Array Value} : xs.size = ys.size → (∀ (i : Nat) v v', xs[i]? = some v → ys[i]? = some v' → VRel ι v v') → VRel ι (.agg xs) (.agg ys)
  | tuple {xs ys : Array Value} : xs.size = ys.size → (∀ (i : Nat) v v', xs[i]? = some v → ys[i]? = some v' → VRel ι v v') → VRel ι (.tuple xs) (.tuple ys)
  | func {f} {xs ys zs ws : Array Value} : xs.size = ys.size → (∀ (i : Nat) v v', xs[i]? = some v → ys[i]? = some v' → VRel ι v v') →
      zs.size = ws.size → (∀ (i : Nat) v v', zs[i]? = some v → ws[i]? = some v' → VRel ι v v') → VRel ι (.func (.func f) xs zs) (.func (.func f) ys ws)
  | iface {t v v'} : VRel ι v v' → VRel ι (.iface t v) (.iface t v')

/-- All of an object's cells, or those of them that an append leaves alone: is cell `i` untouched between `x` and `y`? -/
def Untouched (x y : AObj) (i : Nat) : Prop :=
  y = x ∨ ∃ sz ro f k c m, x = .cells sz ro f none k c ∧ y = .cells sz ro f (some m) k c ∧ i < c.length

/-- How an object may turn. -/
def Evo : AObj → AObj → Prop
  | .dead, y => y = .dead
  | .cells sz ro f st k c, y => ∃ st' k' c', y = .cells sz ro f st' k' c' ∧ k ≤ k' ∧ (k' = k → c' = c) ∧ c'.length = c.length ∧ (∀ m, st = some m → st' = st ∧ k' = k ∧ c' = c)

theorem Evo.refl (x : AObj) : Evo x x := by
  cases x with
  | dead => rfl
  | cells sz ro f st k c => exact ⟨st, k, c, rfl, Nat.le_refl _, fun _ => rfl, rfl, fun _ _ => ⟨rfl, rfl, rfl⟩⟩

theorem Evo.trans {x y z : AObj} (h : Evo x y) (h' : Evo y z) : Evo x z := by
  cases x with
  | dead => obtain rfl : y = .dead := h; exact h'
  | cells sz ro f st k c =>
    obtain ⟨st1, k1, c1, rfl, hk, hc, hl, hm⟩ := h
    obtain ⟨st2, k2, c2, rfl, hk2, hc2, hl2, hm2⟩ := h'
    refine ⟨st2, k2, c2, rfl, Nat.le_trans hk hk2, fun e => ?_, by omega, fun m e => ?_⟩
    · have e1 : k1 = k := by omega
      have e2 : k2 = k1 := by omega
      rw [hc2 e2, hc e1]
    · obtain ⟨e1, e2, e3⟩ := hm m e
      subst e
      obtain ⟨e4, e5, e6⟩ := hm2 m e1
      exact ⟨by rw [e4, e1], by omega, by rw [e6, e3]⟩

/-- How the abstract heap lies in the world. -/
structure HRel (base : Nat) (ι : Lay) (h : AHeap) (w : World) : Prop where
  lt : ∀ b e, ι b = some e → b < h.n
  blk : ∀ b e, ι b = some e → e.block < w.heap.size
  szs : ∀ b e sz ro f st k c, ι b = some e → h.o b = .cells sz ro f st k c → e.sz = sz ∧ c.length ≤ e.cap ∧ (ro = false → base ≤ e.block) ∧ (∀ x ∈ c, isCell x = true)
  val : ∀ b e c i v, ι b = some e → h.rd b = some c → c[i]? = some v → ∃ v', w.cell? ⟨e.block, e.off + i, none⟩ = some v' ∧ VRel ι v v'
  room : ∀ b e sz f st k c i, ι b = some e → h.o b = .cells sz false f st k c → i < e.cap → (∃ v, w.cell? ⟨e.block, e.off + i, none⟩ = some v) ∧ w.frozen? ⟨e.block, e.off + i, none⟩ = false
  apart : ∀ b1 e1 b2 e2 sz1 ro1 f1 st1 k1 c1 sz2 f2 st2 k2 c2, ι b1 = some e1 → ι b2 = some e2 → h.o b1 = .cells sz1 ro1 f1 st1 k1 c1 → h.o b2 = .cells sz2 false f2 st2 k2 c2 →
    f1 ≠ f2 → e1.block = e2.block → e1.off + e1.cap ≤ e2.off ∨ e2.off + e2.cap ≤ e1.off
  link : ∀ b1 e1 b2 e2 f sz1 ro1 st1 k1 c1 sz2 ro2 st2 k2 c2, ι b1 = some e1 → ι b2 = some e2 → h.o b1 = .cells sz1 ro1 f st1 k1 c1 → h.o b2 = .cells sz2 ro2 f st2 k2 c2 →
    b1 < b2 → e1.block = e2.block → e1.off + c1.length ≤ e2.off + c2.length
  wf : ∀ b sz ro f m k c, h.o b = .cells sz ro f (some m) k c → m < h.n ∧ ∃ sz' ro' st' k' c', h.o m = .cells sz' ro' f st' k' c'
  fam : ∀ b sz ro f st k c, h.o b = .cells sz ro f st k c → f ≤ b
  uniq : ∀ y z f sz1 ro1 st1 k1 c1 sz2 ro2 k2 c2, h.o y = .cells sz1 ro1 f st1 k1 c1 → h.o z = .cells sz2 ro2 f none k2 c2 → y ≤ z
  out : ∀ b, h.n ≤ b → h.o b = .dead

/-- What a step leaves alone. -/
structure KeepsBy (U : AObj → AObj → Nat → Prop) (ι : Lay) (h h' : AHeap) (w w' : World) : Prop where
  os : w'.os = w.os
  tape : w'.tape = w.tape
  output : w'.output = w.output
  size : w.heap.size ≤ w'.heap.size
  block : ∀ B, B < w.heap.size → (∀ b e, ι b = some e → e.block = B → h'.o b = h.o b) → w'.heap[B]? = w.heap[B]?
  cell : ∀ B off v, w.cell? ⟨B, off, none⟩ = some v → (∀ b e, ι b = some e → e.block = B → e.off ≤ off → off < e.off + e.cap → U (h.o b) (h'.o b) (off - e.off)) → w'.cell? ⟨B, off, none⟩ = some v
  there : ∀ B off v, w.cell? ⟨B, off, none⟩ = some v → (∃ v', w'.cell? ⟨B, off, none⟩ = some v') ∧ w'.frozen? ⟨B, off, none⟩ = w.frozen? ⟨B, off, none⟩

abbrev Keeps := KeepsBy Untouched
abbrev Keep0 := KeepsBy fun x y _ => y = x

/-- The layout behind a step: what was there lies as it did; what is new lies in new blocks, or in the room of what has been appended to. -/
structure More (base : Nat) (ι ι' : Lay) (h h' : AHeap) (w : World) : Prop where
  old : ∀ b, b < h.n → ι' b = ι b
  new : ∀ b e, h.n ≤ b → ι' b = some e → w.heap.size ≤ e.block ∨ ∃ b0 e0 sz ro f st k c, ι b0 = some e0 ∧ h'.o b0 ≠ h.o b0 ∧ e.block = e0.block ∧ e0.off ≤ e.off ∧ e.off + e.cap ≤ e0.off + e0.cap ∧
    h.o b0 = .cells sz ro f st k c ∧ ∃ sz' ro' st' k' c', h'.o b = .cells sz' ro' f st' k' c'
  famn : ∀ b sz ro f st k c, h.n ≤ b → h'.o b = .cells sz ro f st k c → h.n ≤ f ∨ ∃ b0 e0 sz0 ro0 st0 k0 c0, ι b0 = some e0 ∧ h.o b0 = .cells sz0 ro0 f st0 k0 c0 ∧ h'.o b0 ≠ h.o b0
  full : ∀ b, h.n ≤ b → b < h'.n → ∃ e, ι' b = some e
  evo : ∀ b, b < h.n → Evo (h.o b) (h'.o b)
  grow : h.n ≤ h'.n

theorem VRel.mono {ι ι' : Lay} (h : ∀ b e, ι b = some e → ι' b = some e) {v v' : Value} (r : VRel ι v v') : VRel ι' v v' := by
  induction r with
  | atom h1 => exact .atom h1
  | ptr h1 => exact .ptr (h _ _ h1)
  | slice h1 h2 h3 => exact .slice (h _ _ h1) h2 h3
  | slice0 h1 => exact .slice0 (h _ _ h1)
  | agg h1 _ ih => exact .agg h1 fun i v v' a b => ih i v v' a b
  | tuple h1 _ ih => exact .tuple h1 fun i v v' a b => ih i v v' a b
  | func h1 _ h2 _ ih1 ih2 => exact .func h1 (fun i v v' a b => ih1 i v v' a b) h2 (fun i v v' a b => ih2 i v v' a b)
  | iface _ ih => exact .iface ih

theorem VRel.plain {ι : Lay} {v v' : Value} (r : VRel ι v v') (h : plain1 v = true) : v' = v := by
  cases r <;> first | rfl | simp [plain1] at h

theorem VRel.cellOf {ι : Lay} {v v' : Value} (r : VRel ι v v') (h : isCell v = true) : isCell v' = true := by
  cases r <;> first | exact h | rfl | simp [isCell] at h

theorem VRel.undef {ι : Lay} : VRel ι Go.undef Go.undef := .tuple rfl fun i v v' a _ => by simp at a

theorem VRel.const {ι : Lay} {v : Value} (h : plainC v = true) : VRel ι v v := by
  cases v with
  | agg cs =>
    refine .agg rfl fun i v v' a b => ?_
    obtain rfl := Option.some.inj (a.symm.trans b)
    exact .atom (Array.all_eq_true_iff_forall_mem.1 h v (Array.mem_of_getElem? a))
  | tuple cs =>
    refine .tuple rfl fun i v v' a b => ?_
    obtain rfl := Option.some.inj (a.symm.trans b)
    exact .atom (Array.all_eq_true_iff_forall_mem.1 h v (Array.mem_of_getElem? a))
  | _ => exact .atom h

end Go.Proofs.Ytjmklialkjncaaa.Eng
