/- From a contract over abstract memory to the call in the world: rows that came in. Own work; no condition. -/
import Derived.Test.YtjmklialkjncaaaEngR3
import Derived.WalkKit
import Derived.ProofKit
import Derived.OpenShut
import Derived.ShutString
import Derived.ChangeOld
import Derived.Below
import Derived.SizedLaws
import Derived.ChangeSlices
import Derived.Carry
set_option linter.unusedVariables false
set_option linter.unusedSimpArgs false
namespace Go.Proofs.Ytjmklialkjncaaa.Eng
open Go.ChangeShapes Go.WideShapes Go.RowKit

variable {P : Program}

/-- A row of whole numbers that came in. -/
structure Inp where
  k : IntKind
  x : Option Addr
  len : Nat
  cap : Nat
  zs : List Int

structure InpOk (w : World) (n : Inp) : Prop where
  nil : n.x = none → n.len = 0 ∧ n.cap = 0 ∧ n.zs = []
  row : ∀ x, n.x = some x → x.spot = none ∧ x.block < w.heap.size ∧ n.len ≤ n.cap ∧ n.zs.length = n.len ∧ ∀ (i : Nat) z, n.zs[i]? = some z → w.cell? (x.add i) = some (.int n.k z)

def Inp.cs (n : Inp) : List Value := n.zs.map (Value.int n.k)
def Inp.obj (i : Nat) (n : Inp) : AObj := match n.x with
  | none => .dead
  | some _ => .cells 1 true i none 0 n.cs
def Inp.lay (n : Inp) : Option Ext := n.x.map fun x => ⟨x.block, x.off, n.cap, 1⟩
def heapIn (ins : List Inp) : AHeap := ⟨ins.length, fun b => match ins[b]? with
  | some n => n.obj b
  | none => .dead⟩
def layIn (ins : List Inp) : Lay := fun b => (ins[b]?).bind Inp.lay
def Inp.val (i : Nat) (n : Inp) : Value := .slice (n.x.map fun _ => ⟨i, 0, none⟩) n.len n.cap
def Inp.real (n : Inp) : Value := .slice n.x n.len n.cap

theorem heapIn_cells {ins : List Inp} {b sz ro f st k c} (h : (heapIn ins).o b = .cells sz ro f st k c) : ∃ n x, ins[b]? = some n ∧ n.x = some x ∧ sz = 1 ∧ ro = true ∧ f = b ∧ st = none ∧ k = 0 ∧ c = n.cs := by
  have h' : (match ins[b]? with | some n => n.obj b | none => AObj.dead) = .cells sz ro f st k c := h
  cases hn : ins[b]? with
  | none => rw [hn] at h'; cases h'
  | some n =>
    rw [hn] at h'
    simp only [Inp.obj] at h'
    cases hx : n.x with
    | none => rw [hx] at h'; cases h'
    | some x =>
      rw [hx] at h'
      simp only [AObj.cells.injEq] at h'
      obtain ⟨h1, h2, h3, h4, h5, h6⟩ := h'
      exact ⟨n, x, rfl, hx, h1.symm, h2.symm, h3.symm, h4.symm, h5.symm, h6.symm⟩

theorem layIn_some {ins : List Inp} {b : Nat} {e : Ext} (h : layIn ins b = some e) : ∃ n x, ins[b]? = some n ∧ n.x = some x ∧ e = ⟨x.block, x.off, n.cap, 1⟩ := by
  unfold layIn Inp.lay at h
  cases hn : ins[b]? with
  | none => rw [hn] at h; cases h
  | some n =>
    rw [hn] at h
    simp only [Option.bind_some] at h
    cases hx : n.x with
    | none => rw [hx] at h; cases h
    | some x => rw [hx] at h; exact ⟨n, x, rfl, hx, (Option.some.inj h).symm⟩

theorem heapIn_wf (ins : List Inp) : WF (heapIn ins) := by
  refine ⟨fun b sz ro f m k c h => ?_, fun b sz ro f st k c h => ?_, fun y z f sz1 ro1 st1 k1 c1 sz2 ro2 k2 c2 h1 h2 => ?_, fun b hb => ?_⟩
  · obtain ⟨n, x, _, _, _, _, _, e, _⟩ := heapIn_cells h
    cases e
  · obtain ⟨n, x, _, _, _, _, e, _⟩ := heapIn_cells h
    exact Nat.le_of_eq e
  · obtain ⟨n, x, _, _, _, _, e, _⟩ := heapIn_cells h1
    obtain ⟨n', x', _, _, _, _, e', _⟩ := heapIn_cells h2
    exact Nat.le_of_eq (e.symm.trans e')
  · show (match ins[b]? with | some n => n.obj b | none => AObj.dead) = .dead
    rw [List.getElem?_eq_none hb]

theorem heapIn_rel {ins : List Inp} {w : World} (hok : ∀ n ∈ ins, InpOk w n) : HRel w.heap.size (layIn ins) (heapIn ins) w := by
  have hin : ∀ {b n}, ins[b]? = some n → InpOk w n := fun h => hok _ (List.mem_of_getElem? h)
  have hw := heapIn_wf ins
  refine ⟨fun b e h => ?_, fun b e h => ?_, fun b e sz ro f st k c h ho => ?_, fun b e c i v h hc hv => ?_, fun b e sz f st k c i h ho => ?_, fun b1 e1 b2 e2 sz1 ro1 f1 st1 k1 c1 sz2 f2 st2 k2 c2 _ _ _ ho => ?_, fun b1 e1 b2 e2 f sz1 ro1 st1 k1 c1 sz2 ro2 st2 k2 c2 _ _ o1 o2 hlt => ?_, hw.wf, hw.fam, hw.uniq, hw.out⟩
  · obtain ⟨n, x, hn, _⟩ := layIn_some h
    exact (List.getElem?_eq_some_iff.1 hn).1
  · obtain ⟨n, x, hn, hx, rfl⟩ := layIn_some h
    exact ((hin hn).row x hx).2.1
  · obtain ⟨n, x, hn, hx, rfl⟩ := layIn_some h
    obtain ⟨n', x', hn', hx', rfl, rfl, _, _, _, rfl⟩ := heapIn_cells ho
    rw [hn] at hn'
    obtain rfl := Option.some.inj hn'
    obtain ⟨r1, r2, r3, r4, r5⟩ := (hin hn).row x hx
    refine ⟨rfl, ?_, (fun q => nomatch q), fun y hy => ?_⟩
    · show n.cs.length ≤ n.cap
      unfold Inp.cs
      rw [List.length_map]
      omega
    · obtain ⟨z, _, rfl⟩ := List.mem_map.1 hy
      rfl
  · obtain ⟨n, x, hn, hx, rfl⟩ := layIn_some h
    obtain ⟨r1, r2, r3, r4, r5⟩ := (hin hn).row x hx
    have ho : (heapIn ins).o b = .cells 1 true b none 0 n.cs := by
      show (match ins[b]? with | some n => n.obj b | none => AObj.dead) = _
      rw [hn]
      simp only [Inp.obj, hx]
    unfold AHeap.rd at hc
    rw [ho] at hc
    obtain rfl := Option.some.inj hc
    unfold Inp.cs at hv
    rw [List.getElem?_map] at hv
    obtain ⟨z, hz, rfl⟩ := Option.map_eq_some_iff.1 hv
    refine ⟨_, ?_, .atom rfl⟩
    have := r5 i z hz
    rw [← this]
    congr 1
    obtain ⟨B, o, sp⟩ := x
    simp only at r1
    subst r1
    exact (addr_add B o i).symm
  · obtain ⟨_, _, _, _, _, e, _⟩ := heapIn_cells ho
    cases e
  · obtain ⟨_, _, _, _, _, e, _⟩ := heapIn_cells ho
    cases e
  · obtain ⟨_, _, _, _, _, _, e, _⟩ := heapIn_cells o1
    obtain ⟨_, _, _, _, _, _, e', _⟩ := heapIn_cells o2
    omega

def objsFrom : Nat → List Inp → Objs
  | _, [] => []
  | i, n :: r => match n.x with
    | none => objsFrom (i + 1) r
    | some _ => (i, ⟨1, true, n.cs⟩) :: objsFrom (i + 1) r

theorem objsFrom_mem : ∀ {ins : List Inp} {i : Nat} {p : Nat × Ent}, p ∈ objsFrom i ins → ∃ j n x, ins[j]? = some n ∧ n.x = some x ∧ p = (i + j, ⟨1, true, n.cs⟩)
  | n :: r, i, p, h => by
    unfold objsFrom at h
    cases hx : n.x with
    | none =>
      rw [hx] at h
      obtain ⟨j, m, x, h1, h2, h3⟩ := objsFrom_mem h
      exact ⟨j + 1, m, x, h1, h2, by rw [h3]; congr 1; omega⟩
    | some y =>
      rw [hx] at h
      rcases List.mem_cons.1 h with h | h
      · exact ⟨0, n, y, rfl, hx, h⟩
      · obtain ⟨j, m, x, h1, h2, h3⟩ := objsFrom_mem h
        exact ⟨j + 1, m, x, h1, h2, by rw [h3]; congr 1; omega⟩

theorem mem_objsFrom : ∀ {ins : List Inp} {i j : Nat} {n : Inp} {x : Addr}, ins[j]? = some n → n.x = some x → (i + j, (⟨1, true, n.cs⟩ : Ent)) ∈ objsFrom i ins
  | m :: r, i, 0, n, x, h1, h2 => by
    obtain rfl := Option.some.inj h1
    unfold objsFrom
    rw [h2]
    exact List.mem_cons_self ..
  | m :: r, i, j + 1, n, x, h1, h2 => by
    have := mem_objsFrom (i := i + 1) (j := j) (ins := r) h1 h2
    rw [show i + 1 + j = i + (j + 1) by omega] at this
    unfold objsFrom
    cases m.x with
    | none => exact this
    | some y => exact List.mem_cons_of_mem _ this

theorem objsFrom_nodup : ∀ (ins : List Inp) (i : Nat), ((objsFrom i ins).map (·.1)).Nodup
  | [], _ => by simp [objsFrom]
  | n :: r, i => by
    unfold objsFrom
    have ih := objsFrom_nodup r (i + 1)
    cases n.x with
    | none => exact ih
    | some x =>
      rw [List.map_cons, List.nodup_cons]
      refine ⟨fun hm => ?_, ih⟩
      obtain ⟨p, hp, he⟩ := List.mem_map.1 hm
      obtain ⟨j, m, y, _, _, rfl⟩ := objsFrom_mem hp
      simp only at he
      omega

abbrev objsIn (ins : List Inp) : Objs := objsFrom 0 ins

theorem heapIn_sat (ins : List Inp) : Sat (heapIn ins) (objsIn ins) := by
  refine ⟨objsFrom_nodup ins 0, fun p hp => ?_, heapIn_wf ins⟩
  obtain ⟨j, n, x, h1, h2, rfl⟩ := objsFrom_mem hp
  refine ⟨j, 0, ?_⟩
  show (match ins[0 + j]? with | some n => n.obj (0 + j) | none => AObj.dead) = _
  rw [Nat.zero_add, h1]
  simp only [Inp.obj, h2]

theorem src_in {ins : List Inp} {w : World} (hok : ∀ n ∈ ins, InpOk w n) (j : Nat) {n : Inp} (hn : ins[j]? = some n) : Src (objsIn ins) 1 (n.val j) n.len n.cs := by
  have ho := hok n (List.mem_of_getElem? hn)
  unfold Inp.val
  cases hx : n.x with
  | none =>
    obtain ⟨h1, h2, h3⟩ := ho.nil hx
    unfold Inp.cs
    rw [h1, h2, h3]
    exact Src.nil
  | some x =>
    obtain ⟨r1, r2, r3, r4, r5⟩ := ho.row x hx
    have hm := mem_objsFrom (i := 0) hn hx
    rw [Nat.zero_add] at hm
    refine Src.of (y := ⟨1, true, n.cs⟩) (Knows.mem hm) ?_ ?_
    · show 0 + n.len * 1 ≤ n.cs.length
      unfold Inp.cs
      rw [List.length_map]
      omega
    · show (n.cs.drop 0).take (n.len * 1) = n.cs
      rw [List.drop_zero, List.take_of_length_le]
      unfold Inp.cs
      rw [List.length_map]
      omega

theorem val_rel {ins : List Inp} {w : World} (hok : ∀ n ∈ ins, InpOk w n) (j : Nat) {n : Inp} (hn : ins[j]? = some n) : VRel (layIn ins) (n.val j) n.real := by
  have ho := hok n (List.mem_of_getElem? hn)
  unfold Inp.val Inp.real
  cases hx : n.x with
  | none => exact .atom rfl
  | some x =>
    obtain ⟨r1, r2, r3, r4, r5⟩ := ho.row x hx
    have hl : layIn ins j = some ⟨x.block, x.off, n.cap, 1⟩ := by
      unfold layIn Inp.lay
      rw [hn, Option.bind_some, hx]
      rfl
    have := VRel.slice (ι := layIn ins) (b := j) (o := 0) (l := n.len) (c := n.cap) (c' := n.cap) hl r3 (by simp)
    obtain ⟨B, o, sp⟩ := x
    simp only at r1
    subst r1
    exact this

def RelL (ι : Lay) : List Value → List Value → Prop
  | [], [] => True
  | x :: xs, y :: ys => VRel ι x y ∧ RelL ι xs ys
  | _, _ => False

theorem RelL.arr {ι : Lay} : ∀ {xs ys : List Value}, RelL ι xs ys → ARel ι xs.toArray ys.toArray := by
  have key : ∀ {xs ys : List Value}, RelL ι xs ys → ys.length = xs.length ∧ ∀ (i : Nat) x y, xs[i]? = some x → ys[i]? = some y → VRel ι x y := by
    intro xs
    induction xs with
    | nil =>
      intro ys h
      cases ys with
      | nil => exact ⟨rfl, fun i x y hx _ => by simp at hx⟩
      | cons y ys => exact h.elim
    | cons x xs ih =>
      intro ys h
      cases ys with
      | nil => exact h.elim
      | cons y ys =>
        obtain ⟨h1, h2⟩ := h
        obtain ⟨g1, g2⟩ := ih h2
        refine ⟨by simp [g1], fun i a b ha hb => ?_⟩
        cases i with
        | zero =>
          obtain rfl := Option.some.inj ha
          obtain rfl := Option.some.inj hb
          exact h1
        | succ i => exact g2 i a b (by simpa using ha) (by simpa using hb)
  intro xs ys h
  obtain ⟨h1, h2⟩ := key h
  exact ⟨by simpa using h1, fun i x y hx hy => h2 i x y (by simpa using hx) (by simpa using hy)⟩

/-- The call of a law. -/
theorem law_calls (hm : P.follows .mixedOrders = true) {W : World} {ins : List Inp} (hok : ∀ n ∈ ins, InpOk W n) {f : FuncId} {args args' : List Value} (hs : Spec P false f args.toArray (objsIn ins) fun v _ => v = .bool true)
    (ha : RelL (layIn ins) args args') : Calls P f args'.toArray W fun e W' => e = .returned (.bool true) ∧ Below W.heap.size W W' := by
  obtain ⟨v, h', O', b1, rfl, s', _⟩ := hs (heapIn ins) (heapIn_sat ins)
  refine (call_sound hm b1 W.heap.size (layIn ins) W args'.toArray (heapIn_rel hok) (Nat.le_refl _) ha.arr).mono fun e w' ⟨ι', v', e1, m, vr, hr, k⟩ => ?_
  have hst : Stay (heapIn ins) h' := stayJ b1
  refine ⟨by rw [e1, vr.plain rfl], ⟨k.os, k.tape, k.output, k.size, fun B hB => k.block B hB fun b e hb _ => ?_⟩⟩
  obtain ⟨n, x, hn, hx, _⟩ := layIn_some hb
  refine hst.2 b (List.getElem?_eq_some_iff.1 hn).1 ?_
  show isRo (match ins[b]? with | some n => n.obj b | none => AObj.dead) = true
  rw [hn]
  simp only [Inp.obj, hx]
  rfl

/-- A row of whole numbers that came in, out of what is told of the arguments. -/
theorem inp_of {H : Type} {enc : TypeId × Value → H} {W : World} {base b0 : Nat} {held : Bool} {t e : TypeId} {k : IntKind} {a : Option Addr} {len cap : Nat} {d : DataW H} {ps : List MemPlace}
    (hu : P.underlying t = some (.slice e)) (he : P.underlying e = some (.int k)) (hc : P.cellsOf e = 1) (hv : Value.okWide P W .any b0 t (.slice a len cap)) (h : DataW.Trod enc P W base (fun _ => true) held t (.slice a len cap) d ps) :
    ∃ zs : List Int, InpOk W ⟨k, a, len, cap, zs⟩ ∧ zs.length = len ∧ ∀ n ∈ zs, (Lit.int k n).wf = true := by
  obtain ⟨fuel, hf⟩ := h
  rcases open_ints hu he hc hf with ⟨hcs, _⟩ | ⟨x, l, c, zs, hcs, _, hl, hm, hz, _, hcell, hwz⟩
  · simp [Value.cells] at hcs
    obtain ⟨rfl, rfl, rfl⟩ := hcs
    exact ⟨[], ⟨fun _ => ⟨rfl, rfl, rfl⟩, fun x hx => (by cases hx)⟩, rfl, fun n hn => by simp at hn⟩
  · simp [Value.cells] at hcs
    obtain ⟨rfl, rfl, rfl⟩ := hcs
    have hz' : zs.length = cap := by simpa using hz
    have hhas : len ≤ cap ∧ (cap : Int) ≤ IntKind.i64.max ∧ W.has P .any b0 x e cap := by
      simpa only [Value.okWide, hu, Cell.okWide, Cell.ok] using hv
    obtain ⟨_, _, _, hsp, row, cells, hsh, _⟩ := hhas
    have hblk : x.block < W.heap.size := by
      unfold World.shape? at hsh
      split at hsh
      · rename_i q
        exact (Array.getElem?_eq_some_iff.1 q).1
      · cases hsh
    refine ⟨zs.take len, ⟨fun q => (by cases q), fun y hy => ?_⟩, by rw [List.length_take]; omega, fun n hn => hwz n (List.mem_of_mem_take hn)⟩
    obtain rfl := Option.some.inj hy
    refine ⟨hsp, hblk, hl, by show (zs.take len).length = len; rw [List.length_take]; omega, fun i z hiz => ?_⟩
    simp only at hiz
    rw [List.getElem?_take] at hiz
    split at hiz
    · have hi := (List.getElem?_eq_some_iff.1 hiz).1
      have := hcell i hi
      rw [this, List.getD_eq_getElem?_getD, hiz]
      rfl
    · cases hiz

theorem sized_in {H : Type} {enc : TypeId × Value → H} {W : World} {base : Nat} {spare : Nat → Bool} {held : Bool} {t e : TypeId} {k : IntKind} {a : Option Addr} {len cap : Nat} {d : DataW H} {ps : List MemPlace} {ts : List TypeId} {ds : List (DataW H)} {j : Nat}
    (hsz : (DataW.weightsEach P ts ds).all (· ≤ reachBytes) = true) (ht : ts[j]? = some t) (hd : ds[j]? = some d) (hu : P.underlying t = some (.slice e)) (he : P.underlying e = some (.int k)) (hc : P.cellsOf e = 1) {B : Nat} (hB : P.bytesOf e = B)
    (h : DataW.Trod enc P W base spare held t (.slice a len cap) d ps) : len * B ≤ 140737488351232 := by
  obtain ⟨fuel, hf⟩ := h
  rcases open_ints hu he hc hf with ⟨hcs, _⟩ | ⟨x, l, c, zs, hcs, _, hl, _, hz, hx, _, _⟩
  · simp [Value.cells] at hcs
    obtain ⟨rfl, rfl, rfl⟩ := hcs
    simp
  · simp [Value.cells] at hcs
    obtain ⟨rfl, rfl, rfl⟩ := hcs
    obtain ⟨hx, _⟩ := Prod.mk.inj hx
    subst hx
    have z := sized_slice hsz ht hd hu
    rw [hB] at z
    have hl2 : len ≤ zs.length := by
      rw [hz]
      split
      · exact hl
      · exact Nat.le_refl _
    have h1 : (lits (H := H) k (zs.take len)).length + (lits (H := H) k (zs.drop len)).length = zs.length := by
      simp [lits]
      omega
    rw [h1] at z
    exact Nat.le_trans (Nat.mul_le_mul_right _ hl2) z

theorem wf64 {n : Int} (h : (Lit.int .i64 n).wf = true) : -9223372036854775808 ≤ n ∧ n ≤ 9223372036854775807 := by
  simp only [Lit.wf, Bool.and_eq_true, decide_eq_true_eq] at h
  exact h

theorem wf8 {n : Int} (h : (Lit.int .u8 n).wf = true) : 0 ≤ n ∧ n ≤ 255 := by
  simp only [Lit.wf, Bool.and_eq_true, decide_eq_true_eq] at h
  exact h

end Go.Proofs.Ytjmklialkjncaaa.Eng
