/- From a contract over abstract memory to the call in the world: rows that came in. | The library's sort, its collecting of an iterator's values, and the iterator of a map's keys, at this program's numbers. Own work, printed by a program of this work; no condition. | Loops over functions: the rules. | Bytes, strings and unsigned numbers: the rules. | Maps, fields of values, deferred calls, functions shown by hand: the rules. | Loops over maps, in functions that are shown by hand: whatever comes next, the round is the abstract machine's. | What this program's types are to the abstract machine. Printed by a program of this work; no condition. | What a disk uses: the sum over its files, in whatever order they come. | All bytes of a disk's files become durable, in whatever order. | The small functions of the house. | Zigzag and varints. | Varints written, by the reference and by the program. | The writer, walked. | The rest of the writer, walked. | Copies; the writer's bytes. | Words of bytes, in plain lists. | Words of bytes: the iterator, walked. | The words' closure. | Words of a string: the iterator, walked. | The hash. | The hash of bytes. | Frames, written by the program. | The reader's beginnings. | The reader's next byte. | The reader's numbers, in plain lists. | A varint is read as its number. | The reader's numbers, walked. | Records, read in plain lists. | The reader's byte slices, walked. Own work; no condition. -/
import Derived.Test.YthekokdpplobhaaGreatJournalRunsM1
import Derived.Test.YthekokdpplobhaaGreatJournalRunsM2
import Derived.WalkKit
import Derived.ProofKit
import Derived.OpenShut
import Derived.ShutString
import Derived.ChangeOld
import Derived.Below
import Derived.SizedLaws
import Derived.ChangeSlices
import Derived.Carry
import Derived.Shelf.SlIterI.Sorted
import Derived.Shelf.SortM.Plain
import Derived.Shelf.SortM.SortNone
import Derived.Test.YthekokdpplobhaaGreatChecked
import Derived.Laws.Strings
import Derived.Maps.RangeRun
set_option linter.unusedVariables false
set_option linter.unusedSimpArgs false
namespace Go.Proofs.YthekokdpplobhaaGreat.Eng
open Go.ChangeShapes Go.WideShapes Go.RowKit
variable {P : Program}
structure iC where
 k : IntKind
 x : Option Addr
 len : Nat
 cap : Nat
 zs : List Int
structure pf (w : World) (n : iC) : Prop where
 nil : n.x = none → n.len = 0 ∧ n.cap = 0 ∧ n.zs = []
 row : ∀ x, n.x = some x → x.spot = none ∧ x.block < w.heap.size ∧ n.len ≤ n.cap ∧ n.zs.length = n.len ∧ ∀ (i : Nat) z, n.zs[i]? = some z → w.cell? (x.add i) = some (.int n.k z)
def iC.cs (n : iC) : List Value := n.zs.map (Value.int n.k)
def iC.obj (i : Nat) (n : iC) : ep := match n.x with
 | none => .dead
 | some _ => .cells 1 true i none 0 n.cs
def iC.lay (n : iC) : Option Ext := n.x.map fun x => ⟨x.block, x.off, n.cap, 1, false⟩
def lB (ins : List iC) : ai := ⟨ins.length, fun b => match ins[b]? with
 | some n => n.obj b
 | none => .dead⟩
def l7 (ins : List iC) : Lay := fun b => (ins[b]?).bind iC.lay
def iC.val (i : Nat) (n : iC) : Value := .slice (n.x.map fun _ => ⟨i, 0, none⟩) n.len n.cap
def iC.real (n : iC) : Value := .slice n.x n.len n.cap
theorem dw {ins : List iC} {b sz ro f st k c} (h : (lB ins).o b = .cells sz ro f st k c) : ∃ n x, ins[b]? = some n ∧ n.x = some x ∧ sz = 1 ∧ ro = true ∧ f = b ∧ st = none ∧ k = 0 ∧ c = n.cs := by
 have h' : (match ins[b]? with | some n => n.obj b | none => ep.dead) = .cells sz ro f st k c := h
 cases hn : ins[b]? with
 | none => rw [hn] at h'; cases h'
 | some n =>
  rw [hn] at h'
  simp only [iC.obj] at h'
  cases hx : n.x with
  | none => rw [hx] at h'; cases h'
  | some x =>
   rw [hx] at h'
   simp only [ep.cells.injEq] at h'
   obtain ⟨h1, h2, h3, h4, h5, h6⟩ := h'
   exact ⟨n, x, rfl, hx, h1.symm, h2.symm, h3.symm, h4.symm, h5.symm, h6.symm⟩
theorem ga {ins : List iC} {b : Nat} {e : Ext} (h : l7 ins b = some e) : ∃ n x, ins[b]? = some n ∧ n.x = some x ∧ e = ⟨x.block, x.off, n.cap, 1, false⟩ := by
 unfold l7 iC.lay at h
 cases hn : ins[b]? with
 | none => rw [hn] at h; cases h
 | some n =>
  rw [hn] at h
  simp only [Option.bind_some] at h
  cases hx : n.x with
  | none => rw [hx] at h; cases h
  | some x => rw [hx] at h; exact ⟨n, x, rfl, hx, (Option.some.inj h).symm⟩
theorem pb (ins : List iC) : WF (lB ins) := by
 refine ⟨fun b sz ro f m k c h => ?_, fun b sz ro f st k c h => ?_, fun y z f bP ro1 st1 k1 c1 fk ro2 k2 c2 h1 h2 => ?_, fun b hb => ?_⟩
 · obtain ⟨n, x, _, _, _, _, _, e, _⟩ := dw h
   cases e
 · obtain ⟨n, x, _, _, _, _, e, _⟩ := dw h
   exact Nat.le_of_eq e
 · obtain ⟨n, x, _, _, _, _, e, _⟩ := dw h1
   obtain ⟨n', x', _, _, _, _, e', _⟩ := dw h2
   exact fun _ => Nat.le_of_eq (e.symm.trans e')
 · show (match ins[b]? with | some n => n.obj b | none => ep.dead) = .dead
   rw [List.getElem?_eq_none hb]
theorem sf {ins : List iC} {w : World} (hok : ∀ n ∈ ins, pf w n) : bn w.heap.size (l7 ins) (lB ins) w := by
 have hin : ∀ {b n}, ins[b]? = some n → pf w n := fun h => hok _ (List.mem_of_getElem? h)
 have hw := pb ins
 refine ⟨fun b e h => ?_, fun b e h => ?_, fun b e sz ro f st k c h ho => ?_, fun b e c i v h _ hc hv => ?_, fun b e sz f st k c i h ho => ?_, fun b1 e1 b2 e2 bP ro1 f1 st1 k1 c1 fk f2 st2 k2 c2 _ _ _ ho => ?_, fun b1 e1 b2 e2 f bP ro1 st1 k1 c1 fk ro2 st2 k2 c2 _ _ o1 o2 hlt => ?_, hw.wf, hw.jw, hw.uniq, hw.out, fun b e sz ro f st k c h hmp _ => by
  obtain ⟨n, x, hn, hx, rfl⟩ := ga h
  cases hmp⟩
 · obtain ⟨n, x, hn, _⟩ := ga h
   exact (List.getElem?_eq_some_iff.1 hn).1
 · obtain ⟨n, x, hn, hx, rfl⟩ := ga h
   exact ((hin hn).row x hx).2.1
 · obtain ⟨n, x, hn, hx, rfl⟩ := ga h
   obtain ⟨n', x', hn', hx', rfl, rfl, _, _, _, rfl⟩ := dw ho
   rw [hn] at hn'
   obtain rfl := Option.some.inj hn'
   obtain ⟨r1, r2, r3, r4, r5⟩ := (hin hn).row x hx
   refine ⟨rfl, fun _ => ?_, (fun q => nomatch q), fun _ y hy => ?_⟩
   · show n.cs.length ≤ n.cap
     unfold iC.cs
     rw [List.length_map]
     omega
   · obtain ⟨z, _, rfl⟩ := List.mem_map.1 hy
     rfl
 · obtain ⟨n, x, hn, hx, rfl⟩ := ga h
   obtain ⟨r1, r2, r3, r4, r5⟩ := (hin hn).row x hx
   have ho : (lB ins).o b = .cells 1 true b none 0 n.cs := by
    show (match ins[b]? with | some n => n.obj b | none => ep.dead) = _
    rw [hn]
    simp only [iC.obj, hx]
   unfold ai.rd at hc
   rw [ho] at hc
   obtain rfl := Option.some.inj hc
   unfold iC.cs at hv
   rw [List.getElem?_map] at hv
   obtain ⟨z, hz, rfl⟩ := Option.map_eq_some_iff.1 hv
   refine ⟨_, ?_, .atom rfl⟩
   have := r5 i z hz
   rw [← this]
   congr 1
   obtain ⟨B, o, sp⟩ := x
   simp only at r1
   subst r1
   exact (fR B o i).symm
 · obtain ⟨_, _, _, _, _, e, _⟩ := dw ho
   cases e
 · obtain ⟨_, _, _, _, _, e, _⟩ := dw ho
   cases e
 · obtain ⟨_, _, _, _, _, _, e, _⟩ := dw o1
   obtain ⟨_, _, _, _, _, _, e', _⟩ := dw o2
   omega
def eO : Nat → List iC → an
 | _, [] => []
 | i, n :: r => match n.x with
   | none => eO (i + 1) r
   | some _ => (i, ⟨1, true, n.cs⟩) :: eO (i + 1) r
theorem gT : ∀ {ins : List iC} {i : Nat} {p : Nat × gl}, p ∈ eO i ins → ∃ j n x, ins[j]? = some n ∧ n.x = some x ∧ p = (i + j, ⟨1, true, n.cs⟩)
 | n :: r, i, p, h => by
  unfold eO at h
  cases hx : n.x with
  | none =>
   rw [hx] at h
   obtain ⟨j, m, x, h1, h2, h3⟩ := gT h
   exact ⟨j + 1, m, x, h1, h2, by rw [h3]; congr 1; omega⟩
  | some y =>
   rw [hx] at h
   rcases List.mem_cons.1 h with h | h
   · exact ⟨0, n, y, rfl, hx, h⟩
   · obtain ⟨j, m, x, h1, h2, h3⟩ := gT h
     exact ⟨j + 1, m, x, h1, h2, by rw [h3]; congr 1; omega⟩
theorem mi : ∀ {ins : List iC} {i j : Nat} {n : iC} {x : Addr}, ins[j]? = some n → n.x = some x → (i + j, (⟨1, true, n.cs⟩ : gl)) ∈ eO i ins
 | m :: r, i, 0, n, x, h1, h2 => by
  obtain rfl := Option.some.inj h1
  unfold eO
  rw [h2]
  exact List.mem_cons_self ..
 | m :: r, i, j + 1, n, x, h1, h2 => by
  have := mi (i := i + 1) (j := j) (ins := r) h1 h2
  rw [show i + 1 + j = i + (j + 1) by omega] at this
  unfold eO
  cases m.x with
  | none => exact this
  | some y => exact List.mem_cons_of_mem _ this
theorem j0 : ∀ (ins : List iC) (i : Nat), ((eO i ins).map (·.1)).Nodup
 | [], _ => by simp [eO]
 | n :: r, i => by
  unfold eO
  have ih := j0 r (i + 1)
  cases n.x with
  | none => exact ih
  | some x =>
   rw [List.map_cons, List.nodup_cons]
   refine ⟨fun hm => ?_, ih⟩
   obtain ⟨p, hp, he⟩ := List.mem_map.1 hm
   obtain ⟨j, m, y, _, _, rfl⟩ := gT hp
   simp only at he
   omega
abbrev rN (ins : List iC) : an := eO 0 ins
theorem sJ (ins : List iC) : Sat (lB ins) (rN ins) := by
 refine ⟨j0 ins 0, fun p hp => ?_, pb ins⟩
 obtain ⟨j, n, x, h1, h2, rfl⟩ := gT hp
 refine ⟨j, 0, ?_⟩
 show (match ins[0 + j]? with | some n => n.obj (0 + j) | none => ep.dead) = _
 rw [Nat.zero_add, h1]
 simp only [iC.obj, h2]
theorem y7 {ins : List iC} {w : World} (hok : ∀ n ∈ ins, pf w n) (j : Nat) {n : iC} (hn : ins[j]? = some n) : Src (rN ins) 1 (n.val j) n.len n.cs := by
 have ho := hok n (List.mem_of_getElem? hn)
 unfold iC.val
 cases hx : n.x with
 | none =>
  obtain ⟨h1, h2, h3⟩ := ho.nil hx
  unfold iC.cs
  rw [h1, h2, h3]
  exact Src.nil
 | some x =>
  obtain ⟨r1, r2, r3, r4, r5⟩ := ho.row x hx
  have hm := mi (i := 0) hn hx
  rw [Nat.zero_add] at hm
  refine Src.of (y := ⟨1, true, n.cs⟩) (aU.mem hm) ?_ ?_
  · show 0 + n.len * 1 ≤ n.cs.length
    unfold iC.cs
    rw [List.length_map]
    omega
  · show (n.cs.drop 0).take (n.len * 1) = n.cs
    rw [List.drop_zero, List.take_of_length_le]
    unfold iC.cs
    rw [List.length_map]
    omega
theorem yR {ins : List iC} {w : World} (hok : ∀ n ∈ ins, pf w n) (j : Nat) {n : iC} (hn : ins[j]? = some n) : aP (l7 ins) (n.val j) n.real := by
 have ho := hok n (List.mem_of_getElem? hn)
 unfold iC.val iC.real
 cases hx : n.x with
 | none => exact .atom rfl
 | some x =>
  obtain ⟨r1, r2, r3, r4, r5⟩ := ho.row x hx
  have hl : l7 ins j = some ⟨x.block, x.off, n.cap, 1, false⟩ := by
   unfold l7 iC.lay
   rw [hn, Option.bind_some, hx]
   rfl
  have := aP.slice (ι := l7 ins) (b := j) (o := 0) (l := n.len) (c := n.cap) (c' := n.cap) hl rfl r3 (by simp)
  obtain ⟨B, o, sp⟩ := x
  simp only at r1
  subst r1
  exact this
def vE (ι : Lay) : List Value → List Value → Prop
 | [], [] => True
 | x :: xs, y :: ys => aP ι x y ∧ vE ι xs ys
 | _, _ => False
theorem vE.arr {ι : Lay} : ∀ {xs ys : List Value}, vE ι xs ys → fS ι xs.toArray ys.toArray := by
 have key : ∀ {xs ys : List Value}, vE ι xs ys → ys.length = xs.length ∧ ∀ (i : Nat) x y, xs[i]? = some x → ys[i]? = some y → aP ι x y := by
  intro xs
  induction xs with
  | nil =>
   intro ys h
   cases ys with
   | nil => exact ⟨rfl, fun i x y hx _ => by simp at hx⟩
   | cons y ys => exact h.elim
  | cons x xs ih =>
   intro ys h
   cases ys with
   | nil => exact h.elim
   | cons y ys =>
    obtain ⟨h1, h2⟩ := h
    obtain ⟨g1, g2⟩ := ih h2
    refine ⟨by simp [g1], fun i a b ha hb => ?_⟩
    cases i with
    | zero =>
     obtain rfl := Option.some.inj ha
     obtain rfl := Option.some.inj hb
     exact h1
    | succ i => exact g2 i a b (by simpa using ha) (by simpa using hb)
 intro xs ys h
 obtain ⟨h1, h2⟩ := key h
 exact ⟨by simpa using h1, fun i x y hx hy => h2 i x y (by simpa using hx) (by simpa using hy)⟩
theorem yo (hm : P.follows .mixedOrders = true) {W : World} {ins : List iC} (hok : ∀ n ∈ ins, pf W n) {f : FuncId} {args args' : List Value} (hs : Spec P false f args.toArray (rN ins) fun v _ => v = .bool true)
  (ha : vE (l7 ins) args args') : Calls P f args'.toArray W fun e W' => e = .returned (.bool true) ∧ Below W.heap.size W W' := by
 obtain ⟨v, h', O', b1, rfl, s', _⟩ := hs (lB ins) (sJ ins)
 refine (sA hm b1 W.heap.size (l7 ins) W args'.toArray (sf hok) (Nat.le_refl _) db.none ha.arr).mono fun e w' ⟨ι', v', e1, m, vr, hr, k⟩ => ?_
 have hst : dC (lB ins) h' := fo b1
 refine ⟨by rw [e1, vr.plain rfl], ⟨k.os, k.tape, k.output, k.size, fun B hB => k.block B hB fun b e hb _ => .inl ?_⟩⟩
 obtain ⟨n, x, hn, hx, _⟩ := ga hb
 refine hst.2 b (List.getElem?_eq_some_iff.1 hn).1 ?_
 show p6 (match ins[b]? with | some n => n.obj b | none => ep.dead) = true
 rw [hn]
 simp only [iC.obj, hx]
 rfl
theorem y6 {H : Type} {enc : TypeId × Value → H} {W : World} {base b0 : Nat} {held : Bool} {t e : TypeId} {k : IntKind} {a : Option Addr} {len cap : Nat} {d : DataW H} {ps : List MemPlace}
  (hu : P.underlying t = some (.slice e)) (he : P.underlying e = some (.int k)) (hc : P.cellsOf e = 1) (hv : Value.okWide P W .any b0 t (.slice a len cap)) (h : DataW.Trod enc P W base (fun _ => true) held t (.slice a len cap) d ps) :
  ∃ zs : List Int, pf W ⟨k, a, len, cap, zs⟩ ∧ zs.length = len ∧ ∀ n ∈ zs, (Lit.int k n).wf = true := by
 obtain ⟨fuel, hf⟩ := h
 rcases open_ints hu he hc hf with ⟨hcs, _⟩ | ⟨x, l, c, zs, hcs, _, hl, hm, hz, _, hcell, hwz⟩
 · simp [Value.cells] at hcs
   obtain ⟨rfl, rfl, rfl⟩ := hcs
   exact ⟨[], ⟨fun _ => ⟨rfl, rfl, rfl⟩, fun x hx => (by cases hx)⟩, rfl, fun n hn => by simp at hn⟩
 · simp [Value.cells] at hcs
   obtain ⟨rfl, rfl, rfl⟩ := hcs
   have hz' : zs.length = cap := by simpa using hz
   have hhas : len ≤ cap ∧ (cap : Int) ≤ IntKind.i64.max ∧ W.has P .any b0 x e cap := by
    simpa only [Value.okWide, hu, Cell.okWide, Cell.ok] using hv
   obtain ⟨_, _, _, hsp, row, cells, hsh, _⟩ := hhas
   have hblk : x.block < W.heap.size := by
    unfold World.shape? at hsh
    split at hsh
    · rename_i q
      exact (Array.getElem?_eq_some_iff.1 q).1
    · cases hsh
   refine ⟨zs.take len, ⟨fun q => (by cases q), fun y hy => ?_⟩, by rw [List.length_take]; omega, fun n hn => hwz n (List.mem_of_mem_take hn)⟩
   obtain rfl := Option.some.inj hy
   refine ⟨hsp, hblk, hl, by show (zs.take len).length = len; rw [List.length_take]; omega, fun i z hiz => ?_⟩
   simp only at hiz
   rw [List.getElem?_take] at hiz
   split at hiz
   · have hi := (List.getElem?_eq_some_iff.1 hiz).1
     have := hcell i hi
     rw [this, List.getD_eq_getElem?_getD, hiz]
     rfl
   · cases hiz
theorem yL {H : Type} {enc : TypeId × Value → H} {W : World} {base : Nat} {spare : Nat → Bool} {held : Bool} {t e : TypeId} {k : IntKind} {a : Option Addr} {len cap : Nat} {d : DataW H} {ps : List MemPlace} {ts : List TypeId} {ds : List (DataW H)} {j : Nat}
  (hsz : (DataW.weightsEach P ts ds).all (· ≤ reachBytes) = true) (ht : ts[j]? = some t) (hd : ds[j]? = some d) (hu : P.underlying t = some (.slice e)) (he : P.underlying e = some (.int k)) (hc : P.cellsOf e = 1) {B : Nat} (hB : P.bytesOf e = B)
  (h : DataW.Trod enc P W base spare held t (.slice a len cap) d ps) : len * B ≤ 140737488351232 := by
 obtain ⟨fuel, hf⟩ := h
 rcases open_ints hu he hc hf with ⟨hcs, _⟩ | ⟨x, l, c, zs, hcs, _, hl, _, hz, hx, _, _⟩
 · simp [Value.cells] at hcs
   obtain ⟨rfl, rfl, rfl⟩ := hcs
   simp
 · simp [Value.cells] at hcs
   obtain ⟨rfl, rfl, rfl⟩ := hcs
   obtain ⟨hx, _⟩ := Prod.mk.inj hx
   subst hx
   have z := sized_slice hsz ht hd hu
   rw [hB] at z
   have hl2 : len ≤ zs.length := by
    rw [hz]
    split
    · exact hl
    · exact Nat.le_refl _
   have h1 : (lits (H := H) k (zs.take len)).length + (lits (H := H) k (zs.drop len)).length = zs.length := by
    simp [lits]
    omega
   rw [h1] at z
   exact Nat.le_trans (Nat.mul_le_mul_right _ hl2) z
theorem zh {n : Int} (h : (Lit.int .i64 n).wf = true) : -9223372036854775808 ≤ n ∧ n ≤ 9223372036854775807 := by
 simp only [Lit.wf, Bool.and_eq_true, decide_eq_true_eq] at h
 exact h
end Go.Proofs.YthekokdpplobhaaGreat.Eng
set_option linter.unusedVariables false
namespace Go.Proofs.YthekokdpplobhaaGreat.Eng
open Go Go.Proofs Go.RowKit Go.Maps Go.Sort Go.Shelf
set_option maxRecDepth 100000
def py : Go.Shelf.Ren := ⟨fun | 7 => 49 | 10 => 68 | n => n, fun | 0 => 0 | 3 => 66 | 4 => 4 | 23 => 60 | 26 => 3 | 27 => 87 | 28 => 88 | 33 => 73 | n => n, fun n => n⟩
theorem xw : SlLaysZI.n7 Tryz.prog py where
 mixed := Checked.mixed Tryz.checked
 f7 := ⟨"maps.Keys[map[int]skymosaic/disk.file,int,skymosaic/disk.file]", by decide, Tryz.func49.trans (congrArg some (by kernel_rfl))⟩
 f10 := ⟨"maps.Keys[map[int]skymosaic/disk.file,int,skymosaic/disk.file]$1", by decide, Tryz.func68.trans (congrArg some (by kernel_rfl))⟩
 t0 := Tryz.underlying0
 a0 := Tryz.isAgg0
 z0 := Tryz.sizeOf0
 v0 := Tryz.zeroValue0
 t4 := Tryz.underlying4
 a4 := Tryz.isAgg4
 z4 := Tryz.sizeOf4
 v4 := Tryz.zeroValue4
 t23 := Tryz.underlying60
 a23 := Tryz.isAgg60
 z23 := Tryz.sizeOf60
 v23 := Tryz.zeroValue60
 t26 := Tryz.underlying3
 a26 := Tryz.isAgg3
 z26 := Tryz.sizeOf3
 v26 := Tryz.zeroValue3
 t27 := Tryz.underlying87
 a27 := Tryz.isAgg87
 z27 := Tryz.sizeOf87
 v27 := Tryz.zeroValue87
 t28 := Tryz.underlying88
 a28 := Tryz.isAgg88
 z28 := Tryz.sizeOf88
 v28 := Tryz.zeroValue88
 t33 := Tryz.underlying73
 a33 := Tryz.isAgg73
 z33 := Tryz.sizeOf73
 v33 := Tryz.zeroValue73
def m5 : Go.Shelf.Ren := ⟨fun | 6 => 48 | 8 => 66 | 9 => 67 | 11 => 84 | 12 => 85 | 13 => 86 | 14 => 94 | 15 => 95 | 16 => 96 | 17 => 97 | 18 => 98 | 19 => 99 | 20 => 100 | 21 => 101 | 22 => 102 | 23 => 103 | 24 => 104 | 25 => 105 | 26 => 106 | 27 => 107 | 28 => 108 | 29 => 109 | 30 => 110 | 31 => 111 | n => n, fun | 0 => 0 | 3 => 3 | 4 => 4 | 5 => 5 | 9 => 9 | 24 => 22 | 26 => 3 | 28 => 88 | 33 => 73 | 37 => 70 | 39 => 123 | 40 => 124 | 45 => 129 | 48 => 132 | 50 => 78 | 51 => 133 | 55 => 136 | 57 => 138 | 58 => 139 | n => n, fun n => n⟩
theorem xk : SlLaysZI.n6 Tryz.prog m5 where
 mixed := Checked.mixed Tryz.checked
 f6 := ⟨"slices.Sorted[int]", by decide, Tryz.func48.trans (congrArg some (by kernel_rfl))⟩
 f8 := ⟨"slices.Collect[int]", by decide, Tryz.func66.trans (congrArg some (by kernel_rfl))⟩
 f11 := ⟨"slices.AppendSeq[[]int,int]", by decide, Tryz.func84.trans (congrArg some (by kernel_rfl))⟩
 t0 := Tryz.underlying0
 a0 := Tryz.isAgg0
 z0 := Tryz.sizeOf0
 v0 := Tryz.zeroValue0
 t24 := Tryz.underlying22
 a24 := Tryz.isAgg22
 z24 := Tryz.sizeOf22
 v24 := Tryz.zeroValue22
 t26 := Tryz.underlying3
 a26 := Tryz.isAgg3
 z26 := Tryz.sizeOf3
 v26 := Tryz.zeroValue3
 t28 := Tryz.underlying88
 a28 := Tryz.isAgg88
 z28 := Tryz.sizeOf88
 v28 := Tryz.zeroValue88
 i26 := by kernel_rfl
def uq : Go.Shelf.Ren := ⟨fun | 5 => 67 | 7 => 85 | 8 => 86 | 10 => 94 | 11 => 95 | 12 => 96 | 13 => 97 | 14 => 98 | 15 => 99 | 16 => 100 | 17 => 101 | 18 => 102 | 19 => 103 | 20 => 104 | 30 => 105 | 31 => 106 | 32 => 107 | 33 => 108 | 34 => 109 | 35 => 110 | 40 => 111 | n => n, fun | 0 => 0 | 3 => 3 | 4 => 4 | 5 => 5 | 9 => 9 | 22 => 22 | 23 => 22 | 25 => 3 | 32 => 70 | 35 => 123 | 36 => 124 | 41 => 129 | 44 => 132 | 46 => 78 | 53 => 133 | 57 => 136 | 63 => 138 | 64 => 139 | n => n, fun n => n⟩
theorem xy : SlLaysM.n5 Tryz.prog uq where
 mixed := Checked.mixed Tryz.checked
 f5 := ⟨"slices.Sort[[]int,int]", by decide, Tryz.func67.trans (congrArg some (by kernel_rfl))⟩
 f7 := ⟨"slices.pdqsortOrdered[int]", by decide, Tryz.func85.trans (congrArg some (by kernel_rfl))⟩
 f8 := Tryz.func86.trans (congrArg some (by kernel_rfl))
 f10 := ⟨"slices.insertionSortOrdered[int]", by decide, Tryz.func94.trans (congrArg some (by kernel_rfl))⟩
 f11 := ⟨"slices.heapSortOrdered[int]", by decide, Tryz.func95.trans (congrArg some (by kernel_rfl))⟩
 f12 := ⟨"slices.breakPatternsOrdered[int]", by decide, Tryz.func96.trans (congrArg some (by kernel_rfl))⟩
 f13 := ⟨"slices.choosePivotOrdered[int]", by decide, Tryz.func97.trans (congrArg some (by kernel_rfl))⟩
 f14 := ⟨"slices.reverseRangeOrdered[int]", by decide, Tryz.func98.trans (congrArg some (by kernel_rfl))⟩
 f15 := ⟨"slices.partialInsertionSortOrdered[int]", by decide, Tryz.func99.trans (congrArg some (by kernel_rfl))⟩
 f16 := ⟨"cmp.Less[int]", by decide, Tryz.func100.trans (congrArg some (by kernel_rfl))⟩
 f17 := ⟨"slices.partitionEqualOrdered[int]", by decide, Tryz.func101.trans (congrArg some (by kernel_rfl))⟩
 f18 := ⟨"slices.partitionOrdered[int]", by decide, Tryz.func102.trans (congrArg some (by kernel_rfl))⟩
 f19 := Tryz.func103.trans (congrArg some (by kernel_rfl))
 f20 := Tryz.func104.trans (congrArg some (by kernel_rfl))
 f30 := ⟨"slices.siftDownOrdered[int]", by decide, Tryz.func105.trans (congrArg some (by kernel_rfl))⟩
 f31 := Tryz.func106.trans (congrArg some (by kernel_rfl))
 f32 := Tryz.func107.trans (congrArg some (by kernel_rfl))
 f33 := ⟨"slices.medianAdjacentOrdered[int]", by decide, Tryz.func108.trans (congrArg some (by kernel_rfl))⟩
 f34 := ⟨"slices.medianOrdered[int]", by decide, Tryz.func109.trans (congrArg some (by kernel_rfl))⟩
 f35 := ⟨"cmp.isNaN[int]", by decide, Tryz.func110.trans (congrArg some (by kernel_rfl))⟩
 f40 := ⟨"slices.order2Ordered[int]", by decide, Tryz.func111.trans (congrArg some (by kernel_rfl))⟩
 t0 := Tryz.underlying0
 a0 := Tryz.isAgg0
 z0 := Tryz.sizeOf0
 v0 := Tryz.zeroValue0
 t3 := Tryz.underlying3
 a3 := Tryz.isAgg3
 z3 := Tryz.sizeOf3
 v3 := Tryz.zeroValue3
 t4 := Tryz.underlying4
 a4 := Tryz.isAgg4
 z4 := Tryz.sizeOf4
 v4 := Tryz.zeroValue4
 t5 := Tryz.underlying5
 a5 := Tryz.isAgg5
 z5 := Tryz.sizeOf5
 v5 := Tryz.zeroValue5
 t9 := Tryz.underlying9
 a9 := Tryz.isAgg9
 z9 := Tryz.sizeOf9
 v9 := Tryz.zeroValue9
 t22 := Tryz.underlying22
 a22 := Tryz.isAgg22
 z22 := Tryz.sizeOf22
 v22 := Tryz.zeroValue22
 t23 := Tryz.underlying22
 a23 := Tryz.isAgg22
 z23 := Tryz.sizeOf22
 v23 := Tryz.zeroValue22
 t25 := Tryz.underlying3
 a25 := Tryz.isAgg3
 z25 := Tryz.sizeOf3
 v25 := Tryz.zeroValue3
 t32 := Tryz.underlying70
 a32 := Tryz.isAgg70
 z32 := Tryz.sizeOf70
 v32 := Tryz.zeroValue70
 t35 := Tryz.underlying123
 a35 := Tryz.isAgg123
 z35 := Tryz.sizeOf123
 v35 := Tryz.zeroValue123
 t36 := Tryz.underlying124
 a36 := Tryz.isAgg124
 z36 := Tryz.sizeOf124
 v36 := Tryz.zeroValue124
 t41 := Tryz.underlying129
 a41 := Tryz.isAgg129
 z41 := Tryz.sizeOf129
 v41 := Tryz.zeroValue129
 t44 := Tryz.underlying132
 a44 := Tryz.isAgg132
 z44 := Tryz.sizeOf132
 v44 := Tryz.zeroValue132
 t46 := Tryz.underlying78
 a46 := Tryz.isAgg78
 z46 := Tryz.sizeOf78
 v46 := Tryz.zeroValue78
 t53 := Tryz.underlying133
 a53 := Tryz.isAgg133
 z53 := Tryz.sizeOf133
 v53 := Tryz.zeroValue133
 t57 := Tryz.underlying136
 a57 := Tryz.isAgg136
 z57 := Tryz.sizeOf136
 v57 := Tryz.zeroValue136
 t63 := Tryz.underlying138
 a63 := Tryz.isAgg138
 z63 := Tryz.sizeOf138
 v63 := Tryz.zeroValue138
 t64 := Tryz.underlying139
 a64 := Tryz.isAgg139
 z64 := Tryz.sizeOf139
 v64 := Tryz.zeroValue139
end Go.Proofs.YthekokdpplobhaaGreat.Eng
set_option linter.unusedVariables false
set_option linter.unusedSimpArgs false
namespace Go.Proofs.YthekokdpplobhaaGreat.Eng
variable {P : Program} {x : Cx} {L L' : da} {O O' : an}
def pe (P : Program) (ρ : dV) (b : Nat) (args : List Value) (O : an) (Post : an → Prop) : Prop :=
 ∀ h, Sat h O → ∃ c s1 s2 O', ρ.c b = some c ∧ args.length = c.ps.size ∧ (∀ t ∈ c.ps, t < c.m) ∧ ee P vc (ρ.del b) (.code c.assign ⟨c.m, gH (c.ps.zip args.toArray).toList c.t, h⟩ .normal s1) ∧
  ee P vc (ρ.del b) (.code c.body s1 .normal s2) ∧ Post O' ∧ Sat s2.h O'
theorem uB {s : bN} (ht : Has s.t L) : ∀ (l : List Operand) (vs : List Value), gM L l = some vs → l.map s.ev = vs := by
 intro l
 induction l with
 | nil => intro vs h; simp [gM] at h; subst h; rfl
 | cons y l ih =>
  intro vs h
  unfold gM at h
  split at h
  · rename_i v us h1 h2
    obtain rfl := Option.some.inj h
    rw [List.map_cons, ih us h2, ht.ev h1]
  · cases h
theorem ae.yield {ops : Array Oper} {mq : Mk} {i : Nat} {g : Operand} {aas : Array Operand} {ts : Array TypeId} {dst : Option Tmp} {t : TypeId} {p : String} {af : Array Edge} {gd : Option (Nat × Bool)} {l : List Oper} {K : bN → Prop}
  {b : Nat} {vs : List Value} {O1 : an} {Post : an → Prop} (hw : Met x L ops gd) (hf : dc L g = some (Yd b)) (ha : gM L aas.toList = some vs) (hO : ∀ h, Sat h O → Sat h O1)
  (hd : mq.d = false) (hq1 : mq.q i = false) (hq2 : x.q = false) (hq3 : mq.Z = []) (hspec : pe P x.ρ b vs O1 Post)
  (h : ∀ O', Post O' → ae P x ops mq (i + 1) l (sq dst (.bool true) L) O' K) :
  ae P x ops mq i ({ dst := dst, op := .call { callee := .value g, args := aas, argTypes := ts }, type := t, pos := p, after := af, guard := gd } :: l) L O K := by
 intro hdr hqk s hs hz
 obtain ⟨ho, hd'⟩ := fZ hdr
 obtain ⟨c, s1, s2, O', b1, b2, b3, b4, b5, b6, b7⟩ := hspec s.h (hO _ hs.sat)
 have hargs : aas.map s.ev = vs.toArray := by
  apply Array.toList_inj.1
  rw [Array.toList_map, uB hs.t _ _ ha]
 have hye : jq { dst := dst, op := .call { callee := .value g, args := aas, argTypes := ts }, type := t, pos := p, after := af, guard := gd } s = some (b, vs.toArray) := by
  unfold jq
  simp only [hs.t.ev hf, hargs, Yd]
 have hst : St x (sq dst (.bool true) L) O' (s.put dst (.bool true) s2.h) := by
  refine ⟨by rw [dR]; exact hs.m, ?_, by rw [bk]; exact b7, fun hx => by rw [hq2] at hx; cases hx⟩
  cases dst with
  | some d => exact hs.t.put _ _ _
  | none => exact hs.t
 obtain ⟨s', g1, g2, g3⟩ := h O' b6 hd' hqk _ hst (fun z hm => by rw [hq3] at hm; simp at hm)
 have hrho : mq.yu x.ρ = x.ρ := by unfold Mk.yu; rw [hd]; rfl
 rw [hrho] at g1 ⊢
 refine ⟨s', .gQ ho (hw s hs.t _ rfl) hye b1 (by simpa using b2) b3 b4 b5 (fun hm => by rw [hq1] at hm; cases hm) ?_ (fun z hm => by rw [hq3] at hm; simp at hm) g1, by rw [g2, dR], g3⟩
 cases hl : mq.lz i with
 | false => rfl
 | true => exact absurd ((jc hqk ho).2 hl) (by simp [fN])
def wP : List (Tmp × Value) → da → da
 | [], L => L
 | (d, v) :: l, L => wP l ((d, v) :: L)
theorem Has.gH : ∀ {l : List (Tmp × Value)} {t : Nat → Value} {L : da}, Has t L → Has (gH l t) (wP l L)
 | [], _, _, h => h
 | (d, v) :: l, t, L, h => by
  refine Has.gH (l := l) (t := fun i => if i = d then v else t i) ?_
  intro e u he
  unfold jQ at he
  show (if e = d then v else t e) = u
  cases hb : Nat.beq d e with
  | true =>
   rw [hb] at he
   rw [if_pos (Nat.eq_of_beq_eq_true hb).symm]
   exact Option.some.inj he
  | false =>
   rw [hb] at he
   rw [if_neg fun e' => by subst e'; simp at hb]
   exact h e u he
def sB {β : Type} (OI : β → an) (Inv : β → Prop) : Exit → bN → Prop
 | .normal, s => ∃ y, Inv y ∧ Sat s.h (OI y)
 | _, _ => False
theorem Fin.round {β : Type} {OI : β → an} {Inv : β → Prop} (y : β) (hy : Inv y) (hO : ∀ h, Sat h O → Sat h (OI y)) : Fin x L O .normal (sB OI Inv) := fun s hs => ⟨y, hy, hO _ hs.sat⟩
theorem WX.nV {β : Type} (OI : β → an) (Inv : Nat → β → Prop) (Arg : Nat → β → List Value → an → Prop) (n : Nat) (y0 : β) {g : Operand} {ps : Array Tmp} {assign body : Code} {Q : Exit → bN → Prop} {gf : FuncId} {lb : Array Value}
  (hx : x.ρ.can) (hg : dc L g = some (.func (.func gf) #[] lb)) (hok : pH P gf = true) (hO : ∀ s, St x L O s → Sat s.h (OI y0)) (hxq : x.q = false) (h0 : Inv 0 y0) (hargs : ∀ k y vs N, Arg k y vs N → vs.length = ps.size)
  (hiter : ∀ (ρ : dV) (b : Nat), (∀ k y vs N, k < n → Inv k y → Arg k y vs N → pe P ρ b vs (N ++ OI y) fun O' => ∃ y', Inv (k + 1) y' ∧ O' = OI y') → fW P ρ false gf (Yd b :: lb.toList).toArray (OI y0) fun v O' => ∃ y', Inv n y' ∧ O' = OI y')
  (hbody : ∀ (h0 : ai) (ρ : dV) k y vs N, k < n → Inv k y → Arg k y vs N → WX P ⟨x.m, false, h0, ρ⟩ (.seq assign body) (wP (ps.toList.zip vs) L) (N ++ OI y) (sB OI (Inv (k + 1))))
  (h : ∀ y, Inv n y → Fin x L (OI y) .normal Q) : WX P x (.rangeFunc g ps assign body) L O Q := by
 intro s hs hk
 simp only [codeOk, Bool.and_eq_true, List.all_eq_true] at hk
 obtain ⟨⟨⟨k1, k2⟩, k3⟩, k4⟩ := hk
 have hps : ∀ t ∈ ps, t < s.m := fun t ht => by
  have := k2 t (Array.mem_toList_iff.2 ht)
  simpa [Nat.blt_eq] using this
 have hsat := hO s hs
 have hb : Sat s.h.fm (OI y0) := ⟨hsat.nd, fun p hp => hsat.is p hp, ⟨fun b sz ro f m k c ho => by
   obtain ⟨q1, q2⟩ := hsat.wf.wf b sz ro f m k c ho
   exact ⟨Nat.lt_succ_of_lt q1, q2⟩, hsat.wf.jw, hsat.wf.uniq, fun b hb => hsat.wf.out b (Nat.le_of_succ_le hb)⟩⟩
 obtain ⟨v, h', O', b1, ⟨y', b2, b3⟩, b4, _⟩ := hiter (x.ρ.add s.h.n ⟨s.m, s.t, ps, assign, body⟩) s.h.n (fun k y vs N hk hy hvs g hg => by
  obtain ⟨e, s', r1, r2, r3⟩ := hbody g ((x.ρ.add s.h.n ⟨s.m, s.t, ps, assign, body⟩).del s.h.n) k y vs N hk hy hvs ⟨s.m, gH (ps.zip vs.toArray).toList s.t, g⟩
   ⟨hs.m, by rw [Array.toList_zip]; exact hs.t.gH, hg, fun q => by cases q⟩ (by
    show codeOk s.m (.seq assign body) = true
    simp only [codeOk, k3, k4, Bool.and_self])
  cases e with
  | normal =>
   obtain ⟨y2, i1, i2⟩ := r3
   cases r1 with
   | kV t1 t2 => exact ⟨_, _, _, _, by unfold dV.add; exact if_pos rfl, hargs k y vs N hvs, hps, t1, t2, ⟨y2, i1, rfl⟩, i2⟩
   | kZ t1 t2 => exact absurd rfl t2
  | _ => exact r3.elim) s.h.fm hb
 subst b3
 refine ⟨.normal, { s with h := h' }, .rangeFunc (v := v) hx k1 (hs.t.ev hg) hps hok ?_, rfl, h y' b2 _ ⟨hs.m, hs.t, b4, fun q => by rw [hxq] at q; cases q⟩⟩
 have : (#[Yd s.h.n] ++ lb) = (Yd s.h.n :: lb.toList).toArray := by apply Array.toList_inj.1; simp
 rw [this]
 exact b1
theorem WX.rangeFunc {β : Type} (OI : β → an) (Inv : Nat → β → Prop) (n : Nat) (arg : Nat → List Value) (y0 : β) {g : Operand} {ps : Array Tmp} {assign body : Code} {Q : Exit → bN → Prop} {gf : FuncId} {lb : Array Value}
  (hx : x.ρ.can) (hg : dc L g = some (.func (.func gf) #[] lb)) (hok : pH P gf = true) (hO : ∀ s, St x L O s → Sat s.h (OI y0)) (hxq : x.q = false) (h0 : Inv 0 y0) (hargs : ∀ k, (arg k).length = ps.size)
  (hiter : ∀ (ρ : dV) (b : Nat), (∀ k y, k < n → Inv k y → pe P ρ b (arg k) (OI y) fun O' => ∃ y', Inv (k + 1) y' ∧ O' = OI y') → fW P ρ false gf (Yd b :: lb.toList).toArray (OI y0) fun v O' => ∃ y', Inv n y' ∧ O' = OI y')
  (hbody : ∀ (h0 : ai) (ρ : dV) k y, k < n → Inv k y → WX P ⟨x.m, false, h0, ρ⟩ (.seq assign body) (wP (ps.toList.zip (arg k)) L) (OI y) (sB OI (Inv (k + 1))))
  (h : ∀ y, Inv n y → Fin x L (OI y) .normal Q) : WX P x (.rangeFunc g ps assign body) L O Q   :=
 WX.nV OI Inv (fun k _ vs N => vs = arg k ∧ N = []) n y0 hx hg hok hO hxq h0 (fun k y vs N ⟨q, _⟩ => by rw [q]; exact hargs k) (fun ρ b hy => hiter ρ b fun k y hk hi => hy k y (arg k) [] hk hi ⟨rfl, rfl⟩)
  (fun h0 ρ k y vs N hk hi ⟨q1, q2⟩ => by subst q1 q2; exact hbody h0 ρ k y hk hi) h
end Go.Proofs.YthekokdpplobhaaGreat.Eng
set_option linter.unusedVariables false
set_option linter.unusedSimpArgs false
namespace Go.Proofs.YthekokdpplobhaaGreat.Eng
variable {P : Program} {x : Cx} {L L' : da} {O O' : an} {ops : Array Oper} {mq : Mk} {i : Nat} {l : List Oper} {K : bN → Prop}
  {t u : TypeId} {p : String} {af : Array Edge} {gd : Option (Nat × Bool)} {d : Tmp}
def B8 (n : Int) : Value := .int .u8 n
def U (n : Int) : Value := .int .u64 n
def Bytes (l : List Int) : Prop := ∀ b ∈ l, 0 ≤ b ∧ b < 256
def fH (l : List Int) : ByteArray := ⟨(l.map fun b => UInt8.ofNat b.toNat).toArray⟩
theorem m8 : ∀ (l : List Int) (s : ByteArray), strOf (l.map B8) s = some ⟨(s.data.toList ++ l.map fun b => UInt8.ofNat b.toNat).toArray⟩
 | [], s => by
  show some s = _
  simp
 | b :: l, s => by
  show strOf (l.map B8) (s.push (UInt8.ofNat b.toNat)) = _
  rw [m8 l]
  congr 2
  simp [ByteArray.push]
theorem rV (l : List Int) : strOf (l.map B8) .empty = some (fH l) := by
 rw [m8]
 rfl
theorem eG (l : List Int) : (fH l).size = l.length := by
 show (l.map _).toArray.size = _
 simp
theorem jB {l : List Int} (h : Bytes l) : ((fH l).data.toList.map fun b => Value.int .u8 b.toNat) = l.map B8 := by
 show ((l.map fun b => UInt8.ofNat b.toNat).toArray.toList.map fun b => Value.int .u8 b.toNat) = _
 rw [List.toList_toArray, List.map_map]
 refine List.map_congr_left fun b hb => ?_
 obtain ⟨h1, h2⟩ := h b hb
 show Value.int .u8 ((UInt8.ofNat b.toNat).toNat : Int) = .int .u8 b
 congr 1
 rw [UInt8.toNat_ofNat']
 omega
theorem Src.fH {l : List Int} (h : Bytes l) : Src O 1 (.string (fH l)) l.length (l.map B8) := by
 intro g _
 show (if (1 : Nat) = 1 then some ((Eng.fH l).size, (Eng.fH l).data.toList.map fun b => Value.int .u8 b.toNat) else none) = _
 rw [if_pos rfl, eG, jB h]
theorem wF {a b : List Int} (ha : Bytes a) (hb : Bytes b) : fH a = fH b ↔ a = b := by
 refine ⟨fun h => ?_, fun h => by rw [h]⟩
 have h2 : a.map B8 = b.map B8 := by rw [← jB ha, ← jB hb, h]
 have h3 := congrArg (List.map fun v : Value => match v with | .int _ n => n | _ => 0) h2
 simpa [B8, Function.comp_def] using h3
theorem vh {a b : List Int} (ha : Bytes a) (hb : Bytes b) : ((fH a).toList == (fH b).toList) = decide (a = b) := by
 rw [Bool.eq_iff_iff, beq_iff_eq, decide_eq_true_eq]
 refine ⟨fun h => (wF ha hb).1 ?_, fun h => by rw [h]⟩
 rw [ByteArray.toList_eq, ByteArray.toList_eq] at h
 exact ByteArray.ext (Array.toList_inj.1 h)
theorem ae.conv {y : Operand} {k k' : IntKind} {n m : Int} (hw : Met x L ops gd) (hy : dc L y = some (.int k n)) (h1 : P.underlying t = some (.int k)) (h2 : P.underlying u = some (.int k')) (hm : k'.wrap n = m) (h : ae P x ops mq (i + 1) l ((d, .int k' m) :: L) O K) {tt : TypeId} :
  ae P x ops mq i ({ dst := some d, op := .convert t u y, type := tt, pos := p, after := af, guard := gd } :: l) L O K :=
 ae.val (.inl rfl) hw (fun s hs => by
  have hc : iw P t u = false := by unfold iw; rw [h1, h2]
  have hc2 : jg P t u = false := by unfold jg; rw [h1, h2]
  have e : bI P (convert t u (.int k n)) = some (.int k' m) := by
   simp only [convert, bj, fh h1, fh h2, Option.bind_some]
   rw [← hm]
   rfl
  have ha : ∀ o' : Oper, o'.op = .convert t u y → eg P o' s = (eC P o' s.ev).map (·, s.h) := fun o' ho => by unfold eg; rw [ho]; simp only [hc, hc2, Bool.false_eq_true, if_false]
  exact qk (g := convert t u) rfl (fun o' ρ h => by unfold execOp; rw [h]) ha (hs.t.ev hy) rfl e rfl) h
theorem ae.toStr {y : Operand} {e tt : TypeId} {a : Option Addr} {n c : Nat} {bs : List Int} (hw : Met x L ops gd) (hy : dc L y = some (.slice a n c)) (h1 : P.underlying t = some (.slice e)) (h2 : P.underlying u = some .string) (h3 : P.underlying e = some (.int .u8))
  (hsrc : Src O 1 (.slice a n c) bs.length (bs.map B8)) (h : ae P x ops mq (i + 1) l ((d, .string (fH bs)) :: L) O K) :
  ae P x ops mq i ({ dst := some d, op := .convert t u y, type := tt, pos := p, after := af, guard := gd } :: l) L O K :=
 ae.val (.inl rfl) hw (fun s hs => by
  have hc : iw P t u = true := by unfold iw; simp only [h1, h2, h3]
  unfold eg
  simp only [hc, if_true, hs.t.ev hy]
  unfold ry
  simp only [hsrc _ hs.sat, rV, Option.map_some]) h
theorem ae.xo {y : Operand} {e tt : TypeId} {bs : List Int} (hw : Met x L ops gd) (hy : dc L y = some (.string (fH bs))) (h1 : P.underlying t = some .string) (h2 : P.underlying u = some (.slice e)) (h3 : P.underlying e = some (.int .u8)) (hB : Bytes bs)
  (h : ∀ b, ae P x ops mq (i + 1) l ((d, .slice (some ⟨b, 0, none⟩) bs.length bs.length) :: L) ((b, ⟨1, false, bs.map B8⟩) :: O) K) :
  ae P x ops mq i ({ dst := some d, op := .convert t u y, type := tt, pos := p, after := af, guard := gd } :: l) L O K :=
 ae.fresh (V := fun b => Row b 0 bs.length bs.length) rfl hw (fun s hs => by
  have hc : iw P t u = false := by unfold iw; rw [h1, h2]
  have hc2 : jg P t u = true := by unfold jg; simp only [h1, h2, h3]
  simp only [eg, hc, hc2, Bool.false_eq_true, if_false, if_true, hs.t.ev hy, rI, eG, jB hB]) h
theorem ae.wa {y : Operand} {ty : TypeId} {bs : ByteArray} (hw : Met x L ops gd) (hy : dc L y = some (.string bs)) (hu : P.underlying ty = some .string) (h : ae P x ops mq (i + 1) l ((d, .int .i64 bs.size) :: L) O K) :
  ae P x ops mq i ({ dst := some d, op := .call { callee := .builtin .len, args := #[y], argTypes := #[ty] }, type := t, pos := p, after := af, guard := gd } :: l) L O K :=
 ae.val (.inl rfl) hw (fun s hs => by simp [eg, xn, hu, hs.t.ev hy]) h
theorem ae.zi {y z : Operand} {a b : List Int} {w : TypeId} (hw : Met x L ops gd) (hy : dc L y = some (.string (fH a))) (hz : dc L z = some (.string (fH b))) (ha : Bytes a) (hb : Bytes b) (h : ae P x ops mq (i + 1) l ((d, .bool (decide (a = b))) :: L) O K) :
  ae P x ops mq i ({ dst := some d, op := .binOp .eql u y z w, type := t, pos := p, after := af, guard := gd } :: l) L O K :=
 ae.val (.inl rfl) hw (fun s hs => gv (hs.t.ev hy) (hs.t.ev hz) rfl rfl (by
  rw [← vh ha hb]
  simp [eqGuard, binOp, Op.stringOp, bI, bind, Sem.bind, pure]) rfl) h
theorem w9 {bs : List Int} {k : Nat} (hk : k < bs.length) : (fH bs)[k]? = some (UInt8.ofNat (nth bs k).toNat) := by
 have h1 : k < (fH bs).size := by rw [eG]; exact hk
 rw [getElem?_pos _ k h1]
 congr 1
 have h2 : (bs.map fun b => UInt8.ofNat b.toNat).toArray[k]'(by simpa using hk) = UInt8.ofNat (nth bs k).toNat := by rw [List.getElem_toArray, List.getElem_map, dx hk]
 exact h2
theorem su {y z : Operand} {ty w : TypeId} {a b v : Value} {s : bN} (hy : s.ev y = a) (hz : s.ev z = b) (ha : aX a = true) (hb : aX b = true) (hv : bI P (Instr.index ty a b) = some v) (hp : aX v = true) :
  eg P { dst := some d, op := .index ty y z, type := w, pos := p, after := af, guard := gd } s = some (v, s.h) := by
 have e : bI P (execOp s.ev { dst := some d, op := .index ty y z, type := w, pos := p, after := af, guard := gd }) = some (.value v) := by
  show bI P (Instr.index ty (s.ev y) (s.ev z) >>= fun v => pure (Next.value v)) = _
  rw [bj, hy, hz, hv]
  rfl
 unfold eg
 simp only
 unfold eC
 have hall : (#[y, z].all fun x => aX (s.ev x)) = true := by simp [hy, hz, ha, hb]
 simp only [Op.operands, hall, e, hp, if_true, Option.map_some]
theorem ae.yl {y z : Operand} {ty w : TypeId} {bs : List Int} {k : Nat} (hw : Met x L ops gd) (hy : dc L y = some (.string (fH bs))) (hz : dc L z = some (.int .i64 (k : Int))) (hu : P.underlying ty = some .string) (hB : Bytes bs) (hk : k < bs.length)
  (h : ae P x ops mq (i + 1) l ((d, B8 (nth bs k)) :: L) O K) : ae P x ops mq i ({ dst := some d, op := .index ty y z, type := w, pos := p, after := af, guard := gd } :: l) L O K :=
 ae.val (.inl rfl) hw (fun s hs => su (hs.t.ev hy) (hs.t.ev hz) rfl rfl (by
  obtain ⟨h1, h2⟩ := hB _ (dK hk)
  have e : ((UInt8.ofNat (nth bs k).toNat).toNat : Int) = nth bs k := by rw [UInt8.toNat_ofNat']; omega
  have e1 : bI P (asIntOf (.int .i64 (k : Int))) = some (.i64, (k : Int)) := rfl
  unfold Instr.index
  rw [bj, e1]
  simp only [Option.bind_some, bj, fh hu]
  rw [if_pos (by omega), Int.toNat_natCast, w9 hk]
  show some (Value.int .u8 _) = _
  rw [e]
  rfl) rfl) h
theorem ae.nilCheck {y : Operand} {a : Addr} (hw : Met x L ops gd) (hy : dc L y = some (.pointer (some a))) (h : ae P x ops mq (i + 1) l ((d, .pointer (some a)) :: L) O K) :
  ae P x ops mq i ({ dst := some d, op := .nilCheck y, type := t, pos := p, after := af, guard := gd } :: l) L O K :=
 ae.val (.inl rfl) hw (fun s hs => by simp only [eg, hs.t.ev hy]) h
theorem Sat.sub {h : ai} (hs : Sat h O) (hc : ∀ Q : Nat × gl → Bool, O'.countP Q ≤ O.countP Q) : Sat h O' := by
 refine ⟨?_, fun p hp => hs.is p ?_, hs.wf⟩
 · rw [List.nodup_iff_count]
   intro b
   have h1 := List.nodup_iff_count.1 hs.nd b
   rw [List.count_eq_countP, List.countP_map] at h1 ⊢
   exact Nat.le_trans (hc _) h1
 · classical
   have h1 : 0 < O'.countP (fun q => decide (q = p)) := List.countP_pos_iff.2 ⟨p, hp, by simp⟩
   obtain ⟨q, h2, h3⟩ := List.countP_pos_iff.1 (Nat.lt_of_lt_of_le h1 (hc _))
   have h4 : q = p := by simpa using h3
   exact h4 ▸ h2
theorem aC (hc : ∀ Q : Nat × gl → Bool, O'.countP Q ≤ O.countP Q := by intro Q; simp only [List.countP_append, List.countP_cons, List.countP_nil]; omega) : ∀ g, Sat g O → Sat g O' := fun _ hs => hs.sub hc
theorem WX.re {P : Program} {x : Cx} {L : da} {O O' : an} {c : Code} {Q : Exit → bN → Prop} (h : WX P x c L O' Q) (hs : ∀ g, Sat g O → Sat g O' := by exact aC) (hq : x.q = false := by exact rfl) : WX P x c L O Q :=
 fun s hst hk => h s ⟨hst.m, hst.t, hs _ hst.sat, fun q => by rw [hq] at q; cases q⟩ hk
theorem ae.wE {y z : Operand} {ty tz e : TypeId} {a : Option Addr} {n c sz by_ m : Nat} {cs new : List Value} {v zv : Value} {G : an} (A : an) {R : an} (hw : Met x L ops gd) (hy : dc L y = some (.slice a n c)) (hz : dc L z = some v) (hr : fq P tz = true)
  (he : elemOf P ty = some e) (hs : cR P e = some sz) (hby : jR P e = some by_) (hzv : zeroOf P e = some zv) (hsrc : Src O sz v m new)
  (h : ∀ b b', a = some ⟨b, 0, none⟩ → ae P x ops mq (i + 1) l ((d, Row b' 0 (n + m) (n + m)) :: L) ((b', ⟨sz, true, cs ++ new⟩) :: (A ++ ((b, ⟨sz, true, cs⟩) :: R))) K)
  (hn : 0 < n := by omega) (hf : (n + m) * by_ ≤ 140737488355328 := by omega) (hm : new.length = m * sz := by exact rfl)
  (hg : Grow sz a n c cs G := by assumption) (hq : x.q = false := by exact rfl) (hcl : mq.Z = [] := by exact rfl) (hmq : mq.q i = false := by exact rfl) (hO : O = A ++ (G ++ R) := by exact rfl) (h3 : zv.cells.size = sz := by exact rfl) (h1 : 0 < sz := by decide) (h2 : 0 < by_ := by decide) :
  ae P x ops mq i ({ dst := some d, op := .call { callee := .builtin .append, args := #[y, z], argTypes := #[ty, tz] }, type := t, pos := p, after := af, guard := gd } :: l) L O K := by
 have hfit : jL by_ (n + m) = true := by unfold jL; exact decide_eq_true hf
 rcases hg with ⟨rfl, rfl, rfl, rfl, rfl⟩ | ⟨b, rfl, rfl, hl⟩
 · omega
 intro hdr hqk s hst hzz
 obtain ⟨ho, hd'⟩ := fZ hdr
 have hj : (b, (⟨sz, false, cs⟩ : gl)) ∈ O := by rw [hO]; simp
 obtain ⟨f, k, hb⟩ := hst.sat.is _ hj
 have hb' : s.h.o b = .cells sz false f none k cs := hb
 have hbn : b < s.h.n := hst.sat.wf.lt hb'
 obtain ⟨h', hh'⟩ : ∃ h', h' = (s.h.set b (.cells sz false f (some s.h.n) k cs)).new (.cells sz false f none 0 (cs ++ new)) := ⟨_, rfl⟩
 have ho' : ∀ q, h'.o q = if q = s.h.n then .cells sz false f none 0 (cs ++ new) else if q = b then .cells sz false f (some s.h.n) k cs else s.h.o q := fun q => by rw [hh']; rfl
 have ha : eg P { dst := some d, op := .call { callee := .builtin .append, args := #[y, z], argTypes := #[ty, tz] }, type := t, pos := p, after := af, guard := gd } s = some (Row s.h.n 0 (n + m) (n + m), h') := by
  rw [hh']
  simp only [eg, hst.t.ev hy, hst.t.ev hz, hr, if_true]
  unfold eY
  simp only [he, hs, hby, hzv, Option.map_some, hsrc _ hst.sat, h3, hb', ne_eq, not_true_eq_false, if_false]
  rw [if_pos ⟨trivial, by omega, hfit, h1, h2⟩]
  rfl
 obtain ⟨g2, hg2⟩ : ∃ g2 : ai, g2 = { n := h'.n, o := fun q => if q = b then .cells sz true f none (k + 1) cs else if q = s.h.n then .cells sz true f none 0 (cs ++ new) else h'.o q } := ⟨_, rfl⟩
 have hsl : gX s.h h' g2 := ⟨b, sz, f, k, cs, cs ++ new, hb', by rw [ho', if_neg (by omega), if_pos rfl], by rw [ho', if_pos rfl], by rw [hg2], fun q => by rw [hg2]⟩
 have hwf := kh ha hst.sat.wf
 have hlt : ∀ p ∈ O, p.1 < s.h.n := fun p hp => hst.sat.lt hp
 have hnd := hst.sat.nd
 rw [hO] at hnd
 have hsat : Sat g2 ((s.h.n, ⟨sz, true, cs ++ new⟩) :: (A ++ ((b, ⟨sz, true, cs⟩) :: R))) := by
  refine ⟨?_, fun p hp => ?_, hwf.1.vK hsl hwf.2 fun b sz ro f st k c hh => hst.sat.wf.lt hh⟩
  · rw [List.map_cons, List.nodup_cons]
    simp only [List.map_append, List.map_cons, List.map_nil, List.cons_append, List.nil_append] at hnd ⊢
    refine ⟨fun hm2 => ?_, hnd⟩
    have : s.h.n ∈ O.map (·.1) := by
     rw [hO]
     simp only [List.map_append, List.map_cons, List.map_nil, List.cons_append, List.nil_append]
     exact hm2
    obtain ⟨p, hp, e1⟩ := List.mem_map.1 this
    have := hlt p hp
    omega
  · have key : ∀ p ∈ O, p.1 ≠ b → Is g2 p.1 p.2 := fun p hp hne => by
      obtain ⟨f1, k1, e1⟩ := hst.sat.is p hp
      have := hlt p hp
      exact ⟨f1, k1, by rw [hg2]; show (if p.1 = b then _ else if p.1 = s.h.n then _ else h'.o p.1) = _; rw [if_neg hne, if_neg (by omega), ho', if_neg (by omega), if_neg hne]; exact e1⟩
    rcases List.mem_cons.1 hp with rfl | hp
    · exact ⟨f, 0, by rw [hg2]; show (if s.h.n = b then _ else if s.h.n = s.h.n then _ else _) = _; rw [if_neg (by omega), if_pos rfl]⟩
    · simp only [List.map_append, List.map_cons, List.map_nil, List.cons_append, List.nil_append] at hnd
      have hnd2 := List.nodup_append.1 hnd
      rcases List.mem_append.1 hp with hp | hp
      · exact key p (by rw [hO]; exact List.mem_append_left _ hp) (fun e1 => hnd2.2.2 p.1 (List.mem_map.2 ⟨p, hp, rfl⟩) b (List.mem_cons_self ..) e1)
      · rcases List.mem_cons.1 hp with rfl | hp
        · exact ⟨f, k + 1, by rw [hg2]; show (if b = b then _ else _) = _; rw [if_pos rfl]⟩
        · exact key p (by rw [hO]; exact List.mem_append_right _ (List.mem_append_right _ hp)) (fun e1 => (List.nodup_cons.1 hnd2.2.1).1 (e1 ▸ List.mem_map.2 ⟨p, hp, rfl⟩))
 obtain ⟨s', g1, g3, g4⟩ := h b s.h.n rfl hd' hqk (s.put (some d) (Row s.h.n 0 (n + m) (n + m)) g2) ⟨by rw [dR]; exact hst.m, hst.t.put _ _ _, by rw [bk]; exact hsat, fun q => by rw [hq] at q; cases q⟩ (fun z hm2 => by rw [hcl] at hm2; simp at hm2)
 refine ⟨s', .jm ho (hw s hst.t _ rfl) ha hsl hmq ?_ (fun z hm2 => by rw [hcl] at hm2; simp at hm2) g1, by rw [g3, dR], g4⟩
 cases hx : mq.lz i with
 | false => rfl
 | true => exact absurd ((jc hqk ho).2 hx) (by simp [fN])
theorem wrap_u64 {n : Int} (h1 : 0 ≤ n) (h2 : n < 18446744073709551616) : IntKind.wrap .u64 n = n := by
 unfold IntKind.wrap
 have e1 : (2 : Int) ^ IntKind.bits .u64 = 18446744073709551616 := rfl
 have e3 : IntKind.signed .u64 = false := rfl
 simp only [e1, e3, Bool.false_and, Bool.false_eq_true, if_false]
 omega
theorem wrap_u8 {n : Int} (h1 : 0 ≤ n) (h2 : n < 256) : IntKind.wrap .u8 n = n := by
 unfold IntKind.wrap
 have e1 : (2 : Int) ^ IntKind.bits .u8 = 256 := rfl
 have e3 : IntKind.signed .u8 = false := rfl
 simp only [e1, e3, Bool.false_and, Bool.false_eq_true, if_false]
 omega
theorem wh {k : IntKind} {n m : Int} (h : k.wrap n = m := by first | exact wrap_i64 (by omega) (by omega) | exact wrap_u64 (by omega) (by omega) | exact wrap_u8 (by omega) (by omega) | exact rfl) : k.wrap n = m := h
end Go.Proofs.YthekokdpplobhaaGreat.Eng
set_option linter.unusedVariables false
set_option linter.unusedSimpArgs false
namespace Go.Proofs.YthekokdpplobhaaGreat.Eng
variable {P : Program} {x : Cx} {L L' : da} {O O' : an} {ops : Array Oper} {mq : Mk} {i : Nat} {l : List Oper} {K : bN → Prop}
  {t u : TypeId} {p : String} {af : Array Edge} {gd : Option (Nat × Bool)} {d : Tmp}
structure bf where
 ck : Nat
 es : List (Int × Nat × Value)
def dz : List (Int × Nat × Value) → List Value
 | [] => []
 | (k, n, v) :: m => I k :: I n :: v :: dz m
def bW (m : bf) : List Value := I m.ck :: dz m.es
def bf.kv (m : bf) : List (Int × Value) := m.es.map fun e => (e.1, e.2.2)
def bf.new : bf := ⟨0, []⟩
variable {α : Type}
def bH (k : Int) : List (Int × α) → Option α
 | [] => none
 | (n, v) :: m => if k = n then some v else bH k m
def eT (k : Int) (u : α) : List (Int × α) → List (Int × α)
 | [] => [(k, u)]
 | (n, v) :: m => if k = n then (k, u) :: m else (n, v) :: eT k u m
def jO (k : Int) : List (Int × α) → List (Int × α)
 | [] => []
 | (n, v) :: m => if k = n then m else (n, v) :: jO k m
def qa (k : Int) (u : Value) (ck : Nat) : List (Int × Nat × Value) → Nat × List (Int × Nat × Value)
 | [] => (ck + 1, [(k, ck, u)])
 | (n, b, v) :: m => if k = n then (ck, (k, b, u) :: m) else ((qa k u ck m).1, (n, b, v) :: (qa k u ck m).2)
def vZ (k : Int) : List (Int × Nat × Value) → List (Int × Nat × Value)
 | [] => []
 | (n, b, v) :: m => if k = n then m else (n, b, v) :: vZ k m
def bf.put (m : bf) (k : Int) (u : Value) : bf := ⟨(qa k u m.ck m.es).1, (qa k u m.ck m.es).2⟩
def bf.del (m : bf) (k : Int) : bf := ⟨m.ck, vZ k m.es⟩
theorem bf.pE (m : bf) (k : Int) (u : Value) : (m.put k u).kv = eT k u m.kv := by
 obtain ⟨ck, es⟩ := m
 unfold bf.put bf.kv
 simp only
 induction es with
 | nil => rfl
 | cons e es ih =>
  obtain ⟨n, b, v⟩ := e
  simp only [qa, List.map_cons, eT]
  split
  · rfl
  · simp only [List.map_cons, ih]
theorem bf.ve (m : bf) (k : Int) : (m.del k).kv = jO k m.kv := by
 obtain ⟨ck, es⟩ := m
 unfold bf.del bf.kv
 simp only
 induction es with
 | nil => rfl
 | cons e es ih =>
  obtain ⟨n, b, v⟩ := e
  simp only [vZ, List.map_cons, jO]
  split
  · rfl
  · simp only [List.map_cons, ih]
theorem lN (k : Int) : ∀ m : List (Int × Nat × Value), iG .i64 k (dz m) = some (bH k (m.map fun e => (e.1, e.2.2)))
 | [] => rfl
 | (n, b, v) :: m => by
  show (if (.i64 : IntKind) = .i64 then if k = n then some (some v) else iG .i64 k (dz m) else none) = some (if k = n then some v else bH k (m.map fun e => (e.1, e.2.2)))
  rw [if_pos rfl, lN k m]
  split <;> rfl
theorem mj (k : Int) (u : Value) (ck : Nat) : ∀ m, mD .i64 k u ck (dz m) = some (((qa k u ck m).1 : Int), dz (qa k u ck m).2)
 | [] => rfl
 | (n, b, v) :: m => by
  show (if (.i64 : IntKind) = .i64 then if k = n then some ((ck : Int), I k :: I b :: u :: dz m) else (mD .i64 k u ck (dz m)).map fun q => (q.1, I n :: I b :: v :: q.2) else none) = _
  rw [if_pos rfl, mj k u ck m]
  simp only [qa]
  split <;> rfl
theorem mr (k : Int) : ∀ m, mC .i64 k (dz m) = some (dz (vZ k m))
 | [] => rfl
 | (n, b, v) :: m => by
  show (if (.i64 : IntKind) = .i64 then if k = n then some (dz m) else (mC .i64 k (dz m)).map (I n :: I b :: v :: ·) else none) = _
  rw [if_pos rfl, mr k m]
  simp only [vZ]
  split <;> rfl
abbrev Mp (b : Nat) : Value := .map (some b)
theorem ae.makeMap {ty : TypeId} (hw : Met x L ops gd) (h : ∀ b, ae P x ops mq (i + 1) l ((d, Mp b) :: L) ((b, ⟨2, false, bW .new⟩) :: O) K) :
  ae P x ops mq i ({ dst := some d, op := .makeMap ty none, type := t, pos := p, after := af, guard := gd } :: l) L O K :=
 ae.fresh (V := fun b => Mp b) rfl hw (fun s hs => rfl) h
theorem ae.lookup {y z : Operand} {ty e : TypeId} {b sz : Nat} {ro ok : Bool} {k : Int} {m : bf} {zv v : Value} (hw : Met x L ops gd) (hy : dc L y = some (Mp b)) (hz : dc L z = some (I k)) (hT : pZ P ty = some e) (hzv : zeroOf P e = some zv)
  (hk : aU O b ⟨sz, ro, bW m⟩) (hv : wg ok ((bH k m.kv).getD zv) (bH k m.kv).isSome = v) (h : ae P x ops mq (i + 1) l ((d, v) :: L) O K) :
  ae P x ops mq i ({ dst := some d, op := .lookup ty y z ok, type := t, pos := p, after := af, guard := gd } :: l) L O K :=
 ae.val (.inl rfl) hw (fun s hst => by
  subst hv
  simp only [eg, hst.t.ev hy, hst.t.ev hz, jf, hT, hzv, (hk _ hst.sat).rd, bW, lN, bf.kv]
  cases bH k (m.es.map fun e => (e.1, e.2.2)) <;> rfl) h
theorem ae.tg {o : Oper} (hq1 : mq.q i = false) (hw : Met x L ops o.guard)
  (ha : ∀ s, St x L O s → (∀ z ∈ mq.Z, z.1 < s.h.n) → ∃ v h', pK P o s = some (v, h') ∧ (∀ z ∈ mq.Z, h'.o z.1 = s.h.o z.1) ∧ ∃ L' O', St x L' O' (s.put o.dst v h') ∧ ae P x ops mq (i + 1) l L' O' K) : ae P x ops mq i (o :: l) L O K := by
 intro hd hq s hs hz
 obtain ⟨ho, hd'⟩ := fZ hd
 obtain ⟨v, h', h1, h2z, L', O', h3, h⟩ := ha s hs hz
 have hgrow := (sG h1 hs.sat.wf).2
 obtain ⟨s', g1, g2, g3⟩ := h hd' hq _ h3 (fun z hm => by rw [bk]; exact Nat.lt_of_lt_of_le (hz z hm) hgrow)
 refine ⟨s', .l8 ho (hw s hs.t o rfl) h1 hq1 ?_ h2z g1, by rw [g2, dR], g3⟩
 cases hx : mq.lz i with
 | false => rfl
 | true =>
  have := (jc hq ho).2 hx
  exfalso
  have e := nz h1
  unfold pK at h1
  split at h1
  · rename_i hop; rw [hop] at this; cases this
  · rename_i hop; rw [hop] at this; cases this
  · cases h1
theorem ae.mapUpdate {y z w : Operand} {ty e : TypeId} {j b : Nat} {k : Int} {m : bf} {v : Value} (hw : Met x L ops gd) (hy : dc L y = some (Mp b)) (hz : dc L z = some (I k)) (hv : dc L w = some v) (hT : pZ P ty = some e)
  (h : ae P x ops mq (i + 1) l L (O.set j (b, ⟨2, false, bW (m.put k v)⟩)) K) (hj : O[j]? = some (b, ⟨2, false, bW m⟩)) (hq : x.q = false := by exact rfl)
  (hcl : Clear O j mq.Z := by repeat (first | exact Clear.nil | refine Clear.cons 0 rfl rfl ?_ | refine Clear.cons 1 rfl rfl ?_ | refine Clear.cons 2 rfl rfl ?_ | refine Clear.cons 3 rfl rfl ?_ | refine Clear.cons 4 rfl rfl ?_))
  (hq1 : mq.q i = false := by first | exact rfl | exact (show o5 _ _ = false from by decide +kernel)) :
  ae P x ops mq i ({ dst := none, op := .mapUpdate ty y z w, type := t, pos := p, after := af, guard := gd } :: l) L O K :=
 ae.tg hq1 hw fun s hst hzz => by
  have hne := hcl.ne hst.sat hj
  obtain ⟨f, n, hb⟩ := hst.sat.at hj
  refine ⟨undef, s.h.set b (.cells 2 false f none (n + 1) (bW (m.put k v))), ?_, fun z hm => (by simp only [ai.set]; rw [if_neg (hne z hm)]), L, _, ⟨hst.m, hst.t, hst.sat.set hj hb, fun hx => (by rw [hq] at hx; cases hx)⟩, h⟩
  have hb' : s.h.o b = .cells 2 false f none n (bW m) := hb
  simp only [pK, hst.t.ev hy, hst.t.ev hz, hst.t.ev hv, pU, hT, hb', bW, mj, Option.map_some]
  rfl
theorem ae.delete {y z : Operand} {ty tz e : TypeId} {j b : Nat} {k : Int} {m : bf} (hw : Met x L ops gd) (hy : dc L y = some (Mp b)) (hz : dc L z = some (I k)) (hT : pZ P ty = some e)
  (h : ae P x ops mq (i + 1) l L (O.set j (b, ⟨2, false, bW (m.del k)⟩)) K) (hj : O[j]? = some (b, ⟨2, false, bW m⟩)) (hq : x.q = false := by exact rfl)
  (hcl : Clear O j mq.Z := by repeat (first | exact Clear.nil | refine Clear.cons 0 rfl rfl ?_ | refine Clear.cons 1 rfl rfl ?_ | refine Clear.cons 2 rfl rfl ?_ | refine Clear.cons 3 rfl rfl ?_ | refine Clear.cons 4 rfl rfl ?_))
  (hq1 : mq.q i = false := by first | exact rfl | exact (show o5 _ _ = false from by decide +kernel)) :
  ae P x ops mq i ({ dst := none, op := .call { callee := .builtin .delete, args := #[y, z], argTypes := #[ty, tz] }, type := t, pos := p, after := af, guard := gd } :: l) L O K :=
 ae.tg hq1 hw fun s hst hzz => by
  have hne := hcl.ne hst.sat hj
  obtain ⟨f, n, hb⟩ := hst.sat.at hj
  refine ⟨.tuple #[], s.h.set b (.cells 2 false f none (n + 1) (bW (m.del k))), ?_, fun z hm => (by simp only [ai.set]; rw [if_neg (hne z hm)]), L, _, ⟨hst.m, hst.t, hst.sat.set hj hb, fun hx => (by rw [hq] at hx; cases hx)⟩, h⟩
  have hb' : s.h.o b = .cells 2 false f none n (bW m) := hb
  simp only [pK, hst.t.ev hy, hst.t.ev hz, pY, hT, hb', bW, mr, Option.map_some]
  rfl
theorem ae.xD {y : Operand} {ty : TypeId} {f : Nat} {fs : Array Field} {g : Field} {cs : Array Value} {v : Value} (hw : Met x L ops gd) (hy : dc L y = some (.agg cs)) (hu : P.underlying ty = some (.struct fs)) (hg : fs[f]? = some g) (hv : oX P g.type cs g.offset = some v)
  (h : ae P x ops mq (i + 1) l ((d, v) :: L) O K) : ae P x ops mq i ({ dst := some d, op := .field ty y f, type := t, pos := p, after := af, guard := gd } :: l) L O K :=
 ae.val (.inl rfl) hw (fun s hst => by
  simp only [eg, hst.t.ev hy, lY, hu, hg, hv]
  rfl) h
theorem yE {ft : TypeId} {cs : Array Value} {off : Nat} {v : Value} (ht : de P ft = some false) (hv : cs[off]? = some v) : oX P ft cs off = some v := by
 unfold oX
 simp only [ht]
 exact hv
theorem Spec.direct {q : Bool} {f : FuncId} {args : Array Value} {Post : Value → an → Prop} (h : ∀ g, Sat g O → ∃ v h' O', lx P f args g v h' ∧ Post v O' ∧ Sat h' O' ∧ (q = true → Old g h')) : Spec P q f args O Post := fun g hg => by
 obtain ⟨v, h', O', a, b, c, e⟩ := h g hg
 exact ⟨v, h', O', .direct a, b, c, e⟩
def WD (P : Program) (ρ : dV) (c : Code) (s : bN) (K : bN → FuncId → Array Value → Prop) : Prop := codeOk s.m c = true → ∃ s' g lb, ee P vc ρ (.jK c s s' g lb) ∧ s'.m = s.m ∧ K s' g lb
def xh (P : Program) (x : Cx) (c : Code) (L : da) (O : an) (K : bN → FuncId → Array Value → Prop) : Prop := ∀ s, St x L O s → WD P x.ρ c s K
def qz (P : Program) (ρ : dV) (b : Code) (K : bN → FuncId → Array Value → Prop) : Exit → bN → Prop
 | .normal, s => WD P ρ b s K
 | _, _ => False
def xW (K : bN → FuncId → Array Value → Prop) (g : FuncId) (lb : Array Value) : Exit → bN → Prop
 | .normal, s | .ret, s => K s g lb
 | _, _ => False
theorem Fin.qz {b : Code} {K : bN → FuncId → Array Value → Prop} (h : xh P x b L O K) : Fin x L O .normal (qz P x.ρ b K) := h
theorem xh.seq {a b : Code} {K : bN → FuncId → Array Value → Prop} (h : WX P x a L O (qz P x.ρ b K)) : xh P x (.seq a b) L O K := by
 intro s hs hk
 simp only [codeOk, Bool.and_eq_true] at hk
 obtain ⟨e, s', h1, h2, h3⟩ := h s hs hk.1
 cases e with
 | normal =>
  obtain ⟨s2, g, lb, g1, g2, g3⟩ := (show WD P x.ρ b s' K from h3) (by rw [h2]; exact hk.2)
  exact ⟨s2, g, lb, .pF h1 g1, g2.trans h2, g3⟩
 | _ => exact h3.elim
theorem xh.here {id : Nat} {f : FuncId} {cs : Array Operand} {us : List Value} {d : Tmp} {t1 t2 : TypeId} {p1 p2 : String} {af1 af2 : Array Edge} {ats : Array TypeId} {rest : Code} {K : bN → FuncId → Array Value → Prop}
  (hc : sE L cs.toList = some us) (h : WX P x rest ((d, .func (.func f) #[] us.toArray) :: L) O (xW K f us.toArray)) :
  xh P x (.seq (.region id #[{ dst := some d, op := .makeFunc (.func f) #[] cs, type := t1, pos := p1, after := af1, guard := none }, { dst := none, op := .defer { callee := .value (.tmp d), args := #[], argTypes := ats }, type := t2, pos := p2, after := af2, guard := none }] false) rest) L O K := by
 intro s hs hk
 simp only [codeOk, Bool.and_eq_true] at hk
 have e2 : cs.map s.ev = us.toArray := by apply Array.toList_inj.1; rw [Array.toList_map, hs.t.sE hc]
 obtain ⟨e, s', h1, h2, h3⟩ := h (s.put (some d) (.func (.func f) #[] us.toArray) s.h) ⟨hs.m, hs.t.put _ _ _, hs.sat, hs.old⟩ hk.2
 have e3 : ∀ o : Oper, o.op = .makeFunc (.func f) #[] cs → eg P o s = some (.func (.func f) #[] us.toArray, s.h) := fun o ho => by
  unfold eg
  rw [ho]
  simp only [e2, List.map_toArray, List.map_nil]
 have he : (e = .normal ∨ e = .ret) ∧ K s' f us.toArray := by
  cases e with
  | normal => exact ⟨.inl rfl, h3⟩
  | ret => exact ⟨.inr rfl, h3⟩
  | _ => exact h3.elim
 refine ⟨s', f, us.toArray, .mh (n := 1) hk.1 rfl rfl rfl rfl rfl rfl (.op (v := .func (.func f) #[] us.toArray) (h' := s.h) rfl (mZ rfl) ?_ (fun q => (by cases q)) rfl (fun _ q => (by simp at q)) .nil) ?_ h1 he.1, h2, he.2⟩
 · exact e3 _ rfl
 · show (if d = d then _ else _) = _
   rw [if_pos rfl]
def kn (P : Program) (g : FuncId) (lb : Array Value) (O : an) (Post : an → Prop) : Prop :=
 ∀ h, Sat h O → ∃ gn gc e4 s4 vs2 O', P.funcs[g]? = some gn ∧ gn.body = some gc ∧ gn.name ≠ "runtime.NumGoroutine" ∧ ee P vc .late (.code gc (cz gn lb h) e4 s4) ∧ (e4 = .normal ∨ e4 = .ret) ∧ cr P gn s4 = some vs2 ∧ Post O' ∧ Sat s4.h O'
theorem kn.enter {f : FuncId} {fn : Func} {c : Code} {args : List Value} {m : Nat} {Post : an → Prop} (hf : P.funcs[f]? = some fn) (hb : fn.body = some c) (hm : max fn.ntmps args.length = m) (hok : codeOk m c = true) (hn : (fn.name != "runtime.NumGoroutine") = true)
  (h : ∀ h0, WX P ⟨m, false, h0, .late⟩ c (mf args 0) O (rv P fn ⟨m, false, h0, .late⟩ fun _ O' => Post O')) : kn P f args.toArray O Post := by
 intro g hg
 obtain ⟨e, s', h1, h2, h3⟩ := h g (cz fn args.toArray g) ⟨by simpa [cz] using hm, gB args 0 fun j v hj => by simp [cz, Array.getD_eq_getD_getElem?, hj], hg, fun _ => Old.refl g⟩ (by rw [show (cz fn args.toArray g).m = m from by simpa [cz] using hm]; exact hok)
 have key : (e = .normal ∨ e = .ret) ∧ ∃ vs O', cr P fn s' = some vs ∧ Post O' ∧ Sat s'.h O' ∧ (false = true → Old g s'.h) := by
  cases e with
  | normal => exact ⟨.inl rfl, h3⟩
  | ret => exact ⟨.inr rfl, h3⟩
  | _ => exact h3.elim
 obtain ⟨he, vs, O', k1, k2, k3, k4⟩ := key
 exact ⟨fn, c, e, s', vs, O', hf, hb, by simpa using hn, h1, he, k1, k2, k3⟩
def tb (P : Program) (fn : Func) (Post : Value → an → Prop) (s : bN) (g : FuncId) (lb : Array Value) : Prop :=
 ∃ gn gc e4 s4 vs2 vs O', P.funcs[g]? = some gn ∧ gn.body = some gc ∧ gn.name ≠ "runtime.NumGoroutine" ∧ ee P vc .late (.code gc (cz gn lb s.h) e4 s4) ∧ (e4 = .normal ∨ e4 = .ret) ∧ cr P gn s4 = some vs2 ∧
  cr P fn { s with h := s4.h } = some vs ∧ Post (eB vs) O' ∧ Sat s4.h O'
theorem Spec.xY {f : FuncId} {fn : Func} {c : Code} {args : List Value} {m : Nat} {Post : Value → an → Prop} (hf : P.funcs[f]? = some fn) (hb : fn.body = some c) (hm : max fn.ntmps args.length = m) (hok : codeOk m c = true)
  (h : ∀ h0, xh P ⟨m, false, h0, .none⟩ c (mf args 0) O (tb P fn Post)) : Spec P false f args.toArray O Post := by
 intro g hg
 obtain ⟨s', g1, lb, h1, h2, gn, gc, e4, s4, vs2, vs, O', k1, k2, k3, k4, k5, k6, k7, k8, k9⟩ := h g (cz fn args.toArray g) ⟨by simpa [cz] using hm, gB args 0 fun j v hj => by simp [cz, Array.getD_eq_getD_getElem?, hj], hg, fun q => (by cases q)⟩ (by rw [show (cz fn args.toArray g).m = m from by simpa [cz] using hm]; exact hok)
 exact ⟨eB vs, s4.h, O', .j8 hf hb h1 k1 k2 k3 k4 k5 k6 k7, k8, k9, fun q => by cases q⟩
theorem Fin.late {fn : Func} {Post : Value → an → Prop} {rs : List ResultVar} {e : Exit} {g : FuncId} {lb : Array Value} {O1 : an} {Post1 : an → Prop} (he : e = .normal ∨ e = .ret) (hr : fn.results.toList = rs) (hO : ∀ h, Sat h O → Sat h O1) (hs : kn P g lb O1 Post1)
  (h : ∀ O2, Post1 O2 → ∃ vs, lX P L O2 rs vs ∧ Post (eB vs) O2) : Fin x L O e (xW (tb P fn Post) g lb) := by
 intro s hst
 obtain ⟨gn, gc, e4, s4, vs2, O', k1, k2, k3, k4, k5, k6, k7, k8⟩ := hs s.h (hO _ hst.sat)
 obtain ⟨vs, q1, q2⟩ := h O' k7
 have hres : cr P fn { s with h := s4.h } = some vs := by
  unfold cr
  rw [hr]
  exact lX.ok (x := ⟨s.m, false, s4.h, .none⟩) (s := { s with h := s4.h }) ⟨rfl, hst.t, k8, fun q => by cases q⟩ q1
 have : tb P fn Post s g lb := ⟨gn, gc, e4, s4, vs2, vs, O', k1, k2, k3, k4, k5, k6, hres, q2, k8⟩
 rcases he with rfl | rfl <;> exact this
end Go.Proofs.YthekokdpplobhaaGreat.Eng
set_option linter.unusedVariables false
set_option linter.unusedSimpArgs false
namespace Go.Proofs.YthekokdpplobhaaGreat.Eng
variable {P : Program} {x : Cx} {L L' : da} {O O' : an} {base : Nat} {ι ι1 ι2 : Lay} {h h' h1 h2 : ai} {w w1 w2 : World}
theorem WX.wp (hm : P.follows .mixedOrders = true) {c : Code} {Q : Exit → bN → Prop} (hwx : WX P x c L O Q) (hx : x.ρ = .late) (hk : codeOk x.m c = true) {s : bN} {a : Act} {Q' : Exit → Act → World → Prop} (hst : St x L O s) (hs : eK base ι s a w)
  (hq : ∀ e s' ι' a' w', Q e s' → eK base ι' s' a' w' → bw base ι ι' s.h s'.h w → bg ι s.h s'.h w w' → a'.defers = a.defers → dC s.h s'.h → Q' e a' w') : c.wpIn (FR none) 0 P Q' a w := by
 obtain ⟨e, s', b1, _, b2⟩ := hwx s hst (by rw [hst.m]; exact hk)
 rw [hx] at b1
 have hc : nS P .late c s e s' := sound (fun _ _ _ h => nm hm h) b1
 refine hc.2.2.1 none base ι a w Q' (fun _ => rfl) hs db.none.late fun ι' a' w' ds r1 r2 r3 r4 r5 => hq e s' ι' a' w' b2 r1 r2 r3 ?_ (fo b1)
 rw [r4, r5.2.2 rfl]; rfl
theorem ae.wp (hm : P.follows .mixedOrders = true) {ops : Array Oper} {i : Nat} {l : List Oper} {K : bN → Prop} (hwx : ae P x ops mK i l L O K) (hx : x.ρ = .late) (hd : Dr ops i l) (more : List Nat) (hk : fG ops x.m = true) {s : bN} {a : Act} {Q : Exit → Act → World → Prop} (hst : St x L O s) (hs : eK base ι s a w)
  (hq : ∀ s' ι' a' w', K s' → eK base ι' s' a' w' → bw base ι ι' s.h s'.h w → bg ι s.h s'.h w w' → a'.defers = a.defers → s'.m = x.m → dC s.h s'.h → wpOpsIn (FR none) 0 P ops Q more a' w') : wpOpsIn (FR none) 0 P ops Q (List.range' i l.length ++ more) a w := by
 obtain ⟨s', b1, b0, b2⟩ := hwx hd (og ops) s hst (fun z hz => by simp [mK] at hz)
 have e1 : mK.yu x.ρ = .late := by rw [hx]; rfl
 rw [e1] at b1
 have hc : hY P .late ops mK.q mK.lz mK.Z (List.range' i l.length) s s' := sound (fun _ _ _ h => nm hm h) b1
 exact (jZ hc (by rw [hst.m]; exact hk) more).2 none base ι a w Q hs db.none.late fun ι' a' w' r1 r2 r3 r4 => hq s' ι' a' w' b2 r1 r2 r3 r4 (b0.trans hst.m) (fo b1)
theorem bn.drew (hr : bn base ι h w) : bn base ι h w.drew := ⟨hr.lt, hr.gG, hr.na, hr.val, hr.room, hr.apart, hr.link, hr.wf, hr.jw, hr.uniq, hr.out, hr.maps⟩
theorem bn.pre (hr : bn base ι h w) (hs : w.heap.size ≤ w1.heap.size) (hb : ∀ B, B < w.heap.size → w1.heap[B]? = w.heap[B]?) : bn base ι h w1 := by
 refine ⟨hr.lt, fun b e he => Nat.lt_of_lt_of_le (hr.gG b e he) hs, hr.na, fun b e c i v he hmp hc hi => ?_, fun b e sz f st k c i he ho hi => ?_, hr.apart, hr.link, hr.wf, hr.jw, hr.uniq, hr.out, fun b e sz ro f st k c he hmp ho => ?_⟩
 · obtain ⟨v', q1, q2⟩ := hr.val b e c i v he hmp hc hi
   exact ⟨v', by rw [(fQ (hb _ (hr.gG b e he))).1]; exact q1, q2⟩
 · obtain ⟨⟨v, q1⟩, q2⟩ := hr.room b e sz f st k c i he ho hi
   have := fQ (off := e.off + i) (hb _ (hr.gG b e he))
   exact ⟨⟨v, by rw [this.1]; exact q1⟩, by rw [this.2]; exact q2⟩
 · obtain ⟨q1, q2⟩ := hr.maps b e _ _ _ _ _ _ he hmp ho
   exact ⟨q1, q2.world (hb _ (hr.gG b e he))⟩
theorem vj {c : List (Int × Nat × Value)} : ∀ {es : List MapEntry}, cL ι (dz c) es → ∀ e ∈ es, ∃ k v, (k, e.born, v) ∈ c ∧ e.key = I k ∧ aP ι v e.val := by
 induction c with
 | nil => intro es hp e he; cases hp; simp at he
 | cons p c ih =>
  obtain ⟨k, n, v⟩ := p
  intro es hp e he
  unfold dz at hp
  generalize hX : I k :: I n :: v :: dz c = X at hp
  cases hp with
  | nil => cases hX
  | cons h1 h2 h3 h4 =>
   rename_i c2 e2 es2
   injection hX with q1 q2
   injection q2 with q3 q4
   injection q4 with q5 q6
   subst q1 q5 q6
   injection q3 with _ q3
   rcases List.mem_cons.1 he with rfl | he
   · exact ⟨k, v, by rw [show n = e.born by omega]; exact List.mem_cons_self .., h1, h3⟩
   · obtain ⟨k2, v2, a1, a2, a3⟩ := ih h4 e he
     exact ⟨k2, v2, List.mem_cons_of_mem _ a1, a2, a3⟩
theorem uO {c : List (Int × Nat × Value)} : ∀ {es : List MapEntry}, cL ι (dz c) es → ∀ k n v, (k, n, v) ∈ c → ∃ e ∈ es, e.born = n := by
 induction c with
 | nil => intro es hp k n v hc; simp at hc
 | cons p c ih =>
  obtain ⟨k, n, v⟩ := p
  intro es hp k2 n2 v2 hc
  unfold dz at hp
  generalize hX : I k :: I n :: v :: dz c = X at hp
  cases hp with
  | nil => cases hX
  | cons h1 h2 h3 h4 =>
   rename_i c3 e2 es2
   injection hX with q1 q2
   injection q2 with q3 q4
   injection q4 with q5 q6
   subst q1 q5 q6
   injection q3 with _ q3
   rcases List.mem_cons.1 hc with hc | hc
   · injection hc with _ hc; injection hc with hc _
     exact ⟨e2, List.mem_cons_self .., by omega⟩
   · obtain ⟨e, a1, a2⟩ := ih h4 k2 n2 v2 hc
     exact ⟨e, List.mem_cons_of_mem _ a1, a2⟩
structure Iter (base : Nat) (ι : Lay) (bm br : Nat) (mx : bf) (seen : List Nat) (h : ai) (w : World) : Prop where
 ex : ∃ em er, ι bm = some em ∧ em.mp = true ∧ ι br = some er ∧ er.off = 0 ∧ er.mp = false ∧ tA ι h er.block ∧ w.heap[er.block]? = some (.mapIter (some em.block) mx.ck seen.reverse.toArray mx.ck)
 ob : ∃ sz ro f st k, h.o bm = .cells sz ro f st k (bW mx)
theorem Iter.aq {bm br : Nat} {mx mx' : bf} {seen : List Nat} (hi : Iter base ι bm br mx seen h w) (hr : bn base ι h w) (hm : bw base ι ι1 h h1 w) (hk : bg ι h h1 w w1) (hck : mx'.ck = mx.ck) (hob : ∃ sz ro f st k, h1.o bm = .cells sz ro f st k (bW mx')) : Iter base ι1 bm br mx' seen h1 w1 := by
 obtain ⟨em, er, q1, q2, q3, q4, q5, q6, q7⟩ := hi.ex
 exact ⟨⟨em, er, bw.lay hr hm _ _ q1, q2, bw.lay hr hm _ _ q3, q4, q5, q6.more hr hm (hr.gG _ _ q3), by rw [q6.aq hr hm hk (hr.gG _ _ q3), hck]; exact q7⟩, hob⟩
theorem tP {bm br : Nat} {mx : bf} {seen : List Nat} (hi : Iter base ι bm br mx seen h w) (hr : bn base ι h w) {ty : TypeId} {er : Ext} (her : ι br = some er) :
  ((∀ e ∈ mx.es, e.2.1 ∈ seen) ∧ (Instr.next (.pointer (some ⟨er.block, 0, none⟩)) false ty).run P w = .ok (.tuple #[.bool false]) w) ∨
  ∃ k n v v' w1, (k, n, v) ∈ mx.es ∧ n ∉ seen ∧ aP ι v v' ∧ (Instr.next (.pointer (some ⟨er.block, 0, none⟩)) false ty).run P w = .ok (.tuple #[.bool true, I k, v']) w1 ∧ bn base ι h w1 ∧ w1.heap.size = w.heap.size ∧ (∀ ι0 h0 w0, bg ι0 h0 h w0 w → w0.heap.size ≤ er.block → bg ι0 h0 h w0 w1) ∧ Iter base ι bm br mx (n :: seen) h w1 ∧
   (Instr.entry (.pointer (some ⟨er.block, 0, none⟩))).run P w1 = .ok (.tuple #[I k, v']) w1 := by
 obtain ⟨em, er', q1, q2, q3, q4, q5, q6, q7⟩ := hi.ex
 obtain rfl := Option.some.inj (her.symm.trans q3)
 obtain ⟨sz, ro, f, st, kk, hob⟩ := hi.ob
 obtain ⟨hone, es, clock, hes, c, hc0, hp, hp2, hp3⟩ := hr.maps bm em _ _ _ _ _ _ q1 q2 hob
 unfold bW at hc0
 injection hc0 with e1 e2
 injection e1 with _ e1
 have e1 : clock = mx.ck := by omega
 subst e1 e2
 have hne : er.block ≠ em.block := fun q => by
  have := q6 bm em q1 q.symm
  rw [hob] at this
  cases this
 rcases run_next_at (P := P) w ty er.block em.block mx.ck mx.ck seen.reverse.toArray es mx.ck q7 hes hp2 (Nat.le_refl _) with ⟨a1, a2⟩ | ⟨e, he, w1, a1, a2⟩
 · refine .inl ⟨fun e he => ?_, a2⟩
   obtain ⟨k, n, v⟩ := e
   obtain ⟨e, b1, b2⟩ := uO hp k n v he
   have : seen.reverse.toArray.contains e.born = true := by
    cases hc : seen.reverse.toArray.contains e.born with
    | true => rfl
    | false =>
     exfalso
     have hm : e ∈ leftOf es seen.reverse.toArray := Array.mem_filter.2 ⟨Array.mem_toList_iff.1 b1, by rw [hc]; rfl⟩
     have := Array.size_pos_of_mem hm
     omega
   rw [b2] at this
   simpa using this
 · right
   have hm := Array.mem_filter.1 (Array.mem_toList_iff.1 he)
   obtain ⟨k, v, b1, b2, b3⟩ := vj hp e (Array.mem_toList_iff.2 hm.1)
   have hns : e.born ∉ seen := by
    have := hm.2
    simpa using this
   have hlt : er.block < w.heap.size := hr.gG _ _ her
   have hset : ∀ w2 : World, ChangeMaps.setBlock w2 er.block (.mapIter (some em.block) mx.ck (seen.reverse.toArray.push e.born) mx.ck) = w2.putObj er.block (.mapIter (some em.block) mx.ck (seen.reverse.toArray.push e.born) mx.ck) := fun w2 => rfl
   have hpush : seen.reverse.toArray.push e.born = (e.born :: seen).reverse.toArray := by simp
   rw [b2, hset] at a2
   have hw1 : w1.heap = w.heap ∧ w1.os = w.os ∧ w1.tape = w.tape ∧ w1.output = w.output ∧ bn base ι h w1 := by
    rcases a1 with rfl | rfl
    · exact ⟨rfl, rfl, rfl, rfl, hr⟩
    · exact ⟨rfl, rfl, rfl, rfl, hr.drew⟩
   obtain ⟨g1, g2, g3, g4, g5⟩ := hw1
   have hlt1 : er.block < w1.heap.size := by rw [g1]; exact hlt
   generalize hobj : Obj.mapIter (some em.block) mx.ck (seen.reverse.toArray.push e.born) mx.ck = o at a2
   have hoth : ∀ B, B ≠ er.block → (w1.putObj er.block o).heap[B]? = w.heap[B]? := fun B hB => by rw [World.putObj_heap_other hB, g1]
   have hd : ∀ ι0 h0 w0, bg ι0 h0 h w0 w → bg ι0 h0 h w0 w1 := fun ι0 h0 w0 hk => by
    rcases a1 with rfl | rfl
    · exact hk
    · exact ⟨hk.os, hk.tape, hk.output, hk.size, hk.block, hk.cell, hk.there⟩
   refine ⟨k, e.born, v, e.val, _, b1, hns, b3, a2, g5.put q6 o, by rw [World.putObj_size, g1], fun ι0 h0 w0 hk hB => (hd ι0 h0 w0 hk).put hB o, ⟨⟨em, er, q1, q2, her, q4, q5, q6, ?_⟩, ⟨_, _, _, _, _, hob⟩⟩, ?_⟩
   · rw [World.putObj_heap_same hlt1, ← hobj, hpush]
   · refine (run_entry_at (P := P) (w1.putObj er.block o) er.block em.block mx.ck seen.reverse.toArray es mx.ck e ?_ ?_ (Array.mem_toList_iff.2 hm.1) ?_).trans (by rw [b2])
     · rw [World.putObj_heap_same hlt1, ← hobj]
     · rw [hoth _ (Ne.symm hne)]; exact hes
     · have p2 : (es.toList.map (·.born)).Pairwise (· < ·) := List.pairwise_map.2 hp3
       exact p2.imp fun hlt => Nat.ne_of_lt hlt
theorem eR {ops : Array Oper} {i : Nat} {rest : List Nat} {o : Oper} {a : Act} {v : Value} {Q : Exit → Act → World → Prop} (ho : ops[i]? = some o) (hg : o.guard = none) (hnd : ∀ c, o.op ≠ .defer c) (hrun : (execOp a.eval o).run P w = .ok (.value v) w1)
  (h : wpOpsIn (FR none) 0 P ops Q rest (a.put o.dst v) w1) : wpOpsIn (FR none) 0 P ops Q (i :: rest) a w := by
 rw [wpOpsIn_cons]
 unfold wpOpIn
 simp only [ho]
 have hwant : Region.wanted o (yielded ops a.tmps) = true := by unfold Region.wanted; rw [hg]
 rw [hwant, if_pos rfl]
 refine ⟨fun _ _ => trivial, ?_⟩
 rw [Oper.semAt_eq _ _ _ hnd, hrun]
 exact h
theorem o3 {o : Oper} {ρ : Operand → Value} {y : Operand} {b : Bool} {v v0 : Value} (ho : o.op = .next y b) (hy : ρ y = v0) (h : (Instr.next v0 b o.type).run P w = .ok v w1) : (execOp ρ o).run P w = .ok (.value v) w1 := by
 subst hy
 unfold execOp
 rw [ho]
 simp only [Sem.run_bind, h, Result.andThen_ok, Sem.run_pure]
theorem so {o : Oper} {ρ : Operand → Value} {y : Operand} {v v0 : Value} (ho : o.op = .entry y) (hy : ρ y = v0) (h : (Instr.entry v0).run P w = .ok v w1) : (execOp ρ o).run P w = .ok (.value v) w1 := by
 subst hy
 unfold execOp
 rw [ho]
 simp only [Sem.run_bind, h, Result.andThen_ok, Sem.run_pure]
theorem l6 {o : Oper} {ρ : Operand → Value} {y : Operand} {i : Nat} {v : Value} {vs : Array Value} (ho : o.op = .extract y i) (hy : ρ y = .tuple vs) (h : vs[i]? = some v) : (execOp ρ o).run P w = .ok (.value v) w := by
 unfold execOp
 rw [ho]
 simp only [hy, Instr.extract, h, Sem.run_bind, Sem.run_pure, Result.andThen_ok]
def stamps (mx : bf) : List Nat := mx.es.map (·.2.1)
def gj (ns seen : List Nat) : Nat := (ns.filter fun n => !seen.contains n).length
theorem pA {seen : List Nat} {n : Nat} (hn : n ∉ seen) : ∀ {ns : List Nat}, n ∈ ns → gj ns (n :: seen) < gj ns seen
 | m :: ns, hm => by
  have hle : ∀ l : List Nat, gj l (n :: seen) ≤ gj l seen := fun l => by
   unfold gj
   induction l with
   | nil => exact Nat.le_refl _
   | cons a l ih =>
    simp only [List.contains_cons] at ih
    simp only [List.filter_cons, List.contains_cons]
    by_cases ha : seen.contains a = true
    · simp only [ha, Bool.or_true, Bool.not_true, Bool.false_eq_true, if_false]; exact ih
    · have ha' : seen.contains a = false := by simpa using ha
      simp only [ha', Bool.or_false, Bool.not_false, if_true, List.length_cons]
      split
      · rw [List.length_cons]; omega
      · omega
  have step : ∀ a, gj (a :: ns) seen = (if seen.contains a then 0 else 1) + gj ns seen := fun a => by
   unfold gj
   rw [List.filter_cons]
   cases seen.contains a <;> simp <;> omega
  have step2 : ∀ a, gj (a :: ns) (n :: seen) = (if (n :: seen).contains a then 0 else 1) + gj ns (n :: seen) := fun a => by
   unfold gj
   rw [List.filter_cons]
   cases (n :: seen).contains a <;> simp <;> omega
  rw [step, step2]
  rcases List.mem_cons.1 hm with rfl | hm
  · have h1 : seen.contains n = false := by simpa using hn
    have h2 : (n :: seen).contains n = true := by simp
    rw [h1, h2]
    have := hle ns
    simp
    omega
  · have := pA hn hm
    have h3 : (if (n :: seen).contains m then 0 else 1) ≤ (if seen.contains m then 0 else 1) := by
     rw [List.contains_cons]
     cases seen.contains m <;> cases m == n <;> simp
    omega
theorem sh (hm : P.follows .mixedOrders = true) {β : Type} (LI : β → da) (OI : β → an) (Inv : bf → List Nat → β → Prop) {bm br : Nat} {b1 b2 i3 i4 : Nat} {it tn tk te : Tmp} {t1 t2 t3 : TypeId} {p1 p2 p3 : String} {af1 af2 af3 : Array Edge} {eops : Array Oper} {el : List Oper} {c2 : Code}
  (hx : x.ρ = .late) (hel : eops.toList = { dst := some te, op := .entry (.tmp it), type := t3, pos := p3, after := af3, guard := none } :: el) (hke : fG eops x.m = true) (hkc : codeOk x.m c2 = true) (htn : tn < x.m) (htk : tk < x.m) (hte : te < x.m) (hne : (Nat.beq tn it || Nat.beq tk it) = false)
  (hit : ∀ mx seen y, Inv mx seen y → jQ (LI y) it = some (Ptr br 0)) (hmap : ∀ mx seen y, Inv mx seen y → ∃ sz ro, aU (OI y) bm ⟨sz, ro, bW mx⟩)
  (hround : ∀ mx seen y k n v, Inv mx seen y → (k, n, v) ∈ mx.es → n ∉ seen →
   ae P x eops mK 1 el ((te, .tuple #[I k, v]) :: (tk, .bool true) :: (tn, .tuple #[.bool true, I k, v]) :: LI y) (OI y) fun s => W P .late c2 s fun e s' => e = .normal ∧ ∃ mx' y', Inv mx' (n :: seen) y' ∧ mx'.ck = mx.ck ∧ stamps mx' = stamps mx ∧ St x (LI y') (OI y') s')
  {ι0 : Lay} {h0 : ai} {w0 : World} (hr0 : bn base ι0 h0 w0) {Q : Exit → Act → World → Prop} {D : List Deferred}
  (hend : ∀ mx seen y ι s a w, Inv mx seen y → (∀ e ∈ mx.es, e.2.1 ∈ seen) → St x ((tk, .bool false) :: (tn, .tuple #[.bool false]) :: LI y) (OI y) s → eK base ι s a w → bw base ι0 ι h0 s.h w0 → bg ι0 h0 s.h w0 w → a.defers = D → dC h0 s.h → Q .normal a w)
  {mx : bf} {y : β} (hI : Inv mx [] y) {s : bN} {a : Act} (hst : St x (LI y) (OI y) s) (hs : eK base ι s a w) (hm0 : bw base ι0 ι h0 s.h w0) (hk0 : bg ι0 h0 s.h w0 w) (hD : a.defers = D) (hsy0 : dC h0 s.h) (hi : Iter base ι bm br mx [] s.h w) (hbr : ∀ er, ι br = some er → w0.heap.size ≤ er.block) :
  (Code.block b1 (.loop (.seq (.region i3 #[{ dst := some tn, op := .next (.tmp it) false, type := t1, pos := p1, after := af1, guard := none }, { dst := some tk, op := .extract (.tmp tn) 0, type := t2, pos := p2, after := af2, guard := none }] false)
   (.seq (.cond (.tmp tk) .skip (.exit b1)) (.block b2 (.seq (.region i4 eops false) c2)))))).wpIn (FR none) 0 P Q a w := by
 refine wpIn_block (wpIn_loop_rounds (gj (stamps mx) [] + 1) ?_)
 have key : ∀ (m : Nat) (seen : List Nat) (mx : bf) (y : β) (ι : Lay) (s : bN) (a : Act) (w : World), gj (stamps mx) seen ≤ m → Inv mx seen y → St x (LI y) (OI y) s → eK base ι s a w → bw base ι0 ι h0 s.h w0 → bg ι0 h0 s.h w0 w → a.defers = D → dC h0 s.h → Iter base ι bm br mx seen s.h w → (∀ er, ι br = some er → w0.heap.size ≤ er.block) →
   Code.roundsIn (FR none) 0 P (.seq (.region i3 #[{ dst := some tn, op := .next (.tmp it) false, type := t1, pos := p1, after := af1, guard := none }, { dst := some tk, op := .extract (.tmp tn) 0, type := t2, pos := p2, after := af2, guard := none }] false)
   (.seq (.cond (.tmp tk) .skip (.exit b1)) (.block b2 (.seq (.region i4 eops false) c2)))) (Exit.inBlock b1 Q) (m + 1) a w := by
  intro m
  induction m using Nat.strongRecOn with
  | _ m ih =>
   intro seen mx y ι s a w hle hI hst hs hm0 hk0 hD hsy hi hbr
   obtain ⟨em, er, q1, q2, q3, q4, q5, q6, q7⟩ := hi.ex
   have hB := hbr er q3
   have hev : a.eval (.tmp it) = .pointer (some ⟨er.block, 0, none⟩) := by
    have h1 := hs.tmps it
    rw [hst.t it _ (hit mx seen y hI)] at h1
    obtain ⟨e, he, _, hpe⟩ := h1.kL
    obtain rfl := Option.some.inj (q3.symm.trans he)
    show a.tmps.getD it undef = _
    rw [hpe, q4]
   have dtn : ∀ d, some tn = some d → d < s.m := fun d hd => by injection hd with hd; rw [hst.m, ← hd]; exact htn
   have dtk : ∀ d, some tk = some d → d < s.m := fun d hd => by injection hd with hd; rw [hst.m, ← hd]; exact htk
   have dte : ∀ d, some te = some d → d < s.m := fun d hd => by injection hd with hd; rw [hst.m, ← hd]; exact hte
   have evp : ∀ (a : Act) (d : Tmp) (v : Value) (m : Nat), a.tmps.size = m → d < m → (a.put (some d) v).eval (.tmp d) = v := fun a d v m h1 h2 => by
    show (a.put (some d) v).tmps.getD d undef = v
    rw [fP h1 (fun d' hd => by injection hd with hd; rw [← hd]; exact h2), if_pos rfl]
   rw [roundsIn_succ]
   refine wpIn_seq (wpIn_region ?_)
   show wpOpsIn (FR none) 0 P _ _ [0, 1] a w
   rcases tP hi hs.heap (ty := t1) q3 with ⟨g1, g2⟩ | ⟨k, n, v, v', w1, g1, g2, g3, g4, g5, g6, g7, g8, g9⟩
   · have hs1 := hs.put (dst := some tn) (v := .tuple #[.bool false]) (v' := .tuple #[.bool false]) dtn (bw.refl hs.heap) (.tuple rfl fun i u u' hu hu' => by
       rcases i with _ | i
       · simp at hu hu'; subst hu hu'; exact .atom rfl
       · simp at hu) hs.heap (Nat.le_refl _)
     have hs2 := hs1.put (dst := some tk) (v := .bool false) (v' := .bool false) (fun d hd => by rw [dR]; exact dtk d hd) (bw.refl hs1.heap) (.atom rfl) hs1.heap (Nat.le_refl _)
     refine eR (v := .tuple #[.bool false]) (w1 := w) rfl rfl (fun c h => by cases h) ?_ ?_
     · exact o3 rfl hev g2
     refine eR (v := .bool false) (w1 := w) rfl rfl (fun c h => by cases h) ?_ ?_
     · exact l6 rfl (show (a.put (some tn) (.tuple #[.bool false])).eval (.tmp tn) = .tuple #[.bool false] from evp a tn _ s.m hs.size (dtn _ rfl)) rfl
     show (Code.seq (.cond (.tmp tk) .skip (.exit b1)) (.block b2 (.seq (.region i4 eops false) c2))).wpIn (FR none) 0 P _ _ w
     refine wpIn_seq (wpIn_cond_false (evp _ tk _ s.m (hs1.size.trans (dR _ _ _ _)) (dtk _ rfl)) (wpIn_exit ?_))
     show (if b1 = b1 then _ else _)
     rw [if_pos rfl]
     refine hend mx seen y ι _ _ w hI g1 ⟨?_, (hst.t.put tn _ _).put tk _ _, ?_, fun q => ?_⟩ hs2 (by rw [bk]; exact hm0) (by rw [bk]; exact hk0) hD (by rw [bk]; exact hsy)
     · rw [dR, dR]; exact hst.m
     · rw [bk]; exact hst.sat
     · rw [bk]; exact hst.old q
   · have hs1 := hs.put (dst := some tn) (v := .tuple #[.bool true, I k, v]) (v' := .tuple #[.bool true, I k, v']) (w1 := w1) dtn (bw.refl hs.heap) (.tuple rfl fun i u u' hu hu' => by
       rcases i with _ | _ | _ | i
       · simp at hu hu'; subst hu hu'; exact .atom rfl
       · simp at hu hu'; subst hu hu'; exact .atom rfl
       · simp at hu hu'; subst hu hu'; exact g3
       · simp at hu) g5 (by omega)
     have hs2 := hs1.put (dst := some tk) (v := .bool true) (v' := .bool true) (fun d hd => by rw [dR]; exact dtk d hd) (bw.refl hs1.heap) (.atom rfl) hs1.heap (Nat.le_refl _)
     have hs3 := hs2.put (dst := some te) (v := .tuple #[I k, v]) (v' := .tuple #[I k, v']) (fun d hd => by rw [dR, dR]; exact dte d hd) (bw.refl hs2.heap) (.tuple rfl fun i u u' hu hu' => by
      rcases i with _ | _ | i
      · simp at hu hu'; subst hu hu'; exact .atom rfl
      · simp at hu hu'; subst hu hu'; exact g3
      · simp at hu) hs2.heap (Nat.le_refl _)
     refine eR (v := .tuple #[.bool true, I k, v']) (w1 := w1) rfl rfl (fun c h => by cases h) ?_ ?_
     · exact o3 rfl hev g4
     refine eR (v := .bool true) (w1 := w1) rfl rfl (fun c h => by cases h) ?_ ?_
     · exact l6 rfl (show (a.put (some tn) (.tuple #[.bool true, I k, v'])).eval (.tmp tn) = .tuple #[.bool true, I k, v'] from evp a tn _ s.m hs.size (dtn _ rfl)) rfl
     show (Code.seq (.cond (.tmp tk) .skip (.exit b1)) (.block b2 (.seq (.region i4 eops false) c2))).wpIn (FR none) 0 P _ _ w1
     refine wpIn_seq (wpIn_cond_true (evp _ tk _ s.m (hs1.size.trans (dR _ _ _ _)) (dtk _ rfl)) (wpIn_skip ?_))
     show (Code.block b2 (.seq (.region i4 eops false) c2)).wpIn (FR none) 0 P _ _ w1
     refine wpIn_block (wpIn_seq (wpIn_region ?_))
     have hsz : eops.size = el.length + 1 := by rw [← Array.length_toList, hel]; rfl
     have hrg : List.range eops.size = 0 :: (List.range' 1 el.length ++ []) := by rw [hsz, List.range_eq_range', List.range'_succ, List.append_nil]
     rw [hrg]
     have hev2 : ((a.put (some tn) (.tuple #[.bool true, I k, v'])).put (some tk) (.bool true)).eval (.tmp it) = .pointer (some ⟨er.block, 0, none⟩) := by
      rw [← hev]
      show (Act.put _ _ _).tmps.getD it undef = a.tmps.getD it undef
      have n1 : tn ≠ it := fun e => by rw [e] at hne; simp at hne
      have n2 : tk ≠ it := fun e => by rw [e] at hne; simp at hne
      rw [fP (hs1.size.trans (dR _ _ _ _)) dtk, if_neg (fun e => n2 (by injection e)), fP hs.size dtn, if_neg (fun e => n1 (by injection e))]
     refine eR (v := .tuple #[I k, v']) (w1 := w1) (by rw [← Array.getElem?_toList, hel]; rfl) rfl (fun c h => by cases h) ?_ ?_
     · exact so rfl hev2 g9
     have hst3 : St x ((te, .tuple #[I k, v]) :: (tk, .bool true) :: (tn, .tuple #[.bool true, I k, v]) :: LI y) (OI y) (((s.put (some tn) (.tuple #[.bool true, I k, v]) s.h).put (some tk) (.bool true) s.h).put (some te) (.tuple #[I k, v]) s.h) :=
      ⟨hst.m, ((hst.t.put tn _ s.h).put tk _ s.h).put te _ s.h, hst.sat, hst.old⟩
     refine ae.wp hm (hround mx seen y k n v hI g1 g2) hx ⟨[], by rw [hel, List.append_nil]; rfl⟩ [] hke hst3 hs3 fun s4 ι4 a4 w4 hK r1 r2 r3 r4 r5 r6 => ?_
     obtain ⟨e5, s5, b5, _, rfl, mx', y', i1, i2, i3, i4'⟩ := hK (by rw [r5]; exact hkc)
     have hc5 : nS P .late c2 s4 .normal s5 := sound (fun _ _ _ h => nm hm h) b5
     refine hc5.2.2.1 none base ι4 a4 w4 _ (fun _ => rfl) r1 db.none.late fun ι5 a5 w5 ds u1 u2 u3 u4 u5 => ?_
     have hlt := pA (seen := seen) g2 (ns := stamps mx) (List.mem_map.2 ⟨_, g1, rfl⟩)
     obtain ⟨m', rfl⟩ : ∃ m', m = m' + 1 := ⟨m - 1, by omega⟩
     show Code.roundsIn (FR none) 0 P _ _ (m' + 1) a5 w5
     have hr1 : bn base ι s.h w1 := g5
     have mm := bw.trans hr1 r1.heap r2 u2 r3.size
     have kk := bg.trans hr1 r1.heap r2 u2 r3 u3
     have kw := g7 ι0 h0 w0 hk0 hB
     obtain ⟨sz, ro, hkn⟩ := hmap mx' (n :: seen) y' i1
     obtain ⟨f, kv, hob⟩ := hkn s5.h i4'.sat
     refine ih m' (by omega) (n :: seen) mx' y' ι5 s5 a5 w5 (by rw [i3]; omega) i1 i4' u1 (bw.trans hr0 hr1 hm0 mm kw.size) (bg.trans hr0 hr1 hm0 mm kw kk) ?_ (hsy.trans (dC.trans r6 (fo b5))) (g8.aq hr1 mm kk i2 ⟨_, _, _, _, _, hob⟩) fun er' her' => ?_
     · rw [u4, u5.2.2 rfl, List.nil_append, r4]; exact hD
     · rw [bw.lay hr1 mm _ _ q3] at her'
       obtain rfl := Option.some.inj her'
       exact hB
 exact key _ [] mx y ι s a w (Nat.le_refl _) hI hst hs hm0 hk0 hD hsy0 hi hbr
theorem sH {o : Oper} {ρ : Operand → Value} {y : Operand} {ty : TypeId} {v v0 : Value} (ho : o.op = .range ty y) (hy : ρ y = v0) (h : (Instr.range ty v0).run P w = .ok v w1) : (execOp ρ o).run P w = .ok (.value v) w1 := by
 subst hy
 unfold execOp
 rw [ho]
 simp only [Sem.run_bind, h, Result.andThen_ok, Sem.run_pure]
theorem Sat.fm {O : an} (hsat : Sat h O) : Sat h.fm O := ⟨hsat.nd, fun p hp => hsat.is p hp, ⟨fun b sz ro f m k c ho => by
      obtain ⟨q1, q2⟩ := hsat.wf.wf b sz ro f m k c ho
      exact ⟨Nat.lt_succ_of_lt q1, q2⟩, hsat.wf.jw, hsat.wf.uniq, fun b hb => hsat.wf.out b (Nat.le_of_succ_le hb)⟩⟩
theorem qX {ops : Array Oper} {n : Nat} {it : Tmp} {ty t0 k e : TypeId} {p0 : String} {af : Array Edge} {y : Operand} {bm sz : Nat} {ro : Bool} {mx : bf} {s : bN} {a : Act} {Q : Exit → Act → World → Prop}
  (ho : ops[n]? = some { dst := some it, op := .range ty y, type := t0, pos := p0, after := af, guard := none }) (hu : P.underlying ty = some (.map k e)) (hy : dc L y = some (Mp bm)) (hoy : dZ y = true) (hkn : aU O bm ⟨sz, ro, bW mx⟩) (hit : it < x.m) (hxq : x.q = false)
  (hst : St x L O s) (hs : eK base ι s a w)
  (h : ∀ ι' a' w', St x ((it, Ptr s.h.n 0) :: L) O (s.put (some it) (Ptr s.h.n 0) s.h.fm) → eK base ι' (s.put (some it) (Ptr s.h.n 0) s.h.fm) a' w' → Iter base ι' bm s.h.n mx [] s.h.fm w' → bw base ι ι' s.h s.h.fm w → bg ι s.h s.h.fm w w' → (∀ er, ι' s.h.n = some er → w.heap.size ≤ er.block) → a'.defers = a.defers → Q .normal a' w') :
  wpOpsIn (FR none) 0 P ops Q [n] a w := by
 obtain ⟨f, kv, hob⟩ := hkn s.h hst.sat
 have hrel := dy hs.tmps hoy
 rw [hst.t.ev hy] at hrel
 obtain ⟨em, q1, q2, q3⟩ := kF hrel
 obtain ⟨hone, es, clock, hes, c, hc0, hp, hp2, hp3⟩ := hs.heap.maps bm em _ _ _ _ _ _ q1 q2 hob
 unfold bW at hc0
 injection hc0 with e1 e2
 injection e1 with _ e1
 have e1 : clock = mx.ck := by omega
 subst e1 e2
 have hrun := run_range_map (P := P) w ty k e em.block es mx.ck hu hes
 refine eR ho rfl (fun c h => by cases h) (sH rfl q3 hrun) ?_
 obtain ⟨W1, hW1⟩ : ∃ W1, W1 = w.alloc (.mapIter (some em.block) mx.ck #[] mx.ck) := ⟨_, rfl⟩
 have hsz : W1.heap.size = w.heap.size + 1 := by rw [hW1, World.size_alloc]
 have hbelow : ∀ B, B < w.heap.size → W1.heap[B]? = w.heap[B]? := fun B hB => by
  rw [hW1]
  show ((w.heap.push _)[B]? = _)
  rw [Array.getElem?_push, if_neg (by omega)]
 have hrec : W1.heap[w.heap.size]? = some (.mapIter (some em.block) mx.ck #[] mx.ck) := by
  rw [hW1]; exact World.alloc_heap_new _ _
 rw [← hW1]
 obtain ⟨ι1, hι1⟩ : ∃ ι1 : Lay, ι1 = fun b => if b = s.h.n then some ⟨w.heap.size, 0, 0, 0, false⟩ else ι b := ⟨_, rfl⟩
 have hr1 : bn base ι1 s.h.fm W1 := by rw [hι1]; exact hs.heap.fm (by omega) hbelow (by show w.heap.size < _; omega) (Nat.le_refl _)
 have hm1 : bw base ι ι1 s.h s.h.fm w := by rw [hι1]; exact bw.fm hs.heap (Nat.le_refl _)
 have hk1 : bg ι s.h s.h.fm w W1 := bg.grow (by rw [hW1]; rfl) (by rw [hW1]; rfl) (by rw [hW1]; rfl) (by omega) hbelow
 have hnew : ι1 s.h.n = some ⟨w.heap.size, 0, 0, 0, false⟩ := by rw [hι1]; exact if_pos rfl
 have hoff : tA ι1 s.h.fm w.heap.size := fun b e hb he => by
  rw [hι1] at hb
  by_cases hn : b = s.h.n
  · rw [hn]; exact hs.heap.out _ (Nat.le_refl _)
  · simp only [if_neg hn] at hb
    have := hs.heap.gG b e hb
    omega
 have hs1 := hs.put (dst := some it) (v := Ptr s.h.n 0) (v' := .pointer (some ⟨w.heap.size, 0, none⟩)) (fun d hd => by injection hd with hd; rw [hst.m, ← hd]; exact hit) hm1 (.ptr hnew rfl) hr1 (by omega)
 refine h ι1 _ W1 ⟨by rw [dR]; exact hst.m, hst.t.put it _ _, hst.sat.fm, fun q => by rw [hxq] at q; cases q⟩ hs1 ⟨⟨em, _, bw.lay hs.heap hm1 _ _ q1, q2, hnew, rfl, rfl, hoff, hrec⟩, ⟨_, _, _, _, _, hob⟩⟩ hm1 hk1 (fun er her => ?_) rfl
 rw [hnew] at her
 obtain rfl := Option.some.inj her
 exact Nat.le_refl _
theorem lq {f : FuncId} {fn : Func} {c : Code} {args : Array Value} {v : Value} (hf : P.funcs[f]? = some fn) (hb : fn.body = some c)
  (hw : ∀ base ι (w : World) (a : Act), eK base ι (cz fn args h) a w → a.defers = [] → c.wpIn (FR none) 0 P (fun e a' w' => (e = .normal ∨ e = .ret) ∧ a'.defers = [] ∧ ∃ ι' v', (results fn a'.tmps).run P w' = .ok v' w' ∧ bw base ι ι' h h' w ∧ aP ι' v v' ∧ bn base ι' h' w' ∧ bg ι h h' w w') a w) :
  ∀ ρ, iA P ρ f args h v h' := by
 intro ρ base ι w args' hr hbs hctx ha
 refine callsIn_wide (n := 0) |>.1 (callsIn_of_wp_marks hf hb trivial (wpIn_mono (hw base ι w _ (kI hr hbs ha) rfl) ?_))
 intro e a' w' ⟨he, hd, ι', v', q1, q2, q3, q4, q5⟩
 have : LeavesInM (FR none) 0 P fn a'.tmps (fun e w' => ∃ ι' v', e = .returned v' ∧ bw base ι ι' h h' w ∧ aP ι' v v' ∧ bn base ι' h' w' ∧ bg ι h h' w w') a'.defers .returning w' := by
  rw [hd]
  exact ⟨v', q1, ι', v', rfl, q2, q3, q4, q5⟩
 rcases he with rfl | rfl <;> exact this
theorem ae.oG {ops : Array Oper} {mq : Mk} {i : Nat} {K : bN → Prop} (h : ∀ s, St x L O s → K s) : ae P x ops mq i [] L O K := fun _ _ s hs _ => ⟨s, .nil, rfl, h s hs⟩
def At (x : Cx) (L : da) (O : an) (base : Nat) (ι0 : Lay) (h0 : ai) (w0 : World) (D : List Deferred) (a : Act) (w : World) : Prop :=
 ∃ ι s, St x L O s ∧ eK base ι s a w ∧ bw base ι0 ι h0 s.h w0 ∧ bg ι0 h0 s.h w0 w ∧ a.defers = D ∧ dC h0 s.h
variable {ι0 : Lay} {h0 : ai} {w0 : World} {D : List Deferred} {a : Act} {Q : Exit → Act → World → Prop}
theorem At.run (hm : P.follows .mixedOrders = true) (hr0 : bn base ι0 h0 w0) (hat : At x L O base ι0 h0 w0 D a w) {c : Code} {R : Exit → da → an → Prop} (hx : x.ρ = .late) (hk : codeOk x.m c = true)
  (ha : WX P x c L O (fun e s => ∃ L1 O1, R e L1 O1 ∧ St x L1 O1 s)) (h : ∀ e L1 O1 a w, R e L1 O1 → At x L1 O1 base ι0 h0 w0 D a w → Q e a w) : c.wpIn (FR none) 0 P Q a w := by
 obtain ⟨ι, s, h1, h2, h3, h4, h5, h6⟩ := hat
 refine WX.wp hm ha hx hk h1 h2 fun e s' ι' a' w' ⟨L1, O1, q1, q2⟩ r1 r2 r3 r4 r5 => h e L1 O1 a' w' q1 ⟨ι', s', q2, r1, bw.trans hr0 h2.heap h3 r2 h4.size, bg.trans hr0 h2.heap h3 r2 h4 r3, r4.trans h5, h6.trans r5⟩
theorem At.seq (hm : P.follows .mixedOrders = true) (hr0 : bn base ι0 h0 w0) (hat : At x L O base ι0 h0 w0 D a w) {c1 c2 : Code} {L1 : da} {O1 : an} (hx : x.ρ = .late) (hk : codeOk x.m c1 = true)
  (ha : WX P x c1 L O (fun e s => e = .normal ∧ St x L1 O1 s)) (h : ∀ a w, At x L1 O1 base ι0 h0 w0 D a w → c2.wpIn (FR none) 0 P Q a w) : (Code.seq c1 c2).wpIn (FR none) 0 P Q a w :=
 wpIn_seq (At.run (R := fun e L' O' => e = .normal ∧ L' = L1 ∧ O' = O1) hm hr0 hat hx hk (fun s hs hk => by
  obtain ⟨e, s', b1, b2, b3, b4⟩ := ha s hs hk
  exact ⟨e, s', b1, b2, L1, O1, ⟨b3, rfl, rfl⟩, b4⟩) fun e L' O' a w ⟨q1, q2, q3⟩ hat => by
   subst q1 q2 q3
   exact h a w hat)
theorem qW {c : List (Int × Nat × Value)} : ∀ {es : List MapEntry}, cL ι (dz c) es → c.map (·.2.1) = es.map (·.born) := by
 induction c with
 | nil => intro es hp; cases hp; rfl
 | cons p c ih =>
  obtain ⟨k, n, v⟩ := p
  intro es hp
  unfold dz at hp
  generalize hX : I k :: I n :: v :: dz c = X at hp
  cases hp with
  | nil => cases hX
  | cons h1 h2 h3 h4 =>
   rename_i c3 e2 es2
   injection hX with q1 q2
   injection q2 with q3 q4
   injection q4 with q5 q6
   subst q1 q5 q6
   injection q3 with _ q3
   rw [List.map_cons, List.map_cons, ih h4]
   congr 1
   show n = e2.born
   omega
theorem At.range (hm : P.follows .mixedOrders = true) (hr0 : bn base ι0 h0 w0) (hat : At x L O base ι0 h0 w0 D a w) {β : Type} (LI : Nat → β → da) (OI : β → an) (Inv : bf → List Nat → β → Prop)
  {pl : List Oper} {ops : Array Oper} {i0 b1 b2 i3 i4 : Nat} {it tn tk te : Tmp} {ty t0 t1 t2 t3 kt et : TypeId} {p0 p1 p2 p3 : String} {af0 af1 af2 af3 : Array Edge} {eops : Array Oper} {el : List Oper} {c2 : Code} {y : Operand} {bm sz : Nat} {ro : Bool} {mx : bf} {L1 : da} {O1 : an}
  (hx : x.ρ = .late) (hxq : x.q = false) (n : Nat) (hops1 : ops.toList.take n = pl) (hops2 : ops.toList.drop n = [{ dst := some it, op := .range ty y, type := t0, pos := p0, after := af0, guard := none }]) (hreg : fG ops x.m = true)
  (hpre : ae P x ops mK 0 pl L O (fun s => St x L1 O1 s)) (hu : P.underlying ty = some (.map kt et)) (hy : dc L1 y = some (Mp bm)) (hoy : dZ y = true) (hkn : aU O1 bm ⟨sz, ro, bW mx⟩) (hlt : it < x.m)
  (hel : eops.toList = { dst := some te, op := .entry (.tmp it), type := t3, pos := p3, after := af3, guard := none } :: el) (hke : fG eops x.m = true) (hkc : codeOk x.m c2 = true) (htn : tn < x.m) (htk : tk < x.m) (hte : te < x.m) (hne : (Nat.beq tn it || Nat.beq tk it) = false)
  (hit : ∀ br mx seen y, Inv mx seen y → jQ (LI br y) it = some (Ptr br 0)) (hmap : ∀ mx seen y, Inv mx seen y → ∃ sz ro, aU (OI y) bm ⟨sz, ro, bW mx⟩)
  (hround : ∀ br mx seen y k n v, Inv mx seen y → (k, n, v) ∈ mx.es → n ∉ seen →
   ae P x eops mK 1 el ((te, .tuple #[I k, v]) :: (tk, .bool true) :: (tn, .tuple #[.bool true, I k, v]) :: LI br y) (OI y) fun s => W P .late c2 s fun e s' => e = .normal ∧ ∃ mx' y', Inv mx' (n :: seen) y' ∧ mx'.ck = mx.ck ∧ stamps mx' = stamps mx ∧ St x (LI br y') (OI y') s')
  {y0 : β} (hI : (stamps mx).Nodup → Inv mx [] y0) (h1 : ∀ br s, St x ((it, Ptr br 0) :: L1) O1 s → St x (LI br y0) (OI y0) s)
  (hend : ∀ br mx seen y a w, Inv mx seen y → (∀ e ∈ mx.es, e.2.1 ∈ seen) → At x ((tk, .bool false) :: (tn, .tuple #[.bool false]) :: LI br y) (OI y) base ι0 h0 w0 D a w → Q .normal a w) :
  (Code.seq (.region i0 ops false) (Code.block b1 (.loop (.seq (.region i3 #[{ dst := some tn, op := .next (.tmp it) false, type := t1, pos := p1, after := af1, guard := none }, { dst := some tk, op := .extract (.tmp tn) 0, type := t2, pos := p2, after := af2, guard := none }] false)
   (.seq (.cond (.tmp tk) .skip (.exit b1)) (.block b2 (.seq (.region i4 eops false) c2))))))).wpIn (FR none) 0 P Q a w := by
 obtain ⟨ι, s, g1, g2, g3, g4, g5, g6⟩ := hat
 have hops : ops.toList = pl ++ [{ dst := some it, op := .range ty y, type := t0, pos := p0, after := af0, guard := none }] := by rw [← hops1, ← hops2, List.take_append_drop]
 refine wpIn_seq (wpIn_region ?_)
 have hsz : ops.size = pl.length + 1 := by rw [← Array.length_toList, hops, List.length_append]; rfl
 have hrg : List.range ops.size = List.range' 0 pl.length ++ [pl.length] := by rw [hsz, List.range_succ, List.range_eq_range']
 rw [hrg]
 refine ae.wp hm hpre hx ⟨_, by rw [List.drop_zero]; exact hops⟩ [pl.length] hreg g1 g2 fun s2 ι2 a2 w2 hK r1 r2 r3 r4 r5 r6 => ?_
 have m2 := bw.trans hr0 g2.heap g3 r2 g4.size
 have k2 := bg.trans hr0 g2.heap g3 r2 g4 r3
 refine qX (x := x) (L := L1) (O := O1) (s := s2) (it := it) (ty := ty) (t0 := t0) (p0 := p0) (af := af0) (y := y) (by rw [← Array.getElem?_toList, hops]; simp) hu hy hoy hkn hlt hxq hK r1 fun ι3 a3 w3 t1 t2 t3 t4 t5 t6 t7 => ?_
 have m3 := bw.trans hr0 r1.heap m2 t4 k2.size
 have k3 := bg.trans hr0 r1.heap m2 t4 k2 t5
 obtain ⟨f, kv, hob⟩ := hkn s2.h hK.sat
 have hnd : (stamps mx).Nodup := by
  have hrel := dy r1.tmps hoy
  rw [hK.t.ev hy] at hrel
  obtain ⟨em, q1, q2, q3⟩ := kF hrel
  obtain ⟨hone, es, clock, hes, c, hc0, hp, hp2, hp3⟩ := r1.heap.maps bm em _ _ _ _ _ _ q1 q2 hob
  unfold bW at hc0
  injection hc0 with e1 e2
  subst e2
  unfold stamps
  rw [qW hp]
  have p2 : (es.toList.map (·.born)).Pairwise (· < ·) := List.pairwise_map.2 hp3
  exact p2.imp fun hlt => Nat.ne_of_lt hlt
 refine sh hm (LI s2.h.n) OI Inv hx hel hke hkc htn htk hte hne (hit s2.h.n) hmap (hround s2.h.n) hr0 (fun mx seen y ι s a w q1 q2 q3 q4 q5 q6 q7 q8 => hend s2.h.n mx seen y a w q1 q2 ⟨ι, s, q3, q4, q5, q6, q7, q8⟩) (hI hnd) (h1 _ _ t1) t2 (by rw [bk]; exact m3) (by rw [bk]; exact k3) (t7.trans (r4.trans g5)) (by rw [bk]; exact (g6.trans r6).trans ⟨Nat.le_succ _, fun _ _ _ => rfl⟩) (by rw [bk]; exact t3) (fun er her => ?_)
 exact Nat.le_trans k2.size (t6 er her)
def ai.lF (F : Nat → Bool) (h : ai) : ai := { n := h.n, o := fun b => bif F b then lv (h.o b) else h.o b }
theorem ef {F : Nat → Bool} {b sz ro f st k c} (ho : (h.lF F).o b = .cells sz ro f st k c) : ∃ ro', h.o b = .cells sz ro' f st k c ∧ (ro = false → ro' = false) := by
 simp only [ai.lF] at ho
 cases hF : F b with
 | false => rw [hF] at ho; exact ⟨ro, ho, id⟩
 | true =>
  rw [hF] at ho
  change lv (h.o b) = _ at ho
  cases hb : h.o b with
  | dead => rw [hb] at ho; cases ho
  | cells bP ro1 f1 st1 k1 c1 =>
   rw [hb] at ho
   injection ho with e1 e2 e3 e4 e5 e6
   subst e1 e3 e4 e5 e6
   exact ⟨ro1, rfl, fun q => by rw [← e2] at q; cases q⟩
theorem pT {F : Nat → Bool} {b sz ro f st k c} (ho : h.o b = .cells sz ro f st k c) : ∃ ro', (h.lF F).o b = .cells sz ro' f st k c ∧ ro' = (F b || ro) := by
 simp only [ai.lF, ho]
 cases F b
 · exact ⟨ro, rfl, rfl⟩
 · exact ⟨true, rfl, rfl⟩
theorem xJ {F : Nat → Bool} (b : Nat) : (h.lF F).rd b = h.rd b := by
 unfold ai.rd
 cases ho : h.o b with
 | dead =>
  have : (h.lF F).o b = .dead := by simp only [ai.lF, ho]; cases F b <;> rfl
  rw [this]
 | cells sz ro f st k c =>
  obtain ⟨ro', e, _⟩ := pT (F := F) ho
  rw [e]
  cases st with
  | none => rfl
  | some m =>
   simp only
   cases hm : h.o m with
   | dead =>
    have : (h.lF F).o m = .dead := by simp only [ai.lF, hm]; cases F m <;> rfl
    rw [this]
   | cells fk ro2 f2 st2 k2 c2 =>
    obtain ⟨ro3, e2, _⟩ := pT (F := F) hm
    rw [e2]
    cases st2 <;> cases k2 <;> rfl
theorem bn.lF (hr : bn base ι h w) (F : Nat → Bool) : bn base ι (h.lF F) w := by
 refine ⟨hr.lt, hr.gG, fun b e sz ro f st k c he ho => ?_, fun b e c i v he hmp hc hi => hr.val b e c i v he hmp (by rw [← xJ (F := F)]; exact hc) hi, fun b e sz f st k c i he ho hi => ?_, fun b1 e1 b2 e2 bP ro1 f1 st1 k1 c1 fk f2 st2 k2 c2 l1 l2 o1 o2 => ?_,
  fun b1 e1 b2 e2 f1 bP ro1 st1 k1 c1 fk ro2 st2 k2 c2 l1 l2 o1 o2 => ?_, fun b sz ro f m k c ho => ?_, fun b sz ro f st k c ho => ?_, fun y z f1 bP ro1 st1 k1 c1 fk ro2 k2 c2 o1 o2 hor => ?_, fun b hb => ?_, fun b e sz ro f st k c he hmp ho => ?_⟩
 · obtain ⟨r, q, q2⟩ := ef ho
   obtain ⟨g1, g2, g3, g4⟩ := hr.na b e _ _ _ _ _ _ he q
   exact ⟨g1, g2, fun e => g3 (q2 e), g4⟩
 · obtain ⟨r, q, q2⟩ := ef ho
   obtain rfl := q2 rfl
   exact hr.room b e _ _ _ _ _ i he q hi
 · obtain ⟨r, q, _⟩ := ef o1
   obtain ⟨r2, q2, q3⟩ := ef o2
   obtain rfl := q3 rfl
   exact hr.apart b1 e1 b2 e2 _ _ _ _ _ _ _ _ _ _ _ l1 l2 q q2
 · obtain ⟨r, q, _⟩ := ef o1
   obtain ⟨r2, q2, q3⟩ := ef o2
   exact hr.link b1 e1 b2 e2 _ _ _ _ _ _ _ _ _ _ _ l1 l2 q q2
 · obtain ⟨r, q, _⟩ := ef ho
   obtain ⟨g1, sz', ro', st', k', c', g2⟩ := hr.wf b _ _ _ _ _ _ q
   obtain ⟨r', g3, _⟩ := pT (F := F) g2
   exact ⟨g1, _, _, _, _, _, g3⟩
 · obtain ⟨r, q, _⟩ := ef ho
   exact hr.jw b _ _ _ _ _ _ q
 · obtain ⟨r, q, p⟩ := ef o1
   obtain ⟨r2, q2, p2⟩ := ef o2
   exact hr.uniq y z _ _ _ _ _ _ _ _ _ _ q q2 (hor.imp p2 fun ⟨e1, e2⟩ => ⟨p e1, e2⟩)
 · simp only [ai.lF, hr.out b hb]; cases F b <;> rfl
 · obtain ⟨r, q, _⟩ := ef ho
   exact hr.maps b e _ _ _ _ _ _ he hmp q
theorem Is.lF {b : Nat} {y : gl} (hi : Is h b y) (F : Nat → Bool) : Is (h.lF F) b ⟨y.sz, F b || y.ro, y.c⟩ := by
 obtain ⟨f, k, e⟩ := hi
 obtain ⟨r, q, rfl⟩ := pT (F := F) e
 exact ⟨f, k, q⟩
end Go.Proofs.YthekokdpplobhaaGreat.Eng
namespace Go.Proofs.YthekokdpplobhaaGreat.Eng
theorem bP : cR Tryz.prog 1 = some 1 := by kernel_rfl
-- kind 1 : func
theorem fk : cR Tryz.prog 2 = some 1 := by kernel_rfl
-- kind 2 : int
theorem bY : de Tryz.prog 3 = some false := by kernel_rfl
theorem cj : cR Tryz.prog 3 = some 1 := by kernel_rfl
theorem yv : jR Tryz.prog 3 = some 8 := by kernel_rfl
theorem ij : zeroOf Tryz.prog 3 = some (.int .i64 0) := by kernel_rfl
-- kind 3 : int
theorem cV : de Tryz.prog 4 = some false := by kernel_rfl
theorem dm : cR Tryz.prog 4 = some 1 := by kernel_rfl
-- kind 4 : bool
theorem iU : de Tryz.prog 5 = some false := by kernel_rfl
theorem ea : cR Tryz.prog 5 = some 1 := by kernel_rfl
theorem qt : jR Tryz.prog 5 = some 1 := by kernel_rfl
theorem dA : zeroOf Tryz.prog 5 = some (.int .u8 0) := by kernel_rfl
-- kind 5 : int
-- kind 6 : int
-- kind 7 : struct
-- struct 7 : 2 3 4 6
-- kind 8 : struct
-- struct 8 : 2 3 4 6
theorem uc : de Tryz.prog 9 = some false := by kernel_rfl
theorem ym : fq Tryz.prog 9 = true := by kernel_rfl
-- kind 9 : string
-- kind 10 : string
-- kind 11 : string
-- kind 12 : int
-- kind 13 : struct
-- struct 13 : 9 12
-- kind 14 : struct
-- struct 14 : 9 12
-- kind 15 : pointer
-- kind 16 : pointer
-- kind 17 : pointer
-- kind 18 : struct
-- struct 18 : 17
-- kind 19 : struct
-- struct 19 : 17
-- kind 20 : interface
-- kind 21 : int
theorem dW : de Tryz.prog 22 = some false := by kernel_rfl
theorem gF : cR Tryz.prog 22 = some 1 := by kernel_rfl
theorem xC : zeroOf Tryz.prog 22 = some (.slice none 0 0) := by kernel_rfl
theorem bh : elemOf Tryz.prog 22 = some 3 := by kernel_rfl
theorem lJ : fq Tryz.prog 22 = true := by kernel_rfl
-- kind 22 : slice
-- kind 23 : func
theorem sW : de Tryz.prog 24 = some false := by kernel_rfl
theorem xc : cR Tryz.prog 24 = some 1 := by kernel_rfl
-- kind 24 : pointer
-- kind 25 : func
theorem sX : de Tryz.prog 26 = some false := by kernel_rfl
theorem wM : cR Tryz.prog 26 = some 1 := by kernel_rfl
-- kind 26 : pointer
-- kind 27 : func
theorem iB : de Tryz.prog 28 = some false := by kernel_rfl
-- kind 28 : pointer
theorem bJ : de Tryz.prog 29 = some false := by kernel_rfl
theorem cH : cR Tryz.prog 29 = some 1 := by kernel_rfl
theorem yf : zeroOf Tryz.prog 29 = some (.slice none 0 0) := by kernel_rfl
theorem aR : elemOf Tryz.prog 29 = some 39 := by kernel_rfl
theorem p7 : fq Tryz.prog 29 = true := by kernel_rfl
-- kind 29 : slice
theorem bX : de Tryz.prog 30 = some false := by kernel_rfl
theorem cu : cR Tryz.prog 30 = some 1 := by kernel_rfl
theorem uP : zeroOf Tryz.prog 30 = some (.int .i64 0) := by kernel_rfl
-- kind 30 : int
-- kind 32 : func
-- kind 33 : pointer
-- kind 35 : func
-- kind 36 : func
-- kind 37 : func
-- kind 38 : func
theorem aD : de Tryz.prog 39 = some false := by kernel_rfl
theorem aO : cR Tryz.prog 39 = some 1 := by kernel_rfl
theorem wJ : jR Tryz.prog 39 = some 24 := by kernel_rfl
theorem ki : zeroOf Tryz.prog 39 = some (.slice none 0 0) := by kernel_rfl
theorem aQ : elemOf Tryz.prog 39 = some 5 := by kernel_rfl
theorem dQ : fq Tryz.prog 39 = true := by kernel_rfl
-- kind 39 : slice
-- kind 40 : func
-- kind 41 : func
-- kind 42 : func
-- kind 43 : struct
-- struct 43 : 26 3 3 4
theorem qd : zeroOf Tryz.prog 44 = some (.agg #[.pointer none, .int .i64 0, .int .i64 0, .bool false]) := by kernel_rfl
-- kind 44 : struct
-- struct 44 : 26 3 3 4
theorem lV : placesOf Tryz.prog 44 = some [(0, 1), (1, 1), (2, 1), (3, 1)] := by kernel_rfl
-- kind 45 : func
-- kind 47 : func
-- kind 48 : func
-- kind 49 : struct
-- struct 49 : 3 29 22 4 3
theorem xM : zeroOf Tryz.prog 50 = some (.agg #[.int .i64 0, .slice none 0 0, .slice none 0 0, .bool false, .int .i64 0]) := by kernel_rfl
-- kind 50 : struct
-- struct 50 : 3 29 22 4 3
theorem vB : placesOf Tryz.prog 50 = some [(0, 1), (1, 1), (2, 1), (3, 1), (4, 1)] := by kernel_rfl
-- kind 51 : func
-- kind 53 : func
-- kind 55 : func
-- kind 56 : func
-- kind 57 : func
-- kind 58 : struct
-- struct 58 : 24 3 3 4
theorem qo : zeroOf Tryz.prog 59 = some (.agg #[.pointer none, .int .i64 0, .int .i64 0, .bool false]) := by kernel_rfl
-- kind 59 : struct
-- struct 59 : 24 3 3 4
theorem lK : placesOf Tryz.prog 59 = some [(0, 1), (1, 1), (2, 1), (3, 1)] := by kernel_rfl
theorem fF : de Tryz.prog 60 = some false := by kernel_rfl
theorem ja : cR Tryz.prog 60 = some 1 := by kernel_rfl
theorem lA : pZ Tryz.prog 60 = some 66 := by kernel_rfl
-- map 60 : 66
-- kind 60 : map
-- kind 61 : struct
-- struct 61 : 60 3 4 4 3
theorem ya : zeroOf Tryz.prog 62 = some (.agg #[.map none, .int .i64 0, .bool false, .bool false, .int .i64 0]) := by kernel_rfl
-- kind 62 : struct
-- struct 62 : 60 3 4 4 3
theorem v7 : placesOf Tryz.prog 62 = some [(0, 1), (1, 1), (2, 1), (3, 1), (4, 1)] := by kernel_rfl
theorem mN : elemOf Tryz.prog 63 = some 68 := by kernel_rfl
theorem s8 : fq Tryz.prog 63 = true := by kernel_rfl
-- kind 63 : slice
-- kind 64 : func
-- kind 65 : struct
-- struct 65 : 39 3
theorem ta : de Tryz.prog 66 = some true := by kernel_rfl
theorem pR : cR Tryz.prog 66 = some 2 := by kernel_rfl
theorem ie : zeroOf Tryz.prog 66 = some (.agg #[.slice none 0 0, .int .i64 0]) := by kernel_rfl
-- kind 66 : struct
-- struct 66 : 39 3
theorem qE : placesOf Tryz.prog 66 = some [(0, 1), (1, 1)] := by kernel_rfl
-- kind 67 : func
theorem xr : de Tryz.prog 68 = some false := by kernel_rfl
theorem tE : cR Tryz.prog 68 = some 1 := by kernel_rfl
theorem yJ : jR Tryz.prog 68 = some 8 := by kernel_rfl
theorem pM : zeroOf Tryz.prog 68 = some (.pointer none) := by kernel_rfl
-- kind 68 : pointer
-- kind 69 : func
-- kind 70 : int
-- kind 71 : func
-- kind 72 : func
-- kind 73 : func
-- kind 74 : struct
-- struct 74 : 39
theorem rQ : zeroOf Tryz.prog 75 = some (.agg #[.slice none 0 0]) := by kernel_rfl
-- kind 75 : struct
-- struct 75 : 39
-- kind 76 : func
-- kind 77 : func
theorem jM : de Tryz.prog 78 = some false := by kernel_rfl
theorem oL : cR Tryz.prog 78 = some 1 := by kernel_rfl
theorem y5 : jR Tryz.prog 78 = some 8 := by kernel_rfl
theorem sr : zeroOf Tryz.prog 78 = some (.int .u64 0) := by kernel_rfl
-- kind 78 : int
-- kind 79 : func
-- kind 80 : func
-- kind 81 : func
-- kind 82 : func
-- kind 83 : func
-- kind 85 : func
-- kind 86 : func
-- kind 87 : func
-- kind 88 : func
-- kind 89 : func
-- kind 90 : func
-- kind 91 : pointer
-- kind 92 : func
-- kind 93 : func
-- kind 94 : func
-- kind 95 : func
-- kind 96 : func
-- kind 97 : func
-- kind 98 : pointer
-- kind 99 : struct
-- struct 99 : 39 30
theorem tf : zeroOf Tryz.prog 100 = some (.agg #[.slice none 0 0, .int .i64 0]) := by kernel_rfl
-- kind 100 : struct
-- struct 100 : 39 30
theorem px : placesOf Tryz.prog 100 = some [(0, 1), (1, 1)] := by kernel_rfl
-- kind 101 : func
-- kind 102 : func
-- kind 103 : func
theorem kQ : elemOf Tryz.prog 104 = some 78 := by kernel_rfl
theorem uT : fq Tryz.prog 104 = true := by kernel_rfl
-- kind 104 : slice
-- kind 105 : func
-- kind 106 : func
-- kind 107 : func
-- kind 108 : func
-- kind 109 : func
-- kind 110 : pointer
-- kind 111 : func
-- kind 112 : func
-- kind 113 : func
-- kind 114 : func
-- kind 115 : func
-- kind 116 : func
-- kind 117 : struct
-- struct 117 : 39 30
theorem wN : zeroOf Tryz.prog 118 = some (.agg #[.slice none 0 0, .int .i64 0]) := by kernel_rfl
-- kind 118 : struct
-- struct 118 : 39 30
theorem tG : placesOf Tryz.prog 118 = some [(0, 1), (1, 1)] := by kernel_rfl
-- kind 119 : func
-- kind 120 : func
-- kind 121 : func
-- kind 122 : func
-- kind 123 : int
-- kind 125 : func
-- kind 126 : func
-- kind 127 : func
-- kind 128 : func
-- kind 130 : func
-- kind 131 : func
-- kind 132 : int
-- kind 133 : int
-- kind 134 : func
-- kind 135 : func
-- kind 136 : pointer
-- kind 137 : func
-- kind 138 : pointer
-- kind 140 : func
-- kind 141 : func
-- kind 142 : struct
-- struct 142 : 17 17 17 9
-- kind 143 : struct
-- struct 143 : 17 17 17 9
-- kind 144 : array
-- kind 145 : struct
-- struct 145 : 144
-- kind 146 : struct
-- struct 146 : 144
-- kind 147 : int
-- kind 148 : int
-- kind 149 : func
section
variable {P : Program} {x : Cx} {L : da} {O : an} {ops : Array Oper} {mq : Mk} {i : Nat} {l : List Oper} {K : bN → Prop} {t u : TypeId} {p : String} {af : Array Edge} {d : Tmp}
theorem zm {y : Operand} {v : Value} (hy : dc L y = some v) (h : ae P x ops mq (i + 1) l ((d, v) :: L) O K) : ae P x ops mq i ({ dst := some d, op := .move y, type := t, pos := p, after := af, guard := none } :: l) L O K := ae.move Met.none hy h
theorem za {y : Operand} {v : Value} (hy : dc L y = some v) (h : ae P x ops mq (i + 1) l ((d, v) :: L) O K) : ae P x ops mq i ({ dst := some d, op := .assign y, type := t, pos := p, after := af, guard := none } :: l) L O K := ae.assign Met.none hy h
theorem ze {y : Operand} {vs : Array Value} {n : Nat} {v : Value} (hy : dc L y = some (.tuple vs)) (hv : vs[n]? = some v) (h : ae P x ops mq (i + 1) l ((d, v) :: L) O K) : ae P x ops mq i ({ dst := some d, op := .extract y n, type := t, pos := p, after := af, guard := none } :: l) L O K := ae.extract Met.none hy hv h
theorem zn {y : Operand} {a : Addr} (hy : dc L y = some (.pointer (some a))) (h : ae P x ops mq (i + 1) l ((d, .pointer (some a)) :: L) O K) : ae P x ops mq i ({ dst := some d, op := .nilCheck y, type := t, pos := p, after := af, guard := none } :: l) L O K := ae.nilCheck Met.none hy h
theorem zb {op : BinOp} {y z : Operand} {k : IntKind} {a b : Int} {v : Value} {w : TypeId} (hy : dc L y = some (.int k a)) (hz : dc L z = some (.int k b)) (hv : kT op k a b = some v) (h : ae P x ops mq (i + 1) l ((d, v) :: L) O K) : ae P x ops mq i ({ dst := some d, op := .binOp op u y z w, type := t, pos := p, after := af, guard := none } :: l) L O K := ae.bin Met.none hy hz hv h
theorem zs (j e : Nat) {b want : Bool} {op : Op} (hj : (ops[j]?).bind (·.dst) = some e) (he : jQ L e = some (.bool b)) (hb : (b == want) = false) (h : ae P x ops mq (i + 1) l ((d, undef) :: L) O K) : ae P x ops mq i ({ dst := some d, op := op, type := t, pos := p, after := af, guard := some (j, want) } :: l) L O K := ae.yW hj he hb h
theorem zR {o2 : Array Oper} {l2 : List Oper} {id : Nat} {b : Code} {Q : Exit → bN → Prop} (hl : o2.toList = l2) (h : ae P x o2 mK 0 l2 L O (pD P x.ρ b Q .normal)) : ae P x ops mq i [] L O (pD P x.ρ (.seq (.region id o2 false) b) Q .normal) := ae.nil (Fin.aa (WX.seq (WX.region hl h)))
end
end Go.Proofs.YthekokdpplobhaaGreat.Eng
set_option linter.unusedSimpArgs false
set_option maxRecDepth 4000
namespace Go.Proofs.YthekokdpplobhaaGreat.Eng
abbrev oF (bm : Nat) (room : Int) (off armed : Bool) (left : Int) : List Value := [Mp bm, I room, .bool off, .bool armed, I left]
abbrev cJ (a : Option Addr) (n c : Nat) (d : Int) : Value := .agg #[.slice a n c, I d]
def iK (v : Value) : Prop := ∃ a n c d, v = cJ a n c d
def vC (v : Value) : Int := match v with
 | .agg cs => match cs.toList with
   | .slice _ n _ :: _ => (n : Int)
   | _ => 0
 | _ => 0
theorem mM (a : Option Addr) (n c : Nat) (d : Int) : vC (cJ a n c d) = n := rfl
def lens : List (Int × Nat × Value) → Int
 | [] => 0
 | e :: l => vC e.2.2 + lens l
def dt (seen : List Nat) : List (Int × Nat × Value) → Int
 | [] => 0
 | e :: l => (if e.2.1 ∈ seen then vC e.2.2 else 0) + dt seen l
theorem wQ {v : Value} (h : iK v) : 0 ≤ vC v := by
 obtain ⟨a, n, c, d, rfl⟩ := h
 rw [mM]; omega
theorem j5 {seen : List Nat} : ∀ {l : List (Int × Nat × Value)}, (∀ e ∈ l, iK e.2.2) → 0 ≤ dt seen l ∧ dt seen l ≤ lens l
 | [], _ => ⟨Int.le_refl _, Int.le_refl _⟩
 | e :: l, h => by
  have h1 := wQ (h e (List.mem_cons_self ..))
  have := j5 (seen := seen) (fun e' he => h e' (List.mem_cons_of_mem _ he))
  simp only [dt, lens]
  split <;> omega
theorem qF {seen : List Nat} : ∀ {l : List (Int × Nat × Value)}, (∀ e ∈ l, e.2.1 ∈ seen) → dt seen l = lens l
 | [], _ => rfl
 | e :: l, h => by
  simp only [dt, lens]
  rw [if_pos (h e (List.mem_cons_self ..)), qF fun e' he => h e' (List.mem_cons_of_mem _ he)]
theorem o6 : ∀ l : List (Int × Nat × Value), dt [] l = 0
 | [] => rfl
 | e :: l => by
  simp only [dt]
  rw [if_neg (by simp), o6 l]; rfl
theorem qV {seen : List Nat} {n : Nat} : ∀ {l : List (Int × Nat × Value)}, n ∉ l.map (·.2.1) → dt (n :: seen) l = dt seen l
 | [], _ => rfl
 | e :: l, h => by
  simp only [List.map_cons, List.mem_cons, not_or] at h
  simp only [dt, List.mem_cons]
  rw [qV h.2]
  have : (e.2.1 = n ∨ e.2.1 ∈ seen) ↔ e.2.1 ∈ seen := ⟨fun q => q.resolve_left fun q => h.1 q.symm, .inr⟩
  simp only [this]
theorem o9 {seen : List Nat} {k : Int} {n : Nat} {v : Value} (hn : n ∉ seen) : ∀ {l : List (Int × Nat × Value)}, (l.map (·.2.1)).Nodup → (k, n, v) ∈ l → dt (n :: seen) l = dt seen l + vC v
 | e :: l, hd, hm => by
  simp only [List.map_cons, List.nodup_cons] at hd
  rcases List.mem_cons.1 hm with rfl | hm
  · simp only [dt]
    rw [qV hd.1, if_pos (by simp), if_neg hn]
    omega
  · have hne : e.2.1 ≠ n := fun q => hd.1 (List.mem_map.2 ⟨_, hm, q.symm⟩)
    simp only [dt, List.mem_cons]
    rw [o9 hn hd.2 hm]
    have : (e.2.1 = n ∨ e.2.1 ∈ seen) ↔ e.2.1 ∈ seen := ⟨fun q => q.resolve_left hne, .inr⟩
    simp only [this]
    omega
theorem Is.ne {h : ai} {a b : Nat} {x y : gl} (h1 : Is h a x) (h2 : Is h b y) (hne : x.sz ≠ y.sz) : a ≠ b := by
 intro e
 subst e
 obtain ⟨f, k, e1⟩ := h1
 obtain ⟨g, l, e2⟩ := h2
 rw [e1] at e2
 injection e2 with e2
 exact hne e2
theorem xE {h : ai} {a b : Nat} {x y : gl} (hw : WF h) (h1 : Is h a x) (h2 : Is h b y) (hne : x.sz ≠ y.sz) : Sat h [(a, x), (b, y)] :=
 ⟨by simpa using h1.ne h2 hne, fun p hp => by
  simp only [List.mem_cons, List.not_mem_nil, or_false] at hp
  rcases hp with rfl | rfl
  · exact h1
  · exact h2, hw⟩
abbrev dO (d bm : Nat) (r1 r2 : Bool) (room : Int) (off armed : Bool) (lft : Int) (mx : bf) : an := [(d, ⟨0, r1, oF bm room off armed lft⟩), (bm, ⟨2, r2, bW mx⟩)]
theorem uR {h : ai} {d bm : Nat} {ro1 ro2 off armed : Bool} {room lft : Int} {mx : bf} (h1 : Is h d ⟨0, ro1, oF bm room off armed lft⟩) (h2 : Is h bm ⟨2, ro2, bW mx⟩) (hf : ∀ e ∈ mx.es, iK e.2.2) (ht : lens mx.es ≤ 4611686018427387904) :
  ∀ ρ, iA Tryz.prog ρ 50 #[Ptr d 0] h (I (lens mx.es)) h := by
 have hm : Tryz.prog.follows .mixedOrders = true := Checked.mixed Tryz.checked
 refine lq Tryz.func50 rfl ?_
 intro base ι w a hs hd
 have hr1 : bn base ι h w := hs.heap
 obtain ⟨g, hg⟩ : ∃ g, g = h.lF fun _ => true := ⟨_, rfl⟩
 have hr0 : bn base ι g w := by rw [hg]; exact hr1.lF _
 have i1 : Is g d ⟨0, true, oF bm room off armed lft⟩ := by rw [hg]; exact h1.lF _
 have i2 : Is g bm ⟨2, true, bW mx⟩ := by rw [hg]; exact h2.lF _
 have hat : At ⟨21, false, h, .late⟩ (mf [Ptr d 0] 0) (dO d bm true true room off armed lft mx) base ι g w [] a w :=
  ⟨ι, cz Tryz.f50 #[Ptr d 0] g, ⟨rfl, gB _ 0 fun j v hj => by simp [cz, Array.getD_eq_getD_getElem?, hj], xE hr0.oa i1 i2 (by intro q; cases q), fun q => by cases q⟩, ⟨hs.size, hs.tmps, hr0, hs.base⟩, bw.refl hr0, eL.zero (dE.refl ι _ w), hd, dC.refl _⟩
 refine At.seq (L1 := [(2, I 0), (0, Ptr d 0)]) (O1 := dO d bm true true room off armed lft mx) hm hr0 hat rfl (show codeOk 21 _ = true by decide +kernel) ?_ (fun a1 w1 hat1 => ?_)
 refine WX.region rfl (za rfl (ae.oG ?_))
 exact fun s hs => ⟨rfl, hs.tl [0, 1] 2⟩
 refine At.seq (L1 := [(3, I 0), (2, I 0), (0, Ptr d 0)]) (O1 := dO d bm true true room off armed lft mx) hm hr0 hat1 rfl (show codeOk 21 _ = true by decide +kernel) ?_ (fun a2 w2 hat2 => ?_)
 refine WX.region rfl (za rfl (ae.oG ?_))
 exact fun s hs => ⟨rfl, hs.tl [0, 1] 2⟩
 refine wpIn_seq (At.range (L1 := [(9, Mp bm), (3, I 0), (0, Ptr d 0)]) (O1 := dO d bm true true room off armed lft mx) hm hr0 hat2 (fun br (acc : Int) => [(3, I acc), (10, Ptr br 0)]) (fun _ => (dO d bm true true room off armed lft mx)) (fun mx' seen acc => mx' = mx ∧ (stamps mx).Nodup ∧ acc = dt seen mx.es) (y := .tmp 9) (it := 10) (tn := 11) (tk := 12) (te := 13) (bm := bm) (y0 := 0) (mx := mx) rfl rfl 4 rfl rfl (show fG _ 21 = true by decide +kernel) ?_ Tryz.underlying60 rfl rfl (aU.at 1 rfl) (show 10 < 21 by decide) rfl (show fG _ 21 = true by decide +kernel) (show codeOk 21 _ = true by decide +kernel) (show 11 < 21 by decide) (show 12 < 21 by decide) (show 13 < 21 by decide) rfl
  (fun _ _ _ _ _ => rfl) (fun mx' seen y h => ⟨2, true, by rw [h.1]; exact aU.at 1 rfl⟩) ?_ (fun hn => ⟨rfl, hn, (o6 _).symm⟩) (fun br s hs => hs.tl [0, 1] 2) ?_)
 · skip
   refine zm rfl (zn rfl ?_)
   first | refine ae.fieldAddr Met.none rfl Tryz.underlying62 rfl ja rfl ?_ | refine ae.bQ Met.none rfl Tryz.underlying62 rfl ja ?_
   first | refine ae.ld Met.none rfl fF ?_ | refine ae.ba Met.none rfl fF ?_
   refine ae.oG ?_
   exact (fun s hs => hs.tl [0, 1] 2)
 · intro br mx' seen acc k n v ⟨h3, h4, h5⟩ h6 h7
   subst h3
   obtain ⟨fa, fn, fc, fd, rfl⟩ := hf _ h6
   have hb := j5 (seen := n :: seen) hf
   have hb2 := j5 (seen := seen) hf
   have hmore := o9 h7 h4 h6
   rw [mM] at hmore
   refine ze rfl rfl ?_
   refine ae.alloc (c := [_, _]) Met.none ie rfl (fun b5 => ?_)
   refine ae.st (vs := [_, _]) (c' := [_, _]) Met.none rfl rfl rfl pR ?_
   refine ae.oG ?_
   refine (show WX _ ⟨21, false, h, .late⟩ _ _ _ _ from ?_)
   refine WX.region rfl (zm rfl ?_)
   refine ae.fieldAddr (off' := 0) Met.none rfl Tryz.underlying66 rfl aO rfl ?_
   first | refine ae.ld Met.none rfl aD ?_ | refine ae.ba Met.none rfl aD ?_
   refine ae.len Met.none rfl Tryz.underlying39 (zb rfl rfl dH (za rfl (ae.oG ?_)))
   exact fun s hs => ⟨rfl, mx', acc + fn, ⟨rfl, h4, by omega⟩, rfl, rfl, hs.tl [1, 2] 3⟩
 · intro br mx' seen acc a3 w3 ⟨h3, h4, h5⟩ h6 hat3
   subst h3
   rw [qF h6] at h5
   subst h5
   refine At.seq (L1 := [(2, I (lens mx'.es))]) (O1 := dO d bm true true room off armed lft mx') hm hr0 hat3 rfl (show codeOk 21 _ = true by decide +kernel) ?_ (fun a4 w4 hat4 => ?_)
   refine WX.region rfl (zm rfl (za rfl (ae.oG ?_)))
   exact fun s hs => ⟨rfl, hs.tl [0, 1] 2⟩
   refine wpIn_ret ⟨.inr rfl, ?_⟩
   obtain ⟨ι4, s4, g1, g2, g3, g4, g5, g6⟩ := hat4
   have hold : ∀ b, b < h.n → s4.h.o b = g.o b := fun b hb => g6.2 b (by rw [hg]; exact hb) (by rw [hg]; show p6 (lv (h.o b)) = true; cases h.o b <;> rfl)
   have hblk : ∀ B, B < w.heap.size → w4.heap[B]? = w.heap[B]? := fun B hB => g4.block B hB fun b e q1 q2 => .inl (hold b (hr1.lt b e q1))
   have hres : cr Tryz.prog Tryz.f50 s4 = some [I (lens mx'.es)] := by
    unfold cr
    exact g1.t.res (rs := [.tmp 2]) rfl
   obtain ⟨v', hrun, hrel⟩ := gy (P := Tryz.prog) g2 hres
   obtain rfl := hrel.plain rfl
   exact ⟨g5, ι, _, hrun, bw.refl hr1, .atom rfl, hr1.pre g4.size hblk, bg.grow g4.os g4.tape g4.output g4.size hblk⟩
theorem qy {h : ai} {d bm : Nat} {ro1 ro2 off armed : Bool} {room lft : Int} {mx : bf} (h1 : Is h d ⟨0, ro1, oF bm room off armed lft⟩) (h2 : Is h bm ⟨2, ro2, bW mx⟩) (hf : ∀ e ∈ mx.es, iK e.2.2) (ht : lens mx.es ≤ 4611686018427387904) :
  lx Tryz.prog 50 #[Ptr d 0] h (I (lens mx.es)) h :=
 ⟨.inl rfl, fun F ρ => by
  obtain ⟨f1, k1, e1⟩ := h1
  obtain ⟨f2, k2, e2⟩ := h2
  obtain ⟨r1, q1⟩ := eP (F := F) e1
  obtain ⟨r2, q2⟩ := eP (F := F) e2
  exact uR (ro1 := r1) (ro2 := r2) (off := off) (armed := armed) (room := room) (lft := lft) (bm := bm) ⟨f1, k1, q1⟩ ⟨f2, k2, q2⟩ hf ht ρ⟩
def cX (v : Value) : Value := match v with
 | .agg cs => match cs.toList with
   | .slice a n c :: _ => cJ a n c n
   | _ => v
 | _ => v
theorem o8 (a : Option Addr) (n c : Nat) (d : Int) : cX (cJ a n c d) = cJ a n c n := rfl
def ig (seen : List Nat) (e : Int × Nat × Value) : Int × Nat × Value := if e.2.1 ∈ seen then (e.1, e.2.1, cX e.2.2) else e
def sY (mx : bf) (seen : List Nat) : bf := ⟨mx.ck, mx.es.map (ig seen)⟩
def bf.cX (mx : bf) : bf := ⟨mx.ck, mx.es.map fun e => (e.1, e.2.1, Eng.cX e.2.2)⟩
theorem ui (e : Int × Nat × Value) : ig [] e = e := by unfold ig; rw [if_neg (by simp)]
theorem qN (mx : bf) : sY mx [] = mx := by
 obtain ⟨ck, es⟩ := mx
 unfold sY
 rw [show ig [] = id from funext ui, List.map_id]
theorem jI (seen : List Nat) (e : Int × Nat × Value) : (ig seen e).2.1 = e.2.1 ∧ (ig seen e).1 = e.1 := by
 unfold ig
 split <;> exact ⟨rfl, rfl⟩
theorem nG (mx : bf) (seen : List Nat) : stamps (sY mx seen) = stamps mx := by
 unfold stamps sY
 rw [List.map_map]
 exact List.map_congr_left fun e _ => (jI seen e).1
theorem wA {mx : bf} {seen : List Nat} (h : ∀ e ∈ (sY mx seen).es, e.2.1 ∈ seen) : sY mx seen = mx.cX := by
 unfold sY bf.cX
 congr 1
 refine List.map_congr_left fun e he => ?_
 have := h (ig seen e) (List.mem_map.2 ⟨e, he, rfl⟩)
 rw [(jI seen e).1] at this
 unfold ig
 rw [if_pos this]
theorem od {seen : List Nat} {n : Nat} {e : Int × Nat × Value} (h : e.2.1 ≠ n) : ig (n :: seen) e = ig seen e := by
 unfold ig
 have : (e.2.1 ∈ n :: seen) ↔ e.2.1 ∈ seen := ⟨fun q => (List.mem_cons.1 q).resolve_left h, fun q => List.mem_cons_of_mem _ q⟩
 simp only [this]
theorem qw {seen : List Nat} {k : Int} {n : Nat} {v : Value} (hn : n ∉ seen) (ck : Nat) : ∀ {l : List (Int × Nat × Value)}, (l.map (·.1)).Nodup → (l.map (·.2.1)).Nodup → (k, n, v) ∈ l → qa k (cX v) ck (l.map (ig seen)) = (ck, l.map (ig (n :: seen)))
 | e :: l, h1, h2, hm => by
  simp only [List.map_cons, List.nodup_cons] at h1 h2
  rcases List.mem_cons.1 hm with rfl | hm
  · have e1 : ig seen (k, n, v) = (k, n, v) := by unfold ig; rw [if_neg hn]
    have e2 : ig (n :: seen) (k, n, v) = (k, n, cX v) := by unfold ig; rw [if_pos (by simp)]
    have e3 : l.map (ig (n :: seen)) = l.map (ig seen) := List.map_congr_left fun e he => od fun q => h2.1 (List.mem_map.2 ⟨e, he, q⟩)
    rw [List.map_cons, List.map_cons, e1, e2, e3]
    show (if k = k then _ else _) = _
    rw [if_pos rfl]
  · have n1 : k ≠ e.1 := fun q => h1.1 (List.mem_map.2 ⟨_, hm, q⟩)
    have n2 : e.2.1 ≠ n := fun q => h2.1 (List.mem_map.2 ⟨_, hm, q.symm⟩)
    rw [List.map_cons, List.map_cons, od n2]
    obtain ⟨⟨ek, en, ev⟩, hE⟩ : ∃ p, ig seen e = p := ⟨_, rfl⟩
    rw [hE]
    have : ek = e.1 := by have := (jI seen e).2; rw [hE] at this; exact this
    show (if k = ek then _ else _) = _
    rw [if_neg (by rw [this]; exact n1), qw hn ck h1.2 h2.2 hm]
theorem wL {mx : bf} {seen : List Nat} {k : Int} {n : Nat} {v : Value} (h : (k, n, v) ∈ (sY mx seen).es) (hn : n ∉ seen) : (k, n, v) ∈ mx.es := by
 obtain ⟨e, he, q⟩ := List.mem_map.1 h
 have h1 := (jI seen e).1
 rw [q] at h1
 have : ig seen e = e := by unfold ig; rw [if_neg (by rw [← h1]; exact hn)]
 rw [← q, this]; exact he
theorem xd {mx : bf} {seen : List Nat} {k : Int} {n : Nat} {v : Value} (h1 : (mx.es.map (·.1)).Nodup) (h2 : (stamps mx).Nodup) (hm : (k, n, v) ∈ mx.es) (hn : n ∉ seen) : (sY mx seen).put k (cX v) = sY mx (n :: seen) := by
 unfold bf.put sY
 simp only
 rw [qw hn mx.ck h1 h2 hm]
theorem tZ {ι ι4 : Lay} : ∀ {l : List (Int × Nat × Value)} {es : List MapEntry}, cL ι4 (dz l) es → (∀ e ∈ l, ∀ u, aP ι4 e.2.2 u → aP ι e.2.2 u) → cL ι (dz l) es := by
 intro l
 induction l with
 | nil => intro es hp _; cases hp; exact .nil
 | cons p c ih =>
  obtain ⟨k, n, v⟩ := p
  intro es hp hv
  unfold dz at hp ⊢
  generalize hX : I k :: I n :: v :: dz c = X at hp
  cases hp with
  | nil => cases hX
  | cons h1 h2 h3 h4 =>
   rename_i c3 e2 es2
   injection hX with q1 q2
   injection q2 with q3 q4
   injection q4 with q5 q6
   subst q1 q5 q6
   have q3' := q3
   injection q3' with _ q3'
   exact .cons h1 h2 (hv _ (List.mem_cons_self ..) _ h3) (ih h4 fun e he => hv e (List.mem_cons_of_mem _ he))
theorem tB {ι : Lay} : ∀ {l : List (Int × Nat × Value)} {es : List MapEntry}, cL ι (dz l) es → ∀ e ∈ l, ∃ u, aP ι e.2.2 u := by
 intro l
 induction l with
 | nil => intro es hp e he; simp at he
 | cons p c ih =>
  obtain ⟨k, n, v⟩ := p
  intro es hp e he
  unfold dz at hp
  generalize hX : I k :: I n :: v :: dz c = X at hp
  cases hp with
  | nil => cases hX
  | cons h1 h2 h3 h4 =>
   rename_i c3 e2 es2
   injection hX with q1 q2
   injection q2 with q3 q4
   injection q4 with q5 q6
   subst q1 q5 q6
   rcases List.mem_cons.1 he with rfl | he
   · exact ⟨_, h3⟩
   · exact ih h4 e he
theorem uA {ι ι4 : Lay} {a : Option Addr} {n c : Nat} {d d' : Int} {u u' : Value} (hb : ∀ b e, ι b = some e → ι4 b = some e) (h0 : aP ι (cJ a n c d) u) (h4 : aP ι4 (cJ a n c d') u') : aP ι (cJ a n c d') u' := by
 have hs : ∃ x, aP ι (.slice a n c) x := by
  cases h0 with
  | atom q => simp [aX] at q
  | agg q1 q2 =>
   rename_i ys
   exact ⟨ys[0]'(by rw [← q1]; exact Nat.succ_pos _), q2 0 _ _ rfl (Array.getElem?_eq_getElem _)⟩
 cases h4 with
 | atom q => simp [aX] at q
 | agg q1 q2 =>
  refine .agg q1 fun i v v' hv hv' => ?_
  have h := q2 i v v' hv hv'
  rcases i with _ | _ | i
  · simp at hv
    subst hv
    obtain ⟨x, hx⟩ := hs
    cases h with
    | atom q => exact .atom q
    | slice p1 p2 p3 p4 =>
     cases hx with
     | atom q => simp [aX] at q
     | slice r1 _ _ _ => rw [hb _ _ r1] at p1; obtain rfl := Option.some.inj p1; exact .slice r1 p2 p3 p4
     | eu r1 _ => rw [hb _ _ r1] at p1; obtain rfl := Option.some.inj p1; exact .slice r1 p2 p3 p4
    | eu p1 p2 =>
     cases hx with
     | atom q => simp [aX] at q
     | slice r1 _ _ _ => rw [hb _ _ r1] at p1; obtain rfl := Option.some.inj p1; exact .eu r1 p2
     | eu r1 _ => rw [hb _ _ r1] at p1; obtain rfl := Option.some.inj p1; exact .eu r1 p2
  · simp at hv; subst hv; rw [h.plain rfl]; exact .atom rfl
  · simp at hv
theorem vG {a b : Nat} (h : a ≠ b) : Nat.beq a b = false := by
 cases hq : Nat.beq a b with
 | false => rfl
 | true => exact absurd (Nat.eq_of_beq_eq_true hq) h
theorem rJ {h : ai} {d bm : Nat} {ro1 off armed : Bool} {room lft : Int} {mx : bf} {f k : Nat} (h1 : Is h d ⟨0, ro1, oF bm room off armed lft⟩) (h2 : h.o bm = .cells 2 false f none k (bW mx)) (hf : ∀ e ∈ mx.es, iK e.2.2) (hk : (mx.es.map (·.1)).Nodup) :
  ∀ ρ, iA Tryz.prog ρ 32 #[Ptr d 0] h (.tuple #[]) (h.set bm (.cells 2 false f none (k + 1) (bW mx.cX))) := by
 have hm : Tryz.prog.follows .mixedOrders = true := Checked.mixed Tryz.checked
 refine lq Tryz.func32 rfl ?_
 intro base ι w a hs hd
 have hr1 : bn base ι h w := hs.heap
 have h2i : Is h bm ⟨2, false, bW mx⟩ := ⟨f, k, h2⟩
 have hdb : d ≠ bm := h1.ne h2i (by intro q; cases q)
 obtain ⟨g, hg⟩ : ∃ g, g = h.lF fun b => !(Nat.beq b bm) := ⟨_, rfl⟩
 have hr0 : bn base ι g w := by rw [hg]; exact hr1.lF _
 have i1 : Is g d ⟨0, true, oF bm room off armed lft⟩ := by
  rw [hg]
  have := h1.lF fun b => !(Nat.beq b bm)
  rw [show (!(Nat.beq d bm)) = true by rw [vG hdb]; rfl] at this
  exact this
 have i2 : Is g bm ⟨2, false, bW mx⟩ := by
  rw [hg]
  have := h2i.lF fun b => !(Nat.beq b bm)
  rw [show (!(Nat.beq bm bm)) = false by simp] at this
  exact this
 have hat : At ⟨25, false, h, .late⟩ (mf [Ptr d 0] 0) (dO d bm true false room off armed lft mx) base ι g w [] a w :=
  ⟨ι, cz Tryz.f32 #[Ptr d 0] g, ⟨rfl, gB _ 0 fun j v hj => by simp [cz, Array.getD_eq_getD_getElem?, hj], xE hr0.oa i1 i2 (by intro q; cases q), fun q => by cases q⟩, ⟨hs.size, hs.tmps, hr0, hs.base⟩, bw.refl hr0, eL.zero (dE.refl ι _ w), hd, dC.refl _⟩
 refine At.range (L1 := [(7, Mp bm), (0, Ptr d 0)]) (O1 := dO d bm true false room off armed lft mx) hm hr0 hat (fun br (sn : List Nat) => [(0, Ptr d 0), (8, Ptr br 0)]) (fun sn => dO d bm true false room off armed lft (sY mx sn)) (fun mx' seen sn => mx' = sY mx seen ∧ (stamps mx).Nodup ∧ sn = seen) (y := .tmp 7) (it := 8) (tn := 9) (tk := 10) (te := 11) (bm := bm) (y0 := []) (mx := mx) rfl rfl 4 rfl rfl (show fG _ 25 = true by decide +kernel) ?_ Tryz.underlying60 rfl rfl (aU.at 1 rfl) (show 8 < 25 by decide) rfl (show fG _ 25 = true by decide +kernel) (show codeOk 25 _ = true by decide +kernel) (show 9 < 25 by decide) (show 10 < 25 by decide) (show 11 < 25 by decide) rfl
  (fun _ _ _ _ _ => rfl) (fun mx' seen y h => ⟨2, false, by rw [h.1, h.2.2]; exact aU.at 1 rfl⟩) ?_ (fun hn => ⟨(qN mx).symm, hn, rfl⟩) (fun br s hs => by rw [qN]; exact hs.tl [0, 1] 2) ?_
 · skip
   refine zm rfl (zn rfl ?_)
   first | refine ae.fieldAddr Met.none rfl Tryz.underlying62 rfl ja rfl ?_ | refine ae.bQ Met.none rfl Tryz.underlying62 rfl ja ?_
   first | refine ae.ld Met.none rfl fF ?_ | refine ae.ba Met.none rfl fF ?_
   refine ae.oG ?_
   exact (fun s hs => hs.tl [0, 1] 2)
 · intro br mx' seen sn k n v ⟨h3, h4, h5⟩ h6 h7
   subst h3 h5
   have h8 := wL h6 h7
   obtain ⟨fa, fn, fc, fd, rfl⟩ := hf _ h8
   have h9 := xd hk h4 h8 h7
   rw [o8] at h9
   refine ze rfl rfl (ze rfl rfl ?_)
   refine ae.alloc (c := [_, _]) Met.none ie rfl (fun b3 => ?_)
   refine za rfl ?_
   refine ae.st (vs := [_, _]) (c' := [_, _]) Met.none rfl rfl rfl pR ?_
   refine ae.oG ?_
   refine (show WX _ ⟨25, false, h, .late⟩ _ _ _ _ from ?_)
   refine WX.draw rfl ?_
   refine zm rfl (zn rfl ?_)
   first | refine ae.fieldAddr Met.none rfl Tryz.underlying62 rfl ja rfl ?_ | refine ae.bQ Met.none rfl Tryz.underlying62 rfl ja ?_
   first | refine ae.ld Met.none rfl fF ?_ | refine ae.ba Met.none rfl fF ?_
   refine zm rfl ?_
   refine ae.fieldAddr (off' := 0) Met.none rfl Tryz.underlying66 rfl aO rfl ?_
   first | refine ae.ld Met.none rfl aD ?_ | refine ae.ba Met.none rfl aD ?_
   refine ae.fieldAddr (off' := 0) Met.none rfl Tryz.underlying66 rfl aO rfl ?_
   first | refine ae.ld Met.none rfl aD ?_ | refine ae.ba Met.none rfl aD ?_
   refine ae.len Met.none rfl Tryz.underlying39 ?_
   refine ae.build (c := [_, _]) Met.none rfl ie qE rfl ?_
   refine ae.mapUpdate (j := 2) Met.none rfl rfl rfl lA ?_ (hj := rfl)
   refine ae.oG ?_
   intro s hs
   refine ⟨rfl, sY mx (n :: sn), n :: sn, ⟨rfl, h4, rfl⟩, rfl, by rw [nG, nG], ?_⟩
   rw [← h9]
   exact hs.tl [1, 2] 3
 · intro br mx' seen sn a3 w3 ⟨h3, h4, h5⟩ h6 hat3
   subst h3 h5
   refine ⟨.inl rfl, ?_⟩
   obtain ⟨ι4, s4, g1, g2, g3, g4, g5, g6⟩ := hat3
   rw [wA h6] at g1
   have hold : ∀ b, b < h.n → b ≠ bm → s4.h.o b = g.o b := fun b hb hne => g6.2 b (by rw [hg]; exact hb) (by
    rw [hg]
    show p6 (bif !(Nat.beq b bm) then lv (h.o b) else h.o b) = true
    rw [show (!(Nat.beq b bm)) = true by rw [vG hne]; rfl]
    show p6 (lv (h.o b)) = true
    cases h.o b <;> rfl)
   have hres : cr Tryz.prog Tryz.f32 s4 = some [] := rfl
   obtain ⟨v', hrun, hrel⟩ := gy (P := Tryz.prog) g2 hres
   have hrel0 : aP ι (.tuple #[]) v' := by
    cases hrel with
    | atom q => exact aP.undef
    | tuple q1 q2 => exact .tuple q1 fun i v v' a _ => by simp at a
   obtain ⟨em, hem, hmp⟩ : ∃ em, ι bm = some em ∧ em.mp = true := by
    have h3 := hs.tmps 0
    rw [show (cz Tryz.f32 #[Ptr d 0] h).t 0 = Ptr d 0 from rfl] at h3
    obtain ⟨ed, q1, q2, _⟩ := h3.kL
    obtain ⟨v2, _, q3⟩ := hr1.val d ed _ 0 (Mp bm) q1 q2 h1.rd rfl
    obtain ⟨em, q4, q5, _⟩ := kF q3
    exact ⟨em, q4, q5⟩
   obtain ⟨f4, k4, o4⟩ := g1.sat.at (j := 1) rfl
   have hem4 : ι4 bm = some em := bw.lay hr0 g3 _ _ hem
   obtain ⟨hone4, es4, clock4, hes4, c4, hc4, hp4, hp42, hp43⟩ := g2.heap.maps bm em _ _ _ _ _ _ hem4 hmp o4
   obtain ⟨hone, es, clock, hes, c0, hc0, hp0, _, _⟩ := hr1.maps bm em _ _ _ _ _ _ hem hmp h2
   unfold bW at hc4 hc0
   injection hc4 with e1 e2
   injection hc0 with e3 e4
   subst e2 e4
   have hlay := bw.lay hr0 g3
   have hrelm : fz ι (bW mx.cX) es4 clock4 := ⟨_, by unfold bW; rw [e1], tZ hp4 fun e he u hu => by
    obtain ⟨e', he', rfl⟩ := List.mem_map.1 he
    obtain ⟨fa, fn, fc, fd, hfv⟩ := hf _ he'
    obtain ⟨u0, hu0⟩ := tB hp0 e' he'
    simp only [hfv, o8] at hu0 hu ⊢
    exact uA hlay hu0 hu, hp42, hp43⟩
   obtain ⟨m1, m2, m3⟩ := jb hr1 hem hmp h2 hrelm
   generalize hw' : ({ w with heap := w.heap.setIfInBounds em.block (.map es4 clock4) } : World) = w' at m1 m2
   have hsz' : w'.heap.size = w.heap.size := by rw [← hw']; simp
   have hblk : ∀ B, B < w'.heap.size → w3.heap[B]? = w'.heap[B]? := fun B hB => by
    by_cases hBe : B = em.block
    · subst hBe
      rw [hes4, ← hw']
      show _ = (w.heap.setIfInBounds em.block _)[em.block]?
      rw [Array.getElem?_setIfInBounds_self, if_pos (by rw [← hsz']; exact hB)]
    · have e5 : w'.heap[B]? = w.heap[B]? := by rw [← hw']; show (w.heap.setIfInBounds em.block _)[B]? = _; rw [Array.getElem?_setIfInBounds_ne (Ne.symm hBe)]
      rw [e5]
      refine g4.block B (by rw [← hsz']; exact hB) fun b e q1 q2 => .inl (hold b (hr1.lt b e q1) fun q => ?_)
      subst q
      rw [hem] at q1
      obtain rfl := Option.some.inj q1
      exact hBe q2.symm
   have hle : w'.heap.size ≤ w3.heap.size := by rw [hsz']; exact g4.size
   have m4 := m1.pre hle hblk
   refine ⟨g5, ι, v', hrun, m3, hrel0, m4, bg.trans hr1 m1 m3 (bw.refl m1) m2.zero (bg.grow ?_ ?_ ?_ hle hblk)⟩
   · rw [g4.os, ← hw']
   · rw [g4.tape, ← hw']
   · rw [g4.output, ← hw']
theorem oM {h : ai} {d bm : Nat} {ro1 off armed : Bool} {room lft : Int} {mx : bf} {f k : Nat} (h1 : Is h d ⟨0, ro1, oF bm room off armed lft⟩) (h2 : h.o bm = .cells 2 false f none k (bW mx)) (hf : ∀ e ∈ mx.es, iK e.2.2) (hk : (mx.es.map (·.1)).Nodup) :
  lx Tryz.prog 32 #[Ptr d 0] h (.tuple #[]) (h.set bm (.cells 2 false f none (k + 1) (bW mx.cX))) :=
 ⟨.inr (.inr ⟨_, _, _, _, _, _, h2, rfl⟩), fun F ρ => by
  obtain ⟨f1, k1, e1⟩ := h1
  obtain ⟨r1, q1⟩ := eP (F := F) e1
  rw [mI]
  exact rJ (ro1 := r1) (off := off) (armed := armed) (room := room) (lft := lft) (bm := bm) ⟨f1, k1, q1⟩ (gI h2) hf hk ρ⟩
def il (n : Int) (most : Int) : Int := if n < 0 then (-(n + 1)).tmod most else n.tmod most
def dG (n : Int) : Prop := -9223372036854775808 ≤ n ∧ n ≤ 9223372036854775807
def mB (n : Int) : Prop := 0 ≤ n ∧ n < 18446744073709551616
theorem kM (O : an) (n most : Int) (hn : dG n) (hm : most ≠ 0) : Spec Tryz.prog true 4 #[I n, I most] O fun v O' => v = I (il n most) ∧ O' = O := by
 unfold dG at hn
 refine Spec.enter (args := [_, _]) (m := 13) Tryz.func4 rfl rfl (by decide +kernel) fun h0 => ?_
 refine WX.seq (WX.region rfl (za rfl (ae.nil (Fin.aa (WX.seq (WX.seq (WX.region rfl (zm rfl (zb rfl rfl rfl (ae.nil (Fin.aa ?_)))))))))))
 refine WX.cond rfl (fun hc0 => ?_) (fun hc0 => ?_)
 · try simp only [aB] at hc0
   refine WX.region rfl (zm rfl (zb rfl rfl dH ?_))
   refine ae.neg Met.none rfl (by first | exact rn (by omega) (by omega) | exact rfl) ?_
   refine za rfl (zR rfl (zm rfl (zm rfl ?_)))
   refine ae.rem Met.none rfl rfl (by omega) ?_
   refine za rfl (ae.nil (Fin.aa (WX.ret ?_)))
   exact Fin.result (.inr rfl) rfl rfl (fun _ h => h) ⟨by unfold il; first | (rw [if_pos (by assumption)]; exact rfl) | (rw [if_neg (by omega)]; exact rfl), rfl⟩
 · try simp only [aB] at hc0
   refine WX.skip (Fin.aa (WX.seq (WX.region rfl (zm rfl (zm rfl ?_)))))
   refine ae.rem Met.none rfl rfl (by omega) ?_
   refine za rfl (ae.nil (Fin.aa (WX.ret ?_)))
   exact Fin.result (.inr rfl) rfl rfl (fun _ h => h) ⟨by unfold il; first | (rw [if_pos (by assumption)]; exact rfl) | (rw [if_neg (by omega)]; exact rfl), rfl⟩
theorem bG {α : Type} [Inhabited α] {l : List α} {k : Nat} (h : k < l.length) : l.take (k + 1) = l.take k ++ [nth l k] := by
 rw [List.take_add_one, dq h]; rfl
abbrev hJ {α : Type} (l : List α) : Prop := l.length ≤ 4611686018427387904
theorem gD (O : an) (l m : List Int) (a b : Option Addr) (c e : Nat) (hlen : hJ l) (hl : Src O 1 (.slice a l.length c) l.length (l.map B8)) (hm : Src O 1 (.slice b m.length e) m.length (m.map B8)) :
  Spec Tryz.prog true 20 #[.slice a l.length c, .slice b m.length e] O fun v O' => v = .bool (decide (l = m)) ∧ O' = O := by
 unfold hJ at hlen
 refine Spec.enter (args := [_, _]) (m := 26) Tryz.func20 rfl rfl (by decide +kernel) fun h0 => ?_
 refine WX.seq (WX.region rfl (za rfl (ae.nil (Fin.aa (WX.seq (WX.seq (WX.region rfl (zm rfl (ae.len Met.none rfl Tryz.underlying39 (zm rfl (ae.len Met.none rfl Tryz.underlying39 (zb rfl rfl rfl (ae.nil (Fin.aa ?_))))))))))))))
 refine WX.cond rfl (fun hc0 => ?_) (fun hc0 => ?_)
 · try simp only [aB] at hc0
   refine WX.seq (WX.region rfl (za rfl (ae.nil (Fin.aa (WX.ret (Fin.az ?_))))))
   refine Fin.result (.inr rfl) rfl rfl (fun _ h => h) ⟨?_, rfl⟩
   first
   | exact fu (fun h => hc0 (by rw [h]))
   | exact fu (fun h => hc2 (by rw [h]))
   | exact kD (by
     have e1 : k = l.length := by omega
     have e2 := hk.2
     rw [e1, List.take_length, List.take_of_length_le (by omega)] at e2
     exact e2)
 · try simp only [aB] at hc0
   refine WX.skip (Fin.aa (WX.seq (WX.seq (WX.region rfl (za rfl (ae.nil (Fin.aa (WX.block ?_))))))))
   refine WX.loop (fun k : Nat => [(0, .slice a l.length c), (1, .slice b m.length e), (5, I k)]) (fun _ => O) (fun k => k ≤ l.length ∧ l.take k = m.take k) (fun k => l.length - k) 0 ⟨Nat.zero_le _, rfl⟩ (fun s hs => hs.tl [] 0) (fun k hk => ?_)
   refine WX.seq (WX.seq (WX.region rfl (zm rfl (zm rfl (ae.len Met.none rfl Tryz.underlying39 (zb rfl rfl rfl (ae.nil (Fin.aa ?_))))))))
   refine WX.cond rfl (fun hc1 => ?_) (fun hc1 => ?_)
   · try simp only [aB] at hc1
     refine WX.skip (Fin.aa (WX.seq (WX.block (WX.seq ?_))))
     refine WX.draw rfl ?_
     refine zm rfl (zm rfl ?_)
     first | refine ae.ix Met.none rfl rfl aQ ea ?_ | refine ae.eH Met.none rfl rfl aQ ea ?_
     first | refine ae.ld Met.none rfl iU ?_ | refine ae.ba Met.none rfl iU ?_
     refine zm rfl (zm rfl ?_)
     first | refine ae.ix Met.none rfl rfl aQ ea ?_ | refine ae.eH Met.none rfl rfl aQ ea ?_
     first | refine ae.ld Met.none rfl iU ?_ | refine ae.ba Met.none rfl iU ?_
     refine zb rfl rfl rfl (ae.nil (Fin.aa ?_))
     refine WX.cond rfl (fun hc2 => ?_) (fun hc2 => ?_)
     · try simp only [aB] at hc2
       refine WX.seq (WX.region rfl (za rfl (ae.nil (Fin.aa (WX.ret (Fin.bq (Fin.az (Fin.dL (Fin.bq (Fin.az ?_))))))))))
       refine Fin.result (.inr rfl) rfl rfl (fun _ h => h) ⟨?_, rfl⟩
       first
       | exact fu (fun h => hc0 (by rw [h]))
       | exact fu (fun h => hc2 (by rw [h]))
       | exact kD (by
         have e1 : k = l.length := by omega
         have e2 := hk.2
         rw [e1, List.take_length, List.take_of_length_le (by omega)] at e2
         exact e2)
     · try simp only [aB] at hc2
       refine WX.skip (Fin.ag (Fin.aa (WX.region rfl (zm rfl (zb rfl rfl dH (za rfl (ae.nil ?_)))))))
       refine Fin.aj (k + 1) ⟨by omega, ?_⟩ (by omega) (fun s hs => hs.tl [] 0)
       rw [bG (by omega), bG (by omega), hk.2, hc2]
   · try simp only [aB] at hc1
     refine WX.exit (Fin.aF (Fin.aN (Fin.aK rfl (Fin.aa (WX.seq (WX.region rfl (za rfl (ae.nil (Fin.aa (WX.ret ?_))))))))))
     refine Fin.result (.inr rfl) rfl rfl (fun _ h => h) ⟨?_, rfl⟩
     first
     | exact fu (fun h => hc0 (by rw [h]))
     | exact fu (fun h => hc2 (by rw [h]))
     | exact kD (by
       have e1 : k = l.length := by omega
       have e2 := hk.2
       rw [e1, List.take_length, List.take_of_length_le (by omega)] at e2
       exact e2)
def qq (a b : Int) : Int := IntKind.wrap .u64 ((BitVec.ofInt 64 a) ^^^ (BitVec.ofInt 64 b)).toNat
def fT (s w : Int) : Int := qq (IntKind.wrap .u64 (qq s w * 11400714819323198485)) ((IntKind.wrap .u64 (qq s w * 11400714819323198485)).fdiv 4294967296)
theorem nB (O : an) (s w : Int) : Spec Tryz.prog true 75 #[U s, U w] O fun v O' => v = U (fT s w) ∧ O' = O := by
 refine Spec.enter (args := [_, _]) (m := 14) Tryz.func75 rfl rfl (by decide +kernel) fun h0 => ?_
 refine WX.seq (WX.region rfl (za rfl (zR rfl (zm rfl (zm rfl (zb rfl rfl rfl (zb rfl rfl ug (za rfl (zR rfl (zm rfl (zm rfl ?_)))))))))))
 refine ae.shr Met.none rfl rfl (by omega) ?_
 refine zb rfl rfl rfl (za rfl (ae.nil (Fin.aa (WX.ret ?_))))
 exact Fin.result (O' := O) (.inr rfl) rfl rfl au ⟨rfl, rfl⟩
theorem gz (n : Int) : mB (IntKind.wrap .u64 n) := by
 unfold IntKind.wrap mB
 have e1 : (2 : Int) ^ IntKind.bits .u64 = 18446744073709551616 := rfl
 have e3 : IntKind.signed .u64 = false := rfl
 simp only [e1, e3, Bool.false_and, Bool.false_eq_true, if_false]
 omega
theorem yT {n k : Int} (h : mB n) (hk : 0 < k) : IntKind.wrap .u64 (n.tdiv k) = n.fdiv k := by
 unfold mB at h
 have e1 : n.tdiv k = n.fdiv k := by rw [Int.tdiv_eq_ediv_of_nonneg h.1, Int.fdiv_eq_ediv_of_nonneg _ (by omega)]
 have h2 := (nL (a := n) hk).1 h.1
 rw [wrap_u64 h2.1 (by omega), e1]
theorem iN (O : an) (s w : Int) : Spec Tryz.prog true 88 #[U s, U w] O fun v O' => v = U (fT s w) ∧ O' = O := by
 refine Spec.enter (args := [_, _]) (m := 14) Tryz.func88 rfl rfl (by decide +kernel) fun h0 => ?_
 refine WX.seq (WX.region rfl (za rfl (zR rfl (zm rfl (zm rfl (zb rfl rfl rfl (zb rfl rfl ug (za rfl (zR rfl (zm rfl (zm rfl ?_)))))))))))
 refine ae.qu Met.none rfl rfl ?_ (hr := (yT (k := 4294967296) (gz _) (by decide)))
 refine zb rfl rfl rfl (za rfl (ae.nil (Fin.aa (WX.ret ?_))))
 exact Fin.result (O' := O) (.inr rfl) rfl rfl au ⟨rfl, rfl⟩
def ff (n : Int) : Int := if n < 0 then -2 * n - 1 else 2 * n
theorem fw {n : Int} (h : dG n) : mB (ff n) := by
 unfold dG at h
 unfold ff mB
 split <;> omega
theorem uF (O : an) (n : Int) (h : dG n) : Spec Tryz.prog true 87 #[I n] O fun v O' => v = U (ff n) ∧ O' = O := by
 unfold dG at h
 refine Spec.enter (args := [_]) (m := 14) Tryz.func87 rfl rfl (by decide +kernel) fun h0 => ?_
 refine WX.seq (WX.region rfl (za rfl (ae.nil (Fin.aa (WX.seq (WX.seq (WX.region rfl (zm rfl (zb rfl rfl rfl (ae.nil (Fin.aa ?_)))))))))))
 refine WX.cond rfl (fun hc0 => ?_) (fun hc0 => ?_)
 · try simp only [aB] at hc0
   refine WX.seq (WX.region rfl (zm rfl (zb rfl rfl dH ?_)))
   refine ae.neg Met.none rfl (by first | exact rn (by omega) (by omega) | exact rfl) ?_
   refine ae.conv Met.none rfl Tryz.underlying3 Tryz.underlying78 wh ?_
   refine ae.bin Met.none rfl rfl (by unfold kT; exact congrArg (fun n => some (Value.int .u64 n)) (wrap_u64 (by omega) (by omega))) (ae.bin Met.none rfl rfl (by unfold kT; exact congrArg (fun n => some (Value.int .u64 n)) (wrap_u64 (by omega) (by omega))) (za rfl (ae.nil (Fin.aa (WX.ret (Fin.az ?_))))))
   exact Fin.result (O' := O) (.inr rfl) rfl rfl au ⟨congrArg U (by unfold ff; split <;> omega), rfl⟩
 · try simp only [aB] at hc0
   refine WX.skip (Fin.aa (WX.seq (WX.region rfl (zm rfl ?_))))
   refine ae.conv Met.none rfl Tryz.underlying3 Tryz.underlying78 wh ?_
   refine ae.bin Met.none rfl rfl (by unfold kT; exact congrArg (fun n => some (Value.int .u64 n)) (wrap_u64 (by omega) (by omega))) (za rfl (ae.nil (Fin.aa (WX.ret ?_))))
   exact Fin.result (O' := O) (.inr rfl) rfl rfl au ⟨congrArg U (by unfold ff; split <;> omega), rfl⟩
theorem fL (n : Int) : IntKind.wrap .u64 n = n % 18446744073709551616 := by
 unfold IntKind.wrap
 have e1 : (2 : Int) ^ IntKind.bits .u64 = 18446744073709551616 := rfl
 have e3 : IntKind.signed .u64 = false := rfl
 simp only [e1, e3, Bool.false_and, Bool.false_eq_true, if_false]
theorem tJ {a : Int} (h : mB a) : qq a 0 = a := by
 unfold mB at h
 unfold qq
 have e : (BitVec.ofInt 64 0) = 0#64 := rfl
 rw [e, BitVec.xor_zero, BitVec.toNat_ofInt]
 rw [fL]
 omega
theorem uo {a : Int} (h : mB a) : qq a 18446744073709551615 = 18446744073709551615 - a := by
 unfold mB at h
 unfold qq
 have e : (BitVec.ofInt 64 18446744073709551615) = BitVec.allOnes 64 := rfl
 rw [e, BitVec.xor_allOnes, BitVec.toNat_not, BitVec.toNat_ofInt, fL]
 omega
theorem xT {n : Int} (h : dG n) : qq (IntKind.wrap .u64 (IntKind.wrap .u64 n * 2 ^ (min (1 : Int).toNat (IntKind.bits .u64)))) (IntKind.wrap .u64 (n.fdiv (2 ^ (min (63 : Int).toNat (IntKind.bits .i64))))) = ff n := by
 unfold dG at h
 have e1 : ((2 : Int) ^ (min (1 : Int).toNat (IntKind.bits .u64))) = 2 := rfl
 have e2 : ((2 : Int) ^ (min (63 : Int).toNat (IntKind.bits .i64))) = 9223372036854775808 := rfl
 rw [e1, e2, Int.fdiv_eq_ediv_of_nonneg _ (by decide)]
 unfold ff
 by_cases hn : n < 0
 · have e3 : n / 9223372036854775808 = -1 := by omega
   rw [if_pos hn, e3]
   have e4 : IntKind.wrap .u64 (-1) = 18446744073709551615 := by rw [fL]; rfl
   rw [e4, uo (gz _), fL, fL]
   omega
 · have e3 : n / 9223372036854775808 = 0 := by omega
   rw [if_neg hn, e3]
   have e4 : IntKind.wrap .u64 0 = 0 := by rw [fL]; rfl
   rw [e4, tJ (gz _), fL, fL]
   omega
theorem xS (O : an) (n : Int) (h : dG n) : Spec Tryz.prog true 69 #[I n] O fun v O' => v = U (ff n) ∧ O' = O := by
 refine Spec.enter (args := [_]) (m := 10) Tryz.func69 rfl rfl (by decide +kernel) fun h0 => ?_
 refine WX.seq (WX.region rfl (za rfl (zR rfl (zm rfl ?_))))
 refine ae.conv Met.none rfl Tryz.underlying3 Tryz.underlying78 rfl ?_
 refine ae.shl Met.none rfl rfl (by omega) ?_
 refine zm rfl ?_
 refine ae.shr Met.none rfl rfl (by omega) ?_
 refine ae.conv Met.none rfl Tryz.underlying3 Tryz.underlying78 rfl ?_
 refine zb rfl rfl rfl (za rfl (ae.nil (Fin.aa (WX.ret ?_))))
 exact Fin.result (O' := O) (.inr rfl) rfl rfl au ⟨congrArg U (xT h), rfl⟩
def bA (n : Nat) : List Int := if n < 128 then [(n : Int)] else (128 + n % 128 : Nat) :: bA (n / 128)
decreasing_by omega
theorem cY {n : Nat} (h : n < 128) : bA n = [(n : Int)] := by rw [bA, if_pos h]
theorem dv {n : Nat} (h : ¬ n < 128) : bA n = ((128 + n % 128 : Nat) : Int) :: bA (n / 128) := by rw [bA, if_neg h]
theorem lC (n : Nat) : Bytes (bA n) := by
 induction n using Nat.strongRecOn with
 | _ n ih =>
  by_cases h : n < 128
  · rw [cY h]
    intro b hb
    rw [List.mem_singleton] at hb
    omega
  · rw [dv h]
    intro b hb
    rcases List.mem_cons.1 hb with rfl | hb
    · omega
    · exact ih _ (by omega) b hb
theorem ec {k : Nat} : ∀ {n : Nat}, n < 128 ^ (k + 1) → (bA n).length ≤ k + 1 := by
 induction k with
 | zero => intro n h; rw [cY (by simpa using h)]; simp
 | succ k ih =>
  intro n h
  by_cases hn : n < 128
  · rw [cY hn]; simp
  · rw [dv hn, List.length_cons]
    have := ih (n := n / 128) (by rw [Nat.pow_succ] at h; exact Nat.div_lt_of_lt_mul (by omega))
    omega
theorem yh {m : Nat} : ((m : Int).tmod 128) = ((m % 128 : Nat) : Int) := by
 rw [Int.tmod_eq_emod_of_nonneg (by omega)]
 omega
theorem xV {m : Nat} (h : m < 18446744073709551616) : IntKind.wrap .u64 ((m : Int).tdiv 128) = ((m / 128 : Nat) : Int) := by
 rw [Int.tdiv_eq_ediv_of_nonneg (by omega), fL]
 omega
theorem lk (O : an) (n : Nat) (hn : n < 18446744073709551616) :
  Spec Tryz.prog false 55 #[U (n : Int)] O fun v O' => ∃ a c G, v = .slice a (bA n).length c ∧ Grow 1 a (bA n).length c ((bA n).map B8) G ∧ O' = G ++ O := by
 have hlen : (bA n).length ≤ 10 := ec (k := 9) (by omega)
 refine Spec.enter (args := [_]) (m := 20) Tryz.func55 rfl rfl (by decide +kernel) fun h0 => ?_
 refine WX.seq (WX.region rfl (za rfl (zR rfl (za rfl (ae.nil (Fin.aa (WX.seq (WX.block ?_))))))))
 refine WX.loop (fun q : Nat × List Int × Option Addr × Nat × an => [(0, U (q.1 : Int)), (3, .slice q.2.2.1 q.2.1.length q.2.2.2.1)]) (fun q => q.2.2.2.2 ++ O) (fun q => q.2.1 ++ bA q.1 = bA n ∧ q.1 < 18446744073709551616 ∧ Grow 1 q.2.2.1 q.2.1.length q.2.2.2.1 (q.2.1.map B8) q.2.2.2.2) (fun q => q.1) (n, [], none, 0, []) ⟨rfl, hn, .nil⟩ (fun s hs => hs.tl [] 0) (fun q hq => ?_)
 obtain ⟨m, pre, a, c, G⟩ := q
 obtain ⟨h1, h2, hG⟩ := hq
 simp only at h1 h2 hG
 dsimp only
 have hpl : pre.length ≤ 10 := by rw [← h1, List.length_append] at hlen; omega
 refine WX.seq (WX.seq (WX.region rfl (zm rfl (zb rfl rfl rfl (ae.nil (Fin.aa ?_))))))
 refine WX.cond rfl (fun hc0 => ?_) (fun hc0 => ?_)
 · try simp only [aB] at hc0
   refine WX.skip (Fin.aa (WX.block (WX.seq (WX.region rfl (zm rfl (zm rfl ?_))))))
   refine ae.rem Met.none rfl rfl (by decide) ?_
   rw [yh]
   refine ae.bin Met.none rfl rfl (show _ = some (U ((128 + m % 128 : Nat) : Int)) from congrArg (fun n => some (Value.int .u64 n)) ((wrap_u64 (by omega) (by omega)).trans (by omega))) ?_
   refine ae.conv Met.none rfl Tryz.underlying78 Tryz.underlying5 (wrap_u8 (by omega) (by omega)) ?_
   refine ae.buildSlice (c := [_]) Met.none rfl aQ ea dA (by decide) (by decide) rfl rfl rfl rfl (fun b11 => ?_)
   refine ae.mS [_] Met.none rfl rfl dQ aQ ea qt dA (Src.lit (cs := [_])) (fun a12 c12 G12 hG12 => ?_)
   refine za rfl (ae.nil (Fin.aa (WX.region rfl (zm rfl ?_))))
   refine ae.qu Met.none rfl rfl ?_ (hb := (by decide)) (hr := (xV h2))
   refine za rfl (ae.nil (Fin.ag ?_))
   refine Fin.aj (m / 128, pre ++ [((128 + m % 128 : Nat) : Int)], a12, c12, G12) ⟨?_, by simp only; omega, ?_⟩ ?_ ?_
   · simp only [List.append_assoc, List.singleton_append]
     rw [← dv (by omega)]
     exact h1
   · simp only [List.length_append, List.length_singleton, List.map_append]; exact hG12
   · simp only; omega
   · simp only [List.length_append, List.length_singleton]; exact (fun s hs => hs.tl [] 1)
 · try simp only [aB] at hc0
   refine WX.exit (Fin.aF (Fin.aN (Fin.aK rfl (Fin.aa (WX.seq ?_)))))
   have hm : m < 128 := by omega
   rw [cY hm] at h1
   refine WX.region rfl (zm rfl (zm rfl ?_))
   refine ae.conv Met.none rfl Tryz.underlying78 Tryz.underlying5 (wrap_u8 (by omega) (by omega)) ?_
   refine ae.buildSlice (c := [_]) Met.none rfl aQ ea dA (by decide) (by decide) rfl rfl rfl rfl (fun b18 => ?_)
   refine ae.mS [_] Met.none rfl rfl dQ aQ ea qt dA (Src.lit (cs := [_])) (fun a19 c19 G19 hG19 => ?_)
   refine za rfl (ae.nil (Fin.aa (WX.ret ?_)))
   refine Fin.result (O' := G19 ++ O) (.inr rfl) rfl rfl (fun _ hs => hs.tail) ⟨a19, c19, G19, ?_, ?_, rfl⟩
   · rw [← h1, List.length_append]; rfl
   · rw [← h1, List.length_append, List.map_append]; exact hG19
theorem xF : ∀ x : BitVec 8, (x ||| 128#8).toNat = 128 + x.toNat % 128 := by decide +kernel
theorem wG {m : Nat} : IntKind.wrap .u8 (((BitVec.ofInt (IntKind.bits .u8) (IntKind.wrap .u8 (m : Int))) ||| (BitVec.ofInt (IntKind.bits .u8) 128)).toNat : Int) = ((128 + m % 128 : Nat) : Int) := by
 have e0 : IntKind.bits .u8 = 8 := rfl
 have e1 : (BitVec.ofInt 8 128) = 128#8 := rfl
 have e2 : IntKind.wrap .u8 (m : Int) = ((m % 256 : Nat) : Int) := by
  unfold IntKind.wrap
  have e1 : (2 : Int) ^ IntKind.bits .u8 = 256 := rfl
  have e3 : IntKind.signed .u8 = false := rfl
  simp only [e1, e3, Bool.false_and, Bool.false_eq_true, if_false]
  omega
 have e3 : ((BitVec.ofInt 8 (IntKind.wrap .u8 (m : Int))) ||| (BitVec.ofInt 8 128)).toNat = 128 + m % 128 := by
  rw [e1, xF, e2, BitVec.toNat_ofInt]
  omega
 show IntKind.wrap .u8 ((((BitVec.ofInt 8 (IntKind.wrap .u8 (m : Int))) ||| (BitVec.ofInt 8 128)).toNat : Nat) : Int) = _
 rw [e3]
 exact wrap_u8 (by omega) (by omega)
theorem yX {m : Nat} : (m : Int).fdiv (2 ^ min (Int.toNat 7) (IntKind.bits .u64)) = ((m / 128 : Nat) : Int) := by
 have e : ((2 : Int) ^ min (Int.toNat 7) (IntKind.bits .u64)) = 128 := rfl
 rw [e, Int.fdiv_eq_ediv_of_nonneg _ (by decide)]
 omega
theorem mb (O G : an) (b : Nat) (l : List Int) (a : Option Addr) (c n : Nat) (hn : n < 18446744073709551616) (hl : l.length ≤ 1000000000) (hG : Grow 1 a l.length c (l.map B8) G) :
  Spec Tryz.prog false 41 #[Ptr b 0, U (n : Int)] ((b, ⟨0, false, [.slice a l.length c]⟩) :: (G ++ O)) fun v O' => ∃ a' c' G', Grow 1 a' (l ++ bA n).length c' ((l ++ bA n).map B8) G' ∧ O' = (b, ⟨0, false, [.slice a' (l ++ bA n).length c']⟩) :: (G' ++ O) := by
 have hlen : (bA n).length ≤ 10 := ec (k := 9) (by omega)
 refine Spec.enter (args := [_, _]) (m := 31) Tryz.func41 rfl rfl (by decide +kernel) fun h0 => ?_
 refine WX.seq (WX.block ?_)
 refine WX.loop (fun q : Nat × List Int × Option Addr × Nat × an => [(0, Ptr b 0), (1, U (q.1 : Int))]) (fun q => (b, ⟨0, false, [.slice q.2.2.1 q.2.1.length q.2.2.2.1]⟩) :: (q.2.2.2.2 ++ O)) (fun q => q.2.1 ++ bA q.1 = l ++ bA n ∧ q.1 < 18446744073709551616 ∧ q.2.1.length ≤ l.length + 10 ∧ Grow 1 q.2.2.1 q.2.1.length q.2.2.2.1 (q.2.1.map B8) q.2.2.2.2) (fun q => q.1) (n, l, a, c, G) ⟨rfl, hn, by simp only; omega, hG⟩ (fun s hs => hs.tl [0] 1) (fun q hq => ?_)
 obtain ⟨m, pre, a, c, G⟩ := q
 obtain ⟨h1, h2, h3, hG⟩ := hq
 simp only at h1 h2 h3 hG
 dsimp only
 have hpl : pre.length + (bA m).length ≤ l.length + 10 := by
  have := congrArg List.length h1
  rw [List.length_append, List.length_append] at this
  omega
 have hvm : 1 ≤ (bA m).length := by rw [bA]; split <;> simp
 refine WX.seq (WX.seq (WX.region rfl (zm rfl (zb rfl rfl rfl (ae.nil (Fin.aa ?_))))))
 refine WX.cond rfl (fun hc0 => ?_) (fun hc0 => ?_)
 · try simp only [aB] at hc0
   refine WX.skip (Fin.aa (WX.seq (WX.block (WX.region rfl (zm rfl (zm rfl (zn rfl ?_)))))))
   first | refine ae.fieldAddr Met.none rfl Tryz.underlying75 rfl aO rfl ?_ | refine ae.bQ Met.none rfl Tryz.underlying75 rfl aO ?_
   first | refine ae.ld Met.none rfl aD ?_ | refine ae.ba Met.none rfl aD ?_
   refine zm rfl ?_
   refine ae.conv Met.none rfl Tryz.underlying78 Tryz.underlying5 rfl ?_
   refine zb rfl rfl rfl ?_
   refine ae.buildSlice (c := [_]) Met.none rfl aQ ea dA (by decide) (by decide) rfl rfl rfl rfl (fun b16 => ?_)
   refine ae.mS [_, _] Met.none rfl rfl dQ aQ ea qt dA (Src.lit (cs := [_])) (fun a17 c17 G17 hG17 => ?_)
   refine zn rfl ?_
   first | refine ae.fieldAddr Met.none rfl Tryz.underlying75 rfl aO rfl ?_ | refine ae.bQ Met.none rfl Tryz.underlying75 rfl aO ?_
   refine ae.st (vs := [_]) Met.none rfl rfl rfl aO ?_
   refine ae.nil (Fin.ag (Fin.aa (WX.region rfl (zm rfl ?_))))
   refine ae.shr Met.none rfl rfl (by omega) ?_
   refine za rfl (ae.nil ?_)
   rw [wG] at hG17
   refine Fin.aj (m / 128, pre ++ [((128 + m % 128 : Nat) : Int)], a17, c17, G17) ⟨?_, by simp only; omega, ?_, ?_⟩ ?_ ?_
   · simp only [List.append_assoc, List.singleton_append]
     rw [← dv (by omega)]
     exact h1
   · simp only [List.length_append, List.length_singleton]; omega
   · simp only [List.length_append, List.length_singleton, List.map_append]; exact hG17
   · simp only; omega
   · rw [yX]
     simp only [List.length_append, List.length_singleton]
     exact (fun s hs => hs.tl [1] 2)
 · try simp only [aB] at hc0
   refine WX.exit (Fin.aF (Fin.aN (Fin.aK rfl (Fin.aa ?_))))
   have hm : m < 128 := by omega
   rw [cY hm] at h1 hpl
   refine WX.region rfl (zm rfl (zm rfl (zn rfl ?_)))
   first | refine ae.fieldAddr Met.none rfl Tryz.underlying75 rfl aO rfl ?_ | refine ae.bQ Met.none rfl Tryz.underlying75 rfl aO ?_
   first | refine ae.ld Met.none rfl aD ?_ | refine ae.ba Met.none rfl aD ?_
   refine zm rfl ?_
   refine ae.conv Met.none rfl Tryz.underlying78 Tryz.underlying5 (wrap_u8 (by omega) (by omega)) ?_
   refine ae.buildSlice (c := [_]) Met.none rfl aQ ea dA (by decide) (by decide) rfl rfl rfl rfl (fun b27 => ?_)
   refine ae.mS [_, _] Met.none rfl rfl dQ aQ ea qt dA (Src.lit (cs := [_])) (fun a28 c28 G28 hG28 => ?_)
   refine zn rfl ?_
   first | refine ae.fieldAddr Met.none rfl Tryz.underlying75 rfl aO rfl ?_ | refine ae.bQ Met.none rfl Tryz.underlying75 rfl aO ?_
   refine ae.st (vs := [_]) Met.none rfl rfl rfl aO ?_
   refine ae.nil ?_
   refine Fin.result (O' := (b, ⟨0, false, [.slice a28 (pre.length + 1) c28]⟩) :: (G28 ++ O)) (.inl rfl) rfl rfl (fun _ hs => hs.tail) ⟨a28, c28, G28, ?_, ?_⟩
   · rw [← h1, List.length_append, List.map_append]; exact hG28
   · rw [← h1, List.length_append]; rfl
theorem xj (O G : an) (b : Nat) (l : List Int) (a : Option Addr) (c : Nat) (n : Int) (hn : dG n) (hl : l.length ≤ 1000000000) (hG : Grow 1 a l.length c (l.map B8) G) :
  Spec Tryz.prog false 51 #[Ptr b 0, I n] ((b, ⟨0, false, [.slice a l.length c]⟩) :: (G ++ O)) fun v O' => ∃ a' c' G', Grow 1 a' (l ++ bA (ff n).toNat).length c' ((l ++ bA (ff n).toNat).map B8) G' ∧ O' = (b, ⟨0, false, [.slice a' (l ++ bA (ff n).toNat).length c']⟩) :: (G' ++ O) := by
 have hz := fw hn
 have hz2 : U (ff n) = U (((ff n).toNat : Nat) : Int) := by unfold mB at hz; rw [Int.toNat_of_nonneg hz.1]
 unfold mB at hz
 refine Spec.enter (args := [_, _]) (m := 8) Tryz.func51 rfl rfl (by decide +kernel) fun h0 => ?_
 refine WX.region rfl (zm rfl (zm rfl ?_))
 refine ae.cl (O1 := _) Met.none rfl (ah Tryz.func69 (by decide +kernel)) rfl (fun _ h => h) (xS _ n hn) (fun v O' hp => ?_)
 obtain ⟨rfl, hO⟩ := hp
 subst O'
 rw [hz2]
 refine ae.cl (O1 := _) Met.none rfl (ah Tryz.func41 (by decide +kernel)) rfl (fun _ h => h) (mb O G b l a c (ff n).toNat (by omega) hl hG) (fun v O' hp => ?_)
 obtain ⟨a', c', G', hG', rfl⟩ := hp
 refine ae.nil ?_
 exact Fin.result (.inl rfl) rfl rfl (fun _ hs => hs) ⟨a', c', G', hG', rfl⟩
theorem vF (O G : an) (b : Nat) (l s : List Int) (a : Option Addr) (c : Nat) (hs : Bytes s) (hsl : s.length ≤ 1000000000) (hl : l.length ≤ 1000000000) (hG : Grow 1 a l.length c (l.map B8) G) :
  Spec Tryz.prog false 57 #[Ptr b 0, .string (fH s)] ((b, ⟨0, false, [.slice a l.length c]⟩) :: (G ++ O)) fun v O' => ∃ a' c' G', Grow 1 a' (l ++ (bA s.length ++ s)).length c' ((l ++ (bA s.length ++ s)).map B8) G' ∧ O' = (b, ⟨0, false, [.slice a' (l ++ (bA s.length ++ s)).length c']⟩) :: (G' ++ O) := by
 have hbs := eG s
 have hlen : (bA s.length).length ≤ 10 := ec (k := 9) (by omega)
 have hll : (l ++ bA s.length).length = l.length + (bA s.length).length := List.length_append
 refine Spec.enter (args := [_, _]) (m := 18) Tryz.func57 rfl rfl (by decide +kernel) fun h0 => ?_
 refine WX.seq (WX.region rfl (zm rfl (zm rfl ?_)))
 refine ae.wa Met.none rfl Tryz.underlying9 ?_
 rw [hbs]
 refine ae.conv Met.none rfl Tryz.underlying3 Tryz.underlying78 wh ?_
 refine ae.cl (O1 := _) Met.none rfl (ah Tryz.func41 (by decide +kernel)) rfl (fun _ h => h) (mb O G b l a c s.length (by omega) hl hG) (fun v O' hp => ?_)
 obtain ⟨a1, c1, G1, hG1, rfl⟩ := hp
 refine ae.nil (Fin.aa (WX.region rfl (zm rfl (zm rfl (zn rfl ?_)))))
 first | refine ae.fieldAddr Met.none rfl Tryz.underlying75 rfl aO rfl ?_ | refine ae.bQ Met.none rfl Tryz.underlying75 rfl aO ?_
 first | refine ae.ld Met.none rfl aD ?_ | refine ae.ba Met.none rfl aD ?_
 refine zm rfl ?_
 refine ae.mS [_] Met.none rfl rfl ym aQ ea qt dA (Src.fH hs) (fun a15 c15 G15 hG15 => ?_) (hm := (by rw [List.length_map]; omega))
 refine zn rfl ?_
 first | refine ae.fieldAddr Met.none rfl Tryz.underlying75 rfl aO rfl ?_ | refine ae.bQ Met.none rfl Tryz.underlying75 rfl aO ?_
 refine ae.st (vs := [_]) Met.none rfl rfl rfl aO ?_
 refine ae.nil ?_
 refine Fin.result (O' := (b, ⟨0, false, [.slice a15 ((l ++ bA s.length).length + s.length) c15]⟩) :: (G15 ++ O)) (.inl rfl) rfl rfl (fun _ hs => hs) ⟨a15, c15, G15, ?_, ?_⟩
 · rw [← List.append_assoc, List.length_append, List.map_append]; exact hG15
 · rw [← List.append_assoc, show (l ++ bA s.length ++ s).length = (l ++ bA s.length).length + s.length from List.length_append]
theorem qs (O G : an) (b : Nat) (l s : List Int) (a as_ : Option Addr) (c cs : Nat) (hs : Bytes s) (hsl : s.length ≤ 1000000000) (hl : l.length ≤ 1000000000) (hG : Grow 1 a l.length c (l.map B8) G)
  (hsrc : Src ((b, ⟨0, false, [.slice a l.length c]⟩) :: (G ++ O)) 1 (.slice as_ s.length cs) s.length (s.map B8)) :
  Spec Tryz.prog false 40 #[Ptr b 0, .slice as_ s.length cs] ((b, ⟨0, false, [.slice a l.length c]⟩) :: (G ++ O)) fun v O' => ∃ a' c' G', Grow 1 a' (l ++ (bA s.length ++ s)).length c' ((l ++ (bA s.length ++ s)).map B8) G' ∧ O' = (b, ⟨0, false, [.slice a' (l ++ (bA s.length ++ s)).length c']⟩) :: (G' ++ O) := by
 refine Spec.enter (args := [_, _]) (m := 8) Tryz.func40 rfl rfl (by decide +kernel) fun h0 => ?_
 refine WX.region rfl (zm rfl (zm rfl ?_))
 refine ae.toStr Met.none rfl Tryz.underlying39 Tryz.underlying9 Tryz.underlying5 iY ?_
 refine ae.cl (O1 := _) Met.none rfl (ah Tryz.func57 (by decide +kernel)) rfl (fun _ h => h) (vF O G b l s a c hs hsl hl hG) (fun v O' hp => ?_)
 obtain ⟨a', c', G', hG', rfl⟩ := hp
 refine ae.nil ?_
 exact Fin.result (.inl rfl) rfl rfl (fun _ hs => hs) ⟨a', c', G', hG', rfl⟩
theorem iW (O : an) (l : List Int) (a : Option Addr) (c : Nat) (hlen : l.length ≤ 1000000000000) (hnil : a = none → l = []) (hl : Src O 1 (.slice a l.length c) l.length (l.map B8)) :
  Spec Tryz.prog false 30 #[.slice a l.length c] O fun v O' => ∃ a' c' G, v = .slice a' l.length c' ∧ Grow 1 a' l.length c' (l.map B8) G ∧ O' = G ++ O := by
 refine Spec.enter (args := [_]) (m := 8) Tryz.func30 rfl rfl (by decide +kernel) fun h0 => ?_
 refine WX.seq (WX.region rfl (za rfl (ae.nil (Fin.aa (WX.seq (WX.seq (WX.region rfl (zm rfl ?_))))))))
 refine ae.yA Met.none rfl rfl Tryz.underlying39 ?_
 refine ae.nil (Fin.aa ?_)
 refine WX.cond rfl (fun hc0 => ?_) (fun hc0 => ?_)
 · try simp only [aB] at hc0
   refine WX.seq (WX.region rfl (za rfl (ae.nil (Fin.aa (WX.ret (Fin.az ?_))))))
   first
   | (have hla : l = [] := hnil (by simpa using hc0)
      subst hla
      exact Fin.result (O' := [] ++ O) (.inr rfl) rfl rfl au ⟨none, 0, [], rfl, .nil, rfl⟩)
   | exact Fin.result (O' := [(b7, ⟨1, false, l.map B8⟩)] ++ O) (.inr rfl) rfl rfl (fun _ => Sat.tl [0] 1) ⟨some ⟨b7, 0, none⟩, _, [_], rfl, .row (by simp), rfl⟩
 · try simp only [aB] at hc0
   refine WX.skip (Fin.aa (WX.seq (WX.region rfl ?_)))
   refine ae.buildSlice (c := []) Met.none rfl aQ ea dA (by decide) (by decide) rfl rfl rfl rfl (fun b5 => ?_)
   refine zm rfl ?_
   refine ae.ap Met.none rfl rfl dQ aQ ea qt dA iY (fun b7 => ?_) (hc := (show _ = l.map B8 from rfl))
   rw [Nat.zero_add l.length]
   refine za rfl (ae.nil (Fin.aa (WX.ret ?_)))
   first
   | (have hla : l = [] := hnil (by simpa using hc0)
      subst hla
      exact Fin.result (O' := [] ++ O) (.inr rfl) rfl rfl au ⟨none, 0, [], rfl, .nil, rfl⟩)
   | exact Fin.result (O' := [(b7, ⟨1, false, l.map B8⟩)] ++ O) (.inr rfl) rfl rfl (fun _ => Sat.tl [0] 1) ⟨some ⟨b7, 0, none⟩, _, [_], rfl, .row (by simp), rfl⟩
theorem nu (O G : an) (b : Nat) (l : List Int) (a : Option Addr) (c : Nat) (hl : l.length ≤ 1000000000000) (hG : Grow 1 a l.length c (l.map B8) G) (hgo : Src O 1 (.slice a l.length c) l.length (l.map B8)) (hb : aU O b ⟨0, false, [.slice a l.length c]⟩) :
  Spec Tryz.prog false 43 #[Ptr b 0] O fun v O' => ∃ a' c' G', v = .slice a' l.length c' ∧ Grow 1 a' l.length c' (l.map B8) G' ∧ O' = G' ++ O := by
 refine Spec.enter (args := [_]) (m := 8) Tryz.func43 rfl rfl (by decide +kernel) fun h0 => ?_
 refine WX.seq (WX.region rfl (za rfl (zR rfl (zm rfl (zn rfl ?_)))))
 first | refine ae.fieldAddr Met.none rfl Tryz.underlying75 rfl aO rfl ?_ | refine ae.bQ Met.none rfl Tryz.underlying75 rfl aO ?_
 first | refine ae.ld Met.none rfl aD ?_ | refine ae.ba Met.none rfl aD ?_
 refine ae.cl (O1 := _) Met.none rfl (ah Tryz.func30 (by decide +kernel)) rfl (fun _ h => h) (iW O l a c hl (fun q => by
 have := hG.eh q
 exact List.length_eq_zero_iff.1 this.2) iY) (fun v O' hp => ?_)
 obtain ⟨a', c', G', rfl, hG', rfl⟩ := hp
 refine za rfl (ae.nil (Fin.aa (WX.ret ?_)))
 exact Fin.result (O' := G' ++ O) (.inr rfl) rfl rfl au ⟨a', c', G', rfl, hG', rfl⟩
def my : List Int → Int
 | [] => 0
 | b :: l => b + 256 * my l
theorem ku : ∀ {l : List Int}, Bytes l → 0 ≤ my l ∧ my l < 256 ^ l.length
 | [], _ => by simp [my]
 | b :: l, h => by
  obtain ⟨h1, h2⟩ := ku (l := l) fun x hx => h x (List.mem_cons_of_mem _ hx)
  obtain ⟨h3, h4⟩ := h b (List.mem_cons_self ..)
  rw [List.length_cons, Int.pow_succ]
  unfold my
  omega
theorem nA : ∀ (l : List Int) (b : Int), my (l ++ [b]) = my l + b * 256 ^ l.length
 | [], b => by simp [my]
 | x :: l, b => by
  show x + 256 * my (l ++ [b]) = x + 256 * my l + b * 256 ^ (l.length + 1)
  rw [nA l b, Int.pow_succ, Int.mul_add, ← Int.add_assoc]
  congr 1
  rw [Int.mul_comm (256 ^ l.length) 256, ← Int.mul_assoc, ← Int.mul_assoc, Int.mul_comm 256 b]
def aM (l : List Int) : List Int := if h : l = [] then [] else my (l.take 8) :: aM (l.drop 8)
termination_by l.length
decreasing_by
 have : 0 < l.length := List.length_pos_iff.2 h
 rw [List.length_drop]
 omega
theorem rC : aM [] = [] := by rw [aM, dif_pos rfl]
theorem jt {l : List Int} (h : l ≠ []) : aM l = my (l.take 8) :: aM (l.drop 8) := by rw [aM, dif_neg h]
theorem qU {w b k : Nat} (hw : w < 2 ^ k) : w ||| (b * 2 ^ k) = w + b * 2 ^ k := by
 have h := Nat.two_pow_add_eq_or_of_lt hw b
 rw [Nat.mul_comm b, Nat.or_comm, ← h, Nat.add_comm]
theorem zf {w b : Int} {k : Nat} (hw : 0 ≤ w ∧ w < 256 ^ k) (hb : 0 ≤ b ∧ b < 256) (hk : k < 8) :
  IntKind.wrap .u64 (((BitVec.ofInt (IntKind.bits .u64) w) ||| (BitVec.ofInt (IntKind.bits .u64) (IntKind.wrap .u64 (b * 2 ^ (min (8 * (k : Int)).toNat (IntKind.bits .u64)))))).toNat : Int) = w + b * 256 ^ k := by
 obtain ⟨w', rfl⟩ := Int.eq_ofNat_of_zero_le hw.1
 obtain ⟨b', rfl⟩ := Int.eq_ofNat_of_zero_le hb.1
 have e1 : min (8 * (k : Int)).toNat (IntKind.bits .u64) = 8 * k := by
  show min (8 * (k : Int)).toNat 64 = 8 * k
  omega
 have e2 : (256 : Nat) ^ k = 2 ^ (8 * k) := by rw [Nat.pow_mul]
 have hw2 : w' < 2 ^ (8 * k) := by
  have := hw.2
  rw [← e2]
  exact Int.ofNat_lt.1 (by rw [Int.natCast_pow]; exact this)
 have e3 : (256 : Int) ^ k = ((2 ^ (8 * k) : Nat) : Int) := by rw [← e2, Int.natCast_pow]; rfl
 have hp : 2 ^ (8 * k) ≤ 2 ^ 56 := Nat.pow_le_pow_right (by decide) (by omega)
 have hb2 : b' < 256 := by have := hb.2; omega
 have hbb : b' * 2 ^ (8 * k) ≤ 255 * 2 ^ 56 := Nat.mul_le_mul (by omega) hp
 have hbb2 : b' * 2 ^ (8 * k) < 18446744073709551616 := by omega
 have hw3 : w' < 18446744073709551616 := by omega
 have e4 : ((b' : Int) * 2 ^ (8 * k)) = ((b' * 2 ^ (8 * k) : Nat) : Int) := by rw [Int.natCast_mul, Int.natCast_pow]; rfl
 rw [e1, e4, wrap_u64 (n := ((b' * 2 ^ (8 * k) : Nat) : Int)) (by omega) (by omega), e3]
 show IntKind.wrap .u64 (((BitVec.ofInt 64 (w' : Int)) ||| (BitVec.ofInt 64 ((b' * 2 ^ (8 * k) : Nat) : Int))).toNat : Int) = _
 have e5 : ((BitVec.ofInt 64 (w' : Int)) ||| (BitVec.ofInt 64 ((b' * 2 ^ (8 * k) : Nat) : Int))).toNat = w' + b' * 2 ^ (8 * k) := by
  rw [BitVec.toNat_or, BitVec.toNat_ofInt, BitVec.toNat_ofInt, ← qU hw2]
  congr 1 <;> omega
 rw [e5]
 have hsum : w' + b' * 2 ^ (8 * k) < 18446744073709551616 := by
  have : w' < 2 ^ 56 := by omega
  omega
 rw [wrap_u64 (by omega) (by omega), Int.natCast_add, Int.natCast_mul]
theorem eN (l : List Int) : (aM l).length = (l.length + 7) / 8 := by
 by_cases hl : l = []
 · rw [hl, rC]; rfl
 · have h0 : 0 < l.length := List.length_pos_iff.2 hl
   have hlt : (l.drop 8).length < l.length := by rw [List.length_drop]; omega
   rw [jt hl, List.length_cons, eN (l.drop 8), List.length_drop]
   omega
termination_by l.length
theorem kg (l : List Int) (k : Nat) (hk : 8 * k < l.length) : nth (aM l) k = my ((l.drop (8 * k)).take 8) := by
 induction k generalizing l with
 | zero =>
  have hl : l ≠ [] := fun q => by rw [q] at hk; simp at hk
  rw [jt hl]; rfl
 | succ k ih =>
  have hl : l ≠ [] := fun q => by rw [q] at hk; simp at hk
  rw [jt hl]
  show nth (aM (l.drop 8)) k = _
  rw [ih (l.drop 8) (by rw [List.length_drop]; omega), List.drop_drop]
  congr 3
  omega
theorem sD {β : Type} (OI : β → an) (Inv : Nat → β → Prop) (ρ : dV) (y : Nat) (l : List Int) (hB : Bytes l) (cb : Nat) (a : Option Addr) (c : Nat) (hlen : l.length ≤ 1000000000000)
  (hbox : ∀ x, aU (OI x) cb ⟨0, false, [.slice a l.length c]⟩) (hsrc : ∀ x, Src (OI x) 1 (.slice a l.length c) l.length (l.map B8)) (x0 : β) (hI0 : Inv 0 x0)
  (hy : ∀ k x, k < (aM l).length → Inv k x → pe Tryz.prog ρ y [U (nth (aM l) k)] (OI x) fun O' => ∃ x', Inv (k + 1) x' ∧ O' = OI x') :
  fW Tryz.prog ρ false 73 #[Yd y, Ptr cb 0] (OI x0) fun v O' => ∃ x', Inv (aM l).length x' ∧ O' = OI x' := by
 have hwl := eN l
 refine fW.enter (args := [_, _]) (m := 38) Tryz.func73 rfl rfl (by decide +kernel) fun h0 => ?_
 refine WX.seq (WX.region rfl (za rfl (ae.nil (Fin.aa (WX.block ?_)))))
 refine WX.loop (fun q : Nat × β => [(0, Yd y), (1, Ptr cb 0), (3, I ((8 * q.1 : Nat) : Int))]) (fun q => OI q.2) (fun q => q.1 ≤ (aM l).length ∧ Inv q.1 q.2) (fun q => (aM l).length - q.1) (0, x0) ⟨Nat.zero_le _, hI0⟩ (fun s hs => hs.tl [] 0) (fun q hq => ?_)
 obtain ⟨k, x⟩ := q
 obtain ⟨hk, hI⟩ := hq
 simp only at hk hI
 dsimp only
 have hb1 := hbox x
 have hs1 := hsrc x
 refine WX.seq (WX.seq (WX.region rfl (zm rfl ?_)))
 first | refine ae.ld Met.none rfl aD ?_ | refine ae.ba Met.none rfl aD ?_
 refine ae.len Met.none rfl Tryz.underlying39 (zb rfl rfl rfl (ae.nil (Fin.aa ?_)))
 refine WX.cond rfl (fun hc0 => ?_) (fun hc0 => ?_)
 · try simp only [aB] at hc0
   refine WX.skip (Fin.aa (WX.seq (WX.block (WX.seq (WX.region rfl (za rfl (ae.nil (Fin.aa (WX.seq (WX.seq (WX.region rfl (zm rfl (za rfl (ae.nil (Fin.aa ?_)))))))))))))))
   refine WX.block ?_
   refine WX.loop (fun j : Nat => [(0, Yd y), (1, Ptr cb 0), (3, I ((8 * k : Nat) : Int)), (4, U (my ((l.drop (8 * k)).take j))), (5, I ((8 * k + j : Nat) : Int))]) (fun _ => OI x) (fun j => j ≤ 8 ∧ 8 * k + j ≤ l.length) (fun j => 8 - j) 0 ⟨by omega, by omega⟩ (fun s hs => hs.tl [] 0) (fun j hj => ?_)
   refine WX.seq (WX.seq (WX.region rfl (zm rfl (zm rfl (zb rfl rfl dH ?_)))))
   first | refine ae.ld Met.none rfl aD ?_ | refine ae.ba Met.none rfl aD ?_
   refine ae.len Met.none rfl Tryz.underlying39 ?_
   refine ae.min Met.none rfl rfl ?_
   refine zb rfl rfl rfl (ae.nil (Fin.aa ?_))
   refine WX.cond rfl (fun hc1 => ?_) (fun hc1 => ?_)
   · try simp only [aB] at hc1
     refine WX.skip (Fin.aa (WX.seq (WX.block ?_)))
     have hjl : 8 * k + j < l.length := by omega
     have hbj := hB _ (dK hjl)
     have hdl : j < (l.drop (8 * k)).length := by rw [List.length_drop]; omega
     have hnd : nth (l.drop (8 * k)) j = nth l (8 * k + j) := by
      rw [dx hdl, dx hjl, List.getElem_drop]
     have hTB : Bytes ((l.drop (8 * k)).take j) := fun z hz => hB z (List.mem_of_mem_drop (List.mem_of_mem_take hz))
     have hTr := ku hTB
     have hTl : ((l.drop (8 * k)).take j).length = j := by rw [List.length_take]; omega
     rw [hTl] at hTr
     have hnext : my ((l.drop (8 * k)).take (j + 1)) = my ((l.drop (8 * k)).take j) + nth l (8 * k + j) * 256 ^ j := by
      rw [bG hdl, nA, hTl, hnd]
     refine WX.region rfl (zm rfl ?_)
     first | refine ae.ld Met.none rfl aD ?_ | refine ae.ba Met.none rfl aD ?_
     refine zm rfl ?_
     first | refine ae.ix Met.none rfl rfl aQ ea ?_ | refine ae.eH Met.none rfl rfl aQ ea ?_
     first | refine ae.ld Met.none rfl iU ?_ | refine ae.ba Met.none rfl iU ?_
     refine ae.conv Met.none rfl Tryz.underlying5 Tryz.underlying78 (wrap_u64 (by omega) (by omega)) ?_
     refine zm rfl (zm rfl (ae.bin Met.none rfl rfl (show _ = some (I (j : Int)) from (nD (by omega) (by omega)).trans (congrArg (fun n => some (I n)) (by omega))) (zb rfl rfl ug ?_)))
     refine ae.shl Met.none rfl rfl (by omega) ?_
     refine ae.bin Met.none rfl rfl (congrArg (fun n => some (Value.int .u64 n)) (zf hTr hbj (by omega))) (za rfl (ae.nil (Fin.ag (Fin.aa (WX.region rfl (zm rfl (zb rfl rfl dH (za rfl (ae.nil ?_)))))))))
     refine Fin.aj (j + 1) ⟨by omega, by omega⟩ (by omega) ?_
     rw [hnext]
     exact (fun s hs => hs.tl [] 0)
   · try simp only [aB] at hc1
     refine WX.exit (Fin.aF (Fin.aN (Fin.aK rfl (Fin.aa (WX.seq ?_)))))
     have hkl : 8 * k < l.length := by omega
     have hw : my ((l.drop (8 * k)).take j) = nth (aM l) k := by
      rw [kg l k hkl]
      congr 1
      rcases Nat.lt_or_ge j 8 with q | q
      · rw [List.take_of_length_le (by rw [List.length_drop]; omega), List.take_of_length_le (by rw [List.length_drop]; omega)]
      · have : j = 8 := by omega
        rw [this]
     rw [hw]
     refine WX.region rfl (zm rfl (zm rfl ?_))
     refine ae.yield (O1 := _) Met.none rfl rfl (fun _ h => h) rfl rfl rfl rfl (hy k x (by omega) hI) (fun O' hp => ?_)
     obtain ⟨x', hI', rfl⟩ := hp
     refine ae.not Met.none rfl (ae.nil (Fin.aa ?_))
     refine WX.cond rfl (fun hc2 => nomatch hc2) (fun hc2 => ?_)
     refine WX.skip (Fin.ag (Fin.aa (WX.region rfl (zm rfl (zb rfl rfl dH (za rfl (ae.nil ?_)))))))
     exact Fin.aj (k + 1, x') ⟨by simp only; omega, hI'⟩ (by simp only; omega) (fun s hs => hs.tl [] 0)
 · try simp only [aB] at hc0
   refine WX.exit (Fin.aF (Fin.aN (Fin.aK rfl ?_)))
   have hkk : k = (aM l).length := by omega
   subst hkk
   exact Fin.result (O' := OI x) (.inl rfl) rfl rfl (fun _ h => h) ⟨x, hI, rfl⟩
theorem uS (O : an) (a : Option Addr) (n c : Nat) :
  Spec Tryz.prog false 58 #[.slice a n c] O fun v O' => ∃ cb, v = .func (.func 73) #[] #[Ptr cb 0] ∧ O' = (cb, ⟨0, false, [.slice a n c]⟩) :: O := by
 refine Spec.enter (args := [_]) (m := 4) Tryz.func58 rfl rfl (by decide +kernel) fun h0 => ?_
 refine WX.seq (WX.region rfl ?_)
 refine ae.box (c := [_]) Met.none rfl rfl rfl (fun b1 => ?_)
 refine za rfl (zR rfl ?_)
 refine ae.makeFunc Met.none rfl rfl ?_
 refine za rfl (ae.nil (Fin.aa (WX.ret ?_)))
 exact Fin.result (O' := (b1, ⟨0, false, [.slice a n c]⟩) :: O) (.inr rfl) rfl rfl au ⟨b1, rfl, rfl⟩
theorem qH {β : Type} (OI : β → an) (Inv : Nat → β → Prop) (ρ : dV) (y : Nat) (l : List Int) (hB : Bytes l) (cb : Nat) (hlen : l.length ≤ 1000000000000)
  (hbox : ∀ x, aU (OI x) cb ⟨0, false, [.string (fH l)]⟩) (x0 : β) (hI0 : Inv 0 x0)
  (hy : ∀ k x, k < (aM l).length → Inv k x → pe Tryz.prog ρ y [U (nth (aM l) k)] (OI x) fun O' => ∃ x', Inv (k + 1) x' ∧ O' = OI x') :
  fW Tryz.prog ρ false 89 #[Yd y, Ptr cb 0] (OI x0) fun v O' => ∃ x', Inv (aM l).length x' ∧ O' = OI x' := by
 have hwl := eN l
 refine fW.enter (args := [_, _]) (m := 37) Tryz.func89 rfl rfl (by decide +kernel) fun h0 => ?_
 refine WX.seq (WX.region rfl (za rfl (ae.nil (Fin.aa (WX.block ?_)))))
 refine WX.loop (fun q : Nat × β => [(0, Yd y), (1, Ptr cb 0), (3, I ((8 * q.1 : Nat) : Int))]) (fun q => OI q.2) (fun q => q.1 ≤ (aM l).length ∧ Inv q.1 q.2) (fun q => (aM l).length - q.1) (0, x0) ⟨Nat.zero_le _, hI0⟩ (fun s hs => hs.tl [] 0) (fun q hq => ?_)
 obtain ⟨k, x⟩ := q
 obtain ⟨hk, hI⟩ := hq
 simp only at hk hI
 dsimp only
 have hb1 := hbox x
 have hsz := eG l
 refine WX.seq (WX.seq (WX.region rfl (zm rfl ?_)))
 first | refine ae.ld Met.none rfl uc ?_ | refine ae.ba Met.none rfl uc ?_
 refine ae.wa Met.none rfl Tryz.underlying9 ?_
 rw [eG]
 refine zb rfl rfl rfl (ae.nil (Fin.aa ?_))
 refine WX.cond rfl (fun hc0 => ?_) (fun hc0 => ?_)
 · try simp only [aB] at hc0
   refine WX.skip (Fin.aa (WX.seq (WX.block (WX.seq (WX.region rfl (za rfl (ae.nil (Fin.aa (WX.seq (WX.seq (WX.region rfl (zm rfl (za rfl (ae.nil (Fin.aa ?_)))))))))))))))
   refine WX.block ?_
   refine WX.loop (fun j : Nat => [(0, Yd y), (1, Ptr cb 0), (3, I ((8 * k : Nat) : Int)), (4, U (my ((l.drop (8 * k)).take j))), (5, I ((8 * k + j : Nat) : Int))]) (fun _ => OI x) (fun j => j ≤ 8 ∧ 8 * k + j ≤ l.length) (fun j => 8 - j) 0 ⟨by omega, by omega⟩ (fun s hs => hs.tl [] 0) (fun j hj => ?_)
   refine WX.seq (WX.seq (WX.region rfl (zm rfl (zm rfl (zb rfl rfl dH ?_)))))
   first | refine ae.ld Met.none rfl uc ?_ | refine ae.ba Met.none rfl uc ?_
   refine ae.wa Met.none rfl Tryz.underlying9 ?_
   rw [eG]
   refine ae.min Met.none rfl rfl ?_
   refine zb rfl rfl rfl (ae.nil (Fin.aa ?_))
   refine WX.cond rfl (fun hc1 => ?_) (fun hc1 => ?_)
   · try simp only [aB] at hc1
     refine WX.skip (Fin.aa (WX.seq (WX.block ?_)))
     have hjl : 8 * k + j < l.length := by omega
     have hbj := hB _ (dK hjl)
     have hdl : j < (l.drop (8 * k)).length := by rw [List.length_drop]; omega
     have hnd : nth (l.drop (8 * k)) j = nth l (8 * k + j) := by
      rw [dx hdl, dx hjl, List.getElem_drop]
     have hTB : Bytes ((l.drop (8 * k)).take j) := fun z hz => hB z (List.mem_of_mem_drop (List.mem_of_mem_take hz))
     have hTr := ku hTB
     have hTl : ((l.drop (8 * k)).take j).length = j := by rw [List.length_take]; omega
     rw [hTl] at hTr
     have hnext : my ((l.drop (8 * k)).take (j + 1)) = my ((l.drop (8 * k)).take j) + nth l (8 * k + j) * 256 ^ j := by
      rw [bG hdl, nA, hTl, hnd]
     refine WX.region rfl (zm rfl ?_)
     first | refine ae.ld Met.none rfl uc ?_ | refine ae.ba Met.none rfl uc ?_
     refine zm rfl ?_
     refine ae.yl Met.none rfl rfl Tryz.underlying9 (by assumption) (by omega) ?_
     refine ae.conv Met.none rfl Tryz.underlying5 Tryz.underlying78 (wrap_u64 (by omega) (by omega)) ?_
     refine zm rfl (zm rfl (ae.bin Met.none rfl rfl (show _ = some (I (j : Int)) from (nD (by omega) (by omega)).trans (congrArg (fun n => some (I n)) (by omega))) (zb rfl rfl ug ?_)))
     refine ae.shl Met.none rfl rfl (by omega) ?_
     refine ae.bin Met.none rfl rfl (congrArg (fun n => some (Value.int .u64 n)) (zf hTr hbj (by omega))) (za rfl (ae.nil (Fin.ag (Fin.aa (WX.region rfl (zm rfl (zb rfl rfl dH (za rfl (ae.nil ?_)))))))))
     refine Fin.aj (j + 1) ⟨by omega, by omega⟩ (by omega) ?_
     rw [hnext]
     exact (fun s hs => hs.tl [] 0)
   · try simp only [aB] at hc1
     refine WX.exit (Fin.aF (Fin.aN (Fin.aK rfl (Fin.aa (WX.seq ?_)))))
     have hkl : 8 * k < l.length := by omega
     have hw : my ((l.drop (8 * k)).take j) = nth (aM l) k := by
      rw [kg l k hkl]
      congr 1
      rcases Nat.lt_or_ge j 8 with q | q
      · rw [List.take_of_length_le (by rw [List.length_drop]; omega), List.take_of_length_le (by rw [List.length_drop]; omega)]
      · have : j = 8 := by omega
        rw [this]
     rw [hw]
     refine WX.region rfl (zm rfl (zm rfl ?_))
     refine ae.yield (O1 := _) Met.none rfl rfl (fun _ h => h) rfl rfl rfl rfl (hy k x (by omega) hI) (fun O' hp => ?_)
     obtain ⟨x', hI', rfl⟩ := hp
     refine ae.not Met.none rfl (ae.nil (Fin.aa ?_))
     refine WX.cond rfl (fun hc2 => nomatch hc2) (fun hc2 => ?_)
     refine WX.skip (Fin.ag (Fin.aa (WX.region rfl (zm rfl (zb rfl rfl dH (za rfl (ae.nil ?_)))))))
     exact Fin.aj (k + 1, x') ⟨by simp only; omega, hI'⟩ (by simp only; omega) (fun s hs => hs.tl [] 0)
 · try simp only [aB] at hc0
   refine WX.exit (Fin.aF (Fin.aN (Fin.aK rfl ?_)))
   have hkk : k = (aM l).length := by omega
   subst hkk
   exact Fin.result (O' := OI x) (.inl rfl) rfl rfl (fun _ h => h) ⟨x, hI, rfl⟩
theorem ub (O : an) (s : ByteArray) :
  Spec Tryz.prog false 74 #[.string s] O fun v O' => ∃ cb, v = .func (.func 89) #[] #[Ptr cb 0] ∧ O' = (cb, ⟨0, false, [.string s]⟩) :: O := by
 refine Spec.enter (args := [_]) (m := 4) Tryz.func74 rfl rfl (by decide +kernel) fun h0 => ?_
 refine WX.seq (WX.region rfl ?_)
 refine ae.box (c := [_]) Met.none rfl rfl rfl (fun b1 => ?_)
 refine za rfl (zR rfl ?_)
 refine ae.makeFunc Met.none rfl rfl ?_
 refine za rfl (ae.nil (Fin.aa (WX.ret ?_)))
 exact Fin.result (O' := (b1, ⟨0, false, [.string s]⟩) :: O) (.inr rfl) rfl rfl au ⟨b1, rfl, rfl⟩
def wD (label : List Int) (l : List Int) : Int :=
 fT (l.foldl (fun s n => fT s (IntKind.wrap .u64 n)) (fT (fT ((aM label).foldl fT 0) label.length) l.length)) 0
theorem x8 (O : an) (label l : List Int) (a : Option Addr) (c : Nat) (hB : Bytes label) (hll : label.length ≤ 1000000000000) (hlen : l.length ≤ 1000000000000) (hl : Src O 1 (.slice a l.length c) l.length (l.map I)) :
  Spec Tryz.prog false 59 #[.string (fH label), .slice a l.length c] O fun v O' => v = U (wD label l) ∧ O' = O := by
 refine Spec.enter (args := [_, _]) (m := 37) Tryz.func59 rfl rfl (by decide +kernel) fun h0 => ?_
 refine WX.seq (WX.region rfl (za rfl (zR rfl ?_)))
 refine ae.alloc (c := [_]) Met.none sr rfl (fun b5 => ?_)
 refine ae.st (vs := [_]) (c' := [_]) Met.none rfl rfl rfl oL ?_
 refine ae.nil (Fin.aa (WX.seq (WX.seq (WX.region rfl (zm rfl ?_)))))
 refine ae.cl (O1 := _) Met.none rfl (ah Tryz.func74 (by decide +kernel)) rfl (fun _ h => h) (ub _ (fH label)) (fun v O' hp => ?_)
 obtain ⟨cb, rfl, rfl⟩ := hp
 refine ae.nil (Fin.aa (WX.block ?_))
 refine WX.rangeFunc (fun q : Int => (cb, ⟨0, false, [.string (fH label)]⟩) :: (b5, ⟨0, false, [U q]⟩) :: O) (fun k q => q = ((aM label).take k).foldl fT 0) (aM label).length (fun k => [U (nth (aM label) k)]) 0 ⟨rfl, rfl⟩ rfl (ah Tryz.func89 (by decide +kernel)) (fun s hs => hs.sat) rfl rfl (fun _ => rfl)
  (fun ρ b hy => qH (fun q : Int => (cb, ⟨0, false, [.string (fH label)]⟩) :: (b5, ⟨0, false, [U q]⟩) :: O) (fun k q => q = ((aM label).take k).foldl fT 0) ρ b label hB cb hll (fun x => aU.at 0 rfl) 0 rfl hy) (fun h0 ρ k y hk hy => ?_) (fun y hy => ?_)
 · refine WX.seq ?_
   refine WX.region rfl (za rfl (ae.nil (Fin.aa (WX.block (WX.region rfl ?_)))))
   first | refine ae.ld Met.none rfl jM ?_ | refine ae.ba Met.none rfl jM ?_
   refine zm rfl ?_
   refine ae.cl (O1 := _) Met.none rfl (ah Tryz.func75 (by decide +kernel)) rfl (fun _ h => h) (nB _ y (nth (aM label) k)) (fun v O' hp => ?_)
   obtain ⟨rfl, hO⟩ := hp
   subst O'
   refine ae.st (vs := [_]) (c' := [_]) Met.none rfl rfl rfl oL ?_
   refine ae.nil (Fin.ag ?_)
   exact Fin.round (fT y (nth (aM label) k)) (by rw [bG hk, List.foldl_append, ← hy]; rfl) (fun h hh => hh)
 · skip
   refine Fin.ag (Fin.aa (WX.seq ?_))
   have hsz := eG label
   rw [List.take_length] at hy
   obtain ⟨s0, hs0⟩ : ∃ s0, s0 = fT (fT y label.length) l.length := ⟨_, rfl⟩
   refine WX.region rfl ?_
   first | refine ae.ld Met.none rfl jM ?_ | refine ae.ba Met.none rfl jM ?_
   refine zm rfl ?_
   refine ae.wa Met.none rfl Tryz.underlying9 ?_
   rw [eG]
   refine ae.conv Met.none rfl Tryz.underlying3 Tryz.underlying78 wh ?_
   refine ae.cl (O1 := _) Met.none rfl (ah Tryz.func75 (by decide +kernel)) rfl (fun _ h => h) (nB _ y (label.length : Int)) (fun v O' hp => ?_)
   obtain ⟨rfl, hO⟩ := hp
   subst O'
   refine zm rfl (ae.len Met.none rfl Tryz.underlying22 ?_)
   refine ae.conv Met.none rfl Tryz.underlying3 Tryz.underlying78 wh ?_
   refine ae.cl (O1 := _) Met.none rfl (ah Tryz.func75 (by decide +kernel)) rfl (fun _ h => h) (nB _ (fT y label.length) (l.length : Int)) (fun v O' hp => ?_)
   obtain ⟨rfl, hO⟩ := hp
   subst O'
   refine ae.st (vs := [_]) (c' := [_]) Met.none rfl rfl rfl oL ?_
   refine ae.nil (Fin.aa (WX.seq (WX.seq (WX.region rfl (zm rfl (ae.len Met.none rfl Tryz.underlying22 (zm rfl (ae.nil (Fin.aa (WX.block ?_))))))))))
   refine WX.loop (fun k : Nat => [(5, Ptr b5 0), (24, .slice a l.length c), (25, I (l.length : Int)), (26, I (k : Int))]) (fun k => (b5, ⟨0, false, [U ((l.take k).foldl (fun s n => fT s (IntKind.wrap .u64 n)) s0)]⟩) :: O) (fun k => k ≤ l.length) (fun k => l.length - k) 0 (Nat.zero_le _) ?_ (fun k hk => ?_)
   · rw [hs0]
     exact (fun s hs => hs.tl [1] 2)
   refine WX.seq (WX.region rfl (zb rfl rfl rfl (ae.nil (Fin.aa (WX.seq ?_)))))
   refine WX.cond rfl (fun hc0 => ?_) (fun hc0 => ?_)
   · try simp only [aB] at hc0
     refine WX.skip (Fin.aa (WX.seq (WX.block (WX.seq (WX.region rfl ?_)))))
     first | refine ae.ix Met.none rfl rfl bh cj ?_ | refine ae.eH Met.none rfl rfl bh cj ?_
     first | refine ae.ld Met.none rfl bY ?_ | refine ae.ba Met.none rfl bY ?_
     refine za rfl (ae.nil (Fin.aa (WX.region rfl ?_)))
     first | refine ae.ld Met.none rfl jM ?_ | refine ae.ba Met.none rfl jM ?_
     refine zm rfl ?_
     refine ae.conv Met.none rfl Tryz.underlying3 Tryz.underlying78 rfl ?_
     refine ae.cl (O1 := _) Met.none rfl (ah Tryz.func75 (by decide +kernel)) rfl (fun _ h => h) (nB _ ((l.take k).foldl (fun s n => fT s (IntKind.wrap .u64 n)) s0) (IntKind.wrap .u64 (nth l k))) (fun v O' hp => ?_)
     obtain ⟨rfl, hO⟩ := hp
     subst O'
     refine ae.st (vs := [_]) (c' := [_]) Met.none rfl rfl rfl oL ?_
     refine ae.nil (Fin.ag (Fin.aa (WX.region rfl (zb rfl rfl dH (zm rfl (ae.nil ?_))))))
     refine Fin.aj (k + 1) (by omega) (by omega) ?_
     rw [bG (by omega), List.foldl_append]
     exact (fun s hs => hs.tl [0] 1)
   · try simp only [aB] at hc0
     refine WX.exit (Fin.aF (Fin.aN (Fin.aK rfl (Fin.aa (WX.seq ?_)))))
     have hkl : k = l.length := by omega
     subst hkl
     rw [List.take_length]
     refine WX.region rfl ?_
     first | refine ae.ld Met.none rfl jM ?_ | refine ae.ba Met.none rfl jM ?_
     refine ae.cl (O1 := _) Met.none rfl (ah Tryz.func75 (by decide +kernel)) rfl (fun _ h => h) (nB _ (l.foldl (fun s n => fT s (IntKind.wrap .u64 n)) s0) 0) (fun v O' hp => ?_)
     obtain ⟨rfl, hO⟩ := hp
     subst O'
     refine za rfl (ae.nil (Fin.aa (WX.ret ?_)))
     exact Fin.result (O' := O) (.inr rfl) rfl rfl au ⟨by rw [hs0, hy]; rfl, rfl⟩
def xp (w : Int) : Int := IntKind.wrap .i64 w
def dD (label b : List Int) : Int := wD label ((aM b).map xp ++ [(b.length : Int)])
theorem sS (O : an) (label b : List Int) (a : Option Addr) (c : Nat) (hB : Bytes label) (hb : Bytes b) (hll : label.length ≤ 1000000000000) (hlen : b.length ≤ 1000000000000) (hl : Src O 1 (.slice a b.length c) b.length (b.map B8)) :
  Spec Tryz.prog false 42 #[.string (fH label), .slice a b.length c] O fun v O' => v = U (dD label b) ∧ O' = O := by
 have hwl := eN b
 refine Spec.enter (args := [_, _]) (m := 22) Tryz.func42 rfl rfl (by decide +kernel) fun h0 => ?_
 refine WX.seq (WX.region rfl (za rfl (zR rfl ?_)))
 refine ae.alloc (c := [_]) Met.none xC rfl (fun b5 => ?_)
 refine ae.nil (Fin.aa (WX.seq (WX.seq (WX.region rfl (zm rfl ?_)))))
 refine ae.cl (O1 := _) Met.none rfl (ah Tryz.func58 (by decide +kernel)) rfl (fun _ h => h) (uS _ a b.length c) (fun v O' hp => ?_)
 obtain ⟨cb, rfl, rfl⟩ := hp
 refine ae.nil (Fin.aa (WX.block ?_))
 refine WX.rangeFunc (fun q : Nat × Option Addr × Nat × an => (cb, ⟨0, false, [.slice a b.length c]⟩) :: (b5, ⟨0, false, [.slice q.2.1 q.1 q.2.2.1]⟩) :: (q.2.2.2 ++ O)) (fun k q => q.1 = k ∧ Grow 1 q.2.1 q.1 q.2.2.1 (((aM b).take k).map fun w => I (xp w)) q.2.2.2) (aM b).length (fun k => [U (nth (aM b) k)]) (0, none, 0, []) ⟨rfl, rfl⟩ rfl (ah Tryz.func73 (by decide +kernel)) (fun s hs => hs.sat) rfl ⟨rfl, .nil⟩ (fun _ => rfl)
  (fun ρ y hy => sD (fun q : Nat × Option Addr × Nat × an => (cb, ⟨0, false, [.slice a b.length c]⟩) :: (b5, ⟨0, false, [.slice q.2.1 q.1 q.2.2.1]⟩) :: (q.2.2.2 ++ O)) (fun k q => q.1 = k ∧ Grow 1 q.2.1 q.1 q.2.2.1 (((aM b).take k).map fun w => I (xp w)) q.2.2.2) ρ y b hb cb a c hlen (fun x => aU.at 0 rfl) (fun x => Src.cons (Src.cons (Src.app hl))) (0, none, 0, []) ⟨rfl, .nil⟩ hy) (fun h0 ρ k q hk hq => ?_) (fun q hq => ?_)
 · refine WX.seq ?_
   obtain ⟨k', aw, cw, Gw⟩ := q
   obtain ⟨hkk, hGw⟩ := hq
   simp only at hkk hGw
   subst hkk
   dsimp only
   refine WX.region rfl (za rfl (ae.nil (Fin.aa (WX.block (WX.region rfl ?_)))))
   first | refine ae.ld Met.none rfl dW ?_ | refine ae.ba Met.none rfl dW ?_
   refine zm rfl ?_
   refine ae.conv Met.none rfl Tryz.underlying78 Tryz.underlying3 rfl ?_
   refine ae.buildSlice (c := [_]) Met.none rfl bh cj ij (by decide) (by decide) rfl rfl rfl rfl (fun b13 => ?_)
   refine ae.mS [_, _, _] Met.none rfl rfl lJ bh cj yv ij (Src.lit (cs := [_])) (fun a14 c14 G14 hG14 => ?_)
   refine ae.st (vs := [_]) (c' := [_]) Met.none rfl rfl rfl gF ?_
   refine ae.nil (Fin.ag ?_)
   refine Fin.round (k' + 1, a14, c14, G14) ⟨rfl, ?_⟩ (fun h hh => Sat.tl [1, 2] 3 hh)
   rw [bG hk, List.map_append]
   exact hG14
 · skip
   refine Fin.ag (Fin.aa (WX.seq ?_))
   obtain ⟨k', aw, cw, Gw⟩ := q
   obtain ⟨hkk, hGw⟩ := hq
   simp only at hkk hGw
   subst hkk
   dsimp only
   rw [List.take_length] at hGw
   refine WX.region rfl (zm rfl ?_)
   first | refine ae.ld Met.none rfl dW ?_ | refine ae.ba Met.none rfl dW ?_
   refine zm rfl (ae.len Met.none rfl Tryz.underlying39 ?_)
   refine ae.buildSlice (c := [_]) Met.none rfl bh cj ij (by decide) (by decide) rfl rfl rfl rfl (fun b19 => ?_)
   refine ae.mS [_, _, _] Met.none rfl rfl lJ bh cj yv ij (Src.lit (cs := [_])) (fun a20 c20 G20 hG20 => ?_)
   rw [show (aM b).length + 1 = ((aM b).map xp ++ [(b.length : Int)]).length from by simp]
   refine ae.cl (O1 := _) Met.none rfl (ah Tryz.func59 (by decide +kernel)) rfl (fun _ h => h) (x8 _ label ((aM b).map xp ++ [(b.length : Int)]) a20 c20 hB hll (by rw [List.length_append, List.length_map, List.length_singleton]; omega) (Src.cons (Src.cons (Src.cons (by have := hG20.src (R := O); simpa [Function.comp_def] using this))))) (fun v O' hp => ?_)
   obtain ⟨rfl, hO⟩ := hp
   subst O'
   refine za rfl (ae.nil (Fin.aa (WX.ret ?_)))
   exact Fin.result (O' := O) (.inr rfl) rfl rfl (fun _ hs => by have h2 := hs.tail.tail.tail; exact Sat.dY (N := G20) (by first | exact h2 | exact h2.dY)) ⟨rfl, rfl⟩
theorem Sat.qf {h : ai} {G A R : an} (hs : Sat h (G ++ (A ++ R))) : Sat h (G ++ R) := (Sat.swap (G := G) (A := A) (R := R) hs).dY (N := A)
def dI (b : List Int) : List Int := bA b.length ++ b
def aY (n : Int) (b : List Int) : List Int := bA (ff n).toNat ++ dI b
def eE : List Int := [102, 114, 97, 109, 101]
def ar (n : Int) (b : List Int) : List Int := dI (aY n b) ++ bA (dD eE (aY n b)).toNat
theorem oD {b : List Int} (h : Bytes b) : Bytes (dI b) := fun x hx => by
 rcases List.mem_append.1 hx with q | q
 · exact lC _ x q
 · exact h x q
theorem kc {n : Int} {b : List Int} (h : Bytes b) : Bytes (aY n b) := fun x hx => by
 rcases List.mem_append.1 hx with q | q
 · exact lC _ x q
 · exact oD h x q
theorem gw (label b : List Int) : mB (dD label b) := by
 unfold dD wD fT qq
 exact gz _
theorem hP {b : List Int} (h : b.length ≤ 1000000000) : (dI b).length ≤ b.length + 10 := by
 unfold dI
 rw [List.length_append]
 have := ec (k := 9) (n := b.length) (by omega)
 omega
theorem gW {n : Int} {b : List Int} (hn : dG n) (h : b.length ≤ 1000000000) : (aY n b).length ≤ b.length + 20 := by
 unfold aY
 rw [List.length_append]
 have hz := fw hn
 unfold mB at hz
 have := ec (k := 9) (n := (ff n).toNat) (by omega)
 have := hP h
 omega
theorem oC (O : an) (n : Int) (b : List Int) (a : Option Addr) (c : Nat) (hn : dG n) (hb : Bytes b) (hlen : b.length ≤ 100000) (hl : Src O 1 (.slice a b.length c) b.length (b.map B8)) :
  Spec Tryz.prog false 36 #[I n, .slice a b.length c] O fun v O' => ∃ a' c' G, v = .slice a' (ar n b).length c' ∧ Grow 1 a' (ar n b).length c' ((ar n b).map B8) G ∧ O' = G ++ O := by
 have hcl := gW hn (b := b) (by omega)
 have hcb := kc (n := n) hb
 have hzr := fw hn
 have hzl : (bA (ff n).toNat).length ≤ 10 := by unfold mB at hzr; exact ec (k := 9) (by omega)
 have hhr := gw eE (aY n b)
 have hrl := hP (b := aY n b) (by omega)
 have hfl : (ar n b).length ≤ 1000000000000 := by
  unfold ar
  rw [List.length_append]
  have := ec (k := 9) (n := (dD eE (aY n b)).toNat) (by unfold mB at hhr; omega)
  omega
 refine Spec.enter (args := [_, _]) (m := 17) Tryz.func36 rfl rfl (by decide +kernel) fun h0 => ?_
 refine WX.seq (WX.region rfl (za rfl (zR rfl ?_)))
 refine ae.alloc (c := [_]) Met.none rQ rfl (fun b5 => ?_)
 refine ae.alloc (c := [_]) Met.none rQ rfl (fun b6 => ?_)
 refine zR rfl (zm rfl ?_)
 refine ae.cl (O1 := (b5, ⟨0, false, [.slice none 0 0]⟩) :: ([] ++ ((b6, ⟨0, false, [.slice none 0 0]⟩) :: O))) Met.none rfl (ah Tryz.func51 (by decide +kernel)) rfl (fun _ hs => hs.tl [1, 0] 2) (xj ((b6, ⟨0, false, [.slice none 0 0]⟩) :: O) [] b5 [] none 0 n hn (by simp) .nil) (fun v O' hp => ?_)
 obtain ⟨a1, c1, G1, hG1, rfl⟩ := hp
 refine zR rfl (zm rfl ?_)
 refine ae.cl (O1 := _) Met.none rfl (ah Tryz.func40 (by decide +kernel)) rfl (fun _ h => h) (qs _ G1 b5 ([] ++ bA (ff n).toNat) b a1 a c1 c hb (by omega) (by rw [List.nil_append]; omega) hG1 iY) (fun v O' hp => ?_)
 obtain ⟨a2, c2, G2, hG2, rfl⟩ := hp
 rw [show [] ++ bA (ff n).toNat ++ (bA b.length ++ b) = aY n b from rfl] at hG2 ⊢
 refine zR rfl ?_
 refine ae.cl (O1 := _) Met.none rfl (ah Tryz.func43 (by decide +kernel)) rfl (fun _ h => h) (nu _ G2 b5 (aY n b) a2 c2 (by omega) hG2 iY at_) (fun v O' hp => ?_)
 obtain ⟨a3, c3, G3, rfl, hG3, rfl⟩ := hp
 refine ae.cl (O1 := (b6, ⟨0, false, [.slice none 0 0]⟩) :: ([] ++ (G3 ++ ((b5, ⟨0, false, [.slice a2 (aY n b).length c2]⟩) :: (G2 ++ O))))) Met.none rfl (ah Tryz.func40 (by decide +kernel)) rfl (fun h hh => by simpa only [List.append_assoc, List.cons_append, List.nil_append] using Sat.swap (G := G3 ++ ((b5, ⟨0, false, [.slice a2 (aY n b).length c2]⟩) :: G2)) (A := [(b6, ⟨0, false, [.slice none 0 0]⟩)]) (R := O) (by simpa only [List.append_assoc, List.cons_append, List.nil_append] using hh)) (qs _ [] b6 [] (aY n b) none a3 0 c3 hcb (by omega) (by simp) .nil iY) (fun v O' hp => ?_)
 obtain ⟨a4, c4, G4, hG4, rfl⟩ := hp
 rw [show [] ++ (bA (aY n b).length ++ aY n b) = dI (aY n b) from rfl] at hG4 ⊢
 refine zR rfl ?_
 refine ae.cl (O1 := _) Met.none rfl (ah Tryz.func43 (by decide +kernel)) rfl (fun _ h => h) (nu _ G2 b5 (aY n b) a2 c2 (by omega) hG2 iY (aU.cons (aU.app (aU.app (aU.at 0 rfl))))) (fun v O' hp => ?_)
 obtain ⟨a5, c5, G5, rfl, hG5, rfl⟩ := hp
 refine ae.cl (O1 := _) Met.none rfl (ah Tryz.func42 (by decide +kernel)) rfl (fun _ h => h) (sS _ eE (aY n b) a5 c5 (by unfold eE; intro x hx; simp at hx; omega) hcb (by decide) (by omega) iY) (fun v O' hp => ?_)
 obtain ⟨rfl, hO⟩ := hp
 subst O'
 rw [show U (dD eE (aY n b)) = U (((dD eE (aY n b)).toNat : Nat) : Int) from by rw [Int.toNat_of_nonneg hhr.1]]
 refine ae.cl (O1 := (b6, ⟨0, false, [.slice a4 (dI (aY n b)).length c4]⟩) :: (G4 ++ (G5 ++ (G3 ++ ((b5, ⟨0, false, [.slice a2 (aY n b).length c2]⟩) :: (G2 ++ O)))))) Met.none rfl (ah Tryz.func41 (by decide +kernel)) rfl (fun h hh => by simpa only [List.append_assoc, List.cons_append, List.nil_append] using Sat.swap (G := G5) (A := (b6, ⟨0, false, [.slice a4 (dI (aY n b)).length c4]⟩) :: G4) (R := G3 ++ ((b5, ⟨0, false, [.slice a2 (aY n b).length c2]⟩) :: (G2 ++ O))) (by simpa only [List.append_assoc, List.cons_append, List.nil_append] using hh)) (mb _ G4 b6 (dI (aY n b)) a4 c4 (dD eE (aY n b)).toNat (by unfold mB at hhr; omega) (by omega) hG4) (fun v O' hp => ?_)
 obtain ⟨a6, c6, G6, hG6, rfl⟩ := hp
 rw [show dI (aY n b) ++ bA (dD eE (aY n b)).toNat = ar n b from rfl] at hG6 ⊢
 refine zR rfl ?_
 refine ae.cl (O1 := _) Met.none rfl (ah Tryz.func43 (by decide +kernel)) rfl (fun _ h => h) (nu _ G6 b6 (ar n b) a6 c6 hfl hG6 iY at_) (fun v O' hp => ?_)
 obtain ⟨a7, c7, G7, rfl, hG7, rfl⟩ := hp
 refine za rfl (ae.nil (Fin.aa (WX.ret ?_)))
 exact Fin.result (O' := G7 ++ O) (.inr rfl) rfl rfl (fun h hh => Sat.qf (G := G7) (A := (b6, ⟨0, false, [.slice a6 (ar n b).length c6]⟩) :: (G6 ++ (G5 ++ (G3 ++ ((b5, ⟨0, false, [.slice a2 (aY n b).length c2]⟩) :: G2))))) (R := O) (by simpa only [List.append_assoc, List.cons_append, List.nil_append] using hh)) ⟨a7, c7, G7, rfl, hG7, rfl⟩
theorem pN (O : an) (l : List Int) (a : Option Addr) (c : Nat) (hlen : l.length ≤ 1000000000000) (hnil : a = none → l = []) (hl : Src O 1 (.slice a l.length c) l.length (l.map B8)) :
  Spec Tryz.prog false 76 #[.slice a l.length c] O fun v O' => ∃ r a' c' G, v = Ptr r 0 ∧ Grow 1 a' l.length c' (l.map B8) G ∧ O' = (r, ⟨0, false, [.slice a' l.length c', I 0]⟩) :: (G ++ O) := by
 refine Spec.enter (args := [_]) (m := 7) Tryz.func76 rfl rfl (by decide +kernel) fun h0 => ?_
 refine WX.seq (WX.region rfl (za rfl (zR rfl (zm rfl ?_))))
 refine ae.cl (O1 := _) Met.none rfl (ah Tryz.func30 (by decide +kernel)) rfl (fun _ h => h) (iW _ l a c hlen hnil iY) (fun v O' hp => ?_)
 obtain ⟨a', c', G, rfl, hG, rfl⟩ := hp
 refine ae.build (c := [_, _]) Met.none rfl wN tG rfl ?_
 refine ae.box (c := [_, _]) Met.none rfl rfl rfl (fun b6 => ?_)
 refine za rfl (ae.nil (Fin.aa (WX.ret ?_)))
 exact Fin.result (O' := (b6, ⟨0, false, [.slice a' l.length c', I 0]⟩) :: (G ++ O)) (.inr rfl) rfl rfl au ⟨b6, a', c', G, rfl, hG, rfl⟩
theorem mo (O : an) (r : Nat) (v : Value) (e e0 : Int) :
  Spec Tryz.prog false 91 #[Ptr r 0, I e] ((r, ⟨0, false, [v, I e0]⟩) :: O) fun _ O' => O' = (r, ⟨0, false, [v, I (if e0 = 0 then e else e0)]⟩) :: O := by
 refine Spec.enter (args := [_, _]) (m := 13) Tryz.func91 rfl rfl (by decide +kernel) fun h0 => ?_
 refine WX.seq (WX.region rfl (zm rfl (zn rfl ?_)))
 first | refine ae.fieldAddr Met.none rfl Tryz.underlying118 rfl cu rfl ?_ | refine ae.bQ Met.none rfl Tryz.underlying118 rfl cu ?_
 first | refine ae.ld Met.none rfl bX ?_ | refine ae.ba Met.none rfl bX ?_
 refine zb rfl rfl rfl (ae.nil (Fin.aa ?_))
 refine WX.cond rfl (fun hc0 => ?_) (fun hc0 => ?_)
 · try simp only [aB] at hc0
   refine WX.region rfl (zm rfl (zm rfl (zn rfl ?_)))
   first | refine ae.fieldAddr Met.none rfl Tryz.underlying118 rfl cu rfl ?_ | refine ae.bQ Met.none rfl Tryz.underlying118 rfl cu ?_
   refine ae.st (vs := [_]) Met.none rfl rfl rfl cu ?_
   refine ae.nil ?_
   first
   | exact Fin.result (O' := (r, ⟨0, false, [v, I e]⟩) :: O) (.inl rfl) rfl rfl (fun _ hs => hs) (by rw [if_pos hc0])
   | exact Fin.result (O' := (r, ⟨0, false, [v, I e0]⟩) :: O) (.inl rfl) rfl rfl (fun _ hs => hs) (by rw [if_neg hc0])
 · try simp only [aB] at hc0
   refine WX.skip ?_
   first
   | exact Fin.result (O' := (r, ⟨0, false, [v, I e]⟩) :: O) (.inl rfl) rfl rfl (fun _ hs => hs) (by rw [if_pos hc0])
   | exact Fin.result (O' := (r, ⟨0, false, [v, I e0]⟩) :: O) (.inl rfl) rfl rfl (fun _ hs => hs) (by rw [if_neg hc0])
abbrev lG := List Int × Int
def zc (O : an) (r : Nat) (q : lG) (N : an) : Prop := ∃ a c, N = (r, ⟨0, false, [.slice a q.1.length c, I q.2]⟩) :: O ∧ bK O 1 a q.1.length (q.1.map B8) ∧ (a = none → c = 0)
def yS (O : an) (r : Nat) (a0 : Option Addr) (q0 q : lG) (N : an) : Prop := ∃ a c, N = (r, ⟨0, false, [.slice a q.1.length c, I q.2]⟩) :: O ∧ (∀ O2, bK O2 1 a0 q0.1.length (q0.1.map B8) → bK O2 1 a q.1.length (q.1.map B8)) ∧ (a = none → c = 0)
def aA : lG → Int × lG
 | (b :: l, 0) => (b, (l, 0))
 | ([], 0) => (0, ([], 3))
 | q => (0, q)
theorem bK.tail {O : an} {a : Option Addr} {x : Value} {cs : List Value} {n : Nat} (h : bK O 1 a (n + 1) (x :: cs)) : ∃ b off y, a = some ⟨b, off, none⟩ ∧ aU O b y ∧ y.sz = 1 ∧ bK O 1 (some ⟨b, off + 1, none⟩) n cs := by
 rcases h with ⟨_, h, _⟩ | ⟨b, off, y, h1, h2, h3, h4, h5⟩
 · omega
 · refine ⟨b, off, y, h1, h2, h3, .inr ⟨b, off + 1, y, rfl, h2, h3, by omega, ?_⟩⟩
   have := congrArg (List.drop 1) h5
   rw [List.drop_take, List.drop_drop] at this
   simpa using this
theorem bK.tl {O : an} {b off n : Nat} {x : Value} {cs : List Value} (h : bK O 1 (some ⟨b, off, none⟩) (n + 1) (x :: cs)) : bK O 1 (some ⟨b, off + 1, none⟩) n cs := by
 obtain ⟨b2, off2, y, h1, h2, h3, h4⟩ := bK.tail h
 injection h1 with h1
 injection h1 with h1 h5
 subst h1 h5
 exact h4
theorem vS (O : an) (r : Nat) (e : Int) (a : Option Addr) (c : Nat) (hr : bK O 1 a 0 []) (hc : a = none → c = 0) :
  Spec Tryz.prog false 90 #[Ptr r 0] ((r, ⟨0, false, [.slice a 0 c, I e]⟩) :: O) fun v O' => v = B8 (aA ([], e)).1 ∧ yS O r a ([], e) (aA ([], e)).2 O' := by
 refine Spec.enter (args := [_]) (m := 32) Tryz.func90 rfl rfl (by decide +kernel) fun h0 => ?_
 refine WX.seq (WX.region rfl (za rfl (ae.nil (Fin.aa (WX.seq (WX.seq (WX.region rfl (zm rfl (zn rfl ?_)))))))))
 first | refine ae.fieldAddr Met.none rfl Tryz.underlying118 rfl aO rfl ?_ | refine ae.bQ Met.none rfl Tryz.underlying118 rfl aO ?_
 first | refine ae.ld Met.none rfl aD ?_ | refine ae.ba Met.none rfl aD ?_
 refine ae.len Met.none rfl Tryz.underlying39 (zb rfl rfl rfl (ae.nil (Fin.aa ?_)))
 refine WX.cond rfl (fun hc0 => ?_) (fun hc0 => ?_)
 · try simp only [aB] at hc0
   refine WX.region rfl (zm rfl ?_)
   refine ae.cl (O1 := _) Met.none rfl (ah Tryz.func91 (by decide +kernel)) rfl (fun _ h => h) (mo _ r _ 3 e) (fun v O' hp => ?_)
   obtain rfl := hp
   refine ae.nil (Fin.aa (WX.seq (WX.seq (WX.region rfl (zm rfl (zn rfl ?_))))))
   first | refine ae.fieldAddr Met.none rfl Tryz.underlying118 rfl cu rfl ?_ | refine ae.bQ Met.none rfl Tryz.underlying118 rfl cu ?_
   first | refine ae.ld Met.none rfl bX ?_ | refine ae.ba Met.none rfl bX ?_
   refine zb rfl rfl rfl (ae.nil (Fin.aa ?_))
   refine WX.cond rfl (fun hc1 => ?_) (fun hc1 => ?_)
   · try simp only [aB] at hc1
     refine WX.seq (WX.region rfl (za rfl (ae.nil (Fin.aa (WX.ret (Fin.az ?_))))))
     refine Fin.result (O' := (r, ⟨0, false, [.slice a 0 c, I (if e = 0 then 3 else e)]⟩) :: O) (.inr rfl) rfl rfl (fun _ hs => hs) ?_
     by_cases q : e = 0
     · subst q; exact ⟨rfl, a, c, rfl, fun _ h => h, hc⟩
     · have e1 : aA ([], e) = (0, ([], e)) := by unfold aA; split <;> simp_all
       rw [e1, if_neg q]
       exact ⟨rfl, a, c, rfl, fun _ h => h, hc⟩
   · try simp only [aB] at hc1
     exact absurd hc1 (by split <;> omega)
 · try simp only [aB] at hc0
   exact absurd rfl hc0
theorem tX (O : an) (r : Nat) (x : Int) (l : List Int) (e : Int) (a : Option Addr) (c : Nat) (hlen : l.length ≤ 1000000000000) (hr : bK O 1 a (l.length + 1) ((x :: l).map B8)) (hc : a = none → c = 0) :
  Spec Tryz.prog false 90 #[Ptr r 0] ((r, ⟨0, false, [.slice a (l.length + 1) c, I e]⟩) :: O) fun v O' => v = B8 (aA (x :: l, e)).1 ∧ yS O r a (x :: l, e) (aA (x :: l, e)).2 O' := by
 have hs := hr.src hc
 obtain ⟨b, off, ⟨ysz, yro, yc⟩, h1, h2, h3, h4⟩ := bK.tail hr
 have h3 : ysz = 1 := h3
 subst h3
 refine Spec.enter (args := [_]) (m := 32) Tryz.func90 rfl rfl (by decide +kernel) fun h0 => ?_
 refine WX.seq (WX.region rfl (za rfl (ae.nil (Fin.aa (WX.seq (WX.seq (WX.region rfl (zm rfl (zn rfl ?_)))))))))
 first | refine ae.fieldAddr Met.none rfl Tryz.underlying118 rfl aO rfl ?_ | refine ae.bQ Met.none rfl Tryz.underlying118 rfl aO ?_
 first | refine ae.ld Met.none rfl aD ?_ | refine ae.ba Met.none rfl aD ?_
 refine ae.len Met.none rfl Tryz.underlying39 (zb rfl rfl rfl (ae.nil (Fin.aa ?_)))
 refine WX.cond rfl (fun hc0 => ?_) (fun hc0 => ?_)
 · try simp only [aB] at hc0
   exact absurd hc0 (by omega)
 · try simp only [aB] at hc0
   refine WX.skip (Fin.aa (WX.seq (WX.seq (WX.region rfl (zm rfl (zn rfl ?_))))))
   first | refine ae.fieldAddr Met.none rfl Tryz.underlying118 rfl cu rfl ?_ | refine ae.bQ Met.none rfl Tryz.underlying118 rfl cu ?_
   first | refine ae.ld Met.none rfl bX ?_ | refine ae.ba Met.none rfl bX ?_
   refine zb rfl rfl rfl (ae.nil (Fin.aa ?_))
   refine WX.cond rfl (fun hc1 => ?_) (fun hc1 => ?_)
   · try simp only [aB] at hc1
     refine WX.seq (WX.region rfl (za rfl (ae.nil (Fin.aa (WX.ret (Fin.az ?_))))))
     first
     | (refine Fin.result (O' := (r, ⟨0, false, [.slice a (l.length + 1) c, I e]⟩) :: O) (.inr rfl) rfl rfl (fun _ hs => hs) ?_
        have e1 : aA (x :: l, e) = (0, (x :: l, e)) := by unfold aA; split <;> simp_all
        rw [e1]
        exact ⟨rfl, a, c, rfl, fun _ h => h, hc⟩)
     | (have he : e = 0 := by omega
        subst he
        exact Fin.result (O' := (r, ⟨0, false, [.slice (some ⟨b, off + 1, none⟩) l.length l.length, I 0]⟩) :: O) (.inr rfl) rfl rfl (fun _ hs => hs) ⟨rfl, _, _, rfl, fun O2 h => bK.tl (h1 ▸ h), fun q => by cases q⟩)
   · try simp only [aB] at hc1
     refine WX.skip (Fin.aa (WX.seq (WX.region rfl (zm rfl (zn rfl ?_)))))
     first | refine ae.fieldAddr Met.none rfl Tryz.underlying118 rfl aO rfl ?_ | refine ae.bQ Met.none rfl Tryz.underlying118 rfl aO ?_
     first | refine ae.ld Met.none rfl aD ?_ | refine ae.ba Met.none rfl aD ?_
     first | refine ae.ix Met.none rfl rfl aQ ea ?_ | refine ae.eH Met.none rfl rfl aQ ea ?_
     first | refine ae.ld Met.none rfl iU ?_ (hv := (show _ = some (B8 x) from rfl)) | refine ae.ba Met.none rfl iU ?_ (hv := (show _ = some (B8 x) from rfl))
     refine za rfl (zR rfl (zm rfl (zm rfl (zn rfl ?_))))
     first | refine ae.fieldAddr Met.none rfl Tryz.underlying118 rfl aO rfl ?_ | refine ae.bQ Met.none rfl Tryz.underlying118 rfl aO ?_
     first | refine ae.ld Met.none rfl aD ?_ | refine ae.ba Met.none rfl aD ?_
     refine ae.nn (cs := []) (m := 1) Met.none rfl rfl aQ ea h1 h2.cons rfl ?_
     refine zn rfl ?_
     first | refine ae.fieldAddr Met.none rfl Tryz.underlying118 rfl aO rfl ?_ | refine ae.bQ Met.none rfl Tryz.underlying118 rfl aO ?_
     refine ae.st (vs := [_]) Met.none rfl rfl rfl aO ?_
     refine zR rfl (zm rfl (za rfl (ae.nil (Fin.aa (WX.ret ?_)))))
     first
     | (refine Fin.result (O' := (r, ⟨0, false, [.slice a (l.length + 1) c, I e]⟩) :: O) (.inr rfl) rfl rfl (fun _ hs => hs) ?_
        have e1 : aA (x :: l, e) = (0, (x :: l, e)) := by unfold aA; split <;> simp_all
        rw [e1]
        exact ⟨rfl, a, c, rfl, fun _ h => h, hc⟩)
     | (have he : e = 0 := by omega
        subst he
        exact Fin.result (O' := (r, ⟨0, false, [.slice (some ⟨b, off + 1, none⟩) l.length l.length, I 0]⟩) :: O) (.inr rfl) rfl rfl (fun _ hs => hs) ⟨rfl, _, _, rfl, fun O2 h => bK.tl (h1 ▸ h), fun q => by cases q⟩)
def dp (q : lG) (e : Int) : lG := (q.1, if q.2 = 0 then e else q.2)
def dU (i : Nat) (c : Int) : Prop := (i = 9 ∧ 1 < c) ∨ (0 < i ∧ c = 0)
instance (i : Nat) (c : Int) : Decidable (dU i c) := by unfold dU; infer_instance
def cW (n c : Int) (i : Nat) : Int :=
 IntKind.wrap .u64 (((BitVec.ofInt 64 n) ||| (BitVec.ofInt 64 (IntKind.wrap .u64 (IntKind.wrap .u8 ((BitVec.ofInt 8 c) &&& ~~~(BitVec.ofInt 8 128)).toNat * 2 ^ (min (7 * (i : Int)).toNat 64))))).toNat : Int)
theorem df (q : lG) (h : q.2 = 0) : (aA q).2.2 ≠ 0 ∨ (aA q).2.1.length < q.1.length := by
 obtain ⟨l, e⟩ := q
 simp only at h
 subst h
 cases l with
 | nil => exact .inl (by decide)
 | cons b l => exact .inr (by show l.length < l.length + 1; omega)
def bz (i : Nat) (q : lG) : lG := if dU i (aA q).1 then dp (aA q).2 2 else (aA q).2
theorem nM (i : Nat) (q : lG) (h : q.2 = 0) : (bz i q).2 ≠ 0 ∨ (bz i q).1.length < q.1.length := by
 unfold bz dp
 rcases df q h with q1 | q1
 · left
   split
   · simp only [if_neg q1]; exact q1
   · exact q1
 · split
   · right; exact q1
   · exact .inr q1
def bO (i : Nat) (n : Int) (q : lG) : Int × lG :=
 if h : q.2 = 0 then
  if (aA q).1 < 128 ∧ (bz i q).2 = 0 then (cW n (aA q).1 i, bz i q)
  else if h2 : (bz i q).2 = 0 then bO (i + 1) (cW n (aA q).1 i) (bz i q) else (0, bz i q)
 else (0, q)
termination_by q.1.length
decreasing_by
 rcases nM i q h with w | w
 · exact absurd h2 w
 · exact w
theorem xB : ∀ x : BitVec 8, (x &&& ~~~(128#8)).toNat = x.toNat % 128 := by decide +kernel
theorem qK {acc c i : Nat} (hc : c < 256) (hi : i ≤ 9) (hacc : acc < 2 ^ (7 * i)) (h : acc + (c % 128) * 2 ^ (7 * i) < 18446744073709551616) : cW acc c i = ((acc + (c % 128) * 2 ^ (7 * i) : Nat) : Int) := by
 have e0 : (BitVec.ofInt 8 128) = 128#8 := rfl
 have e1 : ((BitVec.ofInt 8 (c : Int)) &&& ~~~(BitVec.ofInt 8 128)).toNat = c % 128 := by
  rw [e0, xB, BitVec.toNat_ofInt]
  omega
 have e2 : min (7 * (i : Int)).toNat 64 = 7 * i := by omega
 have e4 : (((c % 128 : Nat) : Int) * 2 ^ (7 * i)) = (((c % 128) * 2 ^ (7 * i) : Nat) : Int) := by rw [Int.natCast_mul, Int.natCast_pow]; rfl
 have hb : (c % 128) * 2 ^ (7 * i) < 18446744073709551616 := by omega
 have ha : acc < 18446744073709551616 := by omega
 unfold cW
 rw [e1, e2, wrap_u8 (n := ((c % 128 : Nat) : Int)) (by omega) (by omega), e4, wrap_u64 (n := (((c % 128) * 2 ^ (7 * i) : Nat) : Int)) (by omega) (by omega)]
 have e5 : ((BitVec.ofInt 64 (acc : Int)) ||| (BitVec.ofInt 64 (((c % 128) * 2 ^ (7 * i) : Nat) : Int))).toNat = acc + (c % 128) * 2 ^ (7 * i) := by
  rw [BitVec.toNat_or, BitVec.toNat_ofInt, BitVec.toNat_ofInt, ← qU hacc]
  congr 1 <;> omega
 rw [e5, wrap_u64 (by omega) (by omega)]
theorem uy (rest : List Int) : ∀ (m i acc : Nat), i ≤ 9 → acc < 2 ^ (7 * i) → acc + m * 2 ^ (7 * i) < 18446744073709551616 → (0 < i → 0 < m) →
  bO i acc (bA m ++ rest, 0) = (((acc + m * 2 ^ (7 * i) : Nat) : Int), (rest, 0)) := by
 intro m
 induction m using Nat.strongRecOn with
 | _ m ih =>
  intro i acc hi hacc hsum hpos
  by_cases hm : m < 128
  · have e1 : aA (bA m ++ rest, 0) = ((m : Int), (rest, 0)) := by rw [cY hm]; rfl
    have hnb : ¬ dU i (m : Int) := by
     unfold dU
     rintro (⟨h9, h1⟩ | ⟨h1, h2⟩)
     · subst h9
       have : m * 2 ^ 63 < 18446744073709551616 := by omega
       have : m < 2 := by omega
       omega
     · have := hpos h1; omega
    have e2 : bz i (bA m ++ rest, 0) = (rest, 0) := by unfold bz; rw [e1, if_neg hnb]
    rw [bO, dif_pos rfl, e1, e2, if_pos ⟨by show (m : Int) < 128; omega, rfl⟩]
    have := qK (acc := acc) (c := m) (i := i) (by omega) hi hacc (by rw [Nat.mod_eq_of_lt hm]; exact hsum)
    rw [Nat.mod_eq_of_lt hm] at this
    rw [this]
  · have hm1 : m % 128 + 128 * (m / 128) = m := by omega
    have e1 : aA (bA m ++ rest, 0) = (((128 + m % 128 : Nat) : Int), (bA (m / 128) ++ rest, 0)) := by rw [dv hm]; rfl
    have hi9 : i < 9 := by
     rcases Nat.lt_or_ge i 9 with q | q
     · exact q
     · have : i = 9 := by omega
       subst this
       have : m * 2 ^ 63 < 18446744073709551616 := by omega
       omega
    have hnb : ¬ dU i ((128 + m % 128 : Nat) : Int) := by
     unfold dU
     rintro (⟨h9, h1⟩ | ⟨h1, h2⟩) <;> omega
    have e2 : bz i (bA m ++ rest, 0) = (bA (m / 128) ++ rest, 0) := by unfold bz; rw [e1, if_neg hnb]
    have hp : 2 ^ (7 * (i + 1)) = 128 * 2 ^ (7 * i) := by rw [Nat.mul_add, Nat.pow_add, Nat.mul_comm]
    have hms : m * 2 ^ (7 * i) = (m % 128) * 2 ^ (7 * i) + (m / 128) * 2 ^ (7 * (i + 1)) := by
     rw [hp, ← Nat.mul_assoc, ← Nat.add_mul]
     congr 1
     omega
    have hb := qK (acc := acc) (c := 128 + m % 128) (i := i) (by omega) (by omega) hacc (by
     have : (128 + m % 128) % 128 = m % 128 := by omega
     rw [this]; omega)
    rw [show (128 + m % 128) % 128 = m % 128 from by omega] at hb
    rw [bO, dif_pos rfl, e1, e2, if_neg (fun q => by have := q.1; simp only at this; omega), dif_pos rfl, hb]
    have hlt : (m % 128) * 2 ^ (7 * i) ≤ 127 * 2 ^ (7 * i) := Nat.mul_le_mul_right _ (by omega)
    rw [ih (m / 128) (by omega) (i + 1) (acc + (m % 128) * 2 ^ (7 * i)) (by omega) (by rw [hp]; omega) (by omega) (fun _ => by omega)]
    congr 2
    omega
theorem qe (O : an) (r : Nat) (q : lG) (a : Option Addr) (c : Nat) (hlen : q.1.length ≤ 1000000000000) (hr : bK O 1 a q.1.length (q.1.map B8)) (hc : a = none → c = 0) :
  Spec Tryz.prog false 90 #[Ptr r 0] ((r, ⟨0, false, [.slice a q.1.length c, I q.2]⟩) :: O) fun v O' => v = B8 (aA q).1 ∧ yS O r a q (aA q).2 O' := by
 obtain ⟨l, e⟩ := q
 cases l with
 | nil => exact vS O r e a c hr hc
 | cons x l => exact tX O r x l e a c (by simp only [List.length_cons] at hlen; omega) hr hc
theorem bR (q : lG) : (aA q).2.1.length ≤ q.1.length := by
 obtain ⟨l, e⟩ := q
 unfold aA
 split <;> simp_all
theorem aT {i : Nat} {n : Int} {q : lG} (h : q.2 = 0) : bO i n q = if (aA q).1 < 128 ∧ (bz i q).2 = 0 then (cW n (aA q).1 i, bz i q) else bO (i + 1) (cW n (aA q).1 i) (bz i q) := by
 rw [bO, dif_pos h]
 split
 · rfl
 · split
   · rfl
   · rename_i h2
     rw [bO, dif_neg h2]
theorem aZ (q : lG) : (dp q 2).2 ≠ 0 := by
 unfold dp
 simp only
 split <;> omega
theorem cD (n : Int) : 0 ≤ IntKind.wrap .u8 n ∧ IntKind.wrap .u8 n < 18446744073709551616 := by
 unfold IntKind.wrap
 have e1 : (2 : Int) ^ IntKind.bits .u8 = 256 := rfl
 have e3 : IntKind.signed .u8 = false := rfl
 simp only [e1, e3, Bool.false_and, Bool.false_eq_true, if_false]
 omega
theorem uf {l : List Int} {e : Int} (h : e ≠ 0) : aA (l, e) = (0, (l, e)) := by
 unfold aA
 split <;> simp_all
theorem m9 {q : lG} (h : Bytes q.1) : 0 ≤ (aA q).1 ∧ (aA q).1 < 256 ∧ Bytes (aA q).2.1 := by
 obtain ⟨l, e⟩ := q
 by_cases he : e = 0
 · subst he
   cases l with
   | nil => exact ⟨by decide, by decide, fun x hx => by simp [aA] at hx⟩
   | cons b l => exact ⟨(h b (List.mem_cons_self ..)).1, (h b (List.mem_cons_self ..)).2, fun x hx => h x (List.mem_cons_of_mem _ hx)⟩
 · rw [uf he]
   exact ⟨Int.le_refl 0, by show (0 : Int) < 256; decide, h⟩
theorem qp (O : an) (r : Nat) (q0 : lG) (a0 : Option Addr) (c0 : Nat) (hB : Bytes q0.1) (hlen : q0.1.length ≤ 1000000000000) (hr : bK O 1 a0 q0.1.length (q0.1.map B8)) (hc : a0 = none → c0 = 0) :
  Spec Tryz.prog false 77 #[Ptr r 0] ((r, ⟨0, false, [.slice a0 q0.1.length c0, I q0.2]⟩) :: O) fun v O' => v = U (bO 0 0 q0).1 ∧ zc O r (bO 0 0 q0).2 O' := by
 refine Spec.enter (args := [_]) (m := 49) Tryz.func77 rfl rfl (by decide +kernel) fun h0 => ?_
 refine WX.seq (WX.region rfl (za rfl (zR rfl (za rfl (ae.nil (Fin.aa (WX.seq (WX.seq (WX.region rfl (za rfl (ae.nil (Fin.aa (WX.block ?_)))))))))))))
 refine WX.loop (fun s : Nat × Int × lG × Option Addr × Nat => [(0, Ptr r 0), (3, U s.2.1), (4, I (s.1 : Int))]) (fun s => (r, ⟨0, false, [.slice s.2.2.2.1 s.2.2.1.1.length s.2.2.2.2, I s.2.2.1.2]⟩) :: O) (fun s => bO s.1 s.2.1 s.2.2.1 = bO 0 0 q0 ∧ Bytes s.2.2.1.1 ∧ s.2.2.1.1.length ≤ q0.1.length ∧ (s.2.2.1.2 = 0 → s.1 + s.2.2.1.1.length ≤ q0.1.length) ∧ bK O 1 s.2.2.2.1 s.2.2.1.1.length (s.2.2.1.1.map B8) ∧ (s.2.2.2.1 = none → s.2.2.2.2 = 0)) (fun s => if s.2.2.1.2 = 0 then s.2.2.1.1.length + 1 else 0) (0, 0, q0, a0, c0) ⟨rfl, hB, Nat.le_refl _, fun _ => by simp, hr, hc⟩ (fun s hs => hs.tl [0] 1) (fun s hs => ?_)
 obtain ⟨i, n, q, a, c⟩ := s
 obtain ⟨g1, g2, g3, g4, g5, g6⟩ := hs
 simp only at g1 g2 g3 g4 g5 g6
 dsimp only
 refine WX.seq (WX.seq (WX.region rfl (zm rfl (zn rfl ?_))))
 first | refine ae.fieldAddr Met.none rfl Tryz.underlying118 rfl cu rfl ?_ | refine ae.bQ Met.none rfl Tryz.underlying118 rfl cu ?_
 first | refine ae.ld Met.none rfl bX ?_ | refine ae.ba Met.none rfl bX ?_
 refine zb rfl rfl rfl (ae.nil (Fin.aa ?_))
 refine WX.cond rfl (fun hc0 => ?_) (fun hc0 => ?_)
 · try simp only [aB] at hc0
   refine WX.skip (Fin.aa (WX.seq (WX.block (WX.seq (WX.region rfl (zm rfl ?_))))))
   refine ae.cl (O1 := _) Met.none rfl (ah Tryz.func90 (by decide +kernel)) rfl (fun _ h => h) (qe O r q a c (by omega) g5 g6) (fun v O' hp => ?_)
   obtain ⟨rfl, ⟨a2, c2, rfl, g7, g8⟩⟩ := hp
   have g7 := g7 O g5
   obtain ⟨hb1, hb2, hb3⟩ := m9 g2
   refine za rfl (ae.nil (Fin.aa (WX.seq (WX.seq (WX.region rfl (zm rfl (zb rfl rfl rfl (zm rfl ?_))))))))
   refine ae.split (d := 17) rfl (fun hg17 => ?_) (fun hg17 => ?_)
   · try simp only [aB] at hg17
     refine ae.move (Met.some rfl rfl rfl) rfl (ae.bin (Met.some rfl rfl rfl) rfl rfl rfl (ae.bC Met.none rfl rfl (zm rfl ?_)))
     refine ae.split (d := 21) rfl (fun hg21 => ?_) (fun hg21 => ?_)
     · try simp only [aB] at hg21
       refine zs 6 21 rfl rfl rfl (zs 6 21 rfl rfl rfl (zs 6 21 rfl rfl rfl (ae.sM (j := 9) (e := 24) rfl rfl (ae.sM (j := 9) (e := 24) rfl rfl (zs 6 21 rfl rfl rfl (ae.bC Met.none rfl rfl (ae.nil (Fin.aa ?_))))))))
       refine WX.cond rfl (fun hc1 => ?_) (fun hc1 => nomatch hc1)
       refine WX.region rfl (zm rfl ?_)
       refine ae.cl (O1 := _) Met.none rfl (ah Tryz.func91 (by decide +kernel)) rfl (fun _ h => h) (mo _ r _ 2 _) (fun v O' hp => ?_)
       obtain rfl := hp
       refine zR rfl (zm rfl (zm rfl (zb rfl rfl rfl ?_)))
       refine ae.conv Met.none rfl Tryz.underlying5 Tryz.underlying78 (wrap_u64 (cD _).1 (cD _).2) ?_
       refine zm rfl (zb rfl rfl ug ?_)
       refine ae.shl Met.none rfl rfl (by omega) ?_
       refine zb rfl rfl rfl (za rfl (zR rfl (zm rfl (zb rfl rfl rfl (zm rfl ?_)))))
       refine ae.split (d := 41) rfl (fun hg41 => ?_) (fun hg41 => ?_)
       · try simp only [aB] at hg41
         refine ae.move (Met.some rfl rfl rfl) rfl (ae.nilCheck (Met.some rfl rfl rfl) rfl ?_)
         first | refine ae.fieldAddr (Met.some rfl rfl rfl) rfl Tryz.underlying118 rfl cu rfl ?_ | refine ae.bQ (Met.some rfl rfl rfl) rfl Tryz.underlying118 rfl cu ?_
         first | refine ae.ld (Met.some rfl rfl rfl) rfl bX ?_ | refine ae.ba (Met.some rfl rfl rfl) rfl bX ?_
         refine ae.bin (Met.some rfl rfl rfl) rfl rfl rfl (ae.bC Met.none rfl rfl (ae.nil (Fin.aa ?_)))
         refine WX.cond rfl (fun hc2 => ?_) (fun hc2 => ?_)
         · try simp only [aB] at hc2
           refine WX.seq (WX.region rfl (zm rfl (za rfl (ae.nil (Fin.aa (WX.ret (Fin.bq (Fin.az (Fin.dL (Fin.bq (Fin.az ?_)))))))))))
           first
           | (have hz : bO i n q = (0, q) := by rw [bO, dif_neg hc0]
              refine Fin.result (O' := (r, ⟨0, false, [.slice a q.1.length c, I q.2]⟩) :: O) (.inr rfl) rfl rfl (fun _ hs => hs) ?_
              rw [← g1, hz]
              exact ⟨rfl, a, c, rfl, g5, g6⟩)
           | (exfalso; revert hc2; split <;> omega)
           | (have hrp : bz i q = (aA q).2 := if_neg (by unfold dU; omega)
              have hst := aT (i := i) (n := n) hc0
              rw [if_pos (by rw [hrp]; omega), hrp] at hst
              refine Fin.result (O' := (r, ⟨0, false, [.slice a2 (aA q).2.1.length c2, I (aA q).2.2]⟩) :: O) (.inr rfl) rfl rfl (fun _ hs => hs) ?_
              rw [← g1, hst]
              exact ⟨rfl, a2, c2, rfl, g7, g8⟩)
         · try simp only [aB] at hc2
           refine WX.skip (Fin.ag (Fin.aa (WX.region rfl (zm rfl (zb rfl rfl dH (za rfl (ae.nil ?_)))))))
           first
           | (have hrp : bz i q = dp (aA q).2 2 := if_pos (by unfold dU; omega)
              have hle := bR q
              have hst := aT (i := i) (n := n) hc0
              rw [if_neg (by rw [hrp]; exact fun w => aZ _ w.2), hrp] at hst
              refine Fin.aj (i + 1, cW n (aA q).1 i, dp (aA q).2 2, a2, c2) ⟨hst.symm.trans g1, hb3, by show (aA q).2.1.length ≤ _; omega, fun w => ?_, g7, g8⟩ ?_ (fun s hs => hs.tl [0] 1)
              · exact absurd w (aZ _)
              · simp only; rw [if_neg (aZ _), if_pos hc0]; omega)
           | (have hrp : bz i q = (aA q).2 := if_neg (by unfold dU; omega)
              have hle := bR q
              have hlt := df q hc0
              have hst := aT (i := i) (n := n) hc0
              rw [if_neg (by rw [hrp]; omega), hrp] at hst
              refine Fin.aj (i + 1, cW n (aA q).1 i, (aA q).2, a2, c2) ⟨hst.symm.trans g1, hb3, by show (aA q).2.1.length ≤ _; omega, fun w => ?_, g7, g8⟩ ?_ (fun s hs => hs.tl [0] 1)
              · simp only at w ⊢; have := g4 hc0; omega
              · simp only; rw [if_pos hc0]; split <;> omega)
       · try simp only [aB] at hg41
         refine zs 2 41 rfl rfl rfl (zs 2 41 rfl rfl rfl (zs 2 41 rfl rfl rfl (zs 2 41 rfl rfl rfl (zs 2 41 rfl rfl rfl (ae.bd Met.none rfl rfl (ae.nil (Fin.aa ?_)))))))
         refine WX.cond rfl (fun hc2 => nomatch hc2) (fun hc2 => ?_)
         refine WX.skip (Fin.ag (Fin.aa (WX.region rfl (zm rfl (zb rfl rfl dH (za rfl (ae.nil ?_)))))))
         first
         | (have hrp : bz i q = dp (aA q).2 2 := if_pos (by unfold dU; omega)
            have hle := bR q
            have hst := aT (i := i) (n := n) hc0
            rw [if_neg (by rw [hrp]; exact fun w => aZ _ w.2), hrp] at hst
            refine Fin.aj (i + 1, cW n (aA q).1 i, dp (aA q).2 2, a2, c2) ⟨hst.symm.trans g1, hb3, by show (aA q).2.1.length ≤ _; omega, fun w => ?_, g7, g8⟩ ?_ (fun s hs => hs.tl [0] 1)
            · exact absurd w (aZ _)
            · simp only; rw [if_neg (aZ _), if_pos hc0]; omega)
         | (have hrp : bz i q = (aA q).2 := if_neg (by unfold dU; omega)
            have hle := bR q
            have hlt := df q hc0
            have hst := aT (i := i) (n := n) hc0
            rw [if_neg (by rw [hrp]; omega), hrp] at hst
            refine Fin.aj (i + 1, cW n (aA q).1 i, (aA q).2, a2, c2) ⟨hst.symm.trans g1, hb3, by show (aA q).2.1.length ≤ _; omega, fun w => ?_, g7, g8⟩ ?_ (fun s hs => hs.tl [0] 1)
            · simp only at w ⊢; have := g4 hc0; omega
            · simp only; rw [if_pos hc0]; split <;> omega)
     · try simp only [aB] at hg21
       refine ae.move (Met.some rfl rfl rfl) rfl (ae.bin (Met.some rfl rfl rfl) rfl rfl rfl (ae.move (Met.some rfl rfl rfl) rfl ?_))
       refine ae.split (d := 24) rfl (fun hg24 => ?_) (fun hg24 => ?_)
       · try simp only [aB] at hg24
         refine ae.move (Met.some rfl rfl rfl) rfl (ae.bin (Met.some rfl rfl rfl) rfl rfl rfl (ae.bC (Met.some rfl rfl rfl) rfl rfl (ae.bd Met.none rfl rfl (ae.nil (Fin.aa ?_)))))
         refine WX.cond rfl (fun hc1 => ?_) (fun hc1 => ?_)
         · try simp only [aB] at hc1
           refine WX.region rfl (zm rfl ?_)
           refine ae.cl (O1 := _) Met.none rfl (ah Tryz.func91 (by decide +kernel)) rfl (fun _ h => h) (mo _ r _ 2 _) (fun v O' hp => ?_)
           obtain rfl := hp
           refine zR rfl (zm rfl (zm rfl (zb rfl rfl rfl ?_)))
           refine ae.conv Met.none rfl Tryz.underlying5 Tryz.underlying78 (wrap_u64 (cD _).1 (cD _).2) ?_
           refine zm rfl (zb rfl rfl ug ?_)
           refine ae.shl Met.none rfl rfl (by omega) ?_
           refine zb rfl rfl rfl (za rfl (zR rfl (zm rfl (zb rfl rfl rfl (zm rfl ?_)))))
           refine ae.split (d := 41) rfl (fun hg41 => ?_) (fun hg41 => ?_)
           · try simp only [aB] at hg41
             refine ae.move (Met.some rfl rfl rfl) rfl (ae.nilCheck (Met.some rfl rfl rfl) rfl ?_)
             first | refine ae.fieldAddr (Met.some rfl rfl rfl) rfl Tryz.underlying118 rfl cu rfl ?_ | refine ae.bQ (Met.some rfl rfl rfl) rfl Tryz.underlying118 rfl cu ?_
             first | refine ae.ld (Met.some rfl rfl rfl) rfl bX ?_ | refine ae.ba (Met.some rfl rfl rfl) rfl bX ?_
             refine ae.bin (Met.some rfl rfl rfl) rfl rfl rfl (ae.bC Met.none rfl rfl (ae.nil (Fin.aa ?_)))
             refine WX.cond rfl (fun hc2 => ?_) (fun hc2 => ?_)
             · try simp only [aB] at hc2
               refine WX.seq (WX.region rfl (zm rfl (za rfl (ae.nil (Fin.aa (WX.ret (Fin.bq (Fin.az (Fin.dL (Fin.bq (Fin.az ?_)))))))))))
               first
               | (have hz : bO i n q = (0, q) := by rw [bO, dif_neg hc0]
                  refine Fin.result (O' := (r, ⟨0, false, [.slice a q.1.length c, I q.2]⟩) :: O) (.inr rfl) rfl rfl (fun _ hs => hs) ?_
                  rw [← g1, hz]
                  exact ⟨rfl, a, c, rfl, g5, g6⟩)
               | (exfalso; revert hc2; split <;> omega)
               | (have hrp : bz i q = (aA q).2 := if_neg (by unfold dU; omega)
                  have hst := aT (i := i) (n := n) hc0
                  rw [if_pos (by rw [hrp]; omega), hrp] at hst
                  refine Fin.result (O' := (r, ⟨0, false, [.slice a2 (aA q).2.1.length c2, I (aA q).2.2]⟩) :: O) (.inr rfl) rfl rfl (fun _ hs => hs) ?_
                  rw [← g1, hst]
                  exact ⟨rfl, a2, c2, rfl, g7, g8⟩)
             · try simp only [aB] at hc2
               refine WX.skip (Fin.ag (Fin.aa (WX.region rfl (zm rfl (zb rfl rfl dH (za rfl (ae.nil ?_)))))))
               first
               | (have hrp : bz i q = dp (aA q).2 2 := if_pos (by unfold dU; omega)
                  have hle := bR q
                  have hst := aT (i := i) (n := n) hc0
                  rw [if_neg (by rw [hrp]; exact fun w => aZ _ w.2), hrp] at hst
                  refine Fin.aj (i + 1, cW n (aA q).1 i, dp (aA q).2 2, a2, c2) ⟨hst.symm.trans g1, hb3, by show (aA q).2.1.length ≤ _; omega, fun w => ?_, g7, g8⟩ ?_ (fun s hs => hs.tl [0] 1)
                  · exact absurd w (aZ _)
                  · simp only; rw [if_neg (aZ _), if_pos hc0]; omega)
               | (have hrp : bz i q = (aA q).2 := if_neg (by unfold dU; omega)
                  have hle := bR q
                  have hlt := df q hc0
                  have hst := aT (i := i) (n := n) hc0
                  rw [if_neg (by rw [hrp]; omega), hrp] at hst
                  refine Fin.aj (i + 1, cW n (aA q).1 i, (aA q).2, a2, c2) ⟨hst.symm.trans g1, hb3, by show (aA q).2.1.length ≤ _; omega, fun w => ?_, g7, g8⟩ ?_ (fun s hs => hs.tl [0] 1)
                  · simp only at w ⊢; have := g4 hc0; omega
                  · simp only; rw [if_pos hc0]; split <;> omega)
           · try simp only [aB] at hg41
             refine zs 2 41 rfl rfl rfl (zs 2 41 rfl rfl rfl (zs 2 41 rfl rfl rfl (zs 2 41 rfl rfl rfl (zs 2 41 rfl rfl rfl (ae.bd Met.none rfl rfl (ae.nil (Fin.aa ?_)))))))
             refine WX.cond rfl (fun hc2 => nomatch hc2) (fun hc2 => ?_)
             refine WX.skip (Fin.ag (Fin.aa (WX.region rfl (zm rfl (zb rfl rfl dH (za rfl (ae.nil ?_)))))))
             first
             | (have hrp : bz i q = dp (aA q).2 2 := if_pos (by unfold dU; omega)
                have hle := bR q
                have hst := aT (i := i) (n := n) hc0
                rw [if_neg (by rw [hrp]; exact fun w => aZ _ w.2), hrp] at hst
                refine Fin.aj (i + 1, cW n (aA q).1 i, dp (aA q).2 2, a2, c2) ⟨hst.symm.trans g1, hb3, by show (aA q).2.1.length ≤ _; omega, fun w => ?_, g7, g8⟩ ?_ (fun s hs => hs.tl [0] 1)
                · exact absurd w (aZ _)
                · simp only; rw [if_neg (aZ _), if_pos hc0]; omega)
             | (have hrp : bz i q = (aA q).2 := if_neg (by unfold dU; omega)
                have hle := bR q
                have hlt := df q hc0
                have hst := aT (i := i) (n := n) hc0
                rw [if_neg (by rw [hrp]; omega), hrp] at hst
                refine Fin.aj (i + 1, cW n (aA q).1 i, (aA q).2, a2, c2) ⟨hst.symm.trans g1, hb3, by show (aA q).2.1.length ≤ _; omega, fun w => ?_, g7, g8⟩ ?_ (fun s hs => hs.tl [0] 1)
                · simp only at w ⊢; have := g4 hc0; omega
                · simp only; rw [if_pos hc0]; split <;> omega)
         · try simp only [aB] at hc1
           refine WX.skip (Fin.aa (WX.seq (WX.region rfl (zm rfl (zm rfl (zb rfl rfl rfl ?_))))))
           refine ae.conv Met.none rfl Tryz.underlying5 Tryz.underlying78 (wrap_u64 (cD _).1 (cD _).2) ?_
           refine zm rfl (zb rfl rfl ug ?_)
           refine ae.shl Met.none rfl rfl (by omega) ?_
           refine zb rfl rfl rfl (za rfl (zR rfl (zm rfl (zb rfl rfl rfl (zm rfl ?_)))))
           refine ae.split (d := 41) rfl (fun hg41 => ?_) (fun hg41 => ?_)
           · try simp only [aB] at hg41
             refine ae.move (Met.some rfl rfl rfl) rfl (ae.nilCheck (Met.some rfl rfl rfl) rfl ?_)
             first | refine ae.fieldAddr (Met.some rfl rfl rfl) rfl Tryz.underlying118 rfl cu rfl ?_ | refine ae.bQ (Met.some rfl rfl rfl) rfl Tryz.underlying118 rfl cu ?_
             first | refine ae.ld (Met.some rfl rfl rfl) rfl bX ?_ | refine ae.ba (Met.some rfl rfl rfl) rfl bX ?_
             refine ae.bin (Met.some rfl rfl rfl) rfl rfl rfl (ae.bC Met.none rfl rfl (ae.nil (Fin.aa ?_)))
             refine WX.cond rfl (fun hc2 => ?_) (fun hc2 => ?_)
             · try simp only [aB] at hc2
               refine WX.seq (WX.region rfl (zm rfl (za rfl (ae.nil (Fin.aa (WX.ret (Fin.bq (Fin.az (Fin.dL (Fin.bq (Fin.az ?_)))))))))))
               first
               | (have hz : bO i n q = (0, q) := by rw [bO, dif_neg hc0]
                  refine Fin.result (O' := (r, ⟨0, false, [.slice a q.1.length c, I q.2]⟩) :: O) (.inr rfl) rfl rfl (fun _ hs => hs) ?_
                  rw [← g1, hz]
                  exact ⟨rfl, a, c, rfl, g5, g6⟩)
               | (exfalso; revert hc2; split <;> omega)
               | (have hrp : bz i q = (aA q).2 := if_neg (by unfold dU; omega)
                  have hst := aT (i := i) (n := n) hc0
                  rw [if_pos (by rw [hrp]; omega), hrp] at hst
                  refine Fin.result (O' := (r, ⟨0, false, [.slice a2 (aA q).2.1.length c2, I (aA q).2.2]⟩) :: O) (.inr rfl) rfl rfl (fun _ hs => hs) ?_
                  rw [← g1, hst]
                  exact ⟨rfl, a2, c2, rfl, g7, g8⟩)
             · try simp only [aB] at hc2
               refine WX.skip (Fin.ag (Fin.aa (WX.region rfl (zm rfl (zb rfl rfl dH (za rfl (ae.nil ?_)))))))
               first
               | (have hrp : bz i q = dp (aA q).2 2 := if_pos (by unfold dU; omega)
                  have hle := bR q
                  have hst := aT (i := i) (n := n) hc0
                  rw [if_neg (by rw [hrp]; exact fun w => aZ _ w.2), hrp] at hst
                  refine Fin.aj (i + 1, cW n (aA q).1 i, dp (aA q).2 2, a2, c2) ⟨hst.symm.trans g1, hb3, by show (aA q).2.1.length ≤ _; omega, fun w => ?_, g7, g8⟩ ?_ (fun s hs => hs.tl [0] 1)
                  · exact absurd w (aZ _)
                  · simp only; rw [if_neg (aZ _), if_pos hc0]; omega)
               | (have hrp : bz i q = (aA q).2 := if_neg (by unfold dU; omega)
                  have hle := bR q
                  have hlt := df q hc0
                  have hst := aT (i := i) (n := n) hc0
                  rw [if_neg (by rw [hrp]; omega), hrp] at hst
                  refine Fin.aj (i + 1, cW n (aA q).1 i, (aA q).2, a2, c2) ⟨hst.symm.trans g1, hb3, by show (aA q).2.1.length ≤ _; omega, fun w => ?_, g7, g8⟩ ?_ (fun s hs => hs.tl [0] 1)
                  · simp only at w ⊢; have := g4 hc0; omega
                  · simp only; rw [if_pos hc0]; split <;> omega)
           · try simp only [aB] at hg41
             refine zs 2 41 rfl rfl rfl (zs 2 41 rfl rfl rfl (zs 2 41 rfl rfl rfl (zs 2 41 rfl rfl rfl (zs 2 41 rfl rfl rfl (ae.bd Met.none rfl rfl (ae.nil (Fin.aa ?_)))))))
             refine WX.cond rfl (fun hc2 => nomatch hc2) (fun hc2 => ?_)
             refine WX.skip (Fin.ag (Fin.aa (WX.region rfl (zm rfl (zb rfl rfl dH (za rfl (ae.nil ?_)))))))
             first
             | (have hrp : bz i q = dp (aA q).2 2 := if_pos (by unfold dU; omega)
                have hle := bR q
                have hst := aT (i := i) (n := n) hc0
                rw [if_neg (by rw [hrp]; exact fun w => aZ _ w.2), hrp] at hst
                refine Fin.aj (i + 1, cW n (aA q).1 i, dp (aA q).2 2, a2, c2) ⟨hst.symm.trans g1, hb3, by show (aA q).2.1.length ≤ _; omega, fun w => ?_, g7, g8⟩ ?_ (fun s hs => hs.tl [0] 1)
                · exact absurd w (aZ _)
                · simp only; rw [if_neg (aZ _), if_pos hc0]; omega)
             | (have hrp : bz i q = (aA q).2 := if_neg (by unfold dU; omega)
                have hle := bR q
                have hlt := df q hc0
                have hst := aT (i := i) (n := n) hc0
                rw [if_neg (by rw [hrp]; omega), hrp] at hst
                refine Fin.aj (i + 1, cW n (aA q).1 i, (aA q).2, a2, c2) ⟨hst.symm.trans g1, hb3, by show (aA q).2.1.length ≤ _; omega, fun w => ?_, g7, g8⟩ ?_ (fun s hs => hs.tl [0] 1)
                · simp only at w ⊢; have := g4 hc0; omega
                · simp only; rw [if_pos hc0]; split <;> omega)
       · try simp only [aB] at hg24
         refine zs 9 24 rfl rfl rfl (zs 9 24 rfl rfl rfl (ae.bd (Met.some rfl rfl rfl) rfl rfl (ae.bd Met.none rfl rfl (ae.nil (Fin.aa ?_)))))
         refine WX.cond rfl (fun hc1 => nomatch hc1) (fun hc1 => ?_)
         refine WX.skip (Fin.aa (WX.seq (WX.region rfl (zm rfl (zm rfl (zb rfl rfl rfl ?_))))))
         refine ae.conv Met.none rfl Tryz.underlying5 Tryz.underlying78 (wrap_u64 (cD _).1 (cD _).2) ?_
         refine zm rfl (zb rfl rfl ug ?_)
         refine ae.shl Met.none rfl rfl (by omega) ?_
         refine zb rfl rfl rfl (za rfl (zR rfl (zm rfl (zb rfl rfl rfl (zm rfl ?_)))))
         refine ae.split (d := 41) rfl (fun hg41 => ?_) (fun hg41 => ?_)
         · try simp only [aB] at hg41
           refine ae.move (Met.some rfl rfl rfl) rfl (ae.nilCheck (Met.some rfl rfl rfl) rfl ?_)
           first | refine ae.fieldAddr (Met.some rfl rfl rfl) rfl Tryz.underlying118 rfl cu rfl ?_ | refine ae.bQ (Met.some rfl rfl rfl) rfl Tryz.underlying118 rfl cu ?_
           first | refine ae.ld (Met.some rfl rfl rfl) rfl bX ?_ | refine ae.ba (Met.some rfl rfl rfl) rfl bX ?_
           refine ae.bin (Met.some rfl rfl rfl) rfl rfl rfl (ae.bC Met.none rfl rfl (ae.nil (Fin.aa ?_)))
           refine WX.cond rfl (fun hc2 => ?_) (fun hc2 => ?_)
           · try simp only [aB] at hc2
             refine WX.seq (WX.region rfl (zm rfl (za rfl (ae.nil (Fin.aa (WX.ret (Fin.bq (Fin.az (Fin.dL (Fin.bq (Fin.az ?_)))))))))))
             first
             | (have hz : bO i n q = (0, q) := by rw [bO, dif_neg hc0]
                refine Fin.result (O' := (r, ⟨0, false, [.slice a q.1.length c, I q.2]⟩) :: O) (.inr rfl) rfl rfl (fun _ hs => hs) ?_
                rw [← g1, hz]
                exact ⟨rfl, a, c, rfl, g5, g6⟩)
             | (exfalso; revert hc2; split <;> omega)
             | (have hrp : bz i q = (aA q).2 := if_neg (by unfold dU; omega)
                have hst := aT (i := i) (n := n) hc0
                rw [if_pos (by rw [hrp]; omega), hrp] at hst
                refine Fin.result (O' := (r, ⟨0, false, [.slice a2 (aA q).2.1.length c2, I (aA q).2.2]⟩) :: O) (.inr rfl) rfl rfl (fun _ hs => hs) ?_
                rw [← g1, hst]
                exact ⟨rfl, a2, c2, rfl, g7, g8⟩)
           · try simp only [aB] at hc2
             refine WX.skip (Fin.ag (Fin.aa (WX.region rfl (zm rfl (zb rfl rfl dH (za rfl (ae.nil ?_)))))))
             first
             | (have hrp : bz i q = dp (aA q).2 2 := if_pos (by unfold dU; omega)
                have hle := bR q
                have hst := aT (i := i) (n := n) hc0
                rw [if_neg (by rw [hrp]; exact fun w => aZ _ w.2), hrp] at hst
                refine Fin.aj (i + 1, cW n (aA q).1 i, dp (aA q).2 2, a2, c2) ⟨hst.symm.trans g1, hb3, by show (aA q).2.1.length ≤ _; omega, fun w => ?_, g7, g8⟩ ?_ (fun s hs => hs.tl [0] 1)
                · exact absurd w (aZ _)
                · simp only; rw [if_neg (aZ _), if_pos hc0]; omega)
             | (have hrp : bz i q = (aA q).2 := if_neg (by unfold dU; omega)
                have hle := bR q
                have hlt := df q hc0
                have hst := aT (i := i) (n := n) hc0
                rw [if_neg (by rw [hrp]; omega), hrp] at hst
                refine Fin.aj (i + 1, cW n (aA q).1 i, (aA q).2, a2, c2) ⟨hst.symm.trans g1, hb3, by show (aA q).2.1.length ≤ _; omega, fun w => ?_, g7, g8⟩ ?_ (fun s hs => hs.tl [0] 1)
                · simp only at w ⊢; have := g4 hc0; omega
                · simp only; rw [if_pos hc0]; split <;> omega)
         · try simp only [aB] at hg41
           refine zs 2 41 rfl rfl rfl (zs 2 41 rfl rfl rfl (zs 2 41 rfl rfl rfl (zs 2 41 rfl rfl rfl (zs 2 41 rfl rfl rfl (ae.bd Met.none rfl rfl (ae.nil (Fin.aa ?_)))))))
           refine WX.cond rfl (fun hc2 => nomatch hc2) (fun hc2 => ?_)
           refine WX.skip (Fin.ag (Fin.aa (WX.region rfl (zm rfl (zb rfl rfl dH (za rfl (ae.nil ?_)))))))
           first
           | (have hrp : bz i q = dp (aA q).2 2 := if_pos (by unfold dU; omega)
              have hle := bR q
              have hst := aT (i := i) (n := n) hc0
              rw [if_neg (by rw [hrp]; exact fun w => aZ _ w.2), hrp] at hst
              refine Fin.aj (i + 1, cW n (aA q).1 i, dp (aA q).2 2, a2, c2) ⟨hst.symm.trans g1, hb3, by show (aA q).2.1.length ≤ _; omega, fun w => ?_, g7, g8⟩ ?_ (fun s hs => hs.tl [0] 1)
              · exact absurd w (aZ _)
              · simp only; rw [if_neg (aZ _), if_pos hc0]; omega)
           | (have hrp : bz i q = (aA q).2 := if_neg (by unfold dU; omega)
              have hle := bR q
              have hlt := df q hc0
              have hst := aT (i := i) (n := n) hc0
              rw [if_neg (by rw [hrp]; omega), hrp] at hst
              refine Fin.aj (i + 1, cW n (aA q).1 i, (aA q).2, a2, c2) ⟨hst.symm.trans g1, hb3, by show (aA q).2.1.length ≤ _; omega, fun w => ?_, g7, g8⟩ ?_ (fun s hs => hs.tl [0] 1)
              · simp only at w ⊢; have := g4 hc0; omega
              · simp only; rw [if_pos hc0]; split <;> omega)
   · try simp only [aB] at hg17
     refine zs 2 17 rfl rfl rfl (zs 2 17 rfl rfl rfl (ae.bd Met.none rfl rfl (zm rfl (ae.move (Met.some rfl rfl rfl) rfl (ae.bin (Met.some rfl rfl rfl) rfl rfl rfl (ae.move (Met.some rfl rfl rfl) rfl ?_))))))
     refine ae.split (d := 24) rfl (fun hg24 => ?_) (fun hg24 => ?_)
     · try simp only [aB] at hg24
       refine ae.move (Met.some rfl rfl rfl) rfl (ae.bin (Met.some rfl rfl rfl) rfl rfl rfl (ae.bC (Met.some rfl rfl rfl) rfl rfl (ae.bd Met.none rfl rfl (ae.nil (Fin.aa ?_)))))
       refine WX.cond rfl (fun hc1 => ?_) (fun hc1 => ?_)
       · try simp only [aB] at hc1
         refine WX.region rfl (zm rfl ?_)
         refine ae.cl (O1 := _) Met.none rfl (ah Tryz.func91 (by decide +kernel)) rfl (fun _ h => h) (mo _ r _ 2 _) (fun v O' hp => ?_)
         obtain rfl := hp
         refine zR rfl (zm rfl (zm rfl (zb rfl rfl rfl ?_)))
         refine ae.conv Met.none rfl Tryz.underlying5 Tryz.underlying78 (wrap_u64 (cD _).1 (cD _).2) ?_
         refine zm rfl (zb rfl rfl ug ?_)
         refine ae.shl Met.none rfl rfl (by omega) ?_
         refine zb rfl rfl rfl (za rfl (zR rfl (zm rfl (zb rfl rfl rfl (zm rfl ?_)))))
         refine ae.split (d := 41) rfl (fun hg41 => ?_) (fun hg41 => ?_)
         · try simp only [aB] at hg41
           refine ae.move (Met.some rfl rfl rfl) rfl (ae.nilCheck (Met.some rfl rfl rfl) rfl ?_)
           first | refine ae.fieldAddr (Met.some rfl rfl rfl) rfl Tryz.underlying118 rfl cu rfl ?_ | refine ae.bQ (Met.some rfl rfl rfl) rfl Tryz.underlying118 rfl cu ?_
           first | refine ae.ld (Met.some rfl rfl rfl) rfl bX ?_ | refine ae.ba (Met.some rfl rfl rfl) rfl bX ?_
           refine ae.bin (Met.some rfl rfl rfl) rfl rfl rfl (ae.bC Met.none rfl rfl (ae.nil (Fin.aa ?_)))
           refine WX.cond rfl (fun hc2 => ?_) (fun hc2 => ?_)
           · try simp only [aB] at hc2
             refine WX.seq (WX.region rfl (zm rfl (za rfl (ae.nil (Fin.aa (WX.ret (Fin.bq (Fin.az (Fin.dL (Fin.bq (Fin.az ?_)))))))))))
             first
             | (have hz : bO i n q = (0, q) := by rw [bO, dif_neg hc0]
                refine Fin.result (O' := (r, ⟨0, false, [.slice a q.1.length c, I q.2]⟩) :: O) (.inr rfl) rfl rfl (fun _ hs => hs) ?_
                rw [← g1, hz]
                exact ⟨rfl, a, c, rfl, g5, g6⟩)
             | (exfalso; revert hc2; split <;> omega)
             | (have hrp : bz i q = (aA q).2 := if_neg (by unfold dU; omega)
                have hst := aT (i := i) (n := n) hc0
                rw [if_pos (by rw [hrp]; omega), hrp] at hst
                refine Fin.result (O' := (r, ⟨0, false, [.slice a2 (aA q).2.1.length c2, I (aA q).2.2]⟩) :: O) (.inr rfl) rfl rfl (fun _ hs => hs) ?_
                rw [← g1, hst]
                exact ⟨rfl, a2, c2, rfl, g7, g8⟩)
           · try simp only [aB] at hc2
             refine WX.skip (Fin.ag (Fin.aa (WX.region rfl (zm rfl (zb rfl rfl dH (za rfl (ae.nil ?_)))))))
             first
             | (have hrp : bz i q = dp (aA q).2 2 := if_pos (by unfold dU; omega)
                have hle := bR q
                have hst := aT (i := i) (n := n) hc0
                rw [if_neg (by rw [hrp]; exact fun w => aZ _ w.2), hrp] at hst
                refine Fin.aj (i + 1, cW n (aA q).1 i, dp (aA q).2 2, a2, c2) ⟨hst.symm.trans g1, hb3, by show (aA q).2.1.length ≤ _; omega, fun w => ?_, g7, g8⟩ ?_ (fun s hs => hs.tl [0] 1)
                · exact absurd w (aZ _)
                · simp only; rw [if_neg (aZ _), if_pos hc0]; omega)
             | (have hrp : bz i q = (aA q).2 := if_neg (by unfold dU; omega)
                have hle := bR q
                have hlt := df q hc0
                have hst := aT (i := i) (n := n) hc0
                rw [if_neg (by rw [hrp]; omega), hrp] at hst
                refine Fin.aj (i + 1, cW n (aA q).1 i, (aA q).2, a2, c2) ⟨hst.symm.trans g1, hb3, by show (aA q).2.1.length ≤ _; omega, fun w => ?_, g7, g8⟩ ?_ (fun s hs => hs.tl [0] 1)
                · simp only at w ⊢; have := g4 hc0; omega
                · simp only; rw [if_pos hc0]; split <;> omega)
         · try simp only [aB] at hg41
           refine zs 2 41 rfl rfl rfl (zs 2 41 rfl rfl rfl (zs 2 41 rfl rfl rfl (zs 2 41 rfl rfl rfl (zs 2 41 rfl rfl rfl (ae.bd Met.none rfl rfl (ae.nil (Fin.aa ?_)))))))
           refine WX.cond rfl (fun hc2 => nomatch hc2) (fun hc2 => ?_)
           refine WX.skip (Fin.ag (Fin.aa (WX.region rfl (zm rfl (zb rfl rfl dH (za rfl (ae.nil ?_)))))))
           first
           | (have hrp : bz i q = dp (aA q).2 2 := if_pos (by unfold dU; omega)
              have hle := bR q
              have hst := aT (i := i) (n := n) hc0
              rw [if_neg (by rw [hrp]; exact fun w => aZ _ w.2), hrp] at hst
              refine Fin.aj (i + 1, cW n (aA q).1 i, dp (aA q).2 2, a2, c2) ⟨hst.symm.trans g1, hb3, by show (aA q).2.1.length ≤ _; omega, fun w => ?_, g7, g8⟩ ?_ (fun s hs => hs.tl [0] 1)
              · exact absurd w (aZ _)
              · simp only; rw [if_neg (aZ _), if_pos hc0]; omega)
           | (have hrp : bz i q = (aA q).2 := if_neg (by unfold dU; omega)
              have hle := bR q
              have hlt := df q hc0
              have hst := aT (i := i) (n := n) hc0
              rw [if_neg (by rw [hrp]; omega), hrp] at hst
              refine Fin.aj (i + 1, cW n (aA q).1 i, (aA q).2, a2, c2) ⟨hst.symm.trans g1, hb3, by show (aA q).2.1.length ≤ _; omega, fun w => ?_, g7, g8⟩ ?_ (fun s hs => hs.tl [0] 1)
              · simp only at w ⊢; have := g4 hc0; omega
              · simp only; rw [if_pos hc0]; split <;> omega)
       · try simp only [aB] at hc1
         refine WX.skip (Fin.aa (WX.seq (WX.region rfl (zm rfl (zm rfl (zb rfl rfl rfl ?_))))))
         refine ae.conv Met.none rfl Tryz.underlying5 Tryz.underlying78 (wrap_u64 (cD _).1 (cD _).2) ?_
         refine zm rfl (zb rfl rfl ug ?_)
         refine ae.shl Met.none rfl rfl (by omega) ?_
         refine zb rfl rfl rfl (za rfl (zR rfl (zm rfl (zb rfl rfl rfl (zm rfl ?_)))))
         refine ae.split (d := 41) rfl (fun hg41 => ?_) (fun hg41 => ?_)
         · try simp only [aB] at hg41
           refine ae.move (Met.some rfl rfl rfl) rfl (ae.nilCheck (Met.some rfl rfl rfl) rfl ?_)
           first | refine ae.fieldAddr (Met.some rfl rfl rfl) rfl Tryz.underlying118 rfl cu rfl ?_ | refine ae.bQ (Met.some rfl rfl rfl) rfl Tryz.underlying118 rfl cu ?_
           first | refine ae.ld (Met.some rfl rfl rfl) rfl bX ?_ | refine ae.ba (Met.some rfl rfl rfl) rfl bX ?_
           refine ae.bin (Met.some rfl rfl rfl) rfl rfl rfl (ae.bC Met.none rfl rfl (ae.nil (Fin.aa ?_)))
           refine WX.cond rfl (fun hc2 => ?_) (fun hc2 => ?_)
           · try simp only [aB] at hc2
             refine WX.seq (WX.region rfl (zm rfl (za rfl (ae.nil (Fin.aa (WX.ret (Fin.bq (Fin.az (Fin.dL (Fin.bq (Fin.az ?_)))))))))))
             first
             | (have hz : bO i n q = (0, q) := by rw [bO, dif_neg hc0]
                refine Fin.result (O' := (r, ⟨0, false, [.slice a q.1.length c, I q.2]⟩) :: O) (.inr rfl) rfl rfl (fun _ hs => hs) ?_
                rw [← g1, hz]
                exact ⟨rfl, a, c, rfl, g5, g6⟩)
             | (exfalso; revert hc2; split <;> omega)
             | (have hrp : bz i q = (aA q).2 := if_neg (by unfold dU; omega)
                have hst := aT (i := i) (n := n) hc0
                rw [if_pos (by rw [hrp]; omega), hrp] at hst
                refine Fin.result (O' := (r, ⟨0, false, [.slice a2 (aA q).2.1.length c2, I (aA q).2.2]⟩) :: O) (.inr rfl) rfl rfl (fun _ hs => hs) ?_
                rw [← g1, hst]
                exact ⟨rfl, a2, c2, rfl, g7, g8⟩)
           · try simp only [aB] at hc2
             refine WX.skip (Fin.ag (Fin.aa (WX.region rfl (zm rfl (zb rfl rfl dH (za rfl (ae.nil ?_)))))))
             first
             | (have hrp : bz i q = dp (aA q).2 2 := if_pos (by unfold dU; omega)
                have hle := bR q
                have hst := aT (i := i) (n := n) hc0
                rw [if_neg (by rw [hrp]; exact fun w => aZ _ w.2), hrp] at hst
                refine Fin.aj (i + 1, cW n (aA q).1 i, dp (aA q).2 2, a2, c2) ⟨hst.symm.trans g1, hb3, by show (aA q).2.1.length ≤ _; omega, fun w => ?_, g7, g8⟩ ?_ (fun s hs => hs.tl [0] 1)
                · exact absurd w (aZ _)
                · simp only; rw [if_neg (aZ _), if_pos hc0]; omega)
             | (have hrp : bz i q = (aA q).2 := if_neg (by unfold dU; omega)
                have hle := bR q
                have hlt := df q hc0
                have hst := aT (i := i) (n := n) hc0
                rw [if_neg (by rw [hrp]; omega), hrp] at hst
                refine Fin.aj (i + 1, cW n (aA q).1 i, (aA q).2, a2, c2) ⟨hst.symm.trans g1, hb3, by show (aA q).2.1.length ≤ _; omega, fun w => ?_, g7, g8⟩ ?_ (fun s hs => hs.tl [0] 1)
                · simp only at w ⊢; have := g4 hc0; omega
                · simp only; rw [if_pos hc0]; split <;> omega)
         · try simp only [aB] at hg41
           refine zs 2 41 rfl rfl rfl (zs 2 41 rfl rfl rfl (zs 2 41 rfl rfl rfl (zs 2 41 rfl rfl rfl (zs 2 41 rfl rfl rfl (ae.bd Met.none rfl rfl (ae.nil (Fin.aa ?_)))))))
           refine WX.cond rfl (fun hc2 => nomatch hc2) (fun hc2 => ?_)
           refine WX.skip (Fin.ag (Fin.aa (WX.region rfl (zm rfl (zb rfl rfl dH (za rfl (ae.nil ?_)))))))
           first
           | (have hrp : bz i q = dp (aA q).2 2 := if_pos (by unfold dU; omega)
              have hle := bR q
              have hst := aT (i := i) (n := n) hc0
              rw [if_neg (by rw [hrp]; exact fun w => aZ _ w.2), hrp] at hst
              refine Fin.aj (i + 1, cW n (aA q).1 i, dp (aA q).2 2, a2, c2) ⟨hst.symm.trans g1, hb3, by show (aA q).2.1.length ≤ _; omega, fun w => ?_, g7, g8⟩ ?_ (fun s hs => hs.tl [0] 1)
              · exact absurd w (aZ _)
              · simp only; rw [if_neg (aZ _), if_pos hc0]; omega)
           | (have hrp : bz i q = (aA q).2 := if_neg (by unfold dU; omega)
              have hle := bR q
              have hlt := df q hc0
              have hst := aT (i := i) (n := n) hc0
              rw [if_neg (by rw [hrp]; omega), hrp] at hst
              refine Fin.aj (i + 1, cW n (aA q).1 i, (aA q).2, a2, c2) ⟨hst.symm.trans g1, hb3, by show (aA q).2.1.length ≤ _; omega, fun w => ?_, g7, g8⟩ ?_ (fun s hs => hs.tl [0] 1)
              · simp only at w ⊢; have := g4 hc0; omega
              · simp only; rw [if_pos hc0]; split <;> omega)
     · try simp only [aB] at hg24
       refine zs 9 24 rfl rfl rfl (zs 9 24 rfl rfl rfl (ae.bd (Met.some rfl rfl rfl) rfl rfl (ae.bd Met.none rfl rfl (ae.nil (Fin.aa ?_)))))
       refine WX.cond rfl (fun hc1 => nomatch hc1) (fun hc1 => ?_)
       refine WX.skip (Fin.aa (WX.seq (WX.region rfl (zm rfl (zm rfl (zb rfl rfl rfl ?_))))))
       refine ae.conv Met.none rfl Tryz.underlying5 Tryz.underlying78 (wrap_u64 (cD _).1 (cD _).2) ?_
       refine zm rfl (zb rfl rfl ug ?_)
       refine ae.shl Met.none rfl rfl (by omega) ?_
       refine zb rfl rfl rfl (za rfl (zR rfl (zm rfl (zb rfl rfl rfl (zm rfl ?_)))))
       refine ae.split (d := 41) rfl (fun hg41 => ?_) (fun hg41 => ?_)
       · try simp only [aB] at hg41
         refine ae.move (Met.some rfl rfl rfl) rfl (ae.nilCheck (Met.some rfl rfl rfl) rfl ?_)
         first | refine ae.fieldAddr (Met.some rfl rfl rfl) rfl Tryz.underlying118 rfl cu rfl ?_ | refine ae.bQ (Met.some rfl rfl rfl) rfl Tryz.underlying118 rfl cu ?_
         first | refine ae.ld (Met.some rfl rfl rfl) rfl bX ?_ | refine ae.ba (Met.some rfl rfl rfl) rfl bX ?_
         refine ae.bin (Met.some rfl rfl rfl) rfl rfl rfl (ae.bC Met.none rfl rfl (ae.nil (Fin.aa ?_)))
         refine WX.cond rfl (fun hc2 => ?_) (fun hc2 => ?_)
         · try simp only [aB] at hc2
           refine WX.seq (WX.region rfl (zm rfl (za rfl (ae.nil (Fin.aa (WX.ret (Fin.bq (Fin.az (Fin.dL (Fin.bq (Fin.az ?_)))))))))))
           first
           | (have hz : bO i n q = (0, q) := by rw [bO, dif_neg hc0]
              refine Fin.result (O' := (r, ⟨0, false, [.slice a q.1.length c, I q.2]⟩) :: O) (.inr rfl) rfl rfl (fun _ hs => hs) ?_
              rw [← g1, hz]
              exact ⟨rfl, a, c, rfl, g5, g6⟩)
           | (exfalso; revert hc2; split <;> omega)
           | (have hrp : bz i q = (aA q).2 := if_neg (by unfold dU; omega)
              have hst := aT (i := i) (n := n) hc0
              rw [if_pos (by rw [hrp]; omega), hrp] at hst
              refine Fin.result (O' := (r, ⟨0, false, [.slice a2 (aA q).2.1.length c2, I (aA q).2.2]⟩) :: O) (.inr rfl) rfl rfl (fun _ hs => hs) ?_
              rw [← g1, hst]
              exact ⟨rfl, a2, c2, rfl, g7, g8⟩)
         · try simp only [aB] at hc2
           refine WX.skip (Fin.ag (Fin.aa (WX.region rfl (zm rfl (zb rfl rfl dH (za rfl (ae.nil ?_)))))))
           first
           | (have hrp : bz i q = dp (aA q).2 2 := if_pos (by unfold dU; omega)
              have hle := bR q
              have hst := aT (i := i) (n := n) hc0
              rw [if_neg (by rw [hrp]; exact fun w => aZ _ w.2), hrp] at hst
              refine Fin.aj (i + 1, cW n (aA q).1 i, dp (aA q).2 2, a2, c2) ⟨hst.symm.trans g1, hb3, by show (aA q).2.1.length ≤ _; omega, fun w => ?_, g7, g8⟩ ?_ (fun s hs => hs.tl [0] 1)
              · exact absurd w (aZ _)
              · simp only; rw [if_neg (aZ _), if_pos hc0]; omega)
           | (have hrp : bz i q = (aA q).2 := if_neg (by unfold dU; omega)
              have hle := bR q
              have hlt := df q hc0
              have hst := aT (i := i) (n := n) hc0
              rw [if_neg (by rw [hrp]; omega), hrp] at hst
              refine Fin.aj (i + 1, cW n (aA q).1 i, (aA q).2, a2, c2) ⟨hst.symm.trans g1, hb3, by show (aA q).2.1.length ≤ _; omega, fun w => ?_, g7, g8⟩ ?_ (fun s hs => hs.tl [0] 1)
              · simp only at w ⊢; have := g4 hc0; omega
              · simp only; rw [if_pos hc0]; split <;> omega)
       · try simp only [aB] at hg41
         refine zs 2 41 rfl rfl rfl (zs 2 41 rfl rfl rfl (zs 2 41 rfl rfl rfl (zs 2 41 rfl rfl rfl (zs 2 41 rfl rfl rfl (ae.bd Met.none rfl rfl (ae.nil (Fin.aa ?_)))))))
         refine WX.cond rfl (fun hc2 => nomatch hc2) (fun hc2 => ?_)
         refine WX.skip (Fin.ag (Fin.aa (WX.region rfl (zm rfl (zb rfl rfl dH (za rfl (ae.nil ?_)))))))
         first
         | (have hrp : bz i q = dp (aA q).2 2 := if_pos (by unfold dU; omega)
            have hle := bR q
            have hst := aT (i := i) (n := n) hc0
            rw [if_neg (by rw [hrp]; exact fun w => aZ _ w.2), hrp] at hst
            refine Fin.aj (i + 1, cW n (aA q).1 i, dp (aA q).2 2, a2, c2) ⟨hst.symm.trans g1, hb3, by show (aA q).2.1.length ≤ _; omega, fun w => ?_, g7, g8⟩ ?_ (fun s hs => hs.tl [0] 1)
            · exact absurd w (aZ _)
            · simp only; rw [if_neg (aZ _), if_pos hc0]; omega)
         | (have hrp : bz i q = (aA q).2 := if_neg (by unfold dU; omega)
            have hle := bR q
            have hlt := df q hc0
            have hst := aT (i := i) (n := n) hc0
            rw [if_neg (by rw [hrp]; omega), hrp] at hst
            refine Fin.aj (i + 1, cW n (aA q).1 i, (aA q).2, a2, c2) ⟨hst.symm.trans g1, hb3, by show (aA q).2.1.length ≤ _; omega, fun w => ?_, g7, g8⟩ ?_ (fun s hs => hs.tl [0] 1)
            · simp only at w ⊢; have := g4 hc0; omega
            · simp only; rw [if_pos hc0]; split <;> omega)
 · try simp only [aB] at hc0
   refine WX.exit (Fin.aF (Fin.aN (Fin.aK rfl (Fin.aa (WX.seq (WX.region rfl (za rfl (ae.nil (Fin.aa (WX.ret ?_))))))))))
   first
   | (have hz : bO i n q = (0, q) := by rw [bO, dif_neg hc0]
      refine Fin.result (O' := (r, ⟨0, false, [.slice a q.1.length c, I q.2]⟩) :: O) (.inr rfl) rfl rfl (fun _ hs => hs) ?_
      rw [← g1, hz]
      exact ⟨rfl, a, c, rfl, g5, g6⟩)
   | (exfalso; revert hc2; split <;> omega)
   | (have hrp : bz i q = (aA q).2 := if_neg (by unfold dU; omega)
      have hst := aT (i := i) (n := n) hc0
      rw [if_pos (by rw [hrp]; omega), hrp] at hst
      refine Fin.result (O' := (r, ⟨0, false, [.slice a2 (aA q).2.1.length c2, I (aA q).2.2]⟩) :: O) (.inr rfl) rfl rfl (fun _ hs => hs) ?_
      rw [← g1, hst]
      exact ⟨rfl, a2, c2, rfl, g7, g8⟩)
def fI (q : lG) : List Int × lG :=
 if (bO 0 0 q).2.2 = 0 then
  if (bO 0 0 q).1 ≤ ((bO 0 0 q).2.1.length : Int) then ((bO 0 0 q).2.1.take (bO 0 0 q).1.toNat, ((bO 0 0 q).2.1.drop (bO 0 0 q).1.toNat, 0)) else ([], ((bO 0 0 q).2.1, 3))
 else ([], (bO 0 0 q).2)
theorem nc (n c : Int) (i : Nat) : 0 ≤ cW n c i ∧ cW n c i < 18446744073709551616 := by
 unfold cW
 exact gz _
theorem mE (i : Nat) (q : lG) : (bz i q).1.length ≤ q.1.length := by
 unfold bz dp
 split <;> exact bR q
theorem jC (i : Nat) {q : lG} (h : Bytes q.1) : Bytes (bz i q).1 := by
 unfold bz dp
 split <;> exact (m9 h).2.2
theorem mX (i : Nat) (n : Int) (q : lG) (hn : 0 ≤ n ∧ n < 18446744073709551616) : (0 ≤ (bO i n q).1 ∧ (bO i n q).1 < 18446744073709551616) ∧ (bO i n q).2.1.length ≤ q.1.length ∧ (Bytes q.1 → Bytes (bO i n q).2.1) ∧ ((bO i n q).2.2 ≠ 0 → (bO i n q).1 = 0) := by
 rw [bO]
 split
 · rename_i h0
   split
   · rename_i h1
     exact ⟨nc _ _ _, mE i q, jC i, fun h => absurd h1.2 h⟩
   · split
     · rename_i h2
       obtain ⟨q1, q2, q3, q4⟩ := mX (i + 1) (cW n (aA q).1 i) (bz i q) (nc _ _ _)
       exact ⟨q1, Nat.le_trans q2 (mE i q), fun h => q3 (jC i h), q4⟩
     · exact ⟨⟨Int.le_refl 0, by show (0:Int) < _; decide⟩, mE i q, jC i, fun _ => rfl⟩
 · exact ⟨⟨Int.le_refl 0, by show (0:Int) < _; decide⟩, Nat.le_refl _, id, fun _ => rfl⟩
termination_by q.1.length
decreasing_by
 rename_i h0 _ h2
 rcases nM i q h0 with w | w
 · exact absurd h2 w
 · exact w
theorem nw (q : lG) : (0 ≤ (bO 0 0 q).1 ∧ (bO 0 0 q).1 < 18446744073709551616) ∧ (bO 0 0 q).2.1.length ≤ q.1.length ∧ (Bytes q.1 → Bytes (bO 0 0 q).2.1) ∧ ((bO 0 0 q).2.2 ≠ 0 → (bO 0 0 q).1 = 0) :=
 mX 0 0 q ⟨Int.le_refl 0, by decide⟩
theorem nI (q : lG) : (fI q).1.length ≤ q.1.length ∧ (fI q).2.1.length ≤ q.1.length ∧ (Bytes q.1 → Bytes (fI q).1 ∧ Bytes (fI q).2.1) := by
 obtain ⟨h1, h2, h3, h4⟩ := nw q
 unfold fI
 split
 · split
   · refine ⟨?_, ?_, fun h => ⟨fun x hx => h3 h x (List.mem_of_mem_take hx), fun x hx => h3 h x (List.mem_of_mem_drop hx)⟩⟩
     · rw [List.length_take]; omega
     · rw [List.length_drop]; omega
   · exact ⟨Nat.zero_le _, h2, fun h => ⟨fun x hx => by simp at hx, h3 h⟩⟩
 · exact ⟨Nat.zero_le _, h2, fun h => ⟨fun x hx => by simp at hx, h3 h⟩⟩
theorem ln (n : Nat) (h : n < 18446744073709551616) (rest : List Int) : bO 0 0 (bA n ++ rest, 0) = ((n : Int), (rest, 0)) := by
 have := uy rest n 0 0 (by decide) (by decide) (by simpa using h) (fun h => absurd h (by decide))
 simpa using this
theorem ph (b rest : List Int) (h : b.length < 18446744073709551616) : fI (dI b ++ rest, 0) = (b, (rest, 0)) := by
 have e : dI b ++ rest = bA b.length ++ (b ++ rest) := by unfold dI; rw [List.append_assoc]
 unfold fI
 rw [e, ln _ h]
 simp only [if_true]
 rw [if_pos (by rw [List.length_append]; omega), Int.toNat_natCast, List.take_left, List.drop_left]
def kX (b : List Int) : List Int :=
 let n := (bO 0 0 (b.take (min b.length 10), 0)).1
 (fI (b.take (min b.length (10 + min n.toNat b.length)), 0)).1
def aS (b : List Int) : List Int := (fI (bO 0 0 (kX b, 0)).2).1
theorem mY (b : List Int) : (kX b).length ≤ b.length ∧ (Bytes b → Bytes (kX b)) := by
 unfold kX
 obtain ⟨h1, h2, h3⟩ := nI (b.take (min b.length (10 + min (bO 0 0 (b.take (min b.length 10), 0)).1.toNat b.length)), 0)
 simp only [List.length_take] at h1
 exact ⟨by simp only; omega, fun h => (h3 fun x hx => h x (List.mem_of_mem_take hx)).1⟩
theorem iI (b : List Int) : (aS b).length ≤ b.length ∧ (Bytes b → Bytes (aS b)) := by
 obtain ⟨c1, c2⟩ := mY b
 obtain ⟨u1, u2, u3, u4⟩ := nw (kX b, 0)
 obtain ⟨h1, h2, h3⟩ := nI (bO 0 0 (kX b, 0)).2
 unfold aS
 simp only at u2 u3
 exact ⟨by omega, fun h => (h3 (u3 (c2 h))).1⟩
theorem jh (i : Int) (x : List Int) : 0 < (ar i x).length := by
 unfold ar dI
 simp only [List.length_append]
 have : 0 < (bA (aY i x).length).length := by rw [bA]; split <;> simp
 omega
theorem rW {b : List Int} (h : b.length < 18446744073709551616) : (bA b.length).length ≤ 10 := ec (k := 9) (by omega)
theorem eI {i : Int} {x b : List Int} (hi : dG i) (hx : x.length ≤ 1000000000) (h : ar i x <+: b) : aS b = x := by
 obtain ⟨rest, rfl⟩ := h
 have hcl := gW hi hx
 have hc : (aY i x).length < 18446744073709551616 := by omega
 have hv := rW hc
 have e0 : ar i x ++ rest = bA (aY i x).length ++ (aY i x ++ (bA (dD eE (aY i x)).toNat ++ rest)) := by
  unfold ar dI
  simp only [List.append_assoc]
 have hbl : (ar i x ++ rest).length = (bA (aY i x).length).length + ((aY i x).length + ((bA (dD eE (aY i x)).toNat).length + rest.length)) := by rw [e0]; simp only [List.length_append]
 have e1 : kX (ar i x ++ rest) = aY i x := by
  unfold kX
  have e2 : (ar i x ++ rest).take (min (ar i x ++ rest).length 10) = bA (aY i x).length ++ (aY i x ++ (bA (dD eE (aY i x)).toNat ++ rest)).take (min (ar i x ++ rest).length 10 - (bA (aY i x).length).length) := by
   rw [e0, List.take_append, List.take_of_length_le (by rw [← e0, hbl]; omega)]
  simp only
  rw [e2, ln _ hc, Int.toNat_natCast]
  generalize hk : min (ar i x ++ rest).length (10 + min (aY i x).length (ar i x ++ rest).length) = k
  have hk2 : (bA (aY i x).length).length + (aY i x).length ≤ k := by rw [← hk, hbl]; omega
  have e3 : (ar i x ++ rest).take k = dI (aY i x) ++ (bA (dD eE (aY i x)).toNat ++ rest).take (k - (dI (aY i x)).length) := by
   have e4 : ar i x ++ rest = dI (aY i x) ++ (bA (dD eE (aY i x)).toNat ++ rest) := by unfold ar; rw [List.append_assoc]
   rw [e4, List.take_append, List.take_of_length_le (by unfold dI; rw [List.length_append]; exact hk2)]
  rw [e3, ph _ _ hc]
 unfold aS
 rw [e1]
 have hz := fw hi
 unfold mB at hz
 have e5 : bO 0 0 (aY i x, 0) = (((ff i).toNat : Int), (dI x, 0)) := by
  unfold aY
  exact ln _ (by omega) _
 rw [e5]
 have := ph x [] (by omega)
 rw [List.append_nil] at this
 rw [this]
def dB (i : Nat) (b : List Int) : List (List Int) × Nat :=
 if h : b ≠ [] ∧ ar i (aS b) <+: b then
  (aS b :: (dB (i + 1) (b.drop (ar i (aS b)).length)).1, (ar i (aS b)).length + (dB (i + 1) (b.drop (ar i (aS b)).length)).2)
 else ([], 0)
termination_by b.length
decreasing_by
 all_goals
  have := jh i (aS b)
  have : 0 < b.length := List.length_pos_iff.2 h.1
  rw [List.length_drop]
  omega
def cM (i : Nat) : List (List Int) → List Int
 | [] => []
 | x :: l => ar i x ++ cM (i + 1) l
theorem du (i : Nat) (x : List Int) (l : List (List Int)) : cM i (x :: l) = ar i x ++ cM (i + 1) l := rfl
theorem pP (rest : List Int) : ∀ (l : List (List Int)) (i : Nat), i + l.length ≤ 1000000000 → (∀ x ∈ l, x.length ≤ 1000000000) →
  dB i (cM i l ++ rest) = (l ++ (dB (i + l.length) rest).1, (cM i l).length + (dB (i + l.length) rest).2) := by
 intro l
 induction l with
 | nil => intro i _ _; simp [cM]
 | cons x l ih =>
  intro i hi hl
  have e : cM i (x :: l) ++ rest = ar i x ++ (cM (i + 1) l ++ rest) := by rw [du, List.append_assoc]
  have hp : ar i x <+: ar i x ++ (cM (i + 1) l ++ rest) := List.prefix_append _ _
  have hr := eI (by unfold dG; simp only [List.length_cons] at hi; omega) (hl x (List.mem_cons_self ..)) hp
  have hpos := jh i x
  rw [e, dB, dif_pos ⟨fun q => by rw [q] at hp; have := hp.length_le; simp at this; rw [this] at hpos; simp at hpos, by rw [hr]; exact hp⟩, hr, List.drop_left, ih (i + 1) (by simp only [List.length_cons] at hi; omega) fun y hy => hl y (List.mem_cons_of_mem _ hy)]
  have e2 : i + 1 + l.length = i + (x :: l).length := by rw [List.length_cons]; omega
  rw [e2]
  refine Prod.ext (by simp) ?_
  show _ + (_ + _) = (cM i (x :: l)).length + _
  rw [du, List.length_append]
  omega
def y8 (O : an) (r : Nat) (q : lG) (G N : an) : Prop := ∃ a c, N = (r, ⟨0, false, [.slice a q.1.length c, I q.2]⟩) :: (G ++ O) ∧ bK O 1 a q.1.length (q.1.map B8) ∧ (a = none → c = 0)
theorem iF {l : List Int} {k : Nat} (h : k < l.length) : l.drop k = nth l k :: l.drop (k + 1) := by
 rw [dx h, List.drop_eq_getElem_cons h]
theorem wS (O : an) (r : Nat) (q0 : lG) (a0 : Option Addr) (c0 : Nat) (hB : Bytes q0.1) (hlen : q0.1.length ≤ 1000000000000) (hr : bK O 1 a0 q0.1.length (q0.1.map B8)) (hc : a0 = none → c0 = 0) :
  Spec Tryz.prog false 92 #[Ptr r 0, .func (.func 90) #[Ptr r 0] #[]] ((r, ⟨0, false, [.slice a0 q0.1.length c0, I q0.2]⟩) :: O) fun v O' => ∃ ao co G, v = .slice ao (fI q0).1.length co ∧ Grow 1 ao (fI q0).1.length co ((fI q0).1.map B8) G ∧ y8 O r (fI q0).2 G O' := by
 obtain ⟨hu1, hu2, hu3, hu4⟩ := nw q0
 obtain ⟨n, l, e, hu⟩ : ∃ n l e, bO 0 0 q0 = (n, (l, e)) := ⟨_, _, _, rfl⟩
 rw [hu] at hu1 hu2 hu3 hu4
 simp only at hu1 hu2 hu3 hu4
 refine Spec.enter (args := [_, _]) (m := 43) Tryz.func92 rfl rfl (by decide +kernel) fun h0 => ?_
 refine WX.seq (WX.region rfl (za rfl (zR rfl (zm rfl ?_))))
 refine ae.cl (O1 := _) Met.none rfl (ah Tryz.func77 (by decide +kernel)) rfl (fun _ h => h) (qp O r q0 a0 c0 hB hlen hr hc) (fun v O' hp => ?_)
 obtain ⟨rfl, ⟨a1, c1, rfl, hr1, hc1⟩⟩ := hp
 rw [hu] at hr1 ⊢
 simp only at hr1 ⊢
 refine za rfl (ae.nil (Fin.aa (WX.seq (WX.seq (WX.region rfl (zm rfl (zm rfl (zn rfl ?_))))))))
 first | refine ae.fieldAddr Met.none rfl Tryz.underlying118 rfl aO rfl ?_ | refine ae.bQ Met.none rfl Tryz.underlying118 rfl aO ?_
 first | refine ae.ld Met.none rfl aD ?_ | refine ae.ba Met.none rfl aD ?_
 refine ae.len Met.none rfl Tryz.underlying39 ?_
 refine ae.conv Met.none rfl Tryz.underlying3 Tryz.underlying78 (wrap_u64 (by omega) (by omega)) ?_
 refine zb rfl rfl rfl (ae.nil (Fin.aa ?_))
 refine WX.cond rfl (fun hc0 => ?_) (fun hc0 => ?_)
 · try simp only [aB] at hc0
   refine WX.region rfl (zm rfl ?_)
   refine ae.cl (O1 := _) Met.none rfl (ah Tryz.func91 (by decide +kernel)) rfl (fun _ h => h) (mo _ r _ 3 e) (fun v O' hp => ?_)
   obtain rfl := hp
   refine zR rfl ?_
   obtain ⟨e1, he1, hraw, hn1⟩ : ∃ e1, e1 = (if n ≤ (l.length : Int) then e else if e = 0 then 3 else e) ∧ fI q0 = (if e1 = 0 then (l.take n.toNat, (l.drop n.toNat, 0)) else ([], (l, e1))) ∧ (e1 = 0 → n ≤ l.length) := by
    refine ⟨_, rfl, ?_, ?_⟩
    · unfold fI
      rw [hu]
      simp only
      by_cases q1 : e = 0
      · subst q1
        by_cases q2 : n ≤ (l.length : Int)
        · rw [if_pos rfl, if_pos q2, if_pos q2, if_pos rfl]
        · rw [if_pos rfl, if_neg q2, if_neg q2, if_pos rfl, if_neg (by decide)]
      · rw [if_neg q1]
        have q3 := hu4 q1
        have q4 : (if n ≤ (l.length : Int) then e else if e = 0 then 3 else e) = e := if_pos (by omega)
        rw [q4, if_neg q1]
    · intro q1
      by_cases q2 : n ≤ (l.length : Int)
      · exact q2
      · rw [if_neg q2] at q1
        split at q1
        · cases q1
        · exact absurd q1 (by assumption)
   first
   | rw [show (if e = 0 then 3 else e) = e1 from by rw [he1, if_neg (show ¬ n ≤ (l.length : Int) by omega)]]
   | rw [show e = e1 from by rw [he1, if_pos (show n ≤ (l.length : Int) by omega)]]
   rw [hraw]
   clear hraw
   refine za rfl (ae.nil (Fin.aa (WX.seq (WX.seq (WX.region rfl (za rfl (ae.nil (Fin.aa (WX.block ?_)))))))))
   refine WX.loop (fun s : Nat × Option Addr × Nat × an × Option Addr × Nat => [(0, Ptr r 0), (1, .func (.func 90) #[Ptr r 0] #[]), (5, U n), (6, .slice s.2.1 s.1 s.2.2.1), (7, U (s.1 : Int))]) (fun s => (r, ⟨0, false, [.slice s.2.2.2.2.1 (l.drop s.1).length s.2.2.2.2.2, I e1]⟩) :: (s.2.2.2.1 ++ O)) (fun s => (s.1 : Int) ≤ n ∧ s.1 ≤ l.length ∧ (s.1 = 0 ∨ e1 = 0) ∧ Grow 1 s.2.1 s.1 s.2.2.1 ((l.take s.1).map B8) s.2.2.2.1 ∧ bK O 1 s.2.2.2.2.1 (l.drop s.1).length ((l.drop s.1).map B8) ∧ (s.2.2.2.2.1 = none → s.2.2.2.2.2 = 0)) (fun s => l.length - s.1) (0, none, 0, [], a1, c1) ⟨hu1.1, Nat.zero_le _, .inl rfl, .nil, hr1, hc1⟩ (fun s hs => hs.tl [0] 1) (fun s hs => ?_)
   obtain ⟨k, ao, co, G, a2, c2⟩ := s
   obtain ⟨g1, g2, g3, g4, g5, g6⟩ := hs
   simp only at g1 g2 g3 g4 g5 g6
   dsimp only
   refine WX.seq (WX.seq (WX.region rfl (zm rfl (zm rfl (zb rfl rfl rfl (zm rfl ?_))))))
   refine ae.split (d := 23) rfl (fun hg23 => ?_) (fun hg23 => ?_)
   · try simp only [aB] at hg23
     refine ae.move (Met.some rfl rfl rfl) rfl (ae.nilCheck (Met.some rfl rfl rfl) rfl ?_)
     first | refine ae.fieldAddr (Met.some rfl rfl rfl) rfl Tryz.underlying118 rfl cu rfl ?_ | refine ae.bQ (Met.some rfl rfl rfl) rfl Tryz.underlying118 rfl cu ?_
     first | refine ae.ld (Met.some rfl rfl rfl) rfl bX ?_ | refine ae.ba (Met.some rfl rfl rfl) rfl bX ?_
     refine ae.bin (Met.some rfl rfl rfl) rfl rfl rfl (ae.bC Met.none rfl rfl (ae.nil (Fin.aa ?_)))
     refine WX.cond rfl (fun hc1 => ?_) (fun hc1 => ?_)
     · try simp only [aB] at hc1
       refine WX.skip (Fin.aa (WX.seq (WX.block ?_)))
       have he0 : e1 = 0 := by omega
       subst he0
       have hn2 := hn1 rfl
       have hkl : k < l.length := by omega
       have hdc := iF hkl
       refine WX.region rfl (zm rfl (zm rfl ?_))
       refine ae.cl (O1 := _) Met.none rfl (ah Tryz.func90 (by decide +kernel)) rfl (fun _ h => h) (qe (G ++ O) r (l.drop k, 0) a2 c2 (by simp only [List.length_drop]; omega) g5.app g6) (fun v O' hp => ?_)
       obtain ⟨rfl, ⟨a3, c3, rfl, g7, g8⟩⟩ := hp
       rw [show aA (l.drop k, 0) = (nth l k, (l.drop (k + 1), 0)) from by rw [hdc]; rfl] at g7 ⊢
       have g7 := g7 O g5
       refine ae.buildSlice (c := [_]) Met.none rfl aQ ea dA (by decide) (by decide) rfl rfl rfl rfl (fun b35 => ?_)
       refine ae.mS [_, _] Met.none rfl rfl dQ aQ ea qt dA (Src.lit (cs := [_])) (fun a36 c36 G36 hG36 => ?_)
       refine za rfl (ae.nil (Fin.ag (Fin.aa (WX.region rfl (zm rfl (ae.bin Met.none rfl rfl (congrArg (fun n => some (U n)) (wrap_u64 (n := (k : Int) + 1) (by omega) (by omega))) (za rfl (ae.nil ?_))))))))
       refine Fin.aj (k + 1, a36, c36, G36, a3, c3) ⟨by simp only; omega, by simp only; omega, .inr rfl, ?_, g7, g8⟩ (by simp only; omega) (fun s hs => hs.tl [1] 2)
       simp only
       rw [bG hkl, List.map_append]
       exact hG36
     · try simp only [aB] at hc1
       refine WX.exit (Fin.aF (Fin.aN (Fin.aK rfl (Fin.aa (WX.seq (WX.seq (WX.region rfl (zm rfl (zn rfl ?_)))))))))
       first | refine ae.fieldAddr Met.none rfl Tryz.underlying118 rfl cu rfl ?_ | refine ae.bQ Met.none rfl Tryz.underlying118 rfl cu ?_
       first | refine ae.ld Met.none rfl bX ?_ | refine ae.ba Met.none rfl bX ?_
       refine zb rfl rfl rfl (ae.nil (Fin.aa ?_))
       refine WX.cond rfl (fun hc2 => ?_) (fun hc2 => ?_)
       · try simp only [aB] at hc2
         refine WX.seq (WX.region rfl (za rfl (ae.nil (Fin.aa (WX.ret (Fin.az ?_))))))
         first
         | (have hk0 : k = 0 := by omega
            subst hk0
            rw [if_neg hc2]
            rcases g4 with ⟨rfl, _, rfl, _, rfl⟩ | ⟨b, rfl, rfl, _⟩
            · exact Fin.result (O' := (r, ⟨0, false, [.slice a2 (l.drop 0).length c2, I e1]⟩) :: ([] ++ O)) (.inr rfl) rfl rfl (fun _ hs => hs) ⟨none, 0, [], rfl, .nil, a2, c2, rfl, g5, g6⟩
            · exact Fin.result (O' := (r, ⟨0, false, [.slice a2 (l.drop 0).length c2, I e1]⟩) :: ([] ++ O)) (.inr rfl) rfl rfl (fun _ hs => hs.tl [0] 2) ⟨none, 0, [], rfl, .nil, a2, c2, rfl, g5, g6⟩)
         | (have he0 : e1 = 0 := by omega
            subst he0
            rw [if_pos rfl]
            have hkn : n.toNat = k := by omega
            rw [hkn]
            have hlk : (l.take k).length = k := by rw [List.length_take]; omega
            exact Fin.result (O' := (r, ⟨0, false, [.slice a2 (l.drop k).length c2, I 0]⟩) :: (G ++ O)) (.inr rfl) rfl rfl (fun _ hs => hs) ⟨ao, co, G, by rw [hlk]; rfl, by rw [hlk]; exact g4, a2, c2, rfl, g5, g6⟩)
       · try simp only [aB] at hc2
         refine WX.skip (Fin.aa (WX.seq (WX.region rfl (zm rfl (za rfl (ae.nil (Fin.aa (WX.ret ?_))))))))
         first
         | (have hk0 : k = 0 := by omega
            subst hk0
            rw [if_neg hc2]
            rcases g4 with ⟨rfl, _, rfl, _, rfl⟩ | ⟨b, rfl, rfl, _⟩
            · exact Fin.result (O' := (r, ⟨0, false, [.slice a2 (l.drop 0).length c2, I e1]⟩) :: ([] ++ O)) (.inr rfl) rfl rfl (fun _ hs => hs) ⟨none, 0, [], rfl, .nil, a2, c2, rfl, g5, g6⟩
            · exact Fin.result (O' := (r, ⟨0, false, [.slice a2 (l.drop 0).length c2, I e1]⟩) :: ([] ++ O)) (.inr rfl) rfl rfl (fun _ hs => hs.tl [0] 2) ⟨none, 0, [], rfl, .nil, a2, c2, rfl, g5, g6⟩)
         | (have he0 : e1 = 0 := by omega
            subst he0
            rw [if_pos rfl]
            have hkn : n.toNat = k := by omega
            rw [hkn]
            have hlk : (l.take k).length = k := by rw [List.length_take]; omega
            exact Fin.result (O' := (r, ⟨0, false, [.slice a2 (l.drop k).length c2, I 0]⟩) :: (G ++ O)) (.inr rfl) rfl rfl (fun _ hs => hs) ⟨ao, co, G, by rw [hlk]; rfl, by rw [hlk]; exact g4, a2, c2, rfl, g5, g6⟩)
   · try simp only [aB] at hg23
     refine zs 3 23 rfl rfl rfl (zs 3 23 rfl rfl rfl (zs 3 23 rfl rfl rfl (zs 3 23 rfl rfl rfl (zs 3 23 rfl rfl rfl (ae.bd Met.none rfl rfl (ae.nil (Fin.aa ?_)))))))
     refine WX.cond rfl (fun hc1 => nomatch hc1) (fun hc1 => ?_)
     refine WX.exit (Fin.aF (Fin.aN (Fin.aK rfl (Fin.aa (WX.seq (WX.seq (WX.region rfl (zm rfl (zn rfl ?_)))))))))
     first | refine ae.fieldAddr Met.none rfl Tryz.underlying118 rfl cu rfl ?_ | refine ae.bQ Met.none rfl Tryz.underlying118 rfl cu ?_
     first | refine ae.ld Met.none rfl bX ?_ | refine ae.ba Met.none rfl bX ?_
     refine zb rfl rfl rfl (ae.nil (Fin.aa ?_))
     refine WX.cond rfl (fun hc2 => ?_) (fun hc2 => ?_)
     · try simp only [aB] at hc2
       refine WX.seq (WX.region rfl (za rfl (ae.nil (Fin.aa (WX.ret (Fin.az ?_))))))
       first
       | (have hk0 : k = 0 := by omega
          subst hk0
          rw [if_neg hc2]
          rcases g4 with ⟨rfl, _, rfl, _, rfl⟩ | ⟨b, rfl, rfl, _⟩
          · exact Fin.result (O' := (r, ⟨0, false, [.slice a2 (l.drop 0).length c2, I e1]⟩) :: ([] ++ O)) (.inr rfl) rfl rfl (fun _ hs => hs) ⟨none, 0, [], rfl, .nil, a2, c2, rfl, g5, g6⟩
          · exact Fin.result (O' := (r, ⟨0, false, [.slice a2 (l.drop 0).length c2, I e1]⟩) :: ([] ++ O)) (.inr rfl) rfl rfl (fun _ hs => hs.tl [0] 2) ⟨none, 0, [], rfl, .nil, a2, c2, rfl, g5, g6⟩)
       | (have he0 : e1 = 0 := by omega
          subst he0
          rw [if_pos rfl]
          have hkn : n.toNat = k := by omega
          rw [hkn]
          have hlk : (l.take k).length = k := by rw [List.length_take]; omega
          exact Fin.result (O' := (r, ⟨0, false, [.slice a2 (l.drop k).length c2, I 0]⟩) :: (G ++ O)) (.inr rfl) rfl rfl (fun _ hs => hs) ⟨ao, co, G, by rw [hlk]; rfl, by rw [hlk]; exact g4, a2, c2, rfl, g5, g6⟩)
     · try simp only [aB] at hc2
       refine WX.skip (Fin.aa (WX.seq (WX.region rfl (zm rfl (za rfl (ae.nil (Fin.aa (WX.ret ?_))))))))
       first
       | (have hk0 : k = 0 := by omega
          subst hk0
          rw [if_neg hc2]
          rcases g4 with ⟨rfl, _, rfl, _, rfl⟩ | ⟨b, rfl, rfl, _⟩
          · exact Fin.result (O' := (r, ⟨0, false, [.slice a2 (l.drop 0).length c2, I e1]⟩) :: ([] ++ O)) (.inr rfl) rfl rfl (fun _ hs => hs) ⟨none, 0, [], rfl, .nil, a2, c2, rfl, g5, g6⟩
          · exact Fin.result (O' := (r, ⟨0, false, [.slice a2 (l.drop 0).length c2, I e1]⟩) :: ([] ++ O)) (.inr rfl) rfl rfl (fun _ hs => hs.tl [0] 2) ⟨none, 0, [], rfl, .nil, a2, c2, rfl, g5, g6⟩)
       | (have he0 : e1 = 0 := by omega
          subst he0
          rw [if_pos rfl]
          have hkn : n.toNat = k := by omega
          rw [hkn]
          have hlk : (l.take k).length = k := by rw [List.length_take]; omega
          exact Fin.result (O' := (r, ⟨0, false, [.slice a2 (l.drop k).length c2, I 0]⟩) :: (G ++ O)) (.inr rfl) rfl rfl (fun _ hs => hs) ⟨ao, co, G, by rw [hlk]; rfl, by rw [hlk]; exact g4, a2, c2, rfl, g5, g6⟩)
 · try simp only [aB] at hc0
   refine WX.skip (Fin.aa (WX.seq (WX.region rfl ?_)))
   obtain ⟨e1, he1, hraw, hn1⟩ : ∃ e1, e1 = (if n ≤ (l.length : Int) then e else if e = 0 then 3 else e) ∧ fI q0 = (if e1 = 0 then (l.take n.toNat, (l.drop n.toNat, 0)) else ([], (l, e1))) ∧ (e1 = 0 → n ≤ l.length) := by
    refine ⟨_, rfl, ?_, ?_⟩
    · unfold fI
      rw [hu]
      simp only
      by_cases q1 : e = 0
      · subst q1
        by_cases q2 : n ≤ (l.length : Int)
        · rw [if_pos rfl, if_pos q2, if_pos q2, if_pos rfl]
        · rw [if_pos rfl, if_neg q2, if_neg q2, if_pos rfl, if_neg (by decide)]
      · rw [if_neg q1]
        have q3 := hu4 q1
        have q4 : (if n ≤ (l.length : Int) then e else if e = 0 then 3 else e) = e := if_pos (by omega)
        rw [q4, if_neg q1]
    · intro q1
      by_cases q2 : n ≤ (l.length : Int)
      · exact q2
      · rw [if_neg q2] at q1
        split at q1
        · cases q1
        · exact absurd q1 (by assumption)
   first
   | rw [show (if e = 0 then 3 else e) = e1 from by rw [he1, if_neg (show ¬ n ≤ (l.length : Int) by omega)]]
   | rw [show e = e1 from by rw [he1, if_pos (show n ≤ (l.length : Int) by omega)]]
   rw [hraw]
   clear hraw
   refine za rfl (ae.nil (Fin.aa (WX.seq (WX.seq (WX.region rfl (za rfl (ae.nil (Fin.aa (WX.block ?_)))))))))
   refine WX.loop (fun s : Nat × Option Addr × Nat × an × Option Addr × Nat => [(0, Ptr r 0), (1, .func (.func 90) #[Ptr r 0] #[]), (5, U n), (6, .slice s.2.1 s.1 s.2.2.1), (7, U (s.1 : Int))]) (fun s => (r, ⟨0, false, [.slice s.2.2.2.2.1 (l.drop s.1).length s.2.2.2.2.2, I e1]⟩) :: (s.2.2.2.1 ++ O)) (fun s => (s.1 : Int) ≤ n ∧ s.1 ≤ l.length ∧ (s.1 = 0 ∨ e1 = 0) ∧ Grow 1 s.2.1 s.1 s.2.2.1 ((l.take s.1).map B8) s.2.2.2.1 ∧ bK O 1 s.2.2.2.2.1 (l.drop s.1).length ((l.drop s.1).map B8) ∧ (s.2.2.2.2.1 = none → s.2.2.2.2.2 = 0)) (fun s => l.length - s.1) (0, none, 0, [], a1, c1) ⟨hu1.1, Nat.zero_le _, .inl rfl, .nil, hr1, hc1⟩ (fun s hs => hs.tl [0] 1) (fun s hs => ?_)
   obtain ⟨k, ao, co, G, a2, c2⟩ := s
   obtain ⟨g1, g2, g3, g4, g5, g6⟩ := hs
   simp only at g1 g2 g3 g4 g5 g6
   dsimp only
   refine WX.seq (WX.seq (WX.region rfl (zm rfl (zm rfl (zb rfl rfl rfl (zm rfl ?_))))))
   refine ae.split (d := 23) rfl (fun hg23 => ?_) (fun hg23 => ?_)
   · try simp only [aB] at hg23
     refine ae.move (Met.some rfl rfl rfl) rfl (ae.nilCheck (Met.some rfl rfl rfl) rfl ?_)
     first | refine ae.fieldAddr (Met.some rfl rfl rfl) rfl Tryz.underlying118 rfl cu rfl ?_ | refine ae.bQ (Met.some rfl rfl rfl) rfl Tryz.underlying118 rfl cu ?_
     first | refine ae.ld (Met.some rfl rfl rfl) rfl bX ?_ | refine ae.ba (Met.some rfl rfl rfl) rfl bX ?_
     refine ae.bin (Met.some rfl rfl rfl) rfl rfl rfl (ae.bC Met.none rfl rfl (ae.nil (Fin.aa ?_)))
     refine WX.cond rfl (fun hc1 => ?_) (fun hc1 => ?_)
     · try simp only [aB] at hc1
       refine WX.skip (Fin.aa (WX.seq (WX.block ?_)))
       have he0 : e1 = 0 := by omega
       subst he0
       have hn2 := hn1 rfl
       have hkl : k < l.length := by omega
       have hdc := iF hkl
       refine WX.region rfl (zm rfl (zm rfl ?_))
       refine ae.cl (O1 := _) Met.none rfl (ah Tryz.func90 (by decide +kernel)) rfl (fun _ h => h) (qe (G ++ O) r (l.drop k, 0) a2 c2 (by simp only [List.length_drop]; omega) g5.app g6) (fun v O' hp => ?_)
       obtain ⟨rfl, ⟨a3, c3, rfl, g7, g8⟩⟩ := hp
       rw [show aA (l.drop k, 0) = (nth l k, (l.drop (k + 1), 0)) from by rw [hdc]; rfl] at g7 ⊢
       have g7 := g7 O g5
       refine ae.buildSlice (c := [_]) Met.none rfl aQ ea dA (by decide) (by decide) rfl rfl rfl rfl (fun b35 => ?_)
       refine ae.mS [_, _] Met.none rfl rfl dQ aQ ea qt dA (Src.lit (cs := [_])) (fun a36 c36 G36 hG36 => ?_)
       refine za rfl (ae.nil (Fin.ag (Fin.aa (WX.region rfl (zm rfl (ae.bin Met.none rfl rfl (congrArg (fun n => some (U n)) (wrap_u64 (n := (k : Int) + 1) (by omega) (by omega))) (za rfl (ae.nil ?_))))))))
       refine Fin.aj (k + 1, a36, c36, G36, a3, c3) ⟨by simp only; omega, by simp only; omega, .inr rfl, ?_, g7, g8⟩ (by simp only; omega) (fun s hs => hs.tl [1] 2)
       simp only
       rw [bG hkl, List.map_append]
       exact hG36
     · try simp only [aB] at hc1
       refine WX.exit (Fin.aF (Fin.aN (Fin.aK rfl (Fin.aa (WX.seq (WX.seq (WX.region rfl (zm rfl (zn rfl ?_)))))))))
       first | refine ae.fieldAddr Met.none rfl Tryz.underlying118 rfl cu rfl ?_ | refine ae.bQ Met.none rfl Tryz.underlying118 rfl cu ?_
       first | refine ae.ld Met.none rfl bX ?_ | refine ae.ba Met.none rfl bX ?_
       refine zb rfl rfl rfl (ae.nil (Fin.aa ?_))
       refine WX.cond rfl (fun hc2 => ?_) (fun hc2 => ?_)
       · try simp only [aB] at hc2
         refine WX.seq (WX.region rfl (za rfl (ae.nil (Fin.aa (WX.ret (Fin.az ?_))))))
         first
         | (have hk0 : k = 0 := by omega
            subst hk0
            rw [if_neg hc2]
            rcases g4 with ⟨rfl, _, rfl, _, rfl⟩ | ⟨b, rfl, rfl, _⟩
            · exact Fin.result (O' := (r, ⟨0, false, [.slice a2 (l.drop 0).length c2, I e1]⟩) :: ([] ++ O)) (.inr rfl) rfl rfl (fun _ hs => hs) ⟨none, 0, [], rfl, .nil, a2, c2, rfl, g5, g6⟩
            · exact Fin.result (O' := (r, ⟨0, false, [.slice a2 (l.drop 0).length c2, I e1]⟩) :: ([] ++ O)) (.inr rfl) rfl rfl (fun _ hs => hs.tl [0] 2) ⟨none, 0, [], rfl, .nil, a2, c2, rfl, g5, g6⟩)
         | (have he0 : e1 = 0 := by omega
            subst he0
            rw [if_pos rfl]
            have hkn : n.toNat = k := by omega
            rw [hkn]
            have hlk : (l.take k).length = k := by rw [List.length_take]; omega
            exact Fin.result (O' := (r, ⟨0, false, [.slice a2 (l.drop k).length c2, I 0]⟩) :: (G ++ O)) (.inr rfl) rfl rfl (fun _ hs => hs) ⟨ao, co, G, by rw [hlk]; rfl, by rw [hlk]; exact g4, a2, c2, rfl, g5, g6⟩)
       · try simp only [aB] at hc2
         refine WX.skip (Fin.aa (WX.seq (WX.region rfl (zm rfl (za rfl (ae.nil (Fin.aa (WX.ret ?_))))))))
         first
         | (have hk0 : k = 0 := by omega
            subst hk0
            rw [if_neg hc2]
            rcases g4 with ⟨rfl, _, rfl, _, rfl⟩ | ⟨b, rfl, rfl, _⟩
            · exact Fin.result (O' := (r, ⟨0, false, [.slice a2 (l.drop 0).length c2, I e1]⟩) :: ([] ++ O)) (.inr rfl) rfl rfl (fun _ hs => hs) ⟨none, 0, [], rfl, .nil, a2, c2, rfl, g5, g6⟩
            · exact Fin.result (O' := (r, ⟨0, false, [.slice a2 (l.drop 0).length c2, I e1]⟩) :: ([] ++ O)) (.inr rfl) rfl rfl (fun _ hs => hs.tl [0] 2) ⟨none, 0, [], rfl, .nil, a2, c2, rfl, g5, g6⟩)
         | (have he0 : e1 = 0 := by omega
            subst he0
            rw [if_pos rfl]
            have hkn : n.toNat = k := by omega
            rw [hkn]
            have hlk : (l.take k).length = k := by rw [List.length_take]; omega
            exact Fin.result (O' := (r, ⟨0, false, [.slice a2 (l.drop k).length c2, I 0]⟩) :: (G ++ O)) (.inr rfl) rfl rfl (fun _ hs => hs) ⟨ao, co, G, by rw [hlk]; rfl, by rw [hlk]; exact g4, a2, c2, rfl, g5, g6⟩)
   · try simp only [aB] at hg23
     refine zs 3 23 rfl rfl rfl (zs 3 23 rfl rfl rfl (zs 3 23 rfl rfl rfl (zs 3 23 rfl rfl rfl (zs 3 23 rfl rfl rfl (ae.bd Met.none rfl rfl (ae.nil (Fin.aa ?_)))))))
     refine WX.cond rfl (fun hc1 => nomatch hc1) (fun hc1 => ?_)
     refine WX.exit (Fin.aF (Fin.aN (Fin.aK rfl (Fin.aa (WX.seq (WX.seq (WX.region rfl (zm rfl (zn rfl ?_)))))))))
     first | refine ae.fieldAddr Met.none rfl Tryz.underlying118 rfl cu rfl ?_ | refine ae.bQ Met.none rfl Tryz.underlying118 rfl cu ?_
     first | refine ae.ld Met.none rfl bX ?_ | refine ae.ba Met.none rfl bX ?_
     refine zb rfl rfl rfl (ae.nil (Fin.aa ?_))
     refine WX.cond rfl (fun hc2 => ?_) (fun hc2 => ?_)
     · try simp only [aB] at hc2
       refine WX.seq (WX.region rfl (za rfl (ae.nil (Fin.aa (WX.ret (Fin.az ?_))))))
       first
       | (have hk0 : k = 0 := by omega
          subst hk0
          rw [if_neg hc2]
          rcases g4 with ⟨rfl, _, rfl, _, rfl⟩ | ⟨b, rfl, rfl, _⟩
          · exact Fin.result (O' := (r, ⟨0, false, [.slice a2 (l.drop 0).length c2, I e1]⟩) :: ([] ++ O)) (.inr rfl) rfl rfl (fun _ hs => hs) ⟨none, 0, [], rfl, .nil, a2, c2, rfl, g5, g6⟩
          · exact Fin.result (O' := (r, ⟨0, false, [.slice a2 (l.drop 0).length c2, I e1]⟩) :: ([] ++ O)) (.inr rfl) rfl rfl (fun _ hs => hs.tl [0] 2) ⟨none, 0, [], rfl, .nil, a2, c2, rfl, g5, g6⟩)
       | (have he0 : e1 = 0 := by omega
          subst he0
          rw [if_pos rfl]
          have hkn : n.toNat = k := by omega
          rw [hkn]
          have hlk : (l.take k).length = k := by rw [List.length_take]; omega
          exact Fin.result (O' := (r, ⟨0, false, [.slice a2 (l.drop k).length c2, I 0]⟩) :: (G ++ O)) (.inr rfl) rfl rfl (fun _ hs => hs) ⟨ao, co, G, by rw [hlk]; rfl, by rw [hlk]; exact g4, a2, c2, rfl, g5, g6⟩)
     · try simp only [aB] at hc2
       refine WX.skip (Fin.aa (WX.seq (WX.region rfl (zm rfl (za rfl (ae.nil (Fin.aa (WX.ret ?_))))))))
       first
       | (have hk0 : k = 0 := by omega
          subst hk0
          rw [if_neg hc2]
          rcases g4 with ⟨rfl, _, rfl, _, rfl⟩ | ⟨b, rfl, rfl, _⟩
          · exact Fin.result (O' := (r, ⟨0, false, [.slice a2 (l.drop 0).length c2, I e1]⟩) :: ([] ++ O)) (.inr rfl) rfl rfl (fun _ hs => hs) ⟨none, 0, [], rfl, .nil, a2, c2, rfl, g5, g6⟩
          · exact Fin.result (O' := (r, ⟨0, false, [.slice a2 (l.drop 0).length c2, I e1]⟩) :: ([] ++ O)) (.inr rfl) rfl rfl (fun _ hs => hs.tl [0] 2) ⟨none, 0, [], rfl, .nil, a2, c2, rfl, g5, g6⟩)
       | (have he0 : e1 = 0 := by omega
          subst he0
          rw [if_pos rfl]
          have hkn : n.toNat = k := by omega
          rw [hkn]
          have hlk : (l.take k).length = k := by rw [List.length_take]; omega
          exact Fin.result (O' := (r, ⟨0, false, [.slice a2 (l.drop k).length c2, I 0]⟩) :: (G ++ O)) (.inr rfl) rfl rfl (fun _ hs => hs) ⟨ao, co, G, by rw [hlk]; rfl, by rw [hlk]; exact g4, a2, c2, rfl, g5, g6⟩)
theorem vY (O : an) (r : Nat) (q0 : lG) (a0 : Option Addr) (c0 : Nat) (hB : Bytes q0.1) (hlen : q0.1.length ≤ 1000000000000) (hr : bK O 1 a0 q0.1.length (q0.1.map B8)) (hc : a0 = none → c0 = 0) :
  Spec Tryz.prog false 78 #[Ptr r 0] ((r, ⟨0, false, [.slice a0 q0.1.length c0, I q0.2]⟩) :: O) fun v O' => ∃ ao co G, v = .slice ao (fI q0).1.length co ∧ Grow 1 ao (fI q0).1.length co ((fI q0).1.map B8) G ∧ y8 O r (fI q0).2 G O' := by
 refine Spec.enter (args := [_]) (m := 7) Tryz.func78 rfl rfl (by decide +kernel) fun h0 => ?_
 refine WX.seq (WX.region rfl (za rfl (zR rfl (zm rfl (zm rfl ?_)))))
 refine ae.makeFunc Met.none rfl rfl ?_
 refine ae.cl (O1 := _) Met.none rfl (ah Tryz.func92 (by decide +kernel)) rfl (fun _ h => h) (wS O r q0 a0 c0 hB hlen hr hc) (fun v O' hp => ?_)
 obtain ⟨ao, co, G, rfl, hG, a1, c1, rfl, hr1, hc1⟩ := hp
 refine za rfl (ae.nil (Fin.aa (WX.ret ?_)))
 exact Fin.result (O' := (r, ⟨0, false, [.slice a1 (fI q0).2.1.length c1, I (fI q0).2.2]⟩) :: (G ++ O)) (.inr rfl) rfl rfl (fun _ hs => hs) ⟨ao, co, G, rfl, hG, a1, c1, rfl, hr1, hc1⟩
theorem vT (O : an) (z : Int) : Spec Tryz.prog true 93 #[U z] O fun v O' => ∃ n, v = I n ∧ O' = O := by
 refine Spec.enter (args := [_]) (m := 11) Tryz.func93 rfl rfl (by decide +kernel) fun h0 => ?_
 refine WX.seq (WX.region rfl (za rfl (zR rfl (zm rfl ?_))))
 refine ae.shr Met.none rfl rfl (by omega) ?_
 refine ae.conv Met.none rfl Tryz.underlying78 Tryz.underlying3 rfl ?_
 refine zm rfl (zb rfl rfl rfl ?_)
 refine ae.conv Met.none rfl Tryz.underlying78 Tryz.underlying3 rfl ?_
 refine ae.neg Met.none rfl rfl ?_
 refine zb rfl rfl rfl (za rfl (ae.nil (Fin.aa (WX.ret ?_))))
 exact Fin.result (O' := O) (.inr rfl) rfl rfl au ⟨_, rfl, rfl⟩
theorem xR (O : an) (r : Nat) (q0 : lG) (a0 : Option Addr) (c0 : Nat) (hB : Bytes q0.1) (hlen : q0.1.length ≤ 1000000000000) (hr : bK O 1 a0 q0.1.length (q0.1.map B8)) (hc : a0 = none → c0 = 0) :
  Spec Tryz.prog false 79 #[Ptr r 0] ((r, ⟨0, false, [.slice a0 q0.1.length c0, I q0.2]⟩) :: O) fun v O' => (∃ n, v = I n) ∧ zc O r (bO 0 0 q0).2 O' := by
 refine Spec.enter (args := [_]) (m := 6) Tryz.func79 rfl rfl (by decide +kernel) fun h0 => ?_
 refine WX.seq (WX.region rfl (za rfl (zR rfl (zm rfl ?_))))
 refine ae.cl (O1 := _) Met.none rfl (ah Tryz.func77 (by decide +kernel)) rfl (fun _ h => h) (qp O r q0 a0 c0 hB hlen hr hc) (fun v O' hp => ?_)
 obtain ⟨rfl, ⟨a1, c1, rfl, hr1, hc1⟩⟩ := hp
 refine ae.cl (O1 := _) Met.none rfl (ah Tryz.func93 (by decide +kernel)) rfl (fun _ h => h) (vT _ _) (fun v O' hp => ?_)
 obtain ⟨n, rfl, rfl⟩ := hp
 refine za rfl (ae.nil (Fin.aa (WX.ret ?_)))
 exact Fin.result (O' := (r, ⟨0, false, [.slice a1 (bO 0 0 q0).2.1.length c1, I (bO 0 0 q0).2.2]⟩) :: O) (.inr rfl) rfl rfl (fun _ hs => hs) ⟨⟨n, rfl⟩, a1, c1, rfl, hr1, hc1⟩
end Go.Proofs.YthekokdpplobhaaGreat.Eng
