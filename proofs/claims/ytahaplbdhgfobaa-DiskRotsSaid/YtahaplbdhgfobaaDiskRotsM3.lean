/- Short rules, continued: appends to a row of one's own, the first elements of a row; contracts that leave all as it was. | From a contract over abstract memory to the call in the world: rows that came in. | The library's sort, its collecting of an iterator's values, and the iterator of a map's keys, at this program's numbers. Own work, printed by a program of this work; no condition. | Loops over functions: the rules. | Bytes, strings and unsigned numbers: the rules. | Maps, fields of values, deferred calls, functions shown by hand: the rules. | Loops over maps, in functions that are shown by hand: whatever comes next, the round is the abstract machine's. | What this program's types are to the abstract machine. Printed by a program of this work; no condition. | What a disk uses: the sum over its files, in whatever order they come. | All bytes of a disk's files become durable, in whatever order. | Numbers, slices of bytes, copies. | Disks in plain lists. | Small functions of disks: exists, step, set, New, Read. | Used, harden, Sync, Truncate. | The numbers of a disk's files, in order. | A crash in plain lists; the numbers of the files as a contract. | What a crash keeps of the files, in plain lists. | A crash, walked. | Copies of maps: the library's maps.Clone at this program's numbers, and as a step of the engine. Own work; no condition. -/
import Derived.Test.YtahaplbdhgfobaaDiskRotsM1
import Derived.Test.YtahaplbdhgfobaaDiskRotsM2
import Derived.WalkKit
import Derived.ProofKit
import Derived.OpenShut
import Derived.ShutString
import Derived.ChangeOld
import Derived.Below
import Derived.SizedLaws
import Derived.ChangeSlices
import Derived.Carry
import Derived.Shelf.SlIterI.Sorted
import Derived.Shelf.SortM.Plain
import Derived.Shelf.SortM.SortNone
import Derived.Test.YtahaplbdhgfobaaChecked
import Derived.Laws.Strings
import Derived.Maps.RangeRun
import Derived.Shelf.SlMaps.Clone
set_option linter.unusedVariables false
set_option linter.unusedSimpArgs false
namespace Go.Proofs.Ytahaplbdhgfobaa.Eng
variable {P : Program} {x : Cx} {L L' : Tmps} {O O' : Objs} {ops : Array Oper} {mq : Mk} {i : Nat} {l : List Oper} {K : ASt → Prop}
  {t u : TypeId} {p : String} {af : Array Edge} {gd : Option (Nat × Bool)} {d : Tmp}
theorem WXL.ap {y z : Operand} {ty tz e : TypeId} {j b off n cp sz by_ m : Nat} {c cs c' : List Value} {v zv : Value} (hw : Met x L ops gd) (hy : evL L y = some (Row b off n cp)) (hz : evL L z = some v) (hr : isRowT P tz = true)
  (he : elemOf P ty = some e) (hs : szOf P e = some sz) (hby : byOf P e = some by_) (hzv : zeroOf P e = some zv) (hsrc : Src O sz v m cs)
  {OO : Nat → Objs} (h : ∀ b, WXL P x ops mq (i + 1) l ((d, Row b 0 (n + m) (n + m)) :: L) (OO b) K)
  (hj : O[j]? = some (b, ⟨sz, false, c⟩) := by first | exact ob_ 0 rfl | exact ob_ 1 rfl | exact ob_ 2 rfl | exact ob_ 3 rfl | exact ob_ 4 rfl | exact ob_ 5 rfl | exact ob_ 6 rfl | exact ob_ 7 rfl)
  (hl : off + n * sz = c.length := by simp) (hf : (n + m) * by_ ≤ 140737488355328 := by omega) (hc : c.drop off ++ cs = c' := by exact rfl)
  (hcl : Clear O j mq.Z := by repeat (first | exact Clear.nil | refine Clear.cons 0 rfl rfl ?_ | refine Clear.cons 1 rfl rfl ?_ | refine Clear.cons 2 rfl rfl ?_ | refine Clear.cons 3 rfl rfl ?_ | refine Clear.cons 4 rfl rfl ?_))
  (hO : ∀ b, O.set j (b, ⟨sz, false, c'⟩) = OO b := by intro b; simp only [List.cons_append, List.nil_append, List.set_cons_zero, List.set_cons_succ]; exact rfl)
  (hq : x.q = false := by exact rfl) (h3 : zv.cells.size = sz := by exact rfl) (h1 : 0 < sz := by decide) (h2 : 0 < by_ := by decide) :
  WXL P x ops mq i ({ dst := some d, op := .call { callee := .builtin .append, args := #[y, z], argTypes := #[ty, tz] }, type := t, pos := p, after := af, guard := gd } :: l) L O K :=
 WXL.append j hw hq hy hz hr hj hsrc he hs hby hzv h3 hl hf h1 h2 hc hcl hO h
theorem WXL.missU {j e : Nat} {want : Bool} {dst : Tmp} {op : Op} (hj : (ops[j]?).bind (·.dst) = some e) (hd : getT L e = some undef)
  (h : WXL P x ops mq (i + 1) l ((dst, undef) :: L) O K) : WXL P x ops mq i ({ dst := some dst, op := op, type := t, pos := p, after := af, guard := some (j, want) } :: l) L O K := by
 intro hdr hq s hs hz
 obtain ⟨ho, hd'⟩ := drop_head hdr
 obtain ⟨s', g1, g2, g3⟩ := h hd' hq (s.put (some dst) undef s.h) ⟨hs.m, hs.t.put _ _ _, hs.sat, hs.old⟩ hz
 refine ⟨s', .opskip ho ?_ g1, by rw [g2, put_m], g3⟩
 unfold wantedA Region.wanted
 simp only [hj, hs.t e _ hd]
 rfl
theorem nilA {o : BinOp} {u : TypeId} {y z : Operand} {w : TypeId} {s : ASt} {a b : Value} {r : Bool} (ho : (o = .eql ∧ r = false) ∨ (o = .neq ∧ r = true)) (hy : s.ev y = a) (hz : s.ev z = b) (hn : (plain1 a && plain1 b) = false) (hq : nilEq P u a b = true) :
  aop P { dst := some d, op := .binOp o u y z w, type := t, pos := p, after := af, guard := gd } s = some (.bool r, s.h) := by
 have hall : (#[y, z].all fun x => plain1 (s.ev x)) = false := by simp only [← Array.all_toList, List.all_cons, List.all_nil, hy, hz, Bool.and_true]; exact hn
 unfold aop
 simp only
 unfold scalarA
 simp only [Op.operands, hall, Bool.false_eq_true, if_false]
 unfold nilCmp
 rcases ho with ⟨rfl, rfl⟩ | ⟨rfl, rfl⟩ <;> simp only [hy, hz, hq, if_true, Option.map_some]
theorem nilP {o : BinOp} {y z : Operand} {a b : Value} {r : Bool} (ho : o = .eql ∨ o = .neq) (hp : (∃ n c m k, a = .slice none n c ∧ b = .slice none m k ∧ ∃ e, P.underlying u = some (.slice e)) ∨ (a = .pointer none ∧ b = .pointer none ∧ ∃ e, P.underlying u = some (.pointer e))) (hr : r = decide (o = .eql)) :
  purely P (do eqGuard o u y z a b; binOp o u a b) = some (.bool r) := by
 subst hr
 have heq : ∀ x y : Value, ((∃ n c m k, x = .slice none n c ∧ y = .slice none m k ∧ ∃ e, P.underlying u = some (.slice e)) ∨ (x = .pointer none ∧ y = .pointer none ∧ ∃ e, P.underlying u = some (.pointer e))) → purely P (Op.equalIn (9999 + 1) u x y) = some true := by
  intro x y hx
  rcases hx with ⟨n, c, m, k, rfl, rfl, e, hu⟩ | ⟨rfl, rfl, e, hu⟩ <;> (unfold Op.equalIn; rw [purely_bind, underlying_of hu]; rfl)
 have h := heq a b hp
 rcases hp with ⟨n, c, m, k, rfl, rfl, e, hu⟩ | ⟨rfl, rfl, e, hu⟩
 · rcases ho with rfl | rfl
   · show purely P (Op.equalIn (9999 + 1) u _ _ >>= fun r => (pure (Value.bool r) : Sem Value)) = _
     rw [purely_bind, h]; rfl
   · show purely P (Op.equalIn (9999 + 1) u _ _ >>= fun r => (pure (Value.bool (!r)) : Sem Value)) = _
     rw [purely_bind, h]; rfl
 · rcases ho with rfl | rfl
   · show purely P (Op.equalIn (9999 + 1) u _ _ >>= fun r => (pure (Value.bool r) : Sem Value)) = _
     rw [purely_bind, h]; rfl
   · show purely P (Op.equalIn (9999 + 1) u _ _ >>= fun r => (pure (Value.bool (!r)) : Sem Value)) = _
     rw [purely_bind, h]; rfl
theorem WXL.eqNil {y z : Operand} {a : Option Addr} {n c m k : Nat} {w e : TypeId} (hw : Met x L ops gd) (hy : evL L y = some (.slice a n c)) (hz : evL L z = some (.slice none m k)) (hu : P.underlying u = some (.slice e)) (h : WXL P x ops mq (i + 1) l ((d, .bool a.isNone) :: L) O K) :
  WXL P x ops mq i ({ dst := some d, op := .binOp .eql u y z w, type := t, pos := p, after := af, guard := gd } :: l) L O K := by
 cases a with
 | none => exact WXL.val (.inl rfl) hw (fun s hs => scalar2 (hs.t.ev hy) (hs.t.ev hz) rfl rfl (nilP (.inl rfl) (.inl ⟨_, _, _, _, rfl, rfl, e, hu⟩) rfl) rfl) h
 | some a => exact WXL.val (.inl rfl) hw (fun s hs => nilA (.inl ⟨rfl, rfl⟩) (hs.t.ev hy) (hs.t.ev hz) rfl (by unfold nilEq; rw [hu])) h
theorem WXL.eqNilP {y z : Operand} {a : Option Addr} {w e : TypeId} (hw : Met x L ops gd) (hy : evL L y = some (.pointer a)) (hz : evL L z = some (.pointer none)) (hu : P.underlying u = some (.pointer e)) (h : WXL P x ops mq (i + 1) l ((d, .bool a.isNone) :: L) O K) :
  WXL P x ops mq i ({ dst := some d, op := .binOp .eql u y z w, type := t, pos := p, after := af, guard := gd } :: l) L O K := by
 cases a with
 | none => exact WXL.val (.inl rfl) hw (fun s hs => scalar2 (hs.t.ev hy) (hs.t.ev hz) rfl rfl (nilP (.inl rfl) (.inr ⟨rfl, rfl, e, hu⟩) rfl) rfl) h
 | some a => exact WXL.val (.inl rfl) hw (fun s hs => nilA (.inl ⟨rfl, rfl⟩) (hs.t.ev hy) (hs.t.ev hz) rfl (by unfold nilEq; rw [hu])) h
def Rowy (O : Objs) (sz : Nat) (a : Option Addr) (n : Nat) (cs : List Value) : Prop :=
 (a = none ∧ n = 0 ∧ cs = []) ∨ ∃ b off y, a = some ⟨b, off, none⟩ ∧ Knows O b y ∧ y.sz = sz ∧ off + n * sz ≤ y.c.length ∧ (y.c.drop off).take (n * sz) = cs
theorem Rowy.src {sz : Nat} {a : Option Addr} {n : Nat} {cs : List Value} (h : Rowy O sz a n cs) {c : Nat} (hc : a = none → c = 0) : Src O sz (.slice a n c) n cs := by
 rcases h with ⟨rfl, rfl, rfl⟩ | ⟨b, off, y, rfl, hk, hs, hl, hcs⟩
 · rw [hc rfl]; exact Src.nil
 · exact Src.of hk hl hcs
theorem Rowy.pre {sz : Nat} {a : Option Addr} {n m : Nat} {cs : List Value} (h : Rowy O sz a n cs) (hm : m ≤ n) : Rowy O sz a m (cs.take (m * sz)) := by
 have hmn : m * sz ≤ n * sz := Nat.mul_le_mul_right _ hm
 rcases h with ⟨rfl, rfl, rfl⟩ | ⟨b, off, y, rfl, hk, hs, hl, hcs⟩
 · exact .inl ⟨rfl, by omega, by simp⟩
 · refine .inr ⟨b, off, y, rfl, hk, hs, by omega, ?_⟩
   rw [← hcs, List.take_take, Nat.min_eq_left hmn]
theorem Grow.rowy {sz : Nat} {a : Option Addr} {n c : Nat} {cs : List Value} {G R : Objs} (hg : Grow sz a n c cs G) : Rowy (G ++ R) sz a n cs := by
 rcases hg with ⟨rfl, rfl, rfl, rfl, rfl⟩ | ⟨b, rfl, rfl, hl⟩
 · exact .inl ⟨rfl, rfl, rfl⟩
 · refine .inr ⟨b, 0, ⟨sz, false, cs⟩, rfl, Knows.at 0 rfl, rfl, ?_, ?_⟩
   · show 0 + n * sz ≤ cs.length
     omega
   · show (cs.drop 0).take (n * sz) = cs
     rw [List.drop_zero, List.take_of_length_le (by omega)]
theorem Grow.nil0 {sz : Nat} {a : Option Addr} {n c : Nat} {cs : List Value} {G : Objs} (hg : Grow sz a n c cs G) (h : a = none) : c = 0 ∧ n = 0 := by
 rcases hg with ⟨_, q1, q2, _⟩ | ⟨b, q, _⟩
 · exact ⟨q2, q1⟩
 · rw [h] at q; cases q
theorem Rowy.nil0 {sz : Nat} {a : Option Addr} {n : Nat} {cs : List Value} (hr : Rowy O sz a n cs) (h : a = none) : n = 0 := by
 rcases hr with ⟨_, q1, _⟩ | ⟨b, off, y, q, _⟩
 · exact q1
 · rw [h] at q; cases q
theorem Rowy.cons {q : Nat × Ent} {sz n : Nat} {a : Option Addr} {cs : List Value} (h : Rowy O sz a n cs) : Rowy (q :: O) sz a n cs := by
 rcases h with h | ⟨b, off, y, h1, h2, h3⟩
 · exact .inl h
 · exact .inr ⟨b, off, y, h1, h2.cons, h3⟩
theorem Rowy.app {N : Objs} {sz n : Nat} {a : Option Addr} {cs : List Value} (h : Rowy O sz a n cs) : Rowy (N ++ O) sz a n cs := by
 rcases h with h | ⟨b, off, y, h1, h2, h3⟩
 · exact .inl h
 · exact .inr ⟨b, off, y, h1, Knows.app h2, h3⟩
theorem WXL.pre {y z : Operand} {ty e : TypeId} {a : Option Addr} {n c sz m : Nat} {cs : List Value} {k : IntKind} {j : Int} (hw : Met x L ops gd) (hy : evL L y = some (.slice a n c)) (hz : evL L z = some (.int k j))
  (he : elemOf P ty = some e) (hs : szOf P e = some sz) (hr : Rowy O sz a n cs) (hc : a = none → c = 0) (h : WXL P x ops mq (i + 1) l ((d, .slice a m m) :: L) O K) (hj : j = m := by omega) (hm : m ≤ n := by omega) :
  WXL P x ops mq i ({ dst := some d, op := .slice ty y none (some z) none, type := t, pos := p, after := af, guard := gd } :: l) L O K :=
 WXL.val (.inl rfl) hw (fun s hst => by
  subst hj
  have hb : boundA (some (Value.int k (m : Int))) n = some m := by simp [boundA]
  rcases hr with ⟨rfl, rfl, rfl⟩ | ⟨b, off, q, rfl, hk, hq, hl, hcs⟩
  · have hm0 : m = 0 := by omega
    subst hm0
    have hc0 := hc rfl
    subst hc0
    simp only [aop, hst.t.ev hy, Option.map_none, Option.map_some, hst.t.ev hz, sliceA, he, Option.bind_some, hs, hb]
    rfl
  · obtain ⟨f, kk, ho⟩ := hk _ hst.sat
    simp only [aop, hst.t.ev hy, Option.map_none, Option.map_some, hst.t.ev hz, sliceA, he, Option.bind_some, hs, hb, ho]
    rw [show boundA none 0 = some 0 from rfl]
    simp only [Nat.zero_le, hm, hq, and_self, if_true, Nat.zero_mul, Nat.add_zero, Nat.sub_zero, Option.map_some]) h
theorem WXL.mid {y z z2 : Operand} {ty e : TypeId} {a : Option Addr} {n c sz m m2 : Nat} {k k2 : IntKind} {j j2 : Int} (hw : Met x L ops gd) (hy : evL L y = some (.slice a n c)) (hz : evL L z = some (.int k j)) (hz2 : evL L z2 = some (.int k2 j2))
  (he : elemOf P ty = some e) (hs : szOf P e = some sz) {b off : Nat} {q : Ent} (ha : a = some ⟨b, off, none⟩) (hk : Knows O b q) (hq : q.sz = sz) (h : WXL P x ops mq (i + 1) l ((d, .slice (some ⟨b, off + m * sz, none⟩) (m2 - m) (m2 - m)) :: L) O K)
  (hj : j = m := by omega) (hj2 : j2 = m2 := by omega) (hm : m ≤ m2 := by omega) (hm2 : m2 ≤ n := by omega) :
  WXL P x ops mq i ({ dst := some d, op := .slice ty y (some z) (some z2) none, type := t, pos := p, after := af, guard := gd } :: l) L O K :=
 WXL.val (.inl rfl) hw (fun s hst => by
  subst hj hj2 ha
  have hb : boundA (some (Value.int k (m : Int))) 0 = some m := by simp [boundA]
  have hb2 : boundA (some (Value.int k2 (m2 : Int))) n = some m2 := by simp [boundA]
  obtain ⟨f, kk, ho⟩ := hk _ hst.sat
  simp only [aop, hst.t.ev hy, Option.map_some, hst.t.ev hz, hst.t.ev hz2, sliceA, he, Option.bind_some, hs, hb, hb2, ho]
  simp only [hm, hm2, hq, and_self, if_true, Option.map_some]) h
theorem Spec.frame0 {f : FuncId} {args : Array Value} {Post : Value → Prop} (hf : Spec P false f args (roO O) fun v O' => Post v ∧ O' = roO O) : Spec P true f args O fun v O' => Post v ∧ O' = O :=
 (Spec.frame (Post := fun v N => Post v ∧ N = []) (hf.mono fun v O' ⟨h1, h2⟩ => ⟨[], ⟨h1, rfl⟩, fun p hp => (by simp at hp), h2⟩)).mono fun v O' ⟨N, ⟨h1, h2⟩, h3⟩ => ⟨h1, by rw [h3, h2]; rfl⟩
end Go.Proofs.Ytahaplbdhgfobaa.Eng
set_option linter.unusedVariables false
set_option linter.unusedSimpArgs false
namespace Go.Proofs.Ytahaplbdhgfobaa.Eng
open Go.ChangeShapes Go.WideShapes Go.RowKit
variable {P : Program}
structure Inp where
 k : IntKind
 x : Option Addr
 len : Nat
 cap : Nat
 zs : List Int
structure InpOk (w : World) (n : Inp) : Prop where
 nil : n.x = none → n.len = 0 ∧ n.cap = 0 ∧ n.zs = []
 row : ∀ x, n.x = some x → x.spot = none ∧ x.block < w.heap.size ∧ n.len ≤ n.cap ∧ n.zs.length = n.len ∧ ∀ (i : Nat) z, n.zs[i]? = some z → w.cell? (x.add i) = some (.int n.k z)
def Inp.cs (n : Inp) : List Value := n.zs.map (Value.int n.k)
def Inp.obj (i : Nat) (n : Inp) : AObj := match n.x with
 | none => .dead
 | some _ => .cells 1 true i none 0 n.cs
def Inp.lay (n : Inp) : Option Ext := n.x.map fun x => ⟨x.block, x.off, n.cap, 1, false⟩
def heapIn (ins : List Inp) : AHeap := ⟨ins.length, fun b => match ins[b]? with
 | some n => n.obj b
 | none => .dead⟩
def layIn (ins : List Inp) : Lay := fun b => (ins[b]?).bind Inp.lay
def Inp.val (i : Nat) (n : Inp) : Value := .slice (n.x.map fun _ => ⟨i, 0, none⟩) n.len n.cap
def Inp.real (n : Inp) : Value := .slice n.x n.len n.cap
theorem heapIn_cells {ins : List Inp} {b sz ro f st k c} (h : (heapIn ins).o b = .cells sz ro f st k c) : ∃ n x, ins[b]? = some n ∧ n.x = some x ∧ sz = 1 ∧ ro = true ∧ f = b ∧ st = none ∧ k = 0 ∧ c = n.cs := by
 have h' : (match ins[b]? with | some n => n.obj b | none => AObj.dead) = .cells sz ro f st k c := h
 cases hn : ins[b]? with
 | none => rw [hn] at h'; cases h'
 | some n =>
  rw [hn] at h'
  simp only [Inp.obj] at h'
  cases hx : n.x with
  | none => rw [hx] at h'; cases h'
  | some x =>
   rw [hx] at h'
   simp only [AObj.cells.injEq] at h'
   obtain ⟨h1, h2, h3, h4, h5, h6⟩ := h'
   exact ⟨n, x, rfl, hx, h1.symm, h2.symm, h3.symm, h4.symm, h5.symm, h6.symm⟩
theorem layIn_some {ins : List Inp} {b : Nat} {e : Ext} (h : layIn ins b = some e) : ∃ n x, ins[b]? = some n ∧ n.x = some x ∧ e = ⟨x.block, x.off, n.cap, 1, false⟩ := by
 unfold layIn Inp.lay at h
 cases hn : ins[b]? with
 | none => rw [hn] at h; cases h
 | some n =>
  rw [hn] at h
  simp only [Option.bind_some] at h
  cases hx : n.x with
  | none => rw [hx] at h; cases h
  | some x => rw [hx] at h; exact ⟨n, x, rfl, hx, (Option.some.inj h).symm⟩
theorem heapIn_wf (ins : List Inp) : WF (heapIn ins) := by
 refine ⟨fun b sz ro f m k c h => ?_, fun b sz ro f st k c h => ?_, fun y z f sz1 ro1 st1 k1 c1 sz2 ro2 k2 c2 h1 h2 => ?_, fun b hb => ?_⟩
 · obtain ⟨n, x, _, _, _, _, _, e, _⟩ := heapIn_cells h
   cases e
 · obtain ⟨n, x, _, _, _, _, e, _⟩ := heapIn_cells h
   exact Nat.le_of_eq e
 · obtain ⟨n, x, _, _, _, _, e, _⟩ := heapIn_cells h1
   obtain ⟨n', x', _, _, _, _, e', _⟩ := heapIn_cells h2
   exact fun _ => Nat.le_of_eq (e.symm.trans e')
 · show (match ins[b]? with | some n => n.obj b | none => AObj.dead) = .dead
   rw [List.getElem?_eq_none hb]
theorem heapIn_rel {ins : List Inp} {w : World} (hok : ∀ n ∈ ins, InpOk w n) : HRel w.heap.size (layIn ins) (heapIn ins) w := by
 have hin : ∀ {b n}, ins[b]? = some n → InpOk w n := fun h => hok _ (List.mem_of_getElem? h)
 have hw := heapIn_wf ins
 refine ⟨fun b e h => ?_, fun b e h => ?_, fun b e sz ro f st k c h ho => ?_, fun b e c i v h _ hc hv => ?_, fun b e sz f st k c i h ho => ?_, fun b1 e1 b2 e2 sz1 ro1 f1 st1 k1 c1 sz2 f2 st2 k2 c2 _ _ _ ho => ?_, fun b1 e1 b2 e2 f sz1 ro1 st1 k1 c1 sz2 ro2 st2 k2 c2 _ _ o1 o2 hlt => ?_, hw.wf, hw.fam, hw.uniq, hw.out, fun b e sz ro f st k c h hmp _ => by
  obtain ⟨n, x, hn, hx, rfl⟩ := layIn_some h
  cases hmp⟩
 · obtain ⟨n, x, hn, _⟩ := layIn_some h
   exact (List.getElem?_eq_some_iff.1 hn).1
 · obtain ⟨n, x, hn, hx, rfl⟩ := layIn_some h
   exact ((hin hn).row x hx).2.1
 · obtain ⟨n, x, hn, hx, rfl⟩ := layIn_some h
   obtain ⟨n', x', hn', hx', rfl, rfl, _, _, _, rfl⟩ := heapIn_cells ho
   rw [hn] at hn'
   obtain rfl := Option.some.inj hn'
   obtain ⟨r1, r2, r3, r4, r5⟩ := (hin hn).row x hx
   refine ⟨rfl, fun _ => ?_, (fun q => nomatch q), fun _ y hy => ?_⟩
   · show n.cs.length ≤ n.cap
     unfold Inp.cs
     rw [List.length_map]
     omega
   · obtain ⟨z, _, rfl⟩ := List.mem_map.1 hy
     rfl
 · obtain ⟨n, x, hn, hx, rfl⟩ := layIn_some h
   obtain ⟨r1, r2, r3, r4, r5⟩ := (hin hn).row x hx
   have ho : (heapIn ins).o b = .cells 1 true b none 0 n.cs := by
    show (match ins[b]? with | some n => n.obj b | none => AObj.dead) = _
    rw [hn]
    simp only [Inp.obj, hx]
   unfold AHeap.rd at hc
   rw [ho] at hc
   obtain rfl := Option.some.inj hc
   unfold Inp.cs at hv
   rw [List.getElem?_map] at hv
   obtain ⟨z, hz, rfl⟩ := Option.map_eq_some_iff.1 hv
   refine ⟨_, ?_, .atom rfl⟩
   have := r5 i z hz
   rw [← this]
   congr 1
   obtain ⟨B, o, sp⟩ := x
   simp only at r1
   subst r1
   exact (addr_add B o i).symm
 · obtain ⟨_, _, _, _, _, e, _⟩ := heapIn_cells ho
   cases e
 · obtain ⟨_, _, _, _, _, e, _⟩ := heapIn_cells ho
   cases e
 · obtain ⟨_, _, _, _, _, _, e, _⟩ := heapIn_cells o1
   obtain ⟨_, _, _, _, _, _, e', _⟩ := heapIn_cells o2
   omega
def objsFrom : Nat → List Inp → Objs
 | _, [] => []
 | i, n :: r => match n.x with
   | none => objsFrom (i + 1) r
   | some _ => (i, ⟨1, true, n.cs⟩) :: objsFrom (i + 1) r
theorem objsFrom_mem : ∀ {ins : List Inp} {i : Nat} {p : Nat × Ent}, p ∈ objsFrom i ins → ∃ j n x, ins[j]? = some n ∧ n.x = some x ∧ p = (i + j, ⟨1, true, n.cs⟩)
 | n :: r, i, p, h => by
  unfold objsFrom at h
  cases hx : n.x with
  | none =>
   rw [hx] at h
   obtain ⟨j, m, x, h1, h2, h3⟩ := objsFrom_mem h
   exact ⟨j + 1, m, x, h1, h2, by rw [h3]; congr 1; omega⟩
  | some y =>
   rw [hx] at h
   rcases List.mem_cons.1 h with h | h
   · exact ⟨0, n, y, rfl, hx, h⟩
   · obtain ⟨j, m, x, h1, h2, h3⟩ := objsFrom_mem h
     exact ⟨j + 1, m, x, h1, h2, by rw [h3]; congr 1; omega⟩
theorem mem_objsFrom : ∀ {ins : List Inp} {i j : Nat} {n : Inp} {x : Addr}, ins[j]? = some n → n.x = some x → (i + j, (⟨1, true, n.cs⟩ : Ent)) ∈ objsFrom i ins
 | m :: r, i, 0, n, x, h1, h2 => by
  obtain rfl := Option.some.inj h1
  unfold objsFrom
  rw [h2]
  exact List.mem_cons_self ..
 | m :: r, i, j + 1, n, x, h1, h2 => by
  have := mem_objsFrom (i := i + 1) (j := j) (ins := r) h1 h2
  rw [show i + 1 + j = i + (j + 1) by omega] at this
  unfold objsFrom
  cases m.x with
  | none => exact this
  | some y => exact List.mem_cons_of_mem _ this
theorem objsFrom_nodup : ∀ (ins : List Inp) (i : Nat), ((objsFrom i ins).map (·.1)).Nodup
 | [], _ => by simp [objsFrom]
 | n :: r, i => by
  unfold objsFrom
  have ih := objsFrom_nodup r (i + 1)
  cases n.x with
  | none => exact ih
  | some x =>
   rw [List.map_cons, List.nodup_cons]
   refine ⟨fun hm => ?_, ih⟩
   obtain ⟨p, hp, he⟩ := List.mem_map.1 hm
   obtain ⟨j, m, y, _, _, rfl⟩ := objsFrom_mem hp
   simp only at he
   omega
abbrev objsIn (ins : List Inp) : Objs := objsFrom 0 ins
theorem heapIn_sat (ins : List Inp) : Sat (heapIn ins) (objsIn ins) := by
 refine ⟨objsFrom_nodup ins 0, fun p hp => ?_, heapIn_wf ins⟩
 obtain ⟨j, n, x, h1, h2, rfl⟩ := objsFrom_mem hp
 refine ⟨j, 0, ?_⟩
 show (match ins[0 + j]? with | some n => n.obj (0 + j) | none => AObj.dead) = _
 rw [Nat.zero_add, h1]
 simp only [Inp.obj, h2]
theorem src_in {ins : List Inp} {w : World} (hok : ∀ n ∈ ins, InpOk w n) (j : Nat) {n : Inp} (hn : ins[j]? = some n) : Src (objsIn ins) 1 (n.val j) n.len n.cs := by
 have ho := hok n (List.mem_of_getElem? hn)
 unfold Inp.val
 cases hx : n.x with
 | none =>
  obtain ⟨h1, h2, h3⟩ := ho.nil hx
  unfold Inp.cs
  rw [h1, h2, h3]
  exact Src.nil
 | some x =>
  obtain ⟨r1, r2, r3, r4, r5⟩ := ho.row x hx
  have hm := mem_objsFrom (i := 0) hn hx
  rw [Nat.zero_add] at hm
  refine Src.of (y := ⟨1, true, n.cs⟩) (Knows.mem hm) ?_ ?_
  · show 0 + n.len * 1 ≤ n.cs.length
    unfold Inp.cs
    rw [List.length_map]
    omega
  · show (n.cs.drop 0).take (n.len * 1) = n.cs
    rw [List.drop_zero, List.take_of_length_le]
    unfold Inp.cs
    rw [List.length_map]
    omega
theorem val_rel {ins : List Inp} {w : World} (hok : ∀ n ∈ ins, InpOk w n) (j : Nat) {n : Inp} (hn : ins[j]? = some n) : VRel (layIn ins) (n.val j) n.real := by
 have ho := hok n (List.mem_of_getElem? hn)
 unfold Inp.val Inp.real
 cases hx : n.x with
 | none => exact .atom rfl
 | some x =>
  obtain ⟨r1, r2, r3, r4, r5⟩ := ho.row x hx
  have hl : layIn ins j = some ⟨x.block, x.off, n.cap, 1, false⟩ := by
   unfold layIn Inp.lay
   rw [hn, Option.bind_some, hx]
   rfl
  have := VRel.slice (ι := layIn ins) (b := j) (o := 0) (l := n.len) (c := n.cap) (c' := n.cap) hl rfl r3 (by simp)
  obtain ⟨B, o, sp⟩ := x
  simp only at r1
  subst r1
  exact this
def RelL (ι : Lay) : List Value → List Value → Prop
 | [], [] => True
 | x :: xs, y :: ys => VRel ι x y ∧ RelL ι xs ys
 | _, _ => False
theorem RelL.arr {ι : Lay} : ∀ {xs ys : List Value}, RelL ι xs ys → ARel ι xs.toArray ys.toArray := by
 have key : ∀ {xs ys : List Value}, RelL ι xs ys → ys.length = xs.length ∧ ∀ (i : Nat) x y, xs[i]? = some x → ys[i]? = some y → VRel ι x y := by
  intro xs
  induction xs with
  | nil =>
   intro ys h
   cases ys with
   | nil => exact ⟨rfl, fun i x y hx _ => by simp at hx⟩
   | cons y ys => exact h.elim
  | cons x xs ih =>
   intro ys h
   cases ys with
   | nil => exact h.elim
   | cons y ys =>
    obtain ⟨h1, h2⟩ := h
    obtain ⟨g1, g2⟩ := ih h2
    refine ⟨by simp [g1], fun i a b ha hb => ?_⟩
    cases i with
    | zero =>
     obtain rfl := Option.some.inj ha
     obtain rfl := Option.some.inj hb
     exact h1
    | succ i => exact g2 i a b (by simpa using ha) (by simpa using hb)
 intro xs ys h
 obtain ⟨h1, h2⟩ := key h
 exact ⟨by simpa using h1, fun i x y hx hy => h2 i x y (by simpa using hx) (by simpa using hy)⟩
theorem law_calls (hm : P.follows .mixedOrders = true) {W : World} {ins : List Inp} (hok : ∀ n ∈ ins, InpOk W n) {f : FuncId} {args args' : List Value} (hs : Spec P false f args.toArray (objsIn ins) fun v _ => v = .bool true)
  (ha : RelL (layIn ins) args args') : Calls P f args'.toArray W fun e W' => e = .returned (.bool true) ∧ Below W.heap.size W W' := by
 obtain ⟨v, h', O', b1, rfl, s', _⟩ := hs (heapIn ins) (heapIn_sat ins)
 refine (call_sound hm b1 W.heap.size (layIn ins) W args'.toArray (heapIn_rel hok) (Nat.le_refl _) CtxOk.none ha.arr).mono fun e w' ⟨ι', v', e1, m, vr, hr, k⟩ => ?_
 have hst : Stay (heapIn ins) h' := stayJ b1
 refine ⟨by rw [e1, vr.plain rfl], ⟨k.os, k.tape, k.output, k.size, fun B hB => k.block B hB fun b e hb _ => .inl ?_⟩⟩
 obtain ⟨n, x, hn, hx, _⟩ := layIn_some hb
 refine hst.2 b (List.getElem?_eq_some_iff.1 hn).1 ?_
 show isRo (match ins[b]? with | some n => n.obj b | none => AObj.dead) = true
 rw [hn]
 simp only [Inp.obj, hx]
 rfl
theorem inp_of {H : Type} {enc : TypeId × Value → H} {W : World} {base b0 : Nat} {held : Bool} {t e : TypeId} {k : IntKind} {a : Option Addr} {len cap : Nat} {d : DataW H} {ps : List MemPlace}
  (hu : P.underlying t = some (.slice e)) (he : P.underlying e = some (.int k)) (hc : P.cellsOf e = 1) (hv : Value.okWide P W .any b0 t (.slice a len cap)) (h : DataW.Trod enc P W base (fun _ => true) held t (.slice a len cap) d ps) :
  ∃ zs : List Int, InpOk W ⟨k, a, len, cap, zs⟩ ∧ zs.length = len ∧ ∀ n ∈ zs, (Lit.int k n).wf = true := by
 obtain ⟨fuel, hf⟩ := h
 rcases open_ints hu he hc hf with ⟨hcs, _⟩ | ⟨x, l, c, zs, hcs, _, hl, hm, hz, _, hcell, hwz⟩
 · simp [Value.cells] at hcs
   obtain ⟨rfl, rfl, rfl⟩ := hcs
   exact ⟨[], ⟨fun _ => ⟨rfl, rfl, rfl⟩, fun x hx => (by cases hx)⟩, rfl, fun n hn => by simp at hn⟩
 · simp [Value.cells] at hcs
   obtain ⟨rfl, rfl, rfl⟩ := hcs
   have hz' : zs.length = cap := by simpa using hz
   have hhas : len ≤ cap ∧ (cap : Int) ≤ IntKind.i64.max ∧ W.has P .any b0 x e cap := by
    simpa only [Value.okWide, hu, Cell.okWide, Cell.ok] using hv
   obtain ⟨_, _, _, hsp, row, cells, hsh, _⟩ := hhas
   have hblk : x.block < W.heap.size := by
    unfold World.shape? at hsh
    split at hsh
    · rename_i q
      exact (Array.getElem?_eq_some_iff.1 q).1
    · cases hsh
   refine ⟨zs.take len, ⟨fun q => (by cases q), fun y hy => ?_⟩, by rw [List.length_take]; omega, fun n hn => hwz n (List.mem_of_mem_take hn)⟩
   obtain rfl := Option.some.inj hy
   refine ⟨hsp, hblk, hl, by show (zs.take len).length = len; rw [List.length_take]; omega, fun i z hiz => ?_⟩
   simp only at hiz
   rw [List.getElem?_take] at hiz
   split at hiz
   · have hi := (List.getElem?_eq_some_iff.1 hiz).1
     have := hcell i hi
     rw [this, List.getD_eq_getElem?_getD, hiz]
     rfl
   · cases hiz
theorem sized_in {H : Type} {enc : TypeId × Value → H} {W : World} {base : Nat} {spare : Nat → Bool} {held : Bool} {t e : TypeId} {k : IntKind} {a : Option Addr} {len cap : Nat} {d : DataW H} {ps : List MemPlace} {ts : List TypeId} {ds : List (DataW H)} {j : Nat}
  (hsz : (DataW.weightsEach P ts ds).all (· ≤ reachBytes) = true) (ht : ts[j]? = some t) (hd : ds[j]? = some d) (hu : P.underlying t = some (.slice e)) (he : P.underlying e = some (.int k)) (hc : P.cellsOf e = 1) {B : Nat} (hB : P.bytesOf e = B)
  (h : DataW.Trod enc P W base spare held t (.slice a len cap) d ps) : len * B ≤ 140737488351232 := by
 obtain ⟨fuel, hf⟩ := h
 rcases open_ints hu he hc hf with ⟨hcs, _⟩ | ⟨x, l, c, zs, hcs, _, hl, _, hz, hx, _, _⟩
 · simp [Value.cells] at hcs
   obtain ⟨rfl, rfl, rfl⟩ := hcs
   simp
 · simp [Value.cells] at hcs
   obtain ⟨rfl, rfl, rfl⟩ := hcs
   obtain ⟨hx, _⟩ := Prod.mk.inj hx
   subst hx
   have z := sized_slice hsz ht hd hu
   rw [hB] at z
   have hl2 : len ≤ zs.length := by
    rw [hz]
    split
    · exact hl
    · exact Nat.le_refl _
   have h1 : (lits (H := H) k (zs.take len)).length + (lits (H := H) k (zs.drop len)).length = zs.length := by
    simp [lits]
    omega
   rw [h1] at z
   exact Nat.le_trans (Nat.mul_le_mul_right _ hl2) z
theorem wf64 {n : Int} (h : (Lit.int .i64 n).wf = true) : -9223372036854775808 ≤ n ∧ n ≤ 9223372036854775807 := by
 simp only [Lit.wf, Bool.and_eq_true, decide_eq_true_eq] at h
 exact h
end Go.Proofs.Ytahaplbdhgfobaa.Eng
set_option linter.unusedVariables false
namespace Go.Proofs.Ytahaplbdhgfobaa.Eng
open Go Go.Proofs Go.RowKit Go.Maps Go.Sort Go.Shelf
set_option maxRecDepth 100000
def keysA_ren : Go.Shelf.Ren := ⟨fun | 7 => 54 | 10 => 62 | n => n, fun | 0 => 0 | 3 => 71 | 4 => 4 | 23 => 66 | 26 => 3 | 27 => 85 | 28 => 86 | 33 => 69 | n => n, fun n => n⟩
theorem keysA : SlLaysZI.n7 Try.prog keysA_ren where
 mixed := Checked.mixed Try.checked
 f7 := ⟨"maps.Keys[map[int]skymosaic/disk.file,int,skymosaic/disk.file]", by decide, Try.func54.trans (congrArg some (by kernel_rfl))⟩
 f10 := ⟨"maps.Keys[map[int]skymosaic/disk.file,int,skymosaic/disk.file]$1", by decide, Try.func62.trans (congrArg some (by kernel_rfl))⟩
 t0 := Try.underlying0
 a0 := Try.isAgg0
 z0 := Try.sizeOf0
 v0 := Try.zeroValue0
 t4 := Try.underlying4
 a4 := Try.isAgg4
 z4 := Try.sizeOf4
 v4 := Try.zeroValue4
 t23 := Try.underlying66
 a23 := Try.isAgg66
 z23 := Try.sizeOf66
 v23 := Try.zeroValue66
 t26 := Try.underlying3
 a26 := Try.isAgg3
 z26 := Try.sizeOf3
 v26 := Try.zeroValue3
 t27 := Try.underlying85
 a27 := Try.isAgg85
 z27 := Try.sizeOf85
 v27 := Try.zeroValue85
 t28 := Try.underlying86
 a28 := Try.isAgg86
 z28 := Try.sizeOf86
 v28 := Try.zeroValue86
 t33 := Try.underlying69
 a33 := Try.isAgg69
 z33 := Try.sizeOf69
 v33 := Try.zeroValue69
def sortedA_ren : Go.Shelf.Ren := ⟨fun | 6 => 53 | 8 => 60 | 9 => 61 | 11 => 65 | 12 => 66 | 13 => 67 | 14 => 68 | 15 => 69 | 16 => 70 | 17 => 71 | 18 => 72 | 19 => 73 | 20 => 74 | 21 => 75 | 22 => 76 | 23 => 77 | 24 => 78 | 25 => 79 | 26 => 80 | 27 => 81 | 28 => 82 | 29 => 83 | 30 => 84 | 31 => 85 | n => n, fun | 0 => 0 | 3 => 3 | 4 => 4 | 5 => 5 | 9 => 9 | 24 => 33 | 26 => 3 | 28 => 86 | 33 => 69 | 37 => 77 | 39 => 97 | 40 => 98 | 45 => 103 | 48 => 106 | 50 => 61 | 51 => 108 | 55 => 112 | 57 => 114 | 58 => 115 | n => n, fun n => n⟩
theorem sortedA : SlLaysZI.n6 Try.prog sortedA_ren where
 mixed := Checked.mixed Try.checked
 f6 := ⟨"slices.Sorted[int]", by decide, Try.func53.trans (congrArg some (by kernel_rfl))⟩
 f8 := ⟨"slices.Collect[int]", by decide, Try.func60.trans (congrArg some (by kernel_rfl))⟩
 f11 := ⟨"slices.AppendSeq[[]int,int]", by decide, Try.func65.trans (congrArg some (by kernel_rfl))⟩
 t0 := Try.underlying0
 a0 := Try.isAgg0
 z0 := Try.sizeOf0
 v0 := Try.zeroValue0
 t24 := Try.underlying33
 a24 := Try.isAgg33
 z24 := Try.sizeOf33
 v24 := Try.zeroValue33
 t26 := Try.underlying3
 a26 := Try.isAgg3
 z26 := Try.sizeOf3
 v26 := Try.zeroValue3
 t28 := Try.underlying86
 a28 := Try.isAgg86
 z28 := Try.sizeOf86
 v28 := Try.zeroValue86
 i26 := by kernel_rfl
def sortA_ren : Go.Shelf.Ren := ⟨fun | 5 => 61 | 7 => 66 | 8 => 67 | 10 => 68 | 11 => 69 | 12 => 70 | 13 => 71 | 14 => 72 | 15 => 73 | 16 => 74 | 17 => 75 | 18 => 76 | 19 => 77 | 20 => 78 | 30 => 79 | 31 => 80 | 32 => 81 | 33 => 82 | 34 => 83 | 35 => 84 | 40 => 85 | n => n, fun | 0 => 0 | 3 => 3 | 4 => 4 | 5 => 5 | 9 => 9 | 22 => 33 | 23 => 33 | 25 => 3 | 32 => 77 | 35 => 97 | 36 => 98 | 41 => 103 | 44 => 106 | 46 => 61 | 53 => 108 | 57 => 112 | 63 => 114 | 64 => 115 | n => n, fun n => n⟩
theorem sortA : SlLaysM.n5 Try.prog sortA_ren where
 mixed := Checked.mixed Try.checked
 f5 := ⟨"slices.Sort[[]int,int]", by decide, Try.func61.trans (congrArg some (by kernel_rfl))⟩
 f7 := ⟨"slices.pdqsortOrdered[int]", by decide, Try.func66.trans (congrArg some (by kernel_rfl))⟩
 f8 := Try.func67.trans (congrArg some (by kernel_rfl))
 f10 := ⟨"slices.insertionSortOrdered[int]", by decide, Try.func68.trans (congrArg some (by kernel_rfl))⟩
 f11 := ⟨"slices.heapSortOrdered[int]", by decide, Try.func69.trans (congrArg some (by kernel_rfl))⟩
 f12 := ⟨"slices.breakPatternsOrdered[int]", by decide, Try.func70.trans (congrArg some (by kernel_rfl))⟩
 f13 := ⟨"slices.choosePivotOrdered[int]", by decide, Try.func71.trans (congrArg some (by kernel_rfl))⟩
 f14 := ⟨"slices.reverseRangeOrdered[int]", by decide, Try.func72.trans (congrArg some (by kernel_rfl))⟩
 f15 := ⟨"slices.partialInsertionSortOrdered[int]", by decide, Try.func73.trans (congrArg some (by kernel_rfl))⟩
 f16 := ⟨"cmp.Less[int]", by decide, Try.func74.trans (congrArg some (by kernel_rfl))⟩
 f17 := ⟨"slices.partitionEqualOrdered[int]", by decide, Try.func75.trans (congrArg some (by kernel_rfl))⟩
 f18 := ⟨"slices.partitionOrdered[int]", by decide, Try.func76.trans (congrArg some (by kernel_rfl))⟩
 f19 := Try.func77.trans (congrArg some (by kernel_rfl))
 f20 := Try.func78.trans (congrArg some (by kernel_rfl))
 f30 := ⟨"slices.siftDownOrdered[int]", by decide, Try.func79.trans (congrArg some (by kernel_rfl))⟩
 f31 := Try.func80.trans (congrArg some (by kernel_rfl))
 f32 := Try.func81.trans (congrArg some (by kernel_rfl))
 f33 := ⟨"slices.medianAdjacentOrdered[int]", by decide, Try.func82.trans (congrArg some (by kernel_rfl))⟩
 f34 := ⟨"slices.medianOrdered[int]", by decide, Try.func83.trans (congrArg some (by kernel_rfl))⟩
 f35 := ⟨"cmp.isNaN[int]", by decide, Try.func84.trans (congrArg some (by kernel_rfl))⟩
 f40 := ⟨"slices.order2Ordered[int]", by decide, Try.func85.trans (congrArg some (by kernel_rfl))⟩
 t0 := Try.underlying0
 a0 := Try.isAgg0
 z0 := Try.sizeOf0
 v0 := Try.zeroValue0
 t3 := Try.underlying3
 a3 := Try.isAgg3
 z3 := Try.sizeOf3
 v3 := Try.zeroValue3
 t4 := Try.underlying4
 a4 := Try.isAgg4
 z4 := Try.sizeOf4
 v4 := Try.zeroValue4
 t5 := Try.underlying5
 a5 := Try.isAgg5
 z5 := Try.sizeOf5
 v5 := Try.zeroValue5
 t9 := Try.underlying9
 a9 := Try.isAgg9
 z9 := Try.sizeOf9
 v9 := Try.zeroValue9
 t22 := Try.underlying33
 a22 := Try.isAgg33
 z22 := Try.sizeOf33
 v22 := Try.zeroValue33
 t23 := Try.underlying33
 a23 := Try.isAgg33
 z23 := Try.sizeOf33
 v23 := Try.zeroValue33
 t25 := Try.underlying3
 a25 := Try.isAgg3
 z25 := Try.sizeOf3
 v25 := Try.zeroValue3
 t32 := Try.underlying77
 a32 := Try.isAgg77
 z32 := Try.sizeOf77
 v32 := Try.zeroValue77
 t35 := Try.underlying97
 a35 := Try.isAgg97
 z35 := Try.sizeOf97
 v35 := Try.zeroValue97
 t36 := Try.underlying98
 a36 := Try.isAgg98
 z36 := Try.sizeOf98
 v36 := Try.zeroValue98
 t41 := Try.underlying103
 a41 := Try.isAgg103
 z41 := Try.sizeOf103
 v41 := Try.zeroValue103
 t44 := Try.underlying106
 a44 := Try.isAgg106
 z44 := Try.sizeOf106
 v44 := Try.zeroValue106
 t46 := Try.underlying61
 a46 := Try.isAgg61
 z46 := Try.sizeOf61
 v46 := Try.zeroValue61
 t53 := Try.underlying108
 a53 := Try.isAgg108
 z53 := Try.sizeOf108
 v53 := Try.zeroValue108
 t57 := Try.underlying112
 a57 := Try.isAgg112
 z57 := Try.sizeOf112
 v57 := Try.zeroValue112
 t63 := Try.underlying114
 a63 := Try.isAgg114
 z63 := Try.sizeOf114
 v63 := Try.zeroValue114
 t64 := Try.underlying115
 a64 := Try.isAgg115
 z64 := Try.sizeOf115
 v64 := Try.zeroValue115
end Go.Proofs.Ytahaplbdhgfobaa.Eng
set_option linter.unusedVariables false
set_option linter.unusedSimpArgs false
namespace Go.Proofs.Ytahaplbdhgfobaa.Eng
variable {P : Program} {x : Cx} {L L' : Tmps} {O O' : Objs}
def SpecY (P : Program) (ρ : Rho) (b : Nat) (args : List Value) (O : Objs) (Post : Objs → Prop) : Prop :=
 ∀ h, Sat h O → ∃ c s1 s2 O', ρ.c b = some c ∧ args.length = c.ps.size ∧ (∀ t ∈ c.ps, t < c.m) ∧ Big P drv (ρ.del b) (.code c.assign ⟨c.m, setAll (c.ps.zip args.toArray).toList c.t, h⟩ .normal s1) ∧
  Big P drv (ρ.del b) (.code c.body s1 .normal s2) ∧ Post O' ∧ Sat s2.h O'
theorem args_eval {s : ASt} (ht : Has s.t L) : ∀ (l : List Operand) (vs : List Value), evArgs L l = some vs → l.map s.ev = vs := by
 intro l
 induction l with
 | nil => intro vs h; simp [evArgs] at h; subst h; rfl
 | cons y l ih =>
  intro vs h
  unfold evArgs at h
  split at h
  · rename_i v us h1 h2
    obtain rfl := Option.some.inj h
    rw [List.map_cons, ih us h2, ht.ev h1]
  · cases h
theorem WXL.yield {ops : Array Oper} {mq : Mk} {i : Nat} {g : Operand} {aas : Array Operand} {ts : Array TypeId} {dst : Option Tmp} {t : TypeId} {p : String} {af : Array Edge} {gd : Option (Nat × Bool)} {l : List Oper} {K : ASt → Prop}
  {b : Nat} {vs : List Value} {O1 : Objs} {Post : Objs → Prop} (hw : Met x L ops gd) (hf : evL L g = some (Yd b)) (ha : evArgs L aas.toList = some vs) (hO : ∀ h, Sat h O → Sat h O1)
  (hd : mq.d = false) (hq1 : mq.q i = false) (hq2 : x.q = false) (hq3 : mq.Z = []) (hspec : SpecY P x.ρ b vs O1 Post)
  (h : ∀ O', Post O' → WXL P x ops mq (i + 1) l (putL dst (.bool true) L) O' K) :
  WXL P x ops mq i ({ dst := dst, op := .call { callee := .value g, args := aas, argTypes := ts }, type := t, pos := p, after := af, guard := gd } :: l) L O K := by
 intro hdr hqk s hs hz
 obtain ⟨ho, hd'⟩ := drop_head hdr
 obtain ⟨c, s1, s2, O', b1, b2, b3, b4, b5, b6, b7⟩ := hspec s.h (hO _ hs.sat)
 have hargs : aas.map s.ev = vs.toArray := by
  apply Array.toList_inj.1
  rw [Array.toList_map, args_eval hs.t _ _ ha]
 have hye : yieldee { dst := dst, op := .call { callee := .value g, args := aas, argTypes := ts }, type := t, pos := p, after := af, guard := gd } s = some (b, vs.toArray) := by
  unfold yieldee
  simp only [hs.t.ev hf, hargs, Yd]
 have hst : St x (putL dst (.bool true) L) O' (s.put dst (.bool true) s2.h) := by
  refine ⟨by rw [put_m]; exact hs.m, ?_, by rw [put_h]; exact b7, fun hx => by rw [hq2] at hx; cases hx⟩
  cases dst with
  | some d => exact hs.t.put _ _ _
  | none => exact hs.t
 obtain ⟨s', g1, g2, g3⟩ := h O' b6 hd' hqk _ hst (fun z hm => by rw [hq3] at hm; simp at hm)
 have hrho : mq.rho x.ρ = x.ρ := by unfold Mk.rho; rw [hd]; rfl
 rw [hrho] at g1 ⊢
 refine ⟨s', .opyield ho (hw s hs.t _ rfl) hye b1 (by simpa using b2) b3 b4 b5 (fun hm => by rw [hq1] at hm; cases hm) ?_ (fun z hm => by rw [hq3] at hm; simp at hm) g1, by rw [g2, put_m], g3⟩
 cases hl : mq.lz i with
 | false => rfl
 | true => exact absurd ((flags_at hqk ho).2 hl) (by simp [isLoadOp])
def setL : List (Tmp × Value) → Tmps → Tmps
 | [], L => L
 | (d, v) :: l, L => setL l ((d, v) :: L)
theorem Has.setAll : ∀ {l : List (Tmp × Value)} {t : Nat → Value} {L : Tmps}, Has t L → Has (setAll l t) (setL l L)
 | [], _, _, h => h
 | (d, v) :: l, t, L, h => by
  refine Has.setAll (l := l) (t := fun i => if i = d then v else t i) ?_
  intro e u he
  unfold getT at he
  show (if e = d then v else t e) = u
  cases hb : Nat.beq d e with
  | true =>
   rw [hb] at he
   rw [if_pos (Nat.eq_of_beq_eq_true hb).symm]
   exact Option.some.inj he
  | false =>
   rw [hb] at he
   rw [if_neg fun e' => by subst e'; simp at hb]
   exact h e u he
def roundW {β : Type} (OI : β → Objs) (Inv : β → Prop) : Exit → ASt → Prop
 | .normal, s => ∃ y, Inv y ∧ Sat s.h (OI y)
 | _, _ => False
theorem Fin.round {β : Type} {OI : β → Objs} {Inv : β → Prop} (y : β) (hy : Inv y) (hO : ∀ h, Sat h O → Sat h (OI y)) : Fin x L O .normal (roundW OI Inv) := fun s hs => ⟨y, hy, hO _ hs.sat⟩
theorem WX.rangeFuncA {β : Type} (OI : β → Objs) (Inv : Nat → β → Prop) (Arg : Nat → β → List Value → Objs → Prop) (n : Nat) (y0 : β) {g : Operand} {ps : Array Tmp} {assign body : Code} {Q : Exit → ASt → Prop} {gf : FuncId} {lb : Array Value}
  (hx : x.ρ.can) (hg : evL L g = some (.func (.func gf) #[] lb)) (hok : fnOk P gf = true) (hO : ∀ s, St x L O s → Sat s.h (OI y0)) (hxq : x.q = false) (h0 : Inv 0 y0) (hargs : ∀ k y vs N, Arg k y vs N → vs.length = ps.size)
  (hiter : ∀ (ρ : Rho) (b : Nat), (∀ k y vs N, k < n → Inv k y → Arg k y vs N → SpecY P ρ b vs (N ++ OI y) fun O' => ∃ y', Inv (k + 1) y' ∧ O' = OI y') → SpecIn P ρ false gf (Yd b :: lb.toList).toArray (OI y0) fun v O' => ∃ y', Inv n y' ∧ O' = OI y')
  (hbody : ∀ (h0 : AHeap) (ρ : Rho) k y vs N, k < n → Inv k y → Arg k y vs N → WX P ⟨x.m, false, h0, ρ⟩ (.seq assign body) (setL (ps.toList.zip vs) L) (N ++ OI y) (roundW OI (Inv (k + 1))))
  (h : ∀ y, Inv n y → Fin x L (OI y) .normal Q) : WX P x (.rangeFunc g ps assign body) L O Q := by
 intro s hs hk
 simp only [codeOk, Bool.and_eq_true, List.all_eq_true] at hk
 obtain ⟨⟨⟨k1, k2⟩, k3⟩, k4⟩ := hk
 have hps : ∀ t ∈ ps, t < s.m := fun t ht => by
  have := k2 t (Array.mem_toList_iff.2 ht)
  simpa [Nat.blt_eq] using this
 have hsat := hO s hs
 have hb : Sat s.h.bump (OI y0) := ⟨hsat.nd, fun p hp => hsat.is p hp, ⟨fun b sz ro f m k c ho => by
   obtain ⟨q1, q2⟩ := hsat.wf.wf b sz ro f m k c ho
   exact ⟨Nat.lt_succ_of_lt q1, q2⟩, hsat.wf.fam, hsat.wf.uniq, fun b hb => hsat.wf.out b (Nat.le_of_succ_le hb)⟩⟩
 obtain ⟨v, h', O', b1, ⟨y', b2, b3⟩, b4, _⟩ := hiter (x.ρ.add s.h.n ⟨s.m, s.t, ps, assign, body⟩) s.h.n (fun k y vs N hk hy hvs g hg => by
  obtain ⟨e, s', r1, r2, r3⟩ := hbody g ((x.ρ.add s.h.n ⟨s.m, s.t, ps, assign, body⟩).del s.h.n) k y vs N hk hy hvs ⟨s.m, setAll (ps.zip vs.toArray).toList s.t, g⟩
   ⟨hs.m, by rw [Array.toList_zip]; exact hs.t.setAll, hg, fun q => by cases q⟩ (by
    show codeOk s.m (.seq assign body) = true
    simp only [codeOk, k3, k4, Bool.and_self])
  cases e with
  | normal =>
   obtain ⟨y2, i1, i2⟩ := r3
   cases r1 with
   | seq_n t1 t2 => exact ⟨_, _, _, _, by unfold Rho.add; exact if_pos rfl, hargs k y vs N hvs, hps, t1, t2, ⟨y2, i1, rfl⟩, i2⟩
   | seq_x t1 t2 => exact absurd rfl t2
  | _ => exact r3.elim) s.h.bump hb
 subst b3
 refine ⟨.normal, { s with h := h' }, .rangeFunc (v := v) hx k1 (hs.t.ev hg) hps hok ?_, rfl, h y' b2 _ ⟨hs.m, hs.t, b4, fun q => by rw [hxq] at q; cases q⟩⟩
 have : (#[Yd s.h.n] ++ lb) = (Yd s.h.n :: lb.toList).toArray := by apply Array.toList_inj.1; simp
 rw [this]
 exact b1
theorem WX.rangeFunc {β : Type} (OI : β → Objs) (Inv : Nat → β → Prop) (n : Nat) (arg : Nat → List Value) (y0 : β) {g : Operand} {ps : Array Tmp} {assign body : Code} {Q : Exit → ASt → Prop} {gf : FuncId} {lb : Array Value}
  (hx : x.ρ.can) (hg : evL L g = some (.func (.func gf) #[] lb)) (hok : fnOk P gf = true) (hO : ∀ s, St x L O s → Sat s.h (OI y0)) (hxq : x.q = false) (h0 : Inv 0 y0) (hargs : ∀ k, (arg k).length = ps.size)
  (hiter : ∀ (ρ : Rho) (b : Nat), (∀ k y, k < n → Inv k y → SpecY P ρ b (arg k) (OI y) fun O' => ∃ y', Inv (k + 1) y' ∧ O' = OI y') → SpecIn P ρ false gf (Yd b :: lb.toList).toArray (OI y0) fun v O' => ∃ y', Inv n y' ∧ O' = OI y')
  (hbody : ∀ (h0 : AHeap) (ρ : Rho) k y, k < n → Inv k y → WX P ⟨x.m, false, h0, ρ⟩ (.seq assign body) (setL (ps.toList.zip (arg k)) L) (OI y) (roundW OI (Inv (k + 1))))
  (h : ∀ y, Inv n y → Fin x L (OI y) .normal Q) : WX P x (.rangeFunc g ps assign body) L O Q   :=
 WX.rangeFuncA OI Inv (fun k _ vs N => vs = arg k ∧ N = []) n y0 hx hg hok hO hxq h0 (fun k y vs N ⟨q, _⟩ => by rw [q]; exact hargs k) (fun ρ b hy => hiter ρ b fun k y hk hi => hy k y (arg k) [] hk hi ⟨rfl, rfl⟩)
  (fun h0 ρ k y vs N hk hi ⟨q1, q2⟩ => by subst q1 q2; exact hbody h0 ρ k y hk hi) h
end Go.Proofs.Ytahaplbdhgfobaa.Eng
set_option linter.unusedVariables false
set_option linter.unusedSimpArgs false
namespace Go.Proofs.Ytahaplbdhgfobaa.Eng
variable {P : Program} {x : Cx} {L L' : Tmps} {O O' : Objs} {ops : Array Oper} {mq : Mk} {i : Nat} {l : List Oper} {K : ASt → Prop}
  {t u : TypeId} {p : String} {af : Array Edge} {gd : Option (Nat × Bool)} {d : Tmp}
def B8 (n : Int) : Value := .int .u8 n
def U (n : Int) : Value := .int .u64 n
def Bytes (l : List Int) : Prop := ∀ b ∈ l, 0 ≤ b ∧ b < 256
def bstr (l : List Int) : ByteArray := ⟨(l.map fun b => UInt8.ofNat b.toNat).toArray⟩
theorem bstr_size (l : List Int) : (bstr l).size = l.length := by
 show (l.map _).toArray.size = _
 simp
theorem WXL.conv {y : Operand} {k k' : IntKind} {n m : Int} (hw : Met x L ops gd) (hy : evL L y = some (.int k n)) (h1 : P.underlying t = some (.int k)) (h2 : P.underlying u = some (.int k')) (hm : k'.wrap n = m) (h : WXL P x ops mq (i + 1) l ((d, .int k' m) :: L) O K) {tt : TypeId} :
  WXL P x ops mq i ({ dst := some d, op := .convert t u y, type := tt, pos := p, after := af, guard := gd } :: l) L O K :=
 WXL.val (.inl rfl) hw (fun s hs => by
  have hc : convStr P t u = false := by unfold convStr; rw [h1, h2]
  have hc2 : convByt P t u = false := by unfold convByt; rw [h1, h2]
  have e : purely P (convert t u (.int k n)) = some (.int k' m) := by
   simp only [convert, purely_bind, underlying_of h1, underlying_of h2, Option.bind_some]
   rw [← hm]
   rfl
  have ha : ∀ o' : Oper, o'.op = .convert t u y → aop P o' s = (scalarA P o' s.ev).map (·, s.h) := fun o' ho => by unfold aop; rw [ho]; simp only [hc, hc2, Bool.false_eq_true, if_false]
  exact scalar1 (g := convert t u) rfl (fun o' ρ h => by unfold execOp; rw [h]) ha (hs.t.ev hy) rfl e rfl) h
theorem WXL.lenS {y : Operand} {ty : TypeId} {bs : ByteArray} (hw : Met x L ops gd) (hy : evL L y = some (.string bs)) (hu : P.underlying ty = some .string) (h : WXL P x ops mq (i + 1) l ((d, .int .i64 bs.size) :: L) O K) :
  WXL P x ops mq i ({ dst := some d, op := .call { callee := .builtin .len, args := #[y], argTypes := #[ty] }, type := t, pos := p, after := af, guard := gd } :: l) L O K :=
 WXL.val (.inl rfl) hw (fun s hs => by simp [aop, lenA, hu, hs.t.ev hy]) h
theorem bstr_at {bs : List Int} {k : Nat} (hk : k < bs.length) : (bstr bs)[k]? = some (UInt8.ofNat (nth bs k).toNat) := by
 have h1 : k < (bstr bs).size := by rw [bstr_size]; exact hk
 rw [getElem?_pos _ k h1]
 congr 1
 have h2 : (bs.map fun b => UInt8.ofNat b.toNat).toArray[k]'(by simpa using hk) = UInt8.ofNat (nth bs k).toNat := by rw [List.getElem_toArray, List.getElem_map, nth_get hk]
 exact h2
theorem scalar_idx {y z : Operand} {ty w : TypeId} {a b v : Value} {s : ASt} (hy : s.ev y = a) (hz : s.ev z = b) (ha : plain1 a = true) (hb : plain1 b = true) (hv : purely P (Instr.index ty a b) = some v) (hp : plain1 v = true) :
  aop P { dst := some d, op := .index ty y z, type := w, pos := p, after := af, guard := gd } s = some (v, s.h) := by
 have e : purely P (execOp s.ev { dst := some d, op := .index ty y z, type := w, pos := p, after := af, guard := gd }) = some (.value v) := by
  show purely P (Instr.index ty (s.ev y) (s.ev z) >>= fun v => pure (Next.value v)) = _
  rw [purely_bind, hy, hz, hv]
  rfl
 unfold aop
 simp only
 unfold scalarA
 have hall : (#[y, z].all fun x => plain1 (s.ev x)) = true := by simp [hy, hz, ha, hb]
 simp only [Op.operands, hall, e, hp, if_true, Option.map_some]
theorem WXL.idxStr {y z : Operand} {ty w : TypeId} {bs : List Int} {k : Nat} (hw : Met x L ops gd) (hy : evL L y = some (.string (bstr bs))) (hz : evL L z = some (.int .i64 (k : Int))) (hu : P.underlying ty = some .string) (hB : Bytes bs) (hk : k < bs.length)
  (h : WXL P x ops mq (i + 1) l ((d, B8 (nth bs k)) :: L) O K) : WXL P x ops mq i ({ dst := some d, op := .index ty y z, type := w, pos := p, after := af, guard := gd } :: l) L O K :=
 WXL.val (.inl rfl) hw (fun s hs => scalar_idx (hs.t.ev hy) (hs.t.ev hz) rfl rfl (by
  obtain ⟨h1, h2⟩ := hB _ (nth_mem hk)
  have e : ((UInt8.ofNat (nth bs k).toNat).toNat : Int) = nth bs k := by rw [UInt8.toNat_ofNat']; omega
  have e1 : purely P (asIntOf (.int .i64 (k : Int))) = some (.i64, (k : Int)) := rfl
  unfold Instr.index
  rw [purely_bind, e1]
  simp only [Option.bind_some, purely_bind, underlying_of hu]
  rw [if_pos (by omega), Int.toNat_natCast, bstr_at hk]
  show some (Value.int .u8 _) = _
  rw [e]
  rfl) rfl) h
theorem WXL.nilCheck {y : Operand} {a : Addr} (hw : Met x L ops gd) (hy : evL L y = some (.pointer (some a))) (h : WXL P x ops mq (i + 1) l ((d, .pointer (some a)) :: L) O K) :
  WXL P x ops mq i ({ dst := some d, op := .nilCheck y, type := t, pos := p, after := af, guard := gd } :: l) L O K :=
 WXL.val (.inl rfl) hw (fun s hs => by simp only [aop, hs.t.ev hy]) h
theorem Sat.sub {h : AHeap} (hs : Sat h O) (hc : ∀ Q : Nat × Ent → Bool, O'.countP Q ≤ O.countP Q) : Sat h O' := by
 refine ⟨?_, fun p hp => hs.is p ?_, hs.wf⟩
 · rw [List.nodup_iff_count]
   intro b
   have h1 := List.nodup_iff_count.1 hs.nd b
   rw [List.count_eq_countP, List.countP_map] at h1 ⊢
   exact Nat.le_trans (hc _) h1
 · classical
   have h1 : 0 < O'.countP (fun q => decide (q = p)) := List.countP_pos_iff.2 ⟨p, hp, by simp⟩
   obtain ⟨q, h2, h3⟩ := List.countP_pos_iff.1 (Nat.lt_of_lt_of_le h1 (hc _))
   have h4 : q = p := by simpa using h3
   exact h4 ▸ h2
theorem sub_ (hc : ∀ Q : Nat × Ent → Bool, O'.countP Q ≤ O.countP Q := by intro Q; simp only [List.countP_append, List.countP_cons, List.countP_nil]; omega) : ∀ g, Sat g O → Sat g O' := fun _ hs => hs.sub hc
theorem WX.re {P : Program} {x : Cx} {L : Tmps} {O O' : Objs} {c : Code} {Q : Exit → ASt → Prop} (h : WX P x c L O' Q) (hs : ∀ g, Sat g O → Sat g O' := by exact sub_) (hq : x.q = false := by exact rfl) : WX P x c L O Q :=
 fun s hst hk => h s ⟨hst.m, hst.t, hs _ hst.sat, fun q => by rw [hq] at q; cases q⟩ hk
theorem wrap_u64 {n : Int} (h1 : 0 ≤ n) (h2 : n < 18446744073709551616) : IntKind.wrap .u64 n = n := by
 unfold IntKind.wrap
 have e1 : (2 : Int) ^ IntKind.bits .u64 = 18446744073709551616 := rfl
 have e3 : IntKind.signed .u64 = false := rfl
 simp only [e1, e3, Bool.false_and, Bool.false_eq_true, if_false]
 omega
theorem wrap_u8 {n : Int} (h1 : 0 ≤ n) (h2 : n < 256) : IntKind.wrap .u8 n = n := by
 unfold IntKind.wrap
 have e1 : (2 : Int) ^ IntKind.bits .u8 = 256 := rfl
 have e3 : IntKind.signed .u8 = false := rfl
 simp only [e1, e3, Bool.false_and, Bool.false_eq_true, if_false]
 omega
theorem cv_ {k : IntKind} {n m : Int} (h : k.wrap n = m := by first | exact wrap_i64 (by omega) (by omega) | exact wrap_u64 (by omega) (by omega) | exact wrap_u8 (by omega) (by omega) | exact rfl) : k.wrap n = m := h
end Go.Proofs.Ytahaplbdhgfobaa.Eng
set_option linter.unusedVariables false
set_option linter.unusedSimpArgs false
namespace Go.Proofs.Ytahaplbdhgfobaa.Eng
variable {P : Program} {x : Cx} {L L' : Tmps} {O O' : Objs} {ops : Array Oper} {mq : Mk} {i : Nat} {l : List Oper} {K : ASt → Prop}
  {t u : TypeId} {p : String} {af : Array Edge} {gd : Option (Nat × Bool)} {d : Tmp}
structure MapX where
 ck : Nat
 es : List (Int × Nat × Value)
def mflat : List (Int × Nat × Value) → List Value
 | [] => []
 | (k, n, v) :: m => I k :: I n :: v :: mflat m
def mcells (m : MapX) : List Value := I m.ck :: mflat m.es
def MapX.kv (m : MapX) : List (Int × Value) := m.es.map fun e => (e.1, e.2.2)
def MapX.new : MapX := ⟨0, []⟩
variable {α : Type}
def mget (k : Int) : List (Int × α) → Option α
 | [] => none
 | (n, v) :: m => if k = n then some v else mget k m
def mput (k : Int) (u : α) : List (Int × α) → List (Int × α)
 | [] => [(k, u)]
 | (n, v) :: m => if k = n then (k, u) :: m else (n, v) :: mput k u m
def mdel (k : Int) : List (Int × α) → List (Int × α)
 | [] => []
 | (n, v) :: m => if k = n then m else (n, v) :: mdel k m
def xput (k : Int) (u : Value) (ck : Nat) : List (Int × Nat × Value) → Nat × List (Int × Nat × Value)
 | [] => (ck + 1, [(k, ck, u)])
 | (n, b, v) :: m => if k = n then (ck, (k, b, u) :: m) else ((xput k u ck m).1, (n, b, v) :: (xput k u ck m).2)
def xdel (k : Int) : List (Int × Nat × Value) → List (Int × Nat × Value)
 | [] => []
 | (n, b, v) :: m => if k = n then m else (n, b, v) :: xdel k m
def MapX.put (m : MapX) (k : Int) (u : Value) : MapX := ⟨(xput k u m.ck m.es).1, (xput k u m.ck m.es).2⟩
def MapX.del (m : MapX) (k : Int) : MapX := ⟨m.ck, xdel k m.es⟩
theorem MapX.kv_put (m : MapX) (k : Int) (u : Value) : (m.put k u).kv = mput k u m.kv := by
 obtain ⟨ck, es⟩ := m
 unfold MapX.put MapX.kv
 simp only
 induction es with
 | nil => rfl
 | cons e es ih =>
  obtain ⟨n, b, v⟩ := e
  simp only [xput, List.map_cons, mput]
  split
  · rfl
  · simp only [List.map_cons, ih]
theorem MapX.kv_del (m : MapX) (k : Int) : (m.del k).kv = mdel k m.kv := by
 obtain ⟨ck, es⟩ := m
 unfold MapX.del MapX.kv
 simp only
 induction es with
 | nil => rfl
 | cons e es ih =>
  obtain ⟨n, b, v⟩ := e
  simp only [xdel, List.map_cons, mdel]
  split
  · rfl
  · simp only [List.map_cons, ih]
theorem mapGet_cells (k : Int) : ∀ m : List (Int × Nat × Value), mapGet .i64 k (mflat m) = some (mget k (m.map fun e => (e.1, e.2.2)))
 | [] => rfl
 | (n, b, v) :: m => by
  show (if (.i64 : IntKind) = .i64 then if k = n then some (some v) else mapGet .i64 k (mflat m) else none) = some (if k = n then some v else mget k (m.map fun e => (e.1, e.2.2)))
  rw [if_pos rfl, mapGet_cells k m]
  split <;> rfl
theorem mapPut_cells (k : Int) (u : Value) (ck : Nat) : ∀ m, mapPut .i64 k u ck (mflat m) = some (((xput k u ck m).1 : Int), mflat (xput k u ck m).2)
 | [] => rfl
 | (n, b, v) :: m => by
  show (if (.i64 : IntKind) = .i64 then if k = n then some ((ck : Int), I k :: I b :: u :: mflat m) else (mapPut .i64 k u ck (mflat m)).map fun q => (q.1, I n :: I b :: v :: q.2) else none) = _
  rw [if_pos rfl, mapPut_cells k u ck m]
  simp only [xput]
  split <;> rfl
theorem mapDel_cells (k : Int) : ∀ m, mapDel .i64 k (mflat m) = some (mflat (xdel k m))
 | [] => rfl
 | (n, b, v) :: m => by
  show (if (.i64 : IntKind) = .i64 then if k = n then some (mflat m) else (mapDel .i64 k (mflat m)).map (I n :: I b :: v :: ·) else none) = _
  rw [if_pos rfl, mapDel_cells k m]
  simp only [xdel]
  split <;> rfl
abbrev Mp (b : Nat) : Value := .map (some b)
theorem WXL.makeMap {ty : TypeId} (hw : Met x L ops gd) (h : ∀ b, WXL P x ops mq (i + 1) l ((d, Mp b) :: L) ((b, ⟨2, false, mcells .new⟩) :: O) K) :
  WXL P x ops mq i ({ dst := some d, op := .makeMap ty none, type := t, pos := p, after := af, guard := gd } :: l) L O K :=
 WXL.fresh (V := fun b => Mp b) rfl hw (fun s hs => rfl) h
theorem WXL.lookup {y z : Operand} {ty e : TypeId} {b sz : Nat} {ro ok : Bool} {k : Int} {m : MapX} {zv v : Value} (hw : Met x L ops gd) (hy : evL L y = some (Mp b)) (hz : evL L z = some (I k)) (hT : mapT P ty = some e) (hzv : zeroOf P e = some zv)
  (hk : Knows O b ⟨sz, ro, mcells m⟩) (hv : okV ok ((mget k m.kv).getD zv) (mget k m.kv).isSome = v) (h : WXL P x ops mq (i + 1) l ((d, v) :: L) O K) :
  WXL P x ops mq i ({ dst := some d, op := .lookup ty y z ok, type := t, pos := p, after := af, guard := gd } :: l) L O K :=
 WXL.val (.inl rfl) hw (fun s hst => by
  subst hv
  simp only [aop, hst.t.ev hy, hst.t.ev hz, lookupA, hT, hzv, (hk _ hst.sat).rd, mcells, mapGet_cells, MapX.kv]
  cases mget k (m.es.map fun e => (e.1, e.2.2)) <;> rfl) h
theorem WXL.stepM {o : Oper} (hq1 : mq.q i = false) (hw : Met x L ops o.guard)
  (ha : ∀ s, St x L O s → (∀ z ∈ mq.Z, z.1 < s.h.n) → ∃ v h', mop P o s = some (v, h') ∧ (∀ z ∈ mq.Z, h'.o z.1 = s.h.o z.1) ∧ ∃ L' O', St x L' O' (s.put o.dst v h') ∧ WXL P x ops mq (i + 1) l L' O' K) : WXL P x ops mq i (o :: l) L O K := by
 intro hd hq s hs hz
 obtain ⟨ho, hd'⟩ := drop_head hd
 obtain ⟨v, h', h1, h2z, L', O', h3, h⟩ := ha s hs hz
 have hgrow := (mop_WF h1 hs.sat.wf).2
 obtain ⟨s', g1, g2, g3⟩ := h hd' hq _ h3 (fun z hm => by rw [put_h]; exact Nat.lt_of_lt_of_le (hz z hm) hgrow)
 refine ⟨s', .opmap ho (hw s hs.t o rfl) h1 hq1 ?_ h2z g1, by rw [g2, put_m], g3⟩
 cases hx : mq.lz i with
 | false => rfl
 | true =>
  have := (flags_at hq ho).2 hx
  exfalso
  have e := mop_impure h1
  unfold mop at h1
  split at h1
  · rename_i hop; rw [hop] at this; cases this
  · rename_i hop; rw [hop] at this; cases this
  · cases h1
theorem WXL.mapUpdate {y z w : Operand} {ty e : TypeId} {j b : Nat} {k : Int} {m : MapX} {v : Value} (hw : Met x L ops gd) (hy : evL L y = some (Mp b)) (hz : evL L z = some (I k)) (hv : evL L w = some v) (hT : mapT P ty = some e)
  (h : WXL P x ops mq (i + 1) l L (O.set j (b, ⟨2, false, mcells (m.put k v)⟩)) K) (hj : O[j]? = some (b, ⟨2, false, mcells m⟩)) (hq : x.q = false := by exact rfl)
  (hcl : Clear O j mq.Z := by repeat (first | exact Clear.nil | refine Clear.cons 0 rfl rfl ?_ | refine Clear.cons 1 rfl rfl ?_ | refine Clear.cons 2 rfl rfl ?_ | refine Clear.cons 3 rfl rfl ?_ | refine Clear.cons 4 rfl rfl ?_))
  (hq1 : mq.q i = false := by first | exact rfl | exact (show needs _ _ = false from by decide +kernel)) :
  WXL P x ops mq i ({ dst := none, op := .mapUpdate ty y z w, type := t, pos := p, after := af, guard := gd } :: l) L O K :=
 WXL.stepM hq1 hw fun s hst hzz => by
  have hne := hcl.ne hst.sat hj
  obtain ⟨f, n, hb⟩ := hst.sat.at hj
  refine ⟨undef, s.h.set b (.cells 2 false f none (n + 1) (mcells (m.put k v))), ?_, fun z hm => (by simp only [AHeap.set]; rw [if_neg (hne z hm)]), L, _, ⟨hst.m, hst.t, hst.sat.set hj hb, fun hx => (by rw [hq] at hx; cases hx)⟩, h⟩
  have hb' : s.h.o b = .cells 2 false f none n (mcells m) := hb
  simp only [mop, hst.t.ev hy, hst.t.ev hz, hst.t.ev hv, putA, hT, hb', mcells, mapPut_cells, Option.map_some]
  rfl
theorem WXL.delete {y z : Operand} {ty tz e : TypeId} {j b : Nat} {k : Int} {m : MapX} (hw : Met x L ops gd) (hy : evL L y = some (Mp b)) (hz : evL L z = some (I k)) (hT : mapT P ty = some e)
  (h : WXL P x ops mq (i + 1) l L (O.set j (b, ⟨2, false, mcells (m.del k)⟩)) K) (hj : O[j]? = some (b, ⟨2, false, mcells m⟩)) (hq : x.q = false := by exact rfl)
  (hcl : Clear O j mq.Z := by repeat (first | exact Clear.nil | refine Clear.cons 0 rfl rfl ?_ | refine Clear.cons 1 rfl rfl ?_ | refine Clear.cons 2 rfl rfl ?_ | refine Clear.cons 3 rfl rfl ?_ | refine Clear.cons 4 rfl rfl ?_))
  (hq1 : mq.q i = false := by first | exact rfl | exact (show needs _ _ = false from by decide +kernel)) :
  WXL P x ops mq i ({ dst := none, op := .call { callee := .builtin .delete, args := #[y, z], argTypes := #[ty, tz] }, type := t, pos := p, after := af, guard := gd } :: l) L O K :=
 WXL.stepM hq1 hw fun s hst hzz => by
  have hne := hcl.ne hst.sat hj
  obtain ⟨f, n, hb⟩ := hst.sat.at hj
  refine ⟨.tuple #[], s.h.set b (.cells 2 false f none (n + 1) (mcells (m.del k))), ?_, fun z hm => (by simp only [AHeap.set]; rw [if_neg (hne z hm)]), L, _, ⟨hst.m, hst.t, hst.sat.set hj hb, fun hx => (by rw [hq] at hx; cases hx)⟩, h⟩
  have hb' : s.h.o b = .cells 2 false f none n (mcells m) := hb
  simp only [mop, hst.t.ev hy, hst.t.ev hz, delA, hT, hb', mcells, mapDel_cells, Option.map_some]
  rfl
theorem WXL.fieldV {y : Operand} {ty : TypeId} {f : Nat} {fs : Array Field} {g : Field} {cs : Array Value} {v : Value} (hw : Met x L ops gd) (hy : evL L y = some (.agg cs)) (hu : P.underlying ty = some (.struct fs)) (hg : fs[f]? = some g) (hv : partA P g.type cs g.offset = some v)
  (h : WXL P x ops mq (i + 1) l ((d, v) :: L) O K) : WXL P x ops mq i ({ dst := some d, op := .field ty y f, type := t, pos := p, after := af, guard := gd } :: l) L O K :=
 WXL.val (.inl rfl) hw (fun s hst => by
  simp only [aop, hst.t.ev hy, fieldOfA, hu, hg, hv]
  rfl) h
theorem part1 {ft : TypeId} {cs : Array Value} {off : Nat} {v : Value} (ht : isAggT P ft = some false) (hv : cs[off]? = some v) : partA P ft cs off = some v := by
 unfold partA
 simp only [ht]
 exact hv
theorem Spec.direct {q : Bool} {f : FuncId} {args : Array Value} {Post : Value → Objs → Prop} (h : ∀ g, Sat g O → ∃ v h' O', Direct P f args g v h' ∧ Post v O' ∧ Sat h' O' ∧ (q = true → Old g h')) : Spec P q f args O Post := fun g hg => by
 obtain ⟨v, h', O', a, b, c, e⟩ := h g hg
 exact ⟨v, h', O', .direct a, b, c, e⟩
end Go.Proofs.Ytahaplbdhgfobaa.Eng
set_option linter.unusedVariables false
set_option linter.unusedSimpArgs false
namespace Go.Proofs.Ytahaplbdhgfobaa.Eng
variable {P : Program} {x : Cx} {L L' : Tmps} {O O' : Objs} {base : Nat} {ι ι1 ι2 : Lay} {h h' h1 h2 : AHeap} {w w1 w2 : World}
theorem WX.wp (hm : P.follows .mixedOrders = true) {c : Code} {Q : Exit → ASt → Prop} (hwx : WX P x c L O Q) (hx : x.ρ = .late) (hk : codeOk x.m c = true) {s : ASt} {a : Act} {Q' : Exit → Act → World → Prop} (hst : St x L O s) (hs : SRel base ι s a w)
  (hq : ∀ e s' ι' a' w', Q e s' → SRel base ι' s' a' w' → More base ι ι' s.h s'.h w → Keep0 ι s.h s'.h w w' → a'.defers = a.defers → Stay s.h s'.h → Q' e a' w') : c.wpIn (FR none) 0 P Q' a w := by
 obtain ⟨e, s', b1, _, b2⟩ := hwx s hst (by rw [hst.m]; exact hk)
 rw [hx] at b1
 have hc : SoundC P .late c s e s' := sound (fun _ _ _ h => draw_ok hm h) b1
 refine hc.2.2.1 none base ι a w Q' (fun _ => rfl) hs CtxOk.none.late fun ι' a' w' ds r1 r2 r3 r4 r5 => hq e s' ι' a' w' b2 r1 r2 r3 ?_ (stayJ b1)
 rw [r4, r5.2.2 rfl]; rfl
theorem WXL.wp (hm : P.follows .mixedOrders = true) {ops : Array Oper} {i : Nat} {l : List Oper} {K : ASt → Prop} (hwx : WXL P x ops noMk i l L O K) (hx : x.ρ = .late) (hd : Dr ops i l) (more : List Nat) (hk : regOk ops x.m = true) {s : ASt} {a : Act} {Q : Exit → Act → World → Prop} (hst : St x L O s) (hs : SRel base ι s a w)
  (hq : ∀ s' ι' a' w', K s' → SRel base ι' s' a' w' → More base ι ι' s.h s'.h w → Keep0 ι s.h s'.h w w' → a'.defers = a.defers → s'.m = x.m → Stay s.h s'.h → wpOpsIn (FR none) 0 P ops Q more a' w') : wpOpsIn (FR none) 0 P ops Q (List.range' i l.length ++ more) a w := by
 obtain ⟨s', b1, b0, b2⟩ := hwx hd (flagsFalse ops) s hst (fun z hz => by simp [noMk] at hz)
 have e1 : noMk.rho x.ρ = .late := by rw [hx]; rfl
 rw [e1] at b1
 have hc : OpsTr P .late ops noMk.q noMk.lz noMk.Z (List.range' i l.length) s s' := sound (fun _ _ _ h => draw_ok hm h) b1
 exact (text_ok' hc (by rw [hst.m]; exact hk) more).2 none base ι a w Q hs CtxOk.none.late fun ι' a' w' r1 r2 r3 r4 => hq s' ι' a' w' b2 r1 r2 r3 r4 (b0.trans hst.m) (stayJ b1)
theorem HRel.drew (hr : HRel base ι h w) : HRel base ι h w.drew := ⟨hr.lt, hr.blk, hr.szs, hr.val, hr.room, hr.apart, hr.link, hr.wf, hr.fam, hr.uniq, hr.out, hr.maps⟩
theorem HRel.pre (hr : HRel base ι h w) (hs : w.heap.size ≤ w1.heap.size) (hb : ∀ B, B < w.heap.size → w1.heap[B]? = w.heap[B]?) : HRel base ι h w1 := by
 refine ⟨hr.lt, fun b e he => Nat.lt_of_lt_of_le (hr.blk b e he) hs, hr.szs, fun b e c i v he hmp hc hi => ?_, fun b e sz f st k c i he ho hi => ?_, hr.apart, hr.link, hr.wf, hr.fam, hr.uniq, hr.out, fun b e sz ro f st k c he hmp ho => ?_⟩
 · obtain ⟨v', q1, q2⟩ := hr.val b e c i v he hmp hc hi
   exact ⟨v', by rw [(cell_eq (hb _ (hr.blk b e he))).1]; exact q1, q2⟩
 · obtain ⟨⟨v, q1⟩, q2⟩ := hr.room b e sz f st k c i he ho hi
   have := cell_eq (off := e.off + i) (hb _ (hr.blk b e he))
   exact ⟨⟨v, by rw [this.1]; exact q1⟩, by rw [this.2]; exact q2⟩
 · obtain ⟨q1, q2⟩ := hr.maps b e _ _ _ _ _ _ he hmp ho
   exact ⟨q1, q2.world (hb _ (hr.blk b e he))⟩
theorem pair_mem {c : List (Int × Nat × Value)} : ∀ {es : List MapEntry}, PairRel ι (mflat c) es → ∀ e ∈ es, ∃ k v, (k, e.born, v) ∈ c ∧ e.key = I k ∧ VRel ι v e.val := by
 induction c with
 | nil => intro es hp e he; cases hp; simp at he
 | cons p c ih =>
  obtain ⟨k, n, v⟩ := p
  intro es hp e he
  unfold mflat at hp
  generalize hX : I k :: I n :: v :: mflat c = X at hp
  cases hp with
  | nil => cases hX
  | cons h1 h2 h3 h4 =>
   rename_i c2 e2 es2
   injection hX with q1 q2
   injection q2 with q3 q4
   injection q4 with q5 q6
   subst q1 q5 q6
   injection q3 with _ q3
   rcases List.mem_cons.1 he with rfl | he
   · exact ⟨k, v, by rw [show n = e.born by omega]; exact List.mem_cons_self .., h1, h3⟩
   · obtain ⟨k2, v2, a1, a2, a3⟩ := ih h4 e he
     exact ⟨k2, v2, List.mem_cons_of_mem _ a1, a2, a3⟩
theorem mem_pair {c : List (Int × Nat × Value)} : ∀ {es : List MapEntry}, PairRel ι (mflat c) es → ∀ k n v, (k, n, v) ∈ c → ∃ e ∈ es, e.born = n := by
 induction c with
 | nil => intro es hp k n v hc; simp at hc
 | cons p c ih =>
  obtain ⟨k, n, v⟩ := p
  intro es hp k2 n2 v2 hc
  unfold mflat at hp
  generalize hX : I k :: I n :: v :: mflat c = X at hp
  cases hp with
  | nil => cases hX
  | cons h1 h2 h3 h4 =>
   rename_i c3 e2 es2
   injection hX with q1 q2
   injection q2 with q3 q4
   injection q4 with q5 q6
   subst q1 q5 q6
   injection q3 with _ q3
   rcases List.mem_cons.1 hc with hc | hc
   · injection hc with _ hc; injection hc with hc _
     exact ⟨e2, List.mem_cons_self .., by omega⟩
   · obtain ⟨e, a1, a2⟩ := ih h4 k2 n2 v2 hc
     exact ⟨e, List.mem_cons_of_mem _ a1, a2⟩
structure Iter (base : Nat) (ι : Lay) (bm br : Nat) (mx : MapX) (seen : List Nat) (h : AHeap) (w : World) : Prop where
 ex : ∃ em er, ι bm = some em ∧ em.mp = true ∧ ι br = some er ∧ er.off = 0 ∧ er.mp = false ∧ Off ι h er.block ∧ w.heap[er.block]? = some (.mapIter (some em.block) mx.ck seen.reverse.toArray mx.ck)
 ob : ∃ sz ro f st k, h.o bm = .cells sz ro f st k (mcells mx)
theorem Iter.keep {bm br : Nat} {mx mx' : MapX} {seen : List Nat} (hi : Iter base ι bm br mx seen h w) (hr : HRel base ι h w) (hm : More base ι ι1 h h1 w) (hk : Keep0 ι h h1 w w1) (hck : mx'.ck = mx.ck) (hob : ∃ sz ro f st k, h1.o bm = .cells sz ro f st k (mcells mx')) : Iter base ι1 bm br mx' seen h1 w1 := by
 obtain ⟨em, er, q1, q2, q3, q4, q5, q6, q7⟩ := hi.ex
 exact ⟨⟨em, er, More.lay hr hm _ _ q1, q2, More.lay hr hm _ _ q3, q4, q5, q6.more hr hm (hr.blk _ _ q3), by rw [q6.keep hr hm hk (hr.blk _ _ q3), hck]; exact q7⟩, hob⟩
theorem iter_next {bm br : Nat} {mx : MapX} {seen : List Nat} (hi : Iter base ι bm br mx seen h w) (hr : HRel base ι h w) {ty : TypeId} {er : Ext} (her : ι br = some er) :
  ((∀ e ∈ mx.es, e.2.1 ∈ seen) ∧ (Instr.next (.pointer (some ⟨er.block, 0, none⟩)) false ty).run P w = .ok (.tuple #[.bool false]) w) ∨
  ∃ k n v v' w1, (k, n, v) ∈ mx.es ∧ n ∉ seen ∧ VRel ι v v' ∧ (Instr.next (.pointer (some ⟨er.block, 0, none⟩)) false ty).run P w = .ok (.tuple #[.bool true, I k, v']) w1 ∧ HRel base ι h w1 ∧ w1.heap.size = w.heap.size ∧ (∀ ι0 h0 w0, Keep0 ι0 h0 h w0 w → w0.heap.size ≤ er.block → Keep0 ι0 h0 h w0 w1) ∧ Iter base ι bm br mx (n :: seen) h w1 ∧
   (Instr.entry (.pointer (some ⟨er.block, 0, none⟩))).run P w1 = .ok (.tuple #[I k, v']) w1 := by
 obtain ⟨em, er', q1, q2, q3, q4, q5, q6, q7⟩ := hi.ex
 obtain rfl := Option.some.inj (her.symm.trans q3)
 obtain ⟨sz, ro, f, st, kk, hob⟩ := hi.ob
 obtain ⟨hone, es, clock, hes, c, hc0, hp, hp2, hp3⟩ := hr.maps bm em _ _ _ _ _ _ q1 q2 hob
 unfold mcells at hc0
 injection hc0 with e1 e2
 injection e1 with _ e1
 have e1 : clock = mx.ck := by omega
 subst e1 e2
 have hne : er.block ≠ em.block := fun q => by
  have := q6 bm em q1 q.symm
  rw [hob] at this
  cases this
 rcases run_next_at (P := P) w ty er.block em.block mx.ck mx.ck seen.reverse.toArray es mx.ck q7 hes hp2 (Nat.le_refl _) with ⟨a1, a2⟩ | ⟨e, he, w1, a1, a2⟩
 · refine .inl ⟨fun e he => ?_, a2⟩
   obtain ⟨k, n, v⟩ := e
   obtain ⟨e, b1, b2⟩ := mem_pair hp k n v he
   have : seen.reverse.toArray.contains e.born = true := by
    cases hc : seen.reverse.toArray.contains e.born with
    | true => rfl
    | false =>
     exfalso
     have hm : e ∈ leftOf es seen.reverse.toArray := Array.mem_filter.2 ⟨Array.mem_toList_iff.1 b1, by rw [hc]; rfl⟩
     have := Array.size_pos_of_mem hm
     omega
   rw [b2] at this
   simpa using this
 · right
   have hm := Array.mem_filter.1 (Array.mem_toList_iff.1 he)
   obtain ⟨k, v, b1, b2, b3⟩ := pair_mem hp e (Array.mem_toList_iff.2 hm.1)
   have hns : e.born ∉ seen := by
    have := hm.2
    simpa using this
   have hlt : er.block < w.heap.size := hr.blk _ _ her
   have hset : ∀ w2 : World, ChangeMaps.setBlock w2 er.block (.mapIter (some em.block) mx.ck (seen.reverse.toArray.push e.born) mx.ck) = w2.putObj er.block (.mapIter (some em.block) mx.ck (seen.reverse.toArray.push e.born) mx.ck) := fun w2 => rfl
   have hpush : seen.reverse.toArray.push e.born = (e.born :: seen).reverse.toArray := by simp
   rw [b2, hset] at a2
   have hw1 : w1.heap = w.heap ∧ w1.os = w.os ∧ w1.tape = w.tape ∧ w1.output = w.output ∧ HRel base ι h w1 := by
    rcases a1 with rfl | rfl
    · exact ⟨rfl, rfl, rfl, rfl, hr⟩
    · exact ⟨rfl, rfl, rfl, rfl, hr.drew⟩
   obtain ⟨g1, g2, g3, g4, g5⟩ := hw1
   have hlt1 : er.block < w1.heap.size := by rw [g1]; exact hlt
   generalize hobj : Obj.mapIter (some em.block) mx.ck (seen.reverse.toArray.push e.born) mx.ck = o at a2
   have hoth : ∀ B, B ≠ er.block → (w1.putObj er.block o).heap[B]? = w.heap[B]? := fun B hB => by rw [World.putObj_heap_other hB, g1]
   have hd : ∀ ι0 h0 w0, Keep0 ι0 h0 h w0 w → Keep0 ι0 h0 h w0 w1 := fun ι0 h0 w0 hk => by
    rcases a1 with rfl | rfl
    · exact hk
    · exact ⟨hk.os, hk.tape, hk.output, hk.size, hk.block, hk.cell, hk.there⟩
   refine ⟨k, e.born, v, e.val, _, b1, hns, b3, a2, g5.put q6 o, by rw [World.putObj_size, g1], fun ι0 h0 w0 hk hB => (hd ι0 h0 w0 hk).put hB o, ⟨⟨em, er, q1, q2, her, q4, q5, q6, ?_⟩, ⟨_, _, _, _, _, hob⟩⟩, ?_⟩
   · rw [World.putObj_heap_same hlt1, ← hobj, hpush]
   · refine (run_entry_at (P := P) (w1.putObj er.block o) er.block em.block mx.ck seen.reverse.toArray es mx.ck e ?_ ?_ (Array.mem_toList_iff.2 hm.1) ?_).trans (by rw [b2])
     · rw [World.putObj_heap_same hlt1, ← hobj]
     · rw [hoth _ (Ne.symm hne)]; exact hes
     · have p2 : (es.toList.map (·.born)).Pairwise (· < ·) := List.pairwise_map.2 hp3
       exact p2.imp fun hlt => Nat.ne_of_lt hlt
theorem opsIn_value {ops : Array Oper} {i : Nat} {rest : List Nat} {o : Oper} {a : Act} {v : Value} {Q : Exit → Act → World → Prop} (ho : ops[i]? = some o) (hg : o.guard = none) (hnd : ∀ c, o.op ≠ .defer c) (hrun : (execOp a.eval o).run P w = .ok (.value v) w1)
  (h : wpOpsIn (FR none) 0 P ops Q rest (a.put o.dst v) w1) : wpOpsIn (FR none) 0 P ops Q (i :: rest) a w := by
 rw [wpOpsIn_cons]
 unfold wpOpIn
 simp only [ho]
 have hwant : Region.wanted o (yielded ops a.tmps) = true := by unfold Region.wanted; rw [hg]
 rw [hwant, if_pos rfl]
 refine ⟨fun _ _ => trivial, ?_⟩
 rw [Oper.semAt_eq _ _ _ hnd, hrun]
 exact h
theorem exec_next {o : Oper} {ρ : Operand → Value} {y : Operand} {b : Bool} {v v0 : Value} (ho : o.op = .next y b) (hy : ρ y = v0) (h : (Instr.next v0 b o.type).run P w = .ok v w1) : (execOp ρ o).run P w = .ok (.value v) w1 := by
 subst hy
 unfold execOp
 rw [ho]
 simp only [Sem.run_bind, h, Result.andThen_ok, Sem.run_pure]
theorem exec_entry {o : Oper} {ρ : Operand → Value} {y : Operand} {v v0 : Value} (ho : o.op = .entry y) (hy : ρ y = v0) (h : (Instr.entry v0).run P w = .ok v w1) : (execOp ρ o).run P w = .ok (.value v) w1 := by
 subst hy
 unfold execOp
 rw [ho]
 simp only [Sem.run_bind, h, Result.andThen_ok, Sem.run_pure]
theorem exec_extract {o : Oper} {ρ : Operand → Value} {y : Operand} {i : Nat} {v : Value} {vs : Array Value} (ho : o.op = .extract y i) (hy : ρ y = .tuple vs) (h : vs[i]? = some v) : (execOp ρ o).run P w = .ok (.value v) w := by
 unfold execOp
 rw [ho]
 simp only [hy, Instr.extract, h, Sem.run_bind, Sem.run_pure, Result.andThen_ok]
def stamps (mx : MapX) : List Nat := mx.es.map (·.2.1)
def unseen (ns seen : List Nat) : Nat := (ns.filter fun n => !seen.contains n).length
theorem unseen_lt {seen : List Nat} {n : Nat} (hn : n ∉ seen) : ∀ {ns : List Nat}, n ∈ ns → unseen ns (n :: seen) < unseen ns seen
 | m :: ns, hm => by
  have hle : ∀ l : List Nat, unseen l (n :: seen) ≤ unseen l seen := fun l => by
   unfold unseen
   induction l with
   | nil => exact Nat.le_refl _
   | cons a l ih =>
    simp only [List.contains_cons] at ih
    simp only [List.filter_cons, List.contains_cons]
    by_cases ha : seen.contains a = true
    · simp only [ha, Bool.or_true, Bool.not_true, Bool.false_eq_true, if_false]; exact ih
    · have ha' : seen.contains a = false := by simpa using ha
      simp only [ha', Bool.or_false, Bool.not_false, if_true, List.length_cons]
      split
      · rw [List.length_cons]; omega
      · omega
  have step : ∀ a, unseen (a :: ns) seen = (if seen.contains a then 0 else 1) + unseen ns seen := fun a => by
   unfold unseen
   rw [List.filter_cons]
   cases seen.contains a <;> simp <;> omega
  have step2 : ∀ a, unseen (a :: ns) (n :: seen) = (if (n :: seen).contains a then 0 else 1) + unseen ns (n :: seen) := fun a => by
   unfold unseen
   rw [List.filter_cons]
   cases (n :: seen).contains a <;> simp <;> omega
  rw [step, step2]
  rcases List.mem_cons.1 hm with rfl | hm
  · have h1 : seen.contains n = false := by simpa using hn
    have h2 : (n :: seen).contains n = true := by simp
    rw [h1, h2]
    have := hle ns
    simp
    omega
  · have := unseen_lt hn hm
    have h3 : (if (n :: seen).contains m then 0 else 1) ≤ (if seen.contains m then 0 else 1) := by
     rw [List.contains_cons]
     cases seen.contains m <;> cases m == n <;> simp
    omega
theorem range_loop (hm : P.follows .mixedOrders = true) {β : Type} (LI : β → Tmps) (OI : β → Objs) (Inv : MapX → List Nat → β → Prop) {bm br : Nat} {b1 b2 i3 i4 : Nat} {it tn tk te : Tmp} {t1 t2 t3 : TypeId} {p1 p2 p3 : String} {af1 af2 af3 : Array Edge} {eops : Array Oper} {el : List Oper} {c2 : Code}
  (hx : x.ρ = .late) (hel : eops.toList = { dst := some te, op := .entry (.tmp it), type := t3, pos := p3, after := af3, guard := none } :: el) (hke : regOk eops x.m = true) (hkc : codeOk x.m c2 = true) (htn : tn < x.m) (htk : tk < x.m) (hte : te < x.m) (hne : (Nat.beq tn it || Nat.beq tk it) = false)
  (hit : ∀ mx seen y, Inv mx seen y → getT (LI y) it = some (Ptr br 0)) (hmap : ∀ mx seen y, Inv mx seen y → ∃ sz ro, Knows (OI y) bm ⟨sz, ro, mcells mx⟩)
  (hround : ∀ mx seen y k n v, Inv mx seen y → (k, n, v) ∈ mx.es → n ∉ seen →
   WXL P x eops noMk 1 el ((te, .tuple #[I k, v]) :: (tk, .bool true) :: (tn, .tuple #[.bool true, I k, v]) :: LI y) (OI y) fun s => W P .late c2 s fun e s' => e = .normal ∧ ∃ mx' y', Inv mx' (n :: seen) y' ∧ mx'.ck = mx.ck ∧ stamps mx' = stamps mx ∧ St x (LI y') (OI y') s')
  {ι0 : Lay} {h0 : AHeap} {w0 : World} (hr0 : HRel base ι0 h0 w0) {Q : Exit → Act → World → Prop} {D : List Deferred}
  (hend : ∀ mx seen y ι s a w, Inv mx seen y → (∀ e ∈ mx.es, e.2.1 ∈ seen) → St x ((tk, .bool false) :: (tn, .tuple #[.bool false]) :: LI y) (OI y) s → SRel base ι s a w → More base ι0 ι h0 s.h w0 → Keep0 ι0 h0 s.h w0 w → a.defers = D → Stay h0 s.h → Q .normal a w)
  {mx : MapX} {y : β} (hI : Inv mx [] y) {s : ASt} {a : Act} (hst : St x (LI y) (OI y) s) (hs : SRel base ι s a w) (hm0 : More base ι0 ι h0 s.h w0) (hk0 : Keep0 ι0 h0 s.h w0 w) (hD : a.defers = D) (hsy0 : Stay h0 s.h) (hi : Iter base ι bm br mx [] s.h w) (hbr : ∀ er, ι br = some er → w0.heap.size ≤ er.block) :
  (Code.block b1 (.loop (.seq (.region i3 #[{ dst := some tn, op := .next (.tmp it) false, type := t1, pos := p1, after := af1, guard := none }, { dst := some tk, op := .extract (.tmp tn) 0, type := t2, pos := p2, after := af2, guard := none }] false)
   (.seq (.cond (.tmp tk) .skip (.exit b1)) (.block b2 (.seq (.region i4 eops false) c2)))))).wpIn (FR none) 0 P Q a w := by
 refine wpIn_block (wpIn_loop_rounds (unseen (stamps mx) [] + 1) ?_)
 have key : ∀ (m : Nat) (seen : List Nat) (mx : MapX) (y : β) (ι : Lay) (s : ASt) (a : Act) (w : World), unseen (stamps mx) seen ≤ m → Inv mx seen y → St x (LI y) (OI y) s → SRel base ι s a w → More base ι0 ι h0 s.h w0 → Keep0 ι0 h0 s.h w0 w → a.defers = D → Stay h0 s.h → Iter base ι bm br mx seen s.h w → (∀ er, ι br = some er → w0.heap.size ≤ er.block) →
   Code.roundsIn (FR none) 0 P (.seq (.region i3 #[{ dst := some tn, op := .next (.tmp it) false, type := t1, pos := p1, after := af1, guard := none }, { dst := some tk, op := .extract (.tmp tn) 0, type := t2, pos := p2, after := af2, guard := none }] false)
   (.seq (.cond (.tmp tk) .skip (.exit b1)) (.block b2 (.seq (.region i4 eops false) c2)))) (Exit.inBlock b1 Q) (m + 1) a w := by
  intro m
  induction m using Nat.strongRecOn with
  | _ m ih =>
   intro seen mx y ι s a w hle hI hst hs hm0 hk0 hD hsy hi hbr
   obtain ⟨em, er, q1, q2, q3, q4, q5, q6, q7⟩ := hi.ex
   have hB := hbr er q3
   have hev : a.eval (.tmp it) = .pointer (some ⟨er.block, 0, none⟩) := by
    have h1 := hs.tmps it
    rw [hst.t it _ (hit mx seen y hI)] at h1
    obtain ⟨e, he, _, hpe⟩ := h1.ptr_inv
    obtain rfl := Option.some.inj (q3.symm.trans he)
    show a.tmps.getD it undef = _
    rw [hpe, q4]
   have dtn : ∀ d, some tn = some d → d < s.m := fun d hd => by injection hd with hd; rw [hst.m, ← hd]; exact htn
   have dtk : ∀ d, some tk = some d → d < s.m := fun d hd => by injection hd with hd; rw [hst.m, ← hd]; exact htk
   have dte : ∀ d, some te = some d → d < s.m := fun d hd => by injection hd with hd; rw [hst.m, ← hd]; exact hte
   have evp : ∀ (a : Act) (d : Tmp) (v : Value) (m : Nat), a.tmps.size = m → d < m → (a.put (some d) v).eval (.tmp d) = v := fun a d v m h1 h2 => by
    show (a.put (some d) v).tmps.getD d undef = v
    rw [put_getD h1 (fun d' hd => by injection hd with hd; rw [← hd]; exact h2), if_pos rfl]
   rw [roundsIn_succ]
   refine wpIn_seq (wpIn_region ?_)
   show wpOpsIn (FR none) 0 P _ _ [0, 1] a w
   rcases iter_next hi hs.heap (ty := t1) q3 with ⟨g1, g2⟩ | ⟨k, n, v, v', w1, g1, g2, g3, g4, g5, g6, g7, g8, g9⟩
   · have hs1 := hs.put (dst := some tn) (v := .tuple #[.bool false]) (v' := .tuple #[.bool false]) dtn (More.refl hs.heap) (.tuple rfl fun i u u' hu hu' => by
       rcases i with _ | i
       · simp at hu hu'; subst hu hu'; exact .atom rfl
       · simp at hu) hs.heap (Nat.le_refl _)
     have hs2 := hs1.put (dst := some tk) (v := .bool false) (v' := .bool false) (fun d hd => by rw [put_m]; exact dtk d hd) (More.refl hs1.heap) (.atom rfl) hs1.heap (Nat.le_refl _)
     refine opsIn_value (v := .tuple #[.bool false]) (w1 := w) rfl rfl (fun c h => by cases h) ?_ ?_
     · exact exec_next rfl hev g2
     refine opsIn_value (v := .bool false) (w1 := w) rfl rfl (fun c h => by cases h) ?_ ?_
     · exact exec_extract rfl (show (a.put (some tn) (.tuple #[.bool false])).eval (.tmp tn) = .tuple #[.bool false] from evp a tn _ s.m hs.size (dtn _ rfl)) rfl
     show (Code.seq (.cond (.tmp tk) .skip (.exit b1)) (.block b2 (.seq (.region i4 eops false) c2))).wpIn (FR none) 0 P _ _ w
     refine wpIn_seq (wpIn_cond_false (evp _ tk _ s.m (hs1.size.trans (put_m _ _ _ _)) (dtk _ rfl)) (wpIn_exit ?_))
     show (if b1 = b1 then _ else _)
     rw [if_pos rfl]
     refine hend mx seen y ι _ _ w hI g1 ⟨?_, (hst.t.put tn _ _).put tk _ _, ?_, fun q => ?_⟩ hs2 (by rw [put_h]; exact hm0) (by rw [put_h]; exact hk0) hD (by rw [put_h]; exact hsy)
     · rw [put_m, put_m]; exact hst.m
     · rw [put_h]; exact hst.sat
     · rw [put_h]; exact hst.old q
   · have hs1 := hs.put (dst := some tn) (v := .tuple #[.bool true, I k, v]) (v' := .tuple #[.bool true, I k, v']) (w1 := w1) dtn (More.refl hs.heap) (.tuple rfl fun i u u' hu hu' => by
       rcases i with _ | _ | _ | i
       · simp at hu hu'; subst hu hu'; exact .atom rfl
       · simp at hu hu'; subst hu hu'; exact .atom rfl
       · simp at hu hu'; subst hu hu'; exact g3
       · simp at hu) g5 (by omega)
     have hs2 := hs1.put (dst := some tk) (v := .bool true) (v' := .bool true) (fun d hd => by rw [put_m]; exact dtk d hd) (More.refl hs1.heap) (.atom rfl) hs1.heap (Nat.le_refl _)
     have hs3 := hs2.put (dst := some te) (v := .tuple #[I k, v]) (v' := .tuple #[I k, v']) (fun d hd => by rw [put_m, put_m]; exact dte d hd) (More.refl hs2.heap) (.tuple rfl fun i u u' hu hu' => by
      rcases i with _ | _ | i
      · simp at hu hu'; subst hu hu'; exact .atom rfl
      · simp at hu hu'; subst hu hu'; exact g3
      · simp at hu) hs2.heap (Nat.le_refl _)
     refine opsIn_value (v := .tuple #[.bool true, I k, v']) (w1 := w1) rfl rfl (fun c h => by cases h) ?_ ?_
     · exact exec_next rfl hev g4
     refine opsIn_value (v := .bool true) (w1 := w1) rfl rfl (fun c h => by cases h) ?_ ?_
     · exact exec_extract rfl (show (a.put (some tn) (.tuple #[.bool true, I k, v'])).eval (.tmp tn) = .tuple #[.bool true, I k, v'] from evp a tn _ s.m hs.size (dtn _ rfl)) rfl
     show (Code.seq (.cond (.tmp tk) .skip (.exit b1)) (.block b2 (.seq (.region i4 eops false) c2))).wpIn (FR none) 0 P _ _ w1
     refine wpIn_seq (wpIn_cond_true (evp _ tk _ s.m (hs1.size.trans (put_m _ _ _ _)) (dtk _ rfl)) (wpIn_skip ?_))
     show (Code.block b2 (.seq (.region i4 eops false) c2)).wpIn (FR none) 0 P _ _ w1
     refine wpIn_block (wpIn_seq (wpIn_region ?_))
     have hsz : eops.size = el.length + 1 := by rw [← Array.length_toList, hel]; rfl
     have hrg : List.range eops.size = 0 :: (List.range' 1 el.length ++ []) := by rw [hsz, List.range_eq_range', List.range'_succ, List.append_nil]
     rw [hrg]
     have hev2 : ((a.put (some tn) (.tuple #[.bool true, I k, v'])).put (some tk) (.bool true)).eval (.tmp it) = .pointer (some ⟨er.block, 0, none⟩) := by
      rw [← hev]
      show (Act.put _ _ _).tmps.getD it undef = a.tmps.getD it undef
      have n1 : tn ≠ it := fun e => by rw [e] at hne; simp at hne
      have n2 : tk ≠ it := fun e => by rw [e] at hne; simp at hne
      rw [put_getD (hs1.size.trans (put_m _ _ _ _)) dtk, if_neg (fun e => n2 (by injection e)), put_getD hs.size dtn, if_neg (fun e => n1 (by injection e))]
     refine opsIn_value (v := .tuple #[I k, v']) (w1 := w1) (by rw [← Array.getElem?_toList, hel]; rfl) rfl (fun c h => by cases h) ?_ ?_
     · exact exec_entry rfl hev2 g9
     have hst3 : St x ((te, .tuple #[I k, v]) :: (tk, .bool true) :: (tn, .tuple #[.bool true, I k, v]) :: LI y) (OI y) (((s.put (some tn) (.tuple #[.bool true, I k, v]) s.h).put (some tk) (.bool true) s.h).put (some te) (.tuple #[I k, v]) s.h) :=
      ⟨hst.m, ((hst.t.put tn _ s.h).put tk _ s.h).put te _ s.h, hst.sat, hst.old⟩
     refine WXL.wp hm (hround mx seen y k n v hI g1 g2) hx ⟨[], by rw [hel, List.append_nil]; rfl⟩ [] hke hst3 hs3 fun s4 ι4 a4 w4 hK r1 r2 r3 r4 r5 r6 => ?_
     obtain ⟨e5, s5, b5, _, rfl, mx', y', i1, i2, i3, i4'⟩ := hK (by rw [r5]; exact hkc)
     have hc5 : SoundC P .late c2 s4 .normal s5 := sound (fun _ _ _ h => draw_ok hm h) b5
     refine hc5.2.2.1 none base ι4 a4 w4 _ (fun _ => rfl) r1 CtxOk.none.late fun ι5 a5 w5 ds u1 u2 u3 u4 u5 => ?_
     have hlt := unseen_lt (seen := seen) g2 (ns := stamps mx) (List.mem_map.2 ⟨_, g1, rfl⟩)
     obtain ⟨m', rfl⟩ : ∃ m', m = m' + 1 := ⟨m - 1, by omega⟩
     show Code.roundsIn (FR none) 0 P _ _ (m' + 1) a5 w5
     have hr1 : HRel base ι s.h w1 := g5
     have mm := More.trans hr1 r1.heap r2 u2 r3.size
     have kk := Keep0.trans hr1 r1.heap r2 u2 r3 u3
     have kw := g7 ι0 h0 w0 hk0 hB
     obtain ⟨sz, ro, hkn⟩ := hmap mx' (n :: seen) y' i1
     obtain ⟨f, kv, hob⟩ := hkn s5.h i4'.sat
     refine ih m' (by omega) (n :: seen) mx' y' ι5 s5 a5 w5 (by rw [i3]; omega) i1 i4' u1 (More.trans hr0 hr1 hm0 mm kw.size) (Keep0.trans hr0 hr1 hm0 mm kw kk) ?_ (hsy.trans (Stay.trans r6 (stayJ b5))) (g8.keep hr1 mm kk i2 ⟨_, _, _, _, _, hob⟩) fun er' her' => ?_
     · rw [u4, u5.2.2 rfl, List.nil_append, r4]; exact hD
     · rw [More.lay hr1 mm _ _ q3] at her'
       obtain rfl := Option.some.inj her'
       exact hB
 exact key _ [] mx y ι s a w (Nat.le_refl _) hI hst hs hm0 hk0 hD hsy0 hi hbr
theorem exec_range {o : Oper} {ρ : Operand → Value} {y : Operand} {ty : TypeId} {v v0 : Value} (ho : o.op = .range ty y) (hy : ρ y = v0) (h : (Instr.range ty v0).run P w = .ok v w1) : (execOp ρ o).run P w = .ok (.value v) w1 := by
 subst hy
 unfold execOp
 rw [ho]
 simp only [Sem.run_bind, h, Result.andThen_ok, Sem.run_pure]
theorem Sat.bump {O : Objs} (hsat : Sat h O) : Sat h.bump O := ⟨hsat.nd, fun p hp => hsat.is p hp, ⟨fun b sz ro f m k c ho => by
      obtain ⟨q1, q2⟩ := hsat.wf.wf b sz ro f m k c ho
      exact ⟨Nat.lt_succ_of_lt q1, q2⟩, hsat.wf.fam, hsat.wf.uniq, fun b hb => hsat.wf.out b (Nat.le_of_succ_le hb)⟩⟩
theorem range_start {ops : Array Oper} {n : Nat} {it : Tmp} {ty t0 k e : TypeId} {p0 : String} {af : Array Edge} {y : Operand} {bm sz : Nat} {ro : Bool} {mx : MapX} {s : ASt} {a : Act} {Q : Exit → Act → World → Prop}
  (ho : ops[n]? = some { dst := some it, op := .range ty y, type := t0, pos := p0, after := af, guard := none }) (hu : P.underlying ty = some (.map k e)) (hy : evL L y = some (Mp bm)) (hoy : okOperand y = true) (hkn : Knows O bm ⟨sz, ro, mcells mx⟩) (hit : it < x.m) (hxq : x.q = false)
  (hst : St x L O s) (hs : SRel base ι s a w)
  (h : ∀ ι' a' w', St x ((it, Ptr s.h.n 0) :: L) O (s.put (some it) (Ptr s.h.n 0) s.h.bump) → SRel base ι' (s.put (some it) (Ptr s.h.n 0) s.h.bump) a' w' → Iter base ι' bm s.h.n mx [] s.h.bump w' → More base ι ι' s.h s.h.bump w → Keep0 ι s.h s.h.bump w w' → (∀ er, ι' s.h.n = some er → w.heap.size ≤ er.block) → a'.defers = a.defers → Q .normal a' w') :
  wpOpsIn (FR none) 0 P ops Q [n] a w := by
 obtain ⟨f, kv, hob⟩ := hkn s.h hst.sat
 have hrel := operand_rel hs.tmps hoy
 rw [hst.t.ev hy] at hrel
 obtain ⟨em, q1, q2, q3⟩ := map_inv hrel
 obtain ⟨hone, es, clock, hes, c, hc0, hp, hp2, hp3⟩ := hs.heap.maps bm em _ _ _ _ _ _ q1 q2 hob
 unfold mcells at hc0
 injection hc0 with e1 e2
 injection e1 with _ e1
 have e1 : clock = mx.ck := by omega
 subst e1 e2
 have hrun := run_range_map (P := P) w ty k e em.block es mx.ck hu hes
 refine opsIn_value ho rfl (fun c h => by cases h) (exec_range rfl q3 hrun) ?_
 obtain ⟨W1, hW1⟩ : ∃ W1, W1 = w.alloc (.mapIter (some em.block) mx.ck #[] mx.ck) := ⟨_, rfl⟩
 have hsz : W1.heap.size = w.heap.size + 1 := by rw [hW1, World.size_alloc]
 have hbelow : ∀ B, B < w.heap.size → W1.heap[B]? = w.heap[B]? := fun B hB => by
  rw [hW1]
  show ((w.heap.push _)[B]? = _)
  rw [Array.getElem?_push, if_neg (by omega)]
 have hrec : W1.heap[w.heap.size]? = some (.mapIter (some em.block) mx.ck #[] mx.ck) := by
  rw [hW1]; exact World.alloc_heap_new _ _
 rw [← hW1]
 obtain ⟨ι1, hι1⟩ : ∃ ι1 : Lay, ι1 = fun b => if b = s.h.n then some ⟨w.heap.size, 0, 0, 0, false⟩ else ι b := ⟨_, rfl⟩
 have hr1 : HRel base ι1 s.h.bump W1 := by rw [hι1]; exact hs.heap.bump (by omega) hbelow (by show w.heap.size < _; omega) (Nat.le_refl _)
 have hm1 : More base ι ι1 s.h s.h.bump w := by rw [hι1]; exact More.bump hs.heap (Nat.le_refl _)
 have hk1 : Keep0 ι s.h s.h.bump w W1 := Keep0.grow (by rw [hW1]; rfl) (by rw [hW1]; rfl) (by rw [hW1]; rfl) (by omega) hbelow
 have hnew : ι1 s.h.n = some ⟨w.heap.size, 0, 0, 0, false⟩ := by rw [hι1]; exact if_pos rfl
 have hoff : Off ι1 s.h.bump w.heap.size := fun b e hb he => by
  rw [hι1] at hb
  by_cases hn : b = s.h.n
  · rw [hn]; exact hs.heap.out _ (Nat.le_refl _)
  · simp only [if_neg hn] at hb
    have := hs.heap.blk b e hb
    omega
 have hs1 := hs.put (dst := some it) (v := Ptr s.h.n 0) (v' := .pointer (some ⟨w.heap.size, 0, none⟩)) (fun d hd => by injection hd with hd; rw [hst.m, ← hd]; exact hit) hm1 (.ptr hnew rfl) hr1 (by omega)
 refine h ι1 _ W1 ⟨by rw [put_m]; exact hst.m, hst.t.put it _ _, hst.sat.bump, fun q => by rw [hxq] at q; cases q⟩ hs1 ⟨⟨em, _, More.lay hs.heap hm1 _ _ q1, q2, hnew, rfl, rfl, hoff, hrec⟩, ⟨_, _, _, _, _, hob⟩⟩ hm1 hk1 (fun er her => ?_) rfl
 rw [hnew] at her
 obtain rfl := Option.some.inj her
 exact Nat.le_refl _
theorem callSem_of {f : FuncId} {fn : Func} {c : Code} {args : Array Value} {v : Value} (hf : P.funcs[f]? = some fn) (hb : fn.body = some c)
  (hw : ∀ base ι (w : World) (a : Act), SRel base ι (enterA fn args h) a w → a.defers = [] → c.wpIn (FR none) 0 P (fun e a' w' => (e = .normal ∨ e = .ret) ∧ a'.defers = [] ∧ ∃ ι' v', (results fn a'.tmps).run P w' = .ok v' w' ∧ More base ι ι' h h' w ∧ VRel ι' v v' ∧ HRel base ι' h' w' ∧ Keep0 ι h h' w w') a w) :
  ∀ ρ, CallSem P ρ f args h v h' := by
 intro ρ base ι w args' hr hbs hctx ha
 refine callsIn_wide (n := 0) |>.1 (callsIn_of_wp_marks hf hb trivial (wpIn_mono (hw base ι w _ (enter_rel hr hbs ha) rfl) ?_))
 intro e a' w' ⟨he, hd, ι', v', q1, q2, q3, q4, q5⟩
 have : LeavesInM (FR none) 0 P fn a'.tmps (fun e w' => ∃ ι' v', e = .returned v' ∧ More base ι ι' h h' w ∧ VRel ι' v v' ∧ HRel base ι' h' w' ∧ Keep0 ι h h' w w') a'.defers .returning w' := by
  rw [hd]
  exact ⟨v', q1, ι', v', rfl, q2, q3, q4, q5⟩
 rcases he with rfl | rfl <;> exact this
theorem WXL.nilK {ops : Array Oper} {mq : Mk} {i : Nat} {K : ASt → Prop} (h : ∀ s, St x L O s → K s) : WXL P x ops mq i [] L O K := fun _ _ s hs _ => ⟨s, .nil, rfl, h s hs⟩
def At (x : Cx) (L : Tmps) (O : Objs) (base : Nat) (ι0 : Lay) (h0 : AHeap) (w0 : World) (D : List Deferred) (a : Act) (w : World) : Prop :=
 ∃ ι s, St x L O s ∧ SRel base ι s a w ∧ More base ι0 ι h0 s.h w0 ∧ Keep0 ι0 h0 s.h w0 w ∧ a.defers = D ∧ Stay h0 s.h
variable {ι0 : Lay} {h0 : AHeap} {w0 : World} {D : List Deferred} {a : Act} {Q : Exit → Act → World → Prop}
theorem At.run (hm : P.follows .mixedOrders = true) (hr0 : HRel base ι0 h0 w0) (hat : At x L O base ι0 h0 w0 D a w) {c : Code} {R : Exit → Tmps → Objs → Prop} (hx : x.ρ = .late) (hk : codeOk x.m c = true)
  (ha : WX P x c L O (fun e s => ∃ L1 O1, R e L1 O1 ∧ St x L1 O1 s)) (h : ∀ e L1 O1 a w, R e L1 O1 → At x L1 O1 base ι0 h0 w0 D a w → Q e a w) : c.wpIn (FR none) 0 P Q a w := by
 obtain ⟨ι, s, h1, h2, h3, h4, h5, h6⟩ := hat
 refine WX.wp hm ha hx hk h1 h2 fun e s' ι' a' w' ⟨L1, O1, q1, q2⟩ r1 r2 r3 r4 r5 => h e L1 O1 a' w' q1 ⟨ι', s', q2, r1, More.trans hr0 h2.heap h3 r2 h4.size, Keep0.trans hr0 h2.heap h3 r2 h4 r3, r4.trans h5, h6.trans r5⟩
theorem At.seq (hm : P.follows .mixedOrders = true) (hr0 : HRel base ι0 h0 w0) (hat : At x L O base ι0 h0 w0 D a w) {c1 c2 : Code} {L1 : Tmps} {O1 : Objs} (hx : x.ρ = .late) (hk : codeOk x.m c1 = true)
  (ha : WX P x c1 L O (fun e s => e = .normal ∧ St x L1 O1 s)) (h : ∀ a w, At x L1 O1 base ι0 h0 w0 D a w → c2.wpIn (FR none) 0 P Q a w) : (Code.seq c1 c2).wpIn (FR none) 0 P Q a w :=
 wpIn_seq (At.run (R := fun e L' O' => e = .normal ∧ L' = L1 ∧ O' = O1) hm hr0 hat hx hk (fun s hs hk => by
  obtain ⟨e, s', b1, b2, b3, b4⟩ := ha s hs hk
  exact ⟨e, s', b1, b2, L1, O1, ⟨b3, rfl, rfl⟩, b4⟩) fun e L' O' a w ⟨q1, q2, q3⟩ hat => by
   subst q1 q2 q3
   exact h a w hat)
theorem pair_stamps {c : List (Int × Nat × Value)} : ∀ {es : List MapEntry}, PairRel ι (mflat c) es → c.map (·.2.1) = es.map (·.born) := by
 induction c with
 | nil => intro es hp; cases hp; rfl
 | cons p c ih =>
  obtain ⟨k, n, v⟩ := p
  intro es hp
  unfold mflat at hp
  generalize hX : I k :: I n :: v :: mflat c = X at hp
  cases hp with
  | nil => cases hX
  | cons h1 h2 h3 h4 =>
   rename_i c3 e2 es2
   injection hX with q1 q2
   injection q2 with q3 q4
   injection q4 with q5 q6
   subst q1 q5 q6
   injection q3 with _ q3
   rw [List.map_cons, List.map_cons, ih h4]
   congr 1
   show n = e2.born
   omega
theorem At.range (hm : P.follows .mixedOrders = true) (hr0 : HRel base ι0 h0 w0) (hat : At x L O base ι0 h0 w0 D a w) {β : Type} (LI : Nat → β → Tmps) (OI : β → Objs) (Inv : MapX → List Nat → β → Prop)
  {pl : List Oper} {ops : Array Oper} {i0 b1 b2 i3 i4 : Nat} {it tn tk te : Tmp} {ty t0 t1 t2 t3 kt et : TypeId} {p0 p1 p2 p3 : String} {af0 af1 af2 af3 : Array Edge} {eops : Array Oper} {el : List Oper} {c2 : Code} {y : Operand} {bm sz : Nat} {ro : Bool} {mx : MapX} {L1 : Tmps} {O1 : Objs}
  (hx : x.ρ = .late) (hxq : x.q = false) (n : Nat) (hops1 : ops.toList.take n = pl) (hops2 : ops.toList.drop n = [{ dst := some it, op := .range ty y, type := t0, pos := p0, after := af0, guard := none }]) (hreg : regOk ops x.m = true)
  (hpre : WXL P x ops noMk 0 pl L O (fun s => St x L1 O1 s)) (hu : P.underlying ty = some (.map kt et)) (hy : evL L1 y = some (Mp bm)) (hoy : okOperand y = true) (hkn : Knows O1 bm ⟨sz, ro, mcells mx⟩) (hlt : it < x.m)
  (hel : eops.toList = { dst := some te, op := .entry (.tmp it), type := t3, pos := p3, after := af3, guard := none } :: el) (hke : regOk eops x.m = true) (hkc : codeOk x.m c2 = true) (htn : tn < x.m) (htk : tk < x.m) (hte : te < x.m) (hne : (Nat.beq tn it || Nat.beq tk it) = false)
  (hit : ∀ br mx seen y, Inv mx seen y → getT (LI br y) it = some (Ptr br 0)) (hmap : ∀ mx seen y, Inv mx seen y → ∃ sz ro, Knows (OI y) bm ⟨sz, ro, mcells mx⟩)
  (hround : ∀ br mx seen y k n v, Inv mx seen y → (k, n, v) ∈ mx.es → n ∉ seen →
   WXL P x eops noMk 1 el ((te, .tuple #[I k, v]) :: (tk, .bool true) :: (tn, .tuple #[.bool true, I k, v]) :: LI br y) (OI y) fun s => W P .late c2 s fun e s' => e = .normal ∧ ∃ mx' y', Inv mx' (n :: seen) y' ∧ mx'.ck = mx.ck ∧ stamps mx' = stamps mx ∧ St x (LI br y') (OI y') s')
  {y0 : β} (hI : (stamps mx).Nodup → Inv mx [] y0) (h1 : ∀ br s, St x ((it, Ptr br 0) :: L1) O1 s → St x (LI br y0) (OI y0) s)
  (hend : ∀ br mx seen y a w, Inv mx seen y → (∀ e ∈ mx.es, e.2.1 ∈ seen) → At x ((tk, .bool false) :: (tn, .tuple #[.bool false]) :: LI br y) (OI y) base ι0 h0 w0 D a w → Q .normal a w) :
  (Code.seq (.region i0 ops false) (Code.block b1 (.loop (.seq (.region i3 #[{ dst := some tn, op := .next (.tmp it) false, type := t1, pos := p1, after := af1, guard := none }, { dst := some tk, op := .extract (.tmp tn) 0, type := t2, pos := p2, after := af2, guard := none }] false)
   (.seq (.cond (.tmp tk) .skip (.exit b1)) (.block b2 (.seq (.region i4 eops false) c2))))))).wpIn (FR none) 0 P Q a w := by
 obtain ⟨ι, s, g1, g2, g3, g4, g5, g6⟩ := hat
 have hops : ops.toList = pl ++ [{ dst := some it, op := .range ty y, type := t0, pos := p0, after := af0, guard := none }] := by rw [← hops1, ← hops2, List.take_append_drop]
 refine wpIn_seq (wpIn_region ?_)
 have hsz : ops.size = pl.length + 1 := by rw [← Array.length_toList, hops, List.length_append]; rfl
 have hrg : List.range ops.size = List.range' 0 pl.length ++ [pl.length] := by rw [hsz, List.range_succ, List.range_eq_range']
 rw [hrg]
 refine WXL.wp hm hpre hx ⟨_, by rw [List.drop_zero]; exact hops⟩ [pl.length] hreg g1 g2 fun s2 ι2 a2 w2 hK r1 r2 r3 r4 r5 r6 => ?_
 have m2 := More.trans hr0 g2.heap g3 r2 g4.size
 have k2 := Keep0.trans hr0 g2.heap g3 r2 g4 r3
 refine range_start (x := x) (L := L1) (O := O1) (s := s2) (it := it) (ty := ty) (t0 := t0) (p0 := p0) (af := af0) (y := y) (by rw [← Array.getElem?_toList, hops]; simp) hu hy hoy hkn hlt hxq hK r1 fun ι3 a3 w3 t1 t2 t3 t4 t5 t6 t7 => ?_
 have m3 := More.trans hr0 r1.heap m2 t4 k2.size
 have k3 := Keep0.trans hr0 r1.heap m2 t4 k2 t5
 obtain ⟨f, kv, hob⟩ := hkn s2.h hK.sat
 have hnd : (stamps mx).Nodup := by
  have hrel := operand_rel r1.tmps hoy
  rw [hK.t.ev hy] at hrel
  obtain ⟨em, q1, q2, q3⟩ := map_inv hrel
  obtain ⟨hone, es, clock, hes, c, hc0, hp, hp2, hp3⟩ := r1.heap.maps bm em _ _ _ _ _ _ q1 q2 hob
  unfold mcells at hc0
  injection hc0 with e1 e2
  subst e2
  unfold stamps
  rw [pair_stamps hp]
  have p2 : (es.toList.map (·.born)).Pairwise (· < ·) := List.pairwise_map.2 hp3
  exact p2.imp fun hlt => Nat.ne_of_lt hlt
 refine range_loop hm (LI s2.h.n) OI Inv hx hel hke hkc htn htk hte hne (hit s2.h.n) hmap (hround s2.h.n) hr0 (fun mx seen y ι s a w q1 q2 q3 q4 q5 q6 q7 q8 => hend s2.h.n mx seen y a w q1 q2 ⟨ι, s, q3, q4, q5, q6, q7, q8⟩) (hI hnd) (h1 _ _ t1) t2 (by rw [put_h]; exact m3) (by rw [put_h]; exact k3) (t7.trans (r4.trans g5)) (by rw [put_h]; exact (g6.trans r6).trans ⟨Nat.le_succ _, fun _ _ _ => rfl⟩) (by rw [put_h]; exact t3) (fun er her => ?_)
 exact Nat.le_trans k2.size (t6 er her)
def AHeap.rox (F : Nat → Bool) (h : AHeap) : AHeap := { n := h.n, o := fun b => bif F b then mkro (h.o b) else h.o b }
theorem rox_cells {F : Nat → Bool} {b sz ro f st k c} (ho : (h.rox F).o b = .cells sz ro f st k c) : ∃ ro', h.o b = .cells sz ro' f st k c ∧ (ro = false → ro' = false) := by
 simp only [AHeap.rox] at ho
 cases hF : F b with
 | false => rw [hF] at ho; exact ⟨ro, ho, id⟩
 | true =>
  rw [hF] at ho
  change mkro (h.o b) = _ at ho
  cases hb : h.o b with
  | dead => rw [hb] at ho; cases ho
  | cells sz1 ro1 f1 st1 k1 c1 =>
   rw [hb] at ho
   injection ho with e1 e2 e3 e4 e5 e6
   subst e1 e3 e4 e5 e6
   exact ⟨ro1, rfl, fun q => by rw [← e2] at q; cases q⟩
theorem rox_is {F : Nat → Bool} {b sz ro f st k c} (ho : h.o b = .cells sz ro f st k c) : ∃ ro', (h.rox F).o b = .cells sz ro' f st k c ∧ ro' = (F b || ro) := by
 simp only [AHeap.rox, ho]
 cases F b
 · exact ⟨ro, rfl, rfl⟩
 · exact ⟨true, rfl, rfl⟩
theorem rox_rd {F : Nat → Bool} (b : Nat) : (h.rox F).rd b = h.rd b := by
 unfold AHeap.rd
 cases ho : h.o b with
 | dead =>
  have : (h.rox F).o b = .dead := by simp only [AHeap.rox, ho]; cases F b <;> rfl
  rw [this]
 | cells sz ro f st k c =>
  obtain ⟨ro', e, _⟩ := rox_is (F := F) ho
  rw [e]
  cases st with
  | none => rfl
  | some m =>
   simp only
   cases hm : h.o m with
   | dead =>
    have : (h.rox F).o m = .dead := by simp only [AHeap.rox, hm]; cases F m <;> rfl
    rw [this]
   | cells sz2 ro2 f2 st2 k2 c2 =>
    obtain ⟨ro3, e2, _⟩ := rox_is (F := F) hm
    rw [e2]
    cases st2 <;> cases k2 <;> rfl
theorem HRel.rox (hr : HRel base ι h w) (F : Nat → Bool) : HRel base ι (h.rox F) w := by
 refine ⟨hr.lt, hr.blk, fun b e sz ro f st k c he ho => ?_, fun b e c i v he hmp hc hi => hr.val b e c i v he hmp (by rw [← rox_rd (F := F)]; exact hc) hi, fun b e sz f st k c i he ho hi => ?_, fun b1 e1 b2 e2 sz1 ro1 f1 st1 k1 c1 sz2 f2 st2 k2 c2 l1 l2 o1 o2 => ?_,
  fun b1 e1 b2 e2 f1 sz1 ro1 st1 k1 c1 sz2 ro2 st2 k2 c2 l1 l2 o1 o2 => ?_, fun b sz ro f m k c ho => ?_, fun b sz ro f st k c ho => ?_, fun y z f1 sz1 ro1 st1 k1 c1 sz2 ro2 k2 c2 o1 o2 hor => ?_, fun b hb => ?_, fun b e sz ro f st k c he hmp ho => ?_⟩
 · obtain ⟨r, q, q2⟩ := rox_cells ho
   obtain ⟨g1, g2, g3, g4⟩ := hr.szs b e _ _ _ _ _ _ he q
   exact ⟨g1, g2, fun e => g3 (q2 e), g4⟩
 · obtain ⟨r, q, q2⟩ := rox_cells ho
   obtain rfl := q2 rfl
   exact hr.room b e _ _ _ _ _ i he q hi
 · obtain ⟨r, q, _⟩ := rox_cells o1
   obtain ⟨r2, q2, q3⟩ := rox_cells o2
   obtain rfl := q3 rfl
   exact hr.apart b1 e1 b2 e2 _ _ _ _ _ _ _ _ _ _ _ l1 l2 q q2
 · obtain ⟨r, q, _⟩ := rox_cells o1
   obtain ⟨r2, q2, q3⟩ := rox_cells o2
   exact hr.link b1 e1 b2 e2 _ _ _ _ _ _ _ _ _ _ _ l1 l2 q q2
 · obtain ⟨r, q, _⟩ := rox_cells ho
   obtain ⟨g1, sz', ro', st', k', c', g2⟩ := hr.wf b _ _ _ _ _ _ q
   obtain ⟨r', g3, _⟩ := rox_is (F := F) g2
   exact ⟨g1, _, _, _, _, _, g3⟩
 · obtain ⟨r, q, _⟩ := rox_cells ho
   exact hr.fam b _ _ _ _ _ _ q
 · obtain ⟨r, q, p⟩ := rox_cells o1
   obtain ⟨r2, q2, p2⟩ := rox_cells o2
   exact hr.uniq y z _ _ _ _ _ _ _ _ _ _ q q2 (hor.imp p2 fun ⟨e1, e2⟩ => ⟨p e1, e2⟩)
 · simp only [AHeap.rox, hr.out b hb]; cases F b <;> rfl
 · obtain ⟨r, q, _⟩ := rox_cells ho
   exact hr.maps b e _ _ _ _ _ _ he hmp q
theorem Is.rox {b : Nat} {y : Ent} (hi : Is h b y) (F : Nat → Bool) : Is (h.rox F) b ⟨y.sz, F b || y.ro, y.c⟩ := by
 obtain ⟨f, k, e⟩ := hi
 obtain ⟨r, q, rfl⟩ := rox_is (F := F) e
 exact ⟨f, k, q⟩
end Go.Proofs.Ytahaplbdhgfobaa.Eng
namespace Go.Proofs.Ytahaplbdhgfobaa.Eng
theorem sz1 : szOf Try.prog 1 = some 1 := by kernel_rfl
-- kind 1 : func
theorem sz2 : szOf Try.prog 2 = some 1 := by kernel_rfl
-- kind 2 : int
theorem agg3 : isAggT Try.prog 3 = some false := by kernel_rfl
theorem sz3 : szOf Try.prog 3 = some 1 := by kernel_rfl
theorem by3 : byOf Try.prog 3 = some 8 := by kernel_rfl
theorem zero3 : zeroOf Try.prog 3 = some (.int .i64 0) := by kernel_rfl
-- kind 3 : int
theorem agg4 : isAggT Try.prog 4 = some false := by kernel_rfl
theorem sz4 : szOf Try.prog 4 = some 1 := by kernel_rfl
-- kind 4 : bool
theorem agg5 : isAggT Try.prog 5 = some false := by kernel_rfl
theorem sz5 : szOf Try.prog 5 = some 1 := by kernel_rfl
theorem by5 : byOf Try.prog 5 = some 1 := by kernel_rfl
theorem zero5 : zeroOf Try.prog 5 = some (.int .u8 0) := by kernel_rfl
-- kind 5 : int
-- kind 6 : int
-- kind 7 : struct
-- struct 7 : 2 3 4 6
-- kind 8 : struct
-- struct 8 : 2 3 4 6
theorem agg9 : isAggT Try.prog 9 = some false := by kernel_rfl
-- kind 9 : string
-- kind 10 : string
-- kind 11 : string
-- kind 12 : int
-- kind 13 : struct
-- struct 13 : 9 12
-- kind 14 : struct
-- struct 14 : 9 12
-- kind 15 : pointer
-- kind 16 : pointer
-- kind 17 : pointer
-- kind 18 : struct
-- struct 18 : 17
-- kind 19 : struct
-- struct 19 : 17
-- kind 20 : interface
-- kind 21 : int
theorem agg22 : isAggT Try.prog 22 = some false := by kernel_rfl
theorem sz22 : szOf Try.prog 22 = some 1 := by kernel_rfl
theorem elem22 : elemOf Try.prog 22 = some 27 := by kernel_rfl
-- kind 22 : slice
-- kind 23 : pointer
-- kind 24 : int
-- kind 26 : func
theorem agg27 : isAggT Try.prog 27 = some false := by kernel_rfl
theorem sz27 : szOf Try.prog 27 = some 1 := by kernel_rfl
theorem by27 : byOf Try.prog 27 = some 24 := by kernel_rfl
theorem zero27 : zeroOf Try.prog 27 = some (.slice none 0 0) := by kernel_rfl
theorem elem27 : elemOf Try.prog 27 = some 5 := by kernel_rfl
theorem isrow27 : isRowT Try.prog 27 = true := by kernel_rfl
-- kind 27 : slice
-- kind 28 : func
-- kind 29 : func
-- kind 30 : func
-- kind 31 : func
-- kind 32 : func
theorem agg33 : isAggT Try.prog 33 = some false := by kernel_rfl
theorem sz33 : szOf Try.prog 33 = some 1 := by kernel_rfl
theorem zero33 : zeroOf Try.prog 33 = some (.slice none 0 0) := by kernel_rfl
theorem elem33 : elemOf Try.prog 33 = some 3 := by kernel_rfl
theorem isrow33 : isRowT Try.prog 33 = true := by kernel_rfl
-- kind 33 : slice
-- kind 35 : func
-- kind 36 : func
-- kind 37 : func
-- kind 38 : func
-- kind 39 : func
-- kind 40 : func
-- kind 41 : func
-- kind 42 : pointer
-- kind 43 : func
theorem elem44 : elemOf Try.prog 44 = some 48 := by kernel_rfl
theorem isrow44 : isRowT Try.prog 44 = true := by kernel_rfl
-- kind 44 : slice
-- kind 45 : func
-- kind 46 : func
-- kind 47 : struct
-- struct 47 : 3 3 3 27 33
theorem agg48 : isAggT Try.prog 48 = some true := by kernel_rfl
theorem sz48 : szOf Try.prog 48 = some 5 := by kernel_rfl
theorem by48 : byOf Try.prog 48 = some 72 := by kernel_rfl
theorem zero48 : zeroOf Try.prog 48 = some (.agg #[.int .i64 0, .int .i64 0, .int .i64 0, .slice none 0 0, .slice none 0 0]) := by kernel_rfl
-- kind 48 : struct
-- struct 48 : 3 3 3 27 33
theorem places48 : placesOf Try.prog 48 = some [(0, 1), (1, 1), (2, 1), (3, 1), (4, 1)] := by kernel_rfl
-- kind 49 : func
-- kind 50 : func
-- kind 51 : func
-- kind 53 : func
-- kind 54 : func
-- kind 55 : func
-- kind 56 : func
-- kind 57 : struct
-- struct 57 : 3 22 33 4 3
theorem zero58 : zeroOf Try.prog 58 = some (.agg #[.int .i64 0, .slice none 0 0, .slice none 0 0, .bool false, .int .i64 0]) := by kernel_rfl
-- kind 58 : struct
-- struct 58 : 3 22 33 4 3
theorem places58 : placesOf Try.prog 58 = some [(0, 1), (1, 1), (2, 1), (3, 1), (4, 1)] := by kernel_rfl
-- kind 59 : func
-- kind 60 : func
theorem agg61 : isAggT Try.prog 61 = some false := by kernel_rfl
theorem sz61 : szOf Try.prog 61 = some 1 := by kernel_rfl
theorem zero61 : zeroOf Try.prog 61 = some (.int .u64 0) := by kernel_rfl
-- kind 61 : int
-- kind 62 : func
-- kind 63 : func
-- kind 64 : func
-- kind 65 : func
theorem agg66 : isAggT Try.prog 66 = some false := by kernel_rfl
theorem sz66 : szOf Try.prog 66 = some 1 := by kernel_rfl
theorem mapT66 : mapT Try.prog 66 = some 71 := by kernel_rfl
-- map 66 : 71
-- kind 66 : map
-- kind 67 : struct
-- struct 67 : 66 3 4 4 3
theorem agg68 : isAggT Try.prog 68 = some true := by kernel_rfl
theorem sz68 : szOf Try.prog 68 = some 5 := by kernel_rfl
theorem zero68 : zeroOf Try.prog 68 = some (.agg #[.map none, .int .i64 0, .bool false, .bool false, .int .i64 0]) := by kernel_rfl
-- kind 68 : struct
-- struct 68 : 66 3 4 4 3
theorem places68 : placesOf Try.prog 68 = some [(0, 1), (1, 1), (2, 1), (3, 1), (4, 1)] := by kernel_rfl
-- kind 69 : func
-- kind 70 : struct
-- struct 70 : 27 3
theorem agg71 : isAggT Try.prog 71 = some true := by kernel_rfl
theorem sz71 : szOf Try.prog 71 = some 2 := by kernel_rfl
theorem zero71 : zeroOf Try.prog 71 = some (.agg #[.slice none 0 0, .int .i64 0]) := by kernel_rfl
-- kind 71 : struct
-- struct 71 : 27 3
theorem places71 : placesOf Try.prog 71 = some [(0, 1), (1, 1)] := by kernel_rfl
-- kind 72 : func
-- kind 73 : func
theorem elem74 : elemOf Try.prog 74 = some 76 := by kernel_rfl
theorem isrow74 : isRowT Try.prog 74 = true := by kernel_rfl
-- kind 74 : slice
-- kind 75 : func
theorem agg76 : isAggT Try.prog 76 = some false := by kernel_rfl
theorem sz76 : szOf Try.prog 76 = some 1 := by kernel_rfl
theorem by76 : byOf Try.prog 76 = some 8 := by kernel_rfl
theorem zero76 : zeroOf Try.prog 76 = some (.pointer none) := by kernel_rfl
-- kind 76 : pointer
-- kind 77 : int
-- kind 78 : func
-- kind 79 : func
-- kind 80 : func
-- kind 81 : func
-- kind 82 : func
-- kind 83 : func
-- kind 84 : func
-- kind 85 : func
-- kind 86 : func
-- kind 87 : func
-- kind 88 : func
-- kind 89 : func
-- kind 90 : func
-- kind 91 : func
-- kind 92 : func
-- kind 93 : func
-- kind 94 : func
-- kind 95 : func
-- kind 96 : func
-- kind 97 : int
-- kind 99 : func
-- kind 100 : func
-- kind 101 : func
-- kind 102 : func
-- kind 104 : func
-- kind 105 : func
-- kind 106 : int
-- kind 107 : func
-- kind 108 : int
-- kind 109 : func
-- kind 110 : func
-- kind 111 : func
end Go.Proofs.Ytahaplbdhgfobaa.Eng
set_option linter.unusedVariables false
set_option linter.unusedSimpArgs false
set_option maxRecDepth 4000
namespace Go.Proofs.Ytahaplbdhgfobaa.Eng
abbrev dObj (bm : Nat) (room : Int) (off armed : Bool) (left : Int) : List Value := [Mp bm, I room, .bool off, .bool armed, I left]
abbrev fileV (a : Option Addr) (n c : Nat) (d : Int) : Value := .agg #[.slice a n c, I d]
def IsFile (v : Value) : Prop := ∃ a n c d, v = fileV a n c d
def flen (v : Value) : Int := match v with
 | .agg cs => match cs.toList with
   | .slice _ n _ :: _ => (n : Int)
   | _ => 0
 | _ => 0
theorem flen_file (a : Option Addr) (n c : Nat) (d : Int) : flen (fileV a n c d) = n := rfl
def lens : List (Int × Nat × Value) → Int
 | [] => 0
 | e :: l => flen e.2.2 + lens l
def seenLens (seen : List Nat) : List (Int × Nat × Value) → Int
 | [] => 0
 | e :: l => (if e.2.1 ∈ seen then flen e.2.2 else 0) + seenLens seen l
theorem flen_nn {v : Value} (h : IsFile v) : 0 ≤ flen v := by
 obtain ⟨a, n, c, d, rfl⟩ := h
 rw [flen_file]; omega
theorem seen_bounds {seen : List Nat} : ∀ {l : List (Int × Nat × Value)}, (∀ e ∈ l, IsFile e.2.2) → 0 ≤ seenLens seen l ∧ seenLens seen l ≤ lens l
 | [], _ => ⟨Int.le_refl _, Int.le_refl _⟩
 | e :: l, h => by
  have h1 := flen_nn (h e (List.mem_cons_self ..))
  have := seen_bounds (seen := seen) (fun e' he => h e' (List.mem_cons_of_mem _ he))
  simp only [seenLens, lens]
  split <;> omega
theorem seen_all {seen : List Nat} : ∀ {l : List (Int × Nat × Value)}, (∀ e ∈ l, e.2.1 ∈ seen) → seenLens seen l = lens l
 | [], _ => rfl
 | e :: l, h => by
  simp only [seenLens, lens]
  rw [if_pos (h e (List.mem_cons_self ..)), seen_all fun e' he => h e' (List.mem_cons_of_mem _ he)]
theorem seen_none : ∀ l : List (Int × Nat × Value), seenLens [] l = 0
 | [] => rfl
 | e :: l => by
  simp only [seenLens]
  rw [if_neg (by simp), seen_none l]; rfl
theorem seen_old {seen : List Nat} {n : Nat} : ∀ {l : List (Int × Nat × Value)}, n ∉ l.map (·.2.1) → seenLens (n :: seen) l = seenLens seen l
 | [], _ => rfl
 | e :: l, h => by
  simp only [List.map_cons, List.mem_cons, not_or] at h
  simp only [seenLens, List.mem_cons]
  rw [seen_old h.2]
  have : (e.2.1 = n ∨ e.2.1 ∈ seen) ↔ e.2.1 ∈ seen := ⟨fun q => q.resolve_left fun q => h.1 q.symm, .inr⟩
  simp only [this]
theorem seen_more {seen : List Nat} {k : Int} {n : Nat} {v : Value} (hn : n ∉ seen) : ∀ {l : List (Int × Nat × Value)}, (l.map (·.2.1)).Nodup → (k, n, v) ∈ l → seenLens (n :: seen) l = seenLens seen l + flen v
 | e :: l, hd, hm => by
  simp only [List.map_cons, List.nodup_cons] at hd
  rcases List.mem_cons.1 hm with rfl | hm
  · simp only [seenLens]
    rw [seen_old hd.1, if_pos (by simp), if_neg hn]
    omega
  · have hne : e.2.1 ≠ n := fun q => hd.1 (List.mem_map.2 ⟨_, hm, q.symm⟩)
    simp only [seenLens, List.mem_cons]
    rw [seen_more hn hd.2 hm]
    have : (e.2.1 = n ∨ e.2.1 ∈ seen) ↔ e.2.1 ∈ seen := ⟨fun q => q.resolve_left hne, .inr⟩
    simp only [this]
    omega
theorem Is.ne {h : AHeap} {a b : Nat} {x y : Ent} (h1 : Is h a x) (h2 : Is h b y) (hne : x.sz ≠ y.sz) : a ≠ b := by
 intro e
 subst e
 obtain ⟨f, k, e1⟩ := h1
 obtain ⟨g, l, e2⟩ := h2
 rw [e1] at e2
 injection e2 with e2
 exact hne e2
theorem sat2 {h : AHeap} {a b : Nat} {x y : Ent} (hw : WF h) (h1 : Is h a x) (h2 : Is h b y) (hne : x.sz ≠ y.sz) : Sat h [(a, x), (b, y)] :=
 ⟨by simpa using h1.ne h2 hne, fun p hp => by
  simp only [List.mem_cons, List.not_mem_nil, or_false] at hp
  rcases hp with rfl | rfl
  · exact h1
  · exact h2, hw⟩
abbrev dO (d bm : Nat) (r1 r2 : Bool) (room : Int) (off armed : Bool) (lft : Int) (mx : MapX) : Objs := [(d, ⟨0, r1, dObj bm room off armed lft⟩), (bm, ⟨2, r2, mcells mx⟩)]
theorem used_sem {h : AHeap} {d bm : Nat} {ro1 ro2 off armed : Bool} {room lft : Int} {mx : MapX} (h1 : Is h d ⟨0, ro1, dObj bm room off armed lft⟩) (h2 : Is h bm ⟨2, ro2, mcells mx⟩) (hf : ∀ e ∈ mx.es, IsFile e.2.2) (ht : lens mx.es ≤ 4611686018427387904) :
  ∀ ρ, CallSem Try.prog ρ 21 #[Ptr d 0] h (I (lens mx.es)) h := by
 have hm : Try.prog.follows .mixedOrders = true := Checked.mixed Try.checked
 refine callSem_of Try.func21 rfl ?_
 intro base ι w a hs hd
 have hr1 : HRel base ι h w := hs.heap
 obtain ⟨g, hg⟩ : ∃ g, g = h.rox fun _ => true := ⟨_, rfl⟩
 have hr0 : HRel base ι g w := by rw [hg]; exact hr1.rox _
 have i1 : Is g d ⟨0, true, dObj bm room off armed lft⟩ := by rw [hg]; exact h1.rox _
 have i2 : Is g bm ⟨2, true, mcells mx⟩ := by rw [hg]; exact h2.rox _
 have hat : At ⟨21, false, h, .late⟩ (argsL [Ptr d 0] 0) (dO d bm true true room off armed lft mx) base ι g w [] a w :=
  ⟨ι, enterA Try.f21 #[Ptr d 0] g, ⟨rfl, has_args _ 0 fun j v hj => by simp [enterA, Array.getD_eq_getD_getElem?, hj], sat2 hr0.heapWF i1 i2 (by intro q; cases q), fun q => by cases q⟩, ⟨hs.size, hs.tmps, hr0, hs.base⟩, More.refl hr0, KeepsBy.zero (Keeps.refl ι _ w), hd, Stay.refl _⟩
 refine At.seq (L1 := [(2, I 0), (0, Ptr d 0)]) (O1 := dO d bm true true room off armed lft mx) hm hr0 hat rfl (show codeOk 21 _ = true by decide +kernel) ?_ (fun a1 w1 hat1 => ?_)
 refine WX.region rfl ?_
 refine WXL.assign Met.none rfl ?_
 refine WXL.nilK ?_
 exact fun s hs => ⟨rfl, hs.tl [0, 1] 2⟩
 refine At.seq (L1 := [(3, I 0), (2, I 0), (0, Ptr d 0)]) (O1 := dO d bm true true room off armed lft mx) hm hr0 hat1 rfl (show codeOk 21 _ = true by decide +kernel) ?_ (fun a2 w2 hat2 => ?_)
 refine WX.region rfl ?_
 refine WXL.assign Met.none rfl ?_
 refine WXL.nilK ?_
 exact fun s hs => ⟨rfl, hs.tl [0, 1] 2⟩
 refine wpIn_seq (At.range (L1 := [(9, Mp bm), (3, I 0), (0, Ptr d 0)]) (O1 := dO d bm true true room off armed lft mx) hm hr0 hat2 (fun br (acc : Int) => [(3, I acc), (10, Ptr br 0)]) (fun _ => (dO d bm true true room off armed lft mx)) (fun mx' seen acc => mx' = mx ∧ (stamps mx).Nodup ∧ acc = seenLens seen mx.es) (y := .tmp 9) (it := 10) (tn := 11) (tk := 12) (te := 13) (bm := bm) (y0 := 0) (mx := mx) rfl rfl 4 rfl rfl (show regOk _ 21 = true by decide +kernel) ?_ Try.underlying66 rfl rfl (Knows.at 1 rfl) (show 10 < 21 by decide) rfl (show regOk _ 21 = true by decide +kernel) (show codeOk 21 _ = true by decide +kernel) (show 11 < 21 by decide) (show 12 < 21 by decide) (show 13 < 21 by decide) rfl
  (fun _ _ _ _ _ => rfl) (fun mx' seen y h => ⟨2, true, by rw [h.1]; exact Knows.at 1 rfl⟩) ?_ (fun hn => ⟨rfl, hn, (seen_none _).symm⟩) (fun br s hs => hs.tl [0, 1] 2) ?_)
 · skip
   refine WXL.move Met.none rfl ?_
   refine WXL.nilCheck Met.none rfl ?_
   first | refine WXL.fieldAddr Met.none rfl Try.underlying68 rfl sz66 rfl ?_ | refine WXL.faS Met.none rfl Try.underlying68 rfl sz66 ?_
   first | refine WXL.ld Met.none rfl agg66 ?_ | refine WXL.ldS Met.none rfl agg66 ?_
   refine WXL.nilK ?_
   exact (fun s hs => hs.tl [0, 1] 2)
 · intro br mx' seen acc k n v ⟨h3, h4, h5⟩ h6 h7
   subst h3
   obtain ⟨fa, fn, fc, fd, rfl⟩ := hf _ h6
   have hb := seen_bounds (seen := n :: seen) hf
   have hb2 := seen_bounds (seen := seen) hf
   have hmore := seen_more h7 h4 h6
   rw [flen_file] at hmore
   refine WXL.extract Met.none rfl rfl ?_
   refine WXL.alloc (c := [_, _]) Met.none zero71 rfl (fun b5 => ?_)
   refine WXL.st (vs := [_, _]) (c' := [_, _]) Met.none rfl rfl rfl sz71 ?_
   refine WXL.nilK ?_
   refine (show WX _ ⟨21, false, h, .late⟩ _ _ _ _ from ?_)
   refine WX.region rfl ?_
   refine WXL.move Met.none rfl ?_
   refine WXL.fieldAddr (off' := 0) Met.none rfl Try.underlying71 rfl sz27 rfl ?_
   first | refine WXL.ld Met.none rfl agg27 ?_ | refine WXL.ldS Met.none rfl agg27 ?_
   refine WXL.len Met.none rfl Try.underlying27 ?_
   refine WXL.bin Met.none rfl rfl bvA ?_
   refine WXL.assign Met.none rfl ?_
   refine WXL.nilK ?_
   exact fun s hs => ⟨rfl, mx', acc + fn, ⟨rfl, h4, by omega⟩, rfl, rfl, hs.tl [1, 2] 3⟩
 · intro br mx' seen acc a3 w3 ⟨h3, h4, h5⟩ h6 hat3
   subst h3
   rw [seen_all h6] at h5
   subst h5
   refine At.seq (L1 := [(2, I (lens mx'.es))]) (O1 := dO d bm true true room off armed lft mx') hm hr0 hat3 rfl (show codeOk 21 _ = true by decide +kernel) ?_ (fun a4 w4 hat4 => ?_)
   refine WX.region rfl ?_
   refine WXL.move Met.none rfl ?_
   refine WXL.assign Met.none rfl ?_
   refine WXL.nilK ?_
   exact fun s hs => ⟨rfl, hs.tl [0, 1] 2⟩
   refine wpIn_ret ⟨.inr rfl, ?_⟩
   obtain ⟨ι4, s4, g1, g2, g3, g4, g5, g6⟩ := hat4
   have hold : ∀ b, b < h.n → s4.h.o b = g.o b := fun b hb => g6.2 b (by rw [hg]; exact hb) (by rw [hg]; show isRo (mkro (h.o b)) = true; cases h.o b <;> rfl)
   have hblk : ∀ B, B < w.heap.size → w4.heap[B]? = w.heap[B]? := fun B hB => g4.block B hB fun b e q1 q2 => .inl (hold b (hr1.lt b e q1))
   have hres : resultsA Try.prog Try.f21 s4 = some [I (lens mx'.es)] := by
    unfold resultsA
    exact g1.t.res (rs := [.tmp 2]) rfl
   obtain ⟨v', hrun, hrel⟩ := results_run (P := Try.prog) g2 hres
   obtain rfl := hrel.plain rfl
   exact ⟨g5, ι, _, hrun, More.refl hr1, .atom rfl, hr1.pre g4.size hblk, Keep0.grow g4.os g4.tape g4.output g4.size hblk⟩
theorem used_direct {h : AHeap} {d bm : Nat} {ro1 ro2 off armed : Bool} {room lft : Int} {mx : MapX} (h1 : Is h d ⟨0, ro1, dObj bm room off armed lft⟩) (h2 : Is h bm ⟨2, ro2, mcells mx⟩) (hf : ∀ e ∈ mx.es, IsFile e.2.2) (ht : lens mx.es ≤ 4611686018427387904) :
  Direct Try.prog 21 #[Ptr d 0] h (I (lens mx.es)) h :=
 ⟨.inl rfl, fun F ρ => by
  obtain ⟨f1, k1, e1⟩ := h1
  obtain ⟨f2, k2, e2⟩ := h2
  obtain ⟨r1, q1⟩ := un_cells (F := F) e1
  obtain ⟨r2, q2⟩ := un_cells (F := F) e2
  exact used_sem (ro1 := r1) (ro2 := r2) (off := off) (armed := armed) (room := room) (lft := lft) (bm := bm) ⟨f1, k1, q1⟩ ⟨f2, k2, q2⟩ hf ht ρ⟩
end Go.Proofs.Ytahaplbdhgfobaa.Eng
set_option linter.unusedVariables false
set_option linter.unusedSimpArgs false
set_option maxRecDepth 4000
namespace Go.Proofs.Ytahaplbdhgfobaa.Eng
def hard (v : Value) : Value := match v with
 | .agg cs => match cs.toList with
   | .slice a n c :: _ => fileV a n c n
   | _ => v
 | _ => v
theorem hard_file (a : Option Addr) (n c : Nat) (d : Int) : hard (fileV a n c d) = fileV a n c n := rfl
def updE (seen : List Nat) (e : Int × Nat × Value) : Int × Nat × Value := if e.2.1 ∈ seen then (e.1, e.2.1, hard e.2.2) else e
def upd (mx : MapX) (seen : List Nat) : MapX := ⟨mx.ck, mx.es.map (updE seen)⟩
def MapX.hard (mx : MapX) : MapX := ⟨mx.ck, mx.es.map fun e => (e.1, e.2.1, Eng.hard e.2.2)⟩
theorem updE_none (e : Int × Nat × Value) : updE [] e = e := by unfold updE; rw [if_neg (by simp)]
theorem upd_none (mx : MapX) : upd mx [] = mx := by
 obtain ⟨ck, es⟩ := mx
 unfold upd
 rw [show updE [] = id from funext updE_none, List.map_id]
theorem updE_stamp (seen : List Nat) (e : Int × Nat × Value) : (updE seen e).2.1 = e.2.1 ∧ (updE seen e).1 = e.1 := by
 unfold updE
 split <;> exact ⟨rfl, rfl⟩
theorem upd_stamps (mx : MapX) (seen : List Nat) : stamps (upd mx seen) = stamps mx := by
 unfold stamps upd
 rw [List.map_map]
 exact List.map_congr_left fun e _ => (updE_stamp seen e).1
theorem upd_all {mx : MapX} {seen : List Nat} (h : ∀ e ∈ (upd mx seen).es, e.2.1 ∈ seen) : upd mx seen = mx.hard := by
 unfold upd MapX.hard
 congr 1
 refine List.map_congr_left fun e he => ?_
 have := h (updE seen e) (List.mem_map.2 ⟨e, he, rfl⟩)
 rw [(updE_stamp seen e).1] at this
 unfold updE
 rw [if_pos this]
theorem updE_other {seen : List Nat} {n : Nat} {e : Int × Nat × Value} (h : e.2.1 ≠ n) : updE (n :: seen) e = updE seen e := by
 unfold updE
 have : (e.2.1 ∈ n :: seen) ↔ e.2.1 ∈ seen := ⟨fun q => (List.mem_cons.1 q).resolve_left h, fun q => List.mem_cons_of_mem _ q⟩
 simp only [this]
theorem xput_upd {seen : List Nat} {k : Int} {n : Nat} {v : Value} (hn : n ∉ seen) (ck : Nat) : ∀ {l : List (Int × Nat × Value)}, (l.map (·.1)).Nodup → (l.map (·.2.1)).Nodup → (k, n, v) ∈ l → xput k (hard v) ck (l.map (updE seen)) = (ck, l.map (updE (n :: seen)))
 | e :: l, h1, h2, hm => by
  simp only [List.map_cons, List.nodup_cons] at h1 h2
  rcases List.mem_cons.1 hm with rfl | hm
  · have e1 : updE seen (k, n, v) = (k, n, v) := by unfold updE; rw [if_neg hn]
    have e2 : updE (n :: seen) (k, n, v) = (k, n, hard v) := by unfold updE; rw [if_pos (by simp)]
    have e3 : l.map (updE (n :: seen)) = l.map (updE seen) := List.map_congr_left fun e he => updE_other fun q => h2.1 (List.mem_map.2 ⟨e, he, q⟩)
    rw [List.map_cons, List.map_cons, e1, e2, e3]
    show (if k = k then _ else _) = _
    rw [if_pos rfl]
  · have n1 : k ≠ e.1 := fun q => h1.1 (List.mem_map.2 ⟨_, hm, q⟩)
    have n2 : e.2.1 ≠ n := fun q => h2.1 (List.mem_map.2 ⟨_, hm, q.symm⟩)
    rw [List.map_cons, List.map_cons, updE_other n2]
    obtain ⟨⟨ek, en, ev⟩, hE⟩ : ∃ p, updE seen e = p := ⟨_, rfl⟩
    rw [hE]
    have : ek = e.1 := by have := (updE_stamp seen e).2; rw [hE] at this; exact this
    show (if k = ek then _ else _) = _
    rw [if_neg (by rw [this]; exact n1), xput_upd hn ck h1.2 h2.2 hm]
theorem upd_mem {mx : MapX} {seen : List Nat} {k : Int} {n : Nat} {v : Value} (h : (k, n, v) ∈ (upd mx seen).es) (hn : n ∉ seen) : (k, n, v) ∈ mx.es := by
 obtain ⟨e, he, q⟩ := List.mem_map.1 h
 have h1 := (updE_stamp seen e).1
 rw [q] at h1
 have : updE seen e = e := by unfold updE; rw [if_neg (by rw [← h1]; exact hn)]
 rw [← q, this]; exact he
theorem upd_put {mx : MapX} {seen : List Nat} {k : Int} {n : Nat} {v : Value} (h1 : (mx.es.map (·.1)).Nodup) (h2 : (stamps mx).Nodup) (hm : (k, n, v) ∈ mx.es) (hn : n ∉ seen) : (upd mx seen).put k (hard v) = upd mx (n :: seen) := by
 unfold MapX.put upd
 simp only
 rw [xput_upd hn mx.ck h1 h2 hm]
theorem pair_back {ι ι4 : Lay} : ∀ {l : List (Int × Nat × Value)} {es : List MapEntry}, PairRel ι4 (mflat l) es → (∀ e ∈ l, ∀ u, VRel ι4 e.2.2 u → VRel ι e.2.2 u) → PairRel ι (mflat l) es := by
 intro l
 induction l with
 | nil => intro es hp _; cases hp; exact .nil
 | cons p c ih =>
  obtain ⟨k, n, v⟩ := p
  intro es hp hv
  unfold mflat at hp ⊢
  generalize hX : I k :: I n :: v :: mflat c = X at hp
  cases hp with
  | nil => cases hX
  | cons h1 h2 h3 h4 =>
   rename_i c3 e2 es2
   injection hX with q1 q2
   injection q2 with q3 q4
   injection q4 with q5 q6
   subst q1 q5 q6
   have q3' := q3
   injection q3' with _ q3'
   exact .cons h1 h2 (hv _ (List.mem_cons_self ..) _ h3) (ih h4 fun e he => hv e (List.mem_cons_of_mem _ he))
theorem pair_vals {ι : Lay} : ∀ {l : List (Int × Nat × Value)} {es : List MapEntry}, PairRel ι (mflat l) es → ∀ e ∈ l, ∃ u, VRel ι e.2.2 u := by
 intro l
 induction l with
 | nil => intro es hp e he; simp at he
 | cons p c ih =>
  obtain ⟨k, n, v⟩ := p
  intro es hp e he
  unfold mflat at hp
  generalize hX : I k :: I n :: v :: mflat c = X at hp
  cases hp with
  | nil => cases hX
  | cons h1 h2 h3 h4 =>
   rename_i c3 e2 es2
   injection hX with q1 q2
   injection q2 with q3 q4
   injection q4 with q5 q6
   subst q1 q5 q6
   rcases List.mem_cons.1 he with rfl | he
   · exact ⟨_, h3⟩
   · exact ih h4 e he
theorem file_back {ι ι4 : Lay} {a : Option Addr} {n c : Nat} {d d' : Int} {u u' : Value} (hb : ∀ b e, ι b = some e → ι4 b = some e) (h0 : VRel ι (fileV a n c d) u) (h4 : VRel ι4 (fileV a n c d') u') : VRel ι (fileV a n c d') u' := by
 have hs : ∃ x, VRel ι (.slice a n c) x := by
  cases h0 with
  | atom q => simp [plain1] at q
  | agg q1 q2 =>
   rename_i ys
   exact ⟨ys[0]'(by rw [← q1]; exact Nat.succ_pos _), q2 0 _ _ rfl (Array.getElem?_eq_getElem _)⟩
 cases h4 with
 | atom q => simp [plain1] at q
 | agg q1 q2 =>
  refine .agg q1 fun i v v' hv hv' => ?_
  have h := q2 i v v' hv hv'
  rcases i with _ | _ | i
  · simp at hv
    subst hv
    obtain ⟨x, hx⟩ := hs
    cases h with
    | atom q => exact .atom q
    | slice p1 p2 p3 p4 =>
     cases hx with
     | atom q => simp [plain1] at q
     | slice r1 _ _ _ => rw [hb _ _ r1] at p1; obtain rfl := Option.some.inj p1; exact .slice r1 p2 p3 p4
     | slice0 r1 _ => rw [hb _ _ r1] at p1; obtain rfl := Option.some.inj p1; exact .slice r1 p2 p3 p4
    | slice0 p1 p2 =>
     cases hx with
     | atom q => simp [plain1] at q
     | slice r1 _ _ _ => rw [hb _ _ r1] at p1; obtain rfl := Option.some.inj p1; exact .slice0 r1 p2
     | slice0 r1 _ => rw [hb _ _ r1] at p1; obtain rfl := Option.some.inj p1; exact .slice0 r1 p2
  · simp at hv; subst hv; rw [h.plain rfl]; exact .atom rfl
  · simp at hv
theorem beq_ne {a b : Nat} (h : a ≠ b) : Nat.beq a b = false := by
 cases hq : Nat.beq a b with
 | false => rfl
 | true => exact absurd (Nat.eq_of_beq_eq_true hq) h
theorem harden_sem {h : AHeap} {d bm : Nat} {ro1 off armed : Bool} {room lft : Int} {mx : MapX} {f k : Nat} (h1 : Is h d ⟨0, ro1, dObj bm room off armed lft⟩) (h2 : h.o bm = .cells 2 false f none k (mcells mx)) (hf : ∀ e ∈ mx.es, IsFile e.2.2) (hk : (mx.es.map (·.1)).Nodup) :
  ∀ ρ, CallSem Try.prog ρ 40 #[Ptr d 0] h (.tuple #[]) (h.set bm (.cells 2 false f none (k + 1) (mcells mx.hard))) := by
 have hm : Try.prog.follows .mixedOrders = true := Checked.mixed Try.checked
 refine callSem_of Try.func40 rfl ?_
 intro base ι w a hs hd
 have hr1 : HRel base ι h w := hs.heap
 have h2i : Is h bm ⟨2, false, mcells mx⟩ := ⟨f, k, h2⟩
 have hdb : d ≠ bm := h1.ne h2i (by intro q; cases q)
 obtain ⟨g, hg⟩ : ∃ g, g = h.rox fun b => !(Nat.beq b bm) := ⟨_, rfl⟩
 have hr0 : HRel base ι g w := by rw [hg]; exact hr1.rox _
 have i1 : Is g d ⟨0, true, dObj bm room off armed lft⟩ := by
  rw [hg]
  have := h1.rox fun b => !(Nat.beq b bm)
  rw [show (!(Nat.beq d bm)) = true by rw [beq_ne hdb]; rfl] at this
  exact this
 have i2 : Is g bm ⟨2, false, mcells mx⟩ := by
  rw [hg]
  have := h2i.rox fun b => !(Nat.beq b bm)
  rw [show (!(Nat.beq bm bm)) = false by simp] at this
  exact this
 have hat : At ⟨25, false, h, .late⟩ (argsL [Ptr d 0] 0) (dO d bm true false room off armed lft mx) base ι g w [] a w :=
  ⟨ι, enterA Try.f40 #[Ptr d 0] g, ⟨rfl, has_args _ 0 fun j v hj => by simp [enterA, Array.getD_eq_getD_getElem?, hj], sat2 hr0.heapWF i1 i2 (by intro q; cases q), fun q => by cases q⟩, ⟨hs.size, hs.tmps, hr0, hs.base⟩, More.refl hr0, KeepsBy.zero (Keeps.refl ι _ w), hd, Stay.refl _⟩
 refine At.range (L1 := [(7, Mp bm), (0, Ptr d 0)]) (O1 := dO d bm true false room off armed lft mx) hm hr0 hat (fun br (sn : List Nat) => [(0, Ptr d 0), (8, Ptr br 0)]) (fun sn => dO d bm true false room off armed lft (upd mx sn)) (fun mx' seen sn => mx' = upd mx seen ∧ (stamps mx).Nodup ∧ sn = seen) (y := .tmp 7) (it := 8) (tn := 9) (tk := 10) (te := 11) (bm := bm) (y0 := []) (mx := mx) rfl rfl 4 rfl rfl (show regOk _ 25 = true by decide +kernel) ?_ Try.underlying66 rfl rfl (Knows.at 1 rfl) (show 8 < 25 by decide) rfl (show regOk _ 25 = true by decide +kernel) (show codeOk 25 _ = true by decide +kernel) (show 9 < 25 by decide) (show 10 < 25 by decide) (show 11 < 25 by decide) rfl
  (fun _ _ _ _ _ => rfl) (fun mx' seen y h => ⟨2, false, by rw [h.1, h.2.2]; exact Knows.at 1 rfl⟩) ?_ (fun hn => ⟨(upd_none mx).symm, hn, rfl⟩) (fun br s hs => by rw [upd_none]; exact hs.tl [0, 1] 2) ?_
 · skip
   refine WXL.move Met.none rfl ?_
   refine WXL.nilCheck Met.none rfl ?_
   first | refine WXL.fieldAddr Met.none rfl Try.underlying68 rfl sz66 rfl ?_ | refine WXL.faS Met.none rfl Try.underlying68 rfl sz66 ?_
   first | refine WXL.ld Met.none rfl agg66 ?_ | refine WXL.ldS Met.none rfl agg66 ?_
   refine WXL.nilK ?_
   exact (fun s hs => hs.tl [0, 1] 2)
 · intro br mx' seen sn k n v ⟨h3, h4, h5⟩ h6 h7
   subst h3 h5
   have h8 := upd_mem h6 h7
   obtain ⟨fa, fn, fc, fd, rfl⟩ := hf _ h8
   have h9 := upd_put hk h4 h8 h7
   rw [hard_file] at h9
   refine WXL.extract Met.none rfl rfl ?_
   refine WXL.extract Met.none rfl rfl ?_
   refine WXL.alloc (c := [_, _]) Met.none zero71 rfl (fun b3 => ?_)
   refine WXL.assign Met.none rfl ?_
   refine WXL.st (vs := [_, _]) (c' := [_, _]) Met.none rfl rfl rfl sz71 ?_
   refine WXL.nilK ?_
   refine (show WX _ ⟨25, false, h, .late⟩ _ _ _ _ from ?_)
   refine WX.draw rfl ?_
   refine WXL.move Met.none rfl ?_
   refine WXL.nilCheck Met.none rfl ?_
   first | refine WXL.fieldAddr Met.none rfl Try.underlying68 rfl sz66 rfl ?_ | refine WXL.faS Met.none rfl Try.underlying68 rfl sz66 ?_
   first | refine WXL.ld Met.none rfl agg66 ?_ | refine WXL.ldS Met.none rfl agg66 ?_
   refine WXL.move Met.none rfl ?_
   refine WXL.fieldAddr (off' := 0) Met.none rfl Try.underlying71 rfl sz27 rfl ?_
   first | refine WXL.ld Met.none rfl agg27 ?_ | refine WXL.ldS Met.none rfl agg27 ?_
   refine WXL.fieldAddr (off' := 0) Met.none rfl Try.underlying71 rfl sz27 rfl ?_
   first | refine WXL.ld Met.none rfl agg27 ?_ | refine WXL.ldS Met.none rfl agg27 ?_
   refine WXL.len Met.none rfl Try.underlying27 ?_
   refine WXL.build (c := [_, _]) Met.none rfl zero71 places71 rfl ?_
   refine WXL.mapUpdate (j := 2) Met.none rfl rfl rfl mapT66 ?_ (hj := rfl)
   refine WXL.nilK ?_
   intro s hs
   refine ⟨rfl, upd mx (n :: sn), n :: sn, ⟨rfl, h4, rfl⟩, rfl, by rw [upd_stamps, upd_stamps], ?_⟩
   rw [← h9]
   exact hs.tl [1, 2] 3
 · intro br mx' seen sn a3 w3 ⟨h3, h4, h5⟩ h6 hat3
   subst h3 h5
   refine ⟨.inl rfl, ?_⟩
   obtain ⟨ι4, s4, g1, g2, g3, g4, g5, g6⟩ := hat3
   rw [upd_all h6] at g1
   have hold : ∀ b, b < h.n → b ≠ bm → s4.h.o b = g.o b := fun b hb hne => g6.2 b (by rw [hg]; exact hb) (by
    rw [hg]
    show isRo (bif !(Nat.beq b bm) then mkro (h.o b) else h.o b) = true
    rw [show (!(Nat.beq b bm)) = true by rw [beq_ne hne]; rfl]
    show isRo (mkro (h.o b)) = true
    cases h.o b <;> rfl)
   have hres : resultsA Try.prog Try.f40 s4 = some [] := rfl
   obtain ⟨v', hrun, hrel⟩ := results_run (P := Try.prog) g2 hres
   have hrel0 : VRel ι (.tuple #[]) v' := by
    cases hrel with
    | atom q => exact VRel.undef
    | tuple q1 q2 => exact .tuple q1 fun i v v' a _ => by simp at a
   obtain ⟨em, hem, hmp⟩ : ∃ em, ι bm = some em ∧ em.mp = true := by
    have h3 := hs.tmps 0
    rw [show (enterA Try.f40 #[Ptr d 0] h).t 0 = Ptr d 0 from rfl] at h3
    obtain ⟨ed, q1, q2, _⟩ := h3.ptr_inv
    obtain ⟨v2, _, q3⟩ := hr1.val d ed _ 0 (Mp bm) q1 q2 h1.rd rfl
    obtain ⟨em, q4, q5, _⟩ := map_inv q3
    exact ⟨em, q4, q5⟩
   obtain ⟨f4, k4, o4⟩ := g1.sat.at (j := 1) rfl
   have hem4 : ι4 bm = some em := More.lay hr0 g3 _ _ hem
   obtain ⟨hone4, es4, clock4, hes4, c4, hc4, hp4, hp42, hp43⟩ := g2.heap.maps bm em _ _ _ _ _ _ hem4 hmp o4
   obtain ⟨hone, es, clock, hes, c0, hc0, hp0, _, _⟩ := hr1.maps bm em _ _ _ _ _ _ hem hmp h2
   unfold mcells at hc4 hc0
   injection hc4 with e1 e2
   injection hc0 with e3 e4
   subst e2 e4
   have hlay := More.lay hr0 g3
   have hrelm : MapRel ι (mcells mx.hard) es4 clock4 := ⟨_, by unfold mcells; rw [e1], pair_back hp4 fun e he u hu => by
    obtain ⟨e', he', rfl⟩ := List.mem_map.1 he
    obtain ⟨fa, fn, fc, fd, hfv⟩ := hf _ he'
    obtain ⟨u0, hu0⟩ := pair_vals hp0 e' he'
    simp only [hfv, hard_file] at hu0 hu ⊢
    exact file_back hlay hu0 hu, hp42, hp43⟩
   obtain ⟨m1, m2, m3⟩ := mapset_ok hr1 hem hmp h2 hrelm
   generalize hw' : ({ w with heap := w.heap.setIfInBounds em.block (.map es4 clock4) } : World) = w' at m1 m2
   have hsz' : w'.heap.size = w.heap.size := by rw [← hw']; simp
   have hblk : ∀ B, B < w'.heap.size → w3.heap[B]? = w'.heap[B]? := fun B hB => by
    by_cases hBe : B = em.block
    · subst hBe
      rw [hes4, ← hw']
      show _ = (w.heap.setIfInBounds em.block _)[em.block]?
      rw [Array.getElem?_setIfInBounds_self, if_pos (by rw [← hsz']; exact hB)]
    · have e5 : w'.heap[B]? = w.heap[B]? := by rw [← hw']; show (w.heap.setIfInBounds em.block _)[B]? = _; rw [Array.getElem?_setIfInBounds_ne (Ne.symm hBe)]
      rw [e5]
      refine g4.block B (by rw [← hsz']; exact hB) fun b e q1 q2 => .inl (hold b (hr1.lt b e q1) fun q => ?_)
      subst q
      rw [hem] at q1
      obtain rfl := Option.some.inj q1
      exact hBe q2.symm
   have hle : w'.heap.size ≤ w3.heap.size := by rw [hsz']; exact g4.size
   have m4 := m1.pre hle hblk
   refine ⟨g5, ι, v', hrun, m3, hrel0, m4, Keep0.trans hr1 m1 m3 (More.refl m1) m2.zero (Keep0.grow ?_ ?_ ?_ hle hblk)⟩
   · rw [g4.os, ← hw']
   · rw [g4.tape, ← hw']
   · rw [g4.output, ← hw']
theorem harden_direct {h : AHeap} {d bm : Nat} {ro1 off armed : Bool} {room lft : Int} {mx : MapX} {f k : Nat} (h1 : Is h d ⟨0, ro1, dObj bm room off armed lft⟩) (h2 : h.o bm = .cells 2 false f none k (mcells mx)) (hf : ∀ e ∈ mx.es, IsFile e.2.2) (hk : (mx.es.map (·.1)).Nodup) :
  Direct Try.prog 40 #[Ptr d 0] h (.tuple #[]) (h.set bm (.cells 2 false f none (k + 1) (mcells mx.hard))) :=
 ⟨.inr (.inr ⟨_, _, _, _, _, _, h2, rfl⟩), fun F ρ => by
  obtain ⟨f1, k1, e1⟩ := h1
  obtain ⟨r1, q1⟩ := un_cells (F := F) e1
  rw [un_set]
  exact harden_sem (ro1 := r1) (off := off) (armed := armed) (room := room) (lft := lft) (bm := bm) ⟨f1, k1, q1⟩ (un_own h2) hf hk ρ⟩
end Go.Proofs.Ytahaplbdhgfobaa.Eng
set_option linter.unusedVariables false
set_option linter.unusedSimpArgs false
namespace Go.Proofs.Ytahaplbdhgfobaa.Eng
def around (n : Int) (most : Int) : Int := if n < 0 then (-(n + 1)).tmod most else n.tmod most
def In64 (n : Int) : Prop := -9223372036854775808 ≤ n ∧ n ≤ 9223372036854775807
def InU (n : Int) : Prop := 0 ≤ n ∧ n < 18446744073709551616
theorem around_ok (O : Objs) (n most : Int) (hn : In64 n) (hm : most ≠ 0) : Spec Try.prog true 12 #[I n, I most] O fun v O' => v = I (around n most) ∧ O' = O := by
 unfold In64 at hn
 refine Spec.enter (args := [_, _]) (m := 13) Try.func12 rfl rfl (by decide +kernel) fun h0 => ?_
 refine WX.seq ?_
 refine WX.region rfl ?_
 refine WXL.assign Met.none rfl ?_
 refine WXL.nil ?_
 refine Fin.then_normal ?_
 refine WX.seq ?_
 refine WX.seq ?_
 refine WX.region rfl ?_
 refine WXL.move Met.none rfl ?_
 refine WXL.bin Met.none rfl rfl rfl ?_
 refine WXL.nil ?_
 refine Fin.then_normal ?_
 refine WX.cond rfl (fun hc0 => ?_) (fun hc0 => ?_)
 · try simp only [cnd] at hc0
   refine WX.region rfl ?_
   refine WXL.move Met.none rfl ?_
   refine WXL.bin Met.none rfl rfl bvA ?_
   refine WXL.neg Met.none rfl (by first | exact wrap_neg (by omega) (by omega) | exact rfl) ?_
   refine WXL.assign Met.none rfl ?_
   refine WXL.nil ?_
   refine Fin.then_normal ?_
   refine WX.seq ?_
   refine WX.region rfl ?_
   refine WXL.move Met.none rfl ?_
   refine WXL.move Met.none rfl ?_
   refine WXL.rem Met.none rfl rfl (by omega) ?_
   refine WXL.assign Met.none rfl ?_
   refine WXL.nil ?_
   refine Fin.then_normal ?_
   refine WX.ret ?_
   exact Fin.result (.inr rfl) rfl rfl (fun _ h => h) ⟨by unfold around; first | (rw [if_pos (by assumption)]; exact rfl) | (rw [if_neg (by omega)]; exact rfl), rfl⟩
 · try simp only [cnd] at hc0
   refine WX.skip ?_
   refine Fin.then_normal ?_
   refine WX.seq ?_
   refine WX.region rfl ?_
   refine WXL.move Met.none rfl ?_
   refine WXL.move Met.none rfl ?_
   refine WXL.rem Met.none rfl rfl (by omega) ?_
   refine WXL.assign Met.none rfl ?_
   refine WXL.nil ?_
   refine Fin.then_normal ?_
   refine WX.ret ?_
   exact Fin.result (.inr rfl) rfl rfl (fun _ h => h) ⟨by unfold around; first | (rw [if_pos (by assumption)]; exact rfl) | (rw [if_neg (by omega)]; exact rfl), rfl⟩
theorem take_succ_nth {α : Type} [Inhabited α] {l : List α} {k : Nat} (h : k < l.length) : l.take (k + 1) = l.take k ++ [nth l k] := by
 rw [List.take_add_one, nth_eq h]; rfl
abbrev Short {α : Type} (l : List α) : Prop := l.length ≤ 4611686018427387904
theorem sameB_ok (O : Objs) (l m : List Int) (a b : Option Addr) (c e : Nat) (hlen : Short l) (hl : Src O 1 (.slice a l.length c) l.length (l.map B8)) (hm : Src O 1 (.slice b m.length e) m.length (m.map B8)) :
  Spec Try.prog true 18 #[.slice a l.length c, .slice b m.length e] O fun v O' => v = .bool (decide (l = m)) ∧ O' = O := by
 unfold Short at hlen
 refine Spec.enter (args := [_, _]) (m := 26) Try.func18 rfl rfl (by decide +kernel) fun h0 => ?_
 refine WX.seq ?_
 refine WX.region rfl ?_
 refine WXL.assign Met.none rfl ?_
 refine WXL.nil ?_
 refine Fin.then_normal ?_
 refine WX.seq ?_
 refine WX.seq ?_
 refine WX.region rfl ?_
 refine WXL.move Met.none rfl ?_
 refine WXL.len Met.none rfl Try.underlying27 ?_
 refine WXL.move Met.none rfl ?_
 refine WXL.len Met.none rfl Try.underlying27 ?_
 refine WXL.bin Met.none rfl rfl rfl ?_
 refine WXL.nil ?_
 refine Fin.then_normal ?_
 refine WX.cond rfl (fun hc0 => ?_) (fun hc0 => ?_)
 · try simp only [cnd] at hc0
   refine WX.seq ?_
   refine WX.region rfl ?_
   refine WXL.assign Met.none rfl ?_
   refine WXL.nil ?_
   refine Fin.then_normal ?_
   refine WX.ret ?_
   refine Fin.then_ret ?_
   refine Fin.result (.inr rfl) rfl rfl (fun _ h => h) ⟨?_, rfl⟩
   first
   | exact bool_false (fun h => hc0 (by rw [h]))
   | exact bool_false (fun h => hc2 (by rw [h]))
   | exact bool_true (by
     have e1 : k = l.length := by omega
     have e2 := hk.2
     rw [e1, List.take_length, List.take_of_length_le (by omega)] at e2
     exact e2)
 · try simp only [cnd] at hc0
   refine WX.skip ?_
   refine Fin.then_normal ?_
   refine WX.seq ?_
   refine WX.seq ?_
   refine WX.region rfl ?_
   refine WXL.assign Met.none rfl ?_
   refine WXL.nil ?_
   refine Fin.then_normal ?_
   refine WX.block ?_
   refine WX.loop (fun k : Nat => [(0, .slice a l.length c), (1, .slice b m.length e), (5, I k)]) (fun _ => O) (fun k => k ≤ l.length ∧ l.take k = m.take k) (fun k => l.length - k) 0 ⟨Nat.zero_le _, rfl⟩ (fun s hs => hs.tl [] 0) (fun k hk => ?_)
   refine WX.seq ?_
   refine WX.seq ?_
   refine WX.region rfl ?_
   refine WXL.move Met.none rfl ?_
   refine WXL.move Met.none rfl ?_
   refine WXL.len Met.none rfl Try.underlying27 ?_
   refine WXL.bin Met.none rfl rfl rfl ?_
   refine WXL.nil ?_
   refine Fin.then_normal ?_
   refine WX.cond rfl (fun hc1 => ?_) (fun hc1 => ?_)
   · try simp only [cnd] at hc1
     refine WX.skip ?_
     refine Fin.then_normal ?_
     refine WX.seq ?_
     refine WX.block ?_
     refine WX.seq ?_
     refine WX.draw rfl ?_
     refine WXL.move Met.none rfl ?_
     refine WXL.move Met.none rfl ?_
     first | refine WXL.ix Met.none rfl rfl elem27 sz5 ?_ | refine WXL.ixS Met.none rfl rfl elem27 sz5 ?_
     first | refine WXL.ld Met.none rfl agg5 ?_ | refine WXL.ldS Met.none rfl agg5 ?_
     refine WXL.move Met.none rfl ?_
     refine WXL.move Met.none rfl ?_
     first | refine WXL.ix Met.none rfl rfl elem27 sz5 ?_ | refine WXL.ixS Met.none rfl rfl elem27 sz5 ?_
     first | refine WXL.ld Met.none rfl agg5 ?_ | refine WXL.ldS Met.none rfl agg5 ?_
     refine WXL.bin Met.none rfl rfl rfl ?_
     refine WXL.nil ?_
     refine Fin.then_normal ?_
     refine WX.cond rfl (fun hc2 => ?_) (fun hc2 => ?_)
     · try simp only [cnd] at hc2
       refine WX.seq ?_
       refine WX.region rfl ?_
       refine WXL.assign Met.none rfl ?_
       refine WXL.nil ?_
       refine Fin.then_normal ?_
       refine WX.ret ?_
       refine Fin.block_ret ?_
       refine Fin.then_ret ?_
       refine Fin.loop_ret ?_
       refine Fin.block_ret ?_
       refine Fin.then_ret ?_
       refine Fin.result (.inr rfl) rfl rfl (fun _ h => h) ⟨?_, rfl⟩
       first
       | exact bool_false (fun h => hc0 (by rw [h]))
       | exact bool_false (fun h => hc2 (by rw [h]))
       | exact bool_true (by
         have e1 : k = l.length := by omega
         have e2 := hk.2
         rw [e1, List.take_length, List.take_of_length_le (by omega)] at e2
         exact e2)
     · try simp only [cnd] at hc2
       refine WX.skip ?_
       refine Fin.block_normal ?_
       refine Fin.then_normal ?_
       refine WX.region rfl ?_
       refine WXL.move Met.none rfl ?_
       refine WXL.bin Met.none rfl rfl bvA ?_
       refine WXL.assign Met.none rfl ?_
       refine WXL.nil ?_
       refine Fin.loop_next (k + 1) ⟨by omega, ?_⟩ (by omega) (fun s hs => hs.tl [] 0)
       rw [take_succ_nth (by omega), take_succ_nth (by omega), hk.2, hc2]
   · try simp only [cnd] at hc1
     refine WX.exit ?_
     refine Fin.then_exit ?_
     refine Fin.loop_exit ?_
     refine Fin.block_hit rfl ?_
     refine Fin.then_normal ?_
     refine WX.seq ?_
     refine WX.region rfl ?_
     refine WXL.assign Met.none rfl ?_
     refine WXL.nil ?_
     refine Fin.then_normal ?_
     refine WX.ret ?_
     refine Fin.result (.inr rfl) rfl rfl (fun _ h => h) ⟨?_, rfl⟩
     first
     | exact bool_false (fun h => hc0 (by rw [h]))
     | exact bool_false (fun h => hc2 (by rw [h]))
     | exact bool_true (by
       have e1 : k = l.length := by omega
       have e2 := hk.2
       rw [e1, List.take_length, List.take_of_length_le (by omega)] at e2
       exact e2)
theorem clone_ok (O : Objs) (l : List Int) (a : Option Addr) (c : Nat) (hlen : l.length ≤ 1000000000000) (hnil : a = none → l = []) (hl : Src O 1 (.slice a l.length c) l.length (l.map B8)) :
  Spec Try.prog false 37 #[.slice a l.length c] O fun v O' => ∃ a' c' G, v = .slice a' l.length c' ∧ Grow 1 a' l.length c' (l.map B8) G ∧ O' = G ++ O := by
 refine Spec.enter (args := [_]) (m := 8) Try.func37 rfl rfl (by decide +kernel) fun h0 => ?_
 refine WX.seq ?_
 refine WX.region rfl ?_
 refine WXL.assign Met.none rfl ?_
 refine WXL.nil ?_
 refine Fin.then_normal ?_
 refine WX.seq ?_
 refine WX.seq ?_
 refine WX.region rfl ?_
 refine WXL.move Met.none rfl ?_
 refine WXL.eqNil Met.none rfl rfl Try.underlying27 ?_
 refine WXL.nil ?_
 refine Fin.then_normal ?_
 refine WX.cond rfl (fun hc0 => ?_) (fun hc0 => ?_)
 · try simp only [cnd] at hc0
   refine WX.seq ?_
   refine WX.region rfl ?_
   refine WXL.assign Met.none rfl ?_
   refine WXL.nil ?_
   refine Fin.then_normal ?_
   refine WX.ret ?_
   refine Fin.then_ret ?_
   first
   | (have hla : l = [] := hnil (by simpa using hc0)
      subst hla
      exact Fin.result (O' := [] ++ O) (.inr rfl) rfl rfl drop_ ⟨none, 0, [], rfl, .nil, rfl⟩)
   | exact Fin.result (O' := [(b7, ⟨1, false, l.map B8⟩)] ++ O) (.inr rfl) rfl rfl (fun _ => Sat.tl [0] 1) ⟨some ⟨b7, 0, none⟩, _, [_], rfl, .row (by simp), rfl⟩
 · try simp only [cnd] at hc0
   refine WX.skip ?_
   refine Fin.then_normal ?_
   refine WX.seq ?_
   refine WX.region rfl ?_
   refine WXL.buildSlice (c := []) Met.none rfl elem27 sz5 zero5 (by decide) (by decide) rfl rfl rfl rfl (fun b5 => ?_)
   refine WXL.move Met.none rfl ?_
   refine WXL.ap Met.none rfl rfl isrow27 elem27 sz5 by5 zero5 src_ (fun b7 => ?_) (hc := (show _ = l.map B8 from rfl))
   rw [Nat.zero_add l.length]
   refine WXL.assign Met.none rfl ?_
   refine WXL.nil ?_
   refine Fin.then_normal ?_
   refine WX.ret ?_
   first
   | (have hla : l = [] := hnil (by simpa using hc0)
      subst hla
      exact Fin.result (O' := [] ++ O) (.inr rfl) rfl rfl drop_ ⟨none, 0, [], rfl, .nil, rfl⟩)
   | exact Fin.result (O' := [(b7, ⟨1, false, l.map B8⟩)] ++ O) (.inr rfl) rfl rfl (fun _ => Sat.tl [0] 1) ⟨some ⟨b7, 0, none⟩, _, [_], rfl, .row (by simp), rfl⟩
theorem Src.row1 {O : Objs} {b n c : Nat} {r : Bool} {cs : List Value} (hl : cs.length = n) : Src ((b, ⟨1, r, cs⟩) :: O) 1 (.slice (some ⟨b, 0, none⟩) n c) n cs :=
 Src.of (y := ⟨1, r, cs⟩) (Knows.at 0 rfl) (by show 0 + n * 1 ≤ cs.length; omega) (by show (cs.drop 0).take (n * 1) = cs; rw [Nat.mul_one, List.drop_zero, ← hl, List.take_length])
theorem take_bytes {l : List Int} {k : Nat} (h : Bytes l) : Bytes (l.take k) := fun x hx => h x (List.mem_of_mem_take hx)
theorem around_range {n m : Int} (hm : 0 < m) : 0 ≤ around n m ∧ around n m < m := by
 unfold around
 split
 · rw [Int.tmod_eq_emod_of_nonneg (by omega)]
   exact ⟨Int.emod_nonneg _ (by omega), Int.emod_lt_of_pos _ hm⟩
 · rw [Int.tmod_eq_emod_of_nonneg (by omega)]
   exact ⟨Int.emod_nonneg _ (by omega), Int.emod_lt_of_pos _ hm⟩
theorem wrap8_lt (n : Int) : 0 ≤ IntKind.wrap .u8 n ∧ IntKind.wrap .u8 n < 256 := by
 unfold IntKind.wrap
 have e1 : (2 : Int) ^ IntKind.bits .u8 = 256 := rfl
 have e3 : IntKind.signed .u8 = false := rfl
 simp only [e1, e3, Bool.false_and, Bool.false_eq_true, if_false]
 omega
end Go.Proofs.Ytahaplbdhgfobaa.Eng
set_option linter.unusedVariables false
set_option linter.unusedSimpArgs false
set_option maxRecDepth 4000
namespace Go.Proofs.Ytahaplbdhgfobaa.Eng
theorem WXL.re {P : Program} {x : Cx} {ops : Array Oper} {mq : Mk} {i : Nat} {l : List Oper} {L : Tmps} {O O' : Objs} {K : ASt → Prop} (h : WXL P x ops mq i l L O' K) (hs : ∀ g, Sat g O → Sat g O' := by exact sub_) (hq : x.q = false := by exact rfl) : WXL P x ops mq i l L O K :=
 fun a b s hst hz => h a b s ⟨hst.m, hst.t, hs _ hst.sat, fun q => by rw [hq] at q; cases q⟩ hz
structure Fi where
 bs : List Int
 d : Int
def FileOk (R : Objs) (v : Value) (f : Fi) : Prop := ∃ a c, v = fileV a f.bs.length c f.d ∧ Rowy R 1 a f.bs.length (f.bs.map B8) ∧ (a = none → c = 0) ∧ Bytes f.bs
inductive FRel (R : Objs) : List (Int × Value) → List (Int × Fi) → Prop
 | nil : FRel R [] []
 | cons {k v f m fs} : FileOk R v f → FRel R m fs → FRel R ((k, v) :: m) ((k, f) :: fs)
def used : List (Int × Fi) → Int
 | [] => 0
 | e :: l => (e.2.bs.length : Int) + used l
theorem used_nn : ∀ fs, 0 ≤ used fs
 | [] => Int.le_refl _
 | e :: l => by
  have := used_nn l
  unfold used
  omega
variable {R : Objs}
theorem FileOk.app {N : Objs} {v : Value} {f : Fi} (h : FileOk R v f) : FileOk (N ++ R) v f := by
 obtain ⟨a, c, h1, h2, h3⟩ := h
 exact ⟨a, c, h1, h2.app, h3⟩
theorem FRel.app {N : Objs} {m : List (Int × Value)} {fs : List (Int × Fi)} (h : FRel R m fs) : FRel (N ++ R) m fs := by
 induction h with
 | nil => exact .nil
 | cons h1 _ ih => exact .cons h1.app ih
theorem FRel.get {m : List (Int × Value)} {fs : List (Int × Fi)} (h : FRel R m fs) (k : Int) : (mget k m = none ∧ mget k fs = none) ∨ ∃ v f, mget k m = some v ∧ mget k fs = some f ∧ FileOk R v f := by
 induction h with
 | nil => exact .inl ⟨rfl, rfl⟩
 | @cons k' v f m fs h1 _ ih =>
  simp only [mget]
  by_cases q : k = k'
  · rw [if_pos q, if_pos q]; exact .inr ⟨v, f, rfl, rfl, h1⟩
  · rw [if_neg q, if_neg q]; exact ih
theorem FRel.put {m : List (Int × Value)} {fs : List (Int × Fi)} (h : FRel R m fs) (k : Int) {v : Value} {f : Fi} (hv : FileOk R v f) : FRel R (mput k v m) (mput k f fs) := by
 induction h with
 | nil => exact .cons hv .nil
 | @cons k' v' f' m fs h1 h2 ih =>
  simp only [mput]
  by_cases q : k = k'
  · rw [if_pos q, if_pos q]; exact .cons hv h2
  · rw [if_neg q, if_neg q]; exact .cons h1 ih
theorem FRel.del {m : List (Int × Value)} {fs : List (Int × Fi)} (h : FRel R m fs) (k : Int) : FRel R (mdel k m) (mdel k fs) := by
 induction h with
 | nil => exact .nil
 | @cons k' v' f' m fs h1 h2 ih =>
  simp only [mdel]
  by_cases q : k = k'
  · rw [if_pos q, if_pos q]; exact h2
  · rw [if_neg q, if_neg q]; exact .cons h1 ih
theorem FRel.keys {m : List (Int × Value)} {fs : List (Int × Fi)} (h : FRel R m fs) : m.map (·.1) = fs.map (·.1) := by
 induction h with
 | nil => rfl
 | cons _ _ ih => rw [List.map_cons, List.map_cons, ih]
def Fi.hard (f : Fi) : Fi := ⟨f.bs, f.bs.length⟩
def hardAll (fs : List (Int × Fi)) : List (Int × Fi) := fs.map fun e => (e.1, e.2.hard)
theorem FRel.hard {m : List (Int × Value)} {fs : List (Int × Fi)} (h : FRel R m fs) : FRel R (m.map fun e => (e.1, Eng.hard e.2)) (hardAll fs) := by
 induction h with
 | nil => exact .nil
 | cons h1 _ ih =>
  obtain ⟨a, c, rfl, h2, h3⟩ := h1
  exact .cons ⟨a, c, rfl, h2, h3⟩ ih
theorem MapX.hard_kv (mx : MapX) : mx.hard.kv = mx.kv.map fun e => (e.1, Eng.hard e.2) := by
 unfold MapX.hard MapX.kv
 simp only [List.map_map]
 rfl
theorem FRel.file {m : List (Int × Value)} {fs : List (Int × Fi)} (h : FRel R m fs) : ∀ e ∈ m, IsFile e.2 := by
 induction h with
 | nil => intro e he; simp at he
 | cons h1 _ ih =>
  intro e he
  rcases List.mem_cons.1 he with rfl | he
  · obtain ⟨a, c, h2, _⟩ := h1; exact ⟨a, _, c, _, h2⟩
  · exact ih e he
theorem FRel.lens {mx : MapX} {fs : List (Int × Fi)} (h : FRel R mx.kv fs) : Eng.lens mx.es = used fs := by
 obtain ⟨ck, es⟩ := mx
 unfold MapX.kv at h
 simp only at h ⊢
 induction es generalizing fs with
 | nil => cases h; rfl
 | cons e es ih =>
  rw [List.map_cons] at h
  cases h with
  | cons h1 h2 =>
   obtain ⟨a, c, h3, _⟩ := h1
   simp only [Eng.lens, used]
   rw [ih h2, h3, flen_file]
theorem isfile_es {mx : MapX} (h : ∀ e ∈ mx.kv, IsFile e.2) : ∀ e ∈ mx.es, IsFile e.2.2 := fun e he => h (e.1, e.2.2) (List.mem_map.2 ⟨e, he, rfl⟩)
theorem keys_es (mx : MapX) : mx.es.map (·.1) = mx.kv.map (·.1) := by
 unfold MapX.kv
 rw [List.map_map]; rfl
theorem mput_mem {α : Type} {k : Int} {u : α} {x : Int} : ∀ {m : List (Int × α)}, x ∈ (mput k u m).map (·.1) → x = k ∨ x ∈ m.map (·.1)
 | [], h => by simp [mput] at h; exact .inl h
 | (n, v) :: m, h => by
  simp only [mput] at h
  split at h
  · rename_i q
    simp only [List.map_cons, List.mem_cons] at h ⊢
    rcases h with h | h
    · exact .inl h
    · exact .inr (.inr h)
  · simp only [List.map_cons, List.mem_cons] at h ⊢
    rcases h with h | h
    · exact .inr (.inl h)
    · exact (mput_mem h).imp id .inr
theorem mput_nd {α : Type} {k : Int} {u : α} : ∀ {m : List (Int × α)}, (m.map (·.1)).Nodup → ((mput k u m).map (·.1)).Nodup
 | [], _ => by simp [mput]
 | (n, v) :: m, h => by
  simp only [List.map_cons, List.nodup_cons] at h
  simp only [mput]
  split
  · rename_i q
    subst q
    simp only [List.map_cons, List.nodup_cons]
    exact h
  · rename_i q
    simp only [List.map_cons, List.nodup_cons]
    refine ⟨fun hm => ?_, mput_nd h.2⟩
    rcases mput_mem hm with e | e
    · exact q e.symm
    · exact h.1 e
theorem mdel_sub {α : Type} {k : Int} : ∀ {m : List (Int × α)}, (mdel k m).Sublist m
 | [] => List.Sublist.slnil
 | (n, v) :: m => by
  simp only [mdel]
  split
  · exact List.sublist_cons_self _ _
  · exact mdel_sub.cons_cons _
theorem mdel_nd {α : Type} {k : Int} {m : List (Int × α)} (h : (m.map (·.1)).Nodup) : ((mdel k m).map (·.1)).Nodup := (mdel_sub.map _).nodup h
structure DI (R : Objs) (mx : MapX) (fs : List (Int × Fi)) : Prop where
 rel : FRel R mx.kv fs
 nd : (fs.map (·.1)).Nodup
theorem DI.app {N : Objs} {mx : MapX} {fs : List (Int × Fi)} (h : DI R mx fs) : DI (N ++ R) mx fs := ⟨h.rel.app, h.nd⟩
def setF (fs : List (Int × Fi)) (k : Int) (f : Fi) : List (Int × Fi) := if f.bs = [] then mdel k (mput k f fs) else mput k f fs
def setX (mx : MapX) (k : Int) (v : Value) (n : Nat) : MapX := if n = 0 then (mx.put k v).del k else mx.put k v
theorem DI.set {mx : MapX} {fs : List (Int × Fi)} (h : DI R mx fs) (k : Int) {v : Value} {f : Fi} (hv : FileOk R v f) : DI R (setX mx k v f.bs.length) (setF fs k f) := by
 unfold setX setF
 by_cases q : f.bs = []
 · rw [if_pos (by rw [q]; rfl), if_pos q]
   refine ⟨?_, mdel_nd (mput_nd h.nd)⟩
   rw [MapX.kv_del, MapX.kv_put]
   exact (h.rel.put k hv).del k
 · rw [if_neg (fun e => q (List.length_eq_zero_iff.1 e)), if_neg q]
   refine ⟨?_, mput_nd h.nd⟩
   rw [MapX.kv_put]
   exact h.rel.put k hv
theorem DI.hard {mx : MapX} {fs : List (Int × Fi)} (h : DI R mx fs) : DI R mx.hard (hardAll fs) := ⟨by rw [MapX.hard_kv]; exact h.rel.hard, by
 unfold hardAll
 rw [List.map_map]
 exact h.nd⟩
def getF (fs : List (Int × Fi)) (k : Int) : Fi := (mget k fs).getD ⟨[], 0⟩
theorem DI.get {mx : MapX} {fs : List (Int × Fi)} (h : DI R mx fs) (k : Int) : FileOk R ((mget k mx.kv).getD (fileV none 0 0 0)) (getF fs k) := by
 unfold getF
 rcases h.rel.get k with ⟨h1, h2⟩ | ⟨v, f, h1, h2, h3⟩
 · rw [h1, h2]; exact ⟨none, 0, rfl, .inl ⟨rfl, rfl, rfl⟩, fun _ => rfl, fun x hx => by simp at hx⟩
 · rw [h1, h2]; exact h3
theorem DI.new : DI R MapX.new [] := ⟨.nil, by simp⟩
theorem Rowy.inc {R0 : Objs} {sz : Nat} {a : Option Addr} {n : Nat} {cs : List Value} (h : Rowy R0 sz a n cs) (hi : ∀ g, Sat g R → Sat g R0) : Rowy R sz a n cs := by
 rcases h with h | ⟨b, off, y, h1, h2, h3⟩
 · exact .inl h
 · exact .inr ⟨b, off, y, h1, fun g hg => h2 g (hi g hg), h3⟩
structure Dk where
 room : Int
 off : Bool
 armed : Bool
 left : Int
 fs : List (Int × Fi)
def stepD (D : Dk) : Bool × Dk :=
 if D.armed = false then (true, D)
 else if D.left - 1 < 0 then (false, { D with off := true, armed := false, left := D.left - 1 })
 else (!D.off, { D with left := D.left - 1 })
def readD (D : Dk) (n : Int) : List Int × Int :=
 if ¬ (0 ≤ n ∧ n < 64) then ([], 1) else if D.off = true then ([], 23) else ((getF D.fs n).bs, 0)
def appD1 (D : Dk) (n : Int) (b : List Int) : Dk := { D with fs := setF D.fs n ⟨(getF D.fs n).bs ++ b, (getF D.fs n).d⟩ }
def appendD (D : Dk) (n : Int) (b : List Int) : Int × Dk :=
 if ¬ (0 ≤ n ∧ n < 64) then (1, D) else if D.off = true then (23, D) else if (b.length : Int) > D.room - used D.fs then (22, D)
 else (if (stepD (appD1 D n b)).1 = true then 0 else 23, (stepD (appD1 D n b)).2)
def syncD (D : Dk) : Int × Dk :=
 if D.off = true then (23, D) else if (stepD D).1 = false then (23, (stepD D).2) else (0, { (stepD D).2 with fs := hardAll (stepD D).2.fs })
def truncD (D : Dk) (n size : Int) : Int × Dk :=
 if ¬ (0 ≤ n ∧ n < 64) ∨ size < 0 ∨ size > ((getF D.fs n).bs.length : Int) then (1, D)
 else if D.off = true then (23, D) else if (stepD D).1 = false then (23, (stepD D).2)
 else (0, { (stepD D).2 with fs := setF D.fs n ⟨(getF D.fs n).bs.take size.toNat, min (getF D.fs n).d size⟩ })
abbrev dkO (d bm : Nat) (D : Dk) (mx : MapX) (R : Objs) : Objs := (d, ⟨0, false, dObj bm D.room D.off D.armed D.left⟩) :: (bm, ⟨2, false, mcells mx⟩) :: R
def FiOk (e : Int × Fi) : Prop := (0 ≤ e.1 ∧ e.1 < 64) ∧ e.2.bs ≠ [] ∧ 0 ≤ e.2.d ∧ e.2.d ≤ e.2.bs.length
structure DkI (R : Objs) (D : Dk) (mx : MapX) : Prop where
 di : DI R mx D.fs
 ok : ∀ e ∈ D.fs, FiOk e
 room : 0 ≤ D.room ∧ D.room ≤ 16777216
 left : D.armed = true → 0 ≤ D.left ∧ D.left < 9223372036854775808
 used : used D.fs ≤ D.room
theorem stepD_fs (D : Dk) : (stepD D).2.fs = D.fs ∧ (stepD D).2.room = D.room := by
 unfold stepD
 split
 · exact ⟨rfl, rfl⟩
 · split <;> exact ⟨rfl, rfl⟩
theorem stepD_left {D : Dk} (h : D.armed = true → 0 ≤ D.left ∧ D.left < 9223372036854775808) : (stepD D).2.armed = true → 0 ≤ (stepD D).2.left ∧ (stepD D).2.left < 9223372036854775808 := by
 unfold stepD
 split
 · exact h
 · rename_i q
   split
   · intro q2; simp at q2
   · intro q2
     have := h (by simpa using q)
     simp only
     omega
theorem DkI.step {D : Dk} {mx : MapX} (h : DkI R D mx) : DkI R (stepD D).2 mx := by
 obtain ⟨h1, h2⟩ := stepD_fs D
 exact ⟨by rw [h1]; exact h.di, by rw [h1]; exact h.ok, by rw [h2]; exact h.room, stepD_left h.left, by rw [h1, h2]; exact h.used⟩
theorem DkI.app {N : Objs} {D : Dk} {mx : MapX} (h : DkI R D mx) : DkI (N ++ R) D mx := ⟨h.di.app, h.ok, h.room, h.left, h.used⟩
theorem used_hard : ∀ fs, used (hardAll fs) = used fs
 | [] => rfl
 | e :: l => by
  have := used_hard l
  unfold hardAll at this ⊢
  simp only [List.map_cons, used, this]
  rfl
theorem DkI.hard {D : Dk} {mx : MapX} (h : DkI R D mx) : DkI R { D with fs := hardAll D.fs } mx.hard := ⟨h.di.hard, (fun e he => by
  obtain ⟨e', he', rfl⟩ := List.mem_map.1 he
  obtain ⟨h1, h2, h3, h4⟩ := h.ok e' he'
  exact ⟨h1, h2, Int.natCast_nonneg _, Int.le_refl _⟩), h.room, h.left, by simp only [used_hard]; exact h.used⟩
theorem used_get : ∀ (fs : List (Int × Fi)) (k : Int), ((getF fs k).bs.length : Int) ≤ used fs
 | [], k => Int.le_refl _
 | e :: l, k => by
  have h1 := used_get l k
  have h2 := used_nn l
  unfold getF at h1 ⊢
  obtain ⟨n, f⟩ := e
  simp only [mget, used]
  split
  · simp only [Option.getD_some]; omega
  · omega
theorem used_put : ∀ (fs : List (Int × Fi)) (k : Int) (f : Fi), used (mput k f fs) = used fs - (getF fs k).bs.length + f.bs.length
 | [], k, f => by
  show (f.bs.length : Int) + 0 = 0 - (0 : Nat) + f.bs.length
  omega
 | (n, v) :: l, k, f => by
  have h1 := used_put l k f
  unfold getF at h1 ⊢
  simp only [mput, mget]
  by_cases q : k = n
  · rw [if_pos q, if_pos q]
    simp only [used, Option.getD_some]
    omega
  · rw [if_neg q, if_neg q]
    simp only [used]
    omega
theorem get_put {fs : List (Int × Fi)} {k : Int} {f : Fi} : getF (mput k f fs) k = f := by
 unfold getF
 induction fs with
 | nil => simp [mput, mget]
 | cons e l ih =>
  obtain ⟨n, v⟩ := e
  simp only [mput]
  by_cases q : k = n
  · rw [if_pos q]; simp [mget]
  · rw [if_neg q]; simp only [mget]; rw [if_neg q]; exact ih
theorem used_del : ∀ (fs : List (Int × Fi)) (k : Int), used (mdel k fs) = used fs - (getF fs k).bs.length
 | [], k => rfl
 | (n, v) :: l, k => by
  have h1 := used_del l k
  unfold getF at h1 ⊢
  simp only [mdel, mget]
  by_cases q : k = n
  · rw [if_pos q, if_pos q]
    simp only [used, Option.getD_some]
    omega
  · rw [if_neg q, if_neg q]
    simp only [used]
    omega
theorem used_set (fs : List (Int × Fi)) (k : Int) (f : Fi) : used (setF fs k f) = used fs - (getF fs k).bs.length + f.bs.length := by
 unfold setF
 split
 · rename_i q
   rw [used_del, used_put, get_put, q]
   simp
 · exact used_put fs k f
theorem DkI.get_len {D : Dk} {mx : MapX} (h : DkI R D mx) (k : Int) : (getF D.fs k).bs.length ≤ 16777216 := by
 have h1 := used_get D.fs k
 have h2 := h.used
 have h3 := h.room
 omega
theorem mput_all {α : Type} {k : Int} {u : α} : ∀ {m : List (Int × α)} {e : Int × α}, e ∈ mput k u m → e = (k, u) ∨ e ∈ m
 | [], e, h => by simp [mput] at h; exact .inl h
 | (n, v) :: m, e, h => by
  simp only [mput] at h
  split at h
  · rcases List.mem_cons.1 h with h | h
    · exact .inl h
    · exact .inr (List.mem_cons_of_mem _ h)
  · rcases List.mem_cons.1 h with h | h
    · exact .inr (h ▸ List.mem_cons_self ..)
    · exact (mput_all h).imp id (List.mem_cons_of_mem _)
theorem mdel_ne {α : Type} {k : Int} : ∀ {m : List (Int × α)} {e : Int × α}, (m.map (·.1)).Nodup → e ∈ mdel k m → e.1 ≠ k ∧ e ∈ m
 | [], e, _, h => by simp [mdel] at h
 | (n, v) :: m, e, hn, h => by
  simp only [List.map_cons, List.nodup_cons] at hn
  simp only [mdel] at h
  split at h
  · rename_i q
    subst q
    exact ⟨fun q => hn.1 (List.mem_map.2 ⟨e, h, q⟩), List.mem_cons_of_mem _ h⟩
  · rename_i q
    rcases List.mem_cons.1 h with rfl | h
    · exact ⟨fun e => q e.symm, List.mem_cons_self ..⟩
    · exact (mdel_ne hn.2 h).imp id (List.mem_cons_of_mem _)
theorem mget_mem {α : Type} {k : Int} {u : α} : ∀ {m : List (Int × α)}, mget k m = some u → (k, u) ∈ m
 | [], h => by simp [mget] at h
 | (n, v) :: m, h => by
  simp only [mget] at h
  split at h
  · rename_i q; injection h with h; subst q h; exact List.mem_cons_self ..
  · exact List.mem_cons_of_mem _ (mget_mem h)
theorem DkI.get_d {D : Dk} {mx : MapX} (h : DkI R D mx) (k : Int) : 0 ≤ (getF D.fs k).d ∧ (getF D.fs k).d ≤ (getF D.fs k).bs.length := by
 unfold getF
 cases hg : mget k D.fs with
 | none => exact ⟨Int.le_refl _, Int.le_refl _⟩
 | some f =>
  obtain ⟨_, _, h3⟩ := h.ok _ (mget_mem hg)
  exact h3
theorem DkI.set {D : Dk} {mx : MapX} (h : DkI R D mx) (k : Int) {v : Value} {f : Fi} (hv : FileOk R v f) (hk : 0 ≤ k ∧ k < 64) (hd : 0 ≤ f.d ∧ f.d ≤ f.bs.length) (hu : Eng.used D.fs - (getF D.fs k).bs.length + f.bs.length ≤ D.room) : DkI R { D with fs := setF D.fs k f } (setX mx k v f.bs.length) :=
 ⟨h.di.set k hv, (fun e he => by
  unfold setF at he
  split at he
  · obtain ⟨h1, h2⟩ := mdel_ne (mput_nd h.di.nd) he
    rcases mput_all h2 with h2 | h2
    · exact absurd (by rw [h2]) h1
    · exact h.ok e h2
  · rename_i q
    rcases mput_all he with h2 | h2
    · rw [h2]; exact ⟨hk, q, hd⟩
    · exact h.ok e h2), h.room, h.left, by simp only [used_set]; exact hu⟩
theorem DkI.lens {D : Dk} {mx : MapX} (h : DkI R D mx) : Eng.lens mx.es = Eng.used D.fs := h.di.rel.lens
theorem DkI.files {D : Dk} {mx : MapX} (h : DkI R D mx) : ∀ e ∈ mx.es, IsFile e.2.2 := isfile_es h.di.rel.file
theorem DkI.keys {D : Dk} {mx : MapX} (h : DkI R D mx) : (mx.es.map (·.1)).Nodup := by rw [keys_es, h.di.rel.keys]; exact h.di.nd
end Go.Proofs.Ytahaplbdhgfobaa.Eng
set_option linter.unusedVariables false
set_option linter.unusedSimpArgs false
namespace Go.Proofs.Ytahaplbdhgfobaa.Eng
theorem exists_ok (O : Objs) (n : Int) : Spec Try.prog false 36 #[I n] O fun v O' => v = .bool (decide (0 ≤ n ∧ n < 64)) ∧ O' = O := by
 refine Spec.enter (args := [_]) (m := 9) Try.func36 rfl rfl (by decide +kernel) fun h0 => ?_
 refine WX.seq ?_
 refine WX.region rfl ?_
 refine WXL.assign Met.none rfl ?_
 refine WXL.nil ?_
 refine Fin.then_normal ?_
 refine WX.seq ?_
 refine WX.region rfl ?_
 refine WXL.move Met.none rfl ?_
 refine WXL.bin Met.none rfl rfl rfl ?_
 refine WXL.move Met.none rfl ?_
 refine WXL.split (d := 5) rfl (fun hg5 => ?_) (fun hg5 => ?_)
 · try simp only [cnd] at hg5
   refine WXL.move (Met.some rfl rfl rfl) rfl ?_
   refine WXL.bin (Met.some rfl rfl rfl) rfl rfl rfl ?_
   refine WXL.pick_t Met.none rfl rfl ?_
   refine WXL.assign Met.none rfl ?_
   refine WXL.nil ?_
   refine Fin.then_normal ?_
   refine WX.ret ?_
   exact Fin.result (O' := O) (.inr rfl) rfl rfl drop_ ⟨bl_, rfl⟩
 · try simp only [cnd] at hg5
   refine WXL.miss (j := 2) (d := 5) rfl rfl rfl ?_
   refine WXL.miss (j := 2) (d := 5) rfl rfl rfl ?_
   refine WXL.pick_f Met.none rfl rfl ?_
   refine WXL.assign Met.none rfl ?_
   refine WXL.nil ?_
   refine Fin.then_normal ?_
   refine WX.ret ?_
   exact Fin.result (O' := O) (.inr rfl) rfl rfl drop_ ⟨bl_, rfl⟩
theorem step_ok (R : Objs) (d bm : Nat) (D : Dk) (mx : MapX) (hl : D.armed = true → 0 ≤ D.left ∧ D.left < 9223372036854775808) :
  Spec Try.prog false 39 #[Ptr d 0] (dkO d bm D mx R) fun v O' => v = .bool (stepD D).1 ∧ O' = dkO d bm (stepD D).2 mx R := by
 refine Spec.enter (args := [_]) (m := 31) Try.func39 rfl rfl (by decide +kernel) fun h0 => ?_
 refine WX.seq ?_
 refine WX.region rfl ?_
 refine WXL.assign Met.none rfl ?_
 refine WXL.nil ?_
 refine Fin.then_normal ?_
 refine WX.seq ?_
 refine WX.seq ?_
 refine WX.region rfl ?_
 refine WXL.move Met.none rfl ?_
 refine WXL.nilCheck Met.none rfl ?_
 first | refine WXL.fieldAddr Met.none rfl Try.underlying68 rfl sz4 rfl ?_ | refine WXL.faS Met.none rfl Try.underlying68 rfl sz4 ?_
 first | refine WXL.ld Met.none rfl agg4 ?_ | refine WXL.ldS Met.none rfl agg4 ?_
 refine WXL.not Met.none rfl ?_
 refine WXL.nil ?_
 refine Fin.then_normal ?_
 refine WX.cond rfl (fun hc0 => ?_) (fun hc0 => ?_)
 · try simp only [cnd] at hc0
   refine WX.seq ?_
   refine WX.region rfl ?_
   refine WXL.assign Met.none rfl ?_
   refine WXL.nil ?_
   refine Fin.then_normal ?_
   refine WX.ret ?_
   refine Fin.then_ret ?_
   first
   | exact Fin.result (O' := dkO d bm D mx R) (.inr rfl) rfl rfl drop_ (by unfold stepD; rw [if_pos (by simpa using hc0)]; exact ⟨rfl, rfl⟩)
   | exact Fin.result (O' := dkO d bm { D with off := true, armed := false, left := D.left - 1 } mx R) (.inr rfl) rfl rfl drop_ (by unfold stepD; rw [if_neg (by rw [ha]; simp), if_pos (by omega)]; exact ⟨rfl, rfl⟩)
   | exact Fin.result (O' := dkO d bm { D with left := D.left - 1 } mx R) (.inr rfl) rfl rfl drop_ (by unfold stepD; rw [if_neg (by rw [ha]; simp), if_neg (by omega)]; exact ⟨rfl, rfl⟩)
 · try simp only [cnd] at hc0
   have ha : D.armed = true := by simpa using hc0
   have hl := hl ha
   refine WX.skip ?_
   refine Fin.then_normal ?_
   refine WX.seq ?_
   refine WX.region rfl ?_
   refine WXL.move Met.none rfl ?_
   refine WXL.nilCheck Met.none rfl ?_
   first | refine WXL.fieldAddr Met.none rfl Try.underlying68 rfl sz3 rfl ?_ | refine WXL.faS Met.none rfl Try.underlying68 rfl sz3 ?_
   first | refine WXL.ld Met.none rfl agg3 ?_ | refine WXL.ldS Met.none rfl agg3 ?_
   refine WXL.bin Met.none rfl rfl bvS ?_
   refine WXL.nilCheck Met.none rfl ?_
   first | refine WXL.fieldAddr Met.none rfl Try.underlying68 rfl sz3 rfl ?_ | refine WXL.faS Met.none rfl Try.underlying68 rfl sz3 ?_
   refine WXL.st (vs := [_]) (j := 0) Met.none rfl rfl rfl sz3 ?_ (hj := rfl)
   refine WXL.nil ?_
   refine Fin.then_normal ?_
   refine WX.seq ?_
   refine WX.seq ?_
   refine WX.region rfl ?_
   refine WXL.move Met.none rfl ?_
   refine WXL.nilCheck Met.none rfl ?_
   first | refine WXL.fieldAddr Met.none rfl Try.underlying68 rfl sz3 rfl ?_ | refine WXL.faS Met.none rfl Try.underlying68 rfl sz3 ?_
   first | refine WXL.ld Met.none rfl agg3 ?_ | refine WXL.ldS Met.none rfl agg3 ?_
   refine WXL.bin Met.none rfl rfl rfl ?_
   refine WXL.nil ?_
   refine Fin.then_normal ?_
   refine WX.cond rfl (fun hc1 => ?_) (fun hc1 => ?_)
   · try simp only [cnd] at hc1
     refine WX.region rfl ?_
     refine WXL.move Met.none rfl ?_
     refine WXL.move Met.none rfl ?_
     refine WXL.nilCheck Met.none rfl ?_
     first | refine WXL.fieldAddr Met.none rfl Try.underlying68 rfl sz4 rfl ?_ | refine WXL.faS Met.none rfl Try.underlying68 rfl sz4 ?_
     refine WXL.st (vs := [_]) (j := 0) Met.none rfl rfl rfl sz4 ?_ (hj := rfl)
     refine WXL.nilCheck Met.none rfl ?_
     first | refine WXL.fieldAddr Met.none rfl Try.underlying68 rfl sz4 rfl ?_ | refine WXL.faS Met.none rfl Try.underlying68 rfl sz4 ?_
     refine WXL.st (vs := [_]) (j := 0) Met.none rfl rfl rfl sz4 ?_ (hj := rfl)
     refine WXL.nil ?_
     refine Fin.then_normal ?_
     refine WX.seq ?_
     refine WX.region rfl ?_
     refine WXL.move Met.none rfl ?_
     refine WXL.nilCheck Met.none rfl ?_
     first | refine WXL.fieldAddr Met.none rfl Try.underlying68 rfl sz4 rfl ?_ | refine WXL.faS Met.none rfl Try.underlying68 rfl sz4 ?_
     first | refine WXL.ld Met.none rfl agg4 ?_ | refine WXL.ldS Met.none rfl agg4 ?_
     refine WXL.not Met.none rfl ?_
     refine WXL.assign Met.none rfl ?_
     refine WXL.nil ?_
     refine Fin.then_normal ?_
     refine WX.ret ?_
     first
     | exact Fin.result (O' := dkO d bm D mx R) (.inr rfl) rfl rfl drop_ (by unfold stepD; rw [if_pos (by simpa using hc0)]; exact ⟨rfl, rfl⟩)
     | exact Fin.result (O' := dkO d bm { D with off := true, armed := false, left := D.left - 1 } mx R) (.inr rfl) rfl rfl drop_ (by unfold stepD; rw [if_neg (by rw [ha]; simp), if_pos (by omega)]; exact ⟨rfl, rfl⟩)
     | exact Fin.result (O' := dkO d bm { D with left := D.left - 1 } mx R) (.inr rfl) rfl rfl drop_ (by unfold stepD; rw [if_neg (by rw [ha]; simp), if_neg (by omega)]; exact ⟨rfl, rfl⟩)
   · try simp only [cnd] at hc1
     refine WX.skip ?_
     refine Fin.then_normal ?_
     refine WX.seq ?_
     refine WX.region rfl ?_
     refine WXL.move Met.none rfl ?_
     refine WXL.nilCheck Met.none rfl ?_
     first | refine WXL.fieldAddr Met.none rfl Try.underlying68 rfl sz4 rfl ?_ | refine WXL.faS Met.none rfl Try.underlying68 rfl sz4 ?_
     first | refine WXL.ld Met.none rfl agg4 ?_ | refine WXL.ldS Met.none rfl agg4 ?_
     refine WXL.not Met.none rfl ?_
     refine WXL.assign Met.none rfl ?_
     refine WXL.nil ?_
     refine Fin.then_normal ?_
     refine WX.ret ?_
     first
     | exact Fin.result (O' := dkO d bm D mx R) (.inr rfl) rfl rfl drop_ (by unfold stepD; rw [if_pos (by simpa using hc0)]; exact ⟨rfl, rfl⟩)
     | exact Fin.result (O' := dkO d bm { D with off := true, armed := false, left := D.left - 1 } mx R) (.inr rfl) rfl rfl drop_ (by unfold stepD; rw [if_neg (by rw [ha]; simp), if_pos (by omega)]; exact ⟨rfl, rfl⟩)
     | exact Fin.result (O' := dkO d bm { D with left := D.left - 1 } mx R) (.inr rfl) rfl rfl drop_ (by unfold stepD; rw [if_neg (by rw [ha]; simp), if_neg (by omega)]; exact ⟨rfl, rfl⟩)
theorem set_ok (R : Objs) (d bm : Nat) (D : Dk) (mx : MapX) (n : Int) (a : Option Addr) (m c : Nat) (t : Int) :
  Spec Try.prog false 38 #[Ptr d 0, I n, fileV a m c t] (dkO d bm D mx R) fun v O' => O' = dkO d bm D (setX mx n (fileV a m c t) m) R := by
 refine Spec.enter (args := [_, _, _]) (m := 21) Try.func38 rfl rfl (by decide +kernel) fun h0 => ?_
 refine WX.seq ?_
 refine WX.region rfl ?_
 refine WXL.box (c := [_, _]) Met.none rfl rfl rfl (fun b5 => ?_)
 refine WXL.nil ?_
 refine Fin.then_normal ?_
 refine WX.seq ?_
 refine WX.draw rfl ?_
 refine WXL.move Met.none rfl ?_
 refine WXL.nilCheck Met.none rfl ?_
 first | refine WXL.fieldAddr Met.none rfl Try.underlying68 rfl sz66 rfl ?_ | refine WXL.faS Met.none rfl Try.underlying68 rfl sz66 ?_
 first | refine WXL.ld Met.none rfl agg66 ?_ | refine WXL.ldS Met.none rfl agg66 ?_
 refine WXL.move Met.none rfl ?_
 refine WXL.ldN (vs := [_, _]) Met.none rfl agg71 sz71 ?_
 refine WXL.mapUpdate (j := 2) Met.none rfl rfl rfl mapT66 ?_ (hj := rfl)
 refine WXL.nil ?_
 refine Fin.then_normal ?_
 refine WX.seq ?_
 refine WX.region rfl ?_
 refine WXL.fieldAddr (off' := 0) Met.none rfl Try.underlying71 rfl sz27 rfl ?_
 first | refine WXL.ld Met.none rfl agg27 ?_ | refine WXL.ldS Met.none rfl agg27 ?_
 refine WXL.len Met.none rfl Try.underlying27 ?_
 refine WXL.bin Met.none rfl rfl rfl ?_
 refine WXL.nil ?_
 refine Fin.then_normal ?_
 refine WX.cond rfl (fun hc0 => ?_) (fun hc0 => ?_)
 · try simp only [cnd] at hc0
   refine WX.region rfl ?_
   refine WXL.move Met.none rfl ?_
   refine WXL.nilCheck Met.none rfl ?_
   first | refine WXL.fieldAddr Met.none rfl Try.underlying68 rfl sz66 rfl ?_ | refine WXL.faS Met.none rfl Try.underlying68 rfl sz66 ?_
   first | refine WXL.ld Met.none rfl agg66 ?_ | refine WXL.ldS Met.none rfl agg66 ?_
   refine WXL.move Met.none rfl ?_
   refine WXL.delete (j := 2) Met.none rfl rfl mapT66 ?_ (hj := rfl)
   refine WXL.nil ?_
   first
   | exact Fin.result (O' := dkO d bm D ((mx.put n (fileV a m c t)).del n) R) (.inl rfl) rfl rfl drop_ (by unfold setX; rw [if_pos (by omega)])
   | exact Fin.result (O' := dkO d bm D (mx.put n (fileV a m c t)) R) (.inl rfl) rfl rfl drop_ (by unfold setX; rw [if_neg (by omega)])
 · try simp only [cnd] at hc0
   refine WX.skip ?_
   first
   | exact Fin.result (O' := dkO d bm D ((mx.put n (fileV a m c t)).del n) R) (.inl rfl) rfl rfl drop_ (by unfold setX; rw [if_pos (by omega)])
   | exact Fin.result (O' := dkO d bm D (mx.put n (fileV a m c t)) R) (.inl rfl) rfl rfl drop_ (by unfold setX; rw [if_neg (by omega)])
theorem diskNew_ok (O : Objs) (room : Int) : Spec Try.prog false 11 #[I room] O fun v O' =>
  (0 ≤ room ∧ room ≤ 16777216 ∧ ∃ d bm, v = .tuple #[Ptr d 0, I 0] ∧ O' = dkO d bm ⟨room, false, false, 0, []⟩ .new O) ∨ (¬ (0 ≤ room ∧ room ≤ 16777216) ∧ v = .tuple #[.pointer none, I 1] ∧ O' = O) := by
 refine Spec.enter (args := [_]) (m := 14) Try.func11 rfl rfl (by decide +kernel) fun h0 => ?_
 refine WX.seq ?_
 refine WX.region rfl ?_
 refine WXL.assign Met.none rfl ?_
 refine WXL.assign Met.none rfl ?_
 refine WXL.nil ?_
 refine Fin.then_normal ?_
 refine WX.seq ?_
 refine WX.seq ?_
 refine WX.region rfl ?_
 refine WXL.move Met.none rfl ?_
 refine WXL.bin Met.none rfl rfl rfl ?_
 refine WXL.move Met.none rfl ?_
 refine WXL.split (d := 6) rfl (fun hg6 => ?_) (fun hg6 => ?_)
 · try simp only [cnd] at hg6
   refine WXL.miss (j := 2) (d := 6) rfl rfl rfl ?_
   refine WXL.miss (j := 2) (d := 6) rfl rfl rfl ?_
   refine WXL.pick_t Met.none rfl rfl ?_
   refine WXL.nil ?_
   refine Fin.then_normal ?_
   refine WX.cond rfl (fun hc0 => ?_) (fun hc0 => nomatch hc0)
   refine WX.seq ?_
   refine WX.region rfl ?_
   refine WXL.assign Met.none rfl ?_
   refine WXL.assign Met.none rfl ?_
   refine WXL.nil ?_
   refine Fin.then_normal ?_
   refine WX.ret ?_
   refine Fin.then_ret ?_
   first
   | exact Fin.result (O' := O) (.inr rfl) rfl rfl drop_ (.inr ⟨by omega, rfl, rfl⟩)
   | exact Fin.result (O' := dkO b13 b10 ⟨room, false, false, 0, []⟩ .new O) (.inr rfl) rfl rfl drop_ (.inl ⟨by omega, by omega, _, _, rfl, rfl⟩)
 · try simp only [cnd] at hg6
   refine WXL.move (Met.some rfl rfl rfl) rfl ?_
   refine WXL.bin (Met.some rfl rfl rfl) rfl rfl rfl ?_
   refine WXL.pick_f Met.none rfl rfl ?_
   refine WXL.nil ?_
   refine Fin.then_normal ?_
   refine WX.cond rfl (fun hc0 => ?_) (fun hc0 => ?_)
   · try simp only [cnd] at hc0
     refine WX.seq ?_
     refine WX.region rfl ?_
     refine WXL.assign Met.none rfl ?_
     refine WXL.assign Met.none rfl ?_
     refine WXL.nil ?_
     refine Fin.then_normal ?_
     refine WX.ret ?_
     refine Fin.then_ret ?_
     first
     | exact Fin.result (O' := O) (.inr rfl) rfl rfl drop_ (.inr ⟨by omega, rfl, rfl⟩)
     | exact Fin.result (O' := dkO b13 b10 ⟨room, false, false, 0, []⟩ .new O) (.inr rfl) rfl rfl drop_ (.inl ⟨by omega, by omega, _, _, rfl, rfl⟩)
   · try simp only [cnd] at hc0
     refine WX.skip ?_
     refine Fin.then_normal ?_
     refine WX.seq ?_
     refine WX.region rfl ?_
     refine WXL.makeMap Met.none (fun b10 => ?_)
     refine WXL.move Met.none rfl ?_
     refine WXL.build (c := [_, _, _, _, _]) Met.none rfl zero68 places68 rfl ?_
     refine WXL.box (c := [_, _, _, _, _]) Met.none rfl rfl rfl (fun b13 => ?_)
     refine WXL.assign Met.none rfl ?_
     refine WXL.assign Met.none rfl ?_
     refine WXL.nil ?_
     refine Fin.then_normal ?_
     refine WX.ret ?_
     first
     | exact Fin.result (O' := O) (.inr rfl) rfl rfl drop_ (.inr ⟨by omega, rfl, rfl⟩)
     | exact Fin.result (O' := dkO b13 b10 ⟨room, false, false, 0, []⟩ .new O) (.inr rfl) rfl rfl drop_ (.inl ⟨by omega, by omega, _, _, rfl, rfl⟩)
theorem diskRead_ok (R : Objs) {R0 : Objs} (d bm : Nat) (D : Dk) (mx : MapX) (n : Int) (hD : DkI R0 D mx) (hi : ∀ g, Sat g R → Sat g R0) :
  Spec Try.prog false 17 #[Ptr d 0, I n] (dkO d bm D mx R) fun v O' => ∃ a c G, v = .tuple #[.slice a (readD D n).1.length c, I (readD D n).2] ∧ Grow 1 a (readD D n).1.length c ((readD D n).1.map B8) G ∧ O' = dkO d bm D mx (G ++ R) := by
 obtain ⟨fa, fc, hfv, hrow0, hnil, hB⟩ := hD.di.get n
 have hrow := hrow0.inc hi
 have hlen := hD.get_len n
 refine Spec.enter (args := [_, _]) (m := 23) Try.func17 rfl rfl (by decide +kernel) fun h0 => ?_
 refine WX.seq ?_
 refine WX.region rfl ?_
 refine WXL.assign Met.none rfl ?_
 refine WXL.assign Met.none rfl ?_
 refine WXL.nil ?_
 refine Fin.then_normal ?_
 refine WX.seq ?_
 refine WX.block ?_
 refine WX.seq ?_
 refine WX.region rfl ?_
 refine WXL.move Met.none rfl ?_
 refine WXL.cl (O1 := _) Met.none rfl (fnOk_of Try.func36 (by decide +kernel)) rfl (fun _ h => h) (exists_ok _ n) (fun v O' hp => ?_)
 obtain ⟨rfl, hO⟩ := hp
 subst O'
 refine WXL.not Met.none rfl ?_
 refine WXL.assign Met.none rfl ?_
 refine WXL.nil ?_
 refine Fin.then_normal ?_
 refine WX.cond rfl (fun hc0 => ?_) (fun hc0 => ?_)
 · try simp only [cnd] at hc0
   refine WX.seq ?_
   refine WX.region rfl ?_
   refine WXL.assign Met.none rfl ?_
   refine WXL.assign Met.none rfl ?_
   refine WXL.nil ?_
   refine Fin.then_normal ?_
   refine WX.ret ?_
   refine Fin.block_ret ?_
   refine Fin.then_ret ?_
   first
   | exact Fin.result (O' := dkO d bm D mx ([] ++ R)) (.inr rfl) rfl rfl drop_ (by unfold readD; rw [if_pos (by omega)]; exact ⟨none, 0, [], rfl, .nil, rfl⟩)
   | exact Fin.result (O' := dkO d bm D mx ([] ++ R)) (.inr rfl) rfl rfl drop_ (by unfold readD; rw [if_neg (by omega), if_pos (by assumption)]; exact ⟨none, 0, [], rfl, .nil, rfl⟩)
   | exact Fin.result (O' := dkO d bm D mx (G7 ++ R)) (.inr rfl) rfl rfl sub_ (by unfold readD; rw [if_neg (by omega), if_neg (by simp [hc1])]; exact ⟨a7, c7, G7, rfl, hG7, rfl⟩)
 · try simp only [cnd] at hc0
   refine WX.seq ?_
   refine WX.region rfl ?_
   refine WXL.move Met.none rfl ?_
   refine WXL.nilCheck Met.none rfl ?_
   first | refine WXL.fieldAddr Met.none rfl Try.underlying68 rfl sz4 rfl ?_ | refine WXL.faS Met.none rfl Try.underlying68 rfl sz4 ?_
   first | refine WXL.ld Met.none rfl agg4 ?_ | refine WXL.ldS Met.none rfl agg4 ?_
   refine WXL.assign Met.none rfl ?_
   refine WXL.nil ?_
   refine Fin.then_normal ?_
   refine WX.cond rfl (fun hc1 => ?_) (fun hc1 => ?_)
   · try simp only [cnd] at hc1
     refine WX.seq ?_
     refine WX.region rfl ?_
     refine WXL.assign Met.none rfl ?_
     refine WXL.assign Met.none rfl ?_
     refine WXL.nil ?_
     refine Fin.then_normal ?_
     refine WX.ret ?_
     refine Fin.block_ret ?_
     refine Fin.then_ret ?_
     first
     | exact Fin.result (O' := dkO d bm D mx ([] ++ R)) (.inr rfl) rfl rfl drop_ (by unfold readD; rw [if_pos (by omega)]; exact ⟨none, 0, [], rfl, .nil, rfl⟩)
     | exact Fin.result (O' := dkO d bm D mx ([] ++ R)) (.inr rfl) rfl rfl drop_ (by unfold readD; rw [if_neg (by omega), if_pos (by assumption)]; exact ⟨none, 0, [], rfl, .nil, rfl⟩)
     | exact Fin.result (O' := dkO d bm D mx (G7 ++ R)) (.inr rfl) rfl rfl sub_ (by unfold readD; rw [if_neg (by omega), if_neg (by simp [hc1])]; exact ⟨a7, c7, G7, rfl, hG7, rfl⟩)
   · try simp only [cnd] at hc1
     refine WX.skip ?_
     refine Fin.block_normal ?_
     refine Fin.then_normal ?_
     refine WX.seq ?_
     refine WX.region rfl ?_
     refine WXL.move Met.none rfl ?_
     refine WXL.nilCheck Met.none rfl ?_
     first | refine WXL.fieldAddr Met.none rfl Try.underlying68 rfl sz66 rfl ?_ | refine WXL.faS Met.none rfl Try.underlying68 rfl sz66 ?_
     first | refine WXL.ld Met.none rfl agg66 ?_ | refine WXL.ldS Met.none rfl agg66 ?_
     refine WXL.move Met.none rfl ?_
     refine WXL.lookup Met.none rfl rfl mapT66 zero71 at_ (show _ = fileV fa (getF D.fs n).bs.length fc (getF D.fs n).d from hfv) ?_
     refine WXL.fieldV Met.none rfl Try.underlying71 rfl (part1 agg27 rfl) ?_
     refine WXL.cl (O1 := _) Met.none rfl (fnOk_of Try.func37 (by decide +kernel)) rfl (fun _ h => h) (clone_ok _ (getF D.fs n).bs fa fc (by omega) (fun q => by
     have := hrow.nil0 q
     exact List.length_eq_zero_iff.1 this) (Src.cons (Src.cons (hrow.src hnil)))) (fun v O' hp => ?_)
     obtain ⟨a7, c7, G7, rfl, hG7, rfl⟩ := hp
     refine WXL.assign Met.none rfl ?_
     refine WXL.assign Met.none rfl ?_
     refine WXL.nil ?_
     refine Fin.then_normal ?_
     refine WX.ret ?_
     first
     | exact Fin.result (O' := dkO d bm D mx ([] ++ R)) (.inr rfl) rfl rfl drop_ (by unfold readD; rw [if_pos (by omega)]; exact ⟨none, 0, [], rfl, .nil, rfl⟩)
     | exact Fin.result (O' := dkO d bm D mx ([] ++ R)) (.inr rfl) rfl rfl drop_ (by unfold readD; rw [if_neg (by omega), if_pos (by assumption)]; exact ⟨none, 0, [], rfl, .nil, rfl⟩)
     | exact Fin.result (O' := dkO d bm D mx (G7 ++ R)) (.inr rfl) rfl rfl sub_ (by unfold readD; rw [if_neg (by omega), if_neg (by simp [hc1])]; exact ⟨a7, c7, G7, rfl, hG7, rfl⟩)
end Go.Proofs.Ytahaplbdhgfobaa.Eng
set_option linter.unusedVariables false
set_option linter.unusedSimpArgs false
namespace Go.Proofs.Ytahaplbdhgfobaa.Eng
theorem used_ok (q : Bool) (R : Objs) {R0 : Objs} (d bm : Nat) (D : Dk) (mx : MapX) (hD : DkI R0 D mx) :
  Spec Try.prog q 21 #[Ptr d 0] (dkO d bm D mx R) fun v O' => v = I (used D.fs) ∧ O' = dkO d bm D mx R :=
 Spec.direct fun g hs => ⟨_, g, _, used_direct (ro1 := false) (ro2 := false) (bm := bm) (mx := mx) (hs.at (j := 0) rfl) (hs.at (j := 1) rfl) hD.files (by
  have h1 := hD.lens
  have h2 := hD.used
  have h3 := hD.room
  omega), ⟨by rw [hD.lens], rfl⟩, hs, fun _ => Old.refl g⟩
theorem harden_ok (R : Objs) {R0 : Objs} (d bm : Nat) (D : Dk) (mx : MapX) (hD : DkI R0 D mx) :
  Spec Try.prog false 40 #[Ptr d 0] (dkO d bm D mx R) fun v O' => v = .tuple #[] ∧ O' = dkO d bm { D with fs := hardAll D.fs } mx.hard R :=
 Spec.direct fun g hs => by
  obtain ⟨f, k, h2⟩ := hs.at (j := 1) (b := bm) (x := ⟨2, false, mcells mx⟩) rfl
  exact ⟨_, _, dkO d bm { D with fs := hardAll D.fs } mx.hard R, harden_direct (ro1 := false) (bm := bm) (mx := mx) (hs.at (j := 0) rfl) h2 hD.files hD.keys, ⟨rfl, rfl⟩, hs.set (j := 1) rfl h2, fun q => by cases q⟩
theorem sync_ok (R : Objs) {R0 : Objs} (d bm : Nat) (D : Dk) (mx : MapX) (hD : DkI R0 D mx) :
  Spec Try.prog false 15 #[Ptr d 0] (dkO d bm D mx R) fun v O' => ∃ mx', v = I (syncD D).1 ∧ O' = dkO d bm (syncD D).2 mx' R ∧ DkI R0 (syncD D).2 mx' := by
 refine Spec.enter (args := [_]) (m := 14) Try.func15 rfl rfl (by decide +kernel) fun h0 => ?_
 refine WX.seq ?_
 refine WX.region rfl ?_
 refine WXL.assign Met.none rfl ?_
 refine WXL.nil ?_
 refine Fin.then_normal ?_
 refine WX.seq ?_
 refine WX.seq ?_
 refine WX.region rfl ?_
 refine WXL.move Met.none rfl ?_
 refine WXL.nilCheck Met.none rfl ?_
 first | refine WXL.fieldAddr Met.none rfl Try.underlying68 rfl sz4 rfl ?_ | refine WXL.faS Met.none rfl Try.underlying68 rfl sz4 ?_
 first | refine WXL.ld Met.none rfl agg4 ?_ | refine WXL.ldS Met.none rfl agg4 ?_
 refine WXL.move Met.none rfl ?_
 refine WXL.split (d := 7) rfl (fun hg7 => ?_) (fun hg7 => ?_)
 · try simp only [cnd] at hg7
   refine WXL.miss (j := 4) (d := 7) rfl rfl rfl ?_
   refine WXL.miss (j := 4) (d := 7) rfl rfl rfl ?_
   refine WXL.miss (j := 4) (d := 7) rfl rfl rfl ?_
   refine WXL.pick_t Met.none rfl rfl ?_
   refine WXL.nil ?_
   refine Fin.then_normal ?_
   refine WX.cond rfl (fun hc0 => ?_) (fun hc0 => nomatch hc0)
   refine WX.seq ?_
   refine WX.region rfl ?_
   refine WXL.assign Met.none rfl ?_
   refine WXL.nil ?_
   refine Fin.then_normal ?_
   refine WX.ret ?_
   refine Fin.then_ret ?_
   first
   | exact Fin.result (O' := dkO d bm D mx R) (.inr rfl) rfl rfl drop_ (by unfold syncD; rw [if_pos (by assumption)]; exact ⟨mx, rfl, rfl, hD⟩)
   | exact Fin.result (O' := dkO d bm (stepD D).2 mx R) (.inr rfl) rfl rfl drop_ (by unfold syncD; rw [if_neg (by simp [hg7]), if_pos (by simpa using hc0)]; exact ⟨mx, rfl, rfl, hD.step⟩)
   | exact Fin.result (O' := dkO d bm { (stepD D).2 with fs := hardAll (stepD D).2.fs } mx.hard R) (.inr rfl) rfl rfl drop_ (by unfold syncD; rw [if_neg (by simp [hg7]), if_neg (by simpa using hc0)]; exact ⟨mx.hard, rfl, rfl, hD.step.hard⟩)
 · try simp only [cnd] at hg7
   refine WXL.move (Met.some rfl rfl rfl) rfl ?_
   refine WXL.cl (O1 := _) (Met.some rfl rfl rfl) rfl (fnOk_of Try.func39 (by decide +kernel)) rfl (fun _ h => h) (step_ok R d bm D mx hD.left) (fun v O' hp => ?_)
   obtain ⟨rfl, hO⟩ := hp
   subst O'
   refine WXL.not (Met.some rfl rfl rfl) rfl ?_
   refine WXL.pick_f Met.none rfl rfl ?_
   refine WXL.nil ?_
   refine Fin.then_normal ?_
   refine WX.cond rfl (fun hc0 => ?_) (fun hc0 => ?_)
   · try simp only [cnd] at hc0
     refine WX.seq ?_
     refine WX.region rfl ?_
     refine WXL.assign Met.none rfl ?_
     refine WXL.nil ?_
     refine Fin.then_normal ?_
     refine WX.ret ?_
     refine Fin.then_ret ?_
     first
     | exact Fin.result (O' := dkO d bm D mx R) (.inr rfl) rfl rfl drop_ (by unfold syncD; rw [if_pos (by assumption)]; exact ⟨mx, rfl, rfl, hD⟩)
     | exact Fin.result (O' := dkO d bm (stepD D).2 mx R) (.inr rfl) rfl rfl drop_ (by unfold syncD; rw [if_neg (by simp [hg7]), if_pos (by simpa using hc0)]; exact ⟨mx, rfl, rfl, hD.step⟩)
     | exact Fin.result (O' := dkO d bm { (stepD D).2 with fs := hardAll (stepD D).2.fs } mx.hard R) (.inr rfl) rfl rfl drop_ (by unfold syncD; rw [if_neg (by simp [hg7]), if_neg (by simpa using hc0)]; exact ⟨mx.hard, rfl, rfl, hD.step.hard⟩)
   · try simp only [cnd] at hc0
     refine WX.skip ?_
     refine Fin.then_normal ?_
     refine WX.seq ?_
     refine WX.region rfl ?_
     refine WXL.move Met.none rfl ?_
     refine WXL.cl (O1 := _) Met.none rfl (fnOk_of Try.func40 (by decide +kernel)) rfl (fun _ h => h) (harden_ok R d bm (stepD D).2 mx hD.step) (fun v O' hp => ?_)
     obtain ⟨rfl, hO⟩ := hp
     subst O'
     refine WXL.nil ?_
     refine Fin.then_normal ?_
     refine WX.seq ?_
     refine WX.region rfl ?_
     refine WXL.assign Met.none rfl ?_
     refine WXL.nil ?_
     refine Fin.then_normal ?_
     refine WX.ret ?_
     first
     | exact Fin.result (O' := dkO d bm D mx R) (.inr rfl) rfl rfl drop_ (by unfold syncD; rw [if_pos (by assumption)]; exact ⟨mx, rfl, rfl, hD⟩)
     | exact Fin.result (O' := dkO d bm (stepD D).2 mx R) (.inr rfl) rfl rfl drop_ (by unfold syncD; rw [if_neg (by simp [hg7]), if_pos (by simpa using hc0)]; exact ⟨mx, rfl, rfl, hD.step⟩)
     | exact Fin.result (O' := dkO d bm { (stepD D).2 with fs := hardAll (stepD D).2.fs } mx.hard R) (.inr rfl) rfl rfl drop_ (by unfold syncD; rw [if_neg (by simp [hg7]), if_neg (by simpa using hc0)]; exact ⟨mx.hard, rfl, rfl, hD.step.hard⟩)
theorem trunc_ok (R : Objs) {R0 : Objs} (d bm : Nat) (D : Dk) (mx : MapX) (n size : Int) (hD : DkI R0 D mx) (hi : ∀ g, Sat g R → Sat g R0) :
  Spec Try.prog false 20 #[Ptr d 0, I n, I size] (dkO d bm D mx R) fun v O' => ∃ mx', v = I (truncD D n size).1 ∧ O' = dkO d bm (truncD D n size).2 mx' R ∧ DkI R0 (truncD D n size).2 mx' := by
 obtain ⟨fa, fc, hfv, hrow0, hnil, hB⟩ := hD.di.get n
 have hrow := hrow0.inc hi
 have hlen := hD.get_len n
 refine Spec.enter (args := [_, _, _]) (m := 49) Try.func20 rfl rfl (by decide +kernel) fun h0 => ?_
 refine WX.seq ?_
 refine WX.region rfl ?_
 refine WXL.assign Met.none rfl ?_
 refine WXL.nil ?_
 refine Fin.then_normal ?_
 refine WX.seq ?_
 refine WX.region rfl ?_
 refine WXL.move Met.none rfl ?_
 refine WXL.nilCheck Met.none rfl ?_
 first | refine WXL.fieldAddr Met.none rfl Try.underlying68 rfl sz66 rfl ?_ | refine WXL.faS Met.none rfl Try.underlying68 rfl sz66 ?_
 first | refine WXL.ld Met.none rfl agg66 ?_ | refine WXL.ldS Met.none rfl agg66 ?_
 refine WXL.move Met.none rfl ?_
 refine WXL.lookup Met.none rfl rfl mapT66 zero71 at_ (show _ = fileV fa (getF D.fs n).bs.length fc (getF D.fs n).d from hfv) ?_
 refine WXL.alloc (c := [_, _]) Met.none zero71 rfl (fun b7 => ?_)
 refine WXL.st (vs := [_, _]) (c' := [_, _]) (j := 0) Met.none rfl rfl rfl sz71 ?_ (hj := rfl)
 refine WXL.nil ?_
 refine Fin.then_normal ?_
 refine WX.seq ?_
 refine WX.seq ?_
 refine WX.region rfl ?_
 refine WXL.move Met.none rfl ?_
 refine WXL.cl (O1 := _) Met.none rfl (fnOk_of Try.func36 (by decide +kernel)) rfl (fun _ h => h) (exists_ok _ n) (fun v O' hp => ?_)
 obtain ⟨rfl, hO⟩ := hp
 subst O'
 refine WXL.not Met.none rfl ?_
 refine WXL.move Met.none rfl ?_
 refine WXL.split (d := 17) rfl (fun hg17 => ?_) (fun hg17 => ?_)
 · try simp only [cnd] at hg17
   refine WXL.miss (j := 3) (d := 17) rfl rfl rfl ?_
   refine WXL.miss (j := 3) (d := 17) rfl rfl rfl ?_
   refine WXL.pick_t Met.none rfl rfl ?_
   refine WXL.move Met.none rfl ?_
   refine WXL.miss (j := 7) (d := 21) rfl rfl rfl ?_
   refine WXL.miss (j := 7) (d := 21) rfl rfl rfl ?_
   refine WXL.miss (j := 7) (d := 21) rfl rfl rfl ?_
   refine WXL.miss (j := 7) (d := 21) rfl rfl rfl ?_
   refine WXL.miss (j := 7) (d := 21) rfl rfl rfl ?_
   refine WXL.pick_t Met.none rfl rfl ?_
   refine WXL.nil ?_
   refine Fin.then_normal ?_
   refine WX.cond rfl (fun hc0 => ?_) (fun hc0 => nomatch hc0)
   refine WX.seq ?_
   refine WX.region rfl ?_
   refine WXL.assign Met.none rfl ?_
   refine WXL.nil ?_
   refine Fin.then_normal ?_
   refine WX.ret ?_
   refine Fin.then_ret ?_
   first
   | exact Fin.result (O' := dkO d bm D mx R) (.inr rfl) rfl rfl drop_ (by unfold truncD; rw [if_pos (by omega)]; exact ⟨mx, rfl, rfl, hD⟩)
   | exact Fin.result (O' := dkO d bm D mx R) (.inr rfl) rfl rfl drop_ (by unfold truncD; rw [if_neg (by omega), if_pos (by assumption)]; exact ⟨mx, rfl, rfl, hD⟩)
   | exact Fin.result (O' := dkO d bm (stepD D).2 mx R) (.inr rfl) rfl rfl sub_ (by unfold truncD; rw [if_neg (by omega), if_neg (by simp [hg32]), if_pos (by simpa using hc1)]; exact ⟨mx, rfl, rfl, hD.step⟩)
   | exact Fin.result (O' := dkO d bm { (stepD D).2 with fs := setF D.fs n ⟨(getF D.fs n).bs.take k, min (getF D.fs n).d k⟩ } (setX mx n (fileV fa k k (min (getF D.fs n).d k)) k) R) (.inr rfl) rfl rfl drop_ (by
     unfold truncD
     rw [if_neg (by omega), if_neg (by simp [hg32]), if_neg (by simpa using hc1)]
     have hk : k ≤ (getF D.fs n).bs.length := by omega
     have hlk : ((getF D.fs n).bs.take k).length = k := by rw [List.length_take, Nat.min_eq_left hk]
     have hpre := hrow0.pre hk
     rw [Nat.mul_one, ← List.map_take] at hpre
     have hf : FileOk R0 (fileV fa k k (min (getF D.fs n).d k)) ⟨(getF D.fs n).bs.take k, min (getF D.fs n).d k⟩ := ⟨fa, k, by rw [hlk], by rw [hlk]; exact hpre, hpre.nil0, fun x hx => hB x (List.mem_of_mem_take hx)⟩
     obtain ⟨h1, h2⟩ := stepD_fs D
     have hgd := hD.get_d n
     have hs := hD.step.set n hf (by omega) ⟨by simp only; omega, by rw [hlk]; simp only; omega⟩ (by
      have := hD.used
      rw [h1, h2, hlk]
      omega)
     rw [hlk, h1] at hs
     exact ⟨_, rfl, rfl, hs⟩)
 · try simp only [cnd] at hg17
   refine WXL.move (Met.some rfl rfl rfl) rfl ?_
   refine WXL.bin (Met.some rfl rfl rfl) rfl rfl rfl ?_
   refine WXL.pick_f Met.none rfl rfl ?_
   refine WXL.move Met.none rfl ?_
   refine WXL.split (d := 21) rfl (fun hg21 => ?_) (fun hg21 => ?_)
   · try simp only [cnd] at hg21
     refine WXL.miss (j := 7) (d := 21) rfl rfl rfl ?_
     refine WXL.miss (j := 7) (d := 21) rfl rfl rfl ?_
     refine WXL.miss (j := 7) (d := 21) rfl rfl rfl ?_
     refine WXL.miss (j := 7) (d := 21) rfl rfl rfl ?_
     refine WXL.miss (j := 7) (d := 21) rfl rfl rfl ?_
     refine WXL.pick_t Met.none rfl rfl ?_
     refine WXL.nil ?_
     refine Fin.then_normal ?_
     refine WX.cond rfl (fun hc0 => ?_) (fun hc0 => nomatch hc0)
     refine WX.seq ?_
     refine WX.region rfl ?_
     refine WXL.assign Met.none rfl ?_
     refine WXL.nil ?_
     refine Fin.then_normal ?_
     refine WX.ret ?_
     refine Fin.then_ret ?_
     first
     | exact Fin.result (O' := dkO d bm D mx R) (.inr rfl) rfl rfl drop_ (by unfold truncD; rw [if_pos (by omega)]; exact ⟨mx, rfl, rfl, hD⟩)
     | exact Fin.result (O' := dkO d bm D mx R) (.inr rfl) rfl rfl drop_ (by unfold truncD; rw [if_neg (by omega), if_pos (by assumption)]; exact ⟨mx, rfl, rfl, hD⟩)
     | exact Fin.result (O' := dkO d bm (stepD D).2 mx R) (.inr rfl) rfl rfl sub_ (by unfold truncD; rw [if_neg (by omega), if_neg (by simp [hg32]), if_pos (by simpa using hc1)]; exact ⟨mx, rfl, rfl, hD.step⟩)
     | exact Fin.result (O' := dkO d bm { (stepD D).2 with fs := setF D.fs n ⟨(getF D.fs n).bs.take k, min (getF D.fs n).d k⟩ } (setX mx n (fileV fa k k (min (getF D.fs n).d k)) k) R) (.inr rfl) rfl rfl drop_ (by
       unfold truncD
       rw [if_neg (by omega), if_neg (by simp [hg32]), if_neg (by simpa using hc1)]
       have hk : k ≤ (getF D.fs n).bs.length := by omega
       have hlk : ((getF D.fs n).bs.take k).length = k := by rw [List.length_take, Nat.min_eq_left hk]
       have hpre := hrow0.pre hk
       rw [Nat.mul_one, ← List.map_take] at hpre
       have hf : FileOk R0 (fileV fa k k (min (getF D.fs n).d k)) ⟨(getF D.fs n).bs.take k, min (getF D.fs n).d k⟩ := ⟨fa, k, by rw [hlk], by rw [hlk]; exact hpre, hpre.nil0, fun x hx => hB x (List.mem_of_mem_take hx)⟩
       obtain ⟨h1, h2⟩ := stepD_fs D
       have hgd := hD.get_d n
       have hs := hD.step.set n hf (by omega) ⟨by simp only; omega, by rw [hlk]; simp only; omega⟩ (by
        have := hD.used
        rw [h1, h2, hlk]
        omega)
       rw [hlk, h1] at hs
       exact ⟨_, rfl, rfl, hs⟩)
   · try simp only [cnd] at hg21
     refine WXL.move (Met.some rfl rfl rfl) rfl ?_
     refine WXL.fieldAddr (off' := 0) (Met.some rfl rfl rfl) rfl Try.underlying71 rfl sz27 rfl ?_
     first | refine WXL.ld (Met.some rfl rfl rfl) rfl agg27 ?_ | refine WXL.ldS (Met.some rfl rfl rfl) rfl agg27 ?_
     refine WXL.len (Met.some rfl rfl rfl) rfl Try.underlying27 ?_
     refine WXL.bin (Met.some rfl rfl rfl) rfl rfl rfl ?_
     refine WXL.pick_f Met.none rfl rfl ?_
     refine WXL.nil ?_
     refine Fin.then_normal ?_
     refine WX.cond rfl (fun hc0 => ?_) (fun hc0 => ?_)
     · try simp only [cnd] at hc0
       refine WX.seq ?_
       refine WX.region rfl ?_
       refine WXL.assign Met.none rfl ?_
       refine WXL.nil ?_
       refine Fin.then_normal ?_
       refine WX.ret ?_
       refine Fin.then_ret ?_
       first
       | exact Fin.result (O' := dkO d bm D mx R) (.inr rfl) rfl rfl drop_ (by unfold truncD; rw [if_pos (by omega)]; exact ⟨mx, rfl, rfl, hD⟩)
       | exact Fin.result (O' := dkO d bm D mx R) (.inr rfl) rfl rfl drop_ (by unfold truncD; rw [if_neg (by omega), if_pos (by assumption)]; exact ⟨mx, rfl, rfl, hD⟩)
       | exact Fin.result (O' := dkO d bm (stepD D).2 mx R) (.inr rfl) rfl rfl sub_ (by unfold truncD; rw [if_neg (by omega), if_neg (by simp [hg32]), if_pos (by simpa using hc1)]; exact ⟨mx, rfl, rfl, hD.step⟩)
       | exact Fin.result (O' := dkO d bm { (stepD D).2 with fs := setF D.fs n ⟨(getF D.fs n).bs.take k, min (getF D.fs n).d k⟩ } (setX mx n (fileV fa k k (min (getF D.fs n).d k)) k) R) (.inr rfl) rfl rfl drop_ (by
         unfold truncD
         rw [if_neg (by omega), if_neg (by simp [hg32]), if_neg (by simpa using hc1)]
         have hk : k ≤ (getF D.fs n).bs.length := by omega
         have hlk : ((getF D.fs n).bs.take k).length = k := by rw [List.length_take, Nat.min_eq_left hk]
         have hpre := hrow0.pre hk
         rw [Nat.mul_one, ← List.map_take] at hpre
         have hf : FileOk R0 (fileV fa k k (min (getF D.fs n).d k)) ⟨(getF D.fs n).bs.take k, min (getF D.fs n).d k⟩ := ⟨fa, k, by rw [hlk], by rw [hlk]; exact hpre, hpre.nil0, fun x hx => hB x (List.mem_of_mem_take hx)⟩
         obtain ⟨h1, h2⟩ := stepD_fs D
         have hgd := hD.get_d n
         have hs := hD.step.set n hf (by omega) ⟨by simp only; omega, by rw [hlk]; simp only; omega⟩ (by
          have := hD.used
          rw [h1, h2, hlk]
          omega)
         rw [hlk, h1] at hs
         exact ⟨_, rfl, rfl, hs⟩)
     · try simp only [cnd] at hc0
       refine WX.skip ?_
       refine Fin.then_normal ?_
       refine WX.seq ?_
       refine WX.seq ?_
       refine WX.region rfl ?_
       refine WXL.move Met.none rfl ?_
       refine WXL.nilCheck Met.none rfl ?_
       first | refine WXL.fieldAddr Met.none rfl Try.underlying68 rfl sz4 rfl ?_ | refine WXL.faS Met.none rfl Try.underlying68 rfl sz4 ?_
       first | refine WXL.ld Met.none rfl agg4 ?_ | refine WXL.ldS Met.none rfl agg4 ?_
       refine WXL.move Met.none rfl ?_
       refine WXL.split (d := 32) rfl (fun hg32 => ?_) (fun hg32 => ?_)
       · try simp only [cnd] at hg32
         refine WXL.miss (j := 4) (d := 32) rfl rfl rfl ?_
         refine WXL.miss (j := 4) (d := 32) rfl rfl rfl ?_
         refine WXL.miss (j := 4) (d := 32) rfl rfl rfl ?_
         refine WXL.pick_t Met.none rfl rfl ?_
         refine WXL.nil ?_
         refine Fin.then_normal ?_
         refine WX.cond rfl (fun hc1 => ?_) (fun hc1 => nomatch hc1)
         refine WX.seq ?_
         refine WX.region rfl ?_
         refine WXL.assign Met.none rfl ?_
         refine WXL.nil ?_
         refine Fin.then_normal ?_
         refine WX.ret ?_
         refine Fin.then_ret ?_
         first
         | exact Fin.result (O' := dkO d bm D mx R) (.inr rfl) rfl rfl drop_ (by unfold truncD; rw [if_pos (by omega)]; exact ⟨mx, rfl, rfl, hD⟩)
         | exact Fin.result (O' := dkO d bm D mx R) (.inr rfl) rfl rfl drop_ (by unfold truncD; rw [if_neg (by omega), if_pos (by assumption)]; exact ⟨mx, rfl, rfl, hD⟩)
         | exact Fin.result (O' := dkO d bm (stepD D).2 mx R) (.inr rfl) rfl rfl sub_ (by unfold truncD; rw [if_neg (by omega), if_neg (by simp [hg32]), if_pos (by simpa using hc1)]; exact ⟨mx, rfl, rfl, hD.step⟩)
         | exact Fin.result (O' := dkO d bm { (stepD D).2 with fs := setF D.fs n ⟨(getF D.fs n).bs.take k, min (getF D.fs n).d k⟩ } (setX mx n (fileV fa k k (min (getF D.fs n).d k)) k) R) (.inr rfl) rfl rfl drop_ (by
           unfold truncD
           rw [if_neg (by omega), if_neg (by simp [hg32]), if_neg (by simpa using hc1)]
           have hk : k ≤ (getF D.fs n).bs.length := by omega
           have hlk : ((getF D.fs n).bs.take k).length = k := by rw [List.length_take, Nat.min_eq_left hk]
           have hpre := hrow0.pre hk
           rw [Nat.mul_one, ← List.map_take] at hpre
           have hf : FileOk R0 (fileV fa k k (min (getF D.fs n).d k)) ⟨(getF D.fs n).bs.take k, min (getF D.fs n).d k⟩ := ⟨fa, k, by rw [hlk], by rw [hlk]; exact hpre, hpre.nil0, fun x hx => hB x (List.mem_of_mem_take hx)⟩
           obtain ⟨h1, h2⟩ := stepD_fs D
           have hgd := hD.get_d n
           have hs := hD.step.set n hf (by omega) ⟨by simp only; omega, by rw [hlk]; simp only; omega⟩ (by
            have := hD.used
            rw [h1, h2, hlk]
            omega)
           rw [hlk, h1] at hs
           exact ⟨_, rfl, rfl, hs⟩)
       · try simp only [cnd] at hg32
         refine WXL.move (Met.some rfl rfl rfl) rfl ?_
         refine WXL.cl (O1 := dkO d bm D mx ((b7, ⟨0, false, [.slice fa (getF D.fs n).bs.length fc, I (getF D.fs n).d]⟩) :: R)) (Met.some rfl rfl rfl) rfl (fnOk_of Try.func39 (by decide +kernel)) rfl sub_ (step_ok _ d bm D mx hD.left) (fun v O' hp => ?_)
         obtain ⟨rfl, hO⟩ := hp
         subst O'
         refine WXL.not (Met.some rfl rfl rfl) rfl ?_
         refine WXL.pick_f Met.none rfl rfl ?_
         refine WXL.nil ?_
         refine Fin.then_normal ?_
         refine WX.cond rfl (fun hc1 => ?_) (fun hc1 => ?_)
         · try simp only [cnd] at hc1
           refine WX.seq ?_
           refine WX.region rfl ?_
           refine WXL.assign Met.none rfl ?_
           refine WXL.nil ?_
           refine Fin.then_normal ?_
           refine WX.ret ?_
           refine Fin.then_ret ?_
           first
           | exact Fin.result (O' := dkO d bm D mx R) (.inr rfl) rfl rfl drop_ (by unfold truncD; rw [if_pos (by omega)]; exact ⟨mx, rfl, rfl, hD⟩)
           | exact Fin.result (O' := dkO d bm D mx R) (.inr rfl) rfl rfl drop_ (by unfold truncD; rw [if_neg (by omega), if_pos (by assumption)]; exact ⟨mx, rfl, rfl, hD⟩)
           | exact Fin.result (O' := dkO d bm (stepD D).2 mx R) (.inr rfl) rfl rfl sub_ (by unfold truncD; rw [if_neg (by omega), if_neg (by simp [hg32]), if_pos (by simpa using hc1)]; exact ⟨mx, rfl, rfl, hD.step⟩)
           | exact Fin.result (O' := dkO d bm { (stepD D).2 with fs := setF D.fs n ⟨(getF D.fs n).bs.take k, min (getF D.fs n).d k⟩ } (setX mx n (fileV fa k k (min (getF D.fs n).d k)) k) R) (.inr rfl) rfl rfl drop_ (by
             unfold truncD
             rw [if_neg (by omega), if_neg (by simp [hg32]), if_neg (by simpa using hc1)]
             have hk : k ≤ (getF D.fs n).bs.length := by omega
             have hlk : ((getF D.fs n).bs.take k).length = k := by rw [List.length_take, Nat.min_eq_left hk]
             have hpre := hrow0.pre hk
             rw [Nat.mul_one, ← List.map_take] at hpre
             have hf : FileOk R0 (fileV fa k k (min (getF D.fs n).d k)) ⟨(getF D.fs n).bs.take k, min (getF D.fs n).d k⟩ := ⟨fa, k, by rw [hlk], by rw [hlk]; exact hpre, hpre.nil0, fun x hx => hB x (List.mem_of_mem_take hx)⟩
             obtain ⟨h1, h2⟩ := stepD_fs D
             have hgd := hD.get_d n
             have hs := hD.step.set n hf (by omega) ⟨by simp only; omega, by rw [hlk]; simp only; omega⟩ (by
              have := hD.used
              rw [h1, h2, hlk]
              omega)
             rw [hlk, h1] at hs
             exact ⟨_, rfl, rfl, hs⟩)
         · try simp only [cnd] at hc1
           refine WX.skip ?_
           refine Fin.then_normal ?_
           refine WX.seq ?_
           obtain ⟨k, rfl⟩ : ∃ k : Nat, size = (k : Int) := ⟨size.toNat, by omega⟩
           refine WX.draw rfl ?_
           refine WXL.move Met.none rfl ?_
           refine WXL.move Met.none rfl ?_
           refine WXL.fieldAddr (off' := 0) Met.none rfl Try.underlying71 rfl sz27 rfl ?_
           first | refine WXL.ld Met.none rfl agg27 ?_ | refine WXL.ldS Met.none rfl agg27 ?_
           refine WXL.move Met.none rfl ?_
           refine WXL.pre (m := k) Met.none rfl rfl elem27 sz5 (Rowy.cons (Rowy.cons (Rowy.cons hrow))) hnil ?_
           refine WXL.fieldAddr (off' := 1) Met.none rfl Try.underlying71 rfl sz3 rfl ?_
           first | refine WXL.ld Met.none rfl agg3 ?_ | refine WXL.ldS Met.none rfl agg3 ?_
           refine WXL.move Met.none rfl ?_
           refine WXL.min Met.none rfl rfl ?_
           refine WXL.build (c := [_, _]) Met.none rfl zero71 places71 rfl ?_
           refine WXL.cl (O1 := dkO d bm (stepD D).2 mx R) Met.none rfl (fnOk_of Try.func38 (by decide +kernel)) rfl sub_ (set_ok R d bm (stepD D).2 mx n fa k k (min (getF D.fs n).d k)) (fun v O' hp => ?_)
           obtain rfl := hp
           refine WXL.nil ?_
           refine Fin.then_normal ?_
           refine WX.seq ?_
           refine WX.region rfl ?_
           refine WXL.assign Met.none rfl ?_
           refine WXL.nil ?_
           refine Fin.then_normal ?_
           refine WX.ret ?_
           first
           | exact Fin.result (O' := dkO d bm D mx R) (.inr rfl) rfl rfl drop_ (by unfold truncD; rw [if_pos (by omega)]; exact ⟨mx, rfl, rfl, hD⟩)
           | exact Fin.result (O' := dkO d bm D mx R) (.inr rfl) rfl rfl drop_ (by unfold truncD; rw [if_neg (by omega), if_pos (by assumption)]; exact ⟨mx, rfl, rfl, hD⟩)
           | exact Fin.result (O' := dkO d bm (stepD D).2 mx R) (.inr rfl) rfl rfl sub_ (by unfold truncD; rw [if_neg (by omega), if_neg (by simp [hg32]), if_pos (by simpa using hc1)]; exact ⟨mx, rfl, rfl, hD.step⟩)
           | exact Fin.result (O' := dkO d bm { (stepD D).2 with fs := setF D.fs n ⟨(getF D.fs n).bs.take k, min (getF D.fs n).d k⟩ } (setX mx n (fileV fa k k (min (getF D.fs n).d k)) k) R) (.inr rfl) rfl rfl drop_ (by
             unfold truncD
             rw [if_neg (by omega), if_neg (by simp [hg32]), if_neg (by simpa using hc1)]
             have hk : k ≤ (getF D.fs n).bs.length := by omega
             have hlk : ((getF D.fs n).bs.take k).length = k := by rw [List.length_take, Nat.min_eq_left hk]
             have hpre := hrow0.pre hk
             rw [Nat.mul_one, ← List.map_take] at hpre
             have hf : FileOk R0 (fileV fa k k (min (getF D.fs n).d k)) ⟨(getF D.fs n).bs.take k, min (getF D.fs n).d k⟩ := ⟨fa, k, by rw [hlk], by rw [hlk]; exact hpre, hpre.nil0, fun x hx => hB x (List.mem_of_mem_take hx)⟩
             obtain ⟨h1, h2⟩ := stepD_fs D
             have hgd := hD.get_d n
             have hs := hD.step.set n hf (by omega) ⟨by simp only; omega, by rw [hlk]; simp only; omega⟩ (by
              have := hD.used
              rw [h1, h2, hlk]
              omega)
             rw [hlk, h1] at hs
             exact ⟨_, rfl, rfl, hs⟩)
end Go.Proofs.Ytahaplbdhgfobaa.Eng
set_option linter.unusedVariables false
set_option linter.unusedSimpArgs false
set_option maxRecDepth 4000
namespace Go.Proofs.Ytahaplbdhgfobaa.Eng
open Go Go.Proofs Go.ChangeShapes Go.WideShapes Go.RowKit
def sortK (l : List Int) : List Int := l.mergeSort fun x y => decide (x ≤ y)
def keysX (mx : MapX) : List Int := mx.es.map (·.1)
abbrev anyR : Value → Option (DataW Unit × List MemPlace) := fun _ => some (.nil, [])
theorem pair_keys {ι : Lay} {c : List (Int × Nat × Value)} : ∀ {es : List MapEntry}, PairRel ι (mflat c) es → es.map (·.key) = c.map fun e => I e.1 := by
 induction c with
 | nil => intro es hp; cases hp; rfl
 | cons p c ih =>
  obtain ⟨k, n, v⟩ := p
  intro es hp
  unfold mflat at hp
  generalize hX : I k :: I n :: v :: mflat c = X at hp
  cases hp with
  | nil => cases hX
  | cons h1 h2 h3 h4 =>
   rename_i c3 e2 es2
   injection hX with q1 q2
   injection q2 with q3 q4
   injection q4 with q5 q6
   subst q1 q5 q6
   rw [List.map_cons, List.map_cons, ih h4, h1]
theorem wf_small {k : Int} (h : 0 ≤ k ∧ k < 64) : (Lit.int .i64 k).wf = true := by
 simp only [Lit.wf, Bool.and_eq_true, decide_eq_true_eq]
 have h1 : IntKind.i64.min = -9223372036854775808 := rfl
 have h2 : IntKind.i64.max = 9223372036854775807 := rfl
 omega
theorem owns_map {w : World} {B : Nat} {es : Array MapEntry} {clock : Nat} {ks : List Int} (hb : w.heap[B]? = some (.map es clock)) (hk : es.toList.map (·.key) = ks.map I) (hn : ks.Nodup) (hr : ∀ k ∈ ks, 0 ≤ k ∧ k < 64) (hl : ks.length ≤ 16777216)
  (h1 : ∀ en ∈ es.toList, en.born < clock) (h2 : es.toList.Pairwise fun x y => x.born < y.born) :
  ∃ D0 : DataW Unit, w.ownsMap Try.prog 3 anyR B es.size D0 ∧ (intKeys D0).Perm ks ∧ Maps.size D0 = ks.length := by
 have hlen : es.size = ks.length := by
  have := congrArg List.length hk
  simpa using this
 have hread : ∀ x ∈ es.toList, ∃ k ∈ ks, x.key = I k ∧ WideElems.rd Try.prog 3 anyR x = some (.int .i64 k, .nil) := fun x hx => by
  have hm : x.key ∈ ks.map I := by rw [← hk]; exact List.mem_map.2 ⟨x, hx, rfl⟩
  obtain ⟨k, hk1, hk2⟩ := List.mem_map.1 hm
  have hkey : keyOf Try.prog 3 (I k) = some (.int .i64 k) := Maps.keyOf_int_mk Try.underlying3 (wf_small (hr k hk1))
  refine ⟨k, hk1, hk2.symm, ?_⟩
  simp only [WideElems.rd, ← hk2, hkey, anyR, Option.bind_some, Option.map_some]
 refine ⟨_, ⟨es, clock, hb, ⟨by rw [hlen]; exact Nat.le_trans hl (by decide), ⟨h1, ?_, ?_⟩, fun x hx => ?_⟩, Nat.le_refl _, rfl⟩, ?_, ?_⟩
 · exact (List.pairwise_map.2 h2).imp fun q => Nat.ne_of_lt q
 · rw [hk]
   exact List.pairwise_map.2 (hn.imp fun q e => q (by injection e))
 · obtain ⟨k, _, _, h⟩ := hread x hx
   exact ⟨_, h⟩
 · show (((es.toList.map (WideElems.rg Try.prog 3 anyR)).foldr DataW.insert []).map fun p => Go.intOf p.1).Perm ks
   refine ((WideShapes.sorted_perm _).map _).trans ?_
   rw [List.map_map]
   have e1 : es.toList.map ((fun p : Lit × DataW Unit => Go.intOf p.1) ∘ WideElems.rg Try.prog 3 anyR) = es.toList.map fun x => (match x.key with | .int _ k => k | _ => 0) := List.map_congr_left fun x hx => by
    obtain ⟨k, _, h3, h4⟩ := hread x hx
    simp only [Function.comp, WideElems.rg, h4, Option.getD_some, h3]
    rfl
   have e2 : (es.toList.map fun x => (match x.key with | .int _ k => k | _ => 0)) = (es.toList.map (·.key)).map fun v => (match v with | .int _ k => k | _ => 0) := by rw [List.map_map]; rfl
   rw [e1, e2, hk, List.map_map]
   have e3 : ks.map ((fun v : Value => (match v with | .int _ k => k | _ => 0)) ∘ I) = ks := by
    rw [show ((fun v : Value => (match v with | .int _ k => k | _ => 0)) ∘ I) = id from rfl, List.map_id]
   rw [e3]
 · show ((es.toList.map (WideElems.rg Try.prog 3 anyR)).foldr DataW.insert []).length = _
   rw [(WideShapes.sorted_perm _).length_eq, List.length_map, Array.length_toList, hlen]
theorem sorts_in (m : Nat) : AnyZI.SortsIn Try.prog sortedA_ren Fence.wide m :=
 ⟨fun blk off cap ss W hH hblk hsz => callsIn_wide.2 (AnyM.slices_Sort_int sortA blk off cap ss W hH hblk hsz),
  fun p cap W => callsIn_wide.2 (AnyM.slices_Sort_int_none sortA p cap W)⟩
theorem keys_calls (B : Nat) (w : World) : Calls Try.prog 54 #[.map (some B)] w fun e w' => e = .returned (.func (.func 62) #[] #[.pointer (some ⟨w.heap.size, 0, none⟩)]) ∧ w' = w.alloc (.cells #[.map (some B)] 66) :=
 (callsIn_wide (n := 5)).1 (AnyZI.keys_in keysA Fence.wide 5 trivial rfl (some B) w)
theorem sorted_calls {w : World} {B : Nat} {es : Array MapEntry} {clock : Nat} {ks : List Int} (hb : w.heap[B]? = some (.map es clock)) (hk : es.toList.map (·.key) = ks.map I) (hn : ks.Nodup) (hr : ∀ k ∈ ks, 0 ≤ k ∧ k < 64) (hl : ks.length ≤ 16777216)
  (h1 : ∀ en ∈ es.toList, en.born < clock) (h2 : es.toList.Pairwise fun x y => x.born < y.born) :
  Calls Try.prog 53 #[.func (.func 62) #[] #[.pointer (some ⟨w.heap.size, 0, none⟩)]] (w.alloc (.cells #[.map (some B)] 66)) fun e w' => ∃ v, e = .returned v ∧
   w'.ownsRow (w.heap.size + 1) 3 1 v ks.length ((sortK ks).map I) ∧ (v = .slice none 0 0 ↔ ks = []) ∧ Below (w.heap.size + 1) (w.alloc (.cells #[.map (some B)] 66)) w' := by
 have hB : B < w.heap.size := (Array.getElem?_eq_some_iff.1 hb).1
 have hb' : (w.alloc (.cells #[.map (some B)] 66)).heap[B]? = some (.map es clock) := (Below.heap_alloc _ _ B hB).trans hb
 obtain ⟨D0, hown, hperm, hsize⟩ := owns_map hb' hk hn hr hl h1 h2
 have hseq : SeqGives Fence.wide 2 Try.prog 62 #[.pointer (some ⟨w.heap.size, 0, none⟩)] encZ (fun ss => ss.Perm (intKeys D0)) (Maps.size D0) (w.alloc (.cells #[.map (some B)] 66)) :=
  AnyZI.keys_gives (ρ := keysA_ren) { keysA with } Fence.wide _ trivial rfl (by omega) w.heap.size B es.size D0 _ (by simp) (by simp) hown
 have cS := AnyZI.sorted_in sortedA Fence.wide 5 trivial trivial trivial trivial rfl (by omega) (sorts_in _) (enters_of Try.func61 (by kernel_rfl) rfl) 62 #[.pointer (some ⟨w.heap.size, 0, none⟩)] trivial (enters_of Try.func62 (by kernel_rfl) rfl) _ _ (by rw [hsize]; exact Nat.le_trans hl (by decide)) (by rw [hsize]; omega) _ hseq
 change CallsIn _ _ Try.prog 53 _ _ _ at cS
 refine ((callsIn_wide (n := 5)).1 cS).mono ?_
 rintro e w' ⟨v, ss, rfl, hS, hrow, hnil, hbl⟩
 have hp : ss.Perm ks := hS.trans hperm
 have hsz : (w.alloc (.cells #[.map (some B)] 66)).heap.size = w.heap.size + 1 := by simp
 rw [hsz] at hrow hbl
 rw [show ss.mergeSort (fun x y => decide (x ≤ y)) = sortK ks from mergeSort_of_perm_i hp, hp.length_eq] at hrow
 exact ⟨v, rfl, hrow, by rw [hnil]; exact ⟨fun q => by subst q; exact hp.symm.eq_nil, fun q => by subst q; exact hp.eq_nil⟩, hbl⟩
theorem ops_call {P : Program} {w : World} {ops : Array Oper} {i : Nat} {rest : List Nat} {a : Act} {Q : Exit → Act → World → Prop} {dst : Option Tmp} {f : FuncId} {fn : Func} {gargs : Array Operand} {ts : Array TypeId} {t : TypeId} {p : String} {af : Array Edge} {args : Array Value}
  (ho : ops[i]? = some { dst := dst, op := .call { callee := .value (.func f), args := gargs, argTypes := ts }, type := t, pos := p, after := af, guard := none }) (hf : P.funcs[f]? = some fn) (hb : (fn.body.isSome && fn.name != "runtime.NumGoroutine") = true) (hargs : gargs.map a.eval = args)
  (hc : Calls P f args w fun e w' => ∃ v, e = .returned v ∧ wpOpsIn (FR none) 0 P ops Q rest (a.put dst v) w') : wpOpsIn (FR none) 0 P ops Q (i :: rest) a w := by
 simp only [Bool.and_eq_true] at hb
 rw [wpOpsIn_cons]
 unfold wpOpIn
 simp only [ho]
 have hwant : Region.wanted { dst := dst, op := .call { callee := .value (.func f), args := gargs, argTypes := ts }, type := t, pos := p, after := af, guard := none } (yielded ops a.tmps) = true := rfl
 rw [hwant, if_pos rfl]
 refine ⟨fun _ _ => trivial, ?_⟩
 rw [Oper.semAt_eq _ _ _ (fun c hc => by cases hc)]
 have hrun : (execOp a.eval { dst := dst, op := .call { callee := .value (.func f), args := gargs, argTypes := ts }, type := t, pos := p, after := af, guard := none }).run P w = .ok (.enter f args) w := by
  have hga : a.eval (.func f) = .func (.func f) #[] #[] := rfl
  have e1 : (fn.name == "runtime.NumGoroutine") = false := by simpa using hb.2
  have e2 : fn.body.isNone = false := by
   have := hb.1
   cases hb0 : fn.body with
   | none => rw [hb0] at this; cases this
   | some c => rfl
  simp only [execOp, resolve, hga, hargs, Deferred.ofValue, Sem.run_bind, Sem.run_pure, Result.andThen_ok, invoke, callFunc, run_program, hf, e1, e2]
  simp
 rw [hrun]
 simp only [Oper.uponIn]
 refine ⟨fun hd => by simp [FR, Fence.wide] at hd, ?_⟩
 have hin : CallsIn (FR none) 0 P f args w _ := callsIn_wide.2 hc
 refine hin.mono fun e w' ⟨v, he, h⟩ => ?_
 subst he
 exact h
theorem exec_assign {P : Program} {w : World} {o : Oper} {ρ : Operand → Value} {y : Operand} {v : Value} (ho : o.op = .assign y) (hy : ρ y = v) : (execOp ρ o).run P w = .ok (.value v) w := by
 subst hy
 unfold execOp
 rw [ho]
 rfl
theorem At.pre {P : Program} {x : Cx} {L L1 : Tmps} {O O1 : Objs} {base : Nat} {ι0 : Lay} {h0 : AHeap} {w0 w : World} {D : List Deferred} {a : Act} {Q : Exit → Act → World → Prop} (hm : P.follows .mixedOrders = true) (hr0 : HRel base ι0 h0 w0) (hat : At x L O base ι0 h0 w0 D a w) {pl : List Oper} {ops : Array Oper} {i0 : Nat} {rest : List Nat}
  (hx : x.ρ = .late) (n : Nat) (hops1 : ops.toList.take n = pl) (hn : pl.length = n) (hsz : List.range ops.size = List.range' 0 n ++ rest) (hreg : regOk ops x.m = true) (hpre : WXL P x ops noMk 0 pl L O (fun s => St x L1 O1 s))
  (h : ∀ a w, At x L1 O1 base ι0 h0 w0 D a w → wpOpsIn (FR none) 0 P ops Q rest a w) : (Code.region i0 ops false).wpIn (FR none) 0 P Q a w := by
 obtain ⟨ι, s, g1, g2, g3, g4, g5, g6⟩ := hat
 refine wpIn_region ?_
 rw [hsz, ← hn]
 refine WXL.wp hm hpre hx ⟨ops.toList.drop n, by rw [List.drop_zero, ← hops1, List.take_append_drop]⟩ rest hreg g1 g2 fun s2 ι2 a2 w2 hK r1 r2 r3 r4 r5 r6 => ?_
 exact h a2 w2 ⟨ι2, s2, hK, r1, More.trans hr0 g2.heap g3 r2 g4.size, Keep0.trans hr0 g2.heap g3 r2 g4 r3, r4.trans g5, g6.trans r6⟩
def filesV (n : Nat) (mx : MapX) : Value := if keysX mx = [] then .slice none 0 0 else .slice (some ⟨n, 0, none⟩) (keysX mx).length (keysX mx).length
def filesH (h : AHeap) (mx : MapX) : AHeap := if keysX mx = [] then h else h.new (.cells 1 false h.n none 0 ((sortK (keysX mx)).map I))
theorem files_sem {h : AHeap} {d bm : Nat} {ro1 ro2 off armed : Bool} {room lft : Int} {mx : MapX} (h1 : Is h d ⟨0, ro1, dObj bm room off armed lft⟩) (h2 : Is h bm ⟨2, ro2, mcells mx⟩) (hk : (keysX mx).Nodup) (hr : ∀ k ∈ keysX mx, 0 ≤ k ∧ k < 64) (hl : (keysX mx).length ≤ 16777216) :
  ∀ ρ, CallSem Try.prog ρ 41 #[Ptr d 0] h (filesV h.n mx) (filesH h mx) := by
 have hm : Try.prog.follows .mixedOrders = true := Checked.mixed Try.checked
 refine callSem_of Try.func41 rfl ?_
 intro base ι w a hs hd
 have hr1 : HRel base ι h w := hs.heap
 obtain ⟨g, hg⟩ : ∃ g, g = h.rox fun _ => true := ⟨_, rfl⟩
 have hr0 : HRel base ι g w := by rw [hg]; exact hr1.rox _
 have i1 : Is g d ⟨0, true, dObj bm room off armed lft⟩ := by rw [hg]; exact h1.rox _
 have i2 : Is g bm ⟨2, true, mcells mx⟩ := by rw [hg]; exact h2.rox _
 have hat : At ⟨9, false, h, .late⟩ (argsL [Ptr d 0] 0) (dO d bm true true room off armed lft mx) base ι g w [] a w :=
  ⟨ι, enterA Try.f41 #[Ptr d 0] g, ⟨rfl, has_args _ 0 fun j v hj => by simp [enterA, Array.getD_eq_getD_getElem?, hj], sat2 hr0.heapWF i1 i2 (by intro q; cases q), fun q => by cases q⟩, ⟨hs.size, hs.tmps, hr0, hs.base⟩, More.refl hr0, KeepsBy.zero (Keeps.refl ι _ w), hd, Stay.refl _⟩
 refine At.seq (L1 := [(2, .slice none 0 0), (0, Ptr d 0)]) (O1 := dO d bm true true room off armed lft mx) hm hr0 hat rfl (show codeOk 9 _ = true by decide +kernel) ?_ (fun a1 w1 hat1 => ?_)
 refine WX.region rfl ?_
 refine WXL.assign Met.none rfl ?_
 refine WXL.nilK ?_
 exact fun s hs => ⟨rfl, hs.tl [0, 1] 2⟩
 refine wpIn_seq (At.pre (L1 := [(6, Mp bm)]) (O1 := dO d bm true true room off armed lft mx) (rest := [4, 5, 6]) hm hr0 hat1 rfl 4 rfl rfl rfl (show regOk _ 9 = true by decide +kernel) ?_ (fun a2 w2 hat2 => ?_))
 · skip
   refine WXL.move Met.none rfl ?_
   refine WXL.nilCheck Met.none rfl ?_
   first | refine WXL.fieldAddr Met.none rfl Try.underlying68 rfl sz66 rfl ?_ | refine WXL.faS Met.none rfl Try.underlying68 rfl sz66 ?_
   first | refine WXL.ld Met.none rfl agg66 ?_ | refine WXL.ldS Met.none rfl agg66 ?_
   refine WXL.nilK ?_
   exact (fun s hs => hs.tl [0, 1] 2)
 obtain ⟨ι2, s2, q1, q2, q3, q4, q5, q6⟩ := hat2
 have hold : ∀ b, b < h.n → s2.h.o b = g.o b := fun b hb => q6.2 b (by rw [hg]; exact hb) (by rw [hg]; show isRo (mkro (h.o b)) = true; cases h.o b <;> rfl)
 have hblk : ∀ B, B < w.heap.size → w2.heap[B]? = w.heap[B]? := fun B hB => q4.block B hB fun b e r1 r2 => .inl (hold b (hr1.lt b e r1))
 obtain ⟨f2, k2, o2⟩ := q1.sat.at (j := 1) (b := bm) (x := ⟨2, true, mcells mx⟩) rfl
 have hrel := operand_rel (x := .tmp 6) q2.tmps rfl
 rw [q1.t.ev (y := .tmp 6) rfl] at hrel
 obtain ⟨em, r1, r2, r3⟩ := map_inv hrel
 obtain ⟨hone, es, clock, hes, c, hc0, hp, hp2, hp3⟩ := q2.heap.maps bm em _ _ _ _ _ _ r1 r2 o2
 unfold mcells at hc0
 injection hc0 with e1 e2
 subst e2
 have hkeys : es.toList.map (·.key) = (keysX mx).map I := by rw [pair_keys hp]; unfold keysX; rw [List.map_map]; rfl
 have hs2 : a2.tmps.size = 9 := q2.size.trans q1.m
 refine ops_call rfl Try.func54 (by decide +kernel) (args := #[.map (some em.block)]) (by simp [r3]) ((keys_calls em.block w2).mono ?_)
 rintro e w3 ⟨rfl, rfl⟩
 refine ⟨_, rfl, ?_⟩
 refine ops_call rfl Try.func53 (by decide +kernel) (args := #[.func (.func 62) #[] #[.pointer (some ⟨w2.heap.size, 0, none⟩)]]) ?_ ((sorted_calls hes hkeys hk hr hl hp2 hp3).mono ?_)
 · have e7 : ∀ v, (a2.put (some 7) v).eval (.tmp 7) = v := fun v => by
     show (a2.put (some 7) v).tmps.getD 7 undef = v
     rw [put_getD hs2 (by intro d hd; cases hd; decide), if_pos rfl]
   simp [e7]
 rintro e w4 ⟨v, rfl, hrow, hnil, hbl⟩
 refine ⟨v, rfl, ?_⟩
 obtain ⟨F7, hF7⟩ : ∃ F7 : Value, F7 = .func (.func 62) #[] #[.pointer (some ⟨w2.heap.size, 0, none⟩)] := ⟨_, rfl⟩
 rw [← hF7]
 have hs3 : (a2.put (some 7) F7).tmps.size = 9 := by simp [Act.put, hs2]
 have hs4 : ((a2.put (some 7) F7).put (some 8) v).tmps.size = 9 := by simp [Act.put, hs2]
 have e8 : ((a2.put (some 7) F7).put (some 8) v).eval (.tmp 8) = v := by
  show ((a2.put (some 7) F7).put (some 8) v).tmps.getD 8 undef = v
  rw [put_getD hs3 (by intro d hd; cases hd; decide), if_pos rfl]
 refine opsIn_value rfl rfl (fun c h => by cases h) (w1 := w4) (v := v) (exec_assign (y := .tmp 8) rfl e8) ?_
 refine wpIn_ret ⟨.inr rfl, ?_⟩
 have e2 : (((a2.put (some 7) F7).put (some 8) v).put (some 2) v).tmps.getD 2 undef = v := by
  rw [put_getD hs4 (by intro d hd; cases hd; decide), if_pos rfl]
 have hres : (results Try.f41 (((a2.put (some 7) F7).put (some 8) v).put (some 2) v).tmps).run Try.prog w4 = .ok v w4 := by
  obtain ⟨tm, htm⟩ : ∃ tm, tm = (((a2.put (some 7) F7).put (some 8) v).put (some 2) v).tmps := ⟨_, rfl⟩
  rw [← htm] at e2 ⊢
  have : results Try.f41 tm = pure (tm.getD 2 undef) := by
   simp [results, Try.f41]
  rw [this, e2]
  rfl
 have hsz2 : (w2.alloc (.cells #[.map (some em.block)] 66)).heap.size = w2.heap.size + 1 := by simp
 have hsz : w.heap.size ≤ w4.heap.size := by
  have h3 := hbl.size
  have h4 := q4.size
  omega
 have hb4 : ∀ B, B < w.heap.size → w4.heap[B]? = w.heap[B]? := fun B hB => by
  have h4 := q4.size
  rw [hbl.block B (by omega), Below.heap_alloc _ _ B (by omega), hblk B hB]
 have ho4 : w4.os = w.os ∧ w4.tape = w.tape ∧ w4.output = w.output := ⟨by rw [hbl.os]; exact q4.os, by rw [hbl.tape]; exact q4.tape, by rw [hbl.output]; exact q4.output⟩
 have hr4 : HRel base ι h w4 := hr1.pre hsz hb4
 refine ⟨q5, ?_⟩
 by_cases hk0 : keysX mx = []
 · have hv := hnil.2 hk0
   subst hv
   unfold filesV filesH
   rw [if_pos hk0, if_pos hk0]
   exact ⟨ι, _, hres, More.refl hr1, .atom rfl, hr4, Keep0.grow ho4.1 ho4.2.1 ho4.2.2 hsz hb4⟩
 · unfold filesV filesH
   rw [if_neg hk0, if_neg hk0]
   rcases hrow.2 with ⟨h0, _⟩ | ⟨g', cap, cur, hv, hgb, hg', hn1, hcap, hcs, htake⟩
   · exact absurd (hnil.1 h0) hk0
   have h4 := q4.size
   have hg4 : g' < w4.heap.size := (Array.getElem?_eq_some_iff.1 hg').1
   have hcell : ∀ i, w4.cell? ⟨g', i, none⟩ = cur[i]? := fun i => by unfold World.cell?; simp only [hg']; rfl
   have hfro : ∀ i, w4.frozen? ⟨g', i, none⟩ = false := fun i => by unfold World.frozen?; simp only [hg']; simp
   have hsl : (sortK (keysX mx)).length = (keysX mx).length := List.length_mergeSort _
   rw [Nat.mul_one] at hcs htake
   have hT : Turned w w4 fun _ _ => False := ⟨ho4.1, ho4.2.1, ho4.2.2, hsz, fun B hB _ => hb4 B hB, fun B o u hc _ => by rw [(cell_eq (hb4 B (cell_lt hc))).1]; exact hc, fun B o u hc => ⟨⟨u, by rw [(cell_eq (hb4 B (cell_lt hc))).1]; exact hc⟩, (cell_eq (hb4 B (cell_lt hc))).2⟩⟩
   obtain ⟨n1, n2, n3⟩ := new_ok' hr1 hs.base hT (en := ⟨g', 0, cap, 1, false⟩) (sz := 1) (cn := (sortK (keysX mx)).map I) ⟨by show w.heap.size ≤ g'; omega, hg4⟩ rfl (fun _ => by rw [List.length_map, hsl]; exact hn1) (fun _ x hx => by
     obtain ⟨k, _, rfl⟩ := List.mem_map.1 hx; rfl) (fun _ i v hi => ⟨v, by
      rw [← htake] at hi
      have hi2 : i < (keysX mx).length := by
       have h5 := (List.getElem?_eq_some_iff.1 hi).1
       rw [List.length_take] at h5
       omega
      rw [List.getElem?_take_of_lt hi2, Array.getElem?_toList] at hi
      show w4.cell? ⟨g', 0 + i, none⟩ = _
      rw [hcell, Nat.zero_add]
      exact hi, by
      obtain ⟨k, _, rfl⟩ := List.mem_map.1 (List.mem_of_getElem? hi)
      exact .atom rfl⟩) (fun i hi => ⟨by
      show ∃ v, w4.cell? ⟨g', 0 + i, none⟩ = _
      rw [hcell, Nat.zero_add]
      exact ⟨_, Array.getElem?_eq_getElem (by rw [hcs]; exact hi)⟩, hfro _⟩)
   refine ⟨_, v, hres, n3, ?_, n1, Keep0.grow ho4.1 ho4.2.1 ho4.2.2 hsz hb4⟩
   rw [hv]
   exact .slice (e := ⟨g', 0, cap, 1, false⟩) (by unfold Lay.add; rw [if_pos rfl]) rfl hn1 (by show 0 + cap * 1 ≤ cap; omega)
theorem files_direct {h : AHeap} {d bm : Nat} {ro1 ro2 off armed : Bool} {room lft : Int} {mx : MapX} (h1 : Is h d ⟨0, ro1, dObj bm room off armed lft⟩) (h2 : Is h bm ⟨2, ro2, mcells mx⟩) (hk : (keysX mx).Nodup) (hr : ∀ k ∈ keysX mx, 0 ≤ k ∧ k < 64) (hl : (keysX mx).length ≤ 16777216) :
  Direct Try.prog 41 #[Ptr d 0] h (filesV h.n mx) (filesH h mx) :=
 ⟨by
  unfold filesH
  split
  · exact .inl rfl
  · exact .inr (.inl ⟨_, _, rfl⟩), fun F ρ => by
  obtain ⟨f1, k1, e1⟩ := h1
  obtain ⟨f2, k2, e2⟩ := h2
  obtain ⟨r1, q1⟩ := un_cells (F := F) e1
  obtain ⟨r2, q2⟩ := un_cells (F := F) e2
  have := files_sem (ro1 := r1) (ro2 := r2) (off := off) (armed := armed) (room := room) (lft := lft) (bm := bm) (mx := mx) ⟨f1, k1, q1⟩ ⟨f2, k2, q2⟩ hk hr hl ρ
  have e3 : (filesH h mx).un F = filesH (h.un F) mx := by
   unfold filesH
   split
   · rfl
   · rw [un_new]; rfl
  rw [e3]
  exact this⟩
end Go.Proofs.Ytahaplbdhgfobaa.Eng
set_option linter.unusedVariables false
set_option linter.unusedSimpArgs false
namespace Go.Proofs.Ytahaplbdhgfobaa.Eng
def fnos (D : Dk) : List Int := sortK (D.fs.map (·.1))
theorem used_count : ∀ {fs : List (Int × Fi)}, (∀ e ∈ fs, FiOk e) → (fs.length : Int) ≤ used fs
 | [], _ => Int.le_refl _
 | e :: l, h => by
  have h1 := used_count fun e' he => h e' (List.mem_cons_of_mem _ he)
  have h2 := (h e (List.mem_cons_self ..)).2.1
  have h3 : 0 < e.2.bs.length := List.length_pos_iff.2 h2
  simp only [used, List.length_cons]
  omega
theorem DkI.keysX {R : Objs} {D : Dk} {mx : MapX} (h : DkI R D mx) : Eng.keysX mx = D.fs.map (·.1) := by
 unfold Eng.keysX
 rw [keys_es, h.di.rel.keys]
theorem sortK_perm (l : List Int) : (sortK l).Perm l := List.mergeSort_perm _ _
theorem fnos_nd {R : Objs} {D : Dk} {mx : MapX} (h : DkI R D mx) : (fnos D).Nodup := (sortK_perm _).nodup_iff.2 h.di.nd
theorem fnos_mem {D : Dk} {n : Int} : n ∈ fnos D ↔ n ∈ D.fs.map (·.1) := (sortK_perm _).mem_iff
theorem fnos_len {R : Objs} {D : Dk} {mx : MapX} (h : DkI R D mx) : (fnos D).length ≤ 16777216 := by
 have h1 := used_count h.ok
 have h2 := h.used
 have h3 := h.room
 have h4 : (fnos D).length = D.fs.length := by
  unfold fnos
  rw [(sortK_perm _).length_eq, List.length_map]
 omega
theorem fnos_range {R : Objs} {D : Dk} {mx : MapX} (h : DkI R D mx) {n : Int} (hn : n ∈ fnos D) : 0 ≤ n ∧ n < 64 := by
 obtain ⟨e, he, rfl⟩ := List.mem_map.1 (fnos_mem.1 hn)
 exact (h.ok e he).1
theorem files_ok (q : Bool) (R : Objs) {R0 : Objs} (d bm : Nat) (D : Dk) (mx : MapX) (hD : DkI R0 D mx) :
  Spec Try.prog q 41 #[Ptr d 0] (dkO d bm D mx R) fun v O' => ∃ a c G, v = .slice a (fnos D).length c ∧ Grow 1 a (fnos D).length c ((fnos D).map I) G ∧ O' = G ++ dkO d bm D mx R :=
 Spec.direct fun g hs => by
  have hk := hD.keysX
  have hd := files_direct (ro1 := false) (ro2 := false) (bm := bm) (mx := mx) (hs.at (j := 0) (b := d) rfl) (hs.at (j := 1) rfl) (by rw [hk]; exact hD.di.nd) (by
   rw [hk]
   intro k hk
   obtain ⟨e, he, rfl⟩ := List.mem_map.1 hk
   exact (hD.ok e he).1) (by
   have := fnos_len hD
   unfold fnos at this
   rw [(sortK_perm _).length_eq] at this
   rw [hk]
   exact this)
  have hf : fnos D = sortK (Eng.keysX mx) := by unfold fnos; rw [hk]
  have hl : (fnos D).length = (Eng.keysX mx).length := by rw [hf]; exact List.length_mergeSort _
  unfold filesV filesH at hd
  by_cases h0 : Eng.keysX mx = []
  · rw [if_pos h0, if_pos h0] at hd
    refine ⟨_, g, _, hd, ⟨none, 0, [], ?_, ?_, rfl⟩, hs, fun _ => Old.refl g⟩
    · rw [hl, h0]; rfl
    · rw [hl, hf, h0, show sortK [] = [] from by simp [sortK]]; exact .nil
  · rw [if_neg h0, if_neg h0] at hd
    refine ⟨_, _, _, hd, ⟨_, _, [(g.n, ⟨1, false, (fnos D).map I⟩)], by rw [hl], .row (by simp), rfl⟩, ?_, fun _ => ⟨Nat.le_succ _, fun b hb => ?_⟩⟩
    · rw [← hf]
      exact hs.new 1 _
    · show (if b = g.n then _ else g.o b) = _
      rw [if_neg (by omega)]
def keepN (keep : List Int) (i : Nat) (f : Fi) : Int := if i < keep.length then max 0 (min (nth keep i) (f.bs.length - f.d)) else 0
def cutF (keep : List Int) (i : Nat) (f : Fi) : Fi := ⟨f.bs.take (f.d + keepN keep i f).toNat, f.d⟩
def cutAt (D : Dk) (keep : List Int) (i : Nat) : Int × Fi := (nth (fnos D) i, cutF keep i (getF D.fs (nth (fnos D) i)))
def cuts (D : Dk) (keep : List Int) (i : Nat) : List (Int × Fi) := (List.range i).map (cutAt D keep)
def looseN (f : Fi) : Nat := f.bs.length - f.d.toNat
def looseSum : List (Int × Fi) → Nat
 | [] => 0
 | e :: l => looseN e.2 + looseSum l
def flipB (a : Int) (k : Nat) : Int := IntKind.wrap .u8 ((BitVec.ofInt 8 a) ^^^ (BitVec.ofInt 8 (IntKind.wrap .u8 (1 * 2 ^ (min k 8))))).toNat
def flipC (p k : Nat) : List (Int × Fi) → List (Int × Fi)
 | [] => []
 | e :: l => if p < looseN e.2 then (e.1, ⟨e.2.bs.set (e.2.d.toNat + p) (flipB (nth e.2.bs (e.2.d.toNat + p)) k), e.2.d⟩) :: l else e :: flipC (p - looseN e.2) k l
def crashC (D : Dk) (keep : List Int) (flip : Int) : List (Int × Fi) :=
 let l := cuts D keep (fnos D).length
 let m := 8 * looseSum l
 if 0 ≤ flip ∧ 0 < m then flipC (flip.toNat % m / 8) (7 - flip.toNat % m % 8) l else l
theorem cuts_succ (D : Dk) (keep : List Int) (i : Nat) : cuts D keep (i + 1) = cuts D keep i ++ [cutAt D keep i] := by
 unfold cuts
 rw [List.range_succ, List.map_append]
 rfl
theorem looseSum_app : ∀ (a b : List (Int × Fi)), looseSum (a ++ b) = looseSum a + looseSum b
 | [], b => by simp [looseSum]
 | e :: a, b => by
  rw [List.cons_append]
  simp only [looseSum]
  rw [looseSum_app a b]
  omega
theorem keepN_range (keep : List Int) (i : Nat) {f : Fi} (h : 0 ≤ f.d ∧ f.d ≤ f.bs.length) : 0 ≤ keepN keep i f ∧ f.d + keepN keep i f ≤ f.bs.length := by
 unfold keepN
 split <;> omega
theorem cutF_len (keep : List Int) (i : Nat) {f : Fi} (h : 0 ≤ f.d ∧ f.d ≤ f.bs.length) : ((cutF keep i f).bs.length : Int) = f.d + keepN keep i f := by
 have := keepN_range keep i h
 unfold cutF
 simp only [List.length_take]
 omega
end Go.Proofs.Ytahaplbdhgfobaa.Eng
set_option linter.unusedVariables false
set_option linter.unusedSimpArgs false
namespace Go.Proofs.Ytahaplbdhgfobaa.Eng
structure OwnF where
 n : Int
 f : Fi
 a : Option Addr
 c : Nat
 G : Objs
def OwnF.nf (o : OwnF) : Int × Fi := (o.n, o.f)
def rowsO (ow : List OwnF) : Objs := ow.flatMap (·.G)
def looseV1 (a : Option Addr) (dn k : Nat) : List Value := (List.range' dn k).map (ePtr a)
def looseV (ow : List OwnF) : List Value := ow.flatMap fun o => looseV1 o.a o.f.d.toNat (looseN o.f)
theorem rowsO_app (a b : List OwnF) : rowsO (a ++ b) = rowsO a ++ rowsO b := List.flatMap_append ..
theorem looseV_app (a b : List OwnF) : looseV (a ++ b) = looseV a ++ looseV b := List.flatMap_append ..
theorem rowsO_cons (o : OwnF) (b : List OwnF) : rowsO (o :: b) = o.G ++ rowsO b := rfl
theorem looseV_cons (o : OwnF) (b : List OwnF) : looseV (o :: b) = looseV1 o.a o.f.d.toNat (looseN o.f) ++ looseV b := rfl
theorem looseV1_len (a : Option Addr) (dn k : Nat) : (looseV1 a dn k).length = k := by unfold looseV1; rw [List.length_map, List.length_range']
theorem looseV1_succ (a : Option Addr) (dn k : Nat) : looseV1 a dn (k + 1) = looseV1 a dn k ++ [ePtr a (dn + k)] := by
 unfold looseV1
 rw [List.range'_1_concat, List.map_append]
 rfl
theorem looseV1_get (a : Option Addr) (dn k r : Nat) (h : r < k) : (looseV1 a dn k)[r]? = some (ePtr a (dn + r)) := by
 unfold looseV1
 rw [List.getElem?_map, List.getElem?_range' h]
 simp
theorem looseV_len : ∀ ow : List OwnF, (looseV ow).length = looseSum (ow.map OwnF.nf)
 | [] => rfl
 | o :: ow => by
  rw [looseV_cons, List.length_append, looseV1_len, looseV_len ow, List.map_cons]
  rfl
theorem flip_split (k : Nat) : ∀ (ow : List OwnF) (p : Nat), p < looseSum (ow.map OwnF.nf) → ∃ ow1 o ow2 r, ow = ow1 ++ o :: ow2 ∧ r < looseN o.f ∧ (looseV ow)[p]? = some (ePtr o.a (o.f.d.toNat + r)) ∧
      flipC p k (ow.map OwnF.nf) = ow1.map OwnF.nf ++ (o.n, ⟨o.f.bs.set (o.f.d.toNat + r) (flipB (nth o.f.bs (o.f.d.toNat + r)) k), o.f.d⟩) :: ow2.map OwnF.nf
 | [], p, h => absurd h (Nat.not_lt_zero _)
 | o :: ow, p, h => by
  rw [List.map_cons] at h ⊢
  by_cases hp : p < looseN o.f
  · refine ⟨[], o, ow, p, rfl, hp, ?_, ?_⟩
    · rw [looseV_cons, List.getElem?_append_left (by rw [looseV1_len]; exact hp)]
      exact looseV1_get _ _ _ _ hp
    · unfold flipC
      rw [if_pos (show p < looseN (OwnF.nf o).2 from hp)]
      rfl
  · have h2 : p - looseN o.f < looseSum (ow.map OwnF.nf) := by
      have : looseSum (OwnF.nf o :: ow.map OwnF.nf) = looseN o.f + looseSum (ow.map OwnF.nf) := rfl
      omega
    obtain ⟨ow1, o', ow2, r, h3, h4, h5, h6⟩ := flip_split k ow (p - looseN o.f) h2
    refine ⟨o :: ow1, o', ow2, r, by rw [h3]; rfl, h4, ?_, ?_⟩
    · rw [looseV_cons, List.getElem?_append_right (by rw [looseV1_len]; omega), looseV1_len]
      exact h5
    · unfold flipC
      rw [if_neg (show ¬ p < looseN (OwnF.nf o).2 from hp)]
      show OwnF.nf o :: flipC (p - looseN o.f) k _ = _
      rw [h6]
      rfl
theorem mget_app {α : Type} (k : Int) : ∀ (a b : List (Int × α)), mget k (a ++ b) = (mget k a).or (mget k b)
 | [], b => by simp [mget]
 | (n, v) :: a, b => by
  rw [List.cons_append]
  simp only [mget]
  split
  · simp
  · exact mget_app k a b
theorem mget_none {α : Type} {k : Int} : ∀ {m : List (Int × α)}, k ∉ m.map (·.1) → mget k m = none
 | [], _ => rfl
 | (n, v) :: m, h => by
  simp only [List.map_cons, List.mem_cons, not_or] at h
  simp only [mget]
  rw [if_neg h.1, mget_none h.2]
theorem mget_some {α : Type} {k : Int} {v : α} : ∀ {m : List (Int × α)}, (m.map (·.1)).Nodup → (k, v) ∈ m → mget k m = some v
 | [], _, h => by simp at h
 | (n, u) :: m, hn, h => by
  simp only [List.map_cons, List.nodup_cons] at hn
  simp only [mget]
  rcases List.mem_cons.1 h with h | h
  · injection h with h1 h2; subst h1 h2; rw [if_pos rfl]
  · rw [if_neg (fun q => hn.1 (by rw [← q]; exact List.mem_map.2 ⟨_, h, rfl⟩))]
    exact mget_some hn.2 h
theorem mget_put {α : Type} {k j : Int} {u : α} : ∀ {m : List (Int × α)}, mget j (mput k u m) = if j = k then some u else mget j m
 | [] => by simp only [mput, mget]
 | (n, v) :: m => by
  simp only [mput]
  by_cases q : k = n
  · rw [if_pos q]
    subst q
    simp only [mget]
    split <;> rfl
  · rw [if_neg q]
    simp only [mget]
    rw [mget_put]
    by_cases h1 : j = n
    · rw [if_pos h1, if_neg (fun e => q (e.symm.trans h1)), if_pos h1]
    · rw [if_neg h1, if_neg h1]
theorem mget_del {α : Type} {k j : Int} : ∀ {m : List (Int × α)}, (m.map (·.1)).Nodup → mget j (mdel k m) = if j = k then none else mget j m
 | [], _ => by simp [mdel, mget]
 | (n, v) :: m, hn => by
  simp only [List.map_cons, List.nodup_cons] at hn
  simp only [mdel]
  by_cases q : k = n
  · rw [if_pos q]
    subst q
    by_cases h1 : j = k
    · rw [if_pos h1]; subst h1; exact mget_none hn.1
    · rw [if_neg h1]; simp only [mget]; rw [if_neg h1]
  · rw [if_neg q]
    simp only [mget]
    rw [mget_del hn.2]
    by_cases h1 : j = n
    · rw [if_pos h1, if_neg (fun e => q (e.symm.trans h1)), if_pos h1]
    · rw [if_neg h1, if_neg h1]
theorem get_set' {fs : List (Int × Fi)} {k j : Int} {f : Fi} (hn : (fs.map (·.1)).Nodup) : getF (setF fs k f) j = if j = k then (if f.bs = [] then ⟨[], 0⟩ else f) else getF fs j := by
 unfold setF getF
 by_cases hb : f.bs = []
 · rw [if_pos hb, mget_del (mput_nd hn), mget_put]
   by_cases h : j = k
   · rw [if_pos h, if_pos h, if_pos hb]; rfl
   · rw [if_neg h, if_neg h, if_neg h]
 · rw [if_neg hb, mget_put]
   by_cases h : j = k
   · rw [if_pos h, if_pos h, if_neg hb]; rfl
   · rw [if_neg h, if_neg h]
theorem setX_get {mx : MapX} {k j : Int} {v : Value} {n : Nat} (hn : (mx.kv.map (·.1)).Nodup) : mget j (setX mx k v n).kv = if j = k then (if n = 0 then none else some v) else mget j mx.kv := by
 unfold setX
 by_cases h0 : n = 0
 · rw [if_pos h0, MapX.kv_del, MapX.kv_put, mget_del (mput_nd hn), mget_put]
   by_cases h : j = k
   · rw [if_pos h, if_pos h, if_pos h0]
   · rw [if_neg h, if_neg h, if_neg h]
 · rw [if_neg h0, MapX.kv_put, mget_put]
   by_cases h : j = k
   · rw [if_pos h, if_pos h, if_neg h0]
   · rw [if_neg h, if_neg h]
theorem mem_set {fs : List (Int × Fi)} {k : Int} {f : Fi} {e : Int × Fi} (h : e ∈ setF fs k f) : e.1 = k ∨ e ∈ fs := by
 unfold setF at h
 have : e ∈ mput k f fs := by
  split at h
  · exact mdel_sub.subset h
  · exact h
 rcases mput_all this with q | q
 · exact .inl (by rw [q])
 · exact .inr q
structure CrS where
 i : Nat
 ow : List OwnF
 D : Dk
 mx : MapX
 a : Option Addr
 c : Nat
 G : Objs
structure CrI (D0 : Dk) (keep : List Int) (R0 : Objs) (q : CrS) : Prop where
 i : q.i ≤ (fnos D0).length
 ow : q.ow.map OwnF.nf = cuts D0 keep q.i
 row : ∀ o ∈ q.ow, Grow 1 o.a o.f.bs.length o.c (o.f.bs.map B8) o.G ∧ Bytes o.f.bs
 val : ∀ o ∈ q.ow, o.f.bs ≠ [] → mget o.n q.mx.kv = some (fileV o.a o.f.bs.length o.c o.f.d)
 get : ∀ m, getF q.D.fs m = (mget m (cuts D0 keep q.i)).getD (getF D0.fs m)
 keys : ∀ e ∈ q.D.fs, e.1 ∈ fnos D0
 dk : DkI (rowsO q.ow ++ R0) q.D q.mx
 same : q.D.room = D0.room ∧ q.D.off = D0.off ∧ q.D.armed = D0.armed ∧ q.D.left = D0.left
 loose : Grow 1 q.a (looseV q.ow).length q.c (looseV q.ow) q.G
theorem cuts_keys (D0 : Dk) (keep : List Int) (i : Nat) (hi : i ≤ (fnos D0).length) : (cuts D0 keep i).map (·.1) = (fnos D0).take i := by
 unfold cuts
 rw [List.map_map]
 apply List.ext_getElem
 · rw [List.length_map, List.length_range, List.length_take]; omega
 · intro j h1 h2
   rw [List.length_map, List.length_range] at h1
   simp only [List.getElem_map, List.getElem_range, Function.comp, cutAt, List.getElem_take]
   exact nth_get (by omega)
theorem take_nth_notin {l : List Int} (hn : l.Nodup) {i : Nat} (hi : i < l.length) : nth l i ∉ l.take i := by
 intro h
 rw [List.mem_take_iff_getElem] at h
 obtain ⟨j, hj, he⟩ := h
 rw [nth_get hi] at he
 have := (List.getElem_inj hn).1 he
 omega
theorem FRel.of {R : Objs} : ∀ {m : List (Int × Value)} {fs : List (Int × Fi)}, m.map (·.1) = fs.map (·.1) → (m.map (·.1)).Nodup → (∀ k v f, mget k m = some v → mget k fs = some f → FileOk R v f) → FRel R m fs
 | [], [], _, _, _ => .nil
 | [], _ :: _, h, _, _ => by simp at h
 | _ :: _, [], h, _, _ => by simp at h
 | (k, v) :: m, (k', f) :: fs, h, hn, ha => by
  simp only [List.map_cons, List.cons.injEq] at h
  obtain ⟨h1, h2⟩ := h
  subst h1
  simp only [List.map_cons, List.nodup_cons] at hn
  refine .cons (ha k v f (by simp [mget]) (by simp [mget])) (FRel.of h2 hn.2 fun j u g hu hg => ?_)
  have hj : j ≠ k := fun q => hn.1 (by
   subst q
   exact List.mem_map.2 ⟨_, mget_mem hu, rfl⟩)
  exact ha j u g (by simp only [mget]; rw [if_neg hj]; exact hu) (by simp only [mget]; rw [if_neg hj]; exact hg)
theorem mput_keys {α : Type} {k : Int} {u : α} : ∀ {m : List (Int × α)}, k ∈ m.map (·.1) → (mput k u m).map (·.1) = m.map (·.1)
 | [], h => by simp at h
 | (n, v) :: m, h => by
  simp only [mput]
  by_cases q : k = n
  · rw [if_pos q]; subst q; rfl
  · rw [if_neg q]
    simp only [List.map_cons, List.mem_cons] at h ⊢
    rw [mput_keys (h.resolve_left q)]
theorem rowsO_count {o : OwnF} (Q : Nat × Ent → Bool) : ∀ {ow : List OwnF}, o ∈ ow → o.G.countP Q ≤ (rowsO ow).countP Q
 | x :: ow, h => by
  rw [rowsO_cons, List.countP_append]
  rcases List.mem_cons.1 h with rfl | h
  · omega
  · have := rowsO_count Q h
    omega
theorem mem_some {α : Type} {k : Int} : ∀ {m : List (Int × α)}, k ∈ m.map (·.1) → ∃ v, mget k m = some v
 | [], h => by simp at h
 | (n, v) :: m, h => by
  simp only [mget]
  by_cases q : k = n
  · rw [if_pos q]; exact ⟨v, rfl⟩
  · rw [if_neg q]
    simp only [List.map_cons, List.mem_cons] at h
    exact mem_some (h.resolve_left q)
theorem get_hardE (fs : List (Int × Fi)) (k : Int) : getF (hardAll fs) k = (getF fs k).hard := by
 unfold getF hardAll
 induction fs with
 | nil => rfl
 | cons e l ih =>
  obtain ⟨n, f⟩ := e
  simp only [List.map_cons, mget]
  by_cases q : k = n
  · rw [if_pos q, if_pos q]; rfl
  · rw [if_neg q, if_neg q]; exact ih
theorem crash_get {D0 : Dk} {keep : List Int} {R0 : Objs} {q : CrS} (h : CrI D0 keep R0 q) (hq : q.i = (fnos D0).length) (m : Int) : getF q.D.fs m = (mget m (cuts D0 keep (fnos D0).length)).getD ⟨[], 0⟩ := by
 rw [h.get m, hq]
 by_cases hm : m ∈ fnos D0
 · obtain ⟨v, hv⟩ := mem_some (m := cuts D0 keep (fnos D0).length) (k := m) (by rw [cuts_keys D0 keep _ (Nat.le_refl _), List.take_length]; exact hm)
   rw [hv]; rfl
 · have : getF D0.fs m = ⟨[], 0⟩ := by
     unfold getF
     rw [mget_none (fun e => hm (fnos_mem.2 e))]
     rfl
   rw [this]
theorem crash_flip {D0 : Dk} {keep : List Int} {R0 : Objs} {q : CrS} (h : CrI D0 keep R0 q) (hq : q.i = (fnos D0).length) (hnd : (fnos D0).Nodup) {ow1 ow2 : List OwnF} {o : OwnF} {b : Nat} {f2 : Fi} (how : q.ow = ow1 ++ o :: ow2) (ha : o.a = some ⟨b, 0, none⟩) (hne : o.f.bs ≠ [])
  (hl : f2.bs.length = o.f.bs.length) (hd : f2.d = o.f.d) (hB : Bytes f2.bs) :
  DkI ((rowsO ow1 ++ ((b, ⟨1, false, f2.bs.map B8⟩) :: rowsO ow2)) ++ R0) { q.D with fs := mput o.n f2 q.D.fs } q.mx ∧
   (∀ m, getF (mput o.n f2 q.D.fs) m = if m = o.n then f2 else getF q.D.fs m) ∧ ∀ m, (mget m (ow1.map OwnF.nf ++ (o.n, f2) :: ow2.map OwnF.nf)).getD ⟨[], 0⟩ = if m = o.n then f2 else getF q.D.fs m := by
 have hck := cuts_keys D0 keep q.i (Nat.le_of_eq hq)
 have hkeys : q.ow.map (·.n) = fnos D0 := by
  have e1 : q.ow.map (·.n) = (q.ow.map OwnF.nf).map (·.1) := by rw [List.map_map]; rfl
  rw [e1, h.ow, hck, hq, List.take_length]
 have hond : (q.ow.map (·.n)).Nodup := by rw [hkeys]; exact hnd
 have hcnd : ((cuts D0 keep q.i).map (·.1)).Nodup := by rw [hck, hq, List.take_length]; exact hnd
 have hom : o ∈ q.ow := by rw [how]; simp
 have hown : ∀ o2 ∈ q.ow, getF q.D.fs o2.n = o2.f := fun o2 h2 => by
  rw [h.get, mget_some hcnd (by rw [← h.ow]; exact List.mem_map.2 ⟨o2, h2, rfl⟩)]
  rfl
 have hget : ∀ m, getF (mput o.n f2 q.D.fs) m = if m = o.n then f2 else getF q.D.fs m := fun m => by
  unfold getF
  rw [mget_put]
  split <;> rfl
 have hin : o.n ∈ q.D.fs.map (·.1) := by
  rw [← h.dk.di.rel.keys]
  exact List.mem_map.2 ⟨_, mget_mem (h.val o hom hne), rfl⟩
 have hnk : (q.mx.kv.map (·.1)).Nodup := by rw [← keys_es]; exact h.dk.keys
 have hf0 : f2.bs ≠ [] := fun e => hne (List.length_eq_zero_iff.1 (by rw [← hl, e]; rfl))
 refine ⟨⟨⟨FRel.of (by rw [mput_keys hin]; exact h.dk.di.rel.keys) hnk fun k v f hv hf => ?_, mput_nd h.dk.di.nd⟩, fun e he => ?_, h.dk.room, h.dk.left, ?_⟩, hget, fun m => ?_⟩
 · rw [mget_put] at hf
   by_cases hk : k = o.n
   · subst hk
     rw [if_pos rfl] at hf
     injection hf with hf
     subst hf
     rw [h.val o hom hne] at hv
     injection hv with hv
     subst hv
     refine ⟨o.a, o.c, by rw [hl, hd], ?_, (fun q => by rw [ha] at q; cases q), hB⟩
     rw [ha]
     exact .inr ⟨b, 0, ⟨1, false, f2.bs.map B8⟩, rfl, fun g hg => hg.mem (by simp), rfl, by show 0 + f2.bs.length * 1 ≤ (f2.bs.map B8).length; rw [List.length_map]; omega, by rw [List.drop_zero, Nat.mul_one]; exact List.take_of_length_le (by rw [List.length_map]; omega)⟩
   · rw [if_neg hk] at hf
     have hkin : k ∈ fnos D0 := h.keys _ (mget_mem hf)
     rw [← hkeys] at hkin
     obtain ⟨o2, h2, rfl⟩ := List.mem_map.1 hkin
     have hgf := hown o2 h2
     have hff : getF q.D.fs o2.n = f := by unfold getF; rw [hf]; rfl
     rw [hgf] at hff
     subst hff
     have hne2 : o2.f.bs ≠ [] := (h.dk.ok _ (mget_mem hf)).2.1
     rw [h.val o2 h2 hne2] at hv
     injection hv with hv
     subst hv
     obtain ⟨hg2, hB2⟩ := h.row o2 h2
     refine ⟨o2.a, o2.c, rfl, ?_, fun q => (hg2.nil0 q).1, hB2⟩
     have hr := hg2.rowy (R := ([] : Objs))
     rw [List.append_nil] at hr
     refine hr.inc fun g hg => hg.sub fun Q => ?_
     rw [how] at h2
     have : o2 ∈ ow1 ∨ o2 ∈ ow2 := by
      rcases List.mem_append.1 h2 with h2 | h2
      · exact .inl h2
      · rcases List.mem_cons.1 h2 with h2 | h2
        · exact absurd (by rw [h2]) hk
        · exact .inr h2
     simp only [List.countP_append, List.countP_cons]
     rcases this with h3 | h3
     · have := rowsO_count Q h3; omega
     · have := rowsO_count Q h3; omega
 · rcases mput_all he with q1 | q1
   · rw [q1]
     obtain ⟨v, hv⟩ := mem_some hin
     have h3 := h.dk.ok _ (mget_mem hv)
     have h4 : v = o.f := by
      have := hown o hom
      unfold getF at this
      rw [hv] at this
      exact this
     rw [h4] at h3
     exact ⟨h3.1, hf0, by rw [hd]; exact h3.2.2.1, by rw [hd, hl]; exact h3.2.2.2⟩
   · exact h.dk.ok e q1
 · show used (mput o.n f2 q.D.fs) ≤ q.D.room
   rw [used_put, hown o hom, hl]
   have := h.dk.used
   omega
 · rw [mget_app]
   have hn1 : (ow1.map OwnF.nf).map (·.1) = ow1.map (·.n) := by rw [List.map_map]; rfl
   have hn2 : (ow2.map OwnF.nf).map (·.1) = ow2.map (·.n) := by rw [List.map_map]; rfl
   by_cases hm : m = o.n
   · subst hm
     rw [if_pos rfl, mget_none (m := ow1.map OwnF.nf)]
     · simp [mget]
     · rw [hn1]
       rw [how, List.map_append, List.nodup_append] at hond
       exact fun e => hond.2.2 _ e _ (by simp) rfl
   · have e : ∀ v : Fi, mget m ((o.n, v) :: ow2.map OwnF.nf) = mget m (ow2.map OwnF.nf) := fun v => by
       simp only [mget]
       rw [if_neg hm]
     rw [if_neg hm, crash_get h hq m, ← hq, ← h.ow, how, List.map_append, List.map_cons, mget_app, show OwnF.nf o = (o.n, o.f) from rfl, e, e]
end Go.Proofs.Ytahaplbdhgfobaa.Eng
set_option linter.unusedVariables false
set_option linter.unusedSimpArgs false
namespace Go.Proofs.Ytahaplbdhgfobaa.Eng
def CrashPost (D0 : Dk) (keep : List Int) (flip : Int) (d bm : Nat) (R R0 : Objs) (O' : Objs) : Prop :=
 ∃ mx' N D', O' = dkO d bm D' mx' (N ++ R) ∧ DkI (N ++ R0) D' mx' ∧ D'.room = D0.room ∧ D'.off = false ∧ D'.armed = false ∧ ∀ m, getF D'.fs m = ((mget m (crashC D0 keep flip)).getD ⟨[], 0⟩).hard
theorem looseSum_le (D0 : Dk) (keep : List Int) (M : Nat) (h : ∀ n, (getF D0.fs n).bs.length ≤ M) : ∀ i, looseSum (cuts D0 keep i) ≤ i * M
 | 0 => Nat.zero_le _
 | i + 1 => by
  have h1 := looseSum_le D0 keep M h i
  have h2 := h (nth (fnos D0) i)
  rw [cuts_succ, looseSum_app, Nat.succ_mul]
  have h3 : looseSum [cutAt D0 keep i] ≤ M := by
   show looseN (cutF keep i (getF D0.fs (nth (fnos D0) i))) + 0 ≤ M
   unfold looseN cutF
   simp only [List.length_take]
   omega
  omega
theorem flipB_range (a : Int) (k : Nat) : 0 ≤ flipB a k ∧ flipB a k < 256 := wrap8_lt _
theorem Rowy.mid {A N R : Objs} {sz : Nat} {a : Option Addr} {n : Nat} {cs : List Value} (h : Rowy (A ++ R) sz a n cs) : Rowy (A ++ (N ++ R)) sz a n cs :=
 h.inc fun g hg => hg.sub (by intro Q; simp only [List.countP_append]; omega)
theorem FRel.mid {A N R : Objs} {m : List (Int × Value)} {fs : List (Int × Fi)} (h : FRel (A ++ R) m fs) : FRel (A ++ (N ++ R)) m fs := by
 induction h with
 | nil => exact .nil
 | cons h1 _ ih =>
  obtain ⟨a, c, h2, h3, h4⟩ := h1
  exact .cons ⟨a, c, h2, h3.mid, h4⟩ ih
theorem crash_ok (R : Objs) {R0 : Objs} (d bm : Nat) (D0 : Dk) (mx0 : MapX) (keep : List Int) (ak : Option Addr) (ck : Nat) (flip : Int) (hD : DkI R0 D0 mx0) (hi : ∀ Q : Nat × Ent → Bool, R0.countP Q ≤ R.countP Q) (hroom : D0.room ≤ 1000000) (hf64 : In64 flip) (hk64 : ∀ n ∈ keep, In64 n) (hkl : Short keep)
  (hk : Src R 1 (.slice ak keep.length ck) keep.length (keep.map I)) :
  Spec Try.prog false 16 #[Ptr d 0, .slice ak keep.length ck, I flip] (dkO d bm D0 mx0 R) fun v O' => CrashPost D0 keep flip d bm R R0 O' := by
 have hnd := fnos_nd hD
 have hfl := fnos_len hD
 have hfl2 : (fnos D0).length ≤ 1000000 := by
  have h1 := used_count hD.ok
  have h2 := hD.used
  have h4 : (fnos D0).length = D0.fs.length := by
   unfold fnos
   rw [(sortK_perm _).length_eq, List.length_map]
  omega
 refine Spec.enter (args := [_, _, _]) (m := 107) Try.func16 rfl rfl (by decide +kernel) fun h0 => ?_
 refine WX.seq ?_
 refine WX.region rfl ?_
 refine WXL.assign Met.none rfl ?_
 refine WXL.nil ?_
 refine Fin.then_normal ?_
 refine WX.seq ?_
 refine WX.seq ?_
 refine WX.region rfl ?_
 refine WXL.move Met.none rfl ?_
 refine WXL.cl (O1 := _) Met.none rfl (fnOk_of Try.func41 (by decide +kernel)) rfl (fun _ h => h) (files_ok _ R d bm D0 mx0 hD) (fun v O' hp => ?_)
 obtain ⟨a15, c15, G15, rfl, hG15, rfl⟩ := hp
 refine WXL.len Met.none rfl Try.underlying33 ?_
 refine WXL.move Met.none rfl ?_
 refine WXL.nil ?_
 refine Fin.then_normal ?_
 refine WX.block ?_
 obtain ⟨B, hB⟩ : ∃ B, B = G15 ++ R := ⟨_, rfl⟩
 have hsF : Src B 1 (.slice a15 (fnos D0).length c15) (fnos D0).length ((fnos D0).map I) := hB ▸ hG15.src
 have hsK : Src B 1 (.slice ak keep.length ck) keep.length (keep.map I) := hB ▸ Src.app hk
 have hiB : ∀ Q : Nat × Ent → Bool, R0.countP Q ≤ B.countP Q := fun Q => by
  have := hi Q
  rw [hB, List.countP_append]
  omega
 refine WX.re (O' := dkO d bm D0 mx0 ([] ++ ([] ++ B))) ?_ (by rw [hB]; exact sub_)
 refine WX.loop (fun q : CrS => [(0, Ptr d 0), (1, .slice ak keep.length ck), (2, I flip), (6, .slice q.a (looseV q.ow).length q.c), (15, .slice a15 (fnos D0).length c15), (16, I ((fnos D0).length : Nat)), (17, I (q.i : Nat))]) (fun q => dkO d bm q.D q.mx (q.G ++ (rowsO q.ow ++ B))) (CrI D0 keep R0) (fun q => (fnos D0).length - q.i) ⟨0, [], D0, mx0, none, 0, []⟩ ⟨Nat.zero_le _, rfl, (fun o ho => by simp at ho), (fun o ho => by simp at ho), (fun m => rfl), (fun e he => fnos_mem.2 (List.mem_map.2 ⟨e, he, rfl⟩)), hD, ⟨rfl, rfl, rfl, rfl⟩, .nil⟩ (fun s hs => hs.tl [] 0) (fun q hq => ?_)
 obtain ⟨i, ow, D, mx, a6, c6, G6⟩ := q
 obtain ⟨hin, how, hgr, hval, hget, hkeys, hDi, hsame, hloose⟩ := hq
 simp only at hin how hgr hval hget hkeys hDi hsame hloose
 dsimp only
 have hlsum : (looseV ow).length ≤ i * 1000000 := by
  rw [looseV_len, how]
  exact looseSum_le D0 keep 1000000 (fun n => by
   have h1 := used_get D0.fs n
   have h2 := hD.used
   omega) i
 refine WX.seq ?_
 refine WX.region rfl ?_
 refine WXL.bin Met.none rfl rfl rfl ?_
 refine WXL.nil ?_
 refine Fin.then_normal ?_
 refine WX.seq ?_
 refine WX.cond rfl (fun hc0 => ?_) (fun hc0 => ?_)
 · try simp only [cnd] at hc0
   refine WX.skip ?_
   refine Fin.then_normal ?_
   refine WX.seq ?_
   refine WX.block ?_
   refine WX.seq ?_
   have hik : i < (fnos D0).length := by omega
   obtain ⟨n, hn⟩ : ∃ n, n = nth (fnos D0) i := ⟨_, rfl⟩
   have hnin : n ∈ fnos D0 := hn ▸ nth_mem hik
   have hn64 := fnos_range hD hnin
   have hnot : n ∉ (cuts D0 keep i).map (·.1) := by rw [cuts_keys D0 keep i (by omega), hn]; exact take_nth_notin hnd hik
   have hfn : getF D.fs n = getF D0.fs n := by rw [hget n, mget_none hnot]; rfl
   obtain ⟨fa, fc, hfv, hrow0, hnil, hfB⟩ := hDi.di.get n
   obtain ⟨f, hf⟩ : ∃ f, f = getF D.fs n := ⟨_, rfl⟩
   have hfd := hDi.get_d n
   have hflen := hDi.get_len n
   rw [← hf] at hfv hrow0 hfB hfd hflen hfn
   have hrow := hrow0.inc (R := G6 ++ (rowsO ow ++ B)) (fun g hg => hg.sub (by intro Q; have := hiB Q; simp only [List.countP_append]; omega))
   obtain ⟨kk, hkk⟩ : ∃ kk, kk = keepN keep i f := ⟨_, rfl⟩
   have hkr := keepN_range keep i hfd
   obtain ⟨cb, hcb⟩ : ∃ cb, cb = (cutF keep i f).bs := ⟨_, rfl⟩
   have hcl := cutF_len keep i hfd
   rw [← hcb, ← hkk] at hcl
   rw [← hkk] at hkr
   have htk : f.bs.take cb.length = cb := by
    rw [hcb]
    show f.bs.take (f.bs.take _).length = f.bs.take _
    rw [List.length_take, ← List.take_take, List.take_length]
   refine WX.region rfl ?_
   refine WXL.move Met.none rfl ?_
   first | refine WXL.ix Met.none rfl rfl elem33 sz3 ?_ | refine WXL.ixS Met.none rfl rfl elem33 sz3 ?_
   first | refine WXL.ld Met.none rfl agg3 ?_ (hv := (show ((fnos D0).map I)[i]? = some (I n) from by rw [hn]; exact cell_map _ _ _ hik)) | refine WXL.ldS Met.none rfl agg3 ?_ (hv := (show ((fnos D0).map I)[i]? = some (I n) from by rw [hn]; exact cell_map _ _ _ hik))
   refine WXL.assign Met.none rfl ?_
   refine WXL.assign Met.none rfl ?_
   refine WXL.nil ?_
   refine Fin.then_normal ?_
   refine WX.seq ?_
   refine WX.region rfl ?_
   refine WXL.move Met.none rfl ?_
   refine WXL.nilCheck Met.none rfl ?_
   first | refine WXL.fieldAddr Met.none rfl Try.underlying68 rfl sz66 rfl ?_ | refine WXL.faS Met.none rfl Try.underlying68 rfl sz66 ?_
   first | refine WXL.ld Met.none rfl agg66 ?_ | refine WXL.ldS Met.none rfl agg66 ?_
   refine WXL.move Met.none rfl ?_
   refine WXL.lookup Met.none rfl rfl mapT66 zero71 at_ (show _ = fileV fa f.bs.length fc f.d from hfv) ?_
   refine WXL.alloc (c := [_, _]) Met.none zero71 rfl (fun b9 => ?_)
   refine WXL.st (vs := [_, _]) (c' := [_, _]) (j := 0) Met.none rfl rfl rfl sz71 ?_ (hj := rfl)
   refine WXL.nil ?_
   refine Fin.then_normal ?_
   refine WX.seq ?_
   refine WX.region rfl ?_
   refine WXL.assign Met.none rfl ?_
   refine WXL.nil ?_
   refine Fin.then_normal ?_
   refine WX.seq ?_
   refine WX.seq ?_
   refine WX.region rfl ?_
   refine WXL.move Met.none rfl ?_
   refine WXL.move Met.none rfl ?_
   refine WXL.len Met.none rfl Try.underlying33 ?_
   refine WXL.bin Met.none rfl rfl rfl ?_
   refine WXL.nil ?_
   refine Fin.then_normal ?_
   refine WX.cond rfl (fun hc1 => ?_) (fun hc1 => ?_)
   · try simp only [cnd] at hc1
     have hik2 : i < keep.length := by omega
     refine WX.draw rfl ?_
     refine WXL.move Met.none rfl ?_
     refine WXL.move Met.none rfl ?_
     first | refine WXL.ix Met.none rfl rfl elem33 sz3 ?_ | refine WXL.ixS Met.none rfl rfl elem33 sz3 ?_
     first | refine WXL.ld Met.none rfl agg3 ?_ (hv := (cell_map _ _ _ (by omega))) | refine WXL.ldS Met.none rfl agg3 ?_ (hv := (cell_map _ _ _ (by omega)))
     refine WXL.fieldAddr (off' := 0) Met.none rfl Try.underlying71 rfl sz27 rfl ?_
     first | refine WXL.ld Met.none rfl agg27 ?_ | refine WXL.ldS Met.none rfl agg27 ?_
     refine WXL.len Met.none rfl Try.underlying27 ?_
     refine WXL.fieldAddr (off' := 1) Met.none rfl Try.underlying71 rfl sz3 rfl ?_
     first | refine WXL.ld Met.none rfl agg3 ?_ | refine WXL.ldS Met.none rfl agg3 ?_
     refine WXL.bin Met.none rfl rfl bvS ?_
     refine WXL.min Met.none rfl rfl ?_
     refine WXL.max Met.none rfl rfl ?_
     refine WXL.assign Met.none rfl ?_
     refine WXL.nil ?_
     refine Fin.then_normal ?_
     refine WX.seq ?_
     have hcat : ∃ z : Int, z = kk := ⟨_, rfl⟩
     have hkk2 : kk = if i < keep.length then max 0 (min (nth keep i) (f.bs.length - f.d)) else 0 := hkk
     first | rw [if_pos hik2] at hkk2 | rw [if_neg (by omega)] at hkk2
     refine WX.region rfl ?_
     refine WXL.fieldAddr (off' := 0) Met.none rfl Try.underlying71 rfl sz27 rfl ?_
     first | refine WXL.ld Met.none rfl agg27 ?_ | refine WXL.ldS Met.none rfl agg27 ?_
     refine WXL.fieldAddr (off' := 1) Met.none rfl Try.underlying71 rfl sz3 rfl ?_
     first | refine WXL.ld Met.none rfl agg3 ?_ | refine WXL.ldS Met.none rfl agg3 ?_
     refine WXL.move Met.none rfl ?_
     refine WXL.bin Met.none rfl rfl bvA ?_
     refine WXL.pre (m := cb.length) Met.none rfl rfl elem27 sz5 (Rowy.cons (Rowy.cons (Rowy.cons hrow))) hnil ?_
     refine WXL.cl (O1 := _) Met.none rfl (fnOk_of Try.func37 (by decide +kernel)) rfl (fun _ h => h) (clone_ok _ cb fa cb.length (by omega) (fun q => by
     have := hrow.nil0 q
     have h2 : cb.length = 0 := by omega
     exact List.length_eq_zero_iff.1 h2) (Src.cons (Src.cons (Src.cons (by
     have hpre := hrow.pre (m := cb.length) (by omega)
     rw [Nat.mul_one, ← List.map_take, htk] at hpre
     exact hpre.src hpre.nil0))))) (fun v O' hp => ?_)
     obtain ⟨a51, c51, G51, rfl, hG51, rfl⟩ := hp
     refine WXL.re (O' := (b9, ⟨0, false, [.slice fa f.bs.length fc, I f.d]⟩) :: dkO d bm D mx (G6 ++ ((rowsO ow ++ G51) ++ B))) ?_
     refine WXL.fieldAddr (off' := 0) Met.none rfl Try.underlying71 rfl sz27 rfl ?_
     refine WXL.st (vs := [_]) (c' := [_, _]) (j := 0) Met.none rfl rfl rfl sz27 ?_ (hj := rfl)
     refine WXL.nil ?_
     refine Fin.then_normal ?_
     refine WX.seq ?_
     refine WX.seq ?_
     refine WX.region rfl ?_
     refine WXL.fieldAddr (off' := 1) Met.none rfl Try.underlying71 rfl sz3 rfl ?_
     first | refine WXL.ld Met.none rfl agg3 ?_ | refine WXL.ldS Met.none rfl agg3 ?_
     refine WXL.assign Met.none rfl ?_
     refine WXL.nil ?_
     refine Fin.then_normal ?_
     refine WX.block ?_
     obtain ⟨dn, hdn⟩ : ∃ dn : Nat, f.d = (dn : Int) := ⟨f.d.toNat, by omega⟩
     have hsC : Src ((rowsO ow ++ G51) ++ B) 1 (.slice a51 cb.length c51) cb.length (cb.map B8) := by rw [List.append_assoc]; exact Src.app hG51.src
     rw [hdn]
     refine WX.loop (fun q : Nat × Option Addr × Nat × Objs => [(0, Ptr d 0), (1, .slice ak keep.length ck), (2, I flip), (6, .slice q.2.1 ((looseV ow).length + q.1) q.2.2.1), (8, I n), (9, Ptr b9 0), (11, I ((dn + q.1 : Nat) : Int)), (15, .slice a15 (fnos D0).length c15), (16, I ((fnos D0).length : Nat)), (17, I (i : Nat))]) (fun q => (b9, ⟨0, false, [.slice a51 cb.length c51, I (dn : Int)]⟩) :: dkO d bm D mx (q.2.2.2 ++ ((rowsO ow ++ G51) ++ B))) (fun q => dn + q.1 ≤ cb.length ∧ Grow 1 q.2.1 ((looseV ow).length + q.1) q.2.2.1 (looseV ow ++ looseV1 a51 dn q.1) q.2.2.2) (fun q => cb.length - q.1) (0, a6, c6, G6) ⟨by show dn + 0 ≤ _; omega, by rw [show looseV1 a51 dn 0 = [] from rfl, List.append_nil]; exact hloose⟩ (fun s hs => hs.tl [] 0) (fun q hq => ?_)
     obtain ⟨j, a7, c7, G7⟩ := q
     obtain ⟨hj, hG7⟩ := hq
     simp only at hj hG7
     dsimp only
     refine WX.seq ?_
     refine WX.seq ?_
     refine WX.region rfl ?_
     refine WXL.move Met.none rfl ?_
     refine WXL.fieldAddr (off' := 0) Met.none rfl Try.underlying71 rfl sz27 rfl ?_
     first | refine WXL.ld Met.none rfl agg27 ?_ | refine WXL.ldS Met.none rfl agg27 ?_
     refine WXL.len Met.none rfl Try.underlying27 ?_
     refine WXL.bin Met.none rfl rfl rfl ?_
     refine WXL.nil ?_
     refine Fin.then_normal ?_
     refine WX.cond rfl (fun hc2 => ?_) (fun hc2 => ?_)
     · try simp only [cnd] at hc2
       refine WX.skip ?_
       refine Fin.then_normal ?_
       refine WX.seq ?_
       refine WX.block ?_
       obtain ⟨b51, rfl, hG51e, hcl51⟩ : ∃ b51, a51 = some ⟨b51, 0, none⟩ ∧ G51 = [(b51, ⟨1, false, cb.map B8⟩)] ∧ (cb.map B8).length = cb.length * 1 := by
        rcases hG51 with ⟨_, h0, _⟩ | h
        · omega
        · exact h
       refine WX.region rfl ?_
       refine WXL.move Met.none rfl ?_
       refine WXL.fieldAddr (off' := 0) Met.none rfl Try.underlying71 rfl sz27 rfl ?_
       first | refine WXL.ld Met.none rfl agg27 ?_ | refine WXL.ldS Met.none rfl agg27 ?_
       refine WXL.move Met.none rfl ?_
       first | refine WXL.ix Met.none rfl rfl elem27 sz5 ?_ | refine WXL.ixS Met.none rfl rfl elem27 sz5 ?_
       refine WXL.buildSlice (c := [_]) Met.none rfl elem74 sz76 zero76 (by decide) (by decide) rfl rfl rfl rfl (fun b67 => ?_)
       refine WXL.apG [_, _, _, _] Met.none rfl rfl isrow74 elem74 sz76 by76 zero76 (Src.lit (cs := [_])) (fun a68 c68 G68 hG68 => ?_)
       refine WXL.assign Met.none rfl ?_
       refine WXL.nil ?_
       refine Fin.block_normal ?_
       refine Fin.then_normal ?_
       refine WX.region rfl ?_
       refine WXL.move Met.none rfl ?_
       refine WXL.bin Met.none rfl rfl bvA ?_
       refine WXL.assign Met.none rfl ?_
       refine WXL.nil ?_
       refine Fin.loop_next (j + 1, a68, c68, G68) ⟨by simp only; omega, ?_⟩ (by simp only; omega) (fun s hs => hs.tl [] 1)
       simp only
       rw [looseV1_succ, ← List.append_assoc, show ePtr (some ⟨b51, 0, none⟩) (dn + j) = Ptr b51 (dn + j) from by unfold ePtr; simp]
       exact hG68
     · try simp only [cnd] at hc2
       refine WX.exit ?_
       refine Fin.then_exit ?_
       refine Fin.loop_exit ?_
       refine Fin.block_hit rfl ?_
       refine Fin.then_normal ?_
       have hjl : j = cb.length - dn := by omega
       obtain ⟨o, ho⟩ : ∃ o : OwnF, o = ⟨n, cutF keep i f, a51, c51, G51⟩ := ⟨_, rfl⟩
       have hof : o.f.bs = cb ∧ o.f.d = f.d := by rw [ho]; exact ⟨hcb.symm, rfl⟩
       have hoG : Grow 1 o.a o.f.bs.length o.c (o.f.bs.map B8) o.G := by rw [hof.1, ho]; exact hG51
       have hlo : looseN o.f = j := by
        unfold looseN
        rw [hof.1, hof.2, hdn, Int.toNat_natCast, hjl]
       have hlv : looseV (ow ++ [o]) = looseV ow ++ looseV1 a51 dn j := by
        rw [looseV_app]
        show looseV ow ++ (looseV1 o.a o.f.d.toNat (looseN o.f) ++ []) = _
        rw [List.append_nil, hlo, hof.2, hdn, Int.toNat_natCast, ho]
       have hro : rowsO (ow ++ [o]) = rowsO ow ++ G51 := by
        rw [rowsO_app]
        show rowsO ow ++ (o.G ++ []) = _
        rw [List.append_nil, ho]
       have hlvl : (looseV ow).length + j = (looseV (ow ++ [o])).length := by rw [hlv, List.length_append, looseV1_len]
       have hcut : cutAt D0 keep i = (n, o.f) := by
        unfold cutAt
        rw [← hn, ← hfn, ho]
       have hfile : FileOk (rowsO (ow ++ [o]) ++ R0) (fileV a51 cb.length c51 f.d) o.f := ⟨a51, c51, by rw [hof.1, hof.2], by
        rw [hro, List.append_assoc, hof.1]
        exact Rowy.app hG51.rowy, fun q => (hG51.nil0 q).1, by
        rw [hof.1, ← htk]
        exact take_bytes hfB⟩
       have hcbl : o.f.bs.length = cb.length := by rw [hof.1]
       have hnk : (mx.kv.map (·.1)).Nodup := by rw [← keys_es]; exact hDi.keys
       have hDn : DkI (rowsO (ow ++ [o]) ++ R0) { D with fs := setF D.fs n o.f } (setX mx n (fileV a51 cb.length c51 f.d) cb.length) := by
        have h0 : DkI (rowsO (ow ++ [o]) ++ R0) D mx := ⟨⟨by
         rw [hro, List.append_assoc]
         exact hDi.di.rel.mid, hDi.di.nd⟩, hDi.ok, hDi.room, hDi.left, hDi.used⟩
        have h1 := h0.set n hfile hn64 ⟨by rw [hof.2]; omega, by rw [hof.1, hof.2]; omega⟩ (by
         have := hDi.used
         rw [hcbl, ← hf]
         omega)
        rw [hcbl] at h1
        exact h1
       refine WX.region rfl ?_
       refine WXL.move Met.none rfl ?_
       refine WXL.move Met.none rfl ?_
       refine WXL.ldN (vs := [_, _]) Met.none rfl agg71 sz71 ?_
       refine WXL.cl (O1 := dkO d bm D mx ((b9, ⟨0, false, [.slice a51 cb.length c51, I (dn : Int)]⟩) :: (G7 ++ ((rowsO ow ++ G51) ++ B)))) Met.none rfl (fnOk_of Try.func38 (by decide +kernel)) rfl sub_ (set_ok _ d bm D mx n a51 cb.length c51 (dn : Int)) (fun v O' hp => ?_)
       obtain rfl := hp
       refine WXL.nil ?_
       refine Fin.block_normal ?_
       refine Fin.then_normal ?_
       refine WX.region rfl ?_
       refine WXL.bin Met.none rfl rfl bvA ?_
       refine WXL.move Met.none rfl ?_
       refine WXL.nil ?_
       rw [← hdn]
       refine Fin.loop_next (⟨i + 1, ow ++ [o], { D with fs := setF D.fs n o.f }, setX mx n (fileV a51 cb.length c51 f.d) cb.length, a7, c7, G7⟩ : CrS) ⟨by simp only; omega, ?_, ?_, ?_, ?_, ?_, hDn, hsame, ?_⟩ (by simp only; omega) ?_
       · simp only
         rw [List.map_append, how, cuts_succ, hcut, ho]
         rfl
       · intro o' h'
         rcases List.mem_append.1 h' with q | q
         · exact hgr o' q
         · rw [List.mem_singleton] at q; subst q; exact ⟨hoG, by rw [hof.1, ← htk]; exact take_bytes hfB⟩
       · intro o' h' hne
         simp only
         rw [setX_get hnk]
         rcases List.mem_append.1 h' with q | q
         · rw [if_neg (fun e => hnot (by rw [← how, List.map_map]; exact List.mem_map.2 ⟨o', q, e⟩))]
           exact hval o' q hne
         · rw [List.mem_singleton] at q
           subst q
           rw [if_pos (by rw [ho]), if_neg (fun e => hne (by rw [hof.1]; exact List.length_eq_zero_iff.1 e)), hof.1, hof.2]
           rw [ho]
       · intro m
         simp only
         rw [get_set' hDi.di.nd, cuts_succ, mget_app, hcut]
         by_cases hm : m = n
         · subst hm
           rw [if_pos rfl, mget_none hnot]
           simp only [mget, if_pos, Option.or, Option.getD_some]
           split
           · rename_i hb0
             have h5 : o.f.d = 0 := by
              rw [hof.1] at hb0
              rw [hof.2]
              rw [hb0] at hcl
              simp at hcl
              omega
             cases hof' : o.f with
             | mk b' d' => rw [hof'] at hb0 h5; simp only at hb0 h5; rw [hb0, h5]
           · rfl
         · rw [if_neg hm, hget m]
           simp only [mget, if_neg hm]
           cases mget m (cuts D0 keep i) <;> rfl
       · intro e he
         rcases mem_set he with q | q
         · rw [q]; exact hnin
         · exact hkeys e q
       · simp only
         rw [← hlvl, hlv]
         exact hG7
       · simp only
         rw [hro, ← hlvl]
         exact (fun s hs => hs.tl [0, 1] 3)
   · try simp only [cnd] at hc1
     refine WX.skip ?_
     refine Fin.then_normal ?_
     refine WX.seq ?_
     have hcat : ∃ z : Int, z = kk := ⟨_, rfl⟩
     have hkk2 : kk = if i < keep.length then max 0 (min (nth keep i) (f.bs.length - f.d)) else 0 := hkk
     first | rw [if_pos hik2] at hkk2 | rw [if_neg (by omega)] at hkk2
     refine WX.region rfl ?_
     refine WXL.fieldAddr (off' := 0) Met.none rfl Try.underlying71 rfl sz27 rfl ?_
     first | refine WXL.ld Met.none rfl agg27 ?_ | refine WXL.ldS Met.none rfl agg27 ?_
     refine WXL.fieldAddr (off' := 1) Met.none rfl Try.underlying71 rfl sz3 rfl ?_
     first | refine WXL.ld Met.none rfl agg3 ?_ | refine WXL.ldS Met.none rfl agg3 ?_
     refine WXL.move Met.none rfl ?_
     refine WXL.bin Met.none rfl rfl bvA ?_
     refine WXL.pre (m := cb.length) Met.none rfl rfl elem27 sz5 (Rowy.cons (Rowy.cons (Rowy.cons hrow))) hnil ?_
     refine WXL.cl (O1 := _) Met.none rfl (fnOk_of Try.func37 (by decide +kernel)) rfl (fun _ h => h) (clone_ok _ cb fa cb.length (by omega) (fun q => by
     have := hrow.nil0 q
     have h2 : cb.length = 0 := by omega
     exact List.length_eq_zero_iff.1 h2) (Src.cons (Src.cons (Src.cons (by
     have hpre := hrow.pre (m := cb.length) (by omega)
     rw [Nat.mul_one, ← List.map_take, htk] at hpre
     exact hpre.src hpre.nil0))))) (fun v O' hp => ?_)
     obtain ⟨a51, c51, G51, rfl, hG51, rfl⟩ := hp
     refine WXL.re (O' := (b9, ⟨0, false, [.slice fa f.bs.length fc, I f.d]⟩) :: dkO d bm D mx (G6 ++ ((rowsO ow ++ G51) ++ B))) ?_
     refine WXL.fieldAddr (off' := 0) Met.none rfl Try.underlying71 rfl sz27 rfl ?_
     refine WXL.st (vs := [_]) (c' := [_, _]) (j := 0) Met.none rfl rfl rfl sz27 ?_ (hj := rfl)
     refine WXL.nil ?_
     refine Fin.then_normal ?_
     refine WX.seq ?_
     refine WX.seq ?_
     refine WX.region rfl ?_
     refine WXL.fieldAddr (off' := 1) Met.none rfl Try.underlying71 rfl sz3 rfl ?_
     first | refine WXL.ld Met.none rfl agg3 ?_ | refine WXL.ldS Met.none rfl agg3 ?_
     refine WXL.assign Met.none rfl ?_
     refine WXL.nil ?_
     refine Fin.then_normal ?_
     refine WX.block ?_
     obtain ⟨dn, hdn⟩ : ∃ dn : Nat, f.d = (dn : Int) := ⟨f.d.toNat, by omega⟩
     have hsC : Src ((rowsO ow ++ G51) ++ B) 1 (.slice a51 cb.length c51) cb.length (cb.map B8) := by rw [List.append_assoc]; exact Src.app hG51.src
     rw [hdn]
     refine WX.loop (fun q : Nat × Option Addr × Nat × Objs => [(0, Ptr d 0), (1, .slice ak keep.length ck), (2, I flip), (6, .slice q.2.1 ((looseV ow).length + q.1) q.2.2.1), (8, I n), (9, Ptr b9 0), (11, I ((dn + q.1 : Nat) : Int)), (15, .slice a15 (fnos D0).length c15), (16, I ((fnos D0).length : Nat)), (17, I (i : Nat))]) (fun q => (b9, ⟨0, false, [.slice a51 cb.length c51, I (dn : Int)]⟩) :: dkO d bm D mx (q.2.2.2 ++ ((rowsO ow ++ G51) ++ B))) (fun q => dn + q.1 ≤ cb.length ∧ Grow 1 q.2.1 ((looseV ow).length + q.1) q.2.2.1 (looseV ow ++ looseV1 a51 dn q.1) q.2.2.2) (fun q => cb.length - q.1) (0, a6, c6, G6) ⟨by show dn + 0 ≤ _; omega, by rw [show looseV1 a51 dn 0 = [] from rfl, List.append_nil]; exact hloose⟩ (fun s hs => hs.tl [] 0) (fun q hq => ?_)
     obtain ⟨j, a7, c7, G7⟩ := q
     obtain ⟨hj, hG7⟩ := hq
     simp only at hj hG7
     dsimp only
     refine WX.seq ?_
     refine WX.seq ?_
     refine WX.region rfl ?_
     refine WXL.move Met.none rfl ?_
     refine WXL.fieldAddr (off' := 0) Met.none rfl Try.underlying71 rfl sz27 rfl ?_
     first | refine WXL.ld Met.none rfl agg27 ?_ | refine WXL.ldS Met.none rfl agg27 ?_
     refine WXL.len Met.none rfl Try.underlying27 ?_
     refine WXL.bin Met.none rfl rfl rfl ?_
     refine WXL.nil ?_
     refine Fin.then_normal ?_
     refine WX.cond rfl (fun hc2 => ?_) (fun hc2 => ?_)
     · try simp only [cnd] at hc2
       refine WX.skip ?_
       refine Fin.then_normal ?_
       refine WX.seq ?_
       refine WX.block ?_
       obtain ⟨b51, rfl, hG51e, hcl51⟩ : ∃ b51, a51 = some ⟨b51, 0, none⟩ ∧ G51 = [(b51, ⟨1, false, cb.map B8⟩)] ∧ (cb.map B8).length = cb.length * 1 := by
        rcases hG51 with ⟨_, h0, _⟩ | h
        · omega
        · exact h
       refine WX.region rfl ?_
       refine WXL.move Met.none rfl ?_
       refine WXL.fieldAddr (off' := 0) Met.none rfl Try.underlying71 rfl sz27 rfl ?_
       first | refine WXL.ld Met.none rfl agg27 ?_ | refine WXL.ldS Met.none rfl agg27 ?_
       refine WXL.move Met.none rfl ?_
       first | refine WXL.ix Met.none rfl rfl elem27 sz5 ?_ | refine WXL.ixS Met.none rfl rfl elem27 sz5 ?_
       refine WXL.buildSlice (c := [_]) Met.none rfl elem74 sz76 zero76 (by decide) (by decide) rfl rfl rfl rfl (fun b67 => ?_)
       refine WXL.apG [_, _, _, _] Met.none rfl rfl isrow74 elem74 sz76 by76 zero76 (Src.lit (cs := [_])) (fun a68 c68 G68 hG68 => ?_)
       refine WXL.assign Met.none rfl ?_
       refine WXL.nil ?_
       refine Fin.block_normal ?_
       refine Fin.then_normal ?_
       refine WX.region rfl ?_
       refine WXL.move Met.none rfl ?_
       refine WXL.bin Met.none rfl rfl bvA ?_
       refine WXL.assign Met.none rfl ?_
       refine WXL.nil ?_
       refine Fin.loop_next (j + 1, a68, c68, G68) ⟨by simp only; omega, ?_⟩ (by simp only; omega) (fun s hs => hs.tl [] 1)
       simp only
       rw [looseV1_succ, ← List.append_assoc, show ePtr (some ⟨b51, 0, none⟩) (dn + j) = Ptr b51 (dn + j) from by unfold ePtr; simp]
       exact hG68
     · try simp only [cnd] at hc2
       refine WX.exit ?_
       refine Fin.then_exit ?_
       refine Fin.loop_exit ?_
       refine Fin.block_hit rfl ?_
       refine Fin.then_normal ?_
       have hjl : j = cb.length - dn := by omega
       obtain ⟨o, ho⟩ : ∃ o : OwnF, o = ⟨n, cutF keep i f, a51, c51, G51⟩ := ⟨_, rfl⟩
       have hof : o.f.bs = cb ∧ o.f.d = f.d := by rw [ho]; exact ⟨hcb.symm, rfl⟩
       have hoG : Grow 1 o.a o.f.bs.length o.c (o.f.bs.map B8) o.G := by rw [hof.1, ho]; exact hG51
       have hlo : looseN o.f = j := by
        unfold looseN
        rw [hof.1, hof.2, hdn, Int.toNat_natCast, hjl]
       have hlv : looseV (ow ++ [o]) = looseV ow ++ looseV1 a51 dn j := by
        rw [looseV_app]
        show looseV ow ++ (looseV1 o.a o.f.d.toNat (looseN o.f) ++ []) = _
        rw [List.append_nil, hlo, hof.2, hdn, Int.toNat_natCast, ho]
       have hro : rowsO (ow ++ [o]) = rowsO ow ++ G51 := by
        rw [rowsO_app]
        show rowsO ow ++ (o.G ++ []) = _
        rw [List.append_nil, ho]
       have hlvl : (looseV ow).length + j = (looseV (ow ++ [o])).length := by rw [hlv, List.length_append, looseV1_len]
       have hcut : cutAt D0 keep i = (n, o.f) := by
        unfold cutAt
        rw [← hn, ← hfn, ho]
       have hfile : FileOk (rowsO (ow ++ [o]) ++ R0) (fileV a51 cb.length c51 f.d) o.f := ⟨a51, c51, by rw [hof.1, hof.2], by
        rw [hro, List.append_assoc, hof.1]
        exact Rowy.app hG51.rowy, fun q => (hG51.nil0 q).1, by
        rw [hof.1, ← htk]
        exact take_bytes hfB⟩
       have hcbl : o.f.bs.length = cb.length := by rw [hof.1]
       have hnk : (mx.kv.map (·.1)).Nodup := by rw [← keys_es]; exact hDi.keys
       have hDn : DkI (rowsO (ow ++ [o]) ++ R0) { D with fs := setF D.fs n o.f } (setX mx n (fileV a51 cb.length c51 f.d) cb.length) := by
        have h0 : DkI (rowsO (ow ++ [o]) ++ R0) D mx := ⟨⟨by
         rw [hro, List.append_assoc]
         exact hDi.di.rel.mid, hDi.di.nd⟩, hDi.ok, hDi.room, hDi.left, hDi.used⟩
        have h1 := h0.set n hfile hn64 ⟨by rw [hof.2]; omega, by rw [hof.1, hof.2]; omega⟩ (by
         have := hDi.used
         rw [hcbl, ← hf]
         omega)
        rw [hcbl] at h1
        exact h1
       refine WX.region rfl ?_
       refine WXL.move Met.none rfl ?_
       refine WXL.move Met.none rfl ?_
       refine WXL.ldN (vs := [_, _]) Met.none rfl agg71 sz71 ?_
       refine WXL.cl (O1 := dkO d bm D mx ((b9, ⟨0, false, [.slice a51 cb.length c51, I (dn : Int)]⟩) :: (G7 ++ ((rowsO ow ++ G51) ++ B)))) Met.none rfl (fnOk_of Try.func38 (by decide +kernel)) rfl sub_ (set_ok _ d bm D mx n a51 cb.length c51 (dn : Int)) (fun v O' hp => ?_)
       obtain rfl := hp
       refine WXL.nil ?_
       refine Fin.block_normal ?_
       refine Fin.then_normal ?_
       refine WX.region rfl ?_
       refine WXL.bin Met.none rfl rfl bvA ?_
       refine WXL.move Met.none rfl ?_
       refine WXL.nil ?_
       rw [← hdn]
       refine Fin.loop_next (⟨i + 1, ow ++ [o], { D with fs := setF D.fs n o.f }, setX mx n (fileV a51 cb.length c51 f.d) cb.length, a7, c7, G7⟩ : CrS) ⟨by simp only; omega, ?_, ?_, ?_, ?_, ?_, hDn, hsame, ?_⟩ (by simp only; omega) ?_
       · simp only
         rw [List.map_append, how, cuts_succ, hcut, ho]
         rfl
       · intro o' h'
         rcases List.mem_append.1 h' with q | q
         · exact hgr o' q
         · rw [List.mem_singleton] at q; subst q; exact ⟨hoG, by rw [hof.1, ← htk]; exact take_bytes hfB⟩
       · intro o' h' hne
         simp only
         rw [setX_get hnk]
         rcases List.mem_append.1 h' with q | q
         · rw [if_neg (fun e => hnot (by rw [← how, List.map_map]; exact List.mem_map.2 ⟨o', q, e⟩))]
           exact hval o' q hne
         · rw [List.mem_singleton] at q
           subst q
           rw [if_pos (by rw [ho]), if_neg (fun e => hne (by rw [hof.1]; exact List.length_eq_zero_iff.1 e)), hof.1, hof.2]
           rw [ho]
       · intro m
         simp only
         rw [get_set' hDi.di.nd, cuts_succ, mget_app, hcut]
         by_cases hm : m = n
         · subst hm
           rw [if_pos rfl, mget_none hnot]
           simp only [mget, if_pos, Option.or, Option.getD_some]
           split
           · rename_i hb0
             have h5 : o.f.d = 0 := by
              rw [hof.1] at hb0
              rw [hof.2]
              rw [hb0] at hcl
              simp at hcl
              omega
             cases hof' : o.f with
             | mk b' d' => rw [hof'] at hb0 h5; simp only at hb0 h5; rw [hb0, h5]
           · rfl
         · rw [if_neg hm, hget m]
           simp only [mget, if_neg hm]
           cases mget m (cuts D0 keep i) <;> rfl
       · intro e he
         rcases mem_set he with q | q
         · rw [q]; exact hnin
         · exact hkeys e q
       · simp only
         rw [← hlvl, hlv]
         exact hG7
       · simp only
         rw [hro, ← hlvl]
         exact (fun s hs => hs.tl [0, 1] 3)
 · try simp only [cnd] at hc0
   refine WX.exit ?_
   refine Fin.then_exit ?_
   refine Fin.loop_exit ?_
   refine Fin.block_hit rfl ?_
   refine Fin.then_normal ?_
   refine WX.seq ?_
   refine WX.seq ?_
   have hie : i = (fnos D0).length := by omega
   have hC : CrI D0 keep R0 ⟨i, ow, D, mx, a6, c6, G6⟩ := ⟨hin, how, hgr, hval, hget, hkeys, hDi, hsame, hloose⟩
   have hcg := crash_get hC hie
   have hls : (looseV ow).length = looseSum (cuts D0 keep (fnos D0).length) := by rw [looseV_len, how, hie]
   have hlb : (looseV ow).length ≤ 1000000000000 := by omega
   refine WX.region rfl ?_
   refine WXL.move Met.none rfl ?_
   refine WXL.len Met.none rfl Try.underlying74 ?_
   refine WXL.bin Met.none rfl rfl bvM ?_
   refine WXL.assign Met.none rfl ?_
   refine WXL.nil ?_
   refine Fin.then_normal ?_
   refine WX.seq ?_
   refine WX.region rfl ?_
   refine WXL.move Met.none rfl ?_
   refine WXL.bin Met.none rfl rfl rfl ?_
   refine WXL.move Met.none rfl ?_
   refine WXL.split (d := 79) rfl (fun hg79 => ?_) (fun hg79 => ?_)
   · try simp only [cnd] at hg79
     refine WXL.move (Met.some rfl rfl rfl) rfl ?_
     refine WXL.bin (Met.some rfl rfl rfl) rfl rfl rfl ?_
     refine WXL.pick_t Met.none rfl rfl ?_
     refine WXL.nil ?_
     refine Fin.then_normal ?_
     refine WX.cond rfl (fun hc3 => ?_) (fun hc3 => ?_)
     · try simp only [cnd] at hc3
       refine WX.seq ?_
       obtain ⟨fl, hfle⟩ : ∃ fl : Nat, flip = (fl : Int) := ⟨flip.toNat, by omega⟩
       obtain ⟨q, hq⟩ : ∃ q, q = fl % (8 * (looseV ow).length) := ⟨_, rfl⟩
       have hqm : flip.tmod (8 * ((looseV ow).length : Int)) = (q : Int) := by
        rw [hfle, Int.tmod_eq_emod_of_nonneg (by omega), hq, Int.natCast_emod, Int.natCast_mul]
        rfl
       have hqlt : q < 8 * (looseV ow).length := by rw [hq]; exact Nat.mod_lt _ (by omega)
       have hq8 : (q : Int).tdiv 8 = ((q / 8 : Nat) : Int) := by rw [Int.tdiv_eq_ediv_of_nonneg (by omega)]; omega
       have hq8m : (q : Int).tmod 8 = ((q % 8 : Nat) : Int) := by rw [Int.tmod_eq_emod_of_nonneg (by omega)]; omega
       obtain ⟨ow1, o, ow2, r, how2, hr, hpv, hfc⟩ := flip_split (7 - q % 8) ow (q / 8) (by rw [← looseV_len]; omega)
       have hom : o ∈ ow := by rw [how2]; simp
       obtain ⟨hoG, hoB⟩ := hgr o hom
       have hrl : o.f.d.toNat + r < o.f.bs.length := by unfold looseN at hr; omega
       have hone : o.f.bs ≠ [] := fun e => by rw [e] at hrl; simp at hrl
       obtain ⟨b, hoa, hoGe⟩ : ∃ b, o.a = some ⟨b, 0, none⟩ ∧ o.G = [(b, ⟨1, false, o.f.bs.map B8⟩)] := by
        rcases hoG with ⟨_, h0, _⟩ | ⟨b, h1, h2, _⟩
        · omega
        · exact ⟨b, h1, h2⟩
       obtain ⟨z, hz⟩ : ∃ z, z = o.f.d.toNat + r := ⟨_, rfl⟩
       rw [← hz] at hrl hpv hfc
       rw [hoa, show ePtr (some ⟨b, 0, none⟩) z = Ptr b z from by unfold ePtr; simp] at hpv
       have hrs : rowsO ow = rowsO ow1 ++ ([(b, ⟨1, false, o.f.bs.map B8⟩)] ++ rowsO ow2) := by rw [how2, rowsO_app, rowsO_cons, hoGe]
       rw [hrs]
       refine WX.re (O' := (b, ⟨1, false, o.f.bs.map B8⟩) :: dkO d bm D mx (G6 ++ ((rowsO ow1 ++ rowsO ow2) ++ B))) ?_
       refine WX.region rfl ?_
       refine WXL.move Met.none rfl ?_
       refine WXL.move Met.none rfl ?_
       refine WXL.rem Met.none rfl rfl (by omega) ?_
       rw [hqm]
       refine WXL.assign Met.none rfl ?_
       refine WXL.nil ?_
       refine Fin.then_normal ?_
       refine WX.draw rfl ?_
       refine WXL.move Met.none rfl ?_
       refine WXL.move Met.none rfl ?_
       refine WXL.qu Met.none rfl rfl ?_ (hr := (show IntKind.wrap .i64 ((q : Int).tdiv 8) = ((q / 8 : Nat) : Int) from by rw [hq8]; exact wrap_i64 (by omega) (by omega)))
       first | refine WXL.ix Met.none rfl rfl elem74 sz76 ?_ | refine WXL.ixS Met.none rfl rfl elem74 sz76 ?_
       first | refine WXL.ld Met.none rfl agg76 ?_ (hv := hpv) | refine WXL.ldS Met.none rfl agg76 ?_ (hv := hpv)
       refine WXL.nilCheck Met.none rfl ?_
       first | refine WXL.ld Met.none rfl agg5 ?_ | refine WXL.ldS Met.none rfl agg5 ?_
       refine WXL.move Met.none rfl ?_
       refine WXL.rem Met.none rfl rfl (by omega) ?_
       rw [hq8m]
       refine WXL.bin Met.none rfl rfl bvS ?_
       refine WXL.shl Met.none rfl rfl (by omega) ?_
       rw [show ((7 : Int) - ((q % 8 : Nat) : Int)).toNat = 7 - q % 8 from by omega]
       refine WXL.bin Met.none rfl rfl (show _ = some (B8 (flipB (nth o.f.bs z) (7 - q % 8))) from rfl) ?_
       refine WXL.nilCheck Met.none rfl ?_
       refine WXL.st (vs := [_]) (j := 0) Met.none rfl rfl rfl sz5 ?_ (hj := rfl)
       refine WXL.nil ?_
       refine Fin.then_normal ?_
       refine WX.seq ?_
       first
       | obtain ⟨f2, hf2⟩ : ∃ f2 : Fi, f2 = ⟨o.f.bs.set z (flipB (nth o.f.bs z) (7 - q % 8)), o.f.d⟩ := ⟨_, rfl⟩
         have hz8 := flipB_range (nth o.f.bs z) (7 - q % 8)
         obtain ⟨hDf, hgf, hgc⟩ := crash_flip hC hie hnd (f2 := f2) how2 hoa hone (by rw [hf2]; exact List.length_set) (by rw [hf2]) (by
          rw [hf2]
          intro y hy
          rcases List.mem_or_eq_of_mem_set hy with p | p
          · exact hoB y p
          · rw [p]; exact hz8)
         have hcc : crashC D0 keep flip = ow1.map OwnF.nf ++ (o.n, f2) :: ow2.map OwnF.nf := by
          unfold crashC
          simp only
          rw [← hls, if_pos (by omega), show flip.toNat = fl by omega, ← hq, hf2, ← hfc, how, hie]
         obtain ⟨Df, hDfe⟩ : ∃ Df : Dk, Df = { D with fs := mput o.n f2 D.fs } := ⟨_, rfl⟩
         obtain ⟨NN, hNN⟩ : ∃ NN, NN = rowsO ow1 ++ ((b, ⟨1, false, f2.bs.map B8⟩) :: rowsO ow2) := ⟨_, rfl⟩
         have hDk : DkI (NN ++ R0) Df mx := by rw [hNN, hDfe]; exact hDf
         have hgg : ∀ m, getF Df.fs m = (mget m (crashC D0 keep flip)).getD ⟨[], 0⟩ := fun m => by rw [hDfe, hcc]; exact (hgf m).trans (hgc m).symm
         have hrm : Df.room = D0.room := by rw [hDfe]; exact hsame.1
         refine WX.re (O' := dkO d bm Df mx (NN ++ R)) ?_ (by rw [hDfe, hNN, hB, hf2]; exact sub_)
       | obtain ⟨Df, hDfe⟩ : ∃ Df : Dk, Df = D := ⟨_, rfl⟩
         obtain ⟨NN, hNN⟩ : ∃ NN, NN = rowsO ow := ⟨_, rfl⟩
         have hDk : DkI (NN ++ R0) Df mx := by rw [hNN, hDfe]; exact hDi
         have hgg : ∀ m, getF Df.fs m = (mget m (crashC D0 keep flip)).getD ⟨[], 0⟩ := fun m => by
          have hcc : crashC D0 keep flip = cuts D0 keep (fnos D0).length := by
           unfold crashC
           simp only
           rw [← hls, if_neg (by omega)]
          rw [hcc, hDfe]
          exact hcg m
         have hrm : Df.room = D0.room := by rw [hDfe]; exact hsame.1
         refine WX.re (O' := dkO d bm Df mx (NN ++ R)) ?_ (by rw [hDfe, hNN, hB]; exact sub_)
       refine WX.region rfl ?_
       refine WXL.move Met.none rfl ?_
       refine WXL.cl (O1 := _) Met.none rfl (fnOk_of Try.func40 (by decide +kernel)) rfl (fun _ h => h) (harden_ok _ d bm Df mx hDk) (fun v O' hp => ?_)
       obtain ⟨rfl, hO⟩ := hp
       subst O'
       refine WXL.nil ?_
       refine Fin.then_normal ?_
       refine WX.region rfl ?_
       refine WXL.move Met.none rfl ?_
       refine WXL.move Met.none rfl ?_
       refine WXL.nilCheck Met.none rfl ?_
       first | refine WXL.fieldAddr Met.none rfl Try.underlying68 rfl sz4 rfl ?_ | refine WXL.faS Met.none rfl Try.underlying68 rfl sz4 ?_
       refine WXL.st (vs := [_]) (j := 0) Met.none rfl rfl rfl sz4 ?_ (hj := rfl)
       refine WXL.nilCheck Met.none rfl ?_
       first | refine WXL.fieldAddr Met.none rfl Try.underlying68 rfl sz4 rfl ?_ | refine WXL.faS Met.none rfl Try.underlying68 rfl sz4 ?_
       refine WXL.st (vs := [_]) (j := 0) Met.none rfl rfl rfl sz4 ?_ (hj := rfl)
       refine WXL.nil ?_
       exact Fin.result (O' := dkO d bm ⟨Df.room, false, false, Df.left, hardAll Df.fs⟩ mx.hard (NN ++ R)) (.inl rfl) rfl rfl drop_ ⟨mx.hard, NN, ⟨Df.room, false, false, Df.left, hardAll Df.fs⟩, rfl, ⟨hDk.hard.di, hDk.hard.ok, hDk.hard.room, (fun e => by cases e), hDk.hard.used⟩, hrm, rfl, rfl, fun m => by
        rw [get_hardE, hgg]⟩
     · try simp only [cnd] at hc3
       refine WX.skip ?_
       refine Fin.then_normal ?_
       refine WX.seq ?_
       first
       | obtain ⟨f2, hf2⟩ : ∃ f2 : Fi, f2 = ⟨o.f.bs.set z (flipB (nth o.f.bs z) (7 - q % 8)), o.f.d⟩ := ⟨_, rfl⟩
         have hz8 := flipB_range (nth o.f.bs z) (7 - q % 8)
         obtain ⟨hDf, hgf, hgc⟩ := crash_flip hC hie hnd (f2 := f2) how2 hoa hone (by rw [hf2]; exact List.length_set) (by rw [hf2]) (by
          rw [hf2]
          intro y hy
          rcases List.mem_or_eq_of_mem_set hy with p | p
          · exact hoB y p
          · rw [p]; exact hz8)
         have hcc : crashC D0 keep flip = ow1.map OwnF.nf ++ (o.n, f2) :: ow2.map OwnF.nf := by
          unfold crashC
          simp only
          rw [← hls, if_pos (by omega), show flip.toNat = fl by omega, ← hq, hf2, ← hfc, how, hie]
         obtain ⟨Df, hDfe⟩ : ∃ Df : Dk, Df = { D with fs := mput o.n f2 D.fs } := ⟨_, rfl⟩
         obtain ⟨NN, hNN⟩ : ∃ NN, NN = rowsO ow1 ++ ((b, ⟨1, false, f2.bs.map B8⟩) :: rowsO ow2) := ⟨_, rfl⟩
         have hDk : DkI (NN ++ R0) Df mx := by rw [hNN, hDfe]; exact hDf
         have hgg : ∀ m, getF Df.fs m = (mget m (crashC D0 keep flip)).getD ⟨[], 0⟩ := fun m => by rw [hDfe, hcc]; exact (hgf m).trans (hgc m).symm
         have hrm : Df.room = D0.room := by rw [hDfe]; exact hsame.1
         refine WX.re (O' := dkO d bm Df mx (NN ++ R)) ?_ (by rw [hDfe, hNN, hB, hf2]; exact sub_)
       | obtain ⟨Df, hDfe⟩ : ∃ Df : Dk, Df = D := ⟨_, rfl⟩
         obtain ⟨NN, hNN⟩ : ∃ NN, NN = rowsO ow := ⟨_, rfl⟩
         have hDk : DkI (NN ++ R0) Df mx := by rw [hNN, hDfe]; exact hDi
         have hgg : ∀ m, getF Df.fs m = (mget m (crashC D0 keep flip)).getD ⟨[], 0⟩ := fun m => by
          have hcc : crashC D0 keep flip = cuts D0 keep (fnos D0).length := by
           unfold crashC
           simp only
           rw [← hls, if_neg (by omega)]
          rw [hcc, hDfe]
          exact hcg m
         have hrm : Df.room = D0.room := by rw [hDfe]; exact hsame.1
         refine WX.re (O' := dkO d bm Df mx (NN ++ R)) ?_ (by rw [hDfe, hNN, hB]; exact sub_)
       refine WX.region rfl ?_
       refine WXL.move Met.none rfl ?_
       refine WXL.cl (O1 := _) Met.none rfl (fnOk_of Try.func40 (by decide +kernel)) rfl (fun _ h => h) (harden_ok _ d bm Df mx hDk) (fun v O' hp => ?_)
       obtain ⟨rfl, hO⟩ := hp
       subst O'
       refine WXL.nil ?_
       refine Fin.then_normal ?_
       refine WX.region rfl ?_
       refine WXL.move Met.none rfl ?_
       refine WXL.move Met.none rfl ?_
       refine WXL.nilCheck Met.none rfl ?_
       first | refine WXL.fieldAddr Met.none rfl Try.underlying68 rfl sz4 rfl ?_ | refine WXL.faS Met.none rfl Try.underlying68 rfl sz4 ?_
       refine WXL.st (vs := [_]) (j := 0) Met.none rfl rfl rfl sz4 ?_ (hj := rfl)
       refine WXL.nilCheck Met.none rfl ?_
       first | refine WXL.fieldAddr Met.none rfl Try.underlying68 rfl sz4 rfl ?_ | refine WXL.faS Met.none rfl Try.underlying68 rfl sz4 ?_
       refine WXL.st (vs := [_]) (j := 0) Met.none rfl rfl rfl sz4 ?_ (hj := rfl)
       refine WXL.nil ?_
       exact Fin.result (O' := dkO d bm ⟨Df.room, false, false, Df.left, hardAll Df.fs⟩ mx.hard (NN ++ R)) (.inl rfl) rfl rfl drop_ ⟨mx.hard, NN, ⟨Df.room, false, false, Df.left, hardAll Df.fs⟩, rfl, ⟨hDk.hard.di, hDk.hard.ok, hDk.hard.room, (fun e => by cases e), hDk.hard.used⟩, hrm, rfl, rfl, fun m => by
        rw [get_hardE, hgg]⟩
   · try simp only [cnd] at hg79
     refine WXL.miss (j := 2) (d := 79) rfl rfl rfl ?_
     refine WXL.miss (j := 2) (d := 79) rfl rfl rfl ?_
     refine WXL.pick_f Met.none rfl rfl ?_
     refine WXL.nil ?_
     refine Fin.then_normal ?_
     refine WX.cond rfl (fun hc3 => nomatch hc3) (fun hc3 => ?_)
     refine WX.skip ?_
     refine Fin.then_normal ?_
     refine WX.seq ?_
     first
     | obtain ⟨f2, hf2⟩ : ∃ f2 : Fi, f2 = ⟨o.f.bs.set z (flipB (nth o.f.bs z) (7 - q % 8)), o.f.d⟩ := ⟨_, rfl⟩
       have hz8 := flipB_range (nth o.f.bs z) (7 - q % 8)
       obtain ⟨hDf, hgf, hgc⟩ := crash_flip hC hie hnd (f2 := f2) how2 hoa hone (by rw [hf2]; exact List.length_set) (by rw [hf2]) (by
        rw [hf2]
        intro y hy
        rcases List.mem_or_eq_of_mem_set hy with p | p
        · exact hoB y p
        · rw [p]; exact hz8)
       have hcc : crashC D0 keep flip = ow1.map OwnF.nf ++ (o.n, f2) :: ow2.map OwnF.nf := by
        unfold crashC
        simp only
        rw [← hls, if_pos (by omega), show flip.toNat = fl by omega, ← hq, hf2, ← hfc, how, hie]
       obtain ⟨Df, hDfe⟩ : ∃ Df : Dk, Df = { D with fs := mput o.n f2 D.fs } := ⟨_, rfl⟩
       obtain ⟨NN, hNN⟩ : ∃ NN, NN = rowsO ow1 ++ ((b, ⟨1, false, f2.bs.map B8⟩) :: rowsO ow2) := ⟨_, rfl⟩
       have hDk : DkI (NN ++ R0) Df mx := by rw [hNN, hDfe]; exact hDf
       have hgg : ∀ m, getF Df.fs m = (mget m (crashC D0 keep flip)).getD ⟨[], 0⟩ := fun m => by rw [hDfe, hcc]; exact (hgf m).trans (hgc m).symm
       have hrm : Df.room = D0.room := by rw [hDfe]; exact hsame.1
       refine WX.re (O' := dkO d bm Df mx (NN ++ R)) ?_ (by rw [hDfe, hNN, hB, hf2]; exact sub_)
     | obtain ⟨Df, hDfe⟩ : ∃ Df : Dk, Df = D := ⟨_, rfl⟩
       obtain ⟨NN, hNN⟩ : ∃ NN, NN = rowsO ow := ⟨_, rfl⟩
       have hDk : DkI (NN ++ R0) Df mx := by rw [hNN, hDfe]; exact hDi
       have hgg : ∀ m, getF Df.fs m = (mget m (crashC D0 keep flip)).getD ⟨[], 0⟩ := fun m => by
        have hcc : crashC D0 keep flip = cuts D0 keep (fnos D0).length := by
         unfold crashC
         simp only
         rw [← hls, if_neg (by omega)]
        rw [hcc, hDfe]
        exact hcg m
       have hrm : Df.room = D0.room := by rw [hDfe]; exact hsame.1
       refine WX.re (O' := dkO d bm Df mx (NN ++ R)) ?_ (by rw [hDfe, hNN, hB]; exact sub_)
     refine WX.region rfl ?_
     refine WXL.move Met.none rfl ?_
     refine WXL.cl (O1 := _) Met.none rfl (fnOk_of Try.func40 (by decide +kernel)) rfl (fun _ h => h) (harden_ok _ d bm Df mx hDk) (fun v O' hp => ?_)
     obtain ⟨rfl, hO⟩ := hp
     subst O'
     refine WXL.nil ?_
     refine Fin.then_normal ?_
     refine WX.region rfl ?_
     refine WXL.move Met.none rfl ?_
     refine WXL.move Met.none rfl ?_
     refine WXL.nilCheck Met.none rfl ?_
     first | refine WXL.fieldAddr Met.none rfl Try.underlying68 rfl sz4 rfl ?_ | refine WXL.faS Met.none rfl Try.underlying68 rfl sz4 ?_
     refine WXL.st (vs := [_]) (j := 0) Met.none rfl rfl rfl sz4 ?_ (hj := rfl)
     refine WXL.nilCheck Met.none rfl ?_
     first | refine WXL.fieldAddr Met.none rfl Try.underlying68 rfl sz4 rfl ?_ | refine WXL.faS Met.none rfl Try.underlying68 rfl sz4 ?_
     refine WXL.st (vs := [_]) (j := 0) Met.none rfl rfl rfl sz4 ?_ (hj := rfl)
     refine WXL.nil ?_
     exact Fin.result (O' := dkO d bm ⟨Df.room, false, false, Df.left, hardAll Df.fs⟩ mx.hard (NN ++ R)) (.inl rfl) rfl rfl drop_ ⟨mx.hard, NN, ⟨Df.room, false, false, Df.left, hardAll Df.fs⟩, rfl, ⟨hDk.hard.di, hDk.hard.ok, hDk.hard.room, (fun e => by cases e), hDk.hard.used⟩, hrm, rfl, rfl, fun m => by
      rw [get_hardE, hgg]⟩
end Go.Proofs.Ytahaplbdhgfobaa.Eng
set_option linter.unusedVariables false
set_option linter.unusedSimpArgs false
set_option maxRecDepth 100000
namespace Go.Proofs.Ytahaplbdhgfobaa.Eng
open Go Go.Proofs Go.Shelf Go.RowKit
def cloneM_ren : Go.Shelf.Ren := ⟨fun | 5 => 50 | 7 => 56 | n => n, fun | 3 => 71 | 4 => 4 | 20 => 20 | 23 => 66 | 25 => 3 | n => n, fun n => n⟩
theorem cloneM : SlLaysW.n5 Try.prog cloneM_ren where
 mixed := Checked.mixed Try.checked
 f5 := ⟨"maps.Clone[map[int]skymosaic/disk.file,int,skymosaic/disk.file]", by decide, Try.func50.trans (congrArg some (by kernel_rfl))⟩
 f7 := Try.func56.trans (congrArg some (by kernel_rfl))
 t4 := Try.underlying4
 a4 := Try.isAgg4
 z4 := Try.sizeOf4
 v4 := Try.zeroValue4
 t20 := Try.underlying20
 a20 := Try.isAgg20
 z20 := Try.sizeOf20
 v20 := Try.zeroValue20
 t23 := Try.underlying66
 a23 := Try.isAgg66
 z23 := Try.sizeOf66
 v23 := Try.zeroValue66
theorem cloneM_sem {h : AHeap} {bm : Nat} {ro : Bool} {mx : MapX} (h2 : Is h bm ⟨2, ro, mcells mx⟩) :
  ∀ ρ, CallSem Try.prog ρ 50 #[Mp bm] h (Mp h.n) (h.new (.cells 2 false h.n none 0 (mcells mx))) := by
 intro ρ base ι w args' hr hbs hctx ha
 obtain ⟨f, k, o2⟩ := h2
 have ha1 : args'.size = 1 := ha.1
 obtain ⟨x, hx⟩ : ∃ x, args' = #[x] := by
  obtain ⟨l⟩ := args'
  match l, ha1 with
  | [x], _ => exact ⟨x, rfl⟩
 subst hx
 have hv := ha.2 0 (Mp bm) x rfl rfl
 obtain ⟨em, q1, q2, rfl⟩ := map_inv hv
 obtain ⟨hone, es, clock, hes, hmr⟩ := hr.maps bm em _ _ _ _ _ _ q1 q2 o2
 refine (AnyW.maps_Clone cloneM em.block es clock w hes).mono ?_
 rintro e w' ⟨rfl, rfl⟩
 have hsz : (w.alloc (.map es clock)).heap.size = w.heap.size + 1 := by simp
 have hb4 : ∀ B, B < w.heap.size → (w.alloc (.map es clock)).heap[B]? = w.heap[B]? := fun B hB => Below.heap_alloc _ _ B hB
 have hT : Turned w (w.alloc (.map es clock)) fun _ _ => False := ⟨rfl, rfl, rfl, by omega, fun B hB _ => hb4 B hB, fun B o u hc _ => by rw [(cell_eq (hb4 B (cell_lt hc))).1]; exact hc, fun B o u hc => ⟨⟨u, by rw [(cell_eq (hb4 B (cell_lt hc))).1]; exact hc⟩, (cell_eq (hb4 B (cell_lt hc))).2⟩⟩
 obtain ⟨n1, n2, n3⟩ := new_ok' hr hbs hT (en := ⟨w.heap.size, 0, 0, 2, true⟩) (sz := 2) (cn := mcells mx) ⟨Nat.le_refl _, by show w.heap.size < _; omega⟩ rfl (fun q => by cases q) (fun q => by cases q) (fun q => by cases q) (fun i hi => absurd hi (Nat.not_lt_zero _)) (fun _ => ⟨es, clock, World.alloc_heap_new _ _, hmr⟩)
 refine ⟨_, _, rfl, n3, ?_, n1, Keep0.grow rfl rfl rfl (by omega) hb4⟩
 exact .map (e := ⟨w.heap.size, 0, 0, 2, true⟩) (by unfold Lay.add; rw [if_pos rfl]) rfl
theorem cloneM_direct {h : AHeap} {bm : Nat} {ro : Bool} {mx : MapX} (h2 : Is h bm ⟨2, ro, mcells mx⟩) : Direct Try.prog 50 #[Mp bm] h (Mp h.n) (h.new (.cells 2 false h.n none 0 (mcells mx))) :=
 ⟨.inr (.inl ⟨_, _, rfl⟩), fun F ρ => by
  obtain ⟨f2, k2, e2⟩ := h2
  obtain ⟨r2, q2⟩ := un_cells (F := F) e2
  rw [un_new]
  exact cloneM_sem (ro := r2) ⟨f2, k2, q2⟩ ρ⟩
theorem cloneM_ok (q : Bool) (O : Objs) (bm sz : Nat) (ro : Bool) (mx : MapX) (hk : Knows O bm ⟨2, ro, mcells mx⟩) :
  Spec Try.prog q 50 #[Mp bm] O fun v O' => ∃ b, v = Mp b ∧ O' = (b, ⟨2, false, mcells mx⟩) :: O :=
 Spec.direct fun g hs => ⟨_, _, _, cloneM_direct (hk g hs), ⟨g.n, rfl, rfl⟩, hs.new 2 _, fun _ => ⟨Nat.le_succ _, fun b hb => by
  show (if b = g.n then _ else g.o b) = _
  rw [if_neg (by omega)]⟩⟩
end Go.Proofs.Ytahaplbdhgfobaa.Eng
