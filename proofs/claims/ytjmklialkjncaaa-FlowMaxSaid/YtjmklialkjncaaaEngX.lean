/- Symbolic runs: the rules of operations on the memory. Own work; no condition. -/
import Derived.Test.YtjmklialkjncaaaEngV
set_option linter.unusedVariables false
set_option linter.unusedSimpArgs false
namespace Go.Proofs.Ytjmklialkjncaaa.Eng

variable {P : Program} {x : Cx} {L L' : Tmps} {O O' : Objs} {ops : Array Oper} {mq : Mk} {i : Nat} {l : List Oper} {K : ASt → Prop}
  {t u : TypeId} {p : String} {af : Array Edge} {gd : Option (Nat × Bool)} {d : Tmp}

abbrev Ptr (b off : Nat) : Value := .pointer (some ⟨b, off, none⟩)
abbrev Row (b off n c : Nat) : Value := .slice (some ⟨b, off, none⟩) n c
abbrev I (n : Int) : Value := .int .i64 n

/-- This object is known. -/
def Knows (O : Objs) (b : Nat) (y : Ent) : Prop := ∀ h, Sat h O → Is h b y
theorem Knows.at (j : Nat) {b : Nat} {y : Ent} (h : O[j]? = some (b, y)) : Knows O b y := fun _ hs => hs.at h
theorem Knows.mem {b : Nat} {y : Ent} (h : (b, y) ∈ O) : Knows O b y := fun _ hs => hs.mem h

/-- The cells of a row's elements. -/
def Src (O : Objs) (sz : Nat) (v : Value) (n : Nat) (cs : List Value) : Prop := ∀ h, Sat h O → srcA h sz v = some (n, cs)
theorem Src.nil {sz : Nat} : Src O sz (.slice none 0 0) 0 [] := fun _ _ => rfl
theorem Src.of {b off n c sz : Nat} {y : Ent} {cs : List Value} (hk : Knows O b y) (hl : off + n * sz ≤ y.c.length) (he : (y.c.drop off).take (n * sz) = cs) : Src O sz (Row b off n c) n cs := by
  intro h hs
  have := (hk h hs).rd
  unfold srcA
  simp only [this]
  rw [if_pos hl, he]

theorem Src.str {s : ByteArray} : Src O 1 (.string s) s.size (s.data.toList.map fun b => .int .u8 b.toNat) := fun _ _ => rfl

/-! ### Addresses -/
theorem WXL.indexAddr {y z : Operand} {ty e : TypeId} {b off n c sz : Nat} {k : IntKind} {j : Int} {off' : Nat} (hw : Met x L ops gd) (hy : evL L y = some (Row b off n c)) (hz : evL L z = some (.int k j))
    (he : elemOf P ty = some e) (hs : szOf P e = some sz) (h0 : 0 ≤ j) (h1 : j < n) (ho : off + j.toNat * sz = off') (h : WXL P x ops mq (i + 1) l ((d, Ptr b off') :: L) O K) :
    WXL P x ops mq i ({ dst := some d, op := .indexAddr ty y z, type := t, pos := p, after := af, guard := gd } :: l) L O K :=
  WXL.val (.inl rfl) hw (fun s hst => by
    subst ho
    simp only [aop, hst.t.ev hy, hst.t.ev hz, indexA, he, hs, Option.bind_some]
    rw [if_pos ⟨h0, h1⟩]
    rfl) h

theorem WXL.fieldAddr {y : Operand} {ty : TypeId} {b off f sz : Nat} {fs : Array Field} {g : Field} {off' : Nat} (hw : Met x L ops gd) (hy : evL L y = some (Ptr b off)) (hu : P.underlying ty = some (.struct fs)) (hg : fs[f]? = some g)
    (hs : szOf P g.type = some (sz + 1)) (ho : off + g.offset = off') (h : WXL P x ops mq (i + 1) l ((d, Ptr b off') :: L) O K) :
    WXL P x ops mq i ({ dst := some d, op := .fieldAddr ty y f, type := t, pos := p, after := af, guard := gd } :: l) L O K :=
  WXL.val (.inl rfl) hw (fun s hst => by
    subst ho
    simp only [aop, hst.t.ev hy, fieldA, hu, hg, hs]
    rfl) h

/-! ### Loads -/
theorem WXL.load1 {y : Operand} {ty : TypeId} {b off : Nat} {e : Ent} {v : Value} (hlz : mq.lz i = false) (hw : Met x L ops gd) (hy : evL L y = some (Ptr b off)) (hk : Knows O b e) (ht : isAggT P ty = some false) (hv : e.c[off]? = some v)
    (h : WXL P x ops mq (i + 1) l ((d, v) :: L) O K) : WXL P x ops mq i ({ dst := some d, op := .load ty y, type := t, pos := p, after := af, guard := gd } :: l) L O K :=
  WXL.val (.inr hlz) hw (fun s hst => by
    simp only [aop, hst.t.ev hy, loadA, (hk _ hst.sat).rd, ht, hv]
    rfl) h

def cellsAt (c : List Value) (off n : Nat) : Option (List Value) := if off + n ≤ c.length then some ((c.drop off).take n) else none

theorem WXL.loadN {y : Operand} {ty : TypeId} {b off n : Nat} {e : Ent} {vs : List Value} (hlz : mq.lz i = false) (hw : Met x L ops gd) (hy : evL L y = some (Ptr b off)) (hk : Knows O b e) (ht : isAggT P ty = some true) (hn : szOf P ty = some n) (hv : cellsAt e.c off n = some vs)
    (h : WXL P x ops mq (i + 1) l ((d, .agg vs.toArray) :: L) O K) : WXL P x ops mq i ({ dst := some d, op := .load ty y, type := t, pos := p, after := af, guard := gd } :: l) L O K :=
  WXL.val (.inr hlz) hw (fun s hst => by
    unfold cellsAt at hv
    split at hv
    · rename_i hlen
      obtain rfl := Option.some.inj hv
      simp only [aop, hst.t.ev hy, loadA, (hk _ hst.sat).rd, ht, hn]
      rw [if_pos hlen]
      rfl
    · cases hv) h

/-- Loads that a later store may come ahead of. -/
theorem WXL.lazy1 {y : Operand} {ty : TypeId} {b off : Nat} {e : Ent} {v : Value} (hw : Met x L ops gd) (hy : evL L y = some (Ptr b off)) (hk : Knows O b e) (ht : isAggT P ty = some false) (hv : e.c[off]? = some v) (hp : plainC v = true)
    (h : WXL P x ops ⟨mq.q, mq.lz, b :: mq.Z⟩ (i + 1) l ((d, v) :: L) O K) : WXL P x ops mq i ({ dst := some d, op := .load ty y, type := t, pos := p, after := af, guard := gd } :: l) L O K :=
  WXL.lazy hw hy hk (fun s hst => by
    simp only [aop, hst.t.ev hy, loadA, (hk _ hst.sat).rd, ht, hv]
    rfl) hp h

theorem WXL.lazyN {y : Operand} {ty : TypeId} {b off n : Nat} {e : Ent} {vs : List Value} (hw : Met x L ops gd) (hy : evL L y = some (Ptr b off)) (hk : Knows O b e) (ht : isAggT P ty = some true) (hn : szOf P ty = some n) (hv : cellsAt e.c off n = some vs) (hp : vs.all plain1 = true)
    (h : WXL P x ops ⟨mq.q, mq.lz, b :: mq.Z⟩ (i + 1) l ((d, .agg vs.toArray) :: L) O K) : WXL P x ops mq i ({ dst := some d, op := .load ty y, type := t, pos := p, after := af, guard := gd } :: l) L O K :=
  WXL.lazy hw hy hk (fun s hst => by
    unfold cellsAt at hv
    split at hv
    · rename_i hlen
      obtain rfl := Option.some.inj hv
      simp only [aop, hst.t.ev hy, loadA, (hk _ hst.sat).rd, ht, hn]
      rw [if_pos hlen]
      rfl
    · cases hv) (by rw [← hp]; exact (Array.all_toList (as := vs.toArray)).symm) h

/-- The objects that are read late lie in other places. -/
def Clear (O : Objs) (j : Nat) (Z : List Nat) : Prop := ∀ z ∈ Z, ∃ j' y, j' ≠ j ∧ O[j']? = some (z, y)
theorem Clear.nil {j : Nat} : Clear O j [] := fun _ h => by simp at h
theorem Clear.cons {j z : Nat} {Z : List Nat} (j' : Nat) {y : Ent} (hn : Nat.beq j' j = false) (h : O[j']? = some (z, y)) (hr : Clear O j Z) : Clear O j (z :: Z) := by
  intro z' hz
  rcases List.mem_cons.1 hz with rfl | hz
  · exact ⟨j', y, fun e => by subst e; simp at hn, h⟩
  · exact hr z' hz
theorem Clear.ne {j b : Nat} {y : Ent} {Z : List Nat} {h : AHeap} (hc : Clear O j Z) (hs : Sat h O) (hj : O[j]? = some (b, y)) : ∀ z ∈ Z, z ≠ b := by
  intro z hz e
  subst e
  obtain ⟨j', y', h1, h2⟩ := hc z hz
  exact h1 (inj_of_nodup hs.nd h2 hj rfl)

/-! ### New objects -/
theorem WXL.fresh {op : Op} {c : List Value} {sz : Nat} {V : Nat → Value} (hno : isLoadOp op = false) (hw : Met x L ops gd) (ha : ∀ s, St x L O s → aop P { dst := some d, op := op, type := t, pos := p, after := af, guard := gd } s = some (V s.h.n, s.h.new (.cells sz false s.h.n none 0 c)))
    (h : ∀ b, WXL P x ops mq (i + 1) l ((d, V b) :: L) ((b, ⟨sz, false, c⟩) :: O) K) : WXL P x ops mq i ({ dst := some d, op := op, type := t, pos := p, after := af, guard := gd } :: l) L O K :=
  WXL.stepG (.inl hno) hw fun s hs hz => ⟨_, _, ha s hs, fun _ => (AHeap.old_new _ _).quiet, fun z hm => (AHeap.old_new _ _).2 z (hz z hm), _, _, ⟨hs.m, hs.t.put _ _ _, hs.sat.new sz c, fun hq => (hs.old hq).trans (AHeap.old_new _ _)⟩, h s.h.n⟩

theorem WXL.alloc {ty : TypeId} {z : Value} {c : List Value} (hw : Met x L ops gd) (hz : zeroOf P ty = some z) (hc : z.cells.toList = c) (h : ∀ b, WXL P x ops mq (i + 1) l ((d, Ptr b 0) :: L) ((b, ⟨0, false, c⟩) :: O) K) :
    WXL P x ops mq i ({ dst := some d, op := .alloc ty, type := t, pos := p, after := af, guard := gd } :: l) L O K :=
  WXL.fresh (V := fun b => Ptr b 0) rfl hw (fun s hs => by subst hc; simp only [aop, hz, Option.map_some, newA]) h

theorem WXL.box {y : Operand} {ty : TypeId} {v : Value} {c : List Value} (hw : Met x L ops gd) (hy : evL L y = some v) (hc : v.cells.toList = c) (hk : c.all isCell = true) (h : ∀ b, WXL P x ops mq (i + 1) l ((d, Ptr b 0) :: L) ((b, ⟨0, false, c⟩) :: O) K) :
    WXL P x ops mq i ({ dst := some d, op := .box ty y, type := t, pos := p, after := af, guard := gd } :: l) L O K :=
  WXL.fresh (V := fun b => Ptr b 0) rfl hw (fun s hs => by
    subst hc
    rw [Array.all_toList] at hk
    simp only [aop, hs.t.ev hy, hk, if_true, newA]) h

theorem WXL.makeSlice {y z : Operand} {ty e : TypeId} {j : Int} {sz by_ : Nat} {zv : Value} {c : List Value} {n : Nat} (hw : Met x L ops gd) (hy : evL L y = some (I j)) (hz : evL L z = some (I j)) (he : elemOf P ty = some e) (hs : szOf P e = some sz) (hb : byOf P e = some by_)
    (hv : zeroOf P e = some zv) (h0 : 0 ≤ j) (h1 : j < 4611686018427387904) (h2 : j * by_ ≤ 140737488355328) (h3 : zv.cells.size = sz) (h4 : 0 < sz) (hn : j.toNat = n) (hc : zerosL zv.cells.toList n = c)
    (h : ∀ b, WXL P x ops mq (i + 1) l ((d, Row b 0 n n) :: L) ((b, ⟨sz, false, c⟩) :: O) K) : WXL P x ops mq i ({ dst := some d, op := .makeSlice ty y z, type := t, pos := p, after := af, guard := gd } :: l) L O K :=
  WXL.fresh (V := fun b => Row b 0 n n) rfl hw (fun s hst => by
    subst hn hc
    simp only [aop, hst.t.ev hy, hst.t.ev hz, if_true, makeA, he, hs, hb, hv]
    rw [if_pos ⟨h0, h1, h2, h3, h4⟩]) h

/-- The parts of a literal. -/
def evParts (L : Tmps) : List (Nat × Operand) → Option (List (Nat × Value))
  | [] => some []
  | (n, y) :: r => match evL L y, evParts L r with
    | some v, some vs => some ((n, v) :: vs)
    | _, _ => none

theorem Has.parts {s : ASt} (h : Has s.t L) : ∀ {ps : List (Nat × Operand)} {vs : List (Nat × Value)}, evParts L ps = some vs → ps.map (fun q => (q.1, s.ev q.2)) = vs
  | [], vs, hp => by simp [evParts] at hp; subst hp; rfl
  | (n, y) :: r, vs, hp => by
    unfold evParts at hp
    split at hp
    · rename_i v us h1 h2
      obtain rfl := Option.some.inj hp
      rw [List.map_cons, Has.parts h h2, h.ev h1]
    · cases hp

theorem parts_arr {s : ASt} {ps : Array (Nat × Operand)} {vs : List (Nat × Value)} (h : Has s.t L) (hp : evParts L ps.toList = some vs) : (ps.map fun (q : Nat × Operand) => (q.1, s.ev q.2)) = vs.toArray := by
  apply Array.toList_inj.1
  rw [Array.toList_map, h.parts hp]

theorem WXL.buildSlice {ty e : TypeId} {len : Nat} {ps : Array (Nat × Operand)} {vs : List (Nat × Value)} {sz : Nat} {z : Value} {c : List Value} (hw : Met x L ops gd) (hp : evParts L ps.toList = some vs) (he : elemOf P ty = some e) (hs : szOf P e = some sz) (hz : zeroOf P e = some z)
    (h1 : len * sz ≤ 16777216) (h2 : 0 < sz) (h3 : z.cells.size = sz) (h4 : vs.map (·.1) = List.range len) (h5' : (vs.all fun q => Nat.beq q.2.cells.toList.length sz && q.2.cells.toList.all isCell) = true) (hc : (vs.map fun q => q.2.cells.toList).flatten = c)
    (h : ∀ b, WXL P x ops mq (i + 1) l ((d, Row b 0 len len) :: L) ((b, ⟨sz, false, c⟩) :: O) K) : WXL P x ops mq i ({ dst := some d, op := .buildSlice ty len ps, type := t, pos := p, after := af, guard := gd } :: l) L O K :=
  WXL.fresh (V := fun b => Row b 0 len len) rfl hw (fun s hst => by
    subst hc
    have h5 : (vs.all fun q => q.2.cells.size == sz && q.2.cells.all isCell) = true := by
      rw [List.all_eq_true] at h5' ⊢
      intro q hq
      have := h5' q hq
      rw [← Array.all_toList]
      simp only [Bool.and_eq_true] at this ⊢
      exact ⟨beq_iff_eq.2 (Nat.eq_of_beq_eq_true this.1), this.2⟩
    have e1 : (ps.map fun (q : Nat × Operand) => (q.1, s.ev q.2)) = vs.toArray := parts_arr hst.t hp
    simp only [aop]
    rw [show (ps.map fun (q : Nat × Operand) => match q with | (i, x) => (i, s.ev x)) = vs.toArray from e1]
    unfold litA
    simp only [he, hs, hz]
    rw [if_pos ⟨h1, h2, h3, h4, h5⟩]) h

theorem WXL.build {ty : TypeId} {ps : Array (Nat × Operand)} {vs : List (Nat × Value)} {z : Value} {pl : List (Nat × Nat)} {c : List Value} (hw : Met x L ops gd) (hp : evParts L ps.toList = some vs) (hz : zeroOf P ty = some z) (hpl : placesOf P ty = some pl)
    (hc : fillL (pl[·]?) z.cells.toList vs = some c) (h : WXL P x ops mq (i + 1) l ((d, .agg c.toArray) :: L) O K) : WXL P x ops mq i ({ dst := some d, op := .build ty ps, type := t, pos := p, after := af, guard := gd } :: l) L O K :=
  WXL.val (.inl rfl) hw (fun s hst => by
    have e1 : (ps.map fun (q : Nat × Operand) => (q.1, s.ev q.2)) = vs.toArray := parts_arr hst.t hp
    simp only [aop]
    rw [show (ps.map fun (q : Nat × Operand) => match q with | (i, x) => (i, s.ev x)) = vs.toArray from e1]
    unfold buildA
    simp only [hz, hpl, hc, Option.map_some]) h

/-! ### Stores and appends -/
theorem WXL.store {y z : Operand} {ty : TypeId} (j : Nat) {b off sz : Nat} {c vs c' : List Value} {v : Value} (hw : Met x L ops gd) (hq : x.q = false) (hy : evL L y = some (Ptr b off)) (hz : evL L z = some v) (hj : O[j]? = some (b, ⟨sz, false, c⟩)) (hv : v.cells.toList = vs)
    (hs : szOf P ty = some vs.length) (hl : off + vs.length ≤ c.length) (ha : vs.all isCell = true) (hc : splice c off vs = c') (hcl : Clear O j mq.Z) (hO : O.set j (b, ⟨sz, false, c'⟩) = O') (h : WXL P x ops mq (i + 1) l L O' K) :
    WXL P x ops mq i ({ dst := none, op := .store ty y z, type := t, pos := p, after := af, guard := gd } :: l) L O K :=
  WXL.stepG (.inl rfl) hw fun s hst hzz => by
    have hne := hcl.ne hst.sat hj
    obtain ⟨f, k, hb⟩ := hst.sat.at hj
    subst hv hc hO
    have hlen : v.cells.toList.length = v.cells.size := rfl
    rw [hlen] at hs hl
    rw [Array.all_toList] at ha
    refine ⟨undef, s.h.set b (.cells sz false f none (k + 1) (splice c off v.cells.toList)), ?_, fun hn => (by simp [isStoreOp] at hn), fun z hm => (by simp only [AHeap.set]; rw [if_neg (hne z hm)]), L, O.set j (b, ⟨sz, false, splice c off v.cells.toList⟩), ⟨hst.m, hst.t, hst.sat.set hj hb, fun hx => (by rw [hq] at hx; cases hx)⟩, h⟩
    simp only [aop, hst.t.ev hy, hst.t.ev hz]
    unfold storeA
    have hb' : s.h.o b = .cells sz false f none k c := hb
    rw [hb']
    simp only
    rw [if_pos ⟨hs, hl, ha⟩]
    rfl

theorem Quiet.app {h : AHeap} {b sz f k : Nat} {c cn : List Value} (hb : h.o b = .cells sz false f none k c) : Quiet h ((h.set b (.cells sz false f (some h.n) k c)).new (.cells sz false f none 0 cn)) := by
  refine ⟨Nat.le_succ _, fun b' hb' => ?_⟩
  show (if b' = h.n then _ else if b' = b then _ else h.o b') = h.o b' ∨ ∃ sz0 f0 k0 c0 m, h.o b' = .cells sz0 false f0 none k0 c0 ∧ (if b' = h.n then _ else if b' = b then _ else h.o b') = .cells sz0 false f0 (some m) k0 c0 ∧ h.n ≤ m
  rw [if_neg (by omega)]
  by_cases e : b' = b
  · subst e
    right
    exact ⟨sz, f, k, c, h.n, hb, by rw [if_pos rfl], Nat.le_refl _⟩
  · left
    rw [if_neg e]

/-- `append` to a row that ends where its object does. -/
theorem WXL.append {y z : Operand} {ty tz e : TypeId} (j : Nat) {b off n cp sz by_ m : Nat} {c cs c' : List Value} {v zv : Value} (hw : Met x L ops gd) (hq : x.q = false) (hy : evL L y = some (Row b off n cp)) (hz : evL L z = some v) (hr : isRowT P tz = true)
    (hj : O[j]? = some (b, ⟨sz, false, c⟩)) (hsrc : Src O sz v m cs) (he : elemOf P ty = some e) (hs : szOf P e = some sz) (hby : byOf P e = some by_) (hzv : zeroOf P e = some zv) (h3 : zv.cells.size = sz)
    (hl : off + n * sz = c.length) (hf : (n + m) * by_ ≤ 140737488355328) (h1 : 0 < sz) (h2 : 0 < by_) (hc : c.drop off ++ cs = c') (hcl : Clear O j mq.Z) {OO : Nat → Objs} (hO : ∀ b, O.set j (b, ⟨sz, false, c'⟩) = OO b)
    (h : ∀ b, WXL P x ops mq (i + 1) l ((d, Row b 0 (n + m) (n + m)) :: L) (OO b) K) :
    WXL P x ops mq i ({ dst := some d, op := .call { callee := .builtin .append, args := #[y, z], argTypes := #[ty, tz] }, type := t, pos := p, after := af, guard := gd } :: l) L O K :=
  WXL.stepG (.inl rfl) hw fun s hst hzz => by
    have hne := hcl.ne hst.sat hj
    obtain ⟨f, k, hb⟩ := hst.sat.at hj
    subst hc
    refine ⟨Row s.h.n 0 (n + m) (n + m), (s.h.set b (.cells sz false f (some s.h.n) k c)).new (.cells sz false f none 0 (c.drop off ++ cs)), ?_, fun _ => Quiet.app hb, fun z hm => (by
      have := hzz z hm
      show (if z = s.h.n then _ else if z = b then _ else s.h.o z) = s.h.o z
      rw [if_neg (by omega), if_neg (hne z hm)]), (d, Row s.h.n 0 (n + m) (n + m)) :: L, _,
      ⟨hst.m, hst.t.put _ _ _, hst.sat.app hj hb _, fun hx => (by rw [hq] at hx; cases hx)⟩, by rw [hO]; exact h s.h.n⟩
    have hb' : s.h.o b = .cells sz false f none k c := hb
    have hfit : fitsA by_ (n + m) = true := by unfold fitsA; exact decide_eq_true hf
    simp only [aop, hst.t.ev hy, hst.t.ev hz, hr, if_true]
    unfold appendA
    simp only [he, hs, hby, hzv, Option.map_some, hsrc _ hst.sat, h3, hb', ne_eq, not_true_eq_false, if_false]
    rw [if_pos ⟨trivial, hl, hfit, h1, h2⟩]

/-- `append` to nil: a new row. -/
theorem WXL.append0 {y z : Operand} {ty tz e : TypeId} {sz by_ m : Nat} {cs : List Value} {v zv : Value} (hw : Met x L ops gd) (hy : evL L y = some (.slice none 0 0)) (hz : evL L z = some v) (hr : isRowT P tz = true)
    (hsrc : Src O sz v m cs) (he : elemOf P ty = some e) (hs : szOf P e = some sz) (hby : byOf P e = some by_) (hzv : zeroOf P e = some zv) (h3 : zv.cells.size = sz)
    (hm : 0 < m) (hf : m * by_ ≤ 140737488355328) (h1 : 0 < sz) (h2 : 0 < by_)
    (h : ∀ b, WXL P x ops mq (i + 1) l ((d, Row b 0 m m) :: L) ((b, ⟨sz, false, cs⟩) :: O) K) :
    WXL P x ops mq i ({ dst := some d, op := .call { callee := .builtin .append, args := #[y, z], argTypes := #[ty, tz] }, type := t, pos := p, after := af, guard := gd } :: l) L O K :=
  WXL.fresh (V := fun b => Row b 0 m m) rfl hw (fun s hst => by
    have hfit : fitsA by_ m = true := by unfold fitsA; exact decide_eq_true hf
    simp only [aop, hst.t.ev hy, hst.t.ev hz, hr, if_true]
    unfold appendA
    simp only [he, hs, hby, hzv, Option.map_some, hsrc _ hst.sat, h3, ne_eq, not_true_eq_false, if_false]
    rw [if_neg (by omega), if_pos ⟨hfit, h1, h2⟩]) h

/-- `append` of nothing to nil. -/
theorem WXL.append00 {y z : Operand} {ty tz e : TypeId} {sz by_ : Nat} {cs : List Value} {v zv : Value} (hw : Met x L ops gd) (hy : evL L y = some (.slice none 0 0)) (hz : evL L z = some v) (hr : isRowT P tz = true)
    (hsrc : Src O sz v 0 cs) (he : elemOf P ty = some e) (hs : szOf P e = some sz) (hby : byOf P e = some by_) (hzv : zeroOf P e = some zv) (h3 : zv.cells.size = sz)
    (h : WXL P x ops mq (i + 1) l ((d, .slice none 0 0) :: L) O K) :
    WXL P x ops mq i ({ dst := some d, op := .call { callee := .builtin .append, args := #[y, z], argTypes := #[ty, tz] }, type := t, pos := p, after := af, guard := gd } :: l) L O K :=
  WXL.val (.inl rfl) hw (fun s hst => by
    simp only [aop, hst.t.ev hy, hst.t.ev hz, hr, if_true]
    unfold appendA
    simp only [he, hs, hby, hzv, Option.map_some, hsrc _ hst.sat, h3, ne_eq, not_true_eq_false, if_false, if_true]) h

end Go.Proofs.Ytjmklialkjncaaa.Eng
