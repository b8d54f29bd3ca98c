/- Symbolic runs: the rules of operations on numbers, slots and rows. Own work; no condition. -/
import Derived.Test.YtjmklialkjncaaaEngU
set_option linter.unusedVariables false
set_option linter.unusedSimpArgs false
namespace Go.Proofs.Ytjmklialkjncaaa.Eng

variable {P : Program} {x : Cx} {L L' : Tmps} {O O' : Objs} {ops : Array Oper} {mq : Mk} {i : Nat} {l : List Oper} {K : ASt → Prop}
  {t u : TypeId} {p : String} {af : Array Edge} {gd : Option (Nat × Bool)} {d : Tmp}

/-! ### 1. The frame of the rules -/
theorem WXL.stepG {o : Oper} (hl : isLoadOp o.op = false ∨ mq.lz i = false) (hw : Met x L ops o.guard)
    (ha : ∀ s, St x L O s → (∀ z ∈ mq.Z, z < s.h.n) → ∃ v h', aop P o s = some (v, h') ∧ ((isStoreOp o.op = false) → Quiet s.h h') ∧ (∀ z ∈ mq.Z, h'.o z = s.h.o z) ∧ ∃ L' O', St x L' O' (s.put o.dst v h') ∧ WXL P x ops mq (i + 1) l L' O' K) : WXL P x ops mq i (o :: l) L O K := by
  intro hd hq s hs hz
  obtain ⟨ho, hd'⟩ := drop_head hd
  obtain ⟨v, h', h1, h2, h2z, L', O', h3, h⟩ := ha s hs hz
  have hgrow := (aop_WF h1 hs.sat.wf).2
  obtain ⟨s', g1, g2, g3⟩ := h hd' hq _ h3 (fun z hm => by rw [put_h]; exact Nat.lt_of_lt_of_le (hz z hm) hgrow)
  refine ⟨s', .op ho (hw s hs.t o rfl) h1 (fun hm => h2 ((flags_at hq ho).1 hm)) ?_ h2z g1, by rw [g2, put_m], g3⟩
  rcases hl with hl | hl
  · cases hx : mq.lz i with
    | false => rfl
    | true => rw [(flags_at hq ho).2 hx] at hl; cases hl
  · exact hl

/-- An operation that yields a value and leaves the memory alone. -/
theorem WXL.val {op : Op} {v : Value} (hl : isLoadOp op = false ∨ mq.lz i = false) (hw : Met x L ops gd) (ha : ∀ s, St x L O s → aop P { dst := some d, op := op, type := t, pos := p, after := af, guard := gd } s = some (v, s.h)) (h : WXL P x ops mq (i + 1) l ((d, v) :: L) O K) :
    WXL P x ops mq i ({ dst := some d, op := op, type := t, pos := p, after := af, guard := gd } :: l) L O K :=
  WXL.stepG hl hw fun s hs _ => ⟨v, s.h, ha s hs, fun _ => Quiet.refl _, fun _ _ => rfl, _, _, ⟨hs.m, hs.t.put _ _ _, hs.sat, hs.old⟩, h⟩

/-- A load that a later store may come ahead of: its object stays as it is, its value names no memory. -/
theorem WXL.lazy {y : Operand} {ty : TypeId} {v : Value} {b off : Nat} {e : Ent} (hw : Met x L ops gd) (hy : evL L y = some (.pointer (some ⟨b, off, none⟩))) (hk : ∀ h, Sat h O → Is h b e)
    (ha : ∀ s, St x L O s → aop P { dst := some d, op := .load ty y, type := t, pos := p, after := af, guard := gd } s = some (v, s.h)) (hp : plainC v = true) (h : WXL P x ops ⟨mq.q, mq.lz, b :: mq.Z⟩ (i + 1) l ((d, v) :: L) O K) :
    WXL P x ops mq i ({ dst := some d, op := .load ty y, type := t, pos := p, after := af, guard := gd } :: l) L O K := by
  intro hd hq s hs hz
  obtain ⟨ho, hd'⟩ := drop_head hd
  obtain ⟨f, k, hb⟩ := hk _ hs.sat
  obtain ⟨s', g1, g2, g3⟩ := h hd' hq (s.put (some d) v s.h) ⟨hs.m, hs.t.put _ _ _, hs.sat, hs.old⟩ (fun z hm => by
    rw [put_h]
    rcases List.mem_cons.1 hm with rfl | hm
    · exact hs.sat.wf.lt hb
    · exact hz z hm)
  exact ⟨s', .oplazy ho (hw s hs.t _ rfl) rfl (hs.t.ev hy) hb (ha s hs) hp g1, by rw [g2, put_m], g3⟩

/-- A case on a bool that a slot holds. -/
theorem WXL.split {b : Bool} (hd : getT L d = some (.bool b)) (h1 : b = true → WXL P x ops mq i l ((d, .bool true) :: L) O K) (h2 : b = false → WXL P x ops mq i l ((d, .bool false) :: L) O K) : WXL P x ops mq i l L O K := by
  intro hl hq s hs hz
  have hd' := hs.t d _ hd
  cases b with
  | true => exact h1 rfl hl hq s ⟨hs.m, .cons hd' hs.t, hs.sat, hs.old⟩ hz
  | false => exact h2 rfl hl hq s ⟨hs.m, .cons hd' hs.t, hs.sat, hs.old⟩ hz

/-- What is known is told anew, in the middle of a region. -/
theorem WXL.of (h0 : ∀ s, St x L O s → St x L' O' s) (h : WXL P x ops mq i l L' O' K) : WXL P x ops mq i l L O K := fun a b s hs hz => h a b s (h0 s hs) hz

/-! ### 2. Slots -/
theorem WXL.move {y : Operand} {v : Value} (hw : Met x L ops gd) (hy : evL L y = some v) (h : WXL P x ops mq (i + 1) l ((d, v) :: L) O K) : WXL P x ops mq i ({ dst := some d, op := .move y, type := t, pos := p, after := af, guard := gd } :: l) L O K :=
  WXL.val (.inl rfl) hw (fun s hs => by simp only [aop, hs.t.ev hy]) h
theorem WXL.assign {y : Operand} {v : Value} (hw : Met x L ops gd) (hy : evL L y = some v) (h : WXL P x ops mq (i + 1) l ((d, v) :: L) O K) : WXL P x ops mq i ({ dst := some d, op := .assign y, type := t, pos := p, after := af, guard := gd } :: l) L O K :=
  WXL.val (.inl rfl) hw (fun s hs => by simp only [aop, hs.t.ev hy]) h
theorem WXL.pick_t {c y z : Operand} {v : Value} (hw : Met x L ops gd) (hc : evL L c = some (.bool true)) (hy : evL L y = some v) (h : WXL P x ops mq (i + 1) l ((d, v) :: L) O K) : WXL P x ops mq i ({ dst := some d, op := .pick c y z, type := t, pos := p, after := af, guard := gd } :: l) L O K :=
  WXL.val (.inl rfl) hw (fun s hs => by simp only [aop, hs.t.ev hc, hs.t.ev hy]) h
theorem WXL.pick_f {c y z : Operand} {v : Value} (hw : Met x L ops gd) (hc : evL L c = some (.bool false)) (hy : evL L z = some v) (h : WXL P x ops mq (i + 1) l ((d, v) :: L) O K) : WXL P x ops mq i ({ dst := some d, op := .pick c y z, type := t, pos := p, after := af, guard := gd } :: l) L O K :=
  WXL.val (.inl rfl) hw (fun s hs => by simp only [aop, hs.t.ev hc, hs.t.ev hy]) h
theorem WXL.extract {y : Operand} {vs : Array Value} {n : Nat} {v : Value} (hw : Met x L ops gd) (hy : evL L y = some (.tuple vs)) (hv : vs[n]? = some v) (h : WXL P x ops mq (i + 1) l ((d, v) :: L) O K) :
    WXL P x ops mq i ({ dst := some d, op := .extract y n, type := t, pos := p, after := af, guard := gd } :: l) L O K :=
  WXL.val (.inl rfl) hw (fun s hs => by simp only [aop, hs.t.ev hy, hv, Option.map_some]) h

/-! ### 3. Numbers -/
theorem scalar2 {op : BinOp} {y z : Operand} {a b v : Value} {w : TypeId} {s : ASt} (hy : s.ev y = a) (hz : s.ev z = b) (ha : plain1 a = true) (hb : plain1 b = true) (hv : purely P (do eqGuard op t y z a b; binOp op t a b) = some v) (hp : plain1 v = true) :
    aop P { dst := some d, op := .binOp op t y z w, type := u, pos := p, after := af, guard := gd } s = some (v, s.h) := by
  have e : purely P (execOp s.ev { dst := some d, op := .binOp op t y z w, type := u, pos := p, after := af, guard := gd }) = some (.value v) := by
    show purely P ((do eqGuard op t y z (s.ev y) (s.ev z); binOp op t (s.ev y) (s.ev z)) >>= fun v => pure (Next.value v)) = _
    rw [purely_bind, hy, hz, hv]
    rfl
  unfold aop
  simp only
  unfold scalarA
  have hall : (#[y, z].all fun x => plain1 (s.ev x)) = true := by simp [hy, hz, ha, hb]
  simp only [Op.operands, hall, e, hp, if_true, Option.map_some]

/-- A value of two numbers. -/
def binV : BinOp → IntKind → Int → Int → Option Value
  | .add, k, a, b => some (.int k (k.wrap (a + b)))
  | .sub, k, a, b => some (.int k (k.wrap (a - b)))
  | .mul, k, a, b => some (.int k (k.wrap (a * b)))
  | .eql, _, a, b => some (.bool (decide (a = b)))
  | .neq, _, a, b => some (.bool (!decide (a = b)))
  | .lss, _, a, b => some (.bool (decide (a < b)))
  | .leq, _, a, b => some (.bool (decide (a ≤ b)))
  | .gtr, _, a, b => some (.bool (decide (b < a)))
  | .geq, _, a, b => some (.bool (decide (b ≤ a)))
  | .and, k, a, b => some (.int k (k.wrap ((BitVec.ofInt k.bits a) &&& (BitVec.ofInt k.bits b)).toNat))
  | .or, k, a, b => some (.int k (k.wrap ((BitVec.ofInt k.bits a) ||| (BitVec.ofInt k.bits b)).toNat))
  | .xor, k, a, b => some (.int k (k.wrap ((BitVec.ofInt k.bits a) ^^^ (BitVec.ofInt k.bits b)).toNat))
  | .andNot, k, a, b => some (.int k (k.wrap ((BitVec.ofInt k.bits a) &&& ~~~(BitVec.ofInt k.bits b)).toNat))
  | _, _, _, _ => none

theorem binV_ok {op : BinOp} {y z : Operand} {k : IntKind} {a b : Int} {v : Value} (hv : binV op k a b = some v) : purely P (do eqGuard op t y z (.int k a) (.int k b); binOp op t (.int k a) (.int k b)) = some v ∧ plain1 v = true := by
  cases op <;> simp only [binV, Option.some.injEq, reduceCtorEq] at hv <;> subst hv <;> refine ⟨?_, rfl⟩ <;> simp [eqGuard, binOp, Op.intArith, Op.intCmp, Op.intBits, purely, bind, Sem.bind, pure] <;> rfl

theorem WXL.bin {op : BinOp} {y z : Operand} {k : IntKind} {a b : Int} {v : Value} {w : TypeId} (hw : Met x L ops gd) (hy : evL L y = some (.int k a)) (hz : evL L z = some (.int k b)) (hv : binV op k a b = some v) (h : WXL P x ops mq (i + 1) l ((d, v) :: L) O K) :
    WXL P x ops mq i ({ dst := some d, op := .binOp op u y z w, type := t, pos := p, after := af, guard := gd } :: l) L O K :=
  WXL.val (.inl rfl) hw (fun s hs => scalar2 (hs.t.ev hy) (hs.t.ev hz) rfl rfl (binV_ok hv).1 (binV_ok (P := P) (t := u) (y := y) (z := z) hv).2) h

theorem WXL.quo {y z : Operand} {k : IntKind} {a b r : Int} {w : TypeId} (hw : Met x L ops gd) (hy : evL L y = some (.int k a)) (hz : evL L z = some (.int k b)) (hb : b ≠ 0) (hr : k.wrap (a.tdiv b) = r) (h : WXL P x ops mq (i + 1) l ((d, .int k r) :: L) O K) :
    WXL P x ops mq i ({ dst := some d, op := .binOp .quo u y z w, type := t, pos := p, after := af, guard := gd } :: l) L O K :=
  WXL.val (.inl rfl) hw (fun s hs => scalar2 (hs.t.ev hy) (hs.t.ev hz) rfl rfl (by subst hr; simp [eqGuard, binOp, Op.intDiv, hb, purely, bind, Sem.bind, pure]) rfl) h

theorem WXL.rem {y z : Operand} {k : IntKind} {a b : Int} {w : TypeId} (hw : Met x L ops gd) (hy : evL L y = some (.int k a)) (hz : evL L z = some (.int k b)) (hb : b ≠ 0) (h : WXL P x ops mq (i + 1) l ((d, .int k (a.tmod b)) :: L) O K) :
    WXL P x ops mq i ({ dst := some d, op := .binOp .rem u y z w, type := t, pos := p, after := af, guard := gd } :: l) L O K :=
  WXL.val (.inl rfl) hw (fun s hs => scalar2 (hs.t.ev hy) (hs.t.ev hz) rfl rfl (by simp [eqGuard, binOp, Op.intDiv, hb, purely, bind, Sem.bind, pure]) rfl) h

theorem WXL.shl {y z : Operand} {k k' : IntKind} {a b : Int} {w : TypeId} (hw : Met x L ops gd) (hy : evL L y = some (.int k a)) (hz : evL L z = some (.int k' b)) (hb : 0 ≤ b) (h : WXL P x ops mq (i + 1) l ((d, .int k (k.wrap (a * 2 ^ (min b.toNat k.bits)))) :: L) O K) :
    WXL P x ops mq i ({ dst := some d, op := .binOp .shl u y z w, type := t, pos := p, after := af, guard := gd } :: l) L O K :=
  WXL.val (.inl rfl) hw (fun s hs => scalar2 (hs.t.ev hy) (hs.t.ev hz) rfl rfl (by simp [eqGuard, binOp, Op.shift, Int.not_lt.2 hb, purely, bind, Sem.bind, pure]) rfl) h

theorem WXL.shr {y z : Operand} {k k' : IntKind} {a b : Int} {w : TypeId} (hw : Met x L ops gd) (hy : evL L y = some (.int k a)) (hz : evL L z = some (.int k' b)) (hb : 0 ≤ b) (h : WXL P x ops mq (i + 1) l ((d, .int k (a.fdiv (2 ^ (min b.toNat k.bits)))) :: L) O K) :
    WXL P x ops mq i ({ dst := some d, op := .binOp .shr u y z w, type := t, pos := p, after := af, guard := gd } :: l) L O K :=
  WXL.val (.inl rfl) hw (fun s hs => scalar2 (hs.t.ev hy) (hs.t.ev hz) rfl rfl (by simp [eqGuard, binOp, Op.shift, Int.not_lt.2 hb, purely, bind, Sem.bind, pure]) rfl) h

theorem underlying_of {t : TypeId} {td : TypeDesc} (hu : P.underlying t = some td) : purely P (underlying t) = some td := by
  unfold underlying
  rw [purely_bind]
  show (some P).bind _ = _
  simp only [Option.bind_some, hu]
  rfl

theorem equal_bool {t : TypeId} {n : Nat} {a b : Bool} (hu : P.underlying t = some .bool) : purely P (Op.equalIn (n + 1) t (.bool a) (.bool b)) = some (a == b) := by
  unfold Op.equalIn
  rw [purely_bind, underlying_of hu]
  rfl

theorem eq_bool {t : TypeId} {a b : Bool} {y z : Operand} (hu : P.underlying t = some .bool) : purely P (do eqGuard .eql t y z (.bool a) (.bool b); binOp .eql t (.bool a) (.bool b)) = some (.bool (a == b)) := by
  have e : binOp .eql t (.bool a) (.bool b) = (Op.equalIn (9999 + 1) t (.bool a) (.bool b) >>= fun r => pure (.bool r)) := rfl
  rw [purely_bind, e, purely_bind, equal_bool hu]
  rfl

theorem ne_bool {t : TypeId} {a b : Bool} {y z : Operand} (hu : P.underlying t = some .bool) : purely P (do eqGuard .neq t y z (.bool a) (.bool b); binOp .neq t (.bool a) (.bool b)) = some (.bool (!(a == b))) := by
  have e : binOp .neq t (.bool a) (.bool b) = (Op.equalIn (9999 + 1) t (.bool a) (.bool b) >>= fun r => pure (.bool (!r))) := rfl
  rw [purely_bind, e, purely_bind, equal_bool hu]
  rfl

theorem WXL.eqB {y z : Operand} {a b : Bool} {w : TypeId} (hw : Met x L ops gd) (hy : evL L y = some (.bool a)) (hz : evL L z = some (.bool b)) (hu : P.underlying u = some .bool) (h : WXL P x ops mq (i + 1) l ((d, .bool (a == b)) :: L) O K) :
    WXL P x ops mq i ({ dst := some d, op := .binOp .eql u y z w, type := t, pos := p, after := af, guard := gd } :: l) L O K :=
  WXL.val (.inl rfl) hw (fun s hs => scalar2 (hs.t.ev hy) (hs.t.ev hz) rfl rfl (eq_bool hu) rfl) h

theorem WXL.neB {y z : Operand} {a b : Bool} {w : TypeId} (hw : Met x L ops gd) (hy : evL L y = some (.bool a)) (hz : evL L z = some (.bool b)) (hu : P.underlying u = some .bool) (h : WXL P x ops mq (i + 1) l ((d, .bool (!(a == b))) :: L) O K) :
    WXL P x ops mq i ({ dst := some d, op := .binOp .neq u y z w, type := t, pos := p, after := af, guard := gd } :: l) L O K :=
  WXL.val (.inl rfl) hw (fun s hs => scalar2 (hs.t.ev hy) (hs.t.ev hz) rfl rfl (ne_bool hu) rfl) h

theorem scalar1 {o : Op} {y : Operand} {a v : Value} {s : ASt} {g : Value → Sem Value} (ho : o.operands = #[y]) (hx : ∀ (o' : Oper) (ρ : Operand → Value), o'.op = o → execOp ρ o' = (g (ρ y) >>= fun v => pure (Next.value v)))
    (hd : ∀ o' : Oper, o'.op = o → aop P o' s = (scalarA P o' s.ev).map (·, s.h)) (hy : s.ev y = a) (ha : plain1 a = true) (hv : purely P (g a) = some v) (hp : plain1 v = true) :
    aop P { dst := some d, op := o, type := u, pos := p, after := af, guard := gd } s = some (v, s.h) := by
  rw [hd _ rfl]
  unfold scalarA
  have hall : (#[y].all fun x => plain1 (s.ev x)) = true := by simp [hy, ha]
  simp only [ho, hall, if_true]
  rw [hx _ _ rfl, purely_bind, hy, hv]
  simp [purely, pure, hp]

theorem WXL.not {y : Operand} {b : Bool} {ty : TypeId} (hw : Met x L ops gd) (hy : evL L y = some (.bool b)) (h : WXL P x ops mq (i + 1) l ((d, .bool (!b)) :: L) O K) :
    WXL P x ops mq i ({ dst := some d, op := .unOp .not ty y, type := t, pos := p, after := af, guard := gd } :: l) L O K :=
  WXL.val (.inl rfl) hw (fun s hs => scalar1 (g := Op.unary .not) rfl (fun o' ρ h => by unfold execOp; rw [h]) (fun o' h => by unfold aop; rw [h]) (hs.t.ev hy) rfl rfl rfl) h

theorem WXL.neg {y : Operand} {k : IntKind} {a r : Int} {ty : TypeId} (hw : Met x L ops gd) (hy : evL L y = some (.int k a)) (hr : k.wrap (0 - a) = r) (h : WXL P x ops mq (i + 1) l ((d, .int k r) :: L) O K) :
    WXL P x ops mq i ({ dst := some d, op := .unOp .neg ty y, type := t, pos := p, after := af, guard := gd } :: l) L O K :=
  WXL.val (.inl rfl) hw (fun s hs => scalar1 (g := Op.unary .neg) rfl (fun o' ρ h => by unfold execOp; rw [h]) (fun o' h => by unfold aop; rw [h]) (hs.t.ev hy) rfl (by subst hr; rfl) rfl) h

theorem wrap_i64 {n : Int} (h1 : -9223372036854775808 ≤ n) (h2 : n ≤ 9223372036854775807) : IntKind.wrap .i64 n = n := by
  unfold IntKind.wrap
  have e1 : (2 : Int) ^ IntKind.bits .i64 = 18446744073709551616 := rfl
  have e2 : (2 : Int) ^ (IntKind.bits .i64 - 1) = 9223372036854775808 := rfl
  have e3 : IntKind.signed .i64 = true := rfl
  simp only [e1, e2, e3, Bool.true_and, decide_eq_true_eq]
  split <;> omega

theorem tdiv_bound {a b : Int} (hb : 0 < b) : (0 ≤ a → 0 ≤ a.tdiv b ∧ a.tdiv b ≤ a) ∧ (a ≤ 0 → a ≤ a.tdiv b ∧ a.tdiv b ≤ 0) := by
  refine ⟨fun h => ⟨Int.tdiv_nonneg h (Int.le_of_lt hb), ?_⟩, fun h => ?_⟩
  · rw [Int.tdiv_eq_ediv_of_nonneg h]
    exact Int.ediv_le_self b h
  · have e : a.tdiv b = -((-a).tdiv b) := by rw [Int.neg_tdiv]; omega
    have h1 : 0 ≤ (-a).tdiv b := Int.tdiv_nonneg (by omega) (Int.le_of_lt hb)
    have h2 : (-a).tdiv b ≤ -a := by
      rw [Int.tdiv_eq_ediv_of_nonneg (by omega)]
      exact Int.ediv_le_self b (by omega)
    omega

theorem wrap_quo {a b : Int} (h1 : -9223372036854775808 ≤ a) (h2 : a ≤ 9223372036854775807) (hb : 0 < b) : IntKind.wrap .i64 (a.tdiv b) = a.tdiv b := by
  obtain ⟨p, q⟩ := tdiv_bound (a := a) hb
  rcases Int.le_total 0 a with h | h
  · obtain ⟨p1, p2⟩ := p h
    exact wrap_i64 (by omega) (by omega)
  · obtain ⟨p1, p2⟩ := q h
    exact wrap_i64 (by omega) (by omega)

theorem wrap_neg {n : Int} (h1 : -9223372036854775807 ≤ n) (h2 : n ≤ 9223372036854775807) : IntKind.wrap .i64 (0 - n) = -n := by
  rw [wrap_i64 (by omega) (by omega)]
  omega

theorem scalarC {b : Builtin} {y z : Operand} {k : IntKind} {a c : Int} {v : Value} {ts : Array TypeId} {s : ASt} (hb : b = .min ∨ b = .max) (hy : s.ev y = .int k a) (hz : s.ev z = .int k c) (hv : v = .int k (if b = .max then max a c else min a c)) :
    aop P { dst := some d, op := .call { callee := .builtin b, args := #[y, z], argTypes := ts }, type := u, pos := p, after := af, guard := gd } s = some (v, s.h) := by
  have hall : (#[y, z].all fun x => plain1 (s.ev x)) = true := by simp [hy, hz, plain1]
  have e : purely P (execOp s.ev { dst := some d, op := .call { callee := .builtin b, args := #[y, z], argTypes := ts }, type := u, pos := p, after := af, guard := gd }) = some (.value v) := by
    subst hv
    have hm : #[y, z].map s.ev = #[.int k a, .int k c] := by simp [hy, hz]
    rcases hb with rfl | rfl
    · show purely P (Builtin.min_ ts u (#[y, z].map s.ev) >>= fun v => pure (Next.value v)) = _
      rw [hm]
      show some (Next.value (.int k (if c < a then c else a))) = _
      simp only [reduceCtorEq, if_false, Option.some.injEq, Next.value.injEq, Value.int.injEq, true_and]
      omega
    · show purely P (Builtin.max_ ts u (#[y, z].map s.ev) >>= fun v => pure (Next.value v)) = _
      rw [hm]
      show some (Next.value (.int k (if c > a then c else a))) = _
      simp only [if_true, Option.some.injEq, Next.value.injEq, Value.int.injEq, true_and]
      omega
  have hp : plain1 v = true := by subst hv; rfl
  rcases hb with rfl | rfl <;> (unfold aop; simp only; unfold scalarA; simp only [Op.operands, Call.operands, Array.empty_append, hall, e, hp, if_true, Option.map_some])

theorem WXL.min {y z : Operand} {k : IntKind} {a c : Int} {ts : Array TypeId} (hw : Met x L ops gd) (hy : evL L y = some (.int k a)) (hz : evL L z = some (.int k c)) (h : WXL P x ops mq (i + 1) l ((d, .int k (Min.min a c)) :: L) O K) :
    WXL P x ops mq i ({ dst := some d, op := .call { callee := .builtin .min, args := #[y, z], argTypes := ts }, type := t, pos := p, after := af, guard := gd } :: l) L O K :=
  WXL.val (.inl rfl) hw (fun s hs => scalarC (.inl rfl) (hs.t.ev hy) (hs.t.ev hz) rfl) h
theorem WXL.max {y z : Operand} {k : IntKind} {a c : Int} {ts : Array TypeId} (hw : Met x L ops gd) (hy : evL L y = some (.int k a)) (hz : evL L z = some (.int k c)) (h : WXL P x ops mq (i + 1) l ((d, .int k (Max.max a c)) :: L) O K) :
    WXL P x ops mq i ({ dst := some d, op := .call { callee := .builtin .max, args := #[y, z], argTypes := ts }, type := t, pos := p, after := af, guard := gd } :: l) L O K :=
  WXL.val (.inl rfl) hw (fun s hs => scalarC (.inr rfl) (hs.t.ev hy) (hs.t.ev hz) rfl) h

/-! ### 4. Rows -/
theorem WXL.len {y : Operand} {ty e : TypeId} {a : Option Addr} {n c : Nat} (hw : Met x L ops gd) (hy : evL L y = some (.slice a n c)) (hu : P.underlying ty = some (.slice e)) (h : WXL P x ops mq (i + 1) l ((d, .int .i64 n) :: L) O K) :
    WXL P x ops mq i ({ dst := some d, op := .call { callee := .builtin .len, args := #[y], argTypes := #[ty] }, type := t, pos := p, after := af, guard := gd } :: l) L O K :=
  WXL.val (.inl rfl) hw (fun s hs => by simp [aop, lenA, hu, hs.t.ev hy]) h

end Go.Proofs.Ytjmklialkjncaaa.Eng
