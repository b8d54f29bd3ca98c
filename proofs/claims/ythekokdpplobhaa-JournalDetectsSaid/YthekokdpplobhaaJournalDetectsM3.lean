/- Bytes, strings and unsigned numbers: the rules. Own work; no condition. | What this program's types are to the abstract machine. Printed by a program of this work; no condition. | The small functions of the house. Own work; no condition. | Zigzag and varints. Own work; no condition. | Varints written, by the reference and by the program. Own work; no condition. | The writer, walked. Own work; no condition. | The rest of the writer, walked. Own work; no condition. | Copies; the writer's bytes. Own work; no condition. | Words of bytes, in plain lists. Own work; no condition. | Words of bytes: the iterator, walked. Own work; no condition. | The words' closure. Own work; no condition. | Words of a string: the iterator, walked. Own work; no condition. | The hash. Own work; no condition. | The hash of bytes. Own work; no condition. | Frames, written by the program. Own work; no condition. | The reader's beginnings. Own work; no condition. | The reader's next byte. Own work; no condition. | The reader's numbers, in plain lists. Own work; no condition. | A varint is read as its number. Own work; no condition. | The reader's numbers, walked. Own work; no condition. | Records, read in plain lists. Own work; no condition. | The reader's byte slices, walked. Own work; no condition. | Records, read by the program. Own work; no condition. | Prefixes; the iterator of records. Own work; no condition. | The iterator of records. Own work; no condition. | The iterator of records, walked. Own work; no condition. | The program's Scan. Own work; no condition. -/
import Derived.Test.YthekokdpplobhaaJournalDetectsM1
import Derived.Test.YthekokdpplobhaaJournalDetectsM2
import Derived.Laws.Strings
import Derived.Test.YthekokdpplobhaaChecked
set_option linter.unusedVariables false
set_option linter.unusedSimpArgs false
namespace Go.Proofs.Ythekokdpplobhaa.Eng

variable {P : Program} {x : Cx} {L L' : Tmps} {O O' : Objs} {ops : Array Oper} {mq : Mk} {i : Nat} {l : List Oper} {K : ASt → Prop}
  {t u : TypeId} {p : String} {af : Array Edge} {gd : Option (Nat × Bool)} {d : Tmp}

/-- A byte, and a number without a sign. -/
def B8 (n : Int) : Value := .int .u8 n
def U (n : Int) : Value := .int .u64 n

def Bytes (l : List Int) : Prop := ∀ b ∈ l, 0 ≤ b ∧ b < 256

/-- The string of these bytes. -/
def bstr (l : List Int) : ByteArray := ⟨(l.map fun b => UInt8.ofNat b.toNat).toArray⟩

theorem strOf_bytes : ∀ (l : List Int) (s : ByteArray), strOf (l.map B8) s = some ⟨(s.data.toList ++ l.map fun b => UInt8.ofNat b.toNat).toArray⟩
  | [], s => by
    show some s = _
    simp
  | b :: l, s => by
    show strOf (l.map B8) (s.push (UInt8.ofNat b.toNat)) = _
    rw [strOf_bytes l]
    congr 2
    simp [ByteArray.push]

theorem strOf_bstr (l : List Int) : strOf (l.map B8) .empty = some (bstr l) := by
  rw [strOf_bytes]
  rfl

theorem bstr_size (l : List Int) : (bstr l).size = l.length := by
  show (l.map _).toArray.size = _
  simp

theorem bstr_cells {l : List Int} (h : Bytes l) : ((bstr l).data.toList.map fun b => Value.int .u8 b.toNat) = l.map B8 := by
  show ((l.map fun b => UInt8.ofNat b.toNat).toArray.toList.map fun b => Value.int .u8 b.toNat) = _
  rw [List.toList_toArray, List.map_map]
  refine List.map_congr_left fun b hb => ?_
  obtain ⟨h1, h2⟩ := h b hb
  show Value.int .u8 ((UInt8.ofNat b.toNat).toNat : Int) = .int .u8 b
  congr 1
  rw [UInt8.toNat_ofNat']
  omega

theorem Src.bstr {l : List Int} (h : Bytes l) : Src O 1 (.string (bstr l)) l.length (l.map B8) := by
  intro g _
  show (if (1 : Nat) = 1 then some ((Eng.bstr l).size, (Eng.bstr l).data.toList.map fun b => Value.int .u8 b.toNat) else none) = _
  rw [if_pos rfl, bstr_size, bstr_cells h]

theorem bstr_eq {a b : List Int} (ha : Bytes a) (hb : Bytes b) : bstr a = bstr b ↔ a = b := by
  refine ⟨fun h => ?_, fun h => by rw [h]⟩
  have h2 : a.map B8 = b.map B8 := by rw [← bstr_cells ha, ← bstr_cells hb, h]
  have h3 := congrArg (List.map fun v : Value => match v with | .int _ n => n | _ => 0) h2
  simpa [B8, Function.comp_def] using h3

theorem bstr_beq {a b : List Int} (ha : Bytes a) (hb : Bytes b) : ((bstr a).toList == (bstr b).toList) = decide (a = b) := by
  rw [Bool.eq_iff_iff, beq_iff_eq, decide_eq_true_eq]
  refine ⟨fun h => (bstr_eq ha hb).1 ?_, fun h => by rw [h]⟩
  rw [ByteArray.toList_eq, ByteArray.toList_eq] at h
  exact ByteArray.ext (Array.toList_inj.1 h)

/-! ### Conversions -/
theorem WXL.conv {y : Operand} {k k' : IntKind} {n m : Int} (hw : Met x L ops gd) (hy : evL L y = some (.int k n)) (h1 : P.underlying t = some (.int k)) (h2 : P.underlying u = some (.int k')) (hm : k'.wrap n = m) (h : WXL P x ops mq (i + 1) l ((d, .int k' m) :: L) O K) {tt : TypeId} :
    WXL P x ops mq i ({ dst := some d, op := .convert t u y, type := tt, pos := p, after := af, guard := gd } :: l) L O K :=
  WXL.val (.inl rfl) hw (fun s hs => by
    have hc : convStr P t u = false := by unfold convStr; rw [h1, h2]
    have hc2 : convByt P t u = false := by unfold convByt; rw [h1, h2]
    have e : purely P (convert t u (.int k n)) = some (.int k' m) := by
      simp only [convert, purely_bind, underlying_of h1, underlying_of h2, Option.bind_some]
      rw [← hm]
      rfl
    have ha : ∀ o' : Oper, o'.op = .convert t u y → aop P o' s = (scalarA P o' s.ev).map (·, s.h) := fun o' ho => by unfold aop; rw [ho]; simp only [hc, hc2, Bool.false_eq_true, if_false]
    exact scalar1 (g := convert t u) rfl (fun o' ρ h => by unfold execOp; rw [h]) ha (hs.t.ev hy) rfl e rfl) h

theorem WXL.toStr {y : Operand} {e tt : TypeId} {a : Option Addr} {n c : Nat} {bs : List Int} (hw : Met x L ops gd) (hy : evL L y = some (.slice a n c)) (h1 : P.underlying t = some (.slice e)) (h2 : P.underlying u = some .string) (h3 : P.underlying e = some (.int .u8))
    (hsrc : Src O 1 (.slice a n c) bs.length (bs.map B8)) (h : WXL P x ops mq (i + 1) l ((d, .string (bstr bs)) :: L) O K) :
    WXL P x ops mq i ({ dst := some d, op := .convert t u y, type := tt, pos := p, after := af, guard := gd } :: l) L O K :=
  WXL.val (.inl rfl) hw (fun s hs => by
    have hc : convStr P t u = true := by unfold convStr; simp only [h1, h2, h3]
    unfold aop
    simp only [hc, if_true, hs.t.ev hy]
    unfold strA
    simp only [hsrc _ hs.sat, strOf_bstr, Option.map_some]) h

/-- A string's bytes, in a new row. -/
theorem WXL.toBytes {y : Operand} {e tt : TypeId} {bs : List Int} (hw : Met x L ops gd) (hy : evL L y = some (.string (bstr bs))) (h1 : P.underlying t = some .string) (h2 : P.underlying u = some (.slice e)) (h3 : P.underlying e = some (.int .u8)) (hB : Bytes bs)
    (h : ∀ b, WXL P x ops mq (i + 1) l ((d, .slice (some ⟨b, 0, none⟩) bs.length bs.length) :: L) ((b, ⟨1, false, bs.map B8⟩) :: O) K) :
    WXL P x ops mq i ({ dst := some d, op := .convert t u y, type := tt, pos := p, after := af, guard := gd } :: l) L O K :=
  WXL.fresh (V := fun b => Row b 0 bs.length bs.length) rfl hw (fun s hs => by
    have hc : convStr P t u = false := by unfold convStr; rw [h1, h2]
    have hc2 : convByt P t u = true := by unfold convByt; simp only [h1, h2, h3]
    simp only [aop, hc, hc2, Bool.false_eq_true, if_false, if_true, hs.t.ev hy, bytA, bstr_size, bstr_cells hB]) h

/-! ### Strings -/
theorem WXL.lenS {y : Operand} {ty : TypeId} {bs : ByteArray} (hw : Met x L ops gd) (hy : evL L y = some (.string bs)) (hu : P.underlying ty = some .string) (h : WXL P x ops mq (i + 1) l ((d, .int .i64 bs.size) :: L) O K) :
    WXL P x ops mq i ({ dst := some d, op := .call { callee := .builtin .len, args := #[y], argTypes := #[ty] }, type := t, pos := p, after := af, guard := gd } :: l) L O K :=
  WXL.val (.inl rfl) hw (fun s hs => by simp [aop, lenA, hu, hs.t.ev hy]) h

theorem WXL.eqS {y z : Operand} {a b : List Int} {w : TypeId} (hw : Met x L ops gd) (hy : evL L y = some (.string (bstr a))) (hz : evL L z = some (.string (bstr b))) (ha : Bytes a) (hb : Bytes b) (h : WXL P x ops mq (i + 1) l ((d, .bool (decide (a = b))) :: L) O K) :
    WXL P x ops mq i ({ dst := some d, op := .binOp .eql u y z w, type := t, pos := p, after := af, guard := gd } :: l) L O K :=
  WXL.val (.inl rfl) hw (fun s hs => scalar2 (hs.t.ev hy) (hs.t.ev hz) rfl rfl (by
    rw [← bstr_beq ha hb]
    simp [eqGuard, binOp, Op.stringOp, purely, bind, Sem.bind, pure]) rfl) h

theorem bstr_at {bs : List Int} {k : Nat} (hk : k < bs.length) : (bstr bs)[k]? = some (UInt8.ofNat (nth bs k).toNat) := by
  have h1 : k < (bstr bs).size := by rw [bstr_size]; exact hk
  rw [getElem?_pos _ k h1]
  congr 1
  have h2 : (bs.map fun b => UInt8.ofNat b.toNat).toArray[k]'(by simpa using hk) = UInt8.ofNat (nth bs k).toNat := by rw [List.getElem_toArray, List.getElem_map, nth_get hk]
  exact h2

theorem scalar_idx {y z : Operand} {ty w : TypeId} {a b v : Value} {s : ASt} (hy : s.ev y = a) (hz : s.ev z = b) (ha : plain1 a = true) (hb : plain1 b = true) (hv : purely P (Instr.index ty a b) = some v) (hp : plain1 v = true) :
    aop P { dst := some d, op := .index ty y z, type := w, pos := p, after := af, guard := gd } s = some (v, s.h) := by
  have e : purely P (execOp s.ev { dst := some d, op := .index ty y z, type := w, pos := p, after := af, guard := gd }) = some (.value v) := by
    show purely P (Instr.index ty (s.ev y) (s.ev z) >>= fun v => pure (Next.value v)) = _
    rw [purely_bind, hy, hz, hv]
    rfl
  unfold aop
  simp only
  unfold scalarA
  have hall : (#[y, z].all fun x => plain1 (s.ev x)) = true := by simp [hy, hz, ha, hb]
  simp only [Op.operands, hall, e, hp, if_true, Option.map_some]

theorem WXL.idxStr {y z : Operand} {ty w : TypeId} {bs : List Int} {k : Nat} (hw : Met x L ops gd) (hy : evL L y = some (.string (bstr bs))) (hz : evL L z = some (.int .i64 (k : Int))) (hu : P.underlying ty = some .string) (hB : Bytes bs) (hk : k < bs.length)
    (h : WXL P x ops mq (i + 1) l ((d, B8 (nth bs k)) :: L) O K) : WXL P x ops mq i ({ dst := some d, op := .index ty y z, type := w, pos := p, after := af, guard := gd } :: l) L O K :=
  WXL.val (.inl rfl) hw (fun s hs => scalar_idx (hs.t.ev hy) (hs.t.ev hz) rfl rfl (by
    obtain ⟨h1, h2⟩ := hB _ (nth_mem hk)
    have e : ((UInt8.ofNat (nth bs k).toNat).toNat : Int) = nth bs k := by rw [UInt8.toNat_ofNat']; omega
    have e1 : purely P (asIntOf (.int .i64 (k : Int))) = some (.i64, (k : Int)) := rfl
    unfold Instr.index
    rw [purely_bind, e1]
    simp only [Option.bind_some, purely_bind, underlying_of hu]
    rw [if_pos (by omega), Int.toNat_natCast, bstr_at hk]
    show some (Value.int .u8 _) = _
    rw [e]
    rfl) rfl) h

theorem WXL.nilCheck {y : Operand} {a : Addr} (hw : Met x L ops gd) (hy : evL L y = some (.pointer (some a))) (h : WXL P x ops mq (i + 1) l ((d, .pointer (some a)) :: L) O K) :
    WXL P x ops mq i ({ dst := some d, op := .nilCheck y, type := t, pos := p, after := af, guard := gd } :: l) L O K :=
  WXL.val (.inl rfl) hw (fun s hs => by simp only [aop, hs.t.ev hy]) h

/-- Fewer objects, in any order. -/
theorem Sat.sub {h : AHeap} (hs : Sat h O) (hc : ∀ Q : Nat × Ent → Bool, O'.countP Q ≤ O.countP Q) : Sat h O' := by
  refine ⟨?_, fun p hp => hs.is p ?_, hs.wf⟩
  · rw [List.nodup_iff_count]
    intro b
    have h1 := List.nodup_iff_count.1 hs.nd b
    rw [List.count_eq_countP, List.countP_map] at h1 ⊢
    exact Nat.le_trans (hc _) h1
  · classical
    have h1 : 0 < O'.countP (fun q => decide (q = p)) := List.countP_pos_iff.2 ⟨p, hp, by simp⟩
    obtain ⟨q, h2, h3⟩ := List.countP_pos_iff.1 (Nat.lt_of_lt_of_le h1 (hc _))
    have h4 : q = p := by simpa using h3
    exact h4 ▸ h2

theorem sub_ (hc : ∀ Q : Nat × Ent → Bool, O'.countP Q ≤ O.countP Q := by intro Q; simp only [List.countP_append, List.countP_cons, List.countP_nil]; omega) : ∀ g, Sat g O → Sat g O' := fun _ hs => hs.sub hc

theorem WX.re {P : Program} {x : Cx} {L : Tmps} {O O' : Objs} {c : Code} {Q : Exit → ASt → Prop} (h : WX P x c L O' Q) (hs : ∀ g, Sat g O → Sat g O' := by exact sub_) (hq : x.q = false := by exact rfl) : WX P x c L O Q :=
  fun s hst hk => h s ⟨hst.m, hst.t, hs _ hst.sat, fun q => by rw [hq] at q; cases q⟩ hk

/-- `append` to a row, behind which neither row is written again: both may be read. -/
theorem WXL.appendS {y z : Operand} {ty tz e : TypeId} {a : Option Addr} {n c sz by_ m : Nat} {cs new : List Value} {v zv : Value} {G : Objs} (A : Objs) {R : Objs} (hw : Met x L ops gd) (hy : evL L y = some (.slice a n c)) (hz : evL L z = some v) (hr : isRowT P tz = true)
    (he : elemOf P ty = some e) (hs : szOf P e = some sz) (hby : byOf P e = some by_) (hzv : zeroOf P e = some zv) (hsrc : Src O sz v m new)
    (h : ∀ b b', a = some ⟨b, 0, none⟩ → WXL P x ops mq (i + 1) l ((d, Row b' 0 (n + m) (n + m)) :: L) ((b', ⟨sz, true, cs ++ new⟩) :: (A ++ ((b, ⟨sz, true, cs⟩) :: R))) K)
    (hn : 0 < n := by omega) (hf : (n + m) * by_ ≤ 140737488355328 := by omega) (hm : new.length = m * sz := by exact rfl)
    (hg : Grow sz a n c cs G := by assumption) (hq : x.q = false := by exact rfl) (hcl : mq.Z = [] := by exact rfl) (hmq : mq.q i = false := by exact rfl) (hO : O = A ++ (G ++ R) := by exact rfl) (h3 : zv.cells.size = sz := by exact rfl) (h1 : 0 < sz := by decide) (h2 : 0 < by_ := by decide) :
    WXL P x ops mq i ({ dst := some d, op := .call { callee := .builtin .append, args := #[y, z], argTypes := #[ty, tz] }, type := t, pos := p, after := af, guard := gd } :: l) L O K := by
  have hfit : fitsA by_ (n + m) = true := by unfold fitsA; exact decide_eq_true hf
  rcases hg with ⟨rfl, rfl, rfl, rfl, rfl⟩ | ⟨b, rfl, rfl, hl⟩
  · omega
  intro hdr hqk s hst hzz
  obtain ⟨ho, hd'⟩ := drop_head hdr
  have hj : (b, (⟨sz, false, cs⟩ : Ent)) ∈ O := by rw [hO]; simp
  obtain ⟨f, k, hb⟩ := hst.sat.is _ hj
  have hb' : s.h.o b = .cells sz false f none k cs := hb
  have hbn : b < s.h.n := hst.sat.wf.lt hb'
  obtain ⟨h', hh'⟩ : ∃ h', h' = (s.h.set b (.cells sz false f (some s.h.n) k cs)).new (.cells sz false f none 0 (cs ++ new)) := ⟨_, rfl⟩
  have ho' : ∀ q, h'.o q = if q = s.h.n then .cells sz false f none 0 (cs ++ new) else if q = b then .cells sz false f (some s.h.n) k cs else s.h.o q := fun q => by rw [hh']; rfl
  have ha : aop P { dst := some d, op := .call { callee := .builtin .append, args := #[y, z], argTypes := #[ty, tz] }, type := t, pos := p, after := af, guard := gd } s = some (Row s.h.n 0 (n + m) (n + m), h') := by
    rw [hh']
    simp only [aop, hst.t.ev hy, hst.t.ev hz, hr, if_true]
    unfold appendA
    simp only [he, hs, hby, hzv, Option.map_some, hsrc _ hst.sat, h3, hb', ne_eq, not_true_eq_false, if_false]
    rw [if_pos ⟨trivial, by omega, hfit, h1, h2⟩]
    rfl
  obtain ⟨g2, hg2⟩ : ∃ g2 : AHeap, g2 = { n := h'.n, o := fun q => if q = b then .cells sz true f none (k + 1) cs else if q = s.h.n then .cells sz true f none 0 (cs ++ new) else h'.o q } := ⟨_, rfl⟩
  have hsl : Sealed s.h h' g2 := ⟨b, sz, f, k, cs, cs ++ new, hb', by rw [ho', if_neg (by omega), if_pos rfl], by rw [ho', if_pos rfl], by rw [hg2], fun q => by rw [hg2]⟩
  have hwf := aop_WF ha hst.sat.wf
  have hlt : ∀ p ∈ O, p.1 < s.h.n := fun p hp => hst.sat.lt hp
  have hnd := hst.sat.nd
  rw [hO] at hnd
  have hsat : Sat g2 ((s.h.n, ⟨sz, true, cs ++ new⟩) :: (A ++ ((b, ⟨sz, true, cs⟩) :: R))) := by
    refine ⟨?_, fun p hp => ?_, hwf.1.seal hsl hwf.2 fun b sz ro f st k c hh => hst.sat.wf.lt hh⟩
    · rw [List.map_cons, List.nodup_cons]
      simp only [List.map_append, List.map_cons, List.map_nil, List.cons_append, List.nil_append] at hnd ⊢
      refine ⟨fun hm2 => ?_, hnd⟩
      have : s.h.n ∈ O.map (·.1) := by
        rw [hO]
        simp only [List.map_append, List.map_cons, List.map_nil, List.cons_append, List.nil_append]
        exact hm2
      obtain ⟨p, hp, e1⟩ := List.mem_map.1 this
      have := hlt p hp
      omega
    · have key : ∀ p ∈ O, p.1 ≠ b → Is g2 p.1 p.2 := fun p hp hne => by
        obtain ⟨f1, k1, e1⟩ := hst.sat.is p hp
        have := hlt p hp
        exact ⟨f1, k1, by rw [hg2]; show (if p.1 = b then _ else if p.1 = s.h.n then _ else h'.o p.1) = _; rw [if_neg hne, if_neg (by omega), ho', if_neg (by omega), if_neg hne]; exact e1⟩
      rcases List.mem_cons.1 hp with rfl | hp
      · exact ⟨f, 0, by rw [hg2]; show (if s.h.n = b then _ else if s.h.n = s.h.n then _ else _) = _; rw [if_neg (by omega), if_pos rfl]⟩
      · simp only [List.map_append, List.map_cons, List.map_nil, List.cons_append, List.nil_append] at hnd
        have hnd2 := List.nodup_append.1 hnd
        rcases List.mem_append.1 hp with hp | hp
        · exact key p (by rw [hO]; exact List.mem_append_left _ hp) (fun e1 => hnd2.2.2 p.1 (List.mem_map.2 ⟨p, hp, rfl⟩) b (List.mem_cons_self ..) e1)
        · rcases List.mem_cons.1 hp with rfl | hp
          · exact ⟨f, k + 1, by rw [hg2]; show (if b = b then _ else _) = _; rw [if_pos rfl]⟩
          · exact key p (by rw [hO]; exact List.mem_append_right _ (List.mem_append_right _ hp)) (fun e1 => (List.nodup_cons.1 hnd2.2.1).1 (e1 ▸ List.mem_map.2 ⟨p, hp, rfl⟩))
  obtain ⟨s', g1, g3, g4⟩ := h b s.h.n rfl hd' hqk (s.put (some d) (Row s.h.n 0 (n + m) (n + m)) g2) ⟨by rw [put_m]; exact hst.m, hst.t.put _ _ _, by rw [put_h]; exact hsat, fun q => by rw [hq] at q; cases q⟩ (fun z hm2 => by rw [hcl] at hm2; simp at hm2)
  refine ⟨s', .opseal ho (hw s hst.t _ rfl) ha hsl hmq ?_ (fun z hm2 => by rw [hcl] at hm2; simp at hm2) g1, by rw [g3, put_m], g4⟩
  cases hx : mq.lz i with
  | false => rfl
  | true => exact absurd ((flags_at hqk ho).2 hx) (by simp [isLoadOp])

theorem wrap_u64 {n : Int} (h1 : 0 ≤ n) (h2 : n < 18446744073709551616) : IntKind.wrap .u64 n = n := by
  unfold IntKind.wrap
  have e1 : (2 : Int) ^ IntKind.bits .u64 = 18446744073709551616 := rfl
  have e3 : IntKind.signed .u64 = false := rfl
  simp only [e1, e3, Bool.false_and, Bool.false_eq_true, if_false]
  omega

theorem wrap_u8 {n : Int} (h1 : 0 ≤ n) (h2 : n < 256) : IntKind.wrap .u8 n = n := by
  unfold IntKind.wrap
  have e1 : (2 : Int) ^ IntKind.bits .u8 = 256 := rfl
  have e3 : IntKind.signed .u8 = false := rfl
  simp only [e1, e3, Bool.false_and, Bool.false_eq_true, if_false]
  omega

theorem cv_ {k : IntKind} {n m : Int} (h : k.wrap n = m := by first | exact wrap_i64 (by omega) (by omega) | exact wrap_u64 (by omega) (by omega) | exact wrap_u8 (by omega) (by omega) | exact rfl) : k.wrap n = m := h

end Go.Proofs.Ythekokdpplobhaa.Eng

namespace Go.Proofs.Ythekokdpplobhaa.Eng

theorem agg1 : isAggT Try.prog 1 = some false := by kernel_rfl
theorem sz1 : szOf Try.prog 1 = some 1 := by kernel_rfl
theorem by1 : byOf Try.prog 1 = some 8 := by kernel_rfl
theorem zero1 : zeroOf Try.prog 1 = some (.nilFunc) := by kernel_rfl
-- kind 1 : func
theorem agg2 : isAggT Try.prog 2 = some false := by kernel_rfl
theorem sz2 : szOf Try.prog 2 = some 1 := by kernel_rfl
theorem by2 : byOf Try.prog 2 = some 8 := by kernel_rfl
theorem zero2 : zeroOf Try.prog 2 = some (.int .i64 0) := by kernel_rfl
-- kind 2 : int
theorem agg3 : isAggT Try.prog 3 = some false := by kernel_rfl
theorem sz3 : szOf Try.prog 3 = some 1 := by kernel_rfl
theorem by3 : byOf Try.prog 3 = some 8 := by kernel_rfl
theorem zero3 : zeroOf Try.prog 3 = some (.int .i64 0) := by kernel_rfl
-- kind 3 : int
theorem agg4 : isAggT Try.prog 4 = some false := by kernel_rfl
theorem sz4 : szOf Try.prog 4 = some 1 := by kernel_rfl
theorem by4 : byOf Try.prog 4 = some 1 := by kernel_rfl
theorem zero4 : zeroOf Try.prog 4 = some (.bool false) := by kernel_rfl
-- kind 4 : bool
theorem agg5 : isAggT Try.prog 5 = some false := by kernel_rfl
theorem sz5 : szOf Try.prog 5 = some 1 := by kernel_rfl
theorem by5 : byOf Try.prog 5 = some 1 := by kernel_rfl
theorem zero5 : zeroOf Try.prog 5 = some (.int .u8 0) := by kernel_rfl
-- kind 5 : int
theorem agg6 : isAggT Try.prog 6 = some false := by kernel_rfl
theorem sz6 : szOf Try.prog 6 = some 1 := by kernel_rfl
theorem by6 : byOf Try.prog 6 = some 1 := by kernel_rfl
theorem zero6 : zeroOf Try.prog 6 = some (.int .u8 0) := by kernel_rfl
-- kind 6 : int
theorem agg7 : isAggT Try.prog 7 = some true := by kernel_rfl
theorem sz7 : szOf Try.prog 7 = some 4 := by kernel_rfl
theorem by7 : byOf Try.prog 7 = some 24 := by kernel_rfl
theorem zero7 : zeroOf Try.prog 7 = some (.agg #[.int .i64 0, .int .i64 0, .bool false, .int .u8 0]) := by kernel_rfl
-- kind 7 : struct
-- struct 7 : 2 3 4 6
theorem places7 : placesOf Try.prog 7 = some [(0, 1), (1, 1), (2, 1), (3, 1)] := by kernel_rfl
theorem agg8 : isAggT Try.prog 8 = some true := by kernel_rfl
theorem sz8 : szOf Try.prog 8 = some 4 := by kernel_rfl
theorem by8 : byOf Try.prog 8 = some 24 := by kernel_rfl
theorem zero8 : zeroOf Try.prog 8 = some (.agg #[.int .i64 0, .int .i64 0, .bool false, .int .u8 0]) := by kernel_rfl
-- kind 8 : struct
-- struct 8 : 2 3 4 6
theorem places8 : placesOf Try.prog 8 = some [(0, 1), (1, 1), (2, 1), (3, 1)] := by kernel_rfl
theorem agg9 : isAggT Try.prog 9 = some false := by kernel_rfl
theorem sz9 : szOf Try.prog 9 = some 1 := by kernel_rfl
theorem by9 : byOf Try.prog 9 = some 16 := by kernel_rfl
theorem zero9 : zeroOf Try.prog 9 = some (.string ByteArray.empty) := by kernel_rfl
theorem isrow9 : isRowT Try.prog 9 = true := by kernel_rfl
-- kind 9 : string
theorem agg10 : isAggT Try.prog 10 = some false := by kernel_rfl
theorem sz10 : szOf Try.prog 10 = some 1 := by kernel_rfl
theorem by10 : byOf Try.prog 10 = some 16 := by kernel_rfl
theorem zero10 : zeroOf Try.prog 10 = some (.string ByteArray.empty) := by kernel_rfl
theorem isrow10 : isRowT Try.prog 10 = true := by kernel_rfl
-- kind 10 : string
theorem agg11 : isAggT Try.prog 11 = some false := by kernel_rfl
theorem sz11 : szOf Try.prog 11 = some 1 := by kernel_rfl
theorem by11 : byOf Try.prog 11 = some 16 := by kernel_rfl
theorem zero11 : zeroOf Try.prog 11 = some (.string ByteArray.empty) := by kernel_rfl
theorem isrow11 : isRowT Try.prog 11 = true := by kernel_rfl
-- kind 11 : string
theorem agg12 : isAggT Try.prog 12 = some false := by kernel_rfl
theorem sz12 : szOf Try.prog 12 = some 1 := by kernel_rfl
theorem by12 : byOf Try.prog 12 = some 8 := by kernel_rfl
theorem zero12 : zeroOf Try.prog 12 = some (.int .u64 0) := by kernel_rfl
-- kind 12 : int
theorem agg13 : isAggT Try.prog 13 = some true := by kernel_rfl
theorem sz13 : szOf Try.prog 13 = some 2 := by kernel_rfl
theorem by13 : byOf Try.prog 13 = some 24 := by kernel_rfl
theorem zero13 : zeroOf Try.prog 13 = some (.agg #[.string ByteArray.empty, .int .u64 0]) := by kernel_rfl
-- kind 13 : struct
-- struct 13 : 9 12
theorem places13 : placesOf Try.prog 13 = some [(0, 1), (1, 1)] := by kernel_rfl
theorem agg14 : isAggT Try.prog 14 = some true := by kernel_rfl
theorem sz14 : szOf Try.prog 14 = some 2 := by kernel_rfl
theorem by14 : byOf Try.prog 14 = some 24 := by kernel_rfl
theorem zero14 : zeroOf Try.prog 14 = some (.agg #[.string ByteArray.empty, .int .u64 0]) := by kernel_rfl
-- kind 14 : struct
-- struct 14 : 9 12
theorem places14 : placesOf Try.prog 14 = some [(0, 1), (1, 1)] := by kernel_rfl
theorem agg15 : isAggT Try.prog 15 = some false := by kernel_rfl
theorem sz15 : szOf Try.prog 15 = some 1 := by kernel_rfl
theorem by15 : byOf Try.prog 15 = some 8 := by kernel_rfl
theorem zero15 : zeroOf Try.prog 15 = some (.pointer none) := by kernel_rfl
-- kind 15 : pointer
theorem agg16 : isAggT Try.prog 16 = some false := by kernel_rfl
theorem sz16 : szOf Try.prog 16 = some 1 := by kernel_rfl
theorem by16 : byOf Try.prog 16 = some 8 := by kernel_rfl
theorem zero16 : zeroOf Try.prog 16 = some (.pointer none) := by kernel_rfl
-- kind 16 : pointer
theorem agg17 : isAggT Try.prog 17 = some false := by kernel_rfl
theorem sz17 : szOf Try.prog 17 = some 1 := by kernel_rfl
theorem by17 : byOf Try.prog 17 = some 8 := by kernel_rfl
theorem zero17 : zeroOf Try.prog 17 = some (.pointer none) := by kernel_rfl
-- kind 17 : pointer
theorem agg18 : isAggT Try.prog 18 = some true := by kernel_rfl
theorem sz18 : szOf Try.prog 18 = some 1 := by kernel_rfl
theorem by18 : byOf Try.prog 18 = some 8 := by kernel_rfl
theorem zero18 : zeroOf Try.prog 18 = some (.agg #[.pointer none]) := by kernel_rfl
-- kind 18 : struct
-- struct 18 : 17
theorem places18 : placesOf Try.prog 18 = some [(0, 1)] := by kernel_rfl
theorem agg19 : isAggT Try.prog 19 = some true := by kernel_rfl
theorem sz19 : szOf Try.prog 19 = some 1 := by kernel_rfl
theorem by19 : byOf Try.prog 19 = some 8 := by kernel_rfl
theorem zero19 : zeroOf Try.prog 19 = some (.agg #[.pointer none]) := by kernel_rfl
-- kind 19 : struct
-- struct 19 : 17
theorem places19 : placesOf Try.prog 19 = some [(0, 1)] := by kernel_rfl
theorem agg20 : isAggT Try.prog 20 = some false := by kernel_rfl
theorem sz20 : szOf Try.prog 20 = some 1 := by kernel_rfl
theorem by20 : byOf Try.prog 20 = some 16 := by kernel_rfl
theorem zero20 : zeroOf Try.prog 20 = some (.nilIface) := by kernel_rfl
-- kind 20 : interface
theorem agg21 : isAggT Try.prog 21 = some false := by kernel_rfl
theorem sz21 : szOf Try.prog 21 = some 1 := by kernel_rfl
theorem by21 : byOf Try.prog 21 = some 4 := by kernel_rfl
theorem zero21 : zeroOf Try.prog 21 = some (.int .i32 0) := by kernel_rfl
-- kind 21 : int
theorem agg22 : isAggT Try.prog 22 = some false := by kernel_rfl
theorem sz22 : szOf Try.prog 22 = some 1 := by kernel_rfl
theorem by22 : byOf Try.prog 22 = some 24 := by kernel_rfl
theorem zero22 : zeroOf Try.prog 22 = some (.slice none 0 0) := by kernel_rfl
theorem elem22 : elemOf Try.prog 22 = some 3 := by kernel_rfl
theorem isrow22 : isRowT Try.prog 22 = true := by kernel_rfl
-- kind 22 : slice
theorem agg23 : isAggT Try.prog 23 = some false := by kernel_rfl
theorem sz23 : szOf Try.prog 23 = some 1 := by kernel_rfl
theorem by23 : byOf Try.prog 23 = some 24 := by kernel_rfl
theorem zero23 : zeroOf Try.prog 23 = some (.slice none 0 0) := by kernel_rfl
theorem elem23 : elemOf Try.prog 23 = some 5 := by kernel_rfl
theorem isrow23 : isRowT Try.prog 23 = true := by kernel_rfl
-- kind 23 : slice
theorem agg24 : isAggT Try.prog 24 = some false := by kernel_rfl
theorem sz24 : szOf Try.prog 24 = some 1 := by kernel_rfl
theorem by24 : byOf Try.prog 24 = some 8 := by kernel_rfl
theorem zero24 : zeroOf Try.prog 24 = some (.nilFunc) := by kernel_rfl
-- kind 24 : func
theorem agg25 : isAggT Try.prog 25 = some false := by kernel_rfl
theorem sz25 : szOf Try.prog 25 = some 1 := by kernel_rfl
theorem by25 : byOf Try.prog 25 = some 8 := by kernel_rfl
theorem zero25 : zeroOf Try.prog 25 = some (.nilFunc) := by kernel_rfl
-- kind 25 : func
theorem agg26 : isAggT Try.prog 26 = some false := by kernel_rfl
theorem sz26 : szOf Try.prog 26 = some 1 := by kernel_rfl
theorem by26 : byOf Try.prog 26 = some 8 := by kernel_rfl
theorem zero26 : zeroOf Try.prog 26 = some (.nilFunc) := by kernel_rfl
-- kind 26 : func
theorem agg27 : isAggT Try.prog 27 = some false := by kernel_rfl
theorem sz27 : szOf Try.prog 27 = some 1 := by kernel_rfl
theorem by27 : byOf Try.prog 27 = some 24 := by kernel_rfl
theorem zero27 : zeroOf Try.prog 27 = some (.slice none 0 0) := by kernel_rfl
theorem elem27 : elemOf Try.prog 27 = some 23 := by kernel_rfl
theorem isrow27 : isRowT Try.prog 27 = true := by kernel_rfl
-- kind 27 : slice
theorem agg28 : isAggT Try.prog 28 = some false := by kernel_rfl
theorem sz28 : szOf Try.prog 28 = some 1 := by kernel_rfl
theorem by28 : byOf Try.prog 28 = some 8 := by kernel_rfl
theorem zero28 : zeroOf Try.prog 28 = some (.nilFunc) := by kernel_rfl
-- kind 28 : func
theorem agg30 : isAggT Try.prog 30 = some false := by kernel_rfl
theorem sz30 : szOf Try.prog 30 = some 1 := by kernel_rfl
theorem by30 : byOf Try.prog 30 = some 8 := by kernel_rfl
theorem zero30 : zeroOf Try.prog 30 = some (.nilFunc) := by kernel_rfl
-- kind 30 : func
theorem agg31 : isAggT Try.prog 31 = some false := by kernel_rfl
theorem sz31 : szOf Try.prog 31 = some 1 := by kernel_rfl
theorem by31 : byOf Try.prog 31 = some 8 := by kernel_rfl
theorem zero31 : zeroOf Try.prog 31 = some (.nilFunc) := by kernel_rfl
-- kind 31 : func
theorem agg32 : isAggT Try.prog 32 = some false := by kernel_rfl
theorem sz32 : szOf Try.prog 32 = some 1 := by kernel_rfl
theorem by32 : byOf Try.prog 32 = some 8 := by kernel_rfl
theorem zero32 : zeroOf Try.prog 32 = some (.nilFunc) := by kernel_rfl
-- kind 32 : func
theorem agg33 : isAggT Try.prog 33 = some false := by kernel_rfl
theorem sz33 : szOf Try.prog 33 = some 1 := by kernel_rfl
theorem by33 : byOf Try.prog 33 = some 8 := by kernel_rfl
theorem zero33 : zeroOf Try.prog 33 = some (.nilFunc) := by kernel_rfl
-- kind 33 : func
theorem agg34 : isAggT Try.prog 34 = some false := by kernel_rfl
theorem sz34 : szOf Try.prog 34 = some 1 := by kernel_rfl
theorem by34 : byOf Try.prog 34 = some 8 := by kernel_rfl
theorem zero34 : zeroOf Try.prog 34 = some (.nilFunc) := by kernel_rfl
-- kind 34 : func
theorem agg35 : isAggT Try.prog 35 = some false := by kernel_rfl
theorem sz35 : szOf Try.prog 35 = some 1 := by kernel_rfl
theorem by35 : byOf Try.prog 35 = some 8 := by kernel_rfl
theorem zero35 : zeroOf Try.prog 35 = some (.nilFunc) := by kernel_rfl
-- kind 35 : func
theorem agg36 : isAggT Try.prog 36 = some true := by kernel_rfl
theorem sz36 : szOf Try.prog 36 = some 1 := by kernel_rfl
theorem by36 : byOf Try.prog 36 = some 24 := by kernel_rfl
theorem zero36 : zeroOf Try.prog 36 = some (.agg #[.slice none 0 0]) := by kernel_rfl
-- kind 36 : struct
-- struct 36 : 23
theorem places36 : placesOf Try.prog 36 = some [(0, 1)] := by kernel_rfl
theorem agg37 : isAggT Try.prog 37 = some true := by kernel_rfl
theorem sz37 : szOf Try.prog 37 = some 1 := by kernel_rfl
theorem by37 : byOf Try.prog 37 = some 24 := by kernel_rfl
theorem zero37 : zeroOf Try.prog 37 = some (.agg #[.slice none 0 0]) := by kernel_rfl
-- kind 37 : struct
-- struct 37 : 23
theorem places37 : placesOf Try.prog 37 = some [(0, 1)] := by kernel_rfl
theorem agg38 : isAggT Try.prog 38 = some false := by kernel_rfl
theorem sz38 : szOf Try.prog 38 = some 1 := by kernel_rfl
theorem by38 : byOf Try.prog 38 = some 8 := by kernel_rfl
theorem zero38 : zeroOf Try.prog 38 = some (.nilFunc) := by kernel_rfl
-- kind 38 : func
theorem agg39 : isAggT Try.prog 39 = some false := by kernel_rfl
theorem sz39 : szOf Try.prog 39 = some 1 := by kernel_rfl
theorem by39 : byOf Try.prog 39 = some 8 := by kernel_rfl
theorem zero39 : zeroOf Try.prog 39 = some (.nilFunc) := by kernel_rfl
-- kind 39 : func
theorem agg40 : isAggT Try.prog 40 = some false := by kernel_rfl
theorem sz40 : szOf Try.prog 40 = some 1 := by kernel_rfl
theorem by40 : byOf Try.prog 40 = some 8 := by kernel_rfl
theorem zero40 : zeroOf Try.prog 40 = some (.nilFunc) := by kernel_rfl
-- kind 40 : func
theorem agg41 : isAggT Try.prog 41 = some false := by kernel_rfl
theorem sz41 : szOf Try.prog 41 = some 1 := by kernel_rfl
theorem by41 : byOf Try.prog 41 = some 8 := by kernel_rfl
theorem zero41 : zeroOf Try.prog 41 = some (.nilFunc) := by kernel_rfl
-- kind 41 : func
theorem agg42 : isAggT Try.prog 42 = some false := by kernel_rfl
theorem sz42 : szOf Try.prog 42 = some 1 := by kernel_rfl
theorem by42 : byOf Try.prog 42 = some 8 := by kernel_rfl
theorem zero42 : zeroOf Try.prog 42 = some (.int .u64 0) := by kernel_rfl
-- kind 42 : int
theorem agg43 : isAggT Try.prog 43 = some false := by kernel_rfl
theorem sz43 : szOf Try.prog 43 = some 1 := by kernel_rfl
theorem by43 : byOf Try.prog 43 = some 8 := by kernel_rfl
theorem zero43 : zeroOf Try.prog 43 = some (.int .u64 0) := by kernel_rfl
-- kind 43 : int
theorem agg44 : isAggT Try.prog 44 = some false := by kernel_rfl
theorem sz44 : szOf Try.prog 44 = some 1 := by kernel_rfl
theorem by44 : byOf Try.prog 44 = some 8 := by kernel_rfl
theorem zero44 : zeroOf Try.prog 44 = some (.pointer none) := by kernel_rfl
-- kind 44 : pointer
theorem agg45 : isAggT Try.prog 45 = some false := by kernel_rfl
theorem sz45 : szOf Try.prog 45 = some 1 := by kernel_rfl
theorem by45 : byOf Try.prog 45 = some 8 := by kernel_rfl
theorem zero45 : zeroOf Try.prog 45 = some (.nilFunc) := by kernel_rfl
-- kind 45 : func
theorem agg46 : isAggT Try.prog 46 = some false := by kernel_rfl
theorem sz46 : szOf Try.prog 46 = some 1 := by kernel_rfl
theorem by46 : byOf Try.prog 46 = some 8 := by kernel_rfl
theorem zero46 : zeroOf Try.prog 46 = some (.nilFunc) := by kernel_rfl
-- kind 46 : func
theorem agg47 : isAggT Try.prog 47 = some false := by kernel_rfl
theorem sz47 : szOf Try.prog 47 = some 1 := by kernel_rfl
theorem by47 : byOf Try.prog 47 = some 8 := by kernel_rfl
theorem zero47 : zeroOf Try.prog 47 = some (.int .i64 0) := by kernel_rfl
-- kind 47 : int
theorem agg48 : isAggT Try.prog 48 = some false := by kernel_rfl
theorem sz48 : szOf Try.prog 48 = some 1 := by kernel_rfl
theorem by48 : byOf Try.prog 48 = some 8 := by kernel_rfl
theorem zero48 : zeroOf Try.prog 48 = some (.nilFunc) := by kernel_rfl
-- kind 48 : func
theorem agg49 : isAggT Try.prog 49 = some false := by kernel_rfl
theorem sz49 : szOf Try.prog 49 = some 1 := by kernel_rfl
theorem by49 : byOf Try.prog 49 = some 8 := by kernel_rfl
theorem zero49 : zeroOf Try.prog 49 = some (.nilFunc) := by kernel_rfl
-- kind 49 : func
theorem agg50 : isAggT Try.prog 50 = some false := by kernel_rfl
theorem sz50 : szOf Try.prog 50 = some 1 := by kernel_rfl
theorem by50 : byOf Try.prog 50 = some 8 := by kernel_rfl
theorem zero50 : zeroOf Try.prog 50 = some (.nilFunc) := by kernel_rfl
-- kind 50 : func
theorem agg51 : isAggT Try.prog 51 = some false := by kernel_rfl
theorem sz51 : szOf Try.prog 51 = some 1 := by kernel_rfl
theorem by51 : byOf Try.prog 51 = some 8 := by kernel_rfl
theorem zero51 : zeroOf Try.prog 51 = some (.pointer none) := by kernel_rfl
-- kind 51 : pointer
theorem agg52 : isAggT Try.prog 52 = some false := by kernel_rfl
theorem sz52 : szOf Try.prog 52 = some 1 := by kernel_rfl
theorem by52 : byOf Try.prog 52 = some 8 := by kernel_rfl
theorem zero52 : zeroOf Try.prog 52 = some (.nilFunc) := by kernel_rfl
-- kind 52 : func
theorem agg53 : isAggT Try.prog 53 = some false := by kernel_rfl
theorem sz53 : szOf Try.prog 53 = some 1 := by kernel_rfl
theorem by53 : byOf Try.prog 53 = some 8 := by kernel_rfl
theorem zero53 : zeroOf Try.prog 53 = some (.pointer none) := by kernel_rfl
-- kind 53 : pointer
theorem agg55 : isAggT Try.prog 55 = some false := by kernel_rfl
theorem sz55 : szOf Try.prog 55 = some 1 := by kernel_rfl
theorem by55 : byOf Try.prog 55 = some 8 := by kernel_rfl
theorem zero55 : zeroOf Try.prog 55 = some (.nilFunc) := by kernel_rfl
-- kind 55 : func
theorem agg56 : isAggT Try.prog 56 = some false := by kernel_rfl
theorem sz56 : szOf Try.prog 56 = some 1 := by kernel_rfl
theorem by56 : byOf Try.prog 56 = some 8 := by kernel_rfl
theorem zero56 : zeroOf Try.prog 56 = some (.nilFunc) := by kernel_rfl
-- kind 56 : func
theorem agg57 : isAggT Try.prog 57 = some false := by kernel_rfl
theorem sz57 : szOf Try.prog 57 = some 1 := by kernel_rfl
theorem by57 : byOf Try.prog 57 = some 8 := by kernel_rfl
theorem zero57 : zeroOf Try.prog 57 = some (.nilFunc) := by kernel_rfl
-- kind 57 : func
theorem agg58 : isAggT Try.prog 58 = some false := by kernel_rfl
theorem sz58 : szOf Try.prog 58 = some 1 := by kernel_rfl
theorem by58 : byOf Try.prog 58 = some 8 := by kernel_rfl
theorem zero58 : zeroOf Try.prog 58 = some (.nilFunc) := by kernel_rfl
-- kind 58 : func
theorem agg59 : isAggT Try.prog 59 = some false := by kernel_rfl
theorem sz59 : szOf Try.prog 59 = some 1 := by kernel_rfl
theorem by59 : byOf Try.prog 59 = some 8 := by kernel_rfl
theorem zero59 : zeroOf Try.prog 59 = some (.nilFunc) := by kernel_rfl
-- kind 59 : func
theorem agg60 : isAggT Try.prog 60 = some false := by kernel_rfl
theorem sz60 : szOf Try.prog 60 = some 1 := by kernel_rfl
theorem by60 : byOf Try.prog 60 = some 8 := by kernel_rfl
theorem zero60 : zeroOf Try.prog 60 = some (.nilFunc) := by kernel_rfl
-- kind 60 : func
theorem agg61 : isAggT Try.prog 61 = some false := by kernel_rfl
theorem sz61 : szOf Try.prog 61 = some 1 := by kernel_rfl
theorem by61 : byOf Try.prog 61 = some 8 := by kernel_rfl
theorem zero61 : zeroOf Try.prog 61 = some (.nilFunc) := by kernel_rfl
-- kind 61 : func
theorem agg62 : isAggT Try.prog 62 = some false := by kernel_rfl
theorem sz62 : szOf Try.prog 62 = some 1 := by kernel_rfl
theorem by62 : byOf Try.prog 62 = some 8 := by kernel_rfl
theorem zero62 : zeroOf Try.prog 62 = some (.nilFunc) := by kernel_rfl
-- kind 62 : func
theorem agg63 : isAggT Try.prog 63 = some false := by kernel_rfl
theorem sz63 : szOf Try.prog 63 = some 1 := by kernel_rfl
theorem by63 : byOf Try.prog 63 = some 8 := by kernel_rfl
theorem zero63 : zeroOf Try.prog 63 = some (.nilFunc) := by kernel_rfl
-- kind 63 : func
theorem agg64 : isAggT Try.prog 64 = some false := by kernel_rfl
theorem sz64 : szOf Try.prog 64 = some 1 := by kernel_rfl
theorem by64 : byOf Try.prog 64 = some 8 := by kernel_rfl
theorem zero64 : zeroOf Try.prog 64 = some (.nilFunc) := by kernel_rfl
-- kind 64 : func
theorem agg65 : isAggT Try.prog 65 = some false := by kernel_rfl
theorem sz65 : szOf Try.prog 65 = some 1 := by kernel_rfl
theorem by65 : byOf Try.prog 65 = some 8 := by kernel_rfl
theorem zero65 : zeroOf Try.prog 65 = some (.nilFunc) := by kernel_rfl
-- kind 65 : func
theorem agg66 : isAggT Try.prog 66 = some false := by kernel_rfl
theorem sz66 : szOf Try.prog 66 = some 1 := by kernel_rfl
theorem by66 : byOf Try.prog 66 = some 8 := by kernel_rfl
theorem zero66 : zeroOf Try.prog 66 = some (.nilFunc) := by kernel_rfl
-- kind 66 : func
theorem agg67 : isAggT Try.prog 67 = some false := by kernel_rfl
theorem sz67 : szOf Try.prog 67 = some 1 := by kernel_rfl
theorem by67 : byOf Try.prog 67 = some 8 := by kernel_rfl
theorem zero67 : zeroOf Try.prog 67 = some (.nilFunc) := by kernel_rfl
-- kind 67 : func
theorem agg68 : isAggT Try.prog 68 = some false := by kernel_rfl
theorem sz68 : szOf Try.prog 68 = some 1 := by kernel_rfl
theorem by68 : byOf Try.prog 68 = some 8 := by kernel_rfl
theorem zero68 : zeroOf Try.prog 68 = some (.nilFunc) := by kernel_rfl
-- kind 68 : func
theorem agg70 : isAggT Try.prog 70 = some false := by kernel_rfl
theorem sz70 : szOf Try.prog 70 = some 1 := by kernel_rfl
theorem by70 : byOf Try.prog 70 = some 8 := by kernel_rfl
theorem zero70 : zeroOf Try.prog 70 = some (.nilFunc) := by kernel_rfl
-- kind 70 : func
theorem agg71 : isAggT Try.prog 71 = some false := by kernel_rfl
theorem sz71 : szOf Try.prog 71 = some 1 := by kernel_rfl
theorem by71 : byOf Try.prog 71 = some 8 := by kernel_rfl
theorem zero71 : zeroOf Try.prog 71 = some (.pointer none) := by kernel_rfl
-- kind 71 : pointer
theorem agg72 : isAggT Try.prog 72 = some false := by kernel_rfl
theorem sz72 : szOf Try.prog 72 = some 1 := by kernel_rfl
theorem by72 : byOf Try.prog 72 = some 8 := by kernel_rfl
theorem zero72 : zeroOf Try.prog 72 = some (.nilFunc) := by kernel_rfl
-- kind 72 : func
theorem agg73 : isAggT Try.prog 73 = some false := by kernel_rfl
theorem sz73 : szOf Try.prog 73 = some 1 := by kernel_rfl
theorem by73 : byOf Try.prog 73 = some 8 := by kernel_rfl
theorem zero73 : zeroOf Try.prog 73 = some (.nilFunc) := by kernel_rfl
-- kind 73 : func
theorem agg74 : isAggT Try.prog 74 = some true := by kernel_rfl
theorem sz74 : szOf Try.prog 74 = some 2 := by kernel_rfl
theorem by74 : byOf Try.prog 74 = some 32 := by kernel_rfl
theorem zero74 : zeroOf Try.prog 74 = some (.agg #[.slice none 0 0, .int .i64 0]) := by kernel_rfl
-- kind 74 : struct
-- struct 74 : 23 47
theorem places74 : placesOf Try.prog 74 = some [(0, 1), (1, 1)] := by kernel_rfl
theorem agg75 : isAggT Try.prog 75 = some true := by kernel_rfl
theorem sz75 : szOf Try.prog 75 = some 2 := by kernel_rfl
theorem by75 : byOf Try.prog 75 = some 32 := by kernel_rfl
theorem zero75 : zeroOf Try.prog 75 = some (.agg #[.slice none 0 0, .int .i64 0]) := by kernel_rfl
-- kind 75 : struct
-- struct 75 : 23 47
theorem places75 : placesOf Try.prog 75 = some [(0, 1), (1, 1)] := by kernel_rfl
theorem agg76 : isAggT Try.prog 76 = some false := by kernel_rfl
theorem sz76 : szOf Try.prog 76 = some 1 := by kernel_rfl
theorem by76 : byOf Try.prog 76 = some 8 := by kernel_rfl
theorem zero76 : zeroOf Try.prog 76 = some (.nilFunc) := by kernel_rfl
-- kind 76 : func
theorem agg77 : isAggT Try.prog 77 = some false := by kernel_rfl
theorem sz77 : szOf Try.prog 77 = some 1 := by kernel_rfl
theorem by77 : byOf Try.prog 77 = some 8 := by kernel_rfl
theorem zero77 : zeroOf Try.prog 77 = some (.nilFunc) := by kernel_rfl
-- kind 77 : func
theorem agg78 : isAggT Try.prog 78 = some false := by kernel_rfl
theorem sz78 : szOf Try.prog 78 = some 1 := by kernel_rfl
theorem by78 : byOf Try.prog 78 = some 8 := by kernel_rfl
theorem zero78 : zeroOf Try.prog 78 = some (.nilFunc) := by kernel_rfl
-- kind 78 : func
theorem agg79 : isAggT Try.prog 79 = some false := by kernel_rfl
theorem sz79 : szOf Try.prog 79 = some 1 := by kernel_rfl
theorem by79 : byOf Try.prog 79 = some 8 := by kernel_rfl
theorem zero79 : zeroOf Try.prog 79 = some (.nilFunc) := by kernel_rfl
-- kind 79 : func
theorem agg80 : isAggT Try.prog 80 = some false := by kernel_rfl
theorem sz80 : szOf Try.prog 80 = some 1 := by kernel_rfl
theorem by80 : byOf Try.prog 80 = some 8 := by kernel_rfl
theorem zero80 : zeroOf Try.prog 80 = some (.nilFunc) := by kernel_rfl
-- kind 80 : func
theorem agg81 : isAggT Try.prog 81 = some false := by kernel_rfl
theorem sz81 : szOf Try.prog 81 = some 1 := by kernel_rfl
theorem by81 : byOf Try.prog 81 = some 8 := by kernel_rfl
theorem zero81 : zeroOf Try.prog 81 = some (.nilFunc) := by kernel_rfl
-- kind 81 : func
theorem agg82 : isAggT Try.prog 82 = some false := by kernel_rfl
theorem sz82 : szOf Try.prog 82 = some 1 := by kernel_rfl
theorem by82 : byOf Try.prog 82 = some 8 := by kernel_rfl
theorem zero82 : zeroOf Try.prog 82 = some (.nilFunc) := by kernel_rfl
-- kind 82 : func
theorem agg84 : isAggT Try.prog 84 = some false := by kernel_rfl
theorem sz84 : szOf Try.prog 84 = some 1 := by kernel_rfl
theorem by84 : byOf Try.prog 84 = some 8 := by kernel_rfl
theorem zero84 : zeroOf Try.prog 84 = some (.nilFunc) := by kernel_rfl
-- kind 84 : func
theorem agg86 : isAggT Try.prog 86 = some false := by kernel_rfl
theorem sz86 : szOf Try.prog 86 = some 1 := by kernel_rfl
theorem by86 : byOf Try.prog 86 = some 8 := by kernel_rfl
theorem zero86 : zeroOf Try.prog 86 = some (.nilFunc) := by kernel_rfl
-- kind 86 : func
theorem agg87 : isAggT Try.prog 87 = some false := by kernel_rfl
theorem sz87 : szOf Try.prog 87 = some 1 := by kernel_rfl
theorem by87 : byOf Try.prog 87 = some 8 := by kernel_rfl
theorem zero87 : zeroOf Try.prog 87 = some (.nilFunc) := by kernel_rfl
-- kind 87 : func
theorem agg88 : isAggT Try.prog 88 = some true := by kernel_rfl
theorem sz88 : szOf Try.prog 88 = some 4 := by kernel_rfl
theorem by88 : byOf Try.prog 88 = some 32 := by kernel_rfl
theorem zero88 : zeroOf Try.prog 88 = some (.agg #[.pointer none, .int .i64 0, .int .i64 0, .bool false]) := by kernel_rfl
-- kind 88 : struct
-- struct 88 : 51 3 3 4
theorem places88 : placesOf Try.prog 88 = some [(0, 1), (1, 1), (2, 1), (3, 1)] := by kernel_rfl
theorem agg89 : isAggT Try.prog 89 = some true := by kernel_rfl
theorem sz89 : szOf Try.prog 89 = some 4 := by kernel_rfl
theorem by89 : byOf Try.prog 89 = some 32 := by kernel_rfl
theorem zero89 : zeroOf Try.prog 89 = some (.agg #[.pointer none, .int .i64 0, .int .i64 0, .bool false]) := by kernel_rfl
-- kind 89 : struct
-- struct 89 : 51 3 3 4
theorem places89 : placesOf Try.prog 89 = some [(0, 1), (1, 1), (2, 1), (3, 1)] := by kernel_rfl
theorem agg90 : isAggT Try.prog 90 = some false := by kernel_rfl
theorem sz90 : szOf Try.prog 90 = some 1 := by kernel_rfl
theorem by90 : byOf Try.prog 90 = some 8 := by kernel_rfl
theorem zero90 : zeroOf Try.prog 90 = some (.map none) := by kernel_rfl
-- kind 90 : map
theorem agg91 : isAggT Try.prog 91 = some true := by kernel_rfl
theorem sz91 : szOf Try.prog 91 = some 5 := by kernel_rfl
theorem by91 : byOf Try.prog 91 = some 32 := by kernel_rfl
theorem zero91 : zeroOf Try.prog 91 = some (.agg #[.map none, .int .i64 0, .bool false, .bool false, .int .i64 0]) := by kernel_rfl
-- kind 91 : struct
-- struct 91 : 90 3 4 4 3
theorem places91 : placesOf Try.prog 91 = some [(0, 1), (1, 1), (2, 1), (3, 1), (4, 1)] := by kernel_rfl
theorem agg92 : isAggT Try.prog 92 = some true := by kernel_rfl
theorem sz92 : szOf Try.prog 92 = some 5 := by kernel_rfl
theorem by92 : byOf Try.prog 92 = some 32 := by kernel_rfl
theorem zero92 : zeroOf Try.prog 92 = some (.agg #[.map none, .int .i64 0, .bool false, .bool false, .int .i64 0]) := by kernel_rfl
-- kind 92 : struct
-- struct 92 : 90 3 4 4 3
theorem places92 : placesOf Try.prog 92 = some [(0, 1), (1, 1), (2, 1), (3, 1), (4, 1)] := by kernel_rfl
theorem agg93 : isAggT Try.prog 93 = some true := by kernel_rfl
theorem sz93 : szOf Try.prog 93 = some 2 := by kernel_rfl
theorem by93 : byOf Try.prog 93 = some 32 := by kernel_rfl
theorem zero93 : zeroOf Try.prog 93 = some (.agg #[.slice none 0 0, .int .i64 0]) := by kernel_rfl
-- kind 93 : struct
-- struct 93 : 23 3
theorem places93 : placesOf Try.prog 93 = some [(0, 1), (1, 1)] := by kernel_rfl
theorem agg94 : isAggT Try.prog 94 = some true := by kernel_rfl
theorem sz94 : szOf Try.prog 94 = some 2 := by kernel_rfl
theorem by94 : byOf Try.prog 94 = some 32 := by kernel_rfl
theorem zero94 : zeroOf Try.prog 94 = some (.agg #[.slice none 0 0, .int .i64 0]) := by kernel_rfl
-- kind 94 : struct
-- struct 94 : 23 3
theorem places94 : placesOf Try.prog 94 = some [(0, 1), (1, 1)] := by kernel_rfl
theorem agg95 : isAggT Try.prog 95 = some false := by kernel_rfl
theorem sz95 : szOf Try.prog 95 = some 1 := by kernel_rfl
theorem by95 : byOf Try.prog 95 = some 8 := by kernel_rfl
theorem zero95 : zeroOf Try.prog 95 = some (.nilFunc) := by kernel_rfl
-- kind 95 : func
theorem agg96 : isAggT Try.prog 96 = some false := by kernel_rfl
theorem sz96 : szOf Try.prog 96 = some 1 := by kernel_rfl
theorem by96 : byOf Try.prog 96 = some 8 := by kernel_rfl
theorem zero96 : zeroOf Try.prog 96 = some (.nilFunc) := by kernel_rfl
-- kind 96 : func
theorem agg97 : isAggT Try.prog 97 = some false := by kernel_rfl
theorem sz97 : szOf Try.prog 97 = some 1 := by kernel_rfl
theorem by97 : byOf Try.prog 97 = some 24 := by kernel_rfl
theorem zero97 : zeroOf Try.prog 97 = some (.slice none 0 0) := by kernel_rfl
theorem elem97 : elemOf Try.prog 97 = some 99 := by kernel_rfl
theorem isrow97 : isRowT Try.prog 97 = true := by kernel_rfl
-- kind 97 : slice
theorem agg98 : isAggT Try.prog 98 = some false := by kernel_rfl
theorem sz98 : szOf Try.prog 98 = some 1 := by kernel_rfl
theorem by98 : byOf Try.prog 98 = some 8 := by kernel_rfl
theorem zero98 : zeroOf Try.prog 98 = some (.nilFunc) := by kernel_rfl
-- kind 98 : func
theorem agg99 : isAggT Try.prog 99 = some false := by kernel_rfl
theorem sz99 : szOf Try.prog 99 = some 1 := by kernel_rfl
theorem by99 : byOf Try.prog 99 = some 8 := by kernel_rfl
theorem zero99 : zeroOf Try.prog 99 = some (.pointer none) := by kernel_rfl
-- kind 99 : pointer
theorem agg100 : isAggT Try.prog 100 = some false := by kernel_rfl
theorem sz100 : szOf Try.prog 100 = some 1 := by kernel_rfl
theorem by100 : byOf Try.prog 100 = some 8 := by kernel_rfl
theorem zero100 : zeroOf Try.prog 100 = some (.nilFunc) := by kernel_rfl
-- kind 100 : func
theorem agg101 : isAggT Try.prog 101 = some false := by kernel_rfl
theorem sz101 : szOf Try.prog 101 = some 1 := by kernel_rfl
theorem by101 : byOf Try.prog 101 = some 24 := by kernel_rfl
theorem zero101 : zeroOf Try.prog 101 = some (.slice none 0 0) := by kernel_rfl
theorem elem101 : elemOf Try.prog 101 = some 42 := by kernel_rfl
theorem isrow101 : isRowT Try.prog 101 = true := by kernel_rfl
-- kind 101 : slice
theorem agg102 : isAggT Try.prog 102 = some false := by kernel_rfl
theorem sz102 : szOf Try.prog 102 = some 1 := by kernel_rfl
theorem by102 : byOf Try.prog 102 = some 8 := by kernel_rfl
theorem zero102 : zeroOf Try.prog 102 = some (.nilFunc) := by kernel_rfl
-- kind 102 : func
theorem agg103 : isAggT Try.prog 103 = some false := by kernel_rfl
theorem sz103 : szOf Try.prog 103 = some 1 := by kernel_rfl
theorem by103 : byOf Try.prog 103 = some 8 := by kernel_rfl
theorem zero103 : zeroOf Try.prog 103 = some (.nilFunc) := by kernel_rfl
-- kind 103 : func
theorem agg104 : isAggT Try.prog 104 = some false := by kernel_rfl
theorem sz104 : szOf Try.prog 104 = some 1 := by kernel_rfl
theorem by104 : byOf Try.prog 104 = some 8 := by kernel_rfl
theorem zero104 : zeroOf Try.prog 104 = some (.pointer none) := by kernel_rfl
-- kind 104 : pointer
theorem agg105 : isAggT Try.prog 105 = some true := by kernel_rfl
theorem sz105 : szOf Try.prog 105 = some 2 := by kernel_rfl
theorem by105 : byOf Try.prog 105 = some 32 := by kernel_rfl
theorem zero105 : zeroOf Try.prog 105 = some (.agg #[.slice none 0 0, .int .i64 0]) := by kernel_rfl
-- kind 105 : struct
-- struct 105 : 23 47
theorem places105 : placesOf Try.prog 105 = some [(0, 1), (1, 1)] := by kernel_rfl
theorem agg106 : isAggT Try.prog 106 = some true := by kernel_rfl
theorem sz106 : szOf Try.prog 106 = some 2 := by kernel_rfl
theorem by106 : byOf Try.prog 106 = some 32 := by kernel_rfl
theorem zero106 : zeroOf Try.prog 106 = some (.agg #[.slice none 0 0, .int .i64 0]) := by kernel_rfl
-- kind 106 : struct
-- struct 106 : 23 47
theorem places106 : placesOf Try.prog 106 = some [(0, 1), (1, 1)] := by kernel_rfl
theorem agg107 : isAggT Try.prog 107 = some false := by kernel_rfl
theorem sz107 : szOf Try.prog 107 = some 1 := by kernel_rfl
theorem by107 : byOf Try.prog 107 = some 8 := by kernel_rfl
theorem zero107 : zeroOf Try.prog 107 = some (.nilFunc) := by kernel_rfl
-- kind 107 : func
theorem agg108 : isAggT Try.prog 108 = some false := by kernel_rfl
theorem sz108 : szOf Try.prog 108 = some 1 := by kernel_rfl
theorem by108 : byOf Try.prog 108 = some 8 := by kernel_rfl
theorem zero108 : zeroOf Try.prog 108 = some (.nilFunc) := by kernel_rfl
-- kind 108 : func
theorem agg109 : isAggT Try.prog 109 = some false := by kernel_rfl
theorem sz109 : szOf Try.prog 109 = some 1 := by kernel_rfl
theorem by109 : byOf Try.prog 109 = some 8 := by kernel_rfl
theorem zero109 : zeroOf Try.prog 109 = some (.nilFunc) := by kernel_rfl
-- kind 109 : func
theorem agg110 : isAggT Try.prog 110 = some false := by kernel_rfl
theorem sz110 : szOf Try.prog 110 = some 1 := by kernel_rfl
theorem by110 : byOf Try.prog 110 = some 8 := by kernel_rfl
theorem zero110 : zeroOf Try.prog 110 = some (.nilFunc) := by kernel_rfl
-- kind 110 : func
theorem agg111 : isAggT Try.prog 111 = some false := by kernel_rfl
theorem sz111 : szOf Try.prog 111 = some 1 := by kernel_rfl
theorem by111 : byOf Try.prog 111 = some 8 := by kernel_rfl
theorem zero111 : zeroOf Try.prog 111 = some (.nilFunc) := by kernel_rfl
-- kind 111 : func

end Go.Proofs.Ythekokdpplobhaa.Eng

set_option linter.unusedVariables false
set_option linter.unusedSimpArgs false
namespace Go.Proofs.Ythekokdpplobhaa.Eng

def around (n : Int) (most : Int) : Int := if n < 0 then (-(n + 1)).tmod most else n.tmod most

def In64 (n : Int) : Prop := -9223372036854775808 ≤ n ∧ n ≤ 9223372036854775807
def InU (n : Int) : Prop := 0 ≤ n ∧ n < 18446744073709551616

theorem around_ok (O : Objs) (n most : Int) (hn : In64 n) (hm : most ≠ 0) : Spec Try.prog true 19 #[I n, I most] O fun v O' => v = I (around n most) ∧ O' = O := by
  unfold In64 at hn
  refine Spec.enter (args := [_, _]) (m := 13) Try.func19 rfl rfl (by decide +kernel) fun h0 => ?_
  refine WX.seq ?_
  refine WX.region rfl ?_
  refine WXL.assign Met.none rfl ?_
  refine WXL.nil ?_
  refine Fin.then_normal ?_
  refine WX.seq ?_
  refine WX.seq ?_
  refine WX.region rfl ?_
  refine WXL.move Met.none rfl ?_
  refine WXL.bin Met.none rfl rfl rfl ?_
  refine WXL.nil ?_
  refine Fin.then_normal ?_
  refine WX.cond rfl (fun hc0 => ?_) (fun hc0 => ?_)
  · try simp only [cnd] at hc0
    refine WX.region rfl ?_
    refine WXL.move Met.none rfl ?_
    refine WXL.bin Met.none rfl rfl bvA ?_
    refine WXL.neg Met.none rfl (by first | exact wrap_neg (by omega) (by omega) | exact rfl) ?_
    refine WXL.assign Met.none rfl ?_
    refine WXL.nil ?_
    refine Fin.then_normal ?_
    refine WX.seq ?_
    refine WX.region rfl ?_
    refine WXL.move Met.none rfl ?_
    refine WXL.move Met.none rfl ?_
    refine WXL.rem Met.none rfl rfl (by omega) ?_
    refine WXL.assign Met.none rfl ?_
    refine WXL.nil ?_
    refine Fin.then_normal ?_
    refine WX.ret ?_
    exact Fin.result (.inr rfl) rfl rfl (fun _ h => h) ⟨by unfold around; first | (rw [if_pos (by assumption)]; exact rfl) | (rw [if_neg (by omega)]; exact rfl), rfl⟩
  · try simp only [cnd] at hc0
    refine WX.skip ?_
    refine Fin.then_normal ?_
    refine WX.seq ?_
    refine WX.region rfl ?_
    refine WXL.move Met.none rfl ?_
    refine WXL.move Met.none rfl ?_
    refine WXL.rem Met.none rfl rfl (by omega) ?_
    refine WXL.assign Met.none rfl ?_
    refine WXL.nil ?_
    refine Fin.then_normal ?_
    refine WX.ret ?_
    exact Fin.result (.inr rfl) rfl rfl (fun _ h => h) ⟨by unfold around; first | (rw [if_pos (by assumption)]; exact rfl) | (rw [if_neg (by omega)]; exact rfl), rfl⟩

theorem take_succ_nth {α : Type} [Inhabited α] {l : List α} {k : Nat} (h : k < l.length) : l.take (k + 1) = l.take k ++ [nth l k] := by
  rw [List.take_add_one, nth_eq h]; rfl

abbrev Short {α : Type} (l : List α) : Prop := l.length ≤ 4611686018427387904

theorem sameB_ok (O : Objs) (l m : List Int) (a b : Option Addr) (c e : Nat) (hlen : Short l) (hl : Src O 1 (.slice a l.length c) l.length (l.map B8)) (hm : Src O 1 (.slice b m.length e) m.length (m.map B8)) :
    Spec Try.prog true 11 #[.slice a l.length c, .slice b m.length e] O fun v O' => v = .bool (decide (l = m)) ∧ O' = O := by
  unfold Short at hlen
  refine Spec.enter (args := [_, _]) (m := 26) Try.func11 rfl rfl (by decide +kernel) fun h0 => ?_
  refine WX.seq ?_
  refine WX.region rfl ?_
  refine WXL.assign Met.none rfl ?_
  refine WXL.nil ?_
  refine Fin.then_normal ?_
  refine WX.seq ?_
  refine WX.seq ?_
  refine WX.region rfl ?_
  refine WXL.move Met.none rfl ?_
  refine WXL.len Met.none rfl Try.underlying23 ?_
  refine WXL.move Met.none rfl ?_
  refine WXL.len Met.none rfl Try.underlying23 ?_
  refine WXL.bin Met.none rfl rfl rfl ?_
  refine WXL.nil ?_
  refine Fin.then_normal ?_
  refine WX.cond rfl (fun hc0 => ?_) (fun hc0 => ?_)
  · try simp only [cnd] at hc0
    refine WX.seq ?_
    refine WX.region rfl ?_
    refine WXL.assign Met.none rfl ?_
    refine WXL.nil ?_
    refine Fin.then_normal ?_
    refine WX.ret ?_
    refine Fin.then_ret ?_
    refine Fin.result (.inr rfl) rfl rfl (fun _ h => h) ⟨?_, rfl⟩
    first
    | exact bool_false (fun h => hc0 (by rw [h]))
    | exact bool_false (fun h => hc2 (by rw [h]))
    | exact bool_true (by
        have e1 : k = l.length := by omega
        have e2 := hk.2
        rw [e1, List.take_length, List.take_of_length_le (by omega)] at e2
        exact e2)
  · try simp only [cnd] at hc0
    refine WX.skip ?_
    refine Fin.then_normal ?_
    refine WX.seq ?_
    refine WX.seq ?_
    refine WX.region rfl ?_
    refine WXL.assign Met.none rfl ?_
    refine WXL.nil ?_
    refine Fin.then_normal ?_
    refine WX.block ?_
    refine WX.loop (fun k : Nat => [(0, .slice a l.length c), (1, .slice b m.length e), (5, I k)]) (fun _ => O) (fun k => k ≤ l.length ∧ l.take k = m.take k) (fun k => l.length - k) 0 ⟨Nat.zero_le _, rfl⟩ (fun s hs => hs.tl [] 0) (fun k hk => ?_)
    refine WX.seq ?_
    refine WX.seq ?_
    refine WX.region rfl ?_
    refine WXL.move Met.none rfl ?_
    refine WXL.move Met.none rfl ?_
    refine WXL.len Met.none rfl Try.underlying23 ?_
    refine WXL.bin Met.none rfl rfl rfl ?_
    refine WXL.nil ?_
    refine Fin.then_normal ?_
    refine WX.cond rfl (fun hc1 => ?_) (fun hc1 => ?_)
    · try simp only [cnd] at hc1
      refine WX.skip ?_
      refine Fin.then_normal ?_
      refine WX.seq ?_
      refine WX.block ?_
      refine WX.seq ?_
      refine WX.draw rfl ?_
      refine WXL.move Met.none rfl ?_
      refine WXL.move Met.none rfl ?_
      first | refine WXL.ix Met.none rfl rfl elem23 sz5 ?_ | refine WXL.ixS Met.none rfl rfl elem23 sz5 ?_
      first | refine WXL.ld Met.none rfl agg5 ?_ | refine WXL.ldS Met.none rfl agg5 ?_
      refine WXL.move Met.none rfl ?_
      refine WXL.move Met.none rfl ?_
      first | refine WXL.ix Met.none rfl rfl elem23 sz5 ?_ | refine WXL.ixS Met.none rfl rfl elem23 sz5 ?_
      first | refine WXL.ld Met.none rfl agg5 ?_ | refine WXL.ldS Met.none rfl agg5 ?_
      refine WXL.bin Met.none rfl rfl rfl ?_
      refine WXL.nil ?_
      refine Fin.then_normal ?_
      refine WX.cond rfl (fun hc2 => ?_) (fun hc2 => ?_)
      · try simp only [cnd] at hc2
        refine WX.seq ?_
        refine WX.region rfl ?_
        refine WXL.assign Met.none rfl ?_
        refine WXL.nil ?_
        refine Fin.then_normal ?_
        refine WX.ret ?_
        refine Fin.block_ret ?_
        refine Fin.then_ret ?_
        refine Fin.loop_ret ?_
        refine Fin.block_ret ?_
        refine Fin.then_ret ?_
        refine Fin.result (.inr rfl) rfl rfl (fun _ h => h) ⟨?_, rfl⟩
        first
        | exact bool_false (fun h => hc0 (by rw [h]))
        | exact bool_false (fun h => hc2 (by rw [h]))
        | exact bool_true (by
            have e1 : k = l.length := by omega
            have e2 := hk.2
            rw [e1, List.take_length, List.take_of_length_le (by omega)] at e2
            exact e2)
      · try simp only [cnd] at hc2
        refine WX.skip ?_
        refine Fin.block_normal ?_
        refine Fin.then_normal ?_
        refine WX.region rfl ?_
        refine WXL.move Met.none rfl ?_
        refine WXL.bin Met.none rfl rfl bvA ?_
        refine WXL.assign Met.none rfl ?_
        refine WXL.nil ?_
        refine Fin.loop_next (k + 1) ⟨by omega, ?_⟩ (by omega) (fun s hs => hs.tl [] 0)
        rw [take_succ_nth (by omega), take_succ_nth (by omega), hk.2, hc2]
    · try simp only [cnd] at hc1
      refine WX.exit ?_
      refine Fin.then_exit ?_
      refine Fin.loop_exit ?_
      refine Fin.block_hit rfl ?_
      refine Fin.then_normal ?_
      refine WX.seq ?_
      refine WX.region rfl ?_
      refine WXL.assign Met.none rfl ?_
      refine WXL.nil ?_
      refine Fin.then_normal ?_
      refine WX.ret ?_
      refine Fin.result (.inr rfl) rfl rfl (fun _ h => h) ⟨?_, rfl⟩
      first
      | exact bool_false (fun h => hc0 (by rw [h]))
      | exact bool_false (fun h => hc2 (by rw [h]))
      | exact bool_true (by
          have e1 : k = l.length := by omega
          have e2 := hk.2
          rw [e1, List.take_length, List.take_of_length_le (by omega)] at e2
          exact e2)

/-- The bits of two numbers without a sign. -/
def xorU (a b : Int) : Int := IntKind.wrap .u64 ((BitVec.ofInt 64 a) ^^^ (BitVec.ofInt 64 b)).toNat
def mixU (s w : Int) : Int := xorU (IntKind.wrap .u64 (xorU s w * 11400714819323198485)) ((IntKind.wrap .u64 (xorU s w * 11400714819323198485)).fdiv 4294967296)

theorem mix_ok (O : Objs) (s w : Int) : Spec Try.prog true 72 #[U s, U w] O fun v O' => v = U (mixU s w) ∧ O' = O := by
  refine Spec.enter (args := [_, _]) (m := 14) Try.func72 rfl rfl (by decide +kernel) fun h0 => ?_
  refine WX.seq ?_
  refine WX.region rfl ?_
  refine WXL.assign Met.none rfl ?_
  refine WXL.nil ?_
  refine Fin.then_normal ?_
  refine WX.seq ?_
  refine WX.region rfl ?_
  refine WXL.move Met.none rfl ?_
  refine WXL.move Met.none rfl ?_
  refine WXL.bin Met.none rfl rfl rfl ?_
  refine WXL.bin Met.none rfl rfl bvM ?_
  refine WXL.assign Met.none rfl ?_
  refine WXL.nil ?_
  refine Fin.then_normal ?_
  refine WX.seq ?_
  refine WX.region rfl ?_
  refine WXL.move Met.none rfl ?_
  refine WXL.move Met.none rfl ?_
  refine WXL.shr Met.none rfl rfl (by omega) ?_
  refine WXL.bin Met.none rfl rfl rfl ?_
  refine WXL.assign Met.none rfl ?_
  refine WXL.nil ?_
  refine Fin.then_normal ?_
  refine WX.ret ?_
  exact Fin.result (O' := O) (.inr rfl) rfl rfl drop_ ⟨rfl, rfl⟩

theorem wrapU_range (n : Int) : InU (IntKind.wrap .u64 n) := by
  unfold IntKind.wrap InU
  have e1 : (2 : Int) ^ IntKind.bits .u64 = 18446744073709551616 := rfl
  have e3 : IntKind.signed .u64 = false := rfl
  simp only [e1, e3, Bool.false_and, Bool.false_eq_true, if_false]
  omega

theorem quoU {n k : Int} (h : InU n) (hk : 0 < k) : IntKind.wrap .u64 (n.tdiv k) = n.fdiv k := by
  unfold InU at h
  have e1 : n.tdiv k = n.fdiv k := by rw [Int.tdiv_eq_ediv_of_nonneg h.1, Int.fdiv_eq_ediv_of_nonneg _ (by omega)]
  have h2 := (tdiv_bound (a := n) hk).1 h.1
  rw [wrap_u64 h2.1 (by omega), e1]

theorem refMix_ok (O : Objs) (s w : Int) : Spec Try.prog true 76 #[U s, U w] O fun v O' => v = U (mixU s w) ∧ O' = O := by
  refine Spec.enter (args := [_, _]) (m := 14) Try.func76 rfl rfl (by decide +kernel) fun h0 => ?_
  refine WX.seq ?_
  refine WX.region rfl ?_
  refine WXL.assign Met.none rfl ?_
  refine WXL.nil ?_
  refine Fin.then_normal ?_
  refine WX.seq ?_
  refine WX.region rfl ?_
  refine WXL.move Met.none rfl ?_
  refine WXL.move Met.none rfl ?_
  refine WXL.bin Met.none rfl rfl rfl ?_
  refine WXL.bin Met.none rfl rfl bvM ?_
  refine WXL.assign Met.none rfl ?_
  refine WXL.nil ?_
  refine Fin.then_normal ?_
  refine WX.seq ?_
  refine WX.region rfl ?_
  refine WXL.move Met.none rfl ?_
  refine WXL.move Met.none rfl ?_
  refine WXL.qu Met.none rfl rfl ?_ (hr := (quoU (k := 4294967296) (wrapU_range _) (by decide)))
  refine WXL.bin Met.none rfl rfl rfl ?_
  refine WXL.assign Met.none rfl ?_
  refine WXL.nil ?_
  refine Fin.then_normal ?_
  refine WX.ret ?_
  exact Fin.result (O' := O) (.inr rfl) rfl rfl drop_ ⟨rfl, rfl⟩

/-- Zigzag: small numbers stay small. -/
def zigU (n : Int) : Int := if n < 0 then -2 * n - 1 else 2 * n

theorem zigU_range {n : Int} (h : In64 n) : InU (zigU n) := by
  unfold In64 at h
  unfold zigU InU
  split <;> omega

theorem refZig_ok (O : Objs) (n : Int) (h : In64 n) : Spec Try.prog true 75 #[I n] O fun v O' => v = U (zigU n) ∧ O' = O := by
  unfold In64 at h
  refine Spec.enter (args := [_]) (m := 14) Try.func75 rfl rfl (by decide +kernel) fun h0 => ?_
  refine WX.seq ?_
  refine WX.region rfl ?_
  refine WXL.assign Met.none rfl ?_
  refine WXL.nil ?_
  refine Fin.then_normal ?_
  refine WX.seq ?_
  refine WX.seq ?_
  refine WX.region rfl ?_
  refine WXL.move Met.none rfl ?_
  refine WXL.bin Met.none rfl rfl rfl ?_
  refine WXL.nil ?_
  refine Fin.then_normal ?_
  refine WX.cond rfl (fun hc0 => ?_) (fun hc0 => ?_)
  · try simp only [cnd] at hc0
    refine WX.seq ?_
    refine WX.region rfl ?_
    refine WXL.move Met.none rfl ?_
    refine WXL.bin Met.none rfl rfl bvA ?_
    refine WXL.neg Met.none rfl (by first | exact wrap_neg (by omega) (by omega) | exact rfl) ?_
    refine WXL.conv Met.none rfl Try.underlying3 Try.underlying42 cv_ ?_
    refine WXL.bin Met.none rfl rfl (by unfold binV; exact congrArg (fun n => some (Value.int .u64 n)) (wrap_u64 (by omega) (by omega))) ?_
    refine WXL.bin Met.none rfl rfl (by unfold binV; exact congrArg (fun n => some (Value.int .u64 n)) (wrap_u64 (by omega) (by omega))) ?_
    refine WXL.assign Met.none rfl ?_
    refine WXL.nil ?_
    refine Fin.then_normal ?_
    refine WX.ret ?_
    refine Fin.then_ret ?_
    exact Fin.result (O' := O) (.inr rfl) rfl rfl drop_ ⟨congrArg U (by unfold zigU; split <;> omega), rfl⟩
  · try simp only [cnd] at hc0
    refine WX.skip ?_
    refine Fin.then_normal ?_
    refine WX.seq ?_
    refine WX.region rfl ?_
    refine WXL.move Met.none rfl ?_
    refine WXL.conv Met.none rfl Try.underlying3 Try.underlying42 cv_ ?_
    refine WXL.bin Met.none rfl rfl (by unfold binV; exact congrArg (fun n => some (Value.int .u64 n)) (wrap_u64 (by omega) (by omega))) ?_
    refine WXL.assign Met.none rfl ?_
    refine WXL.nil ?_
    refine Fin.then_normal ?_
    refine WX.ret ?_
    exact Fin.result (O' := O) (.inr rfl) rfl rfl drop_ ⟨congrArg U (by unfold zigU; split <;> omega), rfl⟩

end Go.Proofs.Ythekokdpplobhaa.Eng

set_option linter.unusedVariables false
set_option linter.unusedSimpArgs false
namespace Go.Proofs.Ythekokdpplobhaa.Eng

theorem wrap_mod (n : Int) : IntKind.wrap .u64 n = n % 18446744073709551616 := by
  unfold IntKind.wrap
  have e1 : (2 : Int) ^ IntKind.bits .u64 = 18446744073709551616 := rfl
  have e3 : IntKind.signed .u64 = false := rfl
  simp only [e1, e3, Bool.false_and, Bool.false_eq_true, if_false]

theorem xorU_zero {a : Int} (h : InU a) : xorU a 0 = a := by
  unfold InU at h
  unfold xorU
  have e : (BitVec.ofInt 64 0) = 0#64 := rfl
  rw [e, BitVec.xor_zero, BitVec.toNat_ofInt]
  rw [wrap_mod]
  omega

theorem xorU_ones {a : Int} (h : InU a) : xorU a 18446744073709551615 = 18446744073709551615 - a := by
  unfold InU at h
  unfold xorU
  have e : (BitVec.ofInt 64 18446744073709551615) = BitVec.allOnes 64 := rfl
  rw [e, BitVec.xor_allOnes, BitVec.toNat_not, BitVec.toNat_ofInt, wrap_mod]
  omega

theorem zig_eq {n : Int} (h : In64 n) : xorU (IntKind.wrap .u64 (IntKind.wrap .u64 n * 2 ^ (min (1 : Int).toNat (IntKind.bits .u64)))) (IntKind.wrap .u64 (n.fdiv (2 ^ (min (63 : Int).toNat (IntKind.bits .i64))))) = zigU n := by
  unfold In64 at h
  have e1 : ((2 : Int) ^ (min (1 : Int).toNat (IntKind.bits .u64))) = 2 := rfl
  have e2 : ((2 : Int) ^ (min (63 : Int).toNat (IntKind.bits .i64))) = 9223372036854775808 := rfl
  rw [e1, e2, Int.fdiv_eq_ediv_of_nonneg _ (by decide)]
  unfold zigU
  by_cases hn : n < 0
  · have e3 : n / 9223372036854775808 = -1 := by omega
    rw [if_pos hn, e3]
    have e4 : IntKind.wrap .u64 (-1) = 18446744073709551615 := by rw [wrap_mod]; rfl
    rw [e4, xorU_ones (wrapU_range _), wrap_mod, wrap_mod]
    omega
  · have e3 : n / 9223372036854775808 = 0 := by omega
    rw [if_neg hn, e3]
    have e4 : IntKind.wrap .u64 0 = 0 := by rw [wrap_mod]; rfl
    rw [e4, xorU_zero (wrapU_range _), wrap_mod, wrap_mod]
    omega

theorem zig_ok (O : Objs) (n : Int) (h : In64 n) : Spec Try.prog true 44 #[I n] O fun v O' => v = U (zigU n) ∧ O' = O := by
  refine Spec.enter (args := [_]) (m := 10) Try.func44 rfl rfl (by decide +kernel) fun h0 => ?_
  refine WX.seq ?_
  refine WX.region rfl ?_
  refine WXL.assign Met.none rfl ?_
  refine WXL.nil ?_
  refine Fin.then_normal ?_
  refine WX.seq ?_
  refine WX.region rfl ?_
  refine WXL.move Met.none rfl ?_
  refine WXL.conv Met.none rfl Try.underlying3 Try.underlying42 rfl ?_
  refine WXL.shl Met.none rfl rfl (by omega) ?_
  refine WXL.move Met.none rfl ?_
  refine WXL.shr Met.none rfl rfl (by omega) ?_
  refine WXL.conv Met.none rfl Try.underlying3 Try.underlying42 rfl ?_
  refine WXL.bin Met.none rfl rfl rfl ?_
  refine WXL.assign Met.none rfl ?_
  refine WXL.nil ?_
  refine Fin.then_normal ?_
  refine WX.ret ?_
  exact Fin.result (O' := O) (.inr rfl) rfl rfl drop_ ⟨congrArg U (zig_eq h), rfl⟩

/-- The varint of a number. -/
def varU (n : Nat) : List Int := if n < 128 then [(n : Int)] else (128 + n % 128 : Nat) :: varU (n / 128)
decreasing_by omega

theorem varU_lt {n : Nat} (h : n < 128) : varU n = [(n : Int)] := by rw [varU, if_pos h]
theorem varU_ge {n : Nat} (h : ¬ n < 128) : varU n = ((128 + n % 128 : Nat) : Int) :: varU (n / 128) := by rw [varU, if_neg h]

theorem varU_bytes (n : Nat) : Bytes (varU n) := by
  induction n using Nat.strongRecOn with
  | _ n ih =>
    by_cases h : n < 128
    · rw [varU_lt h]
      intro b hb
      rw [List.mem_singleton] at hb
      omega
    · rw [varU_ge h]
      intro b hb
      rcases List.mem_cons.1 hb with rfl | hb
      · omega
      · exact ih _ (by omega) b hb

theorem varU_len {k : Nat} : ∀ {n : Nat}, n < 128 ^ (k + 1) → (varU n).length ≤ k + 1 := by
  induction k with
  | zero => intro n h; rw [varU_lt (by simpa using h)]; simp
  | succ k ih =>
    intro n h
    by_cases hn : n < 128
    · rw [varU_lt hn]; simp
    · rw [varU_ge hn, List.length_cons]
      have := ih (n := n / 128) (by rw [Nat.pow_succ] at h; exact Nat.div_lt_of_lt_mul (by omega))
      omega

end Go.Proofs.Ythekokdpplobhaa.Eng

set_option linter.unusedVariables false
set_option linter.unusedSimpArgs false
namespace Go.Proofs.Ythekokdpplobhaa.Eng

theorem mod128 {m : Nat} : ((m : Int).tmod 128) = ((m % 128 : Nat) : Int) := by
  rw [Int.tmod_eq_emod_of_nonneg (by omega)]
  omega

theorem div128 {m : Nat} (h : m < 18446744073709551616) : IntKind.wrap .u64 ((m : Int).tdiv 128) = ((m / 128 : Nat) : Int) := by
  rw [Int.tdiv_eq_ediv_of_nonneg (by omega), wrap_mod]
  omega

theorem refUint_ok (O : Objs) (n : Nat) (hn : n < 18446744073709551616) :
    Spec Try.prog false 40 #[U (n : Int)] O fun v O' => ∃ a c G, v = .slice a (varU n).length c ∧ Grow 1 a (varU n).length c ((varU n).map B8) G ∧ O' = G ++ O := by
  have hlen : (varU n).length ≤ 10 := varU_len (k := 9) (by omega)
  refine Spec.enter (args := [_]) (m := 20) Try.func40 rfl rfl (by decide +kernel) fun h0 => ?_
  refine WX.seq ?_
  refine WX.region rfl ?_
  refine WXL.assign Met.none rfl ?_
  refine WXL.nil ?_
  refine Fin.then_normal ?_
  refine WX.seq ?_
  refine WX.region rfl ?_
  refine WXL.assign Met.none rfl ?_
  refine WXL.nil ?_
  refine Fin.then_normal ?_
  refine WX.seq ?_
  refine WX.block ?_
  refine WX.loop (fun q : Nat × List Int × Option Addr × Nat × Objs => [(0, U (q.1 : Int)), (3, .slice q.2.2.1 q.2.1.length q.2.2.2.1)]) (fun q => q.2.2.2.2 ++ O) (fun q => q.2.1 ++ varU q.1 = varU n ∧ q.1 < 18446744073709551616 ∧ Grow 1 q.2.2.1 q.2.1.length q.2.2.2.1 (q.2.1.map B8) q.2.2.2.2) (fun q => q.1) (n, [], none, 0, []) ⟨rfl, hn, .nil⟩ (fun s hs => hs.tl [] 0) (fun q hq => ?_)
  obtain ⟨m, pre, a, c, G⟩ := q
  obtain ⟨h1, h2, hG⟩ := hq
  simp only at h1 h2 hG
  dsimp only
  have hpl : pre.length ≤ 10 := by rw [← h1, List.length_append] at hlen; omega
  refine WX.seq ?_
  refine WX.seq ?_
  refine WX.region rfl ?_
  refine WXL.move Met.none rfl ?_
  refine WXL.bin Met.none rfl rfl rfl ?_
  refine WXL.nil ?_
  refine Fin.then_normal ?_
  refine WX.cond rfl (fun hc0 => ?_) (fun hc0 => ?_)
  · try simp only [cnd] at hc0
    refine WX.skip ?_
    refine Fin.then_normal ?_
    refine WX.block ?_
    refine WX.seq ?_
    refine WX.region rfl ?_
    refine WXL.move Met.none rfl ?_
    refine WXL.move Met.none rfl ?_
    refine WXL.rem Met.none rfl rfl (by decide) ?_
    rw [mod128]
    refine WXL.bin Met.none rfl rfl (show _ = some (U ((128 + m % 128 : Nat) : Int)) from congrArg (fun n => some (Value.int .u64 n)) ((wrap_u64 (by omega) (by omega)).trans (by omega))) ?_
    refine WXL.conv Met.none rfl Try.underlying42 Try.underlying5 (wrap_u8 (by omega) (by omega)) ?_
    refine WXL.buildSlice (c := [_]) Met.none rfl elem23 sz5 zero5 (by decide) (by decide) rfl rfl rfl rfl (fun b11 => ?_)
    refine WXL.apG [_] Met.none rfl rfl isrow23 elem23 sz5 by5 zero5 (Src.lit (cs := [_])) (fun a12 c12 G12 hG12 => ?_)
    refine WXL.assign Met.none rfl ?_
    refine WXL.nil ?_
    refine Fin.then_normal ?_
    refine WX.region rfl ?_
    refine WXL.move Met.none rfl ?_
    refine WXL.qu Met.none rfl rfl ?_ (hb := (by decide)) (hr := (div128 h2))
    refine WXL.assign Met.none rfl ?_
    refine WXL.nil ?_
    refine Fin.block_normal ?_
    refine Fin.loop_next (m / 128, pre ++ [((128 + m % 128 : Nat) : Int)], a12, c12, G12) ⟨?_, by simp only; omega, ?_⟩ ?_ ?_
    · simp only [List.append_assoc, List.singleton_append]
      rw [← varU_ge (by omega)]
      exact h1
    · simp only [List.length_append, List.length_singleton, List.map_append]; exact hG12
    · simp only; omega
    · simp only [List.length_append, List.length_singleton]; exact (fun s hs => hs.tl [] 1)
  · try simp only [cnd] at hc0
    refine WX.exit ?_
    refine Fin.then_exit ?_
    refine Fin.loop_exit ?_
    refine Fin.block_hit rfl ?_
    refine Fin.then_normal ?_
    refine WX.seq ?_
    have hm : m < 128 := by omega
    rw [varU_lt hm] at h1
    refine WX.region rfl ?_
    refine WXL.move Met.none rfl ?_
    refine WXL.move Met.none rfl ?_
    refine WXL.conv Met.none rfl Try.underlying42 Try.underlying5 (wrap_u8 (by omega) (by omega)) ?_
    refine WXL.buildSlice (c := [_]) Met.none rfl elem23 sz5 zero5 (by decide) (by decide) rfl rfl rfl rfl (fun b18 => ?_)
    refine WXL.apG [_] Met.none rfl rfl isrow23 elem23 sz5 by5 zero5 (Src.lit (cs := [_])) (fun a19 c19 G19 hG19 => ?_)
    refine WXL.assign Met.none rfl ?_
    refine WXL.nil ?_
    refine Fin.then_normal ?_
    refine WX.ret ?_
    refine Fin.result (O' := G19 ++ O) (.inr rfl) rfl rfl (fun _ hs => hs.tail) ⟨a19, c19, G19, ?_, ?_, rfl⟩
    · rw [← h1, List.length_append]; rfl
    · rw [← h1, List.length_append, List.map_append]; exact hG19

end Go.Proofs.Ythekokdpplobhaa.Eng

set_option linter.unusedVariables false
set_option linter.unusedSimpArgs false
namespace Go.Proofs.Ythekokdpplobhaa.Eng

/-- A writer that holds these bytes. -/
def wrO (b : Nat) (a : Option Addr) (n c : Nat) : Nat × Ent := (b, ⟨0, false, [.slice a n c]⟩)

theorem lor128 : ∀ x : BitVec 8, (x ||| 128#8).toNat = 128 + x.toNat % 128 := by decide +kernel

theorem byte_or {m : Nat} : IntKind.wrap .u8 (((BitVec.ofInt (IntKind.bits .u8) (IntKind.wrap .u8 (m : Int))) ||| (BitVec.ofInt (IntKind.bits .u8) 128)).toNat : Int) = ((128 + m % 128 : Nat) : Int) := by
  have e0 : IntKind.bits .u8 = 8 := rfl
  have e1 : (BitVec.ofInt 8 128) = 128#8 := rfl
  have e2 : IntKind.wrap .u8 (m : Int) = ((m % 256 : Nat) : Int) := by
    unfold IntKind.wrap
    have e1 : (2 : Int) ^ IntKind.bits .u8 = 256 := rfl
    have e3 : IntKind.signed .u8 = false := rfl
    simp only [e1, e3, Bool.false_and, Bool.false_eq_true, if_false]
    omega
  have e3 : ((BitVec.ofInt 8 (IntKind.wrap .u8 (m : Int))) ||| (BitVec.ofInt 8 128)).toNat = 128 + m % 128 := by
    rw [e1, lor128, e2, BitVec.toNat_ofInt]
    omega
  show IntKind.wrap .u8 ((((BitVec.ofInt 8 (IntKind.wrap .u8 (m : Int))) ||| (BitVec.ofInt 8 128)).toNat : Nat) : Int) = _
  rw [e3]
  exact wrap_u8 (by omega) (by omega)

theorem shr7 {m : Nat} : (m : Int).fdiv (2 ^ min (Int.toNat 7) (IntKind.bits .u64)) = ((m / 128 : Nat) : Int) := by
  have e : ((2 : Int) ^ min (Int.toNat 7) (IntKind.bits .u64)) = 128 := rfl
  rw [e, Int.fdiv_eq_ediv_of_nonneg _ (by decide)]
  omega

theorem wUint_ok (O G : Objs) (b : Nat) (l : List Int) (a : Option Addr) (c n : Nat) (hn : n < 18446744073709551616) (hl : l.length ≤ 1000000000) (hG : Grow 1 a l.length c (l.map B8) G) :
    Spec Try.prog false 23 #[Ptr b 0, U (n : Int)] ((b, ⟨0, false, [.slice a l.length c]⟩) :: (G ++ O)) fun v O' => ∃ a' c' G', Grow 1 a' (l ++ varU n).length c' ((l ++ varU n).map B8) G' ∧ O' = (b, ⟨0, false, [.slice a' (l ++ varU n).length c']⟩) :: (G' ++ O) := by
  have hlen : (varU n).length ≤ 10 := varU_len (k := 9) (by omega)
  refine Spec.enter (args := [_, _]) (m := 31) Try.func23 rfl rfl (by decide +kernel) fun h0 => ?_
  refine WX.seq ?_
  refine WX.block ?_
  refine WX.loop (fun q : Nat × List Int × Option Addr × Nat × Objs => [(0, Ptr b 0), (1, U (q.1 : Int))]) (fun q => (b, ⟨0, false, [.slice q.2.2.1 q.2.1.length q.2.2.2.1]⟩) :: (q.2.2.2.2 ++ O)) (fun q => q.2.1 ++ varU q.1 = l ++ varU n ∧ q.1 < 18446744073709551616 ∧ q.2.1.length ≤ l.length + 10 ∧ Grow 1 q.2.2.1 q.2.1.length q.2.2.2.1 (q.2.1.map B8) q.2.2.2.2) (fun q => q.1) (n, l, a, c, G) ⟨rfl, hn, by simp only; omega, hG⟩ (fun s hs => hs.tl [0] 1) (fun q hq => ?_)
  obtain ⟨m, pre, a, c, G⟩ := q
  obtain ⟨h1, h2, h3, hG⟩ := hq
  simp only at h1 h2 h3 hG
  dsimp only
  have hpl : pre.length + (varU m).length ≤ l.length + 10 := by
    have := congrArg List.length h1
    rw [List.length_append, List.length_append] at this
    omega
  have hvm : 1 ≤ (varU m).length := by rw [varU]; split <;> simp
  refine WX.seq ?_
  refine WX.seq ?_
  refine WX.region rfl ?_
  refine WXL.move Met.none rfl ?_
  refine WXL.bin Met.none rfl rfl rfl ?_
  refine WXL.nil ?_
  refine Fin.then_normal ?_
  refine WX.cond rfl (fun hc0 => ?_) (fun hc0 => ?_)
  · try simp only [cnd] at hc0
    refine WX.skip ?_
    refine Fin.then_normal ?_
    refine WX.seq ?_
    refine WX.block ?_
    refine WX.region rfl ?_
    refine WXL.move Met.none rfl ?_
    refine WXL.move Met.none rfl ?_
    refine WXL.nilCheck Met.none rfl ?_
    first | refine WXL.fieldAddr Met.none rfl Try.underlying37 rfl sz23 rfl ?_ | refine WXL.faS Met.none rfl Try.underlying37 rfl sz23 ?_
    first | refine WXL.ld Met.none rfl agg23 ?_ | refine WXL.ldS Met.none rfl agg23 ?_
    refine WXL.move Met.none rfl ?_
    refine WXL.conv Met.none rfl Try.underlying42 Try.underlying5 rfl ?_
    refine WXL.bin Met.none rfl rfl rfl ?_
    refine WXL.buildSlice (c := [_]) Met.none rfl elem23 sz5 zero5 (by decide) (by decide) rfl rfl rfl rfl (fun b16 => ?_)
    refine WXL.apG [_, _] Met.none rfl rfl isrow23 elem23 sz5 by5 zero5 (Src.lit (cs := [_])) (fun a17 c17 G17 hG17 => ?_)
    refine WXL.nilCheck Met.none rfl ?_
    first | refine WXL.fieldAddr Met.none rfl Try.underlying37 rfl sz23 rfl ?_ | refine WXL.faS Met.none rfl Try.underlying37 rfl sz23 ?_
    refine WXL.st (vs := [_]) Met.none rfl rfl rfl sz23 ?_
    refine WXL.nil ?_
    refine Fin.block_normal ?_
    refine Fin.then_normal ?_
    refine WX.region rfl ?_
    refine WXL.move Met.none rfl ?_
    refine WXL.shr Met.none rfl rfl (by omega) ?_
    refine WXL.assign Met.none rfl ?_
    refine WXL.nil ?_
    rw [byte_or] at hG17
    refine Fin.loop_next (m / 128, pre ++ [((128 + m % 128 : Nat) : Int)], a17, c17, G17) ⟨?_, by simp only; omega, ?_, ?_⟩ ?_ ?_
    · simp only [List.append_assoc, List.singleton_append]
      rw [← varU_ge (by omega)]
      exact h1
    · simp only [List.length_append, List.length_singleton]; omega
    · simp only [List.length_append, List.length_singleton, List.map_append]; exact hG17
    · simp only; omega
    · rw [shr7]
      simp only [List.length_append, List.length_singleton]
      exact (fun s hs => hs.tl [1] 2)
  · try simp only [cnd] at hc0
    refine WX.exit ?_
    refine Fin.then_exit ?_
    refine Fin.loop_exit ?_
    refine Fin.block_hit rfl ?_
    refine Fin.then_normal ?_
    have hm : m < 128 := by omega
    rw [varU_lt hm] at h1 hpl
    refine WX.region rfl ?_
    refine WXL.move Met.none rfl ?_
    refine WXL.move Met.none rfl ?_
    refine WXL.nilCheck Met.none rfl ?_
    first | refine WXL.fieldAddr Met.none rfl Try.underlying37 rfl sz23 rfl ?_ | refine WXL.faS Met.none rfl Try.underlying37 rfl sz23 ?_
    first | refine WXL.ld Met.none rfl agg23 ?_ | refine WXL.ldS Met.none rfl agg23 ?_
    refine WXL.move Met.none rfl ?_
    refine WXL.conv Met.none rfl Try.underlying42 Try.underlying5 (wrap_u8 (by omega) (by omega)) ?_
    refine WXL.buildSlice (c := [_]) Met.none rfl elem23 sz5 zero5 (by decide) (by decide) rfl rfl rfl rfl (fun b27 => ?_)
    refine WXL.apG [_, _] Met.none rfl rfl isrow23 elem23 sz5 by5 zero5 (Src.lit (cs := [_])) (fun a28 c28 G28 hG28 => ?_)
    refine WXL.nilCheck Met.none rfl ?_
    first | refine WXL.fieldAddr Met.none rfl Try.underlying37 rfl sz23 rfl ?_ | refine WXL.faS Met.none rfl Try.underlying37 rfl sz23 ?_
    refine WXL.st (vs := [_]) Met.none rfl rfl rfl sz23 ?_
    refine WXL.nil ?_
    refine Fin.result (O' := (b, ⟨0, false, [.slice a28 (pre.length + 1) c28]⟩) :: (G28 ++ O)) (.inl rfl) rfl rfl (fun _ hs => hs.tail) ⟨a28, c28, G28, ?_, ?_⟩
    · rw [← h1, List.length_append, List.map_append]; exact hG28
    · rw [← h1, List.length_append]; rfl

end Go.Proofs.Ythekokdpplobhaa.Eng

set_option linter.unusedVariables false
set_option linter.unusedSimpArgs false
namespace Go.Proofs.Ythekokdpplobhaa.Eng

theorem wInt_ok (O G : Objs) (b : Nat) (l : List Int) (a : Option Addr) (c : Nat) (n : Int) (hn : In64 n) (hl : l.length ≤ 1000000000) (hG : Grow 1 a l.length c (l.map B8) G) :
    Spec Try.prog false 20 #[Ptr b 0, I n] ((b, ⟨0, false, [.slice a l.length c]⟩) :: (G ++ O)) fun v O' => ∃ a' c' G', Grow 1 a' (l ++ varU (zigU n).toNat).length c' ((l ++ varU (zigU n).toNat).map B8) G' ∧ O' = (b, ⟨0, false, [.slice a' (l ++ varU (zigU n).toNat).length c']⟩) :: (G' ++ O) := by
  have hz := zigU_range hn
  have hz2 : U (zigU n) = U (((zigU n).toNat : Nat) : Int) := by unfold InU at hz; rw [Int.toNat_of_nonneg hz.1]
  unfold InU at hz
  refine Spec.enter (args := [_, _]) (m := 8) Try.func20 rfl rfl (by decide +kernel) fun h0 => ?_
  refine WX.region rfl ?_
  refine WXL.move Met.none rfl ?_
  refine WXL.move Met.none rfl ?_
  refine WXL.cl (O1 := _) Met.none rfl (fnOk_of Try.func44 (by decide +kernel)) rfl (fun _ h => h) (zig_ok _ n hn) (fun v O' hp => ?_)
  obtain ⟨rfl, hO⟩ := hp
  subst O'
  rw [hz2]
  refine WXL.cl (O1 := _) Met.none rfl (fnOk_of Try.func23 (by decide +kernel)) rfl (fun _ h => h) (wUint_ok O G b l a c (zigU n).toNat (by omega) hl hG) (fun v O' hp => ?_)
  obtain ⟨a', c', G', hG', rfl⟩ := hp
  refine WXL.nil ?_
  exact Fin.result (.inl rfl) rfl rfl (fun _ hs => hs) ⟨a', c', G', hG', rfl⟩

theorem wText_ok (O G : Objs) (b : Nat) (l s : List Int) (a : Option Addr) (c : Nat) (hs : Bytes s) (hsl : s.length ≤ 1000000000) (hl : l.length ≤ 1000000000) (hG : Grow 1 a l.length c (l.map B8) G) :
    Spec Try.prog false 45 #[Ptr b 0, .string (bstr s)] ((b, ⟨0, false, [.slice a l.length c]⟩) :: (G ++ O)) fun v O' => ∃ a' c' G', Grow 1 a' (l ++ (varU s.length ++ s)).length c' ((l ++ (varU s.length ++ s)).map B8) G' ∧ O' = (b, ⟨0, false, [.slice a' (l ++ (varU s.length ++ s)).length c']⟩) :: (G' ++ O) := by
  have hbs := bstr_size s
  have hlen : (varU s.length).length ≤ 10 := varU_len (k := 9) (by omega)
  have hll : (l ++ varU s.length).length = l.length + (varU s.length).length := List.length_append
  refine Spec.enter (args := [_, _]) (m := 18) Try.func45 rfl rfl (by decide +kernel) fun h0 => ?_
  refine WX.seq ?_
  refine WX.region rfl ?_
  refine WXL.move Met.none rfl ?_
  refine WXL.move Met.none rfl ?_
  refine WXL.lenS Met.none rfl Try.underlying9 ?_
  rw [hbs]
  refine WXL.conv Met.none rfl Try.underlying3 Try.underlying42 cv_ ?_
  refine WXL.cl (O1 := _) Met.none rfl (fnOk_of Try.func23 (by decide +kernel)) rfl (fun _ h => h) (wUint_ok O G b l a c s.length (by omega) hl hG) (fun v O' hp => ?_)
  obtain ⟨a1, c1, G1, hG1, rfl⟩ := hp
  refine WXL.nil ?_
  refine Fin.then_normal ?_
  refine WX.region rfl ?_
  refine WXL.move Met.none rfl ?_
  refine WXL.move Met.none rfl ?_
  refine WXL.nilCheck Met.none rfl ?_
  first | refine WXL.fieldAddr Met.none rfl Try.underlying37 rfl sz23 rfl ?_ | refine WXL.faS Met.none rfl Try.underlying37 rfl sz23 ?_
  first | refine WXL.ld Met.none rfl agg23 ?_ | refine WXL.ldS Met.none rfl agg23 ?_
  refine WXL.move Met.none rfl ?_
  refine WXL.apG [_] Met.none rfl rfl isrow9 elem23 sz5 by5 zero5 (Src.bstr hs) (fun a15 c15 G15 hG15 => ?_) (hm := (by rw [List.length_map]; omega))
  refine WXL.nilCheck Met.none rfl ?_
  first | refine WXL.fieldAddr Met.none rfl Try.underlying37 rfl sz23 rfl ?_ | refine WXL.faS Met.none rfl Try.underlying37 rfl sz23 ?_
  refine WXL.st (vs := [_]) Met.none rfl rfl rfl sz23 ?_
  refine WXL.nil ?_
  refine Fin.result (O' := (b, ⟨0, false, [.slice a15 ((l ++ varU s.length).length + s.length) c15]⟩) :: (G15 ++ O)) (.inl rfl) rfl rfl (fun _ hs => hs) ⟨a15, c15, G15, ?_, ?_⟩
  · rw [← List.append_assoc, List.length_append, List.map_append]; exact hG15
  · rw [← List.append_assoc, show (l ++ varU s.length ++ s).length = (l ++ varU s.length).length + s.length from List.length_append]

theorem wRaw_ok (O G : Objs) (b : Nat) (l s : List Int) (a as_ : Option Addr) (c cs : Nat) (hs : Bytes s) (hsl : s.length ≤ 1000000000) (hl : l.length ≤ 1000000000) (hG : Grow 1 a l.length c (l.map B8) G)
    (hsrc : Src ((b, ⟨0, false, [.slice a l.length c]⟩) :: (G ++ O)) 1 (.slice as_ s.length cs) s.length (s.map B8)) :
    Spec Try.prog false 21 #[Ptr b 0, .slice as_ s.length cs] ((b, ⟨0, false, [.slice a l.length c]⟩) :: (G ++ O)) fun v O' => ∃ a' c' G', Grow 1 a' (l ++ (varU s.length ++ s)).length c' ((l ++ (varU s.length ++ s)).map B8) G' ∧ O' = (b, ⟨0, false, [.slice a' (l ++ (varU s.length ++ s)).length c']⟩) :: (G' ++ O) := by
  refine Spec.enter (args := [_, _]) (m := 8) Try.func21 rfl rfl (by decide +kernel) fun h0 => ?_
  refine WX.region rfl ?_
  refine WXL.move Met.none rfl ?_
  refine WXL.move Met.none rfl ?_
  refine WXL.toStr Met.none rfl Try.underlying23 Try.underlying9 Try.underlying5 src_ ?_
  refine WXL.cl (O1 := _) Met.none rfl (fnOk_of Try.func45 (by decide +kernel)) rfl (fun _ h => h) (wText_ok O G b l s a c hs hsl hl hG) (fun v O' hp => ?_)
  obtain ⟨a', c', G', hG', rfl⟩ := hp
  refine WXL.nil ?_
  exact Fin.result (.inl rfl) rfl rfl (fun _ hs => hs) ⟨a', c', G', hG', rfl⟩

end Go.Proofs.Ythekokdpplobhaa.Eng

set_option linter.unusedVariables false
set_option linter.unusedSimpArgs false
namespace Go.Proofs.Ythekokdpplobhaa.Eng

theorem clone_ok (O : Objs) (l : List Int) (a : Option Addr) (c : Nat) (hlen : l.length ≤ 1000000000000) (hnil : a = none → l = []) (hl : Src O 1 (.slice a l.length c) l.length (l.map B8)) :
    Spec Try.prog false 46 #[.slice a l.length c] O fun v O' => ∃ a' c' G, v = .slice a' l.length c' ∧ Grow 1 a' l.length c' (l.map B8) G ∧ O' = G ++ O := by
  refine Spec.enter (args := [_]) (m := 8) Try.func46 rfl rfl (by decide +kernel) fun h0 => ?_
  refine WX.seq ?_
  refine WX.region rfl ?_
  refine WXL.assign Met.none rfl ?_
  refine WXL.nil ?_
  refine Fin.then_normal ?_
  refine WX.seq ?_
  refine WX.seq ?_
  refine WX.region rfl ?_
  refine WXL.move Met.none rfl ?_
  refine WXL.eqNil Met.none rfl rfl Try.underlying23 ?_
  refine WXL.nil ?_
  refine Fin.then_normal ?_
  refine WX.cond rfl (fun hc0 => ?_) (fun hc0 => ?_)
  · try simp only [cnd] at hc0
    refine WX.seq ?_
    refine WX.region rfl ?_
    refine WXL.assign Met.none rfl ?_
    refine WXL.nil ?_
    refine Fin.then_normal ?_
    refine WX.ret ?_
    refine Fin.then_ret ?_
    first
    | (have hla : l = [] := hnil (by simpa using hc0)
       subst hla
       exact Fin.result (O' := [] ++ O) (.inr rfl) rfl rfl drop_ ⟨none, 0, [], rfl, .nil, rfl⟩)
    | exact Fin.result (O' := [(b7, ⟨1, false, l.map B8⟩)] ++ O) (.inr rfl) rfl rfl (fun _ => Sat.tl [0] 1) ⟨some ⟨b7, 0, none⟩, _, [_], rfl, .row (by simp), rfl⟩
  · try simp only [cnd] at hc0
    refine WX.skip ?_
    refine Fin.then_normal ?_
    refine WX.seq ?_
    refine WX.region rfl ?_
    refine WXL.buildSlice (c := []) Met.none rfl elem23 sz5 zero5 (by decide) (by decide) rfl rfl rfl rfl (fun b5 => ?_)
    refine WXL.move Met.none rfl ?_
    refine WXL.ap Met.none rfl rfl isrow23 elem23 sz5 by5 zero5 src_ (fun b7 => ?_) (hc := (show _ = l.map B8 from rfl))
    rw [Nat.zero_add l.length]
    refine WXL.assign Met.none rfl ?_
    refine WXL.nil ?_
    refine Fin.then_normal ?_
    refine WX.ret ?_
    first
    | (have hla : l = [] := hnil (by simpa using hc0)
       subst hla
       exact Fin.result (O' := [] ++ O) (.inr rfl) rfl rfl drop_ ⟨none, 0, [], rfl, .nil, rfl⟩)
    | exact Fin.result (O' := [(b7, ⟨1, false, l.map B8⟩)] ++ O) (.inr rfl) rfl rfl (fun _ => Sat.tl [0] 1) ⟨some ⟨b7, 0, none⟩, _, [_], rfl, .row (by simp), rfl⟩

theorem clone_q (O : Objs) (l : List Int) (a : Option Addr) (c : Nat) (hlen : l.length ≤ 1000000000000) (hnil : a = none → l = []) (hl : Src O 1 (.slice a l.length c) l.length (l.map B8)) :
    Spec Try.prog true 46 #[.slice a l.length c] O fun v O' => ∃ a' c' G, v = .slice a' l.length c' ∧ Grow 1 a' l.length c' (l.map B8) G ∧ O' = G ++ O :=
  (Spec.frame (Post := fun v N => ∃ a' c', v = .slice a' l.length c' ∧ Grow 1 a' l.length c' (l.map B8) N)
    ((clone_ok (roO O) l a c hlen hnil hl.roh).mono fun v O' ⟨a', c', G, h1, h2, h3⟩ => ⟨G, ⟨a', c', h1, h2⟩, h2.own, h3⟩)).mono fun v O' ⟨N, ⟨a', c', h1, h2⟩, h3⟩ => ⟨a', c', N, h1, h2, h3⟩

theorem done_ok (O G : Objs) (b : Nat) (l : List Int) (a : Option Addr) (c : Nat) (hl : l.length ≤ 1000000000000) (hG : Grow 1 a l.length c (l.map B8) G) (hgo : Src O 1 (.slice a l.length c) l.length (l.map B8)) (hb : Knows O b ⟨0, false, [.slice a l.length c]⟩) :
    Spec Try.prog false 22 #[Ptr b 0] O fun v O' => ∃ a' c' G', v = .slice a' l.length c' ∧ Grow 1 a' l.length c' (l.map B8) G' ∧ O' = G' ++ O := by
  refine Spec.enter (args := [_]) (m := 8) Try.func22 rfl rfl (by decide +kernel) fun h0 => ?_
  refine WX.seq ?_
  refine WX.region rfl ?_
  refine WXL.assign Met.none rfl ?_
  refine WXL.nil ?_
  refine Fin.then_normal ?_
  refine WX.seq ?_
  refine WX.region rfl ?_
  refine WXL.move Met.none rfl ?_
  refine WXL.nilCheck Met.none rfl ?_
  first | refine WXL.fieldAddr Met.none rfl Try.underlying37 rfl sz23 rfl ?_ | refine WXL.faS Met.none rfl Try.underlying37 rfl sz23 ?_
  first | refine WXL.ld Met.none rfl agg23 ?_ | refine WXL.ldS Met.none rfl agg23 ?_
  refine WXL.cl (O1 := _) Met.none rfl (fnOk_of Try.func46 (by decide +kernel)) rfl (fun _ h => h) (clone_ok O l a c hl (fun q => by
  have := hG.nil0 q
  exact List.length_eq_zero_iff.1 this.2) src_) (fun v O' hp => ?_)
  obtain ⟨a', c', G', rfl, hG', rfl⟩ := hp
  refine WXL.assign Met.none rfl ?_
  refine WXL.nil ?_
  refine Fin.then_normal ?_
  refine WX.ret ?_
  exact Fin.result (O' := G' ++ O) (.inr rfl) rfl rfl drop_ ⟨a', c', G', rfl, hG', rfl⟩

end Go.Proofs.Ythekokdpplobhaa.Eng

set_option linter.unusedVariables false
set_option linter.unusedSimpArgs false
namespace Go.Proofs.Ythekokdpplobhaa.Eng

/-- The number of some bytes, the least one first. -/
def leW : List Int → Int
  | [] => 0
  | b :: l => b + 256 * leW l

theorem leW_range : ∀ {l : List Int}, Bytes l → 0 ≤ leW l ∧ leW l < 256 ^ l.length
  | [], _ => by simp [leW]
  | b :: l, h => by
    obtain ⟨h1, h2⟩ := leW_range (l := l) fun x hx => h x (List.mem_cons_of_mem _ hx)
    obtain ⟨h3, h4⟩ := h b (List.mem_cons_self ..)
    rw [List.length_cons, Int.pow_succ]
    unfold leW
    omega

theorem leW_snoc : ∀ (l : List Int) (b : Int), leW (l ++ [b]) = leW l + b * 256 ^ l.length
  | [], b => by simp [leW]
  | x :: l, b => by
    show x + 256 * leW (l ++ [b]) = x + 256 * leW l + b * 256 ^ (l.length + 1)
    rw [leW_snoc l b, Int.pow_succ, Int.mul_add, ← Int.add_assoc]
    congr 1
    rw [Int.mul_comm (256 ^ l.length) 256, ← Int.mul_assoc, ← Int.mul_assoc, Int.mul_comm 256 b]

/-- The words of a byte sequence. -/
def wordsOf (l : List Int) : List Int := if h : l = [] then [] else leW (l.take 8) :: wordsOf (l.drop 8)
termination_by l.length
decreasing_by
  have : 0 < l.length := List.length_pos_iff.2 h
  rw [List.length_drop]
  omega

theorem wordsOf_nil : wordsOf [] = [] := by rw [wordsOf, dif_pos rfl]
theorem wordsOf_cons {l : List Int} (h : l ≠ []) : wordsOf l = leW (l.take 8) :: wordsOf (l.drop 8) := by rw [wordsOf, dif_neg h]

theorem wordsOf_range {l : List Int} (h : Bytes l) : ∀ w ∈ wordsOf l, InU w := by
  by_cases hl : l = []
  · rw [hl, wordsOf_nil]; simp
  · rw [wordsOf_cons hl]
    intro w hw
    rcases List.mem_cons.1 hw with rfl | hw
    · have h1 : Bytes (l.take 8) := fun x hx => h x (List.mem_of_mem_take hx)
      obtain ⟨h2, h3⟩ := leW_range h1
      have h4 : (256 : Int) ^ (l.take 8).length ≤ 256 ^ 8 := by
        have : (l.take 8).length ≤ 8 := by rw [List.length_take]; omega
        exact Int.ofNat_le.2 (Nat.pow_le_pow_right (by decide) this)
      have h5 : (256 : Int) ^ 8 = 18446744073709551616 := rfl
      exact ⟨h2, by omega⟩
    · have : (l.drop 8).length < l.length := by
        have : 0 < l.length := List.length_pos_iff.2 hl
        rw [List.length_drop]; omega
      exact wordsOf_range (l := l.drop 8) (fun x hx => h x (List.mem_of_mem_drop hx)) w hw
termination_by l.length

/-- A byte is put above what is there. -/
theorem or_above {w b k : Nat} (hw : w < 2 ^ k) : w ||| (b * 2 ^ k) = w + b * 2 ^ k := by
  have h := Nat.two_pow_add_eq_or_of_lt hw b
  rw [Nat.mul_comm b, Nat.or_comm, ← h, Nat.add_comm]

theorem orU {w b : Int} {k : Nat} (hw : 0 ≤ w ∧ w < 256 ^ k) (hb : 0 ≤ b ∧ b < 256) (hk : k < 8) :
    IntKind.wrap .u64 (((BitVec.ofInt (IntKind.bits .u64) w) ||| (BitVec.ofInt (IntKind.bits .u64) (IntKind.wrap .u64 (b * 2 ^ (min (8 * (k : Int)).toNat (IntKind.bits .u64)))))).toNat : Int) = w + b * 256 ^ k := by
  obtain ⟨w', rfl⟩ := Int.eq_ofNat_of_zero_le hw.1
  obtain ⟨b', rfl⟩ := Int.eq_ofNat_of_zero_le hb.1
  have e1 : min (8 * (k : Int)).toNat (IntKind.bits .u64) = 8 * k := by
    show min (8 * (k : Int)).toNat 64 = 8 * k
    omega
  have e2 : (256 : Nat) ^ k = 2 ^ (8 * k) := by rw [Nat.pow_mul]
  have hw2 : w' < 2 ^ (8 * k) := by
    have := hw.2
    rw [← e2]
    exact Int.ofNat_lt.1 (by rw [Int.natCast_pow]; exact this)
  have e3 : (256 : Int) ^ k = ((2 ^ (8 * k) : Nat) : Int) := by rw [← e2, Int.natCast_pow]; rfl
  have hp : 2 ^ (8 * k) ≤ 2 ^ 56 := Nat.pow_le_pow_right (by decide) (by omega)
  have hb2 : b' < 256 := by have := hb.2; omega
  have hbb : b' * 2 ^ (8 * k) ≤ 255 * 2 ^ 56 := Nat.mul_le_mul (by omega) hp
  have hbb2 : b' * 2 ^ (8 * k) < 18446744073709551616 := by omega
  have hw3 : w' < 18446744073709551616 := by omega
  have e4 : ((b' : Int) * 2 ^ (8 * k)) = ((b' * 2 ^ (8 * k) : Nat) : Int) := by rw [Int.natCast_mul, Int.natCast_pow]; rfl
  rw [e1, e4, wrap_u64 (n := ((b' * 2 ^ (8 * k) : Nat) : Int)) (by omega) (by omega), e3]
  show IntKind.wrap .u64 (((BitVec.ofInt 64 (w' : Int)) ||| (BitVec.ofInt 64 ((b' * 2 ^ (8 * k) : Nat) : Int))).toNat : Int) = _
  have e5 : ((BitVec.ofInt 64 (w' : Int)) ||| (BitVec.ofInt 64 ((b' * 2 ^ (8 * k) : Nat) : Int))).toNat = w' + b' * 2 ^ (8 * k) := by
    rw [BitVec.toNat_or, BitVec.toNat_ofInt, BitVec.toNat_ofInt, ← or_above hw2]
    congr 1 <;> omega
  rw [e5]
  have hsum : w' + b' * 2 ^ (8 * k) < 18446744073709551616 := by
    have : w' < 2 ^ 56 := by omega
    omega
  rw [wrap_u64 (by omega) (by omega), Int.natCast_add, Int.natCast_mul]

end Go.Proofs.Ythekokdpplobhaa.Eng

set_option linter.unusedVariables false
set_option linter.unusedSimpArgs false
namespace Go.Proofs.Ythekokdpplobhaa.Eng

theorem wordsOf_len (l : List Int) : (wordsOf l).length = (l.length + 7) / 8 := by
  by_cases hl : l = []
  · rw [hl, wordsOf_nil]; rfl
  · have h0 : 0 < l.length := List.length_pos_iff.2 hl
    have hlt : (l.drop 8).length < l.length := by rw [List.length_drop]; omega
    rw [wordsOf_cons hl, List.length_cons, wordsOf_len (l.drop 8), List.length_drop]
    omega
termination_by l.length

theorem wordsOf_nth (l : List Int) (k : Nat) (hk : 8 * k < l.length) : nth (wordsOf l) k = leW ((l.drop (8 * k)).take 8) := by
  induction k generalizing l with
  | zero =>
    have hl : l ≠ [] := fun q => by rw [q] at hk; simp at hk
    rw [wordsOf_cons hl]; rfl
  | succ k ih =>
    have hl : l ≠ [] := fun q => by rw [q] at hk; simp at hk
    rw [wordsOf_cons hl]
    show nth (wordsOf (l.drop 8)) k = _
    rw [ih (l.drop 8) (by rw [List.length_drop]; omega), List.drop_drop]
    congr 3
    omega

theorem words_iter {β : Type} (OI : β → Objs) (Inv : Nat → β → Prop) (ρ : Rho) (y : Nat) (l : List Int) (hB : Bytes l) (cb : Nat) (a : Option Addr) (c : Nat) (hlen : l.length ≤ 1000000000000)
    (hbox : ∀ x, Knows (OI x) cb ⟨0, false, [.slice a l.length c]⟩) (hsrc : ∀ x, Src (OI x) 1 (.slice a l.length c) l.length (l.map B8)) (x0 : β) (hI0 : Inv 0 x0)
    (hy : ∀ k x, k < (wordsOf l).length → Inv k x → SpecY Try.prog ρ y [U (nth (wordsOf l) k)] (OI x) fun O' => ∃ x', Inv (k + 1) x' ∧ O' = OI x') :
    SpecIn Try.prog ρ false 70 #[Yd y, Ptr cb 0] (OI x0) fun v O' => ∃ x', Inv (wordsOf l).length x' ∧ O' = OI x' := by
  have hwl := wordsOf_len l
  refine SpecIn.enter (args := [_, _]) (m := 38) Try.func70 rfl rfl (by decide +kernel) fun h0 => ?_
  refine WX.seq ?_
  refine WX.region rfl ?_
  refine WXL.assign Met.none rfl ?_
  refine WXL.nil ?_
  refine Fin.then_normal ?_
  refine WX.block ?_
  refine WX.loop (fun q : Nat × β => [(0, Yd y), (1, Ptr cb 0), (3, I ((8 * q.1 : Nat) : Int))]) (fun q => OI q.2) (fun q => q.1 ≤ (wordsOf l).length ∧ Inv q.1 q.2) (fun q => (wordsOf l).length - q.1) (0, x0) ⟨Nat.zero_le _, hI0⟩ (fun s hs => hs.tl [] 0) (fun q hq => ?_)
  obtain ⟨k, x⟩ := q
  obtain ⟨hk, hI⟩ := hq
  simp only at hk hI
  dsimp only
  have hb1 := hbox x
  have hs1 := hsrc x
  refine WX.seq ?_
  refine WX.seq ?_
  refine WX.region rfl ?_
  refine WXL.move Met.none rfl ?_
  first | refine WXL.ld Met.none rfl agg23 ?_ | refine WXL.ldS Met.none rfl agg23 ?_
  refine WXL.len Met.none rfl Try.underlying23 ?_
  refine WXL.bin Met.none rfl rfl rfl ?_
  refine WXL.nil ?_
  refine Fin.then_normal ?_
  refine WX.cond rfl (fun hc0 => ?_) (fun hc0 => ?_)
  · try simp only [cnd] at hc0
    refine WX.skip ?_
    refine Fin.then_normal ?_
    refine WX.seq ?_
    refine WX.block ?_
    refine WX.seq ?_
    refine WX.region rfl ?_
    refine WXL.assign Met.none rfl ?_
    refine WXL.nil ?_
    refine Fin.then_normal ?_
    refine WX.seq ?_
    refine WX.seq ?_
    refine WX.region rfl ?_
    refine WXL.move Met.none rfl ?_
    refine WXL.assign Met.none rfl ?_
    refine WXL.nil ?_
    refine Fin.then_normal ?_
    refine WX.block ?_
    refine WX.loop (fun j : Nat => [(0, Yd y), (1, Ptr cb 0), (3, I ((8 * k : Nat) : Int)), (4, U (leW ((l.drop (8 * k)).take j))), (5, I ((8 * k + j : Nat) : Int))]) (fun _ => OI x) (fun j => j ≤ 8 ∧ 8 * k + j ≤ l.length) (fun j => 8 - j) 0 ⟨by omega, by omega⟩ (fun s hs => hs.tl [] 0) (fun j hj => ?_)
    refine WX.seq ?_
    refine WX.seq ?_
    refine WX.region rfl ?_
    refine WXL.move Met.none rfl ?_
    refine WXL.move Met.none rfl ?_
    refine WXL.bin Met.none rfl rfl bvA ?_
    first | refine WXL.ld Met.none rfl agg23 ?_ | refine WXL.ldS Met.none rfl agg23 ?_
    refine WXL.len Met.none rfl Try.underlying23 ?_
    refine WXL.min Met.none rfl rfl ?_
    refine WXL.bin Met.none rfl rfl rfl ?_
    refine WXL.nil ?_
    refine Fin.then_normal ?_
    refine WX.cond rfl (fun hc1 => ?_) (fun hc1 => ?_)
    · try simp only [cnd] at hc1
      refine WX.skip ?_
      refine Fin.then_normal ?_
      refine WX.seq ?_
      refine WX.block ?_
      have hjl : 8 * k + j < l.length := by omega
      have hbj := hB _ (nth_mem hjl)
      have hdl : j < (l.drop (8 * k)).length := by rw [List.length_drop]; omega
      have hnd : nth (l.drop (8 * k)) j = nth l (8 * k + j) := by
        rw [nth_get hdl, nth_get hjl, List.getElem_drop]
      have hTB : Bytes ((l.drop (8 * k)).take j) := fun z hz => hB z (List.mem_of_mem_drop (List.mem_of_mem_take hz))
      have hTr := leW_range hTB
      have hTl : ((l.drop (8 * k)).take j).length = j := by rw [List.length_take]; omega
      rw [hTl] at hTr
      have hnext : leW ((l.drop (8 * k)).take (j + 1)) = leW ((l.drop (8 * k)).take j) + nth l (8 * k + j) * 256 ^ j := by
        rw [take_succ_nth hdl, leW_snoc, hTl, hnd]
      refine WX.region rfl ?_
      refine WXL.move Met.none rfl ?_
      first | refine WXL.ld Met.none rfl agg23 ?_ | refine WXL.ldS Met.none rfl agg23 ?_
      refine WXL.move Met.none rfl ?_
      first | refine WXL.ix Met.none rfl rfl elem23 sz5 ?_ | refine WXL.ixS Met.none rfl rfl elem23 sz5 ?_
      first | refine WXL.ld Met.none rfl agg5 ?_ | refine WXL.ldS Met.none rfl agg5 ?_
      refine WXL.conv Met.none rfl Try.underlying5 Try.underlying42 (wrap_u64 (by omega) (by omega)) ?_
      refine WXL.move Met.none rfl ?_
      refine WXL.move Met.none rfl ?_
      refine WXL.bin Met.none rfl rfl (show _ = some (I (j : Int)) from (binV_sub (by omega) (by omega)).trans (congrArg (fun n => some (I n)) (by omega))) ?_
      refine WXL.bin Met.none rfl rfl bvM ?_
      refine WXL.shl Met.none rfl rfl (by omega) ?_
      refine WXL.bin Met.none rfl rfl (congrArg (fun n => some (Value.int .u64 n)) (orU hTr hbj (by omega))) ?_
      refine WXL.assign Met.none rfl ?_
      refine WXL.nil ?_
      refine Fin.block_normal ?_
      refine Fin.then_normal ?_
      refine WX.region rfl ?_
      refine WXL.move Met.none rfl ?_
      refine WXL.bin Met.none rfl rfl bvA ?_
      refine WXL.assign Met.none rfl ?_
      refine WXL.nil ?_
      refine Fin.loop_next (j + 1) ⟨by omega, by omega⟩ (by omega) ?_
      rw [hnext]
      exact (fun s hs => hs.tl [] 0)
    · try simp only [cnd] at hc1
      refine WX.exit ?_
      refine Fin.then_exit ?_
      refine Fin.loop_exit ?_
      refine Fin.block_hit rfl ?_
      refine Fin.then_normal ?_
      refine WX.seq ?_
      have hkl : 8 * k < l.length := by omega
      have hw : leW ((l.drop (8 * k)).take j) = nth (wordsOf l) k := by
        rw [wordsOf_nth l k hkl]
        congr 1
        rcases Nat.lt_or_ge j 8 with q | q
        · rw [List.take_of_length_le (by rw [List.length_drop]; omega), List.take_of_length_le (by rw [List.length_drop]; omega)]
        · have : j = 8 := by omega
          rw [this]
      rw [hw]
      refine WX.region rfl ?_
      refine WXL.move Met.none rfl ?_
      refine WXL.move Met.none rfl ?_
      refine WXL.yield (O1 := _) Met.none rfl rfl (fun _ h => h) rfl rfl rfl rfl (hy k x (by omega) hI) (fun O' hp => ?_)
      obtain ⟨x', hI', rfl⟩ := hp
      refine WXL.not Met.none rfl ?_
      refine WXL.nil ?_
      refine Fin.then_normal ?_
      refine WX.cond rfl (fun hc2 => nomatch hc2) (fun hc2 => ?_)
      refine WX.skip ?_
      refine Fin.block_normal ?_
      refine Fin.then_normal ?_
      refine WX.region rfl ?_
      refine WXL.move Met.none rfl ?_
      refine WXL.bin Met.none rfl rfl bvA ?_
      refine WXL.assign Met.none rfl ?_
      refine WXL.nil ?_
      exact Fin.loop_next (k + 1, x') ⟨by simp only; omega, hI'⟩ (by simp only; omega) (fun s hs => hs.tl [] 0)
  · try simp only [cnd] at hc0
    refine WX.exit ?_
    refine Fin.then_exit ?_
    refine Fin.loop_exit ?_
    refine Fin.block_hit rfl ?_
    have hkk : k = (wordsOf l).length := by omega
    subst hkk
    exact Fin.result (O' := OI x) (.inl rfl) rfl rfl (fun _ h => h) ⟨x, hI, rfl⟩

end Go.Proofs.Ythekokdpplobhaa.Eng

set_option linter.unusedVariables false
set_option linter.unusedSimpArgs false
namespace Go.Proofs.Ythekokdpplobhaa.Eng

theorem words_ok (O : Objs) (a : Option Addr) (n c : Nat) :
    Spec Try.prog false 50 #[.slice a n c] O fun v O' => ∃ cb, v = .func (.func 70) #[] #[Ptr cb 0] ∧ O' = (cb, ⟨0, false, [.slice a n c]⟩) :: O := by
  refine Spec.enter (args := [_]) (m := 4) Try.func50 rfl rfl (by decide +kernel) fun h0 => ?_
  refine WX.seq ?_
  refine WX.region rfl ?_
  refine WXL.box (c := [_]) Met.none rfl rfl rfl (fun b1 => ?_)
  refine WXL.assign Met.none rfl ?_
  refine WXL.nil ?_
  refine Fin.then_normal ?_
  refine WX.seq ?_
  refine WX.region rfl ?_
  refine WXL.makeFunc Met.none rfl rfl ?_
  refine WXL.assign Met.none rfl ?_
  refine WXL.nil ?_
  refine Fin.then_normal ?_
  refine WX.ret ?_
  exact Fin.result (O' := (b1, ⟨0, false, [.slice a n c]⟩) :: O) (.inr rfl) rfl rfl drop_ ⟨b1, rfl, rfl⟩

end Go.Proofs.Ythekokdpplobhaa.Eng

set_option linter.unusedVariables false
set_option linter.unusedSimpArgs false
namespace Go.Proofs.Ythekokdpplobhaa.Eng

theorem wordsS_iter {β : Type} (OI : β → Objs) (Inv : Nat → β → Prop) (ρ : Rho) (y : Nat) (l : List Int) (hB : Bytes l) (cb : Nat) (hlen : l.length ≤ 1000000000000)
    (hbox : ∀ x, Knows (OI x) cb ⟨0, false, [.string (bstr l)]⟩) (x0 : β) (hI0 : Inv 0 x0)
    (hy : ∀ k x, k < (wordsOf l).length → Inv k x → SpecY Try.prog ρ y [U (nth (wordsOf l) k)] (OI x) fun O' => ∃ x', Inv (k + 1) x' ∧ O' = OI x') :
    SpecIn Try.prog ρ false 82 #[Yd y, Ptr cb 0] (OI x0) fun v O' => ∃ x', Inv (wordsOf l).length x' ∧ O' = OI x' := by
  have hwl := wordsOf_len l
  refine SpecIn.enter (args := [_, _]) (m := 37) Try.func82 rfl rfl (by decide +kernel) fun h0 => ?_
  refine WX.seq ?_
  refine WX.region rfl ?_
  refine WXL.assign Met.none rfl ?_
  refine WXL.nil ?_
  refine Fin.then_normal ?_
  refine WX.block ?_
  refine WX.loop (fun q : Nat × β => [(0, Yd y), (1, Ptr cb 0), (3, I ((8 * q.1 : Nat) : Int))]) (fun q => OI q.2) (fun q => q.1 ≤ (wordsOf l).length ∧ Inv q.1 q.2) (fun q => (wordsOf l).length - q.1) (0, x0) ⟨Nat.zero_le _, hI0⟩ (fun s hs => hs.tl [] 0) (fun q hq => ?_)
  obtain ⟨k, x⟩ := q
  obtain ⟨hk, hI⟩ := hq
  simp only at hk hI
  dsimp only
  have hb1 := hbox x
  have hsz := bstr_size l
  refine WX.seq ?_
  refine WX.seq ?_
  refine WX.region rfl ?_
  refine WXL.move Met.none rfl ?_
  first | refine WXL.ld Met.none rfl agg9 ?_ | refine WXL.ldS Met.none rfl agg9 ?_
  refine WXL.lenS Met.none rfl Try.underlying9 ?_
  rw [bstr_size]
  refine WXL.bin Met.none rfl rfl rfl ?_
  refine WXL.nil ?_
  refine Fin.then_normal ?_
  refine WX.cond rfl (fun hc0 => ?_) (fun hc0 => ?_)
  · try simp only [cnd] at hc0
    refine WX.skip ?_
    refine Fin.then_normal ?_
    refine WX.seq ?_
    refine WX.block ?_
    refine WX.seq ?_
    refine WX.region rfl ?_
    refine WXL.assign Met.none rfl ?_
    refine WXL.nil ?_
    refine Fin.then_normal ?_
    refine WX.seq ?_
    refine WX.seq ?_
    refine WX.region rfl ?_
    refine WXL.move Met.none rfl ?_
    refine WXL.assign Met.none rfl ?_
    refine WXL.nil ?_
    refine Fin.then_normal ?_
    refine WX.block ?_
    refine WX.loop (fun j : Nat => [(0, Yd y), (1, Ptr cb 0), (3, I ((8 * k : Nat) : Int)), (4, U (leW ((l.drop (8 * k)).take j))), (5, I ((8 * k + j : Nat) : Int))]) (fun _ => OI x) (fun j => j ≤ 8 ∧ 8 * k + j ≤ l.length) (fun j => 8 - j) 0 ⟨by omega, by omega⟩ (fun s hs => hs.tl [] 0) (fun j hj => ?_)
    refine WX.seq ?_
    refine WX.seq ?_
    refine WX.region rfl ?_
    refine WXL.move Met.none rfl ?_
    refine WXL.move Met.none rfl ?_
    refine WXL.bin Met.none rfl rfl bvA ?_
    first | refine WXL.ld Met.none rfl agg9 ?_ | refine WXL.ldS Met.none rfl agg9 ?_
    refine WXL.lenS Met.none rfl Try.underlying9 ?_
    rw [bstr_size]
    refine WXL.min Met.none rfl rfl ?_
    refine WXL.bin Met.none rfl rfl rfl ?_
    refine WXL.nil ?_
    refine Fin.then_normal ?_
    refine WX.cond rfl (fun hc1 => ?_) (fun hc1 => ?_)
    · try simp only [cnd] at hc1
      refine WX.skip ?_
      refine Fin.then_normal ?_
      refine WX.seq ?_
      refine WX.block ?_
      have hjl : 8 * k + j < l.length := by omega
      have hbj := hB _ (nth_mem hjl)
      have hdl : j < (l.drop (8 * k)).length := by rw [List.length_drop]; omega
      have hnd : nth (l.drop (8 * k)) j = nth l (8 * k + j) := by
        rw [nth_get hdl, nth_get hjl, List.getElem_drop]
      have hTB : Bytes ((l.drop (8 * k)).take j) := fun z hz => hB z (List.mem_of_mem_drop (List.mem_of_mem_take hz))
      have hTr := leW_range hTB
      have hTl : ((l.drop (8 * k)).take j).length = j := by rw [List.length_take]; omega
      rw [hTl] at hTr
      have hnext : leW ((l.drop (8 * k)).take (j + 1)) = leW ((l.drop (8 * k)).take j) + nth l (8 * k + j) * 256 ^ j := by
        rw [take_succ_nth hdl, leW_snoc, hTl, hnd]
      refine WX.region rfl ?_
      refine WXL.move Met.none rfl ?_
      first | refine WXL.ld Met.none rfl agg9 ?_ | refine WXL.ldS Met.none rfl agg9 ?_
      refine WXL.move Met.none rfl ?_
      refine WXL.idxStr Met.none rfl rfl Try.underlying9 (by assumption) (by omega) ?_
      refine WXL.conv Met.none rfl Try.underlying5 Try.underlying42 (wrap_u64 (by omega) (by omega)) ?_
      refine WXL.move Met.none rfl ?_
      refine WXL.move Met.none rfl ?_
      refine WXL.bin Met.none rfl rfl (show _ = some (I (j : Int)) from (binV_sub (by omega) (by omega)).trans (congrArg (fun n => some (I n)) (by omega))) ?_
      refine WXL.bin Met.none rfl rfl bvM ?_
      refine WXL.shl Met.none rfl rfl (by omega) ?_
      refine WXL.bin Met.none rfl rfl (congrArg (fun n => some (Value.int .u64 n)) (orU hTr hbj (by omega))) ?_
      refine WXL.assign Met.none rfl ?_
      refine WXL.nil ?_
      refine Fin.block_normal ?_
      refine Fin.then_normal ?_
      refine WX.region rfl ?_
      refine WXL.move Met.none rfl ?_
      refine WXL.bin Met.none rfl rfl bvA ?_
      refine WXL.assign Met.none rfl ?_
      refine WXL.nil ?_
      refine Fin.loop_next (j + 1) ⟨by omega, by omega⟩ (by omega) ?_
      rw [hnext]
      exact (fun s hs => hs.tl [] 0)
    · try simp only [cnd] at hc1
      refine WX.exit ?_
      refine Fin.then_exit ?_
      refine Fin.loop_exit ?_
      refine Fin.block_hit rfl ?_
      refine Fin.then_normal ?_
      refine WX.seq ?_
      have hkl : 8 * k < l.length := by omega
      have hw : leW ((l.drop (8 * k)).take j) = nth (wordsOf l) k := by
        rw [wordsOf_nth l k hkl]
        congr 1
        rcases Nat.lt_or_ge j 8 with q | q
        · rw [List.take_of_length_le (by rw [List.length_drop]; omega), List.take_of_length_le (by rw [List.length_drop]; omega)]
        · have : j = 8 := by omega
          rw [this]
      rw [hw]
      refine WX.region rfl ?_
      refine WXL.move Met.none rfl ?_
      refine WXL.move Met.none rfl ?_
      refine WXL.yield (O1 := _) Met.none rfl rfl (fun _ h => h) rfl rfl rfl rfl (hy k x (by omega) hI) (fun O' hp => ?_)
      obtain ⟨x', hI', rfl⟩ := hp
      refine WXL.not Met.none rfl ?_
      refine WXL.nil ?_
      refine Fin.then_normal ?_
      refine WX.cond rfl (fun hc2 => nomatch hc2) (fun hc2 => ?_)
      refine WX.skip ?_
      refine Fin.block_normal ?_
      refine Fin.then_normal ?_
      refine WX.region rfl ?_
      refine WXL.move Met.none rfl ?_
      refine WXL.bin Met.none rfl rfl bvA ?_
      refine WXL.assign Met.none rfl ?_
      refine WXL.nil ?_
      exact Fin.loop_next (k + 1, x') ⟨by simp only; omega, hI'⟩ (by simp only; omega) (fun s hs => hs.tl [] 0)
  · try simp only [cnd] at hc0
    refine WX.exit ?_
    refine Fin.then_exit ?_
    refine Fin.loop_exit ?_
    refine Fin.block_hit rfl ?_
    have hkk : k = (wordsOf l).length := by omega
    subst hkk
    exact Fin.result (O' := OI x) (.inl rfl) rfl rfl (fun _ h => h) ⟨x, hI, rfl⟩

end Go.Proofs.Ythekokdpplobhaa.Eng

set_option linter.unusedVariables false
set_option linter.unusedSimpArgs false
namespace Go.Proofs.Ythekokdpplobhaa.Eng

theorem wordsS_ok (O : Objs) (s : ByteArray) :
    Spec Try.prog false 71 #[.string s] O fun v O' => ∃ cb, v = .func (.func 82) #[] #[Ptr cb 0] ∧ O' = (cb, ⟨0, false, [.string s]⟩) :: O := by
  refine Spec.enter (args := [_]) (m := 4) Try.func71 rfl rfl (by decide +kernel) fun h0 => ?_
  refine WX.seq ?_
  refine WX.region rfl ?_
  refine WXL.box (c := [_]) Met.none rfl rfl rfl (fun b1 => ?_)
  refine WXL.assign Met.none rfl ?_
  refine WXL.nil ?_
  refine Fin.then_normal ?_
  refine WX.seq ?_
  refine WX.region rfl ?_
  refine WXL.makeFunc Met.none rfl rfl ?_
  refine WXL.assign Met.none rfl ?_
  refine WXL.nil ?_
  refine Fin.then_normal ?_
  refine WX.ret ?_
  exact Fin.result (O' := (b1, ⟨0, false, [.string s]⟩) :: O) (.inr rfl) rfl rfl drop_ ⟨b1, rfl, rfl⟩

def sumU (label : List Int) (l : List Int) : Int :=
  mixU (l.foldl (fun s n => mixU s (IntKind.wrap .u64 n)) (mixU (mixU ((wordsOf label).foldl mixU 0) label.length) l.length)) 0

theorem sum_ok (O : Objs) (label l : List Int) (a : Option Addr) (c : Nat) (hB : Bytes label) (hll : label.length ≤ 1000000000000) (hlen : l.length ≤ 1000000000000) (hl : Src O 1 (.slice a l.length c) l.length (l.map I)) :
    Spec Try.prog false 51 #[.string (bstr label), .slice a l.length c] O fun v O' => v = U (sumU label l) ∧ O' = O := by
  refine Spec.enter (args := [_, _]) (m := 37) Try.func51 rfl rfl (by decide +kernel) fun h0 => ?_
  refine WX.seq ?_
  refine WX.region rfl ?_
  refine WXL.assign Met.none rfl ?_
  refine WXL.nil ?_
  refine Fin.then_normal ?_
  refine WX.seq ?_
  refine WX.region rfl ?_
  refine WXL.alloc (c := [_]) Met.none zero42 rfl (fun b5 => ?_)
  refine WXL.st (vs := [_]) (c' := [_]) Met.none rfl rfl rfl sz42 ?_
  refine WXL.nil ?_
  refine Fin.then_normal ?_
  refine WX.seq ?_
  refine WX.seq ?_
  refine WX.region rfl ?_
  refine WXL.move Met.none rfl ?_
  refine WXL.cl (O1 := _) Met.none rfl (fnOk_of Try.func71 (by decide +kernel)) rfl (fun _ h => h) (wordsS_ok _ (bstr label)) (fun v O' hp => ?_)
  obtain ⟨cb, rfl, rfl⟩ := hp
  refine WXL.nil ?_
  refine Fin.then_normal ?_
  refine WX.block ?_
  refine WX.rangeFunc (fun q : Int => (cb, ⟨0, false, [.string (bstr label)]⟩) :: (b5, ⟨0, false, [U q]⟩) :: O) (fun k q => q = ((wordsOf label).take k).foldl mixU 0) (wordsOf label).length (fun k => [U (nth (wordsOf label) k)]) 0 rfl rfl (fnOk_of Try.func82 (by decide +kernel)) (fun s hs => hs.sat) rfl rfl (fun _ => rfl)
    (fun ρ b hy => wordsS_iter (fun q : Int => (cb, ⟨0, false, [.string (bstr label)]⟩) :: (b5, ⟨0, false, [U q]⟩) :: O) (fun k q => q = ((wordsOf label).take k).foldl mixU 0) ρ b label hB cb hll (fun x => Knows.at 0 rfl) 0 rfl hy) (fun h0 ρ k y hk hy => ?_) (fun y hy => ?_)
  · refine WX.seq ?_
    refine WX.region rfl ?_
    refine WXL.assign Met.none rfl ?_
    refine WXL.nil ?_
    refine Fin.then_normal ?_
    refine WX.block ?_
    refine WX.region rfl ?_
    first | refine WXL.ld Met.none rfl agg42 ?_ | refine WXL.ldS Met.none rfl agg42 ?_
    refine WXL.move Met.none rfl ?_
    refine WXL.cl (O1 := _) Met.none rfl (fnOk_of Try.func72 (by decide +kernel)) rfl (fun _ h => h) (mix_ok _ y (nth (wordsOf label) k)) (fun v O' hp => ?_)
    obtain ⟨rfl, hO⟩ := hp
    subst O'
    refine WXL.st (vs := [_]) (c' := [_]) Met.none rfl rfl rfl sz42 ?_
    refine WXL.nil ?_
    refine Fin.block_normal ?_
    exact Fin.round (mixU y (nth (wordsOf label) k)) (by rw [take_succ_nth hk, List.foldl_append, ← hy]; rfl) (fun h hh => hh)
  · skip
    refine Fin.block_normal ?_
    refine Fin.then_normal ?_
    refine WX.seq ?_
    have hsz := bstr_size label
    rw [List.take_length] at hy
    obtain ⟨s0, hs0⟩ : ∃ s0, s0 = mixU (mixU y label.length) l.length := ⟨_, rfl⟩
    refine WX.region rfl ?_
    first | refine WXL.ld Met.none rfl agg42 ?_ | refine WXL.ldS Met.none rfl agg42 ?_
    refine WXL.move Met.none rfl ?_
    refine WXL.lenS Met.none rfl Try.underlying9 ?_
    rw [bstr_size]
    refine WXL.conv Met.none rfl Try.underlying3 Try.underlying42 cv_ ?_
    refine WXL.cl (O1 := _) Met.none rfl (fnOk_of Try.func72 (by decide +kernel)) rfl (fun _ h => h) (mix_ok _ y (label.length : Int)) (fun v O' hp => ?_)
    obtain ⟨rfl, hO⟩ := hp
    subst O'
    refine WXL.move Met.none rfl ?_
    refine WXL.len Met.none rfl Try.underlying22 ?_
    refine WXL.conv Met.none rfl Try.underlying3 Try.underlying42 cv_ ?_
    refine WXL.cl (O1 := _) Met.none rfl (fnOk_of Try.func72 (by decide +kernel)) rfl (fun _ h => h) (mix_ok _ (mixU y label.length) (l.length : Int)) (fun v O' hp => ?_)
    obtain ⟨rfl, hO⟩ := hp
    subst O'
    refine WXL.st (vs := [_]) (c' := [_]) Met.none rfl rfl rfl sz42 ?_
    refine WXL.nil ?_
    refine Fin.then_normal ?_
    refine WX.seq ?_
    refine WX.seq ?_
    refine WX.region rfl ?_
    refine WXL.move Met.none rfl ?_
    refine WXL.len Met.none rfl Try.underlying22 ?_
    refine WXL.move Met.none rfl ?_
    refine WXL.nil ?_
    refine Fin.then_normal ?_
    refine WX.block ?_
    refine WX.loop (fun k : Nat => [(5, Ptr b5 0), (24, .slice a l.length c), (25, I (l.length : Int)), (26, I (k : Int))]) (fun k => (b5, ⟨0, false, [U ((l.take k).foldl (fun s n => mixU s (IntKind.wrap .u64 n)) s0)]⟩) :: O) (fun k => k ≤ l.length) (fun k => l.length - k) 0 (Nat.zero_le _) ?_ (fun k hk => ?_)
    · rw [hs0]
      exact (fun s hs => hs.tl [1] 2)
    refine WX.seq ?_
    refine WX.region rfl ?_
    refine WXL.bin Met.none rfl rfl rfl ?_
    refine WXL.nil ?_
    refine Fin.then_normal ?_
    refine WX.seq ?_
    refine WX.cond rfl (fun hc0 => ?_) (fun hc0 => ?_)
    · try simp only [cnd] at hc0
      refine WX.skip ?_
      refine Fin.then_normal ?_
      refine WX.seq ?_
      refine WX.block ?_
      refine WX.seq ?_
      refine WX.region rfl ?_
      first | refine WXL.ix Met.none rfl rfl elem22 sz3 ?_ | refine WXL.ixS Met.none rfl rfl elem22 sz3 ?_
      first | refine WXL.ld Met.none rfl agg3 ?_ | refine WXL.ldS Met.none rfl agg3 ?_
      refine WXL.assign Met.none rfl ?_
      refine WXL.nil ?_
      refine Fin.then_normal ?_
      refine WX.region rfl ?_
      first | refine WXL.ld Met.none rfl agg42 ?_ | refine WXL.ldS Met.none rfl agg42 ?_
      refine WXL.move Met.none rfl ?_
      refine WXL.conv Met.none rfl Try.underlying3 Try.underlying42 rfl ?_
      refine WXL.cl (O1 := _) Met.none rfl (fnOk_of Try.func72 (by decide +kernel)) rfl (fun _ h => h) (mix_ok _ ((l.take k).foldl (fun s n => mixU s (IntKind.wrap .u64 n)) s0) (IntKind.wrap .u64 (nth l k))) (fun v O' hp => ?_)
      obtain ⟨rfl, hO⟩ := hp
      subst O'
      refine WXL.st (vs := [_]) (c' := [_]) Met.none rfl rfl rfl sz42 ?_
      refine WXL.nil ?_
      refine Fin.block_normal ?_
      refine Fin.then_normal ?_
      refine WX.region rfl ?_
      refine WXL.bin Met.none rfl rfl bvA ?_
      refine WXL.move Met.none rfl ?_
      refine WXL.nil ?_
      refine Fin.loop_next (k + 1) (by omega) (by omega) ?_
      rw [take_succ_nth (by omega), List.foldl_append]
      exact (fun s hs => hs.tl [0] 1)
    · try simp only [cnd] at hc0
      refine WX.exit ?_
      refine Fin.then_exit ?_
      refine Fin.loop_exit ?_
      refine Fin.block_hit rfl ?_
      refine Fin.then_normal ?_
      refine WX.seq ?_
      have hkl : k = l.length := by omega
      subst hkl
      rw [List.take_length]
      refine WX.region rfl ?_
      first | refine WXL.ld Met.none rfl agg42 ?_ | refine WXL.ldS Met.none rfl agg42 ?_
      refine WXL.cl (O1 := _) Met.none rfl (fnOk_of Try.func72 (by decide +kernel)) rfl (fun _ h => h) (mix_ok _ (l.foldl (fun s n => mixU s (IntKind.wrap .u64 n)) s0) 0) (fun v O' hp => ?_)
      obtain ⟨rfl, hO⟩ := hp
      subst O'
      refine WXL.assign Met.none rfl ?_
      refine WXL.nil ?_
      refine Fin.then_normal ?_
      refine WX.ret ?_
      exact Fin.result (O' := O) (.inr rfl) rfl rfl drop_ ⟨by rw [hs0, hy]; rfl, rfl⟩

end Go.Proofs.Ythekokdpplobhaa.Eng

set_option linter.unusedVariables false
set_option linter.unusedSimpArgs false
namespace Go.Proofs.Ythekokdpplobhaa.Eng

/-- A word as an int. -/
def asI (w : Int) : Int := IntKind.wrap .i64 w
def hashB (label b : List Int) : Int := sumU label ((wordsOf b).map asI ++ [(b.length : Int)])

theorem hash_ok (O : Objs) (label b : List Int) (a : Option Addr) (c : Nat) (hB : Bytes label) (hb : Bytes b) (hll : label.length ≤ 1000000000000) (hlen : b.length ≤ 1000000000000) (hl : Src O 1 (.slice a b.length c) b.length (b.map B8)) :
    Spec Try.prog false 28 #[.string (bstr label), .slice a b.length c] O fun v O' => v = U (hashB label b) ∧ O' = O := by
  have hwl := wordsOf_len b
  refine Spec.enter (args := [_, _]) (m := 22) Try.func28 rfl rfl (by decide +kernel) fun h0 => ?_
  refine WX.seq ?_
  refine WX.region rfl ?_
  refine WXL.assign Met.none rfl ?_
  refine WXL.nil ?_
  refine Fin.then_normal ?_
  refine WX.seq ?_
  refine WX.region rfl ?_
  refine WXL.alloc (c := [_]) Met.none zero22 rfl (fun b5 => ?_)
  refine WXL.nil ?_
  refine Fin.then_normal ?_
  refine WX.seq ?_
  refine WX.seq ?_
  refine WX.region rfl ?_
  refine WXL.move Met.none rfl ?_
  refine WXL.cl (O1 := _) Met.none rfl (fnOk_of Try.func50 (by decide +kernel)) rfl (fun _ h => h) (words_ok _ a b.length c) (fun v O' hp => ?_)
  obtain ⟨cb, rfl, rfl⟩ := hp
  refine WXL.nil ?_
  refine Fin.then_normal ?_
  refine WX.block ?_
  refine WX.rangeFunc (fun q : Nat × Option Addr × Nat × Objs => (cb, ⟨0, false, [.slice a b.length c]⟩) :: (b5, ⟨0, false, [.slice q.2.1 q.1 q.2.2.1]⟩) :: (q.2.2.2 ++ O)) (fun k q => q.1 = k ∧ Grow 1 q.2.1 q.1 q.2.2.1 (((wordsOf b).take k).map fun w => I (asI w)) q.2.2.2) (wordsOf b).length (fun k => [U (nth (wordsOf b) k)]) (0, none, 0, []) rfl rfl (fnOk_of Try.func70 (by decide +kernel)) (fun s hs => hs.sat) rfl ⟨rfl, .nil⟩ (fun _ => rfl)
    (fun ρ y hy => words_iter (fun q : Nat × Option Addr × Nat × Objs => (cb, ⟨0, false, [.slice a b.length c]⟩) :: (b5, ⟨0, false, [.slice q.2.1 q.1 q.2.2.1]⟩) :: (q.2.2.2 ++ O)) (fun k q => q.1 = k ∧ Grow 1 q.2.1 q.1 q.2.2.1 (((wordsOf b).take k).map fun w => I (asI w)) q.2.2.2) ρ y b hb cb a c hlen (fun x => Knows.at 0 rfl) (fun x => Src.cons (Src.cons (Src.app hl))) (0, none, 0, []) ⟨rfl, .nil⟩ hy) (fun h0 ρ k q hk hq => ?_) (fun q hq => ?_)
  · refine WX.seq ?_
    obtain ⟨k', aw, cw, Gw⟩ := q
    obtain ⟨hkk, hGw⟩ := hq
    simp only at hkk hGw
    subst hkk
    dsimp only
    refine WX.region rfl ?_
    refine WXL.assign Met.none rfl ?_
    refine WXL.nil ?_
    refine Fin.then_normal ?_
    refine WX.block ?_
    refine WX.region rfl ?_
    first | refine WXL.ld Met.none rfl agg22 ?_ | refine WXL.ldS Met.none rfl agg22 ?_
    refine WXL.move Met.none rfl ?_
    refine WXL.conv Met.none rfl Try.underlying42 Try.underlying3 rfl ?_
    refine WXL.buildSlice (c := [_]) Met.none rfl elem22 sz3 zero3 (by decide) (by decide) rfl rfl rfl rfl (fun b13 => ?_)
    refine WXL.apG [_, _, _] Met.none rfl rfl isrow22 elem22 sz3 by3 zero3 (Src.lit (cs := [_])) (fun a14 c14 G14 hG14 => ?_)
    refine WXL.st (vs := [_]) (c' := [_]) Met.none rfl rfl rfl sz22 ?_
    refine WXL.nil ?_
    refine Fin.block_normal ?_
    refine Fin.round (k' + 1, a14, c14, G14) ⟨rfl, ?_⟩ (fun h hh => Sat.tl [1, 2] 3 hh)
    rw [take_succ_nth hk, List.map_append]
    exact hG14
  · skip
    refine Fin.block_normal ?_
    refine Fin.then_normal ?_
    refine WX.seq ?_
    obtain ⟨k', aw, cw, Gw⟩ := q
    obtain ⟨hkk, hGw⟩ := hq
    simp only at hkk hGw
    subst hkk
    dsimp only
    rw [List.take_length] at hGw
    refine WX.region rfl ?_
    refine WXL.move Met.none rfl ?_
    first | refine WXL.ld Met.none rfl agg22 ?_ | refine WXL.ldS Met.none rfl agg22 ?_
    refine WXL.move Met.none rfl ?_
    refine WXL.len Met.none rfl Try.underlying23 ?_
    refine WXL.buildSlice (c := [_]) Met.none rfl elem22 sz3 zero3 (by decide) (by decide) rfl rfl rfl rfl (fun b19 => ?_)
    refine WXL.apG [_, _, _] Met.none rfl rfl isrow22 elem22 sz3 by3 zero3 (Src.lit (cs := [_])) (fun a20 c20 G20 hG20 => ?_)
    rw [show (wordsOf b).length + 1 = ((wordsOf b).map asI ++ [(b.length : Int)]).length from by simp]
    refine WXL.cl (O1 := _) Met.none rfl (fnOk_of Try.func51 (by decide +kernel)) rfl (fun _ h => h) (sum_ok _ label ((wordsOf b).map asI ++ [(b.length : Int)]) a20 c20 hB hll (by rw [List.length_append, List.length_map, List.length_singleton]; omega) (Src.cons (Src.cons (Src.cons (by have := hG20.src (R := O); simpa [Function.comp_def] using this))))) (fun v O' hp => ?_)
    obtain ⟨rfl, hO⟩ := hp
    subst O'
    refine WXL.assign Met.none rfl ?_
    refine WXL.nil ?_
    refine Fin.then_normal ?_
    refine WX.ret ?_
    exact Fin.result (O' := O) (.inr rfl) rfl rfl (fun _ hs => by have h2 := hs.tail.tail.tail; exact Sat.app_right (N := G20) (by first | exact h2 | exact h2.app_right)) ⟨rfl, rfl⟩

end Go.Proofs.Ythekokdpplobhaa.Eng

set_option linter.unusedVariables false
set_option linter.unusedSimpArgs false
namespace Go.Proofs.Ythekokdpplobhaa.Eng

theorem Sat.mid {h : AHeap} {G A R : Objs} (hs : Sat h (G ++ (A ++ R))) : Sat h (G ++ R) := (Sat.swap (G := G) (A := A) (R := R) hs).app_right (N := A)

def rawB (b : List Int) : List Int := varU b.length ++ b
def coreB (n : Int) (b : List Int) : List Int := varU (zigU n).toNat ++ rawB b
def lblF : List Int := [102, 114, 97, 109, 101]
def frameB (n : Int) (b : List Int) : List Int := rawB (coreB n b) ++ varU (hashB lblF (coreB n b)).toNat

theorem rawB_bytes {b : List Int} (h : Bytes b) : Bytes (rawB b) := fun x hx => by
  rcases List.mem_append.1 hx with q | q
  · exact varU_bytes _ x q
  · exact h x q
theorem coreB_bytes {n : Int} {b : List Int} (h : Bytes b) : Bytes (coreB n b) := fun x hx => by
  rcases List.mem_append.1 hx with q | q
  · exact varU_bytes _ x q
  · exact rawB_bytes h x q
theorem hashB_range (label b : List Int) : InU (hashB label b) := by
  unfold hashB sumU mixU xorU
  exact wrapU_range _

theorem rawB_len {b : List Int} (h : b.length ≤ 1000000000) : (rawB b).length ≤ b.length + 10 := by
  unfold rawB
  rw [List.length_append]
  have := varU_len (k := 9) (n := b.length) (by omega)
  omega
theorem coreB_len {n : Int} {b : List Int} (hn : In64 n) (h : b.length ≤ 1000000000) : (coreB n b).length ≤ b.length + 20 := by
  unfold coreB
  rw [List.length_append]
  have hz := zigU_range hn
  unfold InU at hz
  have := varU_len (k := 9) (n := (zigU n).toNat) (by omega)
  have := rawB_len h
  omega

theorem frame_ok (O : Objs) (n : Int) (b : List Int) (a : Option Addr) (c : Nat) (hn : In64 n) (hb : Bytes b) (hlen : b.length ≤ 100000) (hl : Src O 1 (.slice a b.length c) b.length (b.map B8)) :
    Spec Try.prog false 12 #[I n, .slice a b.length c] O fun v O' => ∃ a' c' G, v = .slice a' (frameB n b).length c' ∧ Grow 1 a' (frameB n b).length c' ((frameB n b).map B8) G ∧ O' = G ++ O := by
  have hcl := coreB_len hn (b := b) (by omega)
  have hcb := coreB_bytes (n := n) hb
  have hzr := zigU_range hn
  have hzl : (varU (zigU n).toNat).length ≤ 10 := by unfold InU at hzr; exact varU_len (k := 9) (by omega)
  have hhr := hashB_range lblF (coreB n b)
  have hrl := rawB_len (b := coreB n b) (by omega)
  have hfl : (frameB n b).length ≤ 1000000000000 := by
    unfold frameB
    rw [List.length_append]
    have := varU_len (k := 9) (n := (hashB lblF (coreB n b)).toNat) (by unfold InU at hhr; omega)
    omega
  refine Spec.enter (args := [_, _]) (m := 17) Try.func12 rfl rfl (by decide +kernel) fun h0 => ?_
  refine WX.seq ?_
  refine WX.region rfl ?_
  refine WXL.assign Met.none rfl ?_
  refine WXL.nil ?_
  refine Fin.then_normal ?_
  refine WX.seq ?_
  refine WX.region rfl ?_
  refine WXL.alloc (c := [_]) Met.none zero37 rfl (fun b5 => ?_)
  refine WXL.alloc (c := [_]) Met.none zero37 rfl (fun b6 => ?_)
  refine WXL.nil ?_
  refine Fin.then_normal ?_
  refine WX.seq ?_
  refine WX.region rfl ?_
  refine WXL.move Met.none rfl ?_
  refine WXL.cl (O1 := (b5, ⟨0, false, [.slice none 0 0]⟩) :: ([] ++ ((b6, ⟨0, false, [.slice none 0 0]⟩) :: O))) Met.none rfl (fnOk_of Try.func20 (by decide +kernel)) rfl (fun _ hs => hs.tl [1, 0] 2) (wInt_ok ((b6, ⟨0, false, [.slice none 0 0]⟩) :: O) [] b5 [] none 0 n hn (by simp) .nil) (fun v O' hp => ?_)
  obtain ⟨a1, c1, G1, hG1, rfl⟩ := hp
  refine WXL.nil ?_
  refine Fin.then_normal ?_
  refine WX.seq ?_
  refine WX.region rfl ?_
  refine WXL.move Met.none rfl ?_
  refine WXL.cl (O1 := _) Met.none rfl (fnOk_of Try.func21 (by decide +kernel)) rfl (fun _ h => h) (wRaw_ok _ G1 b5 ([] ++ varU (zigU n).toNat) b a1 a c1 c hb (by omega) (by rw [List.nil_append]; omega) hG1 src_) (fun v O' hp => ?_)
  obtain ⟨a2, c2, G2, hG2, rfl⟩ := hp
  rw [show [] ++ varU (zigU n).toNat ++ (varU b.length ++ b) = coreB n b from rfl] at hG2 ⊢
  refine WXL.nil ?_
  refine Fin.then_normal ?_
  refine WX.seq ?_
  refine WX.region rfl ?_
  refine WXL.cl (O1 := _) Met.none rfl (fnOk_of Try.func22 (by decide +kernel)) rfl (fun _ h => h) (done_ok _ G2 b5 (coreB n b) a2 c2 (by omega) hG2 src_ at_) (fun v O' hp => ?_)
  obtain ⟨a3, c3, G3, rfl, hG3, rfl⟩ := hp
  refine WXL.cl (O1 := (b6, ⟨0, false, [.slice none 0 0]⟩) :: ([] ++ (G3 ++ ((b5, ⟨0, false, [.slice a2 (coreB n b).length c2]⟩) :: (G2 ++ O))))) Met.none rfl (fnOk_of Try.func21 (by decide +kernel)) rfl (fun h hh => by simpa only [List.append_assoc, List.cons_append, List.nil_append] using Sat.swap (G := G3 ++ ((b5, ⟨0, false, [.slice a2 (coreB n b).length c2]⟩) :: G2)) (A := [(b6, ⟨0, false, [.slice none 0 0]⟩)]) (R := O) (by simpa only [List.append_assoc, List.cons_append, List.nil_append] using hh)) (wRaw_ok _ [] b6 [] (coreB n b) none a3 0 c3 hcb (by omega) (by simp) .nil src_) (fun v O' hp => ?_)
  obtain ⟨a4, c4, G4, hG4, rfl⟩ := hp
  rw [show [] ++ (varU (coreB n b).length ++ coreB n b) = rawB (coreB n b) from rfl] at hG4 ⊢
  refine WXL.nil ?_
  refine Fin.then_normal ?_
  refine WX.seq ?_
  refine WX.region rfl ?_
  refine WXL.cl (O1 := _) Met.none rfl (fnOk_of Try.func22 (by decide +kernel)) rfl (fun _ h => h) (done_ok _ G2 b5 (coreB n b) a2 c2 (by omega) hG2 src_ (Knows.cons (Knows.app (Knows.app (Knows.at 0 rfl))))) (fun v O' hp => ?_)
  obtain ⟨a5, c5, G5, rfl, hG5, rfl⟩ := hp
  refine WXL.cl (O1 := _) Met.none rfl (fnOk_of Try.func28 (by decide +kernel)) rfl (fun _ h => h) (hash_ok _ lblF (coreB n b) a5 c5 (by unfold lblF; intro x hx; simp at hx; omega) hcb (by decide) (by omega) src_) (fun v O' hp => ?_)
  obtain ⟨rfl, hO⟩ := hp
  subst O'
  rw [show U (hashB lblF (coreB n b)) = U (((hashB lblF (coreB n b)).toNat : Nat) : Int) from by rw [Int.toNat_of_nonneg hhr.1]]
  refine WXL.cl (O1 := (b6, ⟨0, false, [.slice a4 (rawB (coreB n b)).length c4]⟩) :: (G4 ++ (G5 ++ (G3 ++ ((b5, ⟨0, false, [.slice a2 (coreB n b).length c2]⟩) :: (G2 ++ O)))))) Met.none rfl (fnOk_of Try.func23 (by decide +kernel)) rfl (fun h hh => by simpa only [List.append_assoc, List.cons_append, List.nil_append] using Sat.swap (G := G5) (A := (b6, ⟨0, false, [.slice a4 (rawB (coreB n b)).length c4]⟩) :: G4) (R := G3 ++ ((b5, ⟨0, false, [.slice a2 (coreB n b).length c2]⟩) :: (G2 ++ O))) (by simpa only [List.append_assoc, List.cons_append, List.nil_append] using hh)) (wUint_ok _ G4 b6 (rawB (coreB n b)) a4 c4 (hashB lblF (coreB n b)).toNat (by unfold InU at hhr; omega) (by omega) hG4) (fun v O' hp => ?_)
  obtain ⟨a6, c6, G6, hG6, rfl⟩ := hp
  rw [show rawB (coreB n b) ++ varU (hashB lblF (coreB n b)).toNat = frameB n b from rfl] at hG6 ⊢
  refine WXL.nil ?_
  refine Fin.then_normal ?_
  refine WX.seq ?_
  refine WX.region rfl ?_
  refine WXL.cl (O1 := _) Met.none rfl (fnOk_of Try.func22 (by decide +kernel)) rfl (fun _ h => h) (done_ok _ G6 b6 (frameB n b) a6 c6 hfl hG6 src_ at_) (fun v O' hp => ?_)
  obtain ⟨a7, c7, G7, rfl, hG7, rfl⟩ := hp
  refine WXL.assign Met.none rfl ?_
  refine WXL.nil ?_
  refine Fin.then_normal ?_
  refine WX.ret ?_
  exact Fin.result (O' := G7 ++ O) (.inr rfl) rfl rfl (fun h hh => Sat.mid (G := G7) (A := (b6, ⟨0, false, [.slice a6 (frameB n b).length c6]⟩) :: (G6 ++ (G5 ++ (G3 ++ ((b5, ⟨0, false, [.slice a2 (coreB n b).length c2]⟩) :: G2))))) (R := O) (by simpa only [List.append_assoc, List.cons_append, List.nil_append] using hh)) ⟨a7, c7, G7, rfl, hG7, rfl⟩

end Go.Proofs.Ythekokdpplobhaa.Eng

set_option linter.unusedVariables false
set_option linter.unusedSimpArgs false
namespace Go.Proofs.Ythekokdpplobhaa.Eng

theorem read_ok (O : Objs) (l : List Int) (a : Option Addr) (c : Nat) (hlen : l.length ≤ 1000000000000) (hnil : a = none → l = []) (hl : Src O 1 (.slice a l.length c) l.length (l.map B8)) :
    Spec Try.prog false 24 #[.slice a l.length c] O fun v O' => ∃ r a' c' G, v = Ptr r 0 ∧ Grow 1 a' l.length c' (l.map B8) G ∧ O' = (r, ⟨0, false, [.slice a' l.length c', I 0]⟩) :: (G ++ O) := by
  refine Spec.enter (args := [_]) (m := 7) Try.func24 rfl rfl (by decide +kernel) fun h0 => ?_
  refine WX.seq ?_
  refine WX.region rfl ?_
  refine WXL.assign Met.none rfl ?_
  refine WXL.nil ?_
  refine Fin.then_normal ?_
  refine WX.seq ?_
  refine WX.region rfl ?_
  refine WXL.move Met.none rfl ?_
  refine WXL.cl (O1 := _) Met.none rfl (fnOk_of Try.func46 (by decide +kernel)) rfl (fun _ h => h) (clone_ok _ l a c hlen hnil src_) (fun v O' hp => ?_)
  obtain ⟨a', c', G, rfl, hG, rfl⟩ := hp
  refine WXL.build (c := [_, _]) Met.none rfl zero75 places75 rfl ?_
  refine WXL.box (c := [_, _]) Met.none rfl rfl rfl (fun b6 => ?_)
  refine WXL.assign Met.none rfl ?_
  refine WXL.nil ?_
  refine Fin.then_normal ?_
  refine WX.ret ?_
  exact Fin.result (O' := (b6, ⟨0, false, [.slice a' l.length c', I 0]⟩) :: (G ++ O)) (.inr rfl) rfl rfl drop_ ⟨b6, a', c', G, rfl, hG, rfl⟩

/-- An error is noted, unless there is one. -/
theorem fail_ok (O : Objs) (r : Nat) (v : Value) (e e0 : Int) :
    Spec Try.prog false 49 #[Ptr r 0, I e] ((r, ⟨0, false, [v, I e0]⟩) :: O) fun _ O' => O' = (r, ⟨0, false, [v, I (if e0 = 0 then e else e0)]⟩) :: O := by
  refine Spec.enter (args := [_, _]) (m := 13) Try.func49 rfl rfl (by decide +kernel) fun h0 => ?_
  refine WX.seq ?_
  refine WX.region rfl ?_
  refine WXL.move Met.none rfl ?_
  refine WXL.nilCheck Met.none rfl ?_
  first | refine WXL.fieldAddr Met.none rfl Try.underlying75 rfl sz47 rfl ?_ | refine WXL.faS Met.none rfl Try.underlying75 rfl sz47 ?_
  first | refine WXL.ld Met.none rfl agg47 ?_ | refine WXL.ldS Met.none rfl agg47 ?_
  refine WXL.bin Met.none rfl rfl rfl ?_
  refine WXL.nil ?_
  refine Fin.then_normal ?_
  refine WX.cond rfl (fun hc0 => ?_) (fun hc0 => ?_)
  · try simp only [cnd] at hc0
    refine WX.region rfl ?_
    refine WXL.move Met.none rfl ?_
    refine WXL.move Met.none rfl ?_
    refine WXL.nilCheck Met.none rfl ?_
    first | refine WXL.fieldAddr Met.none rfl Try.underlying75 rfl sz47 rfl ?_ | refine WXL.faS Met.none rfl Try.underlying75 rfl sz47 ?_
    refine WXL.st (vs := [_]) Met.none rfl rfl rfl sz47 ?_
    refine WXL.nil ?_
    first
    | exact Fin.result (O' := (r, ⟨0, false, [v, I e]⟩) :: O) (.inl rfl) rfl rfl (fun _ hs => hs) (by rw [if_pos hc0])
    | exact Fin.result (O' := (r, ⟨0, false, [v, I e0]⟩) :: O) (.inl rfl) rfl rfl (fun _ hs => hs) (by rw [if_neg hc0])
  · try simp only [cnd] at hc0
    refine WX.skip ?_
    first
    | exact Fin.result (O' := (r, ⟨0, false, [v, I e]⟩) :: O) (.inl rfl) rfl rfl (fun _ hs => hs) (by rw [if_pos hc0])
    | exact Fin.result (O' := (r, ⟨0, false, [v, I e0]⟩) :: O) (.inl rfl) rfl rfl (fun _ hs => hs) (by rw [if_neg hc0])

end Go.Proofs.Ythekokdpplobhaa.Eng

set_option linter.unusedVariables false
set_option linter.unusedSimpArgs false
namespace Go.Proofs.Ythekokdpplobhaa.Eng

/-- A reader: what is left, and its error. -/
abbrev RdP := List Int × Int
/-- Its object. -/
def RdO (O : Objs) (r : Nat) (q : RdP) (N : Objs) : Prop := ∃ a c, N = (r, ⟨0, false, [.slice a q.1.length c, I q.2]⟩) :: O ∧ Rowy O 1 a q.1.length (q.1.map B8) ∧ (a = none → c = 0)

/-- The same, with the row told out of the one before, whatever else lies there. -/
def RdT (O : Objs) (r : Nat) (a0 : Option Addr) (q0 q : RdP) (N : Objs) : Prop := ∃ a c, N = (r, ⟨0, false, [.slice a q.1.length c, I q.2]⟩) :: O ∧ (∀ O2, Rowy O2 1 a0 q0.1.length (q0.1.map B8) → Rowy O2 1 a q.1.length (q.1.map B8)) ∧ (a = none → c = 0)

def nextP : RdP → Int × RdP
  | (b :: l, 0) => (b, (l, 0))
  | ([], 0) => (0, ([], 3))
  | q => (0, q)

theorem Rowy.tail {O : Objs} {a : Option Addr} {x : Value} {cs : List Value} {n : Nat} (h : Rowy O 1 a (n + 1) (x :: cs)) : ∃ b off y, a = some ⟨b, off, none⟩ ∧ Knows O b y ∧ y.sz = 1 ∧ Rowy O 1 (some ⟨b, off + 1, none⟩) n cs := by
  rcases h with ⟨_, h, _⟩ | ⟨b, off, y, h1, h2, h3, h4, h5⟩
  · omega
  · refine ⟨b, off, y, h1, h2, h3, .inr ⟨b, off + 1, y, rfl, h2, h3, by omega, ?_⟩⟩
    have := congrArg (List.drop 1) h5
    rw [List.drop_take, List.drop_drop] at this
    simpa using this

theorem Rowy.tl {O : Objs} {b off n : Nat} {x : Value} {cs : List Value} (h : Rowy O 1 (some ⟨b, off, none⟩) (n + 1) (x :: cs)) : Rowy O 1 (some ⟨b, off + 1, none⟩) n cs := by
  obtain ⟨b2, off2, y, h1, h2, h3, h4⟩ := Rowy.tail h
  injection h1 with h1
  injection h1 with h1 h5
  subst h1 h5
  exact h4

theorem next_nil (O : Objs) (r : Nat) (e : Int) (a : Option Addr) (c : Nat) (hr : Rowy O 1 a 0 []) (hc : a = none → c = 0) :
    Spec Try.prog false 48 #[Ptr r 0] ((r, ⟨0, false, [.slice a 0 c, I e]⟩) :: O) fun v O' => v = B8 (nextP ([], e)).1 ∧ RdT O r a ([], e) (nextP ([], e)).2 O' := by
  refine Spec.enter (args := [_]) (m := 32) Try.func48 rfl rfl (by decide +kernel) fun h0 => ?_
  refine WX.seq ?_
  refine WX.region rfl ?_
  refine WXL.assign Met.none rfl ?_
  refine WXL.nil ?_
  refine Fin.then_normal ?_
  refine WX.seq ?_
  refine WX.seq ?_
  refine WX.region rfl ?_
  refine WXL.move Met.none rfl ?_
  refine WXL.nilCheck Met.none rfl ?_
  first | refine WXL.fieldAddr Met.none rfl Try.underlying75 rfl sz23 rfl ?_ | refine WXL.faS Met.none rfl Try.underlying75 rfl sz23 ?_
  first | refine WXL.ld Met.none rfl agg23 ?_ | refine WXL.ldS Met.none rfl agg23 ?_
  refine WXL.len Met.none rfl Try.underlying23 ?_
  refine WXL.bin Met.none rfl rfl rfl ?_
  refine WXL.nil ?_
  refine Fin.then_normal ?_
  refine WX.cond rfl (fun hc0 => ?_) (fun hc0 => ?_)
  · try simp only [cnd] at hc0
    refine WX.region rfl ?_
    refine WXL.move Met.none rfl ?_
    refine WXL.cl (O1 := _) Met.none rfl (fnOk_of Try.func49 (by decide +kernel)) rfl (fun _ h => h) (fail_ok _ r _ 3 e) (fun v O' hp => ?_)
    obtain rfl := hp
    refine WXL.nil ?_
    refine Fin.then_normal ?_
    refine WX.seq ?_
    refine WX.seq ?_
    refine WX.region rfl ?_
    refine WXL.move Met.none rfl ?_
    refine WXL.nilCheck Met.none rfl ?_
    first | refine WXL.fieldAddr Met.none rfl Try.underlying75 rfl sz47 rfl ?_ | refine WXL.faS Met.none rfl Try.underlying75 rfl sz47 ?_
    first | refine WXL.ld Met.none rfl agg47 ?_ | refine WXL.ldS Met.none rfl agg47 ?_
    refine WXL.bin Met.none rfl rfl rfl ?_
    refine WXL.nil ?_
    refine Fin.then_normal ?_
    refine WX.cond rfl (fun hc1 => ?_) (fun hc1 => ?_)
    · try simp only [cnd] at hc1
      refine WX.seq ?_
      refine WX.region rfl ?_
      refine WXL.assign Met.none rfl ?_
      refine WXL.nil ?_
      refine Fin.then_normal ?_
      refine WX.ret ?_
      refine Fin.then_ret ?_
      refine Fin.result (O' := (r, ⟨0, false, [.slice a 0 c, I (if e = 0 then 3 else e)]⟩) :: O) (.inr rfl) rfl rfl (fun _ hs => hs) ?_
      by_cases q : e = 0
      · subst q; exact ⟨rfl, a, c, rfl, fun _ h => h, hc⟩
      · have e1 : nextP ([], e) = (0, ([], e)) := by unfold nextP; split <;> simp_all
        rw [e1, if_neg q]
        exact ⟨rfl, a, c, rfl, fun _ h => h, hc⟩
    · try simp only [cnd] at hc1
      exact absurd hc1 (by split <;> omega) --end
  · try simp only [cnd] at hc0
    exact absurd rfl hc0 --end

theorem next_cons (O : Objs) (r : Nat) (x : Int) (l : List Int) (e : Int) (a : Option Addr) (c : Nat) (hlen : l.length ≤ 1000000000000) (hr : Rowy O 1 a (l.length + 1) ((x :: l).map B8)) (hc : a = none → c = 0) :
    Spec Try.prog false 48 #[Ptr r 0] ((r, ⟨0, false, [.slice a (l.length + 1) c, I e]⟩) :: O) fun v O' => v = B8 (nextP (x :: l, e)).1 ∧ RdT O r a (x :: l, e) (nextP (x :: l, e)).2 O' := by
  have hs := hr.src hc
  obtain ⟨b, off, ⟨ysz, yro, yc⟩, h1, h2, h3, h4⟩ := Rowy.tail hr
  have h3 : ysz = 1 := h3
  subst h3
  refine Spec.enter (args := [_]) (m := 32) Try.func48 rfl rfl (by decide +kernel) fun h0 => ?_
  refine WX.seq ?_
  refine WX.region rfl ?_
  refine WXL.assign Met.none rfl ?_
  refine WXL.nil ?_
  refine Fin.then_normal ?_
  refine WX.seq ?_
  refine WX.seq ?_
  refine WX.region rfl ?_
  refine WXL.move Met.none rfl ?_
  refine WXL.nilCheck Met.none rfl ?_
  first | refine WXL.fieldAddr Met.none rfl Try.underlying75 rfl sz23 rfl ?_ | refine WXL.faS Met.none rfl Try.underlying75 rfl sz23 ?_
  first | refine WXL.ld Met.none rfl agg23 ?_ | refine WXL.ldS Met.none rfl agg23 ?_
  refine WXL.len Met.none rfl Try.underlying23 ?_
  refine WXL.bin Met.none rfl rfl rfl ?_
  refine WXL.nil ?_
  refine Fin.then_normal ?_
  refine WX.cond rfl (fun hc0 => ?_) (fun hc0 => ?_)
  · try simp only [cnd] at hc0
    exact absurd hc0 (by omega) --end
  · try simp only [cnd] at hc0
    refine WX.skip ?_
    refine Fin.then_normal ?_
    refine WX.seq ?_
    refine WX.seq ?_
    refine WX.region rfl ?_
    refine WXL.move Met.none rfl ?_
    refine WXL.nilCheck Met.none rfl ?_
    first | refine WXL.fieldAddr Met.none rfl Try.underlying75 rfl sz47 rfl ?_ | refine WXL.faS Met.none rfl Try.underlying75 rfl sz47 ?_
    first | refine WXL.ld Met.none rfl agg47 ?_ | refine WXL.ldS Met.none rfl agg47 ?_
    refine WXL.bin Met.none rfl rfl rfl ?_
    refine WXL.nil ?_
    refine Fin.then_normal ?_
    refine WX.cond rfl (fun hc1 => ?_) (fun hc1 => ?_)
    · try simp only [cnd] at hc1
      refine WX.seq ?_
      refine WX.region rfl ?_
      refine WXL.assign Met.none rfl ?_
      refine WXL.nil ?_
      refine Fin.then_normal ?_
      refine WX.ret ?_
      refine Fin.then_ret ?_
      first
      | (refine Fin.result (O' := (r, ⟨0, false, [.slice a (l.length + 1) c, I e]⟩) :: O) (.inr rfl) rfl rfl (fun _ hs => hs) ?_
         have e1 : nextP (x :: l, e) = (0, (x :: l, e)) := by unfold nextP; split <;> simp_all
         rw [e1]
         exact ⟨rfl, a, c, rfl, fun _ h => h, hc⟩)
      | (have he : e = 0 := by omega
         subst he
         exact Fin.result (O' := (r, ⟨0, false, [.slice (some ⟨b, off + 1, none⟩) l.length l.length, I 0]⟩) :: O) (.inr rfl) rfl rfl (fun _ hs => hs) ⟨rfl, _, _, rfl, fun O2 h => Rowy.tl (h1 ▸ h), fun q => by cases q⟩)
    · try simp only [cnd] at hc1
      refine WX.skip ?_
      refine Fin.then_normal ?_
      refine WX.seq ?_
      refine WX.region rfl ?_
      refine WXL.move Met.none rfl ?_
      refine WXL.nilCheck Met.none rfl ?_
      first | refine WXL.fieldAddr Met.none rfl Try.underlying75 rfl sz23 rfl ?_ | refine WXL.faS Met.none rfl Try.underlying75 rfl sz23 ?_
      first | refine WXL.ld Met.none rfl agg23 ?_ | refine WXL.ldS Met.none rfl agg23 ?_
      first | refine WXL.ix Met.none rfl rfl elem23 sz5 ?_ | refine WXL.ixS Met.none rfl rfl elem23 sz5 ?_
      first | refine WXL.ld Met.none rfl agg5 ?_ (hv := (show _ = some (B8 x) from rfl)) | refine WXL.ldS Met.none rfl agg5 ?_ (hv := (show _ = some (B8 x) from rfl))
      refine WXL.assign Met.none rfl ?_
      refine WXL.nil ?_
      refine Fin.then_normal ?_
      refine WX.seq ?_
      refine WX.region rfl ?_
      refine WXL.move Met.none rfl ?_
      refine WXL.move Met.none rfl ?_
      refine WXL.nilCheck Met.none rfl ?_
      first | refine WXL.fieldAddr Met.none rfl Try.underlying75 rfl sz23 rfl ?_ | refine WXL.faS Met.none rfl Try.underlying75 rfl sz23 ?_
      first | refine WXL.ld Met.none rfl agg23 ?_ | refine WXL.ldS Met.none rfl agg23 ?_
      refine WXL.suf (cs := []) (m := 1) Met.none rfl rfl elem23 sz5 h1 h2.cons rfl ?_
      refine WXL.nilCheck Met.none rfl ?_
      first | refine WXL.fieldAddr Met.none rfl Try.underlying75 rfl sz23 rfl ?_ | refine WXL.faS Met.none rfl Try.underlying75 rfl sz23 ?_
      refine WXL.st (vs := [_]) Met.none rfl rfl rfl sz23 ?_
      refine WXL.nil ?_
      refine Fin.then_normal ?_
      refine WX.seq ?_
      refine WX.region rfl ?_
      refine WXL.move Met.none rfl ?_
      refine WXL.assign Met.none rfl ?_
      refine WXL.nil ?_
      refine Fin.then_normal ?_
      refine WX.ret ?_
      first
      | (refine Fin.result (O' := (r, ⟨0, false, [.slice a (l.length + 1) c, I e]⟩) :: O) (.inr rfl) rfl rfl (fun _ hs => hs) ?_
         have e1 : nextP (x :: l, e) = (0, (x :: l, e)) := by unfold nextP; split <;> simp_all
         rw [e1]
         exact ⟨rfl, a, c, rfl, fun _ h => h, hc⟩)
      | (have he : e = 0 := by omega
         subst he
         exact Fin.result (O' := (r, ⟨0, false, [.slice (some ⟨b, off + 1, none⟩) l.length l.length, I 0]⟩) :: O) (.inr rfl) rfl rfl (fun _ hs => hs) ⟨rfl, _, _, rfl, fun O2 h => Rowy.tl (h1 ▸ h), fun q => by cases q⟩)

end Go.Proofs.Ythekokdpplobhaa.Eng

set_option linter.unusedVariables false
set_option linter.unusedSimpArgs false
namespace Go.Proofs.Ythekokdpplobhaa.Eng

def failP (q : RdP) (e : Int) : RdP := (q.1, if q.2 = 0 then e else q.2)
/-- Does this byte not belong at this place? -/
def badB (i : Nat) (c : Int) : Prop := (i = 9 ∧ 1 < c) ∨ (0 < i ∧ c = 0)
instance (i : Nat) (c : Int) : Decidable (badB i c) := by unfold badB; infer_instance
/-- Seven bits more. -/
def bitsU (n c : Int) (i : Nat) : Int :=
  IntKind.wrap .u64 (((BitVec.ofInt 64 n) ||| (BitVec.ofInt 64 (IntKind.wrap .u64 (IntKind.wrap .u8 ((BitVec.ofInt 8 c) &&& ~~~(BitVec.ofInt 8 128)).toNat * 2 ^ (min (7 * (i : Int)).toNat 64))))).toNat : Int)

theorem nextP_len (q : RdP) (h : q.2 = 0) : (nextP q).2.2 ≠ 0 ∨ (nextP q).2.1.length < q.1.length := by
  obtain ⟨l, e⟩ := q
  simp only at h
  subst h
  cases l with
  | nil => exact .inl (by decide)
  | cons b l => exact .inr (by show l.length < l.length + 1; omega)

/-- A round's state behind the byte. -/
def roundP (i : Nat) (q : RdP) : RdP := if badB i (nextP q).1 then failP (nextP q).2 2 else (nextP q).2

theorem roundP_len (i : Nat) (q : RdP) (h : q.2 = 0) : (roundP i q).2 ≠ 0 ∨ (roundP i q).1.length < q.1.length := by
  unfold roundP failP
  rcases nextP_len q h with q1 | q1
  · left
    split
    · simp only [if_neg q1]; exact q1
    · exact q1
  · split
    · right; exact q1
    · exact .inr q1

/-- What a reader makes of a number from round `i` on. -/
def uintP (i : Nat) (n : Int) (q : RdP) : Int × RdP :=
  if h : q.2 = 0 then
    if (nextP q).1 < 128 ∧ (roundP i q).2 = 0 then (bitsU n (nextP q).1 i, roundP i q)
    else if h2 : (roundP i q).2 = 0 then uintP (i + 1) (bitsU n (nextP q).1 i) (roundP i q) else (0, roundP i q)
  else (0, q)
termination_by q.1.length
decreasing_by
  rcases roundP_len i q h with w | w
  · exact absurd h2 w
  · exact w

end Go.Proofs.Ythekokdpplobhaa.Eng

set_option linter.unusedVariables false
set_option linter.unusedSimpArgs false
namespace Go.Proofs.Ythekokdpplobhaa.Eng

theorem and127 : ∀ x : BitVec 8, (x &&& ~~~(128#8)).toNat = x.toNat % 128 := by decide +kernel

theorem bitsU_eq {acc c i : Nat} (hc : c < 256) (hi : i ≤ 9) (hacc : acc < 2 ^ (7 * i)) (h : acc + (c % 128) * 2 ^ (7 * i) < 18446744073709551616) : bitsU acc c i = ((acc + (c % 128) * 2 ^ (7 * i) : Nat) : Int) := by
  have e0 : (BitVec.ofInt 8 128) = 128#8 := rfl
  have e1 : ((BitVec.ofInt 8 (c : Int)) &&& ~~~(BitVec.ofInt 8 128)).toNat = c % 128 := by
    rw [e0, and127, BitVec.toNat_ofInt]
    omega
  have e2 : min (7 * (i : Int)).toNat 64 = 7 * i := by omega
  have e4 : (((c % 128 : Nat) : Int) * 2 ^ (7 * i)) = (((c % 128) * 2 ^ (7 * i) : Nat) : Int) := by rw [Int.natCast_mul, Int.natCast_pow]; rfl
  have hb : (c % 128) * 2 ^ (7 * i) < 18446744073709551616 := by omega
  have ha : acc < 18446744073709551616 := by omega
  unfold bitsU
  rw [e1, e2, wrap_u8 (n := ((c % 128 : Nat) : Int)) (by omega) (by omega), e4, wrap_u64 (n := (((c % 128) * 2 ^ (7 * i) : Nat) : Int)) (by omega) (by omega)]
  have e5 : ((BitVec.ofInt 64 (acc : Int)) ||| (BitVec.ofInt 64 (((c % 128) * 2 ^ (7 * i) : Nat) : Int))).toNat = acc + (c % 128) * 2 ^ (7 * i) := by
    rw [BitVec.toNat_or, BitVec.toNat_ofInt, BitVec.toNat_ofInt, ← or_above hacc]
    congr 1 <;> omega
  rw [e5, wrap_u64 (by omega) (by omega)]

theorem uintP_var (rest : List Int) : ∀ (m i acc : Nat), i ≤ 9 → acc < 2 ^ (7 * i) → acc + m * 2 ^ (7 * i) < 18446744073709551616 → (0 < i → 0 < m) →
    uintP i acc (varU m ++ rest, 0) = (((acc + m * 2 ^ (7 * i) : Nat) : Int), (rest, 0)) := by
  intro m
  induction m using Nat.strongRecOn with
  | _ m ih =>
    intro i acc hi hacc hsum hpos
    by_cases hm : m < 128
    · have e1 : nextP (varU m ++ rest, 0) = ((m : Int), (rest, 0)) := by rw [varU_lt hm]; rfl
      have hnb : ¬ badB i (m : Int) := by
        unfold badB
        rintro (⟨h9, h1⟩ | ⟨h1, h2⟩)
        · subst h9
          have : m * 2 ^ 63 < 18446744073709551616 := by omega
          have : m < 2 := by omega
          omega
        · have := hpos h1; omega
      have e2 : roundP i (varU m ++ rest, 0) = (rest, 0) := by unfold roundP; rw [e1, if_neg hnb]
      rw [uintP, dif_pos rfl, e1, e2, if_pos ⟨by show (m : Int) < 128; omega, rfl⟩]
      have := bitsU_eq (acc := acc) (c := m) (i := i) (by omega) hi hacc (by rw [Nat.mod_eq_of_lt hm]; exact hsum)
      rw [Nat.mod_eq_of_lt hm] at this
      rw [this]
    · have hm1 : m % 128 + 128 * (m / 128) = m := by omega
      have e1 : nextP (varU m ++ rest, 0) = (((128 + m % 128 : Nat) : Int), (varU (m / 128) ++ rest, 0)) := by rw [varU_ge hm]; rfl
      have hi9 : i < 9 := by
        rcases Nat.lt_or_ge i 9 with q | q
        · exact q
        · have : i = 9 := by omega
          subst this
          have : m * 2 ^ 63 < 18446744073709551616 := by omega
          omega
      have hnb : ¬ badB i ((128 + m % 128 : Nat) : Int) := by
        unfold badB
        rintro (⟨h9, h1⟩ | ⟨h1, h2⟩) <;> omega
      have e2 : roundP i (varU m ++ rest, 0) = (varU (m / 128) ++ rest, 0) := by unfold roundP; rw [e1, if_neg hnb]
      have hp : 2 ^ (7 * (i + 1)) = 128 * 2 ^ (7 * i) := by rw [Nat.mul_add, Nat.pow_add, Nat.mul_comm]
      have hms : m * 2 ^ (7 * i) = (m % 128) * 2 ^ (7 * i) + (m / 128) * 2 ^ (7 * (i + 1)) := by
        rw [hp, ← Nat.mul_assoc, ← Nat.add_mul]
        congr 1
        omega
      have hb := bitsU_eq (acc := acc) (c := 128 + m % 128) (i := i) (by omega) (by omega) hacc (by
        have : (128 + m % 128) % 128 = m % 128 := by omega
        rw [this]; omega)
      rw [show (128 + m % 128) % 128 = m % 128 from by omega] at hb
      rw [uintP, dif_pos rfl, e1, e2, if_neg (fun q => by have := q.1; simp only at this; omega), dif_pos rfl, hb]
      have hlt : (m % 128) * 2 ^ (7 * i) ≤ 127 * 2 ^ (7 * i) := Nat.mul_le_mul_right _ (by omega)
      rw [ih (m / 128) (by omega) (i + 1) (acc + (m % 128) * 2 ^ (7 * i)) (by omega) (by rw [hp]; omega) (by omega) (fun _ => by omega)]
      congr 2
      omega

end Go.Proofs.Ythekokdpplobhaa.Eng

set_option linter.unusedVariables false
set_option linter.unusedSimpArgs false
namespace Go.Proofs.Ythekokdpplobhaa.Eng

/-- A byte is taken, whatever is left. -/
theorem next_ok (O : Objs) (r : Nat) (q : RdP) (a : Option Addr) (c : Nat) (hlen : q.1.length ≤ 1000000000000) (hr : Rowy O 1 a q.1.length (q.1.map B8)) (hc : a = none → c = 0) :
    Spec Try.prog false 48 #[Ptr r 0] ((r, ⟨0, false, [.slice a q.1.length c, I q.2]⟩) :: O) fun v O' => v = B8 (nextP q).1 ∧ RdT O r a q (nextP q).2 O' := by
  obtain ⟨l, e⟩ := q
  cases l with
  | nil => exact next_nil O r e a c hr hc
  | cons x l => exact next_cons O r x l e a c (by simp only [List.length_cons] at hlen; omega) hr hc

theorem nextP_le (q : RdP) : (nextP q).2.1.length ≤ q.1.length := by
  obtain ⟨l, e⟩ := q
  unfold nextP
  split <;> simp_all

theorem uintP_step {i : Nat} {n : Int} {q : RdP} (h : q.2 = 0) : uintP i n q = if (nextP q).1 < 128 ∧ (roundP i q).2 = 0 then (bitsU n (nextP q).1 i, roundP i q) else uintP (i + 1) (bitsU n (nextP q).1 i) (roundP i q) := by
  rw [uintP, dif_pos h]
  split
  · rfl
  · split
    · rfl
    · rename_i h2
      rw [uintP, dif_neg h2]

theorem failP_ne (q : RdP) : (failP q 2).2 ≠ 0 := by
  unfold failP
  simp only
  split <;> omega

theorem wrap8_range (n : Int) : 0 ≤ IntKind.wrap .u8 n ∧ IntKind.wrap .u8 n < 18446744073709551616 := by
  unfold IntKind.wrap
  have e1 : (2 : Int) ^ IntKind.bits .u8 = 256 := rfl
  have e3 : IntKind.signed .u8 = false := rfl
  simp only [e1, e3, Bool.false_and, Bool.false_eq_true, if_false]
  omega

theorem nextP_err {l : List Int} {e : Int} (h : e ≠ 0) : nextP (l, e) = (0, (l, e)) := by
  unfold nextP
  split <;> simp_all

theorem nextP_range {q : RdP} (h : Bytes q.1) : 0 ≤ (nextP q).1 ∧ (nextP q).1 < 256 ∧ Bytes (nextP q).2.1 := by
  obtain ⟨l, e⟩ := q
  by_cases he : e = 0
  · subst he
    cases l with
    | nil => exact ⟨by decide, by decide, fun x hx => by simp [nextP] at hx⟩
    | cons b l => exact ⟨(h b (List.mem_cons_self ..)).1, (h b (List.mem_cons_self ..)).2, fun x hx => h x (List.mem_cons_of_mem _ hx)⟩
  · rw [nextP_err he]
    exact ⟨Int.le_refl 0, by show (0 : Int) < 256; decide, h⟩

theorem uint_ok (O : Objs) (r : Nat) (q0 : RdP) (a0 : Option Addr) (c0 : Nat) (hB : Bytes q0.1) (hlen : q0.1.length ≤ 1000000000000) (hr : Rowy O 1 a0 q0.1.length (q0.1.map B8)) (hc : a0 = none → c0 = 0) :
    Spec Try.prog false 26 #[Ptr r 0] ((r, ⟨0, false, [.slice a0 q0.1.length c0, I q0.2]⟩) :: O) fun v O' => v = U (uintP 0 0 q0).1 ∧ RdO O r (uintP 0 0 q0).2 O' := by
  refine Spec.enter (args := [_]) (m := 49) Try.func26 rfl rfl (by decide +kernel) fun h0 => ?_
  refine WX.seq ?_
  refine WX.region rfl ?_
  refine WXL.assign Met.none rfl ?_
  refine WXL.nil ?_
  refine Fin.then_normal ?_
  refine WX.seq ?_
  refine WX.region rfl ?_
  refine WXL.assign Met.none rfl ?_
  refine WXL.nil ?_
  refine Fin.then_normal ?_
  refine WX.seq ?_
  refine WX.seq ?_
  refine WX.region rfl ?_
  refine WXL.assign Met.none rfl ?_
  refine WXL.nil ?_
  refine Fin.then_normal ?_
  refine WX.block ?_
  refine WX.loop (fun s : Nat × Int × RdP × Option Addr × Nat => [(0, Ptr r 0), (3, U s.2.1), (4, I (s.1 : Int))]) (fun s => (r, ⟨0, false, [.slice s.2.2.2.1 s.2.2.1.1.length s.2.2.2.2, I s.2.2.1.2]⟩) :: O) (fun s => uintP s.1 s.2.1 s.2.2.1 = uintP 0 0 q0 ∧ Bytes s.2.2.1.1 ∧ s.2.2.1.1.length ≤ q0.1.length ∧ (s.2.2.1.2 = 0 → s.1 + s.2.2.1.1.length ≤ q0.1.length) ∧ Rowy O 1 s.2.2.2.1 s.2.2.1.1.length (s.2.2.1.1.map B8) ∧ (s.2.2.2.1 = none → s.2.2.2.2 = 0)) (fun s => if s.2.2.1.2 = 0 then s.2.2.1.1.length + 1 else 0) (0, 0, q0, a0, c0) ⟨rfl, hB, Nat.le_refl _, fun _ => by simp, hr, hc⟩ (fun s hs => hs.tl [0] 1) (fun s hs => ?_)
  obtain ⟨i, n, q, a, c⟩ := s
  obtain ⟨g1, g2, g3, g4, g5, g6⟩ := hs
  simp only at g1 g2 g3 g4 g5 g6
  dsimp only
  refine WX.seq ?_
  refine WX.seq ?_
  refine WX.region rfl ?_
  refine WXL.move Met.none rfl ?_
  refine WXL.nilCheck Met.none rfl ?_
  first | refine WXL.fieldAddr Met.none rfl Try.underlying75 rfl sz47 rfl ?_ | refine WXL.faS Met.none rfl Try.underlying75 rfl sz47 ?_
  first | refine WXL.ld Met.none rfl agg47 ?_ | refine WXL.ldS Met.none rfl agg47 ?_
  refine WXL.bin Met.none rfl rfl rfl ?_
  refine WXL.nil ?_
  refine Fin.then_normal ?_
  refine WX.cond rfl (fun hc0 => ?_) (fun hc0 => ?_)
  · try simp only [cnd] at hc0
    refine WX.skip ?_
    refine Fin.then_normal ?_
    refine WX.seq ?_
    refine WX.block ?_
    refine WX.seq ?_
    refine WX.region rfl ?_
    refine WXL.move Met.none rfl ?_
    refine WXL.cl (O1 := _) Met.none rfl (fnOk_of Try.func48 (by decide +kernel)) rfl (fun _ h => h) (next_ok O r q a c (by omega) g5 g6) (fun v O' hp => ?_)
    obtain ⟨rfl, ⟨a2, c2, rfl, g7, g8⟩⟩ := hp
    have g7 := g7 O g5
    obtain ⟨hb1, hb2, hb3⟩ := nextP_range g2
    refine WXL.assign Met.none rfl ?_
    refine WXL.nil ?_
    refine Fin.then_normal ?_
    refine WX.seq ?_
    refine WX.seq ?_
    refine WX.region rfl ?_
    refine WXL.move Met.none rfl ?_
    refine WXL.bin Met.none rfl rfl rfl ?_
    refine WXL.move Met.none rfl ?_
    refine WXL.split (d := 17) rfl (fun hg17 => ?_) (fun hg17 => ?_)
    · try simp only [cnd] at hg17
      refine WXL.move (Met.some rfl rfl rfl) rfl ?_
      refine WXL.bin (Met.some rfl rfl rfl) rfl rfl rfl ?_
      refine WXL.pick_t Met.none rfl rfl ?_
      refine WXL.move Met.none rfl ?_
      refine WXL.split (d := 21) rfl (fun hg21 => ?_) (fun hg21 => ?_)
      · try simp only [cnd] at hg21
        refine WXL.miss (j := 6) (d := 21) rfl rfl rfl ?_
        refine WXL.miss (j := 6) (d := 21) rfl rfl rfl ?_
        refine WXL.miss (j := 6) (d := 21) rfl rfl rfl ?_
        refine WXL.missU (j := 9) (e := 24) rfl rfl ?_
        refine WXL.missU (j := 9) (e := 24) rfl rfl ?_
        refine WXL.miss (j := 6) (d := 21) rfl rfl rfl ?_
        refine WXL.pick_t Met.none rfl rfl ?_
        refine WXL.nil ?_
        refine Fin.then_normal ?_
        refine WX.cond rfl (fun hc1 => ?_) (fun hc1 => nomatch hc1)
        refine WX.region rfl ?_
        refine WXL.move Met.none rfl ?_
        refine WXL.cl (O1 := _) Met.none rfl (fnOk_of Try.func49 (by decide +kernel)) rfl (fun _ h => h) (fail_ok _ r _ 2 _) (fun v O' hp => ?_)
        obtain rfl := hp
        refine WXL.nil ?_
        refine Fin.then_normal ?_
        refine WX.seq ?_
        refine WX.region rfl ?_
        refine WXL.move Met.none rfl ?_
        refine WXL.move Met.none rfl ?_
        refine WXL.bin Met.none rfl rfl rfl ?_
        refine WXL.conv Met.none rfl Try.underlying5 Try.underlying42 (wrap_u64 (wrap8_range _).1 (wrap8_range _).2) ?_
        refine WXL.move Met.none rfl ?_
        refine WXL.bin Met.none rfl rfl bvM ?_
        refine WXL.shl Met.none rfl rfl (by omega) ?_
        refine WXL.bin Met.none rfl rfl rfl ?_
        refine WXL.assign Met.none rfl ?_
        refine WXL.nil ?_
        refine Fin.then_normal ?_
        refine WX.seq ?_
        refine WX.region rfl ?_
        refine WXL.move Met.none rfl ?_
        refine WXL.bin Met.none rfl rfl rfl ?_
        refine WXL.move Met.none rfl ?_
        refine WXL.split (d := 41) rfl (fun hg41 => ?_) (fun hg41 => ?_)
        · try simp only [cnd] at hg41
          refine WXL.move (Met.some rfl rfl rfl) rfl ?_
          refine WXL.nilCheck (Met.some rfl rfl rfl) rfl ?_
          first | refine WXL.fieldAddr (Met.some rfl rfl rfl) rfl Try.underlying75 rfl sz47 rfl ?_ | refine WXL.faS (Met.some rfl rfl rfl) rfl Try.underlying75 rfl sz47 ?_
          first | refine WXL.ld (Met.some rfl rfl rfl) rfl agg47 ?_ | refine WXL.ldS (Met.some rfl rfl rfl) rfl agg47 ?_
          refine WXL.bin (Met.some rfl rfl rfl) rfl rfl rfl ?_
          refine WXL.pick_t Met.none rfl rfl ?_
          refine WXL.nil ?_
          refine Fin.then_normal ?_
          refine WX.cond rfl (fun hc2 => ?_) (fun hc2 => ?_)
          · try simp only [cnd] at hc2
            refine WX.seq ?_
            refine WX.region rfl ?_
            refine WXL.move Met.none rfl ?_
            refine WXL.assign Met.none rfl ?_
            refine WXL.nil ?_
            refine Fin.then_normal ?_
            refine WX.ret ?_
            refine Fin.block_ret ?_
            refine Fin.then_ret ?_
            refine Fin.loop_ret ?_
            refine Fin.block_ret ?_
            refine Fin.then_ret ?_
            first
            | (have hz : uintP i n q = (0, q) := by rw [uintP, dif_neg hc0]
               refine Fin.result (O' := (r, ⟨0, false, [.slice a q.1.length c, I q.2]⟩) :: O) (.inr rfl) rfl rfl (fun _ hs => hs) ?_
               rw [← g1, hz]
               exact ⟨rfl, a, c, rfl, g5, g6⟩)
            | (exfalso; revert hc2; split <;> omega)
            | (have hrp : roundP i q = (nextP q).2 := if_neg (by unfold badB; omega)
               have hst := uintP_step (i := i) (n := n) hc0
               rw [if_pos (by rw [hrp]; omega), hrp] at hst
               refine Fin.result (O' := (r, ⟨0, false, [.slice a2 (nextP q).2.1.length c2, I (nextP q).2.2]⟩) :: O) (.inr rfl) rfl rfl (fun _ hs => hs) ?_
               rw [← g1, hst]
               exact ⟨rfl, a2, c2, rfl, g7, g8⟩)
          · try simp only [cnd] at hc2
            refine WX.skip ?_
            refine Fin.block_normal ?_
            refine Fin.then_normal ?_
            refine WX.region rfl ?_
            refine WXL.move Met.none rfl ?_
            refine WXL.bin Met.none rfl rfl bvA ?_
            refine WXL.assign Met.none rfl ?_
            refine WXL.nil ?_
            first
            | (have hrp : roundP i q = failP (nextP q).2 2 := if_pos (by unfold badB; omega)
               have hle := nextP_le q
               have hst := uintP_step (i := i) (n := n) hc0
               rw [if_neg (by rw [hrp]; exact fun w => failP_ne _ w.2), hrp] at hst
               refine Fin.loop_next (i + 1, bitsU n (nextP q).1 i, failP (nextP q).2 2, a2, c2) ⟨hst.symm.trans g1, hb3, by show (nextP q).2.1.length ≤ _; omega, fun w => ?_, g7, g8⟩ ?_ (fun s hs => hs.tl [0] 1)
               · exact absurd w (failP_ne _)
               · simp only; rw [if_neg (failP_ne _), if_pos hc0]; omega)
            | (have hrp : roundP i q = (nextP q).2 := if_neg (by unfold badB; omega)
               have hle := nextP_le q
               have hlt := nextP_len q hc0
               have hst := uintP_step (i := i) (n := n) hc0
               rw [if_neg (by rw [hrp]; omega), hrp] at hst
               refine Fin.loop_next (i + 1, bitsU n (nextP q).1 i, (nextP q).2, a2, c2) ⟨hst.symm.trans g1, hb3, by show (nextP q).2.1.length ≤ _; omega, fun w => ?_, g7, g8⟩ ?_ (fun s hs => hs.tl [0] 1)
               · simp only at w ⊢; have := g4 hc0; omega
               · simp only; rw [if_pos hc0]; split <;> omega)
        · try simp only [cnd] at hg41
          refine WXL.miss (j := 2) (d := 41) rfl rfl rfl ?_
          refine WXL.miss (j := 2) (d := 41) rfl rfl rfl ?_
          refine WXL.miss (j := 2) (d := 41) rfl rfl rfl ?_
          refine WXL.miss (j := 2) (d := 41) rfl rfl rfl ?_
          refine WXL.miss (j := 2) (d := 41) rfl rfl rfl ?_
          refine WXL.pick_f Met.none rfl rfl ?_
          refine WXL.nil ?_
          refine Fin.then_normal ?_
          refine WX.cond rfl (fun hc2 => nomatch hc2) (fun hc2 => ?_)
          refine WX.skip ?_
          refine Fin.block_normal ?_
          refine Fin.then_normal ?_
          refine WX.region rfl ?_
          refine WXL.move Met.none rfl ?_
          refine WXL.bin Met.none rfl rfl bvA ?_
          refine WXL.assign Met.none rfl ?_
          refine WXL.nil ?_
          first
          | (have hrp : roundP i q = failP (nextP q).2 2 := if_pos (by unfold badB; omega)
             have hle := nextP_le q
             have hst := uintP_step (i := i) (n := n) hc0
             rw [if_neg (by rw [hrp]; exact fun w => failP_ne _ w.2), hrp] at hst
             refine Fin.loop_next (i + 1, bitsU n (nextP q).1 i, failP (nextP q).2 2, a2, c2) ⟨hst.symm.trans g1, hb3, by show (nextP q).2.1.length ≤ _; omega, fun w => ?_, g7, g8⟩ ?_ (fun s hs => hs.tl [0] 1)
             · exact absurd w (failP_ne _)
             · simp only; rw [if_neg (failP_ne _), if_pos hc0]; omega)
          | (have hrp : roundP i q = (nextP q).2 := if_neg (by unfold badB; omega)
             have hle := nextP_le q
             have hlt := nextP_len q hc0
             have hst := uintP_step (i := i) (n := n) hc0
             rw [if_neg (by rw [hrp]; omega), hrp] at hst
             refine Fin.loop_next (i + 1, bitsU n (nextP q).1 i, (nextP q).2, a2, c2) ⟨hst.symm.trans g1, hb3, by show (nextP q).2.1.length ≤ _; omega, fun w => ?_, g7, g8⟩ ?_ (fun s hs => hs.tl [0] 1)
             · simp only at w ⊢; have := g4 hc0; omega
             · simp only; rw [if_pos hc0]; split <;> omega)
      · try simp only [cnd] at hg21
        refine WXL.move (Met.some rfl rfl rfl) rfl ?_
        refine WXL.bin (Met.some rfl rfl rfl) rfl rfl rfl ?_
        refine WXL.move (Met.some rfl rfl rfl) rfl ?_
        refine WXL.split (d := 24) rfl (fun hg24 => ?_) (fun hg24 => ?_)
        · try simp only [cnd] at hg24
          refine WXL.move (Met.some rfl rfl rfl) rfl ?_
          refine WXL.bin (Met.some rfl rfl rfl) rfl rfl rfl ?_
          refine WXL.pick_t (Met.some rfl rfl rfl) rfl rfl ?_
          refine WXL.pick_f Met.none rfl rfl ?_
          refine WXL.nil ?_
          refine Fin.then_normal ?_
          refine WX.cond rfl (fun hc1 => ?_) (fun hc1 => ?_)
          · try simp only [cnd] at hc1
            refine WX.region rfl ?_
            refine WXL.move Met.none rfl ?_
            refine WXL.cl (O1 := _) Met.none rfl (fnOk_of Try.func49 (by decide +kernel)) rfl (fun _ h => h) (fail_ok _ r _ 2 _) (fun v O' hp => ?_)
            obtain rfl := hp
            refine WXL.nil ?_
            refine Fin.then_normal ?_
            refine WX.seq ?_
            refine WX.region rfl ?_
            refine WXL.move Met.none rfl ?_
            refine WXL.move Met.none rfl ?_
            refine WXL.bin Met.none rfl rfl rfl ?_
            refine WXL.conv Met.none rfl Try.underlying5 Try.underlying42 (wrap_u64 (wrap8_range _).1 (wrap8_range _).2) ?_
            refine WXL.move Met.none rfl ?_
            refine WXL.bin Met.none rfl rfl bvM ?_
            refine WXL.shl Met.none rfl rfl (by omega) ?_
            refine WXL.bin Met.none rfl rfl rfl ?_
            refine WXL.assign Met.none rfl ?_
            refine WXL.nil ?_
            refine Fin.then_normal ?_
            refine WX.seq ?_
            refine WX.region rfl ?_
            refine WXL.move Met.none rfl ?_
            refine WXL.bin Met.none rfl rfl rfl ?_
            refine WXL.move Met.none rfl ?_
            refine WXL.split (d := 41) rfl (fun hg41 => ?_) (fun hg41 => ?_)
            · try simp only [cnd] at hg41
              refine WXL.move (Met.some rfl rfl rfl) rfl ?_
              refine WXL.nilCheck (Met.some rfl rfl rfl) rfl ?_
              first | refine WXL.fieldAddr (Met.some rfl rfl rfl) rfl Try.underlying75 rfl sz47 rfl ?_ | refine WXL.faS (Met.some rfl rfl rfl) rfl Try.underlying75 rfl sz47 ?_
              first | refine WXL.ld (Met.some rfl rfl rfl) rfl agg47 ?_ | refine WXL.ldS (Met.some rfl rfl rfl) rfl agg47 ?_
              refine WXL.bin (Met.some rfl rfl rfl) rfl rfl rfl ?_
              refine WXL.pick_t Met.none rfl rfl ?_
              refine WXL.nil ?_
              refine Fin.then_normal ?_
              refine WX.cond rfl (fun hc2 => ?_) (fun hc2 => ?_)
              · try simp only [cnd] at hc2
                refine WX.seq ?_
                refine WX.region rfl ?_
                refine WXL.move Met.none rfl ?_
                refine WXL.assign Met.none rfl ?_
                refine WXL.nil ?_
                refine Fin.then_normal ?_
                refine WX.ret ?_
                refine Fin.block_ret ?_
                refine Fin.then_ret ?_
                refine Fin.loop_ret ?_
                refine Fin.block_ret ?_
                refine Fin.then_ret ?_
                first
                | (have hz : uintP i n q = (0, q) := by rw [uintP, dif_neg hc0]
                   refine Fin.result (O' := (r, ⟨0, false, [.slice a q.1.length c, I q.2]⟩) :: O) (.inr rfl) rfl rfl (fun _ hs => hs) ?_
                   rw [← g1, hz]
                   exact ⟨rfl, a, c, rfl, g5, g6⟩)
                | (exfalso; revert hc2; split <;> omega)
                | (have hrp : roundP i q = (nextP q).2 := if_neg (by unfold badB; omega)
                   have hst := uintP_step (i := i) (n := n) hc0
                   rw [if_pos (by rw [hrp]; omega), hrp] at hst
                   refine Fin.result (O' := (r, ⟨0, false, [.slice a2 (nextP q).2.1.length c2, I (nextP q).2.2]⟩) :: O) (.inr rfl) rfl rfl (fun _ hs => hs) ?_
                   rw [← g1, hst]
                   exact ⟨rfl, a2, c2, rfl, g7, g8⟩)
              · try simp only [cnd] at hc2
                refine WX.skip ?_
                refine Fin.block_normal ?_
                refine Fin.then_normal ?_
                refine WX.region rfl ?_
                refine WXL.move Met.none rfl ?_
                refine WXL.bin Met.none rfl rfl bvA ?_
                refine WXL.assign Met.none rfl ?_
                refine WXL.nil ?_
                first
                | (have hrp : roundP i q = failP (nextP q).2 2 := if_pos (by unfold badB; omega)
                   have hle := nextP_le q
                   have hst := uintP_step (i := i) (n := n) hc0
                   rw [if_neg (by rw [hrp]; exact fun w => failP_ne _ w.2), hrp] at hst
                   refine Fin.loop_next (i + 1, bitsU n (nextP q).1 i, failP (nextP q).2 2, a2, c2) ⟨hst.symm.trans g1, hb3, by show (nextP q).2.1.length ≤ _; omega, fun w => ?_, g7, g8⟩ ?_ (fun s hs => hs.tl [0] 1)
                   · exact absurd w (failP_ne _)
                   · simp only; rw [if_neg (failP_ne _), if_pos hc0]; omega)
                | (have hrp : roundP i q = (nextP q).2 := if_neg (by unfold badB; omega)
                   have hle := nextP_le q
                   have hlt := nextP_len q hc0
                   have hst := uintP_step (i := i) (n := n) hc0
                   rw [if_neg (by rw [hrp]; omega), hrp] at hst
                   refine Fin.loop_next (i + 1, bitsU n (nextP q).1 i, (nextP q).2, a2, c2) ⟨hst.symm.trans g1, hb3, by show (nextP q).2.1.length ≤ _; omega, fun w => ?_, g7, g8⟩ ?_ (fun s hs => hs.tl [0] 1)
                   · simp only at w ⊢; have := g4 hc0; omega
                   · simp only; rw [if_pos hc0]; split <;> omega)
            · try simp only [cnd] at hg41
              refine WXL.miss (j := 2) (d := 41) rfl rfl rfl ?_
              refine WXL.miss (j := 2) (d := 41) rfl rfl rfl ?_
              refine WXL.miss (j := 2) (d := 41) rfl rfl rfl ?_
              refine WXL.miss (j := 2) (d := 41) rfl rfl rfl ?_
              refine WXL.miss (j := 2) (d := 41) rfl rfl rfl ?_
              refine WXL.pick_f Met.none rfl rfl ?_
              refine WXL.nil ?_
              refine Fin.then_normal ?_
              refine WX.cond rfl (fun hc2 => nomatch hc2) (fun hc2 => ?_)
              refine WX.skip ?_
              refine Fin.block_normal ?_
              refine Fin.then_normal ?_
              refine WX.region rfl ?_
              refine WXL.move Met.none rfl ?_
              refine WXL.bin Met.none rfl rfl bvA ?_
              refine WXL.assign Met.none rfl ?_
              refine WXL.nil ?_
              first
              | (have hrp : roundP i q = failP (nextP q).2 2 := if_pos (by unfold badB; omega)
                 have hle := nextP_le q
                 have hst := uintP_step (i := i) (n := n) hc0
                 rw [if_neg (by rw [hrp]; exact fun w => failP_ne _ w.2), hrp] at hst
                 refine Fin.loop_next (i + 1, bitsU n (nextP q).1 i, failP (nextP q).2 2, a2, c2) ⟨hst.symm.trans g1, hb3, by show (nextP q).2.1.length ≤ _; omega, fun w => ?_, g7, g8⟩ ?_ (fun s hs => hs.tl [0] 1)
                 · exact absurd w (failP_ne _)
                 · simp only; rw [if_neg (failP_ne _), if_pos hc0]; omega)
              | (have hrp : roundP i q = (nextP q).2 := if_neg (by unfold badB; omega)
                 have hle := nextP_le q
                 have hlt := nextP_len q hc0
                 have hst := uintP_step (i := i) (n := n) hc0
                 rw [if_neg (by rw [hrp]; omega), hrp] at hst
                 refine Fin.loop_next (i + 1, bitsU n (nextP q).1 i, (nextP q).2, a2, c2) ⟨hst.symm.trans g1, hb3, by show (nextP q).2.1.length ≤ _; omega, fun w => ?_, g7, g8⟩ ?_ (fun s hs => hs.tl [0] 1)
                 · simp only at w ⊢; have := g4 hc0; omega
                 · simp only; rw [if_pos hc0]; split <;> omega)
          · try simp only [cnd] at hc1
            refine WX.skip ?_
            refine Fin.then_normal ?_
            refine WX.seq ?_
            refine WX.region rfl ?_
            refine WXL.move Met.none rfl ?_
            refine WXL.move Met.none rfl ?_
            refine WXL.bin Met.none rfl rfl rfl ?_
            refine WXL.conv Met.none rfl Try.underlying5 Try.underlying42 (wrap_u64 (wrap8_range _).1 (wrap8_range _).2) ?_
            refine WXL.move Met.none rfl ?_
            refine WXL.bin Met.none rfl rfl bvM ?_
            refine WXL.shl Met.none rfl rfl (by omega) ?_
            refine WXL.bin Met.none rfl rfl rfl ?_
            refine WXL.assign Met.none rfl ?_
            refine WXL.nil ?_
            refine Fin.then_normal ?_
            refine WX.seq ?_
            refine WX.region rfl ?_
            refine WXL.move Met.none rfl ?_
            refine WXL.bin Met.none rfl rfl rfl ?_
            refine WXL.move Met.none rfl ?_
            refine WXL.split (d := 41) rfl (fun hg41 => ?_) (fun hg41 => ?_)
            · try simp only [cnd] at hg41
              refine WXL.move (Met.some rfl rfl rfl) rfl ?_
              refine WXL.nilCheck (Met.some rfl rfl rfl) rfl ?_
              first | refine WXL.fieldAddr (Met.some rfl rfl rfl) rfl Try.underlying75 rfl sz47 rfl ?_ | refine WXL.faS (Met.some rfl rfl rfl) rfl Try.underlying75 rfl sz47 ?_
              first | refine WXL.ld (Met.some rfl rfl rfl) rfl agg47 ?_ | refine WXL.ldS (Met.some rfl rfl rfl) rfl agg47 ?_
              refine WXL.bin (Met.some rfl rfl rfl) rfl rfl rfl ?_
              refine WXL.pick_t Met.none rfl rfl ?_
              refine WXL.nil ?_
              refine Fin.then_normal ?_
              refine WX.cond rfl (fun hc2 => ?_) (fun hc2 => ?_)
              · try simp only [cnd] at hc2
                refine WX.seq ?_
                refine WX.region rfl ?_
                refine WXL.move Met.none rfl ?_
                refine WXL.assign Met.none rfl ?_
                refine WXL.nil ?_
                refine Fin.then_normal ?_
                refine WX.ret ?_
                refine Fin.block_ret ?_
                refine Fin.then_ret ?_
                refine Fin.loop_ret ?_
                refine Fin.block_ret ?_
                refine Fin.then_ret ?_
                first
                | (have hz : uintP i n q = (0, q) := by rw [uintP, dif_neg hc0]
                   refine Fin.result (O' := (r, ⟨0, false, [.slice a q.1.length c, I q.2]⟩) :: O) (.inr rfl) rfl rfl (fun _ hs => hs) ?_
                   rw [← g1, hz]
                   exact ⟨rfl, a, c, rfl, g5, g6⟩)
                | (exfalso; revert hc2; split <;> omega)
                | (have hrp : roundP i q = (nextP q).2 := if_neg (by unfold badB; omega)
                   have hst := uintP_step (i := i) (n := n) hc0
                   rw [if_pos (by rw [hrp]; omega), hrp] at hst
                   refine Fin.result (O' := (r, ⟨0, false, [.slice a2 (nextP q).2.1.length c2, I (nextP q).2.2]⟩) :: O) (.inr rfl) rfl rfl (fun _ hs => hs) ?_
                   rw [← g1, hst]
                   exact ⟨rfl, a2, c2, rfl, g7, g8⟩)
              · try simp only [cnd] at hc2
                refine WX.skip ?_
                refine Fin.block_normal ?_
                refine Fin.then_normal ?_
                refine WX.region rfl ?_
                refine WXL.move Met.none rfl ?_
                refine WXL.bin Met.none rfl rfl bvA ?_
                refine WXL.assign Met.none rfl ?_
                refine WXL.nil ?_
                first
                | (have hrp : roundP i q = failP (nextP q).2 2 := if_pos (by unfold badB; omega)
                   have hle := nextP_le q
                   have hst := uintP_step (i := i) (n := n) hc0
                   rw [if_neg (by rw [hrp]; exact fun w => failP_ne _ w.2), hrp] at hst
                   refine Fin.loop_next (i + 1, bitsU n (nextP q).1 i, failP (nextP q).2 2, a2, c2) ⟨hst.symm.trans g1, hb3, by show (nextP q).2.1.length ≤ _; omega, fun w => ?_, g7, g8⟩ ?_ (fun s hs => hs.tl [0] 1)
                   · exact absurd w (failP_ne _)
                   · simp only; rw [if_neg (failP_ne _), if_pos hc0]; omega)
                | (have hrp : roundP i q = (nextP q).2 := if_neg (by unfold badB; omega)
                   have hle := nextP_le q
                   have hlt := nextP_len q hc0
                   have hst := uintP_step (i := i) (n := n) hc0
                   rw [if_neg (by rw [hrp]; omega), hrp] at hst
                   refine Fin.loop_next (i + 1, bitsU n (nextP q).1 i, (nextP q).2, a2, c2) ⟨hst.symm.trans g1, hb3, by show (nextP q).2.1.length ≤ _; omega, fun w => ?_, g7, g8⟩ ?_ (fun s hs => hs.tl [0] 1)
                   · simp only at w ⊢; have := g4 hc0; omega
                   · simp only; rw [if_pos hc0]; split <;> omega)
            · try simp only [cnd] at hg41
              refine WXL.miss (j := 2) (d := 41) rfl rfl rfl ?_
              refine WXL.miss (j := 2) (d := 41) rfl rfl rfl ?_
              refine WXL.miss (j := 2) (d := 41) rfl rfl rfl ?_
              refine WXL.miss (j := 2) (d := 41) rfl rfl rfl ?_
              refine WXL.miss (j := 2) (d := 41) rfl rfl rfl ?_
              refine WXL.pick_f Met.none rfl rfl ?_
              refine WXL.nil ?_
              refine Fin.then_normal ?_
              refine WX.cond rfl (fun hc2 => nomatch hc2) (fun hc2 => ?_)
              refine WX.skip ?_
              refine Fin.block_normal ?_
              refine Fin.then_normal ?_
              refine WX.region rfl ?_
              refine WXL.move Met.none rfl ?_
              refine WXL.bin Met.none rfl rfl bvA ?_
              refine WXL.assign Met.none rfl ?_
              refine WXL.nil ?_
              first
              | (have hrp : roundP i q = failP (nextP q).2 2 := if_pos (by unfold badB; omega)
                 have hle := nextP_le q
                 have hst := uintP_step (i := i) (n := n) hc0
                 rw [if_neg (by rw [hrp]; exact fun w => failP_ne _ w.2), hrp] at hst
                 refine Fin.loop_next (i + 1, bitsU n (nextP q).1 i, failP (nextP q).2 2, a2, c2) ⟨hst.symm.trans g1, hb3, by show (nextP q).2.1.length ≤ _; omega, fun w => ?_, g7, g8⟩ ?_ (fun s hs => hs.tl [0] 1)
                 · exact absurd w (failP_ne _)
                 · simp only; rw [if_neg (failP_ne _), if_pos hc0]; omega)
              | (have hrp : roundP i q = (nextP q).2 := if_neg (by unfold badB; omega)
                 have hle := nextP_le q
                 have hlt := nextP_len q hc0
                 have hst := uintP_step (i := i) (n := n) hc0
                 rw [if_neg (by rw [hrp]; omega), hrp] at hst
                 refine Fin.loop_next (i + 1, bitsU n (nextP q).1 i, (nextP q).2, a2, c2) ⟨hst.symm.trans g1, hb3, by show (nextP q).2.1.length ≤ _; omega, fun w => ?_, g7, g8⟩ ?_ (fun s hs => hs.tl [0] 1)
                 · simp only at w ⊢; have := g4 hc0; omega
                 · simp only; rw [if_pos hc0]; split <;> omega)
        · try simp only [cnd] at hg24
          refine WXL.miss (j := 9) (d := 24) rfl rfl rfl ?_
          refine WXL.miss (j := 9) (d := 24) rfl rfl rfl ?_
          refine WXL.pick_f (Met.some rfl rfl rfl) rfl rfl ?_
          refine WXL.pick_f Met.none rfl rfl ?_
          refine WXL.nil ?_
          refine Fin.then_normal ?_
          refine WX.cond rfl (fun hc1 => nomatch hc1) (fun hc1 => ?_)
          refine WX.skip ?_
          refine Fin.then_normal ?_
          refine WX.seq ?_
          refine WX.region rfl ?_
          refine WXL.move Met.none rfl ?_
          refine WXL.move Met.none rfl ?_
          refine WXL.bin Met.none rfl rfl rfl ?_
          refine WXL.conv Met.none rfl Try.underlying5 Try.underlying42 (wrap_u64 (wrap8_range _).1 (wrap8_range _).2) ?_
          refine WXL.move Met.none rfl ?_
          refine WXL.bin Met.none rfl rfl bvM ?_
          refine WXL.shl Met.none rfl rfl (by omega) ?_
          refine WXL.bin Met.none rfl rfl rfl ?_
          refine WXL.assign Met.none rfl ?_
          refine WXL.nil ?_
          refine Fin.then_normal ?_
          refine WX.seq ?_
          refine WX.region rfl ?_
          refine WXL.move Met.none rfl ?_
          refine WXL.bin Met.none rfl rfl rfl ?_
          refine WXL.move Met.none rfl ?_
          refine WXL.split (d := 41) rfl (fun hg41 => ?_) (fun hg41 => ?_)
          · try simp only [cnd] at hg41
            refine WXL.move (Met.some rfl rfl rfl) rfl ?_
            refine WXL.nilCheck (Met.some rfl rfl rfl) rfl ?_
            first | refine WXL.fieldAddr (Met.some rfl rfl rfl) rfl Try.underlying75 rfl sz47 rfl ?_ | refine WXL.faS (Met.some rfl rfl rfl) rfl Try.underlying75 rfl sz47 ?_
            first | refine WXL.ld (Met.some rfl rfl rfl) rfl agg47 ?_ | refine WXL.ldS (Met.some rfl rfl rfl) rfl agg47 ?_
            refine WXL.bin (Met.some rfl rfl rfl) rfl rfl rfl ?_
            refine WXL.pick_t Met.none rfl rfl ?_
            refine WXL.nil ?_
            refine Fin.then_normal ?_
            refine WX.cond rfl (fun hc2 => ?_) (fun hc2 => ?_)
            · try simp only [cnd] at hc2
              refine WX.seq ?_
              refine WX.region rfl ?_
              refine WXL.move Met.none rfl ?_
              refine WXL.assign Met.none rfl ?_
              refine WXL.nil ?_
              refine Fin.then_normal ?_
              refine WX.ret ?_
              refine Fin.block_ret ?_
              refine Fin.then_ret ?_
              refine Fin.loop_ret ?_
              refine Fin.block_ret ?_
              refine Fin.then_ret ?_
              first
              | (have hz : uintP i n q = (0, q) := by rw [uintP, dif_neg hc0]
                 refine Fin.result (O' := (r, ⟨0, false, [.slice a q.1.length c, I q.2]⟩) :: O) (.inr rfl) rfl rfl (fun _ hs => hs) ?_
                 rw [← g1, hz]
                 exact ⟨rfl, a, c, rfl, g5, g6⟩)
              | (exfalso; revert hc2; split <;> omega)
              | (have hrp : roundP i q = (nextP q).2 := if_neg (by unfold badB; omega)
                 have hst := uintP_step (i := i) (n := n) hc0
                 rw [if_pos (by rw [hrp]; omega), hrp] at hst
                 refine Fin.result (O' := (r, ⟨0, false, [.slice a2 (nextP q).2.1.length c2, I (nextP q).2.2]⟩) :: O) (.inr rfl) rfl rfl (fun _ hs => hs) ?_
                 rw [← g1, hst]
                 exact ⟨rfl, a2, c2, rfl, g7, g8⟩)
            · try simp only [cnd] at hc2
              refine WX.skip ?_
              refine Fin.block_normal ?_
              refine Fin.then_normal ?_
              refine WX.region rfl ?_
              refine WXL.move Met.none rfl ?_
              refine WXL.bin Met.none rfl rfl bvA ?_
              refine WXL.assign Met.none rfl ?_
              refine WXL.nil ?_
              first
              | (have hrp : roundP i q = failP (nextP q).2 2 := if_pos (by unfold badB; omega)
                 have hle := nextP_le q
                 have hst := uintP_step (i := i) (n := n) hc0
                 rw [if_neg (by rw [hrp]; exact fun w => failP_ne _ w.2), hrp] at hst
                 refine Fin.loop_next (i + 1, bitsU n (nextP q).1 i, failP (nextP q).2 2, a2, c2) ⟨hst.symm.trans g1, hb3, by show (nextP q).2.1.length ≤ _; omega, fun w => ?_, g7, g8⟩ ?_ (fun s hs => hs.tl [0] 1)
                 · exact absurd w (failP_ne _)
                 · simp only; rw [if_neg (failP_ne _), if_pos hc0]; omega)
              | (have hrp : roundP i q = (nextP q).2 := if_neg (by unfold badB; omega)
                 have hle := nextP_le q
                 have hlt := nextP_len q hc0
                 have hst := uintP_step (i := i) (n := n) hc0
                 rw [if_neg (by rw [hrp]; omega), hrp] at hst
                 refine Fin.loop_next (i + 1, bitsU n (nextP q).1 i, (nextP q).2, a2, c2) ⟨hst.symm.trans g1, hb3, by show (nextP q).2.1.length ≤ _; omega, fun w => ?_, g7, g8⟩ ?_ (fun s hs => hs.tl [0] 1)
                 · simp only at w ⊢; have := g4 hc0; omega
                 · simp only; rw [if_pos hc0]; split <;> omega)
          · try simp only [cnd] at hg41
            refine WXL.miss (j := 2) (d := 41) rfl rfl rfl ?_
            refine WXL.miss (j := 2) (d := 41) rfl rfl rfl ?_
            refine WXL.miss (j := 2) (d := 41) rfl rfl rfl ?_
            refine WXL.miss (j := 2) (d := 41) rfl rfl rfl ?_
            refine WXL.miss (j := 2) (d := 41) rfl rfl rfl ?_
            refine WXL.pick_f Met.none rfl rfl ?_
            refine WXL.nil ?_
            refine Fin.then_normal ?_
            refine WX.cond rfl (fun hc2 => nomatch hc2) (fun hc2 => ?_)
            refine WX.skip ?_
            refine Fin.block_normal ?_
            refine Fin.then_normal ?_
            refine WX.region rfl ?_
            refine WXL.move Met.none rfl ?_
            refine WXL.bin Met.none rfl rfl bvA ?_
            refine WXL.assign Met.none rfl ?_
            refine WXL.nil ?_
            first
            | (have hrp : roundP i q = failP (nextP q).2 2 := if_pos (by unfold badB; omega)
               have hle := nextP_le q
               have hst := uintP_step (i := i) (n := n) hc0
               rw [if_neg (by rw [hrp]; exact fun w => failP_ne _ w.2), hrp] at hst
               refine Fin.loop_next (i + 1, bitsU n (nextP q).1 i, failP (nextP q).2 2, a2, c2) ⟨hst.symm.trans g1, hb3, by show (nextP q).2.1.length ≤ _; omega, fun w => ?_, g7, g8⟩ ?_ (fun s hs => hs.tl [0] 1)
               · exact absurd w (failP_ne _)
               · simp only; rw [if_neg (failP_ne _), if_pos hc0]; omega)
            | (have hrp : roundP i q = (nextP q).2 := if_neg (by unfold badB; omega)
               have hle := nextP_le q
               have hlt := nextP_len q hc0
               have hst := uintP_step (i := i) (n := n) hc0
               rw [if_neg (by rw [hrp]; omega), hrp] at hst
               refine Fin.loop_next (i + 1, bitsU n (nextP q).1 i, (nextP q).2, a2, c2) ⟨hst.symm.trans g1, hb3, by show (nextP q).2.1.length ≤ _; omega, fun w => ?_, g7, g8⟩ ?_ (fun s hs => hs.tl [0] 1)
               · simp only at w ⊢; have := g4 hc0; omega
               · simp only; rw [if_pos hc0]; split <;> omega)
    · try simp only [cnd] at hg17
      refine WXL.miss (j := 2) (d := 17) rfl rfl rfl ?_
      refine WXL.miss (j := 2) (d := 17) rfl rfl rfl ?_
      refine WXL.pick_f Met.none rfl rfl ?_
      refine WXL.move Met.none rfl ?_
      refine WXL.move (Met.some rfl rfl rfl) rfl ?_
      refine WXL.bin (Met.some rfl rfl rfl) rfl rfl rfl ?_
      refine WXL.move (Met.some rfl rfl rfl) rfl ?_
      refine WXL.split (d := 24) rfl (fun hg24 => ?_) (fun hg24 => ?_)
      · try simp only [cnd] at hg24
        refine WXL.move (Met.some rfl rfl rfl) rfl ?_
        refine WXL.bin (Met.some rfl rfl rfl) rfl rfl rfl ?_
        refine WXL.pick_t (Met.some rfl rfl rfl) rfl rfl ?_
        refine WXL.pick_f Met.none rfl rfl ?_
        refine WXL.nil ?_
        refine Fin.then_normal ?_
        refine WX.cond rfl (fun hc1 => ?_) (fun hc1 => ?_)
        · try simp only [cnd] at hc1
          refine WX.region rfl ?_
          refine WXL.move Met.none rfl ?_
          refine WXL.cl (O1 := _) Met.none rfl (fnOk_of Try.func49 (by decide +kernel)) rfl (fun _ h => h) (fail_ok _ r _ 2 _) (fun v O' hp => ?_)
          obtain rfl := hp
          refine WXL.nil ?_
          refine Fin.then_normal ?_
          refine WX.seq ?_
          refine WX.region rfl ?_
          refine WXL.move Met.none rfl ?_
          refine WXL.move Met.none rfl ?_
          refine WXL.bin Met.none rfl rfl rfl ?_
          refine WXL.conv Met.none rfl Try.underlying5 Try.underlying42 (wrap_u64 (wrap8_range _).1 (wrap8_range _).2) ?_
          refine WXL.move Met.none rfl ?_
          refine WXL.bin Met.none rfl rfl bvM ?_
          refine WXL.shl Met.none rfl rfl (by omega) ?_
          refine WXL.bin Met.none rfl rfl rfl ?_
          refine WXL.assign Met.none rfl ?_
          refine WXL.nil ?_
          refine Fin.then_normal ?_
          refine WX.seq ?_
          refine WX.region rfl ?_
          refine WXL.move Met.none rfl ?_
          refine WXL.bin Met.none rfl rfl rfl ?_
          refine WXL.move Met.none rfl ?_
          refine WXL.split (d := 41) rfl (fun hg41 => ?_) (fun hg41 => ?_)
          · try simp only [cnd] at hg41
            refine WXL.move (Met.some rfl rfl rfl) rfl ?_
            refine WXL.nilCheck (Met.some rfl rfl rfl) rfl ?_
            first | refine WXL.fieldAddr (Met.some rfl rfl rfl) rfl Try.underlying75 rfl sz47 rfl ?_ | refine WXL.faS (Met.some rfl rfl rfl) rfl Try.underlying75 rfl sz47 ?_
            first | refine WXL.ld (Met.some rfl rfl rfl) rfl agg47 ?_ | refine WXL.ldS (Met.some rfl rfl rfl) rfl agg47 ?_
            refine WXL.bin (Met.some rfl rfl rfl) rfl rfl rfl ?_
            refine WXL.pick_t Met.none rfl rfl ?_
            refine WXL.nil ?_
            refine Fin.then_normal ?_
            refine WX.cond rfl (fun hc2 => ?_) (fun hc2 => ?_)
            · try simp only [cnd] at hc2
              refine WX.seq ?_
              refine WX.region rfl ?_
              refine WXL.move Met.none rfl ?_
              refine WXL.assign Met.none rfl ?_
              refine WXL.nil ?_
              refine Fin.then_normal ?_
              refine WX.ret ?_
              refine Fin.block_ret ?_
              refine Fin.then_ret ?_
              refine Fin.loop_ret ?_
              refine Fin.block_ret ?_
              refine Fin.then_ret ?_
              first
              | (have hz : uintP i n q = (0, q) := by rw [uintP, dif_neg hc0]
                 refine Fin.result (O' := (r, ⟨0, false, [.slice a q.1.length c, I q.2]⟩) :: O) (.inr rfl) rfl rfl (fun _ hs => hs) ?_
                 rw [← g1, hz]
                 exact ⟨rfl, a, c, rfl, g5, g6⟩)
              | (exfalso; revert hc2; split <;> omega)
              | (have hrp : roundP i q = (nextP q).2 := if_neg (by unfold badB; omega)
                 have hst := uintP_step (i := i) (n := n) hc0
                 rw [if_pos (by rw [hrp]; omega), hrp] at hst
                 refine Fin.result (O' := (r, ⟨0, false, [.slice a2 (nextP q).2.1.length c2, I (nextP q).2.2]⟩) :: O) (.inr rfl) rfl rfl (fun _ hs => hs) ?_
                 rw [← g1, hst]
                 exact ⟨rfl, a2, c2, rfl, g7, g8⟩)
            · try simp only [cnd] at hc2
              refine WX.skip ?_
              refine Fin.block_normal ?_
              refine Fin.then_normal ?_
              refine WX.region rfl ?_
              refine WXL.move Met.none rfl ?_
              refine WXL.bin Met.none rfl rfl bvA ?_
              refine WXL.assign Met.none rfl ?_
              refine WXL.nil ?_
              first
              | (have hrp : roundP i q = failP (nextP q).2 2 := if_pos (by unfold badB; omega)
                 have hle := nextP_le q
                 have hst := uintP_step (i := i) (n := n) hc0
                 rw [if_neg (by rw [hrp]; exact fun w => failP_ne _ w.2), hrp] at hst
                 refine Fin.loop_next (i + 1, bitsU n (nextP q).1 i, failP (nextP q).2 2, a2, c2) ⟨hst.symm.trans g1, hb3, by show (nextP q).2.1.length ≤ _; omega, fun w => ?_, g7, g8⟩ ?_ (fun s hs => hs.tl [0] 1)
                 · exact absurd w (failP_ne _)
                 · simp only; rw [if_neg (failP_ne _), if_pos hc0]; omega)
              | (have hrp : roundP i q = (nextP q).2 := if_neg (by unfold badB; omega)
                 have hle := nextP_le q
                 have hlt := nextP_len q hc0
                 have hst := uintP_step (i := i) (n := n) hc0
                 rw [if_neg (by rw [hrp]; omega), hrp] at hst
                 refine Fin.loop_next (i + 1, bitsU n (nextP q).1 i, (nextP q).2, a2, c2) ⟨hst.symm.trans g1, hb3, by show (nextP q).2.1.length ≤ _; omega, fun w => ?_, g7, g8⟩ ?_ (fun s hs => hs.tl [0] 1)
                 · simp only at w ⊢; have := g4 hc0; omega
                 · simp only; rw [if_pos hc0]; split <;> omega)
          · try simp only [cnd] at hg41
            refine WXL.miss (j := 2) (d := 41) rfl rfl rfl ?_
            refine WXL.miss (j := 2) (d := 41) rfl rfl rfl ?_
            refine WXL.miss (j := 2) (d := 41) rfl rfl rfl ?_
            refine WXL.miss (j := 2) (d := 41) rfl rfl rfl ?_
            refine WXL.miss (j := 2) (d := 41) rfl rfl rfl ?_
            refine WXL.pick_f Met.none rfl rfl ?_
            refine WXL.nil ?_
            refine Fin.then_normal ?_
            refine WX.cond rfl (fun hc2 => nomatch hc2) (fun hc2 => ?_)
            refine WX.skip ?_
            refine Fin.block_normal ?_
            refine Fin.then_normal ?_
            refine WX.region rfl ?_
            refine WXL.move Met.none rfl ?_
            refine WXL.bin Met.none rfl rfl bvA ?_
            refine WXL.assign Met.none rfl ?_
            refine WXL.nil ?_
            first
            | (have hrp : roundP i q = failP (nextP q).2 2 := if_pos (by unfold badB; omega)
               have hle := nextP_le q
               have hst := uintP_step (i := i) (n := n) hc0
               rw [if_neg (by rw [hrp]; exact fun w => failP_ne _ w.2), hrp] at hst
               refine Fin.loop_next (i + 1, bitsU n (nextP q).1 i, failP (nextP q).2 2, a2, c2) ⟨hst.symm.trans g1, hb3, by show (nextP q).2.1.length ≤ _; omega, fun w => ?_, g7, g8⟩ ?_ (fun s hs => hs.tl [0] 1)
               · exact absurd w (failP_ne _)
               · simp only; rw [if_neg (failP_ne _), if_pos hc0]; omega)
            | (have hrp : roundP i q = (nextP q).2 := if_neg (by unfold badB; omega)
               have hle := nextP_le q
               have hlt := nextP_len q hc0
               have hst := uintP_step (i := i) (n := n) hc0
               rw [if_neg (by rw [hrp]; omega), hrp] at hst
               refine Fin.loop_next (i + 1, bitsU n (nextP q).1 i, (nextP q).2, a2, c2) ⟨hst.symm.trans g1, hb3, by show (nextP q).2.1.length ≤ _; omega, fun w => ?_, g7, g8⟩ ?_ (fun s hs => hs.tl [0] 1)
               · simp only at w ⊢; have := g4 hc0; omega
               · simp only; rw [if_pos hc0]; split <;> omega)
        · try simp only [cnd] at hc1
          refine WX.skip ?_
          refine Fin.then_normal ?_
          refine WX.seq ?_
          refine WX.region rfl ?_
          refine WXL.move Met.none rfl ?_
          refine WXL.move Met.none rfl ?_
          refine WXL.bin Met.none rfl rfl rfl ?_
          refine WXL.conv Met.none rfl Try.underlying5 Try.underlying42 (wrap_u64 (wrap8_range _).1 (wrap8_range _).2) ?_
          refine WXL.move Met.none rfl ?_
          refine WXL.bin Met.none rfl rfl bvM ?_
          refine WXL.shl Met.none rfl rfl (by omega) ?_
          refine WXL.bin Met.none rfl rfl rfl ?_
          refine WXL.assign Met.none rfl ?_
          refine WXL.nil ?_
          refine Fin.then_normal ?_
          refine WX.seq ?_
          refine WX.region rfl ?_
          refine WXL.move Met.none rfl ?_
          refine WXL.bin Met.none rfl rfl rfl ?_
          refine WXL.move Met.none rfl ?_
          refine WXL.split (d := 41) rfl (fun hg41 => ?_) (fun hg41 => ?_)
          · try simp only [cnd] at hg41
            refine WXL.move (Met.some rfl rfl rfl) rfl ?_
            refine WXL.nilCheck (Met.some rfl rfl rfl) rfl ?_
            first | refine WXL.fieldAddr (Met.some rfl rfl rfl) rfl Try.underlying75 rfl sz47 rfl ?_ | refine WXL.faS (Met.some rfl rfl rfl) rfl Try.underlying75 rfl sz47 ?_
            first | refine WXL.ld (Met.some rfl rfl rfl) rfl agg47 ?_ | refine WXL.ldS (Met.some rfl rfl rfl) rfl agg47 ?_
            refine WXL.bin (Met.some rfl rfl rfl) rfl rfl rfl ?_
            refine WXL.pick_t Met.none rfl rfl ?_
            refine WXL.nil ?_
            refine Fin.then_normal ?_
            refine WX.cond rfl (fun hc2 => ?_) (fun hc2 => ?_)
            · try simp only [cnd] at hc2
              refine WX.seq ?_
              refine WX.region rfl ?_
              refine WXL.move Met.none rfl ?_
              refine WXL.assign Met.none rfl ?_
              refine WXL.nil ?_
              refine Fin.then_normal ?_
              refine WX.ret ?_
              refine Fin.block_ret ?_
              refine Fin.then_ret ?_
              refine Fin.loop_ret ?_
              refine Fin.block_ret ?_
              refine Fin.then_ret ?_
              first
              | (have hz : uintP i n q = (0, q) := by rw [uintP, dif_neg hc0]
                 refine Fin.result (O' := (r, ⟨0, false, [.slice a q.1.length c, I q.2]⟩) :: O) (.inr rfl) rfl rfl (fun _ hs => hs) ?_
                 rw [← g1, hz]
                 exact ⟨rfl, a, c, rfl, g5, g6⟩)
              | (exfalso; revert hc2; split <;> omega)
              | (have hrp : roundP i q = (nextP q).2 := if_neg (by unfold badB; omega)
                 have hst := uintP_step (i := i) (n := n) hc0
                 rw [if_pos (by rw [hrp]; omega), hrp] at hst
                 refine Fin.result (O' := (r, ⟨0, false, [.slice a2 (nextP q).2.1.length c2, I (nextP q).2.2]⟩) :: O) (.inr rfl) rfl rfl (fun _ hs => hs) ?_
                 rw [← g1, hst]
                 exact ⟨rfl, a2, c2, rfl, g7, g8⟩)
            · try simp only [cnd] at hc2
              refine WX.skip ?_
              refine Fin.block_normal ?_
              refine Fin.then_normal ?_
              refine WX.region rfl ?_
              refine WXL.move Met.none rfl ?_
              refine WXL.bin Met.none rfl rfl bvA ?_
              refine WXL.assign Met.none rfl ?_
              refine WXL.nil ?_
              first
              | (have hrp : roundP i q = failP (nextP q).2 2 := if_pos (by unfold badB; omega)
                 have hle := nextP_le q
                 have hst := uintP_step (i := i) (n := n) hc0
                 rw [if_neg (by rw [hrp]; exact fun w => failP_ne _ w.2), hrp] at hst
                 refine Fin.loop_next (i + 1, bitsU n (nextP q).1 i, failP (nextP q).2 2, a2, c2) ⟨hst.symm.trans g1, hb3, by show (nextP q).2.1.length ≤ _; omega, fun w => ?_, g7, g8⟩ ?_ (fun s hs => hs.tl [0] 1)
                 · exact absurd w (failP_ne _)
                 · simp only; rw [if_neg (failP_ne _), if_pos hc0]; omega)
              | (have hrp : roundP i q = (nextP q).2 := if_neg (by unfold badB; omega)
                 have hle := nextP_le q
                 have hlt := nextP_len q hc0
                 have hst := uintP_step (i := i) (n := n) hc0
                 rw [if_neg (by rw [hrp]; omega), hrp] at hst
                 refine Fin.loop_next (i + 1, bitsU n (nextP q).1 i, (nextP q).2, a2, c2) ⟨hst.symm.trans g1, hb3, by show (nextP q).2.1.length ≤ _; omega, fun w => ?_, g7, g8⟩ ?_ (fun s hs => hs.tl [0] 1)
                 · simp only at w ⊢; have := g4 hc0; omega
                 · simp only; rw [if_pos hc0]; split <;> omega)
          · try simp only [cnd] at hg41
            refine WXL.miss (j := 2) (d := 41) rfl rfl rfl ?_
            refine WXL.miss (j := 2) (d := 41) rfl rfl rfl ?_
            refine WXL.miss (j := 2) (d := 41) rfl rfl rfl ?_
            refine WXL.miss (j := 2) (d := 41) rfl rfl rfl ?_
            refine WXL.miss (j := 2) (d := 41) rfl rfl rfl ?_
            refine WXL.pick_f Met.none rfl rfl ?_
            refine WXL.nil ?_
            refine Fin.then_normal ?_
            refine WX.cond rfl (fun hc2 => nomatch hc2) (fun hc2 => ?_)
            refine WX.skip ?_
            refine Fin.block_normal ?_
            refine Fin.then_normal ?_
            refine WX.region rfl ?_
            refine WXL.move Met.none rfl ?_
            refine WXL.bin Met.none rfl rfl bvA ?_
            refine WXL.assign Met.none rfl ?_
            refine WXL.nil ?_
            first
            | (have hrp : roundP i q = failP (nextP q).2 2 := if_pos (by unfold badB; omega)
               have hle := nextP_le q
               have hst := uintP_step (i := i) (n := n) hc0
               rw [if_neg (by rw [hrp]; exact fun w => failP_ne _ w.2), hrp] at hst
               refine Fin.loop_next (i + 1, bitsU n (nextP q).1 i, failP (nextP q).2 2, a2, c2) ⟨hst.symm.trans g1, hb3, by show (nextP q).2.1.length ≤ _; omega, fun w => ?_, g7, g8⟩ ?_ (fun s hs => hs.tl [0] 1)
               · exact absurd w (failP_ne _)
               · simp only; rw [if_neg (failP_ne _), if_pos hc0]; omega)
            | (have hrp : roundP i q = (nextP q).2 := if_neg (by unfold badB; omega)
               have hle := nextP_le q
               have hlt := nextP_len q hc0
               have hst := uintP_step (i := i) (n := n) hc0
               rw [if_neg (by rw [hrp]; omega), hrp] at hst
               refine Fin.loop_next (i + 1, bitsU n (nextP q).1 i, (nextP q).2, a2, c2) ⟨hst.symm.trans g1, hb3, by show (nextP q).2.1.length ≤ _; omega, fun w => ?_, g7, g8⟩ ?_ (fun s hs => hs.tl [0] 1)
               · simp only at w ⊢; have := g4 hc0; omega
               · simp only; rw [if_pos hc0]; split <;> omega)
      · try simp only [cnd] at hg24
        refine WXL.miss (j := 9) (d := 24) rfl rfl rfl ?_
        refine WXL.miss (j := 9) (d := 24) rfl rfl rfl ?_
        refine WXL.pick_f (Met.some rfl rfl rfl) rfl rfl ?_
        refine WXL.pick_f Met.none rfl rfl ?_
        refine WXL.nil ?_
        refine Fin.then_normal ?_
        refine WX.cond rfl (fun hc1 => nomatch hc1) (fun hc1 => ?_)
        refine WX.skip ?_
        refine Fin.then_normal ?_
        refine WX.seq ?_
        refine WX.region rfl ?_
        refine WXL.move Met.none rfl ?_
        refine WXL.move Met.none rfl ?_
        refine WXL.bin Met.none rfl rfl rfl ?_
        refine WXL.conv Met.none rfl Try.underlying5 Try.underlying42 (wrap_u64 (wrap8_range _).1 (wrap8_range _).2) ?_
        refine WXL.move Met.none rfl ?_
        refine WXL.bin Met.none rfl rfl bvM ?_
        refine WXL.shl Met.none rfl rfl (by omega) ?_
        refine WXL.bin Met.none rfl rfl rfl ?_
        refine WXL.assign Met.none rfl ?_
        refine WXL.nil ?_
        refine Fin.then_normal ?_
        refine WX.seq ?_
        refine WX.region rfl ?_
        refine WXL.move Met.none rfl ?_
        refine WXL.bin Met.none rfl rfl rfl ?_
        refine WXL.move Met.none rfl ?_
        refine WXL.split (d := 41) rfl (fun hg41 => ?_) (fun hg41 => ?_)
        · try simp only [cnd] at hg41
          refine WXL.move (Met.some rfl rfl rfl) rfl ?_
          refine WXL.nilCheck (Met.some rfl rfl rfl) rfl ?_
          first | refine WXL.fieldAddr (Met.some rfl rfl rfl) rfl Try.underlying75 rfl sz47 rfl ?_ | refine WXL.faS (Met.some rfl rfl rfl) rfl Try.underlying75 rfl sz47 ?_
          first | refine WXL.ld (Met.some rfl rfl rfl) rfl agg47 ?_ | refine WXL.ldS (Met.some rfl rfl rfl) rfl agg47 ?_
          refine WXL.bin (Met.some rfl rfl rfl) rfl rfl rfl ?_
          refine WXL.pick_t Met.none rfl rfl ?_
          refine WXL.nil ?_
          refine Fin.then_normal ?_
          refine WX.cond rfl (fun hc2 => ?_) (fun hc2 => ?_)
          · try simp only [cnd] at hc2
            refine WX.seq ?_
            refine WX.region rfl ?_
            refine WXL.move Met.none rfl ?_
            refine WXL.assign Met.none rfl ?_
            refine WXL.nil ?_
            refine Fin.then_normal ?_
            refine WX.ret ?_
            refine Fin.block_ret ?_
            refine Fin.then_ret ?_
            refine Fin.loop_ret ?_
            refine Fin.block_ret ?_
            refine Fin.then_ret ?_
            first
            | (have hz : uintP i n q = (0, q) := by rw [uintP, dif_neg hc0]
               refine Fin.result (O' := (r, ⟨0, false, [.slice a q.1.length c, I q.2]⟩) :: O) (.inr rfl) rfl rfl (fun _ hs => hs) ?_
               rw [← g1, hz]
               exact ⟨rfl, a, c, rfl, g5, g6⟩)
            | (exfalso; revert hc2; split <;> omega)
            | (have hrp : roundP i q = (nextP q).2 := if_neg (by unfold badB; omega)
               have hst := uintP_step (i := i) (n := n) hc0
               rw [if_pos (by rw [hrp]; omega), hrp] at hst
               refine Fin.result (O' := (r, ⟨0, false, [.slice a2 (nextP q).2.1.length c2, I (nextP q).2.2]⟩) :: O) (.inr rfl) rfl rfl (fun _ hs => hs) ?_
               rw [← g1, hst]
               exact ⟨rfl, a2, c2, rfl, g7, g8⟩)
          · try simp only [cnd] at hc2
            refine WX.skip ?_
            refine Fin.block_normal ?_
            refine Fin.then_normal ?_
            refine WX.region rfl ?_
            refine WXL.move Met.none rfl ?_
            refine WXL.bin Met.none rfl rfl bvA ?_
            refine WXL.assign Met.none rfl ?_
            refine WXL.nil ?_
            first
            | (have hrp : roundP i q = failP (nextP q).2 2 := if_pos (by unfold badB; omega)
               have hle := nextP_le q
               have hst := uintP_step (i := i) (n := n) hc0
               rw [if_neg (by rw [hrp]; exact fun w => failP_ne _ w.2), hrp] at hst
               refine Fin.loop_next (i + 1, bitsU n (nextP q).1 i, failP (nextP q).2 2, a2, c2) ⟨hst.symm.trans g1, hb3, by show (nextP q).2.1.length ≤ _; omega, fun w => ?_, g7, g8⟩ ?_ (fun s hs => hs.tl [0] 1)
               · exact absurd w (failP_ne _)
               · simp only; rw [if_neg (failP_ne _), if_pos hc0]; omega)
            | (have hrp : roundP i q = (nextP q).2 := if_neg (by unfold badB; omega)
               have hle := nextP_le q
               have hlt := nextP_len q hc0
               have hst := uintP_step (i := i) (n := n) hc0
               rw [if_neg (by rw [hrp]; omega), hrp] at hst
               refine Fin.loop_next (i + 1, bitsU n (nextP q).1 i, (nextP q).2, a2, c2) ⟨hst.symm.trans g1, hb3, by show (nextP q).2.1.length ≤ _; omega, fun w => ?_, g7, g8⟩ ?_ (fun s hs => hs.tl [0] 1)
               · simp only at w ⊢; have := g4 hc0; omega
               · simp only; rw [if_pos hc0]; split <;> omega)
        · try simp only [cnd] at hg41
          refine WXL.miss (j := 2) (d := 41) rfl rfl rfl ?_
          refine WXL.miss (j := 2) (d := 41) rfl rfl rfl ?_
          refine WXL.miss (j := 2) (d := 41) rfl rfl rfl ?_
          refine WXL.miss (j := 2) (d := 41) rfl rfl rfl ?_
          refine WXL.miss (j := 2) (d := 41) rfl rfl rfl ?_
          refine WXL.pick_f Met.none rfl rfl ?_
          refine WXL.nil ?_
          refine Fin.then_normal ?_
          refine WX.cond rfl (fun hc2 => nomatch hc2) (fun hc2 => ?_)
          refine WX.skip ?_
          refine Fin.block_normal ?_
          refine Fin.then_normal ?_
          refine WX.region rfl ?_
          refine WXL.move Met.none rfl ?_
          refine WXL.bin Met.none rfl rfl bvA ?_
          refine WXL.assign Met.none rfl ?_
          refine WXL.nil ?_
          first
          | (have hrp : roundP i q = failP (nextP q).2 2 := if_pos (by unfold badB; omega)
             have hle := nextP_le q
             have hst := uintP_step (i := i) (n := n) hc0
             rw [if_neg (by rw [hrp]; exact fun w => failP_ne _ w.2), hrp] at hst
             refine Fin.loop_next (i + 1, bitsU n (nextP q).1 i, failP (nextP q).2 2, a2, c2) ⟨hst.symm.trans g1, hb3, by show (nextP q).2.1.length ≤ _; omega, fun w => ?_, g7, g8⟩ ?_ (fun s hs => hs.tl [0] 1)
             · exact absurd w (failP_ne _)
             · simp only; rw [if_neg (failP_ne _), if_pos hc0]; omega)
          | (have hrp : roundP i q = (nextP q).2 := if_neg (by unfold badB; omega)
             have hle := nextP_le q
             have hlt := nextP_len q hc0
             have hst := uintP_step (i := i) (n := n) hc0
             rw [if_neg (by rw [hrp]; omega), hrp] at hst
             refine Fin.loop_next (i + 1, bitsU n (nextP q).1 i, (nextP q).2, a2, c2) ⟨hst.symm.trans g1, hb3, by show (nextP q).2.1.length ≤ _; omega, fun w => ?_, g7, g8⟩ ?_ (fun s hs => hs.tl [0] 1)
             · simp only at w ⊢; have := g4 hc0; omega
             · simp only; rw [if_pos hc0]; split <;> omega)
  · try simp only [cnd] at hc0
    refine WX.exit ?_
    refine Fin.then_exit ?_
    refine Fin.loop_exit ?_
    refine Fin.block_hit rfl ?_
    refine Fin.then_normal ?_
    refine WX.seq ?_
    refine WX.region rfl ?_
    refine WXL.assign Met.none rfl ?_
    refine WXL.nil ?_
    refine Fin.then_normal ?_
    refine WX.ret ?_
    first
    | (have hz : uintP i n q = (0, q) := by rw [uintP, dif_neg hc0]
       refine Fin.result (O' := (r, ⟨0, false, [.slice a q.1.length c, I q.2]⟩) :: O) (.inr rfl) rfl rfl (fun _ hs => hs) ?_
       rw [← g1, hz]
       exact ⟨rfl, a, c, rfl, g5, g6⟩)
    | (exfalso; revert hc2; split <;> omega)
    | (have hrp : roundP i q = (nextP q).2 := if_neg (by unfold badB; omega)
       have hst := uintP_step (i := i) (n := n) hc0
       rw [if_pos (by rw [hrp]; omega), hrp] at hst
       refine Fin.result (O' := (r, ⟨0, false, [.slice a2 (nextP q).2.1.length c2, I (nextP q).2.2]⟩) :: O) (.inr rfl) rfl rfl (fun _ hs => hs) ?_
       rw [← g1, hst]
       exact ⟨rfl, a2, c2, rfl, g7, g8⟩)

end Go.Proofs.Ythekokdpplobhaa.Eng

set_option linter.unusedVariables false
set_option linter.unusedSimpArgs false
namespace Go.Proofs.Ythekokdpplobhaa.Eng

/-- What a reader makes of a byte slice with its length ahead. -/
def rawP (q : RdP) : List Int × RdP :=
  if (uintP 0 0 q).2.2 = 0 then
    if (uintP 0 0 q).1 ≤ ((uintP 0 0 q).2.1.length : Int) then ((uintP 0 0 q).2.1.take (uintP 0 0 q).1.toNat, ((uintP 0 0 q).2.1.drop (uintP 0 0 q).1.toNat, 0)) else ([], ((uintP 0 0 q).2.1, 3))
  else ([], (uintP 0 0 q).2)

theorem bitsU_range (n c : Int) (i : Nat) : 0 ≤ bitsU n c i ∧ bitsU n c i < 18446744073709551616 := by
  unfold bitsU
  exact wrapU_range _

theorem roundP_le (i : Nat) (q : RdP) : (roundP i q).1.length ≤ q.1.length := by
  unfold roundP failP
  split <;> exact nextP_le q

theorem roundP_bytes (i : Nat) {q : RdP} (h : Bytes q.1) : Bytes (roundP i q).1 := by
  unfold roundP failP
  split <;> exact (nextP_range h).2.2

theorem uintP_facts (i : Nat) (n : Int) (q : RdP) (hn : 0 ≤ n ∧ n < 18446744073709551616) : (0 ≤ (uintP i n q).1 ∧ (uintP i n q).1 < 18446744073709551616) ∧ (uintP i n q).2.1.length ≤ q.1.length ∧ (Bytes q.1 → Bytes (uintP i n q).2.1) ∧ ((uintP i n q).2.2 ≠ 0 → (uintP i n q).1 = 0) := by
  rw [uintP]
  split
  · rename_i h0
    split
    · rename_i h1
      exact ⟨bitsU_range _ _ _, roundP_le i q, roundP_bytes i, fun h => absurd h1.2 h⟩
    · split
      · rename_i h2
        obtain ⟨q1, q2, q3, q4⟩ := uintP_facts (i + 1) (bitsU n (nextP q).1 i) (roundP i q) (bitsU_range _ _ _)
        exact ⟨q1, Nat.le_trans q2 (roundP_le i q), fun h => q3 (roundP_bytes i h), q4⟩
      · exact ⟨⟨Int.le_refl 0, by show (0:Int) < _; decide⟩, roundP_le i q, roundP_bytes i, fun _ => rfl⟩
  · exact ⟨⟨Int.le_refl 0, by show (0:Int) < _; decide⟩, Nat.le_refl _, id, fun _ => rfl⟩
termination_by q.1.length
decreasing_by
  rename_i h0 _ h2
  rcases roundP_len i q h0 with w | w
  · exact absurd h2 w
  · exact w

theorem uintP0 (q : RdP) : (0 ≤ (uintP 0 0 q).1 ∧ (uintP 0 0 q).1 < 18446744073709551616) ∧ (uintP 0 0 q).2.1.length ≤ q.1.length ∧ (Bytes q.1 → Bytes (uintP 0 0 q).2.1) ∧ ((uintP 0 0 q).2.2 ≠ 0 → (uintP 0 0 q).1 = 0) :=
  uintP_facts 0 0 q ⟨Int.le_refl 0, by decide⟩

theorem rawP_facts (q : RdP) : (rawP q).1.length ≤ q.1.length ∧ (rawP q).2.1.length ≤ q.1.length ∧ (Bytes q.1 → Bytes (rawP q).1 ∧ Bytes (rawP q).2.1) := by
  obtain ⟨h1, h2, h3, h4⟩ := uintP0 q
  unfold rawP
  split
  · split
    · refine ⟨?_, ?_, fun h => ⟨fun x hx => h3 h x (List.mem_of_mem_take hx), fun x hx => h3 h x (List.mem_of_mem_drop hx)⟩⟩
      · rw [List.length_take]; omega
      · rw [List.length_drop]; omega
    · exact ⟨Nat.zero_le _, h2, fun h => ⟨fun x hx => by simp at hx, h3 h⟩⟩
  · exact ⟨Nat.zero_le _, h2, fun h => ⟨fun x hx => by simp at hx, h3 h⟩⟩

theorem uintP_varU (n : Nat) (h : n < 18446744073709551616) (rest : List Int) : uintP 0 0 (varU n ++ rest, 0) = ((n : Int), (rest, 0)) := by
  have := uintP_var rest n 0 0 (by decide) (by decide) (by simpa using h) (fun h => absurd h (by decide))
  simpa using this

theorem rawP_rawB (b rest : List Int) (h : b.length < 18446744073709551616) : rawP (rawB b ++ rest, 0) = (b, (rest, 0)) := by
  have e : rawB b ++ rest = varU b.length ++ (b ++ rest) := by unfold rawB; rw [List.append_assoc]
  unfold rawP
  rw [e, uintP_varU _ h]
  simp only [if_true]
  rw [if_pos (by rw [List.length_append]; omega), Int.toNat_natCast, List.take_left, List.drop_left]

/-- The record whose frame may be at the beginning of some bytes. -/
def coreP (b : List Int) : List Int :=
  let n := (uintP 0 0 (b.take (min b.length 10), 0)).1
  (rawP (b.take (min b.length (10 + min n.toNat b.length)), 0)).1
def recordP (b : List Int) : List Int := (rawP (uintP 0 0 (coreP b, 0)).2).1

theorem coreP_facts (b : List Int) : (coreP b).length ≤ b.length ∧ (Bytes b → Bytes (coreP b)) := by
  unfold coreP
  obtain ⟨h1, h2, h3⟩ := rawP_facts (b.take (min b.length (10 + min (uintP 0 0 (b.take (min b.length 10), 0)).1.toNat b.length)), 0)
  simp only [List.length_take] at h1
  exact ⟨by simp only; omega, fun h => (h3 fun x hx => h x (List.mem_of_mem_take hx)).1⟩

theorem recordP_facts (b : List Int) : (recordP b).length ≤ b.length ∧ (Bytes b → Bytes (recordP b)) := by
  obtain ⟨c1, c2⟩ := coreP_facts b
  obtain ⟨u1, u2, u3, u4⟩ := uintP0 (coreP b, 0)
  obtain ⟨h1, h2, h3⟩ := rawP_facts (uintP 0 0 (coreP b, 0)).2
  unfold recordP
  simp only at u2 u3
  exact ⟨by omega, fun h => (h3 (u3 (c2 h))).1⟩

theorem frameB_pos (i : Int) (x : List Int) : 0 < (frameB i x).length := by
  unfold frameB rawB
  simp only [List.length_append]
  have : 0 < (varU (coreB i x).length).length := by rw [varU]; split <;> simp
  omega

theorem rawB_len64 {b : List Int} (h : b.length < 18446744073709551616) : (varU b.length).length ≤ 10 := varU_len (k := 9) (by omega)

theorem recordP_frame {i : Int} {x b : List Int} (hi : In64 i) (hx : x.length ≤ 1000000000) (h : frameB i x <+: b) : recordP b = x := by
  obtain ⟨rest, rfl⟩ := h
  have hcl := coreB_len hi hx
  have hc : (coreB i x).length < 18446744073709551616 := by omega
  have hv := rawB_len64 hc
  have e0 : frameB i x ++ rest = varU (coreB i x).length ++ (coreB i x ++ (varU (hashB lblF (coreB i x)).toNat ++ rest)) := by
    unfold frameB rawB
    simp only [List.append_assoc]
  have hbl : (frameB i x ++ rest).length = (varU (coreB i x).length).length + ((coreB i x).length + ((varU (hashB lblF (coreB i x)).toNat).length + rest.length)) := by rw [e0]; simp only [List.length_append]
  have e1 : coreP (frameB i x ++ rest) = coreB i x := by
    unfold coreP
    have e2 : (frameB i x ++ rest).take (min (frameB i x ++ rest).length 10) = varU (coreB i x).length ++ (coreB i x ++ (varU (hashB lblF (coreB i x)).toNat ++ rest)).take (min (frameB i x ++ rest).length 10 - (varU (coreB i x).length).length) := by
      rw [e0, List.take_append, List.take_of_length_le (by rw [← e0, hbl]; omega)]
    simp only
    rw [e2, uintP_varU _ hc, Int.toNat_natCast]
    generalize hk : min (frameB i x ++ rest).length (10 + min (coreB i x).length (frameB i x ++ rest).length) = k
    have hk2 : (varU (coreB i x).length).length + (coreB i x).length ≤ k := by rw [← hk, hbl]; omega
    have e3 : (frameB i x ++ rest).take k = rawB (coreB i x) ++ (varU (hashB lblF (coreB i x)).toNat ++ rest).take (k - (rawB (coreB i x)).length) := by
      have e4 : frameB i x ++ rest = rawB (coreB i x) ++ (varU (hashB lblF (coreB i x)).toNat ++ rest) := by unfold frameB; rw [List.append_assoc]
      rw [e4, List.take_append, List.take_of_length_le (by unfold rawB; rw [List.length_append]; exact hk2)]
    rw [e3, rawP_rawB _ _ hc]
  unfold recordP
  rw [e1]
  have hz := zigU_range hi
  unfold InU at hz
  have e5 : uintP 0 0 (coreB i x, 0) = (((zigU i).toNat : Int), (rawB x, 0)) := by
    unfold coreB
    exact uintP_varU _ (by omega) _
  rw [e5]
  have := rawP_rawB x [] (by omega)
  rw [List.append_nil] at this
  rw [this]

/-- The records at the beginning of some bytes, and their length. -/
def scanP (i : Nat) (b : List Int) : List (List Int) × Nat :=
  if h : b ≠ [] ∧ frameB i (recordP b) <+: b then
    (recordP b :: (scanP (i + 1) (b.drop (frameB i (recordP b)).length)).1, (frameB i (recordP b)).length + (scanP (i + 1) (b.drop (frameB i (recordP b)).length)).2)
  else ([], 0)
termination_by b.length
decreasing_by
  all_goals
    have := frameB_pos i (recordP b)
    have : 0 < b.length := List.length_pos_iff.2 h.1
    rw [List.length_drop]
    omega

/-- Frames of records from a number on. -/
def framesB (i : Nat) : List (List Int) → List Int
  | [] => []
  | x :: l => frameB i x ++ framesB (i + 1) l
theorem framesB_cons (i : Nat) (x : List Int) (l : List (List Int)) : framesB i (x :: l) = frameB i x ++ framesB (i + 1) l := rfl

theorem scanP_frames (rest : List Int) : ∀ (l : List (List Int)) (i : Nat), i + l.length ≤ 1000000000 → (∀ x ∈ l, x.length ≤ 1000000000) →
    scanP i (framesB i l ++ rest) = (l ++ (scanP (i + l.length) rest).1, (framesB i l).length + (scanP (i + l.length) rest).2) := by
  intro l
  induction l with
  | nil => intro i _ _; simp [framesB]
  | cons x l ih =>
    intro i hi hl
    have e : framesB i (x :: l) ++ rest = frameB i x ++ (framesB (i + 1) l ++ rest) := by rw [framesB_cons, List.append_assoc]
    have hp : frameB i x <+: frameB i x ++ (framesB (i + 1) l ++ rest) := List.prefix_append _ _
    have hr := recordP_frame (by unfold In64; simp only [List.length_cons] at hi; omega) (hl x (List.mem_cons_self ..)) hp
    have hpos := frameB_pos i x
    rw [e, scanP, dif_pos ⟨fun q => by rw [q] at hp; have := hp.length_le; simp at this; rw [this] at hpos; simp at hpos, by rw [hr]; exact hp⟩, hr, List.drop_left, ih (i + 1) (by simp only [List.length_cons] at hi; omega) fun y hy => hl y (List.mem_cons_of_mem _ hy)]
    have e2 : i + 1 + l.length = i + (x :: l).length := by rw [List.length_cons]; omega
    rw [e2]
    refine Prod.ext (by simp) ?_
    show _ + (_ + _) = (framesB i (x :: l)).length + _
    rw [framesB_cons, List.length_append]
    omega

end Go.Proofs.Ythekokdpplobhaa.Eng

set_option linter.unusedVariables false
set_option linter.unusedSimpArgs false
namespace Go.Proofs.Ythekokdpplobhaa.Eng

/-- A reader behind some reading, with new rows. -/
def RdG (O : Objs) (r : Nat) (q : RdP) (G N : Objs) : Prop := ∃ a c, N = (r, ⟨0, false, [.slice a q.1.length c, I q.2]⟩) :: (G ++ O) ∧ Rowy O 1 a q.1.length (q.1.map B8) ∧ (a = none → c = 0)

theorem drop_cons_nth {l : List Int} {k : Nat} (h : k < l.length) : l.drop k = nth l k :: l.drop (k + 1) := by
  rw [nth_get h, List.drop_eq_getElem_cons h]

theorem list_ok (O : Objs) (r : Nat) (q0 : RdP) (a0 : Option Addr) (c0 : Nat) (hB : Bytes q0.1) (hlen : q0.1.length ≤ 1000000000000) (hr : Rowy O 1 a0 q0.1.length (q0.1.map B8)) (hc : a0 = none → c0 = 0) :
    Spec Try.prog false 47 #[Ptr r 0, .func (.func 48) #[Ptr r 0] #[]] ((r, ⟨0, false, [.slice a0 q0.1.length c0, I q0.2]⟩) :: O) fun v O' => ∃ ao co G, v = .slice ao (rawP q0).1.length co ∧ Grow 1 ao (rawP q0).1.length co ((rawP q0).1.map B8) G ∧ RdG O r (rawP q0).2 G O' := by
  obtain ⟨hu1, hu2, hu3, hu4⟩ := uintP0 q0
  obtain ⟨n, l, e, hu⟩ : ∃ n l e, uintP 0 0 q0 = (n, (l, e)) := ⟨_, _, _, rfl⟩
  rw [hu] at hu1 hu2 hu3 hu4
  simp only at hu1 hu2 hu3 hu4
  refine Spec.enter (args := [_, _]) (m := 43) Try.func47 rfl rfl (by decide +kernel) fun h0 => ?_
  refine WX.seq ?_
  refine WX.region rfl ?_
  refine WXL.assign Met.none rfl ?_
  refine WXL.nil ?_
  refine Fin.then_normal ?_
  refine WX.seq ?_
  refine WX.region rfl ?_
  refine WXL.move Met.none rfl ?_
  refine WXL.cl (O1 := _) Met.none rfl (fnOk_of Try.func26 (by decide +kernel)) rfl (fun _ h => h) (uint_ok O r q0 a0 c0 hB hlen hr hc) (fun v O' hp => ?_)
  obtain ⟨rfl, ⟨a1, c1, rfl, hr1, hc1⟩⟩ := hp
  rw [hu] at hr1 ⊢
  simp only at hr1 ⊢
  refine WXL.assign Met.none rfl ?_
  refine WXL.nil ?_
  refine Fin.then_normal ?_
  refine WX.seq ?_
  refine WX.seq ?_
  refine WX.region rfl ?_
  refine WXL.move Met.none rfl ?_
  refine WXL.move Met.none rfl ?_
  refine WXL.nilCheck Met.none rfl ?_
  first | refine WXL.fieldAddr Met.none rfl Try.underlying75 rfl sz23 rfl ?_ | refine WXL.faS Met.none rfl Try.underlying75 rfl sz23 ?_
  first | refine WXL.ld Met.none rfl agg23 ?_ | refine WXL.ldS Met.none rfl agg23 ?_
  refine WXL.len Met.none rfl Try.underlying23 ?_
  refine WXL.conv Met.none rfl Try.underlying3 Try.underlying42 (wrap_u64 (by omega) (by omega)) ?_
  refine WXL.bin Met.none rfl rfl rfl ?_
  refine WXL.nil ?_
  refine Fin.then_normal ?_
  refine WX.cond rfl (fun hc0 => ?_) (fun hc0 => ?_)
  · try simp only [cnd] at hc0
    refine WX.region rfl ?_
    refine WXL.move Met.none rfl ?_
    refine WXL.cl (O1 := _) Met.none rfl (fnOk_of Try.func49 (by decide +kernel)) rfl (fun _ h => h) (fail_ok _ r _ 3 e) (fun v O' hp => ?_)
    obtain rfl := hp
    refine WXL.nil ?_
    refine Fin.then_normal ?_
    refine WX.seq ?_
    refine WX.region rfl ?_
    obtain ⟨e1, he1, hraw, hn1⟩ : ∃ e1, e1 = (if n ≤ (l.length : Int) then e else if e = 0 then 3 else e) ∧ rawP q0 = (if e1 = 0 then (l.take n.toNat, (l.drop n.toNat, 0)) else ([], (l, e1))) ∧ (e1 = 0 → n ≤ l.length) := by
      refine ⟨_, rfl, ?_, ?_⟩
      · unfold rawP
        rw [hu]
        simp only
        by_cases q1 : e = 0
        · subst q1
          by_cases q2 : n ≤ (l.length : Int)
          · rw [if_pos rfl, if_pos q2, if_pos q2, if_pos rfl]
          · rw [if_pos rfl, if_neg q2, if_neg q2, if_pos rfl, if_neg (by decide)]
        · rw [if_neg q1]
          have q3 := hu4 q1
          have q4 : (if n ≤ (l.length : Int) then e else if e = 0 then 3 else e) = e := if_pos (by omega)
          rw [q4, if_neg q1]
      · intro q1
        by_cases q2 : n ≤ (l.length : Int)
        · exact q2
        · rw [if_neg q2] at q1
          split at q1
          · cases q1
          · exact absurd q1 (by assumption)
    first
    | rw [show (if e = 0 then 3 else e) = e1 from by rw [he1, if_neg (show ¬ n ≤ (l.length : Int) by omega)]]
    | rw [show e = e1 from by rw [he1, if_pos (show n ≤ (l.length : Int) by omega)]]
    rw [hraw]
    clear hraw
    refine WXL.assign Met.none rfl ?_
    refine WXL.nil ?_
    refine Fin.then_normal ?_
    refine WX.seq ?_
    refine WX.seq ?_
    refine WX.region rfl ?_
    refine WXL.assign Met.none rfl ?_
    refine WXL.nil ?_
    refine Fin.then_normal ?_
    refine WX.block ?_
    refine WX.loop (fun s : Nat × Option Addr × Nat × Objs × Option Addr × Nat => [(0, Ptr r 0), (1, .func (.func 48) #[Ptr r 0] #[]), (5, U n), (6, .slice s.2.1 s.1 s.2.2.1), (7, U (s.1 : Int))]) (fun s => (r, ⟨0, false, [.slice s.2.2.2.2.1 (l.drop s.1).length s.2.2.2.2.2, I e1]⟩) :: (s.2.2.2.1 ++ O)) (fun s => (s.1 : Int) ≤ n ∧ s.1 ≤ l.length ∧ (s.1 = 0 ∨ e1 = 0) ∧ Grow 1 s.2.1 s.1 s.2.2.1 ((l.take s.1).map B8) s.2.2.2.1 ∧ Rowy O 1 s.2.2.2.2.1 (l.drop s.1).length ((l.drop s.1).map B8) ∧ (s.2.2.2.2.1 = none → s.2.2.2.2.2 = 0)) (fun s => l.length - s.1) (0, none, 0, [], a1, c1) ⟨hu1.1, Nat.zero_le _, .inl rfl, .nil, hr1, hc1⟩ (fun s hs => hs.tl [0] 1) (fun s hs => ?_)
    obtain ⟨k, ao, co, G, a2, c2⟩ := s
    obtain ⟨g1, g2, g3, g4, g5, g6⟩ := hs
    simp only at g1 g2 g3 g4 g5 g6
    dsimp only
    refine WX.seq ?_
    refine WX.seq ?_
    refine WX.region rfl ?_
    refine WXL.move Met.none rfl ?_
    refine WXL.move Met.none rfl ?_
    refine WXL.bin Met.none rfl rfl rfl ?_
    refine WXL.move Met.none rfl ?_
    refine WXL.split (d := 23) rfl (fun hg23 => ?_) (fun hg23 => ?_)
    · try simp only [cnd] at hg23
      refine WXL.move (Met.some rfl rfl rfl) rfl ?_
      refine WXL.nilCheck (Met.some rfl rfl rfl) rfl ?_
      first | refine WXL.fieldAddr (Met.some rfl rfl rfl) rfl Try.underlying75 rfl sz47 rfl ?_ | refine WXL.faS (Met.some rfl rfl rfl) rfl Try.underlying75 rfl sz47 ?_
      first | refine WXL.ld (Met.some rfl rfl rfl) rfl agg47 ?_ | refine WXL.ldS (Met.some rfl rfl rfl) rfl agg47 ?_
      refine WXL.bin (Met.some rfl rfl rfl) rfl rfl rfl ?_
      refine WXL.pick_t Met.none rfl rfl ?_
      refine WXL.nil ?_
      refine Fin.then_normal ?_
      refine WX.cond rfl (fun hc1 => ?_) (fun hc1 => ?_)
      · try simp only [cnd] at hc1
        refine WX.skip ?_
        refine Fin.then_normal ?_
        refine WX.seq ?_
        refine WX.block ?_
        have he0 : e1 = 0 := by omega
        subst he0
        have hn2 := hn1 rfl
        have hkl : k < l.length := by omega
        have hdc := drop_cons_nth hkl
        refine WX.region rfl ?_
        refine WXL.move Met.none rfl ?_
        refine WXL.move Met.none rfl ?_
        refine WXL.cl (O1 := _) Met.none rfl (fnOk_of Try.func48 (by decide +kernel)) rfl (fun _ h => h) (next_ok (G ++ O) r (l.drop k, 0) a2 c2 (by simp only [List.length_drop]; omega) g5.app g6) (fun v O' hp => ?_)
        obtain ⟨rfl, ⟨a3, c3, rfl, g7, g8⟩⟩ := hp
        rw [show nextP (l.drop k, 0) = (nth l k, (l.drop (k + 1), 0)) from by rw [hdc]; rfl] at g7 ⊢
        have g7 := g7 O g5
        refine WXL.buildSlice (c := [_]) Met.none rfl elem23 sz5 zero5 (by decide) (by decide) rfl rfl rfl rfl (fun b35 => ?_)
        refine WXL.apG [_, _] Met.none rfl rfl isrow23 elem23 sz5 by5 zero5 (Src.lit (cs := [_])) (fun a36 c36 G36 hG36 => ?_)
        refine WXL.assign Met.none rfl ?_
        refine WXL.nil ?_
        refine Fin.block_normal ?_
        refine Fin.then_normal ?_
        refine WX.region rfl ?_
        refine WXL.move Met.none rfl ?_
        refine WXL.bin Met.none rfl rfl (congrArg (fun n => some (U n)) (wrap_u64 (n := (k : Int) + 1) (by omega) (by omega))) ?_
        refine WXL.assign Met.none rfl ?_
        refine WXL.nil ?_
        refine Fin.loop_next (k + 1, a36, c36, G36, a3, c3) ⟨by simp only; omega, by simp only; omega, .inr rfl, ?_, g7, g8⟩ (by simp only; omega) (fun s hs => hs.tl [1] 2)
        simp only
        rw [take_succ_nth hkl, List.map_append]
        exact hG36
      · try simp only [cnd] at hc1
        refine WX.exit ?_
        refine Fin.then_exit ?_
        refine Fin.loop_exit ?_
        refine Fin.block_hit rfl ?_
        refine Fin.then_normal ?_
        refine WX.seq ?_
        refine WX.seq ?_
        refine WX.region rfl ?_
        refine WXL.move Met.none rfl ?_
        refine WXL.nilCheck Met.none rfl ?_
        first | refine WXL.fieldAddr Met.none rfl Try.underlying75 rfl sz47 rfl ?_ | refine WXL.faS Met.none rfl Try.underlying75 rfl sz47 ?_
        first | refine WXL.ld Met.none rfl agg47 ?_ | refine WXL.ldS Met.none rfl agg47 ?_
        refine WXL.bin Met.none rfl rfl rfl ?_
        refine WXL.nil ?_
        refine Fin.then_normal ?_
        refine WX.cond rfl (fun hc2 => ?_) (fun hc2 => ?_)
        · try simp only [cnd] at hc2
          refine WX.seq ?_
          refine WX.region rfl ?_
          refine WXL.assign Met.none rfl ?_
          refine WXL.nil ?_
          refine Fin.then_normal ?_
          refine WX.ret ?_
          refine Fin.then_ret ?_
          first
          | (have hk0 : k = 0 := by omega
             subst hk0
             rw [if_neg hc2]
             rcases g4 with ⟨rfl, _, rfl, _, rfl⟩ | ⟨b, rfl, rfl, _⟩
             · exact Fin.result (O' := (r, ⟨0, false, [.slice a2 (l.drop 0).length c2, I e1]⟩) :: ([] ++ O)) (.inr rfl) rfl rfl (fun _ hs => hs) ⟨none, 0, [], rfl, .nil, a2, c2, rfl, g5, g6⟩
             · exact Fin.result (O' := (r, ⟨0, false, [.slice a2 (l.drop 0).length c2, I e1]⟩) :: ([] ++ O)) (.inr rfl) rfl rfl (fun _ hs => hs.tl [0] 2) ⟨none, 0, [], rfl, .nil, a2, c2, rfl, g5, g6⟩)
          | (have he0 : e1 = 0 := by omega
             subst he0
             rw [if_pos rfl]
             have hkn : n.toNat = k := by omega
             rw [hkn]
             have hlk : (l.take k).length = k := by rw [List.length_take]; omega
             exact Fin.result (O' := (r, ⟨0, false, [.slice a2 (l.drop k).length c2, I 0]⟩) :: (G ++ O)) (.inr rfl) rfl rfl (fun _ hs => hs) ⟨ao, co, G, by rw [hlk]; rfl, by rw [hlk]; exact g4, a2, c2, rfl, g5, g6⟩)
        · try simp only [cnd] at hc2
          refine WX.skip ?_
          refine Fin.then_normal ?_
          refine WX.seq ?_
          refine WX.region rfl ?_
          refine WXL.move Met.none rfl ?_
          refine WXL.assign Met.none rfl ?_
          refine WXL.nil ?_
          refine Fin.then_normal ?_
          refine WX.ret ?_
          first
          | (have hk0 : k = 0 := by omega
             subst hk0
             rw [if_neg hc2]
             rcases g4 with ⟨rfl, _, rfl, _, rfl⟩ | ⟨b, rfl, rfl, _⟩
             · exact Fin.result (O' := (r, ⟨0, false, [.slice a2 (l.drop 0).length c2, I e1]⟩) :: ([] ++ O)) (.inr rfl) rfl rfl (fun _ hs => hs) ⟨none, 0, [], rfl, .nil, a2, c2, rfl, g5, g6⟩
             · exact Fin.result (O' := (r, ⟨0, false, [.slice a2 (l.drop 0).length c2, I e1]⟩) :: ([] ++ O)) (.inr rfl) rfl rfl (fun _ hs => hs.tl [0] 2) ⟨none, 0, [], rfl, .nil, a2, c2, rfl, g5, g6⟩)
          | (have he0 : e1 = 0 := by omega
             subst he0
             rw [if_pos rfl]
             have hkn : n.toNat = k := by omega
             rw [hkn]
             have hlk : (l.take k).length = k := by rw [List.length_take]; omega
             exact Fin.result (O' := (r, ⟨0, false, [.slice a2 (l.drop k).length c2, I 0]⟩) :: (G ++ O)) (.inr rfl) rfl rfl (fun _ hs => hs) ⟨ao, co, G, by rw [hlk]; rfl, by rw [hlk]; exact g4, a2, c2, rfl, g5, g6⟩)
    · try simp only [cnd] at hg23
      refine WXL.miss (j := 3) (d := 23) rfl rfl rfl ?_
      refine WXL.miss (j := 3) (d := 23) rfl rfl rfl ?_
      refine WXL.miss (j := 3) (d := 23) rfl rfl rfl ?_
      refine WXL.miss (j := 3) (d := 23) rfl rfl rfl ?_
      refine WXL.miss (j := 3) (d := 23) rfl rfl rfl ?_
      refine WXL.pick_f Met.none rfl rfl ?_
      refine WXL.nil ?_
      refine Fin.then_normal ?_
      refine WX.cond rfl (fun hc1 => nomatch hc1) (fun hc1 => ?_)
      refine WX.exit ?_
      refine Fin.then_exit ?_
      refine Fin.loop_exit ?_
      refine Fin.block_hit rfl ?_
      refine Fin.then_normal ?_
      refine WX.seq ?_
      refine WX.seq ?_
      refine WX.region rfl ?_
      refine WXL.move Met.none rfl ?_
      refine WXL.nilCheck Met.none rfl ?_
      first | refine WXL.fieldAddr Met.none rfl Try.underlying75 rfl sz47 rfl ?_ | refine WXL.faS Met.none rfl Try.underlying75 rfl sz47 ?_
      first | refine WXL.ld Met.none rfl agg47 ?_ | refine WXL.ldS Met.none rfl agg47 ?_
      refine WXL.bin Met.none rfl rfl rfl ?_
      refine WXL.nil ?_
      refine Fin.then_normal ?_
      refine WX.cond rfl (fun hc2 => ?_) (fun hc2 => ?_)
      · try simp only [cnd] at hc2
        refine WX.seq ?_
        refine WX.region rfl ?_
        refine WXL.assign Met.none rfl ?_
        refine WXL.nil ?_
        refine Fin.then_normal ?_
        refine WX.ret ?_
        refine Fin.then_ret ?_
        first
        | (have hk0 : k = 0 := by omega
           subst hk0
           rw [if_neg hc2]
           rcases g4 with ⟨rfl, _, rfl, _, rfl⟩ | ⟨b, rfl, rfl, _⟩
           · exact Fin.result (O' := (r, ⟨0, false, [.slice a2 (l.drop 0).length c2, I e1]⟩) :: ([] ++ O)) (.inr rfl) rfl rfl (fun _ hs => hs) ⟨none, 0, [], rfl, .nil, a2, c2, rfl, g5, g6⟩
           · exact Fin.result (O' := (r, ⟨0, false, [.slice a2 (l.drop 0).length c2, I e1]⟩) :: ([] ++ O)) (.inr rfl) rfl rfl (fun _ hs => hs.tl [0] 2) ⟨none, 0, [], rfl, .nil, a2, c2, rfl, g5, g6⟩)
        | (have he0 : e1 = 0 := by omega
           subst he0
           rw [if_pos rfl]
           have hkn : n.toNat = k := by omega
           rw [hkn]
           have hlk : (l.take k).length = k := by rw [List.length_take]; omega
           exact Fin.result (O' := (r, ⟨0, false, [.slice a2 (l.drop k).length c2, I 0]⟩) :: (G ++ O)) (.inr rfl) rfl rfl (fun _ hs => hs) ⟨ao, co, G, by rw [hlk]; rfl, by rw [hlk]; exact g4, a2, c2, rfl, g5, g6⟩)
      · try simp only [cnd] at hc2
        refine WX.skip ?_
        refine Fin.then_normal ?_
        refine WX.seq ?_
        refine WX.region rfl ?_
        refine WXL.move Met.none rfl ?_
        refine WXL.assign Met.none rfl ?_
        refine WXL.nil ?_
        refine Fin.then_normal ?_
        refine WX.ret ?_
        first
        | (have hk0 : k = 0 := by omega
           subst hk0
           rw [if_neg hc2]
           rcases g4 with ⟨rfl, _, rfl, _, rfl⟩ | ⟨b, rfl, rfl, _⟩
           · exact Fin.result (O' := (r, ⟨0, false, [.slice a2 (l.drop 0).length c2, I e1]⟩) :: ([] ++ O)) (.inr rfl) rfl rfl (fun _ hs => hs) ⟨none, 0, [], rfl, .nil, a2, c2, rfl, g5, g6⟩
           · exact Fin.result (O' := (r, ⟨0, false, [.slice a2 (l.drop 0).length c2, I e1]⟩) :: ([] ++ O)) (.inr rfl) rfl rfl (fun _ hs => hs.tl [0] 2) ⟨none, 0, [], rfl, .nil, a2, c2, rfl, g5, g6⟩)
        | (have he0 : e1 = 0 := by omega
           subst he0
           rw [if_pos rfl]
           have hkn : n.toNat = k := by omega
           rw [hkn]
           have hlk : (l.take k).length = k := by rw [List.length_take]; omega
           exact Fin.result (O' := (r, ⟨0, false, [.slice a2 (l.drop k).length c2, I 0]⟩) :: (G ++ O)) (.inr rfl) rfl rfl (fun _ hs => hs) ⟨ao, co, G, by rw [hlk]; rfl, by rw [hlk]; exact g4, a2, c2, rfl, g5, g6⟩)
  · try simp only [cnd] at hc0
    refine WX.skip ?_
    refine Fin.then_normal ?_
    refine WX.seq ?_
    refine WX.region rfl ?_
    obtain ⟨e1, he1, hraw, hn1⟩ : ∃ e1, e1 = (if n ≤ (l.length : Int) then e else if e = 0 then 3 else e) ∧ rawP q0 = (if e1 = 0 then (l.take n.toNat, (l.drop n.toNat, 0)) else ([], (l, e1))) ∧ (e1 = 0 → n ≤ l.length) := by
      refine ⟨_, rfl, ?_, ?_⟩
      · unfold rawP
        rw [hu]
        simp only
        by_cases q1 : e = 0
        · subst q1
          by_cases q2 : n ≤ (l.length : Int)
          · rw [if_pos rfl, if_pos q2, if_pos q2, if_pos rfl]
          · rw [if_pos rfl, if_neg q2, if_neg q2, if_pos rfl, if_neg (by decide)]
        · rw [if_neg q1]
          have q3 := hu4 q1
          have q4 : (if n ≤ (l.length : Int) then e else if e = 0 then 3 else e) = e := if_pos (by omega)
          rw [q4, if_neg q1]
      · intro q1
        by_cases q2 : n ≤ (l.length : Int)
        · exact q2
        · rw [if_neg q2] at q1
          split at q1
          · cases q1
          · exact absurd q1 (by assumption)
    first
    | rw [show (if e = 0 then 3 else e) = e1 from by rw [he1, if_neg (show ¬ n ≤ (l.length : Int) by omega)]]
    | rw [show e = e1 from by rw [he1, if_pos (show n ≤ (l.length : Int) by omega)]]
    rw [hraw]
    clear hraw
    refine WXL.assign Met.none rfl ?_
    refine WXL.nil ?_
    refine Fin.then_normal ?_
    refine WX.seq ?_
    refine WX.seq ?_
    refine WX.region rfl ?_
    refine WXL.assign Met.none rfl ?_
    refine WXL.nil ?_
    refine Fin.then_normal ?_
    refine WX.block ?_
    refine WX.loop (fun s : Nat × Option Addr × Nat × Objs × Option Addr × Nat => [(0, Ptr r 0), (1, .func (.func 48) #[Ptr r 0] #[]), (5, U n), (6, .slice s.2.1 s.1 s.2.2.1), (7, U (s.1 : Int))]) (fun s => (r, ⟨0, false, [.slice s.2.2.2.2.1 (l.drop s.1).length s.2.2.2.2.2, I e1]⟩) :: (s.2.2.2.1 ++ O)) (fun s => (s.1 : Int) ≤ n ∧ s.1 ≤ l.length ∧ (s.1 = 0 ∨ e1 = 0) ∧ Grow 1 s.2.1 s.1 s.2.2.1 ((l.take s.1).map B8) s.2.2.2.1 ∧ Rowy O 1 s.2.2.2.2.1 (l.drop s.1).length ((l.drop s.1).map B8) ∧ (s.2.2.2.2.1 = none → s.2.2.2.2.2 = 0)) (fun s => l.length - s.1) (0, none, 0, [], a1, c1) ⟨hu1.1, Nat.zero_le _, .inl rfl, .nil, hr1, hc1⟩ (fun s hs => hs.tl [0] 1) (fun s hs => ?_)
    obtain ⟨k, ao, co, G, a2, c2⟩ := s
    obtain ⟨g1, g2, g3, g4, g5, g6⟩ := hs
    simp only at g1 g2 g3 g4 g5 g6
    dsimp only
    refine WX.seq ?_
    refine WX.seq ?_
    refine WX.region rfl ?_
    refine WXL.move Met.none rfl ?_
    refine WXL.move Met.none rfl ?_
    refine WXL.bin Met.none rfl rfl rfl ?_
    refine WXL.move Met.none rfl ?_
    refine WXL.split (d := 23) rfl (fun hg23 => ?_) (fun hg23 => ?_)
    · try simp only [cnd] at hg23
      refine WXL.move (Met.some rfl rfl rfl) rfl ?_
      refine WXL.nilCheck (Met.some rfl rfl rfl) rfl ?_
      first | refine WXL.fieldAddr (Met.some rfl rfl rfl) rfl Try.underlying75 rfl sz47 rfl ?_ | refine WXL.faS (Met.some rfl rfl rfl) rfl Try.underlying75 rfl sz47 ?_
      first | refine WXL.ld (Met.some rfl rfl rfl) rfl agg47 ?_ | refine WXL.ldS (Met.some rfl rfl rfl) rfl agg47 ?_
      refine WXL.bin (Met.some rfl rfl rfl) rfl rfl rfl ?_
      refine WXL.pick_t Met.none rfl rfl ?_
      refine WXL.nil ?_
      refine Fin.then_normal ?_
      refine WX.cond rfl (fun hc1 => ?_) (fun hc1 => ?_)
      · try simp only [cnd] at hc1
        refine WX.skip ?_
        refine Fin.then_normal ?_
        refine WX.seq ?_
        refine WX.block ?_
        have he0 : e1 = 0 := by omega
        subst he0
        have hn2 := hn1 rfl
        have hkl : k < l.length := by omega
        have hdc := drop_cons_nth hkl
        refine WX.region rfl ?_
        refine WXL.move Met.none rfl ?_
        refine WXL.move Met.none rfl ?_
        refine WXL.cl (O1 := _) Met.none rfl (fnOk_of Try.func48 (by decide +kernel)) rfl (fun _ h => h) (next_ok (G ++ O) r (l.drop k, 0) a2 c2 (by simp only [List.length_drop]; omega) g5.app g6) (fun v O' hp => ?_)
        obtain ⟨rfl, ⟨a3, c3, rfl, g7, g8⟩⟩ := hp
        rw [show nextP (l.drop k, 0) = (nth l k, (l.drop (k + 1), 0)) from by rw [hdc]; rfl] at g7 ⊢
        have g7 := g7 O g5
        refine WXL.buildSlice (c := [_]) Met.none rfl elem23 sz5 zero5 (by decide) (by decide) rfl rfl rfl rfl (fun b35 => ?_)
        refine WXL.apG [_, _] Met.none rfl rfl isrow23 elem23 sz5 by5 zero5 (Src.lit (cs := [_])) (fun a36 c36 G36 hG36 => ?_)
        refine WXL.assign Met.none rfl ?_
        refine WXL.nil ?_
        refine Fin.block_normal ?_
        refine Fin.then_normal ?_
        refine WX.region rfl ?_
        refine WXL.move Met.none rfl ?_
        refine WXL.bin Met.none rfl rfl (congrArg (fun n => some (U n)) (wrap_u64 (n := (k : Int) + 1) (by omega) (by omega))) ?_
        refine WXL.assign Met.none rfl ?_
        refine WXL.nil ?_
        refine Fin.loop_next (k + 1, a36, c36, G36, a3, c3) ⟨by simp only; omega, by simp only; omega, .inr rfl, ?_, g7, g8⟩ (by simp only; omega) (fun s hs => hs.tl [1] 2)
        simp only
        rw [take_succ_nth hkl, List.map_append]
        exact hG36
      · try simp only [cnd] at hc1
        refine WX.exit ?_
        refine Fin.then_exit ?_
        refine Fin.loop_exit ?_
        refine Fin.block_hit rfl ?_
        refine Fin.then_normal ?_
        refine WX.seq ?_
        refine WX.seq ?_
        refine WX.region rfl ?_
        refine WXL.move Met.none rfl ?_
        refine WXL.nilCheck Met.none rfl ?_
        first | refine WXL.fieldAddr Met.none rfl Try.underlying75 rfl sz47 rfl ?_ | refine WXL.faS Met.none rfl Try.underlying75 rfl sz47 ?_
        first | refine WXL.ld Met.none rfl agg47 ?_ | refine WXL.ldS Met.none rfl agg47 ?_
        refine WXL.bin Met.none rfl rfl rfl ?_
        refine WXL.nil ?_
        refine Fin.then_normal ?_
        refine WX.cond rfl (fun hc2 => ?_) (fun hc2 => ?_)
        · try simp only [cnd] at hc2
          refine WX.seq ?_
          refine WX.region rfl ?_
          refine WXL.assign Met.none rfl ?_
          refine WXL.nil ?_
          refine Fin.then_normal ?_
          refine WX.ret ?_
          refine Fin.then_ret ?_
          first
          | (have hk0 : k = 0 := by omega
             subst hk0
             rw [if_neg hc2]
             rcases g4 with ⟨rfl, _, rfl, _, rfl⟩ | ⟨b, rfl, rfl, _⟩
             · exact Fin.result (O' := (r, ⟨0, false, [.slice a2 (l.drop 0).length c2, I e1]⟩) :: ([] ++ O)) (.inr rfl) rfl rfl (fun _ hs => hs) ⟨none, 0, [], rfl, .nil, a2, c2, rfl, g5, g6⟩
             · exact Fin.result (O' := (r, ⟨0, false, [.slice a2 (l.drop 0).length c2, I e1]⟩) :: ([] ++ O)) (.inr rfl) rfl rfl (fun _ hs => hs.tl [0] 2) ⟨none, 0, [], rfl, .nil, a2, c2, rfl, g5, g6⟩)
          | (have he0 : e1 = 0 := by omega
             subst he0
             rw [if_pos rfl]
             have hkn : n.toNat = k := by omega
             rw [hkn]
             have hlk : (l.take k).length = k := by rw [List.length_take]; omega
             exact Fin.result (O' := (r, ⟨0, false, [.slice a2 (l.drop k).length c2, I 0]⟩) :: (G ++ O)) (.inr rfl) rfl rfl (fun _ hs => hs) ⟨ao, co, G, by rw [hlk]; rfl, by rw [hlk]; exact g4, a2, c2, rfl, g5, g6⟩)
        · try simp only [cnd] at hc2
          refine WX.skip ?_
          refine Fin.then_normal ?_
          refine WX.seq ?_
          refine WX.region rfl ?_
          refine WXL.move Met.none rfl ?_
          refine WXL.assign Met.none rfl ?_
          refine WXL.nil ?_
          refine Fin.then_normal ?_
          refine WX.ret ?_
          first
          | (have hk0 : k = 0 := by omega
             subst hk0
             rw [if_neg hc2]
             rcases g4 with ⟨rfl, _, rfl, _, rfl⟩ | ⟨b, rfl, rfl, _⟩
             · exact Fin.result (O' := (r, ⟨0, false, [.slice a2 (l.drop 0).length c2, I e1]⟩) :: ([] ++ O)) (.inr rfl) rfl rfl (fun _ hs => hs) ⟨none, 0, [], rfl, .nil, a2, c2, rfl, g5, g6⟩
             · exact Fin.result (O' := (r, ⟨0, false, [.slice a2 (l.drop 0).length c2, I e1]⟩) :: ([] ++ O)) (.inr rfl) rfl rfl (fun _ hs => hs.tl [0] 2) ⟨none, 0, [], rfl, .nil, a2, c2, rfl, g5, g6⟩)
          | (have he0 : e1 = 0 := by omega
             subst he0
             rw [if_pos rfl]
             have hkn : n.toNat = k := by omega
             rw [hkn]
             have hlk : (l.take k).length = k := by rw [List.length_take]; omega
             exact Fin.result (O' := (r, ⟨0, false, [.slice a2 (l.drop k).length c2, I 0]⟩) :: (G ++ O)) (.inr rfl) rfl rfl (fun _ hs => hs) ⟨ao, co, G, by rw [hlk]; rfl, by rw [hlk]; exact g4, a2, c2, rfl, g5, g6⟩)
    · try simp only [cnd] at hg23
      refine WXL.miss (j := 3) (d := 23) rfl rfl rfl ?_
      refine WXL.miss (j := 3) (d := 23) rfl rfl rfl ?_
      refine WXL.miss (j := 3) (d := 23) rfl rfl rfl ?_
      refine WXL.miss (j := 3) (d := 23) rfl rfl rfl ?_
      refine WXL.miss (j := 3) (d := 23) rfl rfl rfl ?_
      refine WXL.pick_f Met.none rfl rfl ?_
      refine WXL.nil ?_
      refine Fin.then_normal ?_
      refine WX.cond rfl (fun hc1 => nomatch hc1) (fun hc1 => ?_)
      refine WX.exit ?_
      refine Fin.then_exit ?_
      refine Fin.loop_exit ?_
      refine Fin.block_hit rfl ?_
      refine Fin.then_normal ?_
      refine WX.seq ?_
      refine WX.seq ?_
      refine WX.region rfl ?_
      refine WXL.move Met.none rfl ?_
      refine WXL.nilCheck Met.none rfl ?_
      first | refine WXL.fieldAddr Met.none rfl Try.underlying75 rfl sz47 rfl ?_ | refine WXL.faS Met.none rfl Try.underlying75 rfl sz47 ?_
      first | refine WXL.ld Met.none rfl agg47 ?_ | refine WXL.ldS Met.none rfl agg47 ?_
      refine WXL.bin Met.none rfl rfl rfl ?_
      refine WXL.nil ?_
      refine Fin.then_normal ?_
      refine WX.cond rfl (fun hc2 => ?_) (fun hc2 => ?_)
      · try simp only [cnd] at hc2
        refine WX.seq ?_
        refine WX.region rfl ?_
        refine WXL.assign Met.none rfl ?_
        refine WXL.nil ?_
        refine Fin.then_normal ?_
        refine WX.ret ?_
        refine Fin.then_ret ?_
        first
        | (have hk0 : k = 0 := by omega
           subst hk0
           rw [if_neg hc2]
           rcases g4 with ⟨rfl, _, rfl, _, rfl⟩ | ⟨b, rfl, rfl, _⟩
           · exact Fin.result (O' := (r, ⟨0, false, [.slice a2 (l.drop 0).length c2, I e1]⟩) :: ([] ++ O)) (.inr rfl) rfl rfl (fun _ hs => hs) ⟨none, 0, [], rfl, .nil, a2, c2, rfl, g5, g6⟩
           · exact Fin.result (O' := (r, ⟨0, false, [.slice a2 (l.drop 0).length c2, I e1]⟩) :: ([] ++ O)) (.inr rfl) rfl rfl (fun _ hs => hs.tl [0] 2) ⟨none, 0, [], rfl, .nil, a2, c2, rfl, g5, g6⟩)
        | (have he0 : e1 = 0 := by omega
           subst he0
           rw [if_pos rfl]
           have hkn : n.toNat = k := by omega
           rw [hkn]
           have hlk : (l.take k).length = k := by rw [List.length_take]; omega
           exact Fin.result (O' := (r, ⟨0, false, [.slice a2 (l.drop k).length c2, I 0]⟩) :: (G ++ O)) (.inr rfl) rfl rfl (fun _ hs => hs) ⟨ao, co, G, by rw [hlk]; rfl, by rw [hlk]; exact g4, a2, c2, rfl, g5, g6⟩)
      · try simp only [cnd] at hc2
        refine WX.skip ?_
        refine Fin.then_normal ?_
        refine WX.seq ?_
        refine WX.region rfl ?_
        refine WXL.move Met.none rfl ?_
        refine WXL.assign Met.none rfl ?_
        refine WXL.nil ?_
        refine Fin.then_normal ?_
        refine WX.ret ?_
        first
        | (have hk0 : k = 0 := by omega
           subst hk0
           rw [if_neg hc2]
           rcases g4 with ⟨rfl, _, rfl, _, rfl⟩ | ⟨b, rfl, rfl, _⟩
           · exact Fin.result (O' := (r, ⟨0, false, [.slice a2 (l.drop 0).length c2, I e1]⟩) :: ([] ++ O)) (.inr rfl) rfl rfl (fun _ hs => hs) ⟨none, 0, [], rfl, .nil, a2, c2, rfl, g5, g6⟩
           · exact Fin.result (O' := (r, ⟨0, false, [.slice a2 (l.drop 0).length c2, I e1]⟩) :: ([] ++ O)) (.inr rfl) rfl rfl (fun _ hs => hs.tl [0] 2) ⟨none, 0, [], rfl, .nil, a2, c2, rfl, g5, g6⟩)
        | (have he0 : e1 = 0 := by omega
           subst he0
           rw [if_pos rfl]
           have hkn : n.toNat = k := by omega
           rw [hkn]
           have hlk : (l.take k).length = k := by rw [List.length_take]; omega
           exact Fin.result (O' := (r, ⟨0, false, [.slice a2 (l.drop k).length c2, I 0]⟩) :: (G ++ O)) (.inr rfl) rfl rfl (fun _ hs => hs) ⟨ao, co, G, by rw [hlk]; rfl, by rw [hlk]; exact g4, a2, c2, rfl, g5, g6⟩)

theorem raw_ok (O : Objs) (r : Nat) (q0 : RdP) (a0 : Option Addr) (c0 : Nat) (hB : Bytes q0.1) (hlen : q0.1.length ≤ 1000000000000) (hr : Rowy O 1 a0 q0.1.length (q0.1.map B8)) (hc : a0 = none → c0 = 0) :
    Spec Try.prog false 25 #[Ptr r 0] ((r, ⟨0, false, [.slice a0 q0.1.length c0, I q0.2]⟩) :: O) fun v O' => ∃ ao co G, v = .slice ao (rawP q0).1.length co ∧ Grow 1 ao (rawP q0).1.length co ((rawP q0).1.map B8) G ∧ RdG O r (rawP q0).2 G O' := by
  refine Spec.enter (args := [_]) (m := 7) Try.func25 rfl rfl (by decide +kernel) fun h0 => ?_
  refine WX.seq ?_
  refine WX.region rfl ?_
  refine WXL.assign Met.none rfl ?_
  refine WXL.nil ?_
  refine Fin.then_normal ?_
  refine WX.seq ?_
  refine WX.region rfl ?_
  refine WXL.move Met.none rfl ?_
  refine WXL.move Met.none rfl ?_
  refine WXL.makeFunc Met.none rfl rfl ?_
  refine WXL.cl (O1 := _) Met.none rfl (fnOk_of Try.func47 (by decide +kernel)) rfl (fun _ h => h) (list_ok O r q0 a0 c0 hB hlen hr hc) (fun v O' hp => ?_)
  obtain ⟨ao, co, G, rfl, hG, a1, c1, rfl, hr1, hc1⟩ := hp
  refine WXL.assign Met.none rfl ?_
  refine WXL.nil ?_
  refine Fin.then_normal ?_
  refine WX.ret ?_
  exact Fin.result (O' := (r, ⟨0, false, [.slice a1 (rawP q0).2.1.length c1, I (rawP q0).2.2]⟩) :: (G ++ O)) (.inr rfl) rfl rfl (fun _ hs => hs) ⟨ao, co, G, rfl, hG, a1, c1, rfl, hr1, hc1⟩

theorem unzig_ok (O : Objs) (z : Int) : Spec Try.prog true 86 #[U z] O fun v O' => ∃ n, v = I n ∧ O' = O := by
  refine Spec.enter (args := [_]) (m := 11) Try.func86 rfl rfl (by decide +kernel) fun h0 => ?_
  refine WX.seq ?_
  refine WX.region rfl ?_
  refine WXL.assign Met.none rfl ?_
  refine WXL.nil ?_
  refine Fin.then_normal ?_
  refine WX.seq ?_
  refine WX.region rfl ?_
  refine WXL.move Met.none rfl ?_
  refine WXL.shr Met.none rfl rfl (by omega) ?_
  refine WXL.conv Met.none rfl Try.underlying42 Try.underlying3 rfl ?_
  refine WXL.move Met.none rfl ?_
  refine WXL.bin Met.none rfl rfl rfl ?_
  refine WXL.conv Met.none rfl Try.underlying42 Try.underlying3 rfl ?_
  refine WXL.neg Met.none rfl rfl ?_
  refine WXL.bin Met.none rfl rfl rfl ?_
  refine WXL.assign Met.none rfl ?_
  refine WXL.nil ?_
  refine Fin.then_normal ?_
  refine WX.ret ?_
  exact Fin.result (O' := O) (.inr rfl) rfl rfl drop_ ⟨_, rfl, rfl⟩

theorem int_ok (O : Objs) (r : Nat) (q0 : RdP) (a0 : Option Addr) (c0 : Nat) (hB : Bytes q0.1) (hlen : q0.1.length ≤ 1000000000000) (hr : Rowy O 1 a0 q0.1.length (q0.1.map B8)) (hc : a0 = none → c0 = 0) :
    Spec Try.prog false 77 #[Ptr r 0] ((r, ⟨0, false, [.slice a0 q0.1.length c0, I q0.2]⟩) :: O) fun v O' => (∃ n, v = I n) ∧ RdO O r (uintP 0 0 q0).2 O' := by
  refine Spec.enter (args := [_]) (m := 6) Try.func77 rfl rfl (by decide +kernel) fun h0 => ?_
  refine WX.seq ?_
  refine WX.region rfl ?_
  refine WXL.assign Met.none rfl ?_
  refine WXL.nil ?_
  refine Fin.then_normal ?_
  refine WX.seq ?_
  refine WX.region rfl ?_
  refine WXL.move Met.none rfl ?_
  refine WXL.cl (O1 := _) Met.none rfl (fnOk_of Try.func26 (by decide +kernel)) rfl (fun _ h => h) (uint_ok O r q0 a0 c0 hB hlen hr hc) (fun v O' hp => ?_)
  obtain ⟨rfl, ⟨a1, c1, rfl, hr1, hc1⟩⟩ := hp
  refine WXL.cl (O1 := _) Met.none rfl (fnOk_of Try.func86 (by decide +kernel)) rfl (fun _ h => h) (unzig_ok _ _) (fun v O' hp => ?_)
  obtain ⟨n, rfl, rfl⟩ := hp
  refine WXL.assign Met.none rfl ?_
  refine WXL.nil ?_
  refine Fin.then_normal ?_
  refine WX.ret ?_
  exact Fin.result (O' := (r, ⟨0, false, [.slice a1 (uintP 0 0 q0).2.1.length c1, I (uintP 0 0 q0).2.2]⟩) :: O) (.inr rfl) rfl rfl (fun _ hs => hs) ⟨⟨n, rfl⟩, a1, c1, rfl, hr1, hc1⟩

end Go.Proofs.Ythekokdpplobhaa.Eng

set_option linter.unusedVariables false
set_option linter.unusedSimpArgs false
namespace Go.Proofs.Ythekokdpplobhaa.Eng

theorem record_ok (O : Objs) (b : List Int) (a : Option Addr) (c : Nat) (hB : Bytes b) (hlen : b.length ≤ 1000000000) (hr : Rowy O 1 a b.length (b.map B8)) (hc : a = none → c = 0) :
    Spec Try.prog false 66 #[.slice a b.length c] O fun v O' => ∃ a' c' G, v = .slice a' (recordP b).length c' ∧ Grow 1 a' (recordP b).length c' ((recordP b).map B8) G ∧ O' = G ++ O := by
  have hpre : ∀ m, Rowy O 1 a (b.take m).length ((b.take m).map B8) := fun m => by
    have := hr.pre (m := (b.take m).length) (by rw [List.length_take]; omega)
    rw [Nat.mul_one, ← List.map_take] at this
    have e : b.take (b.take m).length = b.take m := by
      rw [List.length_take]
      rcases Nat.le_total m b.length with q | q
      · rw [Nat.min_eq_left q]
      · rw [Nat.min_eq_right q, List.take_of_length_le (Nat.le_refl _), List.take_of_length_le q]
    rw [e] at this
    exact this
  have hBt : ∀ m, Bytes (b.take m) := fun m x hx => hB x (List.mem_of_mem_take hx)
  have hlt : ∀ m, (b.take m).length ≤ b.length := fun m => by rw [List.length_take]; omega
  obtain ⟨hu1, hu2, hu3, hu4⟩ := uintP0 (b.take (min b.length 10), 0)
  obtain ⟨n, hn⟩ : ∃ n, n = (uintP 0 0 (b.take (min b.length 10), 0)).1 := ⟨_, rfl⟩
  rw [← hn] at hu1 hu4
  obtain ⟨m, hm⟩ : ∃ m, m = min b.length (10 + min n.toNat b.length) := ⟨_, rfl⟩
  have hm1 : m ≤ b.length := by omega
  have hlm : (b.take m).length = m := by rw [List.length_take]; omega
  have hcore : coreP b = (rawP (b.take m, 0)).1 := by unfold coreP; simp only [← hn, hm]
  obtain ⟨k1, k2⟩ := coreP_facts b
  rw [hcore] at k1 k2
  obtain ⟨j1, j2, j3, j4⟩ := uintP0 ((rawP (b.take m, 0)).1, 0)
  simp only at j2 j3
  have hrec : recordP b = (rawP (uintP 0 0 ((rawP (b.take m, 0)).1, 0)).2).1 := by unfold recordP; rw [hcore]
  have hcn := hc
  refine Spec.enter (args := [_]) (m := 33) Try.func66 rfl rfl (by decide +kernel) fun h0 => ?_
  refine WX.seq ?_
  refine WX.region rfl ?_
  refine WXL.assign Met.none rfl ?_
  refine WXL.nil ?_
  refine Fin.then_normal ?_
  refine WX.seq ?_
  refine WX.region rfl ?_
  refine WXL.move Met.none rfl ?_
  refine WXL.move Met.none rfl ?_
  refine WXL.len Met.none rfl Try.underlying23 ?_
  refine WXL.min Met.none rfl rfl ?_
  refine WXL.pre (m := (b.take (min b.length 10)).length) Met.none rfl rfl elem23 sz5 hr hcn ?_ (hj := (by rw [List.length_take]; omega)) (hm := (by rw [List.length_take]; omega))
  refine WXL.cl (O1 := _) Met.none rfl (fnOk_of Try.func24 (by decide +kernel)) rfl (fun _ h => h) (read_ok O (b.take (min b.length 10)) a _ (by have := hlt (min b.length 10); omega) (fun q => by have := (hpre (min b.length 10)).nil0 q; exact List.length_eq_zero_iff.1 this) ((hpre (min b.length 10)).src (fun q => (hpre (min b.length 10)).nil0 q))) (fun v O' hp => ?_)
  obtain ⟨r1, a1, c1, G1, rfl, hG1, rfl⟩ := hp
  refine WXL.cl (O1 := _) Met.none rfl (fnOk_of Try.func26 (by decide +kernel)) rfl (fun _ h => h) (uint_ok (G1 ++ O) r1 (b.take (min b.length 10), 0) a1 c1 (hBt _) (by have := hlt (min b.length 10); simp only; omega) hG1.rowy (fun q => (hG1.nil0 q).1)) (fun v O' hp => ?_)
  obtain ⟨rfl, ⟨a2, c2, rfl, hr2, hc2⟩⟩ := hp
  rw [← hn]
  refine WXL.assign Met.none rfl ?_
  refine WXL.nil ?_
  refine Fin.then_normal ?_
  refine WX.seq ?_
  refine WX.region rfl ?_
  refine WXL.move Met.none rfl ?_
  refine WXL.len Met.none rfl Try.underlying23 ?_
  refine WXL.conv Met.none rfl Try.underlying3 Try.underlying42 cv_ ?_
  refine WXL.assign Met.none rfl ?_
  refine WXL.nil ?_
  refine Fin.then_normal ?_
  refine WX.seq ?_
  refine WX.region rfl ?_
  refine WXL.move Met.none rfl ?_
  refine WXL.move Met.none rfl ?_
  refine WXL.move Met.none rfl ?_
  refine WXL.move Met.none rfl ?_
  refine WXL.min Met.none rfl rfl ?_
  refine WXL.bin Met.none rfl rfl (congrArg (fun n => some (U n)) (wrap_u64 (n := 10 + min n (b.length : Int)) (by omega) (by omega))) ?_
  refine WXL.min Met.none rfl rfl ?_
  refine WXL.pre (m := (b.take m).length) Met.none rfl rfl elem23 sz5 (hr.app.cons) hcn ?_ (hj := (by rw [hlm]; omega)) (hm := (by rw [hlm]; omega))
  refine WXL.cl (O1 := _) Met.none rfl (fnOk_of Try.func24 (by decide +kernel)) rfl (fun _ h => h) (read_ok _ (b.take m) a _ (by have := hlt m; omega) (fun q => by have := (hpre m).nil0 q; exact List.length_eq_zero_iff.1 this) (Src.cons (Src.app ((hpre m).src (fun q => (hpre m).nil0 q))))) (fun v O' hp => ?_)
  obtain ⟨r3, a3, c3, G3, rfl, hG3, rfl⟩ := hp
  refine WXL.assign Met.none rfl ?_
  refine WXL.nil ?_
  refine Fin.then_normal ?_
  refine WX.seq ?_
  refine WX.region rfl ?_
  refine WXL.move Met.none rfl ?_
  refine WXL.cl (O1 := _) Met.none rfl (fnOk_of Try.func25 (by decide +kernel)) rfl (fun _ h => h) (raw_ok _ r3 (b.take m, 0) a3 c3 (hBt _) (by have := hlt m; simp only; omega) hG3.rowy (fun q => (hG3.nil0 q).1)) (fun v O' hp => ?_)
  obtain ⟨a4, c4, G4, rfl, hG4, a5, c5, rfl, hr5, hc5⟩ := hp
  refine WXL.cl (O1 := _) Met.none rfl (fnOk_of Try.func24 (by decide +kernel)) rfl (fun _ h => h) (read_ok _ (rawP (b.take m, 0)).1 a4 c4 (by omega) (fun q => by have := (hG4.nil0 q).2; exact List.length_eq_zero_iff.1 this) (Src.cons hG4.src)) (fun v O' hp => ?_)
  obtain ⟨r6, a6, c6, G6, rfl, hG6, rfl⟩ := hp
  refine WXL.assign Met.none rfl ?_
  refine WXL.nil ?_
  refine Fin.then_normal ?_
  refine WX.seq ?_
  refine WX.region rfl ?_
  refine WXL.move Met.none rfl ?_
  refine WXL.cl (O1 := _) Met.none rfl (fnOk_of Try.func77 (by decide +kernel)) rfl (fun _ h => h) (int_ok _ r6 ((rawP (b.take m, 0)).1, 0) a6 c6 (k2 hB) (by simp only; omega) hG6.rowy (fun q => (hG6.nil0 q).1)) (fun v O' hp => ?_)
  obtain ⟨⟨z, rfl⟩, a7, c7, rfl, hr7, hc7⟩ := hp
  refine WXL.nil ?_
  refine Fin.then_normal ?_
  refine WX.seq ?_
  refine WX.region rfl ?_
  refine WXL.move Met.none rfl ?_
  refine WXL.cl (O1 := _) Met.none rfl (fnOk_of Try.func25 (by decide +kernel)) rfl (fun _ h => h) (raw_ok _ r6 (uintP 0 0 ((rawP (b.take m, 0)).1, 0)).2 a7 c7 (j3 (k2 hB)) (by omega) hr7 hc7) (fun v O' hp => ?_)
  obtain ⟨a8, c8, G8, rfl, hG8, a9, c9, rfl, hr9, hc9⟩ := hp
  rw [← hrec] at hG8 ⊢
  refine WXL.assign Met.none rfl ?_
  refine WXL.nil ?_
  refine Fin.then_normal ?_
  refine WX.ret ?_
  exact Fin.result (O' := G8 ++ O) (.inr rfl) rfl rfl sub_ ⟨a8, c8, G8, rfl, hG8, rfl⟩

end Go.Proofs.Ythekokdpplobhaa.Eng

set_option linter.unusedVariables false
set_option linter.unusedSimpArgs false
namespace Go.Proofs.Ythekokdpplobhaa.Eng

theorem Rowy.some {O : Objs} {a : Option Addr} {n : Nat} {cs : List Value} (h : Rowy O 1 a n cs) (hn : 0 < n) : ∃ b off q, a = some ⟨b, off, none⟩ ∧ Knows O b q ∧ q.sz = 1 := by
  rcases h with ⟨_, h, _⟩ | ⟨b, off, q, h1, h2, h3, _⟩
  · omega
  · exact ⟨b, off, q, h1, h2, h3⟩

theorem Rowy.suf {O : Objs} {b off n m : Nat} {cs : List Value} (h : Rowy O 1 (.some ⟨b, off, none⟩) n cs) (hm : m ≤ n) : Rowy O 1 (.some ⟨b, off + m * 1, none⟩) (n - m) (cs.drop m) := by
  rcases h with ⟨h, _⟩ | ⟨b2, off2, q, h1, h2, h3, h4, h5⟩
  · cases h
  · injection h1 with h1
    injection h1 with h1 h6
    subst h1 h6
    refine .inr ⟨b, off + m * 1, q, rfl, h2, h3, by omega, ?_⟩
    rw [← h5, ← List.drop_drop, List.drop_take, Nat.mul_one, Nat.mul_one, Nat.mul_one]

theorem equal_ok (O : Objs) (l m : List Int) (a b : Option Addr) (c e : Nat) (hBl : Bytes l) (hBm : Bytes m) (hl : Src O 1 (.slice a l.length c) l.length (l.map B8)) (hm : Src O 1 (.slice b m.length e) m.length (m.map B8)) :
    Spec Try.prog true 78 #[.slice a l.length c, .slice b m.length e] O fun v O' => v = .bool (decide (l = m)) ∧ O' = O := by
  refine Spec.enter (args := [_, _]) (m := 10) Try.func78 rfl rfl (by decide +kernel) fun h0 => ?_
  refine WX.seq ?_
  refine WX.region rfl ?_
  refine WXL.assign Met.none rfl ?_
  refine WXL.nil ?_
  refine Fin.then_normal ?_
  refine WX.seq ?_
  refine WX.region rfl ?_
  refine WXL.move Met.none rfl ?_
  refine WXL.toStr Met.none rfl Try.underlying23 Try.underlying9 Try.underlying5 src_ ?_
  refine WXL.move Met.none rfl ?_
  refine WXL.toStr Met.none rfl Try.underlying23 Try.underlying9 Try.underlying5 src_ ?_
  refine WXL.eqS Met.none rfl rfl (by assumption) (by assumption) ?_
  refine WXL.assign Met.none rfl ?_
  refine WXL.nil ?_
  refine Fin.then_normal ?_
  refine WX.ret ?_
  exact Fin.result (O' := O) (.inr rfl) rfl rfl drop_ ⟨rfl, rfl⟩

theorem prefix_dec (l m : List Int) : decide (m <+: l) = (decide (m.length ≤ l.length) && decide (l.take m.length = m)) := by
  rw [← Bool.decide_and]
  refine decide_eq_decide.2 ⟨fun h => ⟨h.length_le, (List.prefix_iff_eq_take.1 h).symm⟩, fun h => List.prefix_iff_eq_take.2 h.2.symm⟩

theorem hasPrefix_ok (O : Objs) (l m : List Int) (a b : Option Addr) (c e : Nat) (hBl : Bytes l) (hBm : Bytes m) (hl : Rowy O 1 a l.length (l.map B8)) (hc : a = none → c = 0) (hm : Src O 1 (.slice b m.length e) m.length (m.map B8)) :
    Spec Try.prog true 67 #[.slice a l.length c, .slice b m.length e] O fun v O' => ∃ x, v = .bool x ∧ x = decide (m <+: l) ∧ O' = O := by
  refine Spec.enter (args := [_, _]) (m := 18) Try.func67 rfl rfl (by decide +kernel) fun h0 => ?_
  refine WX.seq ?_
  refine WX.region rfl ?_
  refine WXL.assign Met.none rfl ?_
  refine WXL.nil ?_
  refine Fin.then_normal ?_
  refine WX.seq ?_
  refine WX.region rfl ?_
  refine WXL.move Met.none rfl ?_
  refine WXL.len Met.none rfl Try.underlying23 ?_
  refine WXL.move Met.none rfl ?_
  refine WXL.len Met.none rfl Try.underlying23 ?_
  refine WXL.bin Met.none rfl rfl rfl ?_
  refine WXL.move Met.none rfl ?_
  refine WXL.split (d := 10) rfl (fun hg10 => ?_) (fun hg10 => ?_)
  · try simp only [cnd] at hg10
    refine WXL.move (Met.some rfl rfl rfl) rfl ?_
    refine WXL.move (Met.some rfl rfl rfl) rfl ?_
    refine WXL.len (Met.some rfl rfl rfl) rfl Try.underlying23 ?_
    refine WXL.pre (m := m.length) (Met.some rfl rfl rfl) rfl rfl elem23 sz5 hl hc ?_
    refine WXL.move (Met.some rfl rfl rfl) rfl ?_
    have hml : (l.take m.length).length = m.length := by rw [List.length_take]; omega
    have hr2 := hl.pre (m := m.length) (by omega)
    rw [Nat.mul_one, ← List.map_take] at hr2
    refine WXL.cl (O1 := _) (Met.some rfl rfl rfl) rfl (fnOk_of Try.func78 (by decide +kernel)) rfl (fun _ h => h) ((by
    have := equal_ok O (l.take m.length) m a b m.length e (fun x hx => hBl x (List.mem_of_mem_take hx)) hBm (by rw [hml]; exact hr2.src (fun q => hr2.nil0 q)) hm
    rw [hml] at this
    exact this)) (fun v O' hp => ?_)
    obtain ⟨rfl, hO⟩ := hp
    subst O'
    refine WXL.pick_t Met.none rfl rfl ?_
    refine WXL.assign Met.none rfl ?_
    refine WXL.nil ?_
    refine Fin.then_normal ?_
    refine WX.ret ?_
    first
    | exact Fin.result (O' := O) (.inr rfl) rfl rfl drop_ ⟨_, rfl, by rw [prefix_dec, decide_eq_true (show m.length ≤ l.length by omega), Bool.true_and], rfl⟩
    | exact Fin.result (O' := O) (.inr rfl) rfl rfl drop_ ⟨_, rfl, by rw [prefix_dec, decide_eq_false (show ¬ m.length ≤ l.length by omega), Bool.false_and], rfl⟩
  · try simp only [cnd] at hg10
    refine WXL.miss (j := 5) (d := 10) rfl rfl rfl ?_
    refine WXL.miss (j := 5) (d := 10) rfl rfl rfl ?_
    refine WXL.miss (j := 5) (d := 10) rfl rfl rfl ?_
    refine WXL.miss (j := 5) (d := 10) rfl rfl rfl ?_
    refine WXL.miss (j := 5) (d := 10) rfl rfl rfl ?_
    refine WXL.miss (j := 5) (d := 10) rfl rfl rfl ?_
    refine WXL.pick_f Met.none rfl rfl ?_
    refine WXL.assign Met.none rfl ?_
    refine WXL.nil ?_
    refine Fin.then_normal ?_
    refine WX.ret ?_
    first
    | exact Fin.result (O' := O) (.inr rfl) rfl rfl drop_ ⟨_, rfl, by rw [prefix_dec, decide_eq_true (show m.length ≤ l.length by omega), Bool.true_and], rfl⟩
    | exact Fin.result (O' := O) (.inr rfl) rfl rfl drop_ ⟨_, rfl, by rw [prefix_dec, decide_eq_false (show ¬ m.length ≤ l.length by omega), Bool.false_and], rfl⟩

end Go.Proofs.Ythekokdpplobhaa.Eng

set_option linter.unusedVariables false
set_option linter.unusedSimpArgs false
namespace Go.Proofs.Ythekokdpplobhaa.Eng

/-- The records at the beginning, and where each of them ends. -/
def recsP (b : List Int) : List (List Int) := (scanP 0 b).1
def endP (b : List Int) (k : Nat) : Nat := (framesB 0 ((recsP b).take k)).length

theorem drop_cons_nth' {l : List (List Int)} {k : Nat} (h : k < l.length) : l.drop k = nth l k :: l.drop (k + 1) := by
  rw [nth_get h, List.drop_eq_getElem_cons h]

theorem framesB_append (l m : List (List Int)) : ∀ i, framesB i (l ++ m) = framesB i l ++ framesB (i + l.length) m := by
  induction l with
  | nil => intro i; rfl
  | cons x l ih =>
    intro i
    rw [List.cons_append, framesB_cons, framesB_cons, ih, List.append_assoc, List.length_cons]
    congr 3
    omega

theorem scanP_step (i : Nat) (b : List Int) : (scanP i b).1 = [] ∨ (b ≠ [] ∧ frameB i (recordP b) <+: b ∧ (scanP i b).1 = recordP b :: (scanP (i + 1) (b.drop (frameB i (recordP b)).length)).1) := by
  rw [scanP]
  split
  · rename_i h; exact .inr ⟨h.1, h.2, rfl⟩
  · exact .inl rfl

theorem scanP_len (b : List Int) (i : Nat) : (scanP i b).2 = (framesB i (scanP i b).1).length ∧ framesB i (scanP i b).1 <+: b := by
  rw [scanP]
  split
  · rename_i h
    have hlt : (b.drop (frameB i (recordP b)).length).length < b.length := by
      have := frameB_pos i (recordP b)
      have : 0 < b.length := List.length_pos_iff.2 h.1
      rw [List.length_drop]; omega
    obtain ⟨h1, h2⟩ := scanP_len (b.drop (frameB i (recordP b)).length) (i + 1)
    rw [framesB_cons, List.length_append, h1]
    refine ⟨rfl, ?_⟩
    obtain ⟨t1, e1⟩ := h.2
    obtain ⟨t2, e2⟩ := h2
    refine ⟨t2, ?_⟩
    rw [List.append_assoc, e2]
    conv => rhs; rw [← List.take_append_drop (frameB i (recordP b)).length b]
    rw [← List.prefix_iff_eq_take.1 h.2]
  · exact ⟨rfl, List.nil_prefix⟩
termination_by b.length
decreasing_by
  simpa only [List.length_drop] using hlt

theorem endP_le (b : List Int) (k : Nat) : endP b k ≤ b.length := by
  have h := (scanP_len b 0).2
  have : framesB 0 (recsP b) = framesB 0 ((recsP b).take k) ++ framesB (0 + ((recsP b).take k).length) ((recsP b).drop k) := by rw [← framesB_append, List.take_append_drop]
  have h2 := h.length_le
  change (framesB 0 (recsP b)).length ≤ _ at h2
  rw [this, List.length_append] at h2
  unfold endP
  omega

theorem endP_succ (b : List Int) (k : Nat) (hk : k < (recsP b).length) : endP b (k + 1) = endP b k + (frameB k (nth (recsP b) k)).length := by
  unfold endP
  rw [take_succ_nth hk, framesB_append, List.length_append, List.length_take, Nat.zero_add, Nat.min_eq_left (by omega), framesB_cons, List.length_append]
  rfl

theorem scanP_at (b : List Int) : ∀ k, k ≤ (recsP b).length → (recsP b).drop k = (scanP k (b.drop (endP b k))).1 := by
  intro k
  induction k with
  | zero => intro _; rfl
  | succ k ih =>
    intro hk
    have h1 := ih (by omega)
    rcases scanP_step k (b.drop (endP b k)) with h2 | ⟨h2, h3, h4⟩
    · rw [h2] at h1
      have := congrArg List.length h1
      rw [List.length_drop] at this
      simp at this
      omega
    · rw [h4, drop_cons_nth' (by omega)] at h1
      injection h1 with h5 h6
      rw [h6, List.drop_drop, endP_succ b k (by omega), h5]

end Go.Proofs.Ythekokdpplobhaa.Eng

set_option linter.unusedVariables false
set_option linter.unusedSimpArgs false
namespace Go.Proofs.Ythekokdpplobhaa.Eng

/-- What is yielded: a record in a new row, and where its frame ends. -/
def RecArg (b : List Int) (k : Nat) (vs : List Value) (N : Objs) : Prop :=
  ∃ a c, vs = [.slice a (nth (recsP b) k).length c, I (endP b (k + 1) : Nat)] ∧ Grow 1 a (nth (recsP b) k).length c ((nth (recsP b) k).map B8) N

theorem frameB_bytes {n : Int} {b : List Int} (h : Bytes b) : Bytes (frameB n b) := fun x hx => by
  rcases List.mem_append.1 hx with q | q
  · exact rawB_bytes (coreB_bytes h) x q
  · exact varU_bytes _ x q

theorem framesB_len : ∀ (l : List (List Int)) (i : Nat), l.length ≤ (framesB i l).length
  | [], i => Nat.le_refl _
  | x :: l, i => by
    have := framesB_len l (i + 1)
    have := frameB_pos i x
    rw [framesB_cons, List.length_append, List.length_cons]
    omega

theorem recsP_len (b : List Int) : (recsP b).length ≤ b.length := Nat.le_trans (framesB_len _ 0) (scanP_len b 0).2.length_le

theorem records_iter {β : Type} (OI : β → Objs) (Inv : Nat → β → Prop) (ρ : Rho) (y : Nat) (b : List Int) (hB : Bytes b) (cb : Nat) (a : Option Addr) (c : Nat) (hlen : b.length ≤ 100000)
    (hbox : ∀ x, Knows (OI x) cb ⟨0, false, [.slice a b.length c]⟩) (hr : ∀ x, Rowy (OI x) 1 a b.length (b.map B8)) (hc : a = none → c = 0) (x0 : β) (hI0 : Inv 0 x0)
    (hy : ∀ k x vs N, k < (recsP b).length → Inv k x → RecArg b k vs N → SpecY Try.prog ρ y vs (N ++ OI x) fun O' => ∃ x', Inv (k + 1) x' ∧ O' = OI x') :
    SpecIn Try.prog ρ false 65 #[Yd y, Ptr cb 0] (OI x0) fun v O' => ∃ x', Inv (recsP b).length x' ∧ O' = OI x' := by
  have hend := endP_le b
  have hrl := recsP_len b
  refine SpecIn.enter (args := [_, _]) (m := 35) Try.func65 rfl rfl (by decide +kernel) fun h0 => ?_
  refine WX.seq ?_
  refine WX.region rfl ?_
  refine WXL.assign Met.none rfl ?_
  refine WXL.nil ?_
  refine Fin.then_normal ?_
  refine WX.seq ?_
  refine WX.region rfl ?_
  refine WXL.assign Met.none rfl ?_
  refine WXL.nil ?_
  refine Fin.then_normal ?_
  refine WX.block ?_
  refine WX.loop (fun q : Nat × β => [(0, Yd y), (1, Ptr cb 0), (3, I (endP b q.1 : Nat)), (4, I (q.1 : Int))]) (fun q => OI q.2) (fun q => q.1 ≤ (recsP b).length ∧ Inv q.1 q.2) (fun q => (recsP b).length - q.1) (0, x0) ⟨Nat.zero_le _, hI0⟩ (fun s hs => hs.tl [] 0) (fun q hq => ?_)
  obtain ⟨k, x⟩ := q
  obtain ⟨hk, hI⟩ := hq
  simp only at hk hI
  dsimp only
  have hb1 := hbox x
  have hr1 := hr x
  have hek := hend k
  have hat := scanP_at b k hk
  refine WX.seq ?_
  refine WX.seq ?_
  refine WX.region rfl ?_
  refine WXL.move Met.none rfl ?_
  first | refine WXL.ld Met.none rfl agg23 ?_ | refine WXL.ldS Met.none rfl agg23 ?_
  refine WXL.len Met.none rfl Try.underlying23 ?_
  refine WXL.bin Met.none rfl rfl rfl ?_
  refine WXL.nil ?_
  refine Fin.then_normal ?_
  refine WX.cond rfl (fun hc0 => ?_) (fun hc0 => ?_)
  · try simp only [cnd] at hc0
    refine WX.skip ?_
    refine Fin.then_normal ?_
    refine WX.seq ?_
    refine WX.block ?_
    refine WX.seq ?_
    obtain ⟨bb, off, ⟨qsz, qro, qc⟩, rfl, hkq, hqs⟩ := hr1.some (by omega)
    have hqs : qsz = 1 := hqs
    subst hqs
    have hr2 := hr1.suf (m := endP b k) hek
    obtain ⟨t, ht⟩ : ∃ t, t = b.drop (endP b k) := ⟨_, rfl⟩
    rw [← List.map_drop, ← ht] at hr2
    rw [← ht] at hat
    have htl : t.length = b.length - endP b k := by rw [ht, List.length_drop]
    have htB : Bytes t := fun z hz => hB z (List.mem_of_mem_drop (ht ▸ hz))
    obtain ⟨f1, f2⟩ := recordP_facts t
    have htn : t ≠ [] := fun q => by rw [q] at htl; simp at htl; omega
    refine WX.region rfl ?_
    first | refine WXL.ld Met.none rfl agg23 ?_ | refine WXL.ldS Met.none rfl agg23 ?_
    refine WXL.move Met.none rfl ?_
    refine WXL.suf (cs := []) (m := (endP b k)) Met.none rfl rfl elem23 sz5 rfl hkq rfl ?_
    refine WXL.cl (O1 := _) Met.none rfl (fnOk_of Try.func66 (by decide +kernel)) rfl (fun _ h => h) ((by
    have := record_ok (OI x) t (some ⟨bb, off + endP b k * 1, none⟩) (b.length - endP b k) htB (by omega) (by rw [htl]; exact hr2) (fun q => by cases q)
    rw [htl] at this
    exact this)) (fun v O' hp => ?_)
    obtain ⟨a5, c5, G5, rfl, hG5, rfl⟩ := hp
    refine WXL.assign Met.none rfl ?_
    refine WXL.nil ?_
    refine Fin.then_normal ?_
    refine WX.seq ?_
    refine WX.region rfl ?_
    refine WXL.move Met.none rfl ?_
    refine WXL.move Met.none rfl ?_
    refine WXL.cl (O1 := _) Met.none rfl (fnOk_of Try.func12 (by decide +kernel)) rfl (fun _ h => h) (frame_ok _ (k : Int) (recordP t) a5 c5 (by unfold In64; omega) (f2 htB) (by omega) hG5.src) (fun v O' hp => ?_)
    obtain ⟨a6, c6, G6, rfl, hG6, rfl⟩ := hp
    refine WXL.assign Met.none rfl ?_
    refine WXL.nil ?_
    refine Fin.then_normal ?_
    refine WX.seq ?_
    refine WX.seq ?_
    refine WX.region rfl ?_
    first | refine WXL.ld Met.none rfl agg23 ?_ (hk := hb1.app.app) | refine WXL.ldS Met.none rfl agg23 ?_
    refine WXL.move Met.none rfl ?_
    refine WXL.suf (cs := []) (m := (endP b k)) Met.none rfl rfl elem23 sz5 rfl hkq.app.app rfl ?_
    refine WXL.move Met.none rfl ?_
    refine WXL.cl (O1 := _) Met.none rfl (fnOk_of Try.func67 (by decide +kernel)) rfl (fun _ h => h) ((by
    have := hasPrefix_ok (G6 ++ (G5 ++ OI x)) t (frameB k (recordP t)) (some ⟨bb, off + endP b k * 1, none⟩) a6 (b.length - endP b k) c6 htB (frameB_bytes (f2 htB)) (by rw [htl]; exact hr2.app.app) (fun q => by cases q) hG6.src
    rw [htl] at this
    exact this)) (fun v O' hp => ?_)
    obtain ⟨bx, rfl, hbx, rfl⟩ := hp
    refine WXL.not Met.none rfl ?_
    refine WXL.nil ?_
    refine Fin.then_normal ?_
    try simp only [Bool.not_eq_true']
    refine WX.cond rfl (fun hc1 => ?_) (fun hc1 => ?_)
    · try simp only [cnd] at hc1
      refine WX.ret ?_
      refine Fin.then_ret ?_
      refine Fin.block_ret ?_
      refine Fin.then_ret ?_
      refine Fin.loop_ret ?_
      refine Fin.block_ret ?_
      first
      | (have hkk : k = (recsP b).length := by
           have hd : b.drop (endP b k) = [] := List.drop_eq_nil_of_le (by omega)
           rw [hd, scanP, dif_neg (fun q => q.1 rfl)] at hat
           have := congrArg List.length hat
           rw [List.length_drop, List.length_nil] at this
           omega
         subst hkk
         exact Fin.result (O' := OI x) (.inl rfl) rfl rfl (fun _ h => h) ⟨x, hI, rfl⟩)
      | (have hkk : k = (recsP b).length := by
           rw [hc1] at hbx
           have hnp := of_decide_eq_false hbx.symm
           rw [scanP, dif_neg (fun q => hnp q.2)] at hat
           have := congrArg List.length hat
           rw [List.length_drop, List.length_nil] at this
           omega
         subst hkk
         exact Fin.result (O' := OI x) (.inr rfl) rfl rfl sub_ ⟨x, hI, rfl⟩)
    · try simp only [cnd] at hc1
      refine WX.skip ?_
      refine Fin.then_normal ?_
      refine WX.seq ?_
      have hpf : frameB k (recordP t) <+: t := by
        rw [hc1] at hbx
        exact of_decide_eq_true hbx.symm
      have hst : (recsP b).drop k = recordP t :: (scanP (k + 1) (t.drop (frameB k (recordP t)).length)).1 := by
        rw [hat, scanP, dif_pos ⟨htn, hpf⟩]
      have hk1 : k < (recsP b).length := by
        have := congrArg List.length hst
        rw [List.length_drop, List.length_cons] at this
        omega
      have hnth : nth (recsP b) k = recordP t := by
        rw [drop_cons_nth' hk1] at hst
        injection hst
      have hes : endP b (k + 1) = endP b k + (frameB k (recordP t)).length := by rw [endP_succ b k hk1, hnth]
      have hek1 := hend (k + 1)
      refine WX.region rfl ?_
      refine WXL.move Met.none rfl ?_
      refine WXL.move Met.none rfl ?_
      refine WXL.len Met.none rfl Try.underlying23 ?_
      refine WXL.bin Met.none rfl rfl (show _ = some (I (endP b (k + 1) : Nat)) from (binV_add (by omega) (by omega)).trans (congrArg (fun n => some (I n)) (by omega))) ?_
      refine WXL.assign Met.none rfl ?_
      refine WXL.nil ?_
      refine Fin.then_normal ?_
      refine WX.seq ?_
      refine WX.region rfl ?_
      refine WXL.move Met.none rfl ?_
      refine WXL.move Met.none rfl ?_
      refine WXL.move Met.none rfl ?_
      refine WXL.yield (O1 := G5 ++ OI x) Met.none rfl rfl sub_ rfl rfl rfl rfl (hy k x _ G5 hk1 hI ⟨a5, c5, by rw [hnth], by rw [hnth]; exact hG5⟩) (fun O' hp => ?_)
      obtain ⟨x', hI', rfl⟩ := hp
      refine WXL.not Met.none rfl ?_
      refine WXL.nil ?_
      refine Fin.then_normal ?_
      refine WX.cond rfl (fun hc2 => nomatch hc2) (fun hc2 => ?_)
      refine WX.skip ?_
      refine Fin.block_normal ?_
      refine Fin.then_normal ?_
      refine WX.region rfl ?_
      refine WXL.move Met.none rfl ?_
      refine WXL.bin Met.none rfl rfl bvA ?_
      refine WXL.assign Met.none rfl ?_
      refine WXL.nil ?_
      exact Fin.loop_next (k + 1, x') ⟨by simp only; omega, hI'⟩ (by simp only; omega) (fun s hs => hs.tl [] 0)
  · try simp only [cnd] at hc0
    refine WX.exit ?_
    refine Fin.then_exit ?_
    refine Fin.loop_exit ?_
    refine Fin.block_hit rfl ?_
    first
    | (have hkk : k = (recsP b).length := by
         have hd : b.drop (endP b k) = [] := List.drop_eq_nil_of_le (by omega)
         rw [hd, scanP, dif_neg (fun q => q.1 rfl)] at hat
         have := congrArg List.length hat
         rw [List.length_drop, List.length_nil] at this
         omega
       subst hkk
       exact Fin.result (O' := OI x) (.inl rfl) rfl rfl (fun _ h => h) ⟨x, hI, rfl⟩)
    | (have hkk : k = (recsP b).length := by
         rw [hc1] at hbx
         have hnp := of_decide_eq_false hbx.symm
         rw [scanP, dif_neg (fun q => hnp q.2)] at hat
         have := congrArg List.length hat
         rw [List.length_drop, List.length_nil] at this
         omega
       subst hkk
       exact Fin.result (O' := OI x) (.inr rfl) rfl rfl sub_ ⟨x, hI, rfl⟩)

end Go.Proofs.Ythekokdpplobhaa.Eng

set_option linter.unusedVariables false
set_option linter.unusedSimpArgs false
namespace Go.Proofs.Ythekokdpplobhaa.Eng

/-- A value is a slice of these bytes. -/
def IsB (O : Objs) (v : Value) (x : List Int) : Prop := ∃ a c, v = .slice a x.length c ∧ Src O 1 v x.length (x.map B8)
/-- Slices of bytes, one for each list. -/
def AreB (O : Objs) (vs : List Value) (xs : List (List Int)) : Prop := vs.length = xs.length ∧ ∀ k, k < xs.length → IsB O (nth vs k) (nth xs k)

theorem IsB.cons {O : Objs} {q : Nat × Ent} {v : Value} {x : List Int} (h : IsB O v x) : IsB (q :: O) v x := by
  obtain ⟨a, c, h1, h2⟩ := h
  exact ⟨a, c, h1, h2.cons⟩
theorem IsB.app {O N : Objs} {v : Value} {x : List Int} (h : IsB O v x) : IsB (N ++ O) v x := by
  obtain ⟨a, c, h1, h2⟩ := h
  exact ⟨a, c, h1, h2.app⟩
theorem AreB.cons {O : Objs} {q : Nat × Ent} {vs : List Value} {xs : List (List Int)} (h : AreB O vs xs) : AreB (q :: O) vs xs := ⟨h.1, fun k hk => (h.2 k hk).cons⟩
theorem AreB.app {O N : Objs} {vs : List Value} {xs : List (List Int)} (h : AreB O vs xs) : AreB (N ++ O) vs xs := ⟨h.1, fun k hk => (h.2 k hk).app⟩
theorem AreB.nil {O : Objs} : AreB O [] [] := ⟨rfl, fun k hk => by simp at hk⟩
theorem nth_snoc {α : Type} [Inhabited α] (l : List α) (x : α) (k : Nat) : nth (l ++ [x]) k = if k < l.length then nth l k else if k = l.length then x else default := by
  unfold nth
  split
  · rename_i h; simp [List.getElem?_append_left h, List.getD_eq_getElem?_getD]
  · rename_i h
    split
    · rename_i h2; subst h2; simp [List.getD_eq_getElem?_getD]
    · simp [List.getD_eq_getElem?_getD, List.getElem?_eq_none (show (l ++ [x]).length ≤ k by simp; omega)]
theorem AreB.snoc {O : Objs} {vs : List Value} {xs : List (List Int)} {v : Value} {x : List Int} (h : AreB O vs xs) (hv : IsB O v x) : AreB O (vs ++ [v]) (xs ++ [x]) := by
  obtain ⟨h1, h2⟩ := h
  refine ⟨by simp [h1], fun k hk => ?_⟩
  rw [nth_snoc, nth_snoc, h1]
  rw [List.length_append, List.length_singleton] at hk
  split
  · exact h2 k (by assumption)
  · rw [if_pos (by omega), if_pos (by omega)]; exact hv

theorem scan2 (b : List Int) : (scanP 0 b).2 = endP b (recsP b).length := by
  unfold endP
  rw [List.take_length]
  exact (scanP_len b 0).1

/-- The state of the loop: out, and the objects that came. -/
structure ScQ where
  k : Nat
  a : Option Addr
  c : Nat
  vs : List Value
  G : Objs
  R : Objs

theorem records_ok (O : Objs) (a : Option Addr) (n c : Nat) :
    Spec Try.prog false 42 #[.slice a n c] O fun v O' => ∃ cb, v = .func (.func 65) #[] #[Ptr cb 0] ∧ O' = (cb, ⟨0, false, [.slice a n c]⟩) :: O := by
  refine Spec.enter (args := [_]) (m := 4) Try.func42 rfl rfl (by decide +kernel) fun h0 => ?_
  refine WX.seq ?_
  refine WX.region rfl ?_
  refine WXL.box (c := [_]) Met.none rfl rfl rfl (fun b1 => ?_)
  refine WXL.assign Met.none rfl ?_
  refine WXL.nil ?_
  refine Fin.then_normal ?_
  refine WX.seq ?_
  refine WX.region rfl ?_
  refine WXL.makeFunc Met.none rfl rfl ?_
  refine WXL.assign Met.none rfl ?_
  refine WXL.nil ?_
  refine Fin.then_normal ?_
  refine WX.ret ?_
  exact Fin.result (O' := (b1, ⟨0, false, [.slice a n c]⟩) :: O) (.inr rfl) rfl rfl drop_ ⟨b1, rfl, rfl⟩

theorem scan_ok (O : Objs) (b : List Int) (a : Option Addr) (c : Nat) (hB : Bytes b) (hlen : b.length ≤ 100000) (hr : Rowy O 1 a b.length (b.map B8)) (hc : a = none → c = 0) :
    Spec Try.prog false 15 #[.slice a b.length c] O fun v O' => ∃ ao co vs G R, v = .tuple #[.slice ao (recsP b).length co, I (endP b (recsP b).length : Nat)] ∧ Grow 1 ao (recsP b).length co vs G ∧ AreB (R ++ O) vs (recsP b) ∧ O' = G ++ (R ++ O) := by
  have hrl := recsP_len b
  refine Spec.enter (args := [_]) (m := 19) Try.func15 rfl rfl (by decide +kernel) fun h0 => ?_
  refine WX.seq ?_
  refine WX.region rfl ?_
  refine WXL.assign Met.none rfl ?_
  refine WXL.assign Met.none rfl ?_
  refine WXL.nil ?_
  refine Fin.then_normal ?_
  refine WX.seq ?_
  refine WX.region rfl ?_
  refine WXL.alloc (c := [_]) Met.none zero27 rfl (fun b4 => ?_)
  refine WXL.nil ?_
  refine Fin.then_normal ?_
  refine WX.seq ?_
  refine WX.region rfl ?_
  refine WXL.alloc (c := [_]) Met.none zero3 rfl (fun b5 => ?_)
  refine WXL.st (vs := [_]) (c' := [_]) Met.none rfl rfl rfl sz3 ?_
  refine WXL.nil ?_
  refine Fin.then_normal ?_
  refine WX.seq ?_
  refine WX.seq ?_
  refine WX.region rfl ?_
  refine WXL.move Met.none rfl ?_
  refine WXL.cl (O1 := _) Met.none rfl (fnOk_of Try.func42 (by decide +kernel)) rfl (fun _ h => h) (records_ok _ a b.length c) (fun v O' hp => ?_)
  obtain ⟨cb, rfl, rfl⟩ := hp
  refine WXL.nil ?_
  refine Fin.then_normal ?_
  refine WX.block ?_
  refine WX.rangeFuncA (fun q : ScQ => (cb, ⟨0, false, [.slice a b.length c]⟩) :: (b5, ⟨0, false, [I (endP b q.k : Nat)]⟩) :: (b4, ⟨0, false, [.slice q.a q.k q.c]⟩) :: (q.G ++ (q.R ++ O))) (fun k q => q.k = k ∧ Grow 1 q.a q.k q.c q.vs q.G ∧ AreB (q.R ++ O) q.vs ((recsP b).take k)) (fun k _ vs N => RecArg b k vs N) (recsP b).length ⟨0, none, 0, [], [], []⟩ rfl rfl (fnOk_of Try.func65 (by decide +kernel)) (fun s hs => hs.sat) rfl ⟨rfl, .nil, .nil⟩ (fun k y vs N hvs => by obtain ⟨a1, c1, h1, _⟩ := hvs; rw [h1]; rfl)
    (fun ρ y hy => records_iter (fun q : ScQ => (cb, ⟨0, false, [.slice a b.length c]⟩) :: (b5, ⟨0, false, [I (endP b q.k : Nat)]⟩) :: (b4, ⟨0, false, [.slice q.a q.k q.c]⟩) :: (q.G ++ (q.R ++ O))) (fun k q => q.k = k ∧ Grow 1 q.a q.k q.c q.vs q.G ∧ AreB (q.R ++ O) q.vs ((recsP b).take k)) ρ y b hB cb a c hlen (fun x => Knows.at 0 rfl) (fun x => hr.app.app.cons.cons.cons) hc ⟨0, none, 0, [], [], []⟩ ⟨rfl, .nil, .nil⟩ hy) (fun h0 ρ k q vs N hk hq hvs => ?_) (fun q hq => ?_)
  · refine WX.seq ?_
    refine WX.seq ?_
    obtain ⟨k', aw, cw, ws, Gw, R⟩ := q
    obtain ⟨hkk, hGw, hRw⟩ := hq
    simp only at hkk hGw hRw
    subst hkk
    obtain ⟨a1, c1, rfl, hN⟩ := hvs
    dsimp only
    refine WX.re (O' := (cb, ⟨0, false, [.slice a b.length c]⟩) :: (b5, ⟨0, false, [I (endP b k' : Nat)]⟩) :: (b4, ⟨0, false, [.slice aw k' cw]⟩) :: (Gw ++ (N ++ (R ++ O)))) ?_
    refine WX.region rfl ?_
    refine WXL.assign Met.none rfl ?_
    refine WXL.nil ?_
    refine Fin.then_normal ?_
    refine WX.region rfl ?_
    refine WXL.assign Met.none rfl ?_
    refine WXL.nil ?_
    refine Fin.then_normal ?_
    refine WX.block ?_
    refine WX.seq ?_
    refine WX.region rfl ?_
    first | refine WXL.ld Met.none rfl agg27 ?_ | refine WXL.ldS Met.none rfl agg27 ?_
    refine WXL.move Met.none rfl ?_
    refine WXL.buildSlice (c := [_]) Met.none rfl elem27 sz23 zero23 (by decide) (by decide) rfl rfl rfl rfl (fun b14 => ?_)
    refine WXL.apG [_, _, _, _] Met.none rfl rfl isrow27 elem27 sz23 by23 zero23 (Src.lit (cs := [_])) (fun a15 c15 G15 hG15 => ?_)
    refine WXL.st (vs := [_]) (c' := [_]) Met.none rfl rfl rfl sz27 ?_
    refine WXL.nil ?_
    refine Fin.then_normal ?_
    refine WX.region rfl ?_
    refine WXL.move Met.none rfl ?_
    refine WXL.st (vs := [_]) (c' := [_]) Met.none rfl rfl rfl sz3 ?_
    refine WXL.nil ?_
    refine Fin.block_normal ?_
    have hb : AreB ((N ++ R) ++ O) (ws ++ [.slice a1 (nth (recsP b) k').length c1]) ((recsP b).take (k' + 1)) := by
      rw [take_succ_nth hk, List.append_assoc]
      exact hRw.app.snoc ⟨a1, c1, rfl, hN.src⟩
    exact Fin.round (⟨k' + 1, a15, c15, ws ++ [.slice a1 (nth (recsP b) k').length c1], G15, N ++ R⟩ : ScQ) ⟨rfl, hG15, hb⟩ sub_
  · skip
    refine Fin.block_normal ?_
    refine Fin.then_normal ?_
    refine WX.seq ?_
    refine WX.draw rfl ?_
    first | refine WXL.ld Met.none rfl agg27 ?_ | refine WXL.ldS Met.none rfl agg27 ?_
    first | refine WXL.ld Met.none rfl agg3 ?_ | refine WXL.ldS Met.none rfl agg3 ?_
    refine WXL.assign Met.none rfl ?_
    refine WXL.assign Met.none rfl ?_
    refine WXL.nil ?_
    refine Fin.then_normal ?_
    refine WX.ret ?_
    obtain ⟨k', aw, cw, ws, Gw, R⟩ := q
    obtain ⟨hkk, hGw, hRw⟩ := hq
    simp only at hkk hGw hRw
    subst hkk
    rw [List.take_length] at hRw
    exact Fin.result (O' := Gw ++ (R ++ O)) (.inr rfl) rfl rfl sub_ ⟨aw, cw, ws, Gw, R, rfl, hGw, hRw, rfl⟩

end Go.Proofs.Ythekokdpplobhaa.Eng
