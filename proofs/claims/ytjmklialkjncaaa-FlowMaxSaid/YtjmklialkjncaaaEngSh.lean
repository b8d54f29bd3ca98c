/- The rules of operations in short form: what a side condition wants is found by itself. Own work; no condition. -/
import Derived.Test.YtjmklialkjncaaaEngR3
set_option linter.unusedVariables false
set_option linter.unusedSimpArgs false
namespace Go.Proofs.Ytjmklialkjncaaa.Eng

variable {P : Program} {x : Cx} {L L' : Tmps} {O O' : Objs} {ops : Array Oper} {mq : Mk} {i : Nat} {l : List Oper} {K : ASt → Prop}
  {t u : TypeId} {p : String} {af : Array Edge} {gd : Option (Nat × Bool)} {d : Tmp}

theorem flat_hits {α : Type} [Inhabited α] {E : α → List Value} {m : Nat} (hE : ∀ a, (E a).length = m) (l : List α) (k j : Nat) {v : Value} (h : k < l.length) (hv : (E (nth l k))[j]? = some v) : (flat E l)[k * m + j]? = some v := by
  rw [cell_flat hE l k j h, hv]
  have := (List.getElem?_eq_some_iff.1 hv).1
  rw [hE] at this
  exact this

/-- How a bool that was found tells its proposition. -/
theorem cnd : (∀ (q : Prop) [Decidable q], (decide q = true) = q) ∧ (∀ (q : Prop) [Decidable q], (decide q = false) = ¬ q) ∧ (∀ b : Bool, ((!b) = true) = (b = false)) ∧ (∀ b : Bool, ((!b) = false) = (b = true)) ∧
    (∀ b : Bool, (true = b) = (b = true)) ∧ (∀ b : Bool, (false = b) = (b = false)) ∧ (∀ a b : Int, (¬ a < b) = (b ≤ a)) ∧ (∀ a b : Int, (¬ a ≤ b) = (b < a)) ∧ (∀ q : Prop, (¬ ¬ q) = q) := by
  refine ⟨fun q _ => by simp, fun q _ => by simp, fun b => by simp, fun b => by simp, fun b => by cases b <;> simp, fun b => by cases b <;> simp, fun a b => by simp, fun a b => by simp, fun q => by simp⟩

theorem St.tl {s : ASt} (is : List Nat) (n : Nat) (hs : St x L O s)
    (hL : Told L L' := by repeat (first | exact trivial | refine ⟨by first | exact rfl | exact congrArg (fun n => some (I n)) (by omega) | (simp only [List.length_append, List.length_set, List.length_cons, List.length_nil]; exact rfl), ?_⟩))
    (hnd : is.Nodup := by decide) (hlt : ∀ i ∈ is, i < n := by decide) (hO : Eng.pick O is ++ O.drop n = O' := by exact rfl) : St x L' O' s := hs.told hL is n hnd hlt hO

theorem Sat.tl {h : AHeap} (is : List Nat) (n : Nat) (hs : Sat h O) (hnd : is.Nodup := by decide) (hlt : ∀ i ∈ is, i < n := by decide) (hO : Eng.pick O is ++ O.drop n = O' := by exact rfl) : Sat h O' := hs.told is n hnd hlt hO

theorem bool_false {p : Prop} [Decidable p] (h : ¬ p) : Value.bool false = .bool (decide p) := by rw [decide_eq_false h]
theorem bool_true {p : Prop} [Decidable p] (h : p) : Value.bool true = .bool (decide p) := by rw [decide_eq_true h]

/-! What is found by itself. -/
theorem at_ {b : Nat} {e : Ent} (h : Knows O b e := by first | exact Knows.at 0 rfl | exact Knows.at 1 rfl | exact Knows.at 2 rfl | exact Knows.at 3 rfl | exact Knows.at 4 rfl | exact Knows.at 5 rfl | exact Knows.at 6 rfl | exact Knows.at 7 rfl | exact Knows.mem (by assumption) | (repeat (first | assumption | apply Knows.cons))) : Knows O b e := h
theorem src_ {sz n : Nat} {v : Value} {cs : List Value} (h : Src O sz v n cs := by repeat (first | assumption | exact Grow.src (by assumption) | exact Grow.src0 (by assumption) | apply Src.cons | apply Src.app)) : Src O sz v n cs := h
theorem eq_ {α : Type} {a b : α} (h : a = b := by first | exact rfl | exact congrArg (fun n => some (I n)) (by omega)) : a = b := h
theorem drop_ (h : ∀ g, Sat g O → Sat g O' := by intro g hs; first | exact hs | exact hs.tail | exact hs.tail.tail | exact hs.tail.tail.tail | exact hs.tail.tail.tail.tail | exact hs.tail.tail.tail.tail.tail | exact hs.tail.tail.tail.tail.tail.tail) : ∀ g, Sat g O → Sat g O' := h
theorem bl_ {a b : Value} (h : a = b := by first | exact rfl | exact bool_true (by first | assumption | omega) | exact bool_false (by first | assumption | omega) | exact congrArg Value.bool (decide_eq_decide.2 (by omega)) | exact congrArg Value.bool (Bool.eq_iff_iff.2 (by simp only [Bool.not_eq_true', decide_eq_false_iff_not, decide_eq_true_eq]; omega))) : a = b := h
theorem lz_ {a b : Bool} (h : a = b := by first | exact rfl | exact (show lazyOf _ _ = false from by decide +kernel)) : a = b := h
theorem Src.lit {b off n c sz : Nat} {y : Ent} {cs : List Value} (hk : Knows O b y := by first | exact Knows.at 0 rfl | exact Knows.at 1 rfl | exact Knows.at 2 rfl | exact Knows.at 3 rfl | exact Knows.at 4 rfl | exact Knows.at 5 rfl | exact Knows.at 6 rfl | exact Knows.at 7 rfl | exact Knows.mem (by assumption) | (repeat (first | assumption | apply Knows.cons))) (hl : off + n * sz ≤ y.c.length := by exact Nat.le_of_ble_eq_true rfl) (he : (y.c.drop off).take (n * sz) = cs := by exact rfl) : Src O sz (Row b off n c) n cs := Src.of hk hl he

theorem WXL.ld {y : Operand} {ty : TypeId} {b off : Nat} {e : Ent} {v : Value} (hw : Met x L ops gd) (hy : evL L y = some (Ptr b off)) (ht : isAggT P ty = some false)
    (h : WXL P x ops mq (i + 1) l ((d, v) :: L) O K)
    (hlz : mq.lz i = false := by first | exact rfl | exact (show lazyOf _ _ = false from by decide +kernel))
    (hk : Knows O b e := by first | exact Knows.at 0 rfl | exact Knows.at 1 rfl | exact Knows.at 2 rfl | exact Knows.at 3 rfl | exact Knows.at 4 rfl | exact Knows.at 5 rfl | exact Knows.at 6 rfl | exact Knows.at 7 rfl | exact Knows.mem (by assumption) | (repeat (first | assumption | apply Knows.cons)))
    (hv : e.c[off]? = some v := by first | exact rfl | exact cell_map _ _ _ (by first | assumption | omega) | exact flat_hits (by exact fun _ => rfl) _ _ _ (by omega) (by exact rfl)) :
    WXL P x ops mq i ({ dst := some d, op := .load ty y, type := t, pos := p, after := af, guard := gd } :: l) L O K := WXL.load1 hlz hw hy hk ht hv h

theorem WXL.ldS {y : Operand} {ty : TypeId} {a : Option Addr} {n c m sz k : Nat} {cs : List Value} {v : Value} (hw : Met x L ops gd) (hy : evL L y = some (ePtr a k)) (ht : isAggT P ty = some false)
    (h : WXL P x ops mq (i + 1) l ((d, v) :: L) O K)
    (hlz : mq.lz i = false := by first | exact rfl | exact (show lazyOf _ _ = false from by decide +kernel))
    (hsrc : Src O sz (.slice a n c) m cs := by repeat (first | assumption | exact Grow.src (by assumption) | exact Grow.src0 (by assumption) | apply Src.cons | apply Src.app))
    (hv : cs[k]? = some v := by first | exact rfl | exact cell_map _ _ _ (by first | assumption | omega) | exact flat_hits (by exact fun _ => rfl) _ _ _ (by omega) (by exact rfl)) :
    WXL P x ops mq i ({ dst := some d, op := .load ty y, type := t, pos := p, after := af, guard := gd } :: l) L O K := WXL.load1S hlz hw hy hsrc ht hv h

theorem WXL.lz1 {y : Operand} {ty : TypeId} {b off : Nat} {e : Ent} {v : Value} (hw : Met x L ops gd) (hy : evL L y = some (Ptr b off)) (ht : isAggT P ty = some false)
    (h : WXL P x ops ⟨mq.q, mq.lz, b :: mq.Z⟩ (i + 1) l ((d, v) :: L) O K)
    (hk : Knows O b e := by first | exact Knows.at 0 rfl | exact Knows.at 1 rfl | exact Knows.at 2 rfl | exact Knows.at 3 rfl | exact Knows.at 4 rfl | exact Knows.at 5 rfl | exact Knows.at 6 rfl | exact Knows.at 7 rfl | exact Knows.mem (by assumption) | (repeat (first | assumption | apply Knows.cons)))
    (hv : e.c[off]? = some v := by first | exact rfl | exact cell_map _ _ _ (by first | assumption | omega) | exact flat_hits (by exact fun _ => rfl) _ _ _ (by omega) (by exact rfl))
    (hp : plainC v = true := by exact rfl) :
    WXL P x ops mq i ({ dst := some d, op := .load ty y, type := t, pos := p, after := af, guard := gd } :: l) L O K := WXL.lazy1 hw hy hk ht hv hp h

theorem WXL.ldN {y : Operand} {ty : TypeId} {b off n : Nat} {e : Ent} {vs : List Value} (hw : Met x L ops gd) (hy : evL L y = some (Ptr b off)) (ht : isAggT P ty = some true) (hn : szOf P ty = some n)
    (h : WXL P x ops mq (i + 1) l ((d, .agg vs.toArray) :: L) O K)
    (hlz : mq.lz i = false := by first | exact rfl | exact (show lazyOf _ _ = false from by decide +kernel))
    (hk : Knows O b e := by first | exact Knows.at 0 rfl | exact Knows.at 1 rfl | exact Knows.at 2 rfl | exact Knows.at 3 rfl | exact Knows.at 4 rfl | exact Knows.at 5 rfl | exact Knows.at 6 rfl | exact Knows.at 7 rfl | exact Knows.mem (by assumption) | (repeat (first | assumption | apply Knows.cons)))
    (hv : cellsAt e.c off n = some vs := by first | exact rfl | exact cellsAt_flat (by exact fun _ => rfl) _ _ (by first | assumption | omega)) :
    WXL P x ops mq i ({ dst := some d, op := .load ty y, type := t, pos := p, after := af, guard := gd } :: l) L O K := WXL.loadN hlz hw hy hk ht hn hv h

theorem WXL.ldNS {y : Operand} {ty : TypeId} {a : Option Addr} {n c m sz k w : Nat} {cs vs : List Value} (hw : Met x L ops gd) (hy : evL L y = some (ePtr a k)) (ht : isAggT P ty = some true) (hn : szOf P ty = some (w + 1))
    (h : WXL P x ops mq (i + 1) l ((d, .agg vs.toArray) :: L) O K)
    (hlz : mq.lz i = false := by first | exact rfl | exact (show lazyOf _ _ = false from by decide +kernel))
    (hsrc : Src O sz (.slice a n c) m cs := by repeat (first | assumption | exact Grow.src (by assumption) | exact Grow.src0 (by assumption) | apply Src.cons | apply Src.app))
    (hv : cellsAt cs k (w + 1) = some vs := by first | exact rfl | exact cellsAt_flat (by exact fun _ => rfl) _ _ (by first | assumption | omega)) :
    WXL P x ops mq i ({ dst := some d, op := .load ty y, type := t, pos := p, after := af, guard := gd } :: l) L O K := WXL.loadNS hlz hw hy hsrc ht hn hv h

theorem WXL.lzN {y : Operand} {ty : TypeId} {b off n : Nat} {e : Ent} {vs : List Value} (hw : Met x L ops gd) (hy : evL L y = some (Ptr b off)) (ht : isAggT P ty = some true) (hn : szOf P ty = some n)
    (h : WXL P x ops ⟨mq.q, mq.lz, b :: mq.Z⟩ (i + 1) l ((d, .agg vs.toArray) :: L) O K)
    (hk : Knows O b e := by first | exact Knows.at 0 rfl | exact Knows.at 1 rfl | exact Knows.at 2 rfl | exact Knows.at 3 rfl | exact Knows.at 4 rfl | exact Knows.at 5 rfl | exact Knows.at 6 rfl | exact Knows.at 7 rfl | exact Knows.mem (by assumption) | (repeat (first | assumption | apply Knows.cons)))
    (hv : cellsAt e.c off n = some vs := by exact rfl) (hp : vs.all plain1 = true := by exact rfl) :
    WXL P x ops mq i ({ dst := some d, op := .load ty y, type := t, pos := p, after := af, guard := gd } :: l) L O K := WXL.lazyN hw hy hk ht hn hv hp h

theorem WXL.ix {y z : Operand} {ty e : TypeId} {b off n c sz : Nat} {k : IntKind} {j : Int} {off' : Nat} (hw : Met x L ops gd) (hy : evL L y = some (Row b off n c)) (hz : evL L z = some (.int k j))
    (he : elemOf P ty = some e) (hs : szOf P e = some sz) (h : WXL P x ops mq (i + 1) l ((d, Ptr b off') :: L) O K)
    (h0 : 0 ≤ j := by omega) (h1 : j < n := by omega) (ho : off + j.toNat * sz = off' := by first | (simp only [off_succ, Int.toNat_natCast, Nat.mul_one, Nat.zero_add]; exact rfl) | exact rfl) :
    WXL P x ops mq i ({ dst := some d, op := .indexAddr ty y z, type := t, pos := p, after := af, guard := gd } :: l) L O K := WXL.indexAddr hw hy hz he hs h0 h1 ho h

theorem WXL.ixS {y z : Operand} {ty e : TypeId} {a : Option Addr} {n c m sz : Nat} {cs : List Value} {k : IntKind} {j : Int} {off' : Nat} (hw : Met x L ops gd) (hy : evL L y = some (.slice a n c)) (hz : evL L z = some (.int k j))
    (he : elemOf P ty = some e) (hs : szOf P e = some sz) (h : WXL P x ops mq (i + 1) l ((d, ePtr a off') :: L) O K)
    (hsrc : Src O sz (.slice a n c) m cs := by repeat (first | assumption | exact Grow.src (by assumption) | exact Grow.src0 (by assumption) | apply Src.cons | apply Src.app))
    (h0 : 0 ≤ j := by omega) (h1 : j < n := by omega) (ho : j.toNat * sz = off' := by first | (simp only [off_succ, Int.toNat_natCast, Nat.mul_one, Nat.zero_add]; exact rfl) | exact rfl) :
    WXL P x ops mq i ({ dst := some d, op := .indexAddr ty y z, type := t, pos := p, after := af, guard := gd } :: l) L O K := WXL.indexS hw hy hz he hs hsrc h0 h1 ho h

theorem WXL.faS {y : Operand} {ty : TypeId} {a : Option Addr} {n c m sz k f g0 : Nat} {cs : List Value} {fs : Array Field} {g : Field} {off' : Nat} (hw : Met x L ops gd) (hy : evL L y = some (ePtr a k)) (hu : P.underlying ty = some (.struct fs)) (hg : fs[f]? = some g)
    (hs : szOf P g.type = some (g0 + 1)) (h : WXL P x ops mq (i + 1) l ((d, ePtr a off') :: L) O K)
    (hsrc : Src O sz (.slice a n c) m cs := by repeat (first | assumption | exact Grow.src (by assumption) | exact Grow.src0 (by assumption) | apply Src.cons | apply Src.app))
    (hn : k < cs.length := by first | (rw [flat_encE_len]; omega) | (simp; omega)) (ho : k + g.offset = off' := by exact rfl) :
    WXL P x ops mq i ({ dst := some d, op := .fieldAddr ty y f, type := t, pos := p, after := af, guard := gd } :: l) L O K := WXL.fieldS hw hy hu hg hs hsrc hn ho h

theorem ob_ (j : Nat) {q : Option (Nat × Ent)} (h : O[j]? = q) : O[j]? = q := h

theorem WXL.st {y z : Operand} {ty : TypeId} {j b off sz : Nat} {c vs c' : List Value} {v : Value} (hw : Met x L ops gd) (hy : evL L y = some (Ptr b off)) (hz : evL L z = some v) (hv : v.cells.toList = vs) (hs : szOf P ty = some vs.length)
    (h : WXL P x ops mq (i + 1) l L O' K) (hq : x.q = false := by exact rfl)
    (hj : O[j]? = some (b, ⟨sz, false, c⟩) := by first | exact ob_ 0 rfl | exact ob_ 1 rfl | exact ob_ 2 rfl | exact ob_ 3 rfl | exact ob_ 4 rfl | exact ob_ 5 rfl | exact ob_ 6 rfl | exact ob_ 7 rfl)
    (hl : off + vs.length ≤ c.length := by first | exact (Nat.le_of_ble_eq_true rfl) | (simp; done) | (simp; omega) | omega) (ha : vs.all isCell = true := by exact rfl)
    (hc : splice c off vs = c' := by first | exact splice_map _ _ _ _ (by first | assumption | omega) | exact rfl)
    (hcl : Clear O j mq.Z := by repeat (first | exact Clear.nil | refine Clear.cons 0 rfl rfl ?_ | refine Clear.cons 1 rfl rfl ?_ | refine Clear.cons 2 rfl rfl ?_ | refine Clear.cons 3 rfl rfl ?_ | refine Clear.cons 4 rfl rfl ?_))
    (hO : O.set j (b, ⟨sz, false, c'⟩) = O' := by simp only [List.cons_append, List.nil_append, List.set_cons_zero, List.set_cons_succ]; exact rfl) :
    WXL P x ops mq i ({ dst := none, op := .store ty y z, type := t, pos := p, after := af, guard := gd } :: l) L O K := WXL.store j hw hq hy hz hj hv hs hl ha hc hcl hO h

theorem WXL.cl {ops : Array Oper} {mq : Mk} {i : Nat} {g : Operand} {as : Array Operand} {ts : Array TypeId} {dst : Option Tmp} {t : TypeId} {p : String} {af : Array Edge} {gd : Option (Nat × Bool)} {l : List Oper} {K : ASt → Prop}
    {f : FuncId} {first cap : Array Value} {vs : List Value} {q : Bool} {O1 : Objs} {Post : Value → Objs → Prop}
    (hw : Met x L ops gd) (hf : evL L g = some (.func (.func f) first cap)) (hok : fnOk P f = true) (ha : evArgs L as.toList = some vs) (hO : ∀ h, Sat h O → Sat h O1)
    (hspec : Spec P q f (first.toList ++ vs ++ cap.toList).toArray O1 Post)
    (h : ∀ v O', Post v O' → WXL P x ops mq (i + 1) l (putL dst v L) O' K)
    (hq : q = true ∨ (mq.q i = false ∧ x.q = false ∧ mq.Z = []) := by first | exact .inl rfl | exact .inr ⟨rfl, rfl, rfl⟩ | exact .inr ⟨(show needs _ _ = false from by decide +kernel), rfl, rfl⟩) :
    WXL P x ops mq i ({ dst := dst, op := .call { callee := .value g, args := as, argTypes := ts }, type := t, pos := p, after := af, guard := gd } :: l) L O K := WXL.call hw hf hok ha hO hq hspec h

theorem WXL.apG {y z : Operand} {ty tz e : TypeId} {a : Option Addr} {n c sz by_ m : Nat} {cs new : List Value} {v zv : Value} {G : Objs} (A : Objs) {R : Objs} (hw : Met x L ops gd) (hy : evL L y = some (.slice a n c)) (hz : evL L z = some v) (hr : isRowT P tz = true)
    (he : elemOf P ty = some e) (hs : szOf P e = some sz) (hby : byOf P e = some by_) (hzv : zeroOf P e = some zv)
    (hsrc : Src O sz v m new)
    (h : ∀ a' c' G', Grow sz a' (n + m) c' (cs ++ new) G' → WXL P x ops mq (i + 1) l ((d, .slice a' (n + m) c') :: L) (A ++ (G' ++ R)) K)
    (hf : (n + m) * by_ ≤ 140737488355328 := by omega) (hm : new.length = m * sz := by exact rfl)
    (hg : Grow sz a n c cs G := by assumption) (hq : x.q = false := by exact rfl) (hcl : mq.Z = [] := by exact rfl) (hO : O = A ++ (G ++ R) := by exact rfl) (h3 : zv.cells.size = sz := by exact rfl) (h1 : 0 < sz := by decide) (h2 : 0 < by_ := by decide) :
    WXL P x ops mq i ({ dst := some d, op := .call { callee := .builtin .append, args := #[y, z], argTypes := #[ty, tz] }, type := t, pos := p, after := af, guard := gd } :: l) L O K :=
  WXL.appendG A hw hq hy hz hr hcl hO hg hsrc he hs hby hzv h3 hf h1 h2 hm h

theorem WXL.qu {y z : Operand} {k : IntKind} {a b r : Int} {w : TypeId} (hw : Met x L ops gd) (hy : evL L y = some (.int k a)) (hz : evL L z = some (.int k b)) (h : WXL P x ops mq (i + 1) l ((d, .int k r) :: L) O K)
    (hb : b ≠ 0 := by omega) (hr : k.wrap (a.tdiv b) = r := by first | exact wrap_quo (by omega) (by omega) (by omega) | exact rfl) :
    WXL P x ops mq i ({ dst := some d, op := .binOp .quo u y z w, type := t, pos := p, after := af, guard := gd } :: l) L O K := WXL.quo hw hy hz hb hr h

theorem bvA {k : IntKind} {a b : Int} {v : Value} (h : binV .add k a b = some v := by first | exact binV_add (by omega) (by omega) | exact rfl) : binV .add k a b = some v := h
theorem bvS {k : IntKind} {a b : Int} {v : Value} (h : binV .sub k a b = some v := by first | exact binV_sub (by omega) (by omega) | exact rfl) : binV .sub k a b = some v := h
theorem bvM {k : IntKind} {a b : Int} {v : Value} (h : binV .mul k a b = some v := by first | exact binV_mul (by omega) (by omega) | exact rfl) : binV .mul k a b = some v := h

end Go.Proofs.Ytjmklialkjncaaa.Eng
