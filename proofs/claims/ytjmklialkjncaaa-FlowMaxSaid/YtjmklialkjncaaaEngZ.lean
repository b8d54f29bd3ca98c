/- Symbolic runs: rows of which only their elements are known. Own work; no condition. -/
import Derived.Test.YtjmklialkjncaaaEngY
set_option linter.unusedVariables false
set_option linter.unusedSimpArgs false
namespace Go.Proofs.Ytjmklialkjncaaa.Eng

variable {P : Program} {x : Cx} {L L' : Tmps} {O O' : Objs} {ops : Array Oper} {mq : Mk} {i : Nat} {l : List Oper} {K : ASt → Prop}
  {t u : TypeId} {p : String} {af : Array Edge} {gd : Option (Nat × Bool)} {d : Tmp}

theorem Sat.tail {h : AHeap} {q : Nat × Ent} (hs : Sat h (q :: O)) : Sat h O :=
  ⟨(List.nodup_cons.1 hs.nd).2, fun r hr => hs.is r (List.mem_cons_of_mem _ hr), hs.wf⟩

theorem Src.cons {q : Nat × Ent} {sz n : Nat} {v : Value} {cs : List Value} (h : Src O sz v n cs) : Src (q :: O) sz v n cs := fun g hg => h g hg.tail
theorem Knows.cons {q : Nat × Ent} {b : Nat} {y : Ent} (h : Knows O b y) : Knows (q :: O) b y := fun g hg => h g hg.tail
theorem Sat.app_right {h : AHeap} {N : Objs} (hs : Sat h (N ++ O)) : Sat h O := by
  induction N with
  | nil => exact hs
  | cons q N ih => exact ih hs.tail
theorem Src.app {N : Objs} {sz n : Nat} {v : Value} {cs : List Value} (h : Src O sz v n cs) : Src (N ++ O) sz v n cs := fun g hg => h g hg.app_right

/-- An element's address, in a row of which only the elements are known. -/
def ePtr (a : Option Addr) (k : Nat) : Value := match a with
  | some ⟨b, off, none⟩ => .pointer (some ⟨b, off + k, none⟩)
  | _ => undef

theorem srcA_some {h : AHeap} {sz : Nat} {a : Option Addr} {n c m : Nat} {cs : List Value} (hs : srcA h sz (.slice a n c) = some (m, cs)) :
    m = n ∧ ((a = none ∧ n = 0 ∧ cs = []) ∨ ∃ b off cc, a = some ⟨b, off, none⟩ ∧ h.rd b = some cc ∧ off + n * sz ≤ cc.length ∧ cs = (cc.drop off).take (n * sz)) := by
  cases a with
  | none =>
    cases n with
    | zero =>
      cases c with
      | zero =>
        simp only [srcA, Option.some.injEq, Prod.mk.injEq] at hs
        exact ⟨hs.1.symm, .inl ⟨rfl, rfl, hs.2.symm⟩⟩
      | succ c => simp [srcA] at hs
    | succ n => simp [srcA] at hs
  | some ad =>
    obtain ⟨b, off, sp⟩ := ad
    cases sp with
    | some q => simp [srcA] at hs
    | none =>
      unfold srcA at hs
      simp only at hs
      split at hs
      · rename_i cc hcc
        split at hs
        · rename_i hl
          simp only [Option.some.injEq, Prod.mk.injEq] at hs
          exact ⟨hs.1.symm, .inr ⟨b, off, cc, rfl, hcc, hl, hs.2.symm⟩⟩
        · cases hs
      · cases hs

theorem Src.length {sz : Nat} {a : Option Addr} {n c m : Nat} {cs : List Value} {h : AHeap} (hs : Src O sz (.slice a n c) m cs) (hh : Sat h O) : m = n ∧ cs.length = n * sz := by
  obtain ⟨h1, h2 | ⟨b, off, cc, _, _, h3, h4⟩⟩ := srcA_some (hs h hh)
  · obtain ⟨_, h3, h4⟩ := h2; subst h1 h3 h4; exact ⟨rfl, by simp⟩
  · subst h1 h4; exact ⟨rfl, by rw [List.length_take, List.length_drop]; omega⟩

theorem WXL.indexS {y z : Operand} {ty e : TypeId} {a : Option Addr} {n c m sz : Nat} {cs : List Value} {k : IntKind} {j : Int} {off' : Nat} (hw : Met x L ops gd) (hy : evL L y = some (.slice a n c)) (hz : evL L z = some (.int k j))
    (he : elemOf P ty = some e) (hs : szOf P e = some sz) (hsrc : Src O sz (.slice a n c) m cs) (h0 : 0 ≤ j) (h1 : j < n) (ho : j.toNat * sz = off') (h : WXL P x ops mq (i + 1) l ((d, ePtr a off') :: L) O K) :
    WXL P x ops mq i ({ dst := some d, op := .indexAddr ty y z, type := t, pos := p, after := af, guard := gd } :: l) L O K :=
  WXL.val (.inl rfl) hw (fun s hst => by
    subst ho
    obtain ⟨_, ⟨_, h2, _⟩ | ⟨b, off, cc, ha, _⟩⟩ := srcA_some (hsrc _ hst.sat)
    · omega
    · subst ha
      simp only [aop, hst.t.ev hy, hst.t.ev hz, indexA, he, hs, Option.bind_some]
      rw [if_pos ⟨h0, h1⟩]
      rfl) h

theorem WXL.fieldS {y : Operand} {ty : TypeId} {a : Option Addr} {n c m sz k f g0 : Nat} {cs : List Value} {fs : Array Field} {g : Field} {off' : Nat} (hw : Met x L ops gd) (hy : evL L y = some (ePtr a k)) (hu : P.underlying ty = some (.struct fs)) (hg : fs[f]? = some g)
    (hs : szOf P g.type = some (g0 + 1)) (hsrc : Src O sz (.slice a n c) m cs) (hn : k < cs.length) (ho : k + g.offset = off') (h : WXL P x ops mq (i + 1) l ((d, ePtr a off') :: L) O K) :
    WXL P x ops mq i ({ dst := some d, op := .fieldAddr ty y f, type := t, pos := p, after := af, guard := gd } :: l) L O K :=
  WXL.val (.inl rfl) hw (fun s hst => by
    subst ho
    obtain ⟨_, ⟨_, _, h2⟩ | ⟨b, off, cc, ha, _⟩⟩ := srcA_some (hsrc _ hst.sat)
    · subst h2; simp at hn
    · subst ha
      have hy' : s.ev y = Ptr b (off + k) := hst.t.ev hy
      simp only [aop, hy', fieldA, hu, hg, hs, ePtr, Nat.add_assoc]
      rfl) h

theorem WXL.load1S {y : Operand} {ty : TypeId} {a : Option Addr} {n c m sz k : Nat} {cs : List Value} {v : Value} (hlz : mq.lz i = false) (hw : Met x L ops gd) (hy : evL L y = some (ePtr a k)) (hsrc : Src O sz (.slice a n c) m cs) (ht : isAggT P ty = some false) (hv : cs[k]? = some v)
    (h : WXL P x ops mq (i + 1) l ((d, v) :: L) O K) : WXL P x ops mq i ({ dst := some d, op := .load ty y, type := t, pos := p, after := af, guard := gd } :: l) L O K :=
  WXL.val (.inr hlz) hw (fun s hst => by
    obtain ⟨_, ⟨_, _, h2⟩ | ⟨b, off, cc, ha, hrd, hl, hcs⟩⟩ := srcA_some (hsrc _ hst.sat)
    · subst h2; simp at hv
    · subst ha hcs
      have hy' : s.ev y = Ptr b (off + k) := hst.t.ev hy
      rw [List.getElem?_take] at hv
      split at hv
      · rw [List.getElem?_drop] at hv
        simp only [aop, hy', loadA, hrd, ht, hv]
        rfl
      · cases hv) h

theorem WXL.loadNS {y : Operand} {ty : TypeId} {a : Option Addr} {n c m sz k w : Nat} {cs vs : List Value} (hlz : mq.lz i = false) (hw : Met x L ops gd) (hy : evL L y = some (ePtr a k)) (hsrc : Src O sz (.slice a n c) m cs) (ht : isAggT P ty = some true) (hn : szOf P ty = some (w + 1)) (hv : cellsAt cs k (w + 1) = some vs)
    (h : WXL P x ops mq (i + 1) l ((d, .agg vs.toArray) :: L) O K) : WXL P x ops mq i ({ dst := some d, op := .load ty y, type := t, pos := p, after := af, guard := gd } :: l) L O K :=
  WXL.val (.inr hlz) hw (fun s hst => by
    unfold cellsAt at hv
    split at hv
    · rename_i hlen
      obtain rfl := Option.some.inj hv
      obtain ⟨_, ⟨_, _, h2⟩ | ⟨b, off, cc, ha, hrd, hl, hcs⟩⟩ := srcA_some (hsrc _ hst.sat)
      · subst h2; simp at hlen
      · subst ha hcs
        have hy' : s.ev y = Ptr b (off + k) := hst.t.ev hy
        rw [List.length_take, List.length_drop] at hlen
        have hlen2 : off + k + (w + 1) ≤ cc.length := by omega
        simp only [aop, hy', loadA, hrd, ht, hn]
        rw [if_pos hlen2, List.drop_take, List.drop_drop, List.take_take, Nat.min_eq_left (by omega)]
        rfl
    · cases hv) h

end Go.Proofs.Ytjmklialkjncaaa.Eng
