/- What came in is never written, and no run looks at whether it could be: functions that write to objects of their own leave all others alone. Own work; no condition. -/
import Derived.Test.YtjmklialkjncaaaEngR2
set_option linter.unusedVariables false
set_option linter.unusedSimpArgs false
namespace Go.Proofs.Ytjmklialkjncaaa.Eng

variable {P : Program}

/-! ### 1. What an operation does to the heap -/
theorem aop_cases {o : Oper} {s : ASt} {v : Value} {h' : AHeap} (hv : aop P o s = some (v, h')) : h' = s.h ∨ (∃ sz c, h' = s.h.new (.cells sz false s.h.n none 0 c)) ∨
    (∃ b sz f k c c', s.h.o b = .cells sz false f none k c ∧ h' = s.h.set b (.cells sz false f none (k + 1) c')) ∨
    (∃ b sz f k c cn, s.h.o b = .cells sz false f none k c ∧ h' = (s.h.set b (.cells sz false f (some s.h.n) k c)).new (.cells sz false f none 0 cn)) := by
  unfold aop at hv
  simp only at hv
  have mp : ∀ {α : Type} {x : Option α} {u : α} {g : AHeap}, x.map (·, s.h) = some (u, g) → g = s.h := fun hx => by
    obtain ⟨_, rfl⟩ := map_pair hx; rfl
  split at hv
  all_goals first
    | exact .inl (mp hv)
    | (injection hv with hv; injection hv with h1 h2; exact .inl h2.symm)
    | skip
  · split at hv
    · injection hv with hv; injection hv with h1 h2; exact .inl h2.symm
    · injection hv with hv; injection hv with h1 h2; exact .inl h2.symm
    · cases hv
  · rename_i t _
    cases hz : zeroOf P t with
    | none => rw [hz] at hv; cases hv
    | some z => rw [hz] at hv; injection hv with hv; injection hv with h1 h2; exact .inr (.inl ⟨_, _, h2.symm⟩)
  · split at hv
    · injection hv with hv; injection hv with h1 h2; exact .inr (.inl ⟨_, _, h2.symm⟩)
    · cases hv
  · unfold litA at hv
    split at hv
    · split at hv
      · split at hv
        · injection hv with hv; injection hv with h1 h2; exact .inr (.inl ⟨_, _, h2.symm⟩)
        · cases hv
      · cases hv
    · cases hv
  · split at hv
    · exact .inl (mp hv)
    · cases hv
  · rename_i t x y _
    split at hv
    · rename_i b off _
      cases hs : storeA P s.h t b off (s.ev y) with
      | none => rw [hs] at hv; cases hv
      | some g =>
        rw [hs] at hv; injection hv with hv; injection hv with h1 h2; subst h2
        unfold storeA at hs
        split at hs
        · rename_i sz f k c ho
          split at hs
          · injection hs with hs; exact .inr (.inr (.inl ⟨_, _, _, _, _, _, ho, hs.symm⟩))
          · cases hs
        · cases hs
    · cases hv
  · split at hv
    · injection hv with hv; injection hv with h1 h2; exact .inl h2.symm
    · cases hv
  · split at hv
    · split at hv
      · unfold makeA at hv
        split at hv
        · split at hv
          · split at hv
            · injection hv with hv; injection hv with h1 h2; exact .inr (.inl ⟨_, _, h2.symm⟩)
            · cases hv
          · cases hv
        · cases hv
      · cases hv
    · cases hv
  · split at hv
    · exact .inl (mp hv)
    · cases hv
  · split at hv
    · exact .inl (mp hv)
    · cases hv
  · split at hv
    · split at hv
      · unfold appendA at hv
        split at hv
        · cases hv
        split at hv
        case h_2 => cases hv
        split at hv
        case h_2 => cases hv
        split at hv
        · cases hv
        split at hv
        · split at hv
          · injection hv with hv; injection hv with h1 h2; exact .inl h2.symm
          · split at hv
            · injection hv with hv; injection hv with h1 h2; exact .inr (.inl ⟨_, _, h2.symm⟩)
            · cases hv
        · split at hv
          · rename_i ho
            split at hv
            · rename_i hc
              obtain rfl := hc.1
              injection hv with hv; injection hv with h1 h2; exact .inr (.inr (.inr ⟨_, _, _, _, _, _, ho, h2.symm⟩))
            · cases hv
          · cases hv
        · cases hv
      · cases hv
    · cases hv
  all_goals cases hv

def isRo : AObj → Bool
  | .cells _ true _ _ _ _ => true
  | .dead => true
  | _ => false

def Stay (h h' : AHeap) : Prop := h.n ≤ h'.n ∧ ∀ b, b < h.n → isRo (h.o b) = true → h'.o b = h.o b

theorem Stay.refl (h : AHeap) : Stay h h := ⟨Nat.le_refl _, fun _ _ _ => rfl⟩
theorem Stay.trans {a b c : AHeap} (h1 : Stay a b) (h2 : Stay b c) : Stay a c := ⟨Nat.le_trans h1.1 h2.1, fun x hx hr => by
  have e := h1.2 x hx hr
  rw [h2.2 x (Nat.lt_of_lt_of_le hx h1.1) (by rw [e]; exact hr), e]⟩

theorem aop_stay {o : Oper} {s : ASt} {v : Value} {h' : AHeap} (hv : aop P o s = some (v, h')) : Stay s.h h' := by
  rcases aop_cases hv with rfl | ⟨sz, c, rfl⟩ | ⟨b, sz, f, k, c, c', ho, rfl⟩ | ⟨b, sz, f, k, c, cn, ho, rfl⟩
  · exact Stay.refl _
  · exact ⟨Nat.le_succ _, fun x hx _ => by simp only [AHeap.new]; rw [if_neg (by omega)]⟩
  · refine ⟨Nat.le_refl _, fun x hx hr => ?_⟩
    simp only [AHeap.set]
    rw [if_neg]
    intro e
    rw [e, ho] at hr
    cases hr
  · refine ⟨Nat.le_succ _, fun x hx hr => ?_⟩
    show (if x = s.h.n then _ else if x = b then _ else s.h.o x) = s.h.o x
    rw [if_neg (by omega), if_neg]
    intro e
    rw [e, ho] at hr
    cases hr

def StayJ : J → Prop
  | .code _ s _ s' => Stay s.h s'.h
  | .ops _ _ _ _ _ s s' => Stay s.h s'.h
  | .call _ _ h _ h' => Stay h h'

theorem stayJ {dr : Array Oper → (Nat → Bool) → (Nat → Bool) → Prop} {j : J} (hb : Big P dr j) : StayJ j := by
  induction hb with
  | skip | label | exit | ret | nil => exact Stay.refl _
  | region _ _ ih => exact ih
  | draw _ _ _ ih => exact ih
  | seq_n _ _ ih1 ih2 => exact Stay.trans ih1 ih2
  | seq_x _ _ ih => exact ih
  | cond_t _ _ _ ih => exact ih
  | cond_f _ _ _ ih => exact ih
  | block_n _ _ ih => exact ih
  | block_x _ ih => exact ih
  | loop_n _ _ ih1 ih2 => exact Stay.trans ih1 ih2
  | loop_x _ _ ih => exact ih
  | scope _ ih => exact ih
  | op _ _ ha _ _ _ _ ih =>
    have h2 : Stay _ _ := ih
    rw [put_h] at h2
    exact (aop_stay ha).trans h2
  | oplazy _ _ _ _ _ _ _ _ ih =>
    have h2 : Stay _ _ := ih
    rw [put_h] at h2
    exact h2
  | opcall _ _ _ _ _ _ _ _ ih1 ih2 =>
    have h2 : Stay _ _ := ih2
    rw [put_h] at h2
    exact Stay.trans ih1 h2
  | opskip _ _ _ ih =>
    have h2 : Stay _ _ := ih
    rw [put_h] at h2
    exact h2
  | call _ _ _ _ _ ih => exact ih

/-! ### 2. A run from a heap of which less may be written -/
def unro : AObj → AObj
  | .dead => .dead
  | .cells sz _ f st k c => .cells sz false f st k c

def AHeap.un (F : Nat → Bool) (h : AHeap) : AHeap := { n := h.n, o := fun b => bif F b then unro (h.o b) else h.o b }

variable {F : Nat → Bool} {h h' : AHeap}

theorem un_cells {b sz ro f st k c} (ho : h.o b = .cells sz ro f st k c) : ∃ ro', (h.un F).o b = .cells sz ro' f st k c := by
  simp only [AHeap.un, ho]
  cases F b
  · exact ⟨ro, rfl⟩
  · exact ⟨false, rfl⟩

theorem un_own {b sz f st k c} (ho : h.o b = .cells sz false f st k c) : (h.un F).o b = .cells sz false f st k c := by
  simp only [AHeap.un, ho]
  cases F b <;> rfl

theorem un_dead {b} (ho : h.o b = .dead) : (h.un F).o b = .dead := by
  simp only [AHeap.un, ho]
  cases F b <;> rfl

theorem un_same {b} (he : h'.o b = h.o b) : (h'.un F).o b = (h.un F).o b := by simp only [AHeap.un, he]

theorem un_rd (b : Nat) : (h.un F).rd b = h.rd b := by
  unfold AHeap.rd
  cases ho : h.o b with
  | dead => rw [un_dead ho]
  | cells sz ro f st k c =>
    obtain ⟨ro', e⟩ := un_cells (F := F) ho
    rw [e]
    cases st with
    | none => rfl
    | some m =>
      simp only
      cases hm : h.o m with
      | dead => rw [un_dead hm]
      | cells sz2 ro2 f2 st2 k2 c2 =>
        obtain ⟨ro3, e2⟩ := un_cells (F := F) hm
        rw [e2]
        cases st2 <;> cases k2 <;> rfl

theorem un_new {sz f st k c} : (h.new (.cells sz false f st k c)).un F = (h.un F).new (.cells sz false f st k c) := by
  unfold AHeap.un AHeap.new
  simp only [AHeap.mk.injEq, true_and]
  funext b
  by_cases e : b = h.n
  · rw [if_pos e, if_pos e]; cases F b <;> rfl
  · rw [if_neg e, if_neg e]

theorem un_set {b sz f st k c} : (h.set b (.cells sz false f st k c)).un F = (h.un F).set b (.cells sz false f st k c) := by
  unfold AHeap.un AHeap.set
  simp only [AHeap.mk.injEq, true_and]
  funext x
  by_cases e : x = b
  · rw [if_pos e, if_pos e]; cases F x <;> rfl
  · rw [if_neg e, if_neg e]

theorem un_n : (h.un F).n = h.n := rfl

theorem un_load {t : TypeId} {b off : Nat} : loadA P (h.un F) t b off = loadA P h t b off := by unfold loadA; rw [un_rd]

theorem un_src {sz : Nat} {v : Value} : srcA (h.un F) sz v = srcA h sz v := by
  unfold srcA
  split <;> first | rfl | rw [un_rd]

theorem un_slice {t : TypeId} {x : Value} {lo hi : Option Value} : sliceA P (h.un F) t x lo hi = sliceA P h t x lo hi := by
  unfold sliceA
  split
  · rfl
  · rfl
  · rename_i b off n c
    cases ho : h.o b with
    | dead => rw [un_dead ho]
    | cells sz ro f st k c =>
      obtain ⟨ro', e⟩ := un_cells (F := F) ho
      rw [e]
      cases (elemOf P t).bind (szOf P) <;> cases boundA lo 0 <;> cases boundA hi n <;> rfl
  · rfl

theorem un_store {t : TypeId} {b off : Nat} {v : Value} {g : AHeap} (hs : storeA P h t b off v = some g) : storeA P (h.un F) t b off v = some (g.un F) := by
  unfold storeA at hs
  split at hs
  · rename_i sz f k c ho
    split at hs
    · rename_i hc
      injection hs with hs
      unfold storeA
      rw [un_own ho]
      simp only
      rw [if_pos hc, ← hs, un_set]
    · cases hs
  · cases hs

theorem un_append {t : TypeId} {s x v : Value} {g : AHeap} (hs : appendA P h t s x = some (v, g)) : appendA P (h.un F) t s x = some (v, g.un F) := by
  unfold appendA at hs ⊢
  simp only [un_src]
  split at hs
  · cases hs
  split at hs
  case h_2 => cases hs
  split at hs
  case h_2 => cases hs
  split at hs
  · cases hs
  rename_i hz
  simp only [if_neg hz]
  split at hs
  · split at hs
    · rename_i h0
      rw [if_pos h0]
      injection hs with hs; injection hs with h1 h2
      rw [h1, h2]
    · rename_i h0
      rw [if_neg h0]
      split at hs
      · rename_i hc
        rw [if_pos hc]
        injection hs with hs; injection hs with h1 h2
        rw [← h1, ← h2, un_new]
        rfl
      · cases hs
  · split at hs
    · rename_i ho
      split at hs
      · rename_i hc
        rw [un_own ho]
        simp only
        rw [if_pos hc]
        injection hs with hs; injection hs with h1 h2
        rw [← h1, ← h2, un_new, un_set]
        rfl
      · cases hs
    · cases hs
  · cases hs

theorem un_make {t : TypeId} {n v : Value} {g : AHeap} (hs : makeA P h t n = some (v, g)) : makeA P (h.un F) t n = some (v, g.un F) := by
  unfold makeA at hs ⊢
  split at hs
  · split at hs
    · split at hs
      · rename_i hc
        rw [if_pos hc]
        injection hs with hs; injection hs with h1 h2
        rw [← h1, ← h2, un_new]
        rfl
      · cases hs
    · cases hs
  · cases hs

theorem un_lit {t : TypeId} {len : Nat} {ps : Array (Nat × Value)} {v : Value} {g : AHeap} (hs : litA P h t len ps = some (v, g)) : litA P (h.un F) t len ps = some (v, g.un F) := by
  unfold litA at hs ⊢
  split at hs
  · split at hs
    · split at hs
      · rename_i hc
        rw [if_pos hc]
        injection hs with hs; injection hs with h1 h2
        rw [← h1, ← h2, un_new]
        rfl
      · cases hs
    · cases hs
  · cases hs

theorem un_newA {cs : Array Value} : newA (h.un F) cs = ((newA h cs).1, (newA h cs).2.un F) := by
  unfold newA
  simp only [un_new]
  rfl

def ASt.un (F : Nat → Bool) (s : ASt) : ASt := { s with h := s.h.un F }

theorem un_ev (s : ASt) : (s.un F).ev = s.ev := ev_with s _
theorem un_put (s : ASt) (dst : Option Tmp) (v : Value) (g : AHeap) : (s.put dst v g).un F = (s.un F).put dst v (g.un F) := by cases dst <;> rfl

theorem un_aop {o : Oper} {s : ASt} {v : Value} (hv : aop P o s = some (v, h')) : aop P o (s.un F) = some (v, h'.un F) := by
  have mp : ∀ {α : Type} {x : Option α} {u : α} {g : AHeap}, x.map (·, s.h) = some (u, g) → x.map (·, s.h.un F) = some (u, g.un F) := fun hx => by
    obtain ⟨h1, h2⟩ := map_pair hx; subst h2; rw [h1]; rfl
  obtain ⟨dst, op, type, pos, after, guard⟩ := o
  unfold aop at hv ⊢
  simp only [un_ev] at hv ⊢
  have hh : (s.un F).h = s.h.un F := rfl
  rw [hh]
  cases op with
  | call c =>
    obtain ⟨callee, args, argTypes⟩ := c
    cases callee with
    | builtin b =>
      cases b <;> first
        | exact mp hv
        | (simp only at hv ⊢
           split at hv
           · first
             | exact mp hv
             | (split at hv
                · rename_i hc
                  simp only [if_pos hc]
                  exact un_append hv
                · cases hv)
           · cases hv)
    | _ => first | exact mp hv | cases hv
  | makeFunc fn first captured =>
    cases fn <;> first
      | exact mp hv
      | (injection hv with hv; injection hv with h1 h2; subst h1 h2; rfl)
  | pick c a b => simp only at hv ⊢; split at hv <;> first | (injection hv with hv; injection hv with h1 h2; subst h1 h2; rfl) | cases hv
  | nilCheck x => simp only at hv ⊢; split at hv <;> first | (injection hv with hv; injection hv with h1 h2; subst h1 h2; rfl) | cases hv
  | extract x i => simp only at hv ⊢; split at hv <;> first | exact mp hv | cases hv
  | move x => injection hv with hv; injection hv with h1 h2; subst h1 h2; rfl
  | assign x => injection hv with hv; injection hv with h1 h2; subst h1 h2; rfl
  | alloc t =>
    simp only at hv ⊢
    obtain ⟨z, hz, e⟩ := Option.map_eq_some_iff.1 hv
    rw [hz, Option.map_some, un_newA, e]
  | box t x =>
    simp only at hv ⊢
    split at hv
    · rename_i hc
      rw [if_pos hc, un_newA]
      injection hv with hv
      rw [hv]
    · cases hv
  | buildSlice t len parts => exact un_lit hv
  | load t x =>
    simp only at hv ⊢
    split at hv
    · rw [un_load]; exact mp hv
    · cases hv
  | store t x y =>
    simp only at hv ⊢
    split at hv
    · obtain ⟨g, hg, e⟩ := Option.map_eq_some_iff.1 hv
      injection e with e1 e2
      subst e1 e2
      rw [un_store hg]
      rfl
    · cases hv
  | makeSlice t n c =>
    simp only at hv ⊢
    split at hv
    · split at hv
      · rename_i hc
        rw [if_pos hc]
        exact un_make hv
      · cases hv
    · cases hv
  | slice t x lo hi mx =>
    cases mx with
    | none => simp only at hv ⊢; rw [un_slice]; exact mp hv
    | some _ => exact mp hv
  | _ => exact mp hv

def J.un (F : Nat → Bool) : J → J
  | .code c s e s' => .code c (s.un F) e (s'.un F)
  | .ops o q l Z t s s' => .ops o q l Z t (s.un F) (s'.un F)
  | .call f a h v h' => .call f a (h.un F) v (h'.un F)

theorem un_quiet (hq : Quiet h h') : Quiet (h.un F) (h'.un F) := ⟨hq.1, fun b hb => by
  rcases hq.2 b hb with q | ⟨sz, f, k, c, m, q1, q2, q3⟩
  · exact .inl (un_same q)
  · exact .inr ⟨sz, f, k, c, m, un_own q1, un_own q2, q3⟩⟩

theorem un_old (hq : Old h h') : Old (h.un F) (h'.un F) := ⟨hq.1, fun b hb => un_same (hq.2 b hb)⟩

theorem un_results {fn : Func} {s : ASt} : resultsA P fn (s.un F) = resultsA P fn s := by
  unfold resultsA
  congr 1
  funext r
  cases r with
  | tmp t => rfl
  | cell a t =>
    have e : ∀ x : Value, (match x with | .pointer (some ⟨b, off, none⟩) => loadA P (s.h.un F) t b off | _ => none) = (match x with | .pointer (some ⟨b, off, none⟩) => loadA P s.h t b off | _ => none) := by
      intro x
      split
      · exact un_load
      · rfl
    exact e (s.t a)

theorem un_callee {o : Oper} {s : ASt} : acallee P o (s.un F) = acallee P o s := by
  unfold acallee
  simp only [un_ev]

theorem big_un (F : Nat → Bool) {dr : Array Oper → (Nat → Bool) → (Nat → Bool) → Prop} {j : J} (hb : Big P dr j) : Big P dr (j.un F) := by
  induction hb with
  | skip => exact .skip
  | label => exact .label
  | exit => exact .exit
  | ret => exact .ret
  | region h1 _ ih => exact .region h1 ih
  | draw h1 h2 _ ih => exact .draw h1 h2 ih
  | seq_n _ _ ih1 ih2 => exact .seq_n ih1 ih2
  | seq_x _ h ih => exact .seq_x ih h
  | cond_t h1 h2 _ ih => exact .cond_t (by rw [un_ev]; exact h1) h2 ih
  | cond_f h1 h2 _ ih => exact .cond_f (by rw [un_ev]; exact h1) h2 ih
  | block_n _ h ih => exact .block_n ih h
  | block_x _ ih => exact .block_x ih
  | loop_n _ _ ih1 ih2 => exact .loop_n ih1 ih2
  | loop_x _ h ih => exact .loop_x ih h
  | scope _ ih => exact .scope ih
  | nil => exact .nil
  | op h1 h2 ha h3 h4 h5 _ ih =>
    refine .op h1 h2 (un_aop ha) (fun hm => un_quiet (h3 hm)) h4 (fun b hb => un_same (h5 b hb)) ?_
    rw [← un_put]
    exact ih
  | oplazy h1 h2 h3 h4 h5 h6 h7 _ ih =>
    obtain ⟨ro', e⟩ := un_cells (F := F) h5
    refine .oplazy h1 h2 h3 (by rw [un_ev]; exact h4) e (un_aop h6) h7 ?_
    have := ih
    simp only [J.un, un_put] at this
    exact this
  | opcall h1 h2 h3 _ h4 h5 h6 _ ih1 ih2 =>
    refine .opcall h1 h2 (by rw [un_callee]; exact h3) ih1 (fun hm => un_old (h4 hm)) h5 (fun b hb => un_same (h6 b hb)) ?_
    rw [← un_put]
    exact ih2
  | opskip h1 h2 _ ih =>
    refine .opskip h1 h2 ?_
    have := ih
    simp only [J.un, un_put] at this
    exact this
  | call h1 h2 _ h3 h4 ih => exact .call h1 h2 ih h3 (by rw [un_results]; exact h4)

/-! ### 3. Functions that write to objects of their own alone -/
def roE (y : Ent) : Ent := ⟨y.sz, true, y.c⟩
def roO (O : Objs) : Objs := O.map fun p => (p.1, roE p.2)
def mkro : AObj → AObj
  | .dead => .dead
  | .cells sz _ f st k c => .cells sz true f st k c
def AHeap.ro (h : AHeap) : AHeap := { n := h.n, o := fun b => mkro (h.o b) }
def wasOwn (h : AHeap) (b : Nat) : Bool := match h.o b with
  | .cells _ false _ _ _ _ => true
  | _ => false

theorem ro_un (h : AHeap) : h.ro.un (wasOwn h) = h := by
  obtain ⟨n, o⟩ := h
  unfold AHeap.un AHeap.ro wasOwn
  simp only [AHeap.mk.injEq, true_and]
  funext b
  cases o b with
  | dead => rfl
  | cells sz ro f st k c => cases ro <;> rfl

theorem mkro_inv {x : AObj} {sz ro f st k c} (h : mkro x = .cells sz ro f st k c) : ∃ ro', x = .cells sz ro' f st k c := by
  cases x with
  | dead => cases h
  | cells sz1 ro1 f1 st1 k1 c1 =>
    injection h with e1 e2 e3 e4 e5 e6
    subst e1 e3 e4 e5 e6
    exact ⟨ro1, rfl⟩

theorem WF.roh (hw : WF h) : WF h.ro := by
  refine ⟨fun b sz ro f m k c ho => ?_, fun b sz ro f st k c ho => ?_, fun y z f sz1 ro1 st1 k1 c1 sz2 ro2 k2 c2 o1 o2 => ?_, fun b hb => ?_⟩
  · obtain ⟨ro', e⟩ := mkro_inv ho
    obtain ⟨q1, a1, a2, a3, a4, a5, q2⟩ := hw.wf b _ _ _ _ _ _ e
    exact ⟨q1, a1, true, a3, a4, a5, by show mkro (h.o m) = _; rw [q2]; rfl⟩
  · obtain ⟨ro', e⟩ := mkro_inv ho
    exact hw.fam b _ _ _ _ _ _ e
  · obtain ⟨r1, e1⟩ := mkro_inv o1
    obtain ⟨r2, e2⟩ := mkro_inv o2
    exact hw.uniq y z _ _ _ _ _ _ _ _ _ _ e1 e2
  · show mkro (h.o b) = _
    rw [hw.out b hb]; rfl

theorem un_inv {b sz ro f st k c} (ho : (h.un F).o b = .cells sz ro f st k c) : ∃ ro', h.o b = .cells sz ro' f st k c := by
  cases hx : h.o b with
  | dead => rw [un_dead hx] at ho; cases ho
  | cells sz1 ro1 f1 st1 k1 c1 =>
    obtain ⟨ro', e⟩ := un_cells (F := F) hx
    rw [e] at ho
    injection ho with e1 e2 e3 e4 e5 e6
    subst e1 e3 e4 e5 e6
    exact ⟨ro1, rfl⟩

theorem WF.un (hw : WF h) (F : Nat → Bool) : WF (h.un F) := by
  refine ⟨fun b sz ro f m k c ho => ?_, fun b sz ro f st k c ho => ?_, fun y z f sz1 ro1 st1 k1 c1 sz2 ro2 k2 c2 o1 o2 => ?_, fun b hb => un_dead (hw.out b hb)⟩
  · obtain ⟨ro', e⟩ := un_inv ho
    obtain ⟨q1, a1, a2, a3, a4, a5, q2⟩ := hw.wf b _ _ _ _ _ _ e
    obtain ⟨r, q3⟩ := un_cells (F := F) q2
    exact ⟨q1, a1, r, a3, a4, a5, q3⟩
  · obtain ⟨ro', e⟩ := un_inv ho
    exact hw.fam b _ _ _ _ _ _ e
  · obtain ⟨r1, e1⟩ := un_inv o1
    obtain ⟨r2, e2⟩ := un_inv o2
    exact hw.uniq y z _ _ _ _ _ _ _ _ _ _ e1 e2

theorem ro_keys (O : Objs) : (roO O).map (·.1) = O.map (·.1) := by unfold roO; rw [List.map_map]; rfl

theorem Sat.roh {O : Objs} (hs : Sat h O) : Sat h.ro (roO O) := by
  refine ⟨by rw [ro_keys]; exact hs.nd, fun p hp => ?_, hs.wf.roh⟩
  obtain ⟨q, hq, rfl⟩ := List.mem_map.1 hp
  obtain ⟨f, k, e⟩ := hs.is q hq
  exact ⟨f, k, by show mkro (h.o q.1) = _; rw [e]; rfl⟩

def ownIn (O : Objs) (b : Nat) : Bool := O.any fun p => Nat.beq p.1 b && !p.2.ro

theorem Sat.unO {O : Objs} (hs : Sat h (roO O)) : Sat (h.un (ownIn O)) O := by
  have hnd : (O.map (·.1)).Nodup := by rw [← ro_keys]; exact hs.nd
  refine ⟨hnd, fun p hp => ?_, hs.wf.un _⟩
  obtain ⟨f, k, e⟩ := hs.is (p.1, roE p.2) (List.mem_map.2 ⟨p, hp, rfl⟩)
  refine ⟨f, k, ?_⟩
  have e' : h.o p.1 = .cells p.2.sz true f none k p.2.c := e
  show (bif ownIn O p.1 then unro (h.o p.1) else h.o p.1) = _
  rw [e']
  cases hro : p.2.ro with
  | false =>
    have : ownIn O p.1 = true := List.any_eq_true.2 ⟨p, hp, by rw [hro]; simp⟩
    rw [this]; rfl
  | true =>
    have : ownIn O p.1 = false := by
      rw [Bool.eq_false_iff]
      intro ht
      obtain ⟨q, hq, hb⟩ := List.any_eq_true.1 ht
      simp only [Bool.and_eq_true, Bool.not_eq_true'] at hb
      have e1 := Nat.eq_of_beq_eq_true hb.1
      obtain ⟨i, hi⟩ := List.getElem?_of_mem hq
      obtain ⟨j, hj⟩ := List.getElem?_of_mem hp
      have := inj_of_nodup hnd hi hj e1
      subst this
      rw [hi] at hj
      obtain rfl := Option.some.inj hj
      rw [hro] at hb
      cases hb.2
    rw [this]; rfl

theorem Src.roh {O : Objs} {sz n : Nat} {v : Value} {cs : List Value} (hs : Src O sz v n cs) : Src (roO O) sz v n cs := fun h hh => by
  have := hs _ hh.unO
  rw [un_src] at this
  exact this

/-- A function that is told of all that came in as of things that it cannot write. -/
theorem Spec.frame {f : FuncId} {args : Array Value} {O : Objs} {Post : Value → Objs → Prop}
    (hf : Spec P false f args (roO O) fun v O' => ∃ N, Post v N ∧ (∀ p ∈ N, p.2.ro = false) ∧ O' = N ++ roO O) : Spec P true f args O fun v O' => ∃ N, Post v N ∧ O' = N ++ O := by
  intro g hg
  obtain ⟨v, h', O', b1, ⟨N, p1, p2, rfl⟩, s', _⟩ := hf g.ro hg.roh
  have st : Stay g.ro h' := stayJ b1
  have b2 : Big P drv (.call f args g v (h'.un (wasOwn g))) := by
    have := big_un (wasOwn g) b1
    simp only [J.un, ro_un] at this
    exact this
  have hold : ∀ b, b < g.n → h'.o b = g.ro.o b := fun b hb => st.2 b hb (by
    show isRo (mkro (g.o b)) = true
    cases g.o b <;> rfl)
  have hold2 : ∀ b, b < g.n → (h'.un (wasOwn g)).o b = g.o b := fun b hb => by
    have e := un_same (F := wasOwn g) (hold b hb)
    rw [ro_un] at e
    exact e
  refine ⟨v, h'.un (wasOwn g), N ++ O, b2, ⟨N, p1, rfl⟩, ⟨?_, fun p hp => ?_, s'.wf.un _⟩, fun _ => ⟨st.1, hold2⟩⟩
  · have := s'.nd
    rw [List.map_append, ro_keys] at this
    rw [List.map_append]
    exact this
  · rcases List.mem_append.1 hp with hp | hp
    · obtain ⟨f0, k, e⟩ := s'.is p (List.mem_append_left _ hp)
      rw [p2 p hp] at e
      exact ⟨f0, k, by rw [p2 p hp]; exact un_own e⟩
    · obtain ⟨f0, k, e⟩ := hg.is p hp
      exact ⟨f0, k, by rw [hold2 p.1 (hg.lt hp)]; exact e⟩

theorem Grow.own {sz : Nat} {a : Option Addr} {n c : Nat} {cs : List Value} {G : Objs} (hg : Grow sz a n c cs G) : ∀ p ∈ G, p.2.ro = false := by
  rcases hg with ⟨_, _, _, _, rfl⟩ | ⟨b, _, rfl, _⟩
  · intro p hp; simp at hp
  · intro p hp
    rw [List.mem_singleton] at hp
    subst hp; rfl

end Go.Proofs.Ytjmklialkjncaaa.Eng
